/- texts of one claim, one behind the other. -/
import Derived.Test.YtlhhccmopfamhaaGreatDoorVAbsZ
import Derived.Test.YtlhhccmopfamhaaGreatDoorVFen
import Derived.ChangeArms
import Derived.Deep.Slices
import Derived.KernelRfl
import Derived.SizedLaws
import Derived.Test.YtlhhccmopfamhaaGreatDoorProg
import Derived.Test.YtlhhccmopfamhaaGreatDoorRows
import Derived.WalkKit
import Derived.ProofKit
import Derived.OpenShut
import Derived.RangeFuncNested
import Derived.RangeFuncBound
import Derived.RangeFuncCalls
import Derived.RangeFuncLeaves
import Derived.Shelf.Abstract
import Derived.Shelf.RegionOpen
import Derived.OwnWalkIn
import Derived.TacticsInMore
import Derived.LoopNIn
import Derived.LoopIn
import Derived.Maps.AppendAt
import Derived.Lib.SlicesCompact
set_option linter.unusedSimpArgs false
set_option linter.unusedVariables false
set_option maxRecDepth 100000
set_option maxHeartbeats 16000000
open Bool renaming and_true -> afe, true_and -> afi, and_eq_true -> aeW, or_eq_true -> afa, not_eq_true' -> afo, false_eq_true -> afq
open List renaming length_eq_zero_iff -> aff, mem_of_getElem? -> aeG, getElem?_map -> aeu, getElem?_eq_getElem -> aes, mem_cons_self -> afg, mem_cons_of_mem -> aeX, length_append -> aem, exists_cons_of_ne_nil -> afh, findIdx?_eq_some_iff_getElem -> afj, findIdx?_eq_none_iff -> afk, getElem?_eq_some_iff -> aek, getElem?_toArray -> aet, getElem?_inj -> afl, all_eq_true -> ae7, getElem_mem -> afm, getElem?_append_right -> aeA, mem_range -> ae8, size_toArray -> ae9, getElem?_of_mem -> aey, filter_cons -> afp, getElem?_drop -> aeZ, getElem?_cons_zero -> afr, getElem?_cons_succ -> afs, getD_eq_getElem?_getD -> aeS
open Array renaming getElem?_eq_some_iff -> aeh, getD_eq_getD_getElem? -> ae3
open Nat renaming le_refl -> aed, lt_or_ge -> aei, eq_zero_or_pos -> afn
namespace Go.Proofs.YtlhhccmopfamhaaGreatDoor
open Go.RowKit
open Go.Proofs.Tryz
section
def encS(s:ByteArray):C5:=[.v (.string s)]
def encI(n:Int):C5:=[.v (.int .i64 n)]
def O4(x:zO):C5:=[.v (.int .i64 x.kind),.v (.string x.name),.v (.string x.key),.v (.int .i64 x.val.kind),.v (.int .i64 x.val.num),.v (.string x.val.text)]
def Tu(x:Hk):C5:=[.v (.int .i64 x.kind),.v (.int .i64 x.num),.v (.string x.text)]
def Tq(x:JF):C5:=[.v (.int .i64 x.op),.v (.int .i64 x.left.kind),.v (.string x.left.name),.v (.string x.left.key),.v (.int .i64 x.left.val.kind),.v (.int .i64 x.left.val.num),.v (.string x.left.val.text),
 .v (.int .i64 x.right.kind),.v (.string x.right.name),.v (.string x.right.key),.v (.int .i64 x.right.val.kind),.v (.int .i64 x.right.val.num),.v (.string x.right.val.text)]
mutual
def aP:Ex->C5
 | .mk k s l=>[.v (.int .i64 k),.v (.string s),.aA 3 (Kb l) l.length]
def Kb:IO->List C5
 | []=>[]
 |x::xs=>aP x::Kb xs
end
theorem sV:∀l:IO,Kb l=l.map aP
 | []=>rfl
 |x::xs=>by rw[Kb,sV xs,List.map_cons]
theorem aB(x:Ex):aP x=[.v (.int .i64 x.kind),.v (.string x.label),.aA 3 (x.kids.map aP) x.kids.length]:=by
 obtain⟨k,s,l⟩:=x;rw[aP,sV];rfl
def O5(p:qV):C5:=[.v (.string p.bN),.v (.string p.to),.v (.bool p.path),.v (.string p.label),.v (.string p.name),.v (.int .i64 p.expr.kind),.v (.string p.expr.label),.aA 3 (p.expr.kids.map aP) p.expr.kids.length]
def Wm(q:Ll):C5:=[.aA 8 (q.wJ.map O5) q.wJ.length,.aA 13 (q.conds.map Tq) q.conds.length,.aA 6 (q.ret.map O4) q.ret.length,.v (.int .i64 q.range),.v (.int .i64 q.Rl)]
def bZ(l:B0):AV:= .aA 1 (l.map encS) l.length
def Y7(l:M2):AV:= .aA 1 (l.map encI) l.length
theorem bz(n:Nat)(l:B0):bE n (l.map encS)=true:=bt _ (λ_=>rfl) l
theorem U6(n:Nat)(l:M2):bE n (l.map encI)=true:=bt _ (λ_=>rfl) l
theorem K6(n:Nat)(l:List zO):bE n (l.map O4)=true:=bt _ (λ_=>rfl) l
theorem K5(n:Nat)(l:List JF):bE n (l.map Tq)=true:=bt _ (λ_=>rfl) l
theorem fp(n:Nat)(x:Ex):aQ n (aP x)=true:=by
 induction x using Ex.ind with
 |h k s l ih=>
  rw[aP,sV];simp only[aQ,AV.wf,afe,Bool.true_and]
  grind[DW]
theorem bI(n:Nat)(l:IO):bE n (l.map aP)=true:=bt _ (fp n) l
theorem GM(n:Nat)(p:qV):aQ n (O5 p)=true:=by simp only[O5,aQ,AV.wf,bI,afe]
theorem K7(n:Nat)(l:PP):bE n (l.map O5)=true:=bt _ (GM n) l
theorem U7(n:Nat)(q:Ll):aQ n (Wm q)=true:=by simp only[Wm,aQ,AV.wf,K7,K5,K6,afe]
attribute [go_sem] bZ Y7 encS encI O4 Tu Tq O5 Wm bz U6 K6 K5 fp bI GM K7 U7
@[go_sem] theorem getD_map{α β:Type}(f:α->β)(l:List α)(k:Nat)(d:β)(h:k<l.length):(l.map f).getD k d=f l[k]:=by
 grind
section
variable {D:Nat->Prop} {nu:EQ} {o:AC} {w:World} {P:Program}
theorem xX{b:Nat}:∀{cs:Id}{off:Nat},(∀(j:Nat)v,cs[j]?=some v->w.cell? ⟨b,off+j,none⟩=some v)->ff w b off cs
 | [],_,_=>trivial
 |y::cs,off,h=>⟨by simpa using h 0 y rfl,xX (off:=off+1) (λj v q=>by rw[show off+1+j=off+(j+1) by omega];simp_all)⟩
def XG(D:Nat->Prop)(nu:EQ)(o:AC)(w:World)(cs:C5)(xs:Id):Prop:=cs.length=xs.length∧∀(j:Nat)c x,cs[j]?=some c->xs[j]?=some x->RA D nu o w c x
theorem RA.Zt{α:Type}{z:Nat}{enc:α->C5}{rd:α->Id->Prop}{xs:List α}{v:Value}(h:RA D nu o w (.aA z (xs.map enc) xs.length) v)(q:∀x,x∈xs->∀cs:Id,XG D nu o w (enc x) cs->rd x cs):jX w z rd xs v:=by
 generalize hn:xs.length=n at h;generalize O:xs.map enc=rows at h
 cases h with
 |b6=>
  exact .inl ⟨.inl rfl,aff.1 hn⟩
 |cp _ a=>
  exact .inl ⟨.inr ⟨a,rfl⟩,aff.1 hn⟩
 |aA _ _ _ b off cap f h1 A U h4 h5 h6 h7 Y=>
  subst O;simp only[List.length_map]at A;refine .inr ⟨b,off,cap,by rw[hn],A,U,λi x H=>?_⟩
  have hi:(xs.map enc)[i]?=some (enc x):=by grind
  refine⟨(List.range (enc x).length).map (f i),q x (aeG H) _ ⟨zk,λj c y W u=>?_⟩,xX (λj y u=>?_)⟩
  ·grind
  ·rw[aeu]at u
   have V:j<(enc x).length:=by
    grind
   simp_all
theorem Q1{vs cs:Id}(h:XG D nu o w (vs.map AV.v) cs):cs=vs:=by
 apply List.ext_getElem?
 intro i;have hl:=h.1;simp only[List.length_map]at hl
 rcases Nat.lt_or_ge i vs.length with q|q
 ·have A:(vs.map AV.v)[i]?=some (.v vs[i]):=by simp[q]
  have u:cs[i]?=some cs[i]:=aes zd
  have:=(h.2 i _ _ A u).di
  grind
 grind
theorem DG:∀(x:Ex)(cs:Id),XG D nu o w (aP x) cs->iv w x cs:=by
 intro x
 induction x using Ex.ind with
 |h k s l ih=>
  intro cs h;rw[aP,sV]at h;obtain⟨hl,q⟩:=h
  match cs,hl with
  | [a,b,c],_=>
   have H:=(q 0 _ a rfl rfl).di;have A:=(q 1 _ b rfl rfl).di;have u:=q 2 _ c rfl rfl
   grind[iv,jN,RA.Zt]
theorem Dz{cs:C5}{v:Value}(h:RA D nu o w (.agg cs) v):∃xs:Id,v=.agg xs.toArray∧XG D nu o w cs xs:=by
 cases h with
 |agg _ xs O u H=>exact⟨xs.toList,zk,zd,λj c x q A=>u j c x q (by grind)⟩
theorem RA.Ql{α:Type}{z:Nat}(hz:0<z){enc:α->C5}{rd:α->Id->Prop}{xs:List α}{v:Value}(hD:∀b off n c,v=.slice (some ⟨b,off,none⟩) n c->b<w.heap.size->D b)(h:jX w z rd xs v)(hlen:∀x,(enc x).length=z)
  (U:∀x,x∈xs->∀cs:Id,rd x cs->XG D nu [] w (enc x) cs∧∀y∈cs,y.oneCell'=true):RA D nu [] w (.aA z (xs.map enc) xs.length) v:=by
 rcases h with⟨rfl|⟨a,rfl⟩,rfl⟩|⟨b,off,cap,rfl,h1,h2,h3⟩
 ·exact .b6 z
 ·exact .cp z a
 ·have hex:∀i:Nat,∃cs:Id,∀x,xs[i]?=some x->rd x cs∧ff w b (off+i*z) cs:=λi=>by
   cases A:xs[i]? with
   |none=>simp_all
   |some x=>
    simp_all
  let g:Nat->Id:=λi=>Classical.choose (hex i)
  have hg:∀i x,xs[i]?=some x->rd x (g i)∧ff w b (off+i*z) (g i):=λi x A=>Classical.choose_spec (hex i) x A
  have key:∀(i j:Nat)row c,(xs.map enc)[i]?=some row->row[j]?=some c->∃y,(g i)[j]?=some y∧w.cell? ⟨b,off+i*z+j,none⟩=some y∧RA D nu [] w c y∧y.oneCell'=true:=by
   intro i j row c hi O;rw[aeu]at hi
   cases A:xs[i]? with
   |none=>grind
   |some x=>
    rw[A]at hi;cases hi;obtain⟨q1,q2⟩:=hg i x A;obtain⟨W,Y⟩:=U x (aeG A) _ q1
    have V:j<(g i).length:=by rw[<-W.1];grind
    have e:=aes V;exact⟨_,e,mg q2 j _ e,W.2 j c _ O e,Y _ (aeG e)⟩
  refine .aA z _ _ b off cap (λi j=>(g i).getD j Go.undef) zk (by grind) h2 (λhne=>?_) (λi row hi=>?_) (λi j row c hi O=>?_) (λi j row c hi O=>?_) (λi j row c hi O=>?_)
  ·obtain⟨x,u,rfl⟩:∃x u,xs=x::u:=by
    cases xs with
    |nil=>grind
    |cons x u=>grind
   obtain⟨c,hc⟩:∃c,(enc x)[0]?=some c:=⟨_,aes (by grind)⟩;obtain⟨y,_,q,_⟩:=key 0 0 (enc x) c zk hc;have H:=ou q;exact⟨H,br _ _,hD _ _ _ _ rfl H⟩
  ·grind
  ·grind
  ·grind
  grind
theorem Gc(vs:Id):XG D nu o w (vs.map AV.v) vs:=⟨zk,λj c x q u=>by
 rw[aeu,u]at q;cases q;exact .v x⟩
theorem Rw{l:B0}{v:Value}(u:∀b off n c,v=.slice (some ⟨b,off,none⟩) n c->D b)(h:rq w l v):RA D nu [] w (bZ l) v:=
 RA.Ql zd (λb off n c e _=>u b off n c e) h (λ_=>rfl) (λx _ cs q=>by subst q;exact⟨Gc [.string x],by simp[Value.oneCell']⟩)
theorem Ty{D:Nat->Prop}{nu:EQ}{w:World}{v:Value}(q:RO D nu [] w){e:Ending}{w':World}(h:Hh w v e w'):N0 D nu [] w (λA o'=>A = .v v∧o'=[]) e w':=by
 obtain⟨rfl,u⟩:=h;exact⟨v,nu,[],.v v,rfl,aH u,q.below u,.v v,rfl,rfl⟩
theorem aj.vg{f:FuncId}{args:C5}{v:Value}(H:fQ P f=true)(O:aQ 0 args=true)(h:∀D nu w vargs,gy D nu [] w args vargs->Calls P f vargs w (Hh w v)):aj P f args (.v v):=
 ⟨⟨O,rfl⟩,H,λD nu w vargs q u=>(h D nu w vargs u).mono (λe w' A=>Ty q A)⟩
theorem aj.Kz{f:FuncId}{args:C5}{l:B0}(O:fQ P f=true)(U:aQ 0 args=true)
  (h:∀D nu w vargs,gy D nu [] w args vargs->Calls P f vargs w (λe w'=>∃v,e=.returned v∧rq w' l v∧Below w.heap.size w w'∧∀b off n c,v=.slice (some ⟨b,off,none⟩) n c->w.heap.size<=b)):aj P f args (bZ l):=
 ⟨⟨U,by grind[bZ,AV.wf,bz]⟩,O,λD nu w vargs q u=>(h D nu w vargs u).mono (λe w' H=>by
  obtain⟨v,rfl,W,A,V⟩:=H
  exact⟨v,nu,[],bZ l,rfl,aH A,q.below A,Rw (λb off n c e=>q.up b (V b off n c e)) W,rfl,rfl⟩)⟩
theorem aj.args{f:FuncId}{args args':C5}{r:AV}(h:aj P f args r)(A:aQ 0 args'=true)(hl:∀D nu w vargs,gy D nu [] w args' vargs->gy D nu [] w args vargs):aj P f args' r:=
 ⟨⟨A,h.1.2⟩,h.2.1,λD nu w vargs q u=>h.2.2 D nu w vargs q (hl D nu w vargs u)⟩
theorem ic{a:AV}{vargs:Array Value}(h:gy D nu o w [a] vargs):∃x,vargs = #[x]∧RA D nu o w a x:=by
 obtain⟨x,q⟩:=List.length_eq_one_iff.1 (by simpa using h.len.symm:vargs.toList.length=1)
 have e:vargs = #[x]:=by grind
 subst e;exact⟨x,rfl,h.at' 0 a x rfl rfl⟩
theorem UF{a b:AV}{vargs:Array Value}(h:gy D nu o w [a,b] vargs):∃x y,vargs = #[x,y]∧RA D nu o w a x∧RA D nu o w b y:=by
 have hl:vargs.toList.length=2:=by simpa using h.len.symm
 match q:vargs.toList,hl with
 | [x,y],_=>
  have e:vargs = #[x,y]:=by grind
  subst e;exact⟨x,y,rfl,h.at' 0 a x rfl rfl,h.at' 1 b y rfl rfl⟩
end
open Go.RowKit Go.ChangeShapes Go.Deep
def ad8(P:Program)(t:TypeId):Option (List (TypeId×Nat×Nat)):=match P.underlying t with
 |some (.struct fs)=>some (fs.toList.map λf=>(f.type,f.offset,P.cellsOf f.type))
 |_=>none
section
variable {H:Type} {enc:TypeId×Value->H} {P:Program} {w:World}
def Td(enc:TypeId×Value->H)(P:Program)(w:World)(n:Nat)(t:TypeId)(cs:Id):Prop:=∃y,DataW.trod enc P w 0 (λ_=>true) true n t cs=some y∧∀k∈y.1.weights P t,k<=reachBytes
end
section
variable {H:Type} {enc:TypeId×Value->H} {w:World}
instance:Inhabited Ex:=⟨.mk 0 ⟨#[]⟩ []⟩
instance:Inhabited zO:=⟨⟨0,⟨#[]⟩,⟨#[]⟩,⟨0,0,⟨#[]⟩⟩⟩⟩
instance:Inhabited JF:=⟨⟨0,default,default⟩⟩
instance:Inhabited qV:=⟨⟨⟨#[]⟩,⟨#[]⟩,false,⟨#[]⟩,⟨#[]⟩,default⟩⟩
end
open Go.ChangeShapes Go.WideShapes Go.ChangeAt Go.RowKit
theorem aj.Xo{P:Program}{f:FuncId}{args:C5}{v:Value}(h:aj P f args (.v v)){w:World}{vargs:Array Value}(A:gy (λ_=>True) (λ_ _=>Go.undef) [] w args vargs)(V:gD (λ_=>True) (λ_ _=>Go.undef) [] w:=by exactλg T cs H=>by cases H) :
  Calls P f vargs w (Hh w v):=by
 refine(h.2.2 _ _ w vargs (RO.nil _ _ _ (λ_ _=>trivial) V) A).mono λe w' O=>?_;obtain⟨x,nu',o',r,rfl,q,_,u,rfl,rfl⟩:=O;have W:=u.di;subst W;exact⟨rfl,q.os,q.tape,q.output,q.size,λb U=>(q.keep b U (br _ _)).1⟩
section
variable {H:Type} {enc:TypeId×Value->H} {w:World}
end
open Go.ChangeShapes Go.WideShapes Go.ChangeAt Go.RowKit
section
variable {H:Type} {enc:TypeId×Value->H} {w:World}
end
inductive dT(L:B0->Prop):B0->Prop
 |nil:dT L []
 |cons (u v:B0):u≠[]->L u->dT L v->dT L (u++v)
theorem dT.append{L:B0->Prop}{u v:B0}(h:dT L u)(k:dT L v):dT L (u++v):=by
 induction h with
 |nil=>exact k
 |cons a b A q _ ih=>rw[List.append_assoc];exact .cons a _ A q ih
theorem dT.one{L:B0->Prop}{u:B0}(h:L u):dT L u:=by
 by_cases q:u=[]
 ·subst q;exact .nil
 ·have:=dT.cons u [] q h .nil
  grind
theorem dT.inv{L:B0->Prop}{w:B0}(h:dT L w):w=[]∨∃u v,w=u++v∧u≠[]∧L u∧dT L v:=by
 cases h with
 |nil=>grind
 |cons a b H A q=>grind
mutual
def Lg:Ex->B0->Prop
 | .mk k s l,w=>if k=1 then w=[s]else if k=2 then dN l w else if k=3 then jV l w else if k=4 then dT (xy l) w
  else if k=5 then ∃u v,w=u++v∧xy l u∧dT (xy l) v else if k=6 then w=[]∨xy l w else False
def dN:IO->B0->Prop
 | [],w=>w=[]
 |x::xs,w=>∃u v,w=u++v∧Lg x u∧dN xs v
def jV:IO->B0->Prop
 | [],_=>False
 |x::xs,w=>Lg x w∨jV xs w
def xy:IO->B0->Prop
 | [],_=>False
 |x::_,w=>Lg x w
end
theorem uu:∀{l:IO}{w:B0},jV l w ↔ ∃x∈l,Lg x w
 | [],w=>by simp[jV]
 |x::xs,w=>by simp[jV,uu (l:=xs)]
mutual
def aS:Ex->Bool
 | .mk k _ l=>if k=4 then true else if k=6 then true else if k=3 then wZ l else if k=2 then dz l else if k=5 then dz l else false
def wZ:IO->Bool
 | []=>false
 |x::xs=>aS x||wZ xs
def dz:IO->Bool
 | []=>true
 |x::xs=>aS x&&dz xs
end
theorem rK:∀l:IO,wZ l=l.any aS
 | []=>rfl
 |x::xs=>by rw[wZ,rK xs];rfl
theorem nT:∀l:IO,dz l=l.all aS
 | []=>rfl
 |x::xs=>by rw[dz,nT xs];rfl
theorem qj:∀{l:IO},dN l [] ↔ ∀x∈l,Lg x []
 | []=>by simp[dN]
 |x::xs=>by
  rw[dN]
  constructor
  ·rintro⟨u,v,h,H,A⟩;obtain⟨rfl,rfl⟩:=List.append_eq_nil_iff.1 h.symm;intro y q
   rcases List.mem_cons.1 q with rfl|q
   ·exact H
   ·exact qj.1 A y q
  ·intro h;exact⟨[],[],rfl,h x afg,qj.2 (λy q=>h y (aeX _ q))⟩
inductive Fit:Ex->Prop
 |lab (s:ByteArray):Fit (.mk 1 s [])
 |many (k:Int) (s:ByteArray) (l:IO):(k=2∨k=3)->1<l.length->(∀x∈l,Fit x)->Fit (.mk k s l)
 |one (k:Int) (s:ByteArray) (x:Ex):(k=4∨k=5∨k=6)->Fit x->Fit (.mk k s [x])
theorem iJ{x:Ex}(h:Fit x):aS x=true↔Lg x []:=by
 induction h with
 |lab s=>simp[aS,Lg]
 |many k s l q hl _ ih=>
  rcases q with rfl|rfl
  ·simp only[aS,Lg,nT,qj,Int.reduceEq,if_false,if_true]
   grind
  ·simp only[aS,Lg,rK,uu,List.any_eq_true,Int.reduceEq,if_false,if_true]
   grind
 |one k s x q _ ih=>
  rcases q with rfl|rfl|rfl
  ·simp[aS,Lg,dT.nil]
  ·simp only[aS,Lg,dz,xy,Int.reduceEq,if_false,if_true,afe];rw[ih]
   constructor
   ·intro h;exact⟨[],[],rfl,h,.nil⟩
   simp_all
  ·simp[aS,Lg]
def GV(w:B0)(i j:Nat):B0:=(w.drop i).take (j-i)
theorem OE(w:B0)(i:Nat):GV w i i=[]:=by simp[GV]
theorem J7{w:B0}{i j k:Nat}(u:i<=j)(q:j<=k):GV w i j++GV w j k=GV w i k:=by
 unfold GV
 have:k-i=(j-i)+(k-j):=zd
 rw[this,List.take_add,List.drop_drop,show i+(j-i)=j by omega]
theorem sI{w:B0}{i j:Nat}(h:j<=w.length):(GV w i j).length=j-i:=by
 grind[GV]
theorem OD{w u v:B0}{i k:Nat}(A:i<=k)(q:k<=w.length)(h:GV w i k=u++v):∃j,i<=j∧j<=k∧GV w i j=u∧GV w j k=v:=by
 have hl:=sI (i:=i) q;rw[h,aem]at hl;have e:=J7 (w:=w) (i:=i) (j:=i+u.length) (k:=k) zd zd
 grind[sI,List.append_inj]
def Tk(L:B0->Prop)(w:B0)(i j:Nat):Prop:=i<=j∧j<=w.length∧L (GV w i j)
theorem uv:∀{l m:IO}{w:B0},dN (l++m) w ↔ ∃u v,w=u++v∧dN l u∧dN m v
 | [],m,w=>by
  constructor
  ·intro h;exact⟨[],w,rfl,by rw[dN],h⟩
  ·rintro⟨u,v,rfl,h,k⟩
   grind[dN]
 |x::l,m,w=>by
  rw[List.cons_append,dN]
  constructor
  ·rintro⟨u,v,rfl,A,q⟩;obtain⟨a,b,rfl,O,H⟩:=uv.1 q;exact⟨u++a,b,zk,by rw[dN];exact⟨u,a,rfl,A,O⟩,H⟩
  ·rintro⟨u,v,rfl,h,k⟩;rw[dN]at h;obtain⟨a,b,rfl,A,q⟩:=h;exact⟨a,b++v,zk,A,uv.2 ⟨b,v,rfl,q,k⟩⟩
theorem Tk.word{L:B0->Prop}{w:B0}:Tk L w 0 w.length↔L w:=by
 simp[Tk,GV]
mutual
def aI:Ex->B0
 | .mk k s l=>if k=1 then [s]else aV l
def aV:IO->B0
 | []=>[]
 |x::xs=>aI x++aV xs
end
mutual
def mz:Ex->Nat->Nat->Prop
 | .mk k _ l,b,p=>if k=1 then p=b+1 else if k=2 then jx l b p else iW l b p
def jx:IO->Nat->Nat->Prop
 | [],_,_=>False
 |x::xs,b,p=>mz x b p∨(aS x=true∧jx xs (b+(aI x).length) p)
def iW:IO->Nat->Nat->Prop
 | [],_,_=>False
 |x::xs,b,p=>mz x b p∨iW xs (b+(aI x).length) p
end
mutual
def ln:Ex->Nat->Nat->Prop
 | .mk k _ l,b,p=>if k=1 then p=b+1 else if k=2 then lD l b p else iX l b p
def lD:IO->Nat->Nat->Prop
 | [],_,_=>False
 |x::xs,b,p=>(dz xs=true∧ln x b p)∨lD xs (b+(aI x).length) p
def iX:IO->Nat->Nat->Prop
 | [],_,_=>False
 |x::xs,b,p=>ln x b p∨iX xs (b+(aI x).length) p
end
mutual
def kO:Ex->Nat->Nat->Nat->Prop
 | .mk k _ l,b,p,q=>if k=1 then False else if k=2 then jw l b p q else jU l b p q∨((k=4∨k=5)∧iX l b p∧iW l b q)
def jw:IO->Nat->Nat->Nat->Prop
 | [],_,_,_=>False
 |x::xs,b,p,q=>kO x b p q∨jw xs (b+(aI x).length) p q∨(ln x b p∧jx xs (b+(aI x).length) q)
def jU:IO->Nat->Nat->Nat->Prop
 | [],_,_,_=>False
 |x::xs,b,p,q=>kO x b p q∨jU xs (b+(aI x).length) p q
end
theorem ur:∀{l:IO}{b p:Nat},jx l b p->iW l b p
 | [],_,_,h=>h
 |x::xs,b,p,h=>by
  rw[jx]at h;rw[iW];exact h.imp id (λh=>ur h.2)
theorem B5:∀{l:IO}{b p:Nat},lD l b p->iX l b p
 | [],_,_,h=>h
 |x::xs,b,p,h=>by
  rw[lD]at h;rw[iX];exact h.imp (λh=>h.2) B5
theorem dL{k:Int}(h:k≠1)(s:ByteArray)(l:IO):aI (.mk k s l)=aV l:=by rw[aI,if_neg h]
theorem jB(x:Ex):∀{b p:Nat},mz x b p->b<p∧p<=b+(aI x).length:=by
 induction x using Ex.ind with
 |h k s l ih=>
  intro b p h
  have key:∀(m:IO),(∀x∈m,x∈l)->∀{b p:Nat},iW m b p->b<p∧p<=b+(aV m).length:=by
   intro m
   induction m with
   |nil=>intro _ b p h;exact h.elim
   |cons x xs ihm=>
    grind[iW,aV,aem,afg,aeX]
  rw[mz]at h
  by_cases q:k=1
  ·rw[if_pos q]at h;rw[aI,if_pos q];simp;omega
  ·rw[if_neg q]at h;rw[dL q]
   split at h
   ·exact key l (λ_ h=>h) (ur h)
   ·exact key l (λ_ h=>h) h
theorem iq:∀{l:IO}{b p:Nat},iW l b p->b<p∧p<=b+(aV l).length
 | [],b,p,h=>h.elim
 |x::xs,b,p,h=>by
  rw[iW]at h;rw[aV,aem]
  rcases h with h|h
  ·have:=jB x h;omega
  ·have:=iq h;omega
theorem iF(x:Ex):∀{b p:Nat},ln x b p->b<p∧p<=b+(aI x).length:=by
 induction x using Ex.ind with
 |h k s l ih=>
  intro b p h
  have key:∀(m:IO),(∀x∈m,x∈l)->∀{b p:Nat},iX m b p->b<p∧p<=b+(aV m).length:=by
   intro m
   induction m with
   |nil=>intro _ b p h;exact h.elim
   |cons x xs ihm=>
    grind[iX,aV,aem,afg,aeX]
  rw[ln]at h
  by_cases q:k=1
  ·rw[if_pos q]at h;rw[aI,if_pos q];simp;omega
  ·rw[if_neg q]at h;rw[dL q]
   split at h
   ·exact key l (λ_ h=>h) (B5 h)
   ·exact key l (λ_ h=>h) h
theorem iu:∀{l:IO}{b p:Nat},iX l b p->b<p∧p<=b+(aV l).length
 | [],b,p,h=>h.elim
 |x::xs,b,p,h=>by
  rw[iX]at h;rw[aV,aem]
  rcases h with h|h
  ·have:=iF x h;omega
  ·have:=iu h;omega
theorem fM(x:Ex):∀{b p q:Nat},kO x b p q->(b<p∧p<=b+(aI x).length)∧b<q∧q<=b+(aI x).length:=by
 induction x using Ex.ind with
 |h k s l ih=>
  intro b p q h
  have key:∀(m:IO),(∀x∈m,x∈l)->∀{b p q:Nat},jU m b p q->(b<p∧p<=b+(aV m).length)∧b<q∧q<=b+(aV m).length:=by
   intro m
   induction m with
   |nil=>intro _ b p q h;exact h.elim
   |cons x xs ihm=>
    grind[jU,aV,aem,afg,aeX]
  have keyS:∀(m:IO),(∀x∈m,x∈l)->∀{b p q:Nat},jw m b p q->(b<p∧p<=b+(aV m).length)∧b<q∧q<=b+(aV m).length:=by
   intro m
   induction m with
   |nil=>intro _ b p q h;exact h.elim
   |cons x xs ihm=>
    grind[jw,aV,aem,afg,aeX,iF,iq,ur]
  rw[kO]at h
  by_cases u:k=1
  ·grind
  ·rw[if_neg u]at h;rw[dL u]
   split at h
   ·exact keyS l (λ_ h=>h) h
   ·rcases h with h|⟨_,h,A⟩
    ·exact key l (λ_ h=>h) h
    ·exact⟨iu h,iq A⟩
theorem rp:∀{l:IO}{b p q:Nat},jw l b p q->(b<p∧p<=b+(aV l).length)∧b<q∧q<=b+(aV l).length
 | [],b,p,q,h=>h.elim
 |x::xs,b,p,q,h=>by
  rw[jw]at h;rw[aV,aem]
  rcases h with h|h|⟨h,u⟩
  ·have:=fM x h;omega
  ·have:=rp h;omega
  ·have:=iF x h;have:=iq (ur u);omega
theorem rn:∀{l:IO}{b p q:Nat},jU l b p q->(b<p∧p<=b+(aV l).length)∧b<q∧q<=b+(aV l).length
 | [],b,p,q,h=>h.elim
 |x::xs,b,p,q,h=>by
  rw[jU]at h;rw[aV,aem]
  rcases h with h|h
  ·have:=fM x h;omega
  ·have:=rn h;omega
def bU(F:Nat->Nat->Prop)(g:Nat->ByteArray):Nat->B0->Nat->Prop
 |p,[],q=>p=q
 |p,a::w,q=>∃r,F p r∧g r=a∧bU F g r w q
theorem bU.imp{F G:Nat->Nat->Prop}{g:Nat->ByteArray}(h:∀p q,F p q->G p q):∀{w:B0}{p q:Nat},bU F g p w q->bU G g p w q
 | [],_,_,u=>u
 |_::_,_,_,⟨r,O,H,A⟩=>⟨r,h _ _ O,H,A.imp h⟩
theorem bU.app{F:Nat->Nat->Prop}{g:Nat->ByteArray}:∀{u v:B0}{p q:Nat},bU F g p (u++v) q ↔ ∃r,bU F g p u r∧bU F g r v q
 | [],v,p,q=>⟨λh=>⟨p,rfl,h⟩,λ⟨_,h,k⟩=>by cases h;exact k⟩
 |a::u,v,p,q=>by
  constructor
  ·rintro⟨r,U,O,V⟩;obtain⟨s,H,A⟩:=bU.app.1 V;exact⟨s,⟨r,U,O,H⟩,A⟩
  ·rintro⟨s,⟨r,U,O,H⟩,A⟩;exact⟨r,U,O,bU.app.2 ⟨s,H,A⟩⟩
def dy(I:Nat->Prop)(F:Nat->Nat->Prop)(T:Nat->Prop)(g:Nat->ByteArray):B0->Prop
 | []=>False
 |a::w=>∃p q,I p∧g p=a∧bU F g p w q∧T q
theorem bU.split{F G:Nat->Nat->Prop}{I T:Nat->Prop}{g:Nat->ByteArray}(O:∀p q,G p q->F p q∨(T p∧I q)):∀{w:B0}{p q:Nat},bU G g p w q ->
  bU F g p w q∨∃u a v r s,w=u++a::v∧bU F g p u r∧T r∧I s∧g s=a∧bU G g s v q
 | [],_,_,h=> .inl h
 |a::w,p,q,⟨r,h1,H,U⟩=>by
  rcases O p r h1 with h|⟨h,k⟩
  ·rcases bU.split O U with A|⟨u,b,v,V,s,rfl,A,h5,h6,Y,W⟩
   ·exact .inl ⟨r,h,H,A⟩
   ·exact .inr ⟨a::u,b,v,V,s,rfl,⟨r,h,H,A⟩,h5,h6,Y,W⟩
  ·exact .inr ⟨[],a,w,p,r,rfl,rfl,h,k,H,U⟩
theorem bU.stay{F G:Nat->Nat->Prop}{S:Nat->Prop}{g:Nat->ByteArray}(A:∀p q,S p->G p q->F p q∧S q):∀{w:B0}{p q:Nat},S p->bU G g p w q->bU F g p w q∧S q
 | [],_,_,u,h=>by cases h;exact⟨rfl,u⟩
 |a::w,p,q,u,⟨r,h1,Y,W⟩=>by
  obtain⟨V,U⟩:=A p r u h1;obtain⟨O,H⟩:=bU.stay A U W;exact⟨⟨r,V,Y,O⟩,H⟩
def qU(ls:B0)(b:Nat)(g:Nat->ByteArray):Prop:=∀(i:Nat)s,ls[i]?=some s->g (b+1+i)=s
theorem qU.left{l m:B0}{b:Nat}{g:Nat->ByteArray}(h:qU (l++m) b g):qU l b g:=λi s hi=>h i s (by grind)
theorem qU.right{l m:B0}{b:Nat}{g:Nat->ByteArray}(h:qU (l++m) b g):qU m (b+l.length) g:=λi s hi=>by
 have:=h (l.length+i) s (by grind)
 grind
theorem bU.Rq{F G:Nat->Nat->Prop}{I T S:Nat->Prop}{g:Nat->ByteArray}(V:∀p q,S p->G p q->(F p q∧S q)∨(T p∧I q)):∀{w:B0}{p q:Nat},S p->bU G g p w q ->
  (bU F g p w q∧S q)∨∃u a v r s,w=u++a::v∧bU F g p u r∧T r∧I s∧g s=a∧bU G g s v q
 | [],_,_,A,h=> .inl ⟨h,by cases h;exact A⟩
 |a::w,p,q,A,⟨r,h1,U,W⟩=>by
  rcases V p r A h1 with⟨h,k⟩|⟨h,k⟩
  ·rcases bU.Rq V k W with⟨O,H⟩|⟨u,b,v,Y,s,rfl,O,H,h6,h7,h8⟩
   ·exact .inl ⟨⟨r,h,U,O⟩,H⟩
   ·exact .inr ⟨a::u,b,v,Y,s,rfl,⟨r,h,U,O⟩,H,h6,h7,h8⟩
  ·exact .inr ⟨[],a,w,p,r,rfl,rfl,h,k,U,W⟩
theorem QA{x:Ex}{xs:IO}{b:Nat}{g:Nat->ByteArray}{w:B0}(hw:w≠[]) :
  dy (jx (x::xs) b) (jw (x::xs) b) (lD (x::xs) b) g w ↔
   (dy (mz x b) (kO x b) (ln x b) g w∧dz xs=true)∨(aS x=true∧dy (jx xs (b+(aI x).length)) (jw xs (b+(aI x).length)) (lD xs (b+(aI x).length)) g w) ∨
   ∃u v,w=u++v∧dy (mz x b) (kO x b) (ln x b) g u∧dy (jx xs (b+(aI x).length)) (jw xs (b+(aI x).length)) (lD xs (b+(aI x).length)) g v:=by
 obtain⟨a,w,rfl⟩:=afh hw;generalize V:b+(aI x).length=H
 have eS:∀p q,jw (x::xs) b p q↔kO x b p q∨jw xs H p q∨(ln x b p∧jx xs H q):=λp q=>by rw[jw,V]
 have eL:∀p,lD (x::xs) b p↔(dz xs=true∧ln x b p)∨lD xs H p:=λp=>by rw[lD,V]
 have eF:∀p,jx (x::xs) b p↔mz x b p∨(aS x=true∧jx xs H p):=λp=>by rw[jx,V]
 have inX:∀{p},mz x b p->p<=H:=λh=>by have:=jB x h;omega
 have inXs:∀{p},jx xs H p->H<p:=λh=>by have:=iq (ur h);omega
 have stayR:∀{w p q},H<p->bU (jw (x::xs) b) g p w q->bU (jw xs H) g p w q∧H<q:=λA h=>
  bU.stay (S:=λp=>H<p) (λp q A h=>by
   rcases(eS p q).1 h with h|h|⟨h,_⟩
   ·have:=fM x h;omega
   ·exact⟨h,by have:=rp h;omega⟩
   ·have:=iF x h;omega) A h
 have endR:∀{q},H<q->lD (x::xs) b q->lD xs H q:=λO h=>by
  rcases(eL _).1 h with⟨_,h⟩|h
  ·have:=iF x h;omega
  ·exact h
 constructor
 ·rintro⟨p,q,A,U,Y,O⟩
  rcases(eF p).1 A with A|⟨he,A⟩
  ·rcases bU.Rq (F:=kO x b) (I:=jx xs H) (T:=ln x b) (S:=λp=>p<=H) (λp q hs h=>by
    rcases(eS p q).1 h with h|h|h
    ·exact .inl ⟨h,by have:=fM x h;omega⟩
    ·have:=rp h;omega
    grind) (inX A) Y with⟨W,h2⟩|⟨u,c,v,r,s,rfl,W,h2,h3,h4,h5⟩
   ·left
    rcases(eL q).1 O with⟨h3,h4⟩|h
    ·exact⟨⟨p,q,A,U,W,h4⟩,h3⟩
    ·have:=iu (B5 h);omega
   ·right;right;obtain⟨h6,h7⟩:=stayR (inXs h3) h5;exact⟨a::u,c::v,rfl,⟨p,r,A,U,W,h2⟩,s,q,h3,h4,h6,endR h7 O⟩
  ·obtain⟨W,h2⟩:=stayR (inXs A) Y;exact .inr (.inl ⟨he,p,q,A,U,W,endR h2 O⟩)
 ·rintro(⟨⟨p,q,A,U,Y,O⟩,he⟩|⟨he,p,q,A,U,Y,O⟩|⟨u,v,e,hu,hv⟩)
  ·exact⟨p,q,(eF p).2 (.inl A),U,Y.imp (λp q h=>(eS p q).2 (.inl h)),(eL q).2 (.inl ⟨he,O⟩)⟩
  ·exact⟨p,q,(eF p).2 (.inr ⟨he,A⟩),U,Y.imp (λp q h=>(eS p q).2 (.inr (.inl h))),(eL q).2 (.inr O)⟩
  ·cases u with
   |nil=>exact hu.elim
   |cons a' u=>
    obtain⟨rfl,rfl⟩:a=a'∧w=u++v:=by simpa using e
    cases v with
    |nil=>exact hv.elim
    |cons c v=>
     obtain⟨p,r,W,h2,h3,h4⟩:=hu;obtain⟨s,q,k1,k2,k3,k4⟩:=hv;refine⟨p,q,(eF p).2 (.inl W),h2,bU.app.2 ⟨r,h3.imp (λp q h=>(eS p q).2 (.inl h)),s,(eS r s).2 (.inr (.inr ⟨h4,k1⟩)),k2,k3.imp (λp q h=>(eS p q).2 (.inr (.inl h)))⟩,(eL q).2 (.inr k4)⟩
theorem Qz{x:Ex}{xs:IO}{b:Nat}{g:Nat->ByteArray}{w:B0} :
  dy (iW (x::xs) b) (jU (x::xs) b) (iX (x::xs) b) g w ↔
   dy (mz x b) (kO x b) (ln x b) g w∨dy (iW xs (b+(aI x).length)) (jU xs (b+(aI x).length)) (iX xs (b+(aI x).length)) g w:=by
 cases w with
 |nil=>simp[dy]
 |cons a w=>
  generalize H:b+(aI x).length=V
  have eS:∀p q,jU (x::xs) b p q↔kO x b p q∨jU xs V p q:=λp q=>by rw[jU,H]
  have eL:∀p,iX (x::xs) b p↔ln x b p∨iX xs V p:=λp=>by rw[iX,H]
  have eF:∀p,iW (x::xs) b p↔mz x b p∨iW xs V p:=λp=>by rw[iW,H]
  constructor
  ·rintro⟨p,q,A,O,U,u⟩
   rcases(eF p).1 A with A|A
   ·obtain⟨W,h2⟩:=bU.stay (F:=kO x b) (S:=λp=>p<=V) (λp q Y h=>by
     rcases(eS p q).1 h with h|h
     ·exact⟨h,by have:=fM x h;omega⟩
     ·have:=rn h;omega) (by have:=jB x A;omega) U
    rcases(eL q).1 u with u|u
    ·exact .inl ⟨p,q,A,O,W,u⟩
    ·have:=iu u;omega
   ·obtain⟨W,h2⟩:=bU.stay (F:=jU xs V) (S:=λp=>V<p) (λp q Y h=>by
     rcases(eS p q).1 h with h|h
     ·have:=fM x h;omega
     ·exact⟨h,by have:=rn h;omega⟩) (by have:=iq A;omega) U
    rcases(eL q).1 u with u|u
    ·have:=iF x u;omega
    ·exact .inr ⟨p,q,A,O,W,u⟩
  ·rintro(⟨p,q,A,O,U,u⟩|⟨p,q,A,O,U,u⟩)
   ·exact⟨p,q,(eF p).2 (.inl A),O,U.imp (λp q h=>(eS p q).2 (.inl h)),(eL q).2 (.inl u)⟩
   ·exact⟨p,q,(eF p).2 (.inr A),O,U.imp (λp q h=>(eS p q).2 (.inr h)),(eL q).2 (.inr u)⟩
theorem MV{I T:Nat->Prop}{F:Nat->Nat->Prop}{g:Nat->ByteArray}{w:B0}(hw:w≠[]) :
  dy I (λp q=>F p q∨(T p∧I q)) T g w↔dT (dy I F T g) w:=by
 constructor
 ·generalize hn:w.length=n
  induction n using Nat.strongRecOn generalizing w with
  |ind n ih=>
   intro h
   cases w with
   |nil=>exact h.elim
   |cons a w=>
    obtain⟨p,q,H,O,W,A⟩:=h
    rcases bU.split (F:=F) (I:=I) (T:=T) (λ_ _ h=>h) W with V|⟨u,c,v,r,s,rfl,V,h2,h3,h4,h5⟩
    ·exact .one ⟨p,q,H,O,V,A⟩
    ·have:=ih (c::v).length (by grind) (w:=c::v) zk rfl ⟨s,q,h3,h4,h5,A⟩
     rw[show a::(u++c::v)=(a::u)++(c::v)from rfl];exact .cons _ _ zk ⟨p,r,H,O,V,h2⟩ this
 ·intro h
  have key:w=[]∨dy I (λp q=>F p q∨(T p∧I q)) T g w:=by
   clear hw
   induction h with
   |nil=>grind
   |cons u v hu V _ ih=>
    right
    cases u with
    |nil=>grind
    |cons a u=>
     obtain⟨p,q,H,O,W,A⟩:=V;have U:=W.imp (G:=λp q=>F p q∨(T p∧I q)) (λp q h=> .inl h)
     rcases ih with rfl|ih
     ·rw[List.append_nil];exact⟨p,q,H,O,U,A⟩
     ·cases v with
      |nil=>exact ih.elim
      |cons c v=>
       obtain⟨s,t,k1,k2,k3,Y⟩:=ih;exact⟨p,t,H,O,bU.app.2 ⟨q,U,s,.inr ⟨A,k1⟩,k2,k3⟩,Y⟩
  grind
theorem glu{x:Ex}(Y:Fit x):∀{b:Nat}{g:Nat->ByteArray}{w:B0},qU (aI x) b g->w≠[]->(Lg x w↔dy (mz x b) (kO x b) (ln x b) g w):=by
 induction Y with
 |lab s=>
  intro b g w hl H
  have hg:g (b+1)=s:=by have:=hl 0 s (by simp[aI]);omega
  cases w with
  |nil=>grind
  |cons a w=>
   simp only[Lg,if_true,dy,mz,ln]
   constructor
   ·intro h;simp only[List.cons.injEq]at h;obtain⟨rfl,rfl⟩:=h;exact⟨b+1,b+1,rfl,hg,rfl,rfl⟩
   ·rintro⟨p,q,rfl,V,U,O⟩
    cases w with
    |nil=>grind
    |cons c w=>obtain⟨r,h4,_⟩:=U;grind[kO]
 |many k s l hk hl hf ih=>
  intro b g w A H
  have V:k≠1:=zd
  rw[dL V]at A
  rcases hk with rfl|rfl
  ·have key:∀(m:IO),(∀x∈m,x∈l)->∀{b:Nat}{w:B0},qU (aV m) b g->w≠[]->(dN m w↔dy (jx m b) (jw m b) (lD m b) g w):=by
    intro m
    induction m with
    |nil=>
     intro _ b w _ H;obtain⟨a,w,rfl⟩:=afh H;simp[dN,dy,jx]
    |cons x xs ihm=>
     intro hm b w A H;rw[aV]at A;have Y:=hm x afg;have hxs:∀y∈xs,y∈l:=λy hy=>hm y (aeX _ hy);have eE:=iJ (hf x Y)
     have eA:dz xs=true↔dN xs []:=by
      grind[nT,List.all_eq_true,qj,iJ]
     rw[QA H,dN,eE,eA];have I1:=λ{w:B0}(H:w≠[])=>ih x Y (b:=b) (g:=g) (w:=w) A.left H;have I2:=λ{w:B0}(H:w≠[])=>ihm hxs (b:=b+(aI x).length) (w:=w) A.right H
     constructor
     ·rintro⟨u,v,rfl,U,O⟩
      by_cases W:u=[]
      ·grind
      grind
     ·rintro(⟨U,O⟩|⟨U,O⟩|⟨u,v,rfl,U,O⟩)
      ·grind
      ·grind
      ·refine⟨u,v,rfl,(I1 (λe=>?_)).2 U,(I2 (λe=>?_)).2 O⟩
       ·subst e;exact U
       ·subst e;exact O
   simp only[Lg,mz,ln,Int.reduceEq,if_false,if_true];rw[key l (λ_ h=>h) A H]
   have:∀{F G:Nat->Nat->Prop}{I T:Nat->Prop}{w},(∀p q,F p q↔G p q)->(dy I F T g w↔dy I G T g w):=λ{F G I T w}h=>by
    have:F=G:=funext λp=>funext λq=>propext (h p q)
    rw[this]
   grind[kO]
  ·have key:∀(m:IO),(∀x∈m,x∈l)->∀{b:Nat}{w:B0},qU (aV m) b g->w≠[]->(jV m w↔dy (iW m b) (jU m b) (iX m b) g w):=by
    intro m
    induction m with
    |nil=>
     intro _ b w _ H;obtain⟨a,w,rfl⟩:=afh H;simp[jV,dy,iW]
    |cons x xs ihm=>
     intro hm b w A H;rw[aV]at A;rw[Qz,jV,ih x (hm x afg) A.left H,ihm (λy hy=>hm y (aeX _ hy)) A.right H]
   simp only[Lg,mz,ln,Int.reduceEq,if_false,if_true];rw[key l (λ_ h=>h) A H]
   have:∀{F G:Nat->Nat->Prop}{I T:Nat->Prop}{w},(∀p q,F p q↔G p q)->(dy I F T g w↔dy I G T g w):=λ{F G I T w}h=>by
    have:F=G:=funext λp=>funext λq=>propext (h p q)
    rw[this]
   grind[kO]
 |one k s x hk Y ih=>
  intro b g w A H
  have V:k≠1:=zd
  have U:k≠2:=zd
  rw[dL V,aV,aV,List.append_nil]at A;have I:=λ{w:B0}(H:w≠[])=>ih (b:=b) (g:=g) (w:=w) A H
  have eF:mz (.mk k s [x]) b=mz x b:=funext λp=>by grind[mz,iW]
  have eL:ln (.mk k s [x]) b=ln x b:=funext λp=>by grind[ln,iX]
  have star:∀{w:B0},w≠[]->(dT (xy [x]) w↔dy (mz x b) (λp q=>kO x b p q∨(ln x b p∧mz x b q)) (ln x b) g w):=λ{w}H=>by
   rw[MV H]
   constructor
   ·intro h;clear H
    induction h with
    |nil=>exact .nil
    |cons u v W V _ ih=>exact .cons u v W ((I W).1 V) ih
   ·intro h;clear H
    induction h with
    |nil=>exact .nil
    |cons u v W V _ ih=>exact .cons u v W ((I W).2 V) ih
  rw[eF,eL]
  rcases hk with rfl|rfl|rfl
  ·have eFo:kO (.mk 4 s [x]) b=(λp q=>kO x b p q∨(ln x b p∧mz x b q)):=funext λp=>funext λq=>by simp[kO,jU,iX,iW]
   grind[Lg]
  ·have eFo:kO (.mk 5 s [x]) b=(λp q=>kO x b p q∨(ln x b p∧mz x b q)):=funext λp=>funext λq=>by simp[kO,jU,iX,iW]
   rw[eFo, <- star H];simp only[Lg,Int.reduceEq,if_false,if_true]
   constructor
   ·rintro⟨u,v,rfl,O,h4⟩;exact(dT.one O).append h4
   ·intro h
    rcases h.inv with e|⟨u,v,rfl,W,O,h4⟩
    ·grind
    grind
  ·have eFo:kO (.mk 6 s [x]) b=kO x b:=funext λp=>funext λq=>by simp[kO,jU]
   grind[Lg,xy]
end
section
open Go.RowKit Go.Shelf
theorem DH{F:Fence}(q:F.depth=none)(k:Nat):F.room k:=λd h=>by rw[q]at h;cases h
theorem vr{F:Fence}(u:F.depth=none){m q:Nat}{P:Program}{l:Nat}{f:FuncId}{tmps:Array Value}{assign body:Code}{w:World}{R:Ending->World->Prop}
  (h:RoundIn F m P l f tmps assign body w R):RoundIn F q P l f tmps assign body w R:=⟨h.1,λc cs _=>h.2 c cs (DH u _)⟩
theorem vI{F:Fence}(A:F.depth=none){m:Nat}(q:Nat){P:Program}{l:Nat}{args:Array Value}{W:World}{R:Ending->World->Prop}(h:YieldAt F m P l args W R):YieldAt F q P l args W R:=by
 obtain⟨fn,tmps,assign,body,u,H⟩:=h;exact⟨fn,tmps,assign,body,u,vr A H⟩
def A9(lo hi:Nat)(e:TypeId)(k:Nat):Obj->Prop
 | .cells _ T _=>k<lo∨(hi<=k∧T≠e)
 |o=>o.isWalk=true∧(k<lo∨hi<=k)
structure Kept(lo hi:Nat)(e:TypeId)(W W':World):Prop where
 size:W.heap.size<=W'.heap.size
 same:∀(k:Nat)(o:Obj),W.heap[k]?=some o->A9 lo hi e k o->W'.heap[k]?=some o
theorem Kept.refl(lo hi:Nat)(e:TypeId)(W:World):Kept lo hi e W W:=⟨aed _,λ_ _ h _=>h⟩
theorem Kept.trans{lo hi:Nat}{e:TypeId}{A B C:World}(h:Kept lo hi e A B)(k:Kept lo hi e B C):Kept lo hi e A C:=
 ⟨Nat.le_trans h.size k.size,λi o u q=>k.same i o (h.same i o u q) q⟩
theorem Kept.below{lo hi:Nat}{e:TypeId}{W u:World}(h:Below W.heap.size W u):Kept lo hi e W u:=
 ⟨h.size,λk _ q _=>(h.block k (aeh.1 q).1).trans q⟩
theorem Kept.alloc{lo hi:Nat}{e:TypeId}(W:World)(o:Obj):Kept lo hi e W (W.alloc o):= .below ((Below.refl _ _).alloc (aed _) o)
theorem Mr{lo hi:Nat}{e:TypeId}{k:Nat}{o:Obj}(h:A9 lo hi e k o):k<lo∨hi<=k:=by
 cases o<;>simp only[A9]at h<;>omega
theorem Kept.setCell{lo hi:Nat}{e:TypeId}(W:World){b o:Nat}(H:lo<=b)(A:b<hi)(v:Value):Kept lo hi e W (W.setCell ⟨b,o,none⟩ v):=
 ⟨by show _<=(W.heap.modify _ _).size;rw[Array.size_modify];exact aed _,λk _ q u=>(Below.heap_setCell W _ v k (λe=>by have O:k=b:=e;have:=Mr u;omega)).trans q⟩
theorem Kept.putObj{lo hi:Nat}{e:TypeId}(W:World)(l:Nat)(o o':Obj)(h:W.heap[l]?=some o)(H:o.isCells=false)(u:o.isWalk=false):Kept lo hi e W (W.putObj l o'):=
 ⟨zk,λk o'' q A=>(World.putObj_heap_other (λe=>by
  subst e;rw[h]at q;cases q
  cases o<;>simp_all[A9,Obj.isCells])).trans q⟩
theorem Kept.grown{lo hi:Nat}{e:TypeId}{W A:World}{row:Option Nat}(u:W.grownBy A row)(h:∀r o,row=some r->W.heap[r]?=some o-> ¬A9 lo hi e r o):Kept lo hi e W A:=
 ⟨u.size,λk o q H=>(u.block k (aeh.1 q).1 (λe=>h k o e.symm q H)).trans q⟩
theorem Kept.cells{lo hi:Nat}{e:TypeId}{w0 W H:World}(h:Kept lo hi e W H)(U:Cells w0 W)(O:w0.heap.size<=lo):Cells w0 H:=λb o v A=>by
 have V:=ou A;have u:=U b o v A;unfold World.cell? at u⊢
 cases q:W.heap[b]? with
 |none=>simp[q]at u
 |some ob=>
  cases ob with
  |cells C T fz=>
   have:=h.same b _ q (.inl zd)
   simp only[this];simpa [q]using u
  |_=>simp[q]at u
theorem Kept.box{lo hi:Nat}{e:TypeId}{W q:World}(h:Kept lo hi e W q){k:Nat}{C:Array Value}{T:TypeId}{fz:Nat×Nat}(A:hi<=k)(H:T≠e)(u:W.heap[k]?=some (.cells C T fz)):q.heap[k]?=some (.cells C T fz):=
 h.same k _ u (.inr ⟨A,H⟩)
def YOk{α:Type}(J Jx:List α->World->Prop)(Kp:World->World->Prop)(pre:List α)(x:α)(W:World)(e:Ending)(W':World):Prop:=
 (e=.returned (.bool true)∧J (pre++[x]) W'∧Kp W W')∨(e=.returned (.bool false)∧Jx (pre++[x]) W')
theorem aC{w:World}{k:Nat}{C:Array Value}{T:TypeId}{fz:Nat×Nat}(h:w.heap[k]?=some (.cells C T fz))(o:Nat):w.cell? ⟨k,o,none⟩=C[o]? :=by simp[World.cell?,h]
theorem dq{w:World}{k:Nat}{C:Array Value}{T:TypeId}(h:w.heap[k]?=some (.cells C T (0,0)))(o:Nat):w.frozen? ⟨k,o,none⟩=false:=by simp[World.frozen?,h]
theorem mf{w:World}{k:Nat}{ob:Obj}(h:w.heap[k]?=some ob)(o:Obj):(w.alloc o).heap[k]?=some ob:=(Below.heap_alloc w o k (aeh.1 h).1).trans h
theorem fF{w:World}{k:Nat}{ob:Obj}(h:w.heap[k]?=some ob){b o:Nat}(v:Value)(q:k≠b):(w.setCell ⟨b,o,none⟩ v).heap[k]?=some ob:=(Below.heap_setCell w _ v k q).trans h
theorem lr{w:World}{k:Nat}{v:Value}{T:TypeId}{fz:Nat×Nat}(h:w.heap[k]?=some (.cells #[v] T fz))(u:Value):(w.setCell ⟨k,0,none⟩ u).heap[k]?=some (.cells #[u] T fz):=by
 simp[World.setCell,Array.getElem?_modify,h]
theorem fE{w:World}{k D:Nat}{ob:Obj}(h:w.heap[k]?=some ob)(o:Obj)(q:k≠D):(w.putObj D o).heap[k]?=some ob:=(World.putObj_heap_other q).trans h
theorem o7{B:Nat}{W u:World}(h:Below W.heap.size W u):KeepsFrom B W u:=⟨h.size,λk _ _ q _=>(h.block k (aeh.1 q).1).trans q⟩
theorem ml{β:Type}(U B:Nat)(C:β->Array Value)(T:TypeId):OwnFrom U (λ(s:β)W=>W.heap[B]?=some (.cells (C s) T (0,0))):=λs X Y row q H A=>by
 refine(H.block B (aeh.1 q).1 (λe=>?_)).trans q;obtain⟨_,o,u,O⟩:=A B e.symm;rw[q]at u;cases u;cases O
def handed{α:Type}(encs:α->Array Value)(ps:Array Tmp)(a:Act)(x:α):Act:={tmps:=(ps.toList.zip (encs x).toList).foldl (λt pv=>t.setIfInBounds pv.1 pv.2) a.tmps,defers:=[]}
theorem Mm{α:Type}(encs:α->Array Value)(ps:Array Tmp)(a:Act)(x:α):handed encs ps a x={tmps:=(ps.zip (encs x)).foldl (λt(p,v)=>t.setIfInBounds p v) a.tmps,defers:=[]}:=by
 rw[handed, <- Array.toList_zip,Array.foldl_toList]
def Act.sd(a:Act)(d:Nat)(v:Value):Act:={a with tmps:=a.tmps.setIfInBounds d v}
section
variable {P:Program} {α:Type} {g:Operand} {ps:Array Tmp} {assign body:Code} {Q:Exit->Act->World->Prop} {a:Act} {w:World}
theorem QZ{lo hi gf:Nat}{et:TypeId}{lb:Array Value}(hg:a.eval g=.func (.func gf) #[] lb)(eg:∀args w,(callFunc gf args).run P w=.ok (.enter gf args) w)
  {encs:α->Array Value}{S Sp:List α->Prop}{N:Nat}{w0:World}(u:SeqStopsK Fence.wide 8 P gf lb encs (Kept lo hi et) S Sp N w0)
  (V:Below w0.heap.size w0 w)(O:∀x,(encs x).size=ps.size)
  (I:List α->World->Prop)(Ix:Code->List α->World->Prop)(hI:OwnFrom w.heap.size I)(hIx:∀c,OwnFrom w.heap.size (Ix c))(h0:I [] w)(d:Nat)(C:α->Array Value)(T:TypeId)
  (A:∀pre W,I pre W->w.heap.size<=W.heap.size)
  (hassign:∀(l:Nat)(x:α)(W:World)(K:Act->World->Prop),K (Act.sd (handed encs ps a x) d (.pointer (some ⟨W.heap.size,0,none⟩))) (W.alloc (.cells (C x) T)) ->
   assign.wpIn (Fence.wide.inRound l) 7 P (Exit.then K (λ_ _ _=>False)) (handed encs ps a x) W)
  (hbody:∀(l:Nat)(pre:List α)(x:α)(B:Nat)(W:World),w.heap.size<=l->(∃r,W.heap[l]?=some (.loop r))->I pre W->w.heap.size<=B->W.heap[B]?=some (.cells (C x) T (0,0))->pre.length<N ->
   body.wpIn (Fence.wide.inRound l) 7 P (ownPostG w.heap.size (Kept lo hi et) I Ix (pre++[x]) W) (Act.sd (handed encs ps a x) d (.pointer (some ⟨B,0,none⟩))) W)
  (hdone:∀(D:Nat)(xs:List α)(W:World),w.heap.size<=D->S xs->I xs W->W.heap[D]?=some (.deferred (some []))->Q .normal {a with defers:={target:= .collected D,args:= #[]} ::a.defers} W)
  (hstop:∀(D:Nat)(c:Code)(pre:List α)(W:World),w.heap.size<=D->Sp pre->Ix c pre W->W.heap[D]?=some (.deferred (some []))->c.wpIn Fence.wide 9 P Q {a with defers:={target:= .collected D,args:= #[]} ::a.defers} W) :
  (Code.rangeFunc g ps assign body).wpIn Fence.wide 9 P Q a w:=
 wpIn_rangeFunc_ownH (F:=Fence.wide) (n:=9) rfl zd hg trivial eg u Kept.trans (λW l o o' _ h hc hw=>Kept.putObj W l o o' h hc hw) V O I Ix hI hIx h0
  (λx a' W=>∃B,w.heap.size<=B∧a'=Act.sd (handed encs ps a x) d (.pointer (some ⟨B,0,none⟩))∧W.heap[B]?=some (.cells (C x) T (0,0)))
  (λx a' s X Y row hs U H=>by
   obtain⟨B,h1,h2,h3⟩:=hs
   exact⟨B,h1,h2,ml (β:=Unit) w.heap.size B (λ_=>C x) T () X Y row h3 U H⟩)
  (λl pre x W K q hK=>Mm encs ps a x ▸ hassign l x W K (hK _ _ (((KeepsOthers.alloc W _).from _)) (Kept.alloc W _) (hI.alloc _ q) ⟨W.heap.size,A _ _ q,rfl,gO W _⟩))
  (λl pre x a' W hl H q ha hn=>by
   obtain⟨B,h1,rfl,h3⟩:=ha
   exact hbody l pre x B W hl H q h1 h3 hn) hdone hstop
end
theorem z6{W O:World}{lo hi B size k:Nat}{e:TypeId}{v:Value}{xs:Id}{tmp:Obj}(q:W.ownsRow lo e size v k xs)(hgrow:(W.alloc tmp).grownBy O v.ownBlock)(A:lo<=B)(hB:B<hi)(Y:Value) :
  Kept lo hi e W (O.setCell ⟨B,0,none⟩ Y):=by
 refine((Kept.alloc W tmp).trans (Kept.grown hgrow λr o U V u=>?_)).trans (Kept.setCell _ A hB _)
 rcases(q.alloc tmp).2 with⟨rfl,_⟩|⟨g,cap,cur,rfl,hg,H,_⟩
 ·simp[Value.ownBlock]at U
 ·obtain rfl:g=r:=by simpa [Value.ownBlock]using U
  rw[H]at V;cases V;simp only[A9]at u
  rcases u with u|u
  ·omega
  ·exact u.2 rfl
theorem nK{w W:World}(h:Below w.heap.size w W){D:Nat}{o:Obj}(q:w.heap.size<=D)(o':Obj)(_:W.heap[D]?=some o):Below w.heap.size w (W.putObj D o'):=
 h.grown (grownBy_putObj' W D o') (h.size) (λk e=>by cases e;exact q)
end
theorem rW(c:Int)(w:World):Calls prog 126 #[.int .i32 c] w λe w'=>e=.returned (.bool (pe c))∧w=w':=by
 unfold pe
 by_cases q:97<=c
 ·have d1:decide (97<=c)=true:=by simpa using q
  rw[d1,afi]
  go_enter func126,ntmps126
  go_wp2_with fail
  go_ret
  exact⟨rfl,rfl⟩
 ·have d1:decide (97<=c)=false:=by simpa using q
  rw[d1,Bool.false_and]
  go_enter func126,ntmps126
  go_wp2_with fail
  go_ret
  exact⟨rfl,rfl⟩
theorem Gk(c:Int):(pe c=true∧gX c=true)∨(pe c=false∧(c !=95)=false∧gX c=true)∨(pe c=false∧(c !=95)=true∧c<48∧gX c=false) ∨
  (pe c=false∧(c !=95)=true∧48<=c∧57<c∧gX c=false)∨(pe c=false∧(c !=95)=true∧48<=c∧c<=57∧gX c=true):=by
 unfold gX
 cases h:pe c
 ·by_cases H:c=95
  ·subst H;exact .inr (.inl ⟨rfl,rfl,rfl⟩)
  ·have hn:(c==95)=false:=by simpa using H
   have u:(c !=95)=true:=by simpa using H
   rw[hn,u]
   by_cases q:48<=c
   ·by_cases A:c<=57
    ·exact .inr (.inr (.inr (.inr ⟨rfl,rfl,q,A,by simp[q,A]⟩)))
    ·exact .inr (.inr (.inr (.inl ⟨rfl,rfl,q,zd,by simp[A]⟩)))
   ·exact .inr (.inr (.inl ⟨rfl,rfl,zd,by simp[q]⟩))
 ·exact .inl ⟨rfl,zk⟩
theorem v7(s:ByteArray)(w:World)(hs:s.size<=maxLen):Calls prog 86 #[.string s] w (Hh w (.bool (fV s))):=by
 unfold maxLen at hs;have H:∀pos,Below w.heap.size w (w.iter s pos):=λpos=>(Below.refl _ _).alloc (aed _) _;have HI:=Lib.hid H;clear H
 go_enter func86,ntmps86
 go_wp2_with fail
 go_loopw [2] (λr wr=>r=.bool false∧∃pos:Nat,wr=w.iter s pos∧pos<=s.size∧∀j(h:j<pos)(Y:j<s.size),gX s[j].toNat=true) (λ_ wr=>s.size-wr.iterPos w.heap.size)
 case atStart=>exact⟨rfl,0,rfl,Nat.zero_le _,λj h=>zd⟩
 case round=>
  obtain⟨rfl,pos,rfl,hpos,hP⟩:=hrel;have HP:=Lib.hid hP;clear hP
  by_cases q:pos<s.size
  ·by_cases V:(s[pos]'q).toNat<128
   ·have u:∀ty,(Instr.next (.pointer (some ⟨w.heap.size,0,none⟩)) true ty).run prog (w.iter s pos)=_:=λty=>run_next_ascii w s pos ty q V;have HV:=Lib.hid (@GD s pos q)
    have HS:Hid (∀(hv:gX (s[pos]'q).toNat=true)j(h:j<pos+1)(Y:j<s.size),gX s[j].toNat=true):=λhv j h Y=>by
     by_cases e:j=pos
     ·subst e;exact hv
     ·exact HP.out j zd Y
    have A:=λW=>rW (((s[pos]'q).toNat:Nat):Int) W;generalize hn:(s[pos]'q).toNat=n at u V HV HS A;have HN:=Lib.hid hn;clear hn;have HL:=Lib.hid A;clear A
    rcases Gk (n:Int)with⟨g1,g2⟩|⟨g1,g2,g3⟩|⟨g1,g2,g3,g4⟩|⟨g1,g2,g3,g4,g5⟩|⟨g1,g2,g3,g4,g5⟩
    ·rw[g1]at HL;clear g1;have HG:=Lib.hid g2;clear g2
     go_wp2_with (go_at_call 126;refine(HL.out _).mono ?_;rintro e w' ⟨rfl,rfl⟩)
     go_roundw
     case rel=>exact⟨rfl,pos+1,rfl,zd,HS.out HG.out⟩
     case measure=>simp;omega
    ·rw[g1]at HL;clear g1;have HG:=Lib.hid g3;clear g3
     go_wp2_with (go_at_call 126;refine(HL.out _).mono ?_;rintro e w' ⟨rfl,rfl⟩)
     go_roundw
     case rel=>exact⟨rfl,pos+1,rfl,zd,HS.out HG.out⟩
     case measure=>simp;omega
    ·rw[g1]at HL;clear g1;have HG:=Lib.hid g4;clear g4
     go_wp2_with (go_at_call 126;refine(HL.out _).mono ?_;rintro e w' ⟨rfl,rfl⟩)
     go_ret
     exact cK rfl (HV.out HG.out).symm (HI.out _)
    ·rw[g1]at HL;clear g1;have HG:=Lib.hid g5;clear g5
     go_wp2_with (go_at_call 126;refine(HL.out _).mono ?_;rintro e w' ⟨rfl,rfl⟩)
     go_ret
     exact cK rfl (HV.out HG.out).symm (HI.out _)
    ·rw[g1]at HL;clear g1;have HG:=Lib.hid g5;clear g5
     go_wp2_with (go_at_call 126;refine(HL.out _).mono ?_;rintro e w' ⟨rfl,rfl⟩)
     go_roundw
     case rel=>exact⟨rfl,pos+1,rfl,zd,HS.out HG.out⟩
     case measure=>simp;omega
   ·have u:∀ty,(Instr.next (.pointer (some ⟨w.heap.size,0,none⟩)) true ty).run prog (w.iter s pos)=_:=λty=>run_next_any w s pos ty q;have hd:=(decode_high s pos q zd).1
    have HV:=Lib.hid (GD q (by
     have hl:pe (((s[pos]'q).toNat:Nat):Int)=false:=by unfold pe;simp;omega
     unfold gX;rw[hl];simp;omega))
    have A:=λW=>rW (((Utf8.decode s pos).1:Nat):Int) W;generalize(Utf8.decode s pos).1=n at u hd A;generalize(Utf8.decode s pos).2=m at u
    have hl:pe (n:Int)=false:=by unfold pe;simp;omega
    rw[hl]at A
    have hn:((n:Int) !=95)=true:=ahn
    have HL:=Lib.hid A;clear A hl V
    go_wp2_with (go_at_call 126;refine(HL.out _).mono ?_;rintro e w' ⟨rfl,rfl⟩)
    go_ret
    exact cK rfl HV.out.symm (HI.out _)
  ·have u:∀ty,(Instr.next (.pointer (some ⟨w.heap.size,0,none⟩)) true ty).run prog (w.iter s pos)=_:=λty=>run_next_end w s pos ty q;have HV:=Lib.hid (Nx (s:=s) (λj h=>HP.out j zd h));have he:=lZ s
   by_cases O:s.size=0
   ·rw[decide_eq_true O]at he
    have U:Hid ((decide (1<=s.size)&&decide (s.size<=20))=false):=by show _=_;simp[O]
    clear O
    go_wp2_with fail
    go_ret
    exact cK rfl (by rw[HV.out,U.out]) (HI.out _)
   ·rw[decide_eq_false O]at he
    have U:Hid ((decide (1<=s.size)&&decide (s.size<=20))=decide (s.size<=20)):=by show _=_;rw[b0,afi]
    go_wp2_with fail
    go_ret
    exact cK rfl (by rw[HV.out,U.out,decide_eq_decide];omega) (HI.out _)
def CY(xs:B0)(s:ByteArray):Int:=match xs.findIdx? (λx=>fR s x)with|some k=>k|none=> -1
def hasB(xs:B0)(s:ByteArray):Bool:=xs.any (λx=>fR s x)
theorem TI{xs:B0}{s:ByteArray}{k:Nat}(u:k<xs.length)(q:fR s xs[k]=true)(h:∀j(_:j<k)(H:j<xs.length),fR s xs[j]=false):CY xs s=k:=by
 have:xs.findIdx? (λx=>fR s x)=some k:=by
  rw[afj];exact⟨u,q,λj A=>by rw[h j A zd];decide⟩
 rw[CY,this]
theorem Mn{xs:B0}{s:ByteArray}(h:∀j(h:j<xs.length),fR s xs[j]=false):CY xs s = -1:=by
 have:xs.findIdx? (λx=>fR s x)=none:=by
  rw[afk];intro x hx;obtain⟨j,q,rfl⟩:=List.getElem_of_mem hx;exact h j q
 rw[CY,this]
theorem Pt(xs:B0)(s:ByteArray):decide (0<=CY xs s)=hasB xs s:=by
 unfold CY hasB
 cases h:xs.findIdx? (λx=>fR s x)with
 |none=>
  rw[afk]at h;simp only[show decide ((0:Int) <= -1)=false by decide];rw[eq_comm,List.any_eq_false]
  exactλx q=>by rw[h x q];decide
 |some k=>
  rw[afj]at h;obtain⟨A,u,_⟩:=h;rw[decide_eq_true zk,eq_comm,List.any_eq_true];exact⟨xs[k],List.getElem_mem _,u⟩
theorem Mo(xs:B0)(v:Value)(s:ByteArray)(w:World)(H:rq w xs v) :
  Calls prog 160 #[v,.string s] w (Lm w (.int .i64 (CY xs s))):=by
 obtain⟨p,c,rfl,V,A⟩:=H.shape;unfold maxLen at A;have H1:=Lib.hid H;clear H
 go_enter func160,ntmps160
 go_wp2_with fail
 go_loop [4,8] (λr i=>r=.int .i64 0∧∃k:Nat,k<=xs.length∧i=.int .i64 k∧∀j(h:j<k)(U:j<xs.length),fR s xs[j]=false) (λ_ i=>xs.length-(intOf i).toNat)
 case atStart=>exact⟨rfl,0,Nat.zero_le _,rfl,λj h=>zd⟩
 case round=>
  obtain⟨rfl,k,W,rfl,O⟩:=hrel;have HP:=Lib.hid O;clear O
  by_cases q:k<xs.length
  ·obtain⟨Y,o1,rfl,a0⟩:=M6 H1.out q
   cases u:fR s xs[k]
   ·have HS:=Lib.hid u;unfold fR at u
    go_wp2_with fail
    go_round
    case rel=>exact⟨rfl,k+1,zd,by go_num,λj h U=>by
     by_cases e:j=k
     ·subst e;exact HS.out
     ·exact HP.out j zd U⟩
    case measure=>simp[intOf];omega
   ·have HS:=Lib.hid u;unfold fR at u
    go_wp2_with fail
    go_ret
    exact QY rfl (TI q HS.out HP.out).symm
  ·go_wp2_with fail
   go_ret
   exact QY rfl (Mn (λj h=>HP.out j zd h)).symm
theorem Cr(xs:B0)(v:Value)(s:ByteArray)(w:World)(q:rq w xs v) :
  Calls prog 127 #[v,.string s] w (Lm w (.bool (hasB xs s))):=by
 have HC:=Lib.hid (Mo xs v s w q);clear q;rw[<-Pt]
 go_enter func127,ntmps127
 go_wp2_with fail
 refine HC.out.mono ?_;rintro e w' ⟨rfl,rfl⟩
 go_wp2_with fail
 go_ret
 exact⟨rfl,rfl⟩
theorem E6(s:ByteArray)(w:World)(V:s.size<=maxLen):Calls prog 87 #[.string s] w (Hh w (.bool (cB s))):=by
 have HV:=Lib.hid (λW=>v7 s W V);have HB:=Lib.hid (λo=>((Below.refl w.heap.size w).alloc (aed _) o))
 have HW:Hid (∀H,Below (w.alloc (.cells (words.map Value.string).toArray 9)).heap.size (w.alloc (.cells (words.map Value.string).toArray 9)) H->Calls prog 127 #[.slice (some ⟨w.heap.size,0,none⟩) 7 7,.string s] H (Lm H (.bool (hasB words s)))):=λH hb=>
  Cr words _ s H (Jd (rd:=Vk) (xs:=words) (sz:=1) ((hb.block _ zk).trans (gO w _)) (λx=>[Value.string x]) (λx _=>rfl) (λx _=>rfl) (by simp[List.flatMap,words]) rfl zs (by unfold maxLen;decide))
 cases g1:fV s
 ·rw[g1]at HV
  have q:cB s=false:=by simp[cB,g1]
  rw[q];clear q;have G1:=Lib.hid g1;clear g1 HW
  go_enter func87,ntmps87
  go_wp2_with fail
  refine(HV.out _).mono ?_;rintro e U ⟨rfl,u⟩
  go_wp2_with fail
  go_ret
  exact cK rfl rfl (cV (HB.out _) u)
 ·rw[g1]at HV;obtain⟨O,_⟩:=zI g1;have hl:=λW=>rW (rN s) W
  have q:cB s=(pe (rN s) && !hasB words s):=by simp[cB,g1,hasB]
  rw[q];clear q
  have A:rN s=((s[0]'O).toNat:Int):=by simp[rN,O]
  rw[A]at hl;rw[A];have HL:=Lib.hid hl;clear hl A;have Y:(s[0]'O).toNat<256:=UInt8.toNat_lt _
  cases g2:pe ((s[0]'O).toNat:Int)
  ·rw[g2]at HL;rw[Bool.false_and];clear g2
   go_enter func87,ntmps87
   go_wp2_with fail
   refine(HV.out _).mono ?_;rintro e U ⟨rfl,u⟩
   go_wp2_with fail
   refine(HL.out _).mono ?_;rintro e w' ⟨rfl,rfl⟩
   go_wp2_with fail
   go_ret
   exact cK rfl rfl (cV (HB.out _) u)
  ·rw[g2]at HL;rw[afi];clear g2
   go_enter func87,ntmps87
   go_wp2_with fail
   refine(HV.out _).mono ?_;rintro e U ⟨rfl,u⟩
   go_wp2_with fail
   refine(HL.out _).mono ?_;rintro e w' ⟨rfl,rfl⟩
   go_wp2_with fail
   refine(HW.out _ u).mono ?_;rintro e w' ⟨rfl,rfl⟩
   go_wp2_with fail
   go_ret
   exact cK rfl rfl (cV (HB.out _) u)
theorem MX(s:ByteArray)(w:World)(O:s.size<=maxLen):Calls prog 161 #[.string s] w (Lm w (.bool (kJ s))):=by
 unfold maxLen at O
 go_enter func161,ntmps161
 go_wp2_with fail
 go_loop [2,7] (λr i=>r=.bool false∧∃k:Nat,i=.int .i64 k∧k<=s.size∧∀j(h:j<k)(u:j<s.size),jk s[j].toNat=true) (λ_ i=>s.size-(intOf i).toNat)
 case atStart=>exact⟨rfl,0,rfl,Nat.zero_le _,λj h=>zd⟩
 case round=>
  obtain⟨rfl,k,rfl,W,H⟩:=hrel;have HP:=Lib.hid H;clear H
  by_cases q:k<s.size
  ·have HV:=Lib.hid (@mX s k q)
   have HS:Hid (∀(A:jk (s[k]'q).toNat=true)j(h:j<k+1)(u:j<s.size),jk s[j].toNat=true):=λA j h u=>by
    by_cases e:j=k
    ·subst e;exact A
    ·exact HP.out j zd u
   have U:=tF (s[k]'q).toNat;have V:(s[k]'q).toNat<256:=UInt8.toNat_lt _
   rcases U with⟨g1,g2⟩|⟨g1,g2,g3⟩|⟨g1,g2,g3,g4⟩|⟨g1,g2,g3,g4,g5⟩|⟨g1,g2,g3,g4,g5⟩
   ·have HG:=Lib.hid g2;clear g2
    go_wp2_with fail
    go_ret
    exact zp rfl (HV.out HG.out).symm
   ·have HG:=Lib.hid g3;clear g3
    go_wp2_with fail
    go_ret
    exact zp rfl (HV.out HG.out).symm
   ·have HG:=Lib.hid g4;clear g4
    go_wp2_with fail
    go_ret
    exact zp rfl (HV.out HG.out).symm
   ·have HG:=Lib.hid g5;clear g5
    go_wp2_with fail
    go_ret
    exact zp rfl (HV.out HG.out).symm
   ·have HG:=Lib.hid g5;clear g5
    go_wp2_with fail
    go_round
    case rel=>exact⟨rfl,k+1,by go_num,zd,HS.out HG.out⟩
    case measure=>simp[intOf];omega
  ·go_wp2_with fail
   go_ret
   exact zp rfl (zb (λj h=>HP.out j zd h)).symm
theorem DV(v:Hk)(w:World)(V:v.text.size<=maxLen):Calls prog 128 #[.agg #[.int .i64 v.kind,.int .i64 v.num,.string v.text]] w (Hh w (.bool (bo v))):=by
 obtain⟨k,n,s⟩:=v;simp only at V;have HP:=Lib.hid (λW=>MX s W V);have HB:=Lib.hid (λo=>((Below.refl w.heap.size w).alloc (aed _) o));have A:=lZ s
 cases O:k==1
 ·cases U:k==2
  ·have q:bo ⟨k,n,s⟩=false:=by simp[bo,O,U]
   rw[q];clear q A HP
   go_enter func128,ntmps128
   go_wp2_with fail
   go_ret
   exact cK rfl rfl (HB.out _)
  ·cases u:n==0
   ·have q:bo ⟨k,n,s⟩=false:=by simp[bo,O,U,u]
    rw[q];clear q A HP
    go_enter func128,ntmps128
    go_wp2_with fail
    go_ret
    exact cK rfl rfl (HB.out _)
   ·by_cases H:s.size<=40
    ·have q:bo ⟨k,n,s⟩=kJ s:=by simp[bo,O,U,u,H]
     rw[q];clear q A
     go_enter func128,ntmps128
     go_wp2_with fail
     refine(HP.out _).mono ?_;rintro e w' ⟨rfl,rfl⟩
     go_wp2_with fail
     go_ret
     exact cK rfl rfl (HB.out _)
    ·have q:bo ⟨k,n,s⟩=false:=by simp[bo,O,U,u,H]
     rw[q];clear q A HP
     go_enter func128,ntmps128
     go_wp2_with fail
     go_ret
     exact cK rfl rfl (HB.out _)
 ·cases u:pg s
  ·have q:bo ⟨k,n,s⟩=false:=by simp[bo,O,u]
   rw[pg]at u;rw[u]at A;rw[q];clear q HP u
   go_enter func128,ntmps128
   go_wp2_with fail
   go_ret
   exact cK rfl rfl (HB.out _)
  ·by_cases H: -jQ<=n
   ·have q:bo ⟨k,n,s⟩=decide (n<=jQ):=by simp[bo,O,u,H]
    rw[pg]at u;rw[u]at A;rw[q];clear q HP u;unfold jQ at H⊢
    go_enter func128,ntmps128
    go_wp2_with fail
    go_ret
    exact cK rfl rfl (HB.out _)
   ·have q:bo ⟨k,n,s⟩=false:=by simp[bo,O,u,H]
    rw[pg]at u;rw[u]at A;rw[q];clear q HP u;unfold jQ at H
    go_enter func128,ntmps128
    go_wp2_with fail
    go_ret
    exact cK rfl rfl (HB.out _)
theorem Qw(k:Int)(s:ByteArray)(p:Option Addr)(n c:Nat)(w:World)(hs:s.size<=maxLen)(hn:n<=maxLen) :
  Calls prog 76 #[.agg #[.int .i64 k,.string s,.slice p n c]] w (Hh w (.bool (bP k s n))):=by
 have HF:=Lib.hid (λW=>E6 s W hs);have HB:=Lib.hid (λo=>((Below.refl w.heap.size w).alloc (aed _) o));unfold maxLen at hs hn;have H:=lZ s
 cases O:k==1
 ·cases U:k==2
  ·cases V:k==3
   ·cases Y:k==4
    ·cases h5:k==5
     ·cases h6:k==6
      ·have q:bP k s n=false:=by simp[bP,O,U,V,Y,h5,h6]
       rw[q];clear q H HF
       go_enter func76,ntmps76
       go_wp2_with fail
       go_ret
       exact cK rfl rfl (HB.out _)
      ·skip
       by_cases A:n=1
       ·have h8:((n:Int)==1)=true:=by simp[A]
        cases u:pg s
        ·have q:bP k s n=false:=by simp[bP,O,U,V,Y,h5,h6,A,u]
         rw[pg]at u;rw[u]at H;rw[q];clear q HF u
         go_enter func76,ntmps76
         go_wp2_with fail
         go_ret
         exact cK rfl rfl (HB.out _)
        ·have q:bP k s n=true:=by simp[bP,O,U,V,Y,h5,h6,A,u]
         rw[pg]at u;rw[u]at H;rw[q];clear q HF u
         go_enter func76,ntmps76
         go_wp2_with fail
         go_ret
         exact cK rfl rfl (HB.out _)
       ·have h8:((n:Int)==1)=false:=ahn
        have q:bP k s n=false:=by simp[bP,O,U,V,Y,h5,h6,A]
        rw[q];clear q H HF
        go_enter func76,ntmps76
        go_wp2_with fail
        go_ret
        exact cK rfl rfl (HB.out _)
     ·skip
      by_cases A:n=1
      ·have h8:((n:Int)==1)=true:=by simp[A]
       cases u:pg s
       ·have q:bP k s n=false:=by simp[bP,O,U,V,Y,h5,A,u]
        rw[pg]at u;rw[u]at H;rw[q];clear q HF u
        go_enter func76,ntmps76
        go_wp2_with fail
        go_ret
        exact cK rfl rfl (HB.out _)
       ·have q:bP k s n=true:=by simp[bP,O,U,V,Y,h5,A,u]
        rw[pg]at u;rw[u]at H;rw[q];clear q HF u
        go_enter func76,ntmps76
        go_wp2_with fail
        go_ret
        exact cK rfl rfl (HB.out _)
      ·have h8:((n:Int)==1)=false:=ahn
       have q:bP k s n=false:=by simp[bP,O,U,V,Y,h5,A]
       rw[q];clear q H HF
       go_enter func76,ntmps76
       go_wp2_with fail
       go_ret
       exact cK rfl rfl (HB.out _)
    ·skip
     by_cases A:n=1
     ·have h8:((n:Int)==1)=true:=by simp[A]
      cases u:pg s
      ·have q:bP k s n=false:=by simp[bP,O,U,V,Y,A,u]
       rw[pg]at u;rw[u]at H;rw[q];clear q HF u
       go_enter func76,ntmps76
       go_wp2_with fail
       go_ret
       exact cK rfl rfl (HB.out _)
      ·have q:bP k s n=true:=by simp[bP,O,U,V,Y,A,u]
       rw[pg]at u;rw[u]at H;rw[q];clear q HF u
       go_enter func76,ntmps76
       go_wp2_with fail
       go_ret
       exact cK rfl rfl (HB.out _)
     ·have h8:((n:Int)==1)=false:=ahn
      have q:bP k s n=false:=by simp[bP,O,U,V,Y,A]
      rw[q];clear q H HF
      go_enter func76,ntmps76
      go_wp2_with fail
      go_ret
      exact cK rfl rfl (HB.out _)
   ·skip
    by_cases A:1<n
    ·skip
     cases u:pg s
     ·have q:bP k s n=false:=by simp[bP,O,U,V,A,u]
      rw[pg]at u;rw[u]at H;rw[q];clear q HF u
      go_enter func76,ntmps76
      go_wp2_with fail
      go_ret
      exact cK rfl rfl (HB.out _)
     ·have q:bP k s n=true:=by simp[bP,O,U,V,A,u]
      rw[pg]at u;rw[u]at H;rw[q];clear q HF u
      go_enter func76,ntmps76
      go_wp2_with fail
      go_ret
      exact cK rfl rfl (HB.out _)
    ·have q:bP k s n=false:=by simp[bP,O,U,V,A]
     rw[q];clear q H HF
     go_enter func76,ntmps76
     go_wp2_with fail
     go_ret
     exact cK rfl rfl (HB.out _)
  ·skip
   by_cases A:1<n
   ·skip
    cases u:pg s
    ·have q:bP k s n=false:=by simp[bP,O,U,A,u]
     rw[pg]at u;rw[u]at H;rw[q];clear q HF u
     go_enter func76,ntmps76
     go_wp2_with fail
     go_ret
     exact cK rfl rfl (HB.out _)
    ·have q:bP k s n=true:=by simp[bP,O,U,A,u]
     rw[pg]at u;rw[u]at H;rw[q];clear q HF u
     go_enter func76,ntmps76
     go_wp2_with fail
     go_ret
     exact cK rfl rfl (HB.out _)
   ·have q:bP k s n=false:=by simp[bP,O,U,A]
    rw[q];clear q H HF
    go_enter func76,ntmps76
    go_wp2_with fail
    go_ret
    exact cK rfl rfl (HB.out _)
 ·by_cases A:n=0
  ·have h8:((n:Int)==0)=true:=by simp[A]
   have q:bP k s n=cB s:=by simp[bP,O,A]
   rw[q];clear q H A
   go_enter func76,ntmps76
   go_wp2_with fail
   refine(HF.out _).mono ?_;rintro e w1 ⟨rfl,hb1⟩
   go_wp2_with fail
   go_ret
   exact cK rfl rfl (cV (HB.out _) hb1)
  ·have h8:((n:Int)==0)=false:=ahn
   have q:bP k s n=false:=by simp[bP,O,A]
   rw[q];clear q H HF
   go_enter func76,ntmps76
   go_wp2_with fail
   go_ret
   exact cK rfl rfl (HB.out _)
section
open Go.RowKit Go.Shelf
attribute [local go_sem] Oper.semAt_some
def RT(l:PP):B0:=l.flatMap (λp=>[p.bN,p.to])
end
section
open Go.RowKit Go.Shelf
attribute [local go_sem] Oper.semAt_some
def FW(out:B0)(s:ByteArray):B0:=if hasB out s then out else out++[s]
def VB(xs:B0):B0:=xs.foldl FW []
theorem TJ:(prog.info? 9).map (λi=>(i.zero,i.size,i.bytes))=some (some (.string ⟨#[]⟩),1,16):=zo
theorem Je{w:World}{base:Nat}{e:TypeId}{v:Value}{xs:B0}(h:w.ownsRow base e 1 v xs.length (xs.map Value.string)):rq w xs v:=by
 obtain⟨_,h|⟨g,cap,cur,rfl,_,u,O,H,U,A⟩⟩:=h
 ·exact .inl ⟨.inl h.1,List.length_eq_zero_iff.1 h.2⟩
 ·refine .inr ⟨g,0,cap,rfl,O,H,λi x q=>⟨[.string x],rfl,?_,trivial⟩⟩;rw[aC u];have hi:=(aek.1 q).1
  have:(cur.toList.take (xs.length*1))[i]?=some (.string x):=by rw[A];simp[q]
  rw[List.getElem?_take_of_lt zd]at this;simpa using this
end
section
open Go.RowKit Go.Shelf
attribute [local go_sem] Oper.semAt_some
theorem MQ{w:World}{base:Nat}{e:TypeId}{z:Nat}{v:Value}{n:Nat}{xs:Id}(h:w.ownsRow base e z v n xs):∀b off n c,v=.slice (some ⟨b,off,none⟩) n c->base<=b:=by
 intro b off m c hv
 rcases h.2 with⟨rfl,_⟩|⟨g,cap,cur,rfl,q,_⟩
 ·cases hv
 ·cases hv;exact q
theorem toList_inj{s t:ByteArray}:(s.toList==t.toList)=true↔s=t:=by
 refine⟨λh=>?_,λh=>by subst h;simp⟩;have h:=eq_of_beq h;rw[ByteArray.toList_eq,ByteArray.toList_eq]at h;obtain⟨⟨l⟩⟩:=s;obtain⟨⟨m⟩⟩:=t;have h:l=m:=h;subst h;rfl
theorem JZ{α:Type}{f:α->α->Bool}:∀(xs ys:List α),(∀x∈xs,∀y,f x y=true↔x=y)->(nI f xs ys=true↔xs=ys)
 | [],[],_=>by simp[nI]
 | [],_::_,_=>by simp[nI]
 |_::_,[],_=>by simp[nI]
 |x::xs,y::ys,h=>by
  rw[nI,aeW,h x zk,JZ xs ys (λa q=>h a (by simp[q]))];simp
theorem L4:∀x y:Ex,jb x y=true↔x=y:=by
 intro x
 induction x using Ex.ind with
 |h k s l ih=>
  rintro⟨u,s',q⟩;rw[wB,aeW,aeW,toList_inj,JZ l q ih,beq_iff_eq];simp[and_assoc]
def ab4(q:Ll):List zO:=q.conds.flatMap (λc=>[c.left,c.right])++q.ret
def Kq(o:zO):Int:=if o.kind==1 then 2 else if o.kind==3 then o.val.kind else 0
def WD(vs:B0):Option B0->qV->Option B0
 |none,_=>none
 |some ns,p=>if pg p.name then some ns else if hasB ns p.name||hasB vs p.name then none else some (ns++[p.name])
def nmL(vs:B0)(ps:PP):Option B0:=ps.foldl (WD vs) (some [])
def adZ(vs ns:B0):List (ByteArray×Int):=vs.map (·,1)++ns.map (·,2)
def Uj(vs ns:B0)(o:zO):Bool:=if o.kind==1 then hasB vs o.name else if o.kind==2 then hasB ns o.name else true
def U1(c:JF):Bool:=Kq c.left !=0&&Kq c.right !=0&&Kq c.left !=Kq c.right
def adW(q:Ll):Int:=if QO q then
  match nmL (VB (RT q.wJ)) q.wJ with
  |none=>9
  |some ns=>if(ab4 q).all (Uj (VB (RT q.wJ)) ns)then(if q.conds.any U1 then 10 else 0)else 8
 else 2
def adR(l:B0):Prop:=∀k(h:k<l.length),hasB (l.take k) l[k]=false
def ad6(a b:B0)(s:ByteArray):ByteArray:=if CY a s<0 then s else b.getD (CY a s).toNat ⟨#[]⟩
def ad1(f:ByteArray->ByteArray)(x:zO):zO:=if x.kind=1∨x.kind=2 then{x with name:=f x.name}else x
structure Inj(f:ByteArray->ByteArray):Prop where
 inj:∀s t,f s=f t->s=t
 free:∀s,cB (f s)=cB s
 no:∀s,pg (f s)=pg s
def rot{α:Type}(k:Nat)(l:List α):List α:=l.drop k++l.take k
def ad4:B0:=[⟨#[97]⟩,⟨#[98]⟩,⟨#[99]⟩,⟨#[100]⟩,⟨#[101]⟩,⟨#[102]⟩,⟨#[103]⟩]
def Uk(p q:qV):Bool:=if fR p.bN q.bN&&fR p.to q.to&&p.path==q.path then(if p.path then jb p.expr q.expr else pg p.name&&pg q.name&&fR p.label q.label)else false
def V9(ps:PP)(k:Nat):Bool:=match ps[k]? with
 |some p=>(ps.take k).any (λa=>Uk a p)
 |none=>false
def ab3(ps:PP)(i:Nat):Do:=((List.range ps.length).drop i).filter (λk=> !V9 ps k)
def Zk(ps:PP):Do:=ab3 ps 0
def Tc(p:qV):B0:=p.bN::p.to::(if !p.path && !pg p.name then [p.name]else [])
def MI(ps:PP)(out:B0)(k:Int):B0:=if 0<=k∧k<ps.length then(match ps[k.toNat]? with|some p=>(Tc p).foldl FW out|none=>out)else out
def yS(ps:PP)(ks:M2):B0:=ks.foldl (MI ps) []
def Zl(b:Bool):Nat:=if b then 1 else 0
def YV(ps:PP)(names:B0)(k:Int):Nat:=if 0<=k∧k<ps.length then(match ps[k.toNat]? with|some p=>Zl (hasB names p.bN)+Zl (hasB names p.to)|none=>0)else 0
def WQ(ps:PP)(k:Nat):Bool:=match ps[k]? with
 |some p=>p.path
 |none=>false
def F8(ps:PP)(names:B0)(k:Nat):Int:=2*(YV ps names k:Int)+(if WQ ps k then 0 else 1)
def Zf(r:Nat->Int):Do->Nat->Nat
 | [],m=>m
 |k::l,m=>Zf r l (if r k-r m > 0 then k else m)
def toI(l:Do):M2:=l.map (λk:Nat=>(k:Int))
def VA(ps:PP)(out:Do):Do->Nat
 | []=>0
 |a::l=>Zf (F8 ps (yS ps (toI out))) l a
def ofL(ps:PP):Nat->Do->Do->Do
 |0,out,_=>out
 |n+1,out,left=>if left.isEmpty then out else ofL ps n (out++[VA ps out left]) (left.filter (λk=>k !=VA ps out left))
structure ade(ps:PP)(out left l:Do):Prop where
 len:l.length=out.length+left.length
 pre:l.take out.length=out
 mem:∀k,k∈l->k∈out∨k∈left
 nod:l.Nodup
 adU:∀(i k:Nat)(hi:i<l.length)(hk:k<l.length),out.length<=i->i<k->F8 ps (yS ps (toI (l.take i))) l[k]<=F8 ps (yS ps (toI (l.take i))) l[i]∧(F8 ps (yS ps (toI (l.take i))) l[k]=F8 ps (yS ps (toI (l.take i))) l[i]->l[i]<l[k])
def ad3(ps:PP):Do:=ofL ps (Zk ps).length [] (Zk ps)
theorem tU:∀{a b:Do},a.Pairwise (· < ·)->b.Pairwise (· < ·)->(∀j,j∈a↔j∈b)->a=b
 | [],[],_,_,_=>rfl
 | [],y::b,_,_,h=>by grind[afg]
 |x::a,[],_,_,h=>by grind[afg]
 |x::a,y::b,A,u,h=>by
  rw[List.pairwise_cons]at A u
  have q:x=y:=by
   grind[afg]
  subst q;refine congrArg (x :: ·) (tU A.2 u.2 (λj=>?_))
  grind
def srt(l:Do):Do:=(List.range (l.foldr max 0+1)).filter (λj=>l.contains j)
noncomputable def bh(w:B0)(L:B0->Prop)(fr:Do):Do:=(List.range (w.length+1)).filter (λj=> @decide (∃i,i∈fr∧Tk L w i j) (Classical.propDecidable _))
def ad0(w:B0)(s:ByteArray)(fr:Do):Do:=(fr.filter (λk=>decide (w[k]?=some s))).map (· + 1)
structure AgI(w:B0)(L:B0->Prop)(fr out:Do):Prop where
 qT:out.Pairwise (· < ·)
 le:∀j,j∈out->j<=w.length
 sub:∀j,j∈fr->j∈out
 by':∀j,j∈out->∃i,i∈fr∧Tk (dT L) w i j
section
variable {P:Program} {ops:Array Oper} {N:pz}
def xC(P:Program)(ops:Array Oper)(S:jY N)(j:Nat)(o:Oper)(a:Act)(g:N.G):Prop:=
 (Region.wanted o (yielded ops a.tmps)=true∧abS P S j g ((execOp a.eval o).run P (N.wd g)))∨(Region.wanted o (yielded ops a.tmps)=false∧∃g',N.wd g'=N.wd g∧N.R g g'∧(∀i,i≠j->N.pre i g->N.pre i g')∧S.p undef g')
def MM(P:Program)(ops:Array Oper)(L:List (jY N))(g0:N.G)(Q:Act->World->Prop):GE->Nat->((Nat->Value)->Act)->Prop
 | [],k,A=>∀x g,N.R g0 g->(∀i,i<k->(Co L i).p (x i) g)->Q (A x) (N.wd g)
 |o::l,k,A=>(∀x g,N.R g0 g->(∀i,bd ops k i=true->(Co L i).p (x i) g)->N.pre k g->xC P ops (Co L k) k o (A x) g)∧MM P ops L g0 Q l (k+1) (λx=>(A x).put o.dst (x k))
def KD(ops:Array Oper)(i j:Nat):Bool:=
 match ops[i]?,ops[j]? with
 |some oi,some oj=>(bd ops j i||match oi.dst with|some d=> !(oj.looksAt ops).contains d|none=>true) && !bd ops i j&&(match oi.dst with|some d=>oj.dst !=some d|none=>true)&&(bd ops j i||match oj.dst with|some d=> !(oi.looksAt ops).contains d|none=>true)
 |_,_=>true
def tR(ops:Array Oper):Bool:=
 Region.noSelect ops&&(List.range ops.size).all (λj=>(List.range j).all (λi=>KD ops i j)&&(!bd ops j j&&L5 ops j))
def Sy(P:Program)(l:GE)(L:List (jY N))(g0:N.G)(a0:Act)(j:Nat)(o:Oper):Prop:=
 ∀x g,N.R g0 g->(∀i,bd l.toArray j i=true->(Co L i).p (x i) g)->N.pre j g->xC P l.toArray (Co L j) j o (ig (λi=>decide (i<j)) x l 0 a0) g
theorem FT{l:GE}{L:List (jY N)}{g0:N.G}{Q:Act->World->Prop}{a0:Act}(V:uq l):∀(u:GE)(k:Nat)(A:(Nat->Value)->Act),l.drop k=u->(A=λx=>ig (λi=>decide (i<k)) x l 0 a0)->k<=l.length ->
  MM P l.toArray L g0 Q u k A->(∀j o,k<=j->l[j]?=some o->Sy P l L g0 a0 j o)∧(∀x g,N.R g0 g->(∀i,i<l.length->(Co L i).p (x i) g)->Q (ig (λi=>decide (i<l.length)) x l 0 a0) (N.wd g))
 | [],k,A,hl,q,hk,h=>by
  have Y:l.length=k:=by have:=congrArg List.length hl;grind
  subst q
  refine⟨λj o hj H=>?_,λx g hg U=>?_⟩
  ·grind
  ·rw[Y]at U⊢; exact h x g hg U
 |o::u,k,A,hl,q,hk,h=>by
  have Y:l.length=k+(u.length+1):=by have:=congrArg List.length hl;grind
  have W:l[k]?=some o:=by have:=congrArg (λm=>m[0]?) hl;grind
  subst q
  have rcr:=FT V u (k+1) _ (by have:=congrArg List.tail hl;simpa using this) (by
    funext x
    have hi:=qJ (s:=λi=>decide (i<k)) (x:=x) (v:=x k) l 0 k a0 V W zk;rw[Nat.zero_add]at hi;rw[<-hi];refine dp l 0 a0 (λi _ _=>?_)
    grind[fm,oQ]) zd h.2
  refine⟨λj o' hj H=>?_,rcr.2⟩
  by_cases O:j=k
  ·subst O;rw[W]at H;cases H;exact h.1
  grind
theorem jE{Q:Exit->Act->World->Prop}{a:Act}{w:World}{l:GE}(L:List (jY N))(hB:tR l.toArray=true)(g0:N.G)(hg0:N.wd g0=w.drew)(hp0:∀j,N.pre j g0)
  (h:MM P l.toArray L g0 (Q .normal) l 0 (λ_=>a)):wpAny P .any l.toArray Q l.toArray.size (Array.replicate l.toArray.size false) a w.drew:=by
 simp only[tR,aeW,List.all_eq_true,List.mem_range,List.size_toArray]at hB;obtain⟨hns,hall⟩:=hB;have hsel:=Region.noSelect_spec hns
 have hpair:∀i j oi oj,i<j->l[i]?=some oi->l[j]?=some oj->(bd l.toArray j i=true∨∀e,oi.dst=some e->e∉oj.looksAt l.toArray)∧bd l.toArray i j=false∧(∀e,oi.dst=some e->oj.dst≠some e)∧(bd l.toArray j i=true∨∀e,oj.dst=some e->e∉oi.looksAt l.toArray):=by
  intro i j oi oj q hi A;have hjn:=(aek.1 A).1
  have:=(hall j hjn).1 i q
  simp only[KD,aet,hi,A,aeW,Bool.or_eq_true,Bool.not_eq_true']at this
  refine⟨?_,this.1.1.2,λe U=>?_,?_⟩
  ·rcases this.1.1.1 with h|h
   ·exact .inl h
   ·refine .inr (λe U=>?_);rw[U]at h;simpa using h
  ·have h3:=this.1.2;rw[U]at h3;simpa using h3
  ·rcases this.2 with h|h
   ·exact .inl h
   ·refine .inr (λe U=>?_);rw[U]at h;simpa using h
 have hself:∀j,j<l.length->bd l.toArray j j=false:=λj A=>by simpa using(hall j A).2.1
 have hfar:∀(j:Nat)(o:Oper),l[j]?=some o->∀e∈o.after,e.on<l.length:=λj o A e U=>by
  have:=(hall j (aek.1 A).1).2.2
  simp only[L5,aet,A,Array.all_eq_true_iff_forall_mem]at this;simpa using this e U
 have hA:uq l:=λi j oi oj hi A q e U=>by
  rcases Nat.lt_or_gt_of_ne q with h|h
  ·exact(hpair i j oi oj h hi A).2.2.1 e U
  ·intro h2;exact(hpair j i oj oi h A hi).2.2.1 e h2 U
 obtain⟨hO,hfin⟩:=FT (P:=P) (L:=L) (g0:=g0) (Q:=Q .normal) (a0:=a) hA l 0 (λ_=>a) zk (by
  funext x
  exact(show a=ig (λ_=>false) x l 0 a from by
   have:∀(l:GE)k,a=ig (λ_=>false) x l k a:=by
    intro l
    induction l with
    |nil=>intro k;rfl
    |cons o l ih=>intro k;rw[ig];exact ih (k+1)
   exact this l 0).trans (dp l 0 a (λi _ _=>zk))) (Nat.zero_le _) h

 have hloose:∀i j oi oj,l[i]?=some oi->l[j]?=some oj->i≠j->bd l.toArray j i=false->bd l.toArray i j=false->∀d,oi.dst=some d->d∉oj.looksAt l.toArray:=by
  intro i j oi oj hi A q W hd'
  rcases Nat.lt_or_gt_of_ne q with h|h
  ·rcases(hpair i j oi oj h hi A).1 with H|H
   ·rw[W]at H;cases H
   ·exact H
  ·rcases(hpair j i oj oi h A hi).2.2.2 with H|H
   ·rw[hd']at H;cases H
   ·exact H

 have hsee:∀(s s':Nat->Bool)x j oj,l[j]?=some oj->s j=false->s' j=false->(∀i,i<l.length->bd l.toArray i j=true->s i=false∧s' i=false)->(∀i,i<l.length->bd l.toArray j i=true->s i=true∧s' i=true) ->
   execOp (ig s x l 0 a).eval oj=execOp (ig s' x l 0 a).eval oj∧Region.wanted oj (yielded l.toArray (ig s x l 0 a).tmps)=Region.wanted oj (yielded l.toArray (ig s' x l 0 a).tmps):=by
  intro s s' x j oj A H h2 hbk W
  have one:=λ(s:Nat->Bool)(hs:s j=false)(hs2:∀i,i<l.length->bd l.toArray i j=true->s i=false)=>BD (ops:=l.toArray) (s:=s) (keep:=bd l.toArray j) (x:=x) (a:=a) hA (λcs b=>hsel j oj cs b (by simpa using A))
   (λi oi hi hsi hk=>hloose i j oi oj hi A (by intro e;subst e;rw[hsi]at hs;cases hs) hk (by
    cases hq:bd l.toArray i j
    ·rfl
    ·rw[hs2 i (aek.1 hi).1 hq]at hsi;cases hsi))
  obtain⟨a1,a2⟩:=one s H (λi hi hq=>(hbk i hi hq).1);obtain⟨b1,b2⟩:=one s' h2 (λi hi hq=>(hbk i hi hq).2)
  have e:ig (λi=>s i&&bd l.toArray j i) x l 0 a=ig (λi=>s' i&&bd l.toArray j i) x l 0 a:=dp l 0 a (λi _ hi=>by
   refine⟨?_,λ_=>rfl⟩
   cases hk:bd l.toArray j i
   ·simp
   ·obtain⟨c1,c2⟩:=W i zd hk
    simp[c1,c2])
  exact⟨by rw[a1,b1,e],by rw[a2,b2,e]⟩
 have full:∀(listed:Array Bool),listed.size=l.length->(∀i,i<l.length->listed.getD i false=true)->Region.ready .any l.toArray listed=[]∧∀x,ig (λi=>listed.getD i false) x l 0 a=ig (λi=>decide (i<l.length)) x l 0 a:=λlisted Y hall'=>by
  refine⟨List.eq_nil_iff_forall_not_mem.2 (λi hi=>?_),λx=>dp l 0 a (λi _ hi=>⟨?_,λ_=>rfl⟩)⟩
  ·obtain⟨g1,o,g2, -⟩:=mem_ready.1 hi;have hil:i<l.length:=(aek.1 (show l[i]?=some o by simpa using g2)).1;have g3:=hall' i hil
   have his:i<listed.size:=zd
   simp only[ae3,Array.getElem?_eq_getElem his,Option.getD_some]at g1 g3;rw[g3]at g1;cases g1
  ·have:i<l.length:=zd
   rw[hall' i this];simp[this]
 have main:∀fuel(listed:Array Bool)x g1,listed.size=l.length->N.R g0 g1->(∀i,listed.getD i false=true->(Co L i).p (x i) g1) ->
   (∀j i,listed.getD j false=true->bd l.toArray j i=true->listed.getD i false=true)->(∀j,listed.getD j false=false->N.pre j g1)->G2 (λi=>listed.getD i false) l.length<=fuel ->
   wpAny P .any l.toArray Q fuel listed (ig (λi=>listed.getD i false) x l 0 a) (N.wd g1):=by
  intro fuel
  induction fuel with
  |zero=>
   intro listed x g1 Y hE hF hcl hpre hu
   have hall':∀i,i<l.length->listed.getD i false=true:=λi hi=>by
    cases hc:listed.getD i false
    ·have:=K4 (s:=λi=>listed.getD i false) l.length hi hc
     omega
    ·rfl
   exact wpAny_done (full listed Y hall').1 (by rw[(full listed Y hall').2 x];exact hfin x g1 hE (λi hi=>hF i (hall' i hi))) 0
  |succ fuel ih=>
   intro listed x g1 Y hE hF hcl hpre hu
   have hmemR:∀j,j∈Region.ready .any l.toArray listed->∃oj,l[j]?=some oj∧listed.getD j false=false∧∀i,bd l.toArray j i=true->listed.getD i false=true:=by
    intro j A;obtain⟨H,o,ho,h3⟩:=mem_ready.1 A
    refine⟨o,by simpa using ho,?_,λi hi=>?_⟩
    ·rcases Nat.lt_or_ge j listed.size with h'|h'
     ·simp[h']at H⊢; exact H
     ·simp[Array.getElem?_eq_none h']
    ·simp only[bd,ho,aeW,beq_iff_eq,Array.any_eq_true']at hi;obtain⟨e,U,hb,rfl⟩:=hi;exact h3 e U hb
   refine⟨λh0=>?_,λj A=>?_⟩
   ·
    have hex:(∀i,i<l.length->listed.getD i false=true)∨∃m,m<l.length∧listed.getD m false=false∧∀i,i<m->listed.getD i false=true:=by
     have:∀k,k<=l.length->(∀i,i<k->listed.getD i false=true)∨∃m,m<l.length∧listed.getD m false=false∧∀i,i<m->listed.getD i false=true:=by
      intro k
      induction k with
      |zero=>exactλ_=> .inl (λi hi=>zd)
      |succ k ihk=>
       intro hk
       rcases ihk zd with h|h
       ·cases hc:listed.getD k false
        ·exact .inr ⟨k,zd,hc,h⟩
        ·exact .inl (λi hi=>by
          by_cases e:i=k
          ·subst e;exact hc
          ·exact h i zd)
       ·exact .inr h
     exact this l.length (Nat.le_refl _)
    rcases hex with hall'|hex
    ·rw[(full listed Y hall').2 x];exact hfin x g1 hE (λi hi=>hF i (hall' i hi))
    exfalso;obtain⟨m,hm1,hm2,hm3⟩:=hex
    have hmem:m∈Region.ready .any l.toArray listed:=by
     refine mem_ready.2 ⟨?_,l[m],by simp[hm1],λe U hb=>?_⟩
     ·have hms:m<listed.size:=zd
      simp[hms]at hm2⊢; exact hm2
     ·have W:bd l.toArray m e.on=true:=by
       have:l.toArray[m]?=some l[m]:=by simp[hm1]
       simp only[bd,this];simp only[Array.any_eq_true',aeW,beq_iff_eq];exact⟨e,U,hb,rfl⟩
      rcases Nat.lt_trichotomy e.on m with h|h|h
      ·exact hm3 _ h
      ·rw[h,hself m hm1]at W;cases W
      ·by_cases hl:e.on<l.length
       ·have:=(hpair m e.on l[m] l[e.on] h (by simp[hm1]) (by simp[hl])).2.1
        rw[W]at this;cases this
       ·exact absurd (hfar m l[m] (by simp[hm1]) e U) hl
    rw[h0]at hmem;cases hmem
   ·obtain⟨oj,V,hun,hdeps⟩:=hmemR j A;have hjl:=(aek.1 V).1
    have hsj:(listed.setIfInBounds j true).size=l.length:=by simpa using Y
    have hgd:∀i,(listed.setIfInBounds j true).getD i false=fm (λi=>listed.getD i false) j i:=by
     intro i
     by_cases q:i=j
     ·subst q
      have:i<listed.size:=zd
      simp[fm,this]
     ·simp only[fm,if_neg q];exact getD_set_ne false (Ne.symm q)
    have hO:=hO j oj (Nat.zero_le _) V;unfold wpOp;simp only[aet,V];have hst:=hO x g1 hE (λi hi=>hF i (hdeps i hi)) (hpre j hun)
    have hbk:∀i,i<l.length->bd l.toArray i j=true->listed.getD i false=false∧decide (i<j)=false:=by
     intro i hi hq
     constructor
     ·cases hli:listed.getD i false
      ·rfl
      ·have:=hcl i j hli hq
       rw[hun]at this;cases this
     ·rcases Nat.lt_or_ge i j with h|h
      ·have:=(hpair i j l[i] oj h (by simp[hi]) V).2.1
       rw[hq]at this;cases this
      ·simpa using h
    obtain⟨c1,c2⟩:=hsee (λi=>listed.getD i false) (λi=>decide (i<j)) x j oj V hun zk hbk (λi hi W=>⟨hdeps i W,by
      rcases Nat.lt_trichotomy i j with h|h|h
      ·simpa using h
      ·rw[h,hself j hjl]at W;cases W
      ·have:=(hpair j i oj l[i] h V (by simp[hi])).2.1
       rw[W]at this;cases this⟩)
    have next:∀v g2,N.R g1 g2->(∀i,i≠j->N.pre i g1->N.pre i g2)->(Co L j).p v g2->wpAny P .any l.toArray Q fuel (listed.setIfInBounds j true) ((ig (λi=>listed.getD i false) x l 0 a).put oj.dst v) (N.wd g2):=by
     intro v g2 hb hpp hv;have hi:=qJ (s:=λi=>listed.getD i false) (x:=x) (v:=v) l 0 j a hA V (by simpa using hun);rw[Nat.zero_add]at hi;rw[<-hi, <- show(λi=>(listed.setIfInBounds j true).getD i false)=fm (λi=>listed.getD i false) j from funext hgd]
     refine ih _ _ g2 hsj (N.trans' _ _ _ hE hb) (λi hi'=>?_) (λj' i O W=>?_) (λj' O=>?_) ?_
     ·rw[hgd]at hi'
      by_cases q:i=j
      ·subst q;simpa [oQ]using hv
      ·simp only[fm,if_neg q]at hi';simp only[oQ,if_neg q];exact(Co L i).st _ _ _ hb (hF i hi')
     ·rw[hgd]at O⊢
      by_cases q:i=j
      ·simp[fm,q]
      ·simp only[fm,if_neg q]
       by_cases hj2:j'=j
       ·subst hj2;exact hdeps i W
       ·simp only[fm,if_neg hj2]at O;exact hcl j' i O W
     ·rw[hgd]at O
      by_cases hj2:j'=j
      ·simp[fm,hj2]at O
      ·simp only[fm,if_neg hj2]at O;exact hpp j' hj2 (hpre j' O)
     ·rw[qM (s':=fm (λi=>listed.getD i false) j) l.length (λi _=>hgd i)]
      have:=xq (s:=λi=>listed.getD i false) (i:=j) l.length hjl hun
      omega
    unfold xC at hst;rw[<-c1, <- c2]at hst
    rcases hst with⟨H,h2⟩|⟨H,h2⟩
    ·rw[if_pos H];refine .inl ?_;unfold Oper.wp;generalize(execOp (ig (λi=>listed.getD i false) x l 0 a).eval oj).run P (N.wd g1)=r at h2
     cases r with
     |halt _ _=>exact h2.elim
     |ok n w'=>
      cases n<;>first|exact h2.elim|skip
      case value u=>obtain⟨g2,rfl,k1,k3,k2⟩:=h2;exact next _ _ k1 k3 k2
      case skip=>obtain⟨g2,rfl,k1,k3,k2⟩:=h2;exact next _ _ k1 k3 k2
      case enter f args=>
       refine Calls.mono h2 λe w'' U=>?_;obtain⟨v,g2,rfl,rfl,k1,k3,k2⟩:=U
       exact next _ _ k1 k3 k2
    ·rw[if_neg (by rw[H];decide)];obtain⟨g2,e2,k1,k3,k2⟩:=h2;rw[<-e2]
     exact next _ _ k1 k3 k2
 have hrep:∀i,(Array.replicate l.toArray.size false).getD i false=false:=λi=>by
  simp only[ae3,Array.getElem?_replicate];split<;>rfl
 have h0:=main l.toArray.size (Array.replicate l.toArray.size false) (λ_=>undef) g0 zk (N.ab5 _)
  (λi hi=>by rw[hrep]at hi;cases hi) (λj i A=>by rw[hrep]at A;cases A) (λj _=>hp0 j) (Jv _)
 have e:ig (λi=>(Array.replicate l.toArray.size false).getD i false) (λ_=>undef) l 0 a=a:=by
  have:∀(l':GE)k,ig (λi=>(Array.replicate l.toArray.size false).getD i false) (λ_=>undef) l' k a=a:=by
   intro l'
   induction l' with
   |nil=>intro k;rfl
   |cons o l' ih=>intro k;rw[ig,hrep];exact ih (k+1)
  exact this l 0
 rw[e,hg0]at h0;exact h0
end
end
section
variable {D:Nat->Prop} {nu:EQ} {o:AC} {w:World} {P:Program}
def Qm:Op->Bool
 | .move _| .assign _| .nilCheck _| .build .. | .binOp .. | .unOp .. | .convert .. | .makeFunc .. | .fieldAddr .. | .field .. | .index .. | .extract .. | .pick .. | .box .. | .buildSlice .. =>true
 |_=>false
theorem Lr{op:Op}(h:Qm op=true){t:C5}{o o':AC}{y:kB}{K:AV->Prop}(q:dM P op ⟨t,o,y⟩ K):dM P op ⟨t,o',y⟩ K:=by
 cases op with
 |makeFunc fn a b=>cases fn<;>exact q
 |_=>first|(cases h;done)|exact q
def dP(P:Program)(f:FuncId)(args:C5)(o:AC)(K:AV->AC->Prop):Prop:=∃r o',bT P f args o r o'∧K r o'
@[congr] theorem Sg{f:FuncId}{args args':C5}{o o':AC}{K:AV->AC->Prop}(h:args=args')(k:o=o'):dP P f args o K=dP P f args' o' K:=by rw[h,k]
theorem dP.out{f:FuncId}{args:C5}{r:AV}{o':AC}{K:AV->AC->Prop}(h:bT P f args o r o')(k:K r o'):dP P f args o K:=⟨r,o',h,k⟩
theorem dP.fr{f:FuncId}{args args0:C5}{o0 o1:AC}{H:AV}{K:AV->AC->Prop}(ids:Do)(h:bT P f args0 o0 H o1)(A:ids.Nodup)
  (O:ids.map (λi=>o[i]?)=o0.map (λx=>some (x.map (aa.bb (sig ids o.length)))))
  (hargs:args=bW (sig ids o.length) args0)(u:aQ ids.length args0=true)(q:∀(k:Nat)ob,o0[k]?=some (some ob)->bE ids.length ob.rows=true)
  (k:K (H.bb (sig ids o.length)) (fj (sig ids o.length) ids o1 o)):dP P f args o K:=
 ⟨_,_,(ft.frame ids h A O hargs u q).mono (λr o' U=>by
  grind),k⟩
def Li(P:Program)(f:AV)(args:C5)(o:AC)(K:AV->AC->Prop):Prop:=match f with
 | .fn g first caps=>dP P g (first++args++caps) o K
 |_=>False
@[congr] theorem VP{f f':AV}{args args':C5}{o o':AC}{K:AV->AC->Prop}(h:f=f')(k:args=args')(l:o=o'):Li P f args o K=Li P f' args' o' K:=by rw[h,k,l]
theorem Sj(g:FuncId)(first caps args:C5)(o:AC)(K:AV->AC->Prop):Li P (.fn g first caps) args o K=dP P g (first++args++caps) o K:=rfl
def zP(P:Program)(op:Op)(s:AS)(K:AV->AC->Prop):Prop:=match op with
 | .pick _ _ _=>False
 | .call c=>match c.callee with
  | .value f=>Li P (s.ev f) (c.args.toList.map s.ev) s.o K
  |_=>AR (SK P s.ev s.o (.call c)) K
 |op=>AR (SK P s.ev s.o op) K
theorem SD{s:AS}{op:Op}{K:AV->AC->Prop}(h:zP P op s K):∃r o',K r o'∧zP P op s (λq o''=>q=r∧o''=o'):=by
 unfold zP at h⊢
 split at h
 ·exact h.elim
 ·split at h
  ·unfold Li at h⊢
   split at h
   ·obtain⟨r,o',A,u⟩:=h;exact⟨r,o',u,r,o',A,rfl,rfl⟩
   grind
  ·unfold AR at h⊢
   grind
 ·unfold AR at h⊢
  grind
theorem Lq{s:AS}{rho:Operand->Value}{oo:Oper}{r:AV}{o':AC}(h:RO D nu s.o w)(q:Sr D nu s.o w s.ev rho oo.op)(u:zP P oo.op s (λA o''=>A=r∧o''=o')) :
  (∃v w' nu',((execOp rho oo).run P w=.ok (.value v) w'∨((execOp rho oo).run P w=.ok .skip w'∧v=Go.undef))∧cf nu s.o w nu' o' w'∧RO D nu' o' w'∧RA D nu' o' w' r v) ∨
  (∃g vargs,(execOp rho oo).run P w=.ok (.enter g vargs) w∧Calls P g vargs w (λe w'=>∃v nu',e=.returned v∧cf nu s.o w nu' o' w'∧RO D nu' o' w'∧RA D nu' o' w' r v)):=by
 have hop:∀op,oo.op=op->AR (SK P s.ev s.o op) (λA o''=>A=r∧o''=o')->(∃v w' nu',((execOp rho oo).run P w=.ok (.value v) w'∨((execOp rho oo).run P w=.ok .skip w'∧v=Go.undef))∧cf nu s.o w nu' o' w'∧RO D nu' o' w'∧RA D nu' o' w' r v):=by
  intro op O hh;subst O;unfold AR at hh
  split at hh
  ·rename_i p V o1 e;obtain⟨hp,rfl,rfl⟩:=hh;obtain⟨v,w',nu',h1,h2,h3,h4⟩:=Ev (P:=P) h q e hp
   grind
  grind
 unfold zP at u
 split at u
 ·exact u.elim
 ·rename_i c O
  split at u
  ·rename_i f hc;unfold Li at u
   split at u
   ·rename_i g first caps e
    obtain⟨V,o1,hcall,rfl,rfl⟩:=u;have U:=q f (by grind[Op.operands,Call.operands]);rw[e]at U;generalize hq:rho f=vf at U
    cases U with
    |fn _ _ _ fi ca Y W q3 q4=>
    have hargs:∀x,x∈c.args.toList->RA D nu s.o w (s.ev x) (rho x):=λx hx=>q x (by grind[Op.operands,Call.operands])
    have H:gy D nu s.o w (first++c.args.toList.map s.ev++caps) (fi++c.args.map rho++ca):=by
     refine⟨by simp[Y,W],λi cc x k1 k2=>?_⟩
     grind
    refine .inr ⟨g,_,?_,(hcall.2 D nu w _ h H).mono ?_⟩
    ·simp only[execOp,O,resolve,hc,hq,Deferred.ofValue,Sem.run_bind,Sem.run_pure,Result.andThen_ok,invoke];exact kZ hcall.1 _ w
    ·rintro e w' ⟨v,nu',o2,r2,rfl,m1,m2,m3,rfl,rfl⟩
     grind
   grind
  grind
 grind
def pc:NE->Nat->Option Nat
 | [],_=>none
 |(j,lo)::fs,k=>if j=k∧lo<1000 then some lo else pc fs k
def tf(ops:Array Oper):Nat->GT
 |0,_,_=>false
 |n+1,j,i=>bd ops j i||(List.range ops.size).any (λk=>bd ops j k&&tf ops n k i)
def Tz(ops:Array Oper)(es:Do)(j:Nat):Bool:=es.all (λe=>decide (e=j)||if e<j then tf ops ops.size j e else tf ops ops.size e j)
def re:Do->Bool
 | []=>true
 | [_]=>true
 |a::b::l=>decide (a<b)&&re (b::l)
def O9(ops:Array Oper)(es:Do)(fs:NE)(j:Nat):Bool:=match pc fs j with
 |some lo=>decide (lo<=es.length)&&(es.take lo).all (λe=>tf ops ops.size j e)&&es.all (λe=>decide (e<j)||(e !=j&&tf ops ops.size e j))
 |none=>false
structure GG(D:Nat->Prop)(nu0:EQ)(o0:AC)(w0:World)(l:GE)(es:Do)(O:Nat->AC)where
 w:World
 nu:EQ
 done:Nat->Bool
 c:Nat
 ro:RO D nu (O c) w
 mono:cf nu0 o0 w0 nu (O c) w
 cl:∀j i,done j=true->bd l.toArray j i=true->done i=true
 ef:∀k e,es[k]?=some e->(done e=true↔k<c)
 le:c<=es.length
variable {nu0:EQ} {o0:AC} {w0:World} {l:GE} {es:Do} {O:Nat->AC}
def eo(D:Nat->Prop)(nu0:EQ)(o0:AC)(w0:World)(l:GE)(es:Do)(O:Nat->AC):pz:=
 ⟨GG D nu0 o0 w0 l es O,GG.w,λg g'=>cf g.nu (O g.c) g.w g'.nu (O g'.c) g'.w∧∀j,g.done j=true->g'.done j=true,λg=>⟨.refl _ _ _,λ_ h=>h⟩,λ_ _ _ h k=>⟨h.1.trans k.1,λj hj=>k.2 j (h.2 j hj)⟩,λj g=>g.done j=false⟩
def rk(D:Nat->Prop)(nu0:EQ)(o0:AC)(w0:World)(l:GE)(es:Do)(O:Nat->AC)(k:Nat)(r:AV):jY (eo D nu0 o0 w0 l es O):=
 ⟨λv g=>RA D g.nu (O g.c) g.w r v∧g.done k=true,λv g g' hR h=>⟨h.1.mono hR.1 (λ_ _ h=>h),hR.2 k h.2⟩⟩
def GG.next(g:GG D nu0 o0 w0 l es O)(k:Nat)(w':World)(hb:Below g.w.heap.size g.w w')(hd:∀i,bd l.toArray k i=true->g.done i=true)(he:es.contains k=false):GG D nu0 o0 w0 l es O where
 w:=w'
 nu:=g.nu
 done:=λj=>if j=k then true else g.done j
 c:=g.c
 ro:=g.ro.below hb
 mono:=g.mono.trans (aH hb)
 cl:=λj i h1 h2=>by
  by_cases hi:i=k
  ·simp[hi]
  ·simp only[if_neg hi]
   by_cases hj:j=k
   ·grind
   ·simp only[if_neg hj]at h1;exact g.cl j i h1 h2
 ef:=λm e h=>by
  have hne:e≠k:=λhh=>by
   grind
  simp only[if_neg hne];exact g.ef m e h
 le:=g.le
theorem GG.WC(g:GG D nu0 o0 w0 l es O)(k:Nat)(w':World)(q:Below g.w.heap.size g.w w')(A:∀i,bd l.toArray k i=true->g.done i=true)(u:es.contains k=false) :
  (eo D nu0 o0 w0 l es O).R g (g.next k w' q A u)∧∀i,i≠k->(eo D nu0 o0 w0 l es O).pre i g->(eo D nu0 o0 w0 l es O).pre i (g.next k w' q A u):=by
 refine⟨⟨aH q,λj H=>?_⟩,λi hi h=>?_⟩
 ·show(if j=k then true else g.done j)=true
  grind
 ·show(if i=k then true else g.done i)=false;simp[hi];exact h
def GG.eff(g:GG D nu0 o0 w0 l es O)(k:Nat)(w':World)(nu':EQ)(hm:cf g.nu (O g.c) g.w nu' (O (g.c+1)) w')(hr:RO D nu' (O (g.c+1)) w')(hd:∀i,bd l.toArray k i=true->g.done i=true)(he:es[g.c]?=some k)(hn:es.Nodup):GG D nu0 o0 w0 l es O where
 w:=w'
 nu:=nu'
 done:=λj=>if j=k then true else g.done j
 c:=g.c+1
 ro:=hr
 mono:=g.mono.trans hm
 cl:=λj i h1 h2=>by
  by_cases hi:i=k
  ·simp[hi]
  ·simp only[if_neg hi]
   by_cases hj:j=k
   ·grind
   ·simp only[if_neg hj]at h1;exact g.cl j i h1 h2
 ef:=λm e h=>by
  by_cases hek:e=k
  ·grind[afl,aek]
  ·simp only[if_neg hek]
   have hne:m≠g.c:=λhh=>by grind
   rw[g.ef m e h];omega
 le:=(aek.1 he).1
theorem GG.YU(g:GG D nu0 o0 w0 l es O)(k:Nat)(w':World)(nu':EQ)(q:cf g.nu (O g.c) g.w nu' (O (g.c+1)) w')(u:RO D nu' (O (g.c+1)) w')(H:∀i,bd l.toArray k i=true->g.done i=true)(A:es[g.c]?=some k)(hn:es.Nodup) :
  (eo D nu0 o0 w0 l es O).R g (g.eff k w' nu' q u H A hn)∧∀i,i≠k->(eo D nu0 o0 w0 l es O).pre i g->(eo D nu0 o0 w0 l es O).pre i (g.eff k w' nu' q u H A hn):=by
 refine⟨⟨q,λj U=>?_⟩,λi hi h=>?_⟩
 ·show(if j=k then true else g.done j)=true
  grind
 ·show(if i=k then true else g.done i)=false;simp[hi];exact h
theorem mS(g:GG D nu0 o0 w0 l es O):∀(n j i:Nat),tf l.toArray n j i=true->g.done j=true->g.done i=true
 |0,_,_,h,_=>by cases h
 |n+1,j,i,h,q=>by
  simp only[tf,afa,List.any_eq_true,aeW]at h
  rcases h with h|⟨k,_,A,u⟩
  ·exact g.cl j i q h
  ·exact mS g n k i u (g.cl j k q A)
theorem uX(g:GG D nu0 o0 w0 l es O){n j i:Nat}(h:tf l.toArray n j i=true)(q:∀i,bd l.toArray j i=true->g.done i=true):g.done i=true:=by
 cases n with
 |zero=>cases h
 |succ n=>
  simp only[tf,afa,List.any_eq_true,aeW]at h
  grind[mS]
theorem GG.Ez(g:GG D nu0 o0 w0 l es O){k m:Nat}(V:Tz l.toArray es k=true)(hd:∀i,bd l.toArray k i=true->g.done i=true)(hk:g.done k=false)(hm:∀W e,es[W]?=some e->(e<k↔W<m))(Y:m<=es.length):g.c=m:=by
 simp only[Tz,ae7,afa,decide_eq_true_eq]at V
 have h1:g.c<=m:=by
  rcases aei m g.c with q|q
  ·exfalso;have u:m<es.length:=Nat.lt_of_lt_of_le q g.le;have A:es[m]?=some es[m]:=aes u;have hdn:=(g.ef m _ A).2 q
   have U: ¬es[m]<k:=λhh=>by grind
   rcases V _ (afm u)with h|h
   ·grind
   ·rw[if_neg U]at h
    grind[mS]
  ·exact q
 have h2:m<=g.c:=by
  rcases afn m with q|q
  ·omega
  ·have u:m-1<es.length:=zd
   have A:es[m-1]?=some es[m-1]:=aes u;have H:=(hm _ _ A).2 zd
   rcases V _ (afm u)with h|h
   ·omega
   ·rw[if_pos H]at h
    have:=(g.ef _ _ A).1 (uX g h hd)
    omega
 omega
theorem GG.Oo(g:GG D nu0 o0 w0 l es O){k m lo:Nat}{fs:NE}(W:O9 l.toArray es fs k=true)(H:pc fs k=some lo)(hd:∀i,bd l.toArray k i=true->g.done i=true)(hk:g.done k=false)(hm:∀V e,es[V]?=some e->(e<k↔V<m)):lo<=g.c∧g.c<=m:=by
 simp only[O9,H,aeW,ae7,afa,decide_eq_true_eq]at W;obtain⟨⟨h0,h1⟩,h2⟩:=W
 constructor
 ·rcases afn lo with q|q
  ·omega
  ·have u:lo-1<es.length:=zd
   have U:es[lo-1]?=some es[lo-1]:=aes u;have A:es[lo-1]∈es.take lo:=List.mem_take_iff_getElem.2 ⟨lo-1,zd,rfl⟩
   have:=(g.ef _ _ U).1 (uX g (h1 _ A) hd)
   omega
 ·rcases aei m g.c with q|q
  ·exfalso;have u:m<es.length:=Nat.lt_of_lt_of_le q g.le;have U:es[m]?=some es[m]:=aes u;have Y:=(g.ef m _ U).2 q
   grind[afm,mS]
  ·exact q
theorem Hw{N:pz}{f:Nat->AV->jY N}{rs:C5}{i:Nat}{e:AV}(h:rs[i]?=some e):Co (rs.mapIdx f) i=f i e:=by
 grind[Co]
theorem SU{N:pz}{f:Nat->AV->jY N}{rs:C5}{i:Nat}{e:AV}(h:rs[i]?=some e):Co (rs.mapIdx f) i=f i e:=Hw h
structure Ss(l:GE)(s:AS)(a:Act)(k:Nat)(sk:AS)(rs:C5)(A:(Nat->Value)->Act):Prop where
 y:sk.y=s.y
 len:rs.length=k
 mh:∀x,(A x).defers=a.defers
 size:∀x,sk.t.length=(A x).tmps.size
 val:∀x(t:Nat)c v,sk.t[t]?=some c->(A x).tmps[t]?=some v->(s.t[t]?=some c∧a.tmps[t]?=some v)∨∃i,i<k∧(∃oi,l[i]?=some oi∧oi.dst=some t)∧rs[i]?=some c∧v=x i
theorem Ss.step{l:GE}{s:AS}{a:Act}{k:Nat}{sk:AS}{rs:C5}{A:(Nat->Value)->Act}(h:Ss l s a k sk rs A){oo:Oper}(W:l[k]?=some oo)(r:AV)(o':AC) :
  Ss l s a (k+1) (sk.put oo.dst r o') (rs++[r]) (λx=>(A x).put oo.dst (x k)):=by
 refine⟨h.y,by simp[h.len],λx=>?_,λx=>?_,λx t c v q u=>?_⟩
 ·have:=h.mh x;cases oo.dst<;>simpa [Act.put]using this
 ·have:=h.size x;cases oo.dst<;>simpa [Act.put,AS.put]using this
 ·have oy:sk.t[t]?=some c->(A x).tmps[t]?=some v->(s.t[t]?=some c∧a.tmps[t]?=some v)∨∃i,i<k+1∧(∃oi,l[i]?=some oi∧oi.dst=some t)∧(rs++[r])[i]?=some c∧v=x i:=by
   intro q u
   rcases h.val x t c v q u with Y|⟨i,q1,q2,q3,q4⟩
   ·exact .inl Y
   grind
  cases V:oo.dst with
  |none=>rw[V]at q u;exact oy q u
  |some d=>
   rw[V]at q u;simp only[AS.put,Act.put]at q u
   by_cases U:d=t
   ·subst U;have H:=(aek.1 q).1;simp only[List.length_set]at H;rw[List.getElem?_set_self H]at q;rw[Array.getElem?_setIfInBounds_self_of_lt (by grind)]at u;cases q;cases u;exact .inr ⟨k,zd,⟨oo,W,V⟩,by rw[aeA (by rw[h.len];omega),h.len,Nat.sub_self];rfl,rfl⟩
   grind
theorem Iq{l:GE}(H:tR l.toArray=true){i j:Nat}{oi oj:Oper}(u:i<j)(hi:l[i]?=some oi)(A:l[j]?=some oj):bd l.toArray j i=true∨∀d,oi.dst=some d->d∉oj.looksAt l.toArray:=by
 simp only[tR,aeW,ae7,ae8,ae9]at H;have q:=(aek.1 A).1
 have:=(H.2 j q).1 i u
 simp only[KD,aet,hi,A,aeW,afa,afo]at this
 grind
theorem ng:∀{l:Do},re l=true->∀(i j x y:Nat),i<j->l[i]?=some x->l[j]?=some y->x<y
 | [],_,i,j,x,y,_,h,_=>by simp at h
 | [a],_,i,j,x,y,A,q,u=>by
  grind
 |a::b::l,h,i,j,x,y,A,q,u=>by
  simp only[re,aeW,decide_eq_true_eq]at h
  match i,j,q,u with
  |0,1,q,u=>grind
  |0,j+2,q,u=>
   cases q
   have:=ng h.2 0 (j+1) b y zd rfl (by grind)
   omega
  |i+1,j+1,q,u=>exact ng h.2 i j x y zd (by grind) (by grind)
theorem mr{l:Do}(h:re l=true):l.Nodup:=by
 refine List.pairwise_iff_getElem.2 (λi j hi u q=>?_)
 have:=ng h i j _ _ q (aes hi) (aes u)
 omega
def yD:NE->Nat->Option Nat
 | [],_=>none
 |(j,lo)::fs,k=>if j=k∧1000<=lo then some (lo-1000)else yD fs k
def WS:Option (Nat->AC->Prop)->Nat->AC->Prop
 |none,_,_=>True
 |some p,k,o=>p k o
def l9(es:Do)(k:Nat):Do:=es.filter (λe=>decide (k<=e))
theorem qt{es:Do}{k:Nat}(h:es.contains k=false):l9 es k=l9 es (k+1):=by
 refine List.filter_congr λe A=>?_
 have q:e≠k:=λu=>by subst u;simp[A]at h
 rw[decide_eq_decide];omega
theorem E2{es:Do}{k:Nat}(h:∀e,e∈es->k<=e):l9 es k=es:=List.filter_eq_self.2 λe q=>decide_eq_true (h e q)
theorem E3:∀{es:Do}{k:Nat},re es=true->es.contains k=true->l9 es k=k::l9 es (k+1)
 | [],k,_,h=>by simp at h
 |a::t,k,A,h=>by
  have V:re t=true:=by
   cases t with
   |nil=>rfl
   |cons b t=>simp only[re,aeW]at A;exact A.2
  have q:∀e,e∈t->a<e:=λe u=>by
   obtain⟨i,hi⟩:=aey u;exact ng A 0 (i+1) a e zd rfl (by simpa using hi)
  by_cases U:a=k
  ·subst U;have h1:l9 t a=t:=E2 λe u=>Nat.le_of_lt (q e u);have Y:l9 t (a+1)=t:=E2 λe u=>q e u;rw[l9,afp, <- l9,h1,l9,afp, <- l9,Y,if_pos zk,if_neg zk]
  ·have H:t.contains k=true:=by
    simp only[List.contains_cons,afa,beq_iff_eq]at h
    rcases h with h|h
    ·exact absurd h.symm U
    ·exact h
   have W:=q k (by simpa using H);have IH:=E3 V H;rw[l9,afp, <- l9,IH,if_neg ahn,l9,l9,afp,if_neg ahn]
theorem L8{es:Do}{k m:Nat}(H:∀A e,es[A]?=some e->(e<k↔A<m)):l9 es k=es.drop m:=by
 have Y:l9 es k=l9 (es.take m++es.drop m) k:=by rw[List.take_append_drop]
 rw[Y,l9,List.filter_append]
 have W:(es.take m).filter (λe=>decide (k<=e))=[]:=List.filter_eq_nil_iff.2 λe u=>by
  obtain⟨i,hi⟩:=aey u;have q:=(aek.1 hi).1;rw[List.getElem?_take_of_lt (by simp at q;omega)]at hi
  have:=(H i e hi).2 (by simp at q;omega)
  simp;omega
 have V:(es.drop m).filter (λe=>decide (k<=e))=es.drop m:=List.filter_eq_self.2 λe u=>by
  obtain⟨i,hi⟩:=aey u;rw[aeZ]at hi
  have: ¬e<k:=λU=>by have:=(H _ e hi).1 U;omega
  simp;omega
 rw[W,V,List.nil_append]
def dx(P:Program)(all:GE)(es:Do)(fs:NE):GE->Nat->AS->List AC->Option (Nat->AC->Prop)->(AS->Prop)->Prop
 | [],_,s,_,_,Q=>Q s
 |oo::rest,k,s,hist,pn,Q=>if es.contains k then(match oo.guard with
   |none=>zP P oo.op s (λr o'=>WS pn k o'∧dx P all es fs rest (k+1) (s.put oo.dst r o') (hist++[s.o]) pn Q)
   |some _=>False)else match pc fs k with
   |some lo=>oo.guard=none∧dM P oo.op s (λr=>(∀o',o'∈hist.drop lo->dM P oo.op ⟨s.t,o',s.y⟩ (λr'=>r'=r))∧dx P all es fs rest (k+1) (s.put oo.dst r s.o) hist pn Q)
   |none=>match yD fs k with
    |some c=>oo.guard=none∧dM P oo.op s (λr=>dx P all es fs rest (k+1) (s.put oo.dst r s.o) hist (some λk' o'=>WS pn k' o'∧(if k'<c then dM P oo.op ⟨s.t,o',s.y⟩ (λr'=>r'=r)else True)) Q)
    |none=>fw P all oo s (λs'=>dx P all es fs rest (k+1) s' hist pn Q)
def YG(P:Program)(all:GE)(es:Do)(fs:NE):GE->Nat->AS->List AC->C5->List AC->AS->Prop
 | [],_,s,_,rs,os,sf=>rs=[]∧os=[]∧sf=s
 |oo::rest,k,s,hist,rs,os,sf=>∃r rs',rs=r::rs' ∧
   ((es.contains k=true∧oo.guard=none∧∃o' os',os=o'::os'∧zP P oo.op s (λr' o''=>r'=r∧o''=o')∧YG P all es fs rest (k+1) (s.put oo.dst r o') (hist++[s.o]) rs' os' sf) ∨
   (es.contains k=false∧(((oo.guard=none∨∃j want b,oo.guard=some (j,want)∧nV all s j=some (some b)∧(b==want)=true)∧dM P oo.op s (λr'=>r'=r)∧(∀lo,pc fs k=some lo->∀o',o'∈hist.drop lo->dM P oo.op ⟨s.t,o',s.y⟩ (λr'=>r'=r))∧(pc fs k=none->∀c,yD fs k=some c->∀(i e:Nat)o',(l9 es (k+1))[i]?=some e->e<c->os[i]?=some o'->dM P oo.op ⟨s.t,o',s.y⟩ (λr'=>r'=r))) ∨
    (pc fs k=none∧yD fs k=none∧r=.v Go.undef∧∃j want g,oo.guard=some (j,want)∧nV all s j=some g∧(g=none∨∃b,g=some b∧(b==want)=false)))∧YG P all es fs rest (k+1) (s.put oo.dst r s.o) hist rs' os sf))
theorem iH{all:GE}{es:Do}{fs:NE}(hrise:re es=true):∀(rest:GE)(k:Nat)(s:AS)(q:List AC){pn:Option (Nat->AC->Prop)}{Q:AS->Prop},dx P all es fs rest k s q pn Q->∃rs os sf,YG P all es fs rest k s q rs os sf∧(∀(i e:Nat)o',(l9 es k)[i]?=some e->os[i]?=some o'->WS pn e o')∧Q sf
 | [],k,s,q,pn,Q,h=>⟨[],[],s,⟨rfl,rfl,rfl⟩,(λ_ _ _ _ h=>by simp at h),h⟩
 |oo::rest,k,s,q,pn,Q,h=>by
  simp only[dx]at h
  cases u:es.contains k
  ·rw[u]at h;simp only[afq,if_false]at h
   cases hf:pc fs k with
   |some lo=>
    rw[hf]at h;obtain⟨V,h⟩:=h;obtain⟨r,⟨hh,Y⟩,W⟩:=qn h;obtain⟨rs,os,sf,U,H⟩:=iH hrise rest (k+1) _ q Y;exact⟨r::rs,os,sf,⟨r,rs,rfl,.inr ⟨u,.inl ⟨.inl V,W,(λlo' hl=>by rw[hf]at hl;cases hl;exact hh),λhn=>by rw[hf]at hn;cases hn⟩,U⟩⟩,by rw[qt u];exact H⟩
   |none=>
   rw[hf]at h
   have hno:∀r lo,pc fs k=some lo->∀o',o'∈q.drop lo->dM P oo.op ⟨s.t,o',s.y⟩ (λr'=>r'=r):=λr lo hl=>by rw[hf]at hl;cases hl
   simp only at h;cases A:yD fs k
   case some cc=>
    rw[A]at h;simp only at h;obtain⟨V,h⟩:=h;obtain⟨r,Y,W⟩:=qn h;obtain⟨rs,os,sf,U,h0,H⟩:=iH hrise rest (k+1) _ q Y;exact⟨r::rs,os,sf,⟨r,rs,rfl,.inr ⟨u,.inl ⟨.inl V,W,hno r,λ_ c hc i e o' he' hlt' ho'=>by rw[A]at hc;cases hc;have:=(h0 i e o' he' ho').2;rw[if_pos hlt']at this;exact this⟩,U⟩⟩,λi e o' he' ho'=>(h0 i e o' (by rw[qt u]at he';exact he') ho').1,H⟩
   have hla:∀(r:AV)(os:List AC),pc fs k=none->∀c,yD fs k=some c->∀(i e:Nat)o',(l9 es (k+1))[i]?=some e->e<c->os[i]?=some o'->dM P oo.op ⟨s.t,o',s.y⟩ (λr'=>r'=r):=λr os _ c h=>by rw[A]at h;cases h
   rw[A]at h;simp only at h;simp only[fw]at h
   split at h
   ·rename_i V;obtain⟨r,Y,W⟩:=qn h;obtain⟨rs,os,sf,U,H⟩:=iH hrise rest (k+1) _ q Y;exact⟨r::rs,os,sf,⟨r,rs,rfl,.inr ⟨u,.inl ⟨.inl V,W,hno r,hla r _⟩,U⟩⟩,by rw[qt u];exact H⟩
   ·rename_i j want V;unfold Aj at h
    split at h
    ·rename_i b e
     cases hb:b==want
     ·rw[hb,Ak]at h;obtain⟨rs,os,sf,U,H⟩:=iH hrise rest (k+1) _ q h;exact⟨_::rs,os,sf,⟨_,rs,rfl,.inr ⟨u,.inr ⟨hf,A,rfl,j,want,_,V,e,.inr ⟨b,rfl,hb⟩⟩,U⟩⟩,by rw[qt u];exact H⟩
     ·rw[hb,Ef]at h;obtain⟨r,Y,W⟩:=qn h;obtain⟨rs,os,sf,U,H⟩:=iH hrise rest (k+1) _ q Y;exact⟨r::rs,os,sf,⟨r,rs,rfl,.inr ⟨u,.inl ⟨.inr ⟨j,want,b,V,e,hb⟩,W,hno r,hla r _⟩,U⟩⟩,by rw[qt u];exact H⟩
    ·rename_i e;obtain⟨rs,os,sf,U,H⟩:=iH hrise rest (k+1) _ q h;exact⟨_::rs,os,sf,⟨_,rs,rfl,.inr ⟨u,.inr ⟨hf,A,rfl,j,want,_,V,e,.inl rfl⟩,U⟩⟩,by rw[qt u];exact H⟩
    ·exact h.elim
  ·rw[u]at h;simp only[if_true]at h
   split at h
   ·rename_i V;obtain⟨r,o',⟨hpo,Y⟩,W⟩:=SD h;obtain⟨rs,os,sf,U,h0,H⟩:=iH hrise rest (k+1) _ _ Y
    exact⟨r::rs,o'::os,sf,⟨r,rs,rfl,.inl ⟨u,V,o',os,rfl,W,U⟩⟩,λi e o'' hi ho=>by
     rw[E3 hrise u]at hi
     cases i with
     |zero=>simp only[afr,Option.some.injEq]at hi ho;subst hi;subst ho;exact hpo
     |succ i=>rw[afs]at hi ho;exact h0 i e o'' hi ho,H⟩
   ·exact h.elim
def TR(ops:Array Oper)(es:Do)(fs:NE)(j:Nat):Bool:=match yD fs j with
 |some c=> !es.contains j&&(pc fs j).isNone&&es.all (λe=>decide (j<=e)||tf ops ops.size j e)&&es.all (λe=>decide (e<c)||tf ops ops.size e j)
 |none=>false
def uS(ops:Array Oper)(es:Do)(fs:NE):Bool:=tR ops&&re es&&es.all (λe=>decide (e<ops.size))&&(List.range ops.size).all (λj=>(match ops[j]? with|some oo=>Qm oo.op|none=>true) && !es.contains j||Tz ops es j||O9 ops es fs j||TR ops es fs j)
theorem TS{ops:Array Oper}{es:Do}{fs:NE}{j:Nat}(h:TR ops es fs j=true):∃c,yD fs j=some c∧pc fs j=none∧es.contains j=false∧(∀e,e∈es->j<=e∨tf ops ops.size j e=true)∧(∀e,e∈es->c<=e->tf ops ops.size e j=true):=by
 unfold TR at h
 split at h
 ·rename_i c A;simp only[aeW,afo,ae7,afa,decide_eq_true_eq]at h;refine⟨c,A,by have:=h.1.1.2;simpa using this,h.1.1.1,h.1.2,λe u hle=>?_⟩
  rcases h.2 e u with q|q
  ·omega
  ·exact q
 ·cases h
theorem GG.SX(g:GG D nu0 o0 w0 l es O){k m:Nat}(Y:∀e,e∈es->k<=e∨tf l.toArray l.toArray.size k e=true)(hd:∀i,bd l.toArray k i=true->g.done i=true)(V:∀A e,es[A]?=some e->(e<k↔A<m))(U:m<=es.length):m<=g.c:=by
 rcases afn m with q|q
 ·omega
 ·have u:m-1<es.length:=zd
  have H:es[m-1]?=some es[m-1]:=aes u;have W:=(V _ _ H).2 zd
  rcases Y _ (afm u)with h|h
  ·omega
  ·have:=(g.ef _ _ H).1 (uX g h hd)
   omega
theorem Js{l:GE}{es:Do}{fs:NE}(W:∀e,e∈es->e<l.length)(hrise:re es=true):∀(rest:GE)(k m:Nat)(s:AS)(H:List AC)(rs:C5)(os:List AC)(sf:AS),l.drop k=rest->k<=l.length->YG P l es fs rest k s H rs os sf->m<=es.length ->
  (∀U e,es[U]?=some e->(e<k↔U<m))->os.length+m=es.length
 | [],k,m,s,H,rs,os,sf,hl,hk,Y,hm,A=>by
  obtain⟨rfl,rfl,rfl⟩:=Y
  have hkl:k=l.length:=by have:=congrArg List.length hl;simp at this;omega
  rcases aei m es.length with q|q
  ·have he:es[m]?=some es[m]:=aes q
   have:=(A m _ he).1 (by rw[hkl];exact W _ (afm q))
   omega
  ·simp;omega
 |oo::rest,k,m,s,H,rs,os,sf,hl,hk,Y,hm,A=>by
  have hlt:k<l.length:=by have:=congrArg List.length hl;simp at this;omega
  have hl':l.drop (k+1)=rest:=by have:=congrArg List.tail hl;simpa using this
  obtain⟨r,rs',rfl,Y⟩:=Y
  rcases Y with⟨he,hg,o',os',rfl,hd,V⟩|⟨he,hstep,V⟩
  ·have hkm:k∈es:=by simpa using he
   obtain⟨mk,u⟩:=aey hkm
   have hmke:mk=m:=by
    have h1: ¬mk<m:=λhh=>by have:=(A mk k u).2 hh;omega
    rcases aei m mk with q|q
    ·have hlt2:m<es.length:=by have:=(aek.1 u).1;omega
     have hem:es[m]?=some es[m]:=aes hlt2;have hlt3:=ng hrise m mk _ _ q hem u
     have:=(A m _ hem).1 hlt3
     omega
    ·omega
   subst hmke;have hmlt:=(aek.1 u).1
   have:=Js W hrise rest (k+1) (mk+1) _ _ _ _ _ hl' hlt V zd (λU e h=>by
    by_cases hek:e=k
    ·subst hek
     have:U=mk:=(afl (aek.1 h).1 (mr hrise)).1 (h.trans u.symm)
     omega
    ·have:=A U e h
     have hne:U≠mk:=λhh=>by subst hh;rw[u]at h;cases h;exact hek rfl
     omega)
   simp only[List.length_cons];omega
  ·exact Js W hrise rest (k+1) m _ _ _ _ _ hl' hlt V hm (λU e h=>by
    have hne:e≠k:=λhh=>by
     subst hh
     have:=aeG h
     simp[this]at he
    rw[<-A U e h];omega)
theorem pE{f:Fr}{fs:NE}(hB:uS l.toArray es fs=true){s sf:AS}{a:Act}{w0:World}{rs:C5}{os:List AC}{R:Exit->Act->World->Prop}{g0:GG D nu s.o w0 l es (λc=>(s.o::os).getD c [])}(hs:RS f D nu s a w0)
  (hR:∀a' w' nu',cf nu s.o w0 nu' sf.o w'->sf.y=s.y->RS f D nu' sf a' w'->R .normal a' w') :
  ∀(rest:GE)(k m:Nat)(sk:AS)(Y:List AC)(V rs2:C5)(os2:List AC)(A:(Nat->Value)->Act),l.drop k=rest->YG P l es fs rest k sk Y rs2 os2 sf->(s.o::os).take m=Y->rs=V++rs2->Ss l s a k sk V A->(s.o::os).drop m=sk.o::os2 ->
   m<=es.length->(∀m' e,es[m']?=some e->(e<k↔m'<m))->k<=l.length ->
   MM (N:=eo D nu s.o w0 l es (λc=>(s.o::os).getD c [])) P l.toArray (rs.mapIdx (λk r=>rk D nu s.o w0 l es (λc=>(s.o::os).getD c []) k r)) g0 (R .normal) rest k A
 | [],k,m,sk,Y,V,rs2,os2,A,hl,ht,hhi,hrs,hI,hO,hml,W,hk=>by
  obtain⟨rfl,rfl,rfl⟩:=ht;intro x g hE hD
  have hkl:k=l.length:=by have:=congrArg List.length hl;simp at this;omega
  have hspec:∀i r,V[i]?=some r->(rk D nu s.o w0 l es (λc=>(s.o::os).getD c []) i r).p (x i) g:=λi r hr=>by
   have hik:i<k:=by rw[<-hI.len];exact(aek.1 hr).1
   have:=hD i hik
   rw[hrs,List.append_nil,SU hr]at this;exact this
  have hdone:∀i,i<k->g.done i=true:=λi hi=>by
   have H:i<V.length:=by rw[hI.len];exact hi
   exact(hspec i _ (aes H)).2
  have hsz:∀e,e∈es->e<l.length:=by
   simp only[uS,aeW,ae7,decide_eq_true_eq,ae9]at hB;exact hB.1.2
  have hm:m=es.length:=by
   rcases aei m es.length with q|q
   ·have he:es[m]?=some es[m]:=aes q
    have:=(W m _ he).1 (by rw[hkl];exact hsz _ (afm q))
    omega
   ·omega
  have hc:g.c=m:=by
   have h1:=g.le
   rcases afn m with q|q
   ·omega
   ·have H:m-1<es.length:=zd
    have he:es[m-1]?=some es[m-1]:=aes H
    have:=(g.ef _ _ he).1 (hdone _ (by rw[hkl];exact hsz _ (afm H)))
    omega
  have hOm:(s.o::os).getD m []=sf.o:=by
   have:=congrArg (λl=>l[0]?) hO
   simp only[aeZ,Nat.add_zero,afr]at this;rw[aeS,this];rfl
  have hro:=g.ro;have hmo:=g.mono;simp only[hc,hOm]at hro hmo;refine hR (A x) g.w g.nu hmo hI.y ⟨hro,⟨hI.size x,λt c v h1 h2=>?_⟩,by rw[hI.mh x];exact hs.mh.mono hs.ro hmo⟩
  rcases hI.val x t c v h1 h2 with⟨h3,h4⟩|⟨i,q1,q2,q3,q4⟩
  ·exact(hs.tm.at' t c v h3 h4).mono hmo (λ_ _ h=>h)
  ·have:=(hspec i c q3).1
   simp only[hc,hOm]at this;rw[q4];exact this
 |oo::rest,k,m,sk,Y,V,rs2,os2,A,hl,ht,hhi,hrs,hI,hO,hml,W,hk=>by
  have hB':=hB;simp only[uS,aeW,ae7,decide_eq_true_eq,ae9,ae8,afa]at hB';obtain⟨⟨⟨hrel,hrise⟩,hszs⟩,hfix⟩:=hB'
  have H:k<l.length:=by have:=congrArg List.length hl;simp at this;omega
  have hok:l[k]?=some oo:=by have:=congrArg (λm=>m[0]?) hl;simpa using this
  have hl':l.drop (k+1)=rest:=by have:=congrArg List.tail hl;simpa using this
  have hOm:(s.o::os).getD m []=sk.o:=by
   have:=congrArg (λl=>l[0]?) hO
   simp only[aeZ,Nat.add_zero,afr]at this;rw[aeS,this];rfl
  obtain⟨r,rs',rfl,ht⟩:=ht
  have hrs':rs=(V++[r])++rs':=by rw[hrs];simp
  have hspecK:Co (rs.mapIdx (λk r=>rk D nu s.o w0 l es (λc=>(s.o::os).getD c []) k r)) k=rk D nu s.o w0 l es (λc=>(s.o::os).getD c []) k r:=by
   rw[hrs];exact Hw (by rw[aeA (by rw[hI.len];exact Nat.le_refl _),hI.len,Nat.sub_self];rfl)
  have hspec:∀(x:Nat->Value)(g:GG D nu s.o w0 l es (λc=>(s.o::os).getD c []))i rr,(Co (rs.mapIdx (λk r=>rk D nu s.o w0 l es (λc=>(s.o::os).getD c []) k r)) i).p (x i) g->V[i]?=some rr->RA D g.nu ((s.o::os).getD g.c []) g.w rr (x i)∧g.done i=true:=λx g i rr h hr=>by
   rw[hrs,Hw (by rw[List.getElem?_append_left (aek.1 hr).1];exact hr)]at h;exact h
  have hdep:∀i,bd l.toArray k i=true->i<k:=λi hi=>by
   simp only[tR,aeW,ae7,ae8,ae9]at hrel
   rcases Nat.lt_trichotomy i k with h|h|h
   ·exact h
   ·subst h
    have:=(hrel.2 i H).2.1
    rw[hi]at this;cases this
   ·exfalso;simp only[bd,aet,hok,Array.any_eq_true',aeW,beq_iff_eq]at hi;obtain⟨e,he,hb,rfl⟩:=hi;have hfar:=(hrel.2 k H).2.2;simp only[L5,aet,hok,Array.all_eq_true_iff_forall_mem]at hfar
    have hel:e.on<l.length:=by simpa using hfar e he
    have:=(hrel.2 e.on hel).1 k h
    simp only[KD,aet,hok,aes hel,aeW,afo]at this;have h2:=this.1.1.2;simp only[bd,aet,hok]at h2
    have:oo.after.any (λe_1=>Region.binds .any e_1&&e_1.on==e.on)=true:=by
     simp only[Array.any_eq_true',aeW,beq_iff_eq];exact⟨e,he,hb,rfl⟩
    rw[this]at h2;cases h2
  have hdoneD:∀(x:Nat->Value)(g:GG D nu s.o w0 l es (λc=>(s.o::os).getD c [])),(∀i,bd l.toArray k i=true->(Co (rs.mapIdx (λk r=>rk D nu s.o w0 l es (λc=>(s.o::os).getD c []) k r)) i).p (x i) g)->∀i,bd l.toArray k i=true->g.done i=true:=λx g hD i hi=>by
   have H:i<V.length:=by rw[hI.len];exact hdep i hi
   exact(hspec x g i _ (hD i hi) (aes H)).2

  have hlook:∀(x:Nat->Value)(g:GG D nu s.o w0 l es (λc=>(s.o::os).getD c [])),(∀i,bd l.toArray k i=true->(Co (rs.mapIdx (λk r=>rk D nu s.o w0 l es (λc=>(s.o::os).getD c []) k r)) i).p (x i) g)->∀(t:Nat)c v,t∈oo.looksAt l.toArray->sk.t[t]?=some c->(A x).tmps[t]?=some v->RA D g.nu ((s.o::os).getD g.c []) g.w c v:=by
   intro x g hD t c v ht h1 h2
   rcases hI.val x t c v h1 h2 with⟨h3,h4⟩|⟨i,q1,⟨oi,q2,q5⟩,q3,q4⟩
   ·exact(hs.tm.at' t c v h3 h4).mono g.mono (λ_ _ h=>h)
   ·rcases Iq hrel q1 q2 hok with h5|h5
    ·have:=(hspec x g i c (hD i h5) q3).1
     rw[q4];exact this
    ·exact absurd ht (h5 t q5)
  have hevs:∀(x:Nat->Value)(g:GG D nu s.o w0 l es (λc=>(s.o::os).getD c [])),(∀i,bd l.toArray k i=true->(Co (rs.mapIdx (λk r=>rk D nu s.o w0 l es (λc=>(s.o::os).getD c []) k r)) i).p (x i) g)->Sr D g.nu ((s.o::os).getD g.c []) g.w sk.ev (A x).eval oo.op:=by
   intro x g hD y hy
   cases y with
   |tmp t=>
    simp only[AS.ev,Act.eval]
    rcases aei t sk.t.length with H|hge
    ·have e1:sk.t[t]?=some sk.t[t]:=aes H
     have hlt':t<(A x).tmps.size:=by rw[<-hI.size x];exact H
     have hx:(A x).tmps[t]?=some (A x).tmps[t]:=Array.getElem?_eq_getElem hlt';rw[getD_some e1]
     have:(A x).tmps.getD t Go.undef=(A x).tmps[t]:=by simp[Array.getD,hlt']
     rw[this];exact hlook x g hD t _ _ (List.mem_append_left _ (List.mem_filterMap.2 ⟨.tmp t,hy,rfl⟩)) e1 hx
    ·have e0:sk.t.getD t .undef=.undef:=by rw[aeS,List.getElem?_eq_none hge];rfl
     rw[e0];exact .undef _
   |const v=>exact .v v
   |global gi=>exact(w9 hs.ro sk gi).mono g.mono (λ_ _ h=>h)
   |func f=>exact .fn f [] [] #[] #[] rfl rfl (λi c x h=>by simp at h) (λi c x h=>by simp at h)
  have hcont:∀(x:Nat->Value),es.contains k=false->∀m' e,es[m']?=some e->(e<k+1↔m'<m):=λ_ he m' e h=>by
   have hne:e≠k:=λhh=>by
    subst hh
    have:=aeG h
    simp[this]at he
   rw[<-W m' e h];omega
  rcases ht with⟨he,hg,o',os',rfl,hd,htr⟩|⟨he,hstep,htr⟩
  ·
   have hkm:k∈es:=by simpa using he
   obtain⟨mk,hmk⟩:=aey hkm
   have hmke:mk=m:=by
    have h1: ¬mk<m:=λhh=>by have:=(W mk k hmk).2 hh;omega
    rcases aei m mk with q|q
    ·have hlt2:m<es.length:=by have:=(aek.1 hmk).1;omega
     have hem:es[m]?=some es[m]:=aes hlt2;have hlt3:=ng hrise m mk _ _ q hem hmk
     have:=(W m _ hem).1 hlt3
     omega
    ·omega
   subst hmke
   have hOm1:(s.o::os).getD (mk+1) []=o':=by
    have h1:=congrArg (λ(l:List AC)=>l[1]?) hO;simp only[aeZ]at h1;rw[aeS,h1];rfl
   refine⟨λx g hE hD hp=>?_,?_⟩
   ·have hdd:=hdoneD x g hD
    have hfx:Tz l.toArray es k=true:=by
     rcases hfix k H with((h|h)|h)|h
     ·have:=h.2;simp[hkm]at this
     ·exact h
     ·exfalso;simp only[O9]at h
      split at h
      ·simp only[aeW,ae7,afa,decide_eq_true_eq]at h
       rcases h.2 k hkm with q|q
       ·omega
       ·simp at q
      ·cases h
     ·exfalso;simp only[TR]at h
      split at h
      ·simp only[aeW]at h
       have:=h.1.1.1;simp[hkm]at this
      ·cases h
    have hc:g.c=mk:=g.Ez hfx hdd hp W hml;have hev:=hevs x g hD;have hro:=g.ro;simp only[hc,hOm]at hev hro;refine .inl ⟨by simp[Region.wanted,hg],?_⟩;rw[hspecK]
    have hgo:∀(v:Value)(w':World)(nu':EQ),cf g.nu sk.o g.w nu' o' w'->RO D nu' o' w'->RA D nu' o' w' r v ->
      ∃g':GG D nu s.o w0 l es (λc=>(s.o::os).getD c []),(eo D nu s.o w0 l es (λc=>(s.o::os).getD c [])).wd g'=w'∧(eo D nu s.o w0 l es (λc=>(s.o::os).getD c [])).R g g'∧(∀i,i≠k->(eo D nu s.o w0 l es (λc=>(s.o::os).getD c [])).pre i g->(eo D nu s.o w0 l es (λc=>(s.o::os).getD c [])).pre i g')∧(rk D nu s.o w0 l es (λc=>(s.o::os).getD c []) k r).p v g':=by
     intro v w' nu' m1 m2 m3
     have hm':cf g.nu ((s.o::os).getD g.c []) g.w nu' ((s.o::os).getD (g.c+1) []) w':=by rw[hc,hOm,hOm1];exact m1
     have hr':RO D nu' ((s.o::os).getD (g.c+1) []) w':=by rw[hc,hOm1];exact m2
     have hek:es[g.c]?=some k:=by rw[hc];exact hmk
     have hR2:=g.YU k w' nu' hm' hr' hdd hek (mr hrise)
     refine⟨g.eff k w' nu' hm' hr' hdd hek (mr hrise),rfl,hR2.1,hR2.2,?_,?_⟩
     ·show RA D nu' ((s.o::os).getD (g.c+1) []) w' r v;rw[hc,hOm1];exact m3
     ·show(if k=k then true else g.done k)=true;simp
    rcases Lq (P:=P) (rho:=(A x).eval) hro hev hd with⟨v,w',nu',h1,m1,m2,m3⟩|⟨gf,vargs,h1,h2⟩
    ·rcases h1 with h1|⟨h1,rfl⟩
     ·have e1:(execOp (A x).eval oo).run P ((eo D nu s.o w0 l es (λc=>(s.o::os).getD c [])).wd g)=.ok (.value v) w':=h1;rw[e1];exact hgo v w' nu' m1 m2 m3
     ·have e1:(execOp (A x).eval oo).run P ((eo D nu s.o w0 l es (λc=>(s.o::os).getD c [])).wd g)=.ok .skip w':=h1;rw[e1];exact hgo _ w' nu' m1 m2 m3
    ·have e1:(execOp (A x).eval oo).run P ((eo D nu s.o w0 l es (λc=>(s.o::os).getD c [])).wd g)=.ok (.enter gf vargs) g.w:=h1;rw[e1];refine h2.mono ?_;rintro e w' ⟨v,nu',rfl,m1,m2,m3⟩;obtain⟨g',k1,k2,k3,k4⟩:=hgo v w' nu' m1 m2 m3;exact⟨v,g',rfl,k1,k2,k3,k4⟩
   ·refine pE hB hs hR rest (k+1) (mk+1) (sk.put oo.dst r o') (Y++[sk.o]) (V++[r]) rs' os' _ hl' htr (by rw[List.take_succ_eq_append_getElem (by have:=congrArg List.length hO;simp at this⊢; omega),hhi];congr 1;have:=hOm;rw[aeS,aes (by have:=congrArg List.length hO;simp at this⊢; omega)]at this;simpa using this) hrs' (hI.step hok r o') ?_ ((aek.1 hmk).1) (λm' e h=>?_) H
    ·have:=congrArg List.tail hO
     rw[List.tail_drop]at this;exact this
    ·by_cases hek:e=k
     ·subst hek
      have:m'=mk:=(afl (aek.1 h).1 (mr hrise)).1 (h.trans hmk.symm)
      omega
     ·have:=W m' e h
      have hne:m'≠mk:=λhh=>by subst hh;rw[hmk]at h;cases h;exact hek rfl
      omega
  ·refine⟨λx g hE hD hp=>?_,?_⟩
   ·have hdd:=hdoneD x g hD;rw[hspecK]
    have hnext:∀(v:Value)(w':World),RA D g.nu ((s.o::os).getD g.c []) w' r v->Below g.w.heap.size g.w w' ->
      ∃g':GG D nu s.o w0 l es (λc=>(s.o::os).getD c []),(eo D nu s.o w0 l es (λc=>(s.o::os).getD c [])).wd g'=w'∧(eo D nu s.o w0 l es (λc=>(s.o::os).getD c [])).R g g'∧(∀i,i≠k->(eo D nu s.o w0 l es (λc=>(s.o::os).getD c [])).pre i g->(eo D nu s.o w0 l es (λc=>(s.o::os).getD c [])).pre i g')∧(rk D nu s.o w0 l es (λc=>(s.o::os).getD c []) k r).p v g':=by
     intro v w' hr hb;have hR2:=g.WC k w' hb hdd he;refine⟨g.next k w' hb hdd he,rfl,hR2.1,hR2.2,hr,?_⟩;show(if k=k then true else g.done k)=true;simp
    have hyv:∀j want,oo.guard=some (j,want)->∀gg,nV l sk j=some gg->yielded l.toArray (A x).tmps j=gg:=λj want hg gg hgv=>
     jI (s:=⟨sk.t,(s.o::os).getD g.c [],sk.y⟩) (D:=D) (nu:=g.nu) (w:=g.w) (λd c v hd h1 h2=>by
      refine hlook x g hD d c v ?_ h1 h2;obtain⟨og,q1,q2⟩:=hd;refine List.mem_append_right _ ?_;simp only[hg,aet,q1,Option.bind_some,q2]
      simp) (hI.size x) (show nV l ⟨sk.t,_,sk.y⟩ j=some gg from hgv)
    rcases hstep with⟨hw,hd,hfl,hlat⟩|⟨_,_,rfl,j,want,gg,hg,hgv,hno⟩
    ·have hwant:Region.wanted oo (yielded l.toArray (A x).tmps)=true:=by
      rcases hw with hg|⟨j,want,b,hg,hgv,hb⟩
      ·simp[Region.wanted,hg]
      ·simp only[Region.wanted,hg,hyv j want hg _ hgv];simpa using hb
     refine .inl ⟨hwant,?_⟩
     have hd':dM P oo.op ⟨sk.t,(s.o::os).getD g.c [],sk.y⟩ (λr'=>r'=r):=by
      rcases hfix k H with((h|h)|h)|h
      ·rw[show l.toArray[k]?=some oo by simpa using hok]at h;exact Lr (by simpa using h.1) (show dM P oo.op ⟨sk.t,sk.o,sk.y⟩ (λr'=>r'=r)from hd)
      ·have hc:g.c=m:=g.Ez h hdd hp W hml;rw[hc,hOm];exact hd
      ·have hlo:∃lo,pc fs k=some lo:=by
        simp only[O9]at h
        split at h
        ·exact⟨_, ‹_›⟩
        ·cases h
       obtain⟨lo,hlo⟩:=hlo;obtain⟨c1,c2⟩:=g.Oo h hlo hdd hp W
       rcases Nat.eq_or_lt_of_le c2 with hc|hc
       ·rw[hc,hOm];exact hd
       ·have hgl:g.c<(s.o::os).length:=by have:=congrArg List.length hO;simp at this⊢; omega
        refine hfl lo hlo _ ?_;rw[<-hhi,aeS,aes hgl];refine List.mem_drop_iff_getElem.2 ⟨g.c-lo,by simp at hgl⊢; omega,?_⟩;rw[List.getElem_take];simp only[Option.getD_some]
        congr 1
        omega
      ·obtain⟨cc,hcc,q1,q2,q3,q4⟩:=TS h;have hc:=g.SX q3 hdd W hml
       rcases Nat.eq_or_lt_of_le hc with hc|hc
       ·rw[<-hc,hOm];exact hd
       ·have hle:=g.le;have hln:=Js hszs hrise rest (k+1) m _ _ _ _ _ hl' zd htr hml (hcont (λ_=>Go.undef) he);have e1:=congrArg (λ(l:List AC)=>l[g.c-m]?) hO;obtain⟨d,hd1⟩:∃d,g.c-m=d+1:=⟨g.c-m-1,zd⟩;simp only[aeZ,show m+(g.c-m)=g.c by omega]at e1;rw[hd1,afs,aes (l:=os2) zd]at e1;rw[aeS,e1]
        have hlt3:m+d<es.length:=zd
        have hed:es[m+d]?=some es[m+d]:=aes hlt3
        refine hlat q1 cc hcc d es[m+d] _ ?_ ?_ (aes (l:=os2) zd)
        ·rw[L8 (hcont (λ_=>Go.undef) he),aeZ];exact hed
        ·rcases aei es[m+d] cc with q|q
         ·exact q
         ·exfalso;have h5:=mS g _ _ _ (q4 _ (afm hlt3) q) ((g.ef _ _ hed).2 zd);have h6:g.done k=false:=hp;rw[h6]at h5;cases h5
     obtain⟨r',rfl,U⟩:=lp (P:=P) (s:=⟨sk.t,(s.o::os).getD g.c [],sk.y⟩) (rho:=(A x).eval) g.ro (hevs x g hD) hd';have e0:(execOp (A x).eval oo).run P ((eo D nu s.o w0 l es (λc=>(s.o::os).getD c [])).wd g)=(execOp (A x).eval oo).run P g.w:=rfl;rw[e0];generalize(execOp (A x).eval oo).run P g.w=res at U
     cases res with
     |halt _ _=>exact U.elim
     |ok n w'=>
      cases n<;>first|exact U.elim|skip
      case value u=>exact hnext u w' U.1.2 U.2
      case skip=>exact hnext _ w' U.1.2 U.2
      case enter gf vargs=>
       refine Calls.mono U ?_;rintro e w'' ⟨v,rfl,hv,hb⟩;obtain⟨g',k1,k2,k3,k4⟩:=hnext v w'' hv.2 hb;exact⟨v,g',rfl,k1,k2,k3,k4⟩
    ·refine .inr ⟨?_,?_⟩
     ·simp only[Region.wanted,hg,hyv j want hg _ hgv]
      rcases hno with rfl|⟨b,rfl,hb⟩
      ·rfl
      ·simpa using hb
     ·obtain⟨g',k1,k2,k3,k4⟩:=hnext Go.undef g.w (.v _) (.refl _ _);exact⟨g',k1,k2,k3,k4⟩
   ·have hO':(s.o::os).drop m=(sk.put oo.dst r s.o).o::os2->True:=λ_=>trivial;refine pE hB hs hR rest (k+1) m (sk.put oo.dst r sk.o) Y (V++[r]) rs' os2 _ hl' ?_ hhi hrs' (hI.step hok r sk.o) hO hml (hcont (λ_=>Go.undef) he) H;exact htr
theorem bG{n0 id:Nat}{s:AS}{l:GE}{Q:bg->AS->Prop}(es:Do)(fs:NE)(H:uS l.toArray es fs=true)(hC:dO l.toArray=true)(h:dx P l es fs l 0 s [] none (Q .normal)):cD P n0 (.region id l.toArray true) s Q:=by
 refine .inr (λf m D nu a w hZr hn hm W Y R hO hR=>?_);obtain⟨rs,os,sf,V,_,hq⟩:=iH (by simp only[uS,aeW]at H;exact H.1.1.2) l 0 s [] h;have q:=W.drew
 have u:tR l.toArray=true:=by
  simp only[uS,aeW]at H;exact H.1.1.1
 let g0:GG D nu s.o w.drew l es (λc=>(s.o::os).getD c []):=⟨w.drew,nu,λ_=>false,0,q.ro,.refl _ _ _,(λ_ _ h=>by cases h),(λ_ _ _=>zk),Nat.zero_le _⟩
 have A:=pE (P:=P) (R:=R) (rs:=rs) (g0:=g0) H q (λa' w' nu' h1 hy U=>hR .normal D f.Z sf a' w' nu' (by rw[hy];exact m.own hm W.ro ((aH (dE w)).trans h1) U.ro) U hq) l 0 0 s [] [] rs os (λ_=>a) zk V zk zk ⟨rfl,rfl,λ_=>rfl,λ_=>W.tm.len,λx t c v h1 U=> .inl ⟨h1,U⟩⟩ zk (Nat.zero_le _) (λm' e _=>zk) (Nat.zero_le _);exact uk Y hC hO (jE (N:=eo D nu s.o w.drew l es (λc=>(s.o::os).getD c [])) _ u g0 rfl (λ_=>rfl) A)
theorem au{all rest:GE}{es:Do}{fs:NE}{oo:Oper}{k:Nat}{s:AS}{q:List AC}{pn:Option (Nat->AC->Prop)}{Q:AS->Prop}(u:(es.contains k||(pc fs k).isSome||(yD fs k).isSome)=false)(h:∀K:AS->Prop,(∀s',dx P all es fs rest (k+1) s' q pn Q->K s')->fw P all oo s K):dx P all es fs (oo::rest) k s q pn Q:=by
 simp only[Bool.or_eq_false_iff]at u;simp only[dx,u.1.1,afq,if_false]
 cases A:pc fs k with
 |some lo=>rw[A]at u;simp at u
 |none=>
  have:yD fs k=none:=by have:=u.2;simpa using this
  rw[this];exact h _ (λ_ h=>h)
theorem ay{all rest:GE}{es:Do}{fs:NE}{dst:Option Tmp}{op:Op}{ty:TypeId}{pos:String}{aft:Array Edge}{k:Nat}{s:AS}{q:List AC}{Q:AS->Prop}(u:es.contains k=true)(h:∀K:AS->Prop,(∀s',dx P all es fs rest (k+1) s' (q++[s.o]) none Q->K s')->zP P op s (λr o'=>K (s.put dst r o'))):dx P all es fs (⟨dst,op,ty,pos,aft,none⟩ ::rest) k s q none Q:=by
 simp only[dx,u,if_true,WS,true_and];exact h _ (λ_ h=>h)
theorem aE{all rest:GE}{es:Do}{fs:NE}{dst:Option Tmp}{op:Op}{ty:TypeId}{pos:String}{aft:Array Edge}{k:Nat}{s:AS}{q:List AC}{p:Nat->AC->Prop}{Q:AS->Prop}(u:es.contains k=true)(h:∀K:AS->Prop,(∀s',dx P all es fs rest (k+1) s' (q++[s.o]) (some p) Q->K s')->zP P op s (λr o'=>p k o'∧K (s.put dst r o'))):dx P all es fs (⟨dst,op,ty,pos,aft,none⟩ ::rest) k s q (some p) Q:=by
 simp only[dx,u,if_true,WS];exact h _ (λ_ h=>h)
theorem aW{all rest:GE}{es:Do}{fs:NE}{dst:Option Tmp}{op:Op}{ty:TypeId}{pos:String}{aft:Array Edge}{k lo:Nat}{s:AS}{q:List AC}{pn:Option (Nat->AC->Prop)}{Q:AS->Prop}(A:(if es.contains k then none else pc fs k)=some lo)(h:∀K:AS->Prop,(∀s',dx P all es fs rest (k+1) s' q pn Q->K s')->dM P op s (λr=>(∀o',o'∈q.drop lo->dM P op ⟨s.t,o',s.y⟩ (λH=>H=r))∧K (s.put dst r s.o))):dx P all es fs (⟨dst,op,ty,pos,aft,none⟩ ::rest) k s q pn Q:=by
 have u:es.contains k=false:=by cases u:es.contains k<;>simp_all
 simp only[u,afq,if_false]at A;simp only[dx,u,afq,if_false,A];exact⟨trivial,h _ (λ_ h=>h)⟩
theorem aO{all rest:GE}{es:Do}{fs:NE}{dst:Option Tmp}{op:Op}{ty:TypeId}{pos:String}{aft:Array Edge}{k c:Nat}{s:AS}{q:List AC}{pn:Option (Nat->AC->Prop)}{Q:AS->Prop}(u:(!es.contains k&&(pc fs k).isNone)=true)(V:yD fs k=some c)(h:dM P op s (λr=>dx P all es fs rest (k+1) (s.put dst r s.o) q (some λA o'=>WS pn A o'∧(if A<c then dM P op ⟨s.t,o',s.y⟩ (λH=>H=r)else True)) Q)):dx P all es fs (⟨dst,op,ty,pos,aft,none⟩ ::rest) k s q pn Q:=by
 simp only[aeW,afo]at u;simp only[dx,u.1,afq,if_false]
 cases U:pc fs k with
 |some lo=>rw[U]at u;simp at u
 |none=>rw[V];exact⟨trivial,h⟩
theorem Hr{all:GE}{es:Do}{fs:NE}{k:Nat}{s:AS}{q:List AC}{pn:Option (Nat->AC->Prop)}{Q:AS->Prop}(h:Q s):dx P all es fs [] k s q pn Q:=h
instance {all:GE}{es:Do}{fs:NE}{k:Nat}{s:AS}{hist:List AC}{pn:Option (Nat->AC->Prop)}{Q:AS->Prop}:bA (dx P all es fs [] k s hist pn Q) (Q s):=⟨Hr⟩
end
attribute [go_sem] WS zP Sj List.forall_mem_cons List.not_mem_nil false_implies implies_true
end Go.Proofs.YtlhhccmopfamhaaGreatDoor
