/- texts of one claim, one behind the other. -/
import Derived.Test.YtjcobjgjjlahdaaGreatDoorWFen
import Derived.Test.YtjcobjgjjlahdaaGreatDoorWVerts
import Derived.Lib.SlicesCompact
import Derived.Test.YtjcobjgjjlahdaaGreatDoorWAbsZ
set_option linter.unusedSimpArgs false
set_option linter.unusedVariables false
set_option maxRecDepth 100000
set_option maxHeartbeats 16000000
open Bool renaming and_eq_true -> Rq, false_eq_true -> Sr, or_eq_true -> RJ, not_eq_true' -> Sw
open List renaming take_succ_eq_append_getElem -> Sf, foldl_append -> Sg, any_eq_true -> Sh, mem_append -> Si, mem_cons -> Sj, not_mem_nil -> Sk, foldl_cons -> R8, length_singleton -> Sl, mem_filter -> Sm, mem_cons_self -> RE, mem_cons_of_mem -> RC, pairwise_cons -> Sn, mem_take_iff_getElem -> Sq, getElem?_eq_some_iff -> QD, getElem?_toArray -> QU, getElem?_append_left -> QE, getElem?_append_right -> Q8, mem_of_getElem? -> Re, getElem?_inj -> Ss, all_eq_true -> RH, getElem?_eq_getElem -> QS, getElem_mem -> Su, getD_eq_getElem?_getD -> Rw, mem_range -> RI, size_toArray -> Q3, getElem?_of_mem -> Q2, getElem?_drop -> QQ, getElem?_cons_zero -> RU
open Array renaming getD_eq_getD_getElem? -> Rr, getElem?_append_left -> Rf, getElem?_append_right -> RB
open Nat renaming lt_or_ge -> QF, eq_zero_or_pos -> Sv
namespace Go.Proofs.YtjcobjgjjlahdaaGreatDoor
open Go.RowKit
theorem toList_inj {s t:ByteArray}:(s.toList==t.toList)=true↔s=t:=by
 refine ⟨fun h=> ?_,fun h=>by subst h;simp⟩;have h:=eq_of_beq h;rw [ByteArray.toList_eq,ByteArray.toList_eq] at h;obtain ⟨⟨l⟩⟩:=s;obtain ⟨⟨m⟩⟩:=t;have h:l=m:=h;subst h;rfl
theorem lP {s t:ByteArray}:s.toList=t.toList↔s=t:=by rw [<-toList_inj,beq_iff_eq]
theorem tp {α:Type} {f:α->α->Bool}: ∀(xs ys:List α),(∀x∈xs, ∀y,f x y=true↔x=y)->(fp f xs ys=true↔xs=ys)
 | [],[],_=>by simp [fp]
 | [],_ :: _,_=>by simp [fp]
 | _ :: _,[],_=>by simp [fp]
 | x :: xs,y :: ys,h=>by
  rw [fp,Rq,h x (by simp),tp xs ys (fun a ha=>h a (by simp [ha]))];simp
theorem rV: ∀x y:Ex,dt x y=true↔x=y:=by
 intro x
 induction x using Ex.ind with
 | h k s l ih=>
  rintro ⟨k',s',l'⟩;rw [jH,Rq,Rq,toList_inj,tp l l' ih,beq_iff_eq];simp [and_assoc]
theorem Mw (x y:oW):x.jX y=true↔x=y:=by
 obtain ⟨a,b,c⟩:=x;obtain ⟨a',b',c'⟩:=y;simp only [oW.jX,Rq,lP,beq_iff_eq,oW.mk.injEq,and_assoc]
theorem Lp (x y:eX):x.jX y=true↔x=y:=by
 obtain ⟨a,b,c,d⟩:=x;obtain ⟨a',b',c',d'⟩:=y;simp only [eX.jX,Rq,lP,beq_iff_eq,Mw,eX.mk.injEq,and_assoc]
theorem K9 (x y:dK):x.jX y=true↔x=y:=by
 obtain ⟨a,b,c⟩:=x;obtain ⟨a',b',c'⟩:=y;simp only [dK.jX,Rq,Lp,beq_iff_eq,dK.mk.injEq,and_assoc]
theorem Ls (x y:bV):fB x y=true↔x=y:=by
 obtain ⟨a,b,c,d,e,f⟩:=x;obtain ⟨a',b',c',d',e',f'⟩:=y;simp only [fB,Rq,lP,rV,beq_iff_eq,bV.mk.injEq,and_assoc]
def ur (q:fF):List eX:=q.conds.flatMap (fun c=>[c.left,c.right])++q.ret
def ib (o:eX):Int:=if o.kind==1 then 2 else if o.kind==3 then o.val.kind else 0
def lF (vs:List ByteArray):Option (List ByteArray)->bV->Option (List ByteArray)
 | none,_=>none
 | some ns,p=>if eU p.name then some ns else if hasB ns p.name||hasB vs p.name then none else some (ns++[p.name])
def C8 (vs:List ByteArray) (ps:List bV):Option (List ByteArray):=ps.foldl (lF vs) (some [])
theorem Ac (vs:List ByteArray) (ps:List bV):ps.foldl (lF vs) none=none:=by
 induction ps with
 | nil=>rfl
 | cons p ps ih=>exact ih
theorem ES (vs:List ByteArray) {ps:List bV} {i:Nat} (h:i<ps.length):C8 vs (ps.take (i+1))=lF vs (C8 vs (ps.take i)) ps[i]:=by
 rw [Sf h,C8,Sg];rfl
theorem wu {vs:List ByteArray} {ps:List bV} {i:Nat} (h:C8 vs (ps.take i)=none):C8 vs ps=none:=by
 conv=>lhs;rw [<-List.take_append_drop i ps]
 rw [C8,Sg]
 have:List.foldl (lF vs) (some []) (ps.take i)=none:=h
 rw [this,Ac]
def tW (l:List (ByteArray×Int)) (s:ByteArray):Option Int:=(l.find? (fun p=>cd s p.1)).map Prod.snd
def kU (vs ns:List ByteArray):List (ByteArray×Int):=vs.map (·, 1)++ns.map (·, 2)
theorem vQ (l:List ByteArray) (n:Int) (s:ByteArray):(l.map (·, n)).find? (fun p=>cd s p.1)=(l.find? (cd s)).map (·, n):=by
 rw [List.find?_map];rfl
theorem vP (l:List ByteArray) (s:ByteArray):(l.find? (cd s)).isSome=hasB l s:=by rw [Bool.eq_iff_iff,List.find?_isSome,hasB,Sh]
theorem tX (vs ns:List ByteArray) (s:ByteArray):tW (kU vs ns) s=if hasB vs s then some 1 else if hasB ns s then some 2 else none:=by
 rw [tW,kU,List.find?_append,vQ,vQ, <- vP vs, <- vP ns];cases vs.find? (cd s)<;>cases ns.find? (cd s)<;>rfl
theorem Jq (vs:List ByteArray) (i:Nat) (h:i<vs.length):kU (vs.take (i+1)) []=kU (vs.take i) []++[(vs[i],1)]:=by
 simp only [kU,List.map_nil,List.append_nil];rw [Sf h,List.map_append];rfl
theorem Jp (vs ns:List ByteArray) (s:ByteArray):kU vs (ns++[s])=kU vs ns++[(s,2)]:=by simp [kU]
def dp (vs ns:List ByteArray) (o:eX):Bool:=if o.kind==1 then hasB vs o.name else if o.kind==2 then hasB ns o.name else true
def iF (c:dK):Bool:=ib c.left !=0&&ib c.right !=0&&ib c.left !=ib c.right
def iT (q:fF):Int:=if bI q then
  match C8 (bD (aZ q.au)) q.au with
  | none=>9
  | some ns=>if (ur q).all (dp (bD (aZ q.au)) ns) then (if q.conds.any iF then 10 else 0) else 8
 else 2
theorem fS {o:eX} (h:bo o=true):o.kind=1∨o.kind=2∨o.kind=3:=by
 unfold bo at h
 by_cases h1:o.kind=1
 ·exact .inl h1
 ·by_cases h2:o.kind=2
  ·exact .inr (.inl h2)
  ·by_cases h3:o.kind=3
   ·exact .inr (.inr h3)
   ·simp [h1,h2,h3] at h
theorem Cn {q:fF} (h:bI q=true): ∀o,o∈ur q->o.kind=1∨o.kind=2∨o.kind=3:=by
 intro o ho;simp only [bI,Rq] at h;obtain ⟨⟨⟨_,_⟩,hc⟩,hr⟩:=h;rw [List.all_eq_true] at hc hr
 rcases Si.1 ho with hm|hm
 ·obtain ⟨c,hcm,ho⟩:=List.mem_flatMap.1 hm
  have:=hc c hcm
  simp only [dr,Rq] at this;simp only [Sj,Sk,or_false] at ho
  rcases ho with rfl|rfl
  ·exact fS this.1.2
  ·exact fS this.2
 ·have:=hr o hm
  simp only [er,Rq] at this;exact fS this.2
theorem kj {s t:ByteArray}:cd s t=true↔s=t:=toList_inj
theorem vT {l:List ByteArray} {s:ByteArray}:hasB l s=true↔s∈l:=by
 rw [hasB,Sh]
 constructor
 ·rintro ⟨x,h1,h2⟩;rw [kj.1 h2];exact h1
 ·intro h;exact ⟨s,h,kj.2 rfl⟩
theorem qf (vs:List ByteArray): ∀(ps:List bV) (ns0 ns:List ByteArray),(∀s,s∈ns0->hasB vs s=false)->ps.foldl (lF vs) (some ns0)=some ns-> ∀s,s∈ns->hasB vs s=false
 | [],ns0,ns,h0,h=>by simp at h;subst h;exact h0
 | p :: ps,ns0,ns,h0,h=>by
  simp only [R8,lF] at h
  split at h
  ·exact qf vs ps _ ns h0 h
  ·split at h
   ·rw [Ac] at h;cases h
   ·rename_i hb;simp only [Bool.or_eq_true,not_or,Bool.not_eq_true] at hb;refine qf vs ps _ ns (fun s hs=> ?_) h
    rcases Si.1 hs with hs|hs
    ·exact h0 s hs
    ·simp only [List.mem_singleton] at hs;rw [hs];exact hb.2
theorem B9 {vs:List ByteArray} {ps:List bV} {ns:List ByteArray} (h:C8 vs ps=some ns) {s:ByteArray} (hv:hasB vs s=true):hasB ns s=false:=by
 cases hn:hasB ns s with
 | false=>rfl
 | true=>
  have:=qf vs ps [] ns (fun s hs=>by simp at hs) h s (vT.1 hn)
  rw [hv] at this;cases this
theorem nU {o:eX} (h:bo o=true):0<=ib o∧ib o<=2:=by
 rcases fS h with e|e|e
 ·simp [ib,e]
 ·simp [ib,e]
 ·simp only [bo,e] at h;simp at h;have h:=h.1;simp only [ib,e];unfold cp at h
  by_cases h1:o.val.kind=1
  ·simp [h1]
  ·by_cases h2:o.val.kind=2
   ·simp [h2]
   ·simp [h1,h2] at h
theorem BA {q:fF} (h:bI q=true) {c:dK} (hc:c∈q.conds):(0<=ib c.left∧ib c.left<=2)∧0<=ib c.right∧ib c.right<=2:=by
 simp only [bI,Rq] at h
 have:=List.all_eq_true.1 h.1.2 c hc
 simp only [dr,Rq] at this;exact ⟨nU this.1.2,nU this.2⟩
theorem B1 {a b:Int} (ha:0<=a∧a<=2) (hb:0<=b∧b<=2):(a !=0&&b !=0&&a !=b)=(a !=b&&decide (0<IntKind.i64.wrap (a * b))):=by
 obtain ⟨a1,a2⟩:=ha;obtain ⟨b1,b2⟩:=hb
 have ha:a=0∨a=1∨a=2:=by omega
 have hb:b=0∨b=1∨b=2:=by omega
 rcases ha with rfl|rfl|rfl<;>rcases hb with rfl|rfl|rfl<;>decide
def A0 (l:List ByteArray):Prop:= ∀k (h:k<l.length),hasB (l.take k) l[k]=false
theorem Ca (xs:List ByteArray) (s:ByteArray) (h:A0 xs):A0 (aq xs s):=by
 unfold aq
 cases hs:hasB xs s with
 | true=>simpa using h
 | false=>
  simp only [Bool.false_eq_true,if_false];intro k hk;rw [List.length_append,Sl] at hk
  rcases Nat.lt_or_ge k xs.length with q|q
  ·rw [List.getElem_append_left q,List.take_append_of_le_length (by omega)];exact h k q
  ·obtain rfl:k=xs.length:=by omega
   simpa using hs
theorem sq: ∀(l acc:List ByteArray),A0 acc->A0 (l.foldl aq acc)
 | [],_,h=>h
 | s :: l,acc,h=>sq l _ (Ca acc s h)
theorem Cc (l:List ByteArray):A0 (bD l):=sq l [] (fun k h=>absurd h (by simp))
theorem Jt {vs:List ByteArray} (h:A0 vs) {i:Nat} (hi:i<vs.length):tW (kU (vs.take i) []) vs[i]=none:=by
 rw [tX,h i hi];rfl
def Qa (a b:List ByteArray) (s:ByteArray):ByteArray:=if tH a s<0 then s else b.getD (tH a s).toNat ⟨#[]⟩
def P8 (f:ByteArray->ByteArray) (x:eX):eX:=if x.kind=1∨x.kind=2 then { x with name:=f x.name } else x
theorem Hm {s:ByteArray}:eU s=true↔s=⟨#[]⟩:=by
 unfold eU;rw [decide_eq_true_eq]
 constructor
 ·intro h;obtain ⟨a⟩:=s
  have:a.size=0:=h
  rw [Array.eq_empty_of_size_eq_zero this]
 ·rintro rfl;rfl
structure Qq (f:ByteArray->ByteArray):Prop where
 inj: ∀s t,f s=f t->s=t
 free: ∀s,dn (f s)=dn s
 no: ∀s,eU (f s)=eU s
def Qv {α:Type} (k:Nat) (l:List α):List α:=l.drop k++l.take k
def P9:List ByteArray:=[⟨#[97]⟩,⟨#[98]⟩,⟨#[99]⟩,⟨#[100]⟩,⟨#[101]⟩,⟨#[102]⟩,⟨#[103]⟩]
theorem gP (s:ByteArray):eU s=(s.toList==(⟨#[]⟩:ByteArray).toList):=by
 rw [Bool.eq_iff_iff,Hm,beq_iff_eq];exact ⟨fun h=>by rw [h],fun h=>toList_inj.1 (by simpa using h)⟩
def dH (p q:bV):Bool:=if cd p.aT q.aT&&cd p.to q.to&&p.path==q.path then (if p.path then dt p.expr q.expr else eU p.name&&eU q.name&&cd p.label q.label) else false
def fm (ps:List bV) (k:Nat):Bool:=match ps[k]? with
 | some p=>(ps.take k).any (fun a=>dH a p)
 | none=>false
def nq (ps:List bV) (i:Nat):List Nat:=((List.range ps.length).drop i).filter (fun k=> !fm ps k)
def iL (ps:List bV):List Nat:=nq ps 0
theorem zd {n i:Nat} (h:i<n):(List.range n).drop i=i :: (List.range n).drop (i+1):=by
 rw [List.drop_eq_getElem_cons (by simpa using h)];simp
theorem Hn {ps:List bV} {i:Nat} (h:i<ps.length):nq ps i=if fm ps i then nq ps (i+1) else i :: nq ps (i+1):=by
 rw [nq,zd h,List.filter_cons];cases fm ps i<;>simp [nq]
theorem EV (ps:List bV):nq ps ps.length=[]:=by rw [nq,List.drop_eq_nil_of_le (by simp)];rfl
theorem ub {ps:List bV} {k:Nat} (h:k∈iL ps):k<ps.length:=by
 have:=(Sm.1 h).1
 simpa using this
theorem kI (ps:List bV):(iL ps).Pairwise (· < ·):=by
 refine List.Pairwise.filter _ ?_;rw [List.drop_zero];exact List.pairwise_lt_range
theorem wx (ps:List bV):(iL ps).length<=ps.length:=by
 have:=List.length_filter_le (fun k=> !fm ps k) ((List.range ps.length).drop 0)
 simpa [iL,nq] using this
def aU (p:bV):List ByteArray:=p.aT :: p.to :: (if !p.path && !eU p.name then [p.name] else [])
def cr (ps:List bV) (out:List ByteArray) (k:Int):List ByteArray:=if 0<=k∧k<ps.length then (match ps[k.toNat]? with|some p=>(aU p).foldl aq out|none=>out) else out
def bW (ps:List bV) (ks:List Int):List ByteArray:=ks.foldl (cr ps) []
theorem wo (ps:List bV) {ks:List Int} {i:Nat} (h:i<ks.length):bW ps (ks.take (i+1))=cr ps (bW ps (ks.take i)) ks[i]:=by
 rw [Sf h,bW,Sg];rfl
def rk (b:Bool):Nat:=if b then 1 else 0
def gz (ps:List bV) (names:List ByteArray) (k:Int):Nat:=if 0<=k∧k<ps.length then (match ps[k.toNat]? with|some p=>rk (hasB names p.aT)+rk (hasB names p.to)|none=>0) else 0
theorem vH (ps:List bV) (names:List ByteArray) (k:Int):gz ps names k<=2:=by
 unfold gz
 split
 ·split
  ·unfold rk;split<;>split<;>omega
  ·omega
 ·omega
def lH (ps:List bV) (k:Nat):Bool:=match ps[k]? with
 | some p=>p.path
 | none=>false
def dc (ps:List bV) (names:List ByteArray) (k:Nat):Int:=2 * (gz ps names k:Int)+(if lH ps k then 0 else 1)
def fx (r:Nat->Int):List Nat->Nat->Nat
 | [],m=>m
 | k :: l,m=>fx r l (if r k - r m > 0 then k else m)
theorem gN (r:Nat->Int): ∀(l:List Nat) (m:Nat),(fx r l m=m∨fx r l m∈l)∧r m<=r (fx r l m)∧ ∀k,k∈l->r k<=r (fx r l m)
 | [],m=>⟨.inl rfl,Int.le_refl _,fun k h=>by simp at h⟩
 | k :: l,m=>by
  rw [fx];obtain ⟨h1,h2,h3⟩:=gN r l (if r k - r m > 0 then k else m)
  by_cases hk:r k - r m > 0
  ·rw [if_pos hk] at h1 h2 h3 ⊢
   refine ⟨.inr ?_,by omega,fun j hj=> ?_⟩
   ·rcases h1 with e|e
    ·rw [e];exact RE
    ·exact RC _ e
   ·rcases Sj.1 hj with rfl|hj
    ·exact h2
    ·exact h3 j hj
  ·rw [if_neg hk] at h1 h2 h3 ⊢;refine ⟨h1.imp id (RC _),h2,fun j hj=> ?_⟩
   rcases Sj.1 hj with rfl|hj
   ·omega
   ·exact h3 j hj
theorem ic (r:Nat->Int): ∀(l:List Nat) (m:Nat),(m :: l).Pairwise (· < ·)-> ∀k,k∈m :: l->r k=r (fx r l m)->fx r l m<=k
 | [],m,_,k,hk,_=>by simp at hk;subst hk;exact Nat.le_refl _
 | j :: l,m,hp,k,hk,hr=>by
  rw [fx] at hr ⊢;rw [Sn] at hp;have hmj:m<j:=hp.1 j RE
  by_cases hj:r j - r m > 0
  ·rw [if_pos hj] at hr ⊢
   rcases Sj.1 hk with rfl|hk
   ·exfalso
    have:=(gN r l j).2.1
    omega
   ·exact ic r l j hp.2 k hk hr
  ·rw [if_neg hj] at hr ⊢;have hp2:(m :: l).Pairwise (· < ·):=Sn.2 ⟨fun x hx=>hp.1 x (RC _ hx),(Sn.1 hp.2).2⟩
   rcases Sj.1 hk with rfl|hk
   ·exact ic r l _ hp2 _ RE hr
   ·rcases Sj.1 hk with rfl|hk
    ·have h1:=(gN r l m).2.1;have h2:=ic r l m hp2 m RE (by omega);omega
    ·exact ic r l m hp2 k (RC _ hk) hr
def iE (l:List Nat):List Int:=l.map (fun k:Nat=>(k:Int))
def dG (ps:List bV) (out:List Nat):List Nat->Nat
 | []=>0
 | a :: l=>fx (dc ps (bW ps (iE out))) l a
def yX (ps:List bV):Nat->List Nat->List Nat->List Nat
 | 0,out,_=>out
 | n+1,out,left=>if left.isEmpty then out else yX ps n (out++[dG ps out left]) (left.filter (fun k=>k !=dG ps out left))
theorem np (ps:List bV) (out:List Nat) {left:List Nat} (h:left≠[]):dG ps out left∈left:=by
 cases left with
 | nil=>exact absurd rfl h
 | cons a l=>
  rcases (gN (dc ps (bW ps (iE out))) l a).1 with e|e
  ·rw [dG,e];exact RE
  ·rw [dG];exact RC _ e
theorem pC {left:List Nat} {k:Nat} (hn:left.Nodup) (h:k∈left):(left.filter (fun j=>j !=k)).length+1=left.length:=by
 induction left with
 | nil=>simp at h
 | cons a l ih=>
  rw [List.nodup_cons] at hn
  by_cases hak:a=k
  ·subst hak
   have:l.filter (fun j=>j !=a)=l:=List.filter_eq_self.2 (fun x hx=>by simp;rintro rfl;exact hn.1 hx)
   simp [this]
  ·have hm:k∈l:=(Sj.1 h).resolve_left (fun e=>hak e.symm)
   have:=ih hn.2 hm
   simp [List.filter_cons,hak];omega
theorem yT (ps:List bV) (out:List Nat) {left:List Nat} {k:Nat} (hp:left.Pairwise (· < ·)) (hk:k∈left):dc ps (bW ps (iE out)) k<=dc ps (bW ps (iE out)) (dG ps out left)∧(dc ps (bW ps (iE out)) k=dc ps (bW ps (iE out)) (dG ps out left)->dG ps out left<=k):=by
 cases left with
 | nil=>simp at hk
 | cons a l=>
  rw [dG];refine ⟨?_,fun h=>ic _ l a hp k hk h⟩;obtain ⟨_,h2,h3⟩:=gN (dc ps (bW ps (iE out))) l a
  rcases Sj.1 hk with rfl|hk
  ·exact h2
  ·exact h3 k hk
structure IA (ps:List bV) (out left l:List Nat):Prop where
 len:l.length=out.length+left.length
 pre:l.take out.length=out
 mem: ∀k,k∈l->k∈out∨k∈left
 Jy:l.Nodup
 P2: ∀(i k:Nat) (hi:i<l.length) (hk:k<l.length),out.length<=i->i<k->dc ps (bW ps (iE (l.take i))) l[k]<=dc ps (bW ps (iE (l.take i))) l[i]∧(dc ps (bW ps (iE (l.take i))) l[k]=dc ps (bW ps (iE (l.take i))) l[i]->l[i]<l[k])
theorem EW (ps:List bV): ∀(n:Nat) (out left:List Nat),left.length<=n->left.Pairwise (· < ·)->(∀k,k∈out->k∉left)->out.Nodup->IA ps out left (yX ps n out left)
 | 0,out,left,h,hp,hd,ho=>by
  have:left=[]:=List.length_eq_zero_iff.1 (by omega)
  subst this;rw [yX];exact ⟨by simp,List.take_length,fun k h=> .inl h,ho,fun i k hi hk h1 h2=>by omega⟩
 | n+1,out,left,h,hp,hd,ho=>by
  rw [yX]
  by_cases he:left=[]
  ·subst he;simp only [List.isEmpty_nil,if_true];exact ⟨by simp,List.take_length,fun k h=> .inl h,ho,fun i k hi hk h1 h2=>by omega⟩
  ·have hie:left.isEmpty=false:=by cases left<;>simp_all
   rw [hie];simp only [Bool.false_eq_true,if_false];have hm:=np ps out he;have hn:left.Nodup:=hp.imp (fun h=>by omega);have hl:=pC hn hm;have hbest:=fun k (hk:k∈left)=>yT ps out hp hk;generalize dG ps out left=x at hm hl hbest ⊢
   have ih:=EW ps n (out++[x]) (left.filter (fun j=>j !=x)) (by omega) (hp.filter _) (fun k hk hf=>by
    have hf':=Sm.1 hf
    rcases Si.1 hk with h|h
    ·exact hd k h hf'.1
    ·simp only [Sj,Sk,or_false] at h
     subst h;simp at hf') (by
    rw [List.nodup_append];refine ⟨ho,by simp,fun a ha b hb=> ?_⟩;simp only [Sj,Sk,or_false] at hb;subst hb;rintro rfl
    exact hd a ha hm)
   generalize yX ps n (out++[x]) (left.filter (fun j=>j !=x))=l at ih ⊢;obtain ⟨a1,a2,a3,a4,a5⟩:=ih;rw [List.length_append,Sl] at a1 a2
   have hol:out.length<l.length:=by omega
   have hox:l[out.length]=x:=by
    have:=congrArg (fun l=>l[out.length]?) a2
    simp only [List.getElem?_take,Nat.lt_add_one,if_true] at this;rw [List.getElem?_append_right (Nat.le_refl _),Nat.sub_self] at this;exact (List.getElem?_eq_some_iff.1 this).2
   have hpre:l.take out.length=out:=by
    have:=congrArg (List.take out.length) a2
    rw [List.take_take,Nat.min_eq_left (by omega),List.take_left'] at this
    ·exact this
    ·rfl
   refine ⟨by omega,hpre,fun k hk=> ?_,a4,fun i k hi hk h1 h2=> ?_⟩
   ·rcases a3 k hk with h|h
    ·rcases Si.1 h with h|h
     ·exact .inl h
     ·simp only [Sj,Sk,or_false] at h;subst h;exact .inr hm
    ·exact .inr (Sm.1 h).1
   ·by_cases hi0:i=out.length
    ·subst hi0;rw [hpre,hox]
     have hkl:l[k]∈left.filter (fun j=>j !=x):=by
      rcases a3 l[k] (List.getElem_mem hk) with h|h
      ·exfalso;rw [<-a2] at h;obtain ⟨j,hj,e⟩:=Sq.1 h
       have:=(List.getElem_inj a4).1 e
       omega
      ·exact h
     obtain ⟨k1,k2⟩:=Sm.1 hkl;have hb:=hbest l[k] k1;refine ⟨hb.1,fun e=> ?_⟩
     have:=hb.2 e
     have hne:l[k]≠x:=by simpa using k2
     omega
    ·exact a5 i k hi hk (by simp;omega) h2
def gj (ps:List bV):List Nat:=yX ps (iL ps).length [] (iL ps)
theorem Al (ps:List bV):IA ps [] (iL ps) (gj ps):=EW ps _ [] _ (Nat.le_refl _) (kI ps) (fun k h=>by simp at h) List.nodup_nil
theorem wL {p q:bV}:dH p q=true↔p.aT=q.aT∧p.to=q.to∧p.path=q.path∧((p.path=true∧p.expr=q.expr)∨(p.path=false∧eU p.name=true∧eU q.name=true∧p.label=q.label)):=by
 unfold dH
 by_cases h:(cd p.aT q.aT&&cd p.to q.to&&p.path==q.path)=true
 ·rw [if_pos h];simp only [Rq,kj,beq_iff_eq] at h;obtain ⟨⟨h1,h2⟩,h3⟩:=h
  cases hp:p.path with
  | true=>simp [h1,h2, <- h3,hp,rV]
  | false=>simp [h1,h2, <- h3,hp,kj,and_assoc]
 ·rw [if_neg h];simp only [Rq,kj,beq_iff_eq] at h
  constructor
  ·intro h;cases h
  ·rintro ⟨h1,h2,h3,_⟩;exact absurd ⟨⟨h1,h2⟩,h3⟩ h
theorem yh {ps:List bV} {k:Nat} (h:k<ps.length):fm ps k=true ↔ ∃j, ∃hj:j<k,dH (ps[j]'(by omega)) ps[k]=true:=by
 unfold fm;rw [List.getElem?_eq_getElem h,Sh]
 constructor
 ·rintro ⟨a,ha,hs⟩;obtain ⟨j,hj,e⟩:=Sq.1 ha;exact ⟨j,by omega,by rw [e];exact hs⟩
 ·rintro ⟨j,hj,hs⟩;exact ⟨_,Sq.2 ⟨j,by omega,rfl⟩,hs⟩
theorem wy {ps:List bV} {k:Nat}:k∈iL ps↔k<ps.length∧fm ps k=false:=by
 simp [iL,nq,Sm]
theorem su: ∀(l acc:List ByteArray), ∃m,l.foldl aq acc=acc++m
 | [],acc=>⟨[],by simp⟩
 | s :: l,acc=>by
  obtain ⟨m,h⟩:=su l (aq acc s);rw [R8,h];unfold aq
  split
  ·exact ⟨m,rfl⟩
  ·exact ⟨s :: m,by simp⟩
theorem fe: ∀(l acc:List ByteArray),(l.foldl aq acc).length<=acc.length+l.length
 | [],acc=>by simp
 | s :: l,acc=>by
  have h1:=fe l (aq acc s)
  have h2:(aq acc s).length<=acc.length+1:=by unfold aq;split<;>simp
  simp only [R8,List.length_cons];omega
theorem fZ (p:bV):(aU p).length<=3:=by unfold aU;split<;>simp
theorem rj (ps:List bV) (out:List ByteArray) (k:Int):(cr ps out k).length<=out.length+3:=by
 unfold cr
 split
 ·split
  ·rename_i p _
   have:=fe (aU p) out;have:=fZ p;omega
  ·omega
 ·omega
theorem qa (ps:List bV): ∀(ks:List Int) (out:List ByteArray),(ks.foldl (cr ps) out).length<=out.length+3 * ks.length
 | [],_=>by simp
 | k :: ks,out=>by
  have h1:=qa ps ks (cr ps out k);have h2:=rj ps out k;simp only [R8,List.length_cons];omega
theorem yS (ps:List bV) (ks:List Int):(bW ps ks).length<=3 * ks.length:=by have:=qa ps ks [];simpa [bW] using this
theorem qA: ∀ {a b:List Nat},a.Pairwise (· < ·)->b.Pairwise (· < ·)->(∀j,j∈a↔j∈b)->a=b
 | [],[],_,_,_=>rfl
 | [],y :: b,_,_,h=>by have:=(h y).2 RE;simp at this
 | x :: a,[],_,_,h=>by have:=(h x).1 RE;simp at this
 | x :: a,y :: b,ha,hb,h=>by
  rw [Sn] at ha hb
  have hxy:x=y:=by
   rcases Sj.1 ((h x).1 RE) with e|e
   ·exact e
   ·rcases Sj.1 ((h y).2 RE) with e2|e2
    ·exact e2.symm
    ·have h1:=hb.1 x e;have h2:=ha.1 y e2;omega
  subst hxy;refine congrArg (x :: ·) (qA ha.2 hb.2 (fun j=> ?_))
  have:=h j
  simp only [Sj] at this
  constructor
  ·intro hj
   rcases this.1 (.inr hj) with e|e
   ·have:=ha.1 j hj;omega
   ·exact e
  ·intro hj
   rcases this.2 (.inr hj) with e|e
   ·have:=hb.1 j hj;omega
   ·exact e
def Qw (l:List Nat):List Nat:=(List.range (l.foldr max 0+1)).filter (fun j=>l.contains j)
noncomputable def bh (w:List ByteArray) (L:List ByteArray->Prop) (fr:List Nat):List Nat:=(List.range (w.length+1)).filter (fun j=> @decide (∃i,i∈fr∧Tk L w i j) (Classical.propDecidable _))
def P6 (w:List ByteArray) (s:ByteArray) (fr:List Nat):List Nat:=(fr.filter (fun k=>decide (w[k]? = some s))).map (· + 1)
structure Qp (w:List ByteArray) (L:List ByteArray->Prop) (fr out:List Nat):Prop where
 rm:out.Pairwise (· < ·)
 le: ∀j,j∈out->j<=w.length
 sub: ∀j,j∈fr->j∈out
 Qt: ∀j,j∈out-> ∃i,i∈fr∧Tk (rH L) w i j
section
section
variable {P:Program} {ops:Array Oper} {N:jL}
def Du (P:Program) (ops:Array Oper) (S:ea N) (j:Nat) (o:Oper) (a:Act) (g:N.G):Prop:=
 (Region.wanted o (yielded ops a.tmps)=true∧A3 P S j g ((execOp a.eval o).run P (N.wd g)))∨(Region.wanted o (yielded ops a.tmps)=false∧ ∃g',N.wd g'=N.wd g∧N.R g g'∧(∀i,i≠j->N.pre i g->N.pre i g')∧S.p undef g')
def Ho (P:Program) (ops:Array Oper) (L:List (ea N)) (g0:N.G) (Q:Act->World->Prop):List Oper->Nat->((Nat->Value)->Act)->Prop
 | [],k,A=> ∀x g,N.R g0 g->(∀i,i<k->(lr L i).p (x i) g)->Q (A x) (N.wd g)
 | o :: l,k,A=>(∀x g,N.R g0 g->(∀i,aG ops k i=true->(lr L i).p (x i) g)->N.pre k g->Du P ops (lr L k) k o (A x) g)∧Ho P ops L g0 Q l (k+1) (fun x=>(A x).put o.dst (x k))
def Aq (ops:Array Oper) (i j:Nat):Bool:=
 match ops[i]?,ops[j]? with
 | some oi,some oj=>(aG ops j i||match oi.dst with|some d=> !(oj.looksAt ops).contains d|none=>true) && !aG ops i j&&(match oi.dst with|some d=>oj.dst !=some d|none=>true)&&(aG ops j i||match oj.dst with|some d=> !(oi.looksAt ops).contains d|none=>true)
 | _,_=>true
def qx (ops:Array Oper):Bool:=
 Region.noSelect ops&&(List.range ops.size).all (fun j=>(List.range j).all (fun i=>Aq ops i j)&&(!aG ops j j&&tG ops j))
def F9 (P:Program) (l:List Oper) (L:List (ea N)) (g0:N.G) (a0:Act) (j:Nat) (o:Oper):Prop:=
 ∀x g,N.R g0 g->(∀i,aG l.toArray j i=true->(lr L i).p (x i) g)->N.pre j g->Du P l.toArray (lr L j) j o (cw (fun i=>decide (i<j)) x l 0 a0) g
theorem wC {l:List Oper} {L:List (ea N)} {g0:N.G} {Q:Act->World->Prop} {a0:Act} (hA:gr l): ∀(l':List Oper) (k:Nat) (A:(Nat->Value)->Act),l.drop k=l'->(A=fun x=>cw (fun i=>decide (i<k)) x l 0 a0)->k<=l.length ->
  Ho P l.toArray L g0 Q l' k A->(∀j o,k<=j->l[j]? = some o->F9 P l L g0 a0 j o)∧(∀x g,N.R g0 g->(∀i,i<l.length->(lr L i).p (x i) g)->Q (cw (fun i=>decide (i<l.length)) x l 0 a0) (N.wd g))
 | [],k,A,hl,hAx,hk,h=>by
  have h1:l.length=k:=by have:=congrArg List.length hl;simp at this;omega
  subst hAx
  refine ⟨fun j o hj ho=> ?_,fun x g hg hs=> ?_⟩
  ·have:=(QD.1 ho).1;omega
  ·rw [h1] at hs ⊢; exact h x g hg hs
 | o :: l',k,A,hl,hAx,hk,h=>by
  have h1:l.length=k+(l'.length+1):=by have:=congrArg List.length hl;simp at this;omega
  have h2:l[k]? = some o:=by have:=congrArg (fun m=>m[0]?) hl;simpa using this
  subst hAx
  have rcr:=wC hA l' (k+1) _ (by have:=congrArg List.tail hl;simpa using this) (by
    funext x
    have hi:=fU (s:=fun i=>decide (i<k)) (x:=x) (v:=x k) l 0 k a0 hA h2 (by simp);rw [Nat.zero_add] at hi;rw [<-hi];refine bu l 0 a0 (fun i _ _=> ?_)
    by_cases hik:i=k
    ·subst hik;simp [bJ,fD]
    ·have:(i<k+1)=(i<k):=by apply propext;omega
     simp [bJ,fD,hik,this]) (by omega) h.2
  refine ⟨fun j o' hj ho=> ?_,rcr.2⟩
  by_cases hjk:j=k
  ·subst hjk;rw [h2] at ho;cases ho;exact h.1
  ·exact rcr.1 j o' (by omega) ho
theorem mQ {Q:Exit->Act->World->Prop} {a:Act} {w:World} {l:List Oper} (L:List (ea N)) (hB:qx l.toArray=true) (g0:N.G) (hg0:N.wd g0=w.drew) (hp0: ∀j,N.pre j g0)
  (h:Ho P l.toArray L g0 (Q .normal) l 0 (fun _=>a)):wpAny P .any l.toArray Q l.toArray.size (Array.replicate l.toArray.size false) a w.drew:=by
 simp only [qx,Rq,List.all_eq_true,List.mem_range,List.size_toArray] at hB;obtain ⟨hns,hall⟩:=hB;have hsel:=Region.noSelect_spec hns
 have hpair: ∀i j oi oj,i<j->l[i]? = some oi->l[j]? = some oj->(aG l.toArray j i=true∨ ∀e,oi.dst=some e->e∉oj.looksAt l.toArray)∧aG l.toArray i j=false∧(∀e,oi.dst=some e->oj.dst≠some e)∧(aG l.toArray j i=true∨ ∀e,oj.dst=some e->e∉oi.looksAt l.toArray):=by
  intro i j oi oj hij hi hj;have hjn:=(QD.1 hj).1
  have:=(hall j hjn).1 i hij
  simp only [Aq,QU,hi,hj,Rq,Bool.or_eq_true,Bool.not_eq_true'] at this
  refine ⟨?_,this.1.1.2,fun e he=> ?_, ?_⟩
  ·rcases this.1.1.1 with h|h
   ·exact .inl h
   ·refine .inr (fun e he=> ?_);rw [he] at h;simpa using h
  ·have h3:=this.1.2;rw [he] at h3;simpa using h3
  ·rcases this.2 with h|h
   ·exact .inl h
   ·refine .inr (fun e he=> ?_);rw [he] at h;simpa using h
 have hself: ∀j,j<l.length->aG l.toArray j j=false:=fun j hj=>by simpa using (hall j hj).2.1
 have hfar: ∀(j:Nat) (o:Oper),l[j]? = some o-> ∀e∈o.after,e.on<l.length:=fun j o hj e he=>by
  have:=(hall j (QD.1 hj).1).2.2
  simp only [tG,QU,hj,Array.all_eq_true_iff_forall_mem] at this;simpa using this e he
 have hA:gr l:=fun i j oi oj hi hj hij e he=>by
  rcases Nat.lt_or_gt_of_ne hij with h|h
  ·exact (hpair i j oi oj h hi hj).2.2.1 e he
  ·intro h2;exact (hpair j i oj oi h hj hi).2.2.1 e h2 he
 obtain ⟨hO,hfin⟩:=wC (P:=P) (L:=L) (g0:=g0) (Q:=Q .normal) (a0:=a) hA l 0 (fun _=>a) (by simp) (by
  funext x
  exact (show a=cw (fun _=>false) x l 0 a from by
   have: ∀(l:List Oper) k,a=cw (fun _=>false) x l k a:=by
    intro l
    induction l with
    | nil=>intro k;rfl
    | cons o l ih=>intro k;rw [cw];exact ih (k+1)
   exact this l 0).trans (bu l 0 a (fun i _ _=>by simp))) (Nat.zero_le _) h
 
 have hloose: ∀i j oi oj,l[i]? = some oi->l[j]? = some oj->i≠j->aG l.toArray j i=false->aG l.toArray i j=false-> ∀d,oi.dst=some d->d∉oj.looksAt l.toArray:=by
  intro i j oi oj hi hj hij hd hd'
  rcases Nat.lt_or_gt_of_ne hij with h|h
  ·rcases (hpair i j oi oj h hi hj).1 with h1|h1
   ·rw [hd] at h1;cases h1
   ·exact h1
  ·rcases (hpair j i oj oi h hj hi).2.2.2 with h1|h1
   ·rw [hd'] at h1;cases h1
   ·exact h1
 
 have hsee: ∀(s s':Nat->Bool) x j oj,l[j]? = some oj->s j=false->s' j=false->(∀i,i<l.length->aG l.toArray i j=true->s i=false∧s' i=false)->(∀i,i<l.length->aG l.toArray j i=true->s i=true∧s' i=true) ->
   execOp (cw s x l 0 a).eval oj=execOp (cw s' x l 0 a).eval oj∧Region.wanted oj (yielded l.toArray (cw s x l 0 a).tmps)=Region.wanted oj (yielded l.toArray (cw s' x l 0 a).tmps):=by
  intro s s' x j oj hj h1 h2 hbk hd
  have one:=fun (s:Nat->Bool) (hs:s j=false) (hs2: ∀i,i<l.length->aG l.toArray i j=true->s i=false)=>kN (ops:=l.toArray) (s:=s) (keep:=aG l.toArray j) (x:=x) (a:=a) hA (fun cs b=>hsel j oj cs b (by simpa using hj))
   (fun i oi hi hsi hk=>hloose i j oi oj hi hj (by intro e;subst e;rw [hsi] at hs;cases hs) hk (by
    cases hq:aG l.toArray i j
    ·rfl
    ·rw [hs2 i (QD.1 hi).1 hq] at hsi;cases hsi))
  obtain ⟨a1,a2⟩:=one s h1 (fun i hi hq=>(hbk i hi hq).1);obtain ⟨b1,b2⟩:=one s' h2 (fun i hi hq=>(hbk i hi hq).2)
  have e:cw (fun i=>s i&&aG l.toArray j i) x l 0 a=cw (fun i=>s' i&&aG l.toArray j i) x l 0 a:=bu l 0 a (fun i _ hi=>by
   refine ⟨?_,fun _=>rfl⟩
   cases hk:aG l.toArray j i
   ·simp
   ·obtain ⟨c1,c2⟩:=hd i (by omega) hk
    simp [c1,c2])
  exact ⟨by rw [a1,b1,e],by rw [a2,b2,e]⟩
 have full: ∀(listed:Array Bool),listed.size=l.length->(∀i,i<l.length->listed.getD i false=true)->Region.ready .any l.toArray listed=[]∧ ∀x,cw (fun i=>listed.getD i false) x l 0 a=cw (fun i=>decide (i<l.length)) x l 0 a:=fun listed hsz hall'=>by
  refine ⟨List.eq_nil_iff_forall_not_mem.2 (fun i hi=> ?_),fun x=>bu l 0 a (fun i _ hi=>⟨?_,fun _=>rfl⟩)⟩
  ·obtain ⟨g1,o,g2, -⟩:=mem_ready.1 hi;have hil:i<l.length:=(QD.1 (show l[i]? = some o by simpa using g2)).1;have g3:=hall' i hil
   have his:i<listed.size:=by omega
   simp only [Rr,Array.getElem?_eq_getElem his,Option.getD_some] at g1 g3;rw [g3] at g1;cases g1
  ·have:i<l.length:=by omega
   rw [hall' i this];simp [this]
 have main: ∀fuel (listed:Array Bool) x g1,listed.size=l.length->N.R g0 g1->(∀i,listed.getD i false=true->(lr L i).p (x i) g1) ->
   (∀j i,listed.getD j false=true->aG l.toArray j i=true->listed.getD i false=true)->(∀j,listed.getD j false=false->N.pre j g1)->uV (fun i=>listed.getD i false) l.length<=fuel ->
   wpAny P .any l.toArray Q fuel listed (cw (fun i=>listed.getD i false) x l 0 a) (N.wd g1):=by
  intro fuel
  induction fuel with
  | zero=>
   intro listed x g1 hsz hE hF hcl hpre hu
   have hall': ∀i,i<l.length->listed.getD i false=true:=fun i hi=>by
    cases hc:listed.getD i false
    ·have:=oQ (s:=fun i=>listed.getD i false) l.length hi hc
     omega
    ·rfl
   exact wpAny_done (full listed hsz hall').1 (by rw [(full listed hsz hall').2 x];exact hfin x g1 hE (fun i hi=>hF i (hall' i hi))) 0
  | succ fuel ih=>
   intro listed x g1 hsz hE hF hcl hpre hu
   have hmemR: ∀j,j∈Region.ready .any l.toArray listed-> ∃oj,l[j]? = some oj∧listed.getD j false=false∧ ∀i,aG l.toArray j i=true->listed.getD i false=true:=by
    intro j hj;obtain ⟨h1,o,ho,h3⟩:=mem_ready.1 hj
    refine ⟨o,by simpa using ho, ?_,fun i hi=> ?_⟩
    ·rcases Nat.lt_or_ge j listed.size with h'|h'
     ·simp [h'] at h1 ⊢; exact h1
     ·simp [Array.getElem?_eq_none h']
    ·simp only [aG,ho,Rq,beq_iff_eq,Array.any_eq_true'] at hi;obtain ⟨e,he,hb,rfl⟩:=hi;exact h3 e he hb
   refine ⟨fun h0=> ?_,fun j hj=> ?_⟩
   ·
    have hex:(∀i,i<l.length->listed.getD i false=true)∨ ∃m,m<l.length∧listed.getD m false=false∧ ∀i,i<m->listed.getD i false=true:=by
     have: ∀k,k<=l.length->(∀i,i<k->listed.getD i false=true)∨ ∃m,m<l.length∧listed.getD m false=false∧ ∀i,i<m->listed.getD i false=true:=by
      intro k
      induction k with
      | zero=>exact fun _=> .inl (fun i hi=>by omega)
      | succ k ihk=>
       intro hk
       rcases ihk (by omega) with h|h
       ·cases hc:listed.getD k false
        ·exact .inr ⟨k,by omega,hc,h⟩
        ·exact .inl (fun i hi=>by
          by_cases e:i=k
          ·subst e;exact hc
          ·exact h i (by omega))
       ·exact .inr h
     exact this l.length (Nat.le_refl _)
    rcases hex with hall'|hex
    ·rw [(full listed hsz hall').2 x];exact hfin x g1 hE (fun i hi=>hF i (hall' i hi))
    exfalso;obtain ⟨m,hm1,hm2,hm3⟩:=hex
    have hmem:m∈Region.ready .any l.toArray listed:=by
     refine mem_ready.2 ⟨?_,l[m],by simp [hm1],fun e he hb=> ?_⟩
     ·have hms:m<listed.size:=by omega
      simp [hms] at hm2 ⊢; exact hm2
     ·have hd:aG l.toArray m e.on=true:=by
       have:l.toArray[m]? = some l[m]:=by simp [hm1]
       simp only [aG,this];simp only [Array.any_eq_true',Rq,beq_iff_eq];exact ⟨e,he,hb,rfl⟩
      rcases Nat.lt_trichotomy e.on m with h|h|h
      ·exact hm3 _ h
      ·rw [h,hself m hm1] at hd;cases hd
      ·by_cases hl:e.on<l.length
       ·have:=(hpair m e.on l[m] l[e.on] h (by simp [hm1]) (by simp [hl])).2.1
        rw [hd] at this;cases this
       ·exact absurd (hfar m l[m] (by simp [hm1]) e he) hl
    rw [h0] at hmem;cases hmem
   ·obtain ⟨oj,hoj,hun,hdeps⟩:=hmemR j hj;have hjl:=(QD.1 hoj).1
    have hsj:(listed.setIfInBounds j true).size=l.length:=by simpa using hsz
    have hgd: ∀i,(listed.setIfInBounds j true).getD i false=bJ (fun i=>listed.getD i false) j i:=by
     intro i
     by_cases hij:i=j
     ·subst hij
      have:i<listed.size:=by omega
      simp [bJ,this]
     ·simp only [bJ,if_neg hij];exact getD_set_ne false (Ne.symm hij)
    have hO:=hO j oj (Nat.zero_le _) hoj;unfold wpOp;simp only [QU,hoj];have hst:=hO x g1 hE (fun i hi=>hF i (hdeps i hi)) (hpre j hun)
    have hbk: ∀i,i<l.length->aG l.toArray i j=true->listed.getD i false=false∧decide (i<j)=false:=by
     intro i hi hq
     constructor
     ·cases hli:listed.getD i false
      ·rfl
      ·have:=hcl i j hli hq
       rw [hun] at this;cases this
     ·rcases Nat.lt_or_ge i j with h|h
      ·have:=(hpair i j l[i] oj h (by simp [hi]) hoj).2.1
       rw [hq] at this;cases this
      ·simpa using h
    obtain ⟨c1,c2⟩:=hsee (fun i=>listed.getD i false) (fun i=>decide (i<j)) x j oj hoj hun (by simp) hbk (fun i hi hd=>⟨hdeps i hd,by
      rcases Nat.lt_trichotomy i j with h|h|h
      ·simpa using h
      ·rw [h,hself j hjl] at hd;cases hd
      ·have:=(hpair j i oj l[i] h hoj (by simp [hi])).2.1
       rw [hd] at this;cases this⟩)
    have next: ∀v g2,N.R g1 g2->(∀i,i≠j->N.pre i g1->N.pre i g2)->(lr L j).p v g2->wpAny P .any l.toArray Q fuel (listed.setIfInBounds j true) ((cw (fun i=>listed.getD i false) x l 0 a).put oj.dst v) (N.wd g2):=by
     intro v g2 hb hpp hv;have hi:=fU (s:=fun i=>listed.getD i false) (x:=x) (v:=v) l 0 j a hA hoj (by simpa using hun);rw [Nat.zero_add] at hi;rw [<-hi, <- show (fun i=>(listed.setIfInBounds j true).getD i false)=bJ (fun i=>listed.getD i false) j from funext hgd]
     refine ih _ _ g2 hsj (N.trans' _ _ _ hE hb) (fun i hi'=> ?_) (fun j' i hj' hd=> ?_) (fun j' hj'=> ?_) ?_
     ·rw [hgd] at hi'
      by_cases hij:i=j
      ·subst hij;simpa [fD] using hv
      ·simp only [bJ,if_neg hij] at hi';simp only [fD,if_neg hij];exact (lr L i).st _ _ _ hb (hF i hi')
     ·rw [hgd] at hj' ⊢
      by_cases hij:i=j
      ·simp [bJ,hij]
      ·simp only [bJ,if_neg hij]
       by_cases hj2:j'=j
       ·subst hj2;exact hdeps i hd
       ·simp only [bJ,if_neg hj2] at hj';exact hcl j' i hj' hd
     ·rw [hgd] at hj'
      by_cases hj2:j'=j
      ·simp [bJ,hj2] at hj'
      ·simp only [bJ,if_neg hj2] at hj';exact hpp j' hj2 (hpre j' hj')
     ·rw [gQ (s':=bJ (fun i=>listed.getD i false) j) l.length (fun i _=>hgd i)]
      have:=kP (s:=fun i=>listed.getD i false) (i:=j) l.length hjl hun
      omega
    unfold Du at hst;rw [<-c1, <- c2] at hst
    rcases hst with ⟨h1,h2⟩|⟨h1,h2⟩
    ·rw [if_pos h1];refine .inl ?_;unfold Oper.wp;generalize (execOp (cw (fun i=>listed.getD i false) x l 0 a).eval oj).run P (N.wd g1)=r at h2
     cases r with
     | halt _ _=>exact h2.elim
     | ok n w'=>
      cases n<;>first|exact h2.elim|skip
      case value u=>obtain ⟨g2,rfl,k1,k3,k2⟩:=h2;exact next _ _ k1 k3 k2
      case skip=>obtain ⟨g2,rfl,k1,k3,k2⟩:=h2;exact next _ _ k1 k3 k2
      case enter f args=>
       refine Calls.mono h2 fun e w'' he=> ?_;obtain ⟨v,g2,rfl,rfl,k1,k3,k2⟩:=he
       exact next _ _ k1 k3 k2
    ·rw [if_neg (by rw [h1];decide)];obtain ⟨g2,e2,k1,k3,k2⟩:=h2;rw [<-e2]
     exact next _ _ k1 k3 k2
 have hrep: ∀i,(Array.replicate l.toArray.size false).getD i false=false:=fun i=>by
  simp only [Rr,Array.getElem?_replicate];split<;>rfl
 have h0:=main l.toArray.size (Array.replicate l.toArray.size false) (fun _=>undef) g0 (by simp) (N.JP _)
  (fun i hi=>by rw [hrep] at hi;cases hi) (fun j i hj=>by rw [hrep] at hj;cases hj) (fun j _=>hp0 j) (qN _)
 have e:cw (fun i=>(Array.replicate l.toArray.size false).getD i false) (fun _=>undef) l 0 a=a:=by
  have: ∀(l':List Oper) k,cw (fun i=>(Array.replicate l.toArray.size false).getD i false) (fun _=>undef) l' k a=a:=by
   intro l'
   induction l' with
   | nil=>intro k;rfl
   | cons o l' ih=>intro k;rw [cw,hrep];exact ih (k+1)
  exact this l 0
 rw [e,hg0] at h0;exact h0
end
end
section
section
variable {D:Nat->Prop} {nu:Nat->Nat->Value} {o:List (Option aa)} {w:World} {P:Program}
def EX:Op->Bool
 | .move _| .assign _| .nilCheck _| .build .. | .binOp .. | .unOp .. | .convert .. | .makeFunc .. | .fieldAddr .. | .field .. | .index .. | .extract .. | .pick .. | .box .. | .buildSlice .. =>true
 | _=>false
theorem Bb {op:Op} (h:EX op=true) {t:List AV} {o o':List (Option aa)} {y:iO} {K:AV->Prop} (hd:de P op ⟨t,o,y⟩ K):de P op ⟨t,o',y⟩ K:=by
 cases op with
 | makeFunc fn a b=>cases fn<;>exact hd
 | _=>first|(cases h;done)|exact hd
def s6 (P:Program) (f:FuncId) (args:List AV) (o:List (Option aa)) (K:AV->List (Option aa)->Prop):Prop:= ∃r o',bG P f args o r o'∧K r o'
@[congr] theorem FV {f:FuncId} {args args':List AV} {o o':List (Option aa)} {K:AV->List (Option aa)->Prop} (h:args=args') (k:o=o'):s6 P f args o K=s6 P f args' o' K:=by rw [h,k]
def AQ (P:Program) (f:AV) (args:List AV) (o:List (Option aa)) (K:AV->List (Option aa)->Prop):Prop:=match f with
 | .fn g first caps=>s6 P g (first++args++caps) o K
 | _=>False
@[congr] theorem I1 {f f':AV} {args args':List AV} {o o':List (Option aa)} {K:AV->List (Option aa)->Prop} (h:f=f') (k:args=args') (l:o=o'):AQ P f args o K=AQ P f' args' o' K:=by rw [h,k,l]
theorem FY (g:FuncId) (first caps args:List AV) (o:List (Option aa)) (K:AV->List (Option aa)->Prop):AQ P (.fn g first caps) args o K=s6 P g (first++args++caps) o K:=rfl
def qT (P:Program) (op:Op) (s:AS) (K:AV->List (Option aa)->Prop):Prop:=match op with
 | .pick _ _ _=>False
 | .call c=>match c.callee with
  | .value f=>AQ P (s.ev f) (c.args.toList.map s.ev) s.o K
  | _=>AR (Gj P s.ev s.o (.call c)) K
 | op=>AR (Gj P s.ev s.o op) K
theorem Gg {s:AS} {op:Op} {K:AV->List (Option aa)->Prop} (h:qT P op s K): ∃r o',K r o'∧qT P op s (fun r' o''=>r'=r∧o''=o'):=by
 unfold qT at h ⊢
 split at h
 ·exact h.elim
 ·split at h
  ·unfold AQ at h ⊢
   split at h
   ·obtain ⟨r,o',h1,h2⟩:=h;exact ⟨r,o',h2,r,o',h1,rfl,rfl⟩
   ·exact h.elim
  ·unfold AR at h ⊢
   split at h
   ·exact ⟨_,_,h.2,h.1,rfl,rfl⟩
   ·exact h.elim
 ·unfold AR at h ⊢
  split at h
  ·exact ⟨_,_,h.2,h.1,rfl,rfl⟩
  ·exact h.elim
theorem Ba {s:AS} {rho:Operand->Value} {oo:Oper} {r:AV} {o':List (Option aa)} (h:RO D nu s.o w) (hev:Dk D nu s.o w s.ev rho oo.op) (hd:qT P oo.op s (fun r' o''=>r'=r∧o''=o')) :
  (∃v w' nu',((execOp rho oo).run P w = .ok (.value v) w'∨((execOp rho oo).run P w = .ok .skip w'∧v=Go.undef))∧bY nu s.o w nu' o' w'∧RO D nu' o' w'∧RA D nu' o' w' r v) ∨
  (∃g vargs,(execOp rho oo).run P w = .ok (.enter g vargs) w∧Calls P g vargs w (fun e w'=> ∃v nu',e = .returned v∧bY nu s.o w nu' o' w'∧RO D nu' o' w'∧RA D nu' o' w' r v)):=by
 have hop: ∀op,oo.op=op->AR (Gj P s.ev s.o op) (fun r' o''=>r'=r∧o''=o')->(∃v w' nu',((execOp rho oo).run P w = .ok (.value v) w'∨((execOp rho oo).run P w = .ok .skip w'∧v=Go.undef))∧bY nu s.o w nu' o' w'∧RO D nu' o' w'∧RA D nu' o' w' r v):=by
  intro op ho hh;subst ho;unfold AR at hh
  split at hh
  ·rename_i p r1 o1 e;obtain ⟨hp,rfl,rfl⟩:=hh;obtain ⟨v,w',nu',h1,h2,h3,h4⟩:=vn (P:=P) h hev e hp;exact ⟨v,w',nu',h1,h2,h3,h4⟩
  ·exact hh.elim
 unfold qT at hd
 split at hd
 ·exact hd.elim
 ·rename_i c ho
  split at hd
  ·rename_i f hc;unfold AQ at hd
   split at hd
   ·rename_i g first caps e
    obtain ⟨r1,o1,hcall,rfl,rfl⟩:=hd;have hf:=hev f (by rw [ho];simp [Op.operands,Call.operands,hc]);rw [e] at hf;generalize hq:rho f=vf at hf
    cases hf with
    | fn _ _ _ fi ca q1 q2 q3 q4=>
    have hargs: ∀x,x∈c.args.toList->RA D nu s.o w (s.ev x) (rho x):=fun x hx=>hev x (by rw [ho];simp only [Op.operands,Call.operands,hc];simp;exact .inr (by simpa using hx))
    have hra:fQ D nu s.o w (first++c.args.toList.map s.ev++caps) (fi++c.args.map rho++ca):=by
     refine ⟨by simp [q1,q2],fun i cc x k1 k2=> ?_⟩;rw [List.append_assoc] at k1;rw [Array.append_assoc] at k2
     rcases QF i first.length with l1|l1
     ·rw [QE l1] at k1;rw [Rf (by omega)] at k2;exact q3 i cc x k1 k2
     ·rw [Q8 l1] at k1;rw [RB (by omega)] at k2;rw [q1] at k1
      rcases QF (i - fi.size) c.args.size with l2|l2
      ·rw [QE (by simpa using l2),List.getElem?_map] at k1;rw [Rf (by simpa using l2),Array.getElem?_map] at k2
       have e2:c.args.toList[i - fi.size]? = c.args[i - fi.size]? :=by simp
       rw [e2] at k1
       cases hk2:c.args[i - fi.size]? with
       | none=>rw [hk2] at k1;cases k1
       | some y=>
        rw [hk2] at k1 k2;cases k1;cases k2;exact hargs y (Re (by rw [e2];exact hk2))
      ·rw [Q8 (by simpa using l2)] at k1;rw [RB (by simpa using l2)] at k2;simp only [List.length_map,Array.length_toList,Array.size_map] at k1 k2;exact q4 _ cc x k1 k2
    refine .inr ⟨g,_, ?_,(hcall.2 D nu w _ h hra).mono ?_⟩
    ·simp only [execOp,ho,resolve,hc,hq,Deferred.ofValue,Sem.run_bind,Sem.run_pure,Result.andThen_ok,invoke];exact gJ hcall.1 _ w
    ·rintro e w' ⟨v,nu',o2,r2,rfl,m1,m2,m3,rfl,rfl⟩;exact ⟨v,nu',rfl,m1,m2,m3⟩
   ·exact hd.elim
  ·exact .inl (hop _ ho hd)
 ·exact .inl (hop _ rfl hd)
def jZ:List (Nat×Nat)->Nat->Option Nat
 | [],_=>none
 | (j,lo) :: fs,k=>if j=k∧lo<1000 then some lo else jZ fs k
def tT:List (Nat×Nat)->Nat->Bool
 | [],_=>false
 | (j,lo) :: fs,k=>decide (j=k∧lo=1000)||tT fs k
def JJ:Option (List (Option aa)->Prop)->List (Option aa)->Prop
 | none,_=>True
 | some p,o=>p o
def cH (P:Program) (all:List Oper) (es:List Nat) (fs:List (Nat×Nat)):List Oper->Nat->AS->List (List (Option aa))->Option (List (Option aa)->Prop)->(AS->Prop)->Prop
 | [],_,s,_,_,Q=>Q s
 | oo :: rest,k,s,hist,pn,Q=>if es.contains k then (match oo.guard with
   | none=>qT P oo.op s (fun r o'=>JJ pn o'∧cH P all es fs rest (k+1) (s.put oo.dst r o') (hist++[s.o]) pn Q)
   | some _=>False) else match jZ fs k with
   | some lo=>oo.guard=none∧de P oo.op s (fun r=>(∀o',o'∈hist.drop lo->de P oo.op ⟨s.t,o',s.y⟩ (fun r'=>r'=r))∧cH P all es fs rest (k+1) (s.put oo.dst r s.o) hist pn Q)
   | none=>if tT fs k=true then oo.guard=none∧de P oo.op s (fun r=>cH P all es fs rest (k+1) (s.put oo.dst r s.o) hist (some fun o'=>JJ pn o'∧de P oo.op ⟨s.t,o',s.y⟩ (fun r'=>r'=r)) Q)
    else dL P all oo s (fun s'=>cH P all es fs rest (k+1) s' hist pn Q)
def KQ (P:Program) (all:List Oper) (es:List Nat) (fs:List (Nat×Nat)):List Oper->Nat->AS->List (List (Option aa))->List AV->List (List (Option aa))->AS->Prop
 | [],_,s,_,rs,os,sf=>rs=[]∧os=[]∧sf=s
 | oo :: rest,k,s,hist,rs,os,sf=> ∃r rs',rs=r :: rs' ∧
   ((es.contains k=true∧oo.guard=none∧ ∃o' os',os=o' :: os'∧qT P oo.op s (fun r' o''=>r'=r∧o''=o')∧KQ P all es fs rest (k+1) (s.put oo.dst r o') (hist++[s.o]) rs' os' sf) ∨
   (es.contains k=false∧(((oo.guard=none∨ ∃j want b,oo.guard=some (j,want)∧iq all s j=some (some b)∧(b==want)=true)∧de P oo.op s (fun r'=>r'=r)∧(∀lo,jZ fs k=some lo-> ∀o',o'∈hist.drop lo->de P oo.op ⟨s.t,o',s.y⟩ (fun r'=>r'=r))∧(jZ fs k=none->tT fs k=true-> ∀o',o'∈os->de P oo.op ⟨s.t,o',s.y⟩ (fun r'=>r'=r))) ∨
    (jZ fs k=none∧tT fs k=false∧r = .v Go.undef∧ ∃j want g,oo.guard=some (j,want)∧iq all s j=some g∧(g=none∨ ∃b,g=some b∧(b==want)=false)))∧KQ P all es fs rest (k+1) (s.put oo.dst r s.o) hist rs' os sf))
theorem fb {all:List Oper} {es:List Nat} {fs:List (Nat×Nat)}: ∀(rest:List Oper) (k:Nat) (s:AS) (hist:List (List (Option aa))) {pn:Option (List (Option aa)->Prop)} {Q:AS->Prop},cH P all es fs rest k s hist pn Q-> ∃rs os sf,KQ P all es fs rest k s hist rs os sf∧(∀o',o'∈os->JJ pn o')∧Q sf
 | [],k,s,hist,pn,Q,h=>⟨[],[],s,⟨rfl,rfl,rfl⟩,(fun _ h=>by cases h),h⟩
 | oo :: rest,k,s,hist,pn,Q,h=>by
  simp only [cH] at h
  cases he:es.contains k
  ·rw [he] at h;simp only [Sr,if_false] at h
   cases hf:jZ fs k with
   | some lo=>
    rw [hf] at h;obtain ⟨hg,h⟩:=h;obtain ⟨r,⟨hh,hk⟩,hr⟩:=ir h;obtain ⟨rs,os,sf,h1,h2⟩:=fb rest (k+1) _ hist hk;exact ⟨r :: rs,os,sf,⟨r,rs,rfl, .inr ⟨he, .inl ⟨.inl hg,hr,(fun lo' hl=>by rw [hf] at hl;cases hl;exact hh),fun hn=>by rw [hf] at hn;cases hn⟩,h1⟩⟩,h2⟩
   | none=>
   rw [hf] at h
   have hno: ∀r lo,jZ fs k=some lo-> ∀o',o'∈hist.drop lo->de P oo.op ⟨s.t,o',s.y⟩ (fun r'=>r'=r):=fun r lo hl=>by rw [hf] at hl;cases hl
   simp only at h;cases hlt:tT fs k
   case true=>
    rw [hlt] at h;simp only [if_true] at h;obtain ⟨hg,h⟩:=h;obtain ⟨r,hk,hr⟩:=ir h;obtain ⟨rs,os,sf,h1,h0,h2⟩:=fb rest (k+1) _ hist hk;exact ⟨r :: rs,os,sf,⟨r,rs,rfl, .inr ⟨he, .inl ⟨.inl hg,hr,hno r,fun _ _ o' ho'=>(h0 o' ho').2⟩,h1⟩⟩,fun o' ho'=>(h0 o' ho').1,h2⟩
   have hla: ∀(r:AV) (os:List (List (Option aa))),jZ fs k=none->tT fs k=true-> ∀o',o'∈os->de P oo.op ⟨s.t,o',s.y⟩ (fun r'=>r'=r):=fun r os _ h=>by rw [hlt] at h;cases h
   rw [hlt] at h;simp only [Sr,if_false] at h;simp only [dL] at h
   split at h
   ·rename_i hg;obtain ⟨r,hk,hr⟩:=ir h;obtain ⟨rs,os,sf,h1,h2⟩:=fb rest (k+1) _ hist hk;exact ⟨r :: rs,os,sf,⟨r,rs,rfl, .inr ⟨he, .inl ⟨.inl hg,hr,hno r,hla r _⟩,h1⟩⟩,h2⟩
   ·rename_i j want hg;unfold qS at h
    split at h
    ·rename_i b e
     cases hb:b==want
     ·rw [hb,rB] at h;obtain ⟨rs,os,sf,h1,h2⟩:=fb rest (k+1) _ hist h;exact ⟨_ :: rs,os,sf,⟨_,rs,rfl, .inr ⟨he, .inr ⟨hf,hlt,rfl,j,want,_,hg,e, .inr ⟨b,rfl,hb⟩⟩,h1⟩⟩,h2⟩
     ·rw [hb,uY] at h;obtain ⟨r,hk,hr⟩:=ir h;obtain ⟨rs,os,sf,h1,h2⟩:=fb rest (k+1) _ hist hk;exact ⟨r :: rs,os,sf,⟨r,rs,rfl, .inr ⟨he, .inl ⟨.inr ⟨j,want,b,hg,e,hb⟩,hr,hno r,hla r _⟩,h1⟩⟩,h2⟩
    ·rename_i e;obtain ⟨rs,os,sf,h1,h2⟩:=fb rest (k+1) _ hist h;exact ⟨_ :: rs,os,sf,⟨_,rs,rfl, .inr ⟨he, .inr ⟨hf,hlt,rfl,j,want,_,hg,e, .inl rfl⟩,h1⟩⟩,h2⟩
    ·exact h.elim
  ·rw [he] at h;simp only [if_true] at h
   split at h
   ·rename_i hg;obtain ⟨r,o',⟨hpo,hk⟩,hr⟩:=Gg h;obtain ⟨rs,os,sf,h1,h0,h2⟩:=fb rest (k+1) _ _ hk;exact ⟨r :: rs,o' :: os,sf,⟨r,rs,rfl, .inl ⟨he,hg,o',os,rfl,hr,h1⟩⟩,fun o'' ho=>(List.mem_cons.1 ho).elim (fun e=>by rw [e];exact hpo) (h0 o''),h2⟩
   ·exact h.elim
def re (ops:Array Oper):Nat->Nat->Nat->Bool
 | 0,_,_=>false
 | n+1,j,i=>aG ops j i||(List.range ops.size).any (fun k=>aG ops j k&&re ops n k i)
def GL (ops:Array Oper) (es:List Nat) (j:Nat):Bool:=es.all (fun e=>decide (e=j)||if e<j then re ops ops.size j e else re ops ops.size e j)
def sO:List Nat->Bool
 | []=>true
 | [_]=>true
 | a :: b :: l=>decide (a<b)&&sO (b :: l)
def Eg (ops:Array Oper) (es:List Nat) (fs:List (Nat×Nat)) (j:Nat):Bool:=match jZ fs j with
 | some lo=>decide (lo<=es.length)&&(es.take lo).all (fun e=>re ops ops.size j e)&&es.all (fun e=>decide (e<j)||(e !=j&&re ops ops.size e j))
 | none=>false
def EE (ops:Array Oper) (es:List Nat) (fs:List (Nat×Nat)) (j:Nat):Bool:= !es.contains j&&(jZ fs j).isNone&&tT fs j&&es.all (fun e=>decide (j<=e)||re ops ops.size j e)
def pJ (ops:Array Oper) (es:List Nat) (fs:List (Nat×Nat)):Bool:=qx ops&&sO es&&es.all (fun e=>decide (e<ops.size))&&(List.range ops.size).all (fun j=>(match ops[j]? with|some oo=>EX oo.op|none=>true) && !es.contains j||GL ops es j||Eg ops es fs j||EE ops es fs j)
structure GG (D:Nat->Prop) (nu0:Nat->Nat->Value) (o0:List (Option aa)) (w0:World) (l:List Oper) (es:List Nat) (O:Nat->List (Option aa)) where
 w:World
 nu:Nat->Nat->Value
 done:Nat->Bool
 c:Nat
 ro:RO D nu (O c) w
 mono:bY nu0 o0 w0 nu (O c) w
 cl: ∀j i,done j=true->aG l.toArray j i=true->done i=true
 ef: ∀k e,es[k]? = some e->(done e=true↔k<c)
 le:c<=es.length
variable {nu0:Nat->Nat->Value} {o0:List (Option aa)} {w0:World} {l:List Oper} {es:List Nat} {O:Nat->List (Option aa)}
def dh (D:Nat->Prop) (nu0:Nat->Nat->Value) (o0:List (Option aa)) (w0:World) (l:List Oper) (es:List Nat) (O:Nat->List (Option aa)):jL:=
 ⟨GG D nu0 o0 w0 l es O,GG.w,fun g g'=>bY g.nu (O g.c) g.w g'.nu (O g'.c) g'.w∧ ∀j,g.done j=true->g'.done j=true,fun g=>⟨.refl _ _ _,fun _ h=>h⟩,fun _ _ _ h k=>⟨h.1.trans k.1,fun j hj=>k.2 j (h.2 j hj)⟩,fun j g=>g.done j=false⟩
def kZ (D:Nat->Prop) (nu0:Nat->Nat->Value) (o0:List (Option aa)) (w0:World) (l:List Oper) (es:List Nat) (O:Nat->List (Option aa)) (k:Nat) (r:AV):ea (dh D nu0 o0 w0 l es O):=
 ⟨fun v g=>RA D g.nu (O g.c) g.w r v∧g.done k=true,fun v g g' hR h=>⟨h.1.mono hR.1 (fun _ _ h=>h),hR.2 k h.2⟩⟩
def GG.next (g:GG D nu0 o0 w0 l es O) (k:Nat) (w':World) (hb:Below g.w.heap.size g.w w') (hd: ∀i,aG l.toArray k i=true->g.done i=true) (he:es.contains k=false):GG D nu0 o0 w0 l es O where
 w:=w'
 nu:=g.nu
 done:=fun j=>if j=k then true else g.done j
 c:=g.c
 ro:=g.ro.below hb
 mono:=g.mono.trans (ar hb)
 cl:=fun j i h1 h2=>by
  by_cases hi:i=k
  ·simp [hi]
  ·simp only [if_neg hi]
   by_cases hj:j=k
   ·subst hj;exact hd i h2
   ·simp only [if_neg hj] at h1;exact g.cl j i h1 h2
 ef:=fun m e h=>by
  have hne:e≠k:=fun hh=>by
   subst hh
   have:=Re h
   simp [this] at he
  simp only [if_neg hne];exact g.ef m e h
 le:=g.le
theorem GG.qd (g:GG D nu0 o0 w0 l es O) (k:Nat) (w':World) (hb:Below g.w.heap.size g.w w') (hd: ∀i,aG l.toArray k i=true->g.done i=true) (he:es.contains k=false) :
  (dh D nu0 o0 w0 l es O).R g (g.next k w' hb hd he)∧ ∀i,i≠k->(dh D nu0 o0 w0 l es O).pre i g->(dh D nu0 o0 w0 l es O).pre i (g.next k w' hb hd he):=by
 refine ⟨⟨ar hb,fun j hj=> ?_⟩,fun i hi h=> ?_⟩
 ·show (if j=k then true else g.done j)=true
  by_cases hjk:j=k
  ·simp [hjk]
  ·simp [hjk,hj]
 ·show (if i=k then true else g.done i)=false;simp [hi];exact h
def GG.NQ (g:GG D nu0 o0 w0 l es O) (k:Nat) (w':World) (nu':Nat->Nat->Value) (hm:bY g.nu (O g.c) g.w nu' (O (g.c+1)) w') (hr:RO D nu' (O (g.c+1)) w') (hd: ∀i,aG l.toArray k i=true->g.done i=true) (he:es[g.c]? = some k) (hn:es.Nodup):GG D nu0 o0 w0 l es O where
 w:=w'
 nu:=nu'
 done:=fun j=>if j=k then true else g.done j
 c:=g.c+1
 ro:=hr
 mono:=g.mono.trans hm
 cl:=fun j i h1 h2=>by
  by_cases hi:i=k
  ·simp [hi]
  ·simp only [if_neg hi]
   by_cases hj:j=k
   ·subst hj;exact hd i h2
   ·simp only [if_neg hj] at h1;exact g.cl j i h1 h2
 ef:=fun m e h=>by
  by_cases hek:e=k
  ·subst hek
   have:m=g.c:=(Ss (QD.1 h).1 hn).1 (h.trans he.symm)
   simp [this]
  ·simp only [if_neg hek]
   have hne:m≠g.c:=fun hh=>by subst hh;rw [he] at h;cases h;exact hek rfl
   rw [g.ef m e h];omega
 le:=(QD.1 he).1
theorem GG.La (g:GG D nu0 o0 w0 l es O) (k:Nat) (w':World) (nu':Nat->Nat->Value) (hm:bY g.nu (O g.c) g.w nu' (O (g.c+1)) w') (hr:RO D nu' (O (g.c+1)) w') (hd: ∀i,aG l.toArray k i=true->g.done i=true) (he:es[g.c]? = some k) (hn:es.Nodup) :
  (dh D nu0 o0 w0 l es O).R g (g.NQ k w' nu' hm hr hd he hn)∧ ∀i,i≠k->(dh D nu0 o0 w0 l es O).pre i g->(dh D nu0 o0 w0 l es O).pre i (g.NQ k w' nu' hm hr hd he hn):=by
 refine ⟨⟨hm,fun j hj=> ?_⟩,fun i hi h=> ?_⟩
 ·show (if j=k then true else g.done j)=true
  by_cases hjk:j=k
  ·simp [hjk]
  ·simp [hjk,hj]
 ·show (if i=k then true else g.done i)=false;simp [hi];exact h
theorem kE (g:GG D nu0 o0 w0 l es O): ∀(n j i:Nat),re l.toArray n j i=true->g.done j=true->g.done i=true
 | 0,_,_,h,_=>by cases h
 | n+1,j,i,h,hj=>by
  simp only [re,RJ,List.any_eq_true,Rq] at h
  rcases h with h|⟨k,_,h1,h2⟩
  ·exact g.cl j i hj h
  ·exact kE g n k i h2 (g.cl j k hj h1)
theorem nh (g:GG D nu0 o0 w0 l es O) {n j i:Nat} (h:re l.toArray n j i=true) (hd: ∀i,aG l.toArray j i=true->g.done i=true):g.done i=true:=by
 cases n with
 | zero=>cases h
 | succ n=>
  simp only [re,RJ,List.any_eq_true,Rq] at h
  rcases h with h|⟨k,_,h1,h2⟩
  ·exact hd i h
  ·exact kE g n k i h2 (hd k h1)
theorem GG.vr (g:GG D nu0 o0 w0 l es O) {k m:Nat} (hf:GL l.toArray es k=true) (hd: ∀i,aG l.toArray k i=true->g.done i=true) (hk:g.done k=false) (hm: ∀m' e,es[m']? = some e->(e<k↔m'<m)) (hml:m<=es.length):g.c=m:=by
 simp only [GL,RH,RJ,decide_eq_true_eq] at hf
 have h1:g.c<=m:=by
  rcases QF m g.c with q|q
  ·exfalso;have hlt:m<es.length:=Nat.lt_of_lt_of_le q g.le;have he:es[m]? = some es[m]:=QS hlt;have hdn:=(g.ef m _ he).2 q
   have hge: ¬es[m]<k:=fun hh=>by have:=(hm m _ he).1 hh;omega
   rcases hf _ (Su hlt) with h|h
   ·rw [h,hk] at hdn;cases hdn
   ·rw [if_neg hge] at h
    have:=kE g _ _ _ h hdn
    rw [hk] at this;cases this
  ·exact q
 have h2:m<=g.c:=by
  rcases Sv m with q|q
  ·omega
  ·have hlt:m - 1<es.length:=by omega
   have he:es[m - 1]? = some es[m - 1]:=QS hlt;have hlk:=(hm _ _ he).2 (by omega)
   rcases hf _ (Su hlt) with h|h
   ·omega
   ·rw [if_pos hlk] at h
    have:=(g.ef _ _ he).1 (nh g h hd)
    omega
 omega
theorem GG.Gq (g:GG D nu0 o0 w0 l es O) {k m:Nat} {fs:List (Nat×Nat)} (hf:EE l.toArray es fs k=true) (hd: ∀i,aG l.toArray k i=true->g.done i=true) (hm: ∀m' e,es[m']? = some e->(e<k↔m'<m)) (hml:m<=es.length):m<=g.c:=by
 simp only [EE,Rq,RH,RJ,decide_eq_true_eq] at hf
 rcases Sv m with q|q
 ·omega
 ·have hlt:m - 1<es.length:=by omega
  have he:es[m - 1]? = some es[m - 1]:=QS hlt;have hlk:=(hm _ _ he).2 (by omega)
  rcases hf.2 _ (Su hlt) with h|h
  ·omega
  ·have:=(g.ef _ _ he).1 (nh g h hd)
   omega
theorem GG.DL (g:GG D nu0 o0 w0 l es O) {k m lo:Nat} {fs:List (Nat×Nat)} (hf:Eg l.toArray es fs k=true) (hlo:jZ fs k=some lo) (hd: ∀i,aG l.toArray k i=true->g.done i=true) (hk:g.done k=false) (hm: ∀m' e,es[m']? = some e->(e<k↔m'<m)):lo<=g.c∧g.c<=m:=by
 simp only [Eg,hlo,Rq,RH,RJ,decide_eq_true_eq] at hf;obtain ⟨⟨h0,h1⟩,h2⟩:=hf
 constructor
 ·rcases Sv lo with q|q
  ·omega
  ·have hlt:lo - 1<es.length:=by omega
   have he:es[lo - 1]? = some es[lo - 1]:=QS hlt;have hmem:es[lo - 1]∈es.take lo:=List.mem_take_iff_getElem.2 ⟨lo - 1,by omega,rfl⟩
   have:=(g.ef _ _ he).1 (nh g (h1 _ hmem) hd)
   omega
 ·rcases QF m g.c with q|q
  ·exfalso;have hlt:m<es.length:=Nat.lt_of_lt_of_le q g.le;have he:es[m]? = some es[m]:=QS hlt;have hdn:=(g.ef m _ he).2 q
   have hge: ¬es[m]<k:=fun hh=>by have:=(hm m _ he).1 hh;omega
   rcases h2 _ (Su hlt) with h|h
   ·exact hge h
   ·have:=kE g _ _ _ h.2 hdn
    rw [hk] at this;cases this
  ·exact q
theorem yi {N:jL} {f:Nat->AV->ea N} {rs:List AV} {i:Nat} {e:AV} (h:rs[i]? = some e):lr (rs.mapIdx f) i=f i e:=by
 rw [lr,Rw,List.getElem?_mapIdx,h];rfl
theorem Gp {N:jL} {f:Nat->AV->ea N} {rs:List AV} {i:Nat} {e:AV} (h:rs[i]? = some e):lr (rs.mapIdx f) i=f i e:=yi h
structure F5 (l:List Oper) (s:AS) (a:Act) (k:Nat) (sk:AS) (rs:List AV) (A:(Nat->Value)->Act):Prop where
 y:sk.y=s.y
 len:rs.length=k
 gy: ∀x,(A x).defers=a.defers
 size: ∀x,sk.t.length=(A x).tmps.size
 val: ∀x (t:Nat) c v,sk.t[t]? = some c->(A x).tmps[t]? = some v->(s.t[t]? = some c∧a.tmps[t]? = some v)∨ ∃i,i<k∧(∃oi,l[i]? = some oi∧oi.dst=some t)∧rs[i]? = some c∧v=x i
theorem F5.step {l:List Oper} {s:AS} {a:Act} {k:Nat} {sk:AS} {rs:List AV} {A:(Nat->Value)->Act} (h:F5 l s a k sk rs A) {oo:Oper} (ho:l[k]? = some oo) (r:AV) (o':List (Option aa)) :
  F5 l s a (k+1) (sk.put oo.dst r o') (rs++[r]) (fun x=>(A x).put oo.dst (x k)):=by
 refine ⟨h.y,by simp [h.len],fun x=> ?_,fun x=> ?_,fun x t c v h1 h2=> ?_⟩
 ·have:=h.gy x;cases oo.dst<;>simpa [Act.put] using this
 ·have:=h.size x;cases oo.dst<;>simpa [Act.put,AS.put] using this
 ·have old:sk.t[t]? = some c->(A x).tmps[t]? = some v->(s.t[t]? = some c∧a.tmps[t]? = some v)∨ ∃i,i<k+1∧(∃oi,l[i]? = some oi∧oi.dst=some t)∧(rs++[r])[i]? = some c∧v=x i:=by
   intro h1 h2
   rcases h.val x t c v h1 h2 with h3|⟨i,q1,q2,q3,q4⟩
   ·exact .inl h3
   ·exact .inr ⟨i,by omega,q2,by rw [QE (by rw [h.len];exact q1)];exact q3,q4⟩
  cases hd:oo.dst with
  | none=>rw [hd] at h1 h2;exact old h1 h2
  | some d=>
   rw [hd] at h1 h2;simp only [AS.put,Act.put] at h1 h2
   by_cases hdt:d=t
   ·subst hdt;have hlt:=(QD.1 h1).1;simp only [List.length_set] at hlt;rw [List.getElem?_set_self hlt] at h1;rw [Array.getElem?_setIfInBounds_self_of_lt (by have:=h.size x;omega)] at h2;cases h1;cases h2;exact .inr ⟨k,by omega,⟨oo,ho,hd⟩,by rw [Q8 (by rw [h.len];exact Nat.le_refl _),h.len,Nat.sub_self];rfl,rfl⟩
   ·rw [List.getElem?_set_ne hdt] at h1;rw [Array.getElem?_setIfInBounds_ne hdt] at h2;exact old h1 h2
theorem yD {l:List Oper} (hB:qx l.toArray=true) {i j:Nat} {oi oj:Oper} (hij:i<j) (hi:l[i]? = some oi) (hj:l[j]? = some oj):aG l.toArray j i=true∨ ∀d,oi.dst=some d->d∉oj.looksAt l.toArray:=by
 simp only [qx,Rq,RH,RI,Q3] at hB;have hjn:=(QD.1 hj).1
 have:=(hB.2 j hjn).1 i hij
 simp only [Aq,QU,hi,hj,Rq,RJ,Sw] at this
 rcases this.1.1.1 with h|h
 ·exact .inl h
 ·refine .inr (fun e he=> ?_);rw [he] at h;simpa using h
theorem kg: ∀ {l:List Nat},sO l=true-> ∀(i j x y:Nat),i<j->l[i]? = some x->l[j]? = some y->x<y
 | [],_,i,j,x,y,_,h,_=>by simp at h
 | [a],_,i,j,x,y,hij,h1,h2=>by
  have:=(QD.1 h2).1
  simp at this;omega
 | a :: b :: l,h,i,j,x,y,hij,h1,h2=>by
  simp only [sO,Rq,decide_eq_true_eq] at h
  match i,j,h1,h2 with
  | 0,1,h1,h2=>cases h1;cases h2;exact h.1
  | 0,j+2,h1,h2=>
   cases h1
   have:=kg h.2 0 (j+1) b y (by omega) rfl (by simpa using h2)
   omega
  | i+1,j+1,h1,h2=>exact kg h.2 i j x y (by omega) (by simpa using h1) (by simpa using h2)
theorem iB {l:List Nat} (h:sO l=true):l.Nodup:=by
 refine List.pairwise_iff_getElem.2 (fun i j hi hj hij=> ?_)
 have:=kg h i j _ _ hij (QS hi) (QS hj)
 omega
theorem zt {l:List Oper} {es:List Nat} {fs:List (Nat×Nat)} (hsz: ∀e,e∈es->e<l.length) (hrise:sO es=true): ∀(rest:List Oper) (k m:Nat) (s:AS) (hist:List (List (Option aa))) (rs:List AV) (os:List (List (Option aa))) (sf:AS),l.drop k=rest->k<=l.length->KQ P l es fs rest k s hist rs os sf->m<=es.length ->
  (∀m' e,es[m']? = some e->(e<k↔m'<m))->os.length+m=es.length
 | [],k,m,s,hist,rs,os,sf,hl,hk,ht,hm,hme=>by
  obtain ⟨rfl,rfl,rfl⟩:=ht
  have hkl:k=l.length:=by have:=congrArg List.length hl;simp at this;omega
  rcases QF m es.length with q|q
  ·have he:es[m]? = some es[m]:=QS q
   have:=(hme m _ he).1 (by rw [hkl];exact hsz _ (Su q))
   omega
  ·simp;omega
 | oo :: rest,k,m,s,hist,rs,os,sf,hl,hk,ht,hm,hme=>by
  have hlt:k<l.length:=by have:=congrArg List.length hl;simp at this;omega
  have hl':l.drop (k+1)=rest:=by have:=congrArg List.tail hl;simpa using this
  obtain ⟨r,rs',rfl,ht⟩:=ht
  rcases ht with ⟨he,hg,o',os',rfl,hd,htr⟩|⟨he,hstep,htr⟩
  ·have hkm:k∈es:=by simpa using he
   obtain ⟨mk,hmk⟩:=Q2 hkm
   have hmke:mk=m:=by
    have h1: ¬mk<m:=fun hh=>by have:=(hme mk k hmk).2 hh;omega
    rcases QF m mk with q|q
    ·have hlt2:m<es.length:=by have:=(QD.1 hmk).1;omega
     have hem:es[m]? = some es[m]:=QS hlt2;have hlt3:=kg hrise m mk _ _ q hem hmk
     have:=(hme m _ hem).1 hlt3
     omega
    ·omega
   subst hmke;have hmlt:=(QD.1 hmk).1
   have:=zt hsz hrise rest (k+1) (mk+1) _ _ _ _ _ hl' hlt htr (by omega) (fun m' e h=>by
    by_cases hek:e=k
    ·subst hek
     have:m'=mk:=(Ss (QD.1 h).1 (iB hrise)).1 (h.trans hmk.symm)
     omega
    ·have:=hme m' e h
     have hne:m'≠mk:=fun hh=>by subst hh;rw [hmk] at h;cases h;exact hek rfl
     omega)
   simp only [List.length_cons];omega
  ·exact zt hsz hrise rest (k+1) m _ _ _ _ _ hl' hlt htr hm (fun m' e h=>by
    have hne:e≠k:=fun hh=>by
     subst hh
     have:=Re h
     simp [this] at he
    rw [<-hme m' e h];omega)
theorem jQ {f:Fr} {fs:List (Nat×Nat)} (hB:pJ l.toArray es fs=true) {s sf:AS} {a:Act} {w0:World} {rs:List AV} {os:List (List (Option aa))} {R:Exit->Act->World->Prop} {g0:GG D nu s.o w0 l es (fun c=>(s.o :: os).getD c [])} (hs:RS f D nu s a w0)
  (hR: ∀a' w' nu',bY nu s.o w0 nu' sf.o w'->sf.y=s.y->RS f D nu' sf a' w'->R .normal a' w') :
  ∀(rest:List Oper) (k m:Nat) (sk:AS) (hist:List (List (Option aa))) (rs1 rs2:List AV) (os2:List (List (Option aa))) (A:(Nat->Value)->Act),l.drop k=rest->KQ P l es fs rest k sk hist rs2 os2 sf->(s.o :: os).take m=hist->rs=rs1++rs2->F5 l s a k sk rs1 A->(s.o :: os).drop m=sk.o :: os2 ->
   m<=es.length->(∀m' e,es[m']? = some e->(e<k↔m'<m))->k<=l.length ->
   Ho (N:=dh D nu s.o w0 l es (fun c=>(s.o :: os).getD c [])) P l.toArray (rs.mapIdx (fun k r=>kZ D nu s.o w0 l es (fun c=>(s.o :: os).getD c []) k r)) g0 (R .normal) rest k A
 | [],k,m,sk,hist,rs1,rs2,os2,A,hl,ht,hhi,hrs,hI,hO,hml,hme,hk=>by
  obtain ⟨rfl,rfl,rfl⟩:=ht;intro x g hE hD
  have hkl:k=l.length:=by have:=congrArg List.length hl;simp at this;omega
  have hspec: ∀i r,rs1[i]? = some r->(kZ D nu s.o w0 l es (fun c=>(s.o :: os).getD c []) i r).p (x i) g:=fun i r hr=>by
   have hik:i<k:=by rw [<-hI.len];exact (QD.1 hr).1
   have:=hD i hik
   rw [hrs,List.append_nil,Gp hr] at this;exact this
  have hdone: ∀i,i<k->g.done i=true:=fun i hi=>by
   have hlt:i<rs1.length:=by rw [hI.len];exact hi
   exact (hspec i _ (QS hlt)).2
  have hsz: ∀e,e∈es->e<l.length:=by
   simp only [pJ,Rq,RH,decide_eq_true_eq,Q3] at hB;exact hB.1.2
  have hm:m=es.length:=by
   rcases QF m es.length with q|q
   ·have he:es[m]? = some es[m]:=QS q
    have:=(hme m _ he).1 (by rw [hkl];exact hsz _ (Su q))
    omega
   ·omega
  have hc:g.c=m:=by
   have h1:=g.le
   rcases Sv m with q|q
   ·omega
   ·have hlt:m - 1<es.length:=by omega
    have he:es[m - 1]? = some es[m - 1]:=QS hlt
    have:=(g.ef _ _ he).1 (hdone _ (by rw [hkl];exact hsz _ (Su hlt)))
    omega
  have hOm:(s.o :: os).getD m []=sf.o:=by
   have:=congrArg (fun l=>l[0]?) hO
   simp only [QQ,Nat.add_zero,RU] at this;rw [Rw,this];rfl
  have hro:=g.ro;have hmo:=g.mono;simp only [hc,hOm] at hro hmo;refine hR (A x) g.w g.nu hmo hI.y ⟨hro,⟨hI.size x,fun t c v h1 h2=> ?_⟩,by rw [hI.gy x];exact hs.gy.mono hs.ro hmo⟩
  rcases hI.val x t c v h1 h2 with ⟨h3,h4⟩|⟨i,q1,q2,q3,q4⟩
  ·exact (hs.tm.at' t c v h3 h4).mono hmo (fun _ _ h=>h)
  ·have:=(hspec i c q3).1
   simp only [hc,hOm] at this;rw [q4];exact this
 | oo :: rest,k,m,sk,hist,rs1,rs2,os2,A,hl,ht,hhi,hrs,hI,hO,hml,hme,hk=>by
  have hB':=hB;simp only [pJ,Rq,RH,decide_eq_true_eq,Q3,RI,RJ] at hB';obtain ⟨⟨⟨hrel,hrise⟩,hszs⟩,hfix⟩:=hB'
  have hlt:k<l.length:=by have:=congrArg List.length hl;simp at this;omega
  have hok:l[k]? = some oo:=by have:=congrArg (fun m=>m[0]?) hl;simpa using this
  have hl':l.drop (k+1)=rest:=by have:=congrArg List.tail hl;simpa using this
  have hOm:(s.o :: os).getD m []=sk.o:=by
   have:=congrArg (fun l=>l[0]?) hO
   simp only [QQ,Nat.add_zero,RU] at this;rw [Rw,this];rfl
  obtain ⟨r,rs',rfl,ht⟩:=ht
  have hrs':rs=(rs1++[r])++rs':=by rw [hrs];simp
  have hspecK:lr (rs.mapIdx (fun k r=>kZ D nu s.o w0 l es (fun c=>(s.o :: os).getD c []) k r)) k=kZ D nu s.o w0 l es (fun c=>(s.o :: os).getD c []) k r:=by
   rw [hrs];exact yi (by rw [Q8 (by rw [hI.len];exact Nat.le_refl _),hI.len,Nat.sub_self];rfl)
  have hspec: ∀(x:Nat->Value) (g:GG D nu s.o w0 l es (fun c=>(s.o :: os).getD c [])) i rr,(lr (rs.mapIdx (fun k r=>kZ D nu s.o w0 l es (fun c=>(s.o :: os).getD c []) k r)) i).p (x i) g->rs1[i]? = some rr->RA D g.nu ((s.o :: os).getD g.c []) g.w rr (x i)∧g.done i=true:=fun x g i rr h hr=>by
   rw [hrs,yi (by rw [QE (QD.1 hr).1];exact hr)] at h;exact h
  have hdep: ∀i,aG l.toArray k i=true->i<k:=fun i hi=>by
   simp only [qx,Rq,RH,RI,Q3] at hrel
   rcases Nat.lt_trichotomy i k with h|h|h
   ·exact h
   ·subst h
    have:=(hrel.2 i hlt).2.1
    rw [hi] at this;cases this
   ·exfalso;simp only [aG,QU,hok,Array.any_eq_true',Rq,beq_iff_eq] at hi;obtain ⟨e,he,hb,rfl⟩:=hi;have hfar:=(hrel.2 k hlt).2.2;simp only [tG,QU,hok,Array.all_eq_true_iff_forall_mem] at hfar
    have hel:e.on<l.length:=by simpa using hfar e he
    have:=(hrel.2 e.on hel).1 k h
    simp only [Aq,QU,hok,QS hel,Rq,Sw] at this;have h2:=this.1.1.2;simp only [aG,QU,hok] at h2
    have:oo.after.any (fun e_1=>Region.binds .any e_1&&e_1.on==e.on)=true:=by
     simp only [Array.any_eq_true',Rq,beq_iff_eq];exact ⟨e,he,hb,rfl⟩
    rw [this] at h2;cases h2
  have hdoneD: ∀(x:Nat->Value) (g:GG D nu s.o w0 l es (fun c=>(s.o :: os).getD c [])),(∀i,aG l.toArray k i=true->(lr (rs.mapIdx (fun k r=>kZ D nu s.o w0 l es (fun c=>(s.o :: os).getD c []) k r)) i).p (x i) g)-> ∀i,aG l.toArray k i=true->g.done i=true:=fun x g hD i hi=>by
   have hlt:i<rs1.length:=by rw [hI.len];exact hdep i hi
   exact (hspec x g i _ (hD i hi) (QS hlt)).2
  
  have hlook: ∀(x:Nat->Value) (g:GG D nu s.o w0 l es (fun c=>(s.o :: os).getD c [])),(∀i,aG l.toArray k i=true->(lr (rs.mapIdx (fun k r=>kZ D nu s.o w0 l es (fun c=>(s.o :: os).getD c []) k r)) i).p (x i) g)-> ∀(t:Nat) c v,t∈oo.looksAt l.toArray->sk.t[t]? = some c->(A x).tmps[t]? = some v->RA D g.nu ((s.o :: os).getD g.c []) g.w c v:=by
   intro x g hD t c v ht h1 h2
   rcases hI.val x t c v h1 h2 with ⟨h3,h4⟩|⟨i,q1,⟨oi,q2,q5⟩,q3,q4⟩
   ·exact (hs.tm.at' t c v h3 h4).mono g.mono (fun _ _ h=>h)
   ·rcases yD hrel q1 q2 hok with h5|h5
    ·have:=(hspec x g i c (hD i h5) q3).1
     rw [q4];exact this
    ·exact absurd ht (h5 t q5)
  have hevs: ∀(x:Nat->Value) (g:GG D nu s.o w0 l es (fun c=>(s.o :: os).getD c [])),(∀i,aG l.toArray k i=true->(lr (rs.mapIdx (fun k r=>kZ D nu s.o w0 l es (fun c=>(s.o :: os).getD c []) k r)) i).p (x i) g)->Dk D g.nu ((s.o :: os).getD g.c []) g.w sk.ev (A x).eval oo.op:=by
   intro x g hD y hy
   cases y with
   | tmp t=>
    simp only [AS.ev,Act.eval]
    rcases QF t sk.t.length with hlt|hge
    ·have e1:sk.t[t]? = some sk.t[t]:=QS hlt
     have hlt':t<(A x).tmps.size:=by rw [<-hI.size x];exact hlt
     have hx:(A x).tmps[t]? = some (A x).tmps[t]:=Array.getElem?_eq_getElem hlt';rw [getD_some e1]
     have:(A x).tmps.getD t Go.undef=(A x).tmps[t]:=by simp [Array.getD,hlt']
     rw [this];exact hlook x g hD t _ _ (List.mem_append_left _ (List.mem_filterMap.2 ⟨.tmp t,hy,rfl⟩)) e1 hx
    ·have e0:sk.t.getD t .undef = .undef:=by rw [Rw,List.getElem?_eq_none hge];rfl
     rw [e0];exact .undef _
   | const v=>exact .v v
   | global gi=>exact (mc hs.ro sk gi).mono g.mono (fun _ _ h=>h)
   | func f=>exact .fn f [] [] #[] #[] rfl rfl (fun i c x h=>by simp at h) (fun i c x h=>by simp at h)
  have hcont: ∀(x:Nat->Value),es.contains k=false-> ∀m' e,es[m']? = some e->(e<k+1↔m'<m):=fun _ he m' e h=>by
   have hne:e≠k:=fun hh=>by
    subst hh
    have:=Re h
    simp [this] at he
   rw [<-hme m' e h];omega
  rcases ht with ⟨he,hg,o',os',rfl,hd,htr⟩|⟨he,hstep,htr⟩
  ·
   have hkm:k∈es:=by simpa using he
   obtain ⟨mk,hmk⟩:=Q2 hkm
   have hmke:mk=m:=by
    have h1: ¬mk<m:=fun hh=>by have:=(hme mk k hmk).2 hh;omega
    rcases QF m mk with q|q
    ·have hlt2:m<es.length:=by have:=(QD.1 hmk).1;omega
     have hem:es[m]? = some es[m]:=QS hlt2;have hlt3:=kg hrise m mk _ _ q hem hmk
     have:=(hme m _ hem).1 hlt3
     omega
    ·omega
   subst hmke
   have hOm1:(s.o :: os).getD (mk+1) []=o':=by
    have h1:=congrArg (fun (l:List (List (Option aa)))=>l[1]?) hO;simp only [QQ] at h1;rw [Rw,h1];rfl
   refine ⟨fun x g hE hD hp=> ?_, ?_⟩
   ·have hdd:=hdoneD x g hD
    have hfx:GL l.toArray es k=true:=by
     rcases hfix k hlt with ((h|h)|h)|h
     ·have:=h.2;simp [hkm] at this
     ·exact h
     ·exfalso;simp only [Eg] at h
      split at h
      ·simp only [Rq,RH,RJ,decide_eq_true_eq] at h
       rcases h.2 k hkm with q|q
       ·omega
       ·simp at q
      ·cases h
     ·exfalso;simp only [EE,Rq] at h
      have:=h.1.1.1;simp [hkm] at this
    have hc:g.c=mk:=g.vr hfx hdd hp hme hml;have hev:=hevs x g hD;have hro:=g.ro;simp only [hc,hOm] at hev hro;refine .inl ⟨by simp [Region.wanted,hg], ?_⟩;rw [hspecK]
    have hgo: ∀(v:Value) (w':World) (nu':Nat->Nat->Value),bY g.nu sk.o g.w nu' o' w'->RO D nu' o' w'->RA D nu' o' w' r v ->
      ∃g':GG D nu s.o w0 l es (fun c=>(s.o :: os).getD c []),(dh D nu s.o w0 l es (fun c=>(s.o :: os).getD c [])).wd g'=w'∧(dh D nu s.o w0 l es (fun c=>(s.o :: os).getD c [])).R g g'∧(∀i,i≠k->(dh D nu s.o w0 l es (fun c=>(s.o :: os).getD c [])).pre i g->(dh D nu s.o w0 l es (fun c=>(s.o :: os).getD c [])).pre i g')∧(kZ D nu s.o w0 l es (fun c=>(s.o :: os).getD c []) k r).p v g':=by
     intro v w' nu' m1 m2 m3
     have hm':bY g.nu ((s.o :: os).getD g.c []) g.w nu' ((s.o :: os).getD (g.c+1) []) w':=by rw [hc,hOm,hOm1];exact m1
     have hr':RO D nu' ((s.o :: os).getD (g.c+1) []) w':=by rw [hc,hOm1];exact m2
     have hek:es[g.c]? = some k:=by rw [hc];exact hmk
     have hR2:=g.La k w' nu' hm' hr' hdd hek (iB hrise)
     refine ⟨g.NQ k w' nu' hm' hr' hdd hek (iB hrise),rfl,hR2.1,hR2.2, ?_, ?_⟩
     ·show RA D nu' ((s.o :: os).getD (g.c+1) []) w' r v;rw [hc,hOm1];exact m3
     ·show (if k=k then true else g.done k)=true;simp
    rcases Ba (P:=P) (rho:=(A x).eval) hro hev hd with ⟨v,w',nu',h1,m1,m2,m3⟩|⟨gf,vargs,h1,h2⟩
    ·rcases h1 with h1|⟨h1,rfl⟩
     ·have e1:(execOp (A x).eval oo).run P ((dh D nu s.o w0 l es (fun c=>(s.o :: os).getD c [])).wd g) = .ok (.value v) w':=h1;rw [e1];exact hgo v w' nu' m1 m2 m3
     ·have e1:(execOp (A x).eval oo).run P ((dh D nu s.o w0 l es (fun c=>(s.o :: os).getD c [])).wd g) = .ok .skip w':=h1;rw [e1];exact hgo _ w' nu' m1 m2 m3
    ·have e1:(execOp (A x).eval oo).run P ((dh D nu s.o w0 l es (fun c=>(s.o :: os).getD c [])).wd g) = .ok (.enter gf vargs) g.w:=h1;rw [e1];refine h2.mono ?_;rintro e w' ⟨v,nu',rfl,m1,m2,m3⟩;obtain ⟨g',k1,k2,k3,k4⟩:=hgo v w' nu' m1 m2 m3;exact ⟨v,g',rfl,k1,k2,k3,k4⟩
   ·refine jQ hB hs hR rest (k+1) (mk+1) (sk.put oo.dst r o') (hist++[sk.o]) (rs1++[r]) rs' os' _ hl' htr (by rw [List.take_succ_eq_append_getElem (by have:=congrArg List.length hO;simp at this ⊢; omega),hhi];congr 1;have:=hOm;rw [Rw,QS (by have:=congrArg List.length hO;simp at this ⊢; omega)] at this;simpa using this) hrs' (hI.step hok r o') ?_ ((QD.1 hmk).1) (fun m' e h=> ?_) hlt
    ·have:=congrArg List.tail hO
     rw [List.tail_drop] at this;exact this
    ·by_cases hek:e=k
     ·subst hek
      have:m'=mk:=(Ss (QD.1 h).1 (iB hrise)).1 (h.trans hmk.symm)
      omega
     ·have:=hme m' e h
      have hne:m'≠mk:=fun hh=>by subst hh;rw [hmk] at h;cases h;exact hek rfl
      omega
  ·refine ⟨fun x g hE hD hp=> ?_, ?_⟩
   ·have hdd:=hdoneD x g hD;rw [hspecK]
    have hnext: ∀(v:Value) (w':World),RA D g.nu ((s.o :: os).getD g.c []) w' r v->Below g.w.heap.size g.w w' ->
      ∃g':GG D nu s.o w0 l es (fun c=>(s.o :: os).getD c []),(dh D nu s.o w0 l es (fun c=>(s.o :: os).getD c [])).wd g'=w'∧(dh D nu s.o w0 l es (fun c=>(s.o :: os).getD c [])).R g g'∧(∀i,i≠k->(dh D nu s.o w0 l es (fun c=>(s.o :: os).getD c [])).pre i g->(dh D nu s.o w0 l es (fun c=>(s.o :: os).getD c [])).pre i g')∧(kZ D nu s.o w0 l es (fun c=>(s.o :: os).getD c []) k r).p v g':=by
     intro v w' hr hb;have hR2:=g.qd k w' hb hdd he;refine ⟨g.next k w' hb hdd he,rfl,hR2.1,hR2.2,hr, ?_⟩;show (if k=k then true else g.done k)=true;simp
    have hyv: ∀j want,oo.guard=some (j,want)-> ∀gg,iq l sk j=some gg->yielded l.toArray (A x).tmps j=gg:=fun j want hg gg hgv=>
     fL (s:=⟨sk.t,(s.o :: os).getD g.c [],sk.y⟩) (D:=D) (nu:=g.nu) (w:=g.w) (fun d c v hd h1 h2=>by
      refine hlook x g hD d c v ?_ h1 h2;obtain ⟨og,q1,q2⟩:=hd;refine List.mem_append_right _ ?_;simp only [hg,QU,q1,Option.bind_some,q2]
      simp) (hI.size x) (show iq l ⟨sk.t,_,sk.y⟩ j=some gg from hgv)
    rcases hstep with ⟨hw,hd,hfl,hlat⟩|⟨_,_,rfl,j,want,gg,hg,hgv,hno⟩
    ·have hwant:Region.wanted oo (yielded l.toArray (A x).tmps)=true:=by
      rcases hw with hg|⟨j,want,b,hg,hgv,hb⟩
      ·simp [Region.wanted,hg]
      ·simp only [Region.wanted,hg,hyv j want hg _ hgv];simpa using hb
     refine .inl ⟨hwant, ?_⟩
     have hd':de P oo.op ⟨sk.t,(s.o :: os).getD g.c [],sk.y⟩ (fun r'=>r'=r):=by
      rcases hfix k hlt with ((h|h)|h)|h
      ·rw [show l.toArray[k]? = some oo by simpa using hok] at h;exact Bb (by simpa using h.1) (show de P oo.op ⟨sk.t,sk.o,sk.y⟩ (fun r'=>r'=r) from hd)
      ·have hc:g.c=m:=g.vr h hdd hp hme hml;rw [hc,hOm];exact hd
      ·have hlo: ∃lo,jZ fs k=some lo:=by
        simp only [Eg] at h
        split at h
        ·exact ⟨_, ‹_›⟩
        ·cases h
       obtain ⟨lo,hlo⟩:=hlo;obtain ⟨c1,c2⟩:=g.DL h hlo hdd hp hme
       rcases Nat.eq_or_lt_of_le c2 with hc|hc
       ·rw [hc,hOm];exact hd
       ·have hgl:g.c<(s.o :: os).length:=by have:=congrArg List.length hO;simp at this ⊢; omega
        refine hfl lo hlo _ ?_;rw [<-hhi,Rw,QS hgl];refine List.mem_drop_iff_getElem.2 ⟨g.c - lo,by simp at hgl ⊢; omega, ?_⟩;rw [List.getElem_take];simp only [Option.getD_some]
        congr 1
        omega
      ·have hc:=g.Gq h hdd hme hml;simp only [EE,Rq] at h
       rcases Nat.eq_or_lt_of_le hc with hc|hc
       ·rw [<-hc,hOm];exact hd
       ·have hle:=g.le;refine hlat (by simpa using h.1.1.2) h.1.2 _ ?_;have hln:=zt hszs hrise rest (k+1) m _ _ _ _ _ hl' (by omega) htr hml (hcont (fun _=>Go.undef) he);have e1:=congrArg (fun (l:List (List (Option aa)))=>l[g.c - m]?) hO;obtain ⟨d,hd1⟩: ∃d,g.c - m=d+1:=⟨g.c - m - 1,by omega⟩;simp only [QQ,show m+(g.c - m)=g.c by omega] at e1;rw [hd1,List.getElem?_cons_succ,QS (l:=os2) (by omega)] at e1;rw [Rw,e1];exact Su _
     obtain ⟨r',rfl,hout⟩:=kA (P:=P) (s:=⟨sk.t,(s.o :: os).getD g.c [],sk.y⟩) (rho:=(A x).eval) g.ro (hevs x g hD) hd';have e0:(execOp (A x).eval oo).run P ((dh D nu s.o w0 l es (fun c=>(s.o :: os).getD c [])).wd g)=(execOp (A x).eval oo).run P g.w:=rfl;rw [e0];generalize (execOp (A x).eval oo).run P g.w=res at hout
     cases res with
     | halt _ _=>exact hout.elim
     | ok n w'=>
      cases n<;>first|exact hout.elim|skip
      case value u=>exact hnext u w' hout.1.2 hout.2
      case skip=>exact hnext _ w' hout.1.2 hout.2
      case enter gf vargs=>
       refine Calls.mono hout ?_;rintro e w'' ⟨v,rfl,hv,hb⟩;obtain ⟨g',k1,k2,k3,k4⟩:=hnext v w'' hv.2 hb;exact ⟨v,g',rfl,k1,k2,k3,k4⟩
    ·refine .inr ⟨?_, ?_⟩
     ·simp only [Region.wanted,hg,hyv j want hg _ hgv]
      rcases hno with rfl|⟨b,rfl,hb⟩
      ·rfl
      ·simpa using hb
     ·obtain ⟨g',k1,k2,k3,k4⟩:=hnext Go.undef g.w (.v _) (.refl _ _);exact ⟨g',k1,k2,k3,k4⟩
   ·have hO':(s.o :: os).drop m=(sk.put oo.dst r s.o).o :: os2->True:=fun _=>trivial;refine jQ hB hs hR rest (k+1) m (sk.put oo.dst r sk.o) hist (rs1++[r]) rs' os2 _ hl' ?_ hhi hrs' (hI.step hok r sk.o) hO hml (hcont (fun _=>Go.undef) he) hlt;exact htr
theorem dU {n0 id:Nat} {s:AS} {l:List Oper} {Q:ba->AS->Prop} (es:List Nat) (fs:List (Nat×Nat)) (hB:pJ l.toArray es fs=true) (hC:dN l.toArray=true) (h:cH P l es fs l 0 s [] none (Q .normal)):cA P n0 (.region id l.toArray true) s Q:=by
 refine .inr (fun f m D nu a w hZr hn hm hs hmx R hO hR=> ?_);obtain ⟨rs,os,sf,htr,_,hq⟩:=fb l 0 s [] h;have hs':=hs.drew
 have hrel:qx l.toArray=true:=by
  simp only [pJ,Rq] at hB;exact hB.1.1.1
 let g0:GG D nu s.o w.drew l es (fun c=>(s.o :: os).getD c []):=⟨w.drew,nu,fun _=>false,0,hs'.ro, .refl _ _ _,(fun _ _ h=>by cases h),(fun _ _ _=>by simp),Nat.zero_le _⟩
 have hobl:=jQ (P:=P) (R:=R) (rs:=rs) (g0:=g0) hB hs' (fun a' w' nu' h1 hy h2=>hR .normal D f.Z sf a' w' nu' (by rw [hy];exact m.own hm hs.ro ((ar (cP w)).trans h1) h2.ro) h2 hq) l 0 0 s [] [] rs os (fun _=>a) (by simp) htr (by simp) (by simp) ⟨rfl,rfl,fun _=>rfl,fun _=>hs.tm.len,fun x t c v h1 h2=> .inl ⟨h1,h2⟩⟩ (by simp) (Nat.zero_le _) (fun m' e _=>by simp) (Nat.zero_le _);exact mI hmx hC hO (mQ (N:=dh D nu s.o w.drew l es (fun c=>(s.o :: os).getD c [])) _ hrel g0 rfl (fun _=>rfl) hobl)
theorem ag {all rest:List Oper} {es:List Nat} {fs:List (Nat×Nat)} {oo:Oper} {k:Nat} {s:AS} {hist:List (List (Option aa))} {pn:Option (List (Option aa)->Prop)} {Q:AS->Prop} (he:(es.contains k||(jZ fs k).isSome||tT fs k)=false) (h: ∀K:AS->Prop,(∀s',cH P all es fs rest (k+1) s' hist pn Q->K s')->dL P all oo s K):cH P all es fs (oo :: rest) k s hist pn Q:=by
 simp only [Bool.or_eq_false_iff] at he;simp only [cH,he.1.1,Sr,if_false]
 cases hf:jZ fs k with
 | some lo=>rw [hf] at he;simp at he
 | none=>rw [he.2];exact h _ (fun _ h=>h)
theorem aw {all rest:List Oper} {es:List Nat} {fs:List (Nat×Nat)} {dst:Option Tmp} {op:Op} {ty:TypeId} {pos:String} {aft:Array Edge} {k:Nat} {s:AS} {hist:List (List (Option aa))} {Q:AS->Prop} (he:es.contains k=true) (h: ∀K:AS->Prop,(∀s',cH P all es fs rest (k+1) s' (hist++[s.o]) none Q->K s')->qT P op s (fun r o'=>K (s.put dst r o'))):cH P all es fs (⟨dst,op,ty,pos,aft,none⟩ :: rest) k s hist none Q:=by
 simp only [cH,he,if_true,JJ,true_and];exact h _ (fun _ h=>h)
theorem aC {all rest:List Oper} {es:List Nat} {fs:List (Nat×Nat)} {dst:Option Tmp} {op:Op} {ty:TypeId} {pos:String} {aft:Array Edge} {k:Nat} {s:AS} {hist:List (List (Option aa))} {p:List (Option aa)->Prop} {Q:AS->Prop} (he:es.contains k=true) (h: ∀K:AS->Prop,(∀s',cH P all es fs rest (k+1) s' (hist++[s.o]) (some p) Q->K s')->qT P op s (fun r o'=>p o'∧K (s.put dst r o'))):cH P all es fs (⟨dst,op,ty,pos,aft,none⟩ :: rest) k s hist (some p) Q:=by
 simp only [cH,he,if_true,JJ];exact h _ (fun _ h=>h)
theorem aX {all rest:List Oper} {es:List Nat} {fs:List (Nat×Nat)} {dst:Option Tmp} {op:Op} {ty:TypeId} {pos:String} {aft:Array Edge} {k lo:Nat} {s:AS} {hist:List (List (Option aa))} {pn:Option (List (Option aa)->Prop)} {Q:AS->Prop} (he:(if es.contains k then none else jZ fs k)=some lo) (h: ∀K:AS->Prop,(∀s',cH P all es fs rest (k+1) s' hist pn Q->K s')->de P op s (fun r=>(∀o',o'∈hist.drop lo->de P op ⟨s.t,o',s.y⟩ (fun r'=>r'=r))∧K (s.put dst r s.o))):cH P all es fs (⟨dst,op,ty,pos,aft,none⟩ :: rest) k s hist pn Q:=by
 have hc:es.contains k=false:=by cases hc:es.contains k<;>simp_all
 simp only [hc,Sr,if_false] at he;simp only [cH,hc,Sr,if_false,he];exact ⟨trivial,h _ (fun _ h=>h)⟩
theorem aI {all rest:List Oper} {es:List Nat} {fs:List (Nat×Nat)} {dst:Option Tmp} {op:Op} {ty:TypeId} {pos:String} {aft:Array Edge} {k:Nat} {s:AS} {hist:List (List (Option aa))} {pn:Option (List (Option aa)->Prop)} {Q:AS->Prop} (he:(!es.contains k&&(jZ fs k).isNone&&tT fs k)=true) (h:de P op s (fun r=>cH P all es fs rest (k+1) (s.put dst r s.o) hist (some fun o'=>JJ pn o'∧de P op ⟨s.t,o',s.y⟩ (fun r'=>r'=r)) Q)):cH P all es fs (⟨dst,op,ty,pos,aft,none⟩ :: rest) k s hist pn Q:=by
 simp only [Rq,Sw] at he;simp only [cH,he.1.1,Sr,if_false]
 cases hf:jZ fs k with
 | some lo=>rw [hf] at he;simp at he
 | none=>rw [he.2];exact ⟨trivial,h⟩
theorem yd {all:List Oper} {es:List Nat} {fs:List (Nat×Nat)} {k:Nat} {s:AS} {hist:List (List (Option aa))} {pn:Option (List (Option aa)->Prop)} {Q:AS->Prop} (h:Q s):cH P all es fs [] k s hist pn Q:=h
instance {all:List Oper} {es:List Nat} {fs:List (Nat×Nat)} {k:Nat} {s:AS} {hist:List (List (Option aa))} {pn:Option (List (Option aa)->Prop)} {Q:AS->Prop}:af (cH P all es fs [] k s hist pn Q) (Q s):=⟨yd⟩
end
attribute [go_sem] JJ qT FY List.forall_mem_cons List.not_mem_nil false_implies implies_true
end
end Go.Proofs.YtjcobjgjjlahdaaGreatDoor
