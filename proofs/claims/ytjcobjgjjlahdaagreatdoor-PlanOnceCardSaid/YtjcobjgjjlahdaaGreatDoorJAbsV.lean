/- texts of one claim, one behind the other. -/
import Derived.Test.YtjcobjgjjlahdaaGreatDoorJFen
import Derived.Test.YtjcobjgjjlahdaaGreatDoorJVerts
import Derived.Lib.SlicesCompact
import Derived.Test.YtjcobjgjjlahdaaGreatDoorJAbsZ
set_option linter.unusedSimpArgs false
set_option linter.unusedVariables false
set_option maxRecDepth 100000
set_option maxHeartbeats 16000000
open Bool renaming and_eq_true -> RY, false_eq_true -> SV, or_eq_true -> Si, not_eq_true' -> Tb
open List renaming take_succ_eq_append_getElem -> SR, foldl_append -> SS, foldl_cons -> SI, filter_cons -> SU, any_eq_true -> SX, mem_append -> SY, mem_cons -> SZ, not_mem_nil -> S0, length_singleton -> S4, mem_filter -> S5, mem_cons_self -> Sd, mem_cons_of_mem -> Sb, pairwise_cons -> S6, mem_take_iff_getElem -> S7, getElem?_eq_some_iff -> Ra, getElem?_toArray -> Rr, getElem?_append_left -> Rb, getElem?_append_right -> RF, mem_of_getElem? -> RK, getElem?_inj -> S8, all_eq_true -> Sg, getElem?_eq_getElem -> Rp, getElem_mem -> S9, getD_eq_getElem?_getD -> R6, mem_range -> Sh, size_toArray -> Rz, getElem?_of_mem -> Ry, getElem?_drop -> Rn, getElem?_cons_zero -> Su
open Array renaming getD_eq_getD_getElem? -> RZ, getElem?_append_left -> RL, getElem?_append_right -> Sa
open Nat renaming lt_or_ge -> Rc, eq_zero_or_pos -> Ta
namespace Go.Proofs.YtjcobjgjjlahdaaGreatDoor
open Go.RowKit
theorem toList_inj {s t:ByteArray}:(s.toList==t.toList)=true↔s=t:=by
 refine ⟨fun h=> ?_,fun h=>by subst h;simp⟩;have h:=eq_of_beq h;rw [ByteArray.toList_eq,ByteArray.toList_eq] at h;obtain ⟨⟨l⟩⟩:=s;obtain ⟨⟨m⟩⟩:=t;have h:l=m:=h;subst h;rfl
theorem lW {s t:ByteArray}:s.toList=t.toList↔s=t:=by rw [<-toList_inj,beq_iff_eq]
theorem tK {α:Type} {f:α->α->Bool}: ∀(xs ys:List α),(∀x∈xs, ∀y,f x y=true↔x=y)->(fy f xs ys=true↔xs=ys)
 | [],[],_=>by simp [fy]
 | [],_ :: _,_=>by simp [fy]
 | _ :: _,[],_=>by simp [fy]
 | x :: xs,y :: ys,h=>by
  rw [fy,RY,h x (by simp),tK xs ys (fun a ha=>h a (by simp [ha]))];simp
theorem sg: ∀x y:Ex,du x y=true↔x=y:=by
 intro x
 induction x using Ex.ind with
 | h k s l ih=>
  rintro ⟨k',s',l'⟩;rw [jQ,RY,RY,toList_inj,tK l l' ih,beq_iff_eq];simp [and_assoc]
theorem M4 (x y:pe):x.mj y=true↔x=y:=by
 obtain ⟨a,b,c⟩:=x;obtain ⟨a',b',c'⟩:=y;simp only [pe.mj,RY,lW,beq_iff_eq,pe.mk.injEq,and_assoc]
theorem LX (x y:dM):x.mj y=true↔x=y:=by
 obtain ⟨a,b,c,d⟩:=x;obtain ⟨a',b',c',d'⟩:=y;simp only [dM.mj,RY,lW,beq_iff_eq,M4,dM.mk.injEq,and_assoc]
theorem L0 (x y:bQ):fH x y=true↔x=y:=by
 obtain ⟨a,b,c,d,e,f⟩:=x;obtain ⟨a',b',c',d',e',f'⟩:=y;simp only [fH,RY,lW,sg,beq_iff_eq,bQ.mk.injEq,and_assoc]
def uN (q:fg):List dM:=q.conds.flatMap (fun c=>[c.left,c.right])++q.ret
def ik (o:dM):Int:=if o.kind==1 then 2 else if o.kind==3 then o.val.kind else 0
def jA (vs:List ByteArray):Option (List ByteArray)->bQ->Option (List ByteArray)
 | none,_=>none
 | some ns,p=>if fb p.name then some ns else if hasB ns p.name||hasB vs p.name then none else some (ns++[p.name])
def Ct (vs:List ByteArray) (ps:List bQ):Option (List ByteArray):=ps.foldl (jA vs) (some [])
theorem ux (vs:List ByteArray) (ps:List bQ):ps.foldl (jA vs) none=none:=by
 induction ps with
 | nil=>rfl
 | cons p ps ih=>exact ih
theorem Fg (vs:List ByteArray) {ps:List bQ} {i:Nat} (h:i<ps.length):Ct vs (ps.take (i+1))=jA vs (Ct vs (ps.take i)) ps[i]:=by
 rw [SR h,Ct,SS];rfl
theorem wU {vs:List ByteArray} {ps:List bQ} {i:Nat} (h:Ct vs (ps.take i)=none):Ct vs ps=none:=by
 conv=>lhs;rw [<-List.take_append_drop i ps]
 rw [Ct,SS]
 have:List.foldl (jA vs) (some []) (ps.take i)=none:=h
 rw [this,ux]
theorem uy (vs:List ByteArray): ∀(ps:List bQ) (ns0 ns:List ByteArray),ps.foldl (jA vs) (some ns0)=some ns->(nn ps).foldl aq ns0=ns
 | [],ns0,ns,h=>by simpa [nn] using h
 | p :: ps,ns0,ns,h=>by
  simp only [SI,jA] at h
  by_cases h1:fb p.name=true
  ·rw [if_pos h1] at h
   have:=uy vs ps ns0 ns h
   simpa [nn,h1] using this
  ·rw [if_neg h1] at h
   by_cases h2:(hasB ns0 p.name||hasB vs p.name)=true
   ·rw [if_pos h2,ux] at h;cases h
   ·rw [if_neg h2] at h
    have:=uy vs ps _ ns h
    simp only [Bool.or_eq_true,not_or,Bool.not_eq_true] at h1 h2;simp only [nn,SU,h1,Bool.not_false,if_true,List.map_cons,SI,aq,h2.1,SV,if_false];exact this
theorem Ff {vs:List ByteArray} {ps:List bQ} {ns:List ByteArray} (h:Ct vs ps=some ns):bz (nn ps)=ns:=uy vs ps [] ns h
def uq (l:List (ByteArray×Int)) (s:ByteArray):Option Int:=(l.find? (fun p=>cf s p.1)).map Prod.snd
def lh (vs ns:List ByteArray):List (ByteArray×Int):=vs.map (·, 1)++ns.map (·, 2)
theorem wm (l:List ByteArray) (n:Int) (s:ByteArray):(l.map (·, n)).find? (fun p=>cf s p.1)=(l.find? (cf s)).map (·, n):=by
 rw [List.find?_map];rfl
theorem wk (l:List ByteArray) (s:ByteArray):(l.find? (cf s)).isSome=hasB l s:=by rw [Bool.eq_iff_iff,List.find?_isSome,hasB,SX]
theorem ur (vs ns:List ByteArray) (s:ByteArray):uq (lh vs ns) s=if hasB vs s then some 1 else if hasB ns s then some 2 else none:=by
 rw [uq,lh,List.find?_append,wm,wm, <- wk vs, <- wk ns];cases vs.find? (cf s)<;>cases ns.find? (cf s)<;>rfl
theorem J0 (vs:List ByteArray) (i:Nat) (h:i<vs.length):lh (vs.take (i+1)) []=lh (vs.take i) []++[(vs[i],1)]:=by
 simp only [lh,List.map_nil,List.append_nil];rw [SR h,List.map_append];rfl
theorem JZ (vs ns:List ByteArray) (s:ByteArray):lh vs (ns++[s])=lh vs ns++[(s,2)]:=by simp [lh]
def dc (vs ns:List ByteArray) (o:dM):Bool:=if o.kind==1 then hasB vs o.name else if o.kind==2 then hasB ns o.name else true
def iJ (c:ff):Bool:=ik c.left !=0&&ik c.right !=0&&ik c.left !=ik c.right
def fR (q:fg):Int:=if bt q then
  match Ct (bz (aV q.aj)) q.aj with
  | none=>9
  | some ns=>if (uN q).all (dc (bz (aV q.aj)) ns) then (if q.conds.any iJ then 10 else 0) else 8
 else 2
theorem fZ {o:dM} (h:bl o=true):o.kind=1∨o.kind=2∨o.kind=3:=by
 unfold bl at h
 by_cases h1:o.kind=1
 ·exact .inl h1
 ·by_cases h2:o.kind=2
  ·exact .inr (.inl h2)
  ·by_cases h3:o.kind=3
   ·exact .inr (.inr h3)
   ·simp [h1,h2,h3] at h
theorem CX {q:fg} (h:bt q=true): ∀o,o∈uN q->o.kind=1∨o.kind=2∨o.kind=3:=by
 intro o ho;simp only [bt,RY] at h;obtain ⟨⟨⟨_,_⟩,hc⟩,hr⟩:=h;rw [List.all_eq_true] at hc hr
 rcases SY.1 ho with hm|hm
 ·obtain ⟨c,hcm,ho⟩:=List.mem_flatMap.1 hm
  have:=hc c hcm
  simp only [dt,RY] at this;simp only [SZ,S0,or_false] at ho
  rcases ho with rfl|rfl
  ·exact fZ this.1.2
  ·exact fZ this.2
 ·have:=hr o hm
  simp only [eF,RY] at this;exact fZ this.2
theorem ku {s t:ByteArray}:cf s t=true↔s=t:=toList_inj
theorem dS {l:List ByteArray} {s:ByteArray}:hasB l s=true↔s∈l:=by
 rw [hasB,SX]
 constructor
 ·rintro ⟨x,h1,h2⟩;rw [ku.1 h2];exact h1
 ·intro h;exact ⟨s,h,ku.2 rfl⟩
theorem qu (vs:List ByteArray): ∀(ps:List bQ) (ns0 ns:List ByteArray),(∀s,s∈ns0->hasB vs s=false)->ps.foldl (jA vs) (some ns0)=some ns-> ∀s,s∈ns->hasB vs s=false
 | [],ns0,ns,h0,h=>by simp at h;subst h;exact h0
 | p :: ps,ns0,ns,h0,h=>by
  simp only [SI,jA] at h
  split at h
  ·exact qu vs ps _ ns h0 h
  ·split at h
   ·rw [ux] at h;cases h
   ·rename_i hb;simp only [Bool.or_eq_true,not_or,Bool.not_eq_true] at hb;refine qu vs ps _ ns (fun s hs=> ?_) h
    rcases SY.1 hs with hs|hs
    ·exact h0 s hs
    ·simp only [List.mem_singleton] at hs;rw [hs];exact hb.2
theorem Cu {vs:List ByteArray} {ps:List bQ} {ns:List ByteArray} (h:Ct vs ps=some ns) {s:ByteArray} (hv:hasB vs s=true):hasB ns s=false:=by
 cases hn:hasB ns s with
 | false=>rfl
 | true=>
  have:=qu vs ps [] ns (fun s hs=>by simp at hs) h s (dS.1 hn)
  rw [hv] at this;cases this
theorem oe {o:dM} (h:bl o=true):0<=ik o∧ik o<=2:=by
 rcases fZ h with e|e|e
 ·simp [ik,e]
 ·simp [ik,e]
 ·simp only [bl,e] at h;simp at h;have h:=h.1;simp only [ik,e];unfold cr at h
  by_cases h1:o.val.kind=1
  ·simp [h1]
  ·by_cases h2:o.val.kind=2
   ·simp [h2]
   ·simp [h1,h2] at h
theorem BT {q:fg} (h:bt q=true) {c:ff} (hc:c∈q.conds):(0<=ik c.left∧ik c.left<=2)∧0<=ik c.right∧ik c.right<=2:=by
 simp only [bt,RY] at h
 have:=List.all_eq_true.1 h.1.2 c hc
 simp only [dt,RY] at this;exact ⟨oe this.1.2,oe this.2⟩
theorem Ck {a b:Int} (ha:0<=a∧a<=2) (hb:0<=b∧b<=2):(a !=0&&b !=0&&a !=b)=(a !=b&&decide (0<IntKind.i64.wrap (a * b))):=by
 obtain ⟨a1,a2⟩:=ha;obtain ⟨b1,b2⟩:=hb
 have ha:a=0∨a=1∨a=2:=by omega
 have hb:b=0∨b=1∨b=2:=by omega
 rcases ha with rfl|rfl|rfl<;>rcases hb with rfl|rfl|rfl<;>decide
def Bg (l:List ByteArray):Prop:= ∀k (h:k<l.length),hasB (l.take k) l[k]=false
theorem Cv (xs:List ByteArray) (s:ByteArray) (h:Bg xs):Bg (aq xs s):=by
 unfold aq
 cases hs:hasB xs s with
 | true=>simpa using h
 | false=>
  simp only [SV,if_false];intro k hk;rw [List.length_append,S4] at hk
  rcases Nat.lt_or_ge k xs.length with q|q
  ·rw [List.getElem_append_left q,List.take_append_of_le_length (by omega)];exact h k q
  ·obtain rfl:k=xs.length:=by omega
   simpa using hs
theorem sK: ∀(l acc:List ByteArray),Bg acc->Bg (l.foldl aq acc)
 | [],_,h=>h
 | s :: l,acc,h=>sK l _ (Cv acc s h)
theorem Cx (l:List ByteArray):Bg (bz l):=sK l [] (fun k h=>absurd h (by simp))
theorem J3 {vs:List ByteArray} (h:Bg vs) {i:Nat} (hi:i<vs.length):uq (lh (vs.take i) []) vs[i]=none:=by
 rw [ur,h i hi];rfl
def QH (a b:List ByteArray) (s:ByteArray):ByteArray:=if tY a s<0 then s else b.getD (tY a s).toNat ⟨#[]⟩
def QF (f:ByteArray->ByteArray) (x:dM):dM:=if x.kind=1∨x.kind=2 then { x with name:=f x.name } else x
theorem Iq {s:ByteArray}:fb s=true↔s=⟨#[]⟩:=by
 unfold fb;rw [decide_eq_true_eq]
 constructor
 ·intro h;obtain ⟨a⟩:=s
  have:a.size=0:=h
  rw [Array.eq_empty_of_size_eq_zero this]
 ·rintro rfl;rfl
structure QY (f:ByteArray->ByteArray):Prop where
 inj: ∀s t,f s=f t->s=t
 free: ∀s,dp (f s)=dp s
 no: ∀s,fb (f s)=fb s
theorem kO: ∀(l acc:List ByteArray) (s:ByteArray),s∈l.foldl aq acc↔s∈acc∨s∈l
 | [],acc,s=>by simp
 | t :: l,acc,s=>by
  rw [SI,kO l _ s];unfold aq
  by_cases ht:hasB acc t=true
  ·have:=dS.1 ht
   simp only [ht,if_true,SZ]
   constructor
   ·rintro (h|h)
    ·exact .inl h
    ·exact .inr (.inr h)
   ·rintro (h|rfl|h)
    ·exact .inl h
    ·exact .inl this
    ·exact .inr h
  ·simp only [ht,SV,if_false,SY,SZ,S0,or_false]
   constructor
   ·rintro ((h|h)|h)
    ·exact .inl h
    ·exact .inr (.inl h)
    ·exact .inr (.inr h)
   ·rintro (h|h|h)
    ·exact .inl (.inl h)
    ·exact .inl (.inr h)
    ·exact .inr h
def Q2 {α:Type} (k:Nat) (l:List α):List α:=l.drop k++l.take k
def QG:List ByteArray:=[⟨#[97]⟩,⟨#[98]⟩,⟨#[99]⟩,⟨#[100]⟩,⟨#[101]⟩,⟨#[102]⟩,⟨#[103]⟩]
theorem kV (s:ByteArray):fb s=(s.toList==(⟨#[]⟩:ByteArray).toList):=by
 rw [Bool.eq_iff_iff,Iq,beq_iff_eq];exact ⟨fun h=>by rw [h],fun h=>toList_inj.1 (by simpa using h)⟩
def de (p q:bQ):Bool:=if cf p.aR q.aR&&cf p.to q.to&&p.path==q.path then (if p.path then du p.expr q.expr else fb p.name&&fb q.name&&cf p.label q.label) else false
def gz (ps:List bQ) (k:Nat):Bool:=match ps[k]? with
 | some p=>(ps.take k).any (fun a=>de a p)
 | none=>false
def nE (ps:List bQ) (i:Nat):List Nat:=((List.range ps.length).drop i).filter (fun k=> !gz ps k)
def gD (ps:List bQ):List Nat:=nE ps 0
theorem zs {n i:Nat} (h:i<n):(List.range n).drop i=i :: (List.range n).drop (i+1):=by
 rw [List.drop_eq_getElem_cons (by simpa using h)];simp
theorem Ir {ps:List bQ} {i:Nat} (h:i<ps.length):nE ps i=if gz ps i then nE ps (i+1) else i :: nE ps (i+1):=by
 rw [nE,zs h,SU];cases gz ps i<;>simp [nE]
theorem Fj (ps:List bQ):nE ps ps.length=[]:=by rw [nE,List.drop_eq_nil_of_le (by simp)];rfl
theorem Aw {ps:List bQ} {k:Nat} (h:k∈gD ps):k<ps.length:=by
 have:=(S5.1 h).1
 simpa using this
theorem sL (ps:List bQ):(gD ps).Pairwise (· < ·):=by
 refine List.Pairwise.filter _ ?_;rw [List.drop_zero];exact List.pairwise_lt_range
theorem wW (ps:List bQ):(gD ps).length<=ps.length:=by
 have:=List.length_filter_le (fun k=> !gz ps k) ((List.range ps.length).drop 0)
 simpa [gD,nE] using this
def aS (p:bQ):List ByteArray:=p.aR :: p.to :: (if !p.path && !fb p.name then [p.name] else [])
def cH (ps:List bQ) (out:List ByteArray) (k:Int):List ByteArray:=if 0<=k∧k<ps.length then (match ps[k.toNat]? with|some p=>(aS p).foldl aq out|none=>out) else out
def bA (ps:List bQ) (ks:List Int):List ByteArray:=ks.foldl (cH ps) []
theorem wS (ps:List bQ) {ks:List Int} {i:Nat} (h:i<ks.length):bA ps (ks.take (i+1))=cH ps (bA ps (ks.take i)) ks[i]:=by
 rw [SR h,bA,SS];rfl
def rD (b:Bool):Nat:=if b then 1 else 0
def iY (ps:List bQ) (names:List ByteArray) (k:Int):Nat:=if 0<=k∧k<ps.length then (match ps[k.toNat]? with|some p=>rD (hasB names p.aR)+rD (hasB names p.to)|none=>0) else 0
theorem v8 (ps:List bQ) (names:List ByteArray) (k:Int):iY ps names k<=2:=by
 unfold iY
 split
 ·split
  ·unfold rD;split<;>split<;>omega
  ·omega
 ·omega
def uK (ps:List bQ) (k:Nat):Bool:=match ps[k]? with
 | some p=>p.path
 | none=>false
def dD (ps:List bQ) (names:List ByteArray) (k:Nat):Int:=2 * (iY ps names k:Int)+(if uK ps k then 0 else 1)
def gC (r:Nat->Int):List Nat->Nat->Nat
 | [],m=>m
 | k :: l,m=>gC r l (if r k - r m > 0 then k else m)
theorem gS (r:Nat->Int): ∀(l:List Nat) (m:Nat),(gC r l m=m∨gC r l m∈l)∧r m<=r (gC r l m)∧ ∀k,k∈l->r k<=r (gC r l m)
 | [],m=>⟨.inl rfl,Int.le_refl _,fun k h=>by simp at h⟩
 | k :: l,m=>by
  rw [gC];obtain ⟨h1,h2,h3⟩:=gS r l (if r k - r m > 0 then k else m)
  by_cases hk:r k - r m > 0
  ·rw [if_pos hk] at h1 h2 h3 ⊢
   refine ⟨.inr ?_,by omega,fun j hj=> ?_⟩
   ·rcases h1 with e|e
    ·rw [e];exact Sd
    ·exact Sb _ e
   ·rcases SZ.1 hj with rfl|hj
    ·exact h2
    ·exact h3 j hj
  ·rw [if_neg hk] at h1 h2 h3 ⊢;refine ⟨h1.imp id (Sb _),h2,fun j hj=> ?_⟩
   rcases SZ.1 hj with rfl|hj
   ·omega
   ·exact h3 j hj
theorem il (r:Nat->Int): ∀(l:List Nat) (m:Nat),(m :: l).Pairwise (· < ·)-> ∀k,k∈m :: l->r k=r (gC r l m)->gC r l m<=k
 | [],m,_,k,hk,_=>by simp at hk;subst hk;exact Nat.le_refl _
 | j :: l,m,hp,k,hk,hr=>by
  rw [gC] at hr ⊢;rw [S6] at hp;have hmj:m<j:=hp.1 j Sd
  by_cases hj:r j - r m > 0
  ·rw [if_pos hj] at hr ⊢
   rcases SZ.1 hk with rfl|hk
   ·exfalso
    have:=(gS r l j).2.1
    omega
   ·exact il r l j hp.2 k hk hr
  ·rw [if_neg hj] at hr ⊢;have hp2:(m :: l).Pairwise (· < ·):=S6.2 ⟨fun x hx=>hp.1 x (Sb _ hx),(S6.1 hp.2).2⟩
   rcases SZ.1 hk with rfl|hk
   ·exact il r l _ hp2 _ Sd hr
   ·rcases SZ.1 hk with rfl|hk
    ·have h1:=(gS r l m).2.1;have h2:=il r l m hp2 m Sd (by omega);omega
    ·exact il r l m hp2 k (Sb _ hk) hr
def gh (l:List Nat):List Int:=l.map (fun k:Nat=>(k:Int))
def fp (ps:List bQ) (out:List Nat):List Nat->Nat
 | []=>0
 | a :: l=>gC (dD ps (bA ps (gh out))) l a
def Fk (ps:List bQ):Nat->List Nat->List Nat->List Nat
 | 0,out,_=>out
 | n+1,out,left=>if left.isEmpty then out else Fk ps n (out++[fp ps out left]) (left.filter (fun k=>k !=fp ps out left))
theorem sJ (ps:List bQ) (out:List Nat) {left:List Nat} (h:left≠[]):fp ps out left∈left:=by
 cases left with
 | nil=>exact absurd rfl h
 | cons a l=>
  rcases (gS (dD ps (bA ps (gh out))) l a).1 with e|e
  ·rw [fp,e];exact Sd
  ·rw [fp];exact Sb _ e
theorem pS {left:List Nat} {k:Nat} (hn:left.Nodup) (h:k∈left):(left.filter (fun j=>j !=k)).length+1=left.length:=by
 induction left with
 | nil=>simp at h
 | cons a l ih=>
  rw [List.nodup_cons] at hn
  by_cases hak:a=k
  ·subst hak
   have:l.filter (fun j=>j !=a)=l:=List.filter_eq_self.2 (fun x hx=>by simp;rintro rfl;exact hn.1 hx)
   simp [this]
  ·have hm:k∈l:=(SZ.1 h).resolve_left (fun e=>hak e.symm)
   have:=ih hn.2 hm
   simp [SU,hak];omega
theorem zd (ps:List bQ) (out:List Nat) {left:List Nat} {k:Nat} (hp:left.Pairwise (· < ·)) (hk:k∈left):dD ps (bA ps (gh out)) k<=dD ps (bA ps (gh out)) (fp ps out left)∧(dD ps (bA ps (gh out)) k=dD ps (bA ps (gh out)) (fp ps out left)->fp ps out left<=k):=by
 cases left with
 | nil=>simp at hk
 | cons a l=>
  rw [fp];refine ⟨?_,fun h=>il _ l a hp k hk h⟩;obtain ⟨_,h2,h3⟩:=gS (dD ps (bA ps (gh out))) l a
  rcases SZ.1 hk with rfl|hk
  ·exact h2
  ·exact h3 k hk
structure I9 (ps:List bQ) (out left l:List Nat):Prop where
 len:l.length=out.length+left.length
 pre:l.take out.length=out
 mem: ∀k,k∈l->k∈out∨k∈left
 Jp:l.Nodup
 Qz: ∀(i k:Nat) (hi:i<l.length) (hk:k<l.length),out.length<=i->i<k->dD ps (bA ps (gh (l.take i))) l[k]<=dD ps (bA ps (gh (l.take i))) l[i]∧(dD ps (bA ps (gh (l.take i))) l[k]=dD ps (bA ps (gh (l.take i))) l[i]->l[i]<l[k])
theorem Fl (ps:List bQ): ∀(n:Nat) (out left:List Nat),left.length<=n->left.Pairwise (· < ·)->(∀k,k∈out->k∉left)->out.Nodup->I9 ps out left (Fk ps n out left)
 | 0,out,left,h,hp,hd,ho=>by
  have:left=[]:=List.length_eq_zero_iff.1 (by omega)
  subst this;rw [Fk];exact ⟨by simp,List.take_length,fun k h=> .inl h,ho,fun i k hi hk h1 h2=>by omega⟩
 | n+1,out,left,h,hp,hd,ho=>by
  rw [Fk]
  by_cases he:left=[]
  ·subst he;simp only [List.isEmpty_nil,if_true];exact ⟨by simp,List.take_length,fun k h=> .inl h,ho,fun i k hi hk h1 h2=>by omega⟩
  ·have hie:left.isEmpty=false:=by cases left<;>simp_all
   rw [hie];simp only [SV,if_false];have hm:=sJ ps out he;have hn:left.Nodup:=hp.imp (fun h=>by omega);have hl:=pS hn hm;have hbest:=fun k (hk:k∈left)=>zd ps out hp hk;generalize fp ps out left=x at hm hl hbest ⊢
   have ih:=Fl ps n (out++[x]) (left.filter (fun j=>j !=x)) (by omega) (hp.filter _) (fun k hk hf=>by
    have hf':=S5.1 hf
    rcases SY.1 hk with h|h
    ·exact hd k h hf'.1
    ·simp only [SZ,S0,or_false] at h
     subst h;simp at hf') (by
    rw [List.nodup_append];refine ⟨ho,by simp,fun a ha b hb=> ?_⟩;simp only [SZ,S0,or_false] at hb;subst hb;rintro rfl
    exact hd a ha hm)
   generalize Fk ps n (out++[x]) (left.filter (fun j=>j !=x))=l at ih ⊢;obtain ⟨a1,a2,a3,a4,a5⟩:=ih;rw [List.length_append,S4] at a1 a2
   have hol:out.length<l.length:=by omega
   have hox:l[out.length]=x:=by
    have:=congrArg (fun l=>l[out.length]?) a2
    simp only [List.getElem?_take,Nat.lt_add_one,if_true] at this;rw [List.getElem?_append_right (Nat.le_refl _),Nat.sub_self] at this;exact (List.getElem?_eq_some_iff.1 this).2
   have hpre:l.take out.length=out:=by
    have:=congrArg (List.take out.length) a2
    rw [List.take_take,Nat.min_eq_left (by omega),List.take_left'] at this
    ·exact this
    ·rfl
   refine ⟨by omega,hpre,fun k hk=> ?_,a4,fun i k hi hk h1 h2=> ?_⟩
   ·rcases a3 k hk with h|h
    ·rcases SY.1 h with h|h
     ·exact .inl h
     ·simp only [SZ,S0,or_false] at h;subst h;exact .inr hm
    ·exact .inr (S5.1 h).1
   ·by_cases hi0:i=out.length
    ·subst hi0;rw [hpre,hox]
     have hkl:l[k]∈left.filter (fun j=>j !=x):=by
      rcases a3 l[k] (List.getElem_mem hk) with h|h
      ·exfalso;rw [<-a2] at h;obtain ⟨j,hj,e⟩:=S7.1 h
       have:=(List.getElem_inj a4).1 e
       omega
      ·exact h
     obtain ⟨k1,k2⟩:=S5.1 hkl;have hb:=hbest l[k] k1;refine ⟨hb.1,fun e=> ?_⟩
     have:=hb.2 e
     have hne:l[k]≠x:=by simpa using k2
     omega
    ·exact a5 i k hi hk (by simp;omega) h2
def br (ps:List bQ):List Nat:=Fk ps (gD ps).length [] (gD ps)
theorem uD (ps:List bQ):I9 ps [] (gD ps) (br ps):=Fl ps _ [] _ (Nat.le_refl _) (sL ps) (fun k h=>by simp at h) List.nodup_nil
theorem oh {p q:bQ}:de p q=true↔p.aR=q.aR∧p.to=q.to∧p.path=q.path∧((p.path=true∧p.expr=q.expr)∨(p.path=false∧fb p.name=true∧fb q.name=true∧p.label=q.label)):=by
 unfold de
 by_cases h:(cf p.aR q.aR&&cf p.to q.to&&p.path==q.path)=true
 ·rw [if_pos h];simp only [RY,ku,beq_iff_eq] at h;obtain ⟨⟨h1,h2⟩,h3⟩:=h
  cases hp:p.path with
  | true=>simp [h1,h2, <- h3,hp,sg]
  | false=>simp [h1,h2, <- h3,hp,ku,and_assoc]
 ·rw [if_neg h];simp only [RY,ku,beq_iff_eq] at h
  constructor
  ·intro h;cases h
  ·rintro ⟨h1,h2,h3,_⟩;exact absurd ⟨⟨h1,h2⟩,h3⟩ h
theorem rF {p q r:bQ} (h:de p q=true) (k:de q r=true):de p r=true:=by
 rw [oh] at h k ⊢;obtain ⟨h1,h2,h3,h4⟩:=h;obtain ⟨k1,k2,k3,k4⟩:=k;refine ⟨h1.trans k1,h2.trans k2,h3.trans k3, ?_⟩
 rcases h4 with ⟨a,b⟩|⟨a,b,c,d⟩
 ·rcases k4 with ⟨a',b'⟩|⟨a',_⟩
  ·exact .inl ⟨a,b.trans b'⟩
  ·rw [<-h3,a] at a';cases a'
 ·rcases k4 with ⟨a',_⟩|⟨a',b',c',d'⟩
  ·rw [<-h3,a] at a';cases a'
  ·exact .inr ⟨a,b,c',d.trans d'⟩
theorem po {ps:List bQ} {k:Nat} (h:k<ps.length):gz ps k=true ↔ ∃j, ∃hj:j<k,de (ps[j]'(by omega)) ps[k]=true:=by
 unfold gz;rw [List.getElem?_eq_getElem h,SX]
 constructor
 ·rintro ⟨a,ha,hs⟩;obtain ⟨j,hj,e⟩:=S7.1 ha;exact ⟨j,by omega,by rw [e];exact hs⟩
 ·rintro ⟨j,hj,hs⟩;exact ⟨_,S7.2 ⟨j,by omega,rfl⟩,hs⟩
theorem wY {ps:List bQ} {k:Nat}:k∈gD ps↔k<ps.length∧gz ps k=false:=by
 simp [gD,nE,S5]
theorem qv {ps:List bQ} {k:Nat} (h:k<ps.length):k∈gD ps∨ ∃j, ∃hj:j<k,j∈gD ps∧de (ps[j]'(by omega)) ps[k]=true:=by
 cases ha:gz ps k with
 | false=>exact .inl (wY.2 ⟨h,ha⟩)
 | true=>
  right
  have key: ∀n j,j<n-> ∀hj:j<k,de (ps[j]'(by omega)) ps[k]=true-> ∃j, ∃hj:j<k,j∈gD ps∧de (ps[j]'(by omega)) ps[k]=true:=by
   intro n
   induction n with
   | zero=>intro j h;omega
   | succ n ih=>
    intro j hjn hj hs
    cases hb:gz ps j with
    | false=>exact ⟨j,hj,wY.2 ⟨by omega,hb⟩,hs⟩
    | true=>
     obtain ⟨i,hi,hs2⟩:=(po (by omega)).1 hb;exact ih i (by omega) (by omega) (rF hs2 hs)
  obtain ⟨j,hj,hs⟩:=(po h).1 ha;exact key (j+1) j (by omega) hj hs
theorem sM: ∀(l acc:List ByteArray), ∃m,l.foldl aq acc=acc++m
 | [],acc=>⟨[],by simp⟩
 | s :: l,acc=>by
  obtain ⟨m,h⟩:=sM l (aq acc s);rw [SI,h];unfold aq
  split
  ·exact ⟨m,rfl⟩
  ·exact ⟨s :: m,by simp⟩
theorem qw: ∀(l acc:List ByteArray),acc.Nodup->(l.foldl aq acc).Nodup
 | [],_,h=>h
 | s :: l,acc,h=>by
  refine qw l _ ?_;unfold aq
  split
  ·exact h
  ·rename_i hn;rw [dS] at hn;rw [List.nodup_append];exact ⟨h,by simp,fun a ha b hb=>by simp only [SZ,S0,or_false] at hb;subst hb;exact fun e=>hn (e ▸ ha)⟩
theorem ea: ∀(l acc:List ByteArray),(l.foldl aq acc).length<=acc.length+l.length
 | [],acc=>by simp
 | s :: l,acc=>by
  have h1:=ea l (aq acc s)
  have h2:(aq acc s).length<=acc.length+1:=by unfold aq;split<;>simp
  simp only [SI,List.length_cons];omega
theorem gp (p:bQ):(aS p).length<=3:=by unfold aS;split<;>simp
theorem rC (ps:List bQ) (out:List ByteArray) (k:Int):(cH ps out k).length<=out.length+3:=by
 unfold cH
 split
 ·split
  ·rename_i p _
   have:=ea (aS p) out;have:=gp p;omega
  ·omega
 ·omega
theorem qn (ps:List bQ): ∀(ks:List Int) (out:List ByteArray),(ks.foldl (cH ps) out).length<=out.length+3 * ks.length
 | [],_=>by simp
 | k :: ks,out=>by
  have h1:=qn ps ks (cH ps out k);have h2:=rC ps out k;simp only [SI,List.length_cons];omega
theorem zb (ps:List bQ) (ks:List Int):(bA ps ks).length<=3 * ks.length:=by have:=qn ps ks [];simpa [bA] using this
theorem xB: ∀ {a b:List Nat},a.Pairwise (· < ·)->b.Pairwise (· < ·)->(∀j,j∈a↔j∈b)->a=b
 | [],[],_,_,_=>rfl
 | [],y :: b,_,_,h=>by have:=(h y).2 Sd;simp at this
 | x :: a,[],_,_,h=>by have:=(h x).1 Sd;simp at this
 | x :: a,y :: b,ha,hb,h=>by
  rw [S6] at ha hb
  have hxy:x=y:=by
   rcases SZ.1 ((h x).1 Sd) with e|e
   ·exact e
   ·rcases SZ.1 ((h y).2 Sd) with e2|e2
    ·exact e2.symm
    ·have h1:=hb.1 x e;have h2:=ha.1 y e2;omega
  subst hxy;refine congrArg (x :: ·) (xB ha.2 hb.2 (fun j=> ?_))
  have:=h j
  simp only [SZ] at this
  constructor
  ·intro hj
   rcases this.1 (.inr hj) with e|e
   ·have:=ha.1 j hj;omega
   ·exact e
  ·intro hj
   rcases this.2 (.inr hj) with e|e
   ·have:=hb.1 j hj;omega
   ·exact e
def Q3 (l:List Nat):List Nat:=(List.range (l.foldr max 0+1)).filter (fun j=>l.contains j)
noncomputable def bh (w:List ByteArray) (L:List ByteArray->Prop) (fr:List Nat):List Nat:=(List.range (w.length+1)).filter (fun j=> @decide (∃i,i∈fr∧Tk L w i j) (Classical.propDecidable _))
def QD (w:List ByteArray) (s:ByteArray) (fr:List Nat):List Nat:=(fr.filter (fun k=>decide (w[k]? = some s))).map (· + 1)
structure QX (w:List ByteArray) (L:List ByteArray->Prop) (fr out:List Nat):Prop where
 rH:out.Pairwise (· < ·)
 le: ∀j,j∈out->j<=w.length
 sub: ∀j,j∈fr->j∈out
 Q1: ∀j,j∈out-> ∃i,i∈fr∧Tk (rT L) w i j
section
section
variable {P:Program} {ops:Array Oper} {N:jV}
def DO (P:Program) (ops:Array Oper) (S:ec N) (j:Nat) (o:Oper) (a:Act) (g:N.G):Prop:=
 (Region.wanted o (yielded ops a.tmps)=true∧Bh P S j g ((execOp a.eval o).run P (N.wd g)))∨(Region.wanted o (yielded ops a.tmps)=false∧ ∃g',N.wd g'=N.wd g∧N.R g g'∧(∀i,i≠j->N.pre i g->N.pre i g')∧S.p undef g')
def Is (P:Program) (ops:Array Oper) (L:List (ec N)) (g0:N.G) (Q:Act->World->Prop):List Oper->Nat->((Nat->Value)->Act)->Prop
 | [],k,A=> ∀x g,N.R g0 g->(∀i,i<k->(lE L i).p (x i) g)->Q (A x) (N.wd g)
 | o :: l,k,A=>(∀x g,N.R g0 g->(∀i,aE ops k i=true->(lE L i).p (x i) g)->N.pre k g->DO P ops (lE L k) k o (A x) g)∧Is P ops L g0 Q l (k+1) (fun x=>(A x).put o.dst (x k))
def AH (ops:Array Oper) (i j:Nat):Bool:=
 match ops[i]?,ops[j]? with
 | some oi,some oj=>(aE ops j i||match oi.dst with|some d=> !(oj.looksAt ops).contains d|none=>true) && !aE ops i j&&(match oi.dst with|some d=>oj.dst !=some d|none=>true)&&(aE ops j i||match oj.dst with|some d=> !(oi.looksAt ops).contains d|none=>true)
 | _,_=>true
def qM (ops:Array Oper):Bool:=
 Region.noSelect ops&&(List.range ops.size).all (fun j=>(List.range j).all (fun i=>AH ops i j)&&(!aE ops j j&&tX ops j))
def GD (P:Program) (l:List Oper) (L:List (ec N)) (g0:N.G) (a0:Act) (j:Nat) (o:Oper):Prop:=
 ∀x g,N.R g0 g->(∀i,aE l.toArray j i=true->(lE L i).p (x i) g)->N.pre j g->DO P l.toArray (lE L j) j o (cC (fun i=>decide (i<j)) x l 0 a0) g
theorem w6 {l:List Oper} {L:List (ec N)} {g0:N.G} {Q:Act->World->Prop} {a0:Act} (hA:gx l): ∀(l':List Oper) (k:Nat) (A:(Nat->Value)->Act),l.drop k=l'->(A=fun x=>cC (fun i=>decide (i<k)) x l 0 a0)->k<=l.length ->
  Is P l.toArray L g0 Q l' k A->(∀j o,k<=j->l[j]? = some o->GD P l L g0 a0 j o)∧(∀x g,N.R g0 g->(∀i,i<l.length->(lE L i).p (x i) g)->Q (cC (fun i=>decide (i<l.length)) x l 0 a0) (N.wd g))
 | [],k,A,hl,hAx,hk,h=>by
  have h1:l.length=k:=by have:=congrArg List.length hl;simp at this;omega
  subst hAx
  refine ⟨fun j o hj ho=> ?_,fun x g hg hs=> ?_⟩
  ·have:=(Ra.1 ho).1;omega
  ·rw [h1] at hs ⊢; exact h x g hg hs
 | o :: l',k,A,hl,hAx,hk,h=>by
  have h1:l.length=k+(l'.length+1):=by have:=congrArg List.length hl;simp at this;omega
  have h2:l[k]? = some o:=by have:=congrArg (fun m=>m[0]?) hl;simpa using this
  subst hAx
  have rcr:=w6 hA l' (k+1) _ (by have:=congrArg List.tail hl;simpa using this) (by
    funext x
    have hi:=gd (s:=fun i=>decide (i<k)) (x:=x) (v:=x k) l 0 k a0 hA h2 (by simp);rw [Nat.zero_add] at hi;rw [<-hi];refine bu l 0 a0 (fun i _ _=> ?_)
    by_cases hik:i=k
    ·subst hik;simp [bN,fJ]
    ·have:(i<k+1)=(i<k):=by apply propext;omega
     simp [bN,fJ,hik,this]) (by omega) h.2
  refine ⟨fun j o' hj ho=> ?_,rcr.2⟩
  by_cases hjk:j=k
  ·subst hjk;rw [h2] at ho;cases ho;exact h.1
  ·exact rcr.1 j o' (by omega) ho
theorem mZ {Q:Exit->Act->World->Prop} {a:Act} {w:World} {l:List Oper} (L:List (ec N)) (hB:qM l.toArray=true) (g0:N.G) (hg0:N.wd g0=w.drew) (hp0: ∀j,N.pre j g0)
  (h:Is P l.toArray L g0 (Q .normal) l 0 (fun _=>a)):wpAny P .any l.toArray Q l.toArray.size (Array.replicate l.toArray.size false) a w.drew:=by
 simp only [qM,RY,List.all_eq_true,List.mem_range,List.size_toArray] at hB;obtain ⟨hns,hall⟩:=hB;have hsel:=Region.noSelect_spec hns
 have hpair: ∀i j oi oj,i<j->l[i]? = some oi->l[j]? = some oj->(aE l.toArray j i=true∨ ∀e,oi.dst=some e->e∉oj.looksAt l.toArray)∧aE l.toArray i j=false∧(∀e,oi.dst=some e->oj.dst≠some e)∧(aE l.toArray j i=true∨ ∀e,oj.dst=some e->e∉oi.looksAt l.toArray):=by
  intro i j oi oj hij hi hj;have hjn:=(Ra.1 hj).1
  have:=(hall j hjn).1 i hij
  simp only [AH,Rr,hi,hj,RY,Bool.or_eq_true,Bool.not_eq_true'] at this
  refine ⟨?_,this.1.1.2,fun e he=> ?_, ?_⟩
  ·rcases this.1.1.1 with h|h
   ·exact .inl h
   ·refine .inr (fun e he=> ?_);rw [he] at h;simpa using h
  ·have h3:=this.1.2;rw [he] at h3;simpa using h3
  ·rcases this.2 with h|h
   ·exact .inl h
   ·refine .inr (fun e he=> ?_);rw [he] at h;simpa using h
 have hself: ∀j,j<l.length->aE l.toArray j j=false:=fun j hj=>by simpa using (hall j hj).2.1
 have hfar: ∀(j:Nat) (o:Oper),l[j]? = some o-> ∀e∈o.after,e.on<l.length:=fun j o hj e he=>by
  have:=(hall j (Ra.1 hj).1).2.2
  simp only [tX,Rr,hj,Array.all_eq_true_iff_forall_mem] at this;simpa using this e he
 have hA:gx l:=fun i j oi oj hi hj hij e he=>by
  rcases Nat.lt_or_gt_of_ne hij with h|h
  ·exact (hpair i j oi oj h hi hj).2.2.1 e he
  ·intro h2;exact (hpair j i oj oi h hj hi).2.2.1 e h2 he
 obtain ⟨hO,hfin⟩:=w6 (P:=P) (L:=L) (g0:=g0) (Q:=Q .normal) (a0:=a) hA l 0 (fun _=>a) (by simp) (by
  funext x
  exact (show a=cC (fun _=>false) x l 0 a from by
   have: ∀(l:List Oper) k,a=cC (fun _=>false) x l k a:=by
    intro l
    induction l with
    | nil=>intro k;rfl
    | cons o l ih=>intro k;rw [cC];exact ih (k+1)
   exact this l 0).trans (bu l 0 a (fun i _ _=>by simp))) (Nat.zero_le _) h
 
 have hloose: ∀i j oi oj,l[i]? = some oi->l[j]? = some oj->i≠j->aE l.toArray j i=false->aE l.toArray i j=false-> ∀d,oi.dst=some d->d∉oj.looksAt l.toArray:=by
  intro i j oi oj hi hj hij hd hd'
  rcases Nat.lt_or_gt_of_ne hij with h|h
  ·rcases (hpair i j oi oj h hi hj).1 with h1|h1
   ·rw [hd] at h1;cases h1
   ·exact h1
  ·rcases (hpair j i oj oi h hj hi).2.2.2 with h1|h1
   ·rw [hd'] at h1;cases h1
   ·exact h1
 
 have hsee: ∀(s s':Nat->Bool) x j oj,l[j]? = some oj->s j=false->s' j=false->(∀i,i<l.length->aE l.toArray i j=true->s i=false∧s' i=false)->(∀i,i<l.length->aE l.toArray j i=true->s i=true∧s' i=true) ->
   execOp (cC s x l 0 a).eval oj=execOp (cC s' x l 0 a).eval oj∧Region.wanted oj (yielded l.toArray (cC s x l 0 a).tmps)=Region.wanted oj (yielded l.toArray (cC s' x l 0 a).tmps):=by
  intro s s' x j oj hj h1 h2 hbk hd
  have one:=fun (s:Nat->Bool) (hs:s j=false) (hs2: ∀i,i<l.length->aE l.toArray i j=true->s i=false)=>kS (ops:=l.toArray) (s:=s) (keep:=aE l.toArray j) (x:=x) (a:=a) hA (fun cs b=>hsel j oj cs b (by simpa using hj))
   (fun i oi hi hsi hk=>hloose i j oi oj hi hj (by intro e;subst e;rw [hsi] at hs;cases hs) hk (by
    cases hq:aE l.toArray i j
    ·rfl
    ·rw [hs2 i (Ra.1 hi).1 hq] at hsi;cases hsi))
  obtain ⟨a1,a2⟩:=one s h1 (fun i hi hq=>(hbk i hi hq).1);obtain ⟨b1,b2⟩:=one s' h2 (fun i hi hq=>(hbk i hi hq).2)
  have e:cC (fun i=>s i&&aE l.toArray j i) x l 0 a=cC (fun i=>s' i&&aE l.toArray j i) x l 0 a:=bu l 0 a (fun i _ hi=>by
   refine ⟨?_,fun _=>rfl⟩
   cases hk:aE l.toArray j i
   ·simp
   ·obtain ⟨c1,c2⟩:=hd i (by omega) hk
    simp [c1,c2])
  exact ⟨by rw [a1,b1,e],by rw [a2,b2,e]⟩
 have full: ∀(listed:Array Bool),listed.size=l.length->(∀i,i<l.length->listed.getD i false=true)->Region.ready .any l.toArray listed=[]∧ ∀x,cC (fun i=>listed.getD i false) x l 0 a=cC (fun i=>decide (i<l.length)) x l 0 a:=fun listed hsz hall'=>by
  refine ⟨List.eq_nil_iff_forall_not_mem.2 (fun i hi=> ?_),fun x=>bu l 0 a (fun i _ hi=>⟨?_,fun _=>rfl⟩)⟩
  ·obtain ⟨g1,o,g2, -⟩:=mem_ready.1 hi;have hil:i<l.length:=(Ra.1 (show l[i]? = some o by simpa using g2)).1;have g3:=hall' i hil
   have his:i<listed.size:=by omega
   simp only [RZ,Array.getElem?_eq_getElem his,Option.getD_some] at g1 g3;rw [g3] at g1;cases g1
  ·have:i<l.length:=by omega
   rw [hall' i this];simp [this]
 have main: ∀fuel (listed:Array Bool) x g1,listed.size=l.length->N.R g0 g1->(∀i,listed.getD i false=true->(lE L i).p (x i) g1) ->
   (∀j i,listed.getD j false=true->aE l.toArray j i=true->listed.getD i false=true)->(∀j,listed.getD j false=false->N.pre j g1)->vo (fun i=>listed.getD i false) l.length<=fuel ->
   wpAny P .any l.toArray Q fuel listed (cC (fun i=>listed.getD i false) x l 0 a) (N.wd g1):=by
  intro fuel
  induction fuel with
  | zero=>
   intro listed x g1 hsz hE hF hcl hpre hu
   have hall': ∀i,i<l.length->listed.getD i false=true:=fun i hi=>by
    cases hc:listed.getD i false
    ·have:=oZ (s:=fun i=>listed.getD i false) l.length hi hc
     omega
    ·rfl
   exact wpAny_done (full listed hsz hall').1 (by rw [(full listed hsz hall').2 x];exact hfin x g1 hE (fun i hi=>hF i (hall' i hi))) 0
  | succ fuel ih=>
   intro listed x g1 hsz hE hF hcl hpre hu
   have hmemR: ∀j,j∈Region.ready .any l.toArray listed-> ∃oj,l[j]? = some oj∧listed.getD j false=false∧ ∀i,aE l.toArray j i=true->listed.getD i false=true:=by
    intro j hj;obtain ⟨h1,o,ho,h3⟩:=mem_ready.1 hj
    refine ⟨o,by simpa using ho, ?_,fun i hi=> ?_⟩
    ·rcases Nat.lt_or_ge j listed.size with h'|h'
     ·simp [h'] at h1 ⊢; exact h1
     ·simp [Array.getElem?_eq_none h']
    ·simp only [aE,ho,RY,beq_iff_eq,Array.any_eq_true'] at hi;obtain ⟨e,he,hb,rfl⟩:=hi;exact h3 e he hb
   refine ⟨fun h0=> ?_,fun j hj=> ?_⟩
   ·
    have hex:(∀i,i<l.length->listed.getD i false=true)∨ ∃m,m<l.length∧listed.getD m false=false∧ ∀i,i<m->listed.getD i false=true:=by
     have: ∀k,k<=l.length->(∀i,i<k->listed.getD i false=true)∨ ∃m,m<l.length∧listed.getD m false=false∧ ∀i,i<m->listed.getD i false=true:=by
      intro k
      induction k with
      | zero=>exact fun _=> .inl (fun i hi=>by omega)
      | succ k ihk=>
       intro hk
       rcases ihk (by omega) with h|h
       ·cases hc:listed.getD k false
        ·exact .inr ⟨k,by omega,hc,h⟩
        ·exact .inl (fun i hi=>by
          by_cases e:i=k
          ·subst e;exact hc
          ·exact h i (by omega))
       ·exact .inr h
     exact this l.length (Nat.le_refl _)
    rcases hex with hall'|hex
    ·rw [(full listed hsz hall').2 x];exact hfin x g1 hE (fun i hi=>hF i (hall' i hi))
    exfalso;obtain ⟨m,hm1,hm2,hm3⟩:=hex
    have hmem:m∈Region.ready .any l.toArray listed:=by
     refine mem_ready.2 ⟨?_,l[m],by simp [hm1],fun e he hb=> ?_⟩
     ·have hms:m<listed.size:=by omega
      simp [hms] at hm2 ⊢; exact hm2
     ·have hd:aE l.toArray m e.on=true:=by
       have:l.toArray[m]? = some l[m]:=by simp [hm1]
       simp only [aE,this];simp only [Array.any_eq_true',RY,beq_iff_eq];exact ⟨e,he,hb,rfl⟩
      rcases Nat.lt_trichotomy e.on m with h|h|h
      ·exact hm3 _ h
      ·rw [h,hself m hm1] at hd;cases hd
      ·by_cases hl:e.on<l.length
       ·have:=(hpair m e.on l[m] l[e.on] h (by simp [hm1]) (by simp [hl])).2.1
        rw [hd] at this;cases this
       ·exact absurd (hfar m l[m] (by simp [hm1]) e he) hl
    rw [h0] at hmem;cases hmem
   ·obtain ⟨oj,hoj,hun,hdeps⟩:=hmemR j hj;have hjl:=(Ra.1 hoj).1
    have hsj:(listed.setIfInBounds j true).size=l.length:=by simpa using hsz
    have hgd: ∀i,(listed.setIfInBounds j true).getD i false=bN (fun i=>listed.getD i false) j i:=by
     intro i
     by_cases hij:i=j
     ·subst hij
      have:i<listed.size:=by omega
      simp [bN,this]
     ·simp only [bN,if_neg hij];exact getD_set_ne false (Ne.symm hij)
    have hO:=hO j oj (Nat.zero_le _) hoj;unfold wpOp;simp only [Rr,hoj];have hst:=hO x g1 hE (fun i hi=>hF i (hdeps i hi)) (hpre j hun)
    have hbk: ∀i,i<l.length->aE l.toArray i j=true->listed.getD i false=false∧decide (i<j)=false:=by
     intro i hi hq
     constructor
     ·cases hli:listed.getD i false
      ·rfl
      ·have:=hcl i j hli hq
       rw [hun] at this;cases this
     ·rcases Nat.lt_or_ge i j with h|h
      ·have:=(hpair i j l[i] oj h (by simp [hi]) hoj).2.1
       rw [hq] at this;cases this
      ·simpa using h
    obtain ⟨c1,c2⟩:=hsee (fun i=>listed.getD i false) (fun i=>decide (i<j)) x j oj hoj hun (by simp) hbk (fun i hi hd=>⟨hdeps i hd,by
      rcases Nat.lt_trichotomy i j with h|h|h
      ·simpa using h
      ·rw [h,hself j hjl] at hd;cases hd
      ·have:=(hpair j i oj l[i] h hoj (by simp [hi])).2.1
       rw [hd] at this;cases this⟩)
    have next: ∀v g2,N.R g1 g2->(∀i,i≠j->N.pre i g1->N.pre i g2)->(lE L j).p v g2->wpAny P .any l.toArray Q fuel (listed.setIfInBounds j true) ((cC (fun i=>listed.getD i false) x l 0 a).put oj.dst v) (N.wd g2):=by
     intro v g2 hb hpp hv;have hi:=gd (s:=fun i=>listed.getD i false) (x:=x) (v:=v) l 0 j a hA hoj (by simpa using hun);rw [Nat.zero_add] at hi;rw [<-hi, <- show (fun i=>(listed.setIfInBounds j true).getD i false)=bN (fun i=>listed.getD i false) j from funext hgd]
     refine ih _ _ g2 hsj (N.trans' _ _ _ hE hb) (fun i hi'=> ?_) (fun j' i hj' hd=> ?_) (fun j' hj'=> ?_) ?_
     ·rw [hgd] at hi'
      by_cases hij:i=j
      ·subst hij;simpa [fJ] using hv
      ·simp only [bN,if_neg hij] at hi';simp only [fJ,if_neg hij];exact (lE L i).st _ _ _ hb (hF i hi')
     ·rw [hgd] at hj' ⊢
      by_cases hij:i=j
      ·simp [bN,hij]
      ·simp only [bN,if_neg hij]
       by_cases hj2:j'=j
       ·subst hj2;exact hdeps i hd
       ·simp only [bN,if_neg hj2] at hj';exact hcl j' i hj' hd
     ·rw [hgd] at hj'
      by_cases hj2:j'=j
      ·simp [bN,hj2] at hj'
      ·simp only [bN,if_neg hj2] at hj';exact hpp j' hj2 (hpre j' hj')
     ·rw [gW (s':=bN (fun i=>listed.getD i false) j) l.length (fun i _=>hgd i)]
      have:=kW (s:=fun i=>listed.getD i false) (i:=j) l.length hjl hun
      omega
    unfold DO at hst;rw [<-c1, <- c2] at hst
    rcases hst with ⟨h1,h2⟩|⟨h1,h2⟩
    ·rw [if_pos h1];refine .inl ?_;unfold Oper.wp;generalize (execOp (cC (fun i=>listed.getD i false) x l 0 a).eval oj).run P (N.wd g1)=r at h2
     cases r with
     | halt _ _=>exact h2.elim
     | ok n w'=>
      cases n<;>first|exact h2.elim|skip
      case value u=>obtain ⟨g2,rfl,k1,k3,k2⟩:=h2;exact next _ _ k1 k3 k2
      case skip=>obtain ⟨g2,rfl,k1,k3,k2⟩:=h2;exact next _ _ k1 k3 k2
      case enter f args=>
       refine Calls.mono h2 fun e w'' he=> ?_;obtain ⟨v,g2,rfl,rfl,k1,k3,k2⟩:=he
       exact next _ _ k1 k3 k2
    ·rw [if_neg (by rw [h1];decide)];obtain ⟨g2,e2,k1,k3,k2⟩:=h2;rw [<-e2]
     exact next _ _ k1 k3 k2
 have hrep: ∀i,(Array.replicate l.toArray.size false).getD i false=false:=fun i=>by
  simp only [RZ,Array.getElem?_replicate];split<;>rfl
 have h0:=main l.toArray.size (Array.replicate l.toArray.size false) (fun _=>undef) g0 (by simp) (N.Kl _)
  (fun i hi=>by rw [hrep] at hi;cases hi) (fun j i hj=>by rw [hrep] at hj;cases hj) (fun j _=>hp0 j) (qY _)
 have e:cC (fun i=>(Array.replicate l.toArray.size false).getD i false) (fun _=>undef) l 0 a=a:=by
  have: ∀(l':List Oper) k,cC (fun i=>(Array.replicate l.toArray.size false).getD i false) (fun _=>undef) l' k a=a:=by
   intro l'
   induction l' with
   | nil=>intro k;rfl
   | cons o l' ih=>intro k;rw [cC,hrep];exact ih (k+1)
  exact this l 0
 rw [e,hg0] at h0;exact h0
end
end
section
section
variable {D:Nat->Prop} {nu:Nat->Nat->Value} {o:List (Option aa)} {w:World} {P:Program}
def Fm:Op->Bool
 | .move _| .assign _| .nilCheck _| .build .. | .binOp .. | .unOp .. | .convert .. | .makeFunc .. | .fieldAddr .. | .field .. | .index .. | .extract .. | .pick .. | .box .. | .buildSlice .. =>true
 | _=>false
theorem Bq {op:Op} (h:Fm op=true) {t:List AV} {o o':List (Option aa)} {y:iQ} {K:AV->Prop} (hd:dr P op ⟨t,o,y⟩ K):dr P op ⟨t,o',y⟩ K:=by
 cases op with
 | makeFunc fn a b=>cases fn<;>exact hd
 | _=>first|(cases h;done)|exact hd
def tt (P:Program) (f:FuncId) (args:List AV) (o:List (Option aa)) (K:AV->List (Option aa)->Prop):Prop:= ∃r o',bK P f args o r o'∧K r o'
@[congr] theorem Gp {f:FuncId} {args args':List AV} {o o':List (Option aa)} {K:AV->List (Option aa)->Prop} (h:args=args') (k:o=o'):tt P f args o K=tt P f args' o' K:=by rw [h,k]
def Ba (P:Program) (f:AV) (args:List AV) (o:List (Option aa)) (K:AV->List (Option aa)->Prop):Prop:=match f with
 | .fn g first caps=>tt P g (first++args++caps) o K
 | _=>False
@[congr] theorem JB {f f':AV} {args args':List AV} {o o':List (Option aa)} {K:AV->List (Option aa)->Prop} (h:f=f') (k:args=args') (l:o=o'):Ba P f args o K=Ba P f' args' o' K:=by rw [h,k,l]
theorem Gt (g:FuncId) (first caps args:List AV) (o:List (Option aa)) (K:AV->List (Option aa)->Prop):Ba P (.fn g first caps) args o K=tt P g (first++args++caps) o K:=rfl
def rj (P:Program) (op:Op) (s:AS) (K:AV->List (Option aa)->Prop):Prop:=match op with
 | .pick _ _ _=>False
 | .call c=>match c.callee with
  | .value f=>Ba P (s.ev f) (c.args.toList.map s.ev) s.o K
  | _=>AR (GP P s.ev s.o (.call c)) K
 | op=>AR (GP P s.ev s.o op) K
theorem GM {s:AS} {op:Op} {K:AV->List (Option aa)->Prop} (h:rj P op s K): ∃r o',K r o'∧rj P op s (fun r' o''=>r'=r∧o''=o'):=by
 unfold rj at h ⊢
 split at h
 ·exact h.elim
 ·split at h
  ·unfold Ba at h ⊢
   split at h
   ·obtain ⟨r,o',h1,h2⟩:=h;exact ⟨r,o',h2,r,o',h1,rfl,rfl⟩
   ·exact h.elim
  ·unfold AR at h ⊢
   split at h
   ·exact ⟨_,_,h.2,h.1,rfl,rfl⟩
   ·exact h.elim
 ·unfold AR at h ⊢
  split at h
  ·exact ⟨_,_,h.2,h.1,rfl,rfl⟩
  ·exact h.elim
theorem Bp {s:AS} {rho:Operand->Value} {oo:Oper} {r:AV} {o':List (Option aa)} (h:RO D nu s.o w) (hev:DF D nu s.o w s.ev rho oo.op) (hd:rj P oo.op s (fun r' o''=>r'=r∧o''=o')) :
  (∃v w' nu',((execOp rho oo).run P w = .ok (.value v) w'∨((execOp rho oo).run P w = .ok .skip w'∧v=Go.undef))∧b7 nu s.o w nu' o' w'∧RO D nu' o' w'∧RA D nu' o' w' r v) ∨
  (∃g vargs,(execOp rho oo).run P w = .ok (.enter g vargs) w∧Calls P g vargs w (fun e w'=> ∃v nu',e = .returned v∧b7 nu s.o w nu' o' w'∧RO D nu' o' w'∧RA D nu' o' w' r v)):=by
 have hop: ∀op,oo.op=op->AR (GP P s.ev s.o op) (fun r' o''=>r'=r∧o''=o')->(∃v w' nu',((execOp rho oo).run P w = .ok (.value v) w'∨((execOp rho oo).run P w = .ok .skip w'∧v=Go.undef))∧b7 nu s.o w nu' o' w'∧RO D nu' o' w'∧RA D nu' o' w' r v):=by
  intro op ho hh;subst ho;unfold AR at hh
  split at hh
  ·rename_i p r1 o1 e;obtain ⟨hp,rfl,rfl⟩:=hh;obtain ⟨v,w',nu',h1,h2,h3,h4⟩:=vK (P:=P) h hev e hp;exact ⟨v,w',nu',h1,h2,h3,h4⟩
  ·exact hh.elim
 unfold rj at hd
 split at hd
 ·exact hd.elim
 ·rename_i c ho
  split at hd
  ·rename_i f hc;unfold Ba at hd
   split at hd
   ·rename_i g first caps e
    obtain ⟨r1,o1,hcall,rfl,rfl⟩:=hd;have hf:=hev f (by rw [ho];simp [Op.operands,Call.operands,hc]);rw [e] at hf;generalize hq:rho f=vf at hf
    cases hf with
    | fn _ _ _ fi ca q1 q2 q3 q4=>
    have hargs: ∀x,x∈c.args.toList->RA D nu s.o w (s.ev x) (rho x):=fun x hx=>hev x (by rw [ho];simp only [Op.operands,Call.operands,hc];simp;exact .inr (by simpa using hx))
    have hra:fX D nu s.o w (first++c.args.toList.map s.ev++caps) (fi++c.args.map rho++ca):=by
     refine ⟨by simp [q1,q2],fun i cc x k1 k2=> ?_⟩;rw [List.append_assoc] at k1;rw [Array.append_assoc] at k2
     rcases Rc i first.length with l1|l1
     ·rw [Rb l1] at k1;rw [RL (by omega)] at k2;exact q3 i cc x k1 k2
     ·rw [RF l1] at k1;rw [Sa (by omega)] at k2;rw [q1] at k1
      rcases Rc (i - fi.size) c.args.size with l2|l2
      ·rw [Rb (by simpa using l2),List.getElem?_map] at k1;rw [RL (by simpa using l2),Array.getElem?_map] at k2
       have e2:c.args.toList[i - fi.size]? = c.args[i - fi.size]? :=by simp
       rw [e2] at k1
       cases hk2:c.args[i - fi.size]? with
       | none=>rw [hk2] at k1;cases k1
       | some y=>
        rw [hk2] at k1 k2;cases k1;cases k2;exact hargs y (RK (by rw [e2];exact hk2))
      ·rw [RF (by simpa using l2)] at k1;rw [Sa (by simpa using l2)] at k2;simp only [List.length_map,Array.length_toList,Array.size_map] at k1 k2;exact q4 _ cc x k1 k2
    refine .inr ⟨g,_, ?_,(hcall.2 D nu w _ h hra).mono ?_⟩
    ·simp only [execOp,ho,resolve,hc,hq,Deferred.ofValue,Sem.run_bind,Sem.run_pure,Result.andThen_ok,invoke];exact gO hcall.1 _ w
    ·rintro e w' ⟨v,nu',o2,r2,rfl,m1,m2,m3,rfl,rfl⟩;exact ⟨v,nu',rfl,m1,m2,m3⟩
   ·exact hd.elim
  ·exact .inl (hop _ ho hd)
 ·exact .inl (hop _ rfl hd)
def lg:List (Nat×Nat)->Nat->Option Nat
 | [],_=>none
 | (j,lo) :: fs,k=>if j=k∧lo<1000 then some lo else lg fs k
def uk:List (Nat×Nat)->Nat->Bool
 | [],_=>false
 | (j,lo) :: fs,k=>decide (j=k∧lo=1000)||uk fs k
def Kf:Option (List (Option aa)->Prop)->List (Option aa)->Prop
 | none,_=>True
 | some p,o=>p o
def dh (P:Program) (all:List Oper) (es:List Nat) (fs:List (Nat×Nat)):List Oper->Nat->AS->List (List (Option aa))->Option (List (Option aa)->Prop)->(AS->Prop)->Prop
 | [],_,s,_,_,Q=>Q s
 | oo :: rest,k,s,hist,pn,Q=>if es.contains k then (match oo.guard with
   | none=>rj P oo.op s (fun r o'=>Kf pn o'∧dh P all es fs rest (k+1) (s.put oo.dst r o') (hist++[s.o]) pn Q)
   | some _=>False) else match lg fs k with
   | some lo=>oo.guard=none∧dr P oo.op s (fun r=>(∀o',o'∈hist.drop lo->dr P oo.op ⟨s.t,o',s.y⟩ (fun r'=>r'=r))∧dh P all es fs rest (k+1) (s.put oo.dst r s.o) hist pn Q)
   | none=>if uk fs k=true then oo.guard=none∧dr P oo.op s (fun r=>dh P all es fs rest (k+1) (s.put oo.dst r s.o) hist (some fun o'=>Kf pn o'∧dr P oo.op ⟨s.t,o',s.y⟩ (fun r'=>r'=r)) Q)
    else dN P all oo s (fun s'=>dh P all es fs rest (k+1) s' hist pn Q)
def Lr (P:Program) (all:List Oper) (es:List Nat) (fs:List (Nat×Nat)):List Oper->Nat->AS->List (List (Option aa))->List AV->List (List (Option aa))->AS->Prop
 | [],_,s,_,rs,os,sf=>rs=[]∧os=[]∧sf=s
 | oo :: rest,k,s,hist,rs,os,sf=> ∃r rs',rs=r :: rs' ∧
   ((es.contains k=true∧oo.guard=none∧ ∃o' os',os=o' :: os'∧rj P oo.op s (fun r' o''=>r'=r∧o''=o')∧Lr P all es fs rest (k+1) (s.put oo.dst r o') (hist++[s.o]) rs' os' sf) ∨
   (es.contains k=false∧(((oo.guard=none∨ ∃j want b,oo.guard=some (j,want)∧iw all s j=some (some b)∧(b==want)=true)∧dr P oo.op s (fun r'=>r'=r)∧(∀lo,lg fs k=some lo-> ∀o',o'∈hist.drop lo->dr P oo.op ⟨s.t,o',s.y⟩ (fun r'=>r'=r))∧(lg fs k=none->uk fs k=true-> ∀o',o'∈os->dr P oo.op ⟨s.t,o',s.y⟩ (fun r'=>r'=r))) ∨
    (lg fs k=none∧uk fs k=false∧r = .v Go.undef∧ ∃j want g,oo.guard=some (j,want)∧iw all s j=some g∧(g=none∨ ∃b,g=some b∧(b==want)=false)))∧Lr P all es fs rest (k+1) (s.put oo.dst r s.o) hist rs' os sf))
theorem fj {all:List Oper} {es:List Nat} {fs:List (Nat×Nat)}: ∀(rest:List Oper) (k:Nat) (s:AS) (hist:List (List (Option aa))) {pn:Option (List (Option aa)->Prop)} {Q:AS->Prop},dh P all es fs rest k s hist pn Q-> ∃rs os sf,Lr P all es fs rest k s hist rs os sf∧(∀o',o'∈os->Kf pn o')∧Q sf
 | [],k,s,hist,pn,Q,h=>⟨[],[],s,⟨rfl,rfl,rfl⟩,(fun _ h=>by cases h),h⟩
 | oo :: rest,k,s,hist,pn,Q,h=>by
  simp only [dh] at h
  cases he:es.contains k
  ·rw [he] at h;simp only [SV,if_false] at h
   cases hf:lg fs k with
   | some lo=>
    rw [hf] at h;obtain ⟨hg,h⟩:=h;obtain ⟨r,⟨hh,hk⟩,hr⟩:=ix h;obtain ⟨rs,os,sf,h1,h2⟩:=fj rest (k+1) _ hist hk;exact ⟨r :: rs,os,sf,⟨r,rs,rfl, .inr ⟨he, .inl ⟨.inl hg,hr,(fun lo' hl=>by rw [hf] at hl;cases hl;exact hh),fun hn=>by rw [hf] at hn;cases hn⟩,h1⟩⟩,h2⟩
   | none=>
   rw [hf] at h
   have hno: ∀r lo,lg fs k=some lo-> ∀o',o'∈hist.drop lo->dr P oo.op ⟨s.t,o',s.y⟩ (fun r'=>r'=r):=fun r lo hl=>by rw [hf] at hl;cases hl
   simp only at h;cases hlt:uk fs k
   case true=>
    rw [hlt] at h;simp only [if_true] at h;obtain ⟨hg,h⟩:=h;obtain ⟨r,hk,hr⟩:=ix h;obtain ⟨rs,os,sf,h1,h0,h2⟩:=fj rest (k+1) _ hist hk;exact ⟨r :: rs,os,sf,⟨r,rs,rfl, .inr ⟨he, .inl ⟨.inl hg,hr,hno r,fun _ _ o' ho'=>(h0 o' ho').2⟩,h1⟩⟩,fun o' ho'=>(h0 o' ho').1,h2⟩
   have hla: ∀(r:AV) (os:List (List (Option aa))),lg fs k=none->uk fs k=true-> ∀o',o'∈os->dr P oo.op ⟨s.t,o',s.y⟩ (fun r'=>r'=r):=fun r os _ h=>by rw [hlt] at h;cases h
   rw [hlt] at h;simp only [SV,if_false] at h;simp only [dN] at h
   split at h
   ·rename_i hg;obtain ⟨r,hk,hr⟩:=ix h;obtain ⟨rs,os,sf,h1,h2⟩:=fj rest (k+1) _ hist hk;exact ⟨r :: rs,os,sf,⟨r,rs,rfl, .inr ⟨he, .inl ⟨.inl hg,hr,hno r,hla r _⟩,h1⟩⟩,h2⟩
   ·rename_i j want hg;unfold ri at h
    split at h
    ·rename_i b e
     cases hb:b==want
     ·rw [hb,rO] at h;obtain ⟨rs,os,sf,h1,h2⟩:=fj rest (k+1) _ hist h;exact ⟨_ :: rs,os,sf,⟨_,rs,rfl, .inr ⟨he, .inr ⟨hf,hlt,rfl,j,want,_,hg,e, .inr ⟨b,rfl,hb⟩⟩,h1⟩⟩,h2⟩
     ·rw [hb,vt] at h;obtain ⟨r,hk,hr⟩:=ix h;obtain ⟨rs,os,sf,h1,h2⟩:=fj rest (k+1) _ hist hk;exact ⟨r :: rs,os,sf,⟨r,rs,rfl, .inr ⟨he, .inl ⟨.inr ⟨j,want,b,hg,e,hb⟩,hr,hno r,hla r _⟩,h1⟩⟩,h2⟩
    ·rename_i e;obtain ⟨rs,os,sf,h1,h2⟩:=fj rest (k+1) _ hist h;exact ⟨_ :: rs,os,sf,⟨_,rs,rfl, .inr ⟨he, .inr ⟨hf,hlt,rfl,j,want,_,hg,e, .inl rfl⟩,h1⟩⟩,h2⟩
    ·exact h.elim
  ·rw [he] at h;simp only [if_true] at h
   split at h
   ·rename_i hg;obtain ⟨r,o',⟨hpo,hk⟩,hr⟩:=GM h;obtain ⟨rs,os,sf,h1,h0,h2⟩:=fj rest (k+1) _ _ hk;exact ⟨r :: rs,o' :: os,sf,⟨r,rs,rfl, .inl ⟨he,hg,o',os,rfl,hr,h1⟩⟩,fun o'' ho=>(List.mem_cons.1 ho).elim (fun e=>by rw [e];exact hpo) (h0 o''),h2⟩
   ·exact h.elim
def ry (ops:Array Oper):Nat->Nat->Nat->Bool
 | 0,_,_=>false
 | n+1,j,i=>aE ops j i||(List.range ops.size).any (fun k=>aE ops j k&&ry ops n k i)
def Hl (ops:Array Oper) (es:List Nat) (j:Nat):Bool:=es.all (fun e=>decide (e=j)||if e<j then ry ops ops.size j e else ry ops ops.size e j)
def ta:List Nat->Bool
 | []=>true
 | [_]=>true
 | a :: b :: l=>decide (a<b)&&ta (b :: l)
def EB (ops:Array Oper) (es:List Nat) (fs:List (Nat×Nat)) (j:Nat):Bool:=match lg fs j with
 | some lo=>decide (lo<=es.length)&&(es.take lo).all (fun e=>ry ops ops.size j e)&&es.all (fun e=>decide (e<j)||(e !=j&&ry ops ops.size e j))
 | none=>false
def EZ (ops:Array Oper) (es:List Nat) (fs:List (Nat×Nat)) (j:Nat):Bool:= !es.contains j&&(lg fs j).isNone&&uk fs j&&es.all (fun e=>decide (j<=e)||ry ops ops.size j e)
def pY (ops:Array Oper) (es:List Nat) (fs:List (Nat×Nat)):Bool:=qM ops&&ta es&&es.all (fun e=>decide (e<ops.size))&&(List.range ops.size).all (fun j=>(match ops[j]? with|some oo=>Fm oo.op|none=>true) && !es.contains j||Hl ops es j||EB ops es fs j||EZ ops es fs j)
structure GG (D:Nat->Prop) (nu0:Nat->Nat->Value) (o0:List (Option aa)) (w0:World) (l:List Oper) (es:List Nat) (O:Nat->List (Option aa)) where
 w:World
 nu:Nat->Nat->Value
 done:Nat->Bool
 c:Nat
 ro:RO D nu (O c) w
 mono:b7 nu0 o0 w0 nu (O c) w
 cl: ∀j i,done j=true->aE l.toArray j i=true->done i=true
 ef: ∀k e,es[k]? = some e->(done e=true↔k<c)
 le:c<=es.length
variable {nu0:Nat->Nat->Value} {o0:List (Option aa)} {w0:World} {l:List Oper} {es:List Nat} {O:Nat->List (Option aa)}
def di (D:Nat->Prop) (nu0:Nat->Nat->Value) (o0:List (Option aa)) (w0:World) (l:List Oper) (es:List Nat) (O:Nat->List (Option aa)):jV:=
 ⟨GG D nu0 o0 w0 l es O,GG.w,fun g g'=>b7 g.nu (O g.c) g.w g'.nu (O g'.c) g'.w∧ ∀j,g.done j=true->g'.done j=true,fun g=>⟨.refl _ _ _,fun _ h=>h⟩,fun _ _ _ h k=>⟨h.1.trans k.1,fun j hj=>k.2 j (h.2 j hj)⟩,fun j g=>g.done j=false⟩
def lr (D:Nat->Prop) (nu0:Nat->Nat->Value) (o0:List (Option aa)) (w0:World) (l:List Oper) (es:List Nat) (O:Nat->List (Option aa)) (k:Nat) (r:AV):ec (di D nu0 o0 w0 l es O):=
 ⟨fun v g=>RA D g.nu (O g.c) g.w r v∧g.done k=true,fun v g g' hR h=>⟨h.1.mono hR.1 (fun _ _ h=>h),hR.2 k h.2⟩⟩
def GG.next (g:GG D nu0 o0 w0 l es O) (k:Nat) (w':World) (hb:Below g.w.heap.size g.w w') (hd: ∀i,aE l.toArray k i=true->g.done i=true) (he:es.contains k=false):GG D nu0 o0 w0 l es O where
 w:=w'
 nu:=g.nu
 done:=fun j=>if j=k then true else g.done j
 c:=g.c
 ro:=g.ro.below hb
 mono:=g.mono.trans (aw hb)
 cl:=fun j i h1 h2=>by
  by_cases hi:i=k
  ·simp [hi]
  ·simp only [if_neg hi]
   by_cases hj:j=k
   ·subst hj;exact hd i h2
   ·simp only [if_neg hj] at h1;exact g.cl j i h1 h2
 ef:=fun m e h=>by
  have hne:e≠k:=fun hh=>by
   subst hh
   have:=RK h
   simp [this] at he
  simp only [if_neg hne];exact g.ef m e h
 le:=g.le
theorem GG.qq (g:GG D nu0 o0 w0 l es O) (k:Nat) (w':World) (hb:Below g.w.heap.size g.w w') (hd: ∀i,aE l.toArray k i=true->g.done i=true) (he:es.contains k=false) :
  (di D nu0 o0 w0 l es O).R g (g.next k w' hb hd he)∧ ∀i,i≠k->(di D nu0 o0 w0 l es O).pre i g->(di D nu0 o0 w0 l es O).pre i (g.next k w' hb hd he):=by
 refine ⟨⟨aw hb,fun j hj=> ?_⟩,fun i hi h=> ?_⟩
 ·show (if j=k then true else g.done j)=true
  by_cases hjk:j=k
  ·simp [hjk]
  ·simp [hjk,hj]
 ·show (if i=k then true else g.done i)=false;simp [hi];exact h
def GG.Ou (g:GG D nu0 o0 w0 l es O) (k:Nat) (w':World) (nu':Nat->Nat->Value) (hm:b7 g.nu (O g.c) g.w nu' (O (g.c+1)) w') (hr:RO D nu' (O (g.c+1)) w') (hd: ∀i,aE l.toArray k i=true->g.done i=true) (he:es[g.c]? = some k) (hn:es.Nodup):GG D nu0 o0 w0 l es O where
 w:=w'
 nu:=nu'
 done:=fun j=>if j=k then true else g.done j
 c:=g.c+1
 ro:=hr
 mono:=g.mono.trans hm
 cl:=fun j i h1 h2=>by
  by_cases hi:i=k
  ·simp [hi]
  ·simp only [if_neg hi]
   by_cases hj:j=k
   ·subst hj;exact hd i h2
   ·simp only [if_neg hj] at h1;exact g.cl j i h1 h2
 ef:=fun m e h=>by
  by_cases hek:e=k
  ·subst hek
   have:m=g.c:=(S8 (Ra.1 h).1 hn).1 (h.trans he.symm)
   simp [this]
  ·simp only [if_neg hek]
   have hne:m≠g.c:=fun hh=>by subst hh;rw [he] at h;cases h;exact hek rfl
   rw [g.ef m e h];omega
 le:=(Ra.1 he).1
theorem GG.LJ (g:GG D nu0 o0 w0 l es O) (k:Nat) (w':World) (nu':Nat->Nat->Value) (hm:b7 g.nu (O g.c) g.w nu' (O (g.c+1)) w') (hr:RO D nu' (O (g.c+1)) w') (hd: ∀i,aE l.toArray k i=true->g.done i=true) (he:es[g.c]? = some k) (hn:es.Nodup) :
  (di D nu0 o0 w0 l es O).R g (g.Ou k w' nu' hm hr hd he hn)∧ ∀i,i≠k->(di D nu0 o0 w0 l es O).pre i g->(di D nu0 o0 w0 l es O).pre i (g.Ou k w' nu' hm hr hd he hn):=by
 refine ⟨⟨hm,fun j hj=> ?_⟩,fun i hi h=> ?_⟩
 ·show (if j=k then true else g.done j)=true
  by_cases hjk:j=k
  ·simp [hjk]
  ·simp [hjk,hj]
 ·show (if i=k then true else g.done i)=false;simp [hi];exact h
theorem kK (g:GG D nu0 o0 w0 l es O): ∀(n j i:Nat),ry l.toArray n j i=true->g.done j=true->g.done i=true
 | 0,_,_,h,_=>by cases h
 | n+1,j,i,h,hj=>by
  simp only [ry,Si,List.any_eq_true,RY] at h
  rcases h with h|⟨k,_,h1,h2⟩
  ·exact g.cl j i hj h
  ·exact kK g n k i h2 (g.cl j k hj h1)
theorem nz (g:GG D nu0 o0 w0 l es O) {n j i:Nat} (h:ry l.toArray n j i=true) (hd: ∀i,aE l.toArray j i=true->g.done i=true):g.done i=true:=by
 cases n with
 | zero=>cases h
 | succ n=>
  simp only [ry,Si,List.any_eq_true,RY] at h
  rcases h with h|⟨k,_,h1,h2⟩
  ·exact hd i h
  ·exact kK g n k i h2 (hd k h1)
theorem GG.vN (g:GG D nu0 o0 w0 l es O) {k m:Nat} (hf:Hl l.toArray es k=true) (hd: ∀i,aE l.toArray k i=true->g.done i=true) (hk:g.done k=false) (hm: ∀m' e,es[m']? = some e->(e<k↔m'<m)) (hml:m<=es.length):g.c=m:=by
 simp only [Hl,Sg,Si,decide_eq_true_eq] at hf
 have h1:g.c<=m:=by
  rcases Rc m g.c with q|q
  ·exfalso;have hlt:m<es.length:=Nat.lt_of_lt_of_le q g.le;have he:es[m]? = some es[m]:=Rp hlt;have hdn:=(g.ef m _ he).2 q
   have hge: ¬es[m]<k:=fun hh=>by have:=(hm m _ he).1 hh;omega
   rcases hf _ (S9 hlt) with h|h
   ·rw [h,hk] at hdn;cases hdn
   ·rw [if_neg hge] at h
    have:=kK g _ _ _ h hdn
    rw [hk] at this;cases this
  ·exact q
 have h2:m<=g.c:=by
  rcases Ta m with q|q
  ·omega
  ·have hlt:m - 1<es.length:=by omega
   have he:es[m - 1]? = some es[m - 1]:=Rp hlt;have hlk:=(hm _ _ he).2 (by omega)
   rcases hf _ (S9 hlt) with h|h
   ·omega
   ·rw [if_pos hlk] at h
    have:=(g.ef _ _ he).1 (nz g h hd)
    omega
 omega
theorem GG.GW (g:GG D nu0 o0 w0 l es O) {k m:Nat} {fs:List (Nat×Nat)} (hf:EZ l.toArray es fs k=true) (hd: ∀i,aE l.toArray k i=true->g.done i=true) (hm: ∀m' e,es[m']? = some e->(e<k↔m'<m)) (hml:m<=es.length):m<=g.c:=by
 simp only [EZ,RY,Sg,Si,decide_eq_true_eq] at hf
 rcases Ta m with q|q
 ·omega
 ·have hlt:m - 1<es.length:=by omega
  have he:es[m - 1]? = some es[m - 1]:=Rp hlt;have hlk:=(hm _ _ he).2 (by omega)
  rcases hf.2 _ (S9 hlt) with h|h
  ·omega
  ·have:=(g.ef _ _ he).1 (nz g h hd)
   omega
theorem GG.D8 (g:GG D nu0 o0 w0 l es O) {k m lo:Nat} {fs:List (Nat×Nat)} (hf:EB l.toArray es fs k=true) (hlo:lg fs k=some lo) (hd: ∀i,aE l.toArray k i=true->g.done i=true) (hk:g.done k=false) (hm: ∀m' e,es[m']? = some e->(e<k↔m'<m)):lo<=g.c∧g.c<=m:=by
 simp only [EB,hlo,RY,Sg,Si,decide_eq_true_eq] at hf;obtain ⟨⟨h0,h1⟩,h2⟩:=hf
 constructor
 ·rcases Ta lo with q|q
  ·omega
  ·have hlt:lo - 1<es.length:=by omega
   have he:es[lo - 1]? = some es[lo - 1]:=Rp hlt;have hmem:es[lo - 1]∈es.take lo:=List.mem_take_iff_getElem.2 ⟨lo - 1,by omega,rfl⟩
   have:=(g.ef _ _ he).1 (nz g (h1 _ hmem) hd)
   omega
 ·rcases Rc m g.c with q|q
  ·exfalso;have hlt:m<es.length:=Nat.lt_of_lt_of_le q g.le;have he:es[m]? = some es[m]:=Rp hlt;have hdn:=(g.ef m _ he).2 q
   have hge: ¬es[m]<k:=fun hh=>by have:=(hm m _ he).1 hh;omega
   rcases h2 _ (S9 hlt) with h|h
   ·exact hge h
   ·have:=kK g _ _ _ h.2 hdn
    rw [hk] at this;cases this
  ·exact q
theorem yA {N:jV} {f:Nat->AV->ec N} {rs:List AV} {i:Nat} {e:AV} (h:rs[i]? = some e):lE (rs.mapIdx f) i=f i e:=by
 rw [lE,R6,List.getElem?_mapIdx,h];rfl
theorem GV {N:jV} {f:Nat->AV->ec N} {rs:List AV} {i:Nat} {e:AV} (h:rs[i]? = some e):lE (rs.mapIdx f) i=f i e:=yA h
structure GA (l:List Oper) (s:AS) (a:Act) (k:Nat) (sk:AS) (rs:List AV) (A:(Nat->Value)->Act):Prop where
 y:sk.y=s.y
 len:rs.length=k
 gG: ∀x,(A x).defers=a.defers
 size: ∀x,sk.t.length=(A x).tmps.size
 val: ∀x (t:Nat) c v,sk.t[t]? = some c->(A x).tmps[t]? = some v->(s.t[t]? = some c∧a.tmps[t]? = some v)∨ ∃i,i<k∧(∃oi,l[i]? = some oi∧oi.dst=some t)∧rs[i]? = some c∧v=x i
theorem GA.step {l:List Oper} {s:AS} {a:Act} {k:Nat} {sk:AS} {rs:List AV} {A:(Nat->Value)->Act} (h:GA l s a k sk rs A) {oo:Oper} (ho:l[k]? = some oo) (r:AV) (o':List (Option aa)) :
  GA l s a (k+1) (sk.put oo.dst r o') (rs++[r]) (fun x=>(A x).put oo.dst (x k)):=by
 refine ⟨h.y,by simp [h.len],fun x=> ?_,fun x=> ?_,fun x t c v h1 h2=> ?_⟩
 ·have:=h.gG x;cases oo.dst<;>simpa [Act.put] using this
 ·have:=h.size x;cases oo.dst<;>simpa [Act.put,AS.put] using this
 ·have old:sk.t[t]? = some c->(A x).tmps[t]? = some v->(s.t[t]? = some c∧a.tmps[t]? = some v)∨ ∃i,i<k+1∧(∃oi,l[i]? = some oi∧oi.dst=some t)∧(rs++[r])[i]? = some c∧v=x i:=by
   intro h1 h2
   rcases h.val x t c v h1 h2 with h3|⟨i,q1,q2,q3,q4⟩
   ·exact .inl h3
   ·exact .inr ⟨i,by omega,q2,by rw [Rb (by rw [h.len];exact q1)];exact q3,q4⟩
  cases hd:oo.dst with
  | none=>rw [hd] at h1 h2;exact old h1 h2
  | some d=>
   rw [hd] at h1 h2;simp only [AS.put,Act.put] at h1 h2
   by_cases hdt:d=t
   ·subst hdt;have hlt:=(Ra.1 h1).1;simp only [List.length_set] at hlt;rw [List.getElem?_set_self hlt] at h1;rw [Array.getElem?_setIfInBounds_self_of_lt (by have:=h.size x;omega)] at h2;cases h1;cases h2;exact .inr ⟨k,by omega,⟨oo,ho,hd⟩,by rw [RF (by rw [h.len];exact Nat.le_refl _),h.len,Nat.sub_self];rfl,rfl⟩
   ·rw [List.getElem?_set_ne hdt] at h1;rw [Array.getElem?_setIfInBounds_ne hdt] at h2;exact old h1 h2
theorem yT {l:List Oper} (hB:qM l.toArray=true) {i j:Nat} {oi oj:Oper} (hij:i<j) (hi:l[i]? = some oi) (hj:l[j]? = some oj):aE l.toArray j i=true∨ ∀d,oi.dst=some d->d∉oj.looksAt l.toArray:=by
 simp only [qM,RY,Sg,Sh,Rz] at hB;have hjn:=(Ra.1 hj).1
 have:=(hB.2 j hjn).1 i hij
 simp only [AH,Rr,hi,hj,RY,Si,Tb] at this
 rcases this.1.1.1 with h|h
 ·exact .inl h
 ·refine .inr (fun e he=> ?_);rw [he] at h;simpa using h
theorem kq: ∀ {l:List Nat},ta l=true-> ∀(i j x y:Nat),i<j->l[i]? = some x->l[j]? = some y->x<y
 | [],_,i,j,x,y,_,h,_=>by simp at h
 | [a],_,i,j,x,y,hij,h1,h2=>by
  have:=(Ra.1 h2).1
  simp at this;omega
 | a :: b :: l,h,i,j,x,y,hij,h1,h2=>by
  simp only [ta,RY,decide_eq_true_eq] at h
  match i,j,h1,h2 with
  | 0,1,h1,h2=>cases h1;cases h2;exact h.1
  | 0,j+2,h1,h2=>
   cases h1
   have:=kq h.2 0 (j+1) b y (by omega) rfl (by simpa using h2)
   omega
  | i+1,j+1,h1,h2=>exact kq h.2 i j x y (by omega) (by simpa using h1) (by simpa using h2)
theorem iF {l:List Nat} (h:ta l=true):l.Nodup:=by
 refine List.pairwise_iff_getElem.2 (fun i j hi hj hij=> ?_)
 have:=kq h i j _ _ hij (Rp hi) (Rp hj)
 omega
theorem zL {l:List Oper} {es:List Nat} {fs:List (Nat×Nat)} (hsz: ∀e,e∈es->e<l.length) (hrise:ta es=true): ∀(rest:List Oper) (k m:Nat) (s:AS) (hist:List (List (Option aa))) (rs:List AV) (os:List (List (Option aa))) (sf:AS),l.drop k=rest->k<=l.length->Lr P l es fs rest k s hist rs os sf->m<=es.length ->
  (∀m' e,es[m']? = some e->(e<k↔m'<m))->os.length+m=es.length
 | [],k,m,s,hist,rs,os,sf,hl,hk,ht,hm,hme=>by
  obtain ⟨rfl,rfl,rfl⟩:=ht
  have hkl:k=l.length:=by have:=congrArg List.length hl;simp at this;omega
  rcases Rc m es.length with q|q
  ·have he:es[m]? = some es[m]:=Rp q
   have:=(hme m _ he).1 (by rw [hkl];exact hsz _ (S9 q))
   omega
  ·simp;omega
 | oo :: rest,k,m,s,hist,rs,os,sf,hl,hk,ht,hm,hme=>by
  have hlt:k<l.length:=by have:=congrArg List.length hl;simp at this;omega
  have hl':l.drop (k+1)=rest:=by have:=congrArg List.tail hl;simpa using this
  obtain ⟨r,rs',rfl,ht⟩:=ht
  rcases ht with ⟨he,hg,o',os',rfl,hd,htr⟩|⟨he,hstep,htr⟩
  ·have hkm:k∈es:=by simpa using he
   obtain ⟨mk,hmk⟩:=Ry hkm
   have hmke:mk=m:=by
    have h1: ¬mk<m:=fun hh=>by have:=(hme mk k hmk).2 hh;omega
    rcases Rc m mk with q|q
    ·have hlt2:m<es.length:=by have:=(Ra.1 hmk).1;omega
     have hem:es[m]? = some es[m]:=Rp hlt2;have hlt3:=kq hrise m mk _ _ q hem hmk
     have:=(hme m _ hem).1 hlt3
     omega
    ·omega
   subst hmke;have hmlt:=(Ra.1 hmk).1
   have:=zL hsz hrise rest (k+1) (mk+1) _ _ _ _ _ hl' hlt htr (by omega) (fun m' e h=>by
    by_cases hek:e=k
    ·subst hek
     have:m'=mk:=(S8 (Ra.1 h).1 (iF hrise)).1 (h.trans hmk.symm)
     omega
    ·have:=hme m' e h
     have hne:m'≠mk:=fun hh=>by subst hh;rw [hmk] at h;cases h;exact hek rfl
     omega)
   simp only [List.length_cons];omega
  ·exact zL hsz hrise rest (k+1) m _ _ _ _ _ hl' hlt htr hm (fun m' e h=>by
    have hne:e≠k:=fun hh=>by
     subst hh
     have:=RK h
     simp [this] at he
    rw [<-hme m' e h];omega)
theorem j0 {f:Fr} {fs:List (Nat×Nat)} (hB:pY l.toArray es fs=true) {s sf:AS} {a:Act} {w0:World} {rs:List AV} {os:List (List (Option aa))} {R:Exit->Act->World->Prop} {g0:GG D nu s.o w0 l es (fun c=>(s.o :: os).getD c [])} (hs:RS f D nu s a w0)
  (hR: ∀a' w' nu',b7 nu s.o w0 nu' sf.o w'->sf.y=s.y->RS f D nu' sf a' w'->R .normal a' w') :
  ∀(rest:List Oper) (k m:Nat) (sk:AS) (hist:List (List (Option aa))) (rs1 rs2:List AV) (os2:List (List (Option aa))) (A:(Nat->Value)->Act),l.drop k=rest->Lr P l es fs rest k sk hist rs2 os2 sf->(s.o :: os).take m=hist->rs=rs1++rs2->GA l s a k sk rs1 A->(s.o :: os).drop m=sk.o :: os2 ->
   m<=es.length->(∀m' e,es[m']? = some e->(e<k↔m'<m))->k<=l.length ->
   Is (N:=di D nu s.o w0 l es (fun c=>(s.o :: os).getD c [])) P l.toArray (rs.mapIdx (fun k r=>lr D nu s.o w0 l es (fun c=>(s.o :: os).getD c []) k r)) g0 (R .normal) rest k A
 | [],k,m,sk,hist,rs1,rs2,os2,A,hl,ht,hhi,hrs,hI,hO,hml,hme,hk=>by
  obtain ⟨rfl,rfl,rfl⟩:=ht;intro x g hE hD
  have hkl:k=l.length:=by have:=congrArg List.length hl;simp at this;omega
  have hspec: ∀i r,rs1[i]? = some r->(lr D nu s.o w0 l es (fun c=>(s.o :: os).getD c []) i r).p (x i) g:=fun i r hr=>by
   have hik:i<k:=by rw [<-hI.len];exact (Ra.1 hr).1
   have:=hD i hik
   rw [hrs,List.append_nil,GV hr] at this;exact this
  have hdone: ∀i,i<k->g.done i=true:=fun i hi=>by
   have hlt:i<rs1.length:=by rw [hI.len];exact hi
   exact (hspec i _ (Rp hlt)).2
  have hsz: ∀e,e∈es->e<l.length:=by
   simp only [pY,RY,Sg,decide_eq_true_eq,Rz] at hB;exact hB.1.2
  have hm:m=es.length:=by
   rcases Rc m es.length with q|q
   ·have he:es[m]? = some es[m]:=Rp q
    have:=(hme m _ he).1 (by rw [hkl];exact hsz _ (S9 q))
    omega
   ·omega
  have hc:g.c=m:=by
   have h1:=g.le
   rcases Ta m with q|q
   ·omega
   ·have hlt:m - 1<es.length:=by omega
    have he:es[m - 1]? = some es[m - 1]:=Rp hlt
    have:=(g.ef _ _ he).1 (hdone _ (by rw [hkl];exact hsz _ (S9 hlt)))
    omega
  have hOm:(s.o :: os).getD m []=sf.o:=by
   have:=congrArg (fun l=>l[0]?) hO
   simp only [Rn,Nat.add_zero,Su] at this;rw [R6,this];rfl
  have hro:=g.ro;have hmo:=g.mono;simp only [hc,hOm] at hro hmo;refine hR (A x) g.w g.nu hmo hI.y ⟨hro,⟨hI.size x,fun t c v h1 h2=> ?_⟩,by rw [hI.gG x];exact hs.gG.mono hs.ro hmo⟩
  rcases hI.val x t c v h1 h2 with ⟨h3,h4⟩|⟨i,q1,q2,q3,q4⟩
  ·exact (hs.tm.at' t c v h3 h4).mono hmo (fun _ _ h=>h)
  ·have:=(hspec i c q3).1
   simp only [hc,hOm] at this;rw [q4];exact this
 | oo :: rest,k,m,sk,hist,rs1,rs2,os2,A,hl,ht,hhi,hrs,hI,hO,hml,hme,hk=>by
  have hB':=hB;simp only [pY,RY,Sg,decide_eq_true_eq,Rz,Sh,Si] at hB';obtain ⟨⟨⟨hrel,hrise⟩,hszs⟩,hfix⟩:=hB'
  have hlt:k<l.length:=by have:=congrArg List.length hl;simp at this;omega
  have hok:l[k]? = some oo:=by have:=congrArg (fun m=>m[0]?) hl;simpa using this
  have hl':l.drop (k+1)=rest:=by have:=congrArg List.tail hl;simpa using this
  have hOm:(s.o :: os).getD m []=sk.o:=by
   have:=congrArg (fun l=>l[0]?) hO
   simp only [Rn,Nat.add_zero,Su] at this;rw [R6,this];rfl
  obtain ⟨r,rs',rfl,ht⟩:=ht
  have hrs':rs=(rs1++[r])++rs':=by rw [hrs];simp
  have hspecK:lE (rs.mapIdx (fun k r=>lr D nu s.o w0 l es (fun c=>(s.o :: os).getD c []) k r)) k=lr D nu s.o w0 l es (fun c=>(s.o :: os).getD c []) k r:=by
   rw [hrs];exact yA (by rw [RF (by rw [hI.len];exact Nat.le_refl _),hI.len,Nat.sub_self];rfl)
  have hspec: ∀(x:Nat->Value) (g:GG D nu s.o w0 l es (fun c=>(s.o :: os).getD c [])) i rr,(lE (rs.mapIdx (fun k r=>lr D nu s.o w0 l es (fun c=>(s.o :: os).getD c []) k r)) i).p (x i) g->rs1[i]? = some rr->RA D g.nu ((s.o :: os).getD g.c []) g.w rr (x i)∧g.done i=true:=fun x g i rr h hr=>by
   rw [hrs,yA (by rw [Rb (Ra.1 hr).1];exact hr)] at h;exact h
  have hdep: ∀i,aE l.toArray k i=true->i<k:=fun i hi=>by
   simp only [qM,RY,Sg,Sh,Rz] at hrel
   rcases Nat.lt_trichotomy i k with h|h|h
   ·exact h
   ·subst h
    have:=(hrel.2 i hlt).2.1
    rw [hi] at this;cases this
   ·exfalso;simp only [aE,Rr,hok,Array.any_eq_true',RY,beq_iff_eq] at hi;obtain ⟨e,he,hb,rfl⟩:=hi;have hfar:=(hrel.2 k hlt).2.2;simp only [tX,Rr,hok,Array.all_eq_true_iff_forall_mem] at hfar
    have hel:e.on<l.length:=by simpa using hfar e he
    have:=(hrel.2 e.on hel).1 k h
    simp only [AH,Rr,hok,Rp hel,RY,Tb] at this;have h2:=this.1.1.2;simp only [aE,Rr,hok] at h2
    have:oo.after.any (fun e_1=>Region.binds .any e_1&&e_1.on==e.on)=true:=by
     simp only [Array.any_eq_true',RY,beq_iff_eq];exact ⟨e,he,hb,rfl⟩
    rw [this] at h2;cases h2
  have hdoneD: ∀(x:Nat->Value) (g:GG D nu s.o w0 l es (fun c=>(s.o :: os).getD c [])),(∀i,aE l.toArray k i=true->(lE (rs.mapIdx (fun k r=>lr D nu s.o w0 l es (fun c=>(s.o :: os).getD c []) k r)) i).p (x i) g)-> ∀i,aE l.toArray k i=true->g.done i=true:=fun x g hD i hi=>by
   have hlt:i<rs1.length:=by rw [hI.len];exact hdep i hi
   exact (hspec x g i _ (hD i hi) (Rp hlt)).2
  
  have hlook: ∀(x:Nat->Value) (g:GG D nu s.o w0 l es (fun c=>(s.o :: os).getD c [])),(∀i,aE l.toArray k i=true->(lE (rs.mapIdx (fun k r=>lr D nu s.o w0 l es (fun c=>(s.o :: os).getD c []) k r)) i).p (x i) g)-> ∀(t:Nat) c v,t∈oo.looksAt l.toArray->sk.t[t]? = some c->(A x).tmps[t]? = some v->RA D g.nu ((s.o :: os).getD g.c []) g.w c v:=by
   intro x g hD t c v ht h1 h2
   rcases hI.val x t c v h1 h2 with ⟨h3,h4⟩|⟨i,q1,⟨oi,q2,q5⟩,q3,q4⟩
   ·exact (hs.tm.at' t c v h3 h4).mono g.mono (fun _ _ h=>h)
   ·rcases yT hrel q1 q2 hok with h5|h5
    ·have:=(hspec x g i c (hD i h5) q3).1
     rw [q4];exact this
    ·exact absurd ht (h5 t q5)
  have hevs: ∀(x:Nat->Value) (g:GG D nu s.o w0 l es (fun c=>(s.o :: os).getD c [])),(∀i,aE l.toArray k i=true->(lE (rs.mapIdx (fun k r=>lr D nu s.o w0 l es (fun c=>(s.o :: os).getD c []) k r)) i).p (x i) g)->DF D g.nu ((s.o :: os).getD g.c []) g.w sk.ev (A x).eval oo.op:=by
   intro x g hD y hy
   cases y with
   | tmp t=>
    simp only [AS.ev,Act.eval]
    rcases Rc t sk.t.length with hlt|hge
    ·have e1:sk.t[t]? = some sk.t[t]:=Rp hlt
     have hlt':t<(A x).tmps.size:=by rw [<-hI.size x];exact hlt
     have hx:(A x).tmps[t]? = some (A x).tmps[t]:=Array.getElem?_eq_getElem hlt';rw [getD_some e1]
     have:(A x).tmps.getD t Go.undef=(A x).tmps[t]:=by simp [Array.getD,hlt']
     rw [this];exact hlook x g hD t _ _ (List.mem_append_left _ (List.mem_filterMap.2 ⟨.tmp t,hy,rfl⟩)) e1 hx
    ·have e0:sk.t.getD t .undef = .undef:=by rw [R6,List.getElem?_eq_none hge];rfl
     rw [e0];exact .undef _
   | const v=>exact .v v
   | global gi=>exact (ml hs.ro sk gi).mono g.mono (fun _ _ h=>h)
   | func f=>exact .fn f [] [] #[] #[] rfl rfl (fun i c x h=>by simp at h) (fun i c x h=>by simp at h)
  have hcont: ∀(x:Nat->Value),es.contains k=false-> ∀m' e,es[m']? = some e->(e<k+1↔m'<m):=fun _ he m' e h=>by
   have hne:e≠k:=fun hh=>by
    subst hh
    have:=RK h
    simp [this] at he
   rw [<-hme m' e h];omega
  rcases ht with ⟨he,hg,o',os',rfl,hd,htr⟩|⟨he,hstep,htr⟩
  ·
   have hkm:k∈es:=by simpa using he
   obtain ⟨mk,hmk⟩:=Ry hkm
   have hmke:mk=m:=by
    have h1: ¬mk<m:=fun hh=>by have:=(hme mk k hmk).2 hh;omega
    rcases Rc m mk with q|q
    ·have hlt2:m<es.length:=by have:=(Ra.1 hmk).1;omega
     have hem:es[m]? = some es[m]:=Rp hlt2;have hlt3:=kq hrise m mk _ _ q hem hmk
     have:=(hme m _ hem).1 hlt3
     omega
    ·omega
   subst hmke
   have hOm1:(s.o :: os).getD (mk+1) []=o':=by
    have h1:=congrArg (fun (l:List (List (Option aa)))=>l[1]?) hO;simp only [Rn] at h1;rw [R6,h1];rfl
   refine ⟨fun x g hE hD hp=> ?_, ?_⟩
   ·have hdd:=hdoneD x g hD
    have hfx:Hl l.toArray es k=true:=by
     rcases hfix k hlt with ((h|h)|h)|h
     ·have:=h.2;simp [hkm] at this
     ·exact h
     ·exfalso;simp only [EB] at h
      split at h
      ·simp only [RY,Sg,Si,decide_eq_true_eq] at h
       rcases h.2 k hkm with q|q
       ·omega
       ·simp at q
      ·cases h
     ·exfalso;simp only [EZ,RY] at h
      have:=h.1.1.1;simp [hkm] at this
    have hc:g.c=mk:=g.vN hfx hdd hp hme hml;have hev:=hevs x g hD;have hro:=g.ro;simp only [hc,hOm] at hev hro;refine .inl ⟨by simp [Region.wanted,hg], ?_⟩;rw [hspecK]
    have hgo: ∀(v:Value) (w':World) (nu':Nat->Nat->Value),b7 g.nu sk.o g.w nu' o' w'->RO D nu' o' w'->RA D nu' o' w' r v ->
      ∃g':GG D nu s.o w0 l es (fun c=>(s.o :: os).getD c []),(di D nu s.o w0 l es (fun c=>(s.o :: os).getD c [])).wd g'=w'∧(di D nu s.o w0 l es (fun c=>(s.o :: os).getD c [])).R g g'∧(∀i,i≠k->(di D nu s.o w0 l es (fun c=>(s.o :: os).getD c [])).pre i g->(di D nu s.o w0 l es (fun c=>(s.o :: os).getD c [])).pre i g')∧(lr D nu s.o w0 l es (fun c=>(s.o :: os).getD c []) k r).p v g':=by
     intro v w' nu' m1 m2 m3
     have hm':b7 g.nu ((s.o :: os).getD g.c []) g.w nu' ((s.o :: os).getD (g.c+1) []) w':=by rw [hc,hOm,hOm1];exact m1
     have hr':RO D nu' ((s.o :: os).getD (g.c+1) []) w':=by rw [hc,hOm1];exact m2
     have hek:es[g.c]? = some k:=by rw [hc];exact hmk
     have hR2:=g.LJ k w' nu' hm' hr' hdd hek (iF hrise)
     refine ⟨g.Ou k w' nu' hm' hr' hdd hek (iF hrise),rfl,hR2.1,hR2.2, ?_, ?_⟩
     ·show RA D nu' ((s.o :: os).getD (g.c+1) []) w' r v;rw [hc,hOm1];exact m3
     ·show (if k=k then true else g.done k)=true;simp
    rcases Bp (P:=P) (rho:=(A x).eval) hro hev hd with ⟨v,w',nu',h1,m1,m2,m3⟩|⟨gf,vargs,h1,h2⟩
    ·rcases h1 with h1|⟨h1,rfl⟩
     ·have e1:(execOp (A x).eval oo).run P ((di D nu s.o w0 l es (fun c=>(s.o :: os).getD c [])).wd g) = .ok (.value v) w':=h1;rw [e1];exact hgo v w' nu' m1 m2 m3
     ·have e1:(execOp (A x).eval oo).run P ((di D nu s.o w0 l es (fun c=>(s.o :: os).getD c [])).wd g) = .ok .skip w':=h1;rw [e1];exact hgo _ w' nu' m1 m2 m3
    ·have e1:(execOp (A x).eval oo).run P ((di D nu s.o w0 l es (fun c=>(s.o :: os).getD c [])).wd g) = .ok (.enter gf vargs) g.w:=h1;rw [e1];refine h2.mono ?_;rintro e w' ⟨v,nu',rfl,m1,m2,m3⟩;obtain ⟨g',k1,k2,k3,k4⟩:=hgo v w' nu' m1 m2 m3;exact ⟨v,g',rfl,k1,k2,k3,k4⟩
   ·refine j0 hB hs hR rest (k+1) (mk+1) (sk.put oo.dst r o') (hist++[sk.o]) (rs1++[r]) rs' os' _ hl' htr (by rw [List.take_succ_eq_append_getElem (by have:=congrArg List.length hO;simp at this ⊢; omega),hhi];congr 1;have:=hOm;rw [R6,Rp (by have:=congrArg List.length hO;simp at this ⊢; omega)] at this;simpa using this) hrs' (hI.step hok r o') ?_ ((Ra.1 hmk).1) (fun m' e h=> ?_) hlt
    ·have:=congrArg List.tail hO
     rw [List.tail_drop] at this;exact this
    ·by_cases hek:e=k
     ·subst hek
      have:m'=mk:=(S8 (Ra.1 h).1 (iF hrise)).1 (h.trans hmk.symm)
      omega
     ·have:=hme m' e h
      have hne:m'≠mk:=fun hh=>by subst hh;rw [hmk] at h;cases h;exact hek rfl
      omega
  ·refine ⟨fun x g hE hD hp=> ?_, ?_⟩
   ·have hdd:=hdoneD x g hD;rw [hspecK]
    have hnext: ∀(v:Value) (w':World),RA D g.nu ((s.o :: os).getD g.c []) w' r v->Below g.w.heap.size g.w w' ->
      ∃g':GG D nu s.o w0 l es (fun c=>(s.o :: os).getD c []),(di D nu s.o w0 l es (fun c=>(s.o :: os).getD c [])).wd g'=w'∧(di D nu s.o w0 l es (fun c=>(s.o :: os).getD c [])).R g g'∧(∀i,i≠k->(di D nu s.o w0 l es (fun c=>(s.o :: os).getD c [])).pre i g->(di D nu s.o w0 l es (fun c=>(s.o :: os).getD c [])).pre i g')∧(lr D nu s.o w0 l es (fun c=>(s.o :: os).getD c []) k r).p v g':=by
     intro v w' hr hb;have hR2:=g.qq k w' hb hdd he;refine ⟨g.next k w' hb hdd he,rfl,hR2.1,hR2.2,hr, ?_⟩;show (if k=k then true else g.done k)=true;simp
    have hyv: ∀j want,oo.guard=some (j,want)-> ∀gg,iw l sk j=some gg->yielded l.toArray (A x).tmps j=gg:=fun j want hg gg hgv=>
     fS (s:=⟨sk.t,(s.o :: os).getD g.c [],sk.y⟩) (D:=D) (nu:=g.nu) (w:=g.w) (fun d c v hd h1 h2=>by
      refine hlook x g hD d c v ?_ h1 h2;obtain ⟨og,q1,q2⟩:=hd;refine List.mem_append_right _ ?_;simp only [hg,Rr,q1,Option.bind_some,q2]
      simp) (hI.size x) (show iw l ⟨sk.t,_,sk.y⟩ j=some gg from hgv)
    rcases hstep with ⟨hw,hd,hfl,hlat⟩|⟨_,_,rfl,j,want,gg,hg,hgv,hno⟩
    ·have hwant:Region.wanted oo (yielded l.toArray (A x).tmps)=true:=by
      rcases hw with hg|⟨j,want,b,hg,hgv,hb⟩
      ·simp [Region.wanted,hg]
      ·simp only [Region.wanted,hg,hyv j want hg _ hgv];simpa using hb
     refine .inl ⟨hwant, ?_⟩
     have hd':dr P oo.op ⟨sk.t,(s.o :: os).getD g.c [],sk.y⟩ (fun r'=>r'=r):=by
      rcases hfix k hlt with ((h|h)|h)|h
      ·rw [show l.toArray[k]? = some oo by simpa using hok] at h;exact Bq (by simpa using h.1) (show dr P oo.op ⟨sk.t,sk.o,sk.y⟩ (fun r'=>r'=r) from hd)
      ·have hc:g.c=m:=g.vN h hdd hp hme hml;rw [hc,hOm];exact hd
      ·have hlo: ∃lo,lg fs k=some lo:=by
        simp only [EB] at h
        split at h
        ·exact ⟨_, ‹_›⟩
        ·cases h
       obtain ⟨lo,hlo⟩:=hlo;obtain ⟨c1,c2⟩:=g.D8 h hlo hdd hp hme
       rcases Nat.eq_or_lt_of_le c2 with hc|hc
       ·rw [hc,hOm];exact hd
       ·have hgl:g.c<(s.o :: os).length:=by have:=congrArg List.length hO;simp at this ⊢; omega
        refine hfl lo hlo _ ?_;rw [<-hhi,R6,Rp hgl];refine List.mem_drop_iff_getElem.2 ⟨g.c - lo,by simp at hgl ⊢; omega, ?_⟩;rw [List.getElem_take];simp only [Option.getD_some]
        congr 1
        omega
      ·have hc:=g.GW h hdd hme hml;simp only [EZ,RY] at h
       rcases Nat.eq_or_lt_of_le hc with hc|hc
       ·rw [<-hc,hOm];exact hd
       ·have hle:=g.le;refine hlat (by simpa using h.1.1.2) h.1.2 _ ?_;have hln:=zL hszs hrise rest (k+1) m _ _ _ _ _ hl' (by omega) htr hml (hcont (fun _=>Go.undef) he);have e1:=congrArg (fun (l:List (List (Option aa)))=>l[g.c - m]?) hO;obtain ⟨d,hd1⟩: ∃d,g.c - m=d+1:=⟨g.c - m - 1,by omega⟩;simp only [Rn,show m+(g.c - m)=g.c by omega] at e1;rw [hd1,List.getElem?_cons_succ,Rp (l:=os2) (by omega)] at e1;rw [R6,e1];exact S9 _
     obtain ⟨r',rfl,hout⟩:=kH (P:=P) (s:=⟨sk.t,(s.o :: os).getD g.c [],sk.y⟩) (rho:=(A x).eval) g.ro (hevs x g hD) hd';have e0:(execOp (A x).eval oo).run P ((di D nu s.o w0 l es (fun c=>(s.o :: os).getD c [])).wd g)=(execOp (A x).eval oo).run P g.w:=rfl;rw [e0];generalize (execOp (A x).eval oo).run P g.w=res at hout
     cases res with
     | halt _ _=>exact hout.elim
     | ok n w'=>
      cases n<;>first|exact hout.elim|skip
      case value u=>exact hnext u w' hout.1.2 hout.2
      case skip=>exact hnext _ w' hout.1.2 hout.2
      case enter gf vargs=>
       refine Calls.mono hout ?_;rintro e w'' ⟨v,rfl,hv,hb⟩;obtain ⟨g',k1,k2,k3,k4⟩:=hnext v w'' hv.2 hb;exact ⟨v,g',rfl,k1,k2,k3,k4⟩
    ·refine .inr ⟨?_, ?_⟩
     ·simp only [Region.wanted,hg,hyv j want hg _ hgv]
      rcases hno with rfl|⟨b,rfl,hb⟩
      ·rfl
      ·simpa using hb
     ·obtain ⟨g',k1,k2,k3,k4⟩:=hnext Go.undef g.w (.v _) (.refl _ _);exact ⟨g',k1,k2,k3,k4⟩
   ·have hO':(s.o :: os).drop m=(sk.put oo.dst r s.o).o :: os2->True:=fun _=>trivial;refine j0 hB hs hR rest (k+1) m (sk.put oo.dst r sk.o) hist (rs1++[r]) rs' os2 _ hl' ?_ hhi hrs' (hI.step hok r sk.o) hO hml (hcont (fun _=>Go.undef) he) hlt;exact htr
theorem fO {n0 id:Nat} {s:AS} {l:List Oper} {Q:aZ->AS->Prop} (es:List Nat) (fs:List (Nat×Nat)) (hB:pY l.toArray es fs=true) (hC:dP l.toArray=true) (h:dh P l es fs l 0 s [] none (Q .normal)):cF P n0 (.region id l.toArray true) s Q:=by
 refine .inr (fun f m D nu a w hZr hn hm hs hmx R hO hR=> ?_);obtain ⟨rs,os,sf,htr,_,hq⟩:=fj l 0 s [] h;have hs':=hs.drew
 have hrel:qM l.toArray=true:=by
  simp only [pY,RY] at hB;exact hB.1.1.1
 let g0:GG D nu s.o w.drew l es (fun c=>(s.o :: os).getD c []):=⟨w.drew,nu,fun _=>false,0,hs'.ro, .refl _ _ _,(fun _ _ h=>by cases h),(fun _ _ _=>by simp),Nat.zero_le _⟩
 have hobl:=j0 (P:=P) (R:=R) (rs:=rs) (g0:=g0) hB hs' (fun a' w' nu' h1 hy h2=>hR .normal D f.Z sf a' w' nu' (by rw [hy];exact m.own hm hs.ro ((aw (cX w)).trans h1) h2.ro) h2 hq) l 0 0 s [] [] rs os (fun _=>a) (by simp) htr (by simp) (by simp) ⟨rfl,rfl,fun _=>rfl,fun _=>hs.tm.len,fun x t c v h1 h2=> .inl ⟨h1,h2⟩⟩ (by simp) (Nat.zero_le _) (fun m' e _=>by simp) (Nat.zero_le _);exact mR hmx hC hO (mZ (N:=di D nu s.o w.drew l es (fun c=>(s.o :: os).getD c [])) _ hrel g0 rfl (fun _=>rfl) hobl)
theorem ar {all rest:List Oper} {es:List Nat} {fs:List (Nat×Nat)} {oo:Oper} {k:Nat} {s:AS} {hist:List (List (Option aa))} {pn:Option (List (Option aa)->Prop)} {Q:AS->Prop} (he:(es.contains k||(lg fs k).isSome||uk fs k)=false) (h: ∀K:AS->Prop,(∀s',dh P all es fs rest (k+1) s' hist pn Q->K s')->dN P all oo s K):dh P all es fs (oo :: rest) k s hist pn Q:=by
 simp only [Bool.or_eq_false_iff] at he;simp only [dh,he.1.1,SV,if_false]
 cases hf:lg fs k with
 | some lo=>rw [hf] at he;simp at he
 | none=>rw [he.2];exact h _ (fun _ h=>h)
theorem bo {all rest:List Oper} {es:List Nat} {fs:List (Nat×Nat)} {dst:Option Tmp} {op:Op} {ty:TypeId} {pos:String} {aft:Array Edge} {k:Nat} {s:AS} {hist:List (List (Option aa))} {Q:AS->Prop} (he:es.contains k=true) (h: ∀K:AS->Prop,(∀s',dh P all es fs rest (k+1) s' (hist++[s.o]) none Q->K s')->rj P op s (fun r o'=>K (s.put dst r o'))):dh P all es fs (⟨dst,op,ty,pos,aft,none⟩ :: rest) k s hist none Q:=by
 simp only [dh,he,if_true,Kf,true_and];exact h _ (fun _ h=>h)
theorem aB {all rest:List Oper} {es:List Nat} {fs:List (Nat×Nat)} {dst:Option Tmp} {op:Op} {ty:TypeId} {pos:String} {aft:Array Edge} {k:Nat} {s:AS} {hist:List (List (Option aa))} {p:List (Option aa)->Prop} {Q:AS->Prop} (he:es.contains k=true) (h: ∀K:AS->Prop,(∀s',dh P all es fs rest (k+1) s' (hist++[s.o]) (some p) Q->K s')->rj P op s (fun r o'=>p o'∧K (s.put dst r o'))):dh P all es fs (⟨dst,op,ty,pos,aft,none⟩ :: rest) k s hist (some p) Q:=by
 simp only [dh,he,if_true,Kf];exact h _ (fun _ h=>h)
theorem aI {all rest:List Oper} {es:List Nat} {fs:List (Nat×Nat)} {dst:Option Tmp} {op:Op} {ty:TypeId} {pos:String} {aft:Array Edge} {k:Nat} {s:AS} {hist:List (List (Option aa))} {pn:Option (List (Option aa)->Prop)} {Q:AS->Prop} (he:(!es.contains k&&(lg fs k).isNone&&uk fs k)=true) (h:dr P op s (fun r=>dh P all es fs rest (k+1) (s.put dst r s.o) hist (some fun o'=>Kf pn o'∧dr P op ⟨s.t,o',s.y⟩ (fun r'=>r'=r)) Q)):dh P all es fs (⟨dst,op,ty,pos,aft,none⟩ :: rest) k s hist pn Q:=by
 simp only [RY,Tb] at he;simp only [dh,he.1.1,SV,if_false]
 cases hf:lg fs k with
 | some lo=>rw [hf] at he;simp at he
 | none=>rw [he.2];exact ⟨trivial,h⟩
theorem yv {all:List Oper} {es:List Nat} {fs:List (Nat×Nat)} {k:Nat} {s:AS} {hist:List (List (Option aa))} {pn:Option (List (Option aa)->Prop)} {Q:AS->Prop} (h:Q s):dh P all es fs [] k s hist pn Q:=h
instance {all:List Oper} {es:List Nat} {fs:List (Nat×Nat)} {k:Nat} {s:AS} {hist:List (List (Option aa))} {pn:Option (List (Option aa)->Prop)} {Q:AS->Prop}:af (dh P all es fs [] k s hist pn Q) (Q s):=⟨yv⟩
end
attribute [go_sem] Kf rj Gt List.forall_mem_cons List.not_mem_nil false_implies implies_true
end
end Go.Proofs.YtjcobjgjjlahdaaGreatDoor
