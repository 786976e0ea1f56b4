/- texts of one claim, one behind the other. -/
import Derived.Test.YtlhhccmopfamhaaGreatDoorWHeapP
import Derived.Test.YtlhhccmopfamhaaGreatDoorWBase2
import Derived.MapKept
import Derived.Sort.Walk0
import Derived.Test.YtlhhccmopfamhaaGreatDoorWWalk
import Derived.Test.YtlhhccmopfamhaaGreatDoorWOpenX
set_option linter.unusedSimpArgs false
set_option linter.unusedVariables false
set_option maxRecDepth 100000
set_option maxHeartbeats 16000000
open Go.MapKept renaming bytes_beq -> U3
open Int renaming le_refl -> U5
open List renaming mem_cons_self -> Ua, mem_cons -> Uv, mem_map -> U4, mem_cons_of_mem -> T8, getElem?_append_left -> S8, getElem?_eq_some_iff -> S7, getElem?_concat_length -> Ta, length_cons -> Tc, mem_append -> U6, mem_singleton -> U7, length_append -> Tb, length_nil -> S6, lt_irrefl -> U8, lt_trans -> U9, pairwise_cons -> Va, nodup_nil -> Uc, mem_flatMap -> UU, nil_append -> UQ, mem_filter -> Vb, replicate_succ -> UN, replicate_zero -> UO, cons_append -> UP, foldl_cons -> UG, foldl_nil -> UH, getElem?_toArray -> Tp, size_toArray -> Ty, map_cons -> Vd
open Bool renaming eq_iff_iff -> Vc, and_self -> UM, and_true -> Um, true_and -> Us, and_eq_true -> TY
open Option renaming map_some -> TG
open Option.some renaming injEq -> Ti
namespace Go.Proofs.YtlhhccmopfamhaaGreatDoor
open Go.RowKit
section
instance:LawfulBEq ByteArray where
 eq_of_beq h:=(U3 _ _).1 h
 rfl:=(U3 _ _).2 rfl
section
variable {K:Type} [DecidableEq K]
def bB:List (K×Int)->K->Option Int
 | [],_=>none
 | p :: l,k=>if p.1=k then some p.2 else bB l k
def fY:List (K×Int)->K->Int->List (K×Int)
 | [],k,t=>[(k,t)]
 | p :: l,k,t=>if p.1=k then (k,t) :: l else p :: fY l k t
def gZ (l:List (K×Int)) (k:K) (t:Int):Bool:=match bB l k with
 | some jP=>decide (jP<t)
 | none=>true
def eX (l:List (K×Int)) (k:K) (t:Int):List (K×Int):=if gZ l k t then fY l k t else l
theorem gH: ∀(l:List (K×Int)) (k:K) (t:Int) (j:K),bB (fY l k t) j=if k=j then some t else bB l j
 | [],k,t,j=>by simp only [fY,bB]
 | p :: l,k,t,j=>by
  rw [fY]
  by_cases h:p.1=k
  ·rw [if_pos h,bB,bB]
   by_cases hj:k=j
   ·rw [if_pos hj,if_pos hj]
   ·rw [if_neg hj,if_neg hj,if_neg (by rw [h];exact hj)]
  ·rw [if_neg h,bB,bB,gH l k t j]
   by_cases hp:p.1=j
   ·rw [if_pos hp,if_pos hp,if_neg (by rw [<-hp];exact Ne.symm h)]
   ·rw [if_neg hp,if_neg hp]
theorem sD: ∀(l:List (K×Int)) (k:K) (t:Int),(fY l k t).map Prod.fst=if k∈l.map Prod.fst then l.map Prod.fst else l.map Prod.fst++[k]
 | [],k,t=>by simp [fY]
 | p :: l,k,t=>by
  rw [fY]
  by_cases h:p.1=k
  ·rw [if_pos h,if_pos (by simp [h])];simp [h]
  ·rw [if_neg h,List.map_cons,sD l k t]
   by_cases hm:k∈l.map Prod.fst
   ·rw [if_pos hm,if_pos (by simp at hm ⊢; exact .inr hm)];rfl
   ·rw [if_neg hm,if_neg (by simp at hm ⊢; exact ⟨fun e=>h e.symm,hm⟩)];rfl
theorem AO {l:List (K×Int)} (k:K) (t:Int) (h:(l.map Prod.fst).Nodup):((fY l k t).map Prod.fst).Nodup:=by
 rw [sD]
 split
 ·exact h
 ·rename_i hm;rw [List.nodup_append];exact ⟨h,by simp,fun a ha b hb e=>hm (by simp at hb;rw [<-hb, <- e];exact ha)⟩
theorem Ih {l:List (K×Int)} (k:K) (t:Int) (h:(l.map Prod.fst).Nodup):((eX l k t).map Prod.fst).Nodup:=by
 rw [eX];split
 ·exact AO k t h
 ·exact h
theorem mv: ∀ {l:List (K×Int)} {k:K} {t:Int},(l.map Prod.fst).Nodup->(bB l k=some t↔(k,t)∈l)
 | [],k,t,_=>by simp [bB]
 | p :: l,k,t,h=>by
  rw [List.map_cons,List.nodup_cons] at h;rw [bB]
  by_cases hk:p.1=k
  ·rw [if_pos hk]
   constructor
   ·intro e;cases e;rw [<-hk];exact Ua
   ·intro hm
    rcases Uv.1 hm with e|hm
    ·rw [<-e]
    ·exact absurd (U4.2 ⟨_,hm,hk.symm⟩) h.1
  ·rw [if_neg hk,mv h.2]
   constructor
   ·exact T8 _
   ·intro hm
    rcases Uv.1 hm with e|hm
    ·exact absurd (by rw [<-e]) hk
    ·exact hm
theorem ED (l:List (K×Int)) (k:K) (t:Int) (j:K):bB (eX l k t) j=if k=j then some (match bB l k with|some jP=>max jP t|none=>t) else bB l j:=by
 rw [eX,gZ]
 by_cases hj:k=j
 ·subst hj;rw [if_pos rfl]
  cases h:bB l k with
  | none=>simp only [if_true];rw [gH,if_pos rfl]
  | some jP=>
   simp only [decide_eq_true_eq]
   split
   ·rename_i hlt;rw [gH,if_pos rfl];congr 1;omega
   ·rename_i hlt;rw [h];congr 1;omega
 ·rw [if_neg hj]
  cases h:bB l k with
  | none=>simp only [if_true];rw [gH,if_neg hj]
  | some jP=>
   simp only
   split
   ·rw [gH,if_neg hj]
   ·rfl
end
structure tZ where
 key:ByteArray
 val:yL
structure aV where
 aG:ByteArray
 to:ByteArray
 label:ByteArray
 time:Int
 props:List tZ
abbrev Nd:=ByteArray×Nat
def gw (E:List aV) (v:ByteArray):List aV:=E.filter (fun e=>decide (e.aG=v))
theorem fP {E:List aV} {v:ByteArray} {e:aV}:e∈gw E v↔e∈E∧e.aG=v:=by simp [gw]
section
variable (st:Nat->ByteArray->Option Nat)
inductive rV (E:List aV) (τ:Int) (root:ByteArray):ByteArray->Nat->Prop where
 | one (e:aV) (s:Nat):e∈E->τ<=e.time->e.aG=root->st 0 e.label=some s->rV E τ root e.to s
 | more (e:aV) (s t:Nat):rV E τ root e.aG s->e∈E->τ<=e.time->st s e.label=some t->rV E τ root e.to t
structure DS where
 known:List (Nd×Int)
 nodes:List Nd
 heap:List de
def pw (a:Nd) (time:Int) (S:DS) (e:aV):DS:=match st a.2 e.label with
 | none=>S
 | some t=>if gZ S.known (e.to,t) (min time e.time) then ⟨fY S.known (e.to,t) (min time e.time),S.nodes++[(e.to,t)],iP S.heap (-(min time e.time),(S.nodes.length:Int))⟩ else S
def jU (E:List aV) (a:Nd) (time:Int) (S:DS):DS:=(gw E a.1).foldl (pw st a time) S
end
section
variable {st:Nat->ByteArray->Option Nat} {E:List aV} {root:ByteArray}
theorem rV.less {τ σ:Int} (h:σ<=τ) {v:ByteArray} {s:Nat} (k:rV st E τ root v s):rV st E σ root v s:=by
 induction k with
 | one e s h1 h2 h3 h4=>exact .one e s h1 (by omega) h3 h4
 | more e s t _ h1 h2 h3 ih=>exact .more e s t ih h1 (by omega) h3
def BP (S S':DS):Prop:= ∀n τ,bB S.known n=some τ-> ∃ τ',bB S'.known n=some τ'∧τ<=τ'
theorem BP.refl (S:DS):BP S S:=fun n τ h=>⟨τ,h,U5 _⟩
theorem BP.trans {S S' S'':DS} (h:BP S S') (k:BP S' S''):BP S S'':=fun n τ hn=>by
 obtain ⟨a,h1,h2⟩:=h n τ hn;obtain ⟨b,h3,h4⟩:=k n a h1;exact ⟨b,h3,by omega⟩
structure DC (st:Nat->ByteArray->Option Nat) (E:List aV) (root:ByteArray) (S:DS) (done:List (Nd×Int)):Prop where
 ok:jc S.heap
 nd:(S.known.map Prod.fst).Nodup
 fp: ∀n τ,bB S.known n=some τ->rV st E τ root n.1 n.2
 M8: ∀x∈S.heap, ∃(i:Nat) (n:Nd) (τ:Int),x.2=(i:Int)∧S.nodes[i]? = some n∧bB S.known n=some τ∧ -x.1<=τ
 due: ∀n τ,bB S.known n=some τ->(n,τ)∈done∨ ∃i:Nat,(-τ,(i:Int))∈S.heap∧S.nodes[i]? = some n
 MV: ∀p∈done,bB S.known p.1=some p.2
 low: ∀p∈done, ∀x∈S.heap, -x.1<=p.2
theorem wj {S:DS} {n:Nd} {m:Int} (h:gZ S.known n m=false): ∃ τ,bB S.known n=some τ∧m<=τ:=by
 unfold gZ at h
 cases hg:bB S.known n with
 | none=>rw [hg] at h;cases h
 | some jP=>
  rw [hg] at h;exact ⟨jP,rfl,by simpa using h⟩
theorem qa {S:DS} {n:Nd} {m τ:Int} (h:gZ S.known n m=true) (k:bB S.known n=some τ):τ<m:=by
 unfold gZ at h;rw [k] at h;simpa using h
theorem Ju {S:DS} {done:List (Nd×Int)} (h:DC st E root S done) {a:Nd} {time:Int} {e:aV} (hw: ∀t,st a.2 e.label=some t->rV st E (min time e.time) root e.to t) (hd: ∀p∈done,time<=p.2) :
  DC st E root (pw st a time S e) done∧BP S (pw st a time S e)∧(∀t,st a.2 e.label=some t-> ∃ τ,bB (pw st a time S e).known (e.to,t)=some τ∧min time e.time<=τ) ∧
  (pw st a time S e).nodes.length<=S.nodes.length+1∧(pw st a time S e).heap.length<=S.heap.length+1∧(∃m,(pw st a time S e).nodes=S.nodes++m∧ ∀n∈m, ∃s,n=(e.to,s)∧st a.2 e.label=some s):=by
 unfold pw
 cases hs:st a.2 e.label with
 | none=>exact ⟨h, .refl _,fun t ht=>(by cases ht),by simp,by simp,[],by simp,fun n hn=>by cases hn⟩
 | some t=>
  simp only;have hwt:=hw t hs;generalize hm:min time e.time=m at *
  cases hb:gZ S.known (e.to,t) m with
  | false=>
   simp only [Bool.false_eq_true,if_false];exact ⟨h, .refl _,fun t' ht=>by cases ht;exact wj hb,by omega,by omega,[],by simp,fun n hn=>by cases hn⟩
  | true=>
   simp only [if_true]
   have hg: ∀j,bB (fY S.known (e.to,t) m) j=if (e.to,t)=j then some m else bB S.known j:=gH _ _ _
   have hk:BP S ⟨fY S.known (e.to,t) m,S.nodes++[(e.to,t)],iP S.heap (-m,(S.nodes.length:Int))⟩:=fun n τ hn=>by
    show ∃ τ',bB (fY S.known (e.to,t) m) n=some τ'∧τ<=τ';rw [hg]
    by_cases hne:(e.to,t)=n
    ·rw [if_pos hne];rw [<-hne] at hn
     have:=qa hb hn
     exact ⟨m,rfl,by omega⟩
    ·rw [if_neg hne];exact ⟨τ,hn,U5 _⟩
   have hmem: ∀x,x∈iP S.heap (-m,(S.nodes.length:Int))↔x∈S.heap∨x=(-m,(S.nodes.length:Int)):=fun x=>by
    rw [(fA _ _).mem_iff];simp
   refine ⟨⟨Gc h.ok,AO _ _ h.nd,fun n τ hn=> ?_,fun x hx=> ?_,fun n τ hn=> ?_,fun p hp=> ?_,fun p hp x hx=> ?_⟩,hk,fun t' ht=> ?_,by simp, ?_,[(e.to,t)],rfl,fun n hn=>⟨t,by simpa using hn,rfl⟩⟩
   ·rw [hg] at hn
    by_cases hne:(e.to,t)=n
    ·rw [if_pos hne] at hn;cases hn;rw [<-hne];exact hwt
    ·rw [if_neg hne] at hn;exact h.fp n τ hn
   ·rcases (hmem x).1 hx with hx|rfl
    ·obtain ⟨i,n,τ,h1,h2,h3,h4⟩:=h.M8 x hx;obtain ⟨τ',h5,h6⟩:=hk n τ h3;exact ⟨i,n,τ',h1,by rw [S8 (S7.1 h2).1];exact h2,h5,by omega⟩
    ·refine ⟨S.nodes.length,(e.to,t),m,rfl,Ta, ?_,by simp⟩;show bB (fY S.known (e.to,t) m) _=_;rw [hg,if_pos rfl]
   ·rw [hg] at hn
    by_cases hne:(e.to,t)=n
    ·rw [if_pos hne] at hn;cases hn;rw [<-hne];exact .inr ⟨S.nodes.length,(hmem _).2 (.inr rfl),Ta⟩
    ·rw [if_neg hne] at hn
     rcases h.due n τ hn with h1|⟨i,h1,h2⟩
     ·exact .inl h1
     ·exact .inr ⟨i,(hmem _).2 (.inl h1),by rw [S8 (S7.1 h2).1];exact h2⟩
   ·have h1:=h.MV p hp;show bB (fY S.known (e.to,t) m) p.1=some p.2
    rw [hg,if_neg fun hne=> ?_]
    ·exact h1
    ·rw [<-hne] at h1
     have:=qa hb h1
     have:=hd p hp
     omega
   ·rcases (hmem x).1 hx with hx|rfl
    ·exact h.low p hp x hx
    ·have:=hd p hp
     show - -m<=p.2;omega
   ·cases ht;refine ⟨m, ?_,U5 _⟩;show bB (fY S.known (e.to,t) m) _=_;rw [hg,if_pos rfl]
   ·have:=(fA S.heap (-m,(S.nodes.length:Int))).length_eq
    simp at this;simp [this]
theorem qz {a:Nd} {time:Int} {done:List (Nd×Int)} (hd: ∀p∈done,time<=p.2): ∀(l:List aV) (S:DS),DC st E root S done->(∀e∈l, ∀t,st a.2 e.label=some t->rV st E (min time e.time) root e.to t) ->
  DC st E root (l.foldl (pw st a time) S) done∧BP S (l.foldl (pw st a time) S)∧(∀e∈l, ∀t,st a.2 e.label=some t-> ∃ τ,bB (l.foldl (pw st a time) S).known (e.to,t)=some τ∧min time e.time<=τ) ∧
  (l.foldl (pw st a time) S).nodes.length<=S.nodes.length+l.length∧(l.foldl (pw st a time) S).heap.length<=S.heap.length+l.length∧(∃m,(l.foldl (pw st a time) S).nodes=S.nodes++m∧ ∀n∈m, ∃e∈l, ∃s,n=(e.to,s)∧st a.2 e.label=some s)
 | [],S,h,_=>⟨h,BP.refl S,fun e he=>absurd he List.not_mem_nil,by simp,by simp,[],by simp,fun n hn=>absurd hn List.not_mem_nil⟩
 | e :: l,S,h,hw=>by
  obtain ⟨h1,h2,h3,h4,h5,m1,h6,h7⟩:=Ju h (a:=a) (time:=time) (e:=e) (hw e Ua) hd;obtain ⟨k1,k2,k3,k4,k5,m2,k6,k7⟩:=qz hd l (pw st a time S e) h1 (fun e' he=>hw e' (T8 _ he));simp only [List.foldl_cons,Tc]
  refine ⟨k1,h2.trans k2,fun e' he t ht=> ?_,by omega,by omega,m1++m2,by rw [k6,h6,List.append_assoc],fun n hn=> ?_⟩
  ·rcases Uv.1 he with rfl|he
   ·obtain ⟨τ,q1,q2⟩:=h3 t ht;obtain ⟨τ',q3,q4⟩:=k2 _ _ q1;exact ⟨τ',q3,by omega⟩
   ·exact k3 e' he t ht
  ·rcases U6.1 hn with hn|hn
   ·obtain ⟨s,q1,q2⟩:=h7 n hn;exact ⟨e,Ua,s,q1,q2⟩
   ·obtain ⟨e',he,s,q1,q2⟩:=k7 n hn;exact ⟨e',T8 _ he,s,q1,q2⟩
def Eb (st:Nat->ByteArray->Option Nat) (E:List aV) (S:DS) (done:List (Nd×Int)):Prop:= ∀p∈done, ∀e∈E,e.aG=p.1.1-> ∀t,st p.1.2 e.label=some t-> ∃ τ,bB S.known (e.to,t)=some τ∧min p.2 e.time<=τ
theorem Eb.keep {S S':DS} {done:List (Nd×Int)} (h:Eb st E S done) (k:BP S S'):Eb st E S' done:=fun p hp e he hf t ht=>by
 obtain ⟨τ,h1,h2⟩:=h p hp e he hf t ht;obtain ⟨τ',h3,h4⟩:=k _ _ h1;exact ⟨τ',h3,by omega⟩
def DS.pop (S:DS):DS:=⟨S.known,S.nodes,jS S.heap⟩
theorem fE {S:DS} (h:S.heap≠[]) {x:de}:x∈S.heap↔x=ax S.heap 0∨x∈S.pop.heap:=by
 have:=(tn h).mem_iff (a:=x)
 rw [Uv] at this;exact this.symm
theorem F8 {S:DS} {done:List (Nd×Int)} (h:DC st E root S done) (hne:S.heap≠[]) {i:Nat} {n:Nd} (hi:(ax S.heap 0).2=(i:Int)) (hn:S.nodes[i]? = some n) (hd:n∈done.map Prod.fst):DC st E root S.pop done:=by
 obtain ⟨⟨n',τd⟩,hp,rfl⟩:=U4.1 hd;refine ⟨Bl h.ok,h.nd,h.fp,fun x hx=>h.M8 x ((fE hne).2 (.inr hx)),fun m τ hm=> ?_,h.MV,fun p hp x hx=>h.low p hp x ((fE hne).2 (.inr hx))⟩
 rcases h.due m τ hm with h1|⟨j,h1,h2⟩
 ·exact .inl h1
 ·rcases (fE hne).1 h1 with e|h1
  ·left;rw [<-e] at hi
   have hij:i=j:=by simp only at hi;omega
   rw [hij,h2] at hn;simp only [Option.some.injEq] at hn;subst hn
   have:=h.MV _ hp
   have hm':bB S.known m=some τ:=hm;simp only at this;rw [hm'] at this;cases this;exact hp
  ·exact .inr ⟨j,h1,h2⟩
theorem Jl {S:DS} {done:List (Nd×Int)} (h:DC st E root S done) (hne:S.heap≠[]) {i:Nat} {n:Nd} (hi:(ax S.heap 0).2=(i:Int)) (hn:S.nodes[i]? = some n) (hd:n∉done.map Prod.fst) :
  bB S.known n=some (-(ax S.heap 0).1)∧(∀p∈done, -(ax S.heap 0).1<=p.2)∧DC st E root S.pop (done++[(n, -(ax S.heap 0).1)]):=by
 have hmem:ax S.heap 0∈S.heap:=(fE hne).2 (.inl rfl);have hleast:=fun x (hx:x∈S.heap)=>zy h.ok hx;generalize hx0:ax S.heap 0=x0 at hmem hleast hi ⊢;obtain ⟨j,n',τ,h1,h2,h3,h4⟩:=h.M8 x0 hmem
 have hij:i=j:=by omega
 subst hij;rw [hn] at h2;cases h2
 have hle: ∀x∈S.heap, -x.1 <= -x0.1:=fun x hx=>by
  have:=hleast x hx
  rw [<-Bool.not_eq_true,gJ] at this;omega
 have hτ:τ = -x0.1:=by
  rcases h.due n τ h3 with q|⟨k,q1,q2⟩
  ·exact absurd (U4.2 ⟨_,q,rfl⟩) hd
  ·have:=hle _ q1
   simp only at this;omega
 subst hτ;have hlow:=fun p hp=>h.low p hp x0 hmem
 refine ⟨h3,hlow,Bl h.ok,h.nd,h.fp,fun x hx=>h.M8 x ((fE hne).2 (.inr hx)),fun m τ hm=> ?_,fun p hp=> ?_,fun p hp x hx=> ?_⟩
 ·rcases h.due m τ hm with q|⟨k,q1,q2⟩
  ·exact .inl (List.mem_append_left _ q)
  ·rcases (fE hne).1 q1 with e|q1
   ·left;rw [hx0] at e;rw [<-e] at hi
    have hik:i=k:=by simp only at hi;omega
    rw [hik,q2] at hn;cases hn;rw [<-e];simp
   ·exact .inr ⟨k,q1,q2⟩
 ·rcases U6.1 hp with hp|hp
  ·exact h.MV p hp
  ·rw [U7.1 hp];exact h3
 ·have hx':=(fE hne).2 (.inr hx)
  rcases U6.1 hp with hp|hp
  ·exact h.low p hp x hx'
  ·rw [U7.1 hp];exact hle x hx'
def fm (st:Nat->ByteArray->Option Nat) (E:List aV):Nat->DS->List Nd->List (Nd×Int)
 | 0,_,_=>[]
 | f+1,S,done=>if S.heap=[] then [] else match S.nodes[(ax S.heap 0).2.toNat]? with
  | none=>[]
  | some n=>if n∈done then fm st E f S.pop done else (n, -(ax S.heap 0).1) :: fm st E f (jU st E n (-(ax S.heap 0).1) S.pop) (done++[n])
structure DL (st:Nat->ByteArray->Option Nat) (E:List aV) (root:ByteArray) (cand:List Nd) (f:Nat) (S:DS) (done:List (Nd×Int)):Prop extends DC st E root S done where
 out:Eb st E S done
 ON:(done.map Prod.fst).Nodup
 sub: ∀n∈S.nodes,n∈cand
 Qo: ∀n∈done.map Prod.fst,n∈cand
 fuel:S.heap.length+(cand.length - done.length) * (E.length+1)<=f
 len:S.nodes.length<=(done.length+1) * E.length
theorem FT {l m:List Nd} (h:l.Nodup) (hs: ∀x∈l,x∈m):l.length<=m.length:=by
 induction l generalizing m with
 | nil=>simp
 | cons a l ih=>
  rw [List.nodup_cons] at h;have ha:=hs a Ua
  have:=ih (m:=m.erase a) h.2 fun x hx=>(List.mem_erase_of_ne (fun e=>by rw [e] at hx;exact h.1 hx)).2 (hs x (T8 _ hx))
  rw [List.length_erase_of_mem ha] at this
  have:=List.length_pos_of_mem ha
  simp;omega
theorem pI (E:List aV) (v:ByteArray):(gw E v).length<=E.length:=List.length_filter_le _ _
theorem DL.next {cand:List Nd} {f:Nat} {S:DS} {done:List (Nd×Int)} (hc: ∀e∈E, ∀s t,st s e.label=some t->(e.to,t)∈cand) (h:DL st E root cand f S done) (hne:S.heap≠[]): ∃(i:Nat) (n:Nd) (f':Nat),f=f'+1∧(ax S.heap 0).2=(i:Int)∧S.nodes[i]? = some n ∧
  (n∈done.map Prod.fst->DL st E root cand f' S.pop done)∧(n∉done.map Prod.fst->DL st E root cand f' (jU st E n (-(ax S.heap 0).1) S.pop) (done++[(n, -(ax S.heap 0).1)])∧BP S (jU st E n (-(ax S.heap 0).1) S.pop)):=by
 have hmem:ax S.heap 0∈S.heap:=(fE hne).2 (.inl rfl);obtain ⟨i,n,τ,h1,h2,h3,h4⟩:=h.M8 _ hmem;have hpl:=ri hne;have hfu:=h.fuel;have hpos:0<S.heap.length:=List.length_pos_iff.2 hne
 refine ⟨i,n,f - 1,by omega,h1,h2,fun hd=> ?_,fun hd=> ?_⟩
 ·refine ⟨F8 h.toDC hne h1 h2 hd,h.out,h.ON,h.sub,h.Qo, ?_,h.len⟩;show (jS S.heap).length+_<=_;omega
 ·obtain ⟨p1,p2,p3⟩:=Jl h.toDC hne h1 h2 hd;have hwn:=h.fp n _ p1;generalize hτ: -(ax S.heap 0).1=σ at *;have hnc:n∈cand:=h.sub n (List.mem_of_getElem? h2)
  have hdl:(done++[(n,σ)]).map Prod.fst=done.map Prod.fst++[n]:=by simp
  have hdn:((done++[(n,σ)]).map Prod.fst).Nodup:=by
   rw [hdl,List.nodup_append];exact ⟨h.ON,by simp,fun a ha b hb e=>hd (by simp at hb;rw [<-hb, <- e];exact ha)⟩
  have hsd: ∀m∈(done++[(n,σ)]).map Prod.fst,m∈cand:=fun m hm=>by
   rw [hdl] at hm
   rcases U6.1 hm with hm|hm
   ·exact h.Qo m hm
   ·rw [U7.1 hm];exact hnc
  have hlen:=FT hdn hsd;simp only [List.length_map,Tb,Tc,S6] at hlen
  have hle: ∀p∈done++[(n,σ)],σ<=p.2:=fun p hp=>by
   rcases U6.1 hp with hp|hp
   ·exact p2 p hp
   ·rw [U7.1 hp];exact U5 _
  obtain ⟨k1,k2,k3,k4,k5,m,k6,k7⟩:=qz (st:=st) (E:=E) (root:=root) (a:=n) (time:=σ) hle (gw E n.1) S.pop p3 (fun e he t ht=>by
   obtain ⟨e1,e2⟩:=fP.1 he
   have e3:rV st E (min σ e.time) root e.aG n.2:=by rw [e2];exact hwn.less (by omega)
   exact .more e n.2 t e3 e1 (by omega) ht)
  have hol:=pI E n.1
  refine ⟨⟨k1,fun p hp e he hf t ht=> ?_,hdn,fun x hx=> ?_,hsd, ?_, ?_⟩,fun a b c=>k2 a b c⟩
  ·rcases U6.1 hp with hp|hp
   ·exact (Eb.keep (S:=S) h.out (fun a b c=>k2 a b c)) p hp e he hf t ht
   ·obtain rfl:=U7.1 hp;exact k3 e (fP.2 ⟨he,hf⟩) t ht
  ·rw [jU,k6] at hx
   rcases U6.1 hx with hx|hx
   ·exact h.sub x hx
   ·obtain ⟨e,he,s,rfl,hs⟩:=k7 x hx;exact hc e (fP.1 he).1 n.2 s hs
  ·have e1:(jU st E n σ S.pop).heap.length<=(jS S.heap).length+E.length:=by
    have:(jU st E n σ S.pop).heap.length<=(jS S.heap).length+(gw E n.1).length:=k5
    omega
   simp only [Tb,Tc,S6]
   have e2:cand.length - done.length=(cand.length - (done.length+1))+1:=by omega
   rw [e2,Nat.add_mul,Nat.one_mul] at hfu;simp only [Nat.zero_add];omega
  ·have e1:(jU st E n σ S.pop).nodes.length<=S.nodes.length+(gw E n.1).length:=k4;have e2:=h.len;simp only [Tb,Tc,S6,Nat.zero_add];rw [Nat.add_mul (done.length+1),Nat.one_mul];omega
theorem qk (f:Nat) {S:DS} (done:List Nd) (h:S.heap=[]):fm st E f S done=[]:=by
 cases f<;>simp [fm,h]
theorem sJ {f i:Nat} {S:DS} {done:List Nd} {n:Nd} (h:S.heap≠[]) (hi:(ax S.heap 0).2=(i:Int)) (hn:S.nodes[i]? = some n) (hd:n∈done):fm st E (f+1) S done=fm st E f S.pop done:=by
 rw [fm,if_neg h,hi,Int.toNat_natCast,hn];simp [hd]
theorem sI {f i:Nat} {S:DS} {done:List Nd} {n:Nd} (h:S.heap≠[]) (hi:(ax S.heap 0).2=(i:Int)) (hn:S.nodes[i]? = some n) (hd:n∉done):fm st E (f+1) S done=(n, -(ax S.heap 0).1) :: fm st E f (jU st E n (-(ax S.heap 0).1) S.pop) (done++[n]):=by
 rw [fm,if_neg h,hi,Int.toNat_natCast,hn];simp [hd]
structure Ky (st:Nat->ByteArray->Option Nat) (E:List aV) (root:ByteArray) (Y:List (Nd×Int)):Prop where
 nd:(Y.map Prod.fst).Nodup
 fp: ∀p∈Y,rV st E p.2 root p.1.1 p.1.2
 all: ∀ τ v s,rV st E τ root v s-> ∃ σ,((v,s),σ)∈Y∧τ<=σ
def sr (st:Nat->ByteArray->Option Nat) (E:List aV) (root:ByteArray) (S:DS):Prop:= ∀e∈E,e.aG=root-> ∀t,st 0 e.label=some t-> ∃ τ,bB S.known (e.to,t)=some τ∧e.time<=τ
theorem sr.keep {S S':DS} (h:sr st E root S) (k:BP S S'):sr st E root S':=fun e he hf t ht=>by
 obtain ⟨τ,h1,h2⟩:=h e he hf t ht;obtain ⟨τ',h3,h4⟩:=k _ _ h1;exact ⟨τ',h3,by omega⟩
theorem DL.fin {cand:List Nd} {f:Nat} {S:DS} {done:List (Nd×Int)} (h:DL st E root cand f S done) (hr:sr st E root S) (hnil:S.heap=[]):Ky st E root done:=by
 have hdue: ∀n τ,bB S.known n=some τ->(n,τ)∈done:=fun n τ hn=>by
  rcases h.due n τ hn with q|⟨i,q,_⟩
  ·exact q
  ·rw [hnil] at q;cases q
 refine ⟨h.ON,fun p hp=>h.fp p.1 p.2 (h.MV p hp),fun τ v s hR=> ?_⟩
 have key: ∃ σ,bB S.known (v,s)=some σ∧τ<=σ:=by
  induction hR with
  | one e s h1 h2 h3 h4=>
   obtain ⟨σ,q1,q2⟩:=hr e h1 h3 s h4;exact ⟨σ,q1,by omega⟩
  | more e s t _ h1 h2 h3 ih=>
   obtain ⟨σ,q1,q2⟩:=ih;obtain ⟨σ',q3,q4⟩:=h.out _ (hdue _ _ q1) e h1 rfl t h3;exact ⟨σ',q3,by simp only at q4;omega⟩
 obtain ⟨σ,q1,q2⟩:=key;exact ⟨σ,hdue _ _ q1,q2⟩
theorem nK {cand:List Nd} (hc: ∀e∈E, ∀s t,st s e.label=some t->(e.to,t)∈cand): ∀(f:Nat) (S:DS) (done:List (Nd×Int)),DL st E root cand f S done->sr st E root S->Ky st E root (done++fm st E f S (done.map Prod.fst))
 | f,S,done,h,hr=>by
  by_cases hnil:S.heap=[]
  ·rw [qk f _ hnil,List.append_nil];exact h.fin hr hnil
  ·obtain ⟨i,n,f',rfl,h1,h2,h3,h4⟩:=h.next hc hnil
   by_cases hd:n∈done.map Prod.fst
   ·rw [sJ hnil h1 h2 hd];exact nK hc f' S.pop done (h3 hd) hr
   ·rw [sI hnil h1 h2 hd];obtain ⟨h5,hk⟩:=h4 hd
    have:=nK hc f' _ _ h5 (hr.keep hk)
    simpa using this
end
end
section
abbrev K2:=ByteArray×ByteArray
def zf (a b:K2):Prop:=a.1.data.toList<b.1.data.toList∨a.1=b.1∧a.2.data.toList<b.2.data.toList
instance (a b:K2):Decidable (zf a b):=inferInstanceAs (Decidable (_∨_))
theorem sE {a b:ByteArray} (h:a.data.toList=b.data.toList):a=b:=by
 obtain ⟨⟨a⟩⟩:=a;obtain ⟨⟨b⟩⟩:=b;simp at h;rw [h]
theorem kQ (a b:ByteArray):a.data.toList<b.data.toList∨a=b∨b.data.toList<a.data.toList:=by
 by_cases h:a.data.toList<b.data.toList
 ·exact .inl h
 ·by_cases h2:b.data.toList<a.data.toList
  ·exact .inr (.inr h2)
  ·exact .inr (.inl (sE (List.le_antisymm (List.not_lt.1 h2) (List.not_lt.1 h))))
theorem dX (a:K2): ¬zf a a:=fun h=>by
 rcases h with h|⟨_,h⟩<;>exact U8 _ h
theorem gD {a b c:K2} (h:zf a b) (k:zf b c):zf a c:=by
 rcases h with h|⟨h1,h2⟩
 ·rcases k with k|⟨k1,k2⟩
  ·exact .inl (U9 h k)
  ·rw [k1] at h;exact .inl h
 ·rcases k with k|⟨k1,k2⟩
  ·rw [<-h1] at k;exact .inl k
  ·exact .inr ⟨h1.trans k1,U9 h2 k2⟩
theorem mF (a b:K2):zf a b∨a=b∨zf b a:=by
 rcases kQ a.1 b.1 with h|h|h
 ·exact .inl (.inl h)
 ·rcases kQ a.2 b.2 with k|k|k
  ·exact .inl (.inr ⟨h,k⟩)
  ·exact .inr (.inl (Prod.ext h k))
  ·exact .inr (.inr (.inr ⟨h.symm,k⟩))
 ·exact .inr (.inr (.inl h))
abbrev PL:=List (K2×Int)
def gF (l:PL):Prop:=l.Pairwise (fun a b=>zf a.1 b.1)
def zC (p:K2×Int):PL->PL
 | []=>[p]
 | q :: l=>if zf p.1 q.1 then p :: q :: l else q :: zC p l
def bU (b:PL):PL:=b.foldr zC []
theorem nU (p:K2×Int): ∀l:PL,(zC p l).Perm (p :: l)
 | []=> .refl _
 | q :: l=>by
  rw [zC]
  split
  ·exact .refl _
  ·exact ((nU p l).cons q).trans (.swap p q l)
theorem cF: ∀b:PL,(bU b).Perm b
 | []=> .refl _
 | p :: b=>(nU p _).trans ((cF b).cons p)
theorem sT {p:K2×Int}: ∀ {l:PL},gF l->(∀q∈l,q.1≠p.1)->gF (zC p l)
 | [],_,_=>by simp [zC,gF]
 | q :: l,h,hne=>by
  rw [gF,Va] at h;rw [zC]
  split
  ·rename_i hlt;rw [gF,Va,Va];refine ⟨fun r hr=> ?_,h.1,h.2⟩
   rcases Uv.1 hr with rfl|hr
   ·exact hlt
   ·exact gD hlt (h.1 r hr)
  ·rename_i hlt
   have hq:zf q.1 p.1:=by
    rcases mF q.1 p.1 with a|a|a
    ·exact a
    ·exact absurd a (hne q Ua)
    ·exact absurd a hlt
   rw [gF,Va];refine ⟨fun r hr=> ?_,sT h.2 fun r hr=>hne r (T8 _ hr)⟩
   rcases Uv.1 ((nU p l).mem_iff.1 hr) with rfl|hr
   ·exact hq
   ·exact h.1 r hr
theorem mh: ∀ {b:PL},(b.map Prod.fst).Nodup->gF (bU b)
 | [],_=>List.Pairwise.nil
 | p :: b,h=>by
  rw [List.map_cons,List.nodup_cons] at h;refine sT (mh h.2) fun q hq e=>h.1 ?_;rw [<-e];exact List.mem_map_of_mem ((cF b).mem_iff.1 hq)
theorem oh {l:PL} (h:gF l) {k:K2} {s t:Int} (h1:(k,s)∈l) (h2:(k,t)∈l):s=t:=by
 induction l with
 | nil=>cases h1
 | cons a l ih=>
  rw [gF,Va] at h
  rcases Uv.1 h1 with e1|h1
  ·rcases Uv.1 h2 with e2|h2
   ·rw [<-e1] at e2;cases e2;rfl
   ·have:=h.1 _ h2
    rw [<-e1] at this;exact absurd this (dX _)
  ·rcases Uv.1 h2 with e2|h2
   ·have:=h.1 _ h1
    rw [<-e2] at this;exact absurd this (dX _)
   ·exact ih h.2 h1 h2
theorem mc: ∀ {l m:PL},gF l->gF m->(∀p,p∈l↔p∈m)->l=m
 | [],[],_,_,_=>rfl
 | [],b :: m,_,_,h=>absurd ((h b).2 (by simp)) (by simp)
 | a :: l,[],_,_,h=>absurd ((h a).1 (by simp)) (by simp)
 | a :: l,b :: m,h1,h2,h=>by
  rw [gF,Va] at h1 h2
  have hab:a=b:=by
   rcases Uv.1 ((h a).1 (by simp)) with e|ha
   ·exact e
   ·rcases Uv.1 ((h b).2 (by simp)) with e|hb
    ·exact e.symm
    ·exact absurd (gD (h1.1 b hb) (h2.1 a ha)) (dX _)
  subst hab
  refine congrArg _ (mc h1.2 h2.2 fun s=>⟨fun hs=> ?_,fun hs=> ?_⟩)
  ·rcases Uv.1 ((h s).1 (T8 _ hs)) with e|q
   ·subst e;exact absurd (h1.1 _ hs) (dX _)
   ·exact q
  ·rcases Uv.1 ((h s).2 (T8 _ hs)) with e|q
   ·subst e;exact absurd (h2.1 _ hs) (dX _)
   ·exact q
section
variable {K:Type} [DecidableEq K]
def eu (l:List (K×Int)) (b:List (K×Int)):List (K×Int):=l.foldl (fun b p=>eX b p.1 p.2) b
theorem kZ (l m b:List (K×Int)):eu (l++m) b=eu m (eu l b):=List.foldl_append
theorem gM: ∀(l b:List (K×Int)),(b.map Prod.fst).Nodup->((eu l b).map Prod.fst).Nodup∧(∀k σ,bB (eu l b) k=some σ->bB b k=some σ∨(k,σ)∈l)∧(∀p∈l, ∃ σ,bB (eu l b) p.1=some σ∧p.2<=σ)∧(∀k τ,bB b k=some τ-> ∃ σ,bB (eu l b) k=some σ∧τ<=σ)
 | [],b,h=>⟨h,fun k σ h=> .inl h,fun p hp=>absurd hp List.not_mem_nil,fun k τ h=>⟨τ,h,U5 _⟩⟩
 | p :: l,b,h=>by
  obtain ⟨h1,h2,h3,h4⟩:=gM l (eX b p.1 p.2) (Ih _ _ h);have hg:=ED b p.1 p.2;show ((eu l (eX b p.1 p.2)).map Prod.fst).Nodup∧(∀k σ,bB (eu l (eX b p.1 p.2)) k=some σ->_)∧(∀q∈p :: l, ∃ σ,bB (eu l (eX b p.1 p.2)) q.1=some σ∧q.2<=σ)∧(∀k τ,bB b k=some τ-> ∃ σ,bB (eu l (eX b p.1 p.2)) k=some σ∧τ<=σ)
  refine ⟨h1,fun k σ hk=> ?_,fun q hq=> ?_,fun k τ hk=> ?_⟩
  ·rcases h2 k σ hk with q|q
   ·rw [hg] at q
    by_cases hkp:p.1=k
    ·rw [if_pos hkp] at q
     cases hb:bB b p.1 with
     | none=>
      rw [hb] at q;cases q;right;rw [<-hkp];exact Ua
     | some jP=>
      rw [hb] at q;simp only [Option.some.injEq] at q
      by_cases hlt:jP<p.2
      ·right;rw [<-q, <- hkp,show max jP p.2=p.2 by omega];exact Ua
      ·left;rw [<-q, <- hkp,hb];congr 1;omega
    ·rw [if_neg hkp] at q;exact .inl q
   ·exact .inr (T8 _ q)
  ·rcases Uv.1 hq with rfl|hq
   ·have: ∃ τ,bB (eX b q.1 q.2) q.1=some τ∧q.2<=τ:=by
     rw [hg,if_pos rfl]
     cases bB b q.1 with
     | none=>exact ⟨_,rfl,U5 _⟩
     | some jP=>exact ⟨max jP q.2,rfl,by omega⟩
    obtain ⟨τ,q1,q2⟩:=this;obtain ⟨σ,q3,q4⟩:=h4 _ _ q1;exact ⟨σ,q3,by omega⟩
   ·exact h3 q hq
  ·have: ∃ τ',bB (eX b p.1 p.2) k=some τ'∧τ<=τ':=by
    rw [hg]
    by_cases hkp:p.1=k
    ·rw [if_pos hkp,hkp,hk];exact ⟨max τ p.2,rfl,by omega⟩
    ·rw [if_neg hkp];exact ⟨τ,hk,U5 _⟩
   obtain ⟨τ',q1,q2⟩:=this;obtain ⟨σ,q3,q4⟩:=h4 _ _ q1;exact ⟨σ,q3,by omega⟩
end
def y0:Int:=1099511627776
def rI (E:List aV):PL:=E.flatMap (fun e=>[((e.aG,e.aG),e.time),((e.to,e.to),e.time)])
def oC (E:List aV):PL:=eu (rI E) []
def aZ (E:List aV):PL:=bU (oC E)
theorem rJ {E:List aV} {k:K2} {τ:Int}:(k,τ)∈aZ E↔bB (oC E) k=some τ:=by
 have h:((oC E).map Prod.fst).Nodup:=(gM _ [] Uc).1;rw [aZ,(cF _).mem_iff,mv h]
theorem oA {E:List aV} {k:K2} {τ:Int}:(k,τ)∈rI E ↔ ∃e∈E,(k=(e.aG,e.aG)∨k=(e.to,e.to))∧τ=e.time:=by
 simp only [rI,UU,Uv,List.not_mem_nil,or_false,Prod.mk.injEq]
 constructor
 ·rintro ⟨e,he,⟨h1,h2⟩|⟨h1,h2⟩⟩
  ·exact ⟨e,he, .inl h1,h2⟩
  ·exact ⟨e,he, .inr h1,h2⟩
 ·rintro ⟨e,he,h1|h1,h2⟩
  ·exact ⟨e,he, .inl ⟨h1,h2⟩⟩
  ·exact ⟨e,he, .inr ⟨h1,h2⟩⟩
theorem GY {E:List aV} {k:K2} {τ:Int} (h:(k,τ)∈aZ E): ∃e∈E,(k=(e.aG,e.aG)∨k=(e.to,e.to))∧τ=e.time:=by
 rcases (gM (rI E) [] Uc).2.1 k τ (rJ.1 h) with q|q
 ·cases q
 ·exact oA.1 q
theorem yk {E:List aV} {e:aV} (he:e∈E):(∃ τ,((e.aG,e.aG),τ)∈aZ E∧e.time<=τ)∧ ∃ τ,((e.to,e.to),τ)∈aZ E∧e.time<=τ:=by
 have h:=(gM (rI E) [] Uc).2.2.1;obtain ⟨σ,h1,h2⟩:=h ((e.aG,e.aG),e.time) (oA.2 ⟨e,he, .inl rfl,rfl⟩);obtain ⟨ρ,h3,h4⟩:=h ((e.to,e.to),e.time) (oA.2 ⟨e,he, .inr rfl,rfl⟩);exact ⟨⟨σ,rJ.2 h1,h2⟩,ρ,rJ.2 h3,h4⟩
section
variable (st:Nat->ByteArray->Option Nat) (tk:Nat->Bool) (em:Bool) (n:Nat)
def ib (E:List aV):List Nd:=E.flatMap (fun e=>(List.range n).map (fun s=>(e.to,s)))
def ES (E:List aV) (root:ByteArray):DS:=jU st E (root,0) y0 ⟨[],[],[]⟩
def MU (E:List aV) (root:ByteArray):Nat:=(ES st E root).heap.length+(ib n E).length * (E.length+1)
def rN (E:List aV) (root:ByteArray):List (Nd×Int):=fm st E (MU st n E root) (ES st E root) []
def iO (E:List aV) (v:K2×Int):PL:=(if em then [((v.1.1,v.1.1),v.2)] else [])++(rN st n E v.1.1).filterMap (fun p=>if tk p.1.2 then some ((v.1.1,p.1.1),p.2) else none)
def n3 (E:List aV):PL:=bU (eu ((aZ E).flatMap (iO st tk em n E)) [])
def PT (E:List aV) (f t:ByteArray) (τ:Int):Prop:=(em=true∧f=t∧ ∃e∈E,(e.aG=f∨e.to=f)∧τ<=e.time)∨ ∃s,tk s=true∧rV st E τ f t s
structure AA (E:List aV) (L:PL):Prop where
 jT:gF L
 fp: ∀p∈L,PT st tk em E p.1.1 p.1.2 p.2
 all: ∀f t τ,PT st tk em E f t τ-> ∃ σ,((f,t),σ)∈L∧τ<=σ
end
section
variable {st:Nat->ByteArray->Option Nat} {tk:Nat->Bool} {em:Bool} {n:Nat}
theorem j8 {E:List aV} (hst: ∀s l t,st s l=some t->t<n): ∀e∈E, ∀s t,st s e.label=some t->(e.to,t)∈ib n E:=fun e he s t h=>by
 simp only [ib,UU,List.mem_map,List.mem_range];exact ⟨e,he,t,hst s _ t h,rfl⟩
theorem sF (E:List aV):(ib n E).length=E.length * n:=by
 induction E with
 | nil=>simp [ib]
 | cons e E ih=>
  simp only [ib,List.flatMap_cons,List.length_append,List.length_map,List.length_range,Tc] at ih ⊢;rw [ih,Nat.add_mul];omega
theorem AP {E:List aV} (hst: ∀s l t,st s l=some t->t<n) (hb: ∀e∈E,e.time<=y0) (root:ByteArray):DL st E root (ib n E) (MU st n E root) (ES st E root) []∧sr st E root (ES st E root):=by
 have h0:DC st E root ⟨[],[],[]⟩ []:=⟨fun i _ h=>(by simp at h),Uc,fun n τ h=>(by cases h),fun x h=>(by cases h),fun n τ h=>(by cases h),fun p h=>(by cases h),fun p h=>(by cases h)⟩
 obtain ⟨k1,k2,k3,k4,k5,m,k6,k7⟩:=qz (st:=st) (E:=E) (root:=root) (a:=(root,0)) (time:=y0) (done:=[]) (fun p h=>(by cases h)) (gw E root) _ h0 (fun e he t ht=>by
  obtain ⟨e1,e2⟩:=fP.1 he
  exact .one e t e1 (by omega) e2 ht)
 have hl:=pI E root
 refine ⟨⟨k1,fun p h=>(by cases h),Uc,fun x hx=> ?_,fun n h=>(by cases h), ?_, ?_⟩,fun e he hf t ht=> ?_⟩
 ·have k6:(ES st E root).nodes=[]++m:=k6;rw [k6,UQ] at hx;obtain ⟨e,he,s,rfl,hs⟩:=k7 x hx;exact j8 hst e (fP.1 he).1 0 s hs
 ·simp only [S6,Nat.sub_zero];exact Nat.le_refl _
 ·have k4:(ES st E root).nodes.length<=0+(gw E root).length:=k4;simp only [S6,Nat.zero_add,Nat.one_mul];omega
 ·obtain ⟨τ,q1,q2⟩:=k3 e (fP.2 ⟨he,hf⟩) t ht
  have:=hb e he
  exact ⟨τ,q1,by omega⟩
theorem uy {E:List aV} (hst: ∀s l t,st s l=some t->t<n) (hb: ∀e∈E,e.time<=y0) (root:ByteArray):Ky st E root (rN st n E root):=by
 obtain ⟨h1,h2⟩:=AP hst hb root
 have:=nK (j8 hst) _ _ [] h1 h2
 simpa [rN] using this
theorem Gk {E:List aV} {τ:Int} {root v:ByteArray} {s:Nat} (h:rV st E τ root v s): ∃e∈E,e.aG=root:=by
 induction h with
 | one e s h1 h2 h3 h4=>exact ⟨e,h1,h3⟩
 | more e s t _ _ _ _ ih=>exact ih
theorem kY {E:List aV} {v:K2×Int} {k:K2} {τ:Int}:(k,τ)∈iO st tk em n E v↔(em=true∧k=(v.1.1,v.1.1)∧τ=v.2)∨ ∃p∈rN st n E v.1.1,tk p.1.2=true∧k=(v.1.1,p.1.1)∧τ=p.2:=by
 rw [iO,List.mem_append,List.mem_filterMap]
 refine or_congr ?_ (exists_congr fun p=>and_congr Iff.rfl ?_)
 ·cases em<;>simp
 ·cases h:tk p.1.2
  ·simp
  ·simp [eq_comm]
theorem zR {E:List aV} (hst: ∀s l t,st s l=some t->t<n) (hb: ∀e∈E,e.time<=y0):AA st tk em E (n3 st tk em n E):=by
 have hp:=gM ((aZ E).flatMap (iO st tk em n E)) [] Uc
 have hmem: ∀k τ,(k,τ)∈n3 st tk em n E↔bB (eu ((aZ E).flatMap (iO st tk em n E)) []) k=some τ:=fun k τ=>by
  rw [n3,(cF _).mem_iff,mv hp.1]
 have hin: ∀v∈aZ E, ∀k τ,(k,τ)∈iO st tk em n E v-> ∃ σ,(k,σ)∈n3 st tk em n E∧τ<=σ:=fun v hv k τ hk=>by
  obtain ⟨σ,h1,h2⟩:=hp.2.2.1 (k,τ) (UU.2 ⟨v,hv,hk⟩);exact ⟨σ,(hmem k σ).2 h1,h2⟩
 refine ⟨mh hp.1,fun p hpm=> ?_,fun f t τ h=> ?_⟩
 ·obtain ⟨k,τ⟩:=p
  rcases hp.2.1 k τ ((hmem k τ).1 hpm) with q|q
  ·cases q
  ·obtain ⟨⟨kv,τv⟩,hv,q⟩:=UU.1 q
   rcases kY.1 q with ⟨h1,h2,h3⟩|⟨p,h1,h2,h3,h4⟩
   ·obtain ⟨e,he,h5,h6⟩:=GY hv;left;refine ⟨h1,by rw [h2],e,he, ?_,by rw [h3];simp only [h6];exact U5 _⟩;rw [h2]
    rcases h5 with h5|h5
    ·left;rw [h5]
    ·right;rw [h5]
   ·right
    have:=(uy hst hb kv.1).fp p h1
    exact ⟨p.1.2,h2,by rw [h3,h4];exact this⟩
 ·rcases h with ⟨h1,rfl,e,he,h2,h3⟩|⟨s,hs,hR⟩
  ·obtain ⟨⟨a,a1,a2⟩,b,b1,b2⟩:=yk he
   rcases h2 with rfl|rfl
   ·obtain ⟨σ,q1,q2⟩:=hin _ a1 (e.aG,e.aG) a (kY.2 (.inl ⟨h1,rfl,rfl⟩));exact ⟨σ,q1,by omega⟩
   ·obtain ⟨σ,q1,q2⟩:=hin _ b1 (e.to,e.to) b (kY.2 (.inl ⟨h1,rfl,rfl⟩));exact ⟨σ,q1,by omega⟩
  ·obtain ⟨e,he,rfl⟩:=Gk hR;obtain ⟨⟨a,a1,a2⟩,_⟩:=yk he;obtain ⟨σ,q1,q2⟩:=(uy hst hb e.aG).all τ t s hR;obtain ⟨ρ,q3,q4⟩:=hin _ a1 (e.aG,t) σ (kY.2 (.inr ⟨_,q1,hs,rfl,rfl⟩));exact ⟨ρ,q3,by omega⟩
theorem Jt {E E':List aV} (h: ∀e∈E,e∈E') {τ:Int} {root v:ByteArray} {s:Nat} (k:rV st E τ root v s):rV st E' τ root v s:=by
 induction k with
 | one e s h1 h2 h3 h4=>exact .one e s (h e h1) h2 h3 h4
 | more e s t _ h1 h2 h3 ih=>exact .more e s t ih (h e h1) h2 h3
theorem Dt {E:List aV} {τ cut:Int} {root v:ByteArray} {s:Nat} (hc:cut<τ) (k:rV st E τ root v s):rV st (E.filter (fun e=>decide (cut<e.time))) τ root v s:=by
 induction k with
 | one e s h1 h2 h3 h4=>exact .one e s (Vb.2 ⟨h1,by simp;omega⟩) h2 h3 h4
 | more e s t _ h1 h2 h3 ih=>exact .more e s t ih (Vb.2 ⟨h1,by simp;omega⟩) h2 h3
theorem Ds {E:List aV} {τ cut:Int} {root v:ByteArray} {s:Nat} (k:rV st (E.filter (fun e=>decide (cut<e.time))) τ root v s):rV st (E.filter (fun e=>decide (cut<e.time))) (max τ (cut+1)) root v s:=by
 have hy: ∀e∈E.filter (fun e=>decide (cut<e.time)),cut<e.time:=fun e he=>by simpa using (Vb.1 he).2
 induction k with
 | one e s h1 h2 h3 h4=>exact .one e s h1 (by have:=hy e h1;omega) h3 h4
 | more e s t _ h1 h2 h3 ih=>exact .more e s t ih h1 (by have:=hy e h1;omega) h3
theorem Gb {E E':List aV} (h: ∀e∈E,e∈E') {τ:Int} {f t:ByteArray} (k:PT st tk em E f t τ):PT st tk em E' f t τ:=by
 rcases k with ⟨h1,h2,e,he,h3⟩|⟨s,h1,h2⟩
 ·exact .inl ⟨h1,h2,e,h e he,h3⟩
 ·exact .inr ⟨s,h1,Jt h h2⟩
theorem xD {E:List aV} {τ cut:Int} {f t:ByteArray} (hc:cut<τ) (k:PT st tk em E f t τ):PT st tk em (E.filter (fun e=>decide (cut<e.time))) f t τ:=by
 rcases k with ⟨h1,h2,e,he,h3,h4⟩|⟨s,h1,h2⟩
 ·exact .inl ⟨h1,h2,e,Vb.2 ⟨he,by simp;omega⟩,h3,h4⟩
 ·exact .inr ⟨s,h1,Dt hc h2⟩
theorem Ga {E:List aV} {τ cut:Int} {f t:ByteArray} (k:PT st tk em (E.filter (fun e=>decide (cut<e.time))) f t τ):PT st tk em (E.filter (fun e=>decide (cut<e.time))) f t (max τ (cut+1)):=by
 rcases k with ⟨h1,h2,e,he,h3,h4⟩|⟨s,h1,h2⟩
 ·have hy:cut<e.time:=by simpa using (Vb.1 he).2
  exact .inl ⟨h1,h2,e,he,h3,by omega⟩
 ·exact .inr ⟨s,h1,Ds h2⟩
theorem GH {E:List aV} {cut:Int} {L M:PL} (hL:AA st tk em E L) (hM:AA st tk em (E.filter (fun e=>decide (cut<e.time))) M):M=L.filter (fun p=>decide (cut<p.2)):=by
 refine mc hM.jT (hL.jT.filter _) fun p=> ?_;obtain ⟨⟨f,t⟩,σ⟩:=p;rw [Vb,decide_eq_true_eq]
 constructor
 ·intro h;have h1:=hM.fp _ h;obtain ⟨σ',h2,h3⟩:=hM.all _ _ _ (Ga h1);have h4:=oh hM.jT h h2;obtain ⟨ρ,h5,h6⟩:=hL.all f t σ (Gb (fun e he=>(Vb.1 he).1) h1);have h7:=hL.fp _ h5;obtain ⟨ρ',h8,h9⟩:=hM.all f t ρ (xD (by simp only at h3 h6;omega) h7);have h10:=oh hM.jT h h8
  have:ρ=σ:=by simp only at h3 h6;omega
  rw [this] at h5;exact ⟨h5,by simp only at h3;omega⟩
 ·rintro ⟨h,hc⟩;have h1:=hL.fp _ h;obtain ⟨σ',h2,h3⟩:=hM.all f t σ (xD hc h1);have h4:=hM.fp _ h2;obtain ⟨ρ,h5,h6⟩:=hL.all f t σ' (Gb (fun e he=>(Vb.1 he).1) h4);have h7:=oh hL.jT h h5
  have:σ'=σ:=by omega
  rw [this] at h2;exact h2
end
def C7 (a b:ByteArray):Bool:=Op.bytesLess a.toList b.toList
theorem ik {a b:ByteArray}:C7 a b=true↔a.data.toList<b.data.toList:=by
 rw [C7,bytesLess_eq,decide_eq_true_eq,ByteArray.toList_eq,ByteArray.toList_eq]
def zU:ByteArray->List tZ->Bool
 | _,[]=>true
 | last,p :: l=>if C7 p.key last||p.key.toList==last.toList then false else cJ p.key&&bD p.val&&zU p.key l
def xC (l:List tZ):Bool:=zU ⟨#[]⟩ l&&decide (l.length<=8)
def mG (e:aV):Int:=if gp e.aG&&gp e.to&&cJ e.label&&xC e.props then (if 0<=e.time∧e.time<=y0 then 0 else 6) else 2
def dh:List aV->Int
 | []=>0
 | e :: l=>if mG e≠0 then mG e else dh l
theorem EZ {E:List aV} {k:Nat} (h:k<E.length):dh (E.drop k)=if mG E[k]≠0 then mG E[k] else dh (E.drop (k+1)):=by
 rw [List.drop_eq_getElem_cons h,dh]
theorem kR: ∀ {E:List aV},dh E=0-> ∀e∈E,mG e=0
 | [],_,e,he=>by cases he
 | a :: l,h,e,he=>by
  rw [dh] at h
  split at h
  ·rename_i hn;exact absurd h hn
  ·rename_i hn
   rcases Uv.1 he with rfl|he
   ·exact Classical.not_not.1 hn
   ·exact kR h e he
theorem qq: ∀ {E:List aV},(∀e∈E,mG e=0)->dh E=0
 | [],_=>rfl
 | a :: l,h=>by
  rw [dh,if_neg (by rw [h a Ua];exact fun h=>h rfl)];exact qq fun e he=>h e (T8 _ he)
theorem sK {e:aV} (h:mG e=0):0<=e.time∧e.time<=y0:=by
 unfold mG at h
 split at h
 ·split at h
  ·assumption
  ·cases h
 ·cases h
def pj (a b:Int):Int:=if a<b then -1 else if b<a then 1 else 0
def iB (a b:ByteArray):Int:=if C7 a b then -1 else if C7 b a then 1 else 0
def zO (a b:Int):Int:=if a≠0 then a else b
def M7 (a b:de):Int:=zO (pj a.1 b.1) (pj a.2 b.2)
theorem zD (a b:de):decide (M7 a b<0)=dx a b:=by
 rw [Vc,decide_eq_true_eq,gJ,M7,zO];unfold pj
 split<;>split<;>(try split)<;>(try split)<;>(try split)<;>omega
theorem KZ (a b:de):decide (0<=M7 a b) = !dx a b:=by
 rw [<-zD,Vc];simp
theorem IY (a b:ByteArray):(!(C7 a b||a.toList==b.toList))=C7 b a:=by
 rw [Vc];simp only [Bool.not_eq_true',Bool.or_eq_false_iff,beq_eq_false_iff_ne,ne_eq]
 constructor
 ·rintro ⟨h1,h2⟩
  rcases kQ a b with h|h|h
  ·rw [ik.2 h] at h1;cases h1
  ·exact absurd (by rw [h]) h2
  ·exact ik.2 h
 ·intro h;have h':=ik.1 h
  refine ⟨?_,fun e=> ?_⟩
  ·rw [<-Bool.not_eq_true,ik];exact fun k=>U8 _ (U9 h' k)
  ·have:a=b:=by
    rw [ByteArray.toList_eq,ByteArray.toList_eq] at e;exact sE e
   rw [this] at h';exact U8 _ h'
theorem FQ (a:Int):af Tryz.prog 202 [.v (.int .i64 a)] (.v (.bool false)):=by
 (refine af.enter Tryz.func202 rfl (by kernel_rfl) (by kernel_rfl) rfl (by first|rfl|(simp only [go_sem,UM,Um,Us])) (by first|rfl|(simp only [go_sem,UM,Um,Us])) ?_;simp only [Tryz.ntmps202,Tryz.results202,Tc,S6,Nat.reduceAdd,Nat.reduceSub,UN,UO,UP,UQ])
 repeat (first|(with_reducible first|refine ag.up ?_|refine fun (K:AK) hK=> ?_|(refine hK _ ?_;clear hK K))|simp only [go_sem,bne_self_eq_false]|clear hK K)
theorem EL (a b:Int):af Tryz.prog 162 [.v (.int .i64 a), .v (.int .i64 b)] (.v (.int .i64 (pj a b))):=by
 have N1:=FQ a;have N2:=FQ b
 by_cases h1:a<b
 ·have e1:decide (a<b)=true:=decide_eq_true h1
  have e2:pj a b = -1:=by rw [pj,if_pos h1]
  rw [e2]
  (refine af.enter Tryz.func162 rfl (by kernel_rfl) (by kernel_rfl) rfl (by first|rfl|(simp only [go_sem,UM,Um,Us])) (by first|rfl|(simp only [go_sem,UM,Um,Us])) ?_;simp only [Tryz.ntmps162,Tryz.results162,Tc,S6,Nat.reduceAdd,Nat.reduceSub,UN,UO,UP,UQ])
  repeat (first|(with_reducible first|refine ag.up ?_|refine fun (K:AK) hK=> ?_|(refine hK _ ?_;clear hK K))|simp only [go_sem]|clear hK K)
  refine ab.one N1 ?_
  repeat (first|(with_reducible first|refine ag.up ?_|refine fun (K:AK) hK=> ?_|(refine hK _ ?_;clear hK K))|simp only [go_sem]|clear hK K)
  refine ab.one N2 ?_
  repeat (first|(with_reducible first|refine ag.up ?_|refine fun (K:AK) hK=> ?_|(refine hK _ ?_;clear hK K))|simp only [go_sem,e1]|clear hK K)
 ·have e1:decide (a<b)=false:=decide_eq_false h1
  by_cases h2:b<a
  ·have e3:decide (b<a)=true:=decide_eq_true h2
   have e2:pj a b=1:=by rw [pj,if_neg h1,if_pos h2]
   rw [e2]
   (refine af.enter Tryz.func162 rfl (by kernel_rfl) (by kernel_rfl) rfl (by first|rfl|(simp only [go_sem,UM,Um,Us])) (by first|rfl|(simp only [go_sem,UM,Um,Us])) ?_;simp only [Tryz.ntmps162,Tryz.results162,Tc,S6,Nat.reduceAdd,Nat.reduceSub,UN,UO,UP,UQ])
   repeat (first|(with_reducible first|refine ag.up ?_|refine fun (K:AK) hK=> ?_|(refine hK _ ?_;clear hK K))|simp only [go_sem]|clear hK K)
   refine ab.one N1 ?_
   repeat (first|(with_reducible first|refine ag.up ?_|refine fun (K:AK) hK=> ?_|(refine hK _ ?_;clear hK K))|simp only [go_sem]|clear hK K)
   refine ab.one N2 ?_
   repeat (first|(with_reducible first|refine ag.up ?_|refine fun (K:AK) hK=> ?_|(refine hK _ ?_;clear hK K))|simp only [go_sem,e1,e3]|clear hK K)
  ·have e3:decide (b<a)=false:=decide_eq_false h2
   have e2:pj a b=0:=by rw [pj,if_neg h1,if_neg h2]
   rw [e2]
   (refine af.enter Tryz.func162 rfl (by kernel_rfl) (by kernel_rfl) rfl (by first|rfl|(simp only [go_sem,UM,Um,Us])) (by first|rfl|(simp only [go_sem,UM,Um,Us])) ?_;simp only [Tryz.ntmps162,Tryz.results162,Tc,S6,Nat.reduceAdd,Nat.reduceSub,UN,UO,UP,UQ])
   repeat (first|(with_reducible first|refine ag.up ?_|refine fun (K:AK) hK=> ?_|(refine hK _ ?_;clear hK K))|simp only [go_sem]|clear hK K)
   refine ab.one N1 ?_
   repeat (first|(with_reducible first|refine ag.up ?_|refine fun (K:AK) hK=> ?_|(refine hK _ ?_;clear hK K))|simp only [go_sem]|clear hK K)
   refine ab.one N2 ?_
   repeat (first|(with_reducible first|refine ag.up ?_|refine fun (K:AK) hK=> ?_|(refine hK _ ?_;clear hK K))|simp only [go_sem,e1,e3]|clear hK K)
theorem Ip (a b:Int):af Tryz.prog 61 [.aI 1 [[.v (.int .i64 a)],[.v (.int .i64 b)]] 2] (.v (.int .i64 (zO a b))):=by
 (refine af.enter Tryz.func61 rfl (by kernel_rfl) (by kernel_rfl) rfl (by first|rfl|(simp only [go_sem,UM,Um,Us])) (by first|rfl|(simp only [go_sem,UM,Um,Us])) ?_;simp only [Tryz.ntmps61,Tryz.results61,Tc,S6,Nat.reduceAdd,Nat.reduceSub,UN,UO,UP,UQ])
 repeat (first|(with_reducible first|refine ag.up ?_|refine fun (K:AK) hK=> ?_|(refine hK _ ?_;clear hK K))|simp only [go_sem]|with_reducible refine wA ?_|clear hK K)
 have d0:decide (((0:Nat):Int)<((2:Nat):Int))=true:=by decide
 have d1:decide (((1:Nat):Int)<((2:Nat):Int))=true:=by decide
 have d2:decide (((2:Nat):Int)<((2:Nat):Int))=false:=by decide
 have w0:=aD (k:=0) (by omega);have w1:=aD (k:=1) (by omega)
 refine cI (ι:=Nat) 9 (fun i=>[(5, .undef),(8, .v (.int .i64 i))]) (fun i=>2 - i) (fun i=>i<=2∧(0<i->a=0)∧(1<i->b=0)) 0 ⟨by omega,by omega,by omega⟩ ?_ ?_
 ·(refine aq ?_ ?_ ?_<;>simp only [aG,UG,UH,UN,UO,bd,bj,AV.v.injEq,Value.int.injEq,Value.bool.injEq,Value.string.injEq,AV.vec.injEq,AV.ptr.injEq,true_or,or_true,false_or,or_false,aa.mk.injEq,forall_eq_apply_imp_iff,forall_eq,forall_eq',go_sem])
  all_goals first|rfl|trace_state
 ·rintro i ⟨hi,ha,hb⟩ K hK
  match i,hi with
  | 0,_=>
   by_cases h:a=0
   ·have e1:(a !=0)=false:=by simp [h]
    repeat (first|(with_reducible first|refine ag.up ?_|refine fun (K:AK) hK=> ?_|(refine hK _ ?_;clear hK K))|simp only [go_sem,e1,d0,w0]|with_reducible refine wA ?_|clear hK K)
    exact aP.mk 1 ⟨by omega,fun _=>h,by omega⟩ (by omega) (by (refine aq ?_ ?_ ?_<;>simp only [aG,UG,UH,UN,UO,bd,bj,AV.v.injEq,Value.int.injEq,Value.bool.injEq,Value.string.injEq,AV.vec.injEq,AV.ptr.injEq,true_or,or_true,false_or,or_false,aa.mk.injEq,forall_eq_apply_imp_iff,forall_eq,forall_eq',go_sem]))
   ·have e1:(a !=0)=true:=by simpa using h
    have e2:zO a b=a:=by rw [zO,if_pos h]
    repeat (first|(with_reducible first|refine ag.up ?_|refine fun (K:AK) hK=> ?_|(refine hK _ ?_;clear hK K))|simp only [go_sem,e1,d0]|with_reducible refine wA ?_|clear hK K)
    rw [e2]
  | 1,_=>
   have e3:=ha (by omega)
   by_cases h:b=0
   ·have e1:(b !=0)=false:=by simp [h]
    repeat (first|(with_reducible first|refine ag.up ?_|refine fun (K:AK) hK=> ?_|(refine hK _ ?_;clear hK K))|simp only [go_sem,e1,d1,w1]|with_reducible refine wA ?_|clear hK K)
    exact aP.mk 2 ⟨by omega,fun _=>e3,fun _=>h⟩ (by omega) (by (refine aq ?_ ?_ ?_<;>simp only [aG,UG,UH,UN,UO,bd,bj,AV.v.injEq,Value.int.injEq,Value.bool.injEq,Value.string.injEq,AV.vec.injEq,AV.ptr.injEq,true_or,or_true,false_or,or_false,aa.mk.injEq,forall_eq_apply_imp_iff,forall_eq,forall_eq',go_sem]))
   ·have e1:(b !=0)=true:=by simpa using h
    have e2:zO a b=b:=by rw [zO,if_neg (by simp [e3])]
    repeat (first|(with_reducible first|refine ag.up ?_|refine fun (K:AK) hK=> ?_|(refine hK _ ?_;clear hK K))|simp only [go_sem,e1,d1]|with_reducible refine wA ?_|clear hK K)
    rw [e2]
  | 2,_=>
   have e3:=ha (by omega);have e4:=hb (by omega)
   have e2:zO a b=0:=by rw [zO,if_neg (by simp [e3]),e4]
   repeat (first|(with_reducible first|refine ag.up ?_|refine fun (K:AK) hK=> ?_|(refine hK _ ?_;clear hK K))|simp only [go_sem,d2]|with_reducible refine wA ?_|clear hK K)
   rw [e2]
  | i+3,h=>omega
def aC (x:de):List AV:=[.v (.int .i64 x.1), .v (.int .i64 x.2)]
theorem u0 (a b:de):af Tryz.prog 131 [.agg (aC a), .agg (aC b)] (.v (.int .i64 (M7 a b))):=by
 have C1:=EL a.1 b.1;have C2:=EL a.2 b.2;have C3:=Ip (pj a.1 b.1) (pj a.2 b.2);rw [M7];simp only [aC]
 (refine af.enter Tryz.func131 rfl (by kernel_rfl) (by kernel_rfl) rfl (by first|rfl|(simp only [go_sem,UM,Um,Us])) (by first|rfl|(simp only [go_sem,UM,Um,Us])) ?_;simp only [Tryz.ntmps131,Tryz.results131,Tc,S6,Nat.reduceAdd,Nat.reduceSub,UN,UO,UP,UQ])
 repeat (first|(with_reducible first|refine ag.up ?_|refine fun (K:AK) hK=> ?_|refine wD ?_|(refine hK _ ?_;clear hK K))|simp only [go_sem]|clear hK K)
 refine bt.one C1 ?_
 repeat (first|(with_reducible first|refine ag.up ?_|refine fun (K:AK) hK=> ?_|refine wD ?_|(refine hK _ ?_;clear hK K))|simp only [go_sem]|clear hK K)
 refine bt.one C2 ?_
 repeat (first|(with_reducible first|refine ag.up ?_|refine fun (K:AK) hK=> ?_|refine wD ?_|(refine hK _ ?_;clear hK K))|simp only [go_sem]|clear hK K)
 refine bt.one C3 ?_
 repeat (first|(with_reducible first|refine ag.up ?_|refine fun (K:AK) hK=> ?_|refine wD ?_|(refine hK _ ?_;clear hK K))|simp only [go_sem]|clear hK K)
 trace_state
def aN (k:K2):List AV:=[.v (.string k.1), .v (.string k.2)]
def eC (a b:K2):Int:=zO (iB a.1 b.1) (iB a.2 b.2)
end
section
section
variable {P:Program} {ops:Array Oper}
def fx:List Oper->List Oper
 | []=>[]
 | o :: l=>o :: l.map (fun p=>{ p with after:=p.after.push ⟨0, .data⟩ })
theorem qn (l:List Oper):(fx l).length=l.length:=by cases l<;>simp [fx]
theorem mH (l:List Oper) (i:Nat):(fx l)[i]? = (l[i]?).map (fun p=>if i=0 then p else { p with after:=p.after.push ⟨0, .data⟩ }):=by
 cases l with
 | nil=>simp [fx]
 | cons o l=>
  cases i with
  | zero=>simp [fx]
  | succ i=>simp [fx]
theorem zg (l:List Oper) (t:Array Value):yielded (fx l).toArray t=yielded l.toArray t:=by
 funext j
 simp only [yielded,Tp,mH]
 cases l[j]? with
 | none=>rfl
 | some o=>by_cases h:j=0<;>simp only [TG,Option.bind_some,h,if_true,if_false]
theorem Iy {F:Fence} {n:Nat} {Q:Exit->Act->World->Prop} {l:List Oper} {i:Nat} {K:Act->World->Prop} {a:Act} {w:World} (h:wpOpIn F n P (fx l).toArray Q i K a w):wpOpIn F n P l.toArray Q i K a w:=by
 unfold wpOpIn at h ⊢;simp only [Tp,mH,zg] at h ⊢
 cases ho:l[i]? with
 | none=>simpa [ho] using h
 | some o=>
  simp only [ho,TG] at h ⊢
  split at h<;>exact h
theorem AQ {F:Fence} {n:Nat} {Q:Exit->Act->World->Prop} {l:List Oper} {ops:Array Oper} {E:Act->World->Prop}: ∀(fuel:Nat) (listed:Array Bool) (a:Act) (w:World),lr (wpOpIn F n P (fx l).toArray Q) ops E fuel listed a w->lr (wpOpIn F n P l.toArray Q) ops E fuel listed a w
 | 0,_,_,_,h=>h
 | fuel+1,_,_,_,h=>⟨h.1,fun i hi=>Iy (wpOpIn_mono (fun _ _=>AQ fuel _ _ _) (h.2 i hi))⟩
theorem qp {l:List Oper} {listed:Array Bool} (h0:listed.getD 0 false=true):Region.ready .any (fx l).toArray listed=Region.ready .any l.toArray listed:=by
 unfold Region.ready;simp only [Ty,qn,Tp,mH];refine List.filter_congr fun i _=> ?_
 congr 1
 cases l[i]? with
 | none=>rfl
 | some o=>
  simp only [TG,Option.getD_some]
  split
  ·rfl
  ·simp;intro _;right;simpa using h0
theorem wJ {st:Nat->(Act->World->Prop)->Act->World->Prop} (hst: ∀(i:Nat) (K K':Act->World->Prop) (a:Act) (w:World),(∀a w,K a w->K' a w)->st i K a w->st i K' a w) {l:List Oper} {E:Act->World->Prop}: ∀(fuel:Nat) (listed:Array Bool) (a:Act) (w:World),listed.getD 0 false=true->lr st (fx l).toArray E fuel listed a w->lr st l.toArray E fuel listed a w
 | 0,listed,a,w,h0,h=>by
  rw [lr,qp h0] at h;exact h
 | fuel+1,listed,a,w,h0,h=>by
  rw [lr,qp h0] at h;refine ⟨h.1,fun i hi=>hst _ _ _ _ _ (fun a w=>wJ hst fuel _ a w ?_) (h.2 i hi)⟩
  by_cases hi0:i=0
  ·subst hi0
   have:0<listed.size:=by
    rcases Nat.eq_zero_or_pos listed.size with q|q
    ·simp [q] at h0
    ·exact q
   simp [this]
  ·rw [getD_set_ne false hi0];exact h0
theorem Ct {r:Option Nat} {n i:Nat} {o:Oper} {Q:Exit->Act->World->Prop} (hC:c9 ops=true) (hns:Region.noSelect ops=true) (hP: ∀c a w, ¬Q (.panic c) a w) (ho:ops[i]? = some o) {d t:Tmp} {v:Value} {a:Act} {w:World} {K:Act->World->Prop} (hd:d∉o.looksAt ops) (hod:o.dst≠some d) (hot:o.dst≠some t) (h:wpOpIn (WF r) n P ops Q i K (a.put (some d) v) w) :
  wpOpIn (WF r) n P ops Q i (fun a' w'=>K (a'.put (some d) v) w'∧a'.eval (.tmp t)=a.eval (.tmp t)) a w:=by
 have hsel:=fun cs b=>Region.noSelect_spec hns i o cs b ho;have hput: ∀(a:Act) (u:Value),(a.put (some d) v).put o.dst u=(a.put o.dst u).put (some d) v:=fun a u=>Act.put_comm a v u (fun e he q=>hod (by rw [q,he]))
 have hev: ∀(a:Act) (u:Value),(a.put o.dst u).eval (.tmp t)=a.eval (.tmp t):=fun a u=>Act.eval_put fun e he hx=>hot (by
  rw [he];injection hx with hx;rw [hx])
 unfold wpOpIn at h ⊢;simp only [ho] at h ⊢;rw [wanted_put o a (some d) v (fun e he=>by injection he with he;exact he ▸ hd)] at h
 split at h
 ·rename_i hw;rw [if_pos hw];refine ⟨fun f _=>trivial, ?_⟩;have h:=h.2;rw [j7 hC ho,execOp_put o hsel a (some d) v (fun e he=>by injection he with he;exact he ▸ hd)] at h;rw [j7 hC ho];generalize (execOp a.eval o).run P w=res at h ⊢
  cases res with
  | ok x w'=>
   cases x<;>simp only [Oper.uponIn] at h ⊢
   case value=>exact ⟨hput _ _ ▸ h,hev _ _⟩
   case skip=>exact ⟨hput _ _ ▸ h,hev _ _⟩
   case enter=>
    refine ⟨h.1,CallsIn.mono h.2 fun e w'' he=> ?_⟩;cases e
    case returned=>exact ⟨hput _ _ ▸ he,hev _ _⟩
    case panicked=>exact absurd he (hP _ _ _)
    case outgrown=>exact he
   case defer q=>exact ⟨hput { a with defers:=q :: a.defers } undef ▸ h,hev { a with defers:=q :: a.defers } undef⟩
   case row=>exact ⟨h.1,RowsIn.mono h.2 fun _ _ he=>⟨hput _ _ ▸ he,hev _ _⟩⟩
   case round=>
    refine ⟨h.1,RoundIn.mono h.2 fun e w'' he=> ?_⟩;cases e
    case returned=>exact ⟨hput _ _ ▸ he,hev _ _⟩
    case panicked=>exact absurd he (hP _ _ _)
    case outgrown=>exact he
  | halt x w'=>
   cases x<;>simp only [Oper.uponIn] at h ⊢
   all_goals first|exact h|exact absurd h (hP _ _ _)
 ·rename_i hw;rw [if_neg hw];exact ⟨fun f _=>trivial,hput _ _ ▸ h.2,hev _ _⟩
def s7 (ops:Array Oper) (d t:Tmp):Bool:=
 Region.noSelect ops&&c9 ops&&(d !=t)&&(match ops[0]? with|some o=>(o.dst==some d)&&(match o.op with| .move (.tmp u)=>u==t|_=>false)&&o.guard.isNone&&(o.after.size==0)|none=>false) &&
 (List.range ops.size).all (fun j=>j==0||match ops[j]? with|some o=>(o.dst !=some d)&&(o.dst !=some t)&&(az ops j 0 || !(o.looksAt ops).contains d)|none=>true)
theorem xj {r:Option Nat} {n:Nat} {Q:Exit->Act->World->Prop} {d t:Tmp} (hL:s7 ops d t=true):0<ops.size∧(∀(l:List Oper) (listed:Array Bool),l.toArray=ops->listed.getD 0 true=false->0∈Region.ready .any (fx l).toArray listed)∧(∀(listed:Array Bool),listed.getD 0 true=false->0∈Region.ready .any ops listed)∧ ∀(K:Act->World->Prop) a w,wpOpIn (WF r) n P ops Q 0 K a w↔K (a.put (some d) (a.eval (.tmp t))) w:=by
 simp only [s7,TY,List.all_eq_true,List.mem_range,bne_iff_ne] at hL;obtain ⟨⟨⟨⟨hns,hC⟩,hdt⟩,h0⟩,hall⟩:=hL
 obtain ⟨o0,ho0,hdst,hop,hg,haf⟩: ∃o0:Oper,ops[0]? = some o0∧o0.dst=some d∧o0.op = .move (.tmp t)∧o0.guard=none∧o0.after = #[]:=by
  cases ho:ops[0]? with
  | none=>simp [ho] at h0
  | some o=>
   simp only [ho,TY,beq_iff_eq] at h0;refine ⟨o,rfl,h0.1.1.1, ?_,by simpa using h0.1.2,by simpa using h0.2⟩
   have:=h0.1.1.2
   split at this
   ·rename_i u hu;rw [hu];simp at this;rw [this]
   ·cases this
 have h0s:0<ops.size:=by
  rcases Nat.eq_zero_or_pos ops.size with q|q
  ·rw [Array.getElem?_eq_none (by omega)] at ho0;cases ho0
  ·exact q
 refine ⟨h0s,fun l listed hl' hl=>mem_ready.2 ⟨hl,o0,by subst hl';simp only [Tp] at ho0;simp [mH,ho0],fun e he _=>by rw [haf] at he;simp at he⟩,fun listed hl=>mem_ready.2 ⟨hl,o0,ho0,fun e he _=>by rw [haf] at he;simp at he⟩, ?_⟩
 ·intro K a w;unfold wpOpIn;simp only [ho0];rw [if_pos (by simp [Region.wanted,hg])];unfold Oper.wpIn;rw [j7 hC ho0]
  have:(execOp a.eval o0).run P w = .ok (.value (a.eval (.tmp t))) w:=by unfold execOp;rw [hop];rfl
  rw [this];simp only [Oper.uponIn,hdst];exact ⟨fun h=>h.2,fun h=>⟨fun f _=>trivial,h⟩⟩
theorem zI {r:Option Nat} {n:Nat} {Q:Exit->Act->World->Prop} {E:Act->World->Prop} {d t:Tmp} (hL:s7 ops d t=true) (hP: ∀c a w, ¬Q (.panic c) a w): ∀(fuel:Nat) (listed:Array Bool) (a:Act) (w:World),listed.size=ops.size->listed.getD 0 true=false->lr (wpOpIn (WF r) n P ops Q) ops E fuel (listed.setIfInBounds 0 true) (a.put (some d) (a.eval (.tmp t))) w->lr (wpOpIn (WF r) n P ops Q) ops E (fuel+1) listed a w:=by
 obtain ⟨h0s, -,hread,hrun⟩:=xj (P:=P) (Q:=Q) (r:=r) (n:=n) hL;simp only [s7,TY,List.all_eq_true,List.mem_range,bne_iff_ne] at hL;obtain ⟨⟨⟨⟨hns,hC⟩,hdt⟩,h0⟩,hall⟩:=hL
 have hstep: ∀(listed:Array Bool),listed.size=ops.size->listed.getD 0 true=false-> ∀i∈Region.ready .any ops listed,i≠0->i∈Region.ready .any ops (listed.setIfInBounds 0 true)∧ ∀(K:Act->World->Prop) v a w,wpOpIn (WF r) n P ops Q i K (a.put (some d) v) w->wpOpIn (WF r) n P ops Q i (fun a' w'=>K (a'.put (some d) v) w'∧a'.eval (.tmp t)=a.eval (.tmp t)) a w:=by
  intro listed hs hl i hi hi0;obtain ⟨g1,o,g2,g3⟩:=mem_ready.1 hi;have hil:i<ops.size:=(Array.getElem?_eq_some_iff.1 g2).1
  refine ⟨mem_ready.2 ⟨by rw [getD_set_ne true (Ne.symm hi0)];exact g1,o,g2,fun e he hb=> ?_⟩, ?_⟩
  ·by_cases he0:e.on=0
   ·rw [he0];simp [hs,h0s]
   ·rw [getD_set_ne false (Ne.symm he0)];exact g3 e he hb
  ·have ha:=hall i hil;simp only [g2,Bool.or_eq_true,beq_iff_eq,hi0,false_or,TY,bne_iff_ne] at ha;intro K v a w h;refine Ct hC hns hP g2 ?_ ha.1.1 ha.1.2 h
   rcases ha.2 with hdep|hlook
   ·exfalso;simp only [az,g2,TY,beq_iff_eq,Array.any_eq_true'] at hdep;obtain ⟨e,he,hb,h00⟩:=hdep
    have:=g3 e he hb
    rw [h00] at this;simp only [Array.getD_eq_getD_getElem?] at this hl;rw [Array.getElem?_eq_getElem (by omega)] at this hl;simp at this hl;rw [this] at hl;cases hl
   ·intro hm;rw [List.contains_iff_mem.2 hm] at hlook;cases hlook
 intro fuel
 induction fuel with
 | zero=>
  intro listed a w hs hl h
  refine ⟨fun he=> ?_,fun i hi=> ?_⟩
  ·have:=hread listed hl;rw [he] at this;cases this
  ·by_cases hi0:i=0
   ·subst hi0;exact (hrun _ _ _).2 h
   ·have:=(hstep listed hs hl i hi hi0).1
    rw [h.1] at this;cases this
 | succ fuel ih=>
  intro listed a w hs hl h
  refine ⟨fun he=> ?_,fun i hi=> ?_⟩
  ·have:=hread listed hl;rw [he] at this;cases this
  ·by_cases hi0:i=0
   ·subst hi0;exact (hrun _ _ _).2 h
   ·obtain ⟨q1,q2⟩:=hstep listed hs hl i hi hi0;refine wpOpIn_mono (fun a' w' hk=> ?_) (q2 _ _ _ _ (h.2 i q1));have e:(listed.setIfInBounds 0 true).setIfInBounds i true=(listed.setIfInBounds i true).setIfInBounds 0 true:=Array.setIfInBounds_comm _ _ (Ne.symm hi0)
    refine ih _ a' w' (by simpa using hs) ?_ ?_
    ·rw [getD_set_ne true hi0];exact hl
    ·rw [<-e,hk.2];exact hk.1
theorem kO {n0 id:Nat} {s:AS} {l:List Oper} {Q:aJ->AS->Prop} (m0 d t:Nat) (hL:s7 l.toArray d t=true) (hB:gn (fx l).toArray m0=true) (hC:c9 (fx l).toArray=true) (h:c7 P (fx l) (fun s=>gq P (fx l) ((fx l).drop m0) s (Q .normal)) ((fx l).take m0) s):bK P n0 (.region id l.toArray true) s Q:=by
 refine .inr (fun f m D nu a w hZr hn hm hs hmx R hO hR=> ?_)
 have hCl:c9 l.toArray=true:=by
  simp only [s7,TY] at hL;exact hL.1.1.1.2
 have hm0:m0<=(fx l).length:=by
  simp only [gn,TY,decide_eq_true_eq,Ty] at hB;exact Nat.le_of_lt hB.1.1.2
 have hcalm: ∀oo,oo∈(fx l).drop m0-> ∀c,oo.op ≠ .defer c:=fun oo ho c e=>by
  unfold c9 at hC;rw [Array.all_eq_true_iff_forall_mem] at hC;have h2:=hC oo (by simpa using List.mem_of_mem_drop ho);rw [e] at h2;cases h2
 obtain ⟨R',hR'⟩: ∃R':Exit->Act->World->Prop,R'=fun e a w=>(match e with| .panic _=>False|_=>True)∧R e a w:=⟨_,rfl⟩
 have hP: ∀c a w, ¬R' (.panic c) a w:=fun c a w q=>by rw [hR'] at q;exact q.1
 have hN: ∀a w,R .normal a w->R' .normal a w:=fun a w q=>by rw [hR'];exact ⟨trivial,q⟩
 obtain ⟨rs,hrel⟩:=fL (P:=P) (T:=fun k=>nc (wpOpIn (WF f.r) 9 P (fx l).toArray R') (R' .normal) (List.range' k ((fx l).length - k))) hm0 hB hs.drew (fun sk a' wr hE ho hy hsk hB'=>mM _ _ _ _ (by omega) (iH m hZr _ sk a' wr D nu hcalm (by
  rw [ho,hy];exact m.own hm hs.ro ((ak (cQ w)).trans (ak hE)) (ho ▸ hsk.ro)) hsk hB' (fun D' s' a2 w2 nu' q1 q2 q3=>hN _ _ (hR .normal D' f.Z s' a2 w2 nu' q1 q2 q3)))) ((fx l).take m0) 0 s [] (fun _=>a) (by simp) (Nat.zero_le _) ⟨rfl,rfl,rfl,fun _=>rfl,fun _=>hs.tm.len,fun x t c v h1 h2=> .inl ⟨h1,h2⟩⟩ h
 have hX:=fw _ (fun _=>false) (fun i v w h=>by cases h) m0 (Bv hC R') hB (jC _ _ _ hrel);have hX:=AQ _ _ _ _ hX
 have hlen:0<l.length:=by
  rw [<-qn];simp only [gn,TY,decide_eq_true_eq,Ty] at hB
  have:=hB.1.1.2;omega
 obtain ⟨fuel,hf⟩: ∃fuel,l.length=fuel+1:=⟨l.length - 1,by omega⟩
 have hX2:lr (wpOpIn (WF f.r) 9 P l.toArray R') l.toArray (R' .normal) (fuel+1) (Array.replicate (fuel+1) false) a w.drew:=by
  rw [Ty,qn,hf] at hX;refine zI hL hP fuel _ a _ (by simp [hf]) (by simp) ?_;obtain ⟨-, he, -,hrun⟩:=xj (P:=P) (Q:=R') (r:=f.r) (n:=9) hL;exact wJ (st:=wpOpIn (WF f.r) 9 P l.toArray R') (fun i K K' a w h k=>wpOpIn_mono h k) fuel ((Array.replicate (fuel+1) false).setIfInBounds 0 true) _ _ (by simp) ((hrun _ _ _).1 (hX.2 0 (he l _ rfl (by simp))))
 refine Code.wpIn_mono (Q:=R') (fun e a w q=>by rw [hR'] at q;exact q.2) (wpIn_region_any hmx (um _ _ _ _ ?_));rw [Ty,hf];exact hX2
end
section
variable {K:Type} [DecidableEq K] {enc:K->List AV} {ks:List FK}
def Ay (ks:List FK) (enc:K->List AV):Prop:= ∀a b,fX ks (enc a) (enc b)=some (decide (a=b))
def bq (enc:K->List AV) (l:List (K×Int)):List (List AV):=l.map (fun p=>[.agg (enc p.1), .v (.int .i64 p.2)])
theorem iI (h:Ay ks enc) (k:K): ∀l:List (K×Int),fK ks (enc k) (bq enc l)=some ((bB l k).map fun t=> .v (.int .i64 t))
 | []=>rfl
 | p :: l=>by
  rw [bq,Vd,fK,h k p.1,bB]
  by_cases e:p.1=k
  ·rw [if_pos e,decide_eq_true e.symm];rfl
  ·rw [if_neg e,decide_eq_false (Ne.symm e)];exact iI h k l
theorem ng (h:Ay ks enc) (k:K) (t:Int): ∀l:List (K×Int),gW ks (enc k) (.v (.int .i64 t)) (bq enc l)=some (bq enc (fY l k t))
 | []=>rfl
 | p :: l=>by
  rw [bq,Vd,gW,h k p.1,fY]
  by_cases e:p.1=k
  ·rw [if_pos e,decide_eq_true e.symm];rfl
  ·rw [if_neg e,decide_eq_false (Ne.symm e)];show Option.map _ (gW ks (enc k) _ (bq enc l))=_;rw [ng h k t l];rfl
omit [DecidableEq K] in
theorem fh {n:Nat} (he: ∀k,ba n (enc k)=true): ∀l:List (K×Int),bQ n (bq enc l)=true
 | []=>rfl
 | p :: l=>by
  simp only [bq,Vd,bQ,ba,AV.wf,he p.1,Bool.true_and,Um];exact fh he l
end
theorem tM (a b:ByteArray):(a.toList==b.toList)=decide (a=b):=by
 rw [Vc,beq_iff_eq,decide_eq_true_eq];exact ⟨mA,fun h=>by rw [h]⟩
def bG (k:Nd):List AV:=[.v (.string k.1), .v (.int .i64 k.2)]
theorem Fs:Ay [.s, .s] aN:=fun a b=>by
 obtain ⟨a1,a2⟩:=a;obtain ⟨b1,b2⟩:=b;simp only [aN,fX,kv,tM,Um,Ti];rw [Vc];simp
theorem oV:Ay [.s, .i] bG:=fun a b=>by
 obtain ⟨a1,a2⟩:=a;obtain ⟨b1,b2⟩:=b;simp only [bG,fX,kv,tM,Um,if_true,Ti];rw [Vc];simp;intro _;omega
theorem Lo (l:List (K2×Int)) (k:K2) (t:Int):aR Tryz.prog 29 [.vec 0 0, .agg (aN k), .v (.int .i64 t)] [some ⟨70,0,false,bq aN l⟩] (.v (.bool (gZ l k t))) [some ⟨70,0,false,bq aN (eX l k t)⟩]:=by
 have g1:=iI Fs k l;have g2:=ng Fs k t l;have g3:=Fs k k;rw [decide_eq_true rfl] at g3;have eW: ∀l,bQ 1 (bq aN l)=true:=fh (fun _=>rfl)
 have tt:gS Tryz.prog 74=some [.s, .s]:=by kernel_rfl
 rw [eX];unfold gZ
 cases hg:bB l k with
 | none=>
  rw [hg] at g1;simp only [Option.map_none,if_true] at g1 ⊢;simp only [aN] at g1 g2 g3 ⊢
  (refine aR.enter Tryz.func29 rfl (by kernel_rfl) (by kernel_rfl) rfl ?_;simp only [Tryz.ntmps29,Tryz.results29,Tc,S6,Nat.reduceAdd,Nat.reduceSub,UN,UO,UP,UQ])
  repeat (first|(with_reducible first|refine ag.up ?_|refine fun (K:AK) hK=> ?_|(refine hK _ ?_;clear hK K))|simp only [go_sem,g1,g2,g3,tt]|with_reducible refine wA ?_|clear hK K)
  (refine ⟨?_, ?_, ?_⟩<;>simp only [bd,bj,AV.v.injEq,Value.int.injEq,Value.bool.injEq,Value.string.injEq,AV.vec.injEq,AV.ptr.injEq,true_or,or_true,false_or,or_false,aa.mk.injEq,forall_eq_apply_imp_iff,forall_eq,forall_eq',go_sem])
  all_goals first|rfl|exact eW _|trace_state
 | some jP=>
  rw [hg] at g1;simp only [TG] at g1 ⊢
  by_cases ho:jP<t
  ·have d1:decide (t<=jP)=false:=decide_eq_false (by omega);simp only [decide_eq_true ho,if_true];simp only [aN] at g1 g2 g3 ⊢
   (refine aR.enter Tryz.func29 rfl (by kernel_rfl) (by kernel_rfl) rfl ?_;simp only [Tryz.ntmps29,Tryz.results29,Tc,S6,Nat.reduceAdd,Nat.reduceSub,UN,UO,UP,UQ])
   repeat (first|(with_reducible first|refine ag.up ?_|refine fun (K:AK) hK=> ?_|(refine hK _ ?_;clear hK K))|simp only [go_sem,g1,g2,g3,tt,d1]|with_reducible refine wA ?_|clear hK K)
   (refine ⟨?_, ?_, ?_⟩<;>simp only [bd,bj,AV.v.injEq,Value.int.injEq,Value.bool.injEq,Value.string.injEq,AV.vec.injEq,AV.ptr.injEq,true_or,or_true,false_or,or_false,aa.mk.injEq,forall_eq_apply_imp_iff,forall_eq,forall_eq',go_sem])
   all_goals first|rfl|exact eW _|trace_state
  ·have d1:decide (t<=jP)=true:=decide_eq_true (by omega);simp only [decide_eq_false ho,if_false,Bool.false_eq_true];simp only [aN] at g1 g2 g3 ⊢
   (refine aR.enter Tryz.func29 rfl (by kernel_rfl) (by kernel_rfl) rfl ?_;simp only [Tryz.ntmps29,Tryz.results29,Tc,S6,Nat.reduceAdd,Nat.reduceSub,UN,UO,UP,UQ])
   repeat (first|(with_reducible first|refine ag.up ?_|refine fun (K:AK) hK=> ?_|(refine hK _ ?_;clear hK K))|simp only [go_sem,g1,g2,g3,tt,d1]|with_reducible refine wA ?_|clear hK K)
   (refine ⟨?_, ?_, ?_⟩<;>simp only [bd,bj,AV.v.injEq,Value.int.injEq,Value.bool.injEq,Value.string.injEq,AV.vec.injEq,AV.ptr.injEq,true_or,or_true,false_or,or_false,aa.mk.injEq,forall_eq_apply_imp_iff,forall_eq,forall_eq',go_sem])
   all_goals first|rfl|exact eW _|trace_state
theorem Lp (l:List (Nd×Int)) (k:Nd) (t:Int):aR Tryz.prog 56 [.vec 0 0, .agg (bG k), .v (.int .i64 t)] [some ⟨108,0,false,bq bG l⟩] (.v (.bool (gZ l k t))) [some ⟨108,0,false,bq bG (eX l k t)⟩]:=by
 have g1:=iI oV k l;have g2:=ng oV k t l;have g3:=oV k k;rw [decide_eq_true rfl] at g3;have eW: ∀l,bQ 1 (bq bG l)=true:=fh (fun _=>rfl)
 have tt:gS Tryz.prog 79=some [.s, .i]:=by kernel_rfl
 rw [eX];unfold gZ
 cases hg:bB l k with
 | none=>
  rw [hg] at g1;simp only [Option.map_none,if_true] at g1 ⊢;simp only [bG] at g1 g2 g3 ⊢
  (refine aR.enter Tryz.func56 rfl (by kernel_rfl) (by kernel_rfl) rfl ?_;simp only [Tryz.ntmps56,Tryz.results56,Tc,S6,Nat.reduceAdd,Nat.reduceSub,UN,UO,UP,UQ])
  repeat (first|(with_reducible first|refine ag.up ?_|refine fun (K:AK) hK=> ?_|(refine hK _ ?_;clear hK K))|simp only [go_sem,g1,g2,g3,tt]|with_reducible refine wA ?_|clear hK K)
  (refine ⟨?_, ?_, ?_⟩<;>simp only [bd,bj,AV.v.injEq,Value.int.injEq,Value.bool.injEq,Value.string.injEq,AV.vec.injEq,AV.ptr.injEq,true_or,or_true,false_or,or_false,aa.mk.injEq,forall_eq_apply_imp_iff,forall_eq,forall_eq',go_sem])
  all_goals first|rfl|exact eW _|trace_state
 | some jP=>
  rw [hg] at g1;simp only [TG] at g1 ⊢
  by_cases ho:jP<t
  ·have d1:decide (t<=jP)=false:=decide_eq_false (by omega);simp only [decide_eq_true ho,if_true];simp only [bG] at g1 g2 g3 ⊢
   (refine aR.enter Tryz.func56 rfl (by kernel_rfl) (by kernel_rfl) rfl ?_;simp only [Tryz.ntmps56,Tryz.results56,Tc,S6,Nat.reduceAdd,Nat.reduceSub,UN,UO,UP,UQ])
   repeat (first|(with_reducible first|refine ag.up ?_|refine fun (K:AK) hK=> ?_|(refine hK _ ?_;clear hK K))|simp only [go_sem,g1,g2,g3,tt,d1]|with_reducible refine wA ?_|clear hK K)
   (refine ⟨?_, ?_, ?_⟩<;>simp only [bd,bj,AV.v.injEq,Value.int.injEq,Value.bool.injEq,Value.string.injEq,AV.vec.injEq,AV.ptr.injEq,true_or,or_true,false_or,or_false,aa.mk.injEq,forall_eq_apply_imp_iff,forall_eq,forall_eq',go_sem])
   all_goals first|rfl|exact eW _|trace_state
  ·have d1:decide (t<=jP)=true:=decide_eq_true (by omega);simp only [decide_eq_false ho,if_false,Bool.false_eq_true];simp only [bG] at g1 g2 g3 ⊢
   (refine aR.enter Tryz.func56 rfl (by kernel_rfl) (by kernel_rfl) rfl ?_;simp only [Tryz.ntmps56,Tryz.results56,Tc,S6,Nat.reduceAdd,Nat.reduceSub,UN,UO,UP,UQ])
   repeat (first|(with_reducible first|refine ag.up ?_|refine fun (K:AK) hK=> ?_|(refine hK _ ?_;clear hK K))|simp only [go_sem,g1,g2,g3,tt,d1]|with_reducible refine wA ?_|clear hK K)
   (refine ⟨?_, ?_, ?_⟩<;>simp only [bd,bj,AV.v.injEq,Value.int.injEq,Value.bool.injEq,Value.string.injEq,AV.vec.injEq,AV.ptr.injEq,true_or,or_true,false_or,or_false,aa.mk.injEq,forall_eq_apply_imp_iff,forall_eq,forall_eq',go_sem])
   all_goals first|rfl|exact eW _|trace_state
end
end Go.Proofs.YtlhhccmopfamhaaGreatDoor
