/- texts of one claim, one behind the other. -/
import Derived.Test.YtlhhccmopfamhaaGreatDoorWAbsG
import Derived.Test.YtlhhccmopfamhaaGreatDoorWAbsS
import Derived.OrdersIn
import Derived.Test.YtlhhccmopfamhaaGreatDoorWBase2
import Derived.ChangeArms
import Derived.Deep.Slices
import Derived.KernelRfl
import Derived.SizedLaws
import Derived.Test.YtlhhccmopfamhaaGreatDoorProg
import Derived.Test.YtlhhccmopfamhaaGreatDoorRows
import Derived.WalkKit
import Derived.ProofKit
import Derived.OpenShut
set_option linter.unusedSimpArgs false
set_option linter.unusedVariables false
set_option maxRecDepth 100000
set_option maxHeartbeats 16000000
open Array renaming getD_eq_getD_getElem? -> T0, getElem?_eq_getElem -> Tm, any_eq_true' -> Uf, all_eq_true_iff_forall_mem -> TZ
open Bool renaming and_eq_true -> TY, or_eq_true -> Uk, and_true -> Um
open List renaming getElem?_cons_zero -> Ud, getElem?_take_of_lt -> TC, getElem?_eq_some_iff -> S7, range'_succ -> Uh, all_eq_true -> Ui, mem_range -> Uj, size_toArray -> Ty, getElem?_toArray -> Tp, getElem?_eq_getElem -> Tn, singleton_append -> T9, length_eq_zero_iff -> Un, getElem?_map -> Tq, mem_of_getElem? -> TI, getElem?_range -> Tr, getElem?_eq_none -> Tt
open Nat renaming lt_or_ge -> S9, sub_self -> Ue, le_refl -> SY, lt_trichotomy -> Ug, zero_le -> Te, le_of_lt -> Ul
open Option renaming bind_eq_some_iff -> Uo
namespace Go.Proofs.YtlhhccmopfamhaaGreatDoor
open Go.RowKit
section
section
variable {P:Program} {ops:Array Oper}
def FZ (ops:Array Oper) (m i j:Nat):Bool:=
 match ops[i]?,ops[j]? with
 | some oi,some oj=>(decide (m<=j)||az ops j i||oi.apart ops oj) && !az ops i j&&(match oi.dst with|some d=>oj.dst !=some d|none=>true)&&(decide (m<=j)||match oj.dst with|some d=> !(oi.looksAt ops).contains d|none=>true)
 | _,_=>true
def gn (ops:Array Oper) (m:Nat):Bool:=
 Region.noSelect ops&&decide (m<ops.size)&&(List.range ops.size).all (fun j=>(List.range j).all (fun i=>FZ ops m i j)&&(!az ops j j&&zj ops j)) &&
 (List.range ops.size).all (fun t=>decide (t<m)||(List.range t).all (fun i=>(List.range (t+1)).any (fun i'=>decide (i<i')&&az ops i' i)))
def lr (st:Nat->(Act->World->Prop)->Act->World->Prop) (ops:Array Oper) (E:Act->World->Prop):Nat->Array Bool->Act->World->Prop
 | 0,listed,a,w=>Region.ready .any ops listed=[]∧E a w
 | fuel+1,listed,a,w=>(Region.ready .any ops listed=[]->E a w)∧ ∀i∈Region.ready .any ops listed,st i (lr st ops E fuel (listed.setIfInBounds i true)) a w
def nc (st:Nat->(Act->World->Prop)->Act->World->Prop) (E:Act->World->Prop):List Nat->Act->World->Prop
 | []=>E
 | i :: r=>st i (nc st E r)
structure Hq (P:Program) (ops:Array Oper) (st:Nat->(Act->World->Prop)->Act->World->Prop):Prop where
 mono: ∀ {i:Nat} {K K':Act->World->Prop} {a:Act} {w:World},(∀a w,K a w->K' a w)->st i K a w->st i K' a w
 of: ∀ {i:Nat} {o:Oper} {S:Spec} {K:Act->World->Prop} {a:Act} {w:World},ops[i]? = some o->jK P ops S o a w->(∀v w2,S.p v w2->Below w.heap.size w w2->K (a.put o.dst v) w2)->st i K a w
theorem BF {Q:Exit->Act->World->Prop}: ∀(fuel:Nat) (listed:Array Bool) (a:Act) (w:World),lr (wpOp P ops Q) ops (Q .normal) fuel listed a w->wpAny P .any ops Q fuel listed a w
 | 0,_,_,_,h=>h
 | fuel+1,_,_,_,h=>⟨h.1,fun i hi=>wpOp_mono (fun _ _=>BF fuel _ _ _) (h.2 i hi)⟩
theorem BH {Q:Exit->Act->World->Prop}: ∀l:List Nat,wpOps P ops Q l=nc (wpOp P ops Q) (Q .normal) l
 | []=>by funext a w;simp [wpOps,nc]
 | i :: l=>by funext a w;rw [wpOps_cons,BH l];rfl
theorem JG (Q:Exit->Act->World->Prop):Hq P ops (wpOp P ops Q):=⟨fun h k=>wpOp_mono h k,fun {i o S K a w} hi h next=>by
 unfold wpOp;simp only [hi]
 rcases h with ⟨h1,h2⟩|⟨h1,h2⟩
 ·rw [if_pos h1];refine .inl ?_;unfold Oper.wp;generalize (execOp a.eval o).run P w=r at h2
  cases r with
  | halt _ _=>exact h2.elim
  | ok n w'=>
   cases n<;>first|exact h2.elim|skip
   case value u=>exact next _ _ h2.1 h2.2
   case skip=>exact next _ _ h2.1 h2.2
   case enter f args=>
    refine Calls.mono h2 fun e w'' he=> ?_;obtain ⟨v,rfl,hv,hb⟩:=he
    exact next _ _ hv hb
 ·rw [if_neg (by rw [h1];decide)]
  exact next _ _ h2 (Below.refl _ _)⟩
def yc (P:Program) (ops:Array Oper) (Q:Exit->Act->World->Prop) (k:Nat):Act->World->Prop:=wpOps P ops Q (List.range' k (ops.size - k))
def lg (P:Program) (ops:Array Oper) (L:List Spec) (w0:World) (T:Nat->Act->World->Prop):List Oper->Nat->((Nat->Value)->Act)->Prop
 | [],k,A=> ∀x w,Below w0.heap.size w0 w->(∀i,i<k->(at' L i).p (x i) w)->T k (A x) w
 | o :: l,k,A=>(∀x w,Below w0.heap.size w0 w->(∀i,az ops k i=true->(at' L i).p (x i) w)->jK P ops (at' L k) o (A x) w)∧lg P ops L w0 T l (k+1) (fun x=>(A x).put o.dst (x k))
def L5 (b:Bool) (n:Nat) (S:Spec):Spec:=⟨fun v w=>S.p v w∧(b=true-> ∀k,cP v=some k->n<=k),fun v w w' hb h=>⟨S.st v w w' hb h.1,h.2⟩⟩
def mY (P:Program) (ops:Array Oper) (L:List Spec) (fr:Nat->Bool) (w0:World) (T:Nat->Act->World->Prop):List Oper->Nat->((Nat->Value)->Act)->Prop
 | [],k,A=> ∀x w,Below w0.heap.size w0 w->(∀i,i<k->(at' L i).p (x i) w)->(∀i j,i<k->j<k->i≠j->fr i=true->fr j=true-> ∀b,cP (x i)=some b->cP (x j)≠some b)->T k (A x) w
 | o :: l,k,A=>(∀x w,Below w0.heap.size w0 w->(∀i,az ops k i=true->(at' L i).p (x i) w)->(∀i j,az ops k i=true->az ops k j=true->i≠j->fr i=true->fr j=true-> ∀b,cP (x i)=some b->cP (x j)≠some b)->jK P ops (L5 (fr k) w.heap.size (at' L k)) o (A x) w)∧mY P ops L fr w0 T l (k+1) (fun x=>(A x).put o.dst (x k))
theorem jK.L5 {S:Spec} {o:Oper} {a:Act} {w:World} {n:Nat} (h:jK P ops S o a w):jK P ops (L5 false n S) o a w:=by
 rcases h with ⟨h1,h2⟩|⟨h1,h2⟩
 ·refine .inl ⟨h1, ?_⟩
  revert h2
  generalize (execOp a.eval o).run P w=r;intro h2
  cases r with
  | halt _ _=>exact h2.elim
  | ok n w'=>
   cases n<;>first|exact h2.elim|skip
   case value u=>exact ⟨⟨h2.1,fun h=>by cases h⟩,h2.2⟩
   case skip=>exact ⟨⟨h2.1,fun h=>by cases h⟩,h2.2⟩
   case enter f args=>
    refine Calls.mono h2 fun e w'' he=> ?_;obtain ⟨v,rfl,hv,hb⟩:=he;exact ⟨v,rfl,⟨hv,fun h=>by cases h⟩,hb⟩
 ·exact .inr ⟨h1,h2,fun h=>by cases h⟩
theorem jC {L:List Spec} {w0:World} {T:Nat->Act->World->Prop}: ∀(l:List Oper) (k:Nat) (A:(Nat->Value)->Act),lg P ops L w0 T l k A->mY P ops L (fun _=>false) w0 T l k A
 | [],k,A,h=>fun x w h1 h2 _=>h x w h1 h2
 | o :: l,k,A,h=>⟨fun x w h1 h2 _=>(h.1 x w h1 h2).L5,jC l (k+1) _ h.2⟩
theorem pb {l:List Oper} {L:List Spec} {fr:Nat->Bool} {w0:World} {T:Nat->Act->World->Prop} {a0:Act} (hA:jV l) {m0:Nat} (hm:m0<=l.length): ∀(l':List Oper) (k:Nat) (A:(Nat->Value)->Act),(l.take m0).drop k=l'->k<=m0->(A=fun x=>cG (fun i=>decide (i<k)) x l 0 a0) ->
  mY P l.toArray L fr w0 T l' k A->(∀j o,k<=j->j<m0->l[j]? = some o-> ∀x w,Below w0.heap.size w0 w->(∀i,az l.toArray j i=true->(at' L i).p (x i) w)->(∀i i',az l.toArray j i=true->az l.toArray j i'=true->i≠i'->fr i=true->fr i'=true-> ∀b,cP (x i)=some b->cP (x i')≠some b)->jK P l.toArray (L5 (fr j) w.heap.size (at' L j)) o (cG (fun i=>decide (i<j)) x l 0 a0) w)∧ ∀x w,Below w0.heap.size w0 w->(∀i,i<m0->(at' L i).p (x i) w)->(∀i j,i<m0->j<m0->i≠j->fr i=true->fr j=true-> ∀b,cP (x i)=some b->cP (x j)≠some b)->T m0 (cG (fun i=>decide (i<m0)) x l 0 a0) w
 | [],k,A,hl,hk,hAx,h=>by
  have h1:k=m0:=by have:=congrArg List.length hl;simp at this;omega
  subst h1;subst hAx;refine ⟨fun j o h1 h2=>by omega,fun x w h1 h2 h3=> ?_⟩
  have:=h x w h1 h2 h3
  simpa using this
 | o :: l',k,A,hl,hk,hAx,h=>by
  have h1:k<m0:=by have:=congrArg List.length hl;simp at this;omega
  have h2:l[k]? = some o:=by
   have:=congrArg (fun m=>m[0]?) hl
   simp only [List.getElem?_drop,Nat.add_zero,Ud] at this
   rwa [TC h1] at this
  subst hAx
  have hrec:=pb hA hm l' (k+1) _ (by have:=congrArg List.tail hl;simpa using this) h1 (by
   funext x
   have hi:=ix (s:=fun i=>decide (i<k)) (x:=x) (v:=x k) l 0 k a0 hA h2 (by simp);rw [Nat.zero_add] at hi;rw [<-hi];refine br l 0 a0 (fun i _ _=> ?_)
   by_cases hik:i=k
   ·subst hik;simp [bJ,gj]
   ·have:(i<k+1)=(i<k):=by apply propext;omega
    simp [bJ,gj,hik,this]) h.2
  refine ⟨fun j o' hj hjm ho=> ?_,hrec.2⟩
  by_cases hjk:j=k
  ·subst hjk;rw [h2] at ho;cases ho;exact h.1
  ·exact hrec.1 j o' (by omega) hjm ho
theorem yg {s:Nat->Bool}: ∀n m,m<=n->(∀i,m<=i->i<n->s i=false)->n - m<=yf s n
 | 0,m,_,_=>by omega
 | n+1,m,h,hs=>by
  rcases S9 n m with q|q
  ·omega
  ·have:=yg (s:=s) n m q (fun i h1 h2=>hs i h1 (by omega))
   rw [yf,hs n q (by omega)];simp;omega
theorem GQ {l:List Oper} {m0:Nat} {st:Nat->(Act->World->Prop)->Act->World->Prop} {E:Act->World->Prop} (hst:Hq P l.toArray st) (hnext: ∀t,m0<=t->t<l.length-> ∀i,i<t-> ∃i',i'<=t∧i<i'∧az l.toArray i' i=true)
  (hback: ∀i j oi oj,i<j->l[i]? = some oi->l[j]? = some oj->az l.toArray i j=false) (hself: ∀j,j<l.length->az l.toArray j j=false) (hfar: ∀(j:Nat) (o:Oper),l[j]? = some o-> ∀e∈o.after,e.on<l.length) :
  ∀(fuel k:Nat) (listed:Array Bool) (a:Act) (w:World),listed.size=l.length->m0<=k->k<=l.length->(∀i,listed.getD i false=decide (i<k))->l.length - k<=fuel ->
   nc st E (List.range' k (l.length - k)) a w->lr st l.toArray E fuel listed a w:=by
 intro fuel
 induction fuel with
 | zero=>
  intro k listed a w hsz hm hk hl hf h
  have e:k=l.length:=by omega
  subst e;rw [Ue] at h;refine ⟨?_,by simpa [nc] using h⟩;refine List.eq_nil_iff_forall_not_mem.2 (fun i hi=> ?_);obtain ⟨g1,o,g2, -⟩:=mem_ready.1 hi;have hil:i<l.length:=(S7.1 (show l[i]? = some o by simpa using g2)).1
  have his:i<listed.size:=by omega
  have g3:=hl i
  rw [show listed.getD i false=false by
   simp only [T0,Tm his,Option.getD_some] at g1 ⊢; exact g1] at g3
  simp [hil] at g3
 | succ fuel ih=>
  intro k listed a w hsz hm hk hl hf h
  have hread: ∀j,j∈Region.ready .any l.toArray listed->j=k∧k<l.length:=by
   intro j hj;obtain ⟨g1,o,g2,g3⟩:=mem_ready.1 hj
   have hoj:l[j]? = some o:=by simpa using g2
   have hjl:j<l.length:=(S7.1 hoj).1
   have his:j<listed.size:=by omega
   have g4:=hl j
   rw [show listed.getD j false=false by
    simp only [T0,Tm his,Option.getD_some] at g1 ⊢; exact g1] at g4
   have hkj:k<=j:=by
    rcases S9 j k with q|q
    ·simp [q] at g4
    ·exact q
   rcases Nat.eq_or_lt_of_le hkj with e|hlt
   ·exact ⟨e.symm,by omega⟩
   ·exfalso
    have hd: ∀i,az l.toArray j i=true->listed.getD i false=true:=by
     intro i hi;simp only [az,g2,TY,beq_iff_eq,Uf] at hi;obtain ⟨e,he,hb,rfl⟩:=hi;exact g3 e he hb
    have hsome: ∀n i,i+n+1=j->k<=i->False:=by
     intro n
     induction n using Nat.strongRecOn with
     | _ n ihn=>
      intro i hi hki;obtain ⟨i',q1,q2,q3⟩:=hnext j (by omega) hjl i (by omega)
      by_cases hi':i'=j
      ·subst hi'
       have:=hd i q3
       rw [hl i] at this;simp at this;omega
      ·exact ihn (j - 1 - i') (by omega) i' (by omega) (by omega)
    exact hsome (j - k - 1) k (by omega) (SY _)
  refine ⟨fun h0=> ?_,fun j hj=> ?_⟩
  ·rcases S9 k l.length with q|q
   ·exfalso
    have hmem:k∈Region.ready .any l.toArray listed:=by
     refine mem_ready.2 ⟨?_,l[k],by simp [q],fun e he hb=> ?_⟩
     ·have hms:k<listed.size:=by omega
      have:=hl k
      simp [hms] at this ⊢; exact this
     ·have hd:az l.toArray k e.on=true:=by
       have:l.toArray[k]? = some l[k]:=by simp [q]
       simp only [az,this];simp only [Uf,TY,beq_iff_eq];exact ⟨e,he,hb,rfl⟩
      rcases Ug e.on k with h'|h'|h'
      ·rw [hl];simpa using h'
      ·rw [h',hself k q] at hd;cases hd
      ·by_cases hl':e.on<l.length
       ·have:=hback k e.on l[k] l[e.on] h' (by simp [q]) (by simp [hl'])
        rw [hd] at this;cases this
       ·exact absurd (hfar k l[k] (by simp [q]) e he) hl'
    rw [h0] at hmem;cases hmem
   ·have e:k=l.length:=by omega
    subst e;rw [Ue] at h;simpa [nc] using h
  ·obtain ⟨rfl,hlt⟩:=hread j hj
   have e:l.length - j=(l.length - (j+1))+1:=by omega
   rw [e,Uh] at h;simp only [nc] at h;refine hst.mono (fun a' w' h'=>ih (j+1) _ a' w' (by simpa using hsz) (by omega) hlt (fun i=> ?_) (by omega) h') h
   by_cases hij:i=j
   ·subst hij
    have:i<listed.size:=by omega
    simp [this]
   ·rw [show (listed.setIfInBounds j true).getD i false=listed.getD i false from getD_set_ne false (Ne.symm hij),hl i]
    have:(i<j+1)=(i<j):=by apply propext;omega
    simp [this]
theorem fw {st:Nat->(Act->World->Prop)->Act->World->Prop} {E:Act->World->Prop} {a:Act} {w:World} {l:List Oper} (L:List Spec) (fr:Nat->Bool) (hfr: ∀i v w,fr i=true->(at' L i).p v w-> ∀b,cP v=some b->b<w.heap.size) (m0:Nat) (hst:Hq P l.toArray st) (hB:gn l.toArray m0=true)
  (h:mY P l.toArray L fr w.drew (fun k=>nc st E (List.range' k (l.length - k))) (l.take m0) 0 (fun _=>a)):lr st l.toArray E l.toArray.size (Array.replicate l.toArray.size false) a w.drew:=by
 simp only [gn,TY,Ui,Uj,Ty,decide_eq_true_eq] at hB;obtain ⟨⟨⟨hns,hm0⟩,hall⟩,htail⟩:=hB;have hsel:=Region.noSelect_spec hns
 have hpair: ∀i j oi oj,i<j->l[i]? = some oi->l[j]? = some oj->(j<m0->az l.toArray j i=true∨oi.apart l.toArray oj=true)∧az l.toArray i j=false∧(∀e,oi.dst=some e->oj.dst≠some e)∧(j<m0-> ∀e,oj.dst=some e->e∉oi.looksAt l.toArray):=by
  intro i j oi oj hij hi hj;have hjn:=(S7.1 hj).1
  have:=(hall j hjn).1 i hij
  simp only [FZ,Tp,hi,hj,TY,Uk,Bool.not_eq_true',decide_eq_true_eq] at this
  refine ⟨fun hlt=> ?_,this.1.1.2,fun e he=> ?_,fun hlt e he=> ?_⟩
  ·rcases this.1.1.1 with (h|h)|h
   ·omega
   ·exact .inl h
   ·exact .inr h
  ·have h3:=this.1.2;rw [he] at h3;simpa using h3
  ·have h3:=this.2;rw [he] at h3
   rcases h3 with h3|h3
   ·omega
   ·simpa using h3
 have hself: ∀j,j<l.length->az l.toArray j j=false:=fun j hj=>by simpa using (hall j hj).2.1
 have hfar: ∀(j:Nat) (o:Oper),l[j]? = some o-> ∀e∈o.after,e.on<l.length:=fun j o hj e he=>by
  have:=(hall j (S7.1 hj).1).2.2
  simp only [zj,Tp,hj,TZ] at this;simpa using this e he
 have hnext: ∀t,m0<=t->t<l.length-> ∀i,i<t-> ∃i',i'<=t∧i<i'∧az l.toArray i' i=true:=fun t ht htl i hit=>by
  have:=htail t htl
  simp only [Uk,decide_eq_true_eq,Ui,List.any_eq_true,Uj,TY] at this
  rcases this with h|h
  ·omega
  ·obtain ⟨i',h1,h2,h3⟩:=h i hit;exact ⟨i',by omega,h2,h3⟩
 have hA:jV l:=fun i j oi oj hi hj hij e he=>by
  rcases Nat.lt_or_gt_of_ne hij with h|h
  ·exact (hpair i j oi oj h hi hj).2.2.1 e he
  ·intro h2;exact (hpair j i oj oi h hj hi).2.2.1 e h2 he
 have hO:=pb (P:=P) (L:=L) (fr:=fr) (w0:=w.drew) (T:=fun k=>nc st E (List.range' k (l.length - k))) (a0:=a) hA (m0:=m0) (by omega) (l.take m0) 0 (fun _=>a) (by simp) (Te _) (by
  funext x
  exact (show a=cG (fun _=>false) x l 0 a from by
   have: ∀(l:List Oper) k,a=cG (fun _=>false) x l k a:=by
    intro l
    induction l with
    | nil=>intro k;rfl
    | cons o l ih=>intro k;rw [cG];exact ih (k+1)
   exact this l 0).trans (br l 0 a (fun i _ _=>by simp))) h
 
 have hloose: ∀i j oi oj,i<m0->j<m0->l[i]? = some oi->l[j]? = some oj->i≠j->az l.toArray j i=false-> ∀d,oi.dst=some d->d∉oj.looksAt l.toArray:=by
  intro i j oi oj him hjm hi hj hij hd
  rcases Nat.lt_or_gt_of_ne hij with h|h
  ·rcases (hpair i j oi oj h hi hj).1 hjm with h1|h1
   ·rw [hd] at h1;cases h1
   ·exact (Oper.apart_spec h1).1
  ·exact (hpair j i oj oi h hj hi).2.2.2 him
 
 have hsee: ∀(s s':Nat->Bool) x j oj,(∀i,m0<=i->s i=false∧s' i=false)->j<m0->l[j]? = some oj->s j=false->s' j=false->(∀i,i<l.length->az l.toArray j i=true->s i=true∧s' i=true) ->
   execOp (cG s x l 0 a).eval oj=execOp (cG s' x l 0 a).eval oj∧Region.wanted oj (yielded l.toArray (cG s x l 0 a).tmps)=Region.wanted oj (yielded l.toArray (cG s' x l 0 a).tmps):=by
  intro s s' x j oj hst hjm hj h1 h2 hd
  have one:=fun (s:Nat->Bool) (hs0: ∀i,m0<=i->s i=false) (hs:s j=false)=>ov (ops:=l.toArray) (s:=s) (keep:=az l.toArray j) (x:=x) (a:=a) hA (fun cs b=>hsel j oj cs b (by simpa using hj))
   (fun i oi hi hsi hk=>hloose i j oi oj (by rcases S9 i m0 with q|q;exact q;rw [hs0 i q] at hsi;cases hsi) hjm hi hj (by intro e;subst e;rw [hsi] at hs;cases hs) hk)
  obtain ⟨a1,a2⟩:=one s (fun i hi=>(hst i hi).1) h1;obtain ⟨b1,b2⟩:=one s' (fun i hi=>(hst i hi).2) h2
  have e:cG (fun i=>s i&&az l.toArray j i) x l 0 a=cG (fun i=>s' i&&az l.toArray j i) x l 0 a:=br l 0 a (fun i _ hi=>by
   refine ⟨?_,fun _=>rfl⟩
   cases hk:az l.toArray j i
   ·simp
   ·obtain ⟨c1,c2⟩:=hd i (by omega) hk
    simp [c1,c2])
  exact ⟨by rw [a1,b1,e],by rw [a2,b2,e]⟩
 have main: ∀fuel (listed:Array Bool) x w1,listed.size=l.length->Below w.drew.heap.size w.drew w1->(∀i,listed.getD i false=true->(at' L i).p (x i) w1) ->
   (∀j i,listed.getD j false=true->az l.toArray j i=true->listed.getD i false=true)->(∀i,m0<=i->listed.getD i false=false)->(∀i j,listed.getD i false=true->listed.getD j false=true->i≠j->fr i=true->fr j=true-> ∀b,cP (x i)=some b->cP (x j)≠some b)->yf (fun i=>listed.getD i false) l.length<=fuel ->
   lr st l.toArray E fuel listed (cG (fun i=>listed.getD i false) x l 0 a) w1:=by
  intro fuel
  induction fuel with
  | zero=>
   intro listed x w1 _ _ _ _ hlast _ hu
   have:=vw (s:=fun i=>listed.getD i false) l.length (i:=m0) hm0 (hlast m0 (SY _))
   omega
  | succ fuel ih=>
   intro listed x w1 hsz hE hF hcl hlast hpr hu
   have hmemR: ∀j,j∈Region.ready .any l.toArray listed-> ∃oj,l[j]? = some oj∧listed.getD j false=false∧ ∀i,az l.toArray j i=true->listed.getD i false=true:=by
    intro j hj;obtain ⟨h1,o,ho,h3⟩:=mem_ready.1 hj
    refine ⟨o,by simpa using ho, ?_,fun i hi=> ?_⟩
    ·rcases S9 j listed.size with h'|h'
     ·simp [h'] at h1 ⊢; exact h1
     ·simp [Array.getElem?_eq_none h']
    ·simp only [az,ho,TY,beq_iff_eq,Uf] at hi;obtain ⟨e,he,hb,rfl⟩:=hi;exact h3 e he hb
   refine ⟨fun h0=> ?_,fun j hj=> ?_⟩
   ·
    exfalso
    have hex: ∃m,m<l.length∧listed.getD m false=false∧ ∀i,i<m->listed.getD i false=true:=by
     have: ∀k,k<=l.length->(∀i,i<k->listed.getD i false=true)∨ ∃m,m<l.length∧listed.getD m false=false∧ ∀i,i<m->listed.getD i false=true:=by
      intro k
      induction k with
      | zero=>exact fun _=> .inl (fun i hi=>by omega)
      | succ k ihk=>
       intro hk
       rcases ihk (by omega) with h|h
       ·cases hc:listed.getD k false
        ·exact .inr ⟨k,by omega,hc,h⟩
        ·exact .inl (fun i hi=>by
          by_cases e:i=k
          ·subst e;exact hc
          ·exact h i (by omega))
       ·exact .inr h
     rcases this l.length (SY _) with h|h
     ·have:=h m0 hm0
      rw [hlast m0 (SY _)] at this;cases this
     ·exact h
    obtain ⟨m,hm1,hm2,hm3⟩:=hex
    have hmem:m∈Region.ready .any l.toArray listed:=by
     refine mem_ready.2 ⟨?_,l[m],by simp [hm1],fun e he hb=> ?_⟩
     ·have hms:m<listed.size:=by omega
      simp [hms] at hm2 ⊢; exact hm2
     ·have hd:az l.toArray m e.on=true:=by
       have:l.toArray[m]? = some l[m]:=by simp [hm1]
       simp only [az,this];simp only [Uf,TY,beq_iff_eq];exact ⟨e,he,hb,rfl⟩
      rcases Ug e.on m with h|h|h
      ·exact hm3 _ h
      ·rw [h,hself m hm1] at hd;cases hd
      ·by_cases hl:e.on<l.length
       ·have:=(hpair m e.on l[m] l[e.on] h (by simp [hm1]) (by simp [hl])).2.1
        rw [hd] at this;cases this
       ·exact absurd (hfar m l[m] (by simp [hm1]) e he) hl
    rw [h0] at hmem;cases hmem
   ·obtain ⟨oj,hoj,hun,hdeps⟩:=hmemR j hj;have hjl:=(S7.1 hoj).1
    have hsj:(listed.setIfInBounds j true).size=l.length:=by simpa using hsz
    have hgd: ∀i,(listed.setIfInBounds j true).getD i false=bJ (fun i=>listed.getD i false) j i:=by
     intro i
     by_cases hij:i=j
     ·subst hij
      have:i<listed.size:=by omega
      simp [bJ,this]
     ·simp only [bJ,if_neg hij];exact getD_set_ne false (Ne.symm hij)
    have hup: ∀t,m0<=t->t<l.length->(∀i,az l.toArray t i=true->listed.getD i false=true)-> ∀k i,i+k+1=t->listed.getD i false=true:=by
     intro t h1 h2 hdt k
     induction k using Nat.strongRecOn with
     | _ k ihk=>
      intro i hi;obtain ⟨i',q1,q2,q3⟩:=hnext t h1 h2 i (by omega)
      by_cases hi':i'=t
      ·subst hi';exact hdt i q3
      ·exact hcl i' i (ihk (t - 1 - i') (by omega) i' (by omega)) q3
    by_cases hjn:m0<=j
    ·
     have hj0:j=m0:=by
      rcases Nat.eq_or_lt_of_le hjn with e|hlt
      ·exact e.symm
      ·have:=hup j hjn hjl hdeps (j - m0 - 1) m0 (by omega)
       rw [hlast m0 (SY _)] at this;cases this
     subst hj0;have hall': ∀i,i<j->listed.getD i false=true:=fun i hi=>hup j hjn hjl hdeps (j - i - 1) i (by omega);have h2:=hO.2 x w1 hE (fun i hi=>hF i (hall' i hi)) (fun i k hi hk=>hpr i k (hall' i hi) (hall' k hk))
     have e:cG (fun i=>decide (i<j)) x l 0 a=cG (fun i=>listed.getD i false) x l 0 a:=br l 0 a (fun i _ hi=>by
      refine ⟨?_,fun _=>rfl⟩
      by_cases hij:i<j
      ·simp only [hij,decide_true];exact (hall' i hij).symm
      ·simp only [hij,decide_false];exact (hlast i (by omega)).symm)
     rw [e] at h2
     have hrun:=GQ (P:=P) (st:=st) (E:=E) (l:=l) (m0:=j) hst (fun t h1 h2=>hnext t h1 h2) (fun i k oi ok hik h1 h2=>(hpair i k oi ok hik h1 h2).2.1) hself hfar (fuel+1) j listed _ w1 hsz (SY _) (Ul hjl) (fun i=>by
      by_cases hij:i<j
      ·simp only [hij,decide_true];exact hall' i hij
      ·simp only [hij,decide_false];exact hlast i (by omega)) (by
      have:=yg (s:=fun i=>listed.getD i false) l.length j (Ul hjl) (fun i h1 _=>hlast i h1)
      omega) h2
     exact hrun.2 j hj
    ·have hjm:j<m0:=by omega
     have hst2:=hO.1 j oj (Te _) hjm hoj x w1 hE (fun i hi=>hF i (hdeps i hi)) (fun i k hi hk=>hpr i k (hdeps i hi) (hdeps k hk))
     obtain ⟨c1,c2⟩:=hsee (fun i=>listed.getD i false) (fun i=>decide (i<j)) x j oj (fun i hi=>⟨hlast i hi,by simp;omega⟩) hjm hoj hun (by simp) (fun i hi hd=>⟨hdeps i hd,by
      rcases Ug i j with h|h|h
      ·simpa using h
      ·rw [h,hself j hjl] at hd;cases hd
      ·have:=(hpair j i oj l[i] h hoj (by simp [hi])).2.1
       rw [hd] at this;cases this⟩)
     have next: ∀v w2,(L5 (fr j) w1.heap.size (at' L j)).p v w2->Below w1.heap.size w1 w2->lr st l.toArray E fuel (listed.setIfInBounds j true) ((cG (fun i=>listed.getD i false) x l 0 a).put oj.dst v) w2:=by
      intro v w2 hvf hb;obtain ⟨hv,hvn⟩:=hvf;have hi:=ix (s:=fun i=>listed.getD i false) (x:=x) (v:=v) l 0 j a hA hoj (by simpa using hun);rw [Nat.zero_add] at hi;rw [<-hi, <- show (fun i=>(listed.setIfInBounds j true).getD i false)=bJ (fun i=>listed.getD i false) j from funext hgd]
      refine ih _ _ w2 hsj (EF hE hb) (fun i hi'=> ?_) (fun j' i hj' hd=> ?_) ?_ ?_ ?_
      ·rw [hgd] at hi'
       by_cases hij:i=j
       ·subst hij;simpa [gj] using hv
       ·simp only [bJ,if_neg hij] at hi';simp only [gj,if_neg hij];exact (at' L i).st _ _ _ hb (hF i hi')
      ·rw [hgd] at hj' ⊢
       by_cases hij:i=j
       ·simp [bJ,hij]
       ·simp only [bJ,if_neg hij]
        by_cases hj2:j'=j
        ·subst hj2;exact hdeps i hd
        ·simp only [bJ,if_neg hj2] at hj';exact hcl j' i hj' hd
      ·intro i hi;rw [hgd]
       have:i≠j:=by omega
       simp only [bJ,if_neg this];exact hlast i hi
      ·intro i k hi hk hik fi fk b hbi hbk;rw [hgd] at hi hk
       have jP: ∀i,bJ (fun i=>listed.getD i false) j i=true->i≠j->listed.getD i false=true:=fun i h1 h2=>by simpa only [bJ,if_neg h2] using h1
       by_cases hij:i=j
       ·subst hij;have hkj:k≠i:=fun e=>hik e.symm;simp only [gj,if_true,if_neg hkj] at hbi hbk
        have:=hfr k _ w1 fk (hF k (jP k hk hkj)) b hbk
        have:=hvn fi b hbi
        omega
       ·by_cases hkj:k=j
        ·subst hkj;simp only [gj,if_true,if_neg hij] at hbi hbk
         have:=hfr i _ w1 fi (hF i (jP i hi hij)) b hbi
         have:=hvn fk b hbk
         omega
        ·simp only [gj,if_neg hij,if_neg hkj] at hbi hbk;exact hpr i k (jP i hi hij) (jP k hk hkj) hik fi fk b hbi hbk
      ·rw [iV (s':=bJ (fun i=>listed.getD i false) j) l.length (fun i _=>hgd i)]
       have:=nh (s:=fun i=>listed.getD i false) (i:=j) l.length hjl hun
       omega
     unfold jK at hst2;rw [<-c1, <- c2] at hst2
     exact hst.of (by simpa using hoj) hst2 next
 have hrep: ∀i,(Array.replicate l.toArray.size false).getD i false=false:=fun i=>by
  simp only [T0,Array.getElem?_replicate];split<;>rfl
 have h0:=main l.toArray.size (Array.replicate l.toArray.size false) (fun _=>undef) w.drew (by simp) (Below.refl _ _)
  (fun i hi=>by rw [hrep] at hi;cases hi) (fun j i hj=>by rw [hrep] at hj;cases hj) (fun i _=>hrep i) (fun i j hi=>by rw [hrep] at hi;cases hi) (vv _)
 have e:cG (fun i=>(Array.replicate l.toArray.size false).getD i false) (fun _=>undef) l 0 a=a:=by
  have: ∀(l':List Oper) k,cG (fun i=>(Array.replicate l.toArray.size false).getD i false) (fun _=>undef) l' k a=a:=by
   intro l'
   induction l' with
   | nil=>intro k;rfl
   | cons o l' ih=>intro k;rw [cG,hrep];exact ih (k+1)
  exact this l 0
 rw [e] at h0;exact h0
theorem JJ (Q:Exit->Act->World->Prop) (l:List Oper):yc P l.toArray Q=fun k=>nc (wpOp P l.toArray Q) (Q .normal) (List.range' k (l.length - k)):=by
 funext k;rw [yc,BH];simp only [Ty]
theorem nG {Q:Exit->Act->World->Prop} {a:Act} {w:World} {l:List Oper} (L:List Spec) (fr:Nat->Bool) (hfr: ∀i v w,fr i=true->(at' L i).p v w-> ∀b,cP v=some b->b<w.heap.size) (m0:Nat) (hB:gn l.toArray m0=true)
  (h:mY P l.toArray L fr w.drew (yc P l.toArray Q) (l.take m0) 0 (fun _=>a)):wpAny P .any l.toArray Q l.toArray.size (Array.replicate l.toArray.size false) a w.drew:=
 BF _ _ _ _ (fw L fr hfr m0 (JG Q) hB (by rw [<-JJ];exact h))
theorem ph {Q:Exit->Act->World->Prop} {a:Act} {w:World} {l:List Oper} (L:List Spec) (m0:Nat) (hB:gn l.toArray m0=true)
  (h:lg P l.toArray L w.drew (yc P l.toArray Q) (l.take m0) 0 (fun _=>a)):wpAny P .any l.toArray Q l.toArray.size (Array.replicate l.toArray.size false) a w.drew:=
 nG L (fun _=>false) (fun i v w h=>by cases h) m0 hB (jC _ _ _ h)
end
end
section
section
variable {D:Nat->Prop} {nu:Nat->Nat->Value} {o:List (Option aa)} {w:World} {P:Program}
def nv (P:Program) (all:List Oper) (oo:Oper) (s:AS) (K:AS->Prop):Prop:=match oo.guard with
 | none=>vN P oo.op s (fun r o'=>K (s.put oo.dst r o'))
 | some (j,want)=>rP (iJ all s j) want (vN P oo.op s (fun r o'=>K (s.put oo.dst r o'))) (K (s.put oo.dst (.v Go.undef) s.o))
def dZ (P:Program) (all:List Oper):List Oper->AS->(AS->Prop)->Prop
 | [],s,Q=>Q s
 | oo :: rest,s,Q=>nv P all oo s (fun s'=>dZ P all rest s' Q)
def c7 (P:Program) (all:List Oper) (B:AS->Prop):List Oper->AS->Prop
 | [],s=>B s
 | oo :: rest,s=>match oo.guard with
  | none=>cO P oo.op s (fun r=>c7 P all B rest (s.put oo.dst r s.o))
  | some (j,want)=>rP (iJ all s j) want (cO P oo.op s (fun r=>c7 P all B rest (s.put oo.dst r s.o))) (c7 P all B rest (s.put oo.dst (.v Go.undef) s.o))
abbrev nr (P:Program) (all tail:List Oper) (l:List Oper) (s:AS) (Q:AS->Prop):Prop:=c7 P all (fun s=>dZ P all tail s Q) l s
theorem lR {f:Fr} {l:List Oper} {R:Exit->Act->World->Prop}: ∀(tail:List Oper) (k:Nat) (s:AS) (a:Act) (w:World) (nu:Nat->Nat->Value),l.drop k=tail->k<=l.length->RS f D nu s a w-> ∀ {Q:AS->Prop},dZ P l tail s Q ->
  (∀s' a' w' nu',bl nu s.o w nu' s'.o w'->s'.y=s.y->RS f D nu' s' a' w'->Q s'->R .normal a' w')->wpOps P l.toArray R (List.range' k (l.length - k)) a w
 | [],k,s,a,w,nu,hl,hk,hs,Q,h,hR=>by
  have e:k=l.length:=by have:=congrArg List.length hl;simp at this;omega
  subst e;rw [Ue];simpa [wpOps] using hR s a w nu (.refl _ _ _) rfl hs h
 | oo :: rest,k,s,a,w,nu,hl,hk,hs,Q,h,hR=>by
  have hlt:k<l.length:=by have:=congrArg List.length hl;simp at this;omega
  have hok:l[k]? = some oo:=by have:=congrArg (fun m=>m[0]?) hl;simpa using this
  have hl':l.drop (k+1)=rest:=by have:=congrArg List.tail hl;simpa using this
  have e:l.length - k=(l.length - (k+1))+1:=by omega
  rw [e,Uh,wpOps_cons];unfold wpOp;simp only [Tp,hok]
  have hdo:vN P oo.op s (fun r o'=>dZ P l rest (s.put oo.dst r o') Q)->Region.wanted oo (yielded l.toArray a.tmps)=true->(if Region.wanted oo (yielded l.toArray a.tmps)=true then oo.wp P a w (wpOps P l.toArray R (List.range' (k+1) (l.length - (k+1)))) R∨oo.asks P a w∧LetsOut R else wpOps P l.toArray R (List.range' (k+1) (l.length - (k+1))) (a.put oo.dst Go.undef) w):=by
   intro hd hw;rw [if_pos hw];exact .inl (pY (P:=P) hs.ro (fun y _=>hs.ev y) hd (fun v w' nu' r o' m1 m2 m3 m4=>lR rest (k+1) (s.put oo.dst r o') _ w' nu' hl' hlt (hs.put m1 m2 m3 oo.dst) m4 (fun s' a' w2 nu2 q1 q2 q3 q4=>hR s' a' w2 nu2 (by simpa only [AS.put] using m1.trans q1) (q2.trans rfl) q3 q4)))
  have hskip:dZ P l rest (s.put oo.dst (.v Go.undef) s.o) Q->Region.wanted oo (yielded l.toArray a.tmps)=false->(if Region.wanted oo (yielded l.toArray a.tmps)=true then oo.wp P a w (wpOps P l.toArray R (List.range' (k+1) (l.length - (k+1)))) R∨oo.asks P a w∧LetsOut R else wpOps P l.toArray R (List.range' (k+1) (l.length - (k+1))) (a.put oo.dst Go.undef) w):=by
   intro hd hw;rw [if_neg (by rw [hw];decide)];exact lR rest (k+1) (s.put oo.dst (.v Go.undef) s.o) _ w nu hl' hlt (hs.put (.refl _ _ _) hs.ro (.v _) oo.dst) hd (fun s' a' w2 nu2 q1 q2 q3 q4=>hR s' a' w2 nu2 (by simpa only [AS.put] using q1) (q2.trans rfl) q3 q4)
  simp only [dZ,nv] at h
  split at h
  ·rename_i hg;exact hdo h (by simp [Region.wanted,hg])
  ·rename_i j want hg;have hyv: ∀g,iJ l s j=some g->yielded l.toArray a.tmps j=g:=fun g hgv=>ek (D:=D) (nu:=nu) (w:=w) (fun d c v hd h1 h2=>hs.tm.at' d c v h1 h2) hs.tm.len hgv;unfold rP at h
   split at h
   ·rename_i b e
    cases hb:b==want
    ·rw [hb] at h;exact hskip h (by simp only [Region.wanted,hg,hyv _ e];simpa using hb)
    ·rw [hb] at h;exact hdo h (by simp only [Region.wanted,hg,hyv _ e];simpa using hb)
   ·rename_i e;exact hskip h (by simp only [Region.wanted,hg,hyv _ e];rfl)
   ·exact h.elim
theorem z8 {l:List Oper} {m0:Nat} (hB:gn l.toArray m0=true) {i j:Nat} {oi oj:Oper} (hij:i<j) (hi:l[i]? = some oi) (hj:l[j]? = some oj) (hjm:j<m0):az l.toArray j i=true∨ ∀d,oi.dst=some d->d∉oj.looksAt l.toArray:=by
 simp only [gn,TY,Ui,Uj,Ty] at hB;have hjn:=(S7.1 hj).1
 have:=(hB.1.2 j hjn).1 i hij
 simp only [FZ,Tp,hi,hj,TY,Uk,Bool.not_eq_true',decide_eq_true_eq] at this
 rcases this.1.1.1 with (h|h)|h
 ·omega
 ·exact .inl h
 ·exact .inr (Oper.apart_spec h).1
theorem fL {f:Fr} {l:List Oper} {m0:Nat} (hm0:m0<=l.length) (hB:gn l.toArray m0=true) {s:AS} {a:Act} {w0:World} {B:AS->Prop} {T:Nat->Act->World->Prop} (hs:RS f D nu s a w0)
  (hT: ∀sk a' wr,Below w0.heap.size w0 wr->sk.o=s.o->sk.y=s.y->RS f D nu sk a' wr->B sk->T m0 a' wr) :
  ∀(rest:List Oper) (k:Nat) (sk:AS) (rs:List AV) (A:(Nat->Value)->Act),(l.take m0).drop k=rest->k<=m0->BO l s a k sk rs A->c7 P l B rest sk-> ∃rs',lg P l.toArray ((rs++rs').map (cb D nu s.o)) w0 T rest k A
 | [],k,sk,rs,A,hl,hk,hI,h=>by
  have hkm:k=m0:=by have:=congrArg List.length hl;simp at this;omega
  subst hkm;refine ⟨[],fun x wr hE hD=> ?_⟩;have hro:RO D nu s.o wr:=hs.ro.below hE
  have hsk:RS f D nu sk (A x) wr:=by
   refine ⟨by rw [hI.o];exact hro,⟨hI.size x,fun t c v h1 h2=> ?_⟩,by rw [hI.ig x];exact hs.ig.mono hs.ro (ak hE)⟩;rw [hI.o]
   rcases hI.val x t c v h1 h2 with ⟨h3,h4⟩|⟨i,q1,q2,q3,q4⟩
   ·exact (hs.tm.at' t c v h3 h4).mono (ak hE) (fun _ _ h=>h)
   ·have:=hD i q1
    rw [gX q3] at this;rw [q4];exact this.2
  exact hT sk (A x) wr hE hI.o hI.y hsk h
 | oo :: rest,k,sk,rs,A,hl,hk,hI,h=>by
  have hkm:k<m0:=by have:=congrArg List.length hl;simp at this;omega
  have hok:l[k]? = some oo:=by
   have:=congrArg (fun m=>m[0]?) hl
   simp only [List.getElem?_drop,Nat.add_zero,Ud] at this
   rwa [TC hkm] at this
  have hl':(l.take m0).drop (k+1)=rest:=by have:=congrArg List.tail hl;simpa using this
  
  have hlook: ∀x wr,Below w0.heap.size w0 wr->(∀rs' i,az l.toArray k i=true->i<k->(at' ((rs++rs').map (cb D nu s.o)) i).p (x i) wr)-> ∀(t:Nat) c v,t∈oo.looksAt l.toArray->sk.t[t]? = some c->(A x).tmps[t]? = some v->RA D nu s.o wr c v:=by
   intro x wr hE hD t c v ht h1 h2
   rcases hI.val x t c v h1 h2 with ⟨h3,h4⟩|⟨i,q1,⟨oi,q2,q5⟩,q3,q4⟩
   ·exact (hs.tm.at' t c v h3 h4).mono (ak hE) (fun _ _ h=>h)
   ·rcases z8 hB q1 q2 hok hkm with h5|h5
    ·have:=hD [] i h5 q1
     rw [gX q3] at this;rw [q4];exact this.2
    ·exact absurd ht (h5 t q5)
  have hevs: ∀x wr,Below w0.heap.size w0 wr->(∀rs' i,az l.toArray k i=true->i<k->(at' ((rs++rs').map (cb D nu s.o)) i).p (x i) wr)->G8 D nu s.o wr sk.ev (A x).eval oo.op:=by
   intro x wr hE hD y hy
   cases y with
   | tmp t=>
    simp only [AS.ev,Act.eval]
    rcases S9 t sk.t.length with hlt|hge
    ·have e1:sk.t[t]? = some sk.t[t]:=Tn hlt
     have hlt':t<(A x).tmps.size:=by rw [<-hI.size x];exact hlt
     have hx:(A x).tmps[t]? = some (A x).tmps[t]:=Tm hlt';rw [getD_some e1]
     have:(A x).tmps.getD t Go.undef=(A x).tmps[t]:=by simp [Array.getD,hlt']
     rw [this];exact hlook x wr hE hD t _ _ (List.mem_append_left _ (List.mem_filterMap.2 ⟨.tmp t,hy,rfl⟩)) e1 hx
    ·rw [List.getD_eq_getElem?_getD,List.getElem?_eq_none hge];exact .undef _
   | const v=>exact .v v
   | global gi=>exact (pF hs.ro sk gi).mono (ak hE) (fun _ _ h=>h)
   | func f=>exact .fn f [] [] #[] #[] rfl rfl (fun i c x h=>by simp at h) (fun i c x h=>by simp at h)
  
  have hdo:cO P oo.op sk (fun r=>c7 P l B rest (sk.put oo.dst r sk.o))->(∀x wr,Below w0.heap.size w0 wr->(∀rs' i,az l.toArray k i=true->i<k->(at' ((rs++rs').map (cb D nu s.o)) i).p (x i) wr)->Region.wanted oo (yielded l.toArray (A x).tmps)=true) ->
    ∃rs',lg P l.toArray ((rs++rs').map (cb D nu s.o)) w0 T (oo :: rest) k A:=by
   intro hd hw;obtain ⟨r,hk',hr⟩:=jh hd;rw [hI.o] at hk';obtain ⟨rs',hrel⟩:=fL hm0 hB hs hT rest (k+1) _ (rs++[r]) _ hl' hkm (hI.step hok r) hk';rw [List.append_assoc,T9] at hrel;refine ⟨r :: rs',⟨(fun x wr hE hD=> ?_),hrel⟩⟩
   have hD': ∀rs'' i,az l.toArray k i=true->i<k->(at' ((rs++rs'').map (cb D nu s.o)) i).p (x i) wr:=fun rs'' i h1 h2=>by
    have h3:=hD i h1
    have h5:i<rs.length:=by rw [hI.len];exact h2
    have h4:rs[i]? = some rs[i]:=Tn h5;rw [gX h4] at h3 ⊢;exact h3
   obtain ⟨r',rfl,hout⟩:=nF (P:=P) (nu:=nu) (D:=D) (w:=wr) (rho:=(A x).eval) (by rw [hI.o];exact hs.ro.below hE) (by rw [hI.o];exact hevs x wr hE hD') hr;have e:=gY (D:=D) (nu:=nu) (o:=s.o) (rs:=rs) (rs':=rs') (r:=r');rw [hI.len] at e;refine .inl ⟨hw x wr hE hD', ?_⟩;rw [e];rw [hI.o] at hout;exact hout
  simp only [c7] at h
  split at h
  ·rename_i hg;exact hdo h (fun x wr hE hD=>by simp [Region.wanted,hg])
  ·rename_i j want hg
   have hyv: ∀g,iJ l sk j=some g-> ∀x wr,Below w0.heap.size w0 wr->(∀rs' i,az l.toArray k i=true->i<k->(at' ((rs++rs').map (cb D nu s.o)) i).p (x i) wr)->yielded l.toArray (A x).tmps j=g:=fun g hgv x wr hE hD=>
    ek (D:=D) (nu:=nu) (w:=wr) (fun d c v hd h1 h2=>by
     rw [hI.o];refine hlook x wr hE hD d c v ?_ h1 h2;obtain ⟨og,q1,q2⟩:=hd;refine List.mem_append_right _ ?_;simp only [hg,Tp,q1,Option.bind_some,q2]
     simp) (hI.size x) hgv
   have hskip:c7 P l B rest (sk.put oo.dst (.v Go.undef) sk.o)->(∀x wr,Below w0.heap.size w0 wr->(∀rs' i,az l.toArray k i=true->i<k->(at' ((rs++rs').map (cb D nu s.o)) i).p (x i) wr)->Region.wanted oo (yielded l.toArray (A x).tmps)=false) ->
     ∃rs',lg P l.toArray ((rs++rs').map (cb D nu s.o)) w0 T (oo :: rest) k A:=by
    intro hk' hw;rw [hI.o] at hk';obtain ⟨rs',hrel⟩:=fL hm0 hB hs hT rest (k+1) _ (rs++[.v Go.undef]) _ hl' hkm (hI.step hok (.v Go.undef)) hk';rw [List.append_assoc,T9] at hrel;refine ⟨.v Go.undef :: rs',⟨(fun x wr hE hD=> ?_),hrel⟩⟩
    have hD': ∀rs'' i,az l.toArray k i=true->i<k->(at' ((rs++rs'').map (cb D nu s.o)) i).p (x i) wr:=fun rs'' i h1 h2=>by
     have h3:=hD i h1
     have h5:i<rs.length:=by rw [hI.len];exact h2
     have h4:rs[i]? = some rs[i]:=Tn h5;rw [gX h4] at h3 ⊢;exact h3
    have e:=gY (D:=D) (nu:=nu) (o:=s.o) (rs:=rs) (rs':=rs') (r:= .v Go.undef);rw [hI.len] at e;refine .inr ⟨hw x wr hE hD', ?_⟩;rw [e];exact ⟨hs.ro.below hE, .v _⟩
   unfold rP at h
   split at h
   ·rename_i b e
    cases hb:b==want
    ·rw [hb] at h;exact hskip h (fun x wr hE hD=>by simp only [Region.wanted,hg,hyv _ e x wr hE hD];simpa using hb)
    ·rw [hb] at h;exact hdo h (fun x wr hE hD=>by simp only [Region.wanted,hg,hyv _ e x wr hE hD];simpa using hb)
   ·rename_i e;exact hskip h (fun x wr hE hD=>by simp only [Region.wanted,hg,hyv _ e x wr hE hD];rfl)
   ·exact h.elim
theorem sj {op:Op} {s:AS} {K K':AV->Prop} (h: ∀r,K r->K' r) (hd:cO P op s K):cO P op s K':=by
 obtain ⟨r,hk,hr⟩:=jh hd;have key: ∀r',r'=r->K' r':=fun r' e=>e ▸ h r hk;unfold cO at hr ⊢
 split at hr
 ·split at hr
  ·unfold fU at hr ⊢
   split at hr
   ·rename_i hb;rw [if_pos hb];exact key _ hr
   ·rename_i hb;rw [if_neg hb];exact key _ hr
  ·exact hr.elim
 ·split at hr
  ·unfold yC at hr ⊢
   split at hr
   ·obtain ⟨r',q1,q2⟩:=hr;exact ⟨r',q1,key _ q2⟩
   ·exact hr.elim
  ·unfold Av at hr ⊢
   split at hr
   ·exact ⟨hr.1,key _ hr.2⟩
   ·exact hr.elim
 ·unfold Av at hr ⊢
  split at hr
  ·exact ⟨hr.1,key _ hr.2⟩
  ·exact hr.elim
theorem Cf {n0 id:Nat} {s:AS} {l:List Oper} {Q:aJ->AS->Prop} (m0:Nat) (hB:gn l.toArray m0=true) (hC:c9 l.toArray=true) (h:nr P l (l.drop m0) (l.take m0) s (Q .normal)):bK P n0 (.region id l.toArray true) s Q:=by
 refine .inr (fun f m D nu a w hZr hn hm hs hmx R hO hR=> ?_)
 have hm0:m0<=l.length:=by
  simp only [gn,TY,decide_eq_true_eq,Ty] at hB;exact Ul hB.1.1.2
 obtain ⟨rs,hrel⟩:=fL (P:=P) (T:=yc P l.toArray R) hm0 hB hs.drew (fun sk a' wr hE ho hy hsk hB'=>lR (P:=P) (f:=f) (l:=l) (R:=R) (l.drop m0) m0 sk a' wr nu rfl hm0 hsk hB' (fun s' a2 w' nu' q1 q2 q3 q4=>hR .normal D f.Z s' a2 w' nu' (by
  rw [q2,hy];exact m.own hm hs.ro ((ak (cQ w)).trans ((ak hE).trans (ho ▸ q1))) q3.ro) q3 q4)) (l.take m0) 0 s [] (fun _=>a) (by simp) (Te _) ⟨rfl,rfl,rfl,fun _=>rfl,fun _=>hs.tm.len,fun x t c v h1 h2=> .inl ⟨h1,h2⟩⟩ h
 exact np hmx hC hO (ph _ m0 hB hrel)
theorem Bv {r:Option Nat} {n:Nat} {ops:Array Oper} (hC:c9 ops=true) (R:Exit->Act->World->Prop):Hq P ops (wpOpIn (WF r) n P ops R):=⟨fun h k=>wpOpIn_mono h k,fun {i o S K a w} hi h next=>by
 unfold wpOpIn;simp only [hi]
 rcases h with ⟨h1,h2⟩|⟨h1,h2⟩
 ·rw [if_pos h1];refine ⟨fun f _=>trivial, ?_⟩;rw [j7 hC hi];generalize (execOp a.eval o).run P w=r at h2
  cases r with
  | halt _ _=>exact h2.elim
  | ok n w'=>
   cases n<;>first|exact h2.elim|skip
   case value u=>exact next _ _ h2.1 h2.2
   case skip=>exact next _ _ h2.1 h2.2
   case enter f args=>
    refine ⟨fun e=>(by cases e),jk (Calls.mono h2 fun e w'' he=> ?_)⟩;obtain ⟨v,rfl,hv,hb⟩:=he
    exact next _ _ hv hb
 ·rw [if_neg (by rw [h1];decide)]
  exact ⟨fun f _=>trivial,next _ _ h2 (Below.refl _ _)⟩⟩
theorem um {r:Option Nat} {n:Nat} {ops:Array Oper} {R:Exit->Act->World->Prop}: ∀(fuel:Nat) (listed:Array Bool) (a:Act) (w:World),lr (wpOpIn (WF r) n P ops R) ops (R .normal) fuel listed a w->wpAnyIn (WF r) n P .any ops R fuel listed a w
 | 0,_,_,_,h=>h
 | fuel+1,_,_,_,h=>⟨h.1,fun i hi=>wpOpIn_mono (fun _ _=>um fuel _ _ _) (h.2 i hi)⟩
theorem mM {r:Option Nat} {n:Nat} {l:List Oper} {R:Exit->Act->World->Prop}: ∀(m k:Nat) (a:Act) (w:World),k+m=l.length->wpListIn (WF r) n P l.toArray R (l.drop k) a w->nc (wpOpIn (WF r) n P l.toArray R) (R .normal) (List.range' k m) a w
 | 0,k,a,w,hk,h=>by
  rw [List.drop_eq_nil_of_le (by omega)] at h;exact h
 | m+1,k,a,w,hk,h=>by
  have hlt:k<l.length:=by omega
  rw [List.drop_eq_getElem_cons hlt] at h;rw [Uh];simp only [nc,wpOpIn,Tp,Tn hlt];simp only [wpListIn] at h
  split at h
  ·rename_i hw;rw [if_pos hw];exact Oper.wpIn_mono (fun a w h=>mM m (k+1) a w (by omega) h) h
  ·rename_i hw;rw [if_neg hw];exact ⟨h.1,mM m (k+1) _ w (by omega) h.2⟩
theorem Cg {n0 id:Nat} {s:AS} {l:List Oper} {Q:aJ->AS->Prop} (m0:Nat) (hB:gn l.toArray m0=true) (hC:c9 l.toArray=true) (h:c7 P l (fun s=>gq P l (l.drop m0) s (Q .normal)) (l.take m0) s):bK P n0 (.region id l.toArray true) s Q:=by
 refine .inr (fun f m D nu a w hZr hn hm hs hmx R hO hR=> ?_)
 have hm0:m0<=l.length:=by
  simp only [gn,TY,decide_eq_true_eq,Ty] at hB;exact Ul hB.1.1.2
 have hcalm: ∀oo,oo∈l.drop m0-> ∀c,oo.op ≠ .defer c:=fun oo ho c e=>by
  unfold c9 at hC;rw [TZ] at hC;have h2:=hC oo (by simpa using List.mem_of_mem_drop ho);rw [e] at h2;cases h2
 obtain ⟨rs,hrel⟩:=fL (P:=P) (T:=fun k=>nc (wpOpIn (WF f.r) 9 P l.toArray R) (R .normal) (List.range' k (l.length - k))) hm0 hB hs.drew (fun sk a' wr hE ho hy hsk hB'=>mM _ _ _ _ (by omega) (iH m hZr _ sk a' wr D nu hcalm (by
  rw [ho,hy];exact m.own hm hs.ro ((ak (cQ w)).trans (ak hE)) (ho ▸ hsk.ro)) hsk hB' (fun D' s' a2 w2 nu' q1 q2 q3=>hR .normal D' f.Z s' a2 w2 nu' q1 q2 q3))) (l.take m0) 0 s [] (fun _=>a) (by simp) (Te _) ⟨rfl,rfl,rfl,fun _=>rfl,fun _=>hs.tm.len,fun x t c v h1 h2=> .inl ⟨h1,h2⟩⟩ h
 exact wpIn_region_any hmx (um _ _ _ _ (fw _ (fun _=>false) (fun i v w h=>by cases h) m0 (Bv hC R) hB (jC _ _ _ hrel)))
def qF:Op->Bool
 | .alloc _| .store .. | .mapUpdate .. | .insert .. | .makeSlice .. | .makeMap .. =>true
 | .call c=>match c.callee with
  | .builtin .append| .builtin .copy| .builtin .delete| .builtin .clear=>true
  | _=>false
 | _=>false
def oO:List Oper->Nat
 | []=>0
 | o :: l=>if qF o.op then 0 else oO l+1
def dR (P:Program) (all:List Oper):List Oper->AS->(AS->Prop)->Prop
 | [],s,Q=>Q s
 | oo :: rest,s,Q=>if qF oo.op then dZ P all (oo :: rest) s Q else dT P all oo s (fun s'=>dR P all rest s' Q)
theorem j4 (all:List Oper): ∀(l:List Oper) (s:AS) (Q:AS->Prop),dR P all l s Q->nr P all (l.drop (oO l)) (l.take (oO l)) s Q
 | [],s,Q,h=>h
 | oo :: rest,s,Q,h=>by
  simp only [dR] at h
  by_cases he:qF oo.op=true
  ·rw [if_pos he] at h;simpa only [oO,he,if_true,List.drop_zero,List.take_zero,nr,c7] using h
  ·rw [if_neg he] at h;simp only [oO,he,if_false,List.drop_succ_cons,List.take_succ_cons,nr,c7,Bool.false_eq_true];unfold dT at h
   split at h
   ·rename_i hg;simp only [hg];exact sj (fun r hr=>j4 all rest _ Q hr) h
   ·rename_i j want hg;simp only [hg];unfold rP at h ⊢
    split at h
    ·rename_i b e;unfold fU at h ⊢
     split at h
     ·rename_i hb;rw [if_pos hb];exact sj (fun r hr=>j4 all rest _ Q hr) h
     ·rename_i hb;rw [if_neg hb];exact j4 all rest _ Q h
    ·rename_i e;exact j4 all rest _ Q h
    ·exact h.elim
theorem Ce {n0 id:Nat} {s:AS} {l:List Oper} {Q:aJ->AS->Prop} (hB:gn l.toArray (oO l)=true) (hC:c9 l.toArray=true) (h:dR P l l s (Q .normal)):bK P n0 (.region id l.toArray true) s Q:=
 Cf (oO l) hB hC (j4 l l s _ h)
theorem Eo {all rest:List Oper} {oo:Oper} {s:AS} {Q:AS->Prop} (he:qF oo.op=false) (h: ∀K:AS->Prop,(∀s',dR P all rest s' Q->K s')->dT P all oo s K):dR P all (oo :: rest) s Q:=by
 simp only [dR,he,Bool.false_eq_true,if_false];exact h _ (fun _ h=>h)
theorem yQ {all rest:List Oper} {oo:Oper} {s:AS} {Q:AS->Prop} (he:qF oo.op=true) (h:dZ P all (oo :: rest) s Q):dR P all (oo :: rest) s Q:=by
 simpa only [dR,he,if_true] using h
theorem yR {all:List Oper} {s:AS} {Q:AS->Prop} (h:Q s):dR P all [] s Q:=h
theorem H9 {all rest:List Oper} {oo:Oper} {s:AS} {Q:AS->Prop} (h: ∀K:AS->Prop,(∀s',dZ P all rest s' Q->K s')->nv P all oo s K):dZ P all (oo :: rest) s Q:=h _ (fun _ h=>h)
theorem Ca {all:List Oper} {s:AS} {Q:AS->Prop} (h:Q s):dZ P all [] s Q:=h
theorem yU {all tail:List Oper} {s:AS} {Q:AS->Prop} (h:dZ P all tail s Q):nr P all tail [] s Q:=h
@[go_sem] theorem H4 (all:List Oper) (dst:Option Tmp) (op:Op) (ty:TypeId) (pos:String) (aft:Array Edge) (s:AS) (K:AS->Prop) :
  nv P all ⟨dst,op,ty,pos,aft,none⟩ s K=vN P op s (fun r o'=>K (s.put dst r o')):=rfl
@[go_sem] theorem H3 (all:List Oper) (dst:Option Tmp) (op:Op) (ty:TypeId) (pos:String) (aft:Array Edge) (j:Nat) (want:Bool) (s:AS) (K:AS->Prop) :
  nv P all ⟨dst,op,ty,pos,aft,some (j,want)⟩ s K=rP (iJ all s j) want (vN P op s (fun r o'=>K (s.put dst r o'))) (K (s.put dst (.v Go.undef) s.o)):=rfl
end
end
section
class ag (G:Prop) (H:outParam Prop):Prop where
 up:H->G
section
variable {P:Program} {all rest tail:List Oper} {n0:Nat} {s:AS} {Q:aJ->AS->Prop} {R K:AS->Prop} {oo o2:Oper} {i:Nat} {c d:Code} {x:Operand} {l:List Oper} {bx:List Bx} {k:Nat}
theorem Ep {B:AS->Prop} (h: ∀K:AS->Prop,(∀s',c7 P all B rest s'->K s')->dT P all oo s K):c7 P all B (oo :: rest) s:=by
 have:=h _ (fun _ h=>h)
 unfold dT at this;simp only [c7]
 split at this<;>simp_all
instance {B:AS->Prop}:ag (c7 P all B (oo :: rest) s) (∀K:AS->Prop,(∀s',c7 P all B rest s'->K s')->dT P all oo s K):=⟨Ep⟩
instance:ag (c7 P all (fun s=>gq P all tail s R) [] s) (gq P all tail s R):=⟨fun h=>h⟩
instance:ag (gq P all [] s R) (R s):=⟨Es⟩
instance:ag (gq P all (oo :: rest) s R) (∀K:AS->Prop,(∀s',gq P all rest s' R->K s')->oF P all oo s K):=⟨KL⟩
instance {dst:Option Tmp} {op:Op} {ty:TypeId} {pos:String} {aft:Array Edge}:ag (dH P all [⟨dst,op,ty,pos,aft,none⟩] s R) (∀K:AS->Prop,(∀s',R s'->K s')->vN P op s (fun r o'=>K (s.put dst r o'))):=⟨yV⟩
instance:ag (dH P all (oo :: o2 :: rest) s R) (∀K:AS->Prop,(∀s',dH P all (o2 :: rest) s' R->K s')->dT P all oo s K):=⟨Hy⟩
instance:ag (bK P n0 (.seq c d) s Q) (∀K:AS->Prop,(∀s',bK P n0 d s' Q->K s')->bK P n0 c s (lq K Q)):=⟨Ig⟩
instance:ag (bK P n0 (.region i l.toArray false) s Q) (gq P l l s (Q .normal)):=⟨yZ⟩
instance:ag (bK P n0 .skip s Q) (Q .normal s):=⟨EC⟩
instance:ag (bK P n0 (.block i c) s Q) (bK P n0 c s (tR i Q)):=⟨Cd⟩
instance:ag (bK P n0 (.cond x c d) s Q) (yz (s.ev x) (bK P n0 c s Q) (bK P n0 d s Q)):=⟨Ew⟩
instance:ag (bK P n0 (.exit i) s Q) (Q (.exit i) s):=⟨Ez⟩
instance:ag (bK P n0 .ret s Q) (Q .ret s):=⟨Ic⟩
instance:ag (bK P n0 (.scope c) s Q) (bK P n0 c s (vR Q)):=⟨Cj⟩
instance:ag (bK P n0 (.label i) s Q) (Q .normal s):=⟨Ch⟩
instance:ag (bK P n0 (.goto i) s Q) (Q (.goto i) s):=⟨EA⟩
instance:ag (lq K Q .normal s) (K s):=⟨wg⟩
instance:ag (lq K Q (.exit i) s) (Q (.exit i) s):=⟨B8⟩
instance:ag (lq K Q .ret s) (Q .ret s):=⟨Eu⟩
instance:ag (lq K Q (.goto i) s) (Q (.goto i) s):=⟨B9⟩
instance:ag (tR i Q .normal s) (Q .normal s):=⟨v8⟩
instance:ag (tR i Q .ret s) (Q .ret s):=⟨Em⟩
instance:ag (tR i Q (.goto k) s) (Q (.goto k) s):=⟨BY⟩
instance:ag (tR i Q (.exit k) s) (if k=i then Q .normal s else Q (.exit k) s):=⟨fun h=>h⟩
instance:ag (vR Q .normal s) (Q .normal s):=⟨wc⟩
instance:ag (vR Q .ret s) (Q .ret s):=⟨Et⟩
instance:ag (vR Q (.exit i) s) (Q (.exit i) s):=⟨B6⟩
instance:ag (dR P all [] s R) (R s):=⟨yR⟩
instance:ag (dZ P all [] s R) (R s):=⟨Ca⟩
instance:ag (dZ P all (oo :: rest) s R) (∀K:AS->Prop,(∀s',dZ P all rest s' R->K s')->nv P all oo s K):=⟨H9⟩
instance:ag (nr P all tail [] s R) (dZ P all tail s R):=⟨yU⟩
instance:ag (yx P all [] k s bx R) (bx.all (fun b=>b.row.isSome)=true∧R (qe s bx)):=⟨En⟩
end
theorem wE {P:Program} {n0 id:Nat} {s:AS} {l:List Oper} {Q:aJ->AS->Prop} (h:dR P l l s (Q .normal)) (hB:gn l.toArray (oO l)=true:=by decide+kernel) (hC:c9 l.toArray=true:=by kernel_rfl):bK P n0 (.region id l.toArray true) s Q:=Ce hB hC h
theorem wK {P:Program} {all rest:List Oper} {oo:Oper} {s:AS} {Q:AS->Prop} (h: ∀K:AS->Prop,(∀s',dR P all rest s' Q->K s')->dT P all oo s K) (he:qF oo.op=false:=by decide):dR P all (oo :: rest) s Q:=Eo he h
theorem wF {P:Program} {all rest:List Oper} {oo:Oper} {s:AS} {Q:AS->Prop} (h:dZ P all (oo :: rest) s Q) (he:qF oo.op=true:=by decide):dR P all (oo :: rest) s Q:=yQ he h
end
section
def encS (s:ByteArray):List AV:=[.v (.string s)]
def encI (n:Int):List AV:=[.v (.int .i64 n)]
def IC (x:rU):List AV:=[.v (.int .i64 x.kind), .v (.string x.name), .v (.string x.key), .v (.int .i64 x.val.kind), .v (.int .i64 x.val.num), .v (.string x.val.text)]
def P9 (x:yL):List AV:=[.v (.int .i64 x.kind), .v (.int .i64 x.num), .v (.string x.text)]
def KU (x:Aw):List AV:=[.v (.int .i64 x.op), .v (.int .i64 x.left.kind), .v (.string x.left.name), .v (.string x.left.key), .v (.int .i64 x.left.val.kind), .v (.int .i64 x.left.val.num), .v (.string x.left.val.text),
 .v (.int .i64 x.right.kind), .v (.string x.right.name), .v (.string x.right.key), .v (.int .i64 x.right.val.kind), .v (.int .i64 x.right.val.num), .v (.string x.right.val.text)]
mutual
def bH:Ex->List AV
 | .mk k s l=>[.v (.int .i64 k), .v (.string s), .aI 3 (AT l) l.length]
def AT:List Ex->List (List AV)
 | []=>[]
 | x :: xs=>bH x :: AT xs
end
theorem kb: ∀l:List Ex,AT l=l.map bH
 | []=>rfl
 | x :: xs=>by rw [AT,kb xs,List.map_cons]
theorem aS (x:Ex):bH x=[.v (.int .i64 x.kind), .v (.string x.label), .aI 3 (x.kids.map bH) x.kids.length]:=by
 obtain ⟨k,s,l⟩:=x;rw [bH,kb];rfl
def E1 (p:lz):List AV:=[.v (.string p.aG), .v (.string p.to), .v (.bool p.path), .v (.string p.label), .v (.string p.name), .v (.int .i64 p.expr.kind), .v (.string p.expr.label), .aI 3 (p.expr.kids.map bH) p.expr.kids.length]
def KV (q:BS):List AV:=[.aI 8 (q.pt.map E1) q.pt.length, .aI 13 (q.conds.map KU) q.conds.length, .aI 6 (q.ret.map IC) q.ret.length, .v (.int .i64 q.range), .v (.int .i64 q.GA)]
def ez (l:List ByteArray):AV:= .aI 1 (l.map encS) l.length
def M6 (l:List Int):AV:= .aI 1 (l.map encI) l.length
theorem dc (n:Nat) (l:List ByteArray):bQ n (l.map encS)=true:=bg _ (fun _=>rfl) l
theorem JQ (n:Nat) (l:List Int):bQ n (l.map encI)=true:=bg _ (fun _=>rfl) l
theorem BB (n:Nat) (l:List rU):bQ n (l.map IC)=true:=bg _ (fun _=>rfl) l
theorem BA (n:Nat) (l:List Aw):bQ n (l.map KU)=true:=bg _ (fun _=>rfl) l
theorem kI (n:Nat) (x:Ex):ba n (bH x)=true:=by
 induction x using Ex.ind with
 | h k s l ih=>
  rw [bH,kb];simp only [ba,AV.wf,Um,Bool.true_and];exact vB (fun r hr=>by obtain ⟨x,hx,rfl⟩:=List.mem_map.1 hr;exact ih x hx)
theorem fF (n:Nat) (l:List Ex):bQ n (l.map bH)=true:=bg _ (kI n) l
theorem yn (n:Nat) (p:lz):ba n (E1 p)=true:=by simp only [E1,ba,AV.wf,fF,Um]
theorem BC (n:Nat) (l:List lz):bQ n (l.map E1)=true:=bg _ (yn n) l
theorem JR (n:Nat) (q:BS):ba n (KV q)=true:=by simp only [KV,ba,AV.wf,BC,BA,BB,Um]
attribute [go_sem] ez M6 encS encI IC P9 KU E1 KV dc JQ BB BA kI fF yn BC JR
@[go_sem] theorem getD_map {α β:Type} (f:α->β) (l:List α) (k:Nat) (d:β) (h:k<l.length):(l.map f).getD k d=f l[k]:=by
 simp [List.getD,h]
section
variable {D:Nat->Prop} {nu:Nat->Nat->Value} {o:List (Option aa)} {w:World} {P:Program}
theorem qh {b:Nat}: ∀ {cs:List Value} {off:Nat},(∀(j:Nat) v,cs[j]? = some v->w.cell? ⟨b,off+j,none⟩=some v)->cq w b off cs
 | [],_,_=>trivial
 | y :: cs,off,h=>⟨by simpa using h 0 y rfl,qh (off:=off+1) (fun j v hj=>by rw [show off+1+j=off+(j+1) by omega];exact h (j+1) v (by simpa using hj))⟩
def Hp (D:Nat->Prop) (nu:Nat->Nat->Value) (o:List (Option aa)) (w:World) (cs:List AV) (xs:List Value):Prop:=cs.length=xs.length∧ ∀(j:Nat) c x,cs[j]? = some c->xs[j]? = some x->RA D nu o w c x
theorem RA.Nr {α:Type} {z:Nat} {enc:α->List AV} {rd:α->List Value->Prop} {xs:List α} {v:Value} (h:RA D nu o w (.aI z (xs.map enc) xs.length) v) (hrd: ∀x,x∈xs-> ∀cs:List Value,Hp D nu o w (enc x) cs->rd x cs):dD w z rd xs v:=by
 generalize hn:xs.length=n at h;generalize hr:xs.map enc=rows at h
 cases h with
 | bf=>
  exact .inl ⟨.inl rfl,Un.1 hn⟩
 | bA _ a=>
  exact .inl ⟨.inr ⟨a,rfl⟩,Un.1 hn⟩
 | aI _ _ _ b off cap f h1 h2 h3 h4 h5 h6 h7 h8=>
  subst hr;simp only [List.length_map] at h2;refine .inr ⟨b,off,cap,by rw [hn],h2,h3,fun i x hx=> ?_⟩
  have hi:(xs.map enc)[i]? = some (enc x):=by rw [Tq,hx];rfl
  refine ⟨(List.range (enc x).length).map (f i),hrd x (TI hx) _ ⟨by simp,fun j c y hc hy=> ?_⟩,qh (fun j y hy=> ?_)⟩
  ·have hj:=(S7.1 hc).1;rw [Tq,Tr hj] at hy;cases hy;exact h7 i j _ c hi hc
  ·rw [Tq] at hy
   have hj:j<(enc x).length:=by
    rcases S9 j (enc x).length with q|q
    ·exact q
    ·rw [Tt (by simpa using q)] at hy;cases hy
   rw [Tr hj] at hy;cases hy;exact h6 i j _ _ hi (Tn hj)
theorem Gq {vs cs:List Value} (h:Hp D nu o w (vs.map AV.v) cs):cs=vs:=by
 apply List.ext_getElem?
 intro i;have hl:=h.1;simp only [List.length_map] at hl
 rcases S9 i vs.length with q|q
 ·have e1:(vs.map AV.v)[i]? = some (.v vs[i]):=by simp [q]
  have e2:cs[i]? = some cs[i]:=Tn (by omega)
  have:=(h.2 i _ _ e1 e2).bZ
  rw [e2,this,Tn q]
 ·rw [Tt q,Tt (by omega)]
theorem Gp: ∀(x:Ex) (cs:List Value),Hp D nu o w (bH x) cs->dI w x cs:=by
 intro x
 induction x using Ex.ind with
 | h k s l ih=>
  intro cs h;rw [bH,kb] at h;obtain ⟨hl,hr⟩:=h
  match cs,hl with
  | [a,b,c],_=>
   have h0:=(hr 0 _ a rfl rfl).bZ;have h1:=(hr 1 _ b rfl rfl).bZ;have h2:=hr 2 _ c rfl rfl;rw [dI];exact ⟨c,by rw [h0,h1],fB.2 (RA.Nr h2 (fun y hy cs' hc=>ih y hy cs' hc))⟩
theorem Gj {cs:List AV} {v:Value} (h:RA D nu o w (.agg cs) v): ∃xs:List Value,v = .agg xs.toArray∧Hp D nu o w cs xs:=by
 cases h with
 | agg _ xs h1 h2 h3=>exact ⟨xs.toList,by simp,by simpa using h1,fun j c x q1 q2=>h2 j c x q1 (by simpa using q2)⟩
theorem RA.xu {α:Type} {z:Nat} (hz:0<z) {enc:α->List AV} {rd:α->List Value->Prop} {xs:List α} {v:Value} (hD: ∀b off n c,v = .slice (some ⟨b,off,none⟩) n c->b<w.heap.size->D b) (h:dD w z rd xs v) (hlen: ∀x,(enc x).length=z)
  (hrd: ∀x,x∈xs-> ∀cs:List Value,rd x cs->Hp D nu [] w (enc x) cs∧ ∀y∈cs,y.oneCell'=true):RA D nu [] w (.aI z (xs.map enc) xs.length) v:=by
 rcases h with ⟨rfl|⟨a,rfl⟩,rfl⟩|⟨b,off,cap,rfl,h1,h2,h3⟩
 ·exact .bf z
 ·exact .bA z a
 ·have hex: ∀i:Nat, ∃cs:List Value, ∀x,xs[i]? = some x->rd x cs∧cq w b (off+i * z) cs:=fun i=>by
   cases hx:xs[i]? with
   | none=>exact ⟨[],fun x hx=>by cases hx⟩
   | some x=>
    obtain ⟨cs,q⟩:=h3 i x hx;exact ⟨cs,fun y hy=>by cases hy;exact q⟩
  let g:Nat->List Value:=fun i=>Classical.choose (hex i)
  have hg: ∀i x,xs[i]? = some x->rd x (g i)∧cq w b (off+i * z) (g i):=fun i x hx=>Classical.choose_spec (hex i) x hx
  have key: ∀(i j:Nat) row c,(xs.map enc)[i]? = some row->row[j]? = some c-> ∃y,(g i)[j]? = some y∧w.cell? ⟨b,off+i * z+j,none⟩=some y∧RA D nu [] w c y∧y.oneCell'=true:=by
   intro i j row c hi hj;rw [Tq] at hi
   cases hx:xs[i]? with
   | none=>rw [hx] at hi;cases hi
   | some x=>
    rw [hx] at hi;cases hi;obtain ⟨q1,q2⟩:=hg i x hx;obtain ⟨q3,q4⟩:=hrd x (TI hx) _ q1
    have hjl:j<(g i).length:=by rw [<-q3.1];exact (S7.1 hj).1
    have e:=Tn hjl;exact ⟨_,e,ic q2 j _ e,q3.2 j c _ hj e,q4 _ (TI e)⟩
  refine .aI z _ _ b off cap (fun i j=>(g i).getD j Go.undef) (by simp) (by simpa using h1) h2 (fun hne=> ?_) (fun i row hi=> ?_) (fun i j row c hi hj=> ?_) (fun i j row c hi hj=> ?_) (fun i j row c hi hj=> ?_)
  ·obtain ⟨x,xs',rfl⟩: ∃x xs',xs=x :: xs':=by
    cases xs with
    | nil=>exact absurd rfl hne
    | cons x xs'=>exact ⟨x,xs',rfl⟩
   obtain ⟨c,hc⟩: ∃c,(enc x)[0]? = some c:=⟨_,Tn (by rw [hlen x];exact hz)⟩;obtain ⟨y,_,q,_⟩:=key 0 0 (enc x) c (by simp) hc;have hlt:=ju q;exact ⟨hlt,bb _ _,hD _ _ _ _ rfl hlt⟩
  ·rw [Tq] at hi
   cases hx:xs[i]? with
   | none=>rw [hx] at hi;cases hi
   | some x=>rw [hx] at hi;cases hi;exact hlen x
  ·obtain ⟨y,q1,q2,_⟩:=key i j row c hi hj;rw [q2,getD_some q1]
  ·obtain ⟨y,q1,_,q3,_⟩:=key i j row c hi hj;rw [getD_some q1];exact q3
  ·obtain ⟨y,q1,_,_,q4⟩:=key i j row c hi hj;rw [getD_some q1];exact q4
theorem RA.uY (hD: ∀b,b<w.heap.size->D b) {α:Type} {z:Nat} (hz:0<z) {enc:α->List AV} {rd:α->List Value->Prop} {xs:List α} {v:Value} (h:dD w z rd xs v) (hlen: ∀x,(enc x).length=z)
  (hrd: ∀x,x∈xs-> ∀cs:List Value,rd x cs->Hp D nu [] w (enc x) cs∧ ∀y∈cs,y.oneCell'=true):RA D nu [] w (.aI z (xs.map enc) xs.length) v:=RA.xu hz (fun b _ _ _ _ hb=>hD b hb) h hlen hrd
theorem pd (vs:List Value):Hp D nu o w (vs.map AV.v) vs:=⟨by simp,fun j c x h1 h2=>by
 rw [Tq,h2] at h1;cases h1;exact .v x⟩
theorem xI {α:Type} {z:Nat} {rd:α->List Value->Prop} {xs:List α} {v:Value} (h:dD w z rd xs v):v.oneCell'=true:=by
 rcases h with ⟨rfl|⟨a,rfl⟩,_⟩|⟨b,off,cap,rfl,_⟩<;>rfl
theorem GM {l:List ByteArray} {v:Value} (hD: ∀b off n c,v = .slice (some ⟨b,off,none⟩) n c->D b) (h:lJ w l v):RA D nu [] w (ez l) v:=
 RA.xu (by omega) (fun b off n c e _=>hD b off n c e) h (fun _=>rfl) (fun x _ cs hc=>by subst hc;exact ⟨pd [.string x],by simp [Value.oneCell']⟩)
theorem E0 (x:Ex):(bH x).length=3:=by rw [aS];rfl
theorem M0 (hD: ∀b,b<w.heap.size->D b): ∀(x:Ex) (cs:List Value),dI w x cs->Hp D nu [] w (bH x) cs∧ ∀y∈cs,y.oneCell'=true:=by
 intro x
 induction x using Ex.ind with
 | h k s l ih=>
  intro cs h;rw [dI] at h;obtain ⟨sv,rfl,h⟩:=h;have h':=fB.1 h;have hs:=RA.uY (nu:=nu) hD (by omega:0<3) h' E0 (fun y hy cs hc=>ih y hy cs hc);have ho:=xI h';rw [bH,kb];refine ⟨⟨rfl,fun j c y h1 h2=> ?_⟩,by simp [Value.oneCell'] at ho ⊢; exact ho⟩
  match j,h1,h2 with
  | 0,h1,h2=>cases h1;cases h2;exact .v _
  | 1,h1,h2=>cases h1;cases h2;exact .v _
  | 2,h1,h2=>cases h1;cases h2;exact hs
  | j+3,h1,h2=>simp at h1
theorem ID {D:Nat->Prop} {nu:Nat->Nat->Value} {w:World} {v:Value} (hro:RO D nu [] w) {e:Ending} {w':World} (h:BT w v e w'):D9 D nu [] w (fun r' o'=>r' = .v v∧o'=[]) e w':=by
 obtain ⟨rfl,hb⟩:=h;exact ⟨v,nu,[], .v v,rfl,ak hb,hro.below hb, .v v,rfl,rfl⟩
theorem af.qT {f:FuncId} {args:List AV} {v:Value} (hc:df P f=true) (ha:ba 0 args=true) (h: ∀D nu w vargs,gk D nu [] w args vargs->Calls P f vargs w (BT w v)):af P f args (.v v):=
 ⟨⟨ha,rfl⟩,hc,fun D nu w vargs hro hra=>(h D nu w vargs hra).mono (fun e w' hr=>ID hro hr)⟩
theorem af.Bg {f:FuncId} {args:List AV} {l:List ByteArray} (hc:df P f=true) (ha:ba 0 args=true)
  (h: ∀D nu w vargs,gk D nu [] w args vargs->Calls P f vargs w (fun e w'=> ∃v,e = .returned v∧lJ w' l v∧Below w.heap.size w w'∧ ∀b off n c,v = .slice (some ⟨b,off,none⟩) n c->w.heap.size<=b)):af P f args (ez l):=
 ⟨⟨ha,by simp only [ez,AV.wf,dc]⟩,hc,fun D nu w vargs hro hra=>(h D nu w vargs hra).mono (fun e w' hr=>by
  obtain ⟨v,rfl,h1,hb,h2⟩:=hr
  exact ⟨v,nu,[],ez l,rfl,ak hb,hro.below hb,GM (fun b off n c e=>hro.up b (h2 b off n c e)) h1,rfl,rfl⟩)⟩
theorem af.args {f:FuncId} {args args':List AV} {r:AV} (h:af P f args r) (hw:ba 0 args'=true) (hl: ∀D nu w vargs,gk D nu [] w args' vargs->gk D nu [] w args vargs):af P f args' r:=
 ⟨⟨hw,h.1.2⟩,h.2.1,fun D nu w vargs hro hra=>h.2.2 D nu w vargs hro (hl D nu w vargs hra)⟩
theorem dP {a:AV} {vargs:Array Value} (h:gk D nu o w [a] vargs): ∃x,vargs = #[x]∧RA D nu o w a x:=by
 obtain ⟨x,hx⟩:=List.length_eq_one_iff.1 (by simpa using h.len.symm:vargs.toList.length=1)
 have e:vargs = #[x]:=by apply Array.ext';simpa using hx
 subst e;exact ⟨x,rfl,h.at' 0 a x rfl rfl⟩
end
open Go.RowKit Go.ChangeShapes Go.Deep
def DG (P:Program) (t:TypeId):Option (List (TypeId×Nat×Nat)):=match P.underlying t with
 | some (.struct fs)=>some (fs.toList.map fun f=>(f.type,f.offset,P.cellsOf f.type))
 | _=>none
section
variable {H:Type} {enc:TypeId×Value->H} {P:Program} {w:World}
def Td (enc:TypeId×Value->H) (P:Program) (w:World) (n:Nat) (t:TypeId) (cs:List Value):Prop:= ∃y,DataW.trod enc P w 0 (fun _=>true) true n t cs=some y∧ ∀k∈y.1.weights P t,k<=reachBytes
theorem pg {t:TypeId}: ∀ {l:List (DataW H)} {d:DataW H},d∈l-> ∀k∈d.weights P t,k∈DataW.weightsAll P t l
 | y :: l,d,hd,k,hk=>by
  rw [DataW.weightsAll,List.mem_append]
  rcases List.mem_cons.1 hd with rfl|hd
  ·exact .inl hk
  ·exact .inr (pg hd k hk)
theorem vu {n:Nat} {t:TypeId} {cs:List Value} (ht:P.underlying t=some (.int .i64)) (h:Td enc P w n t cs): ∃k,cs=[.int .i64 k]∧(Lit.int .i64 k).wf=true:=by
 obtain ⟨y,h,_⟩:=h;obtain ⟨k,rfl,_,hk⟩:=DataW.trod_int ht h;exact ⟨k,rfl,hk⟩
theorem oz {n:Nat} {t:TypeId} {cs:List Value} (ht:P.underlying t=some .string) (h:Td enc P w n t cs): ∃s,cs=[.string s]∧sc s:=by
 obtain ⟨y,h,hy⟩:=h;obtain ⟨s,rfl,rfl,hs⟩:=DataW.trod_string ht h;refine ⟨s,rfl, ?_⟩
 have:=hy s.data.toList.length (by rw [DataW.weights];exact List.mem_singleton.2 rfl)
 unfold reachBytes at this;unfold sc;have e:s.size=s.data.toList.length:=rfl;omega
theorem iU {n:Nat} {t:TypeId} {cs:List Value} {l:List (TypeId×Nat×Nat)} (hs:DG P t=some l) (h:Td enc P w n t cs) :
  ∃m,n=m+1∧cs.length=P.cellsOf t∧ ∀(i:Nat) T off sz,l[i]? = some (T,off,sz)->Td enc P w m T ((cs.drop off).take sz):=by
 obtain ⟨y,h,hy⟩:=h;unfold DG at hs
 split at hs
 ·rename_i fs ht;cases hs;obtain ⟨xs,m,rfl,rfl,h1,h2,h3⟩:=DataW.trod_struct ht h;refine ⟨m,rfl,h1,fun i T off sz hi=> ?_⟩;rw [Tq] at hi
  cases hf:fs[i]? with
  | none=>simp [hf] at hi
  | some f=>
   simp [hf] at hi;obtain ⟨rfl,rfl,rfl⟩:=hi
   have:=h3 i f hf
   have hlt:i<xs.length:=by rw [h2];exact (Array.getElem?_eq_some_iff.1 hf).1
   rw [Tn hlt] at this;refine ⟨_,this,fun k hk=>hy k ?_⟩;simp only [DataW.weights,ht];exact DataW.weights_mem_each (j:=i) (t:=f.type) (d:=xs[i].1) (by simp [hf]) (by simp [hlt]) k hk
 ·cases hs
theorem Ak {α:Type} [Inhabited α] {n:Nat} {t e:TypeId} {z:Nat} {v:Value} {rd:α->List Value->Prop} {okx:α->Prop} (ht:P.underlying t=some (.slice e)) (hz:P.cellsOf e=z) (hz0:0<z) (hby:0<P.bytesOf e)
  (h:Td enc P w n t [v]) (hrd: ∀m cs,n=m+1->Td enc P w m e cs-> ∃x,rd x cs∧okx x): ∃xs:List α,dD w z rd xs v∧(∀x,x∈xs->okx x)∧xs.length<=140737488355328:=by
 obtain ⟨y,h,hy⟩:=h
 rcases DataW.trod_slice ht h with ⟨h0,_⟩|⟨a,len,cap,elems,rest,m,rfl,h0,rfl,hb,hl,hm,hlen,hel,hsp,_⟩
 ·cases h0;exact ⟨[], .inl ⟨.inl rfl,rfl⟩,fun x hx=>(by cases hx),by simp⟩
 ·cases h0;rw [hz] at hel hsp;obtain ⟨hrl,hre⟩:=hsp rfl;have hw:=hy ((elems.length+rest.length) * P.bytesOf e) (by simp [DataW.weights,ht])
  have hln:len<=140737488355328:=by
   unfold reachBytes at hw
   have:elems.length+rest.length<=(elems.length+rest.length) * P.bytesOf e:=Nat.le_mul_of_pos_right _ hby
   omega
  by_cases hc:cap=0
  ·subst hc
   obtain rfl:len=0:=by omega
   exact ⟨[], .inl ⟨.inr ⟨a,rfl⟩,rfl⟩,fun x hx=>(by cases hx),by simp⟩
  ·have hspot:a.spot=none:=by
    have k: ∃u,((w.cells? 0 (a.add (0 * z)) z).bind (DataW.trod enc P w 0 (fun _=>true) true m e))=some u:=by
     rcases Nat.eq_zero_or_pos len with q|q
     ·subst q
      have:=hre 0 (by omega)
      rw [Tn (by omega)] at this;exact ⟨_,this⟩
     ·have:=hel 0 q
      rw [Tn (by omega)] at this;exact ⟨_,this⟩
    obtain ⟨u,hu⟩:=k;obtain ⟨cs,h1,_⟩:=Uo.1 hu;obtain ⟨_,h2,h3⟩:=World.cells?_some h1;have h4:=h3 0 hz0;rw [Tn (by omega)] at h4
    have:=World.cell?_spot h4
    simpa [Addr.add] using this
   obtain ⟨b,o,sp⟩:=a;cases hspot
   have hx: ∀i,i<len-> ∃x:α,okx x∧ ∃cs,rd x cs∧cq w b (o+i * z) cs:=fun i hi=>by
    have h1:=hel i hi;rw [Tn (by omega)] at h1;obtain ⟨cs,h2,h3⟩:=Uo.1 h1
    obtain ⟨x,q1,q2⟩:=hrd m cs rfl ⟨_,h3,fun k hk=>hy k (by
     simp only [DataW.weights,ht]
     refine List.mem_cons_of_mem _ (List.mem_append_left _ (pg (List.mem_map_of_mem (List.getElem_mem (l:=elems) (n:=i) (by omega))) k hk)))⟩
    obtain ⟨_,h4,h5⟩:=World.cells?_some h2;refine ⟨x,q2,cs,q1, ?_⟩
    have key: ∀(l:List Value) (off:Nat),(∀(j:Nat) v,l[j]? = some v->w.cell? ⟨b,off+j,none⟩=some v)->cq w b off l:=by
     intro l
     induction l with
     | nil=>exact fun _ _=>trivial
     | cons y l ih=>exact fun off h=>⟨by simpa using h 0 y rfl,ih (off+1) (fun j v hj=>by rw [show off+1+j=off+(j+1) by omega];exact h (j+1) v (by simpa using hj))⟩
    refine key cs _ (fun j v hj=> ?_);have hjl:=(S7.1 hj).1;have h6:=h5 j (by omega);rw [hj,Addr.add_lit,Addr.add_lit] at h6;exact h6
   obtain ⟨f,hf⟩:=choose_lt hx
   refine ⟨(List.range len).map f, .inr ⟨b,o,cap,by simp,by simpa using hl,hm,fun i x hi=> ?_⟩,fun x hx=> ?_,by simp;omega⟩
   ·rw [Tq] at hi
    have hil:i<len:=by
     rcases S9 i len with q|q
     ·exact q
     ·rw [Tt (by simpa using q)] at hi;cases hi
    rw [Tr hil] at hi;cases hi;exact (hf i hil).2
   ·obtain ⟨i,hi,rfl⟩:=List.mem_map.1 hx;exact (hf i (List.mem_range.1 hi)).1
end
section
variable {H:Type} {enc:TypeId×Value->H} {w:World}
instance:Inhabited Ex:=⟨.mk 0 ⟨#[]⟩ []⟩
instance:Inhabited rU:=⟨⟨0,⟨#[]⟩,⟨#[]⟩,⟨0,0,⟨#[]⟩⟩⟩⟩
instance:Inhabited Aw:=⟨⟨0,default,default⟩⟩
instance:Inhabited lz:=⟨⟨⟨#[]⟩,⟨#[]⟩,false,⟨#[]⟩,⟨#[]⟩,default⟩⟩
theorem Ox:Tryz.prog.underlying 3=some (.int .i64):=by kernel_rfl
theorem DJ:Tryz.prog.underlying 9=some .string:=by kernel_rfl
theorem SH:Tryz.prog.underlying 169=some (.int .i64):=by kernel_rfl
theorem SG:Tryz.prog.underlying 22=some (.int .i64):=by kernel_rfl
theorem Qn:DG Tryz.prog 171=some [(169,0,1),(3,1,1),(9,2,1)]:=by kernel_rfl
theorem P6:Tryz.prog.cellsOf 171=3:=by kernel_rfl
theorem Rx:DG Tryz.prog 25=some [(22,0,1),(9,1,1),(23,2,1)]:=by kernel_rfl
theorem P5:Tryz.prog.cellsOf 25=3:=by kernel_rfl
theorem Q1:Tryz.prog.underlying 23=some (.slice 25):=by kernel_rfl
theorem Sc:0<Tryz.prog.bytesOf 25:=of_decide_eq_true (by kernel_rfl)
theorem LJ {n:Nat} {cs:List Value} (h:Td enc Tryz.prog w n 171 cs): ∃x:yL,cs=x.cells∧x.ok:=by
 obtain ⟨m,_,hl,hf⟩:=iU Qn h;rw [P6] at hl
 match cs,hl with
 | [a,b,c],_=>
  obtain ⟨k,e0,_⟩:=vu SH (hf 0 _ _ _ rfl);obtain ⟨l,e1,_⟩:=vu Ox (hf 1 _ _ _ rfl);obtain ⟨s,e2,hs⟩:=oz DJ (hf 2 _ _ _ rfl);cases e0;cases e1;cases e2;exact ⟨⟨k,l,s⟩,rfl,hs⟩
theorem Oq: ∀(n:Nat) {cs:List Value},Td enc Tryz.prog w n 25 cs-> ∃x:Ex,dI w x cs∧x.ok:=by
 intro n
 induction n using Nat.strongRecOn with
 | _ n ih=>
  intro cs h;obtain ⟨m,rfl,hl,hf⟩:=iU Rx h;rw [P5] at hl
  obtain ⟨a,b,c,rfl⟩: ∃a b c,cs=[a,b,c]:=by
   rcases cs with _|⟨a,_|⟨b,_|⟨c,_|⟨d,cs⟩⟩⟩⟩
   ·cases hl
   ·cases hl
   ·cases hl
   ·exact ⟨a,b,c,rfl⟩
   ·simp at hl
  obtain ⟨k,e0,_⟩:=vu SG (hf 0 _ _ _ rfl);obtain ⟨s,e1,h1⟩:=oz DJ (hf 1 _ _ _ rfl);obtain ⟨xs,h2,h3,_⟩:=Ak Q1 P5 (by omega) Sc (hf 2 _ _ _ rfl) (rd:=dI w) (okx:=Ex.ok) (fun m' cs' hm hx=>ih m' (by omega) hx);cases e0;cases e1;exact ⟨.mk k s xs,by rw [dI];exact ⟨_,rfl,fB.2 h2⟩,by rw [Ex.ok];exact ⟨h1,nM.2 h3⟩⟩
end
open Go.ChangeShapes Go.WideShapes Go.ChangeAt Go.RowKit
theorem af.LK {P:Program} {f:FuncId} {args:List AV} {v:Value} (h:af P f args (.v v)) {w:World} {vargs:Array Value} (hr:gk (fun _=>True) (fun _ _=>Go.undef) [] w args vargs) (hG:dC (fun _=>True) (fun _ _=>Go.undef) [] w:=by exact fun g T cs hg=>by cases hg) :
  Calls P f vargs w (BT w v):=by
 refine (h.2.2 _ _ w vargs (RO.nil _ _ _ (fun _ _=>trivial) hG) hr).mono fun e w' hf=> ?_;obtain ⟨x,nu',o',r,rfl,hm,_,hx,rfl,rfl⟩:=hf;have e1:=hx.bZ;subst e1;exact ⟨rfl,hm.os,hm.tape,hm.output,hm.size,fun b hb=>(hm.keep b hb (bb _ _)).1⟩
section
variable {H:Type} {enc:TypeId×Value->H} {w:World}
end
open Go.ChangeShapes Go.WideShapes Go.ChangeAt Go.RowKit
section
variable {H:Type} {enc:TypeId×Value->H} {w:World}
theorem JK {v:Value} {d:DataW H} {ps:List MemPlace} (h:DataW.Trod enc Tryz.prog w 0 (fun _=>true) true 25 v d ps) (hw: ∀k∈d.weights Tryz.prog 25,k<=reachBytes) :
  ∃(x:Ex) (cx:List Value),v = .agg cx.toArray∧dI w x cx∧x.ok:=by
 obtain ⟨n,h⟩:=h;have ht:Td enc Tryz.prog w n 25 v.cells.toList:=⟨_,h,hw⟩;obtain ⟨m,_,hl,_⟩:=iU Rx ht;rw [P5] at hl;obtain ⟨x,h1,h2⟩:=Oq n ht
 cases v with
 | agg cs=>exact ⟨x,cs.toList,by simp,h1,h2⟩
 | _=>simp [Value.cells] at hl
theorem E3 {D:Nat->Prop} {nu:Nat->Nat->Value} (hD: ∀b,b<w.heap.size->D b) {x:Ex} {cx:List Value} (h:dI w x cx):RA D nu [] w (.agg (bH x)) (.agg cx.toArray):=by
 obtain ⟨h1,h2⟩:=M0 (nu:=nu) hD x cx h;exact .agg _ _ (by simpa using h1.1) (fun i c y hc hy=>h1.2 i c y hc (by simpa using hy)) (fun i y hy=>h2 y (TI (by simpa using hy)))
end
end
end Go.Proofs.YtlhhccmopfamhaaGreatDoor
