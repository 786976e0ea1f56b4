/- texts of one claim, one behind the other. -/
import Derived.Test.YtfflpdekojlnmaaGreatDoorXFen
import Derived.Test.YtfflpdekojlnmaaGreatDoorXAbsS
import Derived.OrdersIn
set_option linter.unusedSimpArgs false
set_option linter.unusedVariables false
set_option maxRecDepth 100000
set_option maxHeartbeats 16000000
open Array renaming getD_eq_getD_getElem? -> UY, getElem?_eq_getElem -> Up, any_eq_true' -> Vg, all_eq_true_iff_forall_mem -> UX
open Bool renaming and_eq_true -> UW, or_eq_true -> Vl
open List renaming getElem?_cons_zero -> Ve, getElem?_take_of_lt -> UE, getElem?_eq_some_iff -> Uc, range'_succ -> Vi, all_eq_true -> Vj, mem_range -> Vk, size_toArray -> UA, getElem?_toArray -> Us, getElem?_eq_getElem -> Uq, singleton_append -> U9, append_nil -> Vn, append_eq_nil_iff -> Vo, mem_cons_self -> Va, mem_cons_of_mem -> U8, length_append -> Ug, exists_cons_of_ne_nil -> Vp
open Nat renaming lt_or_ge -> Ue, sub_self -> Vf, le_refl -> T7, lt_trichotomy -> Vh, zero_le -> Ui, le_of_lt -> Vm
namespace Go.Proofs.YtfflpdekojlnmaaGreatDoor
open Go.RowKit
section
section
variable {P:Program} {ops:Array Oper}
def Is (ops:Array Oper) (m i j:Nat):Bool:=
 match ops[i]?,ops[j]? with
 | some oi,some oj=>(decide (m<=j)||aE ops j i||oi.apart ops oj) && !aE ops i j&&(match oi.dst with|some d=>oj.dst !=some d|none=>true)&&(decide (m<=j)||match oj.dst with|some d=> !(oi.looksAt ops).contains d|none=>true)
 | _,_=>true
def gd (ops:Array Oper) (m:Nat):Bool:=
 Region.noSelect ops&&decide (m<ops.size)&&(List.range ops.size).all (fun j=>(List.range j).all (fun i=>Is ops m i j)&&(!aE ops j j&&yQ ops j)) &&
 (List.range ops.size).all (fun t=>decide (t<m)||(List.range t).all (fun i=>(List.range (t+1)).any (fun i'=>decide (i<i')&&aE ops i' i)))
def mZ (st:Nat->(Act->World->Prop)->Act->World->Prop) (ops:Array Oper) (E:Act->World->Prop):Nat->Array Bool->Act->World->Prop
 | 0,listed,a,w=>Region.ready .any ops listed=[]∧E a w
 | fuel+1,listed,a,w=>(Region.ready .any ops listed=[]->E a w)∧ ∀i∈Region.ready .any ops listed,st i (mZ st ops E fuel (listed.setIfInBounds i true)) a w
def pt (st:Nat->(Act->World->Prop)->Act->World->Prop) (E:Act->World->Prop):List Nat->Act->World->Prop
 | []=>E
 | i :: r=>st i (pt st E r)
structure J1 (P:Program) (ops:Array Oper) (st:Nat->(Act->World->Prop)->Act->World->Prop):Prop where
 mono: ∀ {i:Nat} {K K':Act->World->Prop} {a:Act} {w:World},(∀a w,K a w->K' a w)->st i K a w->st i K' a w
 of: ∀ {i:Nat} {o:Oper} {S:Spec} {K:Act->World->Prop} {a:Act} {w:World},ops[i]? = some o->lp P ops S o a w->(∀v w2,S.p v w2->Below w.heap.size w w2->K (a.put o.dst v) w2)->st i K a w
theorem Dw {Q:Exit->Act->World->Prop}: ∀(fuel:Nat) (listed:Array Bool) (a:Act) (w:World),mZ (wpOp P ops Q) ops (Q .normal) fuel listed a w->wpAny P .any ops Q fuel listed a w
 | 0,_,_,_,h=>h
 | fuel+1,_,_,_,h=>⟨h.1,fun i hi=>wpOp_mono (fun _ _=>Dw fuel _ _ _) (h.2 i hi)⟩
theorem Dy {Q:Exit->Act->World->Prop}: ∀l:List Nat,wpOps P ops Q l=pt (wpOp P ops Q) (Q .normal) l
 | []=>by funext a w;simp [wpOps,pt]
 | i :: l=>by funext a w;rw [wpOps_cons,Dy l];rfl
theorem LJ (Q:Exit->Act->World->Prop):J1 P ops (wpOp P ops Q):=⟨fun h k=>wpOp_mono h k,fun {i o S K a w} hi h next=>by
 unfold wpOp;simp only [hi]
 rcases h with ⟨h1,h2⟩|⟨h1,h2⟩
 ·rw [if_pos h1];refine .inl ?_;unfold Oper.wp;generalize (execOp a.eval o).run P w=r at h2
  cases r with
  | halt _ _=>exact h2.elim
  | ok n w'=>
   cases n<;>first|exact h2.elim|skip
   case value u=>exact next _ _ h2.1 h2.2
   case skip=>exact next _ _ h2.1 h2.2
   case enter f args=>
    refine Calls.mono h2 fun e w'' he=> ?_;obtain ⟨v,rfl,hv,hb⟩:=he
    exact next _ _ hv hb
 ·rw [if_neg (by rw [h1];decide)]
  exact next _ _ h2 (Below.refl _ _)⟩
def Aa (P:Program) (ops:Array Oper) (Q:Exit->Act->World->Prop) (k:Nat):Act->World->Prop:=wpOps P ops Q (List.range' k (ops.size - k))
def mU (P:Program) (ops:Array Oper) (L:List Spec) (w0:World) (T:Nat->Act->World->Prop):List Oper->Nat->((Nat->Value)->Act)->Prop
 | [],k,A=> ∀x w,Below w0.heap.size w0 w->(∀i,i<k->(at' L i).p (x i) w)->T k (A x) w
 | o :: l,k,A=>(∀x w,Below w0.heap.size w0 w->(∀i,aE ops k i=true->(at' L i).p (x i) w)->lp P ops (at' L k) o (A x) w)∧mU P ops L w0 T l (k+1) (fun x=>(A x).put o.dst (x k))
def Ov (b:Bool) (n:Nat) (S:Spec):Spec:=⟨fun v w=>S.p v w∧(b=true-> ∀k,cf v=some k->n<=k),fun v w w' hb h=>⟨S.st v w w' hb h.1,h.2⟩⟩
def pc (P:Program) (ops:Array Oper) (L:List Spec) (fr:Nat->Bool) (w0:World) (T:Nat->Act->World->Prop):List Oper->Nat->((Nat->Value)->Act)->Prop
 | [],k,A=> ∀x w,Below w0.heap.size w0 w->(∀i,i<k->(at' L i).p (x i) w)->(∀i j,i<k->j<k->i≠j->fr i=true->fr j=true-> ∀b,cf (x i)=some b->cf (x j)≠some b)->T k (A x) w
 | o :: l,k,A=>(∀x w,Below w0.heap.size w0 w->(∀i,aE ops k i=true->(at' L i).p (x i) w)->(∀i j,aE ops k i=true->aE ops k j=true->i≠j->fr i=true->fr j=true-> ∀b,cf (x i)=some b->cf (x j)≠some b)->lp P ops (Ov (fr k) w.heap.size (at' L k)) o (A x) w)∧pc P ops L fr w0 T l (k+1) (fun x=>(A x).put o.dst (x k))
theorem lp.Ov {S:Spec} {o:Oper} {a:Act} {w:World} {n:Nat} (h:lp P ops S o a w):lp P ops (Ov false n S) o a w:=by
 rcases h with ⟨h1,h2⟩|⟨h1,h2⟩
 ·refine .inl ⟨h1, ?_⟩
  revert h2
  generalize (execOp a.eval o).run P w=r;intro h2
  cases r with
  | halt _ _=>exact h2.elim
  | ok n w'=>
   cases n<;>first|exact h2.elim|skip
   case value u=>exact ⟨⟨h2.1,fun h=>by cases h⟩,h2.2⟩
   case skip=>exact ⟨⟨h2.1,fun h=>by cases h⟩,h2.2⟩
   case enter f args=>
    refine Calls.mono h2 fun e w'' he=> ?_;obtain ⟨v,rfl,hv,hb⟩:=he;exact ⟨v,rfl,⟨hv,fun h=>by cases h⟩,hb⟩
 ·exact .inr ⟨h1,h2,fun h=>by cases h⟩
theorem kZ {L:List Spec} {w0:World} {T:Nat->Act->World->Prop}: ∀(l:List Oper) (k:Nat) (A:(Nat->Value)->Act),mU P ops L w0 T l k A->pc P ops L (fun _=>false) w0 T l k A
 | [],k,A,h=>fun x w h1 h2 _=>h x w h1 h2
 | o :: l,k,A,h=>⟨fun x w h1 h2 _=>(h.1 x w h1 h2).Ov,kZ l (k+1) _ h.2⟩
theorem qN {l:List Oper} {L:List Spec} {fr:Nat->Bool} {w0:World} {T:Nat->Act->World->Prop} {a0:Act} (hA:lL l) {m0:Nat} (hm:m0<=l.length): ∀(l':List Oper) (k:Nat) (A:(Nat->Value)->Act),(l.take m0).drop k=l'->k<=m0->(A=fun x=>da (fun i=>decide (i<k)) x l 0 a0) ->
  pc P l.toArray L fr w0 T l' k A->(∀j o,k<=j->j<m0->l[j]? = some o-> ∀x w,Below w0.heap.size w0 w->(∀i,aE l.toArray j i=true->(at' L i).p (x i) w)->(∀i i',aE l.toArray j i=true->aE l.toArray j i'=true->i≠i'->fr i=true->fr i'=true-> ∀b,cf (x i)=some b->cf (x i')≠some b)->lp P l.toArray (Ov (fr j) w.heap.size (at' L j)) o (da (fun i=>decide (i<j)) x l 0 a0) w)∧ ∀x w,Below w0.heap.size w0 w->(∀i,i<m0->(at' L i).p (x i) w)->(∀i j,i<m0->j<m0->i≠j->fr i=true->fr j=true-> ∀b,cf (x i)=some b->cf (x j)≠some b)->T m0 (da (fun i=>decide (i<m0)) x l 0 a0) w
 | [],k,A,hl,hk,hAx,h=>by
  have h1:k=m0:=by have:=congrArg List.length hl;simp at this;omega
  subst h1;subst hAx;refine ⟨fun j o h1 h2=>by omega,fun x w h1 h2 h3=> ?_⟩
  have:=h x w h1 h2 h3
  simpa using this
 | o :: l',k,A,hl,hk,hAx,h=>by
  have h1:k<m0:=by have:=congrArg List.length hl;simp at this;omega
  have h2:l[k]? = some o:=by
   have:=congrArg (fun m=>m[0]?) hl
   simp only [List.getElem?_drop,Nat.add_zero,Ve] at this
   rwa [UE h1] at this
  subst hAx
  have hrec:=qN hA hm l' (k+1) _ (by have:=congrArg List.tail hl;simpa using this) h1 (by
   funext x
   have hi:=jM (s:=fun i=>decide (i<k)) (x:=x) (v:=x k) l 0 k a0 hA h2 (by simp);rw [Nat.zero_add] at hi;rw [<-hi];refine bG l 0 a0 (fun i _ _=> ?_)
   by_cases hik:i=k
   ·subst hik;simp [b6,iD]
   ·have:(i<k+1)=(i<k):=by apply propext;omega
    simp [b6,iD,hik,this]) h.2
  refine ⟨fun j o' hj hjm ho=> ?_,hrec.2⟩
  by_cases hjk:j=k
  ·subst hjk;rw [h2] at ho;cases ho;exact h.1
  ·exact hrec.1 j o' (by omega) hjm ho
theorem Ad {s:Nat->Bool}: ∀n m,m<=n->(∀i,m<=i->i<n->s i=false)->n - m<=Ac s n
 | 0,m,_,_=>by omega
 | n+1,m,h,hs=>by
  rcases Ue n m with q|q
  ·omega
  ·have:=Ad (s:=s) n m q (fun i h1 h2=>hs i h1 (by omega))
   rw [Ac,hs n q (by omega)];simp;omega
theorem Jl {l:List Oper} {m0:Nat} {st:Nat->(Act->World->Prop)->Act->World->Prop} {E:Act->World->Prop} (hst:J1 P l.toArray st) (hnext: ∀t,m0<=t->t<l.length-> ∀i,i<t-> ∃i',i'<=t∧i<i'∧aE l.toArray i' i=true)
  (hback: ∀i j oi oj,i<j->l[i]? = some oi->l[j]? = some oj->aE l.toArray i j=false) (hself: ∀j,j<l.length->aE l.toArray j j=false) (hfar: ∀(j:Nat) (o:Oper),l[j]? = some o-> ∀e∈o.after,e.on<l.length) :
  ∀(fuel k:Nat) (listed:Array Bool) (a:Act) (w:World),listed.size=l.length->m0<=k->k<=l.length->(∀i,listed.getD i false=decide (i<k))->l.length - k<=fuel ->
   pt st E (List.range' k (l.length - k)) a w->mZ st l.toArray E fuel listed a w:=by
 intro fuel
 induction fuel with
 | zero=>
  intro k listed a w hsz hm hk hl hf h
  have e:k=l.length:=by omega
  subst e;rw [Vf] at h;refine ⟨?_,by simpa [pt] using h⟩;refine List.eq_nil_iff_forall_not_mem.2 (fun i hi=> ?_);obtain ⟨g1,o,g2, -⟩:=mem_ready.1 hi;have hil:i<l.length:=(Uc.1 (show l[i]? = some o by simpa using g2)).1
  have his:i<listed.size:=by omega
  have g3:=hl i
  rw [show listed.getD i false=false by
   simp only [UY,Up his,Option.getD_some] at g1 ⊢; exact g1] at g3
  simp [hil] at g3
 | succ fuel ih=>
  intro k listed a w hsz hm hk hl hf h
  have hread: ∀j,j∈Region.ready .any l.toArray listed->j=k∧k<l.length:=by
   intro j hj;obtain ⟨g1,o,g2,g3⟩:=mem_ready.1 hj
   have hoj:l[j]? = some o:=by simpa using g2
   have hjl:j<l.length:=(Uc.1 hoj).1
   have his:j<listed.size:=by omega
   have g4:=hl j
   rw [show listed.getD j false=false by
    simp only [UY,Up his,Option.getD_some] at g1 ⊢; exact g1] at g4
   have hkj:k<=j:=by
    rcases Ue j k with q|q
    ·simp [q] at g4
    ·exact q
   rcases Nat.eq_or_lt_of_le hkj with e|hlt
   ·exact ⟨e.symm,by omega⟩
   ·exfalso
    have hd: ∀i,aE l.toArray j i=true->listed.getD i false=true:=by
     intro i hi;simp only [aE,g2,UW,beq_iff_eq,Vg] at hi;obtain ⟨e,he,hb,rfl⟩:=hi;exact g3 e he hb
    have hsome: ∀n i,i+n+1=j->k<=i->False:=by
     intro n
     induction n using Nat.strongRecOn with
     | _ n ihn=>
      intro i hi hki;obtain ⟨i',q1,q2,q3⟩:=hnext j (by omega) hjl i (by omega)
      by_cases hi':i'=j
      ·subst hi'
       have:=hd i q3
       rw [hl i] at this;simp at this;omega
      ·exact ihn (j - 1 - i') (by omega) i' (by omega) (by omega)
    exact hsome (j - k - 1) k (by omega) (T7 _)
  refine ⟨fun h0=> ?_,fun j hj=> ?_⟩
  ·rcases Ue k l.length with q|q
   ·exfalso
    have hmem:k∈Region.ready .any l.toArray listed:=by
     refine mem_ready.2 ⟨?_,l[k],by simp [q],fun e he hb=> ?_⟩
     ·have hms:k<listed.size:=by omega
      have:=hl k
      simp [hms] at this ⊢; exact this
     ·have hd:aE l.toArray k e.on=true:=by
       have:l.toArray[k]? = some l[k]:=by simp [q]
       simp only [aE,this];simp only [Vg,UW,beq_iff_eq];exact ⟨e,he,hb,rfl⟩
      rcases Vh e.on k with h'|h'|h'
      ·rw [hl];simpa using h'
      ·rw [h',hself k q] at hd;cases hd
      ·by_cases hl':e.on<l.length
       ·have:=hback k e.on l[k] l[e.on] h' (by simp [q]) (by simp [hl'])
        rw [hd] at this;cases this
       ·exact absurd (hfar k l[k] (by simp [q]) e he) hl'
    rw [h0] at hmem;cases hmem
   ·have e:k=l.length:=by omega
    subst e;rw [Vf] at h;simpa [pt] using h
  ·obtain ⟨rfl,hlt⟩:=hread j hj
   have e:l.length - j=(l.length - (j+1))+1:=by omega
   rw [e,Vi] at h;simp only [pt] at h;refine hst.mono (fun a' w' h'=>ih (j+1) _ a' w' (by simpa using hsz) (by omega) hlt (fun i=> ?_) (by omega) h') h
   by_cases hij:i=j
   ·subst hij
    have:i<listed.size:=by omega
    simp [this]
   ·rw [show (listed.setIfInBounds j true).getD i false=listed.getD i false from getD_set_ne false (Ne.symm hij),hl i]
    have:(i<j+1)=(i<j):=by apply propext;omega
    simp [this]
theorem gx {st:Nat->(Act->World->Prop)->Act->World->Prop} {E:Act->World->Prop} {a:Act} {w:World} {l:List Oper} (L:List Spec) (fr:Nat->Bool) (hfr: ∀i v w,fr i=true->(at' L i).p v w-> ∀b,cf v=some b->b<w.heap.size) (m0:Nat) (hst:J1 P l.toArray st) (hB:gd l.toArray m0=true)
  (h:pc P l.toArray L fr w.drew (fun k=>pt st E (List.range' k (l.length - k))) (l.take m0) 0 (fun _=>a)):mZ st l.toArray E l.toArray.size (Array.replicate l.toArray.size false) a w.drew:=by
 simp only [gd,UW,Vj,Vk,UA,decide_eq_true_eq] at hB;obtain ⟨⟨⟨hns,hm0⟩,hall⟩,htail⟩:=hB;have hsel:=Region.noSelect_spec hns
 have hpair: ∀i j oi oj,i<j->l[i]? = some oi->l[j]? = some oj->(j<m0->aE l.toArray j i=true∨oi.apart l.toArray oj=true)∧aE l.toArray i j=false∧(∀e,oi.dst=some e->oj.dst≠some e)∧(j<m0-> ∀e,oj.dst=some e->e∉oi.looksAt l.toArray):=by
  intro i j oi oj hij hi hj;have hjn:=(Uc.1 hj).1
  have:=(hall j hjn).1 i hij
  simp only [Is,Us,hi,hj,UW,Vl,Bool.not_eq_true',decide_eq_true_eq] at this
  refine ⟨fun hlt=> ?_,this.1.1.2,fun e he=> ?_,fun hlt e he=> ?_⟩
  ·rcases this.1.1.1 with (h|h)|h
   ·omega
   ·exact .inl h
   ·exact .inr h
  ·have h3:=this.1.2;rw [he] at h3;simpa using h3
  ·have h3:=this.2;rw [he] at h3
   rcases h3 with h3|h3
   ·omega
   ·simpa using h3
 have hself: ∀j,j<l.length->aE l.toArray j j=false:=fun j hj=>by simpa using (hall j hj).2.1
 have hfar: ∀(j:Nat) (o:Oper),l[j]? = some o-> ∀e∈o.after,e.on<l.length:=fun j o hj e he=>by
  have:=(hall j (Uc.1 hj).1).2.2
  simp only [yQ,Us,hj,UX] at this;simpa using this e he
 have hnext: ∀t,m0<=t->t<l.length-> ∀i,i<t-> ∃i',i'<=t∧i<i'∧aE l.toArray i' i=true:=fun t ht htl i hit=>by
  have:=htail t htl
  simp only [Vl,decide_eq_true_eq,Vj,List.any_eq_true,Vk,UW] at this
  rcases this with h|h
  ·omega
  ·obtain ⟨i',h1,h2,h3⟩:=h i hit;exact ⟨i',by omega,h2,h3⟩
 have hA:lL l:=fun i j oi oj hi hj hij e he=>by
  rcases Nat.lt_or_gt_of_ne hij with h|h
  ·exact (hpair i j oi oj h hi hj).2.2.1 e he
  ·intro h2;exact (hpair j i oj oi h hj hi).2.2.1 e h2 he
 have hO:=qN (P:=P) (L:=L) (fr:=fr) (w0:=w.drew) (T:=fun k=>pt st E (List.range' k (l.length - k))) (a0:=a) hA (m0:=m0) (by omega) (l.take m0) 0 (fun _=>a) (by simp) (Ui _) (by
  funext x
  exact (show a=da (fun _=>false) x l 0 a from by
   have: ∀(l:List Oper) k,a=da (fun _=>false) x l k a:=by
    intro l
    induction l with
    | nil=>intro k;rfl
    | cons o l ih=>intro k;rw [da];exact ih (k+1)
   exact this l 0).trans (bG l 0 a (fun i _ _=>by simp))) h
 
 have hloose: ∀i j oi oj,i<m0->j<m0->l[i]? = some oi->l[j]? = some oj->i≠j->aE l.toArray j i=false-> ∀d,oi.dst=some d->d∉oj.looksAt l.toArray:=by
  intro i j oi oj him hjm hi hj hij hd
  rcases Nat.lt_or_gt_of_ne hij with h|h
  ·rcases (hpair i j oi oj h hi hj).1 hjm with h1|h1
   ·rw [hd] at h1;cases h1
   ·exact (Oper.apart_spec h1).1
  ·exact (hpair j i oj oi h hj hi).2.2.2 him
 
 have hsee: ∀(s s':Nat->Bool) x j oj,(∀i,m0<=i->s i=false∧s' i=false)->j<m0->l[j]? = some oj->s j=false->s' j=false->(∀i,i<l.length->aE l.toArray j i=true->s i=true∧s' i=true) ->
   execOp (da s x l 0 a).eval oj=execOp (da s' x l 0 a).eval oj∧Region.wanted oj (yielded l.toArray (da s x l 0 a).tmps)=Region.wanted oj (yielded l.toArray (da s' x l 0 a).tmps):=by
  intro s s' x j oj hst hjm hj h1 h2 hd
  have one:=fun (s:Nat->Bool) (hs0: ∀i,m0<=i->s i=false) (hs:s j=false)=>qn (ops:=l.toArray) (s:=s) (keep:=aE l.toArray j) (x:=x) (a:=a) hA (fun cs b=>hsel j oj cs b (by simpa using hj))
   (fun i oi hi hsi hk=>hloose i j oi oj (by rcases Ue i m0 with q|q;exact q;rw [hs0 i q] at hsi;cases hsi) hjm hi hj (by intro e;subst e;rw [hsi] at hs;cases hs) hk)
  obtain ⟨a1,a2⟩:=one s (fun i hi=>(hst i hi).1) h1;obtain ⟨b1,b2⟩:=one s' (fun i hi=>(hst i hi).2) h2
  have e:da (fun i=>s i&&aE l.toArray j i) x l 0 a=da (fun i=>s' i&&aE l.toArray j i) x l 0 a:=bG l 0 a (fun i _ hi=>by
   refine ⟨?_,fun _=>rfl⟩
   cases hk:aE l.toArray j i
   ·simp
   ·obtain ⟨c1,c2⟩:=hd i (by omega) hk
    simp [c1,c2])
  exact ⟨by rw [a1,b1,e],by rw [a2,b2,e]⟩
 have main: ∀fuel (listed:Array Bool) x w1,listed.size=l.length->Below w.drew.heap.size w.drew w1->(∀i,listed.getD i false=true->(at' L i).p (x i) w1) ->
   (∀j i,listed.getD j false=true->aE l.toArray j i=true->listed.getD i false=true)->(∀i,m0<=i->listed.getD i false=false)->(∀i j,listed.getD i false=true->listed.getD j false=true->i≠j->fr i=true->fr j=true-> ∀b,cf (x i)=some b->cf (x j)≠some b)->Ac (fun i=>listed.getD i false) l.length<=fuel ->
   mZ st l.toArray E fuel listed (da (fun i=>listed.getD i false) x l 0 a) w1:=by
  intro fuel
  induction fuel with
  | zero=>
   intro listed x w1 _ _ _ _ hlast _ hu
   have:=xX (s:=fun i=>listed.getD i false) l.length (i:=m0) hm0 (hlast m0 (T7 _))
   omega
  | succ fuel ih=>
   intro listed x w1 hsz hE hF hcl hlast hpr hu
   have hmemR: ∀j,j∈Region.ready .any l.toArray listed-> ∃oj,l[j]? = some oj∧listed.getD j false=false∧ ∀i,aE l.toArray j i=true->listed.getD i false=true:=by
    intro j hj;obtain ⟨h1,o,ho,h3⟩:=mem_ready.1 hj
    refine ⟨o,by simpa using ho, ?_,fun i hi=> ?_⟩
    ·rcases Ue j listed.size with h'|h'
     ·simp [h'] at h1 ⊢; exact h1
     ·simp [Array.getElem?_eq_none h']
    ·simp only [aE,ho,UW,beq_iff_eq,Vg] at hi;obtain ⟨e,he,hb,rfl⟩:=hi;exact h3 e he hb
   refine ⟨fun h0=> ?_,fun j hj=> ?_⟩
   ·
    exfalso
    have hex: ∃m,m<l.length∧listed.getD m false=false∧ ∀i,i<m->listed.getD i false=true:=by
     have: ∀k,k<=l.length->(∀i,i<k->listed.getD i false=true)∨ ∃m,m<l.length∧listed.getD m false=false∧ ∀i,i<m->listed.getD i false=true:=by
      intro k
      induction k with
      | zero=>exact fun _=> .inl (fun i hi=>by omega)
      | succ k ihk=>
       intro hk
       rcases ihk (by omega) with h|h
       ·cases hc:listed.getD k false
        ·exact .inr ⟨k,by omega,hc,h⟩
        ·exact .inl (fun i hi=>by
          by_cases e:i=k
          ·subst e;exact hc
          ·exact h i (by omega))
       ·exact .inr h
     rcases this l.length (T7 _) with h|h
     ·have:=h m0 hm0
      rw [hlast m0 (T7 _)] at this;cases this
     ·exact h
    obtain ⟨m,hm1,hm2,hm3⟩:=hex
    have hmem:m∈Region.ready .any l.toArray listed:=by
     refine mem_ready.2 ⟨?_,l[m],by simp [hm1],fun e he hb=> ?_⟩
     ·have hms:m<listed.size:=by omega
      simp [hms] at hm2 ⊢; exact hm2
     ·have hd:aE l.toArray m e.on=true:=by
       have:l.toArray[m]? = some l[m]:=by simp [hm1]
       simp only [aE,this];simp only [Vg,UW,beq_iff_eq];exact ⟨e,he,hb,rfl⟩
      rcases Vh e.on m with h|h|h
      ·exact hm3 _ h
      ·rw [h,hself m hm1] at hd;cases hd
      ·by_cases hl:e.on<l.length
       ·have:=(hpair m e.on l[m] l[e.on] h (by simp [hm1]) (by simp [hl])).2.1
        rw [hd] at this;cases this
       ·exact absurd (hfar m l[m] (by simp [hm1]) e he) hl
    rw [h0] at hmem;cases hmem
   ·obtain ⟨oj,hoj,hun,hdeps⟩:=hmemR j hj;have hjl:=(Uc.1 hoj).1
    have hsj:(listed.setIfInBounds j true).size=l.length:=by simpa using hsz
    have hgd: ∀i,(listed.setIfInBounds j true).getD i false=b6 (fun i=>listed.getD i false) j i:=by
     intro i
     by_cases hij:i=j
     ·subst hij
      have:i<listed.size:=by omega
      simp [b6,this]
     ·simp only [b6,if_neg hij];exact getD_set_ne false (Ne.symm hij)
    have hup: ∀t,m0<=t->t<l.length->(∀i,aE l.toArray t i=true->listed.getD i false=true)-> ∀k i,i+k+1=t->listed.getD i false=true:=by
     intro t h1 h2 hdt k
     induction k using Nat.strongRecOn with
     | _ k ihk=>
      intro i hi;obtain ⟨i',q1,q2,q3⟩:=hnext t h1 h2 i (by omega)
      by_cases hi':i'=t
      ·subst hi';exact hdt i q3
      ·exact hcl i' i (ihk (t - 1 - i') (by omega) i' (by omega)) q3
    by_cases hjn:m0<=j
    ·
     have hj0:j=m0:=by
      rcases Nat.eq_or_lt_of_le hjn with e|hlt
      ·exact e.symm
      ·have:=hup j hjn hjl hdeps (j - m0 - 1) m0 (by omega)
       rw [hlast m0 (T7 _)] at this;cases this
     subst hj0;have hall': ∀i,i<j->listed.getD i false=true:=fun i hi=>hup j hjn hjl hdeps (j - i - 1) i (by omega);have h2:=hO.2 x w1 hE (fun i hi=>hF i (hall' i hi)) (fun i k hi hk=>hpr i k (hall' i hi) (hall' k hk))
     have e:da (fun i=>decide (i<j)) x l 0 a=da (fun i=>listed.getD i false) x l 0 a:=bG l 0 a (fun i _ hi=>by
      refine ⟨?_,fun _=>rfl⟩
      by_cases hij:i<j
      ·simp only [hij,decide_true];exact (hall' i hij).symm
      ·simp only [hij,decide_false];exact (hlast i (by omega)).symm)
     rw [e] at h2
     have hrun:=Jl (P:=P) (st:=st) (E:=E) (l:=l) (m0:=j) hst (fun t h1 h2=>hnext t h1 h2) (fun i k oi ok hik h1 h2=>(hpair i k oi ok hik h1 h2).2.1) hself hfar (fuel+1) j listed _ w1 hsz (T7 _) (Vm hjl) (fun i=>by
      by_cases hij:i<j
      ·simp only [hij,decide_true];exact hall' i hij
      ·simp only [hij,decide_false];exact hlast i (by omega)) (by
      have:=Ad (s:=fun i=>listed.getD i false) l.length j (Vm hjl) (fun i h1 _=>hlast i h1)
      omega) h2
     exact hrun.2 j hj
    ·have hjm:j<m0:=by omega
     have hst2:=hO.1 j oj (Ui _) hjm hoj x w1 hE (fun i hi=>hF i (hdeps i hi)) (fun i k hi hk=>hpr i k (hdeps i hi) (hdeps k hk))
     obtain ⟨c1,c2⟩:=hsee (fun i=>listed.getD i false) (fun i=>decide (i<j)) x j oj (fun i hi=>⟨hlast i hi,by simp;omega⟩) hjm hoj hun (by simp) (fun i hi hd=>⟨hdeps i hd,by
      rcases Vh i j with h|h|h
      ·simpa using h
      ·rw [h,hself j hjl] at hd;cases hd
      ·have:=(hpair j i oj l[i] h hoj (by simp [hi])).2.1
       rw [hd] at this;cases this⟩)
     have next: ∀v w2,(Ov (fr j) w1.heap.size (at' L j)).p v w2->Below w1.heap.size w1 w2->mZ st l.toArray E fuel (listed.setIfInBounds j true) ((da (fun i=>listed.getD i false) x l 0 a).put oj.dst v) w2:=by
      intro v w2 hvf hb;obtain ⟨hv,hvn⟩:=hvf;have hi:=jM (s:=fun i=>listed.getD i false) (x:=x) (v:=v) l 0 j a hA hoj (by simpa using hun);rw [Nat.zero_add] at hi;rw [<-hi, <- show (fun i=>(listed.setIfInBounds j true).getD i false)=b6 (fun i=>listed.getD i false) j from funext hgd]
      refine ih _ _ w2 hsj (Gw hE hb) (fun i hi'=> ?_) (fun j' i hj' hd=> ?_) ?_ ?_ ?_
      ·rw [hgd] at hi'
       by_cases hij:i=j
       ·subst hij;simpa [iD] using hv
       ·simp only [b6,if_neg hij] at hi';simp only [iD,if_neg hij];exact (at' L i).st _ _ _ hb (hF i hi')
      ·rw [hgd] at hj' ⊢
       by_cases hij:i=j
       ·simp [b6,hij]
       ·simp only [b6,if_neg hij]
        by_cases hj2:j'=j
        ·subst hj2;exact hdeps i hd
        ·simp only [b6,if_neg hj2] at hj';exact hcl j' i hj' hd
      ·intro i hi;rw [hgd]
       have:i≠j:=by omega
       simp only [b6,if_neg this];exact hlast i hi
      ·intro i k hi hk hik fi fk b hbi hbk;rw [hgd] at hi hk
       have old: ∀i,b6 (fun i=>listed.getD i false) j i=true->i≠j->listed.getD i false=true:=fun i h1 h2=>by simpa only [b6,if_neg h2] using h1
       by_cases hij:i=j
       ·subst hij;have hkj:k≠i:=fun e=>hik e.symm;simp only [iD,if_true,if_neg hkj] at hbi hbk
        have:=hfr k _ w1 fk (hF k (old k hk hkj)) b hbk
        have:=hvn fi b hbi
        omega
       ·by_cases hkj:k=j
        ·subst hkj;simp only [iD,if_true,if_neg hij] at hbi hbk
         have:=hfr i _ w1 fi (hF i (old i hi hij)) b hbi
         have:=hvn fk b hbk
         omega
        ·simp only [iD,if_neg hij,if_neg hkj] at hbi hbk;exact hpr i k (old i hi hij) (old k hk hkj) hik fi fk b hbi hbk
      ·rw [kA (s':=b6 (fun i=>listed.getD i false) j) l.length (fun i _=>hgd i)]
       have:=px (s:=fun i=>listed.getD i false) (i:=j) l.length hjl hun
       omega
     unfold lp at hst2;rw [<-c1, <- c2] at hst2
     exact hst.of (by simpa using hoj) hst2 next
 have hrep: ∀i,(Array.replicate l.toArray.size false).getD i false=false:=fun i=>by
  simp only [UY,Array.getElem?_replicate];split<;>rfl
 have h0:=main l.toArray.size (Array.replicate l.toArray.size false) (fun _=>undef) w.drew (by simp) (Below.refl _ _)
  (fun i hi=>by rw [hrep] at hi;cases hi) (fun j i hj=>by rw [hrep] at hj;cases hj) (fun i _=>hrep i) (fun i j hi=>by rw [hrep] at hi;cases hi) (xW _)
 have e:da (fun i=>(Array.replicate l.toArray.size false).getD i false) (fun _=>undef) l 0 a=a:=by
  have: ∀(l':List Oper) k,da (fun i=>(Array.replicate l.toArray.size false).getD i false) (fun _=>undef) l' k a=a:=by
   intro l'
   induction l' with
   | nil=>intro k;rfl
   | cons o l' ih=>intro k;rw [da,hrep];exact ih (k+1)
  exact this l 0
 rw [e] at h0;exact h0
theorem LQ (Q:Exit->Act->World->Prop) (l:List Oper):Aa P l.toArray Q=fun k=>pt (wpOp P l.toArray Q) (Q .normal) (List.range' k (l.length - k)):=by
 funext k;rw [Aa,Dy];simp only [UA]
theorem jY {Q:Exit->Act->World->Prop} {a:Act} {w:World} {l:List Oper} (L:List Spec) (fr:Nat->Bool) (hfr: ∀i v w,fr i=true->(at' L i).p v w-> ∀b,cf v=some b->b<w.heap.size) (m0:Nat) (hB:gd l.toArray m0=true)
  (h:pc P l.toArray L fr w.drew (Aa P l.toArray Q) (l.take m0) 0 (fun _=>a)):wpAny P .any l.toArray Q l.toArray.size (Array.replicate l.toArray.size false) a w.drew:=
 Dw _ _ _ _ (gx L fr hfr m0 (LJ Q) hB (by rw [<-LQ];exact h))
theorem qV {Q:Exit->Act->World->Prop} {a:Act} {w:World} {l:List Oper} (L:List Spec) (m0:Nat) (hB:gd l.toArray m0=true)
  (h:mU P l.toArray L w.drew (Aa P l.toArray Q) (l.take m0) 0 (fun _=>a)):wpAny P .any l.toArray Q l.toArray.size (Array.replicate l.toArray.size false) a w.drew:=
 jY L (fun _=>false) (fun i v w h=>by cases h) m0 hB (kZ _ _ _ h)
end
end
section
section
variable {D:Nat->Prop} {nu:Nat->Nat->Value} {o:List (Option aa)} {w:World} {P:Program}
def pG (P:Program) (all:List Oper) (oo:Oper) (s:AS) (K:AS->Prop):Prop:=match oo.guard with
 | none=>x8 P oo.op s (fun r o'=>K (s.put oo.dst r o'))
 | some (j,want)=>uk (iP all s j) want (x8 P oo.op s (fun r o'=>K (s.put oo.dst r o'))) (K (s.put oo.dst (.v Go.undef) s.o))
def dM (P:Program) (all:List Oper):List Oper->AS->(AS->Prop)->Prop
 | [],s,Q=>Q s
 | oo :: rest,s,Q=>pG P all oo s (fun s'=>dM P all rest s' Q)
def dG (P:Program) (all:List Oper) (B:AS->Prop):List Oper->AS->Prop
 | [],s=>B s
 | oo :: rest,s=>match oo.guard with
  | none=>bR P oo.op s (fun r=>dG P all B rest (s.put oo.dst r s.o))
  | some (j,want)=>uk (iP all s j) want (bR P oo.op s (fun r=>dG P all B rest (s.put oo.dst r s.o))) (dG P all B rest (s.put oo.dst (.v Go.undef) s.o))
abbrev pD (P:Program) (all tail:List Oper) (l:List Oper) (s:AS) (Q:AS->Prop):Prop:=dG P all (fun s=>dM P all tail s Q) l s
theorem kI {f:Fr} {l:List Oper} {R:Exit->Act->World->Prop}: ∀(tail:List Oper) (k:Nat) (s:AS) (a:Act) (w:World) (nu:Nat->Nat->Value),l.drop k=tail->k<=l.length->RS f D nu s a w-> ∀ {Q:AS->Prop},dM P l tail s Q ->
  (∀s' a' w' nu',bI nu s.o w nu' s'.o w'->s'.y=s.y->RS f D nu' s' a' w'->Q s'->R .normal a' w')->wpOps P l.toArray R (List.range' k (l.length - k)) a w
 | [],k,s,a,w,nu,hl,hk,hs,Q,h,hR=>by
  have e:k=l.length:=by have:=congrArg List.length hl;simp at this;omega
  subst e;rw [Vf];simpa [wpOps] using hR s a w nu (.refl _ _ _) rfl hs h
 | oo :: rest,k,s,a,w,nu,hl,hk,hs,Q,h,hR=>by
  have hlt:k<l.length:=by have:=congrArg List.length hl;simp at this;omega
  have hok:l[k]? = some oo:=by have:=congrArg (fun m=>m[0]?) hl;simpa using this
  have hl':l.drop (k+1)=rest:=by have:=congrArg List.tail hl;simpa using this
  have e:l.length - k=(l.length - (k+1))+1:=by omega
  rw [e,Vi,wpOps_cons];unfold wpOp;simp only [Us,hok]
  have hdo:x8 P oo.op s (fun r o'=>dM P l rest (s.put oo.dst r o') Q)->Region.wanted oo (yielded l.toArray a.tmps)=true->(if Region.wanted oo (yielded l.toArray a.tmps)=true then oo.wp P a w (wpOps P l.toArray R (List.range' (k+1) (l.length - (k+1)))) R∨oo.asks P a w∧LetsOut R else wpOps P l.toArray R (List.range' (k+1) (l.length - (k+1))) (a.put oo.dst Go.undef) w):=by
   intro hd hw;rw [if_pos hw];exact .inl (rO (P:=P) hs.ro (fun y _=>hs.ev y) hd (fun v w' nu' r o' m1 m2 m3 m4=>kI rest (k+1) (s.put oo.dst r o') _ w' nu' hl' hlt (hs.put m1 m2 m3 oo.dst) m4 (fun s' a' w2 nu2 q1 q2 q3 q4=>hR s' a' w2 nu2 (by simpa only [AS.put] using m1.trans q1) (q2.trans rfl) q3 q4)))
  have hskip:dM P l rest (s.put oo.dst (.v Go.undef) s.o) Q->Region.wanted oo (yielded l.toArray a.tmps)=false->(if Region.wanted oo (yielded l.toArray a.tmps)=true then oo.wp P a w (wpOps P l.toArray R (List.range' (k+1) (l.length - (k+1)))) R∨oo.asks P a w∧LetsOut R else wpOps P l.toArray R (List.range' (k+1) (l.length - (k+1))) (a.put oo.dst Go.undef) w):=by
   intro hd hw;rw [if_neg (by rw [hw];decide)];exact kI rest (k+1) (s.put oo.dst (.v Go.undef) s.o) _ w nu hl' hlt (hs.put (.refl _ _ _) hs.ro (.v _) oo.dst) hd (fun s' a' w2 nu2 q1 q2 q3 q4=>hR s' a' w2 nu2 (by simpa only [AS.put] using q1) (q2.trans rfl) q3 q4)
  simp only [dM,pG] at h
  split at h
  ·rename_i hg;exact hdo h (by simp [Region.wanted,hg])
  ·rename_i j want hg;have hyv: ∀g,iP l s j=some g->yielded l.toArray a.tmps j=g:=fun g hgv=>gC (D:=D) (nu:=nu) (w:=w) (fun d c v hd h1 h2=>hs.tm.at' d c v h1 h2) hs.tm.len hgv;unfold uk at h
   split at h
   ·rename_i b e
    cases hb:b==want
    ·rw [hb] at h;exact hskip h (by simp only [Region.wanted,hg,hyv _ e];simpa using hb)
    ·rw [hb] at h;exact hdo h (by simp only [Region.wanted,hg,hyv _ e];simpa using hb)
   ·rename_i e;exact hskip h (by simp only [Region.wanted,hg,hyv _ e];rfl)
   ·exact h.elim
theorem BN {l:List Oper} {m0:Nat} (hB:gd l.toArray m0=true) {i j:Nat} {oi oj:Oper} (hij:i<j) (hi:l[i]? = some oi) (hj:l[j]? = some oj) (hjm:j<m0):aE l.toArray j i=true∨ ∀d,oi.dst=some d->d∉oj.looksAt l.toArray:=by
 simp only [gd,UW,Vj,Vk,UA] at hB;have hjn:=(Uc.1 hj).1
 have:=(hB.1.2 j hjn).1 i hij
 simp only [Is,Us,hi,hj,UW,Vl,Bool.not_eq_true',decide_eq_true_eq] at this
 rcases this.1.1.1 with (h|h)|h
 ·omega
 ·exact .inl h
 ·exact .inr (Oper.apart_spec h).1
theorem gX {f:Fr} {l:List Oper} {m0:Nat} (hm0:m0<=l.length) (hB:gd l.toArray m0=true) {s:AS} {a:Act} {w0:World} {B:AS->Prop} {T:Nat->Act->World->Prop} (hs:RS f D nu s a w0)
  (hT: ∀sk a' wr,Below w0.heap.size w0 wr->sk.o=s.o->sk.y=s.y->RS f D nu sk a' wr->B sk->T m0 a' wr) :
  ∀(rest:List Oper) (k:Nat) (sk:AS) (rs:List AV) (A:(Nat->Value)->Act),(l.take m0).drop k=rest->k<=m0->DG l s a k sk rs A->dG P l B rest sk-> ∃rs',mU P l.toArray ((rs++rs').map (cB D nu s.o)) w0 T rest k A
 | [],k,sk,rs,A,hl,hk,hI,h=>by
  have hkm:k=m0:=by have:=congrArg List.length hl;simp at this;omega
  subst hkm;refine ⟨[],fun x wr hE hD=> ?_⟩;have hro:RO D nu s.o wr:=hs.ro.below hE
  have hsk:RS f D nu sk (A x) wr:=by
   refine ⟨by rw [hI.o];exact hro,⟨hI.size x,fun t c v h1 h2=> ?_⟩,by rw [hI.jm x];exact hs.jm.mono hs.ro (aw hE)⟩;rw [hI.o]
   rcases hI.val x t c v h1 h2 with ⟨h3,h4⟩|⟨i,q1,q2,q3,q4⟩
   ·exact (hs.tm.at' t c v h3 h4).mono (aw hE) (fun _ _ h=>h)
   ·have:=hD i q1
    rw [jD q3] at this;rw [q4];exact this.2
  exact hT sk (A x) wr hE hI.o hI.y hsk h
 | oo :: rest,k,sk,rs,A,hl,hk,hI,h=>by
  have hkm:k<m0:=by have:=congrArg List.length hl;simp at this;omega
  have hok:l[k]? = some oo:=by
   have:=congrArg (fun m=>m[0]?) hl
   simp only [List.getElem?_drop,Nat.add_zero,Ve] at this
   rwa [UE hkm] at this
  have hl':(l.take m0).drop (k+1)=rest:=by have:=congrArg List.tail hl;simpa using this
  
  have hlook: ∀x wr,Below w0.heap.size w0 wr->(∀rs' i,aE l.toArray k i=true->i<k->(at' ((rs++rs').map (cB D nu s.o)) i).p (x i) wr)-> ∀(t:Nat) c v,t∈oo.looksAt l.toArray->sk.t[t]? = some c->(A x).tmps[t]? = some v->RA D nu s.o wr c v:=by
   intro x wr hE hD t c v ht h1 h2
   rcases hI.val x t c v h1 h2 with ⟨h3,h4⟩|⟨i,q1,⟨oi,q2,q5⟩,q3,q4⟩
   ·exact (hs.tm.at' t c v h3 h4).mono (aw hE) (fun _ _ h=>h)
   ·rcases BN hB q1 q2 hok hkm with h5|h5
    ·have:=hD [] i h5 q1
     rw [jD q3] at this;rw [q4];exact this.2
    ·exact absurd ht (h5 t q5)
  have hevs: ∀x wr,Below w0.heap.size w0 wr->(∀rs' i,aE l.toArray k i=true->i<k->(at' ((rs++rs').map (cB D nu s.o)) i).p (x i) wr)->F0 D nu s.o wr sk.ev (A x).eval oo.op:=by
   intro x wr hE hD y hy
   cases y with
   | tmp t=>
    simp only [AS.ev,Act.eval]
    rcases Ue t sk.t.length with hlt|hge
    ·have e1:sk.t[t]? = some sk.t[t]:=Uq hlt
     have hlt':t<(A x).tmps.size:=by rw [<-hI.size x];exact hlt
     have hx:(A x).tmps[t]? = some (A x).tmps[t]:=Up hlt';rw [getD_some e1]
     have:(A x).tmps.getD t Go.undef=(A x).tmps[t]:=by simp [Array.getD,hlt']
     rw [this];exact hlook x wr hE hD t _ _ (List.mem_append_left _ (List.mem_filterMap.2 ⟨.tmp t,hy,rfl⟩)) e1 hx
    ·rw [List.getD_eq_getElem?_getD,List.getElem?_eq_none hge];exact .undef _
   | const v=>exact .v v
   | global gi=>exact (mK hs.ro sk gi).mono (aw hE) (fun _ _ h=>h)
   | func f=>exact .fn f [] [] #[] #[] rfl rfl (fun i c x h=>by simp at h) (fun i c x h=>by simp at h)
  
  have hdo:bR P oo.op sk (fun r=>dG P l B rest (sk.put oo.dst r sk.o))->(∀x wr,Below w0.heap.size w0 wr->(∀rs' i,aE l.toArray k i=true->i<k->(at' ((rs++rs').map (cB D nu s.o)) i).p (x i) wr)->Region.wanted oo (yielded l.toArray (A x).tmps)=true) ->
    ∃rs',mU P l.toArray ((rs++rs').map (cB D nu s.o)) w0 T (oo :: rest) k A:=by
   intro hd hw;obtain ⟨r,hk',hr⟩:=fR hd;rw [hI.o] at hk';obtain ⟨rs',hrel⟩:=gX hm0 hB hs hT rest (k+1) _ (rs++[r]) _ hl' hkm (hI.step hok r) hk';rw [List.append_assoc,U9] at hrel;refine ⟨r :: rs',⟨(fun x wr hE hD=> ?_),hrel⟩⟩
   have hD': ∀rs'' i,aE l.toArray k i=true->i<k->(at' ((rs++rs'').map (cB D nu s.o)) i).p (x i) wr:=fun rs'' i h1 h2=>by
    have h3:=hD i h1
    have h5:i<rs.length:=by rw [hI.len];exact h2
    have h4:rs[i]? = some rs[i]:=Uq h5;rw [jD h4] at h3 ⊢;exact h3
   obtain ⟨r',rfl,hout⟩:=fC (P:=P) (nu:=nu) (D:=D) (w:=wr) (rho:=(A x).eval) (by rw [hI.o];exact hs.ro.below hE) (by rw [hI.o];exact hevs x wr hE hD') hr;have e:=jE (D:=D) (nu:=nu) (o:=s.o) (rs:=rs) (rs':=rs') (r:=r');rw [hI.len] at e;refine .inl ⟨hw x wr hE hD', ?_⟩;rw [e];rw [hI.o] at hout;exact hout
  simp only [dG] at h
  split at h
  ·rename_i hg;exact hdo h (fun x wr hE hD=>by simp [Region.wanted,hg])
  ·rename_i j want hg
   have hyv: ∀g,iP l sk j=some g-> ∀x wr,Below w0.heap.size w0 wr->(∀rs' i,aE l.toArray k i=true->i<k->(at' ((rs++rs').map (cB D nu s.o)) i).p (x i) wr)->yielded l.toArray (A x).tmps j=g:=fun g hgv x wr hE hD=>
    gC (D:=D) (nu:=nu) (w:=wr) (fun d c v hd h1 h2=>by
     rw [hI.o];refine hlook x wr hE hD d c v ?_ h1 h2;obtain ⟨og,q1,q2⟩:=hd;refine List.mem_append_right _ ?_;simp only [hg,Us,q1,Option.bind_some,q2]
     simp) (hI.size x) hgv
   have hskip:dG P l B rest (sk.put oo.dst (.v Go.undef) sk.o)->(∀x wr,Below w0.heap.size w0 wr->(∀rs' i,aE l.toArray k i=true->i<k->(at' ((rs++rs').map (cB D nu s.o)) i).p (x i) wr)->Region.wanted oo (yielded l.toArray (A x).tmps)=false) ->
     ∃rs',mU P l.toArray ((rs++rs').map (cB D nu s.o)) w0 T (oo :: rest) k A:=by
    intro hk' hw;rw [hI.o] at hk';obtain ⟨rs',hrel⟩:=gX hm0 hB hs hT rest (k+1) _ (rs++[.v Go.undef]) _ hl' hkm (hI.step hok (.v Go.undef)) hk';rw [List.append_assoc,U9] at hrel;refine ⟨.v Go.undef :: rs',⟨(fun x wr hE hD=> ?_),hrel⟩⟩
    have hD': ∀rs'' i,aE l.toArray k i=true->i<k->(at' ((rs++rs'').map (cB D nu s.o)) i).p (x i) wr:=fun rs'' i h1 h2=>by
     have h3:=hD i h1
     have h5:i<rs.length:=by rw [hI.len];exact h2
     have h4:rs[i]? = some rs[i]:=Uq h5;rw [jD h4] at h3 ⊢;exact h3
    have e:=jE (D:=D) (nu:=nu) (o:=s.o) (rs:=rs) (rs':=rs') (r:= .v Go.undef);rw [hI.len] at e;refine .inr ⟨hw x wr hE hD', ?_⟩;rw [e];exact ⟨hs.ro.below hE, .v _⟩
   unfold uk at h
   split at h
   ·rename_i b e
    cases hb:b==want
    ·rw [hb] at h;exact hskip h (fun x wr hE hD=>by simp only [Region.wanted,hg,hyv _ e x wr hE hD];simpa using hb)
    ·rw [hb] at h;exact hdo h (fun x wr hE hD=>by simp only [Region.wanted,hg,hyv _ e x wr hE hD];simpa using hb)
   ·rename_i e;exact hskip h (fun x wr hE hD=>by simp only [Region.wanted,hg,hyv _ e x wr hE hD];rfl)
   ·exact h.elim
theorem uG {op:Op} {s:AS} {K K':AV->Prop} (h: ∀r,K r->K' r) (hd:bR P op s K):bR P op s K':=by
 obtain ⟨r,hk,hr⟩:=fR hd;have key: ∀r',r'=r->K' r':=fun r' e=>e ▸ h r hk;unfold bR at hr ⊢
 split at hr
 ·split at hr
  ·unfold bC at hr ⊢
   split at hr
   ·rename_i hb;rw [if_pos hb];exact key _ hr
   ·rename_i hb;rw [if_neg hb];exact key _ hr
  ·exact hr.elim
 ·split at hr
  ·unfold Ay at hr ⊢
   split at hr
   ·obtain ⟨r',q1,q2⟩:=hr;exact ⟨r',q1,key _ q2⟩
   ·exact hr.elim
  ·unfold B9 at hr ⊢
   split at hr
   ·exact ⟨hr.1,key _ hr.2⟩
   ·exact hr.elim
 ·unfold B9 at hr ⊢
  split at hr
  ·exact ⟨hr.1,key _ hr.2⟩
  ·exact hr.elim
theorem D5 {n0 id:Nat} {s:AS} {l:List Oper} {Q:a7->AS->Prop} (m0:Nat) (hB:gd l.toArray m0=true) (hC:dw l.toArray=true) (h:pD P l (l.drop m0) (l.take m0) s (Q .normal)):cr P n0 (.region id l.toArray true) s Q:=by
 refine .inr (fun f m D nu a w hZr hn hm hs hmx R hO hR=> ?_)
 have hm0:m0<=l.length:=by
  simp only [gd,UW,decide_eq_true_eq,UA] at hB;exact Vm hB.1.1.2
 obtain ⟨rs,hrel⟩:=gX (P:=P) (T:=Aa P l.toArray R) hm0 hB hs.drew (fun sk a' wr hE ho hy hsk hB'=>kI (P:=P) (f:=f) (l:=l) (R:=R) (l.drop m0) m0 sk a' wr nu rfl hm0 hsk hB' (fun s' a2 w' nu' q1 q2 q3 q4=>hR .normal D f.Z s' a2 w' nu' (by
  rw [q2,hy];exact m.own hm hs.ro ((aw (cW w)).trans ((aw hE).trans (ho ▸ q1))) q3.ro) q3 q4)) (l.take m0) 0 s [] (fun _=>a) (by simp) (Ui _) ⟨rfl,rfl,rfl,fun _=>rfl,fun _=>hs.tm.len,fun x t c v h1 h2=> .inl ⟨h1,h2⟩⟩ h
 exact mC hmx hC hO (qV _ m0 hB hrel)
theorem Dm {r:Option Nat} {n:Nat} {ops:Array Oper} (hC:dw ops=true) (R:Exit->Act->World->Prop):J1 P ops (wpOpIn (WF r) n P ops R):=⟨fun h k=>wpOpIn_mono h k,fun {i o S K a w} hi h next=>by
 unfold wpOpIn;simp only [hi]
 rcases h with ⟨h1,h2⟩|⟨h1,h2⟩
 ·rw [if_pos h1];refine ⟨fun f _=>trivial, ?_⟩;rw [lX hC hi];generalize (execOp a.eval o).run P w=r at h2
  cases r with
  | halt _ _=>exact h2.elim
  | ok n w'=>
   cases n<;>first|exact h2.elim|skip
   case value u=>exact next _ _ h2.1 h2.2
   case skip=>exact next _ _ h2.1 h2.2
   case enter f args=>
    refine ⟨fun e=>(by cases e),kM (Calls.mono h2 fun e w'' he=> ?_)⟩;obtain ⟨v,rfl,hv,hb⟩:=he
    exact next _ _ hv hb
 ·rw [if_neg (by rw [h1];decide)]
  exact ⟨fun f _=>trivial,next _ _ h2 (Below.refl _ _)⟩⟩
theorem wN {r:Option Nat} {n:Nat} {ops:Array Oper} {R:Exit->Act->World->Prop}: ∀(fuel:Nat) (listed:Array Bool) (a:Act) (w:World),mZ (wpOpIn (WF r) n P ops R) ops (R .normal) fuel listed a w->wpAnyIn (WF r) n P .any ops R fuel listed a w
 | 0,_,_,_,h=>h
 | fuel+1,_,_,_,h=>⟨h.1,fun i hi=>wpOpIn_mono (fun _ _=>wN fuel _ _ _) (h.2 i hi)⟩
theorem oV {r:Option Nat} {n:Nat} {l:List Oper} {R:Exit->Act->World->Prop}: ∀(m k:Nat) (a:Act) (w:World),k+m=l.length->wpListIn (WF r) n P l.toArray R (l.drop k) a w->pt (wpOpIn (WF r) n P l.toArray R) (R .normal) (List.range' k m) a w
 | 0,k,a,w,hk,h=>by
  rw [List.drop_eq_nil_of_le (by omega)] at h;exact h
 | m+1,k,a,w,hk,h=>by
  have hlt:k<l.length:=by omega
  rw [List.drop_eq_getElem_cons hlt] at h;rw [Vi];simp only [pt,wpOpIn,Us,Uq hlt];simp only [wpListIn] at h
  split at h
  ·rename_i hw;rw [if_pos hw];exact Oper.wpIn_mono (fun a w h=>oV m (k+1) a w (by omega) h) h
  ·rename_i hw;rw [if_neg hw];exact ⟨h.1,oV m (k+1) _ w (by omega) h.2⟩
theorem D6 {n0 id:Nat} {s:AS} {l:List Oper} {Q:a7->AS->Prop} (m0:Nat) (hB:gd l.toArray m0=true) (hC:dw l.toArray=true) (h:dG P l (fun s=>jV P l (l.drop m0) s (Q .normal)) (l.take m0) s):cr P n0 (.region id l.toArray true) s Q:=by
 refine .inr (fun f m D nu a w hZr hn hm hs hmx R hO hR=> ?_)
 have hm0:m0<=l.length:=by
  simp only [gd,UW,decide_eq_true_eq,UA] at hB;exact Vm hB.1.1.2
 have hcalm: ∀oo,oo∈l.drop m0-> ∀c,oo.op ≠ .defer c:=fun oo ho c e=>by
  unfold dw at hC;rw [UX] at hC;have h2:=hC oo (by simpa using List.mem_of_mem_drop ho);rw [e] at h2;cases h2
 obtain ⟨rs,hrel⟩:=gX (P:=P) (T:=fun k=>pt (wpOpIn (WF f.r) 9 P l.toArray R) (R .normal) (List.range' k (l.length - k))) hm0 hB hs.drew (fun sk a' wr hE ho hy hsk hB'=>oV _ _ _ _ (by omega) (j0 m hZr _ sk a' wr D nu hcalm (by
  rw [ho,hy];exact m.own hm hs.ro ((aw (cW w)).trans (aw hE)) (ho ▸ hsk.ro)) hsk hB' (fun D' s' a2 w2 nu' q1 q2 q3=>hR .normal D' f.Z s' a2 w2 nu' q1 q2 q3))) (l.take m0) 0 s [] (fun _=>a) (by simp) (Ui _) ⟨rfl,rfl,rfl,fun _=>rfl,fun _=>hs.tm.len,fun x t c v h1 h2=> .inl ⟨h1,h2⟩⟩ h
 exact wpIn_region_any hmx (wN _ _ _ _ (gx _ (fun _=>false) (fun i v w h=>by cases h) m0 (Dm hC R) hB (kZ _ _ _ hrel)))
def sO:Op->Bool
 | .alloc _| .store .. | .mapUpdate .. | .insert .. | .makeSlice .. | .makeMap .. =>true
 | .call c=>match c.callee with
  | .builtin .append| .builtin .copy| .builtin .delete| .builtin .clear=>true
  | _=>false
 | _=>false
def qB:List Oper->Nat
 | []=>0
 | o :: l=>if sO o.op then 0 else qB l+1
def fh (P:Program) (all:List Oper):List Oper->AS->(AS->Prop)->Prop
 | [],s,Q=>Q s
 | oo :: rest,s,Q=>if sO oo.op then dM P all (oo :: rest) s Q else dH P all oo s (fun s'=>fh P all rest s' Q)
theorem lU (all:List Oper): ∀(l:List Oper) (s:AS) (Q:AS->Prop),fh P all l s Q->pD P all (l.drop (qB l)) (l.take (qB l)) s Q
 | [],s,Q,h=>h
 | oo :: rest,s,Q,h=>by
  simp only [fh] at h
  by_cases he:sO oo.op=true
  ·rw [if_pos he] at h;simpa only [qB,he,if_true,List.drop_zero,List.take_zero,pD,dG] using h
  ·rw [if_neg he] at h;simp only [qB,he,if_false,List.drop_succ_cons,List.take_succ_cons,pD,dG,Bool.false_eq_true];unfold dH at h
   split at h
   ·rename_i hg;simp only [hg];exact uG (fun r hr=>lU all rest _ Q hr) h
   ·rename_i j want hg;simp only [hg];unfold uk at h ⊢
    split at h
    ·rename_i b e;unfold bC at h ⊢
     split at h
     ·rename_i hb;rw [if_pos hb];exact uG (fun r hr=>lU all rest _ Q hr) h
     ·rename_i hb;rw [if_neg hb];exact lU all rest _ Q h
    ·rename_i e;exact lU all rest _ Q h
    ·exact h.elim
theorem DZ {n0 id:Nat} {s:AS} {l:List Oper} {Q:a7->AS->Prop} (hB:gd l.toArray (qB l)=true) (hC:dw l.toArray=true) (h:fh P l l s (Q .normal)):cr P n0 (.region id l.toArray true) s Q:=
 D5 (qB l) hB hC (lU l l s _ h)
theorem Gg {all rest:List Oper} {oo:Oper} {s:AS} {Q:AS->Prop} (he:sO oo.op=false) (h: ∀K:AS->Prop,(∀s',fh P all rest s' Q->K s')->dH P all oo s K):fh P all (oo :: rest) s Q:=by
 simp only [fh,he,Bool.false_eq_true,if_false];exact h _ (fun _ h=>h)
theorem AM {all rest:List Oper} {oo:Oper} {s:AS} {Q:AS->Prop} (he:sO oo.op=true) (h:dM P all (oo :: rest) s Q):fh P all (oo :: rest) s Q:=by
 simpa only [fh,he,if_true] using h
theorem AN {all:List Oper} {s:AS} {Q:AS->Prop} (h:Q s):fh P all [] s Q:=h
theorem Kj {all rest:List Oper} {oo:Oper} {s:AS} {Q:AS->Prop} (h: ∀K:AS->Prop,(∀s',dM P all rest s' Q->K s')->pG P all oo s K):dM P all (oo :: rest) s Q:=h _ (fun _ h=>h)
theorem DU {all:List Oper} {s:AS} {Q:AS->Prop} (h:Q s):dM P all [] s Q:=h
theorem AU {all tail:List Oper} {s:AS} {Q:AS->Prop} (h:dM P all tail s Q):pD P all tail [] s Q:=h
@[go_sem] theorem Kf (all:List Oper) (dst:Option Tmp) (op:Op) (ty:TypeId) (pos:String) (aft:Array Edge) (s:AS) (K:AS->Prop) :
  pG P all ⟨dst,op,ty,pos,aft,none⟩ s K=x8 P op s (fun r o'=>K (s.put dst r o')):=rfl
@[go_sem] theorem Ke (all:List Oper) (dst:Option Tmp) (op:Op) (ty:TypeId) (pos:String) (aft:Array Edge) (j:Nat) (want:Bool) (s:AS) (K:AS->Prop) :
  pG P all ⟨dst,op,ty,pos,aft,some (j,want)⟩ s K=uk (iP all s j) want (x8 P op s (fun r o'=>K (s.put dst r o'))) (K (s.put dst (.v Go.undef) s.o)):=rfl
end
end
section
class aA (G:Prop) (H:outParam Prop):Prop where
 up:H->G
section
variable {P:Program} {all rest tail:List Oper} {n0:Nat} {s:AS} {Q:a7->AS->Prop} {R K:AS->Prop} {oo o2:Oper} {i:Nat} {c d:Code} {x:Operand} {l:List Oper} {bx:List Bx} {k:Nat}
theorem Gh {B:AS->Prop} (h: ∀K:AS->Prop,(∀s',dG P all B rest s'->K s')->dH P all oo s K):dG P all B (oo :: rest) s:=by
 have:=h _ (fun _ h=>h)
 unfold dH at this;simp only [dG]
 split at this<;>simp_all
instance {B:AS->Prop}:aA (dG P all B (oo :: rest) s) (∀K:AS->Prop,(∀s',dG P all B rest s'->K s')->dH P all oo s K):=⟨Gh⟩
instance:aA (dG P all (fun s=>jV P all tail s R) [] s) (jV P all tail s R):=⟨fun h=>h⟩
instance:aA (jV P all [] s R) (R s):=⟨Gj⟩
instance:aA (jV P all (oo :: rest) s R) (∀K:AS->Prop,(∀s',jV P all rest s' R->K s')->uH P all oo s K):=⟨MZ⟩
instance {dst:Option Tmp} {op:Op} {ty:TypeId} {pos:String} {aft:Array Edge}:aA (er P all [⟨dst,op,ty,pos,aft,none⟩] s R) (∀K:AS->Prop,(∀s',R s'->K s')->x8 P op s (fun r o'=>K (s.put dst r o'))):=⟨AW⟩
instance:aA (er P all (oo :: o2 :: rest) s R) (∀K:AS->Prop,(∀s',er P all (o2 :: rest) s' R->K s')->dH P all oo s K):=⟨J8⟩
instance:aA (cr P n0 (.seq c d) s Q) (∀K:AS->Prop,(∀s',cr P n0 d s' Q->K s')->cr P n0 c s (lJ K Q)):=⟨Kl⟩
instance:aA (cr P n0 (.region i l.toArray false) s Q) (jV P l l s (Q .normal)):=⟨A3⟩
instance:aA (cr P n0 .skip s Q) (Q .normal s):=⟨Gu⟩
instance:aA (cr P n0 (.block i c) s Q) (cr P n0 c s (v8 i Q)):=⟨DY⟩
instance:aA (cr P n0 (.cond x c d) s Q) (Av (s.ev x) (cr P n0 c s Q) (cr P n0 d s Q)):=⟨Gp⟩
instance:aA (cr P n0 (.exit i) s Q) (Q (.exit i) s):=⟨Gr⟩
instance:aA (cr P n0 .ret s Q) (Q .ret s):=⟨Kk⟩
instance:aA (cr P n0 (.scope c) s Q) (cr P n0 c s (ya Q)):=⟨Ea⟩
instance:aA (cr P n0 (.label i) s Q) (Q .normal s):=⟨D7⟩
instance:aA (cr P n0 (.goto i) s Q) (Q (.goto i) s):=⟨Gt⟩
instance:aA (lJ K Q .normal s) (K s):=⟨yr⟩
instance:aA (lJ K Q (.exit i) s) (Q (.exit i) s):=⟨DS⟩
instance:aA (lJ K Q .ret s) (Q .ret s):=⟨Gl⟩
instance:aA (lJ K Q (.goto i) s) (Q (.goto i) s):=⟨DT⟩
instance:aA (v8 i Q .normal s) (Q .normal s):=⟨yn⟩
instance:aA (v8 i Q .ret s) (Q .ret s):=⟨Ge⟩
instance:aA (v8 i Q (.goto k) s) (Q (.goto k) s):=⟨DL⟩
instance:aA (v8 i Q (.exit k) s) (if k=i then Q .normal s else Q (.exit k) s):=⟨fun h=>h⟩
instance:aA (ya Q .normal s) (Q .normal s):=⟨yq⟩
instance:aA (ya Q .ret s) (Q .ret s):=⟨Gk⟩
instance:aA (ya Q (.exit i) s) (Q (.exit i) s):=⟨DQ⟩
instance:aA (fh P all [] s R) (R s):=⟨AN⟩
instance:aA (dM P all [] s R) (R s):=⟨DU⟩
instance:aA (dM P all (oo :: rest) s R) (∀K:AS->Prop,(∀s',dM P all rest s' R->K s')->pG P all oo s K):=⟨Kj⟩
instance:aA (pD P all tail [] s R) (dM P all tail s R):=⟨AU⟩
instance:aA (Au P all [] k s bx R) (bx.all (fun b=>b.row.isSome)=true∧R (r6 s bx)):=⟨Gf⟩
end
theorem wE {P:Program} {n0 id:Nat} {s:AS} {l:List Oper} {Q:a7->AS->Prop} (h:fh P l l s (Q .normal)) (hB:gd l.toArray (qB l)=true:=by decide+kernel) (hC:dw l.toArray=true:=by kernel_rfl):cr P n0 (.region id l.toArray true) s Q:=DZ hB hC h
theorem wK {P:Program} {all rest:List Oper} {oo:Oper} {s:AS} {Q:AS->Prop} (h: ∀K:AS->Prop,(∀s',fh P all rest s' Q->K s')->dH P all oo s K) (he:sO oo.op=false:=by decide):fh P all (oo :: rest) s Q:=Gg he h
theorem wF {P:Program} {all rest:List Oper} {oo:Oper} {s:AS} {Q:AS->Prop} (h:dM P all (oo :: rest) s Q) (he:sO oo.op=true:=by decide):fh P all (oo :: rest) s Q:=AM he h
end
inductive cQ (L:List ByteArray->Prop):List ByteArray->Prop
 | nil:cQ L []
 | cons (u v:List ByteArray):u≠[]->L u->cQ L v->cQ L (u++v)
theorem cQ.append {L:List ByteArray->Prop} {u v:List ByteArray} (h:cQ L u) (k:cQ L v):cQ L (u++v):=by
 induction h with
 | nil=>exact k
 | cons a b h1 h2 _ ih=>rw [List.append_assoc];exact .cons a _ h1 h2 ih
theorem cQ.one {L:List ByteArray->Prop} {u:List ByteArray} (h:L u):cQ L u:=by
 by_cases hu:u=[]
 ·subst hu;exact .nil
 ·have:=cQ.cons u [] hu h .nil
  rwa [Vn] at this
theorem cQ.inv {L:List ByteArray->Prop} {w:List ByteArray} (h:cQ L w):w=[]∨ ∃u v,w=u++v∧u≠[]∧L u∧cQ L v:=by
 cases h with
 | nil=>exact .inl rfl
 | cons a b h1 h2 h3=>exact .inr ⟨a,b,rfl,h1,h2,h3⟩
mutual
def Lg:Ex->List ByteArray->Prop
 | .mk k s l,w=>if k=1 then w=[s] else if k=2 then cM l w else if k=3 then gT l w else if k=4 then cQ (rH l) w
  else if k=5 then ∃u v,w=u++v∧rH l u∧cQ (rH l) v else if k=6 then w=[]∨rH l w else False
def cM:List Ex->List ByteArray->Prop
 | [],w=>w=[]
 | x :: xs,w=> ∃u v,w=u++v∧Lg x u∧cM xs v
def gT:List Ex->List ByteArray->Prop
 | [],_=>False
 | x :: xs,w=>Lg x w∨gT xs w
def rH:List Ex->List ByteArray->Prop
 | [],_=>False
 | x :: _,w=>Lg x w
end
theorem mE: ∀ {l:List Ex} {w:List ByteArray},gT l w ↔ ∃x∈l,Lg x w
 | [],w=>by simp [gT]
 | x :: xs,w=>by simp [gT,mE (l:=xs)]
mutual
def aG:Ex->Bool
 | .mk k _ l=>if k=4 then true else if k=6 then true else if k=3 then rh l else if k=2 then cz l else if k=5 then cz l else false
def rh:List Ex->Bool
 | []=>false
 | x :: xs=>aG x||rh xs
def cz:List Ex->Bool
 | []=>true
 | x :: xs=>aG x&&cz xs
end
theorem nK: ∀l:List Ex,rh l=l.any aG
 | []=>rfl
 | x :: xs=>by rw [rh,nK xs];rfl
theorem kN: ∀l:List Ex,cz l=l.all aG
 | []=>rfl
 | x :: xs=>by rw [cz,kN xs];rfl
theorem mF: ∀ {l:List Ex},cM l [] ↔ ∀x∈l,Lg x []
 | []=>by simp [cM]
 | x :: xs=>by
  rw [cM]
  constructor
  ·rintro ⟨u,v,h,h1,h2⟩;obtain ⟨rfl,rfl⟩:=Vo.1 h.symm;intro y hy
   rcases List.mem_cons.1 hy with rfl|hy
   ·exact h1
   ·exact mF.1 h2 y hy
  ·intro h;exact ⟨[],[],rfl,h x Va,mF.2 (fun y hy=>h y (U8 _ hy))⟩
inductive Fit:Ex->Prop
 | lab (s:ByteArray):Fit (.mk 1 s [])
 | many (k:Int) (s:ByteArray) (l:List Ex):(k=2∨k=3)->1<l.length->(∀x∈l,Fit x)->Fit (.mk k s l)
 | one (k:Int) (s:ByteArray) (x:Ex):(k=4∨k=5∨k=6)->Fit x->Fit (.mk k s [x])
theorem fF {x:Ex} (h:Fit x):aG x=true↔Lg x []:=by
 induction h with
 | lab s=>simp [aG,Lg]
 | many k s l hk hl _ ih=>
  rcases hk with rfl|rfl
  ·simp only [aG,Lg,kN,mF,Int.reduceEq,if_false,if_true];rw [List.all_eq_true]
   constructor
   ·intro h x hx;exact (ih x hx).1 (h x hx)
   ·intro h x hx;exact (ih x hx).2 (h x hx)
  ·simp only [aG,Lg,nK,mE,List.any_eq_true,Int.reduceEq,if_false,if_true]
   constructor
   ·rintro ⟨x,hx,h⟩;exact ⟨x,hx,(ih x hx).1 h⟩
   ·rintro ⟨x,hx,h⟩;exact ⟨x,hx,(ih x hx).2 h⟩
 | one k s x hk _ ih=>
  rcases hk with rfl|rfl|rfl
  ·simp [aG,Lg,cQ.nil]
  ·simp only [aG,Lg,cz,rH,Int.reduceEq,if_false,if_true,Bool.and_true];rw [ih]
   constructor
   ·intro h;exact ⟨[],[],rfl,h, .nil⟩
   ·rintro ⟨u,v,h,h1,_⟩;obtain ⟨rfl,rfl⟩:=Vo.1 h.symm;exact h1
  ·simp [aG,Lg]
def yz (w:List ByteArray) (i j:Nat):List ByteArray:=(w.drop i).take (j - i)
theorem GD (w:List ByteArray) (i:Nat):yz w i i=[]:=by simp [yz]
theorem Cu {w:List ByteArray} {i j k:Nat} (h1:i<=j) (h2:j<=k):yz w i j++yz w j k=yz w i k:=by
 unfold yz
 have:k - i=(j - i)+(k - j):=by omega
 rw [this,List.take_add,List.drop_drop,show i+(j - i)=j by omega]
theorem oL {w:List ByteArray} {i j:Nat} (h:j<=w.length):(yz w i j).length=j - i:=by
 simp [yz];omega
theorem GC {w u v:List ByteArray} {i k:Nat} (h1:i<=k) (h2:k<=w.length) (h:yz w i k=u++v): ∃j,i<=j∧j<=k∧yz w i j=u∧yz w j k=v:=by
 have hl:=oL (i:=i) h2;rw [h,Ug] at hl;have e:=Cu (w:=w) (i:=i) (j:=i+u.length) (k:=k) (by omega) (by omega);rw [h] at e
 have el:(yz w i (i+u.length)).length=u.length:=by rw [oL (by omega)];omega
 obtain ⟨e1,e2⟩:=List.append_inj e el;exact ⟨i+u.length,by omega,by omega,e1,e2⟩
def Tk (L:List ByteArray->Prop) (w:List ByteArray) (i j:Nat):Prop:=i<=j∧j<=w.length∧L (yz w i j)
theorem pJ: ∀ {l m:List Ex} {w:List ByteArray},cM (l++m) w ↔ ∃u v,w=u++v∧cM l u∧cM m v
 | [],m,w=>by
  constructor
  ·intro h;exact ⟨[],w,rfl,by rw [cM],h⟩
  ·rintro ⟨u,v,rfl,h,k⟩;rw [cM] at h;subst h;exact k
 | x :: l,m,w=>by
  rw [List.cons_append,cM]
  constructor
  ·rintro ⟨u,v,rfl,h1,h2⟩;obtain ⟨a,b,rfl,h3,h4⟩:=pJ.1 h2;exact ⟨u++a,b,by simp,by rw [cM];exact ⟨u,a,rfl,h1,h3⟩,h4⟩
  ·rintro ⟨u,v,rfl,h,k⟩;rw [cM] at h;obtain ⟨a,b,rfl,h1,h2⟩:=h;exact ⟨a,b++v,by simp,h1,pJ.2 ⟨b,v,rfl,h2,k⟩⟩
theorem Tk.word {L:List ByteArray->Prop} {w:List ByteArray}:Tk L w 0 w.length↔L w:=by
 simp [Tk,yz]
mutual
def aB:Ex->List ByteArray
 | .mk k s l=>if k=1 then [s] else aJ l
def aJ:List Ex->List ByteArray
 | []=>[]
 | x :: xs=>aB x++aJ xs
end
mutual
def jN:Ex->Nat->Nat->Prop
 | .mk k _ l,b,p=>if k=1 then p=b+1 else if k=2 then gp l b p else fN l b p
def gp:List Ex->Nat->Nat->Prop
 | [],_,_=>False
 | x :: xs,b,p=>jN x b p∨(aG x=true∧gp xs (b+(aB x).length) p)
def fN:List Ex->Nat->Nat->Prop
 | [],_,_=>False
 | x :: xs,b,p=>jN x b p∨fN xs (b+(aB x).length) p
end
mutual
def jd:Ex->Nat->Nat->Prop
 | .mk k _ l,b,p=>if k=1 then p=b+1 else if k=2 then jj l b p else fO l b p
def jj:List Ex->Nat->Nat->Prop
 | [],_,_=>False
 | x :: xs,b,p=>(cz xs=true∧jd x b p)∨jj xs (b+(aB x).length) p
def fO:List Ex->Nat->Nat->Prop
 | [],_,_=>False
 | x :: xs,b,p=>jd x b p∨fO xs (b+(aB x).length) p
end
mutual
def iI:Ex->Nat->Nat->Nat->Prop
 | .mk k _ l,b,p,q=>if k=1 then False else if k=2 then gn l b p q else gS l b p q∨((k=4∨k=5)∧fO l b p∧fN l b q)
def gn:List Ex->Nat->Nat->Nat->Prop
 | [],_,_,_=>False
 | x :: xs,b,p,q=>iI x b p q∨gn xs (b+(aB x).length) p q∨(jd x b p∧gp xs (b+(aB x).length) q)
def gS:List Ex->Nat->Nat->Nat->Prop
 | [],_,_,_=>False
 | x :: xs,b,p,q=>iI x b p q∨gS xs (b+(aB x).length) p q
end
theorem pI: ∀ {l:List Ex} {b p:Nat},gp l b p->fN l b p
 | [],_,_,h=>h
 | x :: xs,b,p,h=>by
  rw [gp] at h;rw [fN];exact h.imp id (fun h=>pI h.2)
theorem wm: ∀ {l:List Ex} {b p:Nat},jj l b p->fO l b p
 | [],_,_,h=>h
 | x :: xs,b,p,h=>by
  rw [jj] at h;rw [fO];exact h.imp (fun h=>h.2) wm
theorem cK {k:Int} (h:k≠1) (s:ByteArray) (l:List Ex):aB (.mk k s l)=aJ l:=by rw [aB,if_neg h]
theorem gv (x:Ex): ∀ {b p:Nat},jN x b p->b<p∧p<=b+(aB x).length:=by
 induction x using Ex.ind with
 | h k s l ih=>
  intro b p h
  have key: ∀(m:List Ex),(∀x∈m,x∈l)-> ∀ {b p:Nat},fN m b p->b<p∧p<=b+(aJ m).length:=by
   intro m
   induction m with
   | nil=>intro _ b p h;exact h.elim
   | cons x xs ihm=>
    intro hm b p h;rw [fN] at h;rw [aJ,Ug]
    rcases h with h|h
    ·have:=ih x (hm x Va) h;omega
    ·have:=ihm (fun y hy=>hm y (U8 _ hy)) h;omega
  rw [jN] at h
  by_cases h1:k=1
  ·rw [if_pos h1] at h;rw [aB,if_pos h1];simp;omega
  ·rw [if_neg h1] at h;rw [cK h1]
   split at h
   ·exact key l (fun _ h=>h) (pI h)
   ·exact key l (fun _ h=>h) h
theorem fl: ∀ {l:List Ex} {b p:Nat},fN l b p->b<p∧p<=b+(aJ l).length
 | [],b,p,h=>h.elim
 | x :: xs,b,p,h=>by
  rw [fN] at h;rw [aJ,Ug]
  rcases h with h|h
  ·have:=gv x h;omega
  ·have:=fl h;omega
theorem fA (x:Ex): ∀ {b p:Nat},jd x b p->b<p∧p<=b+(aB x).length:=by
 induction x using Ex.ind with
 | h k s l ih=>
  intro b p h
  have key: ∀(m:List Ex),(∀x∈m,x∈l)-> ∀ {b p:Nat},fO m b p->b<p∧p<=b+(aJ m).length:=by
   intro m
   induction m with
   | nil=>intro _ b p h;exact h.elim
   | cons x xs ihm=>
    intro hm b p h;rw [fO] at h;rw [aJ,Ug]
    rcases h with h|h
    ·have:=ih x (hm x Va) h;omega
    ·have:=ihm (fun y hy=>hm y (U8 _ hy)) h;omega
  rw [jd] at h
  by_cases h1:k=1
  ·rw [if_pos h1] at h;rw [aB,if_pos h1];simp;omega
  ·rw [if_neg h1] at h;rw [cK h1]
   split at h
   ·exact key l (fun _ h=>h) (wm h)
   ·exact key l (fun _ h=>h) h
theorem fm: ∀ {l:List Ex} {b p:Nat},fO l b p->b<p∧p<=b+(aJ l).length
 | [],b,p,h=>h.elim
 | x :: xs,b,p,h=>by
  rw [fO] at h;rw [aJ,Ug]
  rcases h with h|h
  ·have:=fA x h;omega
  ·have:=fm h;omega
theorem dB (x:Ex): ∀ {b p q:Nat},iI x b p q->(b<p∧p<=b+(aB x).length)∧b<q∧q<=b+(aB x).length:=by
 induction x using Ex.ind with
 | h k s l ih=>
  intro b p q h
  have key: ∀(m:List Ex),(∀x∈m,x∈l)-> ∀ {b p q:Nat},gS m b p q->(b<p∧p<=b+(aJ m).length)∧b<q∧q<=b+(aJ m).length:=by
   intro m
   induction m with
   | nil=>intro _ b p q h;exact h.elim
   | cons x xs ihm=>
    intro hm b p q h;rw [gS] at h;rw [aJ,Ug]
    rcases h with h|h
    ·have:=ih x (hm x Va) h;omega
    ·have:=ihm (fun y hy=>hm y (U8 _ hy)) h;omega
  have keyS: ∀(m:List Ex),(∀x∈m,x∈l)-> ∀ {b p q:Nat},gn m b p q->(b<p∧p<=b+(aJ m).length)∧b<q∧q<=b+(aJ m).length:=by
   intro m
   induction m with
   | nil=>intro _ b p q h;exact h.elim
   | cons x xs ihm=>
    intro hm b p q h;rw [gn] at h;rw [aJ,Ug]
    rcases h with h|h|⟨h,h'⟩
    ·have:=ih x (hm x Va) h;omega
    ·have:=ihm (fun y hy=>hm y (U8 _ hy)) h;omega
    ·have:=fA x h;have:=fl (pI h');omega
  rw [iI] at h
  by_cases h1:k=1
  ·rw [if_pos h1] at h;exact h.elim
  ·rw [if_neg h1] at h;rw [cK h1]
   split at h
   ·exact keyS l (fun _ h=>h) h
   ·rcases h with h|⟨_,h,h'⟩
    ·exact key l (fun _ h=>h) h
    ·exact ⟨fm h,fl h'⟩
theorem nA: ∀ {l:List Ex} {b p q:Nat},gn l b p q->(b<p∧p<=b+(aJ l).length)∧b<q∧q<=b+(aJ l).length
 | [],b,p,q,h=>h.elim
 | x :: xs,b,p,q,h=>by
  rw [gn] at h;rw [aJ,Ug]
  rcases h with h|h|⟨h,h'⟩
  ·have:=dB x h;omega
  ·have:=nA h;omega
  ·have:=fA x h;have:=fl (pI h');omega
theorem nz: ∀ {l:List Ex} {b p q:Nat},gS l b p q->(b<p∧p<=b+(aJ l).length)∧b<q∧q<=b+(aJ l).length
 | [],b,p,q,h=>h.elim
 | x :: xs,b,p,q,h=>by
  rw [gS] at h;rw [aJ,Ug]
  rcases h with h|h
  ·have:=dB x h;omega
  ·have:=nz h;omega
def bg (F:Nat->Nat->Prop) (g:Nat->ByteArray):Nat->List ByteArray->Nat->Prop
 | p,[],q=>p=q
 | p,a :: w,q=> ∃r,F p r∧g r=a∧bg F g r w q
theorem bg.imp {F G:Nat->Nat->Prop} {g:Nat->ByteArray} (h: ∀p q,F p q->G p q): ∀ {w:List ByteArray} {p q:Nat},bg F g p w q->bg G g p w q
 | [],_,_,hc=>hc
 | _ :: _,_,_,⟨r,h1,h2,h3⟩=>⟨r,h _ _ h1,h2,h3.imp h⟩
theorem bg.app {F:Nat->Nat->Prop} {g:Nat->ByteArray}: ∀ {u v:List ByteArray} {p q:Nat},bg F g p (u++v) q ↔ ∃r,bg F g p u r∧bg F g r v q
 | [],v,p,q=>⟨fun h=>⟨p,rfl,h⟩,fun ⟨_,h,k⟩=>by cases h;exact k⟩
 | a :: u,v,p,q=>by
  constructor
  ·rintro ⟨r,h1,h2,h3⟩;obtain ⟨s,h4,h5⟩:=bg.app.1 h3;exact ⟨s,⟨r,h1,h2,h4⟩,h5⟩
  ·rintro ⟨s,⟨r,h1,h2,h4⟩,h5⟩;exact ⟨r,h1,h2,bg.app.2 ⟨s,h4,h5⟩⟩
def cy (I:Nat->Prop) (F:Nat->Nat->Prop) (T:Nat->Prop) (g:Nat->ByteArray):List ByteArray->Prop
 | []=>False
 | a :: w=> ∃p q,I p∧g p=a∧bg F g p w q∧T q
theorem bg.split {F G:Nat->Nat->Prop} {I T:Nat->Prop} {g:Nat->ByteArray} (hG: ∀p q,G p q->F p q∨(T p∧I q)): ∀ {w:List ByteArray} {p q:Nat},bg G g p w q ->
  bg F g p w q∨ ∃u a v r s,w=u++a :: v∧bg F g p u r∧T r∧I s∧g s=a∧bg G g s v q
 | [],_,_,h=> .inl h
 | a :: w,p,q,⟨r,h1,h2,h3⟩=>by
  rcases hG p r h1 with h|⟨h,k⟩
  ·rcases bg.split hG h3 with h4|⟨u,b,v,r',s,rfl,h4,h5,h6,h7,h8⟩
   ·exact .inl ⟨r,h,h2,h4⟩
   ·exact .inr ⟨a :: u,b,v,r',s,rfl,⟨r,h,h2,h4⟩,h5,h6,h7,h8⟩
  ·exact .inr ⟨[],a,w,p,r,rfl,rfl,h,k,h2,h3⟩
theorem bg.stay {F G:Nat->Nat->Prop} {S:Nat->Prop} {g:Nat->ByteArray} (hG: ∀p q,S p->G p q->F p q∧S q): ∀ {w:List ByteArray} {p q:Nat},S p->bg G g p w q->bg F g p w q∧S q
 | [],_,_,hs,h=>by cases h;exact ⟨rfl,hs⟩
 | a :: w,p,q,hs,⟨r,h1,h2,h3⟩=>by
  obtain ⟨h4,h5⟩:=hG p r hs h1;obtain ⟨h6,h7⟩:=bg.stay hG h5 h3;exact ⟨⟨r,h4,h2,h6⟩,h7⟩
def nj (ls:List ByteArray) (b:Nat) (g:Nat->ByteArray):Prop:= ∀(i:Nat) s,ls[i]? = some s->g (b+1+i)=s
theorem nj.left {l m:List ByteArray} {b:Nat} {g:Nat->ByteArray} (h:nj (l++m) b g):nj l b g:=fun i s hi=>h i s (by rw [List.getElem?_append_left (List.getElem?_eq_some_iff.1 hi).1];exact hi)
theorem nj.right {l m:List ByteArray} {b:Nat} {g:Nat->ByteArray} (h:nj (l++m) b g):nj m (b+l.length) g:=fun i s hi=>by
 have:=h (l.length+i) s (by rw [List.getElem?_append_right (by omega),Nat.add_sub_cancel_left];exact hi)
 rw [<-this];congr 1;omega
theorem bg.Jb {F G:Nat->Nat->Prop} {I T S:Nat->Prop} {g:Nat->ByteArray} (hG: ∀p q,S p->G p q->(F p q∧S q)∨(T p∧I q)): ∀ {w:List ByteArray} {p q:Nat},S p->bg G g p w q ->
  (bg F g p w q∧S q)∨ ∃u a v r s,w=u++a :: v∧bg F g p u r∧T r∧I s∧g s=a∧bg G g s v q
 | [],_,_,hs,h=> .inl ⟨h,by cases h;exact hs⟩
 | a :: w,p,q,hs,⟨r,h1,h2,h3⟩=>by
  rcases hG p r hs h1 with ⟨h,k⟩|⟨h,k⟩
  ·rcases bg.Jb hG k h3 with ⟨h4,h5⟩|⟨u,b,v,r',s,rfl,h4,h5,h6,h7,h8⟩
   ·exact .inl ⟨⟨r,h,h2,h4⟩,h5⟩
   ·exact .inr ⟨a :: u,b,v,r',s,rfl,⟨r,h,h2,h4⟩,h5,h6,h7,h8⟩
  ·exact .inr ⟨[],a,w,p,r,rfl,rfl,h,k,h2,h3⟩
theorem IA {x:Ex} {xs:List Ex} {b:Nat} {g:Nat->ByteArray} {w:List ByteArray} (hw:w≠[]) :
  cy (gp (x :: xs) b) (gn (x :: xs) b) (jj (x :: xs) b) g w ↔
   (cy (jN x b) (iI x b) (jd x b) g w∧cz xs=true)∨(aG x=true∧cy (gp xs (b+(aB x).length)) (gn xs (b+(aB x).length)) (jj xs (b+(aB x).length)) g w) ∨
   ∃u v,w=u++v∧cy (jN x b) (iI x b) (jd x b) g u∧cy (gp xs (b+(aB x).length)) (gn xs (b+(aB x).length)) (jj xs (b+(aB x).length)) g v:=by
 obtain ⟨a,w,rfl⟩:=Vp hw;generalize hb':b+(aB x).length=b'
 have eS: ∀p q,gn (x :: xs) b p q↔iI x b p q∨gn xs b' p q∨(jd x b p∧gp xs b' q):=fun p q=>by rw [gn,hb']
 have eL: ∀p,jj (x :: xs) b p↔(cz xs=true∧jd x b p)∨jj xs b' p:=fun p=>by rw [jj,hb']
 have eF: ∀p,gp (x :: xs) b p↔jN x b p∨(aG x=true∧gp xs b' p):=fun p=>by rw [gp,hb']
 have inX: ∀ {p},jN x b p->p<=b':=fun h=>by have:=gv x h;omega
 have inXs: ∀ {p},gp xs b' p->b'<p:=fun h=>by have:=fl (pI h);omega
 have stayR: ∀ {w p q},b'<p->bg (gn (x :: xs) b) g p w q->bg (gn xs b') g p w q∧b'<q:=fun hp h=>
  bg.stay (S:=fun p=>b'<p) (fun p q hp h=>by
   rcases (eS p q).1 h with h|h|⟨h,_⟩
   ·have:=dB x h;omega
   ·exact ⟨h,by have:=nA h;omega⟩
   ·have:=fA x h;omega) hp h
 have endR: ∀ {q},b'<q->jj (x :: xs) b q->jj xs b' q:=fun hq h=>by
  rcases (eL _).1 h with ⟨_,h⟩|h
  ·have:=fA x h;omega
  ·exact h
 constructor
 ·rintro ⟨p,q,hp,hg,hc,hq⟩
  rcases (eF p).1 hp with hp|⟨he,hp⟩
  ·rcases bg.Jb (F:=iI x b) (I:=gp xs b') (T:=jd x b) (S:=fun p=>p<=b') (fun p q hs h=>by
    rcases (eS p q).1 h with h|h|h
    ·exact .inl ⟨h,by have:=dB x h;omega⟩
    ·have:=nA h;omega
    ·exact .inr h) (inX hp) hc with ⟨h1,h2⟩|⟨u,c,v,r,s,rfl,h1,h2,h3,h4,h5⟩
   ·left
    rcases (eL q).1 hq with ⟨h3,h4⟩|h
    ·exact ⟨⟨p,q,hp,hg,h1,h4⟩,h3⟩
    ·have:=fm (wm h);omega
   ·right;right;obtain ⟨h6,h7⟩:=stayR (inXs h3) h5;exact ⟨a :: u,c :: v,rfl,⟨p,r,hp,hg,h1,h2⟩,s,q,h3,h4,h6,endR h7 hq⟩
  ·obtain ⟨h1,h2⟩:=stayR (inXs hp) hc;exact .inr (.inl ⟨he,p,q,hp,hg,h1,endR h2 hq⟩)
 ·rintro (⟨⟨p,q,hp,hg,hc,hq⟩,he⟩|⟨he,p,q,hp,hg,hc,hq⟩|⟨u,v,e,hu,hv⟩)
  ·exact ⟨p,q,(eF p).2 (.inl hp),hg,hc.imp (fun p q h=>(eS p q).2 (.inl h)),(eL q).2 (.inl ⟨he,hq⟩)⟩
  ·exact ⟨p,q,(eF p).2 (.inr ⟨he,hp⟩),hg,hc.imp (fun p q h=>(eS p q).2 (.inr (.inl h))),(eL q).2 (.inr hq)⟩
  ·cases u with
   | nil=>exact hu.elim
   | cons a' u=>
    obtain ⟨rfl,rfl⟩:a=a'∧w=u++v:=by simpa using e
    cases v with
    | nil=>exact hv.elim
    | cons c v=>
     obtain ⟨p,r,h1,h2,h3,h4⟩:=hu;obtain ⟨s,q,k1,k2,k3,k4⟩:=hv;refine ⟨p,q,(eF p).2 (.inl h1),h2,bg.app.2 ⟨r,h3.imp (fun p q h=>(eS p q).2 (.inl h)),s,(eS r s).2 (.inr (.inr ⟨h4,k1⟩)),k2,k3.imp (fun p q h=>(eS p q).2 (.inr (.inl h)))⟩,(eL q).2 (.inr k4)⟩
theorem Iz {x:Ex} {xs:List Ex} {b:Nat} {g:Nat->ByteArray} {w:List ByteArray} :
  cy (fN (x :: xs) b) (gS (x :: xs) b) (fO (x :: xs) b) g w ↔
   cy (jN x b) (iI x b) (jd x b) g w∨cy (fN xs (b+(aB x).length)) (gS xs (b+(aB x).length)) (fO xs (b+(aB x).length)) g w:=by
 cases w with
 | nil=>simp [cy]
 | cons a w=>
  generalize hb':b+(aB x).length=b'
  have eS: ∀p q,gS (x :: xs) b p q↔iI x b p q∨gS xs b' p q:=fun p q=>by rw [gS,hb']
  have eL: ∀p,fO (x :: xs) b p↔jd x b p∨fO xs b' p:=fun p=>by rw [fO,hb']
  have eF: ∀p,fN (x :: xs) b p↔jN x b p∨fN xs b' p:=fun p=>by rw [fN,hb']
  constructor
  ·rintro ⟨p,q,hp,hg,hc,hq⟩
   rcases (eF p).1 hp with hp|hp
   ·obtain ⟨h1,h2⟩:=bg.stay (F:=iI x b) (S:=fun p=>p<=b') (fun p q hs h=>by
     rcases (eS p q).1 h with h|h
     ·exact ⟨h,by have:=dB x h;omega⟩
     ·have:=nz h;omega) (by have:=gv x hp;omega) hc
    rcases (eL q).1 hq with hq|hq
    ·exact .inl ⟨p,q,hp,hg,h1,hq⟩
    ·have:=fm hq;omega
   ·obtain ⟨h1,h2⟩:=bg.stay (F:=gS xs b') (S:=fun p=>b'<p) (fun p q hs h=>by
     rcases (eS p q).1 h with h|h
     ·have:=dB x h;omega
     ·exact ⟨h,by have:=nz h;omega⟩) (by have:=fl hp;omega) hc
    rcases (eL q).1 hq with hq|hq
    ·have:=fA x hq;omega
    ·exact .inr ⟨p,q,hp,hg,h1,hq⟩
  ·rintro (⟨p,q,hp,hg,hc,hq⟩|⟨p,q,hp,hg,hc,hq⟩)
   ·exact ⟨p,q,(eF p).2 (.inl hp),hg,hc.imp (fun p q h=>(eS p q).2 (.inl h)),(eL q).2 (.inl hq)⟩
   ·exact ⟨p,q,(eF p).2 (.inr hp),hg,hc.imp (fun p q h=>(eS p q).2 (.inr h)),(eL q).2 (.inr hq)⟩
theorem Fc {I T:Nat->Prop} {F:Nat->Nat->Prop} {g:Nat->ByteArray} {w:List ByteArray} (hw:w≠[]) :
  cy I (fun p q=>F p q∨(T p∧I q)) T g w↔cQ (cy I F T g) w:=by
 constructor
 ·generalize hn:w.length=n
  induction n using Nat.strongRecOn generalizing w with
  | ind n ih=>
   intro h
   cases w with
   | nil=>exact h.elim
   | cons a w=>
    obtain ⟨p,q,hp,hg,hc,hq⟩:=h
    rcases bg.split (F:=F) (I:=I) (T:=T) (fun _ _ h=>h) hc with h1|⟨u,c,v,r,s,rfl,h1,h2,h3,h4,h5⟩
    ·exact .one ⟨p,q,hp,hg,h1,hq⟩
    ·have:=ih (c :: v).length (by subst hn;simp;omega) (w:=c :: v) (by simp) rfl ⟨s,q,h3,h4,h5,hq⟩
     rw [show a :: (u++c :: v)=(a :: u)++(c :: v) from rfl];exact .cons _ _ (by simp) ⟨p,r,hp,hg,h1,h2⟩ this
 ·intro h
  have key:w=[]∨cy I (fun p q=>F p q∨(T p∧I q)) T g w:=by
   clear hw
   induction h with
   | nil=>exact .inl rfl
   | cons u v hu h1 _ ih=>
    right
    cases u with
    | nil=>exact absurd rfl hu
    | cons a u=>
     obtain ⟨p,q,hp,hg,hc,hq⟩:=h1;have hc':=hc.imp (G:=fun p q=>F p q∨(T p∧I q)) (fun p q h=> .inl h)
     rcases ih with rfl|ih
     ·rw [Vn];exact ⟨p,q,hp,hg,hc',hq⟩
     ·cases v with
      | nil=>exact ih.elim
      | cons c v=>
       obtain ⟨s,t,k1,k2,k3,k4⟩:=ih;exact ⟨p,t,hp,hg,bg.app.2 ⟨q,hc',s, .inr ⟨hq,k1⟩,k2,k3⟩,k4⟩
  exact key.resolve_left hw
theorem TE {x:Ex} (hx:Fit x): ∀ {b:Nat} {g:Nat->ByteArray} {w:List ByteArray},nj (aB x) b g->w≠[]->(Lg x w↔cy (jN x b) (iI x b) (jd x b) g w):=by
 induction hx with
 | lab s=>
  intro b g w hl hw
  have hg:g (b+1)=s:=by have:=hl 0 s (by simp [aB]);simpa using this
  cases w with
  | nil=>exact absurd rfl hw
  | cons a w=>
   simp only [Lg,if_true,cy,jN,jd]
   constructor
   ·intro h;simp only [List.cons.injEq] at h;obtain ⟨rfl,rfl⟩:=h;exact ⟨b+1,b+1,rfl,hg,rfl,rfl⟩
   ·rintro ⟨p,q,rfl,h1,h2,h3⟩
    cases w with
    | nil=>rw [<-h1,hg]
    | cons c w=>obtain ⟨r,h4,_⟩:=h2;simp [iI] at h4
 | many k s l hk hl hf ih=>
  intro b g w hla hw
  have h1:k≠1:=by omega
  rw [cK h1] at hla
  rcases hk with rfl|rfl
  ·have key: ∀(m:List Ex),(∀x∈m,x∈l)-> ∀ {b:Nat} {w:List ByteArray},nj (aJ m) b g->w≠[]->(cM m w↔cy (gp m b) (gn m b) (jj m b) g w):=by
    intro m
    induction m with
    | nil=>
     intro _ b w _ hw;obtain ⟨a,w,rfl⟩:=Vp hw;simp [cM,cy,gp]
    | cons x xs ihm=>
     intro hm b w hla hw;rw [aJ] at hla;have hx:=hm x Va;have hxs: ∀y∈xs,y∈l:=fun y hy=>hm y (U8 _ hy);have eE:=fF (hf x hx)
     have eA:cz xs=true↔cM xs []:=by
      rw [kN,List.all_eq_true,mF];exact ⟨fun h y hy=>(fF (hf y (hxs y hy))).1 (h y hy),fun h y hy=>(fF (hf y (hxs y hy))).2 (h y hy)⟩
     rw [IA hw,cM,eE,eA];have I1:=fun {w:List ByteArray} (hw:w≠[])=>ih x hx (b:=b) (g:=g) (w:=w) hla.left hw;have I2:=fun {w:List ByteArray} (hw:w≠[])=>ihm hxs (b:=b+(aB x).length) (w:=w) hla.right hw
     constructor
     ·rintro ⟨u,v,rfl,h2,h3⟩
      by_cases hu:u=[]
      ·subst hu;exact .inr (.inl ⟨h2,(I2 hw).1 h3⟩)
      ·by_cases hv:v=[]
       ·subst hv;rw [Vn] at hw ⊢;exact .inl ⟨(I1 hu).1 h2,h3⟩
       ·exact .inr (.inr ⟨u,v,rfl,(I1 hu).1 h2,(I2 hv).1 h3⟩)
     ·rintro (⟨h2,h3⟩|⟨h2,h3⟩|⟨u,v,rfl,h2,h3⟩)
      ·exact ⟨w,[],by simp,(I1 hw).2 h2,h3⟩
      ·exact ⟨[],w,rfl,h2,(I2 hw).2 h3⟩
      ·refine ⟨u,v,rfl,(I1 (fun e=> ?_)).2 h2,(I2 (fun e=> ?_)).2 h3⟩
       ·subst e;exact h2
       ·subst e;exact h3
   simp only [Lg,jN,jd,Int.reduceEq,if_false,if_true];rw [key l (fun _ h=>h) hla hw]
   have: ∀ {F G:Nat->Nat->Prop} {I T:Nat->Prop} {w},(∀p q,F p q↔G p q)->(cy I F T g w↔cy I G T g w):=fun {F G I T w} h=>by
    have:F=G:=funext fun p=>funext fun q=>propext (h p q)
    rw [this]
   exact this (fun p q=>by simp [iI])
  ·have key: ∀(m:List Ex),(∀x∈m,x∈l)-> ∀ {b:Nat} {w:List ByteArray},nj (aJ m) b g->w≠[]->(gT m w↔cy (fN m b) (gS m b) (fO m b) g w):=by
    intro m
    induction m with
    | nil=>
     intro _ b w _ hw;obtain ⟨a,w,rfl⟩:=Vp hw;simp [gT,cy,fN]
    | cons x xs ihm=>
     intro hm b w hla hw;rw [aJ] at hla;rw [Iz,gT,ih x (hm x Va) hla.left hw,ihm (fun y hy=>hm y (U8 _ hy)) hla.right hw]
   simp only [Lg,jN,jd,Int.reduceEq,if_false,if_true];rw [key l (fun _ h=>h) hla hw]
   have: ∀ {F G:Nat->Nat->Prop} {I T:Nat->Prop} {w},(∀p q,F p q↔G p q)->(cy I F T g w↔cy I G T g w):=fun {F G I T w} h=>by
    have:F=G:=funext fun p=>funext fun q=>propext (h p q)
    rw [this]
   exact this (fun p q=>by simp [iI])
 | one k s x hk hx ih=>
  intro b g w hla hw
  have h1:k≠1:=by omega
  have h2:k≠2:=by omega
  rw [cK h1,aJ,aJ,Vn] at hla;have I:=fun {w:List ByteArray} (hw:w≠[])=>ih (b:=b) (g:=g) (w:=w) hla hw
  have eF:jN (.mk k s [x]) b=jN x b:=funext fun p=>by simp [jN,h1,h2,fN]
  have eL:jd (.mk k s [x]) b=jd x b:=funext fun p=>by simp [jd,h1,h2,fO]
  have star: ∀ {w:List ByteArray},w≠[]->(cQ (rH [x]) w↔cy (jN x b) (fun p q=>iI x b p q∨(jd x b p∧jN x b q)) (jd x b) g w):=fun {w} hw=>by
   rw [Fc hw]
   constructor
   ·intro h;clear hw
    induction h with
    | nil=>exact .nil
    | cons u v hu h1 _ ih=>exact .cons u v hu ((I hu).1 h1) ih
   ·intro h;clear hw
    induction h with
    | nil=>exact .nil
    | cons u v hu h1 _ ih=>exact .cons u v hu ((I hu).2 h1) ih
  rw [eF,eL]
  rcases hk with rfl|rfl|rfl
  ·have eFo:iI (.mk 4 s [x]) b=(fun p q=>iI x b p q∨(jd x b p∧jN x b q)):=funext fun p=>funext fun q=>by simp [iI,gS,fO,fN]
   rw [eFo, <- star hw];simp [Lg]
  ·have eFo:iI (.mk 5 s [x]) b=(fun p q=>iI x b p q∨(jd x b p∧jN x b q)):=funext fun p=>funext fun q=>by simp [iI,gS,fO,fN]
   rw [eFo, <- star hw];simp only [Lg,Int.reduceEq,if_false,if_true]
   constructor
   ·rintro ⟨u,v,rfl,h3,h4⟩;exact (cQ.one h3).append h4
   ·intro h
    rcases h.inv with e|⟨u,v,rfl,hu,h3,h4⟩
    ·exact absurd e hw
    ·exact ⟨u,v,rfl,h3,h4⟩
  ·have eFo:iI (.mk 6 s [x]) b=iI x b:=funext fun p=>funext fun q=>by simp [iI,gS]
   rw [eFo, <- I hw];simp [Lg,rH,hw]
end Go.Proofs.YtfflpdekojlnmaaGreatDoor
