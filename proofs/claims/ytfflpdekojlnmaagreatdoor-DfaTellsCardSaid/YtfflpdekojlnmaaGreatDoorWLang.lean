/- texts of one claim, one behind the other. -/
import Derived.Test.YtfflpdekojlnmaaGreatDoorWFen
import Derived.Test.YtfflpdekojlnmaaGreatDoorWAbsS
import Derived.OrdersIn
set_option linter.unusedSimpArgs false
set_option linter.unusedVariables false
set_option maxRecDepth 100000
set_option maxHeartbeats 16000000
open Array renaming getD_eq_getD_getElem? -> Vl, getElem?_eq_getElem -> UL, any_eq_true' -> VE, all_eq_true_iff_forall_mem -> Vk
open Bool renaming and_eq_true -> Vj, or_eq_true -> VJ
open List renaming getElem?_cons_zero -> VC, getElem?_take_of_lt -> U1, getElem?_eq_some_iff -> Uy, range'_succ -> VG, all_eq_true -> VH, mem_range -> VI, size_toArray -> UX, getElem?_toArray -> UO, getElem?_eq_getElem -> UM, singleton_append -> Vx, append_nil -> VL, append_eq_nil_iff -> VM, mem_cons_self -> Vy, mem_cons_of_mem -> Vv, length_append -> UC, exists_cons_of_ne_nil -> VN
open Nat renaming lt_or_ge -> UA, sub_self -> VD, le_refl -> Ut, lt_trichotomy -> VF, zero_le -> UE, le_of_lt -> VK
namespace Go.Proofs.YtfflpdekojlnmaaGreatDoor
open Go.RowKit
section
section
variable {P:Program} {ops:Array Oper}
def IS (ops:Array Oper) (m i j:Nat):Bool:=
 match ops[i]?,ops[j]? with
 | some oi,some oj=>(decide (m<=j)||aE ops j i||oi.apart ops oj) && !aE ops i j&&(match oi.dst with|some d=>oj.dst !=some d|none=>true)&&(decide (m<=j)||match oj.dst with|some d=> !(oi.looksAt ops).contains d|none=>true)
 | _,_=>true
def gk (ops:Array Oper) (m:Nat):Bool:=
 Region.noSelect ops&&decide (m<ops.size)&&(List.range ops.size).all (fun j=>(List.range j).all (fun i=>IS ops m i j)&&(!aE ops j j&&y0 ops j)) &&
 (List.range ops.size).all (fun t=>decide (t<m)||(List.range t).all (fun i=>(List.range (t+1)).any (fun i'=>decide (i<i')&&aE ops i' i)))
def nh (st:Nat->(Act->World->Prop)->Act->World->Prop) (ops:Array Oper) (E:Act->World->Prop):Nat->Array Bool->Act->World->Prop
 | 0,listed,a,w=>Region.ready .any ops listed=[]∧E a w
 | fuel+1,listed,a,w=>(Region.ready .any ops listed=[]->E a w)∧ ∀i∈Region.ready .any ops listed,st i (nh st ops E fuel (listed.setIfInBounds i true)) a w
def pB (st:Nat->(Act->World->Prop)->Act->World->Prop) (E:Act->World->Prop):List Nat->Act->World->Prop
 | []=>E
 | i :: r=>st i (pB st E r)
structure Kl (P:Program) (ops:Array Oper) (st:Nat->(Act->World->Prop)->Act->World->Prop):Prop where
 mono: ∀ {i:Nat} {K K':Act->World->Prop} {a:Act} {w:World},(∀a w,K a w->K' a w)->st i K a w->st i K' a w
 of: ∀ {i:Nat} {o:Oper} {S:Spec} {K:Act->World->Prop} {a:Act} {w:World},ops[i]? = some o->lC P ops S o a w->(∀v w2,S.p v w2->Below w.heap.size w w2->K (a.put o.dst v) w2)->st i K a w
theorem DT {Q:Exit->Act->World->Prop}: ∀(fuel:Nat) (listed:Array Bool) (a:Act) (w:World),nh (wpOp P ops Q) ops (Q .normal) fuel listed a w->wpAny P .any ops Q fuel listed a w
 | 0,_,_,_,h=>h
 | fuel+1,_,_,_,h=>⟨h.1,fun i hi=>wpOp_mono (fun _ _=>DT fuel _ _ _) (h.2 i hi)⟩
theorem DU {Q:Exit->Act->World->Prop}: ∀l:List Nat,wpOps P ops Q l=pB (wpOp P ops Q) (Q .normal) l
 | []=>by funext a w;simp [wpOps,pB]
 | i :: l=>by funext a w;rw [wpOps_cons,DU l];rfl
theorem Ma (Q:Exit->Act->World->Prop):Kl P ops (wpOp P ops Q):=⟨fun h k=>wpOp_mono h k,fun {i o S K a w} hi h next=>by
 unfold wpOp;simp only [hi]
 rcases h with ⟨h1,h2⟩|⟨h1,h2⟩
 ·rw [if_pos h1];refine .inl ?_;unfold Oper.wp;generalize (execOp a.eval o).run P w=r at h2
  cases r with
  | halt _ _=>exact h2.elim
  | ok n w'=>
   cases n<;>first|exact h2.elim|skip
   case value u=>exact next _ _ h2.1 h2.2
   case skip=>exact next _ _ h2.1 h2.2
   case enter f args=>
    refine Calls.mono h2 fun e w'' he=> ?_;obtain ⟨v,rfl,hv,hb⟩:=he
    exact next _ _ hv hb
 ·rw [if_neg (by rw [h1];decide)]
  exact next _ _ h2 (Below.refl _ _)⟩
def Ap (P:Program) (ops:Array Oper) (Q:Exit->Act->World->Prop) (k:Nat):Act->World->Prop:=wpOps P ops Q (List.range' k (ops.size - k))
def mX (P:Program) (ops:Array Oper) (L:List Spec) (w0:World) (T:Nat->Act->World->Prop):List Oper->Nat->((Nat->Value)->Act)->Prop
 | [],k,A=> ∀x w,Below w0.heap.size w0 w->(∀i,i<k->(at' L i).p (x i) w)->T k (A x) w
 | o :: l,k,A=>(∀x w,Below w0.heap.size w0 w->(∀i,aE ops k i=true->(at' L i).p (x i) w)->lC P ops (at' L k) o (A x) w)∧mX P ops L w0 T l (k+1) (fun x=>(A x).put o.dst (x k))
def OX (b:Bool) (n:Nat) (S:Spec):Spec:=⟨fun v w=>S.p v w∧(b=true-> ∀k,cd v=some k->n<=k),fun v w w' hb h=>⟨S.st v w w' hb h.1,h.2⟩⟩
def pj (P:Program) (ops:Array Oper) (L:List Spec) (fr:Nat->Bool) (w0:World) (T:Nat->Act->World->Prop):List Oper->Nat->((Nat->Value)->Act)->Prop
 | [],k,A=> ∀x w,Below w0.heap.size w0 w->(∀i,i<k->(at' L i).p (x i) w)->(∀i j,i<k->j<k->i≠j->fr i=true->fr j=true-> ∀b,cd (x i)=some b->cd (x j)≠some b)->T k (A x) w
 | o :: l,k,A=>(∀x w,Below w0.heap.size w0 w->(∀i,aE ops k i=true->(at' L i).p (x i) w)->(∀i j,aE ops k i=true->aE ops k j=true->i≠j->fr i=true->fr j=true-> ∀b,cd (x i)=some b->cd (x j)≠some b)->lC P ops (OX (fr k) w.heap.size (at' L k)) o (A x) w)∧pj P ops L fr w0 T l (k+1) (fun x=>(A x).put o.dst (x k))
theorem lC.OX {S:Spec} {o:Oper} {a:Act} {w:World} {n:Nat} (h:lC P ops S o a w):lC P ops (OX false n S) o a w:=by
 rcases h with ⟨h1,h2⟩|⟨h1,h2⟩
 ·refine .inl ⟨h1, ?_⟩
  revert h2
  generalize (execOp a.eval o).run P w=r;intro h2
  cases r with
  | halt _ _=>exact h2.elim
  | ok n w'=>
   cases n<;>first|exact h2.elim|skip
   case value u=>exact ⟨⟨h2.1,fun h=>by cases h⟩,h2.2⟩
   case skip=>exact ⟨⟨h2.1,fun h=>by cases h⟩,h2.2⟩
   case enter f args=>
    refine Calls.mono h2 fun e w'' he=> ?_;obtain ⟨v,rfl,hv,hb⟩:=he;exact ⟨v,rfl,⟨hv,fun h=>by cases h⟩,hb⟩
 ·exact .inr ⟨h1,h2,fun h=>by cases h⟩
theorem lk {L:List Spec} {w0:World} {T:Nat->Act->World->Prop}: ∀(l:List Oper) (k:Nat) (A:(Nat->Value)->Act),mX P ops L w0 T l k A->pj P ops L (fun _=>false) w0 T l k A
 | [],k,A,h=>fun x w h1 h2 _=>h x w h1 h2
 | o :: l,k,A,h=>⟨fun x w h1 h2 _=>(h.1 x w h1 h2).OX,lk l (k+1) _ h.2⟩
theorem qS {l:List Oper} {L:List Spec} {fr:Nat->Bool} {w0:World} {T:Nat->Act->World->Prop} {a0:Act} (hA:lX l) {m0:Nat} (hm:m0<=l.length): ∀(l':List Oper) (k:Nat) (A:(Nat->Value)->Act),(l.take m0).drop k=l'->k<=m0->(A=fun x=>db (fun i=>decide (i<k)) x l 0 a0) ->
  pj P l.toArray L fr w0 T l' k A->(∀j o,k<=j->j<m0->l[j]? = some o-> ∀x w,Below w0.heap.size w0 w->(∀i,aE l.toArray j i=true->(at' L i).p (x i) w)->(∀i i',aE l.toArray j i=true->aE l.toArray j i'=true->i≠i'->fr i=true->fr i'=true-> ∀b,cd (x i)=some b->cd (x i')≠some b)->lC P l.toArray (OX (fr j) w.heap.size (at' L j)) o (db (fun i=>decide (i<j)) x l 0 a0) w)∧ ∀x w,Below w0.heap.size w0 w->(∀i,i<m0->(at' L i).p (x i) w)->(∀i j,i<m0->j<m0->i≠j->fr i=true->fr j=true-> ∀b,cd (x i)=some b->cd (x j)≠some b)->T m0 (db (fun i=>decide (i<m0)) x l 0 a0) w
 | [],k,A,hl,hk,hAx,h=>by
  have h1:k=m0:=by have:=congrArg List.length hl;simp at this;omega
  subst h1;subst hAx;refine ⟨fun j o h1 h2=>by omega,fun x w h1 h2 h3=> ?_⟩
  have:=h x w h1 h2 h3
  simpa using this
 | o :: l',k,A,hl,hk,hAx,h=>by
  have h1:k<m0:=by have:=congrArg List.length hl;simp at this;omega
  have h2:l[k]? = some o:=by
   have:=congrArg (fun m=>m[0]?) hl
   simp only [List.getElem?_drop,Nat.add_zero,VC] at this
   rwa [U1 h1] at this
  subst hAx
  have hrec:=qS hA hm l' (k+1) _ (by have:=congrArg List.tail hl;simpa using this) h1 (by
   funext x
   have hi:=jV (s:=fun i=>decide (i<k)) (x:=x) (v:=x k) l 0 k a0 hA h2 (by simp);rw [Nat.zero_add] at hi;rw [<-hi];refine bJ l 0 a0 (fun i _ _=> ?_)
   by_cases hik:i=k
   ·subst hik;simp [bZ,iF]
   ·have:(i<k+1)=(i<k):=by apply propext;omega
    simp [bZ,iF,hik,this]) h.2
  refine ⟨fun j o' hj hjm ho=> ?_,hrec.2⟩
  by_cases hjk:j=k
  ·subst hjk;rw [h2] at ho;cases ho;exact h.1
  ·exact hrec.1 j o' (by omega) hjm ho
theorem As {s:Nat->Bool}: ∀n m,m<=n->(∀i,m<=i->i<n->s i=false)->n - m<=Ar s n
 | 0,m,_,_=>by omega
 | n+1,m,h,hs=>by
  rcases UA n m with q|q
  ·omega
  ·have:=As (s:=s) n m q (fun i h1 h2=>hs i h1 (by omega))
   rw [Ar,hs n q (by omega)];simp;omega
theorem JI {l:List Oper} {m0:Nat} {st:Nat->(Act->World->Prop)->Act->World->Prop} {E:Act->World->Prop} (hst:Kl P l.toArray st) (hnext: ∀t,m0<=t->t<l.length-> ∀i,i<t-> ∃i',i'<=t∧i<i'∧aE l.toArray i' i=true)
  (hback: ∀i j oi oj,i<j->l[i]? = some oi->l[j]? = some oj->aE l.toArray i j=false) (hself: ∀j,j<l.length->aE l.toArray j j=false) (hfar: ∀(j:Nat) (o:Oper),l[j]? = some o-> ∀e∈o.after,e.on<l.length) :
  ∀(fuel k:Nat) (listed:Array Bool) (a:Act) (w:World),listed.size=l.length->m0<=k->k<=l.length->(∀i,listed.getD i false=decide (i<k))->l.length - k<=fuel ->
   pB st E (List.range' k (l.length - k)) a w->nh st l.toArray E fuel listed a w:=by
 intro fuel
 induction fuel with
 | zero=>
  intro k listed a w hsz hm hk hl hf h
  have e:k=l.length:=by omega
  subst e;rw [VD] at h;refine ⟨?_,by simpa [pB] using h⟩;refine List.eq_nil_iff_forall_not_mem.2 (fun i hi=> ?_);obtain ⟨g1,o,g2, -⟩:=mem_ready.1 hi;have hil:i<l.length:=(Uy.1 (show l[i]? = some o by simpa using g2)).1
  have his:i<listed.size:=by omega
  have g3:=hl i
  rw [show listed.getD i false=false by
   simp only [Vl,UL his,Option.getD_some] at g1 ⊢; exact g1] at g3
  simp [hil] at g3
 | succ fuel ih=>
  intro k listed a w hsz hm hk hl hf h
  have hread: ∀j,j∈Region.ready .any l.toArray listed->j=k∧k<l.length:=by
   intro j hj;obtain ⟨g1,o,g2,g3⟩:=mem_ready.1 hj
   have hoj:l[j]? = some o:=by simpa using g2
   have hjl:j<l.length:=(Uy.1 hoj).1
   have his:j<listed.size:=by omega
   have g4:=hl j
   rw [show listed.getD j false=false by
    simp only [Vl,UL his,Option.getD_some] at g1 ⊢; exact g1] at g4
   have hkj:k<=j:=by
    rcases UA j k with q|q
    ·simp [q] at g4
    ·exact q
   rcases Nat.eq_or_lt_of_le hkj with e|hlt
   ·exact ⟨e.symm,by omega⟩
   ·exfalso
    have hd: ∀i,aE l.toArray j i=true->listed.getD i false=true:=by
     intro i hi;simp only [aE,g2,Vj,beq_iff_eq,VE] at hi;obtain ⟨e,he,hb,rfl⟩:=hi;exact g3 e he hb
    have hsome: ∀n i,i+n+1=j->k<=i->False:=by
     intro n
     induction n using Nat.strongRecOn with
     | _ n ihn=>
      intro i hi hki;obtain ⟨i',q1,q2,q3⟩:=hnext j (by omega) hjl i (by omega)
      by_cases hi':i'=j
      ·subst hi'
       have:=hd i q3
       rw [hl i] at this;simp at this;omega
      ·exact ihn (j - 1 - i') (by omega) i' (by omega) (by omega)
    exact hsome (j - k - 1) k (by omega) (Ut _)
  refine ⟨fun h0=> ?_,fun j hj=> ?_⟩
  ·rcases UA k l.length with q|q
   ·exfalso
    have hmem:k∈Region.ready .any l.toArray listed:=by
     refine mem_ready.2 ⟨?_,l[k],by simp [q],fun e he hb=> ?_⟩
     ·have hms:k<listed.size:=by omega
      have:=hl k
      simp [hms] at this ⊢; exact this
     ·have hd:aE l.toArray k e.on=true:=by
       have:l.toArray[k]? = some l[k]:=by simp [q]
       simp only [aE,this];simp only [VE,Vj,beq_iff_eq];exact ⟨e,he,hb,rfl⟩
      rcases VF e.on k with h'|h'|h'
      ·rw [hl];simpa using h'
      ·rw [h',hself k q] at hd;cases hd
      ·by_cases hl':e.on<l.length
       ·have:=hback k e.on l[k] l[e.on] h' (by simp [q]) (by simp [hl'])
        rw [hd] at this;cases this
       ·exact absurd (hfar k l[k] (by simp [q]) e he) hl'
    rw [h0] at hmem;cases hmem
   ·have e:k=l.length:=by omega
    subst e;rw [VD] at h;simpa [pB] using h
  ·obtain ⟨rfl,hlt⟩:=hread j hj
   have e:l.length - j=(l.length - (j+1))+1:=by omega
   rw [e,VG] at h;simp only [pB] at h;refine hst.mono (fun a' w' h'=>ih (j+1) _ a' w' (by simpa using hsz) (by omega) hlt (fun i=> ?_) (by omega) h') h
   by_cases hij:i=j
   ·subst hij
    have:i<listed.size:=by omega
    simp [this]
   ·rw [show (listed.setIfInBounds j true).getD i false=listed.getD i false from getD_set_ne false (Ne.symm hij),hl i]
    have:(i<j+1)=(i<j):=by apply propext;omega
    simp [this]
theorem gD {st:Nat->(Act->World->Prop)->Act->World->Prop} {E:Act->World->Prop} {a:Act} {w:World} {l:List Oper} (L:List Spec) (fr:Nat->Bool) (hfr: ∀i v w,fr i=true->(at' L i).p v w-> ∀b,cd v=some b->b<w.heap.size) (m0:Nat) (hst:Kl P l.toArray st) (hB:gk l.toArray m0=true)
  (h:pj P l.toArray L fr w.drew (fun k=>pB st E (List.range' k (l.length - k))) (l.take m0) 0 (fun _=>a)):nh st l.toArray E l.toArray.size (Array.replicate l.toArray.size false) a w.drew:=by
 simp only [gk,Vj,VH,VI,UX,decide_eq_true_eq] at hB;obtain ⟨⟨⟨hns,hm0⟩,hall⟩,htail⟩:=hB;have hsel:=Region.noSelect_spec hns
 have hpair: ∀i j oi oj,i<j->l[i]? = some oi->l[j]? = some oj->(j<m0->aE l.toArray j i=true∨oi.apart l.toArray oj=true)∧aE l.toArray i j=false∧(∀e,oi.dst=some e->oj.dst≠some e)∧(j<m0-> ∀e,oj.dst=some e->e∉oi.looksAt l.toArray):=by
  intro i j oi oj hij hi hj;have hjn:=(Uy.1 hj).1
  have:=(hall j hjn).1 i hij
  simp only [IS,UO,hi,hj,Vj,VJ,Bool.not_eq_true',decide_eq_true_eq] at this
  refine ⟨fun hlt=> ?_,this.1.1.2,fun e he=> ?_,fun hlt e he=> ?_⟩
  ·rcases this.1.1.1 with (h|h)|h
   ·omega
   ·exact .inl h
   ·exact .inr h
  ·have h3:=this.1.2;rw [he] at h3;simpa using h3
  ·have h3:=this.2;rw [he] at h3
   rcases h3 with h3|h3
   ·omega
   ·simpa using h3
 have hself: ∀j,j<l.length->aE l.toArray j j=false:=fun j hj=>by simpa using (hall j hj).2.1
 have hfar: ∀(j:Nat) (o:Oper),l[j]? = some o-> ∀e∈o.after,e.on<l.length:=fun j o hj e he=>by
  have:=(hall j (Uy.1 hj).1).2.2
  simp only [y0,UO,hj,Vk] at this;simpa using this e he
 have hnext: ∀t,m0<=t->t<l.length-> ∀i,i<t-> ∃i',i'<=t∧i<i'∧aE l.toArray i' i=true:=fun t ht htl i hit=>by
  have:=htail t htl
  simp only [VJ,decide_eq_true_eq,VH,List.any_eq_true,VI,Vj] at this
  rcases this with h|h
  ·omega
  ·obtain ⟨i',h1,h2,h3⟩:=h i hit;exact ⟨i',by omega,h2,h3⟩
 have hA:lX l:=fun i j oi oj hi hj hij e he=>by
  rcases Nat.lt_or_gt_of_ne hij with h|h
  ·exact (hpair i j oi oj h hi hj).2.2.1 e he
  ·intro h2;exact (hpair j i oj oi h hj hi).2.2.1 e h2 he
 have hO:=qS (P:=P) (L:=L) (fr:=fr) (w0:=w.drew) (T:=fun k=>pB st E (List.range' k (l.length - k))) (a0:=a) hA (m0:=m0) (by omega) (l.take m0) 0 (fun _=>a) (by simp) (UE _) (by
  funext x
  exact (show a=db (fun _=>false) x l 0 a from by
   have: ∀(l:List Oper) k,a=db (fun _=>false) x l k a:=by
    intro l
    induction l with
    | nil=>intro k;rfl
    | cons o l ih=>intro k;rw [db];exact ih (k+1)
   exact this l 0).trans (bJ l 0 a (fun i _ _=>by simp))) h
 
 have hloose: ∀i j oi oj,i<m0->j<m0->l[i]? = some oi->l[j]? = some oj->i≠j->aE l.toArray j i=false-> ∀d,oi.dst=some d->d∉oj.looksAt l.toArray:=by
  intro i j oi oj him hjm hi hj hij hd
  rcases Nat.lt_or_gt_of_ne hij with h|h
  ·rcases (hpair i j oi oj h hi hj).1 hjm with h1|h1
   ·rw [hd] at h1;cases h1
   ·exact (Oper.apart_spec h1).1
  ·exact (hpair j i oj oi h hj hi).2.2.2 him
 
 have hsee: ∀(s s':Nat->Bool) x j oj,(∀i,m0<=i->s i=false∧s' i=false)->j<m0->l[j]? = some oj->s j=false->s' j=false->(∀i,i<l.length->aE l.toArray j i=true->s i=true∧s' i=true) ->
   execOp (db s x l 0 a).eval oj=execOp (db s' x l 0 a).eval oj∧Region.wanted oj (yielded l.toArray (db s x l 0 a).tmps)=Region.wanted oj (yielded l.toArray (db s' x l 0 a).tmps):=by
  intro s s' x j oj hst hjm hj h1 h2 hd
  have one:=fun (s:Nat->Bool) (hs0: ∀i,m0<=i->s i=false) (hs:s j=false)=>qx (ops:=l.toArray) (s:=s) (keep:=aE l.toArray j) (x:=x) (a:=a) hA (fun cs b=>hsel j oj cs b (by simpa using hj))
   (fun i oi hi hsi hk=>hloose i j oi oj (by rcases UA i m0 with q|q;exact q;rw [hs0 i q] at hsi;cases hsi) hjm hi hj (by intro e;subst e;rw [hsi] at hs;cases hs) hk)
  obtain ⟨a1,a2⟩:=one s (fun i hi=>(hst i hi).1) h1;obtain ⟨b1,b2⟩:=one s' (fun i hi=>(hst i hi).2) h2
  have e:db (fun i=>s i&&aE l.toArray j i) x l 0 a=db (fun i=>s' i&&aE l.toArray j i) x l 0 a:=bJ l 0 a (fun i _ hi=>by
   refine ⟨?_,fun _=>rfl⟩
   cases hk:aE l.toArray j i
   ·simp
   ·obtain ⟨c1,c2⟩:=hd i (by omega) hk
    simp [c1,c2])
  exact ⟨by rw [a1,b1,e],by rw [a2,b2,e]⟩
 have main: ∀fuel (listed:Array Bool) x w1,listed.size=l.length->Below w.drew.heap.size w.drew w1->(∀i,listed.getD i false=true->(at' L i).p (x i) w1) ->
   (∀j i,listed.getD j false=true->aE l.toArray j i=true->listed.getD i false=true)->(∀i,m0<=i->listed.getD i false=false)->(∀i j,listed.getD i false=true->listed.getD j false=true->i≠j->fr i=true->fr j=true-> ∀b,cd (x i)=some b->cd (x j)≠some b)->Ar (fun i=>listed.getD i false) l.length<=fuel ->
   nh st l.toArray E fuel listed (db (fun i=>listed.getD i false) x l 0 a) w1:=by
  intro fuel
  induction fuel with
  | zero=>
   intro listed x w1 _ _ _ _ hlast _ hu
   have:=x9 (s:=fun i=>listed.getD i false) l.length (i:=m0) hm0 (hlast m0 (Ut _))
   omega
  | succ fuel ih=>
   intro listed x w1 hsz hE hF hcl hlast hpr hu
   have hmemR: ∀j,j∈Region.ready .any l.toArray listed-> ∃oj,l[j]? = some oj∧listed.getD j false=false∧ ∀i,aE l.toArray j i=true->listed.getD i false=true:=by
    intro j hj;obtain ⟨h1,o,ho,h3⟩:=mem_ready.1 hj
    refine ⟨o,by simpa using ho, ?_,fun i hi=> ?_⟩
    ·rcases UA j listed.size with h'|h'
     ·simp [h'] at h1 ⊢; exact h1
     ·simp [Array.getElem?_eq_none h']
    ·simp only [aE,ho,Vj,beq_iff_eq,VE] at hi;obtain ⟨e,he,hb,rfl⟩:=hi;exact h3 e he hb
   refine ⟨fun h0=> ?_,fun j hj=> ?_⟩
   ·
    exfalso
    have hex: ∃m,m<l.length∧listed.getD m false=false∧ ∀i,i<m->listed.getD i false=true:=by
     have: ∀k,k<=l.length->(∀i,i<k->listed.getD i false=true)∨ ∃m,m<l.length∧listed.getD m false=false∧ ∀i,i<m->listed.getD i false=true:=by
      intro k
      induction k with
      | zero=>exact fun _=> .inl (fun i hi=>by omega)
      | succ k ihk=>
       intro hk
       rcases ihk (by omega) with h|h
       ·cases hc:listed.getD k false
        ·exact .inr ⟨k,by omega,hc,h⟩
        ·exact .inl (fun i hi=>by
          by_cases e:i=k
          ·subst e;exact hc
          ·exact h i (by omega))
       ·exact .inr h
     rcases this l.length (Ut _) with h|h
     ·have:=h m0 hm0
      rw [hlast m0 (Ut _)] at this;cases this
     ·exact h
    obtain ⟨m,hm1,hm2,hm3⟩:=hex
    have hmem:m∈Region.ready .any l.toArray listed:=by
     refine mem_ready.2 ⟨?_,l[m],by simp [hm1],fun e he hb=> ?_⟩
     ·have hms:m<listed.size:=by omega
      simp [hms] at hm2 ⊢; exact hm2
     ·have hd:aE l.toArray m e.on=true:=by
       have:l.toArray[m]? = some l[m]:=by simp [hm1]
       simp only [aE,this];simp only [VE,Vj,beq_iff_eq];exact ⟨e,he,hb,rfl⟩
      rcases VF e.on m with h|h|h
      ·exact hm3 _ h
      ·rw [h,hself m hm1] at hd;cases hd
      ·by_cases hl:e.on<l.length
       ·have:=(hpair m e.on l[m] l[e.on] h (by simp [hm1]) (by simp [hl])).2.1
        rw [hd] at this;cases this
       ·exact absurd (hfar m l[m] (by simp [hm1]) e he) hl
    rw [h0] at hmem;cases hmem
   ·obtain ⟨oj,hoj,hun,hdeps⟩:=hmemR j hj;have hjl:=(Uy.1 hoj).1
    have hsj:(listed.setIfInBounds j true).size=l.length:=by simpa using hsz
    have hgd: ∀i,(listed.setIfInBounds j true).getD i false=bZ (fun i=>listed.getD i false) j i:=by
     intro i
     by_cases hij:i=j
     ·subst hij
      have:i<listed.size:=by omega
      simp [bZ,this]
     ·simp only [bZ,if_neg hij];exact getD_set_ne false (Ne.symm hij)
    have hup: ∀t,m0<=t->t<l.length->(∀i,aE l.toArray t i=true->listed.getD i false=true)-> ∀k i,i+k+1=t->listed.getD i false=true:=by
     intro t h1 h2 hdt k
     induction k using Nat.strongRecOn with
     | _ k ihk=>
      intro i hi;obtain ⟨i',q1,q2,q3⟩:=hnext t h1 h2 i (by omega)
      by_cases hi':i'=t
      ·subst hi';exact hdt i q3
      ·exact hcl i' i (ihk (t - 1 - i') (by omega) i' (by omega)) q3
    by_cases hjn:m0<=j
    ·
     have hj0:j=m0:=by
      rcases Nat.eq_or_lt_of_le hjn with e|hlt
      ·exact e.symm
      ·have:=hup j hjn hjl hdeps (j - m0 - 1) m0 (by omega)
       rw [hlast m0 (Ut _)] at this;cases this
     subst hj0;have hall': ∀i,i<j->listed.getD i false=true:=fun i hi=>hup j hjn hjl hdeps (j - i - 1) i (by omega);have h2:=hO.2 x w1 hE (fun i hi=>hF i (hall' i hi)) (fun i k hi hk=>hpr i k (hall' i hi) (hall' k hk))
     have e:db (fun i=>decide (i<j)) x l 0 a=db (fun i=>listed.getD i false) x l 0 a:=bJ l 0 a (fun i _ hi=>by
      refine ⟨?_,fun _=>rfl⟩
      by_cases hij:i<j
      ·simp only [hij,decide_true];exact (hall' i hij).symm
      ·simp only [hij,decide_false];exact (hlast i (by omega)).symm)
     rw [e] at h2
     have hrun:=JI (P:=P) (st:=st) (E:=E) (l:=l) (m0:=j) hst (fun t h1 h2=>hnext t h1 h2) (fun i k oi ok hik h1 h2=>(hpair i k oi ok hik h1 h2).2.1) hself hfar (fuel+1) j listed _ w1 hsz (Ut _) (VK hjl) (fun i=>by
      by_cases hij:i<j
      ·simp only [hij,decide_true];exact hall' i hij
      ·simp only [hij,decide_false];exact hlast i (by omega)) (by
      have:=As (s:=fun i=>listed.getD i false) l.length j (VK hjl) (fun i h1 _=>hlast i h1)
      omega) h2
     exact hrun.2 j hj
    ·have hjm:j<m0:=by omega
     have hst2:=hO.1 j oj (UE _) hjm hoj x w1 hE (fun i hi=>hF i (hdeps i hi)) (fun i k hi hk=>hpr i k (hdeps i hi) (hdeps k hk))
     obtain ⟨c1,c2⟩:=hsee (fun i=>listed.getD i false) (fun i=>decide (i<j)) x j oj (fun i hi=>⟨hlast i hi,by simp;omega⟩) hjm hoj hun (by simp) (fun i hi hd=>⟨hdeps i hd,by
      rcases VF i j with h|h|h
      ·simpa using h
      ·rw [h,hself j hjl] at hd;cases hd
      ·have:=(hpair j i oj l[i] h hoj (by simp [hi])).2.1
       rw [hd] at this;cases this⟩)
     have next: ∀v w2,(OX (fr j) w1.heap.size (at' L j)).p v w2->Below w1.heap.size w1 w2->nh st l.toArray E fuel (listed.setIfInBounds j true) ((db (fun i=>listed.getD i false) x l 0 a).put oj.dst v) w2:=by
      intro v w2 hvf hb;obtain ⟨hv,hvn⟩:=hvf;have hi:=jV (s:=fun i=>listed.getD i false) (x:=x) (v:=v) l 0 j a hA hoj (by simpa using hun);rw [Nat.zero_add] at hi;rw [<-hi, <- show (fun i=>(listed.setIfInBounds j true).getD i false)=bZ (fun i=>listed.getD i false) j from funext hgd]
      refine ih _ _ w2 hsj (GU hE hb) (fun i hi'=> ?_) (fun j' i hj' hd=> ?_) ?_ ?_ ?_
      ·rw [hgd] at hi'
       by_cases hij:i=j
       ·subst hij;simpa [iF] using hv
       ·simp only [bZ,if_neg hij] at hi';simp only [iF,if_neg hij];exact (at' L i).st _ _ _ hb (hF i hi')
      ·rw [hgd] at hj' ⊢
       by_cases hij:i=j
       ·simp [bZ,hij]
       ·simp only [bZ,if_neg hij]
        by_cases hj2:j'=j
        ·subst hj2;exact hdeps i hd
        ·simp only [bZ,if_neg hj2] at hj';exact hcl j' i hj' hd
      ·intro i hi;rw [hgd]
       have:i≠j:=by omega
       simp only [bZ,if_neg this];exact hlast i hi
      ·intro i k hi hk hik fi fk b hbi hbk;rw [hgd] at hi hk
       have old: ∀i,bZ (fun i=>listed.getD i false) j i=true->i≠j->listed.getD i false=true:=fun i h1 h2=>by simpa only [bZ,if_neg h2] using h1
       by_cases hij:i=j
       ·subst hij;have hkj:k≠i:=fun e=>hik e.symm;simp only [iF,if_true,if_neg hkj] at hbi hbk
        have:=hfr k _ w1 fk (hF k (old k hk hkj)) b hbk
        have:=hvn fi b hbi
        omega
       ·by_cases hkj:k=j
        ·subst hkj;simp only [iF,if_true,if_neg hij] at hbi hbk
         have:=hfr i _ w1 fi (hF i (old i hi hij)) b hbi
         have:=hvn fk b hbk
         omega
        ·simp only [iF,if_neg hij,if_neg hkj] at hbi hbk;exact hpr i k (old i hi hij) (old k hk hkj) hik fi fk b hbi hbk
      ·rw [kL (s':=bZ (fun i=>listed.getD i false) j) l.length (fun i _=>hgd i)]
       have:=pD (s:=fun i=>listed.getD i false) (i:=j) l.length hjl hun
       omega
     unfold lC at hst2;rw [<-c1, <- c2] at hst2
     exact hst.of (by simpa using hoj) hst2 next
 have hrep: ∀i,(Array.replicate l.toArray.size false).getD i false=false:=fun i=>by
  simp only [Vl,Array.getElem?_replicate];split<;>rfl
 have h0:=main l.toArray.size (Array.replicate l.toArray.size false) (fun _=>undef) w.drew (by simp) (Below.refl _ _)
  (fun i hi=>by rw [hrep] at hi;cases hi) (fun j i hj=>by rw [hrep] at hj;cases hj) (fun i _=>hrep i) (fun i j hi=>by rw [hrep] at hi;cases hi) (x8 _)
 have e:db (fun i=>(Array.replicate l.toArray.size false).getD i false) (fun _=>undef) l 0 a=a:=by
  have: ∀(l':List Oper) k,db (fun i=>(Array.replicate l.toArray.size false).getD i false) (fun _=>undef) l' k a=a:=by
   intro l'
   induction l' with
   | nil=>intro k;rfl
   | cons o l' ih=>intro k;rw [db,hrep];exact ih (k+1)
  exact this l 0
 rw [e] at h0;exact h0
theorem Me (Q:Exit->Act->World->Prop) (l:List Oper):Ap P l.toArray Q=fun k=>pB (wpOp P l.toArray Q) (Q .normal) (List.range' k (l.length - k)):=by
 funext k;rw [Ap,DU];simp only [UX]
theorem ki {Q:Exit->Act->World->Prop} {a:Act} {w:World} {l:List Oper} (L:List Spec) (fr:Nat->Bool) (hfr: ∀i v w,fr i=true->(at' L i).p v w-> ∀b,cd v=some b->b<w.heap.size) (m0:Nat) (hB:gk l.toArray m0=true)
  (h:pj P l.toArray L fr w.drew (Ap P l.toArray Q) (l.take m0) 0 (fun _=>a)):wpAny P .any l.toArray Q l.toArray.size (Array.replicate l.toArray.size false) a w.drew:=
 DT _ _ _ _ (gD L fr hfr m0 (Ma Q) hB (by rw [<-Me];exact h))
theorem qZ {Q:Exit->Act->World->Prop} {a:Act} {w:World} {l:List Oper} (L:List Spec) (m0:Nat) (hB:gk l.toArray m0=true)
  (h:mX P l.toArray L w.drew (Ap P l.toArray Q) (l.take m0) 0 (fun _=>a)):wpAny P .any l.toArray Q l.toArray.size (Array.replicate l.toArray.size false) a w.drew:=
 ki L (fun _=>false) (fun i v w h=>by cases h) m0 hB (lk _ _ _ h)
end
end
section
section
variable {D:Nat->Prop} {nu:Nat->Nat->Value} {o:List (Option aa)} {w:World} {P:Program}
def pM (P:Program) (all:List Oper) (oo:Oper) (s:AS) (K:AS->Prop):Prop:=match oo.guard with
 | none=>yi P oo.op s (fun r o'=>K (s.put oo.dst r o'))
 | some (j,want)=>ur (iS all s j) want (yi P oo.op s (fun r o'=>K (s.put oo.dst r o'))) (K (s.put oo.dst (.v Go.undef) s.o))
def dM (P:Program) (all:List Oper):List Oper->AS->(AS->Prop)->Prop
 | [],s,Q=>Q s
 | oo :: rest,s,Q=>pM P all oo s (fun s'=>dM P all rest s' Q)
def dF (P:Program) (all:List Oper) (B:AS->Prop):List Oper->AS->Prop
 | [],s=>B s
 | oo :: rest,s=>match oo.guard with
  | none=>bS P oo.op s (fun r=>dF P all B rest (s.put oo.dst r s.o))
  | some (j,want)=>ur (iS all s j) want (bS P oo.op s (fun r=>dF P all B rest (s.put oo.dst r s.o))) (dF P all B rest (s.put oo.dst (.v Go.undef) s.o))
abbrev pI (P:Program) (all tail:List Oper) (l:List Oper) (s:AS) (Q:AS->Prop):Prop:=dF P all (fun s=>dM P all tail s Q) l s
theorem kQ {f:Fr} {l:List Oper} {R:Exit->Act->World->Prop}: ∀(tail:List Oper) (k:Nat) (s:AS) (a:Act) (w:World) (nu:Nat->Nat->Value),l.drop k=tail->k<=l.length->RS f D nu s a w-> ∀ {Q:AS->Prop},dM P l tail s Q ->
  (∀s' a' w' nu',bG nu s.o w nu' s'.o w'->s'.y=s.y->RS f D nu' s' a' w'->Q s'->R .normal a' w')->wpOps P l.toArray R (List.range' k (l.length - k)) a w
 | [],k,s,a,w,nu,hl,hk,hs,Q,h,hR=>by
  have e:k=l.length:=by have:=congrArg List.length hl;simp at this;omega
  subst e;rw [VD];simpa [wpOps] using hR s a w nu (.refl _ _ _) rfl hs h
 | oo :: rest,k,s,a,w,nu,hl,hk,hs,Q,h,hR=>by
  have hlt:k<l.length:=by have:=congrArg List.length hl;simp at this;omega
  have hok:l[k]? = some oo:=by have:=congrArg (fun m=>m[0]?) hl;simpa using this
  have hl':l.drop (k+1)=rest:=by have:=congrArg List.tail hl;simpa using this
  have e:l.length - k=(l.length - (k+1))+1:=by omega
  rw [e,VG,wpOps_cons];unfold wpOp;simp only [UO,hok]
  have hdo:yi P oo.op s (fun r o'=>dM P l rest (s.put oo.dst r o') Q)->Region.wanted oo (yielded l.toArray a.tmps)=true->(if Region.wanted oo (yielded l.toArray a.tmps)=true then oo.wp P a w (wpOps P l.toArray R (List.range' (k+1) (l.length - (k+1)))) R∨oo.asks P a w∧LetsOut R else wpOps P l.toArray R (List.range' (k+1) (l.length - (k+1))) (a.put oo.dst Go.undef) w):=by
   intro hd hw;rw [if_pos hw];exact .inl (rR (P:=P) hs.ro (fun y _=>hs.ev y) hd (fun v w' nu' r o' m1 m2 m3 m4=>kQ rest (k+1) (s.put oo.dst r o') _ w' nu' hl' hlt (hs.put m1 m2 m3 oo.dst) m4 (fun s' a' w2 nu2 q1 q2 q3 q4=>hR s' a' w2 nu2 (by simpa only [AS.put] using m1.trans q1) (q2.trans rfl) q3 q4)))
  have hskip:dM P l rest (s.put oo.dst (.v Go.undef) s.o) Q->Region.wanted oo (yielded l.toArray a.tmps)=false->(if Region.wanted oo (yielded l.toArray a.tmps)=true then oo.wp P a w (wpOps P l.toArray R (List.range' (k+1) (l.length - (k+1)))) R∨oo.asks P a w∧LetsOut R else wpOps P l.toArray R (List.range' (k+1) (l.length - (k+1))) (a.put oo.dst Go.undef) w):=by
   intro hd hw;rw [if_neg (by rw [hw];decide)];exact kQ rest (k+1) (s.put oo.dst (.v Go.undef) s.o) _ w nu hl' hlt (hs.put (.refl _ _ _) hs.ro (.v _) oo.dst) hd (fun s' a' w2 nu2 q1 q2 q3 q4=>hR s' a' w2 nu2 (by simpa only [AS.put] using q1) (q2.trans rfl) q3 q4)
  simp only [dM,pM] at h
  split at h
  ·rename_i hg;exact hdo h (by simp [Region.wanted,hg])
  ·rename_i j want hg;have hyv: ∀g,iS l s j=some g->yielded l.toArray a.tmps j=g:=fun g hgv=>gI (D:=D) (nu:=nu) (w:=w) (fun d c v hd h1 h2=>hs.tm.at' d c v h1 h2) hs.tm.len hgv;unfold ur at h
   split at h
   ·rename_i b e
    cases hb:b==want
    ·rw [hb] at h;exact hskip h (by simp only [Region.wanted,hg,hyv _ e];simpa using hb)
    ·rw [hb] at h;exact hdo h (by simp only [Region.wanted,hg,hyv _ e];simpa using hb)
   ·rename_i e;exact hskip h (by simp only [Region.wanted,hg,hyv _ e];rfl)
   ·exact h.elim
theorem B6 {l:List Oper} {m0:Nat} (hB:gk l.toArray m0=true) {i j:Nat} {oi oj:Oper} (hij:i<j) (hi:l[i]? = some oi) (hj:l[j]? = some oj) (hjm:j<m0):aE l.toArray j i=true∨ ∀d,oi.dst=some d->d∉oj.looksAt l.toArray:=by
 simp only [gk,Vj,VH,VI,UX] at hB;have hjn:=(Uy.1 hj).1
 have:=(hB.1.2 j hjn).1 i hij
 simp only [IS,UO,hi,hj,Vj,VJ,Bool.not_eq_true',decide_eq_true_eq] at this
 rcases this.1.1.1 with (h|h)|h
 ·omega
 ·exact .inl h
 ·exact .inr (Oper.apart_spec h).1
theorem ia {f:Fr} {l:List Oper} {m0:Nat} (hm0:m0<=l.length) (hB:gk l.toArray m0=true) {s:AS} {a:Act} {w0:World} {B:AS->Prop} {T:Nat->Act->World->Prop} (hs:RS f D nu s a w0)
  (hT: ∀sk a' wr,Below w0.heap.size w0 wr->sk.o=s.o->sk.y=s.y->RS f D nu sk a' wr->B sk->T m0 a' wr) :
  ∀(rest:List Oper) (k:Nat) (sk:AS) (rs:List AV) (A:(Nat->Value)->Act),(l.take m0).drop k=rest->k<=m0->D6 l s a k sk rs A->dF P l B rest sk-> ∃rs',mX P l.toArray ((rs++rs').map (cD D nu s.o)) w0 T rest k A
 | [],k,sk,rs,A,hl,hk,hI,h=>by
  have hkm:k=m0:=by have:=congrArg List.length hl;simp at this;omega
  subst hkm;refine ⟨[],fun x wr hE hD=> ?_⟩;have hro:RO D nu s.o wr:=hs.ro.below hE
  have hsk:RS f D nu sk (A x) wr:=by
   refine ⟨by rw [hI.o];exact hro,⟨hI.size x,fun t c v h1 h2=> ?_⟩,by rw [hI.js x];exact hs.js.mono hs.ro (au hE)⟩;rw [hI.o]
   rcases hI.val x t c v h1 h2 with ⟨h3,h4⟩|⟨i,q1,q2,q3,q4⟩
   ·exact (hs.tm.at' t c v h3 h4).mono (au hE) (fun _ _ h=>h)
   ·have:=hD i q1
    rw [jJ q3] at this;rw [q4];exact this.2
  exact hT sk (A x) wr hE hI.o hI.y hsk h
 | oo :: rest,k,sk,rs,A,hl,hk,hI,h=>by
  have hkm:k<m0:=by have:=congrArg List.length hl;simp at this;omega
  have hok:l[k]? = some oo:=by
   have:=congrArg (fun m=>m[0]?) hl
   simp only [List.getElem?_drop,Nat.add_zero,VC] at this
   rwa [U1 hkm] at this
  have hl':(l.take m0).drop (k+1)=rest:=by have:=congrArg List.tail hl;simpa using this
  
  have hlook: ∀x wr,Below w0.heap.size w0 wr->(∀rs' i,aE l.toArray k i=true->i<k->(at' ((rs++rs').map (cD D nu s.o)) i).p (x i) wr)-> ∀(t:Nat) c v,t∈oo.looksAt l.toArray->sk.t[t]? = some c->(A x).tmps[t]? = some v->RA D nu s.o wr c v:=by
   intro x wr hE hD t c v ht h1 h2
   rcases hI.val x t c v h1 h2 with ⟨h3,h4⟩|⟨i,q1,⟨oi,q2,q5⟩,q3,q4⟩
   ·exact (hs.tm.at' t c v h3 h4).mono (au hE) (fun _ _ h=>h)
   ·rcases B6 hB q1 q2 hok hkm with h5|h5
    ·have:=hD [] i h5 q1
     rw [jJ q3] at this;rw [q4];exact this.2
    ·exact absurd ht (h5 t q5)
  have hevs: ∀x wr,Below w0.heap.size w0 wr->(∀rs' i,aE l.toArray k i=true->i<k->(at' ((rs++rs').map (cD D nu s.o)) i).p (x i) wr)->Gm D nu s.o wr sk.ev (A x).eval oo.op:=by
   intro x wr hE hD y hy
   cases y with
   | tmp t=>
    simp only [AS.ev,Act.eval]
    rcases UA t sk.t.length with hlt|hge
    ·have e1:sk.t[t]? = some sk.t[t]:=UM hlt
     have hlt':t<(A x).tmps.size:=by rw [<-hI.size x];exact hlt
     have hx:(A x).tmps[t]? = some (A x).tmps[t]:=UL hlt';rw [getD_some e1]
     have:(A x).tmps.getD t Go.undef=(A x).tmps[t]:=by simp [Array.getD,hlt']
     rw [this];exact hlook x wr hE hD t _ _ (List.mem_append_left _ (List.mem_filterMap.2 ⟨.tmp t,hy,rfl⟩)) e1 hx
    ·rw [List.getD_eq_getElem?_getD,List.getElem?_eq_none hge];exact .undef _
   | const v=>exact .v v
   | global gi=>exact (mO hs.ro sk gi).mono (au hE) (fun _ _ h=>h)
   | func f=>exact .fn f [] [] #[] #[] rfl rfl (fun i c x h=>by simp at h) (fun i c x h=>by simp at h)
  
  have hdo:bS P oo.op sk (fun r=>dF P l B rest (sk.put oo.dst r sk.o))->(∀x wr,Below w0.heap.size w0 wr->(∀rs' i,aE l.toArray k i=true->i<k->(at' ((rs++rs').map (cD D nu s.o)) i).p (x i) wr)->Region.wanted oo (yielded l.toArray (A x).tmps)=true) ->
    ∃rs',mX P l.toArray ((rs++rs').map (cD D nu s.o)) w0 T (oo :: rest) k A:=by
   intro hd hw;obtain ⟨r,hk',hr⟩:=fR hd;rw [hI.o] at hk';obtain ⟨rs',hrel⟩:=ia hm0 hB hs hT rest (k+1) _ (rs++[r]) _ hl' hkm (hI.step hok r) hk';rw [List.append_assoc,Vx] at hrel;refine ⟨r :: rs',⟨(fun x wr hE hD=> ?_),hrel⟩⟩
   have hD': ∀rs'' i,aE l.toArray k i=true->i<k->(at' ((rs++rs'').map (cD D nu s.o)) i).p (x i) wr:=fun rs'' i h1 h2=>by
    have h3:=hD i h1
    have h5:i<rs.length:=by rw [hI.len];exact h2
    have h4:rs[i]? = some rs[i]:=UM h5;rw [jJ h4] at h3 ⊢;exact h3
   obtain ⟨r',rfl,hout⟩:=fD (P:=P) (nu:=nu) (D:=D) (w:=wr) (rho:=(A x).eval) (by rw [hI.o];exact hs.ro.below hE) (by rw [hI.o];exact hevs x wr hE hD') hr;have e:=jK (D:=D) (nu:=nu) (o:=s.o) (rs:=rs) (rs':=rs') (r:=r');rw [hI.len] at e;refine .inl ⟨hw x wr hE hD', ?_⟩;rw [e];rw [hI.o] at hout;exact hout
  simp only [dF] at h
  split at h
  ·rename_i hg;exact hdo h (fun x wr hE hD=>by simp [Region.wanted,hg])
  ·rename_i j want hg
   have hyv: ∀g,iS l sk j=some g-> ∀x wr,Below w0.heap.size w0 wr->(∀rs' i,aE l.toArray k i=true->i<k->(at' ((rs++rs').map (cD D nu s.o)) i).p (x i) wr)->yielded l.toArray (A x).tmps j=g:=fun g hgv x wr hE hD=>
    gI (D:=D) (nu:=nu) (w:=wr) (fun d c v hd h1 h2=>by
     rw [hI.o];refine hlook x wr hE hD d c v ?_ h1 h2;obtain ⟨og,q1,q2⟩:=hd;refine List.mem_append_right _ ?_;simp only [hg,UO,q1,Option.bind_some,q2]
     simp) (hI.size x) hgv
   have hskip:dF P l B rest (sk.put oo.dst (.v Go.undef) sk.o)->(∀x wr,Below w0.heap.size w0 wr->(∀rs' i,aE l.toArray k i=true->i<k->(at' ((rs++rs').map (cD D nu s.o)) i).p (x i) wr)->Region.wanted oo (yielded l.toArray (A x).tmps)=false) ->
     ∃rs',mX P l.toArray ((rs++rs').map (cD D nu s.o)) w0 T (oo :: rest) k A:=by
    intro hk' hw;rw [hI.o] at hk';obtain ⟨rs',hrel⟩:=ia hm0 hB hs hT rest (k+1) _ (rs++[.v Go.undef]) _ hl' hkm (hI.step hok (.v Go.undef)) hk';rw [List.append_assoc,Vx] at hrel;refine ⟨.v Go.undef :: rs',⟨(fun x wr hE hD=> ?_),hrel⟩⟩
    have hD': ∀rs'' i,aE l.toArray k i=true->i<k->(at' ((rs++rs'').map (cD D nu s.o)) i).p (x i) wr:=fun rs'' i h1 h2=>by
     have h3:=hD i h1
     have h5:i<rs.length:=by rw [hI.len];exact h2
     have h4:rs[i]? = some rs[i]:=UM h5;rw [jJ h4] at h3 ⊢;exact h3
    have e:=jK (D:=D) (nu:=nu) (o:=s.o) (rs:=rs) (rs':=rs') (r:= .v Go.undef);rw [hI.len] at e;refine .inr ⟨hw x wr hE hD', ?_⟩;rw [e];exact ⟨hs.ro.below hE, .v _⟩
   unfold ur at h
   split at h
   ·rename_i b e
    cases hb:b==want
    ·rw [hb] at h;exact hskip h (fun x wr hE hD=>by simp only [Region.wanted,hg,hyv _ e x wr hE hD];simpa using hb)
    ·rw [hb] at h;exact hdo h (fun x wr hE hD=>by simp only [Region.wanted,hg,hyv _ e x wr hE hD];simpa using hb)
   ·rename_i e;exact hskip h (fun x wr hE hD=>by simp only [Region.wanted,hg,hyv _ e x wr hE hD];rfl)
   ·exact h.elim
theorem uN {op:Op} {s:AS} {K K':AV->Prop} (h: ∀r,K r->K' r) (hd:bS P op s K):bS P op s K':=by
 obtain ⟨r,hk,hr⟩:=fR hd;have key: ∀r',r'=r->K' r':=fun r' e=>e ▸ h r hk;unfold bS at hr ⊢
 split at hr
 ·split at hr
  ·unfold bH at hr ⊢
   split at hr
   ·rename_i hb;rw [if_pos hb];exact key _ hr
   ·rename_i hb;rw [if_neg hb];exact key _ hr
  ·exact hr.elim
 ·split at hr
  ·unfold AO at hr ⊢
   split at hr
   ·obtain ⟨r',q1,q2⟩:=hr;exact ⟨r',q1,key _ q2⟩
   ·exact hr.elim
  ·unfold Cp at hr ⊢
   split at hr
   ·exact ⟨hr.1,key _ hr.2⟩
   ·exact hr.elim
 ·unfold Cp at hr ⊢
  split at hr
  ·exact ⟨hr.1,key _ hr.2⟩
  ·exact hr.elim
theorem Et {n0 id:Nat} {s:AS} {l:List Oper} {Q:aY->AS->Prop} (m0:Nat) (hB:gk l.toArray m0=true) (hC:dw l.toArray=true) (h:pI P l (l.drop m0) (l.take m0) s (Q .normal)):cj P n0 (.region id l.toArray true) s Q:=by
 refine .inr (fun f m D nu a w hZr hn hm hs hmx R hO hR=> ?_)
 have hm0:m0<=l.length:=by
  simp only [gk,Vj,decide_eq_true_eq,UX] at hB;exact VK hB.1.1.2
 obtain ⟨rs,hrel⟩:=ia (P:=P) (T:=Ap P l.toArray R) hm0 hB hs.drew (fun sk a' wr hE ho hy hsk hB'=>kQ (P:=P) (f:=f) (l:=l) (R:=R) (l.drop m0) m0 sk a' wr nu rfl hm0 hsk hB' (fun s' a2 w' nu' q1 q2 q3 q4=>hR .normal D f.Z s' a2 w' nu' (by
  rw [q2,hy];exact m.own hm hs.ro ((au (cr w)).trans ((au hE).trans (ho ▸ q1))) q3.ro) q3 q4)) (l.take m0) 0 s [] (fun _=>a) (by simp) (UE _) ⟨rfl,rfl,rfl,fun _=>rfl,fun _=>hs.tm.len,fun x t c v h1 h2=> .inl ⟨h1,h2⟩⟩ h
 exact mG hmx hC hO (qZ _ m0 hB hrel)
theorem DK {r:Option Nat} {n:Nat} {ops:Array Oper} (hC:dw ops=true) (R:Exit->Act->World->Prop):Kl P ops (wpOpIn (WF r) n P ops R):=⟨fun h k=>wpOpIn_mono h k,fun {i o S K a w} hi h next=>by
 unfold wpOpIn;simp only [hi]
 rcases h with ⟨h1,h2⟩|⟨h1,h2⟩
 ·rw [if_pos h1];refine ⟨fun f _=>trivial, ?_⟩;rw [l8 hC hi];generalize (execOp a.eval o).run P w=r at h2
  cases r with
  | halt _ _=>exact h2.elim
  | ok n w'=>
   cases n<;>first|exact h2.elim|skip
   case value u=>exact next _ _ h2.1 h2.2
   case skip=>exact next _ _ h2.1 h2.2
   case enter f args=>
    refine ⟨fun e=>(by cases e),kU (Calls.mono h2 fun e w'' he=> ?_)⟩;obtain ⟨v,rfl,hv,hb⟩:=he
    exact next _ _ hv hb
 ·rw [if_neg (by rw [h1];decide)]
  exact ⟨fun f _=>trivial,next _ _ h2 (Below.refl _ _)⟩⟩
theorem wS {r:Option Nat} {n:Nat} {ops:Array Oper} {R:Exit->Act->World->Prop}: ∀(fuel:Nat) (listed:Array Bool) (a:Act) (w:World),nh (wpOpIn (WF r) n P ops R) ops (R .normal) fuel listed a w->wpAnyIn (WF r) n P .any ops R fuel listed a w
 | 0,_,_,_,h=>h
 | fuel+1,_,_,_,h=>⟨h.1,fun i hi=>wpOpIn_mono (fun _ _=>wS fuel _ _ _) (h.2 i hi)⟩
theorem o6 {r:Option Nat} {n:Nat} {l:List Oper} {R:Exit->Act->World->Prop}: ∀(m k:Nat) (a:Act) (w:World),k+m=l.length->wpListIn (WF r) n P l.toArray R (l.drop k) a w->pB (wpOpIn (WF r) n P l.toArray R) (R .normal) (List.range' k m) a w
 | 0,k,a,w,hk,h=>by
  rw [List.drop_eq_nil_of_le (by omega)] at h;exact h
 | m+1,k,a,w,hk,h=>by
  have hlt:k<l.length:=by omega
  rw [List.drop_eq_getElem_cons hlt] at h;rw [VG];simp only [pB,wpOpIn,UO,UM hlt];simp only [wpListIn] at h
  split at h
  ·rename_i hw;rw [if_pos hw];exact Oper.wpIn_mono (fun a w h=>o6 m (k+1) a w (by omega) h) h
  ·rename_i hw;rw [if_neg hw];exact ⟨h.1,o6 m (k+1) _ w (by omega) h.2⟩
theorem Eu {n0 id:Nat} {s:AS} {l:List Oper} {Q:aY->AS->Prop} (m0:Nat) (hB:gk l.toArray m0=true) (hC:dw l.toArray=true) (h:dF P l (fun s=>ke P l (l.drop m0) s (Q .normal)) (l.take m0) s):cj P n0 (.region id l.toArray true) s Q:=by
 refine .inr (fun f m D nu a w hZr hn hm hs hmx R hO hR=> ?_)
 have hm0:m0<=l.length:=by
  simp only [gk,Vj,decide_eq_true_eq,UX] at hB;exact VK hB.1.1.2
 have hcalm: ∀oo,oo∈l.drop m0-> ∀c,oo.op ≠ .defer c:=fun oo ho c e=>by
  unfold dw at hC;rw [Vk] at hC;have h2:=hC oo (by simpa using List.mem_of_mem_drop ho);rw [e] at h2;cases h2
 obtain ⟨rs,hrel⟩:=ia (P:=P) (T:=fun k=>pB (wpOpIn (WF f.r) 9 P l.toArray R) (R .normal) (List.range' k (l.length - k))) hm0 hB hs.drew (fun sk a' wr hE ho hy hsk hB'=>o6 _ _ _ _ (by omega) (kn m hZr _ sk a' wr D nu hcalm (by
  rw [ho,hy];exact m.own hm hs.ro ((au (cr w)).trans (au hE)) (ho ▸ hsk.ro)) hsk hB' (fun D' s' a2 w2 nu' q1 q2 q3=>hR .normal D' f.Z s' a2 w2 nu' q1 q2 q3))) (l.take m0) 0 s [] (fun _=>a) (by simp) (UE _) ⟨rfl,rfl,rfl,fun _=>rfl,fun _=>hs.tm.len,fun x t c v h1 h2=> .inl ⟨h1,h2⟩⟩ h
 exact wpIn_region_any hmx (wS _ _ _ _ (gD _ (fun _=>false) (fun i v w h=>by cases h) m0 (DK hC R) hB (lk _ _ _ hrel)))
def sO:Op->Bool
 | .alloc _| .store .. | .mapUpdate .. | .insert .. | .makeSlice .. | .makeMap .. =>true
 | .call c=>match c.callee with
  | .builtin .append| .builtin .copy| .builtin .delete| .builtin .clear=>true
  | _=>false
 | _=>false
def qH:List Oper->Nat
 | []=>0
 | o :: l=>if sO o.op then 0 else qH l+1
def fj (P:Program) (all:List Oper):List Oper->AS->(AS->Prop)->Prop
 | [],s,Q=>Q s
 | oo :: rest,s,Q=>if sO oo.op then dM P all (oo :: rest) s Q else dG P all oo s (fun s'=>fj P all rest s' Q)
theorem l4 (all:List Oper): ∀(l:List Oper) (s:AS) (Q:AS->Prop),fj P all l s Q->pI P all (l.drop (qH l)) (l.take (qH l)) s Q
 | [],s,Q,h=>h
 | oo :: rest,s,Q,h=>by
  simp only [fj] at h
  by_cases he:sO oo.op=true
  ·rw [if_pos he] at h;simpa only [qH,he,if_true,List.drop_zero,List.take_zero,pI,dF] using h
  ·rw [if_neg he] at h;simp only [qH,he,if_false,List.drop_succ_cons,List.take_succ_cons,pI,dF,Bool.false_eq_true];unfold dG at h
   split at h
   ·rename_i hg;simp only [hg];exact uN (fun r hr=>l4 all rest _ Q hr) h
   ·rename_i j want hg;simp only [hg];unfold ur at h ⊢
    split at h
    ·rename_i b e;unfold bH at h ⊢
     split at h
     ·rename_i hb;rw [if_pos hb];exact uN (fun r hr=>l4 all rest _ Q hr) h
     ·rename_i hb;rw [if_neg hb];exact l4 all rest _ Q h
    ·rename_i e;exact l4 all rest _ Q h
    ·exact h.elim
theorem Er {n0 id:Nat} {s:AS} {l:List Oper} {Q:aY->AS->Prop} (hB:gk l.toArray (qH l)=true) (hC:dw l.toArray=true) (h:fj P l l s (Q .normal)):cj P n0 (.region id l.toArray true) s Q:=
 Et (qH l) hB hC (l4 l l s _ h)
theorem GD {all rest:List Oper} {oo:Oper} {s:AS} {Q:AS->Prop} (he:sO oo.op=false) (h: ∀K:AS->Prop,(∀s',fj P all rest s' Q->K s')->dG P all oo s K):fj P all (oo :: rest) s Q:=by
 simp only [fj,he,Bool.false_eq_true,if_false];exact h _ (fun _ h=>h)
theorem A7 {all rest:List Oper} {oo:Oper} {s:AS} {Q:AS->Prop} (he:sO oo.op=true) (h:dM P all (oo :: rest) s Q):fj P all (oo :: rest) s Q:=by
 simpa only [fj,he,if_true] using h
theorem A8 {all:List Oper} {s:AS} {Q:AS->Prop} (h:Q s):fj P all [] s Q:=h
theorem KF {all rest:List Oper} {oo:Oper} {s:AS} {Q:AS->Prop} (h: ∀K:AS->Prop,(∀s',dM P all rest s' Q->K s')->pM P all oo s K):dM P all (oo :: rest) s Q:=h _ (fun _ h=>h)
theorem Ek {all:List Oper} {s:AS} {Q:AS->Prop} (h:Q s):dM P all [] s Q:=h
theorem Bc {all tail:List Oper} {s:AS} {Q:AS->Prop} (h:dM P all tail s Q):pI P all tail [] s Q:=h
@[go_sem] theorem KA (all:List Oper) (dst:Option Tmp) (op:Op) (ty:TypeId) (pos:String) (aft:Array Edge) (s:AS) (K:AS->Prop) :
  pM P all ⟨dst,op,ty,pos,aft,none⟩ s K=yi P op s (fun r o'=>K (s.put dst r o')):=rfl
@[go_sem] theorem Kz (all:List Oper) (dst:Option Tmp) (op:Op) (ty:TypeId) (pos:String) (aft:Array Edge) (j:Nat) (want:Bool) (s:AS) (K:AS->Prop) :
  pM P all ⟨dst,op,ty,pos,aft,some (j,want)⟩ s K=ur (iS all s j) want (yi P op s (fun r o'=>K (s.put dst r o'))) (K (s.put dst (.v Go.undef) s.o)):=rfl
end
end
section
class aA (G:Prop) (H:outParam Prop):Prop where
 up:H->G
section
variable {P:Program} {all rest tail:List Oper} {n0:Nat} {s:AS} {Q:aY->AS->Prop} {R K:AS->Prop} {oo o2:Oper} {i:Nat} {c d:Code} {x:Operand} {l:List Oper} {bx:List Bx} {k:Nat}
theorem GF {B:AS->Prop} (h: ∀K:AS->Prop,(∀s',dF P all B rest s'->K s')->dG P all oo s K):dF P all B (oo :: rest) s:=by
 have:=h _ (fun _ h=>h)
 unfold dG at this;simp only [dF]
 split at this<;>simp_all
instance {B:AS->Prop}:aA (dF P all B (oo :: rest) s) (∀K:AS->Prop,(∀s',dF P all B rest s'->K s')->dG P all oo s K):=⟨GF⟩
instance:aA (dF P all (fun s=>ke P all tail s R) [] s) (ke P all tail s R):=⟨fun h=>h⟩
instance:aA (ke P all [] s R) (R s):=⟨GI⟩
instance:aA (ke P all (oo :: rest) s R) (∀K:AS->Prop,(∀s',ke P all rest s' R->K s')->uO P all oo s K):=⟨Nr⟩
instance {dst:Option Tmp} {op:Op} {ty:TypeId} {pos:String} {aft:Array Edge}:aA (eu P all [⟨dst,op,ty,pos,aft,none⟩] s R) (∀K:AS->Prop,(∀s',R s'->K s')->yi P op s (fun r o'=>K (s.put dst r o'))):=⟨Bd⟩
instance:aA (eu P all (oo :: o2 :: rest) s R) (∀K:AS->Prop,(∀s',eu P all (o2 :: rest) s' R->K s')->dG P all oo s K):=⟨Kt⟩
instance:aA (cj P n0 (.seq c d) s Q) (∀K:AS->Prop,(∀s',cj P n0 d s' Q->K s')->cj P n0 c s (lW K Q)):=⟨KH⟩
instance:aA (cj P n0 (.region i l.toArray false) s Q) (ke P l l s (Q .normal)):=⟨Bh⟩
instance:aA (cj P n0 .skip s Q) (Q .normal s):=⟨GR⟩
instance:aA (cj P n0 (.block i c) s Q) (cj P n0 c s (wh i Q)):=⟨Ep⟩
instance:aA (cj P n0 (.cond x c d) s Q) (AL (s.ev x) (cj P n0 c s Q) (cj P n0 d s Q)):=⟨GN⟩
instance:aA (cj P n0 (.exit i) s Q) (Q (.exit i) s):=⟨GP⟩
instance:aA (cj P n0 .ret s Q) (Q .ret s):=⟨KG⟩
instance:aA (cj P n0 (.scope c) s Q) (cj P n0 c s (yk Q)):=⟨Ez⟩
instance:aA (cj P n0 (.label i) s Q) (Q .normal s):=⟨Ev⟩
instance:aA (cj P n0 (.goto i) s Q) (Q (.goto i) s):=⟨GQ⟩
instance:aA (lW K Q .normal s) (K s):=⟨yD⟩
instance:aA (lW K Q (.exit i) s) (Q (.exit i) s):=⟨Ei⟩
instance:aA (lW K Q .ret s) (Q .ret s):=⟨GK⟩
instance:aA (lW K Q (.goto i) s) (Q (.goto i) s):=⟨Ej⟩
instance:aA (wh i Q .normal s) (Q .normal s):=⟨yz⟩
instance:aA (wh i Q .ret s) (Q .ret s):=⟨GB⟩
instance:aA (wh i Q (.goto k) s) (Q (.goto k) s):=⟨Eb⟩
instance:aA (wh i Q (.exit k) s) (if k=i then Q .normal s else Q (.exit k) s):=⟨fun h=>h⟩
instance:aA (yk Q .normal s) (Q .normal s):=⟨yC⟩
instance:aA (yk Q .ret s) (Q .ret s):=⟨GJ⟩
instance:aA (yk Q (.exit i) s) (Q (.exit i) s):=⟨Eg⟩
instance:aA (fj P all [] s R) (R s):=⟨A8⟩
instance:aA (dM P all [] s R) (R s):=⟨Ek⟩
instance:aA (dM P all (oo :: rest) s R) (∀K:AS->Prop,(∀s',dM P all rest s' R->K s')->pM P all oo s K):=⟨KF⟩
instance:aA (pI P all tail [] s R) (dM P all tail s R):=⟨Bc⟩
instance:aA (AJ P all [] k s bx R) (bx.all (fun b=>b.row.isSome)=true∧R (r9 s bx)):=⟨GC⟩
end
theorem wE {P:Program} {n0 id:Nat} {s:AS} {l:List Oper} {Q:aY->AS->Prop} (h:fj P l l s (Q .normal)) (hB:gk l.toArray (qH l)=true:=by decide+kernel) (hC:dw l.toArray=true:=by kernel_rfl):cj P n0 (.region id l.toArray true) s Q:=Er hB hC h
theorem wK {P:Program} {all rest:List Oper} {oo:Oper} {s:AS} {Q:AS->Prop} (h: ∀K:AS->Prop,(∀s',fj P all rest s' Q->K s')->dG P all oo s K) (he:sO oo.op=false:=by decide):fj P all (oo :: rest) s Q:=GD he h
theorem wF {P:Program} {all rest:List Oper} {oo:Oper} {s:AS} {Q:AS->Prop} (h:dM P all (oo :: rest) s Q) (he:sO oo.op=true:=by decide):fj P all (oo :: rest) s Q:=A7 he h
end
inductive cW (L:List ByteArray->Prop):List ByteArray->Prop
 | nil:cW L []
 | cons (u v:List ByteArray):u≠[]->L u->cW L v->cW L (u++v)
theorem cW.append {L:List ByteArray->Prop} {u v:List ByteArray} (h:cW L u) (k:cW L v):cW L (u++v):=by
 induction h with
 | nil=>exact k
 | cons a b h1 h2 _ ih=>rw [List.append_assoc];exact .cons a _ h1 h2 ih
theorem cW.one {L:List ByteArray->Prop} {u:List ByteArray} (h:L u):cW L u:=by
 by_cases hu:u=[]
 ·subst hu;exact .nil
 ·have:=cW.cons u [] hu h .nil
  rwa [VL] at this
theorem cW.inv {L:List ByteArray->Prop} {w:List ByteArray} (h:cW L w):w=[]∨ ∃u v,w=u++v∧u≠[]∧L u∧cW L v:=by
 cases h with
 | nil=>exact .inl rfl
 | cons a b h1 h2 h3=>exact .inr ⟨a,b,rfl,h1,h2,h3⟩
mutual
def Lg:Ex->List ByteArray->Prop
 | .mk k s l,w=>if k=1 then w=[s] else if k=2 then cP l w else if k=3 then gX l w else if k=4 then cW (rK l) w
  else if k=5 then ∃u v,w=u++v∧rK l u∧cW (rK l) v else if k=6 then w=[]∨rK l w else False
def cP:List Ex->List ByteArray->Prop
 | [],w=>w=[]
 | x :: xs,w=> ∃u v,w=u++v∧Lg x u∧cP xs v
def gX:List Ex->List ByteArray->Prop
 | [],_=>False
 | x :: xs,w=>Lg x w∨gX xs w
def rK:List Ex->List ByteArray->Prop
 | [],_=>False
 | x :: _,w=>Lg x w
end
theorem mI: ∀ {l:List Ex} {w:List ByteArray},gX l w ↔ ∃x∈l,Lg x w
 | [],w=>by simp [gX]
 | x :: xs,w=>by simp [gX,mI (l:=xs)]
mutual
def aG:Ex->Bool
 | .mk k _ l=>if k=4 then true else if k=6 then true else if k=3 then rk l else if k=2 then cB l else if k=5 then cB l else false
def rk:List Ex->Bool
 | []=>false
 | x :: xs=>aG x||rk xs
def cB:List Ex->Bool
 | []=>true
 | x :: xs=>aG x&&cB xs
end
theorem nQ: ∀l:List Ex,rk l=l.any aG
 | []=>rfl
 | x :: xs=>by rw [rk,nQ xs];rfl
theorem kV: ∀l:List Ex,cB l=l.all aG
 | []=>rfl
 | x :: xs=>by rw [cB,kV xs];rfl
theorem mJ: ∀ {l:List Ex},cP l [] ↔ ∀x∈l,Lg x []
 | []=>by simp [cP]
 | x :: xs=>by
  rw [cP]
  constructor
  ·rintro ⟨u,v,h,h1,h2⟩;obtain ⟨rfl,rfl⟩:=VM.1 h.symm;intro y hy
   rcases List.mem_cons.1 hy with rfl|hy
   ·exact h1
   ·exact mJ.1 h2 y hy
  ·intro h;exact ⟨[],[],rfl,h x Vy,mJ.2 (fun y hy=>h y (Vv _ hy))⟩
inductive Fit:Ex->Prop
 | lab (s:ByteArray):Fit (.mk 1 s [])
 | many (k:Int) (s:ByteArray) (l:List Ex):(k=2∨k=3)->1<l.length->(∀x∈l,Fit x)->Fit (.mk k s l)
 | one (k:Int) (s:ByteArray) (x:Ex):(k=4∨k=5∨k=6)->Fit x->Fit (.mk k s [x])
theorem fG {x:Ex} (h:Fit x):aG x=true↔Lg x []:=by
 induction h with
 | lab s=>simp [aG,Lg]
 | many k s l hk hl _ ih=>
  rcases hk with rfl|rfl
  ·simp only [aG,Lg,kV,mJ,Int.reduceEq,if_false,if_true];rw [List.all_eq_true]
   constructor
   ·intro h x hx;exact (ih x hx).1 (h x hx)
   ·intro h x hx;exact (ih x hx).2 (h x hx)
  ·simp only [aG,Lg,nQ,mI,List.any_eq_true,Int.reduceEq,if_false,if_true]
   constructor
   ·rintro ⟨x,hx,h⟩;exact ⟨x,hx,(ih x hx).1 h⟩
   ·rintro ⟨x,hx,h⟩;exact ⟨x,hx,(ih x hx).2 h⟩
 | one k s x hk _ ih=>
  rcases hk with rfl|rfl|rfl
  ·simp [aG,Lg,cW.nil]
  ·simp only [aG,Lg,cB,rK,Int.reduceEq,if_false,if_true,Bool.and_true];rw [ih]
   constructor
   ·intro h;exact ⟨[],[],rfl,h, .nil⟩
   ·rintro ⟨u,v,h,h1,_⟩;obtain ⟨rfl,rfl⟩:=VM.1 h.symm;exact h1
  ·simp [aG,Lg]
def yK (w:List ByteArray) (i j:Nat):List ByteArray:=(w.drop i).take (j - i)
theorem G2 (w:List ByteArray) (i:Nat):yK w i i=[]:=by simp [yK]
theorem C9 {w:List ByteArray} {i j k:Nat} (h1:i<=j) (h2:j<=k):yK w i j++yK w j k=yK w i k:=by
 unfold yK
 have:k - i=(j - i)+(k - j):=by omega
 rw [this,List.take_add,List.drop_drop,show i+(j - i)=j by omega]
theorem oS {w:List ByteArray} {i j:Nat} (h:j<=w.length):(yK w i j).length=j - i:=by
 simp [yK];omega
theorem G0 {w u v:List ByteArray} {i k:Nat} (h1:i<=k) (h2:k<=w.length) (h:yK w i k=u++v): ∃j,i<=j∧j<=k∧yK w i j=u∧yK w j k=v:=by
 have hl:=oS (i:=i) h2;rw [h,UC] at hl;have e:=C9 (w:=w) (i:=i) (j:=i+u.length) (k:=k) (by omega) (by omega);rw [h] at e
 have el:(yK w i (i+u.length)).length=u.length:=by rw [oS (by omega)];omega
 obtain ⟨e1,e2⟩:=List.append_inj e el;exact ⟨i+u.length,by omega,by omega,e1,e2⟩
def Tk (L:List ByteArray->Prop) (w:List ByteArray) (i j:Nat):Prop:=i<=j∧j<=w.length∧L (yK w i j)
theorem pP: ∀ {l m:List Ex} {w:List ByteArray},cP (l++m) w ↔ ∃u v,w=u++v∧cP l u∧cP m v
 | [],m,w=>by
  constructor
  ·intro h;exact ⟨[],w,rfl,by rw [cP],h⟩
  ·rintro ⟨u,v,rfl,h,k⟩;rw [cP] at h;subst h;exact k
 | x :: l,m,w=>by
  rw [List.cons_append,cP]
  constructor
  ·rintro ⟨u,v,rfl,h1,h2⟩;obtain ⟨a,b,rfl,h3,h4⟩:=pP.1 h2;exact ⟨u++a,b,by simp,by rw [cP];exact ⟨u,a,rfl,h1,h3⟩,h4⟩
  ·rintro ⟨u,v,rfl,h,k⟩;rw [cP] at h;obtain ⟨a,b,rfl,h1,h2⟩:=h;exact ⟨a,b++v,by simp,h1,pP.2 ⟨b,v,rfl,h2,k⟩⟩
theorem Tk.word {L:List ByteArray->Prop} {w:List ByteArray}:Tk L w 0 w.length↔L w:=by
 simp [Tk,yK]
mutual
def aB:Ex->List ByteArray
 | .mk k s l=>if k=1 then [s] else aJ l
def aJ:List Ex->List ByteArray
 | []=>[]
 | x :: xs=>aB x++aJ xs
end
mutual
def jX:Ex->Nat->Nat->Prop
 | .mk k _ l,b,p=>if k=1 then p=b+1 else if k=2 then gv l b p else fN l b p
def gv:List Ex->Nat->Nat->Prop
 | [],_,_=>False
 | x :: xs,b,p=>jX x b p∨(aG x=true∧gv xs (b+(aB x).length) p)
def fN:List Ex->Nat->Nat->Prop
 | [],_,_=>False
 | x :: xs,b,p=>jX x b p∨fN xs (b+(aB x).length) p
end
mutual
def jg:Ex->Nat->Nat->Prop
 | .mk k _ l,b,p=>if k=1 then p=b+1 else if k=2 then jn l b p else fO l b p
def jn:List Ex->Nat->Nat->Prop
 | [],_,_=>False
 | x :: xs,b,p=>(cB xs=true∧jg x b p)∨jn xs (b+(aB x).length) p
def fO:List Ex->Nat->Nat->Prop
 | [],_,_=>False
 | x :: xs,b,p=>jg x b p∨fO xs (b+(aB x).length) p
end
mutual
def iL:Ex->Nat->Nat->Nat->Prop
 | .mk k _ l,b,p,q=>if k=1 then False else if k=2 then gu l b p q else gW l b p q∨((k=4∨k=5)∧fO l b p∧fN l b q)
def gu:List Ex->Nat->Nat->Nat->Prop
 | [],_,_,_=>False
 | x :: xs,b,p,q=>iL x b p q∨gu xs (b+(aB x).length) p q∨(jg x b p∧gv xs (b+(aB x).length) q)
def gW:List Ex->Nat->Nat->Nat->Prop
 | [],_,_,_=>False
 | x :: xs,b,p,q=>iL x b p q∨gW xs (b+(aB x).length) p q
end
theorem pO: ∀ {l:List Ex} {b p:Nat},gv l b p->fN l b p
 | [],_,_,h=>h
 | x :: xs,b,p,h=>by
  rw [gv] at h;rw [fN];exact h.imp id (fun h=>pO h.2)
theorem wu: ∀ {l:List Ex} {b p:Nat},jn l b p->fO l b p
 | [],_,_,h=>h
 | x :: xs,b,p,h=>by
  rw [jn] at h;rw [fO];exact h.imp (fun h=>h.2) wu
theorem cO {k:Int} (h:k≠1) (s:ByteArray) (l:List Ex):aB (.mk k s l)=aJ l:=by rw [aB,if_neg h]
theorem fA (x:Ex): ∀ {b p:Nat},jX x b p->b<p∧p<=b+(aB x).length:=by
 induction x using Ex.ind with
 | h k s l ih=>
  intro b p h
  have key: ∀(m:List Ex),(∀x∈m,x∈l)-> ∀ {b p:Nat},fN m b p->b<p∧p<=b+(aJ m).length:=by
   intro m
   induction m with
   | nil=>intro _ b p h;exact h.elim
   | cons x xs ihm=>
    intro hm b p h;rw [fN] at h;rw [aJ,UC]
    rcases h with h|h
    ·have:=ih x (hm x Vy) h;omega
    ·have:=ihm (fun y hy=>hm y (Vv _ hy)) h;omega
  rw [jX] at h
  by_cases h1:k=1
  ·rw [if_pos h1] at h;rw [aB,if_pos h1];simp;omega
  ·rw [if_neg h1] at h;rw [cO h1]
   split at h
   ·exact key l (fun _ h=>h) (pO h)
   ·exact key l (fun _ h=>h) h
theorem fm: ∀ {l:List Ex} {b p:Nat},fN l b p->b<p∧p<=b+(aJ l).length
 | [],b,p,h=>h.elim
 | x :: xs,b,p,h=>by
  rw [fN] at h;rw [aJ,UC]
  rcases h with h|h
  ·have:=fA x h;omega
  ·have:=fm h;omega
theorem fB (x:Ex): ∀ {b p:Nat},jg x b p->b<p∧p<=b+(aB x).length:=by
 induction x using Ex.ind with
 | h k s l ih=>
  intro b p h
  have key: ∀(m:List Ex),(∀x∈m,x∈l)-> ∀ {b p:Nat},fO m b p->b<p∧p<=b+(aJ m).length:=by
   intro m
   induction m with
   | nil=>intro _ b p h;exact h.elim
   | cons x xs ihm=>
    intro hm b p h;rw [fO] at h;rw [aJ,UC]
    rcases h with h|h
    ·have:=ih x (hm x Vy) h;omega
    ·have:=ihm (fun y hy=>hm y (Vv _ hy)) h;omega
  rw [jg] at h
  by_cases h1:k=1
  ·rw [if_pos h1] at h;rw [aB,if_pos h1];simp;omega
  ·rw [if_neg h1] at h;rw [cO h1]
   split at h
   ·exact key l (fun _ h=>h) (wu h)
   ·exact key l (fun _ h=>h) h
theorem fp: ∀ {l:List Ex} {b p:Nat},fO l b p->b<p∧p<=b+(aJ l).length
 | [],b,p,h=>h.elim
 | x :: xs,b,p,h=>by
  rw [fO] at h;rw [aJ,UC]
  rcases h with h|h
  ·have:=fB x h;omega
  ·have:=fp h;omega
theorem dB (x:Ex): ∀ {b p q:Nat},iL x b p q->(b<p∧p<=b+(aB x).length)∧b<q∧q<=b+(aB x).length:=by
 induction x using Ex.ind with
 | h k s l ih=>
  intro b p q h
  have key: ∀(m:List Ex),(∀x∈m,x∈l)-> ∀ {b p q:Nat},gW m b p q->(b<p∧p<=b+(aJ m).length)∧b<q∧q<=b+(aJ m).length:=by
   intro m
   induction m with
   | nil=>intro _ b p q h;exact h.elim
   | cons x xs ihm=>
    intro hm b p q h;rw [gW] at h;rw [aJ,UC]
    rcases h with h|h
    ·have:=ih x (hm x Vy) h;omega
    ·have:=ihm (fun y hy=>hm y (Vv _ hy)) h;omega
  have keyS: ∀(m:List Ex),(∀x∈m,x∈l)-> ∀ {b p q:Nat},gu m b p q->(b<p∧p<=b+(aJ m).length)∧b<q∧q<=b+(aJ m).length:=by
   intro m
   induction m with
   | nil=>intro _ b p q h;exact h.elim
   | cons x xs ihm=>
    intro hm b p q h;rw [gu] at h;rw [aJ,UC]
    rcases h with h|h|⟨h,h'⟩
    ·have:=ih x (hm x Vy) h;omega
    ·have:=ihm (fun y hy=>hm y (Vv _ hy)) h;omega
    ·have:=fB x h;have:=fm (pO h');omega
  rw [iL] at h
  by_cases h1:k=1
  ·rw [if_pos h1] at h;exact h.elim
  ·rw [if_neg h1] at h;rw [cO h1]
   split at h
   ·exact keyS l (fun _ h=>h) h
   ·rcases h with h|⟨_,h,h'⟩
    ·exact key l (fun _ h=>h) h
    ·exact ⟨fp h,fm h'⟩
theorem nF: ∀ {l:List Ex} {b p q:Nat},gu l b p q->(b<p∧p<=b+(aJ l).length)∧b<q∧q<=b+(aJ l).length
 | [],b,p,q,h=>h.elim
 | x :: xs,b,p,q,h=>by
  rw [gu] at h;rw [aJ,UC]
  rcases h with h|h|⟨h,h'⟩
  ·have:=dB x h;omega
  ·have:=nF h;omega
  ·have:=fB x h;have:=fm (pO h');omega
theorem nE: ∀ {l:List Ex} {b p q:Nat},gW l b p q->(b<p∧p<=b+(aJ l).length)∧b<q∧q<=b+(aJ l).length
 | [],b,p,q,h=>h.elim
 | x :: xs,b,p,q,h=>by
  rw [gW] at h;rw [aJ,UC]
  rcases h with h|h
  ·have:=dB x h;omega
  ·have:=nE h;omega
def bm (F:Nat->Nat->Prop) (g:Nat->ByteArray):Nat->List ByteArray->Nat->Prop
 | p,[],q=>p=q
 | p,a :: w,q=> ∃r,F p r∧g r=a∧bm F g r w q
theorem bm.imp {F G:Nat->Nat->Prop} {g:Nat->ByteArray} (h: ∀p q,F p q->G p q): ∀ {w:List ByteArray} {p q:Nat},bm F g p w q->bm G g p w q
 | [],_,_,hc=>hc
 | _ :: _,_,_,⟨r,h1,h2,h3⟩=>⟨r,h _ _ h1,h2,h3.imp h⟩
theorem bm.app {F:Nat->Nat->Prop} {g:Nat->ByteArray}: ∀ {u v:List ByteArray} {p q:Nat},bm F g p (u++v) q ↔ ∃r,bm F g p u r∧bm F g r v q
 | [],v,p,q=>⟨fun h=>⟨p,rfl,h⟩,fun ⟨_,h,k⟩=>by cases h;exact k⟩
 | a :: u,v,p,q=>by
  constructor
  ·rintro ⟨r,h1,h2,h3⟩;obtain ⟨s,h4,h5⟩:=bm.app.1 h3;exact ⟨s,⟨r,h1,h2,h4⟩,h5⟩
  ·rintro ⟨s,⟨r,h1,h2,h4⟩,h5⟩;exact ⟨r,h1,h2,bm.app.2 ⟨s,h4,h5⟩⟩
def cA (I:Nat->Prop) (F:Nat->Nat->Prop) (T:Nat->Prop) (g:Nat->ByteArray):List ByteArray->Prop
 | []=>False
 | a :: w=> ∃p q,I p∧g p=a∧bm F g p w q∧T q
theorem bm.split {F G:Nat->Nat->Prop} {I T:Nat->Prop} {g:Nat->ByteArray} (hG: ∀p q,G p q->F p q∨(T p∧I q)): ∀ {w:List ByteArray} {p q:Nat},bm G g p w q ->
  bm F g p w q∨ ∃u a v r s,w=u++a :: v∧bm F g p u r∧T r∧I s∧g s=a∧bm G g s v q
 | [],_,_,h=> .inl h
 | a :: w,p,q,⟨r,h1,h2,h3⟩=>by
  rcases hG p r h1 with h|⟨h,k⟩
  ·rcases bm.split hG h3 with h4|⟨u,b,v,r',s,rfl,h4,h5,h6,h7,h8⟩
   ·exact .inl ⟨r,h,h2,h4⟩
   ·exact .inr ⟨a :: u,b,v,r',s,rfl,⟨r,h,h2,h4⟩,h5,h6,h7,h8⟩
  ·exact .inr ⟨[],a,w,p,r,rfl,rfl,h,k,h2,h3⟩
theorem bm.stay {F G:Nat->Nat->Prop} {S:Nat->Prop} {g:Nat->ByteArray} (hG: ∀p q,S p->G p q->F p q∧S q): ∀ {w:List ByteArray} {p q:Nat},S p->bm G g p w q->bm F g p w q∧S q
 | [],_,_,hs,h=>by cases h;exact ⟨rfl,hs⟩
 | a :: w,p,q,hs,⟨r,h1,h2,h3⟩=>by
  obtain ⟨h4,h5⟩:=hG p r hs h1;obtain ⟨h6,h7⟩:=bm.stay hG h5 h3;exact ⟨⟨r,h4,h2,h6⟩,h7⟩
def nw (ls:List ByteArray) (b:Nat) (g:Nat->ByteArray):Prop:= ∀(i:Nat) s,ls[i]? = some s->g (b+1+i)=s
theorem nw.left {l m:List ByteArray} {b:Nat} {g:Nat->ByteArray} (h:nw (l++m) b g):nw l b g:=fun i s hi=>h i s (by rw [List.getElem?_append_left (List.getElem?_eq_some_iff.1 hi).1];exact hi)
theorem nw.right {l m:List ByteArray} {b:Nat} {g:Nat->ByteArray} (h:nw (l++m) b g):nw m (b+l.length) g:=fun i s hi=>by
 have:=h (l.length+i) s (by rw [List.getElem?_append_right (by omega),Nat.add_sub_cancel_left];exact hi)
 rw [<-this];congr 1;omega
theorem bm.Jz {F G:Nat->Nat->Prop} {I T S:Nat->Prop} {g:Nat->ByteArray} (hG: ∀p q,S p->G p q->(F p q∧S q)∨(T p∧I q)): ∀ {w:List ByteArray} {p q:Nat},S p->bm G g p w q ->
  (bm F g p w q∧S q)∨ ∃u a v r s,w=u++a :: v∧bm F g p u r∧T r∧I s∧g s=a∧bm G g s v q
 | [],_,_,hs,h=> .inl ⟨h,by cases h;exact hs⟩
 | a :: w,p,q,hs,⟨r,h1,h2,h3⟩=>by
  rcases hG p r hs h1 with ⟨h,k⟩|⟨h,k⟩
  ·rcases bm.Jz hG k h3 with ⟨h4,h5⟩|⟨u,b,v,r',s,rfl,h4,h5,h6,h7,h8⟩
   ·exact .inl ⟨⟨r,h,h2,h4⟩,h5⟩
   ·exact .inr ⟨a :: u,b,v,r',s,rfl,⟨r,h,h2,h4⟩,h5,h6,h7,h8⟩
  ·exact .inr ⟨[],a,w,p,r,rfl,rfl,h,k,h2,h3⟩
theorem IZ {x:Ex} {xs:List Ex} {b:Nat} {g:Nat->ByteArray} {w:List ByteArray} (hw:w≠[]) :
  cA (gv (x :: xs) b) (gu (x :: xs) b) (jn (x :: xs) b) g w ↔
   (cA (jX x b) (iL x b) (jg x b) g w∧cB xs=true)∨(aG x=true∧cA (gv xs (b+(aB x).length)) (gu xs (b+(aB x).length)) (jn xs (b+(aB x).length)) g w) ∨
   ∃u v,w=u++v∧cA (jX x b) (iL x b) (jg x b) g u∧cA (gv xs (b+(aB x).length)) (gu xs (b+(aB x).length)) (jn xs (b+(aB x).length)) g v:=by
 obtain ⟨a,w,rfl⟩:=VN hw;generalize hb':b+(aB x).length=b'
 have eS: ∀p q,gu (x :: xs) b p q↔iL x b p q∨gu xs b' p q∨(jg x b p∧gv xs b' q):=fun p q=>by rw [gu,hb']
 have eL: ∀p,jn (x :: xs) b p↔(cB xs=true∧jg x b p)∨jn xs b' p:=fun p=>by rw [jn,hb']
 have eF: ∀p,gv (x :: xs) b p↔jX x b p∨(aG x=true∧gv xs b' p):=fun p=>by rw [gv,hb']
 have inX: ∀ {p},jX x b p->p<=b':=fun h=>by have:=fA x h;omega
 have inXs: ∀ {p},gv xs b' p->b'<p:=fun h=>by have:=fm (pO h);omega
 have stayR: ∀ {w p q},b'<p->bm (gu (x :: xs) b) g p w q->bm (gu xs b') g p w q∧b'<q:=fun hp h=>
  bm.stay (S:=fun p=>b'<p) (fun p q hp h=>by
   rcases (eS p q).1 h with h|h|⟨h,_⟩
   ·have:=dB x h;omega
   ·exact ⟨h,by have:=nF h;omega⟩
   ·have:=fB x h;omega) hp h
 have endR: ∀ {q},b'<q->jn (x :: xs) b q->jn xs b' q:=fun hq h=>by
  rcases (eL _).1 h with ⟨_,h⟩|h
  ·have:=fB x h;omega
  ·exact h
 constructor
 ·rintro ⟨p,q,hp,hg,hc,hq⟩
  rcases (eF p).1 hp with hp|⟨he,hp⟩
  ·rcases bm.Jz (F:=iL x b) (I:=gv xs b') (T:=jg x b) (S:=fun p=>p<=b') (fun p q hs h=>by
    rcases (eS p q).1 h with h|h|h
    ·exact .inl ⟨h,by have:=dB x h;omega⟩
    ·have:=nF h;omega
    ·exact .inr h) (inX hp) hc with ⟨h1,h2⟩|⟨u,c,v,r,s,rfl,h1,h2,h3,h4,h5⟩
   ·left
    rcases (eL q).1 hq with ⟨h3,h4⟩|h
    ·exact ⟨⟨p,q,hp,hg,h1,h4⟩,h3⟩
    ·have:=fp (wu h);omega
   ·right;right;obtain ⟨h6,h7⟩:=stayR (inXs h3) h5;exact ⟨a :: u,c :: v,rfl,⟨p,r,hp,hg,h1,h2⟩,s,q,h3,h4,h6,endR h7 hq⟩
  ·obtain ⟨h1,h2⟩:=stayR (inXs hp) hc;exact .inr (.inl ⟨he,p,q,hp,hg,h1,endR h2 hq⟩)
 ·rintro (⟨⟨p,q,hp,hg,hc,hq⟩,he⟩|⟨he,p,q,hp,hg,hc,hq⟩|⟨u,v,e,hu,hv⟩)
  ·exact ⟨p,q,(eF p).2 (.inl hp),hg,hc.imp (fun p q h=>(eS p q).2 (.inl h)),(eL q).2 (.inl ⟨he,hq⟩)⟩
  ·exact ⟨p,q,(eF p).2 (.inr ⟨he,hp⟩),hg,hc.imp (fun p q h=>(eS p q).2 (.inr (.inl h))),(eL q).2 (.inr hq)⟩
  ·cases u with
   | nil=>exact hu.elim
   | cons a' u=>
    obtain ⟨rfl,rfl⟩:a=a'∧w=u++v:=by simpa using e
    cases v with
    | nil=>exact hv.elim
    | cons c v=>
     obtain ⟨p,r,h1,h2,h3,h4⟩:=hu;obtain ⟨s,q,k1,k2,k3,k4⟩:=hv;refine ⟨p,q,(eF p).2 (.inl h1),h2,bm.app.2 ⟨r,h3.imp (fun p q h=>(eS p q).2 (.inl h)),s,(eS r s).2 (.inr (.inr ⟨h4,k1⟩)),k2,k3.imp (fun p q h=>(eS p q).2 (.inr (.inl h)))⟩,(eL q).2 (.inr k4)⟩
theorem IY {x:Ex} {xs:List Ex} {b:Nat} {g:Nat->ByteArray} {w:List ByteArray} :
  cA (fN (x :: xs) b) (gW (x :: xs) b) (fO (x :: xs) b) g w ↔
   cA (jX x b) (iL x b) (jg x b) g w∨cA (fN xs (b+(aB x).length)) (gW xs (b+(aB x).length)) (fO xs (b+(aB x).length)) g w:=by
 cases w with
 | nil=>simp [cA]
 | cons a w=>
  generalize hb':b+(aB x).length=b'
  have eS: ∀p q,gW (x :: xs) b p q↔iL x b p q∨gW xs b' p q:=fun p q=>by rw [gW,hb']
  have eL: ∀p,fO (x :: xs) b p↔jg x b p∨fO xs b' p:=fun p=>by rw [fO,hb']
  have eF: ∀p,fN (x :: xs) b p↔jX x b p∨fN xs b' p:=fun p=>by rw [fN,hb']
  constructor
  ·rintro ⟨p,q,hp,hg,hc,hq⟩
   rcases (eF p).1 hp with hp|hp
   ·obtain ⟨h1,h2⟩:=bm.stay (F:=iL x b) (S:=fun p=>p<=b') (fun p q hs h=>by
     rcases (eS p q).1 h with h|h
     ·exact ⟨h,by have:=dB x h;omega⟩
     ·have:=nE h;omega) (by have:=fA x hp;omega) hc
    rcases (eL q).1 hq with hq|hq
    ·exact .inl ⟨p,q,hp,hg,h1,hq⟩
    ·have:=fp hq;omega
   ·obtain ⟨h1,h2⟩:=bm.stay (F:=gW xs b') (S:=fun p=>b'<p) (fun p q hs h=>by
     rcases (eS p q).1 h with h|h
     ·have:=dB x h;omega
     ·exact ⟨h,by have:=nE h;omega⟩) (by have:=fm hp;omega) hc
    rcases (eL q).1 hq with hq|hq
    ·have:=fB x hq;omega
    ·exact .inr ⟨p,q,hp,hg,h1,hq⟩
  ·rintro (⟨p,q,hp,hg,hc,hq⟩|⟨p,q,hp,hg,hc,hq⟩)
   ·exact ⟨p,q,(eF p).2 (.inl hp),hg,hc.imp (fun p q h=>(eS p q).2 (.inl h)),(eL q).2 (.inl hq)⟩
   ·exact ⟨p,q,(eF p).2 (.inr hp),hg,hc.imp (fun p q h=>(eS p q).2 (.inr h)),(eL q).2 (.inr hq)⟩
theorem FH {I T:Nat->Prop} {F:Nat->Nat->Prop} {g:Nat->ByteArray} {w:List ByteArray} (hw:w≠[]) :
  cA I (fun p q=>F p q∨(T p∧I q)) T g w↔cW (cA I F T g) w:=by
 constructor
 ·generalize hn:w.length=n
  induction n using Nat.strongRecOn generalizing w with
  | ind n ih=>
   intro h
   cases w with
   | nil=>exact h.elim
   | cons a w=>
    obtain ⟨p,q,hp,hg,hc,hq⟩:=h
    rcases bm.split (F:=F) (I:=I) (T:=T) (fun _ _ h=>h) hc with h1|⟨u,c,v,r,s,rfl,h1,h2,h3,h4,h5⟩
    ·exact .one ⟨p,q,hp,hg,h1,hq⟩
    ·have:=ih (c :: v).length (by subst hn;simp;omega) (w:=c :: v) (by simp) rfl ⟨s,q,h3,h4,h5,hq⟩
     rw [show a :: (u++c :: v)=(a :: u)++(c :: v) from rfl];exact .cons _ _ (by simp) ⟨p,r,hp,hg,h1,h2⟩ this
 ·intro h
  have key:w=[]∨cA I (fun p q=>F p q∨(T p∧I q)) T g w:=by
   clear hw
   induction h with
   | nil=>exact .inl rfl
   | cons u v hu h1 _ ih=>
    right
    cases u with
    | nil=>exact absurd rfl hu
    | cons a u=>
     obtain ⟨p,q,hp,hg,hc,hq⟩:=h1;have hc':=hc.imp (G:=fun p q=>F p q∨(T p∧I q)) (fun p q h=> .inl h)
     rcases ih with rfl|ih
     ·rw [VL];exact ⟨p,q,hp,hg,hc',hq⟩
     ·cases v with
      | nil=>exact ih.elim
      | cons c v=>
       obtain ⟨s,t,k1,k2,k3,k4⟩:=ih;exact ⟨p,t,hp,hg,bm.app.2 ⟨q,hc',s, .inr ⟨hq,k1⟩,k2,k3⟩,k4⟩
  exact key.resolve_left hw
theorem TZ {x:Ex} (hx:Fit x): ∀ {b:Nat} {g:Nat->ByteArray} {w:List ByteArray},nw (aB x) b g->w≠[]->(Lg x w↔cA (jX x b) (iL x b) (jg x b) g w):=by
 induction hx with
 | lab s=>
  intro b g w hl hw
  have hg:g (b+1)=s:=by have:=hl 0 s (by simp [aB]);simpa using this
  cases w with
  | nil=>exact absurd rfl hw
  | cons a w=>
   simp only [Lg,if_true,cA,jX,jg]
   constructor
   ·intro h;simp only [List.cons.injEq] at h;obtain ⟨rfl,rfl⟩:=h;exact ⟨b+1,b+1,rfl,hg,rfl,rfl⟩
   ·rintro ⟨p,q,rfl,h1,h2,h3⟩
    cases w with
    | nil=>rw [<-h1,hg]
    | cons c w=>obtain ⟨r,h4,_⟩:=h2;simp [iL] at h4
 | many k s l hk hl hf ih=>
  intro b g w hla hw
  have h1:k≠1:=by omega
  rw [cO h1] at hla
  rcases hk with rfl|rfl
  ·have key: ∀(m:List Ex),(∀x∈m,x∈l)-> ∀ {b:Nat} {w:List ByteArray},nw (aJ m) b g->w≠[]->(cP m w↔cA (gv m b) (gu m b) (jn m b) g w):=by
    intro m
    induction m with
    | nil=>
     intro _ b w _ hw;obtain ⟨a,w,rfl⟩:=VN hw;simp [cP,cA,gv]
    | cons x xs ihm=>
     intro hm b w hla hw;rw [aJ] at hla;have hx:=hm x Vy;have hxs: ∀y∈xs,y∈l:=fun y hy=>hm y (Vv _ hy);have eE:=fG (hf x hx)
     have eA:cB xs=true↔cP xs []:=by
      rw [kV,List.all_eq_true,mJ];exact ⟨fun h y hy=>(fG (hf y (hxs y hy))).1 (h y hy),fun h y hy=>(fG (hf y (hxs y hy))).2 (h y hy)⟩
     rw [IZ hw,cP,eE,eA];have I1:=fun {w:List ByteArray} (hw:w≠[])=>ih x hx (b:=b) (g:=g) (w:=w) hla.left hw;have I2:=fun {w:List ByteArray} (hw:w≠[])=>ihm hxs (b:=b+(aB x).length) (w:=w) hla.right hw
     constructor
     ·rintro ⟨u,v,rfl,h2,h3⟩
      by_cases hu:u=[]
      ·subst hu;exact .inr (.inl ⟨h2,(I2 hw).1 h3⟩)
      ·by_cases hv:v=[]
       ·subst hv;rw [VL] at hw ⊢;exact .inl ⟨(I1 hu).1 h2,h3⟩
       ·exact .inr (.inr ⟨u,v,rfl,(I1 hu).1 h2,(I2 hv).1 h3⟩)
     ·rintro (⟨h2,h3⟩|⟨h2,h3⟩|⟨u,v,rfl,h2,h3⟩)
      ·exact ⟨w,[],by simp,(I1 hw).2 h2,h3⟩
      ·exact ⟨[],w,rfl,h2,(I2 hw).2 h3⟩
      ·refine ⟨u,v,rfl,(I1 (fun e=> ?_)).2 h2,(I2 (fun e=> ?_)).2 h3⟩
       ·subst e;exact h2
       ·subst e;exact h3
   simp only [Lg,jX,jg,Int.reduceEq,if_false,if_true];rw [key l (fun _ h=>h) hla hw]
   have: ∀ {F G:Nat->Nat->Prop} {I T:Nat->Prop} {w},(∀p q,F p q↔G p q)->(cA I F T g w↔cA I G T g w):=fun {F G I T w} h=>by
    have:F=G:=funext fun p=>funext fun q=>propext (h p q)
    rw [this]
   exact this (fun p q=>by simp [iL])
  ·have key: ∀(m:List Ex),(∀x∈m,x∈l)-> ∀ {b:Nat} {w:List ByteArray},nw (aJ m) b g->w≠[]->(gX m w↔cA (fN m b) (gW m b) (fO m b) g w):=by
    intro m
    induction m with
    | nil=>
     intro _ b w _ hw;obtain ⟨a,w,rfl⟩:=VN hw;simp [gX,cA,fN]
    | cons x xs ihm=>
     intro hm b w hla hw;rw [aJ] at hla;rw [IY,gX,ih x (hm x Vy) hla.left hw,ihm (fun y hy=>hm y (Vv _ hy)) hla.right hw]
   simp only [Lg,jX,jg,Int.reduceEq,if_false,if_true];rw [key l (fun _ h=>h) hla hw]
   have: ∀ {F G:Nat->Nat->Prop} {I T:Nat->Prop} {w},(∀p q,F p q↔G p q)->(cA I F T g w↔cA I G T g w):=fun {F G I T w} h=>by
    have:F=G:=funext fun p=>funext fun q=>propext (h p q)
    rw [this]
   exact this (fun p q=>by simp [iL])
 | one k s x hk hx ih=>
  intro b g w hla hw
  have h1:k≠1:=by omega
  have h2:k≠2:=by omega
  rw [cO h1,aJ,aJ,VL] at hla;have I:=fun {w:List ByteArray} (hw:w≠[])=>ih (b:=b) (g:=g) (w:=w) hla hw
  have eF:jX (.mk k s [x]) b=jX x b:=funext fun p=>by simp [jX,h1,h2,fN]
  have eL:jg (.mk k s [x]) b=jg x b:=funext fun p=>by simp [jg,h1,h2,fO]
  have star: ∀ {w:List ByteArray},w≠[]->(cW (rK [x]) w↔cA (jX x b) (fun p q=>iL x b p q∨(jg x b p∧jX x b q)) (jg x b) g w):=fun {w} hw=>by
   rw [FH hw]
   constructor
   ·intro h;clear hw
    induction h with
    | nil=>exact .nil
    | cons u v hu h1 _ ih=>exact .cons u v hu ((I hu).1 h1) ih
   ·intro h;clear hw
    induction h with
    | nil=>exact .nil
    | cons u v hu h1 _ ih=>exact .cons u v hu ((I hu).2 h1) ih
  rw [eF,eL]
  rcases hk with rfl|rfl|rfl
  ·have eFo:iL (.mk 4 s [x]) b=(fun p q=>iL x b p q∨(jg x b p∧jX x b q)):=funext fun p=>funext fun q=>by simp [iL,gW,fO,fN]
   rw [eFo, <- star hw];simp [Lg]
  ·have eFo:iL (.mk 5 s [x]) b=(fun p q=>iL x b p q∨(jg x b p∧jX x b q)):=funext fun p=>funext fun q=>by simp [iL,gW,fO,fN]
   rw [eFo, <- star hw];simp only [Lg,Int.reduceEq,if_false,if_true]
   constructor
   ·rintro ⟨u,v,rfl,h3,h4⟩;exact (cW.one h3).append h4
   ·intro h
    rcases h.inv with e|⟨u,v,rfl,hu,h3,h4⟩
    ·exact absurd e hw
    ·exact ⟨u,v,rfl,h3,h4⟩
  ·have eFo:iL (.mk 6 s [x]) b=iL x b:=funext fun p=>funext fun q=>by simp [iL,gW]
   rw [eFo, <- I hw];simp [Lg,rK,hw]
end Go.Proofs.YtfflpdekojlnmaaGreatDoor
