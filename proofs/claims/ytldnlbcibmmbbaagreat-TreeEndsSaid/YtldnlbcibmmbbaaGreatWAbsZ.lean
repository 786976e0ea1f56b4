/- A region that draws its order, whose last operations come one behind the other: these may turn memory. No program is named here. -/
import Derived.Test.YtldnlbcibmmbbaaGreatWRel
import Derived.Test.YtldnlbcibmmbbaaGreatWAbsS
import Derived.OrdersIn
set_option linter.unusedSimpArgs false
set_option linter.unusedVariables false
open Array renaming getD_eq_getD_getElem? → JM, getElem?_eq_getElem → Jd, any_eq_true' → Ke
open Bool renaming and_eq_true → JL, or_eq_true → J4
open List renaming getElem?_cons_zero → Kd, getElem?_take_of_lt → Js, getElem?_eq_some_iff → I0, all_eq_true → J2, mem_range → J3, size_toArray → Jo, getElem?_toArray → Jg, getElem?_eq_getElem → Je, singleton_append → JY
open Nat renaming lt_or_ge → I2, sub_self → J8, le_refl → IV, lt_trichotomy → Kf, le_of_lt → Kg
/-! A region that draws its order, whose last operations come one behind the other: these may turn memory. No program is named here. -/
namespace Go.Proofs.YtldnlbcibmmbbaaGreat
open Go.RowKit
section
variable {P:Program} {ops:Array Oper}
def tQ (ops:Array Oper) (m i j:Nat):Bool:=
 match ops[i]?,ops[j]? with
 | some oi,some oj=>(decide (m≤j)||ay ops j i||oi.apart ops oj) && !ay ops i j&&(match oi.dst with|some d=>oj.dst !=some d|none=>true)&&(decide (m≤j)||match oj.dst with|some d=> !(oi.looksAt ops).contains d|none=>true)
 | _,_=>true
def fj (ops:Array Oper) (m:Nat):Bool:=
 Region.noSelect ops&&decide (m<ops.size)&&(List.range ops.size).all (fun j=>(List.range j).all (fun i=>tQ ops m i j)&&(!ay ops j j&&qH ops j)) &&
 (List.range ops.size).all (fun t=>decide (t<m)||(List.range t).all (fun i=>(List.range (t+1)).any (fun i'=>decide (i<i')&&ay ops i' i)))
def zu (st:Nat→(Act→World→Prop)→Act→World→Prop) (ops:Array Oper) (E:Act→World→Prop):Nat→Array Bool→Act→World→Prop
 | 0,listed,a,w=>Region.ready .any ops listed=[]∧E a w
 | fuel+1,listed,a,w=>(Region.ready .any ops listed=[]→E a w)∧ ∀i∈Region.ready .any ops listed,st i (zu st ops E fuel (listed.setIfInBounds i true)) a w
def qq (st:Nat→(Act→World→Prop)→Act→World→Prop) (E:Act→World→Prop):List Nat→Act→World→Prop
 | []=>E
 | i :: r=>st i (qq st E r)
structure DM (P:Program) (ops:Array Oper) (st:Nat→(Act→World→Prop)→Act→World→Prop):Prop where
 mono: ∀ {i:Nat} {K K':Act→World→Prop} {a:Act} {w:World},(∀a w,K a w→K' a w)→st i K a w→st i K' a w
 of: ∀ {i:Nat} {o:Oper} {S:Spec} {K:Act→World→Prop} {a:Act} {w:World},ops[i]? = some o→gT P ops S o a w→(∀v w2,S.p v w2→Below w.heap.size w w2→K (a.put o.dst v) w2)→st i K a w
theorem xU {Q:Exit→Act→World→Prop}: ∀(fuel:Nat) (listed:Array Bool) (a:Act) (w:World),zu (wpOp P ops Q) ops (Q .normal) fuel listed a w→wpAny P .any ops Q fuel listed a w
 | 0,_,_,_,h=>h
 | fuel+1,_,_,_,h=>⟨h.1,fun i hi=>wpOp_mono (fun _ _=>xU fuel _ _ _) (h.2 i hi)⟩
theorem xZ {Q:Exit→Act→World→Prop}: ∀l:List Nat,wpOps P ops Q l=qq (wpOp P ops Q) (Q .normal) l
 | []=>by funext a w;simp [wpOps,qq]
 | i :: l=>by funext a w;rw [wpOps_cons,xZ l];rfl
theorem CR (Q:Exit→Act→World→Prop):DM P ops (wpOp P ops Q):=⟨fun h k=>wpOp_mono h k,fun {i o S K a w} hi h next=>by
 unfold wpOp
 simp only [hi]
 rcases h with ⟨h1,h2⟩|⟨h1,h2⟩
 ·rw [if_pos h1]
  refine .inl ?_
  unfold Oper.wp
  generalize (execOp a.eval o).run P w=r at h2
  cases r with
  | halt _ _=>exact h2.elim
  | ok n w'=>
   cases n<;>first|exact h2.elim|skip
   case value u=>exact next _ _ h2.1 h2.2
   case skip=>exact next _ _ h2.1 h2.2
   case enter f args=>
    refine Calls.mono h2 fun e w'' he=> ?_
    obtain ⟨v,rfl,hv,hb⟩:=he
    exact next _ _ hv hb
 ·rw [if_neg (by rw [h1];decide)]
  exact next _ _ h2 (Below.refl _ _)⟩
def lO (P:Program) (ops:Array Oper) (Q:Exit→Act→World→Prop) (k:Nat):Act→World→Prop:=wpOps P ops Q (List.range' k (ops.size - k))
def kk (P:Program) (ops:Array Oper) (L:List Spec) (w0:World) (T:Nat→Act→World→Prop):List Oper→Nat→((Nat→Value)→Act)→Prop
 | [],k,A=> ∀x w,Below w0.heap.size w0 w→(∀i,i<k→(bA L i).p (x i) w)→T k (A x) w
 | o :: l,k,A=>(∀x w,Below w0.heap.size w0 w→(∀i,ay ops k i=true→(bA L i).p (x i) w)→gT P ops (bA L k) o (A x) w)∧kk P ops L w0 T l (k+1) (fun x=>(A x).put o.dst (x k))
def Dv (b:Bool) (n:Nat) (S:Spec):Spec:=⟨fun v w=>S.p v w∧(b=true→ ∀k,cw v=some k→n≤k),fun v w w' hb h=>⟨S.st v w w' hb h.1,h.2⟩⟩
def gn (P:Program) (ops:Array Oper) (L:List Spec) (fr:Nat→Bool) (w0:World) (T:Nat→Act→World→Prop):List Oper→Nat→((Nat→Value)→Act)→Prop
 | [],k,A=> ∀x w,Below w0.heap.size w0 w→(∀i,i<k→(bA L i).p (x i) w)→(∀i j,i<k→j<k→i≠j→fr i=true→fr j=true→ ∀b,cw (x i)=some b→cw (x j)≠some b)→T k (A x) w
 | o :: l,k,A=>(∀x w,Below w0.heap.size w0 w→(∀i,ay ops k i=true→(bA L i).p (x i) w)→(∀i j,ay ops k i=true→ay ops k j=true→i≠j→fr i=true→fr j=true→ ∀b,cw (x i)=some b→cw (x j)≠some b)→gT P ops (Dv (fr k) w.heap.size (bA L k)) o (A x) w)∧gn P ops L fr w0 T l (k+1) (fun x=>(A x).put o.dst (x k))
theorem gT.Dv {S:Spec} {o:Oper} {a:Act} {w:World} {n:Nat} (h:gT P ops S o a w):gT P ops (Dv false n S) o a w:=by
 rcases h with ⟨h1,h2⟩|⟨h1,h2⟩
 ·refine .inl ⟨h1, ?_⟩
  revert h2
  generalize (execOp a.eval o).run P w=r
  intro h2
  cases r with
  | halt _ _=>exact h2.elim
  | ok n w'=>
   cases n<;>first|exact h2.elim|skip
   case value u=>exact ⟨⟨h2.1,fun h=>by cases h⟩,h2.2⟩
   case skip=>exact ⟨⟨h2.1,fun h=>by cases h⟩,h2.2⟩
   case enter f args=>
    refine Calls.mono h2 fun e w'' he=> ?_
    obtain ⟨v,rfl,hv,hb⟩:=he
    exact ⟨v,rfl,⟨hv,fun h=>by cases h⟩,hb⟩
 ·exact .inr ⟨h1,h2,fun h=>by cases h⟩
theorem oJ {L:List Spec} {w0:World} {T:Nat→Act→World→Prop}: ∀(l:List Oper) (k:Nat) (A:(Nat→Value)→Act),kk P ops L w0 T l k A→gn P ops L (fun _=>false) w0 T l k A
 | [],k,A,h=>fun x w h1 h2 _=>h x w h1 h2
 | o :: l,k,A,h=>⟨fun x w h1 h2 _=>(h.1 x w h1 h2).Dv,oJ l (k+1) _ h.2⟩
theorem mI {l:List Oper} {L:List Spec} {fr:Nat→Bool} {w0:World} {T:Nat→Act→World→Prop} {a0:Act} (hA:dV l) {m0:Nat} (hm:m0≤l.length): ∀(l':List Oper) (k:Nat) (A:(Nat→Value)→Act),(l.take m0).drop k=l'→k≤m0→(A=fun x=>bX (fun i=>decide (i<k)) x l 0 a0) →
  gn P l.toArray L fr w0 T l' k A→(∀j o,k≤j→j<m0→l[j]? = some o→ ∀x w,Below w0.heap.size w0 w→(∀i,ay l.toArray j i=true→(bA L i).p (x i) w)→(∀i i',ay l.toArray j i=true→ay l.toArray j i'=true→i≠i'→fr i=true→fr i'=true→ ∀b,cw (x i)=some b→cw (x i')≠some b)→gT P l.toArray (Dv (fr j) w.heap.size (bA L j)) o (bX (fun i=>decide (i<j)) x l 0 a0) w)∧ ∀x w,Below w0.heap.size w0 w→(∀i,i<m0→(bA L i).p (x i) w)→(∀i j,i<m0→j<m0→i≠j→fr i=true→fr j=true→ ∀b,cw (x i)=some b→cw (x j)≠some b)→T m0 (bX (fun i=>decide (i<m0)) x l 0 a0) w
 | [],k,A,hl,hk,hAx,h=>by
  have h1:k=m0:=by have:=congrArg List.length hl;simp at this;omega
  subst h1;subst hAx
  refine ⟨fun j o h1 h2=>by omega,fun x w h1 h2 h3=> ?_⟩
  have:=h x w h1 h2 h3
  simpa using this
 | o :: l',k,A,hl,hk,hAx,h=>by
  have h1:k<m0:=by have:=congrArg List.length hl;simp at this;omega
  have h2:l[k]? = some o:=by
   have:=congrArg (fun m=>m[0]?) hl
   simp only [List.getElem?_drop,Nat.add_zero,Kd] at this
   rwa [Js h1] at this
  subst hAx
  have hrec:=mI hA hm l' (k+1) _ (by have:=congrArg List.tail hl;simpa using this) h1 (by
   funext x
   have hi:=fB (s:=fun i=>decide (i<k)) (x:=x) (v:=x k) l 0 k a0 hA h2 (by simp)
   rw [Nat.zero_add] at hi
   rw [←hi]
   refine aS l 0 a0 (fun i _ _=> ?_)
   by_cases hik:i=k
   ·subst hik;simp [bn,eJ]
   ·have:(i<k+1)=(i<k):=by apply propext;omega
    simp [bn,eJ,hik,this]) h.2
  refine ⟨fun j o' hj hjm ho=> ?_,hrec.2⟩
  by_cases hjk:j=k
  ·subst hjk
   rw [h2] at ho;cases ho
   exact h.1
  ·exact hrec.1 j o' (by omega) hjm ho
theorem uK {s:Nat→Bool}: ∀n m,m≤n→(∀i,m≤i→i<n→s i=false)→n - m≤tb s n
 | 0,m,_,_=>by omega
 | n+1,m,h,hs=>by
  rcases I2 n m with q|q
  ·omega
  ·have:=uK (s:=s) n m q (fun i h1 h2=>hs i h1 (by omega))
   rw [tb,hs n q (by omega)];simp;omega
theorem Ay {l:List Oper} {m0:Nat} {st:Nat→(Act→World→Prop)→Act→World→Prop} {E:Act→World→Prop} (hst:DM P l.toArray st) (hnext: ∀t,m0≤t→t<l.length→ ∀i,i<t→ ∃i',i'≤t∧i<i'∧ay l.toArray i' i=true)
  (hback: ∀i j oi oj,i<j→l[i]? = some oi→l[j]? = some oj→ay l.toArray i j=false) (hself: ∀j,j<l.length→ay l.toArray j j=false) (hfar: ∀(j:Nat) (o:Oper),l[j]? = some o→ ∀e∈o.after,e.on<l.length) :
  ∀(fuel k:Nat) (listed:Array Bool) (a:Act) (w:World),listed.size=l.length→m0≤k→k≤l.length→(∀i,listed.getD i false=decide (i<k))→l.length - k≤fuel →
   qq st E (List.range' k (l.length - k)) a w→zu st l.toArray E fuel listed a w:=by
 intro fuel
 induction fuel with
 | zero=>
  intro k listed a w hsz hm hk hl hf h
  have e:k=l.length:=by omega
  subst e
  rw [J8] at h
  refine ⟨?_,by simpa [qq] using h⟩
  refine List.eq_nil_iff_forall_not_mem.2 (fun i hi=> ?_)
  obtain ⟨g1,o,g2, -⟩:=mem_ready.1 hi
  have hil:i<l.length:=(I0.1 (show l[i]? = some o by simpa using g2)).1
  have his:i<listed.size:=by omega
  have g3:=hl i
  rw [show listed.getD i false=false by
   simp only [JM,Jd his,Option.getD_some] at g1 ⊢; exact g1] at g3
  simp [hil] at g3
 | succ fuel ih=>
  intro k listed a w hsz hm hk hl hf h
  have hread: ∀j,j∈Region.ready .any l.toArray listed→j=k∧k<l.length:=by
   intro j hj
   obtain ⟨g1,o,g2,g3⟩:=mem_ready.1 hj
   have hoj:l[j]? = some o:=by simpa using g2
   have hjl:j<l.length:=(I0.1 hoj).1
   have his:j<listed.size:=by omega
   have g4:=hl j
   rw [show listed.getD j false=false by
    simp only [JM,Jd his,Option.getD_some] at g1 ⊢; exact g1] at g4
   have hkj:k≤j:=by
    rcases I2 j k with q|q
    ·simp [q] at g4
    ·exact q
   rcases Nat.eq_or_lt_of_le hkj with e|hlt
   ·exact ⟨e.symm,by omega⟩
   ·exfalso
    have hd: ∀i,ay l.toArray j i=true→listed.getD i false=true:=by
     intro i hi
     simp only [ay,g2,JL,beq_iff_eq,Ke] at hi
     obtain ⟨e,he,hb,rfl⟩:=hi
     exact g3 e he hb
    have hsome: ∀n i,i+n+1=j→k≤i→False:=by
     intro n
     induction n using Nat.strongRecOn with
     | _ n ihn=>
      intro i hi hki
      obtain ⟨i',q1,q2,q3⟩:=hnext j (by omega) hjl i (by omega)
      by_cases hi':i'=j
      ·subst hi'
       have:=hd i q3
       rw [hl i] at this
       simp at this;omega
      ·exact ihn (j - 1 - i') (by omega) i' (by omega) (by omega)
    exact hsome (j - k - 1) k (by omega) (IV _)
  refine ⟨fun h0=> ?_,fun j hj=> ?_⟩
  ·rcases I2 k l.length with q|q
   ·exfalso
    have hmem:k∈Region.ready .any l.toArray listed:=by
     refine mem_ready.2 ⟨?_,l[k],by simp [q],fun e he hb=> ?_⟩
     ·have hms:k<listed.size:=by omega
      have:=hl k
      simp [hms] at this ⊢; exact this
     ·have hd:ay l.toArray k e.on=true:=by
       have:l.toArray[k]? = some l[k]:=by simp [q]
       simp only [ay,this]
       simp only [Ke,JL,beq_iff_eq]
       exact ⟨e,he,hb,rfl⟩
      rcases Kf e.on k with h'|h'|h'
      ·rw [hl];simpa using h'
      ·rw [h',hself k q] at hd;cases hd
      ·by_cases hl':e.on<l.length
       ·have:=hback k e.on l[k] l[e.on] h' (by simp [q]) (by simp [hl'])
        rw [hd] at this;cases this
       ·exact absurd (hfar k l[k] (by simp [q]) e he) hl'
    rw [h0] at hmem;cases hmem
   ·have e:k=l.length:=by omega
    subst e
    rw [J8] at h
    simpa [qq] using h
  ·obtain ⟨rfl,hlt⟩:=hread j hj
   have e:l.length - j=(l.length - (j+1))+1:=by omega
   rw [e,List.range'_succ] at h
   simp only [qq] at h
   refine hst.mono (fun a' w' h'=>ih (j+1) _ a' w' (by simpa using hsz) (by omega) hlt (fun i=> ?_) (by omega) h') h
   by_cases hij:i=j
   ·subst hij
    have:i<listed.size:=by omega
    simp [this]
   ·rw [show (listed.setIfInBounds j true).getD i false=listed.getD i false from getD_set_ne false (Ne.symm hij),hl i]
    have:(i<j+1)=(i<j):=by apply propext;omega
    simp [this]
theorem mv {st:Nat→(Act→World→Prop)→Act→World→Prop} {E:Act→World→Prop} {a:Act} {w:World} {l:List Oper} (L:List Spec) (fr:Nat→Bool) (hfr: ∀i v w,fr i=true→(bA L i).p v w→ ∀b,cw v=some b→b<w.heap.size) (m0:Nat) (hst:DM P l.toArray st) (hB:fj l.toArray m0=true)
  (h:gn P l.toArray L fr w.drew (fun k=>qq st E (List.range' k (l.length - k))) (l.take m0) 0 (fun _=>a)):zu st l.toArray E l.toArray.size (Array.replicate l.toArray.size false) a w.drew:=by
 simp only [fj,JL,J2,J3,Jo,decide_eq_true_eq] at hB
 obtain ⟨⟨⟨hns,hm0⟩,hall⟩,htail⟩:=hB
 have hsel:=Region.noSelect_spec hns
 have hpair: ∀i j oi oj,i<j→l[i]? = some oi→l[j]? = some oj→(j<m0→ay l.toArray j i=true∨oi.apart l.toArray oj=true)∧ay l.toArray i j=false∧(∀e,oi.dst=some e→oj.dst≠some e)∧(j<m0→ ∀e,oj.dst=some e→e∉oi.looksAt l.toArray):=by
  intro i j oi oj hij hi hj
  have hjn:=(I0.1 hj).1
  have:=(hall j hjn).1 i hij
  simp only [tQ,Jg,hi,hj,JL,J4,Bool.not_eq_true',decide_eq_true_eq] at this
  refine ⟨fun hlt=> ?_,this.1.1.2,fun e he=> ?_,fun hlt e he=> ?_⟩
  ·rcases this.1.1.1 with (h|h)|h
   ·omega
   ·exact .inl h
   ·exact .inr h
  ·have h3:=this.1.2
   rw [he] at h3
   simpa using h3
  ·have h3:=this.2
   rw [he] at h3
   rcases h3 with h3|h3
   ·omega
   ·simpa using h3
 have hself: ∀j,j<l.length→ay l.toArray j j=false:=fun j hj=>by simpa using (hall j hj).2.1
 have hfar: ∀(j:Nat) (o:Oper),l[j]? = some o→ ∀e∈o.after,e.on<l.length:=fun j o hj e he=>by
  have:=(hall j (I0.1 hj).1).2.2
  simp only [qH,Jg,hj,Array.all_eq_true_iff_forall_mem] at this
  simpa using this e he
 have hnext: ∀t,m0≤t→t<l.length→ ∀i,i<t→ ∃i',i'≤t∧i<i'∧ay l.toArray i' i=true:=fun t ht htl i hit=>by
  have:=htail t htl
  simp only [J4,decide_eq_true_eq,J2,List.any_eq_true,J3,JL] at this
  rcases this with h|h
  ·omega
  ·obtain ⟨i',h1,h2,h3⟩:=h i hit
   exact ⟨i',by omega,h2,h3⟩
 have hA:dV l:=fun i j oi oj hi hj hij e he=>by
  rcases Nat.lt_or_gt_of_ne hij with h|h
  ·exact (hpair i j oi oj h hi hj).2.2.1 e he
  ·intro h2
   exact (hpair j i oj oi h hj hi).2.2.1 e h2 he
 have hO:=mI (P:=P) (L:=L) (fr:=fr) (w0:=w.drew) (T:=fun k=>qq st E (List.range' k (l.length - k))) (a0:=a) hA (m0:=m0) (by omega) (l.take m0) 0 (fun _=>a) (by simp) (Nat.zero_le _) (by
  funext x
  exact (show a=bX (fun _=>false) x l 0 a from by
   have: ∀(l:List Oper) k,a=bX (fun _=>false) x l k a:=by
    intro l
    induction l with
    | nil=>intro k;rfl
    | cons o l ih=>intro k;rw [bX];exact ih (k+1)
   exact this l 0).trans (aS l 0 a (fun i _ _=>by simp))) h
 
 have hloose: ∀i j oi oj,i<m0→j<m0→l[i]? = some oi→l[j]? = some oj→i≠j→ay l.toArray j i=false→ ∀d,oi.dst=some d→d∉oj.looksAt l.toArray:=by
  intro i j oi oj him hjm hi hj hij hd
  rcases Nat.lt_or_gt_of_ne hij with h|h
  ·rcases (hpair i j oi oj h hi hj).1 hjm with h1|h1
   ·rw [hd] at h1;cases h1
   ·exact (Oper.apart_spec h1).1
  ·exact (hpair j i oj oi h hj hi).2.2.2 him
 
 have hsee: ∀(s s':Nat→Bool) x j oj,(∀i,m0≤i→s i=false∧s' i=false)→j<m0→l[j]? = some oj→s j=false→s' j=false→(∀i,i<l.length→ay l.toArray j i=true→s i=true∧s' i=true) →
   execOp (bX s x l 0 a).eval oj=execOp (bX s' x l 0 a).eval oj∧Region.wanted oj (yielded l.toArray (bX s x l 0 a).tmps)=Region.wanted oj (yielded l.toArray (bX s' x l 0 a).tmps):=by
  intro s s' x j oj hst hjm hj h1 h2 hd
  have one:=fun (s:Nat→Bool) (hs0: ∀i,m0≤i→s i=false) (hs:s j=false)=>ki (ops:=l.toArray) (s:=s) (keep:=ay l.toArray j) (x:=x) (a:=a) hA (fun cs b=>hsel j oj cs b (by simpa using hj))
   (fun i oi hi hsi hk=>hloose i j oi oj (by rcases I2 i m0 with q|q;exact q;rw [hs0 i q] at hsi;cases hsi) hjm hi hj (by intro e;subst e;rw [hsi] at hs;cases hs) hk)
  obtain ⟨a1,a2⟩:=one s (fun i hi=>(hst i hi).1) h1
  obtain ⟨b1,b2⟩:=one s' (fun i hi=>(hst i hi).2) h2
  have e:bX (fun i=>s i&&ay l.toArray j i) x l 0 a=bX (fun i=>s' i&&ay l.toArray j i) x l 0 a:=aS l 0 a (fun i _ hi=>by
   refine ⟨?_,fun _=>rfl⟩
   cases hk:ay l.toArray j i
   ·simp
   ·obtain ⟨c1,c2⟩:=hd i (by omega) hk
    simp [c1,c2])
  exact ⟨by rw [a1,b1,e],by rw [a2,b2,e]⟩
 have main: ∀fuel (listed:Array Bool) x w1,listed.size=l.length→Below w.drew.heap.size w.drew w1→(∀i,listed.getD i false=true→(bA L i).p (x i) w1) →
   (∀j i,listed.getD j false=true→ay l.toArray j i=true→listed.getD i false=true)→(∀i,m0≤i→listed.getD i false=false)→(∀i j,listed.getD i false=true→listed.getD j false=true→i≠j→fr i=true→fr j=true→ ∀b,cw (x i)=some b→cw (x j)≠some b)→tb (fun i=>listed.getD i false) l.length≤fuel →
   zu st l.toArray E fuel listed (bX (fun i=>listed.getD i false) x l 0 a) w1:=by
  intro fuel
  induction fuel with
  | zero=>
   intro listed x w1 _ _ _ _ hlast _ hu
   have:=nL (s:=fun i=>listed.getD i false) l.length (i:=m0) hm0 (hlast m0 (IV _))
   omega
  | succ fuel ih=>
   intro listed x w1 hsz hE hF hcl hlast hpr hu
   have hmemR: ∀j,j∈Region.ready .any l.toArray listed→ ∃oj,l[j]? = some oj∧listed.getD j false=false∧ ∀i,ay l.toArray j i=true→listed.getD i false=true:=by
    intro j hj
    obtain ⟨h1,o,ho,h3⟩:=mem_ready.1 hj
    refine ⟨o,by simpa using ho, ?_,fun i hi=> ?_⟩
    ·rcases I2 j listed.size with h'|h'
     ·simp [h'] at h1 ⊢; exact h1
     ·simp [Array.getElem?_eq_none h']
    ·simp only [ay,ho,JL,beq_iff_eq,Ke] at hi
     obtain ⟨e,he,hb,rfl⟩:=hi
     exact h3 e he hb
   refine ⟨fun h0=> ?_,fun j hj=> ?_⟩
   ·
    exfalso
    have hex: ∃m,m<l.length∧listed.getD m false=false∧ ∀i,i<m→listed.getD i false=true:=by
     have: ∀k,k≤l.length→(∀i,i<k→listed.getD i false=true)∨ ∃m,m<l.length∧listed.getD m false=false∧ ∀i,i<m→listed.getD i false=true:=by
      intro k
      induction k with
      | zero=>exact fun _=> .inl (fun i hi=>by omega)
      | succ k ihk=>
       intro hk
       rcases ihk (by omega) with h|h
       ·cases hc:listed.getD k false
        ·exact .inr ⟨k,by omega,hc,h⟩
        ·exact .inl (fun i hi=>by
          by_cases e:i=k
          ·subst e;exact hc
          ·exact h i (by omega))
       ·exact .inr h
     rcases this l.length (IV _) with h|h
     ·have:=h m0 hm0
      rw [hlast m0 (IV _)] at this;cases this
     ·exact h
    obtain ⟨m,hm1,hm2,hm3⟩:=hex
    have hmem:m∈Region.ready .any l.toArray listed:=by
     refine mem_ready.2 ⟨?_,l[m],by simp [hm1],fun e he hb=> ?_⟩
     ·have hms:m<listed.size:=by omega
      simp [hms] at hm2 ⊢; exact hm2
     ·have hd:ay l.toArray m e.on=true:=by
       have:l.toArray[m]? = some l[m]:=by simp [hm1]
       simp only [ay,this]
       simp only [Ke,JL,beq_iff_eq]
       exact ⟨e,he,hb,rfl⟩
      rcases Kf e.on m with h|h|h
      ·exact hm3 _ h
      ·rw [h,hself m hm1] at hd;cases hd
      ·by_cases hl:e.on<l.length
       ·have:=(hpair m e.on l[m] l[e.on] h (by simp [hm1]) (by simp [hl])).2.1
        rw [hd] at this;cases this
       ·exact absurd (hfar m l[m] (by simp [hm1]) e he) hl
    rw [h0] at hmem;cases hmem
   ·obtain ⟨oj,hoj,hun,hdeps⟩:=hmemR j hj
    have hjl:=(I0.1 hoj).1
    have hsj:(listed.setIfInBounds j true).size=l.length:=by simpa using hsz
    have hgd: ∀i,(listed.setIfInBounds j true).getD i false=bn (fun i=>listed.getD i false) j i:=by
     intro i
     by_cases hij:i=j
     ·subst hij
      have:i<listed.size:=by omega
      simp [bn,this]
     ·simp only [bn,if_neg hij]
      exact getD_set_ne false (Ne.symm hij)
    have hup: ∀t,m0≤t→t<l.length→(∀i,ay l.toArray t i=true→listed.getD i false=true)→ ∀k i,i+k+1=t→listed.getD i false=true:=by
     intro t h1 h2 hdt k
     induction k using Nat.strongRecOn with
     | _ k ihk=>
      intro i hi
      obtain ⟨i',q1,q2,q3⟩:=hnext t h1 h2 i (by omega)
      by_cases hi':i'=t
      ·subst hi';exact hdt i q3
      ·exact hcl i' i (ihk (t - 1 - i') (by omega) i' (by omega)) q3
    by_cases hjn:m0≤j
    ·
     have hj0:j=m0:=by
      rcases Nat.eq_or_lt_of_le hjn with e|hlt
      ·exact e.symm
      ·have:=hup j hjn hjl hdeps (j - m0 - 1) m0 (by omega)
       rw [hlast m0 (IV _)] at this;cases this
     subst hj0
     have hall': ∀i,i<j→listed.getD i false=true:=fun i hi=>hup j hjn hjl hdeps (j - i - 1) i (by omega)
     have h2:=hO.2 x w1 hE (fun i hi=>hF i (hall' i hi)) (fun i k hi hk=>hpr i k (hall' i hi) (hall' k hk))
     have e:bX (fun i=>decide (i<j)) x l 0 a=bX (fun i=>listed.getD i false) x l 0 a:=aS l 0 a (fun i _ hi=>by
      refine ⟨?_,fun _=>rfl⟩
      by_cases hij:i<j
      ·simp only [hij,decide_true];exact (hall' i hij).symm
      ·simp only [hij,decide_false];exact (hlast i (by omega)).symm)
     rw [e] at h2
     have hrun:=Ay (P:=P) (st:=st) (E:=E) (l:=l) (m0:=j) hst (fun t h1 h2=>hnext t h1 h2) (fun i k oi ok hik h1 h2=>(hpair i k oi ok hik h1 h2).2.1) hself hfar (fuel+1) j listed _ w1 hsz (IV _) (Kg hjl) (fun i=>by
      by_cases hij:i<j
      ·simp only [hij,decide_true];exact hall' i hij
      ·simp only [hij,decide_false];exact hlast i (by omega)) (by
      have:=uK (s:=fun i=>listed.getD i false) l.length j (Kg hjl) (fun i h1 _=>hlast i h1)
      omega) h2
     exact hrun.2 j hj
    ·have hjm:j<m0:=by omega
     have hst2:=hO.1 j oj (Nat.zero_le _) hjm hoj x w1 hE (fun i hi=>hF i (hdeps i hi)) (fun i k hi hk=>hpr i k (hdeps i hi) (hdeps k hk))
     obtain ⟨c1,c2⟩:=hsee (fun i=>listed.getD i false) (fun i=>decide (i<j)) x j oj (fun i hi=>⟨hlast i hi,by simp;omega⟩) hjm hoj hun (by simp) (fun i hi hd=>⟨hdeps i hd,by
      rcases Kf i j with h|h|h
      ·simpa using h
      ·rw [h,hself j hjl] at hd;cases hd
      ·have:=(hpair j i oj l[i] h hoj (by simp [hi])).2.1
       rw [hd] at this;cases this⟩)
     have next: ∀v w2,(Dv (fr j) w1.heap.size (bA L j)).p v w2→Below w1.heap.size w1 w2→zu st l.toArray E fuel (listed.setIfInBounds j true) ((bX (fun i=>listed.getD i false) x l 0 a).put oj.dst v) w2:=by
      intro v w2 hvf hb
      obtain ⟨hv,hvn⟩:=hvf
      have hi:=fB (s:=fun i=>listed.getD i false) (x:=x) (v:=v) l 0 j a hA hoj (by simpa using hun)
      rw [Nat.zero_add] at hi
      rw [←hi, ← show (fun i=>(listed.setIfInBounds j true).getD i false)=bn (fun i=>listed.getD i false) j from funext hgd]
      refine ih _ _ w2 hsj (Bb hE hb) (fun i hi'=> ?_) (fun j' i hj' hd=> ?_) ?_ ?_ ?_
      ·rw [hgd] at hi'
       by_cases hij:i=j
       ·subst hij;simpa [eJ] using hv
       ·simp only [bn,if_neg hij] at hi'
        simp only [eJ,if_neg hij]
        exact (bA L i).st _ _ _ hb (hF i hi')
      ·rw [hgd] at hj' ⊢
       by_cases hij:i=j
       ·simp [bn,hij]
       ·simp only [bn,if_neg hij]
        by_cases hj2:j'=j
        ·subst hj2;exact hdeps i hd
        ·simp only [bn,if_neg hj2] at hj'
         exact hcl j' i hj' hd
      ·intro i hi
       rw [hgd]
       have:i≠j:=by omega
       simp only [bn,if_neg this];exact hlast i hi
      ·intro i k hi hk hik fi fk b hbi hbk
       rw [hgd] at hi hk
       have old: ∀i,bn (fun i=>listed.getD i false) j i=true→i≠j→listed.getD i false=true:=fun i h1 h2=>by simpa only [bn,if_neg h2] using h1
       by_cases hij:i=j
       ·subst hij
        have hkj:k≠i:=fun e=>hik e.symm
        simp only [eJ,if_true,if_neg hkj] at hbi hbk
        have:=hfr k _ w1 fk (hF k (old k hk hkj)) b hbk
        have:=hvn fi b hbi
        omega
       ·by_cases hkj:k=j
        ·subst hkj
         simp only [eJ,if_true,if_neg hij] at hbi hbk
         have:=hfr i _ w1 fi (hF i (old i hi hij)) b hbi
         have:=hvn fk b hbk
         omega
        ·simp only [eJ,if_neg hij,if_neg hkj] at hbi hbk
         exact hpr i k (old i hi hij) (old k hk hkj) hik fi fk b hbi hbk
      ·rw [gA (s':=bn (fun i=>listed.getD i false) j) l.length (fun i _=>hgd i)]
       have:=j5 (s:=fun i=>listed.getD i false) (i:=j) l.length hjl hun
       omega
     unfold gT at hst2
     rw [←c1, ← c2] at hst2
     exact hst.of (by simpa using hoj) hst2 next
 have hrep: ∀i,(Array.replicate l.toArray.size false).getD i false=false:=fun i=>by
  simp only [JM,Array.getElem?_replicate];split<;>rfl
 have h0:=main l.toArray.size (Array.replicate l.toArray.size false) (fun _=>undef) w.drew (by simp) (Below.refl _ _)
  (fun i hi=>by rw [hrep] at hi;cases hi) (fun j i hj=>by rw [hrep] at hj;cases hj) (fun i _=>hrep i) (fun i j hi=>by rw [hrep] at hi;cases hi) (pY _)
 have e:bX (fun i=>(Array.replicate l.toArray.size false).getD i false) (fun _=>undef) l 0 a=a:=by
  have: ∀(l':List Oper) k,bX (fun i=>(Array.replicate l.toArray.size false).getD i false) (fun _=>undef) l' k a=a:=by
   intro l'
   induction l' with
   | nil=>intro k;rfl
   | cons o l' ih=>intro k;rw [bX,hrep];exact ih (k+1)
  exact this l 0
 rw [e] at h0
 exact h0
theorem B9 (Q:Exit→Act→World→Prop) (l:List Oper):lO P l.toArray Q=fun k=>qq (wpOp P l.toArray Q) (Q .normal) (List.range' k (l.length - k)):=by
 funext k;rw [lO,xZ];simp only [Jo]
theorem iF {Q:Exit→Act→World→Prop} {a:Act} {w:World} {l:List Oper} (L:List Spec) (fr:Nat→Bool) (hfr: ∀i v w,fr i=true→(bA L i).p v w→ ∀b,cw v=some b→b<w.heap.size) (m0:Nat) (hB:fj l.toArray m0=true)
  (h:gn P l.toArray L fr w.drew (lO P l.toArray Q) (l.take m0) 0 (fun _=>a)):wpAny P .any l.toArray Q l.toArray.size (Array.replicate l.toArray.size false) a w.drew:=
 xU _ _ _ _ (mv L fr hfr m0 (CR Q) hB (by rw [←B9];exact h))
theorem nq {Q:Exit→Act→World→Prop} {a:Act} {w:World} {l:List Oper} (L:List Spec) (m0:Nat) (hB:fj l.toArray m0=true)
  (h:kk P l.toArray L w.drew (lO P l.toArray Q) (l.take m0) 0 (fun _=>a)):wpAny P .any l.toArray Q l.toArray.size (Array.replicate l.toArray.size false) a w.drew:=
 iF L (fun _=>false) (fun i v w h=>by cases h) m0 hB (oJ _ _ _ h)
end
end Go.Proofs.YtldnlbcibmmbbaaGreat
/-! The abstract walk: regions that draw their order, whose last operations come one behind the other. -/
namespace Go.Proofs.YtldnlbcibmmbbaaGreat
open Go.RowKit
section
variable {D:Nat→Prop} {nu:Nat→Nat→Value} {o:List (Option ab)} {w:World} {P:Program}
def mz (P:Program) (all:List Oper) (oo:Oper) (s:AS) (K:AS→Prop):Prop:=match oo.guard with
 | none=>tq P oo.op s (fun r o'=>K (s.put oo.dst r o'))
 | some (j,want)=>nU (gz all s j) want (tq P oo.op s (fun r o'=>K (s.put oo.dst r o'))) (K (s.put oo.dst (.v Go.undef) s.o))
def er (P:Program) (all:List Oper):List Oper→AS→(AS→Prop)→Prop
 | [],s,Q=>Q s
 | oo :: rest,s,Q=>mz P all oo s (fun s'=>er P all rest s' Q)
def dG (P:Program) (all:List Oper) (B:AS→Prop):List Oper→AS→Prop
 | [],s=>B s
 | oo :: rest,s=>match oo.guard with
  | none=>cK P oo.op s (fun r=>dG P all B rest (s.put oo.dst r s.o))
  | some (j,want)=>nU (gz all s j) want (cK P oo.op s (fun r=>dG P all B rest (s.put oo.dst r s.o))) (dG P all B rest (s.put oo.dst (.v Go.undef) s.o))
abbrev lX (P:Program) (all tail:List Oper) (l:List Oper) (s:AS) (Q:AS→Prop):Prop:=dG P all (fun s=>er P all tail s Q) l s
theorem iZ {f:Fr} {l:List Oper} {R:Exit→Act→World→Prop}: ∀(tail:List Oper) (k:Nat) (s:AS) (a:Act) (w:World) (nu:Nat→Nat→Value),l.drop k=tail→k≤l.length→RS f D nu s a w→ ∀ {Q:AS→Prop},er P l tail s Q →
  (∀s' a' w' nu',bp nu s.o w nu' s'.o w'→s'.y=s.y→RS f D nu' s' a' w'→Q s'→R .normal a' w')→wpOps P l.toArray R (List.range' k (l.length - k)) a w
 | [],k,s,a,w,nu,hl,hk,hs,Q,h,hR=>by
  have e:k=l.length:=by have:=congrArg List.length hl;simp at this;omega
  subst e
  rw [J8]
  simpa [wpOps] using hR s a w nu (.refl _ _ _) rfl hs h
 | oo :: rest,k,s,a,w,nu,hl,hk,hs,Q,h,hR=>by
  have hlt:k<l.length:=by have:=congrArg List.length hl;simp at this;omega
  have hok:l[k]? = some oo:=by have:=congrArg (fun m=>m[0]?) hl;simpa using this
  have hl':l.drop (k+1)=rest:=by have:=congrArg List.tail hl;simpa using this
  have e:l.length - k=(l.length - (k+1))+1:=by omega
  rw [e,List.range'_succ,wpOps_cons]
  unfold wpOp
  simp only [Jg,hok]
  have hdo:tq P oo.op s (fun r o'=>er P l rest (s.put oo.dst r o') Q)→Region.wanted oo (yielded l.toArray a.tmps)=true→(if Region.wanted oo (yielded l.toArray a.tmps)=true then oo.wp P a w (wpOps P l.toArray R (List.range' (k+1) (l.length - (k+1)))) R∨oo.asks P a w∧LetsOut R else wpOps P l.toArray R (List.range' (k+1) (l.length - (k+1))) (a.put oo.dst Go.undef) w):=by
   intro hd hw
   rw [if_pos hw]
   exact .inl (nZ (P:=P) hs.ro (fun y _=>hs.ev y) hd (fun v w' nu' r o' m1 m2 m3 m4=>iZ rest (k+1) (s.put oo.dst r o') _ w' nu' hl' hlt (hs.put m1 m2 m3 oo.dst) m4 (fun s' a' w2 nu2 q1 q2 q3 q4=>hR s' a' w2 nu2 (by simpa only [AS.put] using m1.trans q1) (q2.trans rfl) q3 q4)))
  have hskip:er P l rest (s.put oo.dst (.v Go.undef) s.o) Q→Region.wanted oo (yielded l.toArray a.tmps)=false→(if Region.wanted oo (yielded l.toArray a.tmps)=true then oo.wp P a w (wpOps P l.toArray R (List.range' (k+1) (l.length - (k+1)))) R∨oo.asks P a w∧LetsOut R else wpOps P l.toArray R (List.range' (k+1) (l.length - (k+1))) (a.put oo.dst Go.undef) w):=by
   intro hd hw
   rw [if_neg (by rw [hw];decide)]
   exact iZ rest (k+1) (s.put oo.dst (.v Go.undef) s.o) _ w nu hl' hlt (hs.put (.refl _ _ _) hs.ro (.v _) oo.dst) hd (fun s' a' w2 nu2 q1 q2 q3 q4=>hR s' a' w2 nu2 (by simpa only [AS.put] using q1) (q2.trans rfl) q3 q4)
  simp only [er,mz] at h
  split at h
  ·rename_i hg
   exact hdo h (by simp [Region.wanted,hg])
  ·rename_i j want hg
   have hyv: ∀g,gz l s j=some g→yielded l.toArray a.tmps j=g:=fun g hgv=>ej (D:=D) (nu:=nu) (w:=w) (fun d c v hd h1 h2=>hs.tm.bA d c v h1 h2) hs.tm.len hgv
   unfold nU at h
   split at h
   ·rename_i b e
    cases hb:b==want
    ·rw [hb] at h
     exact hskip h (by simp only [Region.wanted,hg,hyv _ e];simpa using hb)
    ·rw [hb] at h
     exact hdo h (by simp only [Region.wanted,hg,hyv _ e];simpa using hb)
   ·rename_i e
    exact hskip h (by simp only [Region.wanted,hg,hyv _ e];rfl)
   ·exact h.elim
theorem qg {l:List Oper} {m0:Nat} (hB:fj l.toArray m0=true) {i j:Nat} {oi oj:Oper} (hij:i<j) (hi:l[i]? = some oi) (hj:l[j]? = some oj) (hjm:j<m0):ay l.toArray j i=true∨ ∀d,oi.dst=some d→d∉oj.looksAt l.toArray:=by
 simp only [fj,JL,J2,J3,Jo] at hB
 have hjn:=(I0.1 hj).1
 have:=(hB.1.2 j hjn).1 i hij
 simp only [tQ,Jg,hi,hj,JL,J4,Bool.not_eq_true',decide_eq_true_eq] at this
 rcases this.1.1.1 with (h|h)|h
 ·omega
 ·exact .inl h
 ·exact .inr (Oper.apart_spec h).1
theorem jU {f:Fr} {l:List Oper} {m0:Nat} (hm0:m0≤l.length) (hB:fj l.toArray m0=true) {s:AS} {a:Act} {w0:World} {B:AS→Prop} {T:Nat→Act→World→Prop} (hs:RS f D nu s a w0)
  (hT: ∀sk a' wr,Below w0.heap.size w0 wr→sk.o=s.o→sk.y=s.y→RS f D nu sk a' wr→B sk→T m0 a' wr) :
  ∀(rest:List Oper) (k:Nat) (sk:AS) (rs:List AV) (A:(Nat→Value)→Act),(l.take m0).drop k=rest→k≤m0→DInv l s a k sk rs A→dG P l B rest sk→ ∃rs',kk P l.toArray ((rs++rs').map (bV D nu s.o)) w0 T rest k A
 | [],k,sk,rs,A,hl,hk,hI,h=>by
  have hkm:k=m0:=by have:=congrArg List.length hl;simp at this;omega
  subst hkm
  refine ⟨[],fun x wr hE hD=> ?_⟩
  have hro:RO D nu s.o wr:=hs.ro.below hE
  have hsk:RS f D nu sk (A x) wr:=by
   refine ⟨by rw [hI.o];exact hro,⟨hI.size x,fun t c v h1 h2=> ?_⟩,by rw [hI.fR x];exact hs.fR.mono hs.ro (ax hE)⟩
   rw [hI.o]
   rcases hI.val x t c v h1 h2 with ⟨h3,h4⟩|⟨i,q1,q2,q3,q4⟩
   ·exact (hs.tm.bA t c v h3 h4).mono (ax hE) (fun _ _ h=>h)
   ·have:=hD i q1
    rw [gS q3] at this
    rw [q4];exact this.2
  exact hT sk (A x) wr hE hI.o hI.y hsk h
 | oo :: rest,k,sk,rs,A,hl,hk,hI,h=>by
  have hkm:k<m0:=by have:=congrArg List.length hl;simp at this;omega
  have hok:l[k]? = some oo:=by
   have:=congrArg (fun m=>m[0]?) hl
   simp only [List.getElem?_drop,Nat.add_zero,Kd] at this
   rwa [Js hkm] at this
  have hl':(l.take m0).drop (k+1)=rest:=by have:=congrArg List.tail hl;simpa using this
  
  have hlook: ∀x wr,Below w0.heap.size w0 wr→(∀rs' i,ay l.toArray k i=true→i<k→(bA ((rs++rs').map (bV D nu s.o)) i).p (x i) wr)→ ∀(t:Nat) c v,t∈oo.looksAt l.toArray→sk.t[t]? = some c→(A x).tmps[t]? = some v→RA D nu s.o wr c v:=by
   intro x wr hE hD t c v ht h1 h2
   rcases hI.val x t c v h1 h2 with ⟨h3,h4⟩|⟨i,q1,⟨oi,q2,q5⟩,q3,q4⟩
   ·exact (hs.tm.bA t c v h3 h4).mono (ax hE) (fun _ _ h=>h)
   ·rcases qg hB q1 q2 hok hkm with h5|h5
    ·have:=hD [] i h5 q1
     rw [gS q3] at this
     rw [q4];exact this.2
    ·exact absurd ht (h5 t q5)
  have hevs: ∀x wr,Below w0.heap.size w0 wr→(∀rs' i,ay l.toArray k i=true→i<k→(bA ((rs++rs').map (bV D nu s.o)) i).p (x i) wr)→zJ D nu s.o wr sk.ev (A x).eval oo.op:=by
   intro x wr hE hD y hy
   cases y with
   | tmp t=>
    simp only [AS.ev,Act.eval]
    rcases I2 t sk.t.length with hlt|hge
    ·have e1:sk.t[t]? = some sk.t[t]:=Je hlt
     have hlt':t<(A x).tmps.size:=by rw [←hI.size x];exact hlt
     have hx:(A x).tmps[t]? = some (A x).tmps[t]:=Jd hlt'
     rw [getD_some e1]
     have:(A x).tmps.getD t Go.undef=(A x).tmps[t]:=by simp [Array.getD,hlt']
     rw [this]
     exact hlook x wr hE hD t _ _ (List.mem_append_left _ (List.mem_filterMap.2 ⟨.tmp t,hy,rfl⟩)) e1 hx
    ·rw [List.getD_eq_getElem?_getD,List.getElem?_eq_none hge]
     exact .undef _
   | const v=>exact .v v
   | global gi=>exact (j2 hs.ro sk gi).mono (ax hE) (fun _ _ h=>h)
   | func f=>exact .fn f [] [] #[] #[] rfl rfl (fun i c x h=>by simp at h) (fun i c x h=>by simp at h)
  
  have hdo:cK P oo.op sk (fun r=>dG P l B rest (sk.put oo.dst r sk.o))→(∀x wr,Below w0.heap.size w0 wr→(∀rs' i,ay l.toArray k i=true→i<k→(bA ((rs++rs').map (bV D nu s.o)) i).p (x i) wr)→Region.wanted oo (yielded l.toArray (A x).tmps)=true) →
    ∃rs',kk P l.toArray ((rs++rs').map (bV D nu s.o)) w0 T (oo :: rest) k A:=by
   intro hd hw
   obtain ⟨r,hk',hr⟩:=gd hd
   rw [hI.o] at hk'
   obtain ⟨rs',hrel⟩:=jU hm0 hB hs hT rest (k+1) _ (rs++[r]) _ hl' hkm (hI.step hok r) hk'
   rw [List.append_assoc,JY] at hrel
   refine ⟨r :: rs',⟨(fun x wr hE hD=> ?_),hrel⟩⟩
   have hD': ∀rs'' i,ay l.toArray k i=true→i<k→(bA ((rs++rs'').map (bV D nu s.o)) i).p (x i) wr:=fun rs'' i h1 h2=>by
    have h3:=hD i h1
    have h5:i<rs.length:=by rw [hI.len];exact h2
    have h4:rs[i]? = some rs[i]:=Je h5
    rw [gS h4] at h3 ⊢
    exact h3
   obtain ⟨r',rfl,hout⟩:=iE (P:=P) (nu:=nu) (D:=D) (w:=wr) (rho:=(A x).eval) (by rw [hI.o];exact hs.ro.below hE) (by rw [hI.o];exact hevs x wr hE hD') hr
   have e:=gZ (D:=D) (nu:=nu) (o:=s.o) (rs:=rs) (rs':=rs') (r:=r')
   rw [hI.len] at e
   refine .inl ⟨hw x wr hE hD', ?_⟩
   rw [e]
   rw [hI.o] at hout
   exact hout
  simp only [dG] at h
  split at h
  ·rename_i hg
   exact hdo h (fun x wr hE hD=>by simp [Region.wanted,hg])
  ·rename_i j want hg
   have hyv: ∀g,gz l sk j=some g→ ∀x wr,Below w0.heap.size w0 wr→(∀rs' i,ay l.toArray k i=true→i<k→(bA ((rs++rs').map (bV D nu s.o)) i).p (x i) wr)→yielded l.toArray (A x).tmps j=g:=fun g hgv x wr hE hD=>
    ej (D:=D) (nu:=nu) (w:=wr) (fun d c v hd h1 h2=>by
     rw [hI.o]
     refine hlook x wr hE hD d c v ?_ h1 h2
     obtain ⟨og,q1,q2⟩:=hd
     refine List.mem_append_right _ ?_
     simp only [hg,Jg,q1,Option.bind_some,q2]
     simp) (hI.size x) hgv
   have hskip:dG P l B rest (sk.put oo.dst (.v Go.undef) sk.o)→(∀x wr,Below w0.heap.size w0 wr→(∀rs' i,ay l.toArray k i=true→i<k→(bA ((rs++rs').map (bV D nu s.o)) i).p (x i) wr)→Region.wanted oo (yielded l.toArray (A x).tmps)=false) →
     ∃rs',kk P l.toArray ((rs++rs').map (bV D nu s.o)) w0 T (oo :: rest) k A:=by
    intro hk' hw
    rw [hI.o] at hk'
    obtain ⟨rs',hrel⟩:=jU hm0 hB hs hT rest (k+1) _ (rs++[.v Go.undef]) _ hl' hkm (hI.step hok (.v Go.undef)) hk'
    rw [List.append_assoc,JY] at hrel
    refine ⟨.v Go.undef :: rs',⟨(fun x wr hE hD=> ?_),hrel⟩⟩
    have hD': ∀rs'' i,ay l.toArray k i=true→i<k→(bA ((rs++rs'').map (bV D nu s.o)) i).p (x i) wr:=fun rs'' i h1 h2=>by
     have h3:=hD i h1
     have h5:i<rs.length:=by rw [hI.len];exact h2
     have h4:rs[i]? = some rs[i]:=Je h5
     rw [gS h4] at h3 ⊢
     exact h3
    have e:=gZ (D:=D) (nu:=nu) (o:=s.o) (rs:=rs) (rs':=rs') (r:= .v Go.undef)
    rw [hI.len] at e
    refine .inr ⟨hw x wr hE hD', ?_⟩
    rw [e]
    exact ⟨hs.ro.below hE, .v _⟩
   unfold nU at h
   split at h
   ·rename_i b e
    cases hb:b==want
    ·rw [hb] at h
     exact hskip h (fun x wr hE hD=>by simp only [Region.wanted,hg,hyv _ e x wr hE hD];simpa using hb)
    ·rw [hb] at h
     exact hdo h (fun x wr hE hD=>by simp only [Region.wanted,hg,hyv _ e x wr hE hD];simpa using hb)
   ·rename_i e
    exact hskip h (fun x wr hE hD=>by simp only [Region.wanted,hg,hyv _ e x wr hE hD];rfl)
   ·exact h.elim
theorem qJ {op:Op} {s:AS} {K K':AV→Prop} (h: ∀r,K r→K' r) (hd:cK P op s K):cK P op s K':=by
 obtain ⟨r,hk,hr⟩:=gd hd
 have key: ∀r',r'=r→K' r':=fun r' e=>e ▸ h r hk
 unfold cK at hr ⊢
 split at hr
 ·split at hr
  ·unfold aO at hr ⊢
   split at hr
   ·rename_i hb;rw [if_pos hb];exact key _ hr
   ·rename_i hb;rw [if_neg hb];exact key _ hr
  ·exact hr.elim
 ·split at hr
  ·unfold vE at hr ⊢
   split at hr
   ·obtain ⟨r',q1,q2⟩:=hr
    exact ⟨r',q1,key _ q2⟩
   ·exact hr.elim
  ·unfold xr at hr ⊢
   split at hr
   ·exact ⟨hr.1,key _ hr.2⟩
   ·exact hr.elim
 ·unfold xr at hr ⊢
  split at hr
  ·exact ⟨hr.1,key _ hr.2⟩
  ·exact hr.elim
theorem zg {n0 id:Nat} {s:AS} {l:List Oper} {Q:aH→AS→Prop} (m0:Nat) (hB:fj l.toArray m0=true) (hC:gO l.toArray=true) (h:lX P l (l.drop m0) (l.take m0) s (Q .normal)):bZ P n0 (.region id l.toArray true) s Q:=by
 refine .inr (fun f m D nu a w hZr hn hm hs hmx R hO hR=> ?_)
 have hm0:m0≤l.length:=by
  simp only [fj,JL,decide_eq_true_eq,Jo] at hB
  exact Kg hB.1.1.2
 obtain ⟨rs,hrel⟩:=jU (P:=P) (T:=lO P l.toArray R) hm0 hB hs.drew (fun sk a' wr hE ho hy hsk hB'=>iZ (P:=P) (f:=f) (l:=l) (R:=R) (l.drop m0) m0 sk a' wr nu rfl hm0 hsk hB' (fun s' a2 w' nu' q1 q2 q3 q4=>hR .normal D f.Z s' a2 w' nu' (by
  rw [q2,hy];exact m.own hm hs.ro ((ax (b6 w)).trans ((ax hE).trans (ho ▸ q1))) q3.ro) q3 q4)) (l.take m0) 0 s [] (fun _=>a) (by simp) (Nat.zero_le _) ⟨rfl,rfl,rfl,fun _=>rfl,fun _=>hs.tm.len,fun x t c v h1 h2=> .inl ⟨h1,h2⟩⟩ h
 exact jR hmx hC hO (nq _ m0 hB hrel)
/-! ### the tail may call yield -/
/-! ### by itself: the tail begins at the first operation that turns memory -/
def oz:Op→Bool
 | .alloc _| .store .. | .mapUpdate .. | .insert .. | .makeSlice .. | .makeMap .. =>true
 | .call c=>match c.callee with
  | .builtin .append| .builtin .copy| .builtin .delete| .builtin .clear=>true
  | _=>false
 | _=>false
def mL:List Oper→Nat
 | []=>0
 | o :: l=>if oz o.op then 0 else mL l+1
def dU (P:Program) (all:List Oper):List Oper→AS→(AS→Prop)→Prop
 | [],s,Q=>Q s
 | oo :: rest,s,Q=>if oz oo.op then er P all (oo :: rest) s Q else db P all oo s (fun s'=>dU P all rest s' Q)
theorem jD (all:List Oper): ∀(l:List Oper) (s:AS) (Q:AS→Prop),dU P all l s Q→lX P all (l.drop (mL l)) (l.take (mL l)) s Q
 | [],s,Q,h=>h
 | oo :: rest,s,Q,h=>by
  simp only [dU] at h
  by_cases he:oz oo.op=true
  ·rw [if_pos he] at h
   simpa only [mL,he,if_true,List.drop_zero,List.take_zero,lX,dG] using h
  ·rw [if_neg he] at h
   simp only [mL,he,if_false,List.drop_succ_cons,List.take_succ_cons,lX,dG,Bool.false_eq_true]
   unfold db at h
   split at h
   ·rename_i hg
    simp only [hg]
    exact qJ (fun r hr=>jD all rest _ Q hr) h
   ·rename_i j want hg
    simp only [hg]
    unfold nU at h ⊢
    split at h
    ·rename_i b e
     unfold aO at h ⊢
     split at h
     ·rename_i hb;rw [if_pos hb];exact qJ (fun r hr=>jD all rest _ Q hr) h
     ·rename_i hb;rw [if_neg hb];exact jD all rest _ Q h
    ·rename_i e
     exact jD all rest _ Q h
    ·exact h.elim
theorem zq {n0 id:Nat} {s:AS} {l:List Oper} {Q:aH→AS→Prop} (hB:fj l.toArray (mL l)=true) (hC:gO l.toArray=true) (h:dU P l l s (Q .normal)):bZ P n0 (.region id l.toArray true) s Q:=
 zg (mL l) hB hC (jD l l s _ h)
theorem z9 {all rest:List Oper} {oo:Oper} {s:AS} {Q:AS→Prop} (he:oz oo.op=false) (h: ∀K:AS→Prop,(∀s',dU P all rest s' Q→K s')→db P all oo s K):dU P all (oo :: rest) s Q:=by
 simp only [dU,he,Bool.false_eq_true,if_false]
 exact h _ (fun _ h=>h)
theorem wi {all rest:List Oper} {oo:Oper} {s:AS} {Q:AS→Prop} (he:oz oo.op=true) (h:er P all (oo :: rest) s Q):dU P all (oo :: rest) s Q:=by
 simpa only [dU,he,if_true] using h
theorem vi {all:List Oper} {s:AS} {Q:AS→Prop} (h:Q s):dU P all [] s Q:=h
theorem Cj {all rest:List Oper} {oo:Oper} {s:AS} {Q:AS→Prop} (h: ∀K:AS→Prop,(∀s',er P all rest s' Q→K s')→mz P all oo s K):er P all (oo :: rest) s Q:=h _ (fun _ h=>h)
theorem yN {all:List Oper} {s:AS} {Q:AS→Prop} (h:Q s):er P all [] s Q:=h
theorem vK {all tail:List Oper} {s:AS} {Q:AS→Prop} (h:er P all tail s Q):lX P all tail [] s Q:=h
@[go_sem] theorem BV (all:List Oper) (dst:Option Tmp) (op:Op) (ty:TypeId) (pos:String) (aft:Array Edge) (s:AS) (K:AS→Prop) :
  mz P all ⟨dst,op,ty,pos,aft,none⟩ s K=tq P op s (fun r o'=>K (s.put dst r o')):=rfl
@[go_sem] theorem Cq (all:List Oper) (dst:Option Tmp) (op:Op) (ty:TypeId) (pos:String) (aft:Array Edge) (j:Nat) (want:Bool) (s:AS) (K:AS→Prop) :
  mz P all ⟨dst,op,ty,pos,aft,some (j,want)⟩ s K=nU (gz all s j) want (tq P op s (fun r o'=>K (s.put dst r o'))) (K (s.put dst (.v Go.undef) s.o)):=rfl
end
end Go.Proofs.YtldnlbcibmmbbaaGreat
/-! The abstract walk: its rules, found by the form of what is asked. -/
namespace Go.Proofs.YtldnlbcibmmbbaaGreat
open Go.RowKit
class ah (G:Prop) (H:outParam Prop):Prop where
 up:H→G
section
variable {P:Program} {all rest tail:List Oper} {n0:Nat} {s:AS} {Q:aH→AS→Prop} {R K:AS→Prop} {oo o2:Oper} {i:Nat} {c d:Code} {x:Operand} {l:List Oper} {bx:List Bx} {k:Nat}
theorem zW {B:AS→Prop} (h: ∀K:AS→Prop,(∀s',dG P all B rest s'→K s')→db P all oo s K):dG P all B (oo :: rest) s:=by
 have:=h _ (fun _ h=>h)
 unfold db at this
 simp only [dG]
 split at this<;>simp_all
instance {B:AS→Prop}:ah (dG P all B (oo :: rest) s) (∀K:AS→Prop,(∀s',dG P all B rest s'→K s')→db P all oo s K):=⟨zW⟩
instance:ah (dG P all (fun s=>jw P all tail s R) [] s) (jw P all tail s R):=⟨fun h=>h⟩
instance:ah (jw P all [] s R) (R s):=⟨zX⟩
instance:ah (jw P all (oo :: rest) s R) (∀K:AS→Prop,(∀s',jw P all rest s' R→K s')→rC P all oo s K):=⟨DH⟩
instance {dst:Option Tmp} {op:Op} {ty:TypeId} {pos:String} {aft:Array Edge}:ah (dJ P all [⟨dst,op,ty,pos,aft,none⟩] s R) (∀K:AS→Prop,(∀s',R s'→K s')→tq P op s (fun r o'=>K (s.put dst r o'))):=⟨wQ⟩
instance:ah (dJ P all (oo :: o2 :: rest) s R) (∀K:AS→Prop,(∀s',dJ P all (o2 :: rest) s' R→K s')→db P all oo s K):=⟨B6⟩
instance:ah (bZ P n0 (.seq c d) s Q) (∀K:AS→Prop,(∀s',bZ P n0 d s' Q→K s')→bZ P n0 c s (jv K Q)):=⟨Bw⟩
instance:ah (bZ P n0 (.region i l.toArray false) s Q) (jw P l l s (Q .normal)):=⟨vX⟩
instance:ah (bZ P n0 .skip s Q) (Q .normal s):=⟨A5⟩
instance:ah (bZ P n0 (.block i c) s Q) (bZ P n0 c s (r6 i Q)):=⟨zI⟩
instance:ah (bZ P n0 (.cond x c d) s Q) (vo (s.ev x) (bZ P n0 c s Q) (bZ P n0 d s Q)):=⟨A7⟩
instance:ah (bZ P n0 (.exit i) s Q) (Q (.exit i) s):=⟨Br⟩
instance:ah (bZ P n0 .ret s Q) (Q .ret s):=⟨Cs⟩
instance:ah (bZ P n0 (.scope c) s Q) (bZ P n0 c s (uO Q)):=⟨zE⟩
instance:ah (bZ P n0 (.label i) s Q) (Q .normal s):=⟨yF⟩
instance:ah (bZ P n0 (.goto i) s Q) (Q (.goto i) s):=⟨Ad⟩
instance:ah (jv K Q .normal s) (K s):=⟨uD⟩
instance:ah (jv K Q (.exit i) s) (Q (.exit i) s):=⟨zn⟩
instance:ah (jv K Q .ret s) (Q .ret s):=⟨Ar⟩
instance:ah (jv K Q (.goto i) s) (Q (.goto i) s):=⟨yn⟩
instance:ah (r6 i Q .normal s) (Q .normal s):=⟨ts⟩
instance:ah (r6 i Q .ret s) (Q .ret s):=⟨At⟩
instance:ah (r6 i Q (.goto k) s) (Q (.goto k) s):=⟨ym⟩
instance:ah (r6 i Q (.exit k) s) (if k=i then Q .normal s else Q (.exit k) s):=⟨fun h=>h⟩
instance:ah (uO Q .normal s) (Q .normal s):=⟨ub⟩
instance:ah (uO Q .ret s) (Q .ret s):=⟨Aj⟩
instance:ah (uO Q (.exit i) s) (Q (.exit i) s):=⟨yV⟩
instance:ah (dU P all [] s R) (R s):=⟨vi⟩
instance:ah (er P all [] s R) (R s):=⟨yN⟩
instance:ah (er P all (oo :: rest) s R) (∀K:AS→Prop,(∀s',er P all rest s' R→K s')→mz P all oo s K):=⟨Cj⟩
instance:ah (lX P all tail [] s R) (er P all tail s R):=⟨vK⟩
instance:ah (gC P all [] k s bx R) (bx.all (fun b=>b.row.isSome)=true∧R (eF s bx)):=⟨zT⟩
end
theorem wE {P:Program} {n0 id:Nat} {s:AS} {l:List Oper} {Q:aH→AS→Prop} (h:dU P l l s (Q .normal)) (hB:fj l.toArray (mL l)=true:=by decide+kernel) (hC:gO l.toArray=true:=by kernel_rfl):bZ P n0 (.region id l.toArray true) s Q:=zq hB hC h
theorem wK {P:Program} {all rest:List Oper} {oo:Oper} {s:AS} {Q:AS→Prop} (h: ∀K:AS→Prop,(∀s',dU P all rest s' Q→K s')→db P all oo s K) (he:oz oo.op=false:=by decide):dU P all (oo :: rest) s Q:=z9 he h
theorem wF {P:Program} {all rest:List Oper} {oo:Oper} {s:AS} {Q:AS→Prop} (h:er P all (oo :: rest) s Q) (he:oz oo.op=true:=by decide):dU P all (oo :: rest) s Q:=wi he h
end Go.Proofs.YtldnlbcibmmbbaaGreat
