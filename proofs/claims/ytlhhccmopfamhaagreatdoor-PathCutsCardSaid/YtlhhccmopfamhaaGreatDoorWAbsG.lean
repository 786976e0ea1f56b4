/- texts of one claim, one behind the other. -/
import Derived.Still
import Derived.Tactics
import Derived.KernelRfl
import Derived.StillTactics
import Derived.Test.YtlhhccmopfamhaaGreatDoorWBase2
import Derived.RangeFuncNested
import Derived.RangeFuncLeaves
import Derived.RangeFuncRecord
import Derived.Laws.CopyRow
import Derived.Laws.BytesArg
set_option linter.unusedSimpArgs false
set_option linter.unusedVariables false
set_option maxRecDepth 100000
set_option maxHeartbeats 16000000
open Array renaming all_eq_true_iff_forall_mem -> TZ, getD_eq_getD_getElem? -> T0, getElem?_eq_getElem -> Tm, getElem?_extract -> TO, getElem?_eq_some_iff -> S5, getElem?_modify -> T4, getElem?_map -> T5, mem_of_getElem? -> T6, getElem?_append_left -> TJ, getElem?_append_right -> T7
open Bool renaming and_eq_true -> TY
open List renaming getElem?_eq_some_iff -> S7, getElem?_toArray -> Tp, getElem?_eq_none -> Tt, length_map -> T1, getD_eq_getElem?_getD -> T3, getElem?_eq_getElem -> Tn, getElem?_map -> Tq, eq_nil_of_length_eq_zero -> TL, getElem?_set_self -> Tw, getElem?_set_ne -> Tv, mem_of_getElem? -> TI, getElem?_append_left -> S8, getElem?_append_right -> TD, mem_cons_of_mem -> T8
open Nat renaming le_refl -> SY, zero_add -> TX, lt_or_ge -> S9
open Option renaming map_some -> TG
open Option.some renaming injEq -> Ti
open Prod.mk renaming injEq -> Tj
namespace Go.Proofs.YtlhhccmopfamhaaGreatDoor
open Go.RowKit
section
structure Spec where
 p:Value->World->Prop
 st: ∀v w w',Below w.heap.size w w'->p v w->p v w'
def Spec.any:Spec:=⟨fun _ _=>True,fun _ _ _ _ _=>trivial⟩
def at' (L:List Spec) (i:Nat):Spec:=L.getD i Spec.any
section
variable {P:Program} {ops:Array Oper}
def bJ (s:Nat->Bool) (i:Nat):Nat->Bool:=fun j=>if j=i then true else s j
def gj (x:Nat->Value) (i:Nat) (v:Value):Nat->Value:=fun j=>if j=i then v else x j
def cG (s:Nat->Bool) (x:Nat->Value):List Oper->Nat->Act->Act
 | [],_,a=>a
 | o :: l,k,a=>cG s x l (k+1) (if s k then a.put o.dst (x k) else a)
theorem br {s s':Nat->Bool} {x x':Nat->Value}: ∀(l:List Oper) (k:Nat) (a:Act),(∀i,k<=i->i<k+l.length->s i=s' i∧(s i=true->x i=x' i))->cG s x l k a=cG s' x' l k a
 | [],_,_,_=>rfl
 | o :: l,k,a,h=>by
  have h0:=h k (SY _) (by simp)
  have e:(if s k then a.put o.dst (x k) else a)=(if s' k then a.put o.dst (x' k) else a):=by
   rw [<-h0.1]
   cases hs:s k
   ·rfl
   ·simp [h0.2 hs]
  rw [cG,cG,e];exact br l (k+1) _ (fun i h1 h2=>h i (by omega) (by simp only [List.length_cons];omega))
theorem Bs {s:Nat->Bool} {x:Nat->Value} {d:Option Tmp} {v:Value}: ∀(l:List Oper) (k:Nat) (a:Act),(∀o∈l, ∀e,d=some e->o.dst≠some e)->cG s x l k (a.put d v)=(cG s x l k a).put d v
 | [],_,_,_=>rfl
 | o :: l,k,a,h=>by
  have e:(if s k then (a.put d v).put o.dst (x k) else a.put d v)=(if s k then a.put o.dst (x k) else a).put d v:=by
   split
   ·exact Act.put_comm a v (x k) (h o (by simp))
   ·rfl
  rw [cG,cG,e];exact Bs l (k+1) _ (fun o' ho=>h o' (by simp [ho]))
def jV (l:List Oper):Prop:= ∀(i j:Nat) (oi oj:Oper),l[i]? = some oi->l[j]? = some oj->i≠j-> ∀e,oi.dst=some e->oj.dst≠some e
theorem ix {s:Nat->Bool} {x:Nat->Value} {v:Value} {o:Oper}: ∀(l:List Oper) (k m:Nat) (a:Act),jV l->l[m]? = some o->s (k+m)=false->cG (bJ s (k+m)) (gj x (k+m) v) l k a=(cG s x l k a).put o.dst v
 | [],_,_,_,_,h,_=>by simp at h
 | o' :: l,k,0,a,hA,h,hs=>by
  obtain rfl:o'=o:=by simpa using h
  rw [cG,cG];simp only [Nat.add_zero] at hs ⊢
  have e:(if bJ s k k then a.put o'.dst (gj x k v k) else a)=a.put o'.dst v:=by simp [bJ,gj]
  have e2:(if s k then a.put o'.dst (x k) else a)=a:=by simp [hs]
  rw [e,e2,br (s:=bJ s k) (x:=gj x k v) (s':=s) (x':=x) l (k+1) _ (fun i h1 _=>by
   have:i≠k:=by omega
   simp [bJ,gj,this])]
  refine Bs l (k+1) a (fun o'' ho e he=> ?_);obtain ⟨j,hj⟩:=List.getElem?_of_mem ho;exact hA 0 (j+1) o' o'' (by simp) (by simpa using hj) (by omega) e he
 | o' :: l,k,m+1,a,hA,h,hs=>by
  have h1:k≠k+(m+1):=by omega
  rw [cG,cG]
  have e:(if bJ s (k+(m+1)) k then a.put o'.dst (gj x (k+(m+1)) v k) else a)=(if s k then a.put o'.dst (x k) else a):=by simp [bJ,gj]
  rw [e]
  have hk:k+(m+1)=k+1+m:=by omega
  rw [hk] at hs ⊢;exact ix l (k+1) m _ (fun i j oi oj hi hj hij=>hA (i+1) (j+1) oi oj (by simpa using hi) (by simpa using hj) (by omega)) (by simpa using h) hs
theorem ov {s keep:Nat->Bool} {x:Nat->Value} {l:List Oper} {a:Act} {oj:Oper} (hA:jV l) (hsel: ∀cs b,oj.op ≠ .select cs b)
  (h: ∀i oi,l[i]? = some oi->s i=true->keep i=false-> ∀d,oi.dst=some d->d∉oj.looksAt ops) :
  execOp (cG s x l 0 a).eval oj=execOp (cG (fun i=>s i&&keep i) x l 0 a).eval oj ∧
  Region.wanted oj (yielded ops (cG s x l 0 a).tmps)=Region.wanted oj (yielded ops (cG (fun i=>s i&&keep i) x l 0 a).tmps):=by
 have key: ∀t,t<=l.length->execOp (cG s x l 0 a).eval oj=execOp (cG (fun i=>s i&&(keep i||decide (t<=i))) x l 0 a).eval oj ∧
   Region.wanted oj (yielded ops (cG s x l 0 a).tmps)=Region.wanted oj (yielded ops (cG (fun i=>s i&&(keep i||decide (t<=i))) x l 0 a).tmps):=by
  intro t
  induction t with
  | zero=>
   intro _;rw [br (s:=fun i=>s i&&(keep i||decide (0<=i))) (s':=s) (x':=x) l 0 a (fun i _ _=>by simp)];exact ⟨rfl,rfl⟩
  | succ t ih=>
   intro ht;obtain ⟨e1,e2⟩:=ih (by omega);rw [e1,e2];have ho:l[t]? = some l[t]:=List.getElem?_eq_getElem (by omega)
   by_cases hc:s t=true∧keep t=false
   ·have hd:=h t _ ho hc.1 hc.2;have hi:=ix (s:=fun i=>s i&&(keep i||decide (t+1<=i))) (x:=x) (v:=x t) l 0 t a hA ho (by simp [hc.2]);rw [TX] at hi
    have hq:cG (bJ (fun i=>s i&&(keep i||decide (t+1<=i))) t) (gj x t (x t)) l 0 a=cG (fun i=>s i&&(keep i||decide (t<=i))) x l 0 a:=
     br l 0 a (fun i _ _=>by
      by_cases hit:i=t
      ·subst hit;simp [bJ,gj,hc.1]
      ·have:(t+1<=i)=(t<=i):=by apply propext;omega
       simp [bJ,gj,hit,this])
    rw [hq] at hi;rw [hi];exact ⟨execOp_put oj hsel _ _ _ hd,wanted_put oj _ _ _ hd⟩
   ·rw [br (s:=fun i=>s i&&(keep i||decide (t<=i))) (s':=fun i=>s i&&(keep i||decide (t+1<=i))) (x':=x) l 0 a (fun i _ _=>by
     refine ⟨?_,fun _=>rfl⟩
     by_cases hit:i=t
     ·subst hit
      cases h1:s i
      ·simp
      ·cases h2:keep i
       ·exact absurd ⟨h1,h2⟩ hc
       ·simp
     ·have:(t+1<=i)=(t<=i):=by apply propext;omega
      simp [this])]
    exact ⟨rfl,rfl⟩
 have:=key l.length (SY _)
 rw [br (s:=fun i=>s i&&(keep i||decide (l.length<=i))) (s':=fun i=>s i&&keep i) (x':=x) l 0 a (fun i _ h=>by
  have: ¬l.length<=i:=by omega
  simp [this])] at this
 exact this
def Hm (P:Program) (S:Spec) (w:World):Result Next->Prop
 | .ok (.value u) w'=>S.p u w'∧Below w.heap.size w w'
 | .ok .skip w'=>S.p undef w'∧Below w.heap.size w w'
 | .ok (.enter f args) w'=>Calls P f args w' (fun e w''=> ∃v,e = .returned v∧S.p v w''∧Below w.heap.size w w'')
 | _=>False
def jK (P:Program) (ops:Array Oper) (S:Spec) (o:Oper) (a:Act) (w:World):Prop:=
 (Region.wanted o (yielded ops a.tmps)=true∧Hm P S w ((execOp a.eval o).run P w))∨(Region.wanted o (yielded ops a.tmps)=false∧S.p undef w)
def az (ops:Array Oper) (j i:Nat):Bool:=match ops[j]? with|some o=>o.after.any (fun e=>Region.binds .any e&&e.on==i)|none=>false
def jB (P:Program) (ops:Array Oper) (L:List Spec) (w0:World) (Q:Exit->Act->World->Prop):List Oper->Nat->((Nat->Value)->Act)->Prop
 | [],_,_=>False
 | [o],k,A=> ∀x w,Below w0.heap.size w0 w->(∀i,i<k->(at' L i).p (x i) w)->Region.wanted o (yielded ops (A x).tmps)=true∧o.wp P (A x) w (fun a' w'=>Q .normal a' w') Q
 | o :: l,k,A=>(∀x w,Below w0.heap.size w0 w->(∀i,az ops k i=true->(at' L i).p (x i) w)->jK P ops (at' L k) o (A x) w)∧jB P ops L w0 Q l (k+1) (fun x=>(A x).put o.dst (x k))
theorem pc {L:List Spec} {w0:World} {Q:Exit->Act->World->Prop} {o o2:Oper} {l:List Oper} {k:Nat} {A:(Nat->Value)->Act}
  (h: ∀x w,Below w0.heap.size w0 w->(∀i,az ops k i=true->(at' L i).p (x i) w)->jK P ops (at' L k) o (A x) w) (h2:jB P ops L w0 Q (o2 :: l) (k+1) (fun x=>(A x).put o.dst (x k))):jB P ops L w0 Q (o :: o2 :: l) k A:=⟨h,h2⟩
theorem xK {L:List Spec} {w0:World} {Q:Exit->Act->World->Prop} {o:Oper} {k:Nat} {A:(Nat->Value)->Act}
  (h: ∀x w,Below w0.heap.size w0 w->(∀i,i<k->(at' L i).p (x i) w)->Region.wanted o (yielded ops (A x).tmps)=true∧o.wp P (A x) w (fun a' w'=>Q .normal a' w') Q):jB P ops L w0 Q [o] k A:=h
def FY (ops:Array Oper) (i j:Nat):Bool:=
 match ops[i]?,ops[j]? with
 | some oi,some oj=>(az ops j i||oi.apart ops oj) && !az ops i j&&(match oi.dst with|some d=>oj.dst !=some d|none=>true)&&(match oj.dst with|some d=> !(oi.looksAt ops).contains d|none=>true)
 | _,_=>true
def zj (ops:Array Oper) (j:Nat):Bool:=match ops[j]? with|some o=>o.after.all (fun e=>decide (e.on<ops.size))|none=>true
def xJ (ops:Array Oper):Bool:=
 Region.noSelect ops&&(List.range ops.size).all (fun j=>(List.range j).all (fun i=>FY ops i j)&&(!az ops j j&&zj ops j)&&(decide (j+1=ops.size)||(List.range ops.size).any (fun i=>decide (j<i)&&az ops i j)))
theorem EF {a b c:World} (h1:Below a.heap.size a b) (h2:Below b.heap.size b c):Below a.heap.size a c:=cB h1 h2
theorem wpAny_done {Q:Exit->Act->World->Prop} {listed:Array Bool} {a:Act} {w:World} (h:Region.ready .any ops listed=[]) (hq:Q .normal a w): ∀fuel,wpAny P .any ops Q fuel listed a w
 | 0=>⟨h,hq⟩
 | _+1=>⟨fun _=>hq,fun i hi=>by rw [h] at hi;cases hi⟩
def yf (s:Nat->Bool):Nat->Nat
 | 0=>0
 | k+1=>yf s k+(if s k then 0 else 1)
theorem iV {s s':Nat->Bool}: ∀k,(∀i,i<k->s i=s' i)->yf s k=yf s' k
 | 0,_=>rfl
 | k+1,h=>by rw [yf,yf,iV k (fun i hi=>h i (by omega)),h k (by omega)]
theorem nh {s:Nat->Bool} {i:Nat}: ∀k,i<k->s i=false->yf (bJ s i) k+1=yf s k
 | 0,h,_=>by omega
 | k+1,h,hs=>by
  rw [yf,yf]
  by_cases hik:i=k
  ·subst hik;rw [iV (s:=bJ s i) (s':=s) i (fun j hj=>by have:j≠i:=(by omega);simp [bJ,this])];simp [bJ,hs]
  ·have:=nh (s:=s) (i:=i) k (by omega) hs
   have hk:bJ s i k=s k:=by simp [bJ,Ne.symm hik]
   rw [hk];omega
theorem vw {s:Nat->Bool} {i:Nat}: ∀k,i<k->s i=false->1<=yf s k:=fun k h hs=>by
 have:=nh (s:=s) k h hs;omega
theorem vv {s:Nat->Bool}: ∀k,yf s k<=k
 | 0=>SY _
 | k+1=>by have:=vv (s:=s) k;rw [yf];split<;>omega
def KG (P:Program) (l:List Oper) (L:List Spec) (w0:World) (a0:Act) (j:Nat) (o:Oper):Prop:=
 ∀x w,Below w0.heap.size w0 w->(∀i,az l.toArray j i=true->(at' L i).p (x i) w)->jK P l.toArray (at' L j) o (cG (fun i=>decide (i<j)) x l 0 a0) w
def Kz (P:Program) (l:List Oper) (L:List Spec) (w0:World) (Q:Exit->Act->World->Prop) (a0:Act) (j:Nat) (o:Oper):Prop:=
 ∀x w,Below w0.heap.size w0 w->(∀i,i<j->(at' L i).p (x i) w) ->
  Region.wanted o (yielded l.toArray (cG (fun i=>decide (i<j)) x l 0 a0).tmps)=true∧o.wp P (cG (fun i=>decide (i<j)) x l 0 a0) w (fun a' w'=>Q .normal a' w') Q
theorem rn {l:List Oper} {L:List Spec} {w0:World} {Q:Exit->Act->World->Prop} {a0:Act} (hA:jV l): ∀(l':List Oper) (k:Nat) (A:(Nat->Value)->Act),l.drop k=l'->(A=fun x=>cG (fun i=>decide (i<k)) x l 0 a0) ->
  jB P l.toArray L w0 Q l' k A-> ∀j o,k<=j->l[j]? = some o->(j+1<l.length->KG P l L w0 a0 j o)∧(j+1=l.length->Kz P l L w0 Q a0 j o)
 | [],_,_,_,_,h=>h.elim
 | [o],k,A,hl,hAx,h=>by
  intro j o' hj ho
  have h1:l.length=k+1:=by have:=congrArg List.length hl;simp at this;omega
  have h2:l[k]? = some o:=by have:=congrArg (fun m=>m[0]?) hl;simpa using this
  have hjl:=(S7.1 ho).1
  obtain rfl:j=k:=by omega
  rw [h2] at ho;cases ho;subst hAx;exact ⟨fun hh=>by omega,fun _=>h⟩
 | o :: o2 :: l',k,A,hl,hAx,h=>by
  intro j o' hj ho
  have h1:l.length=k+(l'.length+2):=by have:=congrArg List.length hl;simp at this;omega
  have h2:l[k]? = some o:=by have:=congrArg (fun m=>m[0]?) hl;simpa using this
  subst hAx
  by_cases hjk:j=k
  ·subst hjk;rw [h2] at ho;cases ho;exact ⟨fun _=>h.1,fun hh=>by omega⟩
  ·refine rn hA (o2 :: l') (k+1) _ ?_ ?_ h.2 j o' (by omega) ho
   ·have:=congrArg List.tail hl;simpa using this
   ·funext x
    have hi:=ix (s:=fun i=>decide (i<k)) (x:=x) (v:=x k) l 0 k a0 hA h2 (by simp);rw [TX] at hi;rw [<-hi];refine br l 0 a0 (fun i _ _=> ?_)
    by_cases hik:i=k
    ·subst hik;simp [bJ,gj]
    ·have:(i<k+1)=(i<k):=by apply propext;omega
     simp [bJ,gj,hik,this]
theorem p7 {Q:Exit->Act->World->Prop} {a:Act} {w:World} {l:List Oper} (L:List Spec) (hB:xJ l.toArray=true)
  (h:jB P l.toArray L w.drew Q l 0 (fun _=>a)):wpAny P .any l.toArray Q l.toArray.size (Array.replicate l.toArray.size false) a w.drew:=by
 simp only [xJ,TY,List.all_eq_true,List.mem_range,List.size_toArray] at hB;obtain ⟨hns,hall⟩:=hB;have hsel:=Region.noSelect_spec hns
 have hpair: ∀i j oi oj,i<j->l[i]? = some oi->l[j]? = some oj->(az l.toArray j i=true∨oi.apart l.toArray oj=true)∧az l.toArray i j=false∧(∀e,oi.dst=some e->oj.dst≠some e)∧(∀e,oj.dst=some e->e∉oi.looksAt l.toArray):=by
  intro i j oi oj hij hi hj;have hjn:=(S7.1 hj).1
  have:=(hall j hjn).1.1 i hij
  simp only [FY,Tp,hi,hj,TY,Bool.or_eq_true,Bool.not_eq_true'] at this
  refine ⟨this.1.1.1,this.1.1.2,fun e he=> ?_,fun e he=> ?_⟩
  ·have h3:=this.1.2;rw [he] at h3;simpa using h3
  ·have h3:=this.2;rw [he] at h3;simpa using h3
 have hself: ∀j,j<l.length->az l.toArray j j=false:=fun j hj=>by simpa using (hall j hj).1.2.1
 have hfar: ∀(j:Nat) (o:Oper),l[j]? = some o-> ∀e∈o.after,e.on<l.length:=fun j o hj e he=>by
  have:=(hall j (S7.1 hj).1).1.2.2
  simp only [zj,Tp,hj,TZ] at this;simpa using this e he
 have hnext: ∀j,j+1<l.length-> ∃i,i<l.length∧j<i∧az l.toArray i j=true:=fun j hj=>by
  have:=(hall j (by omega)).2
  simp only [Bool.or_eq_true,decide_eq_true_eq,List.any_eq_true,List.mem_range,TY] at this
  rcases this with h|h
  ·omega
  ·exact h
 have hA:jV l:=fun i j oi oj hi hj hij e he=>by
  rcases Nat.lt_or_gt_of_ne hij with h|h
  ·exact (hpair i j oi oj h hi hj).2.2.1 e he
  ·intro h2;exact (hpair j i oj oi h hj hi).2.2.1 e h2 he
 have hlen:l≠[]:=by intro e;subst e;exact h
 have hn:1<=l.length:=List.length_pos_iff.2 hlen
 have hO:=rn (P:=P) (L:=L) (w0:=w.drew) (Q:=Q) (a0:=a) hA l 0 (fun _=>a) (by simp) (by
  funext x
  exact (show a=cG (fun _=>false) x l 0 a from by
   have: ∀(l:List Oper) k,a=cG (fun _=>false) x l k a:=by
    intro l
    induction l with
    | nil=>intro k;rfl
    | cons o l ih=>intro k;rw [cG];exact ih (k+1)
   exact this l 0).trans (br l 0 a (fun i _ _=>by simp))) h
 
 have hloose: ∀i j oi oj,l[i]? = some oi->l[j]? = some oj->i≠j->az l.toArray j i=false-> ∀d,oi.dst=some d->d∉oj.looksAt l.toArray:=by
  intro i j oi oj hi hj hij hd
  rcases Nat.lt_or_gt_of_ne hij with h|h
  ·rcases (hpair i j oi oj h hi hj).1 with h1|h1
   ·rw [hd] at h1;cases h1
   ·exact (Oper.apart_spec h1).1
  ·exact (hpair j i oj oi h hj hi).2.2.2
 
 have hsee: ∀(s s':Nat->Bool) x j oj,l[j]? = some oj->s j=false->s' j=false->(∀i,i<l.length->az l.toArray j i=true->s i=true∧s' i=true) ->
   execOp (cG s x l 0 a).eval oj=execOp (cG s' x l 0 a).eval oj∧Region.wanted oj (yielded l.toArray (cG s x l 0 a).tmps)=Region.wanted oj (yielded l.toArray (cG s' x l 0 a).tmps):=by
  intro s s' x j oj hj h1 h2 hd
  have one:=fun (s:Nat->Bool) (hs:s j=false)=>ov (ops:=l.toArray) (s:=s) (keep:=az l.toArray j) (x:=x) (a:=a) hA (fun cs b=>hsel j oj cs b (by simpa using hj))
   (fun i oi hi hsi hk=>hloose i j oi oj hi hj (by intro e;subst e;rw [hsi] at hs;cases hs) hk)
  obtain ⟨a1,a2⟩:=one s h1;obtain ⟨b1,b2⟩:=one s' h2
  have e:cG (fun i=>s i&&az l.toArray j i) x l 0 a=cG (fun i=>s' i&&az l.toArray j i) x l 0 a:=br l 0 a (fun i _ hi=>by
   refine ⟨?_,fun _=>rfl⟩
   cases hk:az l.toArray j i
   ·simp
   ·obtain ⟨c1,c2⟩:=hd i (by omega) hk
    simp [c1,c2])
  exact ⟨by rw [a1,b1,e],by rw [a2,b2,e]⟩
 have main: ∀fuel (listed:Array Bool) x w1,listed.size=l.length->Below w.drew.heap.size w.drew w1->(∀i,listed.getD i false=true->(at' L i).p (x i) w1) ->
   (∀j i,listed.getD j false=true->az l.toArray j i=true->listed.getD i false=true)->listed.getD (l.length - 1) false=false->yf (fun i=>listed.getD i false) l.length<=fuel ->
   wpAny P .any l.toArray Q fuel listed (cG (fun i=>listed.getD i false) x l 0 a) w1:=by
  intro fuel
  induction fuel with
  | zero=>
   intro listed x w1 _ _ _ _ hlast hu
   have:=vw (s:=fun i=>listed.getD i false) l.length (i:=l.length - 1) (by omega) hlast
   omega
  | succ fuel ih=>
   intro listed x w1 hsz hE hF hcl hlast hu
   have hmemR: ∀j,j∈Region.ready .any l.toArray listed-> ∃oj,l[j]? = some oj∧listed.getD j false=false∧ ∀i,az l.toArray j i=true->listed.getD i false=true:=by
    intro j hj;obtain ⟨h1,o,ho,h3⟩:=mem_ready.1 hj
    refine ⟨o,by simpa using ho, ?_,fun i hi=> ?_⟩
    ·rcases Nat.lt_or_ge j listed.size with h'|h'
     ·simp [h'] at h1 ⊢; exact h1
     ·simp [Array.getElem?_eq_none h']
    ·simp only [az,ho,TY,beq_iff_eq,Array.any_eq_true'] at hi;obtain ⟨e,he,hb,rfl⟩:=hi;exact h3 e he hb
   refine ⟨fun h0=> ?_,fun j hj=> ?_⟩
   ·
    exfalso
    have hex: ∃m,m<l.length∧listed.getD m false=false∧ ∀i,i<m->listed.getD i false=true:=by
     have: ∀k,k<=l.length->(∀i,i<k->listed.getD i false=true)∨ ∃m,m<l.length∧listed.getD m false=false∧ ∀i,i<m->listed.getD i false=true:=by
      intro k
      induction k with
      | zero=>exact fun _=> .inl (fun i hi=>by omega)
      | succ k ihk=>
       intro hk
       rcases ihk (by omega) with h|h
       ·cases hc:listed.getD k false
        ·exact .inr ⟨k,by omega,hc,h⟩
        ·exact .inl (fun i hi=>by
          by_cases e:i=k
          ·subst e;exact hc
          ·exact h i (by omega))
       ·exact .inr h
     rcases this l.length (SY _) with h|h
     ·have:=h (l.length - 1) (by omega)
      rw [hlast] at this;cases this
     ·exact h
    obtain ⟨m,hm1,hm2,hm3⟩:=hex
    have hmem:m∈Region.ready .any l.toArray listed:=by
     refine mem_ready.2 ⟨?_,l[m],by simp [hm1],fun e he hb=> ?_⟩
     ·have hms:m<listed.size:=by omega
      simp [hms] at hm2 ⊢; exact hm2
     ·have hd:az l.toArray m e.on=true:=by
       have:l.toArray[m]? = some l[m]:=by simp [hm1]
       simp only [az,this];simp only [Array.any_eq_true',TY,beq_iff_eq];exact ⟨e,he,hb,rfl⟩
      rcases Nat.lt_trichotomy e.on m with h|h|h
      ·exact hm3 _ h
      ·rw [h,hself m hm1] at hd;cases hd
      ·by_cases hl:e.on<l.length
       ·have:=(hpair m e.on l[m] l[e.on] h (by simp [hm1]) (by simp [hl])).2.1
        rw [hd] at this;cases this
       ·exact absurd (hfar m l[m] (by simp [hm1]) e he) hl
    rw [h0] at hmem;cases hmem
   ·obtain ⟨oj,hoj,hun,hdeps⟩:=hmemR j hj;have hjl:=(S7.1 hoj).1
    have hsj:(listed.setIfInBounds j true).size=l.length:=by simpa using hsz
    have hgd: ∀i,(listed.setIfInBounds j true).getD i false=bJ (fun i=>listed.getD i false) j i:=by
     intro i
     by_cases hij:i=j
     ·subst hij
      have:i<listed.size:=by omega
      simp [bJ,this]
     ·simp only [bJ,if_neg hij];exact getD_set_ne false (Ne.symm hij)
    have hO:=hO j oj (Nat.zero_le _) hoj;unfold wpOp;simp only [Tp,hoj]
    by_cases hjn:j+1=l.length
    ·
     have hup: ∀t i,i+t+1=l.length->t≠0->listed.getD i false=true:=by
      intro t
      induction t using Nat.strongRecOn with
      | _ t iht=>
       intro i hi ht;obtain ⟨i',h1,h2,h3⟩:=hnext i (by omega)
       by_cases hi':i'=j
       ·subst hi';exact hdeps i h3
       ·exact hcl i' i (iht (l.length - 1 - i') (by omega) i' (by omega) (by omega)) h3
     have hall': ∀i,i<j->listed.getD i false=true:=fun i hi=>hup (j - i) i (by omega) (by omega);obtain ⟨h1,h2⟩:=hO.2 hjn x w1 hE (fun i hi=>hF i (hall' i hi))
     have e:cG (fun i=>decide (i<j)) x l 0 a=cG (fun i=>listed.getD i false) x l 0 a:=br l 0 a (fun i _ hi=>by
      refine ⟨?_,fun _=>rfl⟩
      by_cases hij:i<j
      ·simp only [hij,decide_true];exact (hall' i hij).symm
      ·obtain rfl:i=j:=by omega
       simp only [hij,decide_false];exact hun.symm)
     rw [e] at h1 h2;rw [if_pos h1];refine .inl (Oper.wp_mono (fun a' w' hq=>wpAny_done ?_ hq fuel) h2);refine List.eq_nil_iff_forall_not_mem.2 (fun i hi=> ?_);obtain ⟨g1,o,g2, -⟩:=mem_ready.1 hi
     have hil:i<l.length:=by
      have:=(S7.1 (show l[i]? = some o by simpa using g2)).1
      exact this
     have his:i<(listed.setIfInBounds j true).size:=by omega
     have g3:=hgd i
     rw [show (listed.setIfInBounds j true).getD i false=false by
      simp only [T0,Array.getElem?_eq_getElem his,Option.getD_some] at g1 ⊢; exact g1] at g3
     by_cases hij:i=j
     ·simp [bJ,hij] at g3
     ·simp only [bJ,if_neg hij] at g3;rw [hall' i (by omega)] at g3;cases g3
    ·have hst:=hO.1 (by omega) x w1 hE (fun i hi=>hF i (hdeps i hi))
     obtain ⟨c1,c2⟩:=hsee (fun i=>listed.getD i false) (fun i=>decide (i<j)) x j oj hoj hun (by simp) (fun i hi hd=>⟨hdeps i hd,by
      rcases Nat.lt_trichotomy i j with h|h|h
      ·simpa using h
      ·rw [h,hself j hjl] at hd;cases hd
      ·have:=(hpair j i oj l[i] h hoj (by simp [hi])).2.1
       rw [hd] at this;cases this⟩)
     have next: ∀v w2,(at' L j).p v w2->Below w1.heap.size w1 w2->wpAny P .any l.toArray Q fuel (listed.setIfInBounds j true) ((cG (fun i=>listed.getD i false) x l 0 a).put oj.dst v) w2:=by
      intro v w2 hv hb;have hi:=ix (s:=fun i=>listed.getD i false) (x:=x) (v:=v) l 0 j a hA hoj (by simpa using hun);rw [TX] at hi;rw [<-hi, <- show (fun i=>(listed.setIfInBounds j true).getD i false)=bJ (fun i=>listed.getD i false) j from funext hgd]
      refine ih _ _ w2 hsj (EF hE hb) (fun i hi'=> ?_) (fun j' i hj' hd=> ?_) ?_ ?_
      ·rw [hgd] at hi'
       by_cases hij:i=j
       ·subst hij;simpa [gj] using hv
       ·simp only [bJ,if_neg hij] at hi';simp only [gj,if_neg hij];exact (at' L i).st _ _ _ hb (hF i hi')
      ·rw [hgd] at hj' ⊢
       by_cases hij:i=j
       ·simp [bJ,hij]
       ·simp only [bJ,if_neg hij]
        by_cases hj2:j'=j
        ·subst hj2;exact hdeps i hd
        ·simp only [bJ,if_neg hj2] at hj';exact hcl j' i hj' hd
      ·rw [hgd]
       have:l.length - 1≠j:=by omega
       simp only [bJ,if_neg this];exact hlast
      ·rw [iV (s':=bJ (fun i=>listed.getD i false) j) l.length (fun i _=>hgd i)]
       have:=nh (s:=fun i=>listed.getD i false) (i:=j) l.length hjl hun
       omega
     unfold jK at hst;rw [<-c1, <- c2] at hst
     rcases hst with ⟨h1,h2⟩|⟨h1,h2⟩
     ·rw [if_pos h1];refine .inl ?_;unfold Oper.wp;generalize (execOp (cG (fun i=>listed.getD i false) x l 0 a).eval oj).run P w1=r at h2
      cases r with
      | halt _ _=>exact h2.elim
      | ok n w'=>
       cases n<;>first|exact h2.elim|skip
       case value u=>exact next _ _ h2.1 h2.2
       case skip=>exact next _ _ h2.1 h2.2
       case enter f args=>
        refine Calls.mono h2 fun e w'' he=> ?_;obtain ⟨v,rfl,hv,hb⟩:=he
        exact next _ _ hv hb
     ·rw [if_neg (by rw [h1];decide)]
      exact next _ _ h2 (Below.refl _ _)
 have hrep: ∀i,(Array.replicate l.toArray.size false).getD i false=false:=fun i=>by
  simp only [T0,Array.getElem?_replicate];split<;>rfl
 have h0:=main l.toArray.size (Array.replicate l.toArray.size false) (fun _=>undef) w.drew (by simp) (Below.refl _ _)
  (fun i hi=>by rw [hrep] at hi;cases hi) (fun j i hj=>by rw [hrep] at hj;cases hj) (hrep _) (vv _)
 have e:cG (fun i=>(Array.replicate l.toArray.size false).getD i false) (fun _=>undef) l 0 a=a:=by
  have: ∀(l':List Oper) k,cG (fun i=>(Array.replicate l.toArray.size false).getD i false) (fun _=>undef) l' k a=a:=by
   intro l'
   induction l' with
   | nil=>intro k;rfl
   | cons o l' ih=>intro k;rw [cG,hrep];exact ih (k+1)
  exact this l 0
 rw [e] at h0;exact h0
end
def WF (r:Option Nat):Fence:={ Fence.wide with round:=r }
theorem iv (r:Option Nat) (n:Nat):(WF r).room n:=fun d h=>by cases h
section
variable {P:Program} {r:Option Nat} {n:Nat} {ops:Array Oper} {Q:Exit->Act->World->Prop} {a:Act} {w:World}
theorem G6 {c:Code} {m:Nat} (h:c.wpIn (WF r) n P Q a w):c.wpIn (WF r) m P Q a w:=fun b k cs h1 h2 _=>h b k cs h1 h2 (iv _ _)
theorem DA {m:Nat} {l:Nat} {f:FuncId} {tmps:Array Value} {assign body:Code} {R:Ending->World->Prop} {r':Option Nat} (h:RoundIn (WF r) n P l f tmps assign body w R):RoundIn (WF r') m P l f tmps assign body w R:=⟨trivial,fun c cs _=>h.2 c cs (iv _ _)⟩
theorem jk {f:FuncId} {args:Array Value} {R:Ending->World->Prop} (h:Calls P f args w R):CallsIn (WF r) n P f args w R:=(callsIn_wide (n:=n)).2 h
theorem qf {f:FuncId} {args:Array Value} {R:Ending->World->Prop} (h:CallsIn (WF none) n P f args w R):Calls P f args w R:=(callsIn_wide (n:=n)).1 h
def c9 (ops:Array Oper):Bool:=ops.all (fun o=>match o.op with| .defer _=>false|_=>true)
theorem j7 {i:Nat} {o:Oper} (h:c9 ops=true) (ho:ops[i]? = some o) (rho:Operand->Value):o.semAt r rho=execOp rho o:=by
 refine Oper.semAt_eq r rho o (fun c hc=> ?_);unfold c9 at h;rw [TZ] at h
 have:=h o (Array.mem_of_getElem? ho)
 rw [hc] at this;cases this
theorem tB {row:String} {args:Array Value} {R:Value->World->Prop} (h:Rows P row args w R):RowsIn (WF r) n P row args w R:=fun c cs _=>by
 obtain ⟨v,w',hr,hs⟩:=h c cs;exact ⟨v,w',hr,stepsIn_wide.2 hs⟩
theorem dr (hc:c9 ops=true) (hQ: ∀a w, ¬Q .outgrown a w): ∀(l:List Nat) (a:Act) (w:World),wpOps P ops Q l a w->wpOpsIn (WF r) n P ops Q l a w
 | [],a,w,h=>h
 | i :: rest,a,w,h=>by
  simp only [wpOps] at h;simp only [wpOpsIn]
  cases ho:ops[i]? with
  | none=>
   rw [ho] at h;exact dr hc hQ rest a w h
  | some o=>
   rw [ho] at h;simp only at h ⊢
   split
   ·rename_i hw;rw [if_pos hw] at h
    rcases h with h|⟨_,a',w',h⟩
    ·refine ⟨fun f _=>trivial, ?_⟩;rw [j7 hc ho];unfold Oper.wp at h;generalize (execOp a.eval o).run P w=res at h;unfold Oper.upon at h;unfold Oper.uponIn
     split at h
     ·exact dr hc hQ rest _ _ h
     ·exact dr hc hQ rest _ _ h
     ·exact dr hc hQ rest _ _ h
     ·refine ⟨fun e=>(by cases e),jk (h.mono fun e w' he=> ?_)⟩
      cases e with
      | returned v=>exact dr hc hQ rest _ _ he
      | panicked ch=>exact he
      | outgrown=>exact he
     ·exact ⟨fun e=>(by cases e),tB (h.mono fun v w' he=>dr hc hQ rest _ _ he)⟩
     ·exact h
     ·exact h.elim
    ·exact absurd h (hQ a' w')
   ·rename_i hw;rw [if_neg hw] at h;exact ⟨fun f _=>trivial,dr hc hQ rest _ _ h⟩
theorem np {id:Nat} (hm:P.follows .mixedOrders=true) (hc:c9 ops=true) (hQ: ∀a w, ¬Q .outgrown a w) (h:wpAny P .any ops Q ops.size (Array.replicate ops.size false) a w.drew):(Code.region id ops true).wpIn (WF r) n P Q a w:=
 wpIn_region_draw fun t=>by
  simp only [Region.schedule,hm,Bool.true_or,if_true];exact dr hc hQ _ _ _ (wpAny_sound ops.size t _ a _ h)
theorem si {c:Code} (I:Nat->Act->World->Prop) {m:Nat} (h0:I m a w) (round: ∀m a w,I m a w->c.wpIn (WF r) n P (Exit.then (fun a' w'=> ∃m',I m' a' w'∧m'<m) Q) a w):(Code.loop c).wpIn (WF r) n P Q a w:=by
 have key: ∀j a w,I j a w-> ∀b k cs,b.roundOf=(WF r).round-> ∃e a' w',Q e a' w'∧ArrivesIn (Machine.fenced P (WF r)) P (lone (b.atR a (.code c :: .inLoop c :: k)) cs w) b k cs e a' w':=by
  intro j
  induction j using Nat.strongRecOn with
  | _ j ih=>
   intro a w hI b k cs hro;obtain ⟨e,a1,w1,hq,harr⟩:=round j a w hI b (.inLoop c :: k) cs hro trivial (iv _ _)
   cases e with
   | normal=>
    obtain ⟨m',h1,h2⟩:=hq;obtain ⟨e2,a2,w2,q2,arr2⟩:=ih m' h2 a1 w1 h1 b k cs hro;exact ⟨e2,a2,w2,q2, .of_steps (StepsIn.trans harr (.one (fenced_calm (F:=WF r) (n:=n) trivial (iv _ _) rfl) stepR_inLoop)) arr2⟩
   | exit id=>exact ⟨_,a1,w1,hq, .pass (x:= .inLoop c) rfl (fun _ _=> .inl (by simp)) harr⟩
   | goto l=>exact ⟨_,a1,w1,hq, .pass (x:= .inLoop c) rfl (fun _ _=> .inl (by simp)) harr⟩
   | ret=>exact ⟨_,a1,w1,hq, .pass (x:= .inLoop c) rfl (fun _ _=> .inl (by simp)) harr⟩
   | panic ch=>exact ⟨_,a1,w1,hq, .pass (x:= .inLoop c) rfl (fun _ _=> .inl (by simp)) harr⟩
   | outgrown=>exact ⟨_,a1,w1,hq, .pass (x:= .inLoop c) rfl (fun _ _=> .inl (by simp)) harr⟩
 intro b k cs hro _ _;obtain ⟨e,a',w',hq,harr⟩:=key m a w h0 b k cs hro;exact ⟨e,a',w',hq, .of_steps (.one (fenced_calm (F:=WF r) (n:=n) trivial (iv _ _) rfl) stepR_loop) harr⟩
theorem vt {b:Frame} {k:List Item} {cs:List Frame} {c:Code}:step P (lone (b.atR a (.code (.scope c) :: k)) cs w) = .next (lone (b.atR a (.code c :: .inScope c :: k)) cs w):=
 step_lone_go (by simp [stepG,stepG.exec,Frame.atR])
theorem rD {b:Frame} {k:List Item} {cs:List Frame} {c:Code}:step P (lone (b.atR a (.inScope c :: k)) cs w) = .next (lone (b.atR a k) cs w):=
 step_lone_go (by simp [stepG,stepG.exec,Frame.atR])
theorem Ar {c:Code} (h:c.wpIn (WF r) n P (Exit.noGoto Q) a w):(Code.scope c).wpIn (WF r) n P Q a w:=by
 intro b k cs hro _ _;obtain ⟨e,a1,w1,hq,harr⟩:=h b (.inScope c :: k) cs hro trivial (iv _ _);have s1:StepsIn (Machine.fenced P (WF r)) P (lone (b.atR a (.code (.scope c) :: k)) cs w) (lone (b.atR a (.code c :: .inScope c :: k)) cs w):= .one (fenced_calm (F:=WF r) (n:=n) trivial (iv _ _) rfl) vt
 cases e with
 | normal=>exact ⟨.normal,a1,w1,hq,s1.trans (StepsIn.trans harr (.one (fenced_calm (F:=WF r) (n:=n) trivial (iv _ _) rfl) rD))⟩
 | exit id=>
  refine ⟨.exit id,a1,w1,hq,fun k' hk=>s1.trans (harr.1 k' (by simp [exitTo,hk])),fun hro2 hkk=> ?_⟩;obtain ⟨k1,h1,h2⟩:=harr.2 hro2 (by simp [exitTo,hkk]);exact ⟨k1,h1,s1.trans h2⟩
 | goto l=>exact hq.elim
 | ret=>exact ⟨_,a1,w1,hq, .of_steps s1 harr⟩
 | panic ch=>exact ⟨_,a1,w1,hq, .of_steps s1 harr⟩
 | outgrown=>exact ⟨_,a1,w1,hq, .of_steps s1 harr⟩
end
end
section
section
variable {D:Nat->Prop} {nu:Nat->Nat->Value} {o:List (Option aa)} {w:World} {P:Program}
def j0 (op:BinOp) (k:IntKind) (a b:Int):Option (Prop×AV):=match op with
 | .shl=>some (0<=b, .v (.int k (k.wrap (a * 2 ^ min b.toNat k.bits))))
 | .shr=>some (0<=b, .v (.int k (a.fdiv (2 ^ min b.toNat k.bits))))
 | _=>none
def Fh (k:IntKind) (a b:Int):Int:=k.wrap (BitVec.ofInt k.bits a &&& BitVec.ofInt k.bits b).toNat
def OQ (k:IntKind) (a b:Int):Int:=k.wrap (BitVec.ofInt k.bits a ||| BitVec.ofInt k.bits b).toNat
def M3 (k:IntKind) (a b:Int):Int:=k.wrap (BitVec.ofInt k.bits a ^^^ BitVec.ofInt k.bits b).toNat
def pG (k:IntKind) (a b:Int):Int:=k.wrap (BitVec.ofInt k.bits a &&& ~~~ BitVec.ofInt k.bits b).toNat
def Hu (op:BinOp) (k:IntKind) (a b:Int):Option (Prop×AV):=match op with
 | .add=>some (True, .v (.int k (k.wrap (a+b))))
 | .sub=>some (True, .v (.int k (k.wrap (a - b))))
 | .mul=>some (True, .v (.int k (k.wrap (a * b))))
 | .quo=>some (b≠0, .v (.int k (k.wrap (a.tdiv b))))
 | .rem=>some (b≠0, .v (.int k (a.tmod b)))
 | .and=>some (True, .v (.int k (Fh k a b)))
 | .or=>some (True, .v (.int k (OQ k a b)))
 | .xor=>some (True, .v (.int k (M3 k a b)))
 | .andNot=>some (True, .v (.int k (pG k a b)))
 | .eql=>some (True, .v (.bool (a==b)))
 | .neq=>some (True, .v (.bool (a !=b)))
 | .lss=>some (True, .v (.bool (decide (a<b))))
 | .leq=>some (True, .v (.bool (decide (a<=b))))
 | .gtr=>some (True, .v (.bool (decide (b<a))))
 | .geq=>some (True, .v (.bool (decide (b<=a))))
 | .shl=>j0 .shl k a b
 | .shr=>j0 .shr k a b
def Hw (op:BinOp) (a b:ByteArray):Option (Prop×AV):=match op with
 | .add=>some (a.size+b.size<=4611686018427387904, .v (.string (a++b)))
 | .eql=>some (True, .v (.bool (a.toList==b.toList)))
 | .neq=>some (True, .v (.bool (!(a.toList==b.toList))))
 | .lss=>some (True, .v (.bool (Op.bytesLess a.toList b.toList)))
 | .leq=>some (True, .v (.bool (Op.bytesLess a.toList b.toList||a.toList==b.toList)))
 | .gtr=>some (True, .v (.bool (!(Op.bytesLess a.toList b.toList||a.toList==b.toList))))
 | .geq=>some (True, .v (.bool (!(Op.bytesLess a.toList b.toList))))
 | _=>none
def qH (P:Program) (T:TypeId):Bool:=match P.underlying T with
 | some (.pointer _)=>true
 | _=>false
def sV (P:Program) (T:TypeId):Bool:=match P.underlying T with
 | some (.slice _)=>true
 | _=>false
def isFun (P:Program) (T:TypeId):Bool:=match P.underlying T with
 | some (.func _ _ _)=>true
 | _=>false
def Ht (P:Program) (op:BinOp) (T:TypeId):AV->AV->Option (Prop×AV)
 | .v (.int k a), .v (.int k' b)=>match op with
  | .shl=>j0 .shl k a b
  | .shr=>j0 .shr k a b
  | _=>if k=k' then Hu op k a b else none
 | .v (.string a), .v (.string b)=>Hw op a b
 | .v (.bool a), .v (.bool b)=>match P.underlying T,op with
  | some .bool, .eql=>some (True, .v (.bool (a==b)))
  | some .bool, .neq=>some (True, .v (.bool (!(a==b))))
  | _,_=>none
 | .agg cs, .agg ds=>match gS P T,op with
  | some ks, .eql=>(fX ks cs ds).map fun r=>(True, .v (.bool r))
  | some ks, .neq=>(fX ks cs ds).map fun r=>(True, .v (.bool (!r)))
  | _,_=>none
 | .v (.pointer none), .v (.pointer none)=>if qH P T then match op with
  | .eql=>some (True, .v (.bool true))
  | .neq=>some (True, .v (.bool false))
  | _=>none else none
 | .vp _, .v (.pointer none)=>if qH P T then match op with
  | .eql=>some (True, .v (.bool false))
  | .neq=>some (True, .v (.bool true))
  | _=>none else none
 | .ptr _ _ _ _ _, .v (.pointer none)=>if qH P T then match op with
  | .eql=>some (True, .v (.bool false))
  | .neq=>some (True, .v (.bool true))
  | _=>none else none
 | .aI _ rows _, .v (.slice none 0 0)=>if sV P T then match op with
  | .eql=>some (rows≠[], .v (.bool false))
  | .neq=>some (rows≠[], .v (.bool true))
  | _=>none else none
 | .v (.slice none 0 0), .v (.slice none 0 0)=>if sV P T then match op with
  | .eql=>some (True, .v (.bool true))
  | .neq=>some (True, .v (.bool false))
  | _=>none else none
 | .fn _ _ _, .v .nilFunc=>if isFun P T then match op with
  | .eql=>some (True, .v (.bool false))
  | .neq=>some (True, .v (.bool true))
  | _=>none else none
 | _,_=>none
theorem Ii {op:BinOp} {T:TypeId} {k:IntKind} {a b:Int} {p:Prop} {r:AV} (h:Hu op k a b=some (p,r)) (hp:p): ∃v,(binOp op T (.int k a) (.int k b)).run P w = .ok v w∧r = .v v:=by
 cases op<;>simp only [Hu,j0,Fh,OQ,M3,pG,Ti,Tj] at h<;>obtain ⟨rfl,rfl⟩:=h<;>refine ⟨_, ?_,rfl⟩ <;>
  simp [binOp,Op.intArith,Op.intDiv,Op.intBits,Op.intCmp,Op.shift]<;>first|(intro h;exact absurd h hp)|omega
theorem GL {op:BinOp} {T:TypeId} {a b:ByteArray} {p:Prop} {r:AV} (h:Hw op a b=some (p,r)) (hp:p): ∃v,(binOp op T (.string a) (.string b)).run P w = .ok v w∧r = .v v:=by
 cases op<;>simp only [Hw,Ti,Tj,reduceCtorEq] at h<;>obtain ⟨rfl,rfl⟩:=h<;>refine ⟨_, ?_,rfl⟩ <;>
  simp [binOp,Op.stringOp]
 omega
theorem ki {op:BinOp} {T:TypeId} {X Y:Operand} {x y:Value} (h: ∀xs ys, ¬(x = .agg xs∧y = .agg ys)) (h2:x ≠ .nilIface):(eqGuard op T X Y x y).run P w = .ok () w:=by
 unfold eqGuard
 cases op<;>first
  | rfl
  | (cases x<;>first
    | rfl
    | exact absurd rfl h2
    | (cases y<;>first
      | rfl
      | exact absurd ⟨rfl,rfl⟩ (h _ _)))
theorem wP (d:Nat) {T e:TypeId} (hu:P.underlying T=some (.pointer e)) (ad:Addr):(Op.equalIn (d+1) T (.pointer (some ad)) (.pointer none)).run P w = .ok false w:=by
 simp [Op.equalIn,run_underlying hu]
theorem wO (d:Nat) {T e:TypeId} (hu:P.underlying T=some (.pointer e)):(Op.equalIn (d+1) T (.pointer none) (.pointer none)).run P w = .ok true w:=by
 simp [Op.equalIn,run_underlying hu]
theorem qt {T:TypeId} {x y:Value} {b:Bool} (hb:binOp .eql T x y=(do pure (.bool (<-Op.equal T x y)))) (h:(Op.equalIn 10000 T x y).run P w = .ok b w):(binOp .eql T x y).run P w = .ok (.bool b) w:=by
 rw [hb];simp only [Op.equal,Op.maxDepth,Sem.run_bind,h,Result.andThen_ok,Sem.run_pure]
theorem qS {T:TypeId} {x y:Value} {b:Bool} (hb:binOp .neq T x y=(do pure (.bool (!(<-Op.equal T x y))))) (h:(Op.equalIn 10000 T x y).run P w = .ok b w):(binOp .neq T x y).run P w = .ok (.bool (!b)) w:=by
 rw [hb];simp only [Op.equal,Op.maxDepth,Sem.run_bind,h,Result.andThen_ok,Sem.run_pure]
theorem tp {a:AV} {x:Value} (hr:RA D nu o w a x) (h:(∃cs,a = .vp cs)∨ ∃i l z r f,a = .ptr i l z r f): ∃ad,x = .pointer (some ad):=by
 rcases h with ⟨cs,rfl⟩|⟨i,l,z,r,f,rfl⟩
 ·cases hr;exact ⟨_,rfl⟩
 ·cases hr;exact ⟨_,rfl⟩
theorem pK {T:TypeId} {ad:Addr} (hT:qH P T=true):(binOp .eql T (.pointer (some ad)) (.pointer none)).run P w = .ok (.bool false) w∧(binOp .neq T (.pointer (some ad)) (.pointer none)).run P w = .ok (.bool true) w:=by
 unfold qH at hT
 split at hT
 ·rename_i e hu;exact ⟨qt rfl (wP 9999 hu ad),qS rfl (wP 9999 hu ad)⟩
 ·cases hT
theorem AX (d:Nat) {T e:TypeId} (hu:P.underlying T=some (.slice e)) (a:Option Addr) (n c:Nat):(Op.equalIn (d+1) T (.slice a n c) (.slice none 0 0)).run P w = .ok a.isNone w:=by
 cases a<;>simp [Op.equalIn,run_underlying hu]
theorem oy {T:TypeId} {a:Option Addr} {n c:Nat} (hT:sV P T=true):(binOp .eql T (.slice a n c) (.slice none 0 0)).run P w = .ok (.bool a.isNone) w∧(binOp .neq T (.slice a n c) (.slice none 0 0)).run P w = .ok (.bool (!a.isNone)) w:=by
 unfold sV at hT
 split at hT
 ·rename_i e hu;exact ⟨qt rfl (AX 9999 hu a n c),qS rfl (AX 9999 hu a n c)⟩
 ·cases hT
theorem AW (d:Nat) {T:TypeId} {ps rs:Array TypeId} {v:Bool} (hu:P.underlying T=some (.func ps rs v)) (fn:Fn) (a b:Array Value):(Op.equalIn (d+1) T (.func fn a b) .nilFunc).run P w = .ok false w:=by
 simp [Op.equalIn,run_underlying hu]
theorem E6 {T:TypeId} {fn:Fn} {a b:Array Value} (hT:isFun P T=true):(binOp .eql T (.func fn a b) .nilFunc).run P w = .ok (.bool false) w∧(binOp .neq T (.func fn a b) .nilFunc).run P w = .ok (.bool true) w:=by
 unfold isFun at hT
 split at hT
 ·rename_i e hu;exact ⟨qt rfl (AW 9999 hu fn a b),qS rfl (AW 9999 hu fn a b)⟩
 ·cases hT
theorem EH {op:BinOp} {T:TypeId} {a b:AV} {x y:Value} (hx:RA D nu o w a x) (hy:RA D nu o w b y) {p:Prop} {r:AV} (h:Ht P op T a b=some (p,r)) (hp:p) (X Y:Operand) :
  ∃v,(binOp op T x y).run P w = .ok v w∧RA D nu o w r v∧(eqGuard op T X Y x y).run P w = .ok () w:=by
 have fin: ∀(rr:AV),(∃v,(binOp op T x y).run P w = .ok v w∧rr = .v v)->rr=r->((∀xs ys, ¬(x = .agg xs∧y = .agg ys))∧x ≠ .nilIface)-> ∃v,(binOp op T x y).run P w = .ok v w∧RA D nu o w r v∧(eqGuard op T X Y x y).run P w = .ok () w:=by
  rintro rr ⟨v,h1,h2⟩ h3 ⟨h4,h5⟩;subst h3;subst h2;exact ⟨v,h1, .v v,ki h4 h5⟩
 unfold Ht at h
 split at h
 ·obtain rfl:=hx.bZ;obtain rfl:=hy.bZ;refine fin r ?_ rfl ⟨fun xs ys e=>(by cases e.1),fun e=>by cases e⟩
  split at h
  ·simp only [j0,Ti,Tj] at h;obtain ⟨rfl,rfl⟩:=h;exact ⟨_,by simp [binOp,Op.shift];omega,rfl⟩
  ·simp only [j0,Ti,Tj] at h;obtain ⟨rfl,rfl⟩:=h;exact ⟨_,by simp [binOp,Op.shift];omega,rfl⟩
  ·split at h
   ·rename_i hk;subst hk;exact Ii h hp
   ·cases h
 ·obtain rfl:=hx.bZ;obtain rfl:=hy.bZ;exact fin r (GL h hp) rfl ⟨fun xs ys e=>(by cases e.1),fun e=>by cases e⟩
 ·obtain rfl:=hx.bZ;obtain rfl:=hy.bZ;refine fin r ?_ rfl ⟨fun xs ys e=>(by cases e.1),fun e=>by cases e⟩
  split at h
  ·rename_i hu;simp only [Ti,Tj] at h;obtain ⟨rfl,rfl⟩:=h;exact ⟨_,qt rfl (run_equalIn_bool' w 9999 T _ _ hu),rfl⟩
  ·rename_i hu;simp only [Ti,Tj] at h;obtain ⟨rfl,rfl⟩:=h;exact ⟨_,qS rfl (run_equalIn_bool' w 9999 T _ _ hu),rfl⟩
  ·cases h
 ·rename_i cs ds;have key:=fun ks rr h1 h2=>jY (P:=P) (T:=T) (ks:=ks) (rr:=rr) h1 h2 hx hy
  split at h
  ·rename_i ks ht
   cases he:fX ks cs ds with
   | none=>rw [he] at h;cases h
   | some rr=>
    rw [he] at h;simp only [TG,Ti,Tj] at h;obtain ⟨rfl,rfl⟩:=h;obtain ⟨xs,ys,rfl,rfl,hg,hq⟩:=key ks rr ht he;exact ⟨.bool rr,by rw [run_eql_struct,hq];rfl, .v _,run_eqGuard_agg w _ T X Y xs ys hg⟩
  ·rename_i ks ht
   cases he:fX ks cs ds with
   | none=>rw [he] at h;cases h
   | some rr=>
    rw [he] at h;simp only [TG,Ti,Tj] at h;obtain ⟨rfl,rfl⟩:=h;obtain ⟨xs,ys,rfl,rfl,hg,hq⟩:=key ks rr ht he;exact ⟨.bool (!rr),by rw [run_neq_struct,hq];rfl, .v _,run_eqGuard_agg w _ T X Y xs ys hg⟩
  ·cases h
 ·obtain rfl:=hx.bZ;obtain rfl:=hy.bZ;refine fin r ?_ rfl ⟨fun xs ys e=>(by cases e.1),fun e=>by cases e⟩
  split at h
  ·rename_i hT;unfold qH at hT
   split at hT
   ·rename_i e hu
    split at h
    ·cases h;exact ⟨_,qt rfl (wO 9999 hu),rfl⟩
    ·cases h;exact ⟨_,qS rfl (wO 9999 hu),rfl⟩
    ·cases h
   ·cases hT
  ·cases h
 ·obtain rfl:=hy.bZ;obtain ⟨ad,rfl⟩:=tp hx (.inl ⟨_,rfl⟩);refine fin r ?_ rfl ⟨fun xs ys e=>(by cases e.1),fun e=>by cases e⟩
  split at h
  ·rename_i hT
   split at h
   ·cases h;exact ⟨_,(pK hT).1,rfl⟩
   ·cases h;exact ⟨_,(pK hT).2,rfl⟩
   ·cases h
  ·cases h
 ·obtain rfl:=hy.bZ;obtain ⟨ad,rfl⟩:=tp hx (.inr ⟨_,_,_,_,_,rfl⟩);refine fin r ?_ rfl ⟨fun xs ys e=>(by cases e.1),fun e=>by cases e⟩
  split at h
  ·rename_i hT
   split at h
   ·cases h;exact ⟨_,(pK hT).1,rfl⟩
   ·cases h;exact ⟨_,(pK hT).2,rfl⟩
   ·cases h
  ·cases h
 ·rename_i z rows len;obtain rfl:=hy.bZ
  split at h
  ·rename_i hT
   have hne:rows≠[]-> ∃ad n c,x = .slice (some ad) n c:=fun hne=>by
    cases hx with
    | bf=>exact absurd rfl hne
    | bA=>exact absurd rfl hne
    | aI _ _ _ b off cap f=>exact ⟨_,_,_,rfl⟩
   split at h
   ·cases h;obtain ⟨ad,n,c,rfl⟩:=hne hp;exact fin _ ⟨_,(oy hT).1,rfl⟩ rfl ⟨fun xs ys e=>(by cases e.1),fun e=>by cases e⟩
   ·cases h;obtain ⟨ad,n,c,rfl⟩:=hne hp;exact fin _ ⟨_,(oy hT).2,rfl⟩ rfl ⟨fun xs ys e=>(by cases e.1),fun e=>by cases e⟩
   ·cases h
  ·cases h
 ·obtain rfl:=hx.bZ;obtain rfl:=hy.bZ;refine fin r ?_ rfl ⟨fun xs ys e=>(by cases e.1),fun e=>by cases e⟩
  split at h
  ·rename_i hT
   split at h
   ·cases h;exact ⟨_,(oy hT).1,rfl⟩
   ·cases h;exact ⟨_,(oy hT).2,rfl⟩
   ·cases h
  ·cases h
 ·obtain rfl:=hy.bZ
  split at h
  ·rename_i hT
   cases hx with
   | fn g first caps fi ca=>
    split at h
    ·cases h;exact fin _ ⟨_,(E6 hT).1,rfl⟩ rfl ⟨fun xs ys e=>(by cases e.1),fun e=>by cases e⟩
    ·cases h;exact fin _ ⟨_,(E6 hT).2,rfl⟩ rfl ⟨fun xs ys e=>(by cases e.1),fun e=>by cases e⟩
    ·cases h
  ·cases h
 ·cases h
def OK (op:UnOp):AV->Option AV
 | .v (.bool b)=>match op with
  | .not=>some (.v (.bool (!b)))
  | _=>none
 | .v (.int k n)=>match op with
  | .neg=>some (.v (.int k (k.wrap (0 - n))))
  | _=>none
 | _=>none
theorem JN {op:UnOp} {a:AV} {x:Value} (hx:RA D nu o w a x) {r:AV} (h:OK op a=some r): ∃v,(Op.unary op x).run P w = .ok v w∧RA D nu o w r v:=by
 unfold OK at h
 split at h
 ·obtain rfl:=hx.bZ
  split at h
  ·cases h;exact ⟨_,rfl, .v _⟩
  ·cases h
 ·obtain rfl:=hx.bZ
  split at h
  ·cases h;exact ⟨_,rfl, .v _⟩
  ·cases h
 ·cases h
def vW (P:Program) (src dst:TypeId):AV->Option AV
 | .v (.int _ n)=>match P.underlying src,P.underlying dst with
  | some _,some (.int k)=>some (.v (.int k (k.wrap n)))
  | _,_=>none
 | .v (.string s)=>match P.underlying src,P.underlying dst with
  | some .string,some .string=>some (.v (.string s))
  | _,_=>none
 | _=>none
theorem sH {src dst:TypeId} {a:AV} {x:Value} (hx:RA D nu o w a x) {r:AV} (h:vW P src dst a=some r): ∃v,(convert src dst x).run P w = .ok v w∧RA D nu o w r v:=by
 unfold vW at h
 split at h
 ·obtain rfl:=hx.bZ
  split at h
  ·rename_i d k h1 h2;cases h;exact ⟨_,by simp [convert,run_underlying h1,run_underlying h2,Conv.intToInt], .v _⟩
  ·cases h
 ·obtain rfl:=hx.bZ
  split at h
  ·rename_i h1 h2;cases h;exact ⟨_,by simp [convert,run_underlying h1,run_underlying h2], .v _⟩
  ·cases h
 ·cases h
def bytesOf:List (List AV)->Option (List Int)
 | []=>some []
 | [.v (.int .u8 n)] :: l=>match bytesOf l with
  | some ns=>some (n :: ns)
  | none=>none
 | _=>none
theorem mB: ∀ {rows:List (List AV)} {ns:List Int},bytesOf rows=some ns->rows=ns.map (fun n=>[AV.v (.int .u8 n)])
 | [],ns,h=>by cases h;rfl
 | row :: l,ns,h=>by
  unfold bytesOf at h
  split at h
  ·rename_i e;cases e
  ·rename_i n l' e;cases e
   split at h
   ·rename_i ns' e';cases h;rw [mB e'];rfl
   ·cases h
  ·cases h
def ue (P:Program) (o:List (Option aa)) (src dst:TypeId) (a:AV):Option (Prop×AV):=match P.underlying src,P.underlying dst with
 | some (.slice e),some .string=>match P.underlying e,lP o 1 a with
  | some (.int .u8),some (p,rows)=>match bytesOf rows with
   | some ns=>some (p, .v (.string ⟨(ns.map (fun n=>UInt8.ofNat n.toNat)).toArray⟩))
   | none=>none
  | _,_=>none
 | _,_=>none
theorem rk: ∀(ns:List Int) (r:ByteArray),ns.foldl (fun r n=>r.push (UInt8.ofNat n.toNat)) r=⟨r.data++(ns.map (fun n=>UInt8.ofNat n.toNat)).toArray⟩
 | [],r=>by simp
 | n :: ns,r=>by
  simp only [List.foldl_cons];rw [rk ns];simp [ByteArray.push]
theorem zd {src dst:TypeId} (h:RO D nu o w) {a:AV} {x:Value} (hx:RA D nu o w a x) {p:Prop} {r:AV} (ha:ue P o src dst a=some (p,r)) (hp:p): ∃v,(convert src dst x).run P w = .ok v w∧RA D nu o w r v:=by
 unfold ue at ha
 split at ha
 ·rename_i e hs hd
  split at ha
  ·rename_i p' rows he hsrc
   split at ha
   ·rename_i ns hns;simp only [Ti,Tj] at ha;obtain ⟨rfl,rfl⟩:=ha;obtain rfl:=mB hns
    rcases gP h (by decide) hx hsrc hp with ⟨rfl,h0⟩|⟨g,c,news,rfl,hL,hcell⟩
    ·obtain rfl:ns=[]:=by simpa using h0
     exact ⟨_,run_convert_bytes_nil w src e hs he 0 0 dst hd, .v _⟩
    ·have hlen:news.length=ns.length:=by have:=hL.len;simpa using this
     have hnews:news=ns.map (Value.int .u8):=by
      refine List.ext_getElem? (fun i=> ?_)
      rcases S9 i ns.length with hi|hi
      ·obtain ⟨u,h1,h2⟩:=hL.cell i 0 [.v (.int .u8 ns[i])] _ (by simp [hi]) rfl;obtain rfl:=h2.bZ;simp only [Nat.mul_one,Nat.add_zero] at h1;rw [h1];simp [hi]
      ·rw [Tt (by omega),Tt (by simpa using hi)]
     subst hnews;have hl:=run_loadCells_list (P:=P) w g (ns.map (Value.int .u8)) (fun j v hj=>hcell j v hj);simp only [T1] at hl;refine ⟨_, ?_, .v _⟩;rw [run_convert_bytes_string w src dst e _ _ c hs he hd];simp only [T1];rw [run_bytesToString w g ns.length c ns hl,rk];have he0:ByteArray.empty.data = #[]:=rfl;rw [he0];simp
   ·cases ha
  ·cases ha
 ·cases ha
def Kd (s:ByteArray) (i:Nat):Nat:=(s.data.toList.getD i 0).toNat
def uh (P:Program) (T:TypeId):AV->AV->Option (Prop×AV)
 | .v (.string s), .v (.int _ i)=>match P.underlying T with
  | some .string=>some (0<=i∧i<s.size, .v (.int .u8 (Kd s i.toNat)))
  | _=>none
 | .agg cs, .v (.int _ i)=>match P.underlying T with
  | some (.array n e)=>match cp P e,aY P e with
   | some false,some z=>match cs[i.toNat * z]? with
    | some c=>some (0<=i∧i<n,c)
    | none=>none
   | some true,some z=>some ((0<=i∧i<n)∧i.toNat * z+z<=cs.length, .agg ((cs.drop (i.toNat * z)).take z))
   | _,_=>none
  | _=>none
 | _,_=>none
theorem zB {T:TypeId} {a i:AV} {x y:Value} (hx:RA D nu o w a x) (hy:RA D nu o w i y) {p:Prop} {r:AV} (h:uh P T a i=some (p,r)) (hp:p): ∃v,(Instr.index T x y).run P w = .ok v w∧RA D nu o w r v:=by
 unfold uh at h
 split at h
 ·rename_i s k i';obtain rfl:=hx.bZ;obtain rfl:=hy.bZ
  split at h
  ·rename_i hu;cases h;obtain ⟨h1,h2⟩:=hp
   have hlt:i'.toNat<s.size:=by omega
   have e:s[i'.toNat]? = some s[i'.toNat]:=by simp [hlt]
   have e2:(s.data.toList.getD i'.toNat 0)=s[i'.toNat]:=by
    have hl:i'.toNat<s.data.toList.length:=by simpa using hlt
    rw [T3,Tn hl]
    rfl
   refine ⟨_, ?_, .v _⟩;simp only [Instr.index,asIntOf,Sem.run_bind,Sem.run_pure,Result.andThen_ok,run_underlying hu,h1,if_true,e,Kd,e2]
  ·cases h
 ·rename_i cs k i';obtain rfl:=hy.bZ
  split at h
  ·rename_i n e hu
   split at h
   ·rename_i z e1 e2
    split at h
    ·rename_i c hc;cases h
     cases hx with
     | agg _ xs k1 k2 k3=>
     have hlt:i'.toNat * z<xs.size:=by rw [<-k1];exact (S7.1 hc).1
     have hx:xs[i'.toNat * z]? = some xs[i'.toNat * z]:=Tm hlt;refine ⟨xs[i'.toNat * z], ?_,k2 _ _ _ hc hx⟩;simp [Instr.index,asIntOf,run_underlying hu,hp,part,ew e1,run_sizeOf e2,hx]
    ·cases h
   ·rename_i z e1 e2;cases h;obtain ⟨hp1,hp2⟩:=hp
    cases hx with
    | agg _ xs k1 k2 k3=>
    refine ⟨.agg (xs.extract (i'.toNat * z) (i'.toNat * z+z)),by simp [Instr.index,asIntOf,run_underlying hu,hp1,part,ew e1,run_sizeOf e2], .agg _ _ (by simp;omega) (fun j c x h1 h2=> ?_) (fun j x h2=> ?_)⟩
    ·rw [List.getElem?_take] at h1;rw [TO] at h2
     split at h1
     ·split at h2
      ·rw [List.getElem?_drop] at h1;exact k2 _ _ _ h1 h2
      ·cases h2
     ·cases h1
    ·rw [TO] at h2
     split at h2
     ·exact k3 _ _ h2
     ·cases h2
   ·cases h
  ·cases h
 ·cases h
def mo (i:Nat):AV->Option AV
 | .ct vs=>vs[i]?
 | _=>none
theorem uC {i:Nat} {a:AV} {x:Value} (hx:RA D nu o w a x) {r:AV} (h:mo i a=some r): ∃v,(Instr.extract x i).run P w = .ok v w∧RA D nu o w r v:=by
 unfold mo at h
 split at h
 ·cases hx with
  | ct _ xs h1 h2=>
   have hlt:i<xs.size:=by rw [<-h1];exact (S7.1 h).1
   have e:xs[i]? = some xs[i]:=Tm hlt;exact ⟨xs[i],by simp [Instr.extract,e],h2 i r _ h e⟩
 ·cases h
def Ej (P:Program) (T:TypeId):AV->Option AV
 | .aI _ _ len=>match P.underlying T with
  | some (.slice _)=>some (.v (.int .i64 len))
  | _=>none
 | .v (.string s)=>match P.underlying T with
  | some .string=>some (.v (.int .i64 s.size))
  | _=>none
 | .v (.slice none 0 0)=>match P.underlying T with
  | some (.slice _)=>some (.v (.int .i64 0))
  | _=>none
 | .mp rows=>match P.underlying T with
  | some (.map _ _)=>some (.v (.int .i64 rows.length))
  | _=>none
 | _=>none
def AG (P:Program) (T:TypeId) (o:List (Option aa)):AV->Option (Prop×AV)
 | .vec id len=>match o[id]?,P.underlying T with
  | some (some ob),some (.slice _)=>some (ob.dj=true∧ob.rows.length=len, .v (.int .i64 len))
  | some (some ob),some (.map _ _)=>some (ob.dj=false∧ob.z=0∧len=0, .v (.int .i64 ob.rows.length))
  | _,_=>none
 | a=>(Ej P T a).map fun r=>(True,r)
theorem FE {T:TypeId} (ty:TypeId) {a:AV} {x:Value} (hr:RO D nu o w) (hx:RA D nu o w a x) {p:Prop} {r:AV} (h:AG P T o a=some (p,r)) (hp:p): ∃v,(Builtin.len_ #[T] ty #[x]).run P w = .ok v w∧RA D nu o w r v:=by
 have plain: ∀a,RA D nu o w a x-> ∀r,Ej P T a=some r-> ∃v,(Builtin.len_ #[T] ty #[x]).run P w = .ok v w∧RA D nu o w r v:=by
  intro a hx r h;unfold Ej at h
  split at h
  ·split at h
   ·rename_i hu;cases h
    cases hx with
    | bf=>exact ⟨_,by simp [Builtin.len_,run_underlying hu,goInt], .v _⟩
    | bA=>exact ⟨_,by simp [Builtin.len_,run_underlying hu,goInt], .v _⟩
    | aI=>exact ⟨_,by simp [Builtin.len_,run_underlying hu,goInt], .v _⟩
   ·cases h
  ·obtain rfl:=hx.bZ
   split at h
   ·rename_i hu;cases h;exact ⟨_,by simp [Builtin.len_,run_underlying hu,goInt], .v _⟩
   ·cases h
  ·obtain rfl:=hx.bZ
   split at h
   ·rename_i hu;cases h;exact ⟨_,by simp [Builtin.len_,run_underlying hu,goInt], .v _⟩
   ·cases h
  ·split at h
   ·rename_i hu;cases h
    cases hx with
    | mp _ b es cl h1 h2 h3=>exact ⟨.int .i64 es.size,by simp [Builtin.len_,run_underlying hu,MapKept.run_getObj_map h2,goInt],by rw [h3];exact .v _⟩
   ·cases h
  ·cases h
 unfold AG at h
 split at h
 ·rename_i id len
  split at h
  ·rename_i ob e ho hu;cases h;obtain ⟨hv,rfl⟩:=hp;cases hx;obtain ⟨xs,hown,_⟩:=hr.pJ ho hv
   rcases hown.2 with ⟨e1,e2⟩|⟨g,cap,cur,e1,_⟩
   ·rw [e1];refine ⟨.int .i64 0,by simp [Builtin.len_,run_underlying hu,goInt], ?_⟩;rw [e2];exact .v _
   ·rw [e1];exact ⟨_,by simp [Builtin.len_,run_underlying hu,goInt], .v _⟩
  ·rename_i ob e1 e2 ho hu;cases h;obtain ⟨hV,hz,rfl⟩:=hp;cases hx
   rcases hr.obj id ob ho with ⟨q1,_⟩|⟨g,cur,hb⟩|⟨g,es,cl,hmp⟩
   ·rw [hV] at q1;cases q1
   ·have:=hb.z;omega
   ·rw [hmp.pq];exact ⟨.int .i64 es.size,by simp [Builtin.len_,run_underlying hu,MapKept.run_getObj_map hmp.cZ,goInt],by rw [hmp.sz];exact .v _⟩
  ·cases h
 ·cases hl:Ej P T a with
  | none=>rw [hl] at h;cases h
  | some r1=>
   rw [hl] at h;simp only [TG,Ti,Tj] at h;obtain ⟨-, rfl⟩:=h;exact plain a hx _ hl
end
end
section
def AS.ev (s:AS):Operand->AV
 | .tmp t=>s.t.getD t .undef
 | .const v=> .v v
 | .global g=>match sR g with
  | some (_,cs)=> .vp (cs.toList.map .v)
  | none=> .v (.pointer (some ⟨g,0,none⟩))
 | .func f=> .fn f [] []
theorem pF {D:Nat->Prop} {nu:Nat->Nat->Value} {o:List (Option aa)} {w:World} (h:RO D nu o w) (s:AS) (g:Nat):RA D nu o w (s.ev (.global g)) (.pointer (some ⟨g,0,none⟩)):=by
 rw [AS.ev]
 split
 ·rename_i T cs hg;obtain ⟨⟨_,h1⟩,h2,h3⟩:=h.gl g T cs hg;refine .vp _ g 0 (fun j=>cs.getD j Go.undef) ⟨(S5.1 h1).1,h2,h3⟩ (fun j c hc=> ?_) (fun j c hc=> ?_) (fun j c hc=> ?_)
  all_goals
   rw [Tq,Array.getElem?_toList] at hc
   cases hx:cs[j]? with
   | none=>rw [hx] at hc;cases hc
   | some x=> ?_
   rw [hx] at hc;obtain rfl:=Option.some.inj hc
   have hx':cs.getD j Go.undef=x:=by simp [Array.getD_eq_getD_getElem?,hx]
  ·rw [hx'];simp [World.cell?,h1,hx]
  ·rw [hx'];exact .v x
  ·rw [hx'];exact Cw g T cs hg j x hx
 ·exact .v _
def AS.put (s:AS) (dst:Option Tmp) (r:AV) (o':List (Option aa)):AS:=⟨match dst with|some d=>s.t.set d r|none=>s.t,o',s.y⟩
def nA (P:Program) (ev:Operand->AV) (o:List (Option aa)):Builtin->List Operand->List TypeId->Option (Prop×AV)
 | .len,[x],[T]=>AG P T o (ev x).st
 | .min,[x,y],_=>match ev x,ev y with
  | .v (.int k a), .v (.int _ b)=>some (True, .v (.int k (if b<a then b else a)))
  | _,_=>none
 | .max,[x,y],_=>match ev x,ev y with
  | .v (.int k a), .v (.int _ b)=>some (True, .v (.int k (if b > a then b else a)))
  | _,_=>none
 | _,_,_=>none
def wa (P:Program) (ev:Operand->AV) (o:List (Option aa)):Op->Option (Prop×AV)
 | .move x| .assign x=>some (True,ev x)
 | .nilCheck x=>match ev x with
  | .vp cs=>some (True, .vp cs)
  | .ptr id len z row off=>some (True, .ptr id len z row off)
  | .fn g f c=>some (True, .fn g f c)
  | _=>none
 | .build T parts=>match ud P T (parts.toList.map fun p=>(p.1,ev p.2)) with
  | some r=>some (True,r)
  | none=>none
 | .load T x=>vX P T o (ev x)
 | .binOp op T x y _=>Ht P op T (ev x) (ev y)
 | .unOp op _ x=>match OK op (ev x) with
  | some r=>some (True,r)
  | none=>none
 | .convert src dst x=>match vW P src dst (ev x) with
  | some r=>some (True,r)
  | none=>none
 | .makeFunc (.func f) first caps=>some (True, .fn f (first.toList.map ev) (caps.toList.map ev))
 | .fieldAddr T x f=>match jd P T f (ev x) with
  | some r=>some (True,r)
  | none=>none
 | .field T x f=>uf P T f (ev x)
 | .indexAddr T x i=>je P T o (ev x).st (ev i)
 | .index T x i=>uh P T (ev x) (ev i)
 | .lookup T m k ok=>vY P T o (ev m) (ev k) ok
 | .extract x i=>match mo i (ev x) with
  | some r=>some (True,r)
  | none=>none
 | .call c=>match c.callee with
  | .builtin b=>nA P ev o b c.args.toList c.argTypes.toList
  | _=>none
 | _=>none
def pT (P:Program) (ev:Operand->AV) (o:List (Option aa)):List Operand->List TypeId->Option (Prop×AV×List (Option aa))
 | [x,y],[T,T']=>if T=T' then py P T o (ev x) (ev y).st else none
 | _,_=>none
def AE (P:Program) (T:TypeId) (o:List (Option aa)) (a b:AV):Option (Prop×AV×List (Option aa)):=
 match gR P T,a with
 | some (e,z,bytes), .vec id len=>match o[id]?,lP o z b with
  | some (some ob),some (p,rows2)=>some ((ob.dj=true∧ob.z=z∧ob.T=e∧ob.rows.length=len)∧p∧rows2.length=len, .v (.int .i64 (len:Nat)),o.set id (some { ob with rows:=rows2 }))
  | _,_=>none
 | _,_=>none
def yO (P:Program) (ev:Operand->AV) (o:List (Option aa)):List Operand->List TypeId->Option (Prop×AV×List (Option aa))
 | [x,y],[T,T']=>if T=T' then AE P T o (ev x) (ev y).st else none
 | _,_=>none
section
variable {D:Nat->Prop} {nu:Nat->Nat->Value} {o:List (Option aa)} {w:World}
theorem Af {P:Program} (w:World) (T ty e:TypeId) {i:TypeInfo} (hu:P.underlying T=some (.slice e)) (hi:P.info? e=some i) (g n dcap:Nat) (a:Addr) (scap:Nat) (cur:Array Value) (t:TypeId) (news:List Value)
  (hg:w.heap[g]? = some (.cells cur t (0,0))) (hN:news.length=n * i.size) (hcell: ∀j u,news[j]? = some u->w.cell? (a.add j)=some u) (hsz:news.length<=cur.size) (h1: ∀v∈news,v.oneCell'=true) :
  (Builtin.copy_ #[T,T] ty #[.slice (some ⟨g,0,none⟩) n dcap, .slice (some a) n scap]).run P w = .ok (goInt n) (w.setRow g (news++cur.toList.drop news.length).toArray):=by
 have hl:=run_loadCells_list (P:=P) w a news hcell;have hst:=run_storeCells_at P g 0 t news 0 cur w hg (by simpa using hsz) h1;simp only [Nat.zero_add,List.take_zero,List.nil_append] at hst;simp [Builtin.copy_,run_underlying hu,Builtin.lenOf,Builtin.firstCells,sizeOf,typeInfo,hi, <- hN,hl,hst]
theorem Ae {P:Program} (w:World) (T ty e:TypeId) {i:TypeInfo} (hu:P.underlying T=some (.slice e)) (hi:P.info? e=some i) (d a:Option Addr) (dcap scap:Nat) :
  (Builtin.copy_ #[T,T] ty #[.slice d 0 dcap, .slice a 0 scap]).run P w = .ok (goInt 0) w:=by
 have hl: ∀(x:Addr),(loadCells x 0).run P w = .ok #[] w:=fun x=>by simpa using run_loadCells_list (P:=P) w x [] (by simp)
 cases d<;>cases a<;>simp [Builtin.copy_,run_underlying hu,Builtin.lenOf,Builtin.firstCells,sizeOf,typeInfo,hi,storeCells,hl]
theorem Cx {P:Program} {T:TypeId} (ty:TypeId) {e:TypeId} {z bytes:Nat} (ht:gR P T=some (e,z,bytes)) (h:RO D nu o w) {id:Nat} {ob:aa} (ho:o[id]? = some (some ob)) (hv:ob.dj=true) (hz:ob.z=z) (hT:ob.T=e) {b:AV} {y:Value} (hs:RA D nu o w b y)
  {p:Prop} {rows2:List (List AV)} (e2:lP o z b=some (p,rows2)) (hp:p) (hlen:rows2.length=ob.rows.length) :
  Good D nu o w ((Builtin.copy_ #[T,T] ty #[nu id ob.rows.length,y]).run P w) (.v (.int .i64 (ob.rows.length:Nat))) (o.set id (some { ob with rows:=rows2 })):=by
 obtain ⟨hu,i,zv,hi,hzv,hzs,hz0,hsize,hbytes⟩:=eH ht;obtain ⟨xs,hown,hL,hob⟩:=h.pJ ho hv
 have hhl:ob.hl=ob.rows.length:=by simp [aa.hl,hv]
 have none':rows2=[]->o.set id (some { ob with rows:=rows2 })=o:=fun h0=>by
  subst h0;have hr0:ob.rows=[]:=TL (by simpa using hlen.symm)
  have e1:({ ob with rows:=[] }:aa)=ob:=by rw [<-hr0]
  rw [e1]
  apply List.ext_getElem?
  intro k
  by_cases hk:id=k
  ·subst hk;rw [Tw (S7.1 ho).1];exact ho.symm
  ·rw [Tv hk]
 have shape: ∃d dcap,nu id ob.rows.length = .slice d ob.rows.length dcap:=by
  rcases hown.2 with ⟨e4,e5⟩|⟨g',cap,cur,e4,_⟩
  ·exact ⟨none,0,by rw [e4];simp [e5]⟩
  ·exact ⟨_,_,e4⟩
 have zero:rows2=[]-> ∀a c,y = .slice a 0 c->Good D nu o w ((Builtin.copy_ #[T,T] ty #[nu id ob.rows.length,y]).run P w) (.v (.int .i64 (ob.rows.length:Nat))) (o.set id (some { ob with rows:=rows2 })):=by
  intro h0 a c ey;rw [none' h0]
  have hn0:ob.rows.length=0:=by rw [<-hlen,h0];rfl
  obtain ⟨d,dcap,ed⟩:=shape;rw [ed,ey,hn0];exact Good.pure h (.v _) (Ae w T ty e hu hi d a dcap c)
 rcases gP h hz0 hs e2 hp with ⟨rfl,h0⟩|⟨ga,c,news,rfl,hN,hcell⟩
 ·exact zero h0 _ _ rfl
 ·by_cases h0:rows2=[]
  ·exact zero h0 (some ga) c (by rw [h0];rfl)
  ·have hpos:0<rows2.length:=List.length_pos_iff.2 h0
   rcases h.obj id ob ho with e|⟨g,cur,hr⟩|⟨g,es,cl,hmp⟩
   ·obtain ⟨_,e2,_⟩:=e;exact absurd (TL (by rw [hlen,e2];rfl)) h0
   ·obtain ⟨cap,e4,hcap,hcm,hsz⟩:=hr.vec hv
    have hnl:news.length<=cur.size:=by rw [hN.len,hsz,hz,hlen];exact Nat.mul_le_mul_right _ hcap
    have hrun:=Af (P:=P) w T ty e hu hi g ob.rows.length cap ga c cur ob.T news hr.cZ (by rw [hN.len,hlen,hsize]) hcell hnl hN.one
    have hg:cr (nu id ob.hl)=some g:=by rw [hhl,e4];rfl
    rw [e4,hlen,hrun];generalize hcur:(news++cur.toList.drop news.length).toArray=cur'
    have h5: ∀b,b≠g->(w.setRow g cur').heap[b]? = w.heap[b]? :=fun b hb=>by simp [World.setRow,T4,Ne.symm hb]
    have h6:(w.setRow g cur').heap[g]? = some (.cells cur' ob.T (0,0)):=by simp [World.setRow,T4,hr.cZ]
    have hm:=gO (w:=w) (ob':={ ob with rows:=rows2 }) (w':=w.setRow g cur') ho (by simp [aa.hl,hv,hlen]) hg rfl rfl rfl (by simp [World.setRow]) h5;refine ⟨_,_,nu,rfl,hm,ox h ho (by simp [aa.hl,hv,hlen]) hg hm h5 (cur:=cur') ?_, .v _⟩
    have hat: ∀(i j:Nat) row c,rows2[i]? = some row->row[j]? = some c-> ∃x,cur'[i * ob.z+j]? = some x∧RA D nu o w c x∧x.oneCell'=true:=by
     intro i j row c q1 q2;obtain ⟨x,x1,x2⟩:=hN.cell i j row c q1 q2;refine ⟨x, ?_,x2,hN.one x (TI x1)⟩;rw [hz, <- hcur];simp only [Tp];rw [S8 (S7.1 x1).1];exact x1
    refine ⟨h6,hr.j9,fun e'=>by simp [hv] at e',fun _=>⟨cap, ?_, ?_,hcm, ?_⟩,hr.z, ?_,fun i j row c x q1 q2 q3=> ?_,fun i j row c x q1 q2 q3=> ?_⟩
    ·simp only [hlen];exact e4
    ·simp only [hlen];exact hcap
    ·rw [<-hcur];simp;omega
    ·intro i row q;simp only at q ⊢; rw [hz];exact hN.row i row q
    ·obtain ⟨u,u1,u2,u3⟩:=hat i j row c q1 q2;rw [u1] at q3;cases q3;exact u2.mono hm (fun _ _ h=>h)
    ·obtain ⟨u,u1,u2,u3⟩:=hat i j row c q1 q2;rw [u1] at q3;cases q3;exact u3
   ·have:=hmp.dj;simp [hv] at this
theorem zp {P:Program} {T:TypeId} (ty:TypeId) (h:RO D nu o w) {a b:AV} {x y:Value} (hr:RA D nu o w a x) (hs:RA D nu o w b y) {p:Prop} {r:AV} {o':List (Option aa)} (hl:AE P T o a b=some (p,r,o')) (hp:p) :
  Good D nu o w ((Builtin.copy_ #[T,T] ty #[x,y]).run P w) r o':=by
 unfold AE at hl
 split at hl
 ·rename_i e z bytes id len ht
  split at hl
  ·rename_i ob p' rows2 ho e2;simp only [Ti,Tj] at hl;obtain ⟨rfl,rfl,rfl⟩:=hl;obtain ⟨⟨hv,hz,hT,rfl⟩,hp',hlen⟩:=hp;cases hr;exact Cx ty ht h ho hv hz hT hs e2 hp' hlen
  ·cases hl
 ·cases hl
end
def pz (P:Program) (op:BinOp) (T:TypeId) (o:List (Option aa)):AV->AV->Option (Prop×AV)
 | .vec id len, .v (.slice none 0 0)=>if sV P T then (match o[id]? with
  | some (some ob)=>(match op with
   | .eql=>some (ob.dj=true∧ob.rows.length=len∧0<len, .v (.bool false))
   | .neq=>some (ob.dj=true∧ob.rows.length=len∧0<len, .v (.bool true))
   | _=>none)
  | _=>none) else none
 | _,_=>none
section
variable {D:Nat->Prop} {nu:Nat->Nat->Value} {o:List (Option aa)} {w:World} {P:Program}
theorem yi {op:BinOp} {T:TypeId} {a b:AV} {x y:Value} (h:RO D nu o w) (hx:RA D nu o w a x) (hy:RA D nu o w b y) {p:Prop} {r:AV} (ha:pz P op T o a b=some (p,r)) (hp:p) (X Y:Operand) :
  ∃v,(binOp op T x y).run P w = .ok v w∧RA D nu o w r v∧(eqGuard op T X Y x y).run P w = .ok () w:=by
 unfold pz at ha
 split at ha
 ·rename_i id len
  split at ha
  ·rename_i hT
   split at ha
   ·rename_i ob ho
    have key:ob.dj=true∧ob.rows.length=len∧0<len-> ∃g n c,x = .slice (some g) n c:=fun ⟨hv,hl,hpos⟩=>by
     subst hl;cases hx
     rcases h.obj id ob ho with ⟨_,e2,_⟩|⟨g,cur,hb⟩|⟨g,es,cl,hmp⟩
     ·rw [e2] at hpos;simp at hpos
     ·obtain ⟨cap,q1,_⟩:=hb.vec hv;exact ⟨_,_,_,q1⟩
     ·have:=hmp.dj;rw [this] at hv;cases hv
    obtain rfl:=hy.bZ
    split at ha
    ·simp only [Ti,Tj] at ha;obtain ⟨rfl,rfl⟩:=ha;obtain ⟨g,n,c,rfl⟩:=key hp;exact ⟨_,(oy hT).1, .v _,ki (fun _ _ e=>by cases e.1) (fun e=>by cases e)⟩
    ·simp only [Ti,Tj] at ha;obtain ⟨rfl,rfl⟩:=ha;obtain ⟨g,n,c,rfl⟩:=key hp;exact ⟨_,(oy hT).2, .v _,ki (fun _ _ e=>by cases e.1) (fun e=>by cases e)⟩
    ·cases ha
   ·cases ha
  ·cases ha
 ·cases ha
end
def H2 (P:Program) (ev:Operand->AV) (o:List (Option aa)) (op:Op):Option (Prop×AV×List (Option aa)):=
 match op with
 | .box T x=>match (ev x).cells? with
  | some (c :: cs)=>some (True, .ptr o.length 0 (cs.length+1) 0 0,o++[some ⟨T,cs.length+1,false,[c :: cs]⟩])
  | _=>none
 | .alloc T=>match b6 P T with
  | some (c :: cs)=>some (True, .ptr o.length 0 (cs.length+1) 0 0,o++[some ⟨T,cs.length+1,false,[c :: cs]⟩])
  | _=>none
 | .buildSlice T len parts=>match ee P T len o (parts.toList.map fun p=>(p.1,ev p.2)) with
  | some (r,o')=>some (True,r,o')
  | none=>none
 | .store T a x=>match uk P T o (ev a) (ev x) with
  | some (p,o')=>some (p, .v Go.undef,o')
  | none=>none
 | .makeSlice T l c=>AH P T o (ev l) (ev c)
 | .makeMap T none=>some (True, .vec o.length 0,o++[some ⟨T,0,false,[]⟩])
 | .mapUpdate T m k x=>match pW P T o (ev m) (ev k) (ev x) with
  | some (p,o')=>some (p, .v Go.undef,o')
  | none=>none
 | .insert T m k x=>match pW P T o (ev m) (ev k) (ev x) with
  | some (p,o')=>some (p, .v Go.undef,o')
  | none=>none
 | .lookup T m k ok=>match vY P T o (ev m) (ev k) ok with
  | some (p,r)=>some (p,r,o)
  | none=>none
 | .convert src dst x=>match vW P src dst (ev x) with
  | some r=>some (True,r,o)
  | none=>match ue P o src dst (ev x).st with
   | some (p,r)=>some (p,r,o)
   | none=>none
 | .slice T x lo hi mx=>lO P T o (ev x).st (lo.map ev) (hi.map ev) (mx.map ev)
 | .binOp op T x y T'=>match wa P ev o (.binOp op T x y T') with
  | some (p,r)=>some (p,r,o)
  | none=>match pz P op T o (ev x) (ev y) with
   | some (p,r)=>some (p,r,o)
   | none=>none
 | .call c=>match c.callee with
  | .builtin .append=>pT P ev o c.args.toList c.argTypes.toList
  | .builtin .copy=>yO P ev o c.args.toList c.argTypes.toList
  | _=>match wa P ev o (.call c) with
   | some (p,r)=>some (p,r,o)
   | none=>none
 | op=>match wa P ev o op with
  | some (p,r)=>some (p,r,o)
  | none=>none
section
variable {D:Nat->Prop} {nu:Nat->Nat->Value} {o:List (Option aa)} {w:World} {P:Program}
def G8 (D:Nat->Prop) (nu:Nat->Nat->Value) (o:List (Option aa)) (w:World) (ev:Operand->AV) (rho:Operand->Value) (op:Op):Prop:= ∀x,x∈op.operands.toList->RA D nu o w (ev x) (rho x)
theorem iG {ev:Operand->AV} {rho:Operand->Value} {oo:Oper} (h:RO D nu o w) (hev:G8 D nu o w ev rho oo.op) {p:Prop} {r:AV} (ha:wa P ev o oo.op=some (p,r)) (hp:p) :
  ∃v,(execOp rho oo).run P w = .ok (.value v) w∧RA D nu o w r v:=by
 obtain ⟨dst,op,ty,pos,after,guard⟩:=oo;simp only [G8] at hev ha;unfold wa at ha
 split at ha
 ·rename_i x;cases ha;exact ⟨rho x,rfl,hev x (by simp [Op.operands])⟩
 ·rename_i x;cases ha;exact ⟨rho x,rfl,hev x (by simp [Op.operands])⟩
 ·rename_i x;have hx:=hev x (by simp [Op.operands]);generalize hq:rho x=vx at hx
  split at ha
  ·rename_i e;rw [e] at hx;cases ha;refine ⟨vx, ?_,hx⟩;cases hx;simp only [execOp,hq,Sem.run_pure]
  ·rename_i e;rw [e] at hx;cases ha;refine ⟨vx, ?_,hx⟩;cases hx;simp only [execOp,hq,Sem.run_pure]
  ·rename_i e;rw [e] at hx;cases ha;refine ⟨vx, ?_,hx⟩;cases hx;simp only [execOp,hq,Sem.run_pure]
  ·cases ha
 ·rename_i T parts
  split at ha
  ·rename_i r' hb;cases ha
   obtain ⟨v,h1,h2⟩:=zo (P:=P) (vs:=parts.map fun (i,x)=>(i,rho x)) (by simp) (fun k p q a b=>by
    rw [Tq] at a;rw [T5] at b
    have e:parts.toList[k]? = parts[k]? :=by simp
    rw [e] at a
    cases hk:parts[k]? with
    | none=>rw [hk] at a;cases a
    | some pr=>
     rw [hk] at a b;cases a;cases b
     exact ⟨rfl,hev pr.2 (by
      simp only [Op.operands]
      have:pr∈parts.toList:=TI (by rw [e];exact hk)
      simpa using ⟨pr.1,by simpa using this⟩)⟩) hb
   exact ⟨v,by simp [execOp,h1],h2⟩
  ·cases ha
 ·rename_i T x;obtain ⟨v,h1,h2⟩:=kT (P:=P) h (hev x (by simp [Op.operands])) ha hp;exact ⟨v,by simp [execOp,h1],h2⟩
 ·rename_i op' T x y T';obtain ⟨v,h1,h2,h3⟩:=EH (P:=P) (hev x (by simp [Op.operands])) (hev y (by simp [Op.operands])) ha hp x y;exact ⟨v,by simp [execOp,h1,h3],h2⟩
 ·rename_i op' T x
  split at ha
  ·rename_i r' hb;cases ha;obtain ⟨v,h1,h2⟩:=JN (P:=P) (hev x (by simp [Op.operands])) hb;exact ⟨v,by simp [execOp,h1],h2⟩
  ·cases ha
 ·rename_i src dst' x
  split at ha
  ·rename_i r' hb;cases ha;obtain ⟨v,h1,h2⟩:=sH (P:=P) (hev x (by simp [Op.operands])) hb;exact ⟨v,by simp [execOp,h1],h2⟩
  ·cases ha
 ·rename_i f first caps
  cases ha
  refine ⟨.func (.func f) (first.map rho) (caps.map rho),by simp [execOp,Instr.makeFunc], .fn _ _ _ _ _ (by simp) (by simp) (fun i c x q1 q2=> ?_) (fun i c x q1 q2=> ?_)⟩
  ·rw [Tq] at q1;rw [T5] at q2
   have e:first.toList[i]? = first[i]? :=by simp
   rw [e] at q1
   cases hk:first[i]? with
   | none=>rw [hk] at q1;cases q1
   | some pr=>
    rw [hk] at q1 q2;cases q1;cases q2;exact hev pr (by simp only [Op.operands];have:=T6 hk;simp [this])
  ·rw [Tq] at q1;rw [T5] at q2
   have e:caps.toList[i]? = caps[i]? :=by simp
   rw [e] at q1
   cases hk:caps[i]? with
   | none=>rw [hk] at q1;cases q1
   | some pr=>
    rw [hk] at q1 q2;cases q1;cases q2;exact hev pr (by simp only [Op.operands];have:=T6 hk;simp [this])
 ·rename_i T x f
  split at ha
  ·rename_i r' hb;cases ha;obtain ⟨v,h1,h2⟩:=qD (P:=P) (hev x (by simp [Op.operands])) hb;exact ⟨v,by simp [execOp,h1],h2⟩
  ·cases ha
 ·rename_i T x f;obtain ⟨v,h1,h2⟩:=zq (P:=P) (hev x (by simp [Op.operands])) ha hp;exact ⟨v,by simp [execOp,h1],h2⟩
 ·rename_i T x i;obtain ⟨v,h1,h2⟩:=qE (P:=P) h (hev x (by simp [Op.operands])).st (hev i (by simp [Op.operands])) ha hp;exact ⟨v,by simp [execOp,h1],h2⟩
 ·rename_i T x i;obtain ⟨v,h1,h2⟩:=zB (P:=P) (hev x (by simp [Op.operands])) (hev i (by simp [Op.operands])) ha hp;exact ⟨v,by simp [execOp,h1],h2⟩
 ·rename_i T m k ok;obtain ⟨v,h1,h2⟩:=pV (P:=P) h (hev m (by simp [Op.operands])) (hev k (by simp [Op.operands])) ha hp;exact ⟨v,by simp [execOp,h1],h2⟩
 ·rename_i x i
  split at ha
  ·rename_i r' hb;cases ha;obtain ⟨v,h1,h2⟩:=uC (P:=P) (hev x (by simp [Op.operands])) hb;exact ⟨v,by simp [execOp,h1],h2⟩
  ·cases ha
 ·rename_i c
  split at ha
  ·rename_i b hc;have hops: ∀x,x∈c.args.toList->RA D nu o w (ev x) (rho x):=fun x hx=>hev x (by simp only [Op.operands,Call.operands,hc];simpa using hx);obtain ⟨callee,args,argTypes⟩:=c;simp only at hc ha hops;subst hc;obtain ⟨args⟩:=args;obtain ⟨argTypes⟩:=argTypes;simp only at ha hops;unfold nA at ha
   split at ha
   ·rename_i x T;obtain ⟨v,h1,h2⟩:=FE (P:=P) ty h (hops x (by simp)).st ha hp;exact ⟨v,by simp [execOp,resolve,invoke,builtin,h1],h2⟩
   ·rename_i Ts x y;have h1:=hops x (by simp);have h2:=hops y (by simp)
    split at ha
    ·rename_i e1 e2;cases ha;rw [e1] at h1;rw [e2] at h2;have q1:=h1.bZ;have q2:=h2.bZ;exact ⟨_,by simp [execOp,resolve,invoke,builtin,Builtin.min_,Builtin.min2,q1,q2], .v _⟩
    ·cases ha
   ·rename_i Ts x y;have h1:=hops x (by simp);have h2:=hops y (by simp)
    split at ha
    ·rename_i e1 e2;cases ha;rw [e1] at h1;rw [e2] at h2;have q1:=h1.bZ;have q2:=h2.bZ;exact ⟨_,by simp [execOp,resolve,invoke,builtin,Builtin.max_,Builtin.max2,q1,q2], .v _⟩
    ·cases ha
   ·cases ha
  ·cases ha
 ·cases ha
def JW (D:Nat->Prop) (nu:Nat->Nat->Value) (o:List (Option aa)) (w:World) (res:Result Next) (r:AV) (o':List (Option aa)):Prop:=
 ∃v w' nu',(res = .ok (.value v) w'∨(res = .ok .skip w'∧v=Go.undef))∧bl nu o w nu' o' w'∧RO D nu' o' w'∧RA D nu' o' w' r v
theorem Ke {x:Sem Value} {r:AV} {o':List (Option aa)} (h:Good D nu o w (x.run P w) r o'):JW D nu o w ((do pure (Next.value (<-x)):Sem Next).run P w) r o':=by
 obtain ⟨v,w',nu',h1,h2⟩:=h;exact ⟨v,w',nu', .inl (by simp [h1]),h2⟩
theorem iN {ev:Operand->AV} {rho:Operand->Value} {lo:Option Operand} (h: ∀x,lo=some x->RA D nu o w (ev x) (rho x)):(∀c,lo.map ev=some c-> ∃y,lo.map rho=some y∧RA D nu o w c y)∧(lo.map ev=none->lo.map rho=none):=by
 cases lo with
 | none=>exact ⟨fun c hc=>(by cases hc),fun _=>rfl⟩
 | some x=>exact ⟨fun c hc=>by cases hc;exact ⟨_,rfl,h x rfl⟩,fun hc=>by cases hc⟩
theorem wq {T:TypeId} {c:AV} {cs:List AV} {x:Value} (h:RO D nu o w) (hc:Ho D nu o w (c :: cs) x.cells):Good D nu o w ((Instr.box T x).run P w) (.ptr o.length 0 (cs.length+1) 0 0) (o++[some ⟨T,cs.length+1,false,[c :: cs]⟩]):=by
 have:=Fc h T hc (by simp)
 simp only [List.length_cons] at this
 have e:(Instr.box T x).run P w = .ok (.pointer (some ⟨w.heap.size,0,none⟩)) (w.alloc (.cells x.cells T)):=by simp [Instr.box,newVar,newRow]
 rw [e];exact this
theorem wb {ev:Operand->AV} {rho:Operand->Value} {oo:Oper} (h:RO D nu o w) (hev:G8 D nu o w ev rho oo.op) {p:Prop} {r:AV} {o':List (Option aa)} (ha:H2 P ev o oo.op=some (p,r,o')) (hp:p) :
  JW D nu o w ((execOp rho oo).run P w) r o':=by
 unfold H2 at ha
 split at ha
 ·rename_i T x hop;have hx:=hev x (by rw [hop];simp [Op.operands])
  split at ha
  ·rename_i c cs hc;cases ha
   have:=Ke (wq (P:=P) (T:=T) h (hx.one hc))
   simpa only [execOp,hop] using this
  ·cases ha
 ·rename_i T hop
  split at ha
  ·rename_i c cs hc;cases ha;obtain ⟨i,zv,hi,hzv,he,hone⟩:=fC hc
   have hz:(zeroValue T).run P w = .ok zv w:=by simp [zeroValue,typeInfo,hi,hzv]
   have hb:=wq (P:=P) (T:=T) (x:=zv) h (by rw [he];exact vF zv hone)
   have e:(Instr.alloc T true (.tuple #[])).run P w=(Instr.box T zv).run P w:=by simp [Instr.alloc,Instr.box,hz]
   rw [<-e] at hb
   have:=Ke hb
   simpa only [execOp,hop] using this
  ·cases ha
 ·rename_i T len parts hop
  split at ha
  ·rename_i r' o'' hb;cases ha
   have:=Ke (po (P:=P) (vs:=parts.map fun (i,x)=>(i,rho x)) h (by simp) (fun k p q a b=>by
    rw [Tq] at a;rw [T5] at b
    have e:parts.toList[k]? = parts[k]? :=by simp
    rw [e] at a
    cases hk:parts[k]? with
    | none=>rw [hk] at a;cases a
    | some pr=>
     rw [hk] at a b;cases a;cases b
     exact ⟨rfl,hev pr.2 (by
      rw [hop];simp only [Op.operands]
      have:pr∈parts.toList:=TI (by rw [e];exact hk)
      simpa using ⟨pr.1,by simpa using this⟩)⟩) hb)
   simpa only [execOp,hop] using this
  ·cases ha
 ·rename_i T a x hop
  split at ha
  ·rename_i p' o'' hb;cases ha;obtain ⟨w',h1,h2,h3⟩:=zt (P:=P) h (hev a (by rw [hop];simp [Op.operands])) (hev x (by rw [hop];simp [Op.operands])) hb hp;exact ⟨_,w',nu, .inr ⟨by simp [execOp,hop,h1],rfl⟩,h2,h3, .v _⟩
  ·cases ha
 ·rename_i T l c hop
  have:=Ke (Cy (P:=P) h (hev l (by rw [hop];simp [Op.operands])) (hev c (by rw [hop];simp [Op.operands])) ha hp)
  simpa only [execOp,hop] using this
 ·rename_i T hop;cases ha
  have:=Ke (uS h P T)
  simpa [execOp,hop] using this
 ·rename_i T m k x hop
  split at ha
  ·rename_i p' o'' hb;cases ha;obtain ⟨w',h1,h2,h3⟩:=oK (P:=P) h (hev m (by rw [hop];simp [Op.operands])) (hev k (by rw [hop];simp [Op.operands])) (hev x (by rw [hop];simp [Op.operands])) hb hp;exact ⟨_,w',nu, .inr ⟨by simp [execOp,hop,h1],rfl⟩,h2,h3, .v _⟩
  ·cases ha
 ·rename_i T m k x hop
  split at ha
  ·rename_i p' o'' hb;cases ha;obtain ⟨w',h1,h2,h3⟩:=oK (P:=P) h (hev m (by rw [hop];simp [Op.operands])) (hev k (by rw [hop];simp [Op.operands])) (hev x (by rw [hop];simp [Op.operands])) hb hp;exact ⟨_,w',nu, .inr ⟨by simp [execOp,hop,h1],rfl⟩,h2,h3, .v _⟩
  ·cases ha
 ·rename_i T m k ok hop
  split at ha
  ·rename_i p' r' hb;cases ha;obtain ⟨v,h1,h2⟩:=pV (P:=P) h (hev m (by rw [hop];simp [Op.operands])) (hev k (by rw [hop];simp [Op.operands])) hb hp;exact ⟨v,w,nu, .inl (by simp [execOp,hop,h1]), .refl nu o w,h,h2⟩
  ·cases ha
 ·rename_i src dst x hop;have hx:=hev x (by rw [hop];simp [Op.operands])
  split at ha
  ·rename_i r' hb;cases ha;obtain ⟨v,h1,h2⟩:=sH (P:=P) hx hb;exact ⟨v,w,nu, .inl (by simp [execOp,hop,h1]), .refl nu o w,h,h2⟩
  ·split at ha
   ·rename_i p' r' hb;cases ha;obtain ⟨v,h1,h2⟩:=zd (P:=P) h hx.st hb hp;exact ⟨v,w,nu, .inl (by simp [execOp,hop,h1]), .refl nu o w,h,h2⟩
   ·cases ha
 ·rename_i T x lo hi mx hop
  have:=Ke (zs (P:=P) h (hev x (by rw [hop];simp [Op.operands])).st (iN (rho:=rho) (fun y hy=>hev y (by rw [hop,hy];simp [Op.operands]))) (iN (rho:=rho) (fun y hy=>hev y (by rw [hop,hy];simp [Op.operands]))) (iN (rho:=rho) (fun y hy=>hev y (by rw [hop,hy];simp [Op.operands]))) ha hp)
  simpa only [execOp,hop] using this
 ·rename_i op' T x y T' hop
  split at ha
  ·rename_i p' r' hb;cases ha;rw [<-hop] at hb;obtain ⟨v,h1,h2⟩:=iG (P:=P) h hev hb hp;exact ⟨v,w,nu, .inl h1, .refl nu o w,h,h2⟩
  ·split at ha
   ·rename_i p' r' hb;cases ha;obtain ⟨v,h1,h2,h3⟩:=yi (P:=P) h (hev x (by rw [hop];simp [Op.operands])) (hev y (by rw [hop];simp [Op.operands])) hb hp x y;exact ⟨v,w,nu, .inl (by simp [execOp,hop,h1,h3]), .refl nu o w,h,h2⟩
   ·cases ha
 ·rename_i c hop
  split at ha
  ·rename_i hc;have hops: ∀x,x∈c.args.toList->RA D nu o w (ev x) (rho x):=fun x hx=>hev x (by rw [hop];simp only [Op.operands,Call.operands,hc];simpa using hx);obtain ⟨callee,args,argTypes⟩:=c;simp only at hc ha hops;subst hc;obtain ⟨args⟩:=args;obtain ⟨argTypes⟩:=argTypes;simp only at ha hops;unfold pT at ha
   split at ha
   ·rename_i x y T T'
    split at ha
    ·rename_i hT;subst hT
     have:=Ke (wW (P:=P) oo.type h (hops x (by simp)) (hops y (by simp)).st ha hp)
     simpa [execOp,hop,resolve,invoke,builtin] using this
    ·cases ha
   ·cases ha
  ·rename_i hc;have hops: ∀x,x∈c.args.toList->RA D nu o w (ev x) (rho x):=fun x hx=>hev x (by rw [hop];simp only [Op.operands,Call.operands,hc];simpa using hx);obtain ⟨callee,args,argTypes⟩:=c;simp only at hc ha hops;subst hc;obtain ⟨args⟩:=args;obtain ⟨argTypes⟩:=argTypes;simp only at ha hops;unfold yO at ha
   split at ha
   ·rename_i x y T T'
    split at ha
    ·rename_i hT;subst hT
     have:=Ke (zp (P:=P) oo.type h (hops x (by simp)) (hops y (by simp)).st ha hp)
     simpa [execOp,hop,resolve,invoke,builtin] using this
    ·cases ha
   ·cases ha
  ·split at ha
   ·rename_i p' r' hb;cases ha;rw [<-hop] at hb;obtain ⟨v,h1,h2⟩:=iG (P:=P) h hev hb hp;exact ⟨v,w,nu, .inl h1, .refl nu o w,h,h2⟩
   ·cases ha
 ·split at ha
  ·rename_i p' r' hb;cases ha;obtain ⟨v,h1,h2⟩:=iG (P:=P) h hev hb hp;exact ⟨v,w,nu, .inl h1, .refl nu o w,h,h2⟩
  ·cases ha
end
end
section
mutual
def AV.wf (n:Nat):AV->Bool
 | .undef=>true
 | .v _=>true
 | .agg cs=>ba n cs
 | .ct vs=>ba n vs
 | .aI _ rows _=>bQ n rows
 | .vp cs=>ba n cs
 | .ptr id _ _ _ _=>decide (id<n)
 | .vec id _=>decide (id<n)
 | .fn _ f c=>ba n f&&ba n c
 | .full a=>a.wf n
 | .fp _ a=>a.wf n
 | .mp rows=>bQ n rows
def ba (n:Nat):List AV->Bool
 | []=>true
 | a :: l=>a.wf n&&ba n l
def bQ (n:Nat):List (List AV)->Bool
 | []=>true
 | r :: l=>ba n r&&bQ n l
end
theorem bF {n:Nat}: ∀ {l:List AV},ba n l=true-> ∀ {i:Nat} {c:AV},l[i]? = some c->c.wf n=true
 | [],_,i,c,h=>by simp at h
 | a :: l,h,0,c,hi=>by simp only [ba,TY] at h;simp at hi;subst hi;exact h.1
 | a :: l,h,i+1,c,hi=>by simp only [ba,TY] at h;exact bF h.2 (by simpa using hi)
theorem gy {n:Nat}: ∀ {l:List (List AV)},bQ n l=true-> ∀ {i:Nat} {r:List AV},l[i]? = some r->ba n r=true
 | [],_,i,c,h=>by simp at h
 | a :: l,h,0,c,hi=>by simp only [bQ,TY] at h;simp at hi;subst hi;exact h.1
 | a :: l,h,i+1,c,hi=>by simp only [bQ,TY] at h;exact gy h.2 (by simpa using hi)
theorem vB {n:Nat}: ∀ {l:List (List AV)},(∀r∈l,ba n r=true)->bQ n l=true
 | [],_=>rfl
 | a :: l,h=>by simp only [bQ,TY];exact ⟨h a (by simp),vB (fun c hc=>h c (by simp [hc]))⟩
theorem bg {α:Type} {n:Nat} (f:α->List AV) (h: ∀x,ba n (f x)=true) (l:List α):bQ n (l.map f)=true:=vB (fun r hr=>by
 obtain ⟨x,_,rfl⟩:=List.mem_map.1 hr;exact h x)
section
variable {D D':Nat->Prop} {nu nu':Nat->Nat->Value} {o o':List (Option aa)} {w:World} {P:Program}
theorem RA.tr {n:Nat} (hF: ∀b,Fz D nu o w b->Fz D' nu' o' w b) (hH: ∀id len,id<n->cK o id len->cK o' id len∧nu' id len=nu id len) {a:AV} {x:Value} (hr:RA D nu o w a x) (ha:a.wf n=true):RA D' nu' o' w a x:=by
 induction hr with
 | undef x=>exact .undef x
 | v x=>exact .v x
 | agg cs xs h1 _ h3 ih=>exact .agg cs xs h1 (fun i c x hc hx=>ih i c x hc hx (bF ha hc)) h3
 | ct cs xs h1 _ ih=>exact .ct cs xs h1 (fun i c x hc hx=>ih i c x hc hx (bF ha hc))
 | bf z=>exact .bf z
 | bA z a=>exact .bA z a
 | aI z rows len b off cap f h1 h2 h3 h4 h5 h6 _ h8 ih=>
  exact .aI z rows len b off cap f h1 h2 h3 (fun hne=>hF b (h4 hne)) h5 h6 (fun i j row c hi hj=>ih i j row c hi hj (bF (gy ha hi) hj)) h8
 | vp cs b off f h1 h2 _ h4 ih=>exact .vp cs b off f (hF b h1) h2 (fun j c hc=>ih j c hc (bF ha hc)) h4
 | ptr id len z row off b h1 h2=>
  simp only [AV.wf,decide_eq_true_eq] at ha;obtain ⟨h3,h4⟩:=hH id len ha h1;exact .ptr id len z row off b h3 (by rw [h4];exact h2)
 | vec id len h1 h2=>
  simp only [AV.wf,decide_eq_true_eq] at ha;obtain ⟨h3,h4⟩:=hH id len ha h1;rw [<-h4];exact .vec id len h3 (by rw [h4];exact h2)
 | fn g first caps fi ca h1 h2 _ _ ih1 ih2=>
  simp only [AV.wf,TY] at ha
  exact .fn g first caps fi ca h1 h2 (fun i c x hc hx=>ih1 i c x hc hx (bF ha.1 hc)) (fun i c x hc hx=>ih2 i c x hc hx (bF ha.2 hc))
 | full a x h1 _ ih=>
  simp only [AV.wf] at ha;exact .full a x h1 (ih ha)
 | fp p a x S h0 h1 hc h2 _ ih=>
  simp only [AV.wf] at ha;exact .fp p a x S h0 (fun b hb=>hF b (h1 b hb)) hc h2 (ih ha)
 | mp rows b es cl h1 h2 h3 h4 h5 h6 _ ih=>
  simp only [AV.wf] at ha;exact .mp rows b es cl (hF b h1) h2 h3 h4 h5 h6 (fun i j row c e q1 q2 q3=>ih i j row c e q1 q2 q3 (bF (gy ha q1) q2))
theorem gk.tr {n:Nat} (hF: ∀b,Fz D nu o w b->Fz D' nu' o' w b) (hH: ∀id len,id<n->cK o id len->cK o' id len∧nu' id len=nu id len) {cs:List AV} {xs:Array Value} (hr:gk D nu o w cs xs) (ha:ba n cs=true):gk D' nu' o' w cs xs:=
 ⟨hr.len,fun i c x h1 h2=>(hr.at' i c x h1 h2).tr hF hH (bF ha h1)⟩
end
def df (P:Program) (f:FuncId):Bool:=match P.funcs[f]? with
 | some fn=>fn.name != "runtime.NumGoroutine" && fn.body.isSome
 | none=>false
theorem gx {P:Program} {f:FuncId} (h:df P f=true) (args:Array Value) (w:World):(callFunc f args).run P w = .ok (.enter f args) w:=by
 unfold df at h
 split at h
 ·rename_i fn hf;simp only [TY,bne_iff_ne,ne_eq] at h;obtain ⟨c,hc⟩:=Option.isSome_iff_exists.1 h.2;simp [callFunc,hf,h.1,hc]
 ·cases h
def D9 (D:Nat->Prop) (nu:Nat->Nat->Value) (o:List (Option aa)) (w:World) (Q:AV->List (Option aa)->Prop) (e:Ending) (w':World):Prop:=
 ∃v nu' o' r,e = .returned v∧bl nu o w nu' o' w'∧RO D nu' o' w'∧RA D nu' o' w' r v∧Q r o'
def ea (P:Program) (f:FuncId) (args:List AV) (o:List (Option aa)) (Q:AV->List (Option aa)->Prop):Prop:=
 df P f=true∧ ∀D nu w vargs,RO D nu o w->gk D nu o w args vargs->Calls P f vargs w (D9 D nu o w Q)
def af (P:Program) (f:FuncId) (args:List AV) (r:AV):Prop:=(ba 0 args=true∧r.wf 0=true)∧ea P f args [] (fun r' o'=>r'=r∧o'=[])
section
variable {D:Nat->Prop} {nu:Nat->Nat->Value} {o:List (Option aa)} {w:World} {P:Program}
theorem ea.mono {f:FuncId} {args:List AV} {Q Q':AV->List (Option aa)->Prop} (h:ea P f args o Q) (hq: ∀r o',Q r o'->Q' r o'):ea P f args o Q':=
 ⟨h.1,fun D nu w vargs h1 h2=>(h.2 D nu w vargs h1 h2).mono (fun _ _ ⟨v,nu',o',r,k1,k2,k3,k4,k5⟩=>⟨v,nu',o',r,k1,k2,k3,k4,hq r o' k5⟩)⟩
def Ax (D:Nat->Prop) (nu:Nat->Nat->Value) (o:List (Option aa)) (w:World) (b:Nat):Prop:=b<w.heap.size->Fz D nu o w b
theorem wI {b:Nat} (h:Fz D nu o w b):Fz (Ax D nu o w) nu [] w b:=⟨h.1,bb _ _,fun _=>h⟩
theorem IH (h:RO D nu o w) {nu':Nat->Nat->Value} {w':World} {b:Nat} (hb:Fz (Ax D nu o w) nu' [] w' b):Fz D nu o w' b:=by
 rcases S9 b w.heap.size with hlt|hge
 ·have:=hb.2.2 hlt
  exact ⟨hb.1,this.2.1,this.2.2⟩
 ·exact ⟨hb.1,fun ho=>by have:=h.aU ho;omega,h.up b hge⟩
theorem fa {nu':Nat->Nat->Value} {w':World} (h:bl nu [] w nu' [] w'):Below w.heap.size w w':=⟨h.os,h.tape,h.output,h.size,fun k hk=>(h.keep k hk (bb _ _)).1⟩
theorem lW {f:FuncId} {args:List AV} {r:AV} {vargs:Array Value} (hc:af P f args r) (h:RO D nu o w) (ha:gk D nu o w args vargs) :
  Calls P f vargs w (fun e w'=> ∃v,e = .returned v∧Below w.heap.size w w'∧RA D nu o w' r v):=by
 obtain ⟨⟨h1,h2⟩,_,h3⟩:=hc;refine (h3 (Ax D nu o w) nu w vargs (.nil _ _ _ (fun b hb hlt=>by omega) (h.gl.fz (fun b hf=>⟨rfl,wI hf⟩))) (ha.tr (n:=0) (fun b hb=>wI hb) (fun id len hlt=>by omega) h1)).mono ?_;rintro e w' ⟨v,nu',o',r',rfl,hm,hro,hra,rfl,rfl⟩;exact ⟨v,rfl,fa hm,hra.tr (n:=0) (fun b hb=>IH h hb) (fun id len hlt=>by omega) h2⟩
def Vw (o:List (Option aa)) (a a':AV):Prop:=(a'=a∧a.wf 0=true)∨ ∃id len ob,a = .vec id len∧o[id]? = some (some ob)∧ob.dj=true∧ob.rows.length=len∧bQ 0 ob.rows=true∧a' = .aI ob.z ob.rows len
def OJ (o:List (Option aa)):List AV->List AV->Prop
 | [],[]=>True
 | a :: l,b :: m=>Vw o a b∧OJ o l m
 | _,_=>False
def AV.flat:AV->Bool
 | .v _=>true
 | .agg cs=>cs.all (fun c=>match c with| .v _=>true|_=>false)
 | _=>false
theorem RA.flat {D':Nat->Prop} {nu':Nat->Nat->Value} {o':List (Option aa)} {w':World} {r:AV} {x:Value} (h:RA D nu o w r x) (hf:r.flat=true):RA D' nu' o' w' r x:=by
 cases h with
 | v=>exact .v _
 | agg cs xs h1 h2 h3=>
  refine .agg cs xs h1 (fun i c x q1 q2=> ?_) h3;have hc:=List.all_eq_true.1 hf c (TI q1);have hr:=h2 i c x q1 q2
  cases c with
  | v y=>cases hr;exact .v _
  | _=>simp at hc
 | _=>simp [AV.flat] at hf
theorem JO (h:RO D nu o w) {a a':AV} {x:Value} (hv:Vw o a a') (hr:RA D nu o w a x):a'.wf 0=true∧RA (fun _=>True) nu [] w a' x:=by
 have hF: ∀b,b<w.heap.size->Fz (fun _=>True) nu [] w b:=fun b hb=>⟨hb,bb _ _,trivial⟩
 rcases hv with ⟨rfl,hw⟩|⟨id,len,ob,rfl,ho,hv,rfl,hw,rfl⟩
 ·exact ⟨hw,hr.tr (n:=0) (fun b hb=>hF b hb.1) (fun id len hlt=>by omega) hw⟩
 ·refine ⟨by simpa only [AV.wf] using hw, ?_⟩;cases hr;exact (ln h ho hv).tr (n:=0) (fun b hb=>hF b hb.1) (fun id len hlt=>by omega) (by simpa only [AV.wf] using hw)
theorem ym (h:RO D nu o w): ∀ {as bs:List AV} {xs:List Value},OJ o as bs->as.length=xs.length->(∀(i:Nat) c x,as[i]? = some c->xs[i]? = some x->RA D nu o w c x) ->
  ba 0 bs=true∧bs.length=xs.length∧ ∀(i:Nat) c x,bs[i]? = some c->xs[i]? = some x->RA (fun _=>True) nu [] w c x
 | [],[],[],_,_,_=>⟨rfl,rfl,fun i c x h=>by simp at h⟩
 | a :: as,b :: bs,x :: xs,hv,hl,hr=>by
  obtain ⟨h1,h2⟩:=JO h hv.1 (hr 0 a x rfl rfl);obtain ⟨h3,h4,h5⟩:=ym h hv.2 (by simpa using hl) (fun i c x q1 q2=>hr (i+1) c x (by simpa using q1) (by simpa using q2));refine ⟨by simp only [ba,h1,h3,Bool.and_self],by simpa using h4,fun i c y q1 q2=> ?_⟩
  cases i with
  | zero=>simp at q1 q2;subst q1;subst q2;exact h2
  | succ i=>exact h5 i c y (by simpa using q1) (by simpa using q2)
 | [],_ :: _,_,hv,_,_=>hv.elim
 | _ :: _,[],_,hv,_,_=>hv.elim
 | [],[],_ :: _,_,hl,_=>by simp at hl
 | _ :: _,_ :: _,[],_,hl,_=>by simp at hl
theorem y8 {f:FuncId} {args args':List AV} {r:AV} {vargs:Array Value} (hc:af P f args' r) (hv:OJ o args args') (hf:r.flat=true) (h:RO D nu o w) (ha:gk D nu o w args vargs) :
  Calls P f vargs w (fun e w'=> ∃v,e = .returned v∧Below w.heap.size w w'∧RA D nu o w' r v):=by
 obtain ⟨⟨h1,h2⟩,_,h3⟩:=hc;obtain ⟨k1,k2,k3⟩:=ym (xs:=vargs.toList) h hv (by simpa using ha.len) (fun i c x q1 q2=>ha.at' i c x q1 (by simpa using q2));refine (h3 (fun _=>True) nu w vargs (.nil _ _ _ (fun _ _=>trivial) (h.gl.nil (fun _ _ _=>trivial))) ⟨by simpa using k2,fun i c x q1 q2=>k3 i c x q1 (by simpa using q2)⟩).mono ?_;rintro e w' ⟨v,nu',o',r',rfl,hm,hro,hra,rfl,rfl⟩;exact ⟨v,rfl,fa hm,hra.flat hf⟩
def ab (P:Program) (f:FuncId) (args:List AV) (o:List (Option aa)) (K:AV->List (Option aa)->Prop):Prop:=
 (∃r,af P f args r∧K r o)∨(∃args' r,OJ o args args'∧r.flat=true∧af P f args' r∧K r o)∨ea P f args o K
theorem ab.one {f:FuncId} {args:List AV} {r:AV} {K:AV->List (Option aa)->Prop} (h:af P f args r) (k:K r o):ab P f args o K:= .inl ⟨r,h,k⟩
theorem ab.two {f:FuncId} {args:List AV} {K Q:AV->List (Option aa)->Prop} (h:ea P f args o Q) (k: ∀r o',Q r o'->K r o'):ab P f args o K:= .inr (.inr (h.mono k))
theorem y6 {f:FuncId} {args:List AV} {K:AV->List (Option aa)->Prop} {vargs:Array Value} (hc:ab P f args o K) (h:RO D nu o w) (ha:gk D nu o w args vargs):df P f=true∧Calls P f vargs w (D9 D nu o w K):=by
 rcases hc with ⟨r,hc,hk⟩|⟨args',r,hv,hf,hc,hk⟩|hc
 ·refine ⟨hc.2.1,(lW hc h ha).mono ?_⟩;rintro e w' ⟨v,rfl,hb,hr⟩;exact ⟨v,nu,o,r,rfl,ak hb,h.below hb,hr,hk⟩
 ·refine ⟨hc.2.1,(y8 hc hv hf h ha).mono ?_⟩;rintro e w' ⟨v,rfl,hb,hr⟩;exact ⟨v,nu,o,r,rfl,ak hb,h.below hb,hr,hk⟩
 ·exact ⟨hc.1,hc.2 D nu w vargs h ha⟩
def AR (x:Option (Prop×AV×List (Option aa))) (K:AV->List (Option aa)->Prop):Prop:=match x with
 | some (p,r,o')=>p∧K r o'
 | none=>False
@[congr] theorem Ms {x y:Option (Prop×AV×List (Option aa))} {K:AV->List (Option aa)->Prop} (h:x=y):AR x K=AR y K:=by rw [h]
theorem Hi (p:Prop) (r:AV) (o':List (Option aa)) (K:AV->List (Option aa)->Prop):AR (some (p,r,o')) K=(p∧K r o'):=rfl
theorem Hj (r:AV) (o':List (Option aa)) (K:AV->List (Option aa)->Prop):AR (some (True,r,o')) K=K r o':=by simp [AR]
@[congr] theorem He {f:FuncId} {args args':List AV} {K:AV->List (Option aa)->Prop} (h:args=args'):ab P f args o K=ab P f args' o K:=by rw [h]
def fU (b:Bool) (A B:Prop):Prop:=if b then A else B
@[congr] theorem LV {b c:Bool} {A B:Prop} (h:b=c):fU b A B=fU c A B:=by rw [h]
theorem vQ (A B:Prop):fU true A B=A:=rfl
theorem sl (A B:Prop):fU false A B=B:=rfl
theorem fU.part {b:Bool} {A B:Prop} (h1:b=true->A) (h2:b=false->B):fU b A B:=by cases b<;>simp_all [fU]
def Ko (P:Program) (f:AV) (args:List AV) (o:List (Option aa)) (K:AV->List (Option aa)->Prop):Prop:=match f with
 | .fn g first caps=>ab P g (first++args++caps) o K
 | _=>False
@[congr] theorem LS {f f':AV} {args args':List AV} {K:AV->List (Option aa)->Prop} (h:f=f') (k:args=args'):Ko P f args o K=Ko P f' args' o K:=by rw [h,k]
theorem Ks (g:FuncId) (first caps args:List AV) (K:AV->List (Option aa)->Prop):Ko P (.fn g first caps) args o K=ab P g (first++args++caps) o K:=rfl
def vN (P:Program) (op:Op) (s:AS) (K:AV->List (Option aa)->Prop):Prop:=match op with
 | .pick c a b=>match s.ev c with
  | .v (.bool t)=>fU t (K (s.ev a) s.o) (K (s.ev b) s.o)
  | _=>False
 | .call c=>match c.callee with
  | .value f=>Ko P (s.ev f) (c.args.toList.map s.ev) s.o K
  | _=>AR (H2 P s.ev s.o (.call c)) K
 | op=>AR (H2 P s.ev s.o op) K
theorem pY {s:AS} {a:Act} {oo:Oper} {K:AV->List (Option aa)->Prop} {next:Act->World->Prop} {Q:Exit->Act->World->Prop} (h:RO D nu s.o w) (hev:G8 D nu s.o w s.ev a.eval oo.op) (hd:vN P oo.op s K)
  (hk: ∀v w' nu' r o',bl nu s.o w nu' o' w'->RO D nu' o' w'->RA D nu' o' w' r v->K r o'->next (a.put oo.dst v) w'):oo.wp P a w next Q:=by
 have hop: ∀op,oo.op=op->AR (H2 P s.ev s.o op) K->oo.wp P a w next Q:=by
  intro op ho hh;subst ho;unfold AR at hh
  split at hh
  ·rename_i p r o' e;obtain ⟨v,w',nu',h1,h2,h3,h4⟩:=wb (P:=P) h hev e hh.1
   have:=hk v w' nu' r o' h2 h3 h4 hh.2
   unfold Oper.wp
   rcases h1 with h1|⟨h1,rfl⟩
   ·rw [h1,Oper.upon_value];exact this
   ·rw [h1,Oper.upon_skip];exact this
  ·exact hh.elim
 unfold vN at hd
 split at hd
 ·rename_i c x y ho;have hc:=hev c (by rw [ho];simp [Op.operands])
  split at hd
  ·rename_i t e;rw [e] at hc;have hcv:=hc.bZ;unfold Oper.wp
   have hrun:(execOp a.eval oo).run P w = .ok (.value (if t then a.eval x else a.eval y)) w:=by simp [execOp,ho,hcv,asBool]
   rw [hrun,Oper.upon_value]
   cases t
   ·exact hk _ w nu _ _ (.refl nu _ w) h (hev y (by rw [ho];simp [Op.operands])) hd
   ·exact hk _ w nu _ _ (.refl nu _ w) h (hev x (by rw [ho];simp [Op.operands])) hd
  ·exact hd.elim
 ·rename_i c ho
  split at hd
  ·rename_i f hc;unfold Ko at hd
   split at hd
   ·rename_i g first caps e
    have hf:=hev f (by rw [ho];simp [Op.operands,Call.operands,hc]);rw [e] at hf;generalize hq:a.eval f=vf at hf
    cases hf with
    | fn _ _ _ fi ca q1 q2 q3 q4=>
    have hargs: ∀x,x∈c.args.toList->RA D nu s.o w (s.ev x) (a.eval x):=fun x hx=>hev x (by rw [ho];simp only [Op.operands,Call.operands,hc];simp;exact .inr (by simpa using hx))
    have hra:gk D nu s.o w (first++c.args.toList.map s.ev++caps) (fi++c.args.map a.eval++ca):=by
     refine ⟨by simp [q1,q2],fun i cc x k1 k2=> ?_⟩;rw [List.append_assoc] at k1;rw [Array.append_assoc] at k2
     rcases S9 i first.length with l1|l1
     ·rw [S8 l1] at k1;rw [TJ (by omega)] at k2;exact q3 i cc x k1 k2
     ·rw [TD l1] at k1;rw [T7 (by omega)] at k2;rw [q1] at k1
      rcases S9 (i - fi.size) c.args.size with l2|l2
      ·rw [S8 (by simpa using l2),Tq] at k1;rw [TJ (by simpa using l2),T5] at k2
       have e2:c.args.toList[i - fi.size]? = c.args[i - fi.size]? :=by simp
       rw [e2] at k1
       cases hk2:c.args[i - fi.size]? with
       | none=>rw [hk2] at k1;cases k1
       | some y=>
        rw [hk2] at k1 k2;cases k1;cases k2;exact hargs y (TI (by rw [e2];exact hk2))
      ·rw [TD (by simpa using l2)] at k1;rw [T7 (by simpa using l2)] at k2;simp only [T1,Array.length_toList,Array.size_map] at k1 k2;exact q4 _ cc x k1 k2
    obtain ⟨c1,c2⟩:=y6 (P:=P) hd h hra;unfold Oper.wp
    have hrun:(execOp a.eval oo).run P w = .ok (.enter g (fi++c.args.map a.eval++ca)) w:=by
     simp only [execOp,ho,resolve,hc,hq,Deferred.ofValue,Sem.run_bind,Sem.run_pure,Result.andThen_ok,invoke];exact gx c1 _ w
    rw [hrun,Oper.upon_enter];refine c2.mono ?_;rintro e w' ⟨v,nu',o',r,rfl,m1,m2,m3,m4⟩;exact hk v w' nu' r o' m1 m2 m3 m4
   ·exact hd.elim
  ·exact hop _ ho hd
 ·exact hop _ rfl hd
structure Fr where
 B:Nat
 r:Option Nat
 Z:Nat->Prop
def Fr.wz (f:Fr) (Z:Nat->Prop):Fr:=⟨f.B,f.r,Z⟩
def zL (x:Nat):Deferred:={ target:= .collected x,args:= #[] }
def qG:Obj->Bool
 | .deferred _=>true
 | .loop _=>true
 | _=>false
structure FR (f:Fr) (ds:List Deferred) (w:World):Prop where
 base:f.B<=w.heap.size
 marks: ∃rs:List Nat,rs.Nodup∧ds=rs.map zL∧ ∀x,x∈rs->f.B<=x∧f.Z x∧w.heap[x]? = some (.deferred (some []))
 loop: ∀l,f.r=some l-> ∃q,w.heap[l]? = some (.loop q)
theorem FR.keep {f:Fr} {ds:List Deferred} {w w':World} (h:FR f ds w) (hz:w.heap.size<=w'.heap.size) (hk: ∀(b:Nat) ob,f.Z b∨f.r=some b->w.heap[b]? = some ob->qG ob=true->w'.heap[b]? = some ob):FR f ds w':=by
 obtain ⟨rs,h1,h2,h3⟩:=h.marks
 refine ⟨Nat.le_trans h.base hz,⟨rs,h1,h2,fun x hx=> ?_⟩,fun l hl=> ?_⟩
 ·obtain ⟨q1,q2,q3⟩:=h3 x hx;exact ⟨q1,q2,hk x _ (.inl q2) q3 rfl⟩
 ·obtain ⟨q,hq⟩:=h.loop l hl;exact ⟨q,hk l _ (.inr hl) hq rfl⟩
theorem jw {D:Nat->Prop} {nu:Nat->Nat->Value} {o:List (Option aa)} {w:World} (h:RO D nu o w) {b:Nat} {ob:Obj} (hb:w.heap[b]? = some ob) (hc:qG ob=true): ¬owned nu o b:=fun ⟨id,x,h1,h2⟩=>by
 rcases h.obj id x h1 with ⟨e1,e2,e3⟩|⟨g,cur,hr⟩|⟨g,es,cl,hmp⟩
 ·simp only [aa.hl,e1,e2,if_true,List.length_nil,e3,cr,cP] at h2;cases h2
 ·rw [hr.bn] at h2;cases h2;rw [hr.cZ] at hb;cases hb;cases hc
 ·rw [hmp.bn] at h2;cases h2;rw [hmp.cZ] at hb;cases hb;cases hc
theorem FR.mono {f:Fr} {ds:List Deferred} {D:Nat->Prop} {nu nu':Nat->Nat->Value} {o o':List (Option aa)} {w w':World} (h:FR f ds w) (hro:RO D nu o w) (hm:bl nu o w nu' o' w'):FR f ds w':=
 h.keep hm.size (fun b ob hd hb hc=>(hm.keep b (S5.1 hb).1 (jw hro hb hc)).1.trans hb)
theorem FR.Kh {f:Fr} {Z:Nat->Prop} {ds:List Deferred} {w:World} (h:FR f ds w) (hz: ∀b,f.Z b->Z b):FR (f.wz Z) ds w:=by
 obtain ⟨rs,h1,h2,h3⟩:=h.marks;exact ⟨h.base,⟨rs,h1,h2,fun x hx=>⟨(h3 x hx).1,hz x (h3 x hx).2.1,(h3 x hx).2.2⟩⟩,h.loop⟩
structure RS (f:Fr) (D:Nat->Prop) (nu:Nat->Nat->Value) (s:AS) (a:Act) (w:World):Prop where
 ro:RO D nu s.o w
 tm:gk D nu s.o w s.t a.tmps
 ig:FR f a.defers w
theorem RS.ev {s:AS} {a:Act} {f:Fr} (h:RS f D nu s a w) (x:Operand):RA D nu s.o w (s.ev x) (a.eval x):=by
 cases x with
 | tmp t=>
  simp only [AS.ev,Act.eval]
  rcases S9 t s.t.length with hlt|hge
  ·have e1:s.t[t]? = some s.t[t]:=Tn hlt;have hl:=h.tm.len
   have hlt':t<a.tmps.size:=by rw [<-hl];exact hlt
   have hx:a.tmps[t]? = some a.tmps[t]:=Tm hlt';rw [getD_some e1]
   have:a.tmps.getD t Go.undef=a.tmps[t]:=by simp [Array.getD,hlt']
   rw [this];exact h.tm.at' t _ _ e1 hx
  ·rw [T3,Tt hge];exact .undef _
 | const v=>exact .v v
 | global gi=>exact pF h.ro s gi
 | func f=>
  exact .fn f [] [] #[] #[] rfl rfl (fun i c x h=>by simp at h) (fun i c x h=>by simp at h)
theorem RS.put {s:AS} {a:Act} {f:Fr} (h:RS f D nu s a w) {w':World} {nu':Nat->Nat->Value} {o':List (Option aa)} {r:AV} {v:Value} (hm:bl nu s.o w nu' o' w') (hro:RO D nu' o' w') (hr:RA D nu' o' w' r v) (dst:Option Tmp) :
  RS f D nu' (s.put dst r o') (a.put dst v) w':=by
 have ht:=h.tm.mono hm (fun _ _ h=>h)
 refine ⟨hro, ?_, ?_⟩
 ·cases dst with
  | none=>exact ht
  | some d=>
   refine ⟨by simpa [AS.put,Act.put] using ht.len,fun i c x h1 h2=> ?_⟩;simp only [AS.put,Act.put] at h1 h2 ⊢
   by_cases hd:d=i
   ·subst hd;have hlt:=(S7.1 h1).1;simp only [List.length_set] at hlt;rw [Tw hlt] at h1;rw [Array.getElem?_setIfInBounds_self_of_lt (by have:=ht.len;omega)] at h2;cases h1;cases h2;exact hr
   ·rw [Tv hd] at h1;rw [Array.getElem?_setIfInBounds_ne hd] at h2;exact ht.at' i c x h1 h2
 ·have:=h.ig.mono h.ro hm
  cases dst<;>simpa [Act.put] using this
def iJ (all:List Oper) (s:AS) (j:Nat):Option (Option Bool):=match all[j]? with
 | none=>some none
 | some o=>match o.dst with
  | none=>some none
  | some d=>match s.t[d]? with
   | none=>some none
   | some (.v (.bool b))=>some (some b)
   | some (.v (.tuple _))=>some none
   | _=>none
def rP (g:Option (Option Bool)) (want:Bool) (A B:Prop):Prop:=match g with
 | some (some b)=>fU (b==want) A B
 | some none=>B
 | none=>False
@[congr] theorem LU {g g':Option (Option Bool)} {want:Bool} {A B:Prop} (h:g=g'):rP g want A B=rP g' want A B:=by rw [h]
theorem D4 (b want:Bool) (A B:Prop):rP (some (some b)) want A B=fU (b==want) A B:=rfl
theorem DZ (want:Bool) (A B:Prop):rP (some none) want A B=B:=rfl
theorem ek {all:List Oper} {s:AS} {a:Act} {j:Nat} {g:Option Bool} (htm: ∀d c x,(∃o,all[j]? = some o∧o.dst=some d)->s.t[d]? = some c->a.tmps[d]? = some x->RA D nu s.o w c x) (hlen:s.t.length=a.tmps.size) (h:iJ all s j=some g):yielded all.toArray a.tmps j=g:=by
 unfold iJ at h;unfold yielded;rw [Tp]
 split at h
 ·rename_i e;rw [e];cases h;rfl
 ·rename_i o e;rw [e];simp only [Option.bind_some]
  split at h
  ·rename_i e2;rw [e2];cases h;rfl
  ·rename_i d e2;rw [e2];simp only [Option.bind_some]
   split at h
   ·rename_i e3;cases h
    have:s.t.length<=d:=List.getElem?_eq_none_iff.1 e3
    rw [Array.getElem?_eq_none (by omega)]
   ·rename_i b e3;cases h;have hlt:=(S7.1 e3).1;have hx:a.tmps[d]? = some a.tmps[d]:=Tm (by omega)
    have:=(htm d _ _ ⟨o,e,e2⟩ e3 hx).bZ
    rw [hx,this]
   ·rename_i vs e3;cases h;have hlt:=(S7.1 e3).1;have hx:a.tmps[d]? = some a.tmps[d]:=Tm (by omega)
    have:=(htm d _ _ ⟨o,e,e2⟩ e3 hx).bZ
    rw [hx,this]
   ·cases h
def jI (A B:Prop):Prop:=A∧B
theorem jI.mk {A B:Prop} (h:A) (k:B):jI A B:=⟨h,k⟩
def nw (y:iz) (l:Nat) (args:List AV) (K:AV->iz->Prop):Prop:=match y with
 | .run l' (x :: rest)=>(l=l'∧args=x∧ba 0 x=true)∧jI (K (.v (.bool true)) (.run l' rest)) (K (.v (.bool false)) .off)
 | _=>False
@[congr] theorem Hk {y y':iz} {l l':Nat} {args args':List AV} {K:AV->iz->Prop} (h1:y=y') (h2:l=l') (h3:args=args'):nw y l args K=nw y' l' args' K:=by rw [h1,h2,h3]
theorem yE (l l':Nat) (args x:List AV) (rest:List (List AV)) (K:AV->iz->Prop):nw (.run l' (x :: rest)) l args K=((l=l'∧args=x∧ba 0 x=true)∧jI (K (.v (.bool true)) (.run l' rest)) (K (.v (.bool false)) .off)):=rfl
def Kv (P:Program) (fv:AV) (args:List AV) (dst:Option Tmp) (s:AS) (K:AS->Prop):Prop:=match fv with
 | .v (.func (.yield l) fi _)=>fi.size=0∧nw s.y l args (fun r y=>K ⟨(s.put dst r s.o).t,s.o,y⟩)
 | fv=>Ko P fv args s.o (fun r o'=>K (s.put dst r o'))
@[congr] theorem LZ {fv fv':AV} {args args':List AV} {dst:Option Tmp} {s:AS} {K:AS->Prop} (h1:fv=fv') (h2:args=args'):Kv P fv args dst s K=Kv P fv' args' dst s K:=by rw [h1,h2]
theorem Kw (g:FuncId) (first caps args:List AV) (dst:Option Tmp) (s:AS) (K:AS->Prop):Kv P (.fn g first caps) args dst s K=ab P g (first++args++caps) s.o (fun r o'=>K (s.put dst r o')):=rfl
theorem Mu (l:Nat) (args:List AV) (dst:Option Tmp) (s:AS) (K:AS->Prop):Kv P (.v (.func (.yield l) #[] #[])) args dst s K=nw s.y l args (fun r y=>K ⟨(s.put dst r s.o).t,s.o,y⟩):=by simp [Kv]
def AY (P:Program) (op:Op) (dst:Option Tmp) (s:AS) (K:AS->Prop):Prop:=match op with
 | .call c=>match c.callee with
  | .value f=>Kv P (s.ev f) (c.args.toList.map s.ev) dst s K
  | _=>vN P op s (fun r o'=>K (s.put dst r o'))
 | _=>vN P op s (fun r o'=>K (s.put dst r o'))
def oF (P:Program) (all:List Oper) (oo:Oper) (s:AS) (K:AS->Prop):Prop:=match oo.guard with
 | none=>AY P oo.op oo.dst s K
 | some (j,want)=>rP (iJ all s j) want (AY P oo.op oo.dst s K) (K (s.put oo.dst (.v Go.undef) s.o))
def gq (P:Program) (all:List Oper):List Oper->AS->(AS->Prop)->Prop
 | [],s,Q=>Q s
 | oo :: rest,s,Q=>oF P all oo s (fun s'=>gq P all rest s' Q)
@[congr] theorem Ku {all ops:List Oper} {s s':AS} {Q:AS->Prop} (h:s=s'):gq P all ops s Q=gq P all ops s' Q:=by rw [h]
section
variable {D':Nat->Prop} {w':World}
theorem RA.keep (hF: ∀b,Fz D nu o w b->w'.heap[b]? = w.heap[b]? ∧Fz D' nu o w' b) {a:AV} {x:Value} (hr:RA D nu o w a x):RA D' nu o w' a x:=by
 induction hr with
 | undef x=>exact .undef x
 | v x=>exact .v x
 | agg cs xs h1 _ h3 ih=>exact .agg cs xs h1 ih h3
 | ct cs xs h1 _ ih=>exact .ct cs xs h1 ih
 | bf z=>exact .bf z
 | bA z a=>exact .bA z a
 | aI z rows len b off cap f h1 h2 h3 h4 h5 h6 _ h8 ih=>
  refine .aI z rows len b off cap f h1 h2 h3 (fun hne=>(hF b (h4 hne)).2) h5 (fun i j row c hr hc=> ?_) ih h8
  have hne:rows≠[]:=fun e=>by subst e;simp at hr
  rw [World.cell?_of_block (w:=w) (hF b (h4 hne)).1];exact h6 i j row c hr hc
 | vp cs b off f h1 h2 _ h4 ih=>
  refine .vp cs b off f (hF b h1).2 (fun j c hc=> ?_) ih h4;rw [World.cell?_of_block (w:=w) (hF b h1).1];exact h2 j c hc
 | ptr id len z row off b h1 h2=>exact .ptr id len z row off b h1 h2
 | vec id len h1 h2=>exact .vec id len h1 h2
 | fn g first caps fi ca h1 h2 _ _ ih1 ih2=>exact .fn g first caps fi ca h1 h2 ih1 ih2
 | full a x h1 _ ih=>exact .full a x h1 ih
 | fp p a x S h0 h1 hc h2 _ ih=>exact .fp p a x S h0 (fun b hb=>(hF b (h1 b hb)).2) (fun b hb=>by rw [(hF b (h1 b hb)).1];exact hc b hb) (fun w2 hw=>h2 w2 (fun b hb=>(hw b hb).trans (hF b (h1 b hb)).1)) ih
 | mp rows b es cl h1 h2 h3 h4 h5 h6 _ ih=>exact .mp rows b es cl (hF b h1).2 ((hF b h1).1.trans h2) h3 h4 h5 h6 ih
theorem RO.jl (h:RO D nu o w) {b:Nat} (hb:owned nu o b):D b:=by
 obtain ⟨id,ob,h1,h2⟩:=hb
 rcases h.obj id ob h1 with ⟨e1,e2,e3⟩|⟨g,cur,hr⟩|⟨g,es,cl,hmp⟩
 ·simp only [aa.hl,e1,e2,if_true,List.length_nil,e3,cr,cP] at h2;cases h2
 ·rw [hr.bn] at h2;cases h2;exact hr.j9
 ·rw [hmp.bn] at h2;cases h2;exact hmp.j9
theorem RO.keep (h:RO D nu o w) (ho: ∀b,owned nu o b->w'.heap[b]? = w.heap[b]? ∧D' b) (hu: ∀b,w'.heap.size<=b->D' b) (hF: ∀b,Fz D nu o w b->w'.heap[b]? = w.heap[b]? ∧Fz D' nu o w' b):RO D' nu o w':=by
 refine ⟨fun id ob hid=> ?_,hu,h.sep,h.gl.fz hF⟩
 rcases h.obj id ob hid with e|⟨g,cur,hr⟩|⟨g,es,cl,hmp⟩
 ·exact .inl e
 ·have hown:owned nu o g:=⟨id,ob,hid,hr.bn⟩;exact .inr (.inl ⟨g,cur,(ho g hown).1.trans hr.cZ,(ho g hown).2,hr.box,hr.vec,hr.z,hr.row,fun i j row c x q1 q2 q3=>(hr.cell i j row c x q1 q2 q3).keep hF,hr.one⟩)
 ·have hown:owned nu o g:=⟨id,ob,hid,hmp.bn⟩;exact .inr (.inr ⟨g,es,cl,hmp.tr (ho g hown).1 (fun _=>(ho g hown).2) rfl (fun i j row c x _ _ hr=>hr.keep hF)⟩)
end
structure Az (Z:Nat->Prop) (nu:Nat->Nat->Value) (o:List (Option aa)) (w:World) (nu':Nat->Nat->Value) (o':List (Option aa)) (w':World):Prop where
 os:w'.os=w.os
 tape:w'.tape=w.tape
 output:w'.output=w.output
 size:w.heap.size<=w'.heap.size
 pq: ∀id len,id<o'.length->cK o id len->cK o' id len∧nu' id len=nu id len
 keep: ∀b,b<w.heap.size-> ¬owned nu o b-> ¬Z b->w'.heap[b]? = w.heap[b]? ∧ ¬owned nu' o' b
theorem bl.SE {Z:Nat->Prop} {nu nu':Nat->Nat->Value} {o o':List (Option aa)} {w w':World} (h:bl nu o w nu' o' w'):Az Z nu o w nu' o' w':=⟨h.os,h.tape,h.output,h.size,fun id len _ hh=>h.pq id len hh,fun b h1 h2 _=>h.keep b h1 h2⟩
structure WM (P:Program) where
 n0:Nat
 fix:Nat->Prop
 M:(Nat->Prop)->(Nat->Nat->Value)->List (Option aa)->(Nat->Prop)->iz->World->Prop
 step: ∀ {D D' nu o Z Z' y w nu' o' w'},M D nu o Z y w->RO D nu o w->Az Z nu o w nu' o' w'->RO D' nu' o' w'->(∀c v,RA D nu o w c v->c.wf o'.length=true->RA D' nu' o' w' c v)->(∀b,D' b->D b∨Z b)->(∀b,D b->D' b∨Z' b) ->
  (∀b,Z' b->b<w'.heap.size∧ ¬D' b∧(Z b∨owned nu o b∨w.heap.size<=b))->n0<=o'.length->M D' nu' o' Z' y w'
 mi: ∀ {D nu o Z y w},M D nu o Z y w->(∀b,Z b->b<w.heap.size∧ ¬D b)∧n0<=o.length∧ ∀b,fix b->b<w.heap.size∧ ¬Z b∧ ¬D b
 yield: ∀ {D nu o Z l x rest w} {vals:Array Value},M D nu o Z (.run l (x :: rest)) w->RO D nu o w->gk D nu o w x vals->ba 0 x=true ->
  YieldAt (WF none) 8 P l vals w (fun e w'=>(w'.os=w.os∧w'.tape=w.tape∧w'.output=w.output∧w.heap.size<=w'.heap.size∧ ∀b,b<w.heap.size->D b∨Z b∨owned nu o b∨fix b->w'.heap[b]? = w.heap[b]?) ∧
   ((e = .returned (.bool true)∧M (fun b=>D b∧ ¬(w.heap.size<=b∧b<w'.heap.size)) nu o Z (.run l rest) w')∨(e = .returned (.bool false)∧M (fun b=>D b∧ ¬(w.heap.size<=b∧b<w'.heap.size)) nu o Z .off w')))
theorem WM.own {P:Program} (m:WM P) {D:Nat->Prop} {nu nu':Nat->Nat->Value} {o o':List (Option aa)} {Z:Nat->Prop} {y:iz} {w w':World} (h:m.M D nu o Z y w) (hro:RO D nu o w) (hm:bl nu o w nu' o' w') (hro':RO D nu' o' w'):m.M D nu' o' Z y w':=by
 refine m.step h hro hm.SE hro' (fun c v hr _=>hr.mono hm (fun _ _ h=>h)) (fun _ h=> .inl h) (fun _ h=> .inl h) (fun b hb=>⟨Nat.lt_of_lt_of_le ((m.mi h).1 b hb).1 hm.size,((m.mi h).1 b hb).2, .inl hb⟩) ?_;have h2:=(m.mi h).2.1
 rcases Nat.eq_zero_or_pos o.length with q|q
 ·omega
 ·have e:=Tn (show o.length - 1<o.length by omega);obtain ⟨h1,_⟩:=hm.pq (o.length - 1) 0 ⟨_,e,fun _ _=>Nat.zero_le _⟩
  have:=gI h1
  omega
theorem RS.others {f:Fr} {s:AS} {a:Act} {w':World} (h:RS f D nu s a w) (hz:w.heap.size<=w'.heap.size) (hk: ∀b,b<w.heap.size->D b∨owned nu s.o b∨f.r=some b∨f.Z b->w'.heap[b]? = w.heap[b]?) (y:iz):RS f (fun b=>D b∧ ¬(w.heap.size<=b∧b<w'.heap.size)) nu ⟨s.t,s.o,y⟩ a w':=by
 have hF: ∀b,Fz D nu s.o w b->w'.heap[b]? = w.heap[b]? ∧Fz (fun b=>D b∧ ¬(w.heap.size<=b∧b<w'.heap.size)) nu s.o w' b:=fun b hf=>⟨hk b hf.1 (.inl hf.2.2),Nat.lt_of_lt_of_le hf.1 hz,hf.2.1,hf.2.2,fun hh=>by have:=hf.1;omega⟩;refine ⟨h.ro.keep (fun b hb=>⟨hk b (h.ro.aU hb) (.inr (.inl hb)),h.ro.jl hb,fun hh=>by have:=h.ro.aU hb;omega⟩) (fun b hb=>⟨h.ro.up b (Nat.le_trans hz hb),fun hh=>by omega⟩) hF,⟨h.tm.len,fun i c x q1 q2=>(h.tm.at' i c x q1 q2).keep hF⟩,h.ig.keep hz (fun b ob hd hb _=> ?_)⟩;have hlt:=(S5.1 hb).1;exact (hk b hlt (.inr (.inr (Or.comm.1 hd)))).trans hb
theorem AN {f:Fr} (m:WM P) (hZr: ∀l,f.r=some l->m.fix l) {s:AS} {a:Act} {oo:Oper} {K:AS->Prop} {next:Act->World->Prop} {Q:Exit->Act->World->Prop} (hcalm: ∀c,oo.op ≠ .defer c) (hm:m.M D nu s.o f.Z s.y w) (hs:RS f D nu s a w) (hd:AY P oo.op oo.dst s K)
  (hk: ∀D' v w' nu' s',m.M D' nu' s'.o f.Z s'.y w'->RS f D' nu' s' (a.put oo.dst v) w'->K s'->next (a.put oo.dst v) w'):oo.wpIn (WF f.r) 9 P a w next Q:=by
 have plain:vN P oo.op s (fun r o'=>K (s.put oo.dst r o'))->oo.wpIn (WF f.r) 9 P a w next Q:=fun hd=>by
  have h:=pY (P:=P) (next:=fun a' w'=>next a' w') (Q:=fun e a' w'=>e ≠ .outgrown∧Q e a' w') hs.ro (fun x _=>hs.ev x) hd (fun v w' nu' r o' m1 m2 m3 m4=>hk D v w' nu' (s.put oo.dst r o') (m.own hm hs.ro m1 m2) (hs.put m1 m2 m3 oo.dst) m4);refine ⟨fun f _=>trivial, ?_⟩;rw [Oper.semAt_eq _ _ oo hcalm];unfold Oper.wp at h;generalize (execOp a.eval oo).run P w=res at h;unfold Oper.upon at h;unfold Oper.uponIn
  split at h
  ·exact h
  ·exact h
  ·exact h
  ·refine ⟨fun e=>(by cases e),jk (h.mono fun e w' he=> ?_)⟩
   cases e with
   | returned v=>exact he
   | panicked ch=>exact he.2
   | outgrown=>obtain ⟨_,_,hh⟩:=he;exact absurd rfl hh.1
  ·exact ⟨fun e=>(by cases e),tB h⟩
  ·exact h.2
  ·exact h.elim
 unfold AY at hd
 split at hd
 ·rename_i c ho
  split at hd
  ·rename_i fo hc;unfold Kv at hd
   split at hd
   ·rename_i l fi ca e;have hf:=(hs.ev fo).Kg e;obtain ⟨hfi,hd⟩:=hd;obtain rfl:fi = #[]:=Array.eq_empty_of_size_eq_zero hfi;unfold nw at hd
    split at hd
    ·rename_i l' x rest hy;obtain ⟨⟨rfl,hx,hw⟩,h1,h2⟩:=hd
     have hra:gk D nu s.o w x (c.args.map a.eval):=by
      rw [<-hx];refine ⟨by simp,fun i cc v k1 k2=> ?_⟩;rw [Tq] at k1;rw [T5] at k2
      have e2:c.args.toList[i]? = c.args[i]? :=by simp
      rw [e2] at k1
      cases hk2:c.args[i]? with
      | none=>rw [hk2] at k1;cases k1
      | some z=>
       rw [hk2] at k1 k2;cases k1;cases k2;exact hs.ev z
     rw [hy] at hm;obtain ⟨fn,tmps,assign,body,hrun,hround⟩:=m.yield hm hs.ro hra hw;refine ⟨fun f _=>trivial, ?_⟩;rw [Oper.semAt_eq _ _ oo hcalm]
     have hrun':(execOp a.eval oo).run P w = .ok (.round l fn tmps assign body) w:=by
      simp only [execOp,ho,resolve,hc,hf,Deferred.ofValue,Sem.run_bind,Sem.run_pure,Result.andThen_ok,invoke];simpa using hrun
     rw [hrun'];refine ⟨fun e=>(by cases e),(DA hround).mono fun e w' he=> ?_⟩;obtain ⟨⟨_,_,_,hsz,hkeep⟩,m4⟩:=he
     have fin: ∀b y,m.M (fun b=>D b∧ ¬(w.heap.size<=b∧b<w'.heap.size)) nu s.o f.Z y w'->K ⟨(s.put oo.dst (.v (.bool b)) s.o).t,s.o,y⟩->next (a.put oo.dst (.bool b)) w':=fun b y hM hK=>by
      have h2:=hs.others hsz (fun b hb hh=>hkeep b hb (by rcases hh with h|h|h|h;exact .inl h;exact .inr (.inr (.inl h));exact .inr (.inr (.inr (hZr b h)));exact .inr (.inl h))) y;exact hk _ (.bool b) w' nu ⟨(s.put oo.dst (.v (.bool b)) s.o).t,s.o,y⟩ hM (h2.put (.refl nu s.o w') h2.ro (.v _) oo.dst) hK
     rcases m4 with ⟨rfl,hM⟩|⟨rfl,hM⟩
     ·exact fin true _ hM h1
     ·exact fin false _ hM h2
    ·exact hd.elim
   ·refine plain ?_;rw [ho];unfold vN;simp only [hc];exact hd
  ·exact plain hd
 ·exact plain hd
theorem iH {all:List Oper} {f:Fr} (m:WM P) (hZr: ∀l,f.r=some l->m.fix l) {Q:AS->Prop} {R:Exit->Act->World->Prop}: ∀(ops:List Oper) (s:AS) (a:Act) (w:World) (D:Nat->Prop) (nu:Nat->Nat->Value),(∀oo,oo∈ops-> ∀c,oo.op ≠ .defer c)->m.M D nu s.o f.Z s.y w->RS f D nu s a w->gq P all ops s Q ->
  (∀D' s' a' w' nu',m.M D' nu' s'.o f.Z s'.y w'->RS f D' nu' s' a' w'->Q s'->R .normal a' w')->wpListIn (WF f.r) 9 P all.toArray R ops a w
 | [],s,a,w,D,nu,_,hm,hs,hq,hR=>hR D s a w nu hm hs hq
 | oo :: rest,s,a,w,D,nu,hcalm,hm,hs,hq,hR=>by
  have hrun:AY P oo.op oo.dst s (fun s'=>gq P all rest s' Q)->oo.wpIn (WF f.r) 9 P a w (wpListIn (WF f.r) 9 P all.toArray R rest) R:=fun hd=>
   AN m hZr (hcalm oo List.mem_cons_self) hm hs hd (fun D' v w' nu' s' m1 m2 m3=>iH m hZr rest s' _ w' D' nu' (fun o ho=>hcalm o (T8 _ ho)) m1 m2 m3 hR)
  have hskip:gq P all rest (s.put oo.dst (.v Go.undef) s.o) Q->wpListIn (WF f.r) 9 P all.toArray R rest (a.put oo.dst Go.undef) w:=fun hd=>
   iH m hZr rest _ _ w D nu (fun o ho=>hcalm o (T8 _ ho)) (by simpa only [AS.put] using hm) (hs.put (.refl nu s.o w) hs.ro (.v _) oo.dst) hd hR
  simp only [gq,oF] at hq;simp only [wpListIn]
  split at hq
  ·rename_i hg
   have:Region.wanted oo (yielded all.toArray a.tmps)=true:=by simp [Region.wanted,hg]
   rw [if_pos this];exact hrun hq
  ·rename_i j want hg;unfold rP at hq
   split at hq
   ·rename_i b e;have hy:=ek (w:=w) (fun d c x _ h1 h2=>hs.tm.at' d c x h1 h2) hs.tm.len e
    have hw:Region.wanted oo (yielded all.toArray a.tmps)=(b==want):=by simp [Region.wanted,hg,hy]
    rw [hw]
    cases hb:b==want
    ·rw [hb] at hq;simp only [Bool.false_eq_true,if_false];exact ⟨fun f _=>trivial,hskip hq⟩
    ·rw [hb] at hq;simp only [if_true];exact hrun hq
   ·rename_i e;have hy:=ek (w:=w) (fun d c x _ h1 h2=>hs.tm.at' d c x h1 h2) hs.tm.len e
    have hw:Region.wanted oo (yielded all.toArray a.tmps)=false:=by simp [Region.wanted,hg,hy]
    rw [hw];simp only [Bool.false_eq_true,if_false];exact ⟨fun f _=>trivial,hskip hq⟩
   ·exact hq.elim
end
end
end Go.Proofs.YtlhhccmopfamhaaGreatDoor
