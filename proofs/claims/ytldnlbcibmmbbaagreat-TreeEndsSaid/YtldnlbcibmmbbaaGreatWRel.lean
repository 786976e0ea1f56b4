/- A region that draws its order, whose operations make memory: each operation's value is told by a relation that stays. No program is named here. -/
import Derived.Still
import Derived.Tactics
import Derived.KernelRfl
import Derived.StillTactics
import Derived.Test.YtldnlbcibmmbbaaGreatWBase2
set_option linter.unusedSimpArgs false
set_option linter.unusedVariables false
open Array renaming getD_eq_getD_getElem? → JM
open Bool renaming and_eq_true → JL
open List renaming getElem?_eq_some_iff → I0, getElem?_toArray → Jg
open Nat renaming le_refl → IV, zero_add → JK
namespace Go.Proofs.YtldnlbcibmmbbaaGreat
open Go.RowKit
structure Spec where
 p:Value→World→Prop
 st: ∀v w w',Below w.heap.size w w'→p v w→p v w'
def Spec.any:Spec:=⟨fun _ _=>True,fun _ _ _ _ _=>trivial⟩
def Spec.eq (c:Value):Spec:=⟨fun v _=>v=c,fun _ _ _ _ h=>h⟩
def bA (L:List Spec) (i:Nat):Spec:=L.getD i Spec.any
section
variable {P:Program} {ops:Array Oper}
def bn (s:Nat→Bool) (i:Nat):Nat→Bool:=fun j=>if j=i then true else s j
def eJ (x:Nat→Value) (i:Nat) (v:Value):Nat→Value:=fun j=>if j=i then v else x j
def bX (s:Nat→Bool) (x:Nat→Value):List Oper→Nat→Act→Act
 | [],_,a=>a
 | o :: l,k,a=>bX s x l (k+1) (if s k then a.put o.dst (x k) else a)
theorem aS {s s':Nat→Bool} {x x':Nat→Value}: ∀(l:List Oper) (k:Nat) (a:Act),(∀i,k≤i→i<k+l.length→s i=s' i∧(s i=true→x i=x' i))→bX s x l k a=bX s' x' l k a
 | [],_,_,_=>rfl
 | o :: l,k,a,h=>by
  have h0:=h k (IV _) (by simp)
  have e:(if s k then a.put o.dst (x k) else a)=(if s' k then a.put o.dst (x' k) else a):=by
   rw [←h0.1]
   cases hs:s k
   ·rfl
   ·simp [h0.2 hs]
  rw [bX,bX,e]
  exact aS l (k+1) _ (fun i h1 h2=>h i (by omega) (by simp only [List.length_cons];omega))
theorem xH {s:Nat→Bool} {x:Nat→Value} {d:Option Tmp} {v:Value}: ∀(l:List Oper) (k:Nat) (a:Act),(∀o∈l, ∀e,d=some e→o.dst≠some e)→bX s x l k (a.put d v)=(bX s x l k a).put d v
 | [],_,_,_=>rfl
 | o :: l,k,a,h=>by
  have e:(if s k then (a.put d v).put o.dst (x k) else a.put d v)=(if s k then a.put o.dst (x k) else a).put d v:=by
   split
   ·exact Act.put_comm a v (x k) (h o (by simp))
   ·rfl
  rw [bX,bX,e]
  exact xH l (k+1) _ (fun o' ho=>h o' (by simp [ho]))
def dV (l:List Oper):Prop:= ∀(i j:Nat) (oi oj:Oper),l[i]? = some oi→l[j]? = some oj→i≠j→ ∀e,oi.dst=some e→oj.dst≠some e
theorem fB {s:Nat→Bool} {x:Nat→Value} {v:Value} {o:Oper}: ∀(l:List Oper) (k m:Nat) (a:Act),dV l→l[m]? = some o→s (k+m)=false→bX (bn s (k+m)) (eJ x (k+m) v) l k a=(bX s x l k a).put o.dst v
 | [],_,_,_,_,h,_=>by simp at h
 | o' :: l,k,0,a,hA,h,hs=>by
  obtain rfl:o'=o:=by simpa using h
  rw [bX,bX]
  simp only [Nat.add_zero] at hs ⊢
  have e:(if bn s k k then a.put o'.dst (eJ x k v k) else a)=a.put o'.dst v:=by simp [bn,eJ]
  have e2:(if s k then a.put o'.dst (x k) else a)=a:=by simp [hs]
  rw [e,e2,aS (s:=bn s k) (x:=eJ x k v) (s':=s) (x':=x) l (k+1) _ (fun i h1 _=>by
   have:i≠k:=by omega
   simp [bn,eJ,this])]
  refine xH l (k+1) a (fun o'' ho e he=> ?_)
  obtain ⟨j,hj⟩:=List.getElem?_of_mem ho
  exact hA 0 (j+1) o' o'' (by simp) (by simpa using hj) (by omega) e he
 | o' :: l,k,m+1,a,hA,h,hs=>by
  have h1:k≠k+(m+1):=by omega
  rw [bX,bX]
  have e:(if bn s (k+(m+1)) k then a.put o'.dst (eJ x (k+(m+1)) v k) else a)=(if s k then a.put o'.dst (x k) else a):=by simp [bn,eJ]
  rw [e]
  have hk:k+(m+1)=k+1+m:=by omega
  rw [hk] at hs ⊢
  exact fB l (k+1) m _ (fun i j oi oj hi hj hij=>hA (i+1) (j+1) oi oj (by simpa using hi) (by simpa using hj) (by omega)) (by simpa using h) hs
theorem ki {s keep:Nat→Bool} {x:Nat→Value} {l:List Oper} {a:Act} {oj:Oper} (hA:dV l) (hsel: ∀cs b,oj.op ≠ .select cs b)
  (h: ∀i oi,l[i]? = some oi→s i=true→keep i=false→ ∀d,oi.dst=some d→d∉oj.looksAt ops) :
  execOp (bX s x l 0 a).eval oj=execOp (bX (fun i=>s i&&keep i) x l 0 a).eval oj ∧
  Region.wanted oj (yielded ops (bX s x l 0 a).tmps)=Region.wanted oj (yielded ops (bX (fun i=>s i&&keep i) x l 0 a).tmps):=by
 have key: ∀t,t≤l.length→execOp (bX s x l 0 a).eval oj=execOp (bX (fun i=>s i&&(keep i||decide (t≤i))) x l 0 a).eval oj ∧
   Region.wanted oj (yielded ops (bX s x l 0 a).tmps)=Region.wanted oj (yielded ops (bX (fun i=>s i&&(keep i||decide (t≤i))) x l 0 a).tmps):=by
  intro t
  induction t with
  | zero=>
   intro _
   rw [aS (s:=fun i=>s i&&(keep i||decide (0≤i))) (s':=s) (x':=x) l 0 a (fun i _ _=>by simp)]
   exact ⟨rfl,rfl⟩
  | succ t ih=>
   intro ht
   obtain ⟨e1,e2⟩:=ih (by omega)
   rw [e1,e2]
   have ho:l[t]? = some l[t]:=List.getElem?_eq_getElem (by omega)
   by_cases hc:s t=true∧keep t=false
   ·have hd:=h t _ ho hc.1 hc.2
    have hi:=fB (s:=fun i=>s i&&(keep i||decide (t+1≤i))) (x:=x) (v:=x t) l 0 t a hA ho (by simp [hc.2])
    rw [JK] at hi
    have hq:bX (bn (fun i=>s i&&(keep i||decide (t+1≤i))) t) (eJ x t (x t)) l 0 a=bX (fun i=>s i&&(keep i||decide (t≤i))) x l 0 a:=
     aS l 0 a (fun i _ _=>by
      by_cases hit:i=t
      ·subst hit;simp [bn,eJ,hc.1]
      ·have:(t+1≤i)=(t≤i):=by apply propext;omega
       simp [bn,eJ,hit,this])
    rw [hq] at hi
    rw [hi]
    exact ⟨execOp_put oj hsel _ _ _ hd,wanted_put oj _ _ _ hd⟩
   ·rw [aS (s:=fun i=>s i&&(keep i||decide (t≤i))) (s':=fun i=>s i&&(keep i||decide (t+1≤i))) (x':=x) l 0 a (fun i _ _=>by
     refine ⟨?_,fun _=>rfl⟩
     by_cases hit:i=t
     ·subst hit
      cases h1:s i
      ·simp
      ·cases h2:keep i
       ·exact absurd ⟨h1,h2⟩ hc
       ·simp
     ·have:(t+1≤i)=(t≤i):=by apply propext;omega
      simp [this])]
    exact ⟨rfl,rfl⟩
 have:=key l.length (IV _)
 rw [aS (s:=fun i=>s i&&(keep i||decide (l.length≤i))) (s':=fun i=>s i&&keep i) (x':=x) l 0 a (fun i _ h=>by
  have: ¬l.length≤i:=by omega
  simp [this])] at this
 exact this
def vb (P:Program) (S:Spec) (w:World):Result Next→Prop
 | .ok (.value u) w'=>S.p u w'∧Below w.heap.size w w'
 | .ok .skip w'=>S.p undef w'∧Below w.heap.size w w'
 | .ok (.enter f args) w'=>Calls P f args w' (fun e w''=> ∃v,e = .returned v∧S.p v w''∧Below w.heap.size w w'')
 | _=>False
theorem mo {S:Spec} {u:Value} {w w':World} (h:S.p u w') (hb:Below w.heap.size w w'):vb P S w (.ok (.value u) w'):=⟨h,hb⟩
def gT (P:Program) (ops:Array Oper) (S:Spec) (o:Oper) (a:Act) (w:World):Prop:=
 (Region.wanted o (yielded ops a.tmps)=true∧vb P S w ((execOp a.eval o).run P w))∨(Region.wanted o (yielded ops a.tmps)=false∧S.p undef w)
def ay (ops:Array Oper) (j i:Nat):Bool:=match ops[j]? with|some o=>o.after.any (fun e=>Region.binds .any e&&e.on==i)|none=>false
def ia (P:Program) (ops:Array Oper) (L:List Spec) (w0:World) (Q:Exit→Act→World→Prop):List Oper→Nat→((Nat→Value)→Act)→Prop
 | [],_,_=>False
 | [o],k,A=> ∀x w,Below w0.heap.size w0 w→(∀i,i<k→(bA L i).p (x i) w)→Region.wanted o (yielded ops (A x).tmps)=true∧o.wp P (A x) w (fun a' w'=>Q .normal a' w') Q
 | o :: l,k,A=>(∀x w,Below w0.heap.size w0 w→(∀i,ay ops k i=true→(bA L i).p (x i) w)→gT P ops (bA L k) o (A x) w)∧ia P ops L w0 Q l (k+1) (fun x=>(A x).put o.dst (x k))
theorem cj {L:List Spec} {w0:World} {Q:Exit→Act→World→Prop} {o o2:Oper} {l:List Oper} {k:Nat} {A:(Nat→Value)→Act}
  (h: ∀x w,Below w0.heap.size w0 w→(∀i,ay ops k i=true→(bA L i).p (x i) w)→gT P ops (bA L k) o (A x) w) (h2:ia P ops L w0 Q (o2 :: l) (k+1) (fun x=>(A x).put o.dst (x k))):ia P ops L w0 Q (o :: o2 :: l) k A:=⟨h,h2⟩
theorem m9 {L:List Spec} {w0:World} {Q:Exit→Act→World→Prop} {o:Oper} {k:Nat} {A:(Nat→Value)→Act}
  (h: ∀x w,Below w0.heap.size w0 w→(∀i,i<k→(bA L i).p (x i) w)→Region.wanted o (yielded ops (A x).tmps)=true∧o.wp P (A x) w (fun a' w'=>Q .normal a' w') Q):ia P ops L w0 Q [o] k A:=h
def oV (ops:Array Oper) (i j:Nat):Bool:=
 match ops[i]?,ops[j]? with
 | some oi,some oj=>(ay ops j i||oi.apart ops oj) && !ay ops i j&&(match oi.dst with|some d=>oj.dst !=some d|none=>true)&&(match oj.dst with|some d=> !(oi.looksAt ops).contains d|none=>true)
 | _,_=>true
def qH (ops:Array Oper) (j:Nat):Bool:=match ops[j]? with|some o=>o.after.all (fun e=>decide (e.on<ops.size))|none=>true
def sU (ops:Array Oper):Bool:=
 Region.noSelect ops&&(List.range ops.size).all (fun j=>(List.range j).all (fun i=>oV ops i j)&&(!ay ops j j&&qH ops j)&&(decide (j+1=ops.size)||(List.range ops.size).any (fun i=>decide (j<i)&&ay ops i j)))
theorem Bb {a b c:World} (h1:Below a.heap.size a b) (h2:Below b.heap.size b c):Below a.heap.size a c:=aa h1 h2
theorem wpAny_done {Q:Exit→Act→World→Prop} {listed:Array Bool} {a:Act} {w:World} (h:Region.ready .any ops listed=[]) (hq:Q .normal a w): ∀fuel,wpAny P .any ops Q fuel listed a w
 | 0=>⟨h,hq⟩
 | _+1=>⟨fun _=>hq,fun i hi=>by rw [h] at hi;cases hi⟩
def tb (s:Nat→Bool):Nat→Nat
 | 0=>0
 | k+1=>tb s k+(if s k then 0 else 1)
theorem gA {s s':Nat→Bool}: ∀k,(∀i,i<k→s i=s' i)→tb s k=tb s' k
 | 0,_=>rfl
 | k+1,h=>by rw [tb,tb,gA k (fun i hi=>h i (by omega)),h k (by omega)]
theorem j5 {s:Nat→Bool} {i:Nat}: ∀k,i<k→s i=false→tb (bn s i) k+1=tb s k
 | 0,h,_=>by omega
 | k+1,h,hs=>by
  rw [tb,tb]
  by_cases hik:i=k
  ·subst hik
   rw [gA (s:=bn s i) (s':=s) i (fun j hj=>by have:j≠i:=(by omega);simp [bn,this])]
   simp [bn,hs]
  ·have:=j5 (s:=s) (i:=i) k (by omega) hs
   have hk:bn s i k=s k:=by simp [bn,Ne.symm hik]
   rw [hk];omega
theorem nL {s:Nat→Bool} {i:Nat}: ∀k,i<k→s i=false→1≤tb s k:=fun k h hs=>by
 have:=j5 (s:=s) k h hs;omega
theorem pY {s:Nat→Bool}: ∀k,tb s k≤k
 | 0=>IV _
 | k+1=>by have:=pY (s:=s) k;rw [tb];split<;>omega
def D5 (P:Program) (l:List Oper) (L:List Spec) (w0:World) (a0:Act) (j:Nat) (o:Oper):Prop:=
 ∀x w,Below w0.heap.size w0 w→(∀i,ay l.toArray j i=true→(bA L i).p (x i) w)→gT P l.toArray (bA L j) o (bX (fun i=>decide (i<j)) x l 0 a0) w
def DR (P:Program) (l:List Oper) (L:List Spec) (w0:World) (Q:Exit→Act→World→Prop) (a0:Act) (j:Nat) (o:Oper):Prop:=
 ∀x w,Below w0.heap.size w0 w→(∀i,i<j→(bA L i).p (x i) w) →
  Region.wanted o (yielded l.toArray (bX (fun i=>decide (i<j)) x l 0 a0).tmps)=true∧o.wp P (bX (fun i=>decide (i<j)) x l 0 a0) w (fun a' w'=>Q .normal a' w') Q
theorem qa {l:List Oper} {L:List Spec} {w0:World} {Q:Exit→Act→World→Prop} {a0:Act} (hA:dV l): ∀(l':List Oper) (k:Nat) (A:(Nat→Value)→Act),l.drop k=l'→(A=fun x=>bX (fun i=>decide (i<k)) x l 0 a0) →
  ia P l.toArray L w0 Q l' k A→ ∀j o,k≤j→l[j]? = some o→(j+1<l.length→D5 P l L w0 a0 j o)∧(j+1=l.length→DR P l L w0 Q a0 j o)
 | [],_,_,_,_,h=>h.elim
 | [o],k,A,hl,hAx,h=>by
  intro j o' hj ho
  have h1:l.length=k+1:=by have:=congrArg List.length hl;simp at this;omega
  have h2:l[k]? = some o:=by have:=congrArg (fun m=>m[0]?) hl;simpa using this
  have hjl:=(I0.1 ho).1
  obtain rfl:j=k:=by omega
  rw [h2] at ho;cases ho
  subst hAx
  exact ⟨fun hh=>by omega,fun _=>h⟩
 | o :: o2 :: l',k,A,hl,hAx,h=>by
  intro j o' hj ho
  have h1:l.length=k+(l'.length+2):=by have:=congrArg List.length hl;simp at this;omega
  have h2:l[k]? = some o:=by have:=congrArg (fun m=>m[0]?) hl;simpa using this
  subst hAx
  by_cases hjk:j=k
  ·subst hjk
   rw [h2] at ho;cases ho
   exact ⟨fun _=>h.1,fun hh=>by omega⟩
  ·refine qa hA (o2 :: l') (k+1) _ ?_ ?_ h.2 j o' (by omega) ho
   ·have:=congrArg List.tail hl;simpa using this
   ·funext x
    have hi:=fB (s:=fun i=>decide (i<k)) (x:=x) (v:=x k) l 0 k a0 hA h2 (by simp)
    rw [JK] at hi
    rw [←hi]
    refine aS l 0 a0 (fun i _ _=> ?_)
    by_cases hik:i=k
    ·subst hik;simp [bn,eJ]
    ·have:(i<k+1)=(i<k):=by apply propext;omega
     simp [bn,eJ,hik,this]
theorem jK {Q:Exit→Act→World→Prop} {a:Act} {w:World} {l:List Oper} (L:List Spec) (hB:sU l.toArray=true)
  (h:ia P l.toArray L w.drew Q l 0 (fun _=>a)):wpAny P .any l.toArray Q l.toArray.size (Array.replicate l.toArray.size false) a w.drew:=by
 simp only [sU,JL,List.all_eq_true,List.mem_range,List.size_toArray] at hB
 obtain ⟨hns,hall⟩:=hB
 have hsel:=Region.noSelect_spec hns
 have hpair: ∀i j oi oj,i<j→l[i]? = some oi→l[j]? = some oj→(ay l.toArray j i=true∨oi.apart l.toArray oj=true)∧ay l.toArray i j=false∧(∀e,oi.dst=some e→oj.dst≠some e)∧(∀e,oj.dst=some e→e∉oi.looksAt l.toArray):=by
  intro i j oi oj hij hi hj
  have hjn:=(I0.1 hj).1
  have:=(hall j hjn).1.1 i hij
  simp only [oV,Jg,hi,hj,JL,Bool.or_eq_true,Bool.not_eq_true'] at this
  refine ⟨this.1.1.1,this.1.1.2,fun e he=> ?_,fun e he=> ?_⟩
  ·have h3:=this.1.2
   rw [he] at h3
   simpa using h3
  ·have h3:=this.2
   rw [he] at h3
   simpa using h3
 have hself: ∀j,j<l.length→ay l.toArray j j=false:=fun j hj=>by simpa using (hall j hj).1.2.1
 have hfar: ∀(j:Nat) (o:Oper),l[j]? = some o→ ∀e∈o.after,e.on<l.length:=fun j o hj e he=>by
  have:=(hall j (I0.1 hj).1).1.2.2
  simp only [qH,Jg,hj,Array.all_eq_true_iff_forall_mem] at this
  simpa using this e he
 have hnext: ∀j,j+1<l.length→ ∃i,i<l.length∧j<i∧ay l.toArray i j=true:=fun j hj=>by
  have:=(hall j (by omega)).2
  simp only [Bool.or_eq_true,decide_eq_true_eq,List.any_eq_true,List.mem_range,JL] at this
  rcases this with h|h
  ·omega
  ·exact h
 have hA:dV l:=fun i j oi oj hi hj hij e he=>by
  rcases Nat.lt_or_gt_of_ne hij with h|h
  ·exact (hpair i j oi oj h hi hj).2.2.1 e he
  ·intro h2
   exact (hpair j i oj oi h hj hi).2.2.1 e h2 he
 have hlen:l≠[]:=by intro e;subst e;exact h
 have hn:1≤l.length:=List.length_pos_iff.2 hlen
 have hO:=qa (P:=P) (L:=L) (w0:=w.drew) (Q:=Q) (a0:=a) hA l 0 (fun _=>a) (by simp) (by
  funext x
  exact (show a=bX (fun _=>false) x l 0 a from by
   have: ∀(l:List Oper) k,a=bX (fun _=>false) x l k a:=by
    intro l
    induction l with
    | nil=>intro k;rfl
    | cons o l ih=>intro k;rw [bX];exact ih (k+1)
   exact this l 0).trans (aS l 0 a (fun i _ _=>by simp))) h
 
 have hloose: ∀i j oi oj,l[i]? = some oi→l[j]? = some oj→i≠j→ay l.toArray j i=false→ ∀d,oi.dst=some d→d∉oj.looksAt l.toArray:=by
  intro i j oi oj hi hj hij hd
  rcases Nat.lt_or_gt_of_ne hij with h|h
  ·rcases (hpair i j oi oj h hi hj).1 with h1|h1
   ·rw [hd] at h1;cases h1
   ·exact (Oper.apart_spec h1).1
  ·exact (hpair j i oj oi h hj hi).2.2.2
 
 have hsee: ∀(s s':Nat→Bool) x j oj,l[j]? = some oj→s j=false→s' j=false→(∀i,i<l.length→ay l.toArray j i=true→s i=true∧s' i=true) →
   execOp (bX s x l 0 a).eval oj=execOp (bX s' x l 0 a).eval oj∧Region.wanted oj (yielded l.toArray (bX s x l 0 a).tmps)=Region.wanted oj (yielded l.toArray (bX s' x l 0 a).tmps):=by
  intro s s' x j oj hj h1 h2 hd
  have one:=fun (s:Nat→Bool) (hs:s j=false)=>ki (ops:=l.toArray) (s:=s) (keep:=ay l.toArray j) (x:=x) (a:=a) hA (fun cs b=>hsel j oj cs b (by simpa using hj))
   (fun i oi hi hsi hk=>hloose i j oi oj hi hj (by intro e;subst e;rw [hsi] at hs;cases hs) hk)
  obtain ⟨a1,a2⟩:=one s h1
  obtain ⟨b1,b2⟩:=one s' h2
  have e:bX (fun i=>s i&&ay l.toArray j i) x l 0 a=bX (fun i=>s' i&&ay l.toArray j i) x l 0 a:=aS l 0 a (fun i _ hi=>by
   refine ⟨?_,fun _=>rfl⟩
   cases hk:ay l.toArray j i
   ·simp
   ·obtain ⟨c1,c2⟩:=hd i (by omega) hk
    simp [c1,c2])
  exact ⟨by rw [a1,b1,e],by rw [a2,b2,e]⟩
 have main: ∀fuel (listed:Array Bool) x w1,listed.size=l.length→Below w.drew.heap.size w.drew w1→(∀i,listed.getD i false=true→(bA L i).p (x i) w1) →
   (∀j i,listed.getD j false=true→ay l.toArray j i=true→listed.getD i false=true)→listed.getD (l.length - 1) false=false→tb (fun i=>listed.getD i false) l.length≤fuel →
   wpAny P .any l.toArray Q fuel listed (bX (fun i=>listed.getD i false) x l 0 a) w1:=by
  intro fuel
  induction fuel with
  | zero=>
   intro listed x w1 _ _ _ _ hlast hu
   have:=nL (s:=fun i=>listed.getD i false) l.length (i:=l.length - 1) (by omega) hlast
   omega
  | succ fuel ih=>
   intro listed x w1 hsz hE hF hcl hlast hu
   have hmemR: ∀j,j∈Region.ready .any l.toArray listed→ ∃oj,l[j]? = some oj∧listed.getD j false=false∧ ∀i,ay l.toArray j i=true→listed.getD i false=true:=by
    intro j hj
    obtain ⟨h1,o,ho,h3⟩:=mem_ready.1 hj
    refine ⟨o,by simpa using ho, ?_,fun i hi=> ?_⟩
    ·rcases Nat.lt_or_ge j listed.size with h'|h'
     ·simp [h'] at h1 ⊢; exact h1
     ·simp [Array.getElem?_eq_none h']
    ·simp only [ay,ho,JL,beq_iff_eq,Array.any_eq_true'] at hi
     obtain ⟨e,he,hb,rfl⟩:=hi
     exact h3 e he hb
   refine ⟨fun h0=> ?_,fun j hj=> ?_⟩
   ·
    exfalso
    have hex: ∃m,m<l.length∧listed.getD m false=false∧ ∀i,i<m→listed.getD i false=true:=by
     have: ∀k,k≤l.length→(∀i,i<k→listed.getD i false=true)∨ ∃m,m<l.length∧listed.getD m false=false∧ ∀i,i<m→listed.getD i false=true:=by
      intro k
      induction k with
      | zero=>exact fun _=> .inl (fun i hi=>by omega)
      | succ k ihk=>
       intro hk
       rcases ihk (by omega) with h|h
       ·cases hc:listed.getD k false
        ·exact .inr ⟨k,by omega,hc,h⟩
        ·exact .inl (fun i hi=>by
          by_cases e:i=k
          ·subst e;exact hc
          ·exact h i (by omega))
       ·exact .inr h
     rcases this l.length (IV _) with h|h
     ·have:=h (l.length - 1) (by omega)
      rw [hlast] at this;cases this
     ·exact h
    obtain ⟨m,hm1,hm2,hm3⟩:=hex
    have hmem:m∈Region.ready .any l.toArray listed:=by
     refine mem_ready.2 ⟨?_,l[m],by simp [hm1],fun e he hb=> ?_⟩
     ·have hms:m<listed.size:=by omega
      simp [hms] at hm2 ⊢; exact hm2
     ·have hd:ay l.toArray m e.on=true:=by
       have:l.toArray[m]? = some l[m]:=by simp [hm1]
       simp only [ay,this]
       simp only [Array.any_eq_true',JL,beq_iff_eq]
       exact ⟨e,he,hb,rfl⟩
      rcases Nat.lt_trichotomy e.on m with h|h|h
      ·exact hm3 _ h
      ·rw [h,hself m hm1] at hd;cases hd
      ·by_cases hl:e.on<l.length
       ·have:=(hpair m e.on l[m] l[e.on] h (by simp [hm1]) (by simp [hl])).2.1
        rw [hd] at this;cases this
       ·exact absurd (hfar m l[m] (by simp [hm1]) e he) hl
    rw [h0] at hmem;cases hmem
   ·obtain ⟨oj,hoj,hun,hdeps⟩:=hmemR j hj
    have hjl:=(I0.1 hoj).1
    have hsj:(listed.setIfInBounds j true).size=l.length:=by simpa using hsz
    have hgd: ∀i,(listed.setIfInBounds j true).getD i false=bn (fun i=>listed.getD i false) j i:=by
     intro i
     by_cases hij:i=j
     ·subst hij
      have:i<listed.size:=by omega
      simp [bn,this]
     ·simp only [bn,if_neg hij]
      exact getD_set_ne false (Ne.symm hij)
    have hO:=hO j oj (Nat.zero_le _) hoj
    unfold wpOp
    simp only [Jg,hoj]
    by_cases hjn:j+1=l.length
    ·
     have hup: ∀t i,i+t+1=l.length→t≠0→listed.getD i false=true:=by
      intro t
      induction t using Nat.strongRecOn with
      | _ t iht=>
       intro i hi ht
       obtain ⟨i',h1,h2,h3⟩:=hnext i (by omega)
       by_cases hi':i'=j
       ·subst hi';exact hdeps i h3
       ·exact hcl i' i (iht (l.length - 1 - i') (by omega) i' (by omega) (by omega)) h3
     have hall': ∀i,i<j→listed.getD i false=true:=fun i hi=>hup (j - i) i (by omega) (by omega)
     obtain ⟨h1,h2⟩:=hO.2 hjn x w1 hE (fun i hi=>hF i (hall' i hi))
     have e:bX (fun i=>decide (i<j)) x l 0 a=bX (fun i=>listed.getD i false) x l 0 a:=aS l 0 a (fun i _ hi=>by
      refine ⟨?_,fun _=>rfl⟩
      by_cases hij:i<j
      ·simp only [hij,decide_true];exact (hall' i hij).symm
      ·obtain rfl:i=j:=by omega
       simp only [hij,decide_false];exact hun.symm)
     rw [e] at h1 h2
     rw [if_pos h1]
     refine .inl (Oper.wp_mono (fun a' w' hq=>wpAny_done ?_ hq fuel) h2)
     refine List.eq_nil_iff_forall_not_mem.2 (fun i hi=> ?_)
     obtain ⟨g1,o,g2, -⟩:=mem_ready.1 hi
     have hil:i<l.length:=by
      have:=(I0.1 (show l[i]? = some o by simpa using g2)).1
      exact this
     have his:i<(listed.setIfInBounds j true).size:=by omega
     have g3:=hgd i
     rw [show (listed.setIfInBounds j true).getD i false=false by
      simp only [JM,Array.getElem?_eq_getElem his,Option.getD_some] at g1 ⊢; exact g1] at g3
     by_cases hij:i=j
     ·simp [bn,hij] at g3
     ·simp only [bn,if_neg hij] at g3
      rw [hall' i (by omega)] at g3;cases g3
    ·have hst:=hO.1 (by omega) x w1 hE (fun i hi=>hF i (hdeps i hi))
     obtain ⟨c1,c2⟩:=hsee (fun i=>listed.getD i false) (fun i=>decide (i<j)) x j oj hoj hun (by simp) (fun i hi hd=>⟨hdeps i hd,by
      rcases Nat.lt_trichotomy i j with h|h|h
      ·simpa using h
      ·rw [h,hself j hjl] at hd;cases hd
      ·have:=(hpair j i oj l[i] h hoj (by simp [hi])).2.1
       rw [hd] at this;cases this⟩)
     have next: ∀v w2,(bA L j).p v w2→Below w1.heap.size w1 w2→wpAny P .any l.toArray Q fuel (listed.setIfInBounds j true) ((bX (fun i=>listed.getD i false) x l 0 a).put oj.dst v) w2:=by
      intro v w2 hv hb
      have hi:=fB (s:=fun i=>listed.getD i false) (x:=x) (v:=v) l 0 j a hA hoj (by simpa using hun)
      rw [JK] at hi
      rw [←hi, ← show (fun i=>(listed.setIfInBounds j true).getD i false)=bn (fun i=>listed.getD i false) j from funext hgd]
      refine ih _ _ w2 hsj (Bb hE hb) (fun i hi'=> ?_) (fun j' i hj' hd=> ?_) ?_ ?_
      ·rw [hgd] at hi'
       by_cases hij:i=j
       ·subst hij;simpa [eJ] using hv
       ·simp only [bn,if_neg hij] at hi'
        simp only [eJ,if_neg hij]
        exact (bA L i).st _ _ _ hb (hF i hi')
      ·rw [hgd] at hj' ⊢
       by_cases hij:i=j
       ·simp [bn,hij]
       ·simp only [bn,if_neg hij]
        by_cases hj2:j'=j
        ·subst hj2;exact hdeps i hd
        ·simp only [bn,if_neg hj2] at hj'
         exact hcl j' i hj' hd
      ·rw [hgd]
       have:l.length - 1≠j:=by omega
       simp only [bn,if_neg this];exact hlast
      ·rw [gA (s':=bn (fun i=>listed.getD i false) j) l.length (fun i _=>hgd i)]
       have:=j5 (s:=fun i=>listed.getD i false) (i:=j) l.length hjl hun
       omega
     unfold gT at hst
     rw [←c1, ← c2] at hst
     rcases hst with ⟨h1,h2⟩|⟨h1,h2⟩
     ·rw [if_pos h1]
      refine .inl ?_
      unfold Oper.wp
      generalize (execOp (bX (fun i=>listed.getD i false) x l 0 a).eval oj).run P w1=r at h2
      cases r with
      | halt _ _=>exact h2.elim
      | ok n w'=>
       cases n<;>first|exact h2.elim|skip
       case value u=>exact next _ _ h2.1 h2.2
       case skip=>exact next _ _ h2.1 h2.2
       case enter f args=>
        refine Calls.mono h2 fun e w'' he=> ?_
        obtain ⟨v,rfl,hv,hb⟩:=he
        exact next _ _ hv hb
     ·rw [if_neg (by rw [h1];decide)]
      exact next _ _ h2 (Below.refl _ _)
 have hrep: ∀i,(Array.replicate l.toArray.size false).getD i false=false:=fun i=>by
  simp only [JM,Array.getElem?_replicate];split<;>rfl
 have h0:=main l.toArray.size (Array.replicate l.toArray.size false) (fun _=>undef) w.drew (by simp) (Below.refl _ _)
  (fun i hi=>by rw [hrep] at hi;cases hi) (fun j i hj=>by rw [hrep] at hj;cases hj) (hrep _) (pY _)
 have e:bX (fun i=>(Array.replicate l.toArray.size false).getD i false) (fun _=>undef) l 0 a=a:=by
  have: ∀(l':List Oper) k,bX (fun i=>(Array.replicate l.toArray.size false).getD i false) (fun _=>undef) l' k a=a:=by
   intro l'
   induction l' with
   | nil=>intro k;rfl
   | cons o l' ih=>intro k;rw [bX,hrep];exact ih (k+1)
  exact this l 0
 rw [e] at h0
 exact h0
theorem qw {id:Nat} {Q:Exit→Act→World→Prop} {a:Act} {w:World} {l:List Oper} (L:List Spec) (hm:P.follows .mixedOrders=true) (hB:sU l.toArray=true)
  (h:ia P l.toArray L w.drew Q l 0 (fun _=>a)):(Code.region id l.toArray true).wp P Q a w:=wp_region_any hm (jK L hB h)
end
end Go.Proofs.YtldnlbcibmmbbaaGreat
