/- texts of one claim, one behind the other. -/
import Derived.Test.YtlhhccmopfamhaaGreatDoorWBase2
import Derived.RangeFuncNested
import Derived.RangeFuncBound
import Derived.RangeFuncCalls
import Derived.RangeFuncLeaves
import Derived.Shelf.Abstract
import Derived.Shelf.RegionOpen
import Derived.OwnWalkIn
import Derived.TacticsInMore
import Derived.LoopNIn
import Derived.LoopIn
import Derived.Maps.AppendAt
import Derived.Test.YtlhhccmopfamhaaGreatDoorProg
import Derived.Lib.SlicesCompact
import Derived.Test.YtlhhccmopfamhaaGreatDoorWOpenX
set_option linter.unusedSimpArgs false
set_option linter.unusedVariables false
set_option maxRecDepth 100000
set_option maxHeartbeats 16000000
open List renaming append_nil -> Up, append_eq_nil_iff -> Uq, mem_cons_self -> Ua, mem_cons_of_mem -> T8, length_append -> Tb, exists_cons_of_ne_nil -> Ur, findIdx?_eq_some_iff_getElem -> Ut, findIdx?_eq_none_iff -> Uu, getElem?_eq_some_iff -> S7, mem_cons -> Uv, getElem?_toArray -> Tp
open Array renaming getElem?_eq_some_iff -> S5, getD_eq_getD_getElem? -> T0
open Bool renaming true_and -> Us, and_eq_true -> TY
open Nat renaming le_refl -> SY
namespace Go.Proofs.YtlhhccmopfamhaaGreatDoor
open Go.RowKit
inductive ec (L:List ByteArray->Prop):List ByteArray->Prop
 | nil:ec L []
 | cons (u v:List ByteArray):u≠[]->L u->ec L v->ec L (u++v)
theorem ec.append {L:List ByteArray->Prop} {u v:List ByteArray} (h:ec L u) (k:ec L v):ec L (u++v):=by
 induction h with
 | nil=>exact k
 | cons a b h1 h2 _ ih=>rw [List.append_assoc];exact .cons a _ h1 h2 ih
theorem ec.one {L:List ByteArray->Prop} {u:List ByteArray} (h:L u):ec L u:=by
 by_cases hu:u=[]
 ·subst hu;exact .nil
 ·have:=ec.cons u [] hu h .nil
  rwa [Up] at this
theorem ec.inv {L:List ByteArray->Prop} {w:List ByteArray} (h:ec L w):w=[]∨ ∃u v,w=u++v∧u≠[]∧L u∧ec L v:=by
 cases h with
 | nil=>exact .inl rfl
 | cons a b h1 h2 h3=>exact .inr ⟨a,b,rfl,h1,h2,h3⟩
mutual
def Lg:Ex->List ByteArray->Prop
 | .mk k s l,w=>if k=1 then w=[s] else if k=2 then ml l w else if k=3 then oG l w else if k=4 then ec (yI l) w
  else if k=5 then ∃u v,w=u++v∧yI l u∧ec (yI l) v else if k=6 then w=[]∨yI l w else False
def ml:List Ex->List ByteArray->Prop
 | [],w=>w=[]
 | x :: xs,w=> ∃u v,w=u++v∧Lg x u∧ml xs v
def oG:List Ex->List ByteArray->Prop
 | [],_=>False
 | x :: xs,w=>Lg x w∨oG xs w
def yI:List Ex->List ByteArray->Prop
 | [],_=>False
 | x :: _,w=>Lg x w
end
theorem so: ∀ {l:List Ex} {w:List ByteArray},oG l w ↔ ∃x∈l,Lg x w
 | [],w=>by simp [oG]
 | x :: xs,w=>by simp [oG,so (l:=xs)]
mutual
def aT:Ex->Bool
 | .mk k _ l=>if k=4 then true else if k=6 then true else if k=3 then pB l else if k=2 then cH l else if k=5 then cH l else false
def pB:List Ex->Bool
 | []=>false
 | x :: xs=>aT x||pB xs
def cH:List Ex->Bool
 | []=>true
 | x :: xs=>aT x&&cH xs
end
theorem lX: ∀l:List Ex,pB l=l.any aT
 | []=>rfl
 | x :: xs=>by rw [pB,lX xs];rfl
theorem jm: ∀l:List Ex,cH l=l.all aT
 | []=>rfl
 | x :: xs=>by rw [cH,jm xs];rfl
theorem kM: ∀ {l:List Ex},ml l [] ↔ ∀x∈l,Lg x []
 | []=>by simp [ml]
 | x :: xs=>by
  rw [ml]
  constructor
  ·rintro ⟨u,v,h,h1,h2⟩;obtain ⟨rfl,rfl⟩:=Uq.1 h.symm;intro y hy
   rcases List.mem_cons.1 hy with rfl|hy
   ·exact h1
   ·exact kM.1 h2 y hy
  ·intro h;exact ⟨[],[],rfl,h x Ua,kM.2 (fun y hy=>h y (T8 _ hy))⟩
inductive Fit:Ex->Prop
 | lab (s:ByteArray):Fit (.mk 1 s [])
 | many (k:Int) (s:ByteArray) (l:List Ex):(k=2∨k=3)->1<l.length->(∀x∈l,Fit x)->Fit (.mk k s l)
 | one (k:Int) (s:ByteArray) (x:Ex):(k=4∨k=5∨k=6)->Fit x->Fit (.mk k s [x])
theorem ij {x:Ex} (h:Fit x):aT x=true↔Lg x []:=by
 induction h with
 | lab s=>simp [aT,Lg]
 | many k s l hk hl _ ih=>
  rcases hk with rfl|rfl
  ·simp only [aT,Lg,jm,kM,Int.reduceEq,if_false,if_true];rw [List.all_eq_true]
   constructor
   ·intro h x hx;exact (ih x hx).1 (h x hx)
   ·intro h x hx;exact (ih x hx).2 (h x hx)
  ·simp only [aT,Lg,lX,so,List.any_eq_true,Int.reduceEq,if_false,if_true]
   constructor
   ·rintro ⟨x,hx,h⟩;exact ⟨x,hx,(ih x hx).1 h⟩
   ·rintro ⟨x,hx,h⟩;exact ⟨x,hx,(ih x hx).2 h⟩
 | one k s x hk _ ih=>
  rcases hk with rfl|rfl|rfl
  ·simp [aT,Lg,ec.nil]
  ·simp only [aT,Lg,cH,yI,Int.reduceEq,if_false,if_true,Bool.and_true];rw [ih]
   constructor
   ·intro h;exact ⟨[],[],rfl,h, .nil⟩
   ·rintro ⟨u,v,h,h1,_⟩;obtain ⟨rfl,rfl⟩:=Uq.1 h.symm;exact h1
  ·simp [aT,Lg]
def Sf (w:List ByteArray) (i j:Nat):List ByteArray:=(w.drop i).take (j - i)
def Tk (L:List ByteArray->Prop) (w:List ByteArray) (i j:Nat):Prop:=i<=j∧j<=w.length∧L (Sf w i j)
mutual
def aX:Ex->List ByteArray
 | .mk k s l=>if k=1 then [s] else aE l
def aE:List Ex->List ByteArray
 | []=>[]
 | x :: xs=>aX x++aE xs
end
mutual
def kL:Ex->Nat->Nat->Prop
 | .mk k _ l,b,p=>if k=1 then p=b+1 else if k=2 then fW l b p else fG l b p
def fW:List Ex->Nat->Nat->Prop
 | [],_,_=>False
 | x :: xs,b,p=>kL x b p∨(aT x=true∧fW xs (b+(aX x).length) p)
def fG:List Ex->Nat->Nat->Prop
 | [],_,_=>False
 | x :: xs,b,p=>kL x b p∨fG xs (b+(aX x).length) p
end
mutual
def ja:Ex->Nat->Nat->Prop
 | .mk k _ l,b,p=>if k=1 then p=b+1 else if k=2 then iF l b p else fH l b p
def iF:List Ex->Nat->Nat->Prop
 | [],_,_=>False
 | x :: xs,b,p=>(cH xs=true∧ja x b p)∨iF xs (b+(aX x).length) p
def fH:List Ex->Nat->Nat->Prop
 | [],_,_=>False
 | x :: xs,b,p=>ja x b p∨fH xs (b+(aX x).length) p
end
mutual
def iD:Ex->Nat->Nat->Nat->Prop
 | .mk k _ l,b,p,q=>if k=1 then False else if k=2 then fV l b p q else gU l b p q∨((k=4∨k=5)∧fH l b p∧fG l b q)
def fV:List Ex->Nat->Nat->Nat->Prop
 | [],_,_,_=>False
 | x :: xs,b,p,q=>iD x b p q∨fV xs (b+(aX x).length) p q∨(ja x b p∧fW xs (b+(aX x).length) q)
def gU:List Ex->Nat->Nat->Nat->Prop
 | [],_,_,_=>False
 | x :: xs,b,p,q=>iD x b p q∨gU xs (b+(aX x).length) p q
end
theorem ny: ∀ {l:List Ex} {b p:Nat},fW l b p->fG l b p
 | [],_,_,h=>h
 | x :: xs,b,p,h=>by
  rw [fW] at h;rw [fG];exact h.imp id (fun h=>ny h.2)
theorem tX: ∀ {l:List Ex} {b p:Nat},iF l b p->fH l b p
 | [],_,_,h=>h
 | x :: xs,b,p,h=>by
  rw [iF] at h;rw [fH];exact h.imp (fun h=>h.2) tX
theorem db {k:Int} (h:k≠1) (s:ByteArray) (l:List Ex):aX (.mk k s l)=aE l:=by rw [aX,if_neg h]
theorem fq (x:Ex): ∀ {b p:Nat},kL x b p->b<p∧p<=b+(aX x).length:=by
 induction x using Ex.ind with
 | h k s l ih=>
  intro b p h
  have key: ∀(m:List Ex),(∀x∈m,x∈l)-> ∀ {b p:Nat},fG m b p->b<p∧p<=b+(aE m).length:=by
   intro m
   induction m with
   | nil=>intro _ b p h;exact h.elim
   | cons x xs ihm=>
    intro hm b p h;rw [fG] at h;rw [aE,Tb]
    rcases h with h|h
    ·have:=ih x (hm x Ua) h;omega
    ·have:=ihm (fun y hy=>hm y (T8 _ hy)) h;omega
  rw [kL] at h
  by_cases h1:k=1
  ·rw [if_pos h1] at h;rw [aX,if_pos h1];simp;omega
  ·rw [if_neg h1] at h;rw [db h1]
   split at h
   ·exact key l (fun _ h=>h) (ny h)
   ·exact key l (fun _ h=>h) h
theorem dU: ∀ {l:List Ex} {b p:Nat},fG l b p->b<p∧p<=b+(aE l).length
 | [],b,p,h=>h.elim
 | x :: xs,b,p,h=>by
  rw [fG] at h;rw [aE,Tb]
  rcases h with h|h
  ·have:=fq x h;omega
  ·have:=dU h;omega
theorem eb (x:Ex): ∀ {b p:Nat},ja x b p->b<p∧p<=b+(aX x).length:=by
 induction x using Ex.ind with
 | h k s l ih=>
  intro b p h
  have key: ∀(m:List Ex),(∀x∈m,x∈l)-> ∀ {b p:Nat},fH m b p->b<p∧p<=b+(aE m).length:=by
   intro m
   induction m with
   | nil=>intro _ b p h;exact h.elim
   | cons x xs ihm=>
    intro hm b p h;rw [fH] at h;rw [aE,Tb]
    rcases h with h|h
    ·have:=ih x (hm x Ua) h;omega
    ·have:=ihm (fun y hy=>hm y (T8 _ hy)) h;omega
  rw [ja] at h
  by_cases h1:k=1
  ·rw [if_pos h1] at h;rw [aX,if_pos h1];simp;omega
  ·rw [if_neg h1] at h;rw [db h1]
   split at h
   ·exact key l (fun _ h=>h) (tX h)
   ·exact key l (fun _ h=>h) h
theorem dV: ∀ {l:List Ex} {b p:Nat},fH l b p->b<p∧p<=b+(aE l).length
 | [],b,p,h=>h.elim
 | x :: xs,b,p,h=>by
  rw [fH] at h;rw [aE,Tb]
  rcases h with h|h
  ·have:=eb x h;omega
  ·have:=dV h;omega
theorem cY (x:Ex): ∀ {b p q:Nat},iD x b p q->(b<p∧p<=b+(aX x).length)∧b<q∧q<=b+(aX x).length:=by
 induction x using Ex.ind with
 | h k s l ih=>
  intro b p q h
  have key: ∀(m:List Ex),(∀x∈m,x∈l)-> ∀ {b p q:Nat},gU m b p q->(b<p∧p<=b+(aE m).length)∧b<q∧q<=b+(aE m).length:=by
   intro m
   induction m with
   | nil=>intro _ b p q h;exact h.elim
   | cons x xs ihm=>
    intro hm b p q h;rw [gU] at h;rw [aE,Tb]
    rcases h with h|h
    ·have:=ih x (hm x Ua) h;omega
    ·have:=ihm (fun y hy=>hm y (T8 _ hy)) h;omega
  have keyS: ∀(m:List Ex),(∀x∈m,x∈l)-> ∀ {b p q:Nat},fV m b p q->(b<p∧p<=b+(aE m).length)∧b<q∧q<=b+(aE m).length:=by
   intro m
   induction m with
   | nil=>intro _ b p q h;exact h.elim
   | cons x xs ihm=>
    intro hm b p q h;rw [fV] at h;rw [aE,Tb]
    rcases h with h|h|⟨h,h'⟩
    ·have:=ih x (hm x Ua) h;omega
    ·have:=ihm (fun y hy=>hm y (T8 _ hy)) h;omega
    ·have:=eb x h;have:=dU (ny h');omega
  rw [iD] at h
  by_cases h1:k=1
  ·rw [if_pos h1] at h;exact h.elim
  ·rw [if_neg h1] at h;rw [db h1]
   split at h
   ·exact keyS l (fun _ h=>h) h
   ·rcases h with h|⟨_,h,h'⟩
    ·exact key l (fun _ h=>h) h
    ·exact ⟨dV h,dU h'⟩
theorem lI: ∀ {l:List Ex} {b p q:Nat},fV l b p q->(b<p∧p<=b+(aE l).length)∧b<q∧q<=b+(aE l).length
 | [],b,p,q,h=>h.elim
 | x :: xs,b,p,q,h=>by
  rw [fV] at h;rw [aE,Tb]
  rcases h with h|h|⟨h,h'⟩
  ·have:=cY x h;omega
  ·have:=lI h;omega
  ·have:=eb x h;have:=dU (ny h');omega
theorem lH: ∀ {l:List Ex} {b p q:Nat},gU l b p q->(b<p∧p<=b+(aE l).length)∧b<q∧q<=b+(aE l).length
 | [],b,p,q,h=>h.elim
 | x :: xs,b,p,q,h=>by
  rw [gU] at h;rw [aE,Tb]
  rcases h with h|h
  ·have:=cY x h;omega
  ·have:=lH h;omega
def aQ (F:Nat->Nat->Prop) (g:Nat->ByteArray):Nat->List ByteArray->Nat->Prop
 | p,[],q=>p=q
 | p,a :: w,q=> ∃r,F p r∧g r=a∧aQ F g r w q
theorem aQ.imp {F G:Nat->Nat->Prop} {g:Nat->ByteArray} (h: ∀p q,F p q->G p q): ∀ {w:List ByteArray} {p q:Nat},aQ F g p w q->aQ G g p w q
 | [],_,_,hc=>hc
 | _ :: _,_,_,⟨r,h1,h2,h3⟩=>⟨r,h _ _ h1,h2,h3.imp h⟩
theorem aQ.app {F:Nat->Nat->Prop} {g:Nat->ByteArray}: ∀ {u v:List ByteArray} {p q:Nat},aQ F g p (u++v) q ↔ ∃r,aQ F g p u r∧aQ F g r v q
 | [],v,p,q=>⟨fun h=>⟨p,rfl,h⟩,fun ⟨_,h,k⟩=>by cases h;exact k⟩
 | a :: u,v,p,q=>by
  constructor
  ·rintro ⟨r,h1,h2,h3⟩;obtain ⟨s,h4,h5⟩:=aQ.app.1 h3;exact ⟨s,⟨r,h1,h2,h4⟩,h5⟩
  ·rintro ⟨s,⟨r,h1,h2,h4⟩,h5⟩;exact ⟨r,h1,h2,aQ.app.2 ⟨s,h4,h5⟩⟩
def b8 (I:Nat->Prop) (F:Nat->Nat->Prop) (T:Nat->Prop) (g:Nat->ByteArray):List ByteArray->Prop
 | []=>False
 | a :: w=> ∃p q,I p∧g p=a∧aQ F g p w q∧T q
theorem aQ.split {F G:Nat->Nat->Prop} {I T:Nat->Prop} {g:Nat->ByteArray} (hG: ∀p q,G p q->F p q∨(T p∧I q)): ∀ {w:List ByteArray} {p q:Nat},aQ G g p w q ->
  aQ F g p w q∨ ∃u a v r s,w=u++a :: v∧aQ F g p u r∧T r∧I s∧g s=a∧aQ G g s v q
 | [],_,_,h=> .inl h
 | a :: w,p,q,⟨r,h1,h2,h3⟩=>by
  rcases hG p r h1 with h|⟨h,k⟩
  ·rcases aQ.split hG h3 with h4|⟨u,b,v,r',s,rfl,h4,h5,h6,h7,h8⟩
   ·exact .inl ⟨r,h,h2,h4⟩
   ·exact .inr ⟨a :: u,b,v,r',s,rfl,⟨r,h,h2,h4⟩,h5,h6,h7,h8⟩
  ·exact .inr ⟨[],a,w,p,r,rfl,rfl,h,k,h2,h3⟩
theorem aQ.stay {F G:Nat->Nat->Prop} {S:Nat->Prop} {g:Nat->ByteArray} (hG: ∀p q,S p->G p q->F p q∧S q): ∀ {w:List ByteArray} {p q:Nat},S p->aQ G g p w q->aQ F g p w q∧S q
 | [],_,_,hs,h=>by cases h;exact ⟨rfl,hs⟩
 | a :: w,p,q,hs,⟨r,h1,h2,h3⟩=>by
  obtain ⟨h4,h5⟩:=hG p r hs h1;obtain ⟨h6,h7⟩:=aQ.stay hG h5 h3;exact ⟨⟨r,h4,h2,h6⟩,h7⟩
def ly (ls:List ByteArray) (b:Nat) (g:Nat->ByteArray):Prop:= ∀(i:Nat) s,ls[i]? = some s->g (b+1+i)=s
theorem ly.left {l m:List ByteArray} {b:Nat} {g:Nat->ByteArray} (h:ly (l++m) b g):ly l b g:=fun i s hi=>h i s (by rw [List.getElem?_append_left (List.getElem?_eq_some_iff.1 hi).1];exact hi)
theorem ly.right {l m:List ByteArray} {b:Nat} {g:Nat->ByteArray} (h:ly (l++m) b g):ly m (b+l.length) g:=fun i s hi=>by
 have:=h (l.length+i) s (by rw [List.getElem?_append_right (by omega),Nat.add_sub_cancel_left];exact hi)
 rw [<-this];congr 1;omega
theorem aQ.GI {F G:Nat->Nat->Prop} {I T S:Nat->Prop} {g:Nat->ByteArray} (hG: ∀p q,S p->G p q->(F p q∧S q)∨(T p∧I q)): ∀ {w:List ByteArray} {p q:Nat},S p->aQ G g p w q ->
  (aQ F g p w q∧S q)∨ ∃u a v r s,w=u++a :: v∧aQ F g p u r∧T r∧I s∧g s=a∧aQ G g s v q
 | [],_,_,hs,h=> .inl ⟨h,by cases h;exact hs⟩
 | a :: w,p,q,hs,⟨r,h1,h2,h3⟩=>by
  rcases hG p r hs h1 with ⟨h,k⟩|⟨h,k⟩
  ·rcases aQ.GI hG k h3 with ⟨h4,h5⟩|⟨u,b,v,r',s,rfl,h4,h5,h6,h7,h8⟩
   ·exact .inl ⟨⟨r,h,h2,h4⟩,h5⟩
   ·exact .inr ⟨a :: u,b,v,r',s,rfl,⟨r,h,h2,h4⟩,h5,h6,h7,h8⟩
  ·exact .inr ⟨[],a,w,p,r,rfl,rfl,h,k,h2,h3⟩
theorem F6 {x:Ex} {xs:List Ex} {b:Nat} {g:Nat->ByteArray} {w:List ByteArray} (hw:w≠[]) :
  b8 (fW (x :: xs) b) (fV (x :: xs) b) (iF (x :: xs) b) g w ↔
   (b8 (kL x b) (iD x b) (ja x b) g w∧cH xs=true)∨(aT x=true∧b8 (fW xs (b+(aX x).length)) (fV xs (b+(aX x).length)) (iF xs (b+(aX x).length)) g w) ∨
   ∃u v,w=u++v∧b8 (kL x b) (iD x b) (ja x b) g u∧b8 (fW xs (b+(aX x).length)) (fV xs (b+(aX x).length)) (iF xs (b+(aX x).length)) g v:=by
 obtain ⟨a,w,rfl⟩:=Ur hw;generalize hb':b+(aX x).length=b'
 have eS: ∀p q,fV (x :: xs) b p q↔iD x b p q∨fV xs b' p q∨(ja x b p∧fW xs b' q):=fun p q=>by rw [fV,hb']
 have eL: ∀p,iF (x :: xs) b p↔(cH xs=true∧ja x b p)∨iF xs b' p:=fun p=>by rw [iF,hb']
 have eF: ∀p,fW (x :: xs) b p↔kL x b p∨(aT x=true∧fW xs b' p):=fun p=>by rw [fW,hb']
 have inX: ∀ {p},kL x b p->p<=b':=fun h=>by have:=fq x h;omega
 have inXs: ∀ {p},fW xs b' p->b'<p:=fun h=>by have:=dU (ny h);omega
 have stayR: ∀ {w p q},b'<p->aQ (fV (x :: xs) b) g p w q->aQ (fV xs b') g p w q∧b'<q:=fun hp h=>
  aQ.stay (S:=fun p=>b'<p) (fun p q hp h=>by
   rcases (eS p q).1 h with h|h|⟨h,_⟩
   ·have:=cY x h;omega
   ·exact ⟨h,by have:=lI h;omega⟩
   ·have:=eb x h;omega) hp h
 have endR: ∀ {q},b'<q->iF (x :: xs) b q->iF xs b' q:=fun hq h=>by
  rcases (eL _).1 h with ⟨_,h⟩|h
  ·have:=eb x h;omega
  ·exact h
 constructor
 ·rintro ⟨p,q,hp,hg,hc,hq⟩
  rcases (eF p).1 hp with hp|⟨he,hp⟩
  ·rcases aQ.GI (F:=iD x b) (I:=fW xs b') (T:=ja x b) (S:=fun p=>p<=b') (fun p q hs h=>by
    rcases (eS p q).1 h with h|h|h
    ·exact .inl ⟨h,by have:=cY x h;omega⟩
    ·have:=lI h;omega
    ·exact .inr h) (inX hp) hc with ⟨h1,h2⟩|⟨u,c,v,r,s,rfl,h1,h2,h3,h4,h5⟩
   ·left
    rcases (eL q).1 hq with ⟨h3,h4⟩|h
    ·exact ⟨⟨p,q,hp,hg,h1,h4⟩,h3⟩
    ·have:=dV (tX h);omega
   ·right;right;obtain ⟨h6,h7⟩:=stayR (inXs h3) h5;exact ⟨a :: u,c :: v,rfl,⟨p,r,hp,hg,h1,h2⟩,s,q,h3,h4,h6,endR h7 hq⟩
  ·obtain ⟨h1,h2⟩:=stayR (inXs hp) hc;exact .inr (.inl ⟨he,p,q,hp,hg,h1,endR h2 hq⟩)
 ·rintro (⟨⟨p,q,hp,hg,hc,hq⟩,he⟩|⟨he,p,q,hp,hg,hc,hq⟩|⟨u,v,e,hu,hv⟩)
  ·exact ⟨p,q,(eF p).2 (.inl hp),hg,hc.imp (fun p q h=>(eS p q).2 (.inl h)),(eL q).2 (.inl ⟨he,hq⟩)⟩
  ·exact ⟨p,q,(eF p).2 (.inr ⟨he,hp⟩),hg,hc.imp (fun p q h=>(eS p q).2 (.inr (.inl h))),(eL q).2 (.inr hq)⟩
  ·cases u with
   | nil=>exact hu.elim
   | cons a' u=>
    obtain ⟨rfl,rfl⟩:a=a'∧w=u++v:=by simpa using e
    cases v with
    | nil=>exact hv.elim
    | cons c v=>
     obtain ⟨p,r,h1,h2,h3,h4⟩:=hu;obtain ⟨s,q,k1,k2,k3,k4⟩:=hv;refine ⟨p,q,(eF p).2 (.inl h1),h2,aQ.app.2 ⟨r,h3.imp (fun p q h=>(eS p q).2 (.inl h)),s,(eS r s).2 (.inr (.inr ⟨h4,k1⟩)),k2,k3.imp (fun p q h=>(eS p q).2 (.inr (.inl h)))⟩,(eL q).2 (.inr k4)⟩
theorem F4 {x:Ex} {xs:List Ex} {b:Nat} {g:Nat->ByteArray} {w:List ByteArray} :
  b8 (fG (x :: xs) b) (gU (x :: xs) b) (fH (x :: xs) b) g w ↔
   b8 (kL x b) (iD x b) (ja x b) g w∨b8 (fG xs (b+(aX x).length)) (gU xs (b+(aX x).length)) (fH xs (b+(aX x).length)) g w:=by
 cases w with
 | nil=>simp [b8]
 | cons a w=>
  generalize hb':b+(aX x).length=b'
  have eS: ∀p q,gU (x :: xs) b p q↔iD x b p q∨gU xs b' p q:=fun p q=>by rw [gU,hb']
  have eL: ∀p,fH (x :: xs) b p↔ja x b p∨fH xs b' p:=fun p=>by rw [fH,hb']
  have eF: ∀p,fG (x :: xs) b p↔kL x b p∨fG xs b' p:=fun p=>by rw [fG,hb']
  constructor
  ·rintro ⟨p,q,hp,hg,hc,hq⟩
   rcases (eF p).1 hp with hp|hp
   ·obtain ⟨h1,h2⟩:=aQ.stay (F:=iD x b) (S:=fun p=>p<=b') (fun p q hs h=>by
     rcases (eS p q).1 h with h|h
     ·exact ⟨h,by have:=cY x h;omega⟩
     ·have:=lH h;omega) (by have:=fq x hp;omega) hc
    rcases (eL q).1 hq with hq|hq
    ·exact .inl ⟨p,q,hp,hg,h1,hq⟩
    ·have:=dV hq;omega
   ·obtain ⟨h1,h2⟩:=aQ.stay (F:=gU xs b') (S:=fun p=>b'<p) (fun p q hs h=>by
     rcases (eS p q).1 h with h|h
     ·have:=cY x h;omega
     ·exact ⟨h,by have:=lH h;omega⟩) (by have:=dU hp;omega) hc
    rcases (eL q).1 hq with hq|hq
    ·have:=eb x hq;omega
    ·exact .inr ⟨p,q,hp,hg,h1,hq⟩
  ·rintro (⟨p,q,hp,hg,hc,hq⟩|⟨p,q,hp,hg,hc,hq⟩)
   ·exact ⟨p,q,(eF p).2 (.inl hp),hg,hc.imp (fun p q h=>(eS p q).2 (.inl h)),(eL q).2 (.inl hq)⟩
   ·exact ⟨p,q,(eF p).2 (.inr hp),hg,hc.imp (fun p q h=>(eS p q).2 (.inr h)),(eL q).2 (.inr hq)⟩
theorem Dj {I T:Nat->Prop} {F:Nat->Nat->Prop} {g:Nat->ByteArray} {w:List ByteArray} (hw:w≠[]) :
  b8 I (fun p q=>F p q∨(T p∧I q)) T g w↔ec (b8 I F T g) w:=by
 constructor
 ·generalize hn:w.length=n
  induction n using Nat.strongRecOn generalizing w with
  | ind n ih=>
   intro h
   cases w with
   | nil=>exact h.elim
   | cons a w=>
    obtain ⟨p,q,hp,hg,hc,hq⟩:=h
    rcases aQ.split (F:=F) (I:=I) (T:=T) (fun _ _ h=>h) hc with h1|⟨u,c,v,r,s,rfl,h1,h2,h3,h4,h5⟩
    ·exact .one ⟨p,q,hp,hg,h1,hq⟩
    ·have:=ih (c :: v).length (by subst hn;simp;omega) (w:=c :: v) (by simp) rfl ⟨s,q,h3,h4,h5,hq⟩
     rw [show a :: (u++c :: v)=(a :: u)++(c :: v) from rfl];exact .cons _ _ (by simp) ⟨p,r,hp,hg,h1,h2⟩ this
 ·intro h
  have key:w=[]∨b8 I (fun p q=>F p q∨(T p∧I q)) T g w:=by
   clear hw
   induction h with
   | nil=>exact .inl rfl
   | cons u v hu h1 _ ih=>
    right
    cases u with
    | nil=>exact absurd rfl hu
    | cons a u=>
     obtain ⟨p,q,hp,hg,hc,hq⟩:=h1;have hc':=hc.imp (G:=fun p q=>F p q∨(T p∧I q)) (fun p q h=> .inl h)
     rcases ih with rfl|ih
     ·rw [Up];exact ⟨p,q,hp,hg,hc',hq⟩
     ·cases v with
      | nil=>exact ih.elim
      | cons c v=>
       obtain ⟨s,t,k1,k2,k3,k4⟩:=ih;exact ⟨p,t,hp,hg,aQ.app.2 ⟨q,hc',s, .inr ⟨hq,k1⟩,k2,k3⟩,k4⟩
  exact key.resolve_left hw
theorem Sk {x:Ex} (hx:Fit x): ∀ {b:Nat} {g:Nat->ByteArray} {w:List ByteArray},ly (aX x) b g->w≠[]->(Lg x w↔b8 (kL x b) (iD x b) (ja x b) g w):=by
 induction hx with
 | lab s=>
  intro b g w hl hw
  have hg:g (b+1)=s:=by have:=hl 0 s (by simp [aX]);simpa using this
  cases w with
  | nil=>exact absurd rfl hw
  | cons a w=>
   simp only [Lg,if_true,b8,kL,ja]
   constructor
   ·intro h;simp only [List.cons.injEq] at h;obtain ⟨rfl,rfl⟩:=h;exact ⟨b+1,b+1,rfl,hg,rfl,rfl⟩
   ·rintro ⟨p,q,rfl,h1,h2,h3⟩
    cases w with
    | nil=>rw [<-h1,hg]
    | cons c w=>obtain ⟨r,h4,_⟩:=h2;simp [iD] at h4
 | many k s l hk hl hf ih=>
  intro b g w hla hw
  have h1:k≠1:=by omega
  rw [db h1] at hla
  rcases hk with rfl|rfl
  ·have key: ∀(m:List Ex),(∀x∈m,x∈l)-> ∀ {b:Nat} {w:List ByteArray},ly (aE m) b g->w≠[]->(ml m w↔b8 (fW m b) (fV m b) (iF m b) g w):=by
    intro m
    induction m with
    | nil=>
     intro _ b w _ hw;obtain ⟨a,w,rfl⟩:=Ur hw;simp [ml,b8,fW]
    | cons x xs ihm=>
     intro hm b w hla hw;rw [aE] at hla;have hx:=hm x Ua;have hxs: ∀y∈xs,y∈l:=fun y hy=>hm y (T8 _ hy);have eE:=ij (hf x hx)
     have eA:cH xs=true↔ml xs []:=by
      rw [jm,List.all_eq_true,kM];exact ⟨fun h y hy=>(ij (hf y (hxs y hy))).1 (h y hy),fun h y hy=>(ij (hf y (hxs y hy))).2 (h y hy)⟩
     rw [F6 hw,ml,eE,eA];have I1:=fun {w:List ByteArray} (hw:w≠[])=>ih x hx (b:=b) (g:=g) (w:=w) hla.left hw;have I2:=fun {w:List ByteArray} (hw:w≠[])=>ihm hxs (b:=b+(aX x).length) (w:=w) hla.right hw
     constructor
     ·rintro ⟨u,v,rfl,h2,h3⟩
      by_cases hu:u=[]
      ·subst hu;exact .inr (.inl ⟨h2,(I2 hw).1 h3⟩)
      ·by_cases hv:v=[]
       ·subst hv;rw [Up] at hw ⊢;exact .inl ⟨(I1 hu).1 h2,h3⟩
       ·exact .inr (.inr ⟨u,v,rfl,(I1 hu).1 h2,(I2 hv).1 h3⟩)
     ·rintro (⟨h2,h3⟩|⟨h2,h3⟩|⟨u,v,rfl,h2,h3⟩)
      ·exact ⟨w,[],by simp,(I1 hw).2 h2,h3⟩
      ·exact ⟨[],w,rfl,h2,(I2 hw).2 h3⟩
      ·refine ⟨u,v,rfl,(I1 (fun e=> ?_)).2 h2,(I2 (fun e=> ?_)).2 h3⟩
       ·subst e;exact h2
       ·subst e;exact h3
   simp only [Lg,kL,ja,Int.reduceEq,if_false,if_true];rw [key l (fun _ h=>h) hla hw]
   have: ∀ {F G:Nat->Nat->Prop} {I T:Nat->Prop} {w},(∀p q,F p q↔G p q)->(b8 I F T g w↔b8 I G T g w):=fun {F G I T w} h=>by
    have:F=G:=funext fun p=>funext fun q=>propext (h p q)
    rw [this]
   exact this (fun p q=>by simp [iD])
  ·have key: ∀(m:List Ex),(∀x∈m,x∈l)-> ∀ {b:Nat} {w:List ByteArray},ly (aE m) b g->w≠[]->(oG m w↔b8 (fG m b) (gU m b) (fH m b) g w):=by
    intro m
    induction m with
    | nil=>
     intro _ b w _ hw;obtain ⟨a,w,rfl⟩:=Ur hw;simp [oG,b8,fG]
    | cons x xs ihm=>
     intro hm b w hla hw;rw [aE] at hla;rw [F4,oG,ih x (hm x Ua) hla.left hw,ihm (fun y hy=>hm y (T8 _ hy)) hla.right hw]
   simp only [Lg,kL,ja,Int.reduceEq,if_false,if_true];rw [key l (fun _ h=>h) hla hw]
   have: ∀ {F G:Nat->Nat->Prop} {I T:Nat->Prop} {w},(∀p q,F p q↔G p q)->(b8 I F T g w↔b8 I G T g w):=fun {F G I T w} h=>by
    have:F=G:=funext fun p=>funext fun q=>propext (h p q)
    rw [this]
   exact this (fun p q=>by simp [iD])
 | one k s x hk hx ih=>
  intro b g w hla hw
  have h1:k≠1:=by omega
  have h2:k≠2:=by omega
  rw [db h1,aE,aE,Up] at hla;have I:=fun {w:List ByteArray} (hw:w≠[])=>ih (b:=b) (g:=g) (w:=w) hla hw
  have eF:kL (.mk k s [x]) b=kL x b:=funext fun p=>by simp [kL,h1,h2,fG]
  have eL:ja (.mk k s [x]) b=ja x b:=funext fun p=>by simp [ja,h1,h2,fH]
  have star: ∀ {w:List ByteArray},w≠[]->(ec (yI [x]) w↔b8 (kL x b) (fun p q=>iD x b p q∨(ja x b p∧kL x b q)) (ja x b) g w):=fun {w} hw=>by
   rw [Dj hw]
   constructor
   ·intro h;clear hw
    induction h with
    | nil=>exact .nil
    | cons u v hu h1 _ ih=>exact .cons u v hu ((I hu).1 h1) ih
   ·intro h;clear hw
    induction h with
    | nil=>exact .nil
    | cons u v hu h1 _ ih=>exact .cons u v hu ((I hu).2 h1) ih
  rw [eF,eL]
  rcases hk with rfl|rfl|rfl
  ·have eFo:iD (.mk 4 s [x]) b=(fun p q=>iD x b p q∨(ja x b p∧kL x b q)):=funext fun p=>funext fun q=>by simp [iD,gU,fH,fG]
   rw [eFo, <- star hw];simp [Lg]
  ·have eFo:iD (.mk 5 s [x]) b=(fun p q=>iD x b p q∨(ja x b p∧kL x b q)):=funext fun p=>funext fun q=>by simp [iD,gU,fH,fG]
   rw [eFo, <- star hw];simp only [Lg,Int.reduceEq,if_false,if_true]
   constructor
   ·rintro ⟨u,v,rfl,h3,h4⟩;exact (ec.one h3).append h4
   ·intro h
    rcases h.inv with e|⟨u,v,rfl,hu,h3,h4⟩
    ·exact absurd e hw
    ·exact ⟨u,v,rfl,h3,h4⟩
  ·have eFo:iD (.mk 6 s [x]) b=iD x b:=funext fun p=>funext fun q=>by simp [iD,gU]
   rw [eFo, <- I hw];simp [Lg,yI,hw]
section
open Go.RowKit Go.Shelf
theorem vj {F:Fence} (hd:F.depth=none) (k:Nat):F.room k:=fun d h=>by rw [hd] at h;cases h
theorem ou {F:Fence} (hd:F.depth=none) {m m':Nat} {P:Program} {l:Nat} {f:FuncId} {tmps:Array Value} {assign body:Code} {w:World} {R:Ending->World->Prop}
  (h:RoundIn F m P l f tmps assign body w R):RoundIn F m' P l f tmps assign body w R:=⟨h.1,fun c cs _=>h.2 c cs (vj hd _)⟩
theorem oD {F:Fence} (hd:F.depth=none) {m:Nat} (m':Nat) {P:Program} {l:Nat} {args:Array Value} {W:World} {R:Ending->World->Prop} (h:YieldAt F m P l args W R):YieldAt F m' P l args W R:=by
 obtain ⟨fn,tmps,assign,body,hy,hR⟩:=h;exact ⟨fn,tmps,assign,body,hy,ou hd hR⟩
def sZ (lo hi:Nat) (e:TypeId) (k:Nat):Obj->Prop
 | .cells _ T _=>k<lo∨(hi<=k∧T≠e)
 | o=>o.isWalk=true∧(k<lo∨hi<=k)
structure Kept (lo hi:Nat) (e:TypeId) (W W':World):Prop where
 size:W.heap.size<=W'.heap.size
 same: ∀(k:Nat) (o:Obj),W.heap[k]? = some o->sZ lo hi e k o->W'.heap[k]? = some o
theorem Kept.refl (lo hi:Nat) (e:TypeId) (W:World):Kept lo hi e W W:=⟨SY _,fun _ _ h _=>h⟩
theorem Kept.trans {lo hi:Nat} {e:TypeId} {A B C:World} (h:Kept lo hi e A B) (k:Kept lo hi e B C):Kept lo hi e A C:=
 ⟨Nat.le_trans h.size k.size,fun i o hx ho=>k.same i o (h.same i o hx ho) ho⟩
theorem Kept.below {lo hi:Nat} {e:TypeId} {W W':World} (h:Below W.heap.size W W'):Kept lo hi e W W':=
 ⟨h.size,fun k _ hk _=>(h.block k (S5.1 hk).1).trans hk⟩
theorem Kept.alloc {lo hi:Nat} {e:TypeId} (W:World) (o:Obj):Kept lo hi e W (W.alloc o):= .below ((Below.refl _ _).alloc (SY _) o)
theorem CH {lo hi:Nat} {e:TypeId} {k:Nat} {o:Obj} (h:sZ lo hi e k o):k<lo∨hi<=k:=by
 cases o<;>simp only [sZ] at h<;>omega
theorem Kept.setCell {lo hi:Nat} {e:TypeId} (W:World) {b o:Nat} (h1:lo<=b) (h2:b<hi) (v:Value):Kept lo hi e W (W.setCell ⟨b,o,none⟩ v):=
 ⟨by show _<=(W.heap.modify _ _).size;rw [Array.size_modify];exact SY _,fun k _ hx hk=>(Below.heap_setCell W _ v k (fun e=>by have e2:k=b:=e;have:=CH hk;omega)).trans hx⟩
theorem Kept.putObj {lo hi:Nat} {e:TypeId} (W:World) (l:Nat) (o o':Obj) (h:W.heap[l]? = some o) (hc:o.isCells=false) (hw:o.isWalk=false):Kept lo hi e W (W.putObj l o'):=
 ⟨by simp,fun k o'' hx ho=>(World.putObj_heap_other (fun e=>by
  subst e;rw [h] at hx;cases hx
  cases o<;>simp_all [sZ,Obj.isCells])).trans hx⟩
theorem Kept.grown {lo hi:Nat} {e:TypeId} {W W':World} {row:Option Nat} (hg:W.grownBy W' row) (h: ∀r o,row=some r->W.heap[r]? = some o-> ¬sZ lo hi e r o):Kept lo hi e W W':=
 ⟨hg.size,fun k o hx hk=>(hg.block k (S5.1 hx).1 (fun e=>h k o e.symm hx hk)).trans hx⟩
theorem Kept.cells {lo hi:Nat} {e:TypeId} {w0 W W':World} (h:Kept lo hi e W W') (hc:Cells w0 W) (hlo:w0.heap.size<=lo):Cells w0 W':=fun b o v hv=>by
 have hb:=ju hv;have h1:=hc b o v hv;unfold World.cell? at h1 ⊢
 cases hw:W.heap[b]? with
 | none=>simp [hw] at h1
 | some ob=>
  cases ob with
  | cells C T fz=>
   have:=h.same b _ hw (.inl (by omega))
   simp only [this];simpa [hw] using h1
  | _=>simp [hw] at h1
theorem Kept.box {lo hi:Nat} {e:TypeId} {W W':World} (h:Kept lo hi e W W') {k:Nat} {C:Array Value} {T:TypeId} {fz:Nat×Nat} (hk:hi<=k) (hT:T≠e) (hx:W.heap[k]? = some (.cells C T fz)):W'.heap[k]? = some (.cells C T fz):=
 h.same k _ hx (.inr ⟨hk,hT⟩)
def Sb {α:Type} (J Jx:List α->World->Prop) (Kp:World->World->Prop) (pre:List α) (x:α) (W:World) (e:Ending) (W':World):Prop:=
 (e = .returned (.bool true)∧J (pre++[x]) W'∧Kp W W')∨(e = .returned (.bool false)∧Jx (pre++[x]) W')
theorem aj {w:World} {k:Nat} {C:Array Value} {T:TypeId} {fz:Nat×Nat} (h:w.heap[k]? = some (.cells C T fz)) (o:Nat):w.cell? ⟨k,o,none⟩=C[o]? :=by simp [World.cell?,h]
theorem bY {w:World} {k:Nat} {C:Array Value} {T:TypeId} (h:w.heap[k]? = some (.cells C T (0,0))) (o:Nat):w.frozen? ⟨k,o,none⟩=false:=by simp [World.frozen?,h]
theorem ia {w:World} {k:Nat} {ob:Obj} (h:w.heap[k]? = some ob) (o:Obj):(w.alloc o).heap[k]? = some ob:=(Below.heap_alloc w o k (S5.1 h).1).trans h
theorem cW {w:World} {k:Nat} {ob:Obj} (h:w.heap[k]? = some ob) {b o:Nat} (v:Value) (hne:k≠b):(w.setCell ⟨b,o,none⟩ v).heap[k]? = some ob:=(Below.heap_setCell w _ v k hne).trans h
theorem gC {w:World} {k:Nat} {v:Value} {T:TypeId} {fz:Nat×Nat} (h:w.heap[k]? = some (.cells #[v] T fz)) (u:Value):(w.setCell ⟨k,0,none⟩ u).heap[k]? = some (.cells #[u] T fz):=by
 simp [World.setCell,Array.getElem?_modify,h]
theorem cV {w:World} {k D:Nat} {ob:Obj} (h:w.heap[k]? = some ob) (o:Obj) (hne:k≠D):(w.putObj D o).heap[k]? = some ob:=(World.putObj_heap_other hne).trans h
theorem jO {B:Nat} {W W':World} (h:Below W.heap.size W W'):KeepsFrom B W W':=⟨h.size,fun k _ _ hk _=>(h.block k (S5.1 hk).1).trans hk⟩
theorem il {β:Type} (B0 B:Nat) (C:β->Array Value) (T:TypeId):OwnFrom B0 (fun (s:β) W=>W.heap[B]? = some (.cells (C s) T (0,0))):=fun s X Y row hs hg hr=>by
 refine (hg.block B (S5.1 hs).1 (fun e=> ?_)).trans hs;obtain ⟨_,o,ho,hc⟩:=hr B e.symm;rw [hs] at ho;cases ho;cases hc
def handed {α:Type} (encs:α->Array Value) (ps:Array Tmp) (a:Act) (x:α):Act:={ tmps:=(ps.toList.zip (encs x).toList).foldl (fun t pv=>t.setIfInBounds pv.1 pv.2) a.tmps,defers:=[] }
theorem CB {α:Type} (encs:α->Array Value) (ps:Array Tmp) (a:Act) (x:α):handed encs ps a x={ tmps:=(ps.zip (encs x)).foldl (fun t (p,v)=>t.setIfInBounds p v) a.tmps,defers:=[] }:=by
 rw [handed, <- Array.toList_zip,Array.foldl_toList]
def Act.mf (a:Act) (d:Nat) (v:Value):Act:={ a with tmps:=a.tmps.setIfInBounds d v }
section
variable {P:Program} {α:Type} {g:Operand} {ps:Array Tmp} {assign body:Code} {Q:Exit->Act->World->Prop} {a:Act} {w:World}
theorem Gn {lo hi gf:Nat} {et:TypeId} {lb:Array Value} (hg:a.eval g = .func (.func gf) #[] lb) (eg: ∀args w,(callFunc gf args).run P w = .ok (.enter gf args) w)
  {encs:α->Array Value} {S Sp:List α->Prop} {N:Nat} {w0:World} (hseq:SeqStopsK Fence.wide 8 P gf lb encs (Kept lo hi et) S Sp N w0)
  (hb0:Below w0.heap.size w0 w) (hps: ∀x,(encs x).size=ps.size)
  (I:List α->World->Prop) (Ix:Code->List α->World->Prop) (hI:OwnFrom w.heap.size I) (hIx: ∀c,OwnFrom w.heap.size (Ix c)) (h0:I [] w) (d:Nat) (C:α->Array Value) (T:TypeId)
  (hsz: ∀pre W,I pre W->w.heap.size<=W.heap.size)
  (hassign: ∀(l:Nat) (x:α) (W:World) (K:Act->World->Prop),K (Act.mf (handed encs ps a x) d (.pointer (some ⟨W.heap.size,0,none⟩))) (W.alloc (.cells (C x) T)) ->
   assign.wpIn (Fence.wide.inRound l) 7 P (Exit.then K (fun _ _ _=>False)) (handed encs ps a x) W)
  (hbody: ∀(l:Nat) (pre:List α) (x:α) (B:Nat) (W:World),w.heap.size<=l->(∃r,W.heap[l]? = some (.loop r))->I pre W->w.heap.size<=B->W.heap[B]? = some (.cells (C x) T (0,0))->pre.length<N ->
   body.wpIn (Fence.wide.inRound l) 7 P (ownPostG w.heap.size (Kept lo hi et) I Ix (pre++[x]) W) (Act.mf (handed encs ps a x) d (.pointer (some ⟨B,0,none⟩))) W)
  (hdone: ∀(D:Nat) (xs:List α) (W:World),w.heap.size<=D->S xs->I xs W->W.heap[D]? = some (.deferred (some []))->Q .normal { a with defers:={ target:= .collected D,args:= #[] } :: a.defers } W)
  (hstop: ∀(D:Nat) (c:Code) (pre:List α) (W:World),w.heap.size<=D->Sp pre->Ix c pre W->W.heap[D]? = some (.deferred (some []))->c.wpIn Fence.wide 9 P Q { a with defers:={ target:= .collected D,args:= #[] } :: a.defers } W) :
  (Code.rangeFunc g ps assign body).wpIn Fence.wide 9 P Q a w:=
 wpIn_rangeFunc_ownH (F:=Fence.wide) (n:=9) rfl (by omega) hg trivial eg hseq Kept.trans (fun W l o o' _ h hc hw=>Kept.putObj W l o o' h hc hw) hb0 hps I Ix hI hIx h0
  (fun x a' W=> ∃B,w.heap.size<=B∧a'=Act.mf (handed encs ps a x) d (.pointer (some ⟨B,0,none⟩))∧W.heap[B]? = some (.cells (C x) T (0,0)))
  (fun x a' s X Y row hs hg' hr=>by
   obtain ⟨B,h1,h2,h3⟩:=hs
   exact ⟨B,h1,h2,il (β:=Unit) w.heap.size B (fun _=>C x) T () X Y row h3 hg' hr⟩)
  (fun l pre x W K hi' hK=>CB encs ps a x ▸ hassign l x W K (hK _ _ (((KeepsOthers.alloc W _).from _)) (Kept.alloc W _) (hI.alloc _ hi') ⟨W.heap.size,hsz _ _ hi',rfl,dJ W _⟩))
  (fun l pre x a' W hl hr hi' ha hn=>by
   obtain ⟨B,h1,rfl,h3⟩:=ha
   exact hbody l pre x B W hl hr hi' h1 h3 hn) hdone hstop
end
theorem r8 {W w1:World} {lo hi B size k:Nat} {e:TypeId} {v:Value} {xs:List Value} {tmp:Obj} (hrow:W.ownsRow lo e size v k xs) (hgrow:(W.alloc tmp).grownBy w1 v.ownBlock) (hlo:lo<=B) (hB:B<hi) (v':Value) :
  Kept lo hi e W (w1.setCell ⟨B,0,none⟩ v'):=by
 refine ((Kept.alloc W tmp).trans (Kept.grown hgrow fun r o hr ho hk=> ?_)).trans (Kept.setCell _ hlo hB _)
 rcases (hrow.alloc tmp).2 with ⟨rfl,_⟩|⟨g,cap,cur,rfl,hg,hgb,_⟩
 ·simp [Value.ownBlock] at hr
 ·obtain rfl:g=r:=by simpa [Value.ownBlock] using hr
  rw [hgb] at ho;cases ho;simp only [sZ] at hk
  rcases hk with hk|hk
  ·omega
  ·exact hk.2 rfl
theorem ji {w W:World} (h:Below w.heap.size w W) {D:Nat} {o:Obj} (hD:w.heap.size<=D) (o':Obj) (_:W.heap[D]? = some o):Below w.heap.size w (W.putObj D o'):=
 h.grown (grownBy_putObj' W D o') (h.size) (fun k e=>by cases e;exact hD)
end
theorem l8 (c:Int) (w:World):Calls Tryz.prog 126 #[.int .i32 c] w fun e w'=>e = .returned (.bool (lx c))∧w=w':=by
 unfold lx
 by_cases h1:97<=c
 ·have d1:decide (97<=c)=true:=by simpa using h1
  rw [d1,Us]
  go_enter Tryz.func126,Tryz.ntmps126
  go_wp2_with fail
  go_ret
  exact ⟨rfl,rfl⟩
 ·have d1:decide (97<=c)=false:=by simpa using h1
  rw [d1,Bool.false_and]
  go_enter Tryz.func126,Tryz.ntmps126
  go_wp2_with fail
  go_ret
  exact ⟨rfl,rfl⟩
theorem xR (c:Int):(lx c=true∧iy c=true)∨(lx c=false∧(c !=95)=false∧iy c=true)∨(lx c=false∧(c !=95)=true∧c<48∧iy c=false) ∨
  (lx c=false∧(c !=95)=true∧48<=c∧57<c∧iy c=false)∨(lx c=false∧(c !=95)=true∧48<=c∧c<=57∧iy c=true):=by
 unfold iy
 cases h:lx c
 ·by_cases h1:c=95
  ·subst h1;exact .inr (.inl ⟨rfl,rfl,rfl⟩)
  ·have hn:(c==95)=false:=by simpa using h1
   have hn':(c !=95)=true:=by simpa using h1
   rw [hn,hn']
   by_cases h2:48<=c
   ·by_cases h3:c<=57
    ·exact .inr (.inr (.inr (.inr ⟨rfl,rfl,h2,h3,by simp [h2,h3]⟩)))
    ·exact .inr (.inr (.inr (.inl ⟨rfl,rfl,h2,by omega,by simp [h3]⟩)))
   ·exact .inr (.inr (.inl ⟨rfl,rfl,by omega,by simp [h2]⟩))
 ·exact .inl ⟨rfl,by simp⟩
theorem o5 (s:ByteArray) (w:World) (hs:s.size<=maxLen):Calls Tryz.prog 86 #[.string s] w (BT w (.bool (gp s))):=by
 unfold maxLen at hs;have hit: ∀pos,Below w.heap.size w (w.iter s pos):=fun pos=>(Below.refl _ _).alloc (SY _) _;have HI:=Lib.hid hit;clear hit
 go_enter Tryz.func86,Tryz.ntmps86
 go_wp2_with fail
 go_loopw [2] (fun r wr=>r = .bool false∧ ∃pos:Nat,wr=w.iter s pos∧pos<=s.size∧ ∀j (h:j<pos) (h':j<s.size),iy s[j].toNat=true) (fun _ wr=>s.size - wr.iterPos w.heap.size)
 case atStart=>exact ⟨rfl,0,rfl,Nat.zero_le _,fun j h=>by omega⟩
 case round=>
  obtain ⟨rfl,pos,rfl,hpos,hP⟩:=hrel;have HP:=Lib.hid hP;clear hP
  by_cases hp:pos<s.size
  ·by_cases ha:(s[pos]'hp).toNat<128
   ·have hnx: ∀ty,(Instr.next (.pointer (some ⟨w.heap.size,0,none⟩)) true ty).run Tryz.prog (w.iter s pos)=_:=fun ty=>run_next_ascii w s pos ty hp ha;have HV:=Lib.hid (@yj s pos hp)
    have HS:Hid (∀(hv:iy (s[pos]'hp).toNat=true) j (h:j<pos+1) (h':j<s.size),iy s[j].toNat=true):=fun hv j h h'=>by
     by_cases e:j=pos
     ·subst e;exact hv
     ·exact HP.out j (by omega) h'
    have hL:=fun W=>l8 (((s[pos]'hp).toNat:Nat):Int) W;generalize hn:(s[pos]'hp).toNat=n at hnx ha HV HS hL;have HN:=Lib.hid hn;clear hn;have HL:=Lib.hid hL;clear hL
    rcases xR (n:Int) with ⟨g1,g2⟩|⟨g1,g2,g3⟩|⟨g1,g2,g3,g4⟩|⟨g1,g2,g3,g4,g5⟩|⟨g1,g2,g3,g4,g5⟩
    ·rw [g1] at HL;clear g1;have HG:=Lib.hid g2;clear g2
     go_wp2_with (go_at_call 126;refine (HL.out _).mono ?_;rintro e w' ⟨rfl,rfl⟩)
     go_roundw
     case rel=>exact ⟨rfl,pos+1,rfl,by omega,HS.out HG.out⟩
     case measure=>simp;omega
    ·rw [g1] at HL;clear g1;have HG:=Lib.hid g3;clear g3
     go_wp2_with (go_at_call 126;refine (HL.out _).mono ?_;rintro e w' ⟨rfl,rfl⟩)
     go_roundw
     case rel=>exact ⟨rfl,pos+1,rfl,by omega,HS.out HG.out⟩
     case measure=>simp;omega
    ·rw [g1] at HL;clear g1;have HG:=Lib.hid g4;clear g4
     go_wp2_with (go_at_call 126;refine (HL.out _).mono ?_;rintro e w' ⟨rfl,rfl⟩)
     go_ret
     exact bT rfl (HV.out HG.out).symm (HI.out _)
    ·rw [g1] at HL;clear g1;have HG:=Lib.hid g5;clear g5
     go_wp2_with (go_at_call 126;refine (HL.out _).mono ?_;rintro e w' ⟨rfl,rfl⟩)
     go_ret
     exact bT rfl (HV.out HG.out).symm (HI.out _)
    ·rw [g1] at HL;clear g1;have HG:=Lib.hid g5;clear g5
     go_wp2_with (go_at_call 126;refine (HL.out _).mono ?_;rintro e w' ⟨rfl,rfl⟩)
     go_roundw
     case rel=>exact ⟨rfl,pos+1,rfl,by omega,HS.out HG.out⟩
     case measure=>simp;omega
   ·have hnx: ∀ty,(Instr.next (.pointer (some ⟨w.heap.size,0,none⟩)) true ty).run Tryz.prog (w.iter s pos)=_:=fun ty=>run_next_any w s pos ty hp;have hd:=(decode_high s pos hp (by omega)).1
    have HV:=Lib.hid (yj hp (by
     have hl:lx (((s[pos]'hp).toNat:Nat):Int)=false:=by unfold lx;simp;omega
     unfold iy;rw [hl];simp;omega))
    have hL:=fun W=>l8 (((Utf8.decode s pos).1:Nat):Int) W;generalize (Utf8.decode s pos).1=n at hnx hd hL;generalize (Utf8.decode s pos).2=m at hnx
    have hl:lx (n:Int)=false:=by unfold lx;simp;omega
    rw [hl] at hL
    have hn:((n:Int) !=95)=true:=by simp;omega
    have HL:=Lib.hid hL;clear hL hl ha
    go_wp2_with (go_at_call 126;refine (HL.out _).mono ?_;rintro e w' ⟨rfl,rfl⟩)
    go_ret
    exact bT rfl HV.out.symm (HI.out _)
  ·have hnx: ∀ty,(Instr.next (.pointer (some ⟨w.heap.size,0,none⟩)) true ty).run Tryz.prog (w.iter s pos)=_:=fun ty=>run_next_end w s pos ty hp;have HV:=Lib.hid (DK (s:=s) (fun j h=>HP.out j (by omega) h));have he:=gT s
   by_cases h0:s.size=0
   ·rw [decide_eq_true h0] at he
    have hx:Hid ((decide (1<=s.size)&&decide (s.size<=20))=false):=by show _=_;simp [h0]
    clear h0
    go_wp2_with fail
    go_ret
    exact bT rfl (by rw [HV.out,hx.out]) (HI.out _)
   ·rw [decide_eq_false h0] at he
    have hx:Hid ((decide (1<=s.size)&&decide (s.size<=20))=decide (s.size<=20)):=by show _=_;rw [decide_eq_true (by omega),Us]
    go_wp2_with fail
    go_ret
    exact bT rfl (by rw [HV.out,hx.out,decide_eq_decide];omega) (HI.out _)
def uF (xs:List ByteArray) (s:ByteArray):Int:=match xs.findIdx? (fun x=>dp s x) with|some k=>k|none=> -1
def hasB (xs:List ByteArray) (s:ByteArray):Bool:=xs.any (fun x=>dp s x)
theorem IN {xs:List ByteArray} {s:ByteArray} {k:Nat} (hk:k<xs.length) (hx:dp s xs[k]=true) (h: ∀j (_:j<k) (h':j<xs.length),dp s xs[j]=false):uF xs s=k:=by
 have:xs.findIdx? (fun x=>dp s x)=some k:=by
  rw [Ut];exact ⟨hk,hx,fun j hj=>by rw [h j hj (by omega)];decide⟩
 rw [uF,this]
theorem CD {xs:List ByteArray} {s:ByteArray} (h: ∀j (h:j<xs.length),dp s xs[j]=false):uF xs s = -1:=by
 have:xs.findIdx? (fun x=>dp s x)=none:=by
  rw [Uu];intro x hx;obtain ⟨j,hj,rfl⟩:=List.getElem_of_mem hx;exact h j hj
 rw [uF,this]
theorem Fi (xs:List ByteArray) (s:ByteArray):decide (0<=uF xs s)=hasB xs s:=by
 unfold uF hasB
 cases h:xs.findIdx? (fun x=>dp s x) with
 | none=>
  rw [Uu] at h;simp only [show decide ((0:Int) <= -1)=false by decide];rw [eq_comm,List.any_eq_false]
  exact fun x hx=>by rw [h x hx];decide
 | some k=>
  rw [Ut] at h;obtain ⟨h1,h2,_⟩:=h;rw [decide_eq_true (by simp),eq_comm,List.any_eq_true];exact ⟨xs[k],List.getElem_mem _,h2⟩
theorem CG (xs:List ByteArray) (v:Value) (s:ByteArray) (w:World) (h1:lJ w xs v) :
  Calls Tryz.prog 160 #[v, .string s] w (BU w (.int .i64 (uF xs s))):=by
 obtain ⟨p,c,rfl,hc1,hc2⟩:=h1.shape;unfold maxLen at hc2;have H1:=Lib.hid h1;clear h1
 go_enter Tryz.func160,Tryz.ntmps160
 go_wp2_with fail
 go_loop [4,8] (fun r i=>r = .int .i64 0∧ ∃k:Nat,k<=xs.length∧i = .int .i64 k∧ ∀j (h:j<k) (h':j<xs.length),dp s xs[j]=false) (fun _ i=>xs.length - (intOf i).toNat)
 case atStart=>exact ⟨rfl,0,Nat.zero_le _,rfl,fun j h=>by omega⟩
 case round=>
  obtain ⟨rfl,k,hk,rfl,hP⟩:=hrel;have HP:=Lib.hid hP;clear hP
  by_cases hlt:k<xs.length
  ·obtain ⟨b1,o1,rfl,a0⟩:=Dv H1.out hlt
   cases hs:dp s xs[k]
   ·have HS:=Lib.hid hs;unfold dp at hs
    go_wp2_with fail
    go_round
    case rel=>exact ⟨rfl,k+1,by omega,by go_num,fun j h h'=>by
     by_cases e:j=k
     ·subst e;exact HS.out
     ·exact HP.out j (by omega) h'⟩
    case measure=>simp [intOf];omega
   ·have HS:=Lib.hid hs;unfold dp at hs
    go_wp2_with fail
    go_ret
    exact Gm rfl (IN hlt HS.out HP.out).symm
  ·go_wp2_with fail
   go_ret
   exact Gm rfl (CD (fun j h=>HP.out j (by omega) h)).symm
theorem uv (xs:List ByteArray) (v:Value) (s:ByteArray) (w:World) (h1:lJ w xs v) :
  Calls Tryz.prog 127 #[v, .string s] w (BU w (.bool (hasB xs s))):=by
 have HC:=Lib.hid (CG xs v s w h1);clear h1;rw [<-Fi]
 go_enter Tryz.func127,Tryz.ntmps127
 go_wp2_with fail
 refine HC.out.mono ?_;rintro e w' ⟨rfl,rfl⟩
 go_wp2_with fail
 go_ret
 exact ⟨rfl,rfl⟩
theorem wT (s:ByteArray) (w:World) (hs:s.size<=maxLen):Calls Tryz.prog 87 #[.string s] w (BT w (.bool (cJ s))):=by
 have HV:=Lib.hid (fun W=>o5 s W hs);have HB:=Lib.hid (fun o=>((Below.refl w.heap.size w).alloc (SY _) o))
 have HW:Hid (∀W1,Below (w.alloc (.cells (words.map Value.string).toArray 9)).heap.size (w.alloc (.cells (words.map Value.string).toArray 9)) W1->Calls Tryz.prog 127 #[.slice (some ⟨w.heap.size,0,none⟩) 7 7, .string s] W1 (BU W1 (.bool (hasB words s)))):=fun W1 hb=>
  uv words _ s W1 (z6 (rd:=JZ) (xs:=words) (sz:=1) ((hb.block _ (by simp)).trans (dJ w _)) (fun x=>[Value.string x]) (fun x _=>rfl) (fun x _=>rfl) (by simp [List.flatMap,words]) rfl (by decide) (by unfold maxLen;decide))
 cases g1:gp s
 ·rw [g1] at HV
  have hfin:cJ s=false:=by simp [cJ,g1]
  rw [hfin];clear hfin;have G1:=Lib.hid g1;clear g1 HW
  go_enter Tryz.func87,Tryz.ntmps87
  go_wp2_with fail
  refine (HV.out _).mono ?_;rintro e w1 ⟨rfl,hb1⟩
  go_wp2_with fail
  go_ret
  exact bT rfl rfl (cB (HB.out _) hb1)
 ·rw [g1] at HV;obtain ⟨h0,_⟩:=Ao g1;have hl:=fun W=>l8 (qu s) W
  have hfin:cJ s=(lx (qu s) && !hasB words s):=by simp [cJ,g1,hasB]
  rw [hfin];clear hfin
  have hfi:qu s=((s[0]'h0).toNat:Int):=by simp [qu,h0]
  rw [hfi] at hl;rw [hfi];have HL:=Lib.hid hl;clear hl hfi;have hby:(s[0]'h0).toNat<256:=UInt8.toNat_lt _
  cases g2:lx ((s[0]'h0).toNat:Int)
  ·rw [g2] at HL;rw [Bool.false_and];clear g2
   go_enter Tryz.func87,Tryz.ntmps87
   go_wp2_with fail
   refine (HV.out _).mono ?_;rintro e w1 ⟨rfl,hb1⟩
   go_wp2_with fail
   refine (HL.out _).mono ?_;rintro e w' ⟨rfl,rfl⟩
   go_wp2_with fail
   go_ret
   exact bT rfl rfl (cB (HB.out _) hb1)
  ·rw [g2] at HL;rw [Us];clear g2
   go_enter Tryz.func87,Tryz.ntmps87
   go_wp2_with fail
   refine (HV.out _).mono ?_;rintro e w1 ⟨rfl,hb1⟩
   go_wp2_with fail
   refine (HL.out _).mono ?_;rintro e w' ⟨rfl,rfl⟩
   go_wp2_with fail
   refine (HW.out _ hb1).mono ?_;rintro e w' ⟨rfl,rfl⟩
   go_wp2_with fail
   go_ret
   exact bT rfl rfl (cB (HB.out _) hb1)
theorem Dm (s:ByteArray) (w:World) (hs:s.size<=maxLen):Calls Tryz.prog 161 #[.string s] w (BU w (.bool (mb s))):=by
 unfold maxLen at hs
 go_enter Tryz.func161,Tryz.ntmps161
 go_wp2_with fail
 go_loop [2,7] (fun r i=>r = .bool false∧ ∃k:Nat,i = .int .i64 k∧k<=s.size∧ ∀j (h:j<k) (h':j<s.size),fy s[j].toNat=true) (fun _ i=>s.size - (intOf i).toNat)
 case atStart=>exact ⟨rfl,0,rfl,Nat.zero_le _,fun j h=>by omega⟩
 case round=>
  obtain ⟨rfl,k,rfl,hk,hP⟩:=hrel;have HP:=Lib.hid hP;clear hP
  by_cases hlt:k<s.size
  ·have HV:=Lib.hid (@Dl s k hlt)
   have HS:Hid (∀(hv:fy (s[k]'hlt).toNat=true) j (h:j<k+1) (h':j<s.size),fy s[j].toNat=true):=fun hv j h h'=>by
    by_cases e:j=k
    ·subst e;exact hv
    ·exact HP.out j (by omega) h'
   have hc:=uZ (s[k]'hlt).toNat;have hby:(s[k]'hlt).toNat<256:=UInt8.toNat_lt _
   rcases hc with ⟨g1,g2⟩|⟨g1,g2,g3⟩|⟨g1,g2,g3,g4⟩|⟨g1,g2,g3,g4,g5⟩|⟨g1,g2,g3,g4,g5⟩
   ·have HG:=Lib.hid g2;clear g2
    go_wp2_with fail
    go_ret
    exact rq rfl (HV.out HG.out).symm
   ·have HG:=Lib.hid g3;clear g3
    go_wp2_with fail
    go_ret
    exact rq rfl (HV.out HG.out).symm
   ·have HG:=Lib.hid g4;clear g4
    go_wp2_with fail
    go_ret
    exact rq rfl (HV.out HG.out).symm
   ·have HG:=Lib.hid g5;clear g5
    go_wp2_with fail
    go_ret
    exact rq rfl (HV.out HG.out).symm
   ·have HG:=Lib.hid g5;clear g5
    go_wp2_with fail
    go_round
    case rel=>exact ⟨rfl,k+1,by go_num,by omega,HS.out HG.out⟩
    case measure=>simp [intOf];omega
  ·go_wp2_with fail
   go_ret
   exact rq rfl (zS (fun j h=>HP.out j (by omega) h)).symm
theorem vz (v:yL) (w:World) (hs:v.text.size<=maxLen):Calls Tryz.prog 128 #[.agg #[.int .i64 v.kind, .int .i64 v.num, .string v.text]] w (BT w (.bool (bD v))):=by
 obtain ⟨k,n,s⟩:=v;simp only at hs;have HP:=Lib.hid (fun W=>Dm s W hs);have HB:=Lib.hid (fun o=>((Below.refl w.heap.size w).alloc (SY _) o));have he:=gT s
 cases h1:k==1
 ·cases h2:k==2
  ·have hfin:bD ⟨k,n,s⟩=false:=by simp [bD,h1,h2]
   rw [hfin];clear hfin he HP
   go_enter Tryz.func128,Tryz.ntmps128
   go_wp2_with fail
   go_ret
   exact bT rfl rfl (HB.out _)
  ·cases h3:n==0
   ·have hfin:bD ⟨k,n,s⟩=false:=by simp [bD,h1,h2,h3]
    rw [hfin];clear hfin he HP
    go_enter Tryz.func128,Tryz.ntmps128
    go_wp2_with fail
    go_ret
    exact bT rfl rfl (HB.out _)
   ·by_cases h4:s.size<=40
    ·have hfin:bD ⟨k,n,s⟩=mb s:=by simp [bD,h1,h2,h3,h4]
     rw [hfin];clear hfin he
     go_enter Tryz.func128,Tryz.ntmps128
     go_wp2_with fail
     refine (HP.out _).mono ?_;rintro e w' ⟨rfl,rfl⟩
     go_wp2_with fail
     go_ret
     exact bT rfl rfl (HB.out _)
    ·have hfin:bD ⟨k,n,s⟩=false:=by simp [bD,h1,h2,h3,h4]
     rw [hfin];clear hfin he HP
     go_enter Tryz.func128,Tryz.ntmps128
     go_wp2_with fail
     go_ret
     exact bT rfl rfl (HB.out _)
 ·cases h3:kz s
  ·have hfin:bD ⟨k,n,s⟩=false:=by simp [bD,h1,h3]
   rw [kz] at h3;rw [h3] at he;rw [hfin];clear hfin HP h3
   go_enter Tryz.func128,Tryz.ntmps128
   go_wp2_with fail
   go_ret
   exact bT rfl rfl (HB.out _)
  ·by_cases h4: -kX<=n
   ·have hfin:bD ⟨k,n,s⟩=decide (n<=kX):=by simp [bD,h1,h3,h4]
    rw [kz] at h3;rw [h3] at he;rw [hfin];clear hfin HP h3;unfold kX at h4 ⊢
    go_enter Tryz.func128,Tryz.ntmps128
    go_wp2_with fail
    go_ret
    exact bT rfl rfl (HB.out _)
   ·have hfin:bD ⟨k,n,s⟩=false:=by simp [bD,h1,h3,h4]
    rw [kz] at h3;rw [h3] at he;rw [hfin];clear hfin HP h3;unfold kX at h4
    go_enter Tryz.func128,Tryz.ntmps128
    go_wp2_with fail
    go_ret
    exact bT rfl rfl (HB.out _)
theorem F1 (k:Int) (s:ByteArray) (p:Option Addr) (n c:Nat) (w:World) (hs:s.size<=maxLen) (hn:n<=maxLen) :
  Calls Tryz.prog 76 #[.agg #[.int .i64 k, .string s, .slice p n c]] w (BT w (.bool (bp k s n))):=by
 have HF:=Lib.hid (fun W=>wT s W hs);have HB:=Lib.hid (fun o=>((Below.refl w.heap.size w).alloc (SY _) o));unfold maxLen at hs hn;have he:=gT s
 cases h1:k==1
 ·cases h2:k==2
  ·cases h3:k==3
   ·cases h4:k==4
    ·cases h5:k==5
     ·cases h6:k==6
      ·have hfin:bp k s n=false:=by simp [bp,h1,h2,h3,h4,h5,h6]
       rw [hfin];clear hfin he HF
       go_enter Tryz.func76,Tryz.ntmps76
       go_wp2_with fail
       go_ret
       exact bT rfl rfl (HB.out _)
      ·skip
       by_cases h7:n=1
       ·have h8:((n:Int)==1)=true:=by simp [h7]
        cases h9:kz s
        ·have hfin:bp k s n=false:=by simp [bp,h1,h2,h3,h4,h5,h6,h7,h9]
         rw [kz] at h9;rw [h9] at he;rw [hfin];clear hfin HF h9
         go_enter Tryz.func76,Tryz.ntmps76
         go_wp2_with fail
         go_ret
         exact bT rfl rfl (HB.out _)
        ·have hfin:bp k s n=true:=by simp [bp,h1,h2,h3,h4,h5,h6,h7,h9]
         rw [kz] at h9;rw [h9] at he;rw [hfin];clear hfin HF h9
         go_enter Tryz.func76,Tryz.ntmps76
         go_wp2_with fail
         go_ret
         exact bT rfl rfl (HB.out _)
       ·have h8:((n:Int)==1)=false:=by simp;omega
        have hfin:bp k s n=false:=by simp [bp,h1,h2,h3,h4,h5,h6,h7]
        rw [hfin];clear hfin he HF
        go_enter Tryz.func76,Tryz.ntmps76
        go_wp2_with fail
        go_ret
        exact bT rfl rfl (HB.out _)
     ·skip
      by_cases h7:n=1
      ·have h8:((n:Int)==1)=true:=by simp [h7]
       cases h9:kz s
       ·have hfin:bp k s n=false:=by simp [bp,h1,h2,h3,h4,h5,h7,h9]
        rw [kz] at h9;rw [h9] at he;rw [hfin];clear hfin HF h9
        go_enter Tryz.func76,Tryz.ntmps76
        go_wp2_with fail
        go_ret
        exact bT rfl rfl (HB.out _)
       ·have hfin:bp k s n=true:=by simp [bp,h1,h2,h3,h4,h5,h7,h9]
        rw [kz] at h9;rw [h9] at he;rw [hfin];clear hfin HF h9
        go_enter Tryz.func76,Tryz.ntmps76
        go_wp2_with fail
        go_ret
        exact bT rfl rfl (HB.out _)
      ·have h8:((n:Int)==1)=false:=by simp;omega
       have hfin:bp k s n=false:=by simp [bp,h1,h2,h3,h4,h5,h7]
       rw [hfin];clear hfin he HF
       go_enter Tryz.func76,Tryz.ntmps76
       go_wp2_with fail
       go_ret
       exact bT rfl rfl (HB.out _)
    ·skip
     by_cases h7:n=1
     ·have h8:((n:Int)==1)=true:=by simp [h7]
      cases h9:kz s
      ·have hfin:bp k s n=false:=by simp [bp,h1,h2,h3,h4,h7,h9]
       rw [kz] at h9;rw [h9] at he;rw [hfin];clear hfin HF h9
       go_enter Tryz.func76,Tryz.ntmps76
       go_wp2_with fail
       go_ret
       exact bT rfl rfl (HB.out _)
      ·have hfin:bp k s n=true:=by simp [bp,h1,h2,h3,h4,h7,h9]
       rw [kz] at h9;rw [h9] at he;rw [hfin];clear hfin HF h9
       go_enter Tryz.func76,Tryz.ntmps76
       go_wp2_with fail
       go_ret
       exact bT rfl rfl (HB.out _)
     ·have h8:((n:Int)==1)=false:=by simp;omega
      have hfin:bp k s n=false:=by simp [bp,h1,h2,h3,h4,h7]
      rw [hfin];clear hfin he HF
      go_enter Tryz.func76,Tryz.ntmps76
      go_wp2_with fail
      go_ret
      exact bT rfl rfl (HB.out _)
   ·skip
    by_cases h7:1<n
    ·skip
     cases h9:kz s
     ·have hfin:bp k s n=false:=by simp [bp,h1,h2,h3,h7,h9]
      rw [kz] at h9;rw [h9] at he;rw [hfin];clear hfin HF h9
      go_enter Tryz.func76,Tryz.ntmps76
      go_wp2_with fail
      go_ret
      exact bT rfl rfl (HB.out _)
     ·have hfin:bp k s n=true:=by simp [bp,h1,h2,h3,h7,h9]
      rw [kz] at h9;rw [h9] at he;rw [hfin];clear hfin HF h9
      go_enter Tryz.func76,Tryz.ntmps76
      go_wp2_with fail
      go_ret
      exact bT rfl rfl (HB.out _)
    ·have hfin:bp k s n=false:=by simp [bp,h1,h2,h3,h7]
     rw [hfin];clear hfin he HF
     go_enter Tryz.func76,Tryz.ntmps76
     go_wp2_with fail
     go_ret
     exact bT rfl rfl (HB.out _)
  ·skip
   by_cases h7:1<n
   ·skip
    cases h9:kz s
    ·have hfin:bp k s n=false:=by simp [bp,h1,h2,h7,h9]
     rw [kz] at h9;rw [h9] at he;rw [hfin];clear hfin HF h9
     go_enter Tryz.func76,Tryz.ntmps76
     go_wp2_with fail
     go_ret
     exact bT rfl rfl (HB.out _)
    ·have hfin:bp k s n=true:=by simp [bp,h1,h2,h7,h9]
     rw [kz] at h9;rw [h9] at he;rw [hfin];clear hfin HF h9
     go_enter Tryz.func76,Tryz.ntmps76
     go_wp2_with fail
     go_ret
     exact bT rfl rfl (HB.out _)
   ·have hfin:bp k s n=false:=by simp [bp,h1,h2,h7]
    rw [hfin];clear hfin he HF
    go_enter Tryz.func76,Tryz.ntmps76
    go_wp2_with fail
    go_ret
    exact bT rfl rfl (HB.out _)
 ·by_cases h7:n=0
  ·have h8:((n:Int)==0)=true:=by simp [h7]
   have hfin:bp k s n=cJ s:=by simp [bp,h1,h7]
   rw [hfin];clear hfin he h7
   go_enter Tryz.func76,Tryz.ntmps76
   go_wp2_with fail
   refine (HF.out _).mono ?_;rintro e w1 ⟨rfl,hb1⟩
   go_wp2_with fail
   go_ret
   exact bT rfl rfl (cB (HB.out _) hb1)
  ·have h8:((n:Int)==0)=false:=by simp;omega
   have hfin:bp k s n=false:=by simp [bp,h1,h7]
   rw [hfin];clear hfin he HF
   go_enter Tryz.func76,Tryz.ntmps76
   go_wp2_with fail
   go_ret
   exact bT rfl rfl (HB.out _)
section
open Go.RowKit Go.Shelf
attribute [local go_sem] Oper.semAt_some
def GZ (l:List lz):List ByteArray:=l.flatMap (fun p=>[p.aG,p.to])
end
section
open Go.RowKit Go.Shelf
attribute [local go_sem] Oper.semAt_some
def xv (out:List ByteArray) (s:ByteArray):List ByteArray:=if hasB out s then out else out++[s]
def Kb (xs:List ByteArray):List ByteArray:=xs.foldl xv []
theorem IP:(Tryz.prog.info? 9).map (fun i=>(i.zero,i.size,i.bytes))=some (some (.string ⟨#[]⟩),1,16):=by kernel_rfl
theorem z7 {w:World} {base:Nat} {e:TypeId} {v:Value} {xs:List ByteArray} (h:w.ownsRow base e 1 v xs.length (xs.map Value.string)):lJ w xs v:=by
 obtain ⟨_,h|⟨g,cap,cur,rfl,_,hg,h1,h2,h3,h4⟩⟩:=h
 ·exact .inl ⟨.inl h.1,List.length_eq_zero_iff.1 h.2⟩
 ·refine .inr ⟨g,0,cap,rfl,h1,h2,fun i x hx=>⟨[.string x],rfl, ?_,trivial⟩⟩;rw [aj hg];have hi:=(S7.1 hx).1
  have:(cur.toList.take (xs.length * 1))[i]? = some (.string x):=by rw [h4];simp [hx]
  rw [List.getElem?_take_of_lt (by omega)] at this;simpa using this
end
section
open Go.RowKit Go.Shelf
attribute [local go_sem] Oper.semAt_some
theorem De {w:World} {base:Nat} {e:TypeId} {z:Nat} {v:Value} {n:Nat} {xs:List Value} (h:w.ownsRow base e z v n xs): ∀b off n c,v = .slice (some ⟨b,off,none⟩) n c->base<=b:=by
 intro b off m c hv
 rcases h.2 with ⟨rfl,_⟩|⟨g,cap,cur,rfl,hg,_⟩
 ·cases hv
 ·cases hv;exact hg
theorem toList_inj {s t:ByteArray}:(s.toList==t.toList)=true↔s=t:=by
 refine ⟨fun h=> ?_,fun h=>by subst h;simp⟩;have h:=eq_of_beq h;rw [ByteArray.toList_eq,ByteArray.toList_eq] at h;obtain ⟨⟨l⟩⟩:=s;obtain ⟨⟨m⟩⟩:=t;have h:l=m:=h;subst h;rfl
def Qi (q:BS):List rU:=q.conds.flatMap (fun c=>[c.left,c.right])++q.ret
def A9 (o:rU):Int:=if o.kind==1 then 2 else if o.kind==3 then o.val.kind else 0
def K6 (vs:List ByteArray):Option (List ByteArray)->lz->Option (List ByteArray)
 | none,_=>none
 | some ns,p=>if kz p.name then some ns else if hasB ns p.name||hasB vs p.name then none else some (ns++[p.name])
def Su (vs:List ByteArray) (ps:List lz):Option (List ByteArray):=ps.foldl (K6 vs) (some [])
def Sm (vs ns:List ByteArray):List (ByteArray×Int):=vs.map (·, 1)++ns.map (·, 2)
def Jd (vs ns:List ByteArray) (o:rU):Bool:=if o.kind==1 then hasB vs o.name else if o.kind==2 then hasB ns o.name else true
def JM (c:Aw):Bool:=A9 c.left !=0&&A9 c.right !=0&&A9 c.left !=A9 c.right
def Sg (q:BS):Int:=if Gi q then
  match Su (Kb (GZ q.pt)) q.pt with
  | none=>9
  | some ns=>if (Qi q).all (Jd (Kb (GZ q.pt)) ns) then (if q.conds.any JM then 10 else 0) else 8
 else 2
def R9 (l:List ByteArray):Prop:= ∀k (h:k<l.length),hasB (l.take k) l[k]=false
def SA (a b:List ByteArray) (s:ByteArray):ByteArray:=if uF a s<0 then s else b.getD (uF a s).toNat ⟨#[]⟩
def Sr (f:ByteArray->ByteArray) (x:rU):rU:=if x.kind=1∨x.kind=2 then { x with name:=f x.name } else x
structure SO (f:ByteArray->ByteArray):Prop where
 inj: ∀s t,f s=f t->s=t
 free: ∀s,cJ (f s)=cJ s
 no: ∀s,kz (f s)=kz s
def SU {α:Type} (k:Nat) (l:List α):List α:=l.drop k++l.take k
def Sy:List ByteArray:=[⟨#[97]⟩,⟨#[98]⟩,⟨#[99]⟩,⟨#[100]⟩,⟨#[101]⟩,⟨#[102]⟩,⟨#[103]⟩]
def Je (p q:lz):Bool:=if dp p.aG q.aG&&dp p.to q.to&&p.path==q.path then (if p.path then zi p.expr q.expr else kz p.name&&kz q.name&&dp p.label q.label) else false
def KJ (ps:List lz) (k:Nat):Bool:=match ps[k]? with
 | some p=>(ps.take k).any (fun a=>Je a p)
 | none=>false
def Qh (ps:List lz) (i:Nat):List Nat:=((List.range ps.length).drop i).filter (fun k=> !KJ ps k)
def Nj (ps:List lz):List Nat:=Qh ps 0
def Im (p:lz):List ByteArray:=p.aG :: p.to :: (if !p.path && !kz p.name then [p.name] else [])
def C8 (ps:List lz) (out:List ByteArray) (k:Int):List ByteArray:=if 0<=k∧k<ps.length then (match ps[k.toNat]? with|some p=>(Im p).foldl xv out|none=>out) else out
def qR (ps:List lz) (ks:List Int):List ByteArray:=ks.foldl (C8 ps) []
def Nk (b:Bool):Nat:=if b then 1 else 0
def MY (ps:List lz) (names:List ByteArray) (k:Int):Nat:=if 0<=k∧k<ps.length then (match ps[k.toNat]? with|some p=>Nk (hasB names p.aG)+Nk (hasB names p.to)|none=>0) else 0
def Lh (ps:List lz) (k:Nat):Bool:=match ps[k]? with
 | some p=>p.path
 | none=>false
def xH (ps:List lz) (names:List ByteArray) (k:Nat):Int:=2 * (MY ps names k:Int)+(if Lh ps k then 0 else 1)
def Nf (r:Nat->Int):List Nat->Nat->Nat
 | [],m=>m
 | k :: l,m=>Nf r l (if r k - r m > 0 then k else m)
def Ot (l:List Nat):List Int:=l.map (fun k:Nat=>(k:Int))
def J9 (ps:List lz) (out:List Nat):List Nat->Nat
 | []=>0
 | a :: l=>Nf (xH ps (qR ps (Ot out))) l a
def Rs (ps:List lz):Nat->List Nat->List Nat->List Nat
 | 0,out,_=>out
 | n+1,out,left=>if left.isEmpty then out else Rs ps n (out++[J9 ps out left]) (left.filter (fun k=>k !=J9 ps out left))
structure Rl (ps:List lz) (out left l:List Nat):Prop where
 len:l.length=out.length+left.length
 pre:l.take out.length=out
 mem: ∀k,k∈l->k∈out∨k∈left
 Rr:l.Nodup
 Sd: ∀(i k:Nat) (hi:i<l.length) (hk:k<l.length),out.length<=i->i<k->xH ps (qR ps (Ot (l.take i))) l[k]<=xH ps (qR ps (Ot (l.take i))) l[i]∧(xH ps (qR ps (Ot (l.take i))) l[k]=xH ps (qR ps (Ot (l.take i))) l[i]->l[i]<l[k])
def Sx (ps:List lz):List Nat:=Rs ps (Nj ps).length [] (Nj ps)
theorem xN: ∀ {a b:List Nat},a.Pairwise (· < ·)->b.Pairwise (· < ·)->(∀j,j∈a↔j∈b)->a=b
 | [],[],_,_,_=>rfl
 | [],y :: b,_,_,h=>by have:=(h y).2 Ua;simp at this
 | x :: a,[],_,_,h=>by have:=(h x).1 Ua;simp at this
 | x :: a,y :: b,ha,hb,h=>by
  rw [List.pairwise_cons] at ha hb
  have hxy:x=y:=by
   rcases Uv.1 ((h x).1 Ua) with e|e
   ·exact e
   ·rcases Uv.1 ((h y).2 Ua) with e2|e2
    ·exact e2.symm
    ·have h1:=hb.1 x e;have h2:=ha.1 y e2;omega
  subst hxy;refine congrArg (x :: ·) (xN ha.2 hb.2 (fun j=> ?_))
  have:=h j
  simp only [Uv] at this
  constructor
  ·intro hj
   rcases this.1 (.inr hj) with e|e
   ·have:=ha.1 j hj;omega
   ·exact e
  ·intro hj
   rcases this.2 (.inr hj) with e|e
   ·have:=hb.1 j hj;omega
   ·exact e
def SV (l:List Nat):List Nat:=(List.range (l.foldr max 0+1)).filter (fun j=>l.contains j)
noncomputable def bh (w:List ByteArray) (L:List ByteArray->Prop) (fr:List Nat):List Nat:=(List.range (w.length+1)).filter (fun j=> @decide (∃i,i∈fr∧Tk L w i j) (Classical.propDecidable _))
def Sn (w:List ByteArray) (s:ByteArray) (fr:List Nat):List Nat:=(fr.filter (fun k=>decide (w[k]? = some s))).map (· + 1)
structure SN (w:List ByteArray) (L:List ByteArray->Prop) (fr out:List Nat):Prop where
 jT:out.Pairwise (· < ·)
 le: ∀j,j∈out->j<=w.length
 sub: ∀j,j∈fr->j∈out
 SR: ∀j,j∈out-> ∃i,i∈fr∧Tk (ec L) w i j
section
variable {P:Program} {ops:Array Oper} {N:jW}
def pR (P:Program) (ops:Array Oper) (S:fI N) (j:Nat) (o:Oper) (a:Act) (g:N.G):Prop:=
 (Region.wanted o (yielded ops a.tmps)=true∧PW P S j g ((execOp a.eval o).run P (N.wd g)))∨(Region.wanted o (yielded ops a.tmps)=false∧ ∃g',N.wd g'=N.wd g∧N.R g g'∧(∀i,i≠j->N.pre i g->N.pre i g')∧S.p undef g')
def Db (P:Program) (ops:Array Oper) (L:List (fI N)) (g0:N.G) (Q:Act->World->Prop):List Oper->Nat->((Nat->Value)->Act)->Prop
 | [],k,A=> ∀x g,N.R g0 g->(∀i,i<k->(uq L i).p (x i) g)->Q (A x) (N.wd g)
 | o :: l,k,A=>(∀x g,N.R g0 g->(∀i,az ops k i=true->(uq L i).p (x i) g)->N.pre k g->pR P ops (uq L k) k o (A x) g)∧Db P ops L g0 Q l (k+1) (fun x=>(A x).put o.dst (x k))
def Bj (ops:Array Oper) (i j:Nat):Bool:=
 match ops[i]?,ops[j]? with
 | some oi,some oj=>(az ops j i||match oi.dst with|some d=> !(oj.looksAt ops).contains d|none=>true) && !az ops i j&&(match oi.dst with|some d=>oj.dst !=some d|none=>true)&&(az ops j i||match oj.dst with|some d=> !(oi.looksAt ops).contains d|none=>true)
 | _,_=>true
def mX (ops:Array Oper):Bool:=
 Region.noSelect ops&&(List.range ops.size).all (fun j=>(List.range j).all (fun i=>Bj ops i j)&&(!az ops j j&&zj ops j))
def Hr (P:Program) (l:List Oper) (L:List (fI N)) (g0:N.G) (a0:Act) (j:Nat) (o:Oper):Prop:=
 ∀x g,N.R g0 g->(∀i,az l.toArray j i=true->(uq L i).p (x i) g)->N.pre j g->pR P l.toArray (uq L j) j o (cG (fun i=>decide (i<j)) x l 0 a0) g
theorem xq {l:List Oper} {L:List (fI N)} {g0:N.G} {Q:Act->World->Prop} {a0:Act} (hA:jV l): ∀(l':List Oper) (k:Nat) (A:(Nat->Value)->Act),l.drop k=l'->(A=fun x=>cG (fun i=>decide (i<k)) x l 0 a0)->k<=l.length ->
  Db P l.toArray L g0 Q l' k A->(∀j o,k<=j->l[j]? = some o->Hr P l L g0 a0 j o)∧(∀x g,N.R g0 g->(∀i,i<l.length->(uq L i).p (x i) g)->Q (cG (fun i=>decide (i<l.length)) x l 0 a0) (N.wd g))
 | [],k,A,hl,hAx,hk,h=>by
  have h1:l.length=k:=by have:=congrArg List.length hl;simp at this;omega
  subst hAx
  refine ⟨fun j o hj ho=> ?_,fun x g hg hs=> ?_⟩
  ·have:=(S7.1 ho).1;omega
  ·rw [h1] at hs ⊢; exact h x g hg hs
 | o :: l',k,A,hl,hAx,hk,h=>by
  have h1:l.length=k+(l'.length+1):=by have:=congrArg List.length hl;simp at this;omega
  have h2:l[k]? = some o:=by have:=congrArg (fun m=>m[0]?) hl;simpa using this
  subst hAx
  have rcr:=xq hA l' (k+1) _ (by have:=congrArg List.tail hl;simpa using this) (by
    funext x
    have hi:=ix (s:=fun i=>decide (i<k)) (x:=x) (v:=x k) l 0 k a0 hA h2 (by simp);rw [Nat.zero_add] at hi;rw [<-hi];refine br l 0 a0 (fun i _ _=> ?_)
    by_cases hik:i=k
    ·subst hik;simp [bJ,gj]
    ·have:(i<k+1)=(i<k):=by apply propext;omega
     simp [bJ,gj,hik,this]) (by omega) h.2
  refine ⟨fun j o' hj ho=> ?_,rcr.2⟩
  by_cases hjk:j=k
  ·subst hjk;rw [h2] at ho;cases ho;exact h.1
  ·exact rcr.1 j o' (by omega) ho
theorem fu {Q:Exit->Act->World->Prop} {a:Act} {w:World} {l:List Oper} (L:List (fI N)) (hB:mX l.toArray=true) (g0:N.G) (hg0:N.wd g0=w.drew) (hp0: ∀j,N.pre j g0)
  (h:Db P l.toArray L g0 (Q .normal) l 0 (fun _=>a)):wpAny P .any l.toArray Q l.toArray.size (Array.replicate l.toArray.size false) a w.drew:=by
 simp only [mX,TY,List.all_eq_true,List.mem_range,List.size_toArray] at hB;obtain ⟨hns,hall⟩:=hB;have hsel:=Region.noSelect_spec hns
 have hpair: ∀i j oi oj,i<j->l[i]? = some oi->l[j]? = some oj->(az l.toArray j i=true∨ ∀e,oi.dst=some e->e∉oj.looksAt l.toArray)∧az l.toArray i j=false∧(∀e,oi.dst=some e->oj.dst≠some e)∧(az l.toArray j i=true∨ ∀e,oj.dst=some e->e∉oi.looksAt l.toArray):=by
  intro i j oi oj hij hi hj;have hjn:=(S7.1 hj).1
  have:=(hall j hjn).1 i hij
  simp only [Bj,Tp,hi,hj,TY,Bool.or_eq_true,Bool.not_eq_true'] at this
  refine ⟨?_,this.1.1.2,fun e he=> ?_, ?_⟩
  ·rcases this.1.1.1 with h|h
   ·exact .inl h
   ·refine .inr (fun e he=> ?_);rw [he] at h;simpa using h
  ·have h3:=this.1.2;rw [he] at h3;simpa using h3
  ·rcases this.2 with h|h
   ·exact .inl h
   ·refine .inr (fun e he=> ?_);rw [he] at h;simpa using h
 have hself: ∀j,j<l.length->az l.toArray j j=false:=fun j hj=>by simpa using (hall j hj).2.1
 have hfar: ∀(j:Nat) (o:Oper),l[j]? = some o-> ∀e∈o.after,e.on<l.length:=fun j o hj e he=>by
  have:=(hall j (S7.1 hj).1).2.2
  simp only [zj,Tp,hj,Array.all_eq_true_iff_forall_mem] at this;simpa using this e he
 have hA:jV l:=fun i j oi oj hi hj hij e he=>by
  rcases Nat.lt_or_gt_of_ne hij with h|h
  ·exact (hpair i j oi oj h hi hj).2.2.1 e he
  ·intro h2;exact (hpair j i oj oi h hj hi).2.2.1 e h2 he
 obtain ⟨hO,hfin⟩:=xq (P:=P) (L:=L) (g0:=g0) (Q:=Q .normal) (a0:=a) hA l 0 (fun _=>a) (by simp) (by
  funext x
  exact (show a=cG (fun _=>false) x l 0 a from by
   have: ∀(l:List Oper) k,a=cG (fun _=>false) x l k a:=by
    intro l
    induction l with
    | nil=>intro k;rfl
    | cons o l ih=>intro k;rw [cG];exact ih (k+1)
   exact this l 0).trans (br l 0 a (fun i _ _=>by simp))) (Nat.zero_le _) h
 
 have hloose: ∀i j oi oj,l[i]? = some oi->l[j]? = some oj->i≠j->az l.toArray j i=false->az l.toArray i j=false-> ∀d,oi.dst=some d->d∉oj.looksAt l.toArray:=by
  intro i j oi oj hi hj hij hd hd'
  rcases Nat.lt_or_gt_of_ne hij with h|h
  ·rcases (hpair i j oi oj h hi hj).1 with h1|h1
   ·rw [hd] at h1;cases h1
   ·exact h1
  ·rcases (hpair j i oj oi h hj hi).2.2.2 with h1|h1
   ·rw [hd'] at h1;cases h1
   ·exact h1
 
 have hsee: ∀(s s':Nat->Bool) x j oj,l[j]? = some oj->s j=false->s' j=false->(∀i,i<l.length->az l.toArray i j=true->s i=false∧s' i=false)->(∀i,i<l.length->az l.toArray j i=true->s i=true∧s' i=true) ->
   execOp (cG s x l 0 a).eval oj=execOp (cG s' x l 0 a).eval oj∧Region.wanted oj (yielded l.toArray (cG s x l 0 a).tmps)=Region.wanted oj (yielded l.toArray (cG s' x l 0 a).tmps):=by
  intro s s' x j oj hj h1 h2 hbk hd
  have one:=fun (s:Nat->Bool) (hs:s j=false) (hs2: ∀i,i<l.length->az l.toArray i j=true->s i=false)=>ov (ops:=l.toArray) (s:=s) (keep:=az l.toArray j) (x:=x) (a:=a) hA (fun cs b=>hsel j oj cs b (by simpa using hj))
   (fun i oi hi hsi hk=>hloose i j oi oj hi hj (by intro e;subst e;rw [hsi] at hs;cases hs) hk (by
    cases hq:az l.toArray i j
    ·rfl
    ·rw [hs2 i (S7.1 hi).1 hq] at hsi;cases hsi))
  obtain ⟨a1,a2⟩:=one s h1 (fun i hi hq=>(hbk i hi hq).1);obtain ⟨b1,b2⟩:=one s' h2 (fun i hi hq=>(hbk i hi hq).2)
  have e:cG (fun i=>s i&&az l.toArray j i) x l 0 a=cG (fun i=>s' i&&az l.toArray j i) x l 0 a:=br l 0 a (fun i _ hi=>by
   refine ⟨?_,fun _=>rfl⟩
   cases hk:az l.toArray j i
   ·simp
   ·obtain ⟨c1,c2⟩:=hd i (by omega) hk
    simp [c1,c2])
  exact ⟨by rw [a1,b1,e],by rw [a2,b2,e]⟩
 have full: ∀(listed:Array Bool),listed.size=l.length->(∀i,i<l.length->listed.getD i false=true)->Region.ready .any l.toArray listed=[]∧ ∀x,cG (fun i=>listed.getD i false) x l 0 a=cG (fun i=>decide (i<l.length)) x l 0 a:=fun listed hsz hall'=>by
  refine ⟨List.eq_nil_iff_forall_not_mem.2 (fun i hi=> ?_),fun x=>br l 0 a (fun i _ hi=>⟨?_,fun _=>rfl⟩)⟩
  ·obtain ⟨g1,o,g2, -⟩:=mem_ready.1 hi;have hil:i<l.length:=(S7.1 (show l[i]? = some o by simpa using g2)).1;have g3:=hall' i hil
   have his:i<listed.size:=by omega
   simp only [T0,Array.getElem?_eq_getElem his,Option.getD_some] at g1 g3;rw [g3] at g1;cases g1
  ·have:i<l.length:=by omega
   rw [hall' i this];simp [this]
 have main: ∀fuel (listed:Array Bool) x g1,listed.size=l.length->N.R g0 g1->(∀i,listed.getD i false=true->(uq L i).p (x i) g1) ->
   (∀j i,listed.getD j false=true->az l.toArray j i=true->listed.getD i false=true)->(∀j,listed.getD j false=false->N.pre j g1)->yf (fun i=>listed.getD i false) l.length<=fuel ->
   wpAny P .any l.toArray Q fuel listed (cG (fun i=>listed.getD i false) x l 0 a) (N.wd g1):=by
  intro fuel
  induction fuel with
  | zero=>
   intro listed x g1 hsz hE hF hcl hpre hu
   have hall': ∀i,i<l.length->listed.getD i false=true:=fun i hi=>by
    cases hc:listed.getD i false
    ·have:=vw (s:=fun i=>listed.getD i false) l.length hi hc
     omega
    ·rfl
   exact wpAny_done (full listed hsz hall').1 (by rw [(full listed hsz hall').2 x];exact hfin x g1 hE (fun i hi=>hF i (hall' i hi))) 0
  | succ fuel ih=>
   intro listed x g1 hsz hE hF hcl hpre hu
   have hmemR: ∀j,j∈Region.ready .any l.toArray listed-> ∃oj,l[j]? = some oj∧listed.getD j false=false∧ ∀i,az l.toArray j i=true->listed.getD i false=true:=by
    intro j hj;obtain ⟨h1,o,ho,h3⟩:=mem_ready.1 hj
    refine ⟨o,by simpa using ho, ?_,fun i hi=> ?_⟩
    ·rcases Nat.lt_or_ge j listed.size with h'|h'
     ·simp [h'] at h1 ⊢; exact h1
     ·simp [Array.getElem?_eq_none h']
    ·simp only [az,ho,TY,beq_iff_eq,Array.any_eq_true'] at hi;obtain ⟨e,he,hb,rfl⟩:=hi;exact h3 e he hb
   refine ⟨fun h0=> ?_,fun j hj=> ?_⟩
   ·
    have hex:(∀i,i<l.length->listed.getD i false=true)∨ ∃m,m<l.length∧listed.getD m false=false∧ ∀i,i<m->listed.getD i false=true:=by
     have: ∀k,k<=l.length->(∀i,i<k->listed.getD i false=true)∨ ∃m,m<l.length∧listed.getD m false=false∧ ∀i,i<m->listed.getD i false=true:=by
      intro k
      induction k with
      | zero=>exact fun _=> .inl (fun i hi=>by omega)
      | succ k ihk=>
       intro hk
       rcases ihk (by omega) with h|h
       ·cases hc:listed.getD k false
        ·exact .inr ⟨k,by omega,hc,h⟩
        ·exact .inl (fun i hi=>by
          by_cases e:i=k
          ·subst e;exact hc
          ·exact h i (by omega))
       ·exact .inr h
     exact this l.length (Nat.le_refl _)
    rcases hex with hall'|hex
    ·rw [(full listed hsz hall').2 x];exact hfin x g1 hE (fun i hi=>hF i (hall' i hi))
    exfalso;obtain ⟨m,hm1,hm2,hm3⟩:=hex
    have hmem:m∈Region.ready .any l.toArray listed:=by
     refine mem_ready.2 ⟨?_,l[m],by simp [hm1],fun e he hb=> ?_⟩
     ·have hms:m<listed.size:=by omega
      simp [hms] at hm2 ⊢; exact hm2
     ·have hd:az l.toArray m e.on=true:=by
       have:l.toArray[m]? = some l[m]:=by simp [hm1]
       simp only [az,this];simp only [Array.any_eq_true',TY,beq_iff_eq];exact ⟨e,he,hb,rfl⟩
      rcases Nat.lt_trichotomy e.on m with h|h|h
      ·exact hm3 _ h
      ·rw [h,hself m hm1] at hd;cases hd
      ·by_cases hl:e.on<l.length
       ·have:=(hpair m e.on l[m] l[e.on] h (by simp [hm1]) (by simp [hl])).2.1
        rw [hd] at this;cases this
       ·exact absurd (hfar m l[m] (by simp [hm1]) e he) hl
    rw [h0] at hmem;cases hmem
   ·obtain ⟨oj,hoj,hun,hdeps⟩:=hmemR j hj;have hjl:=(S7.1 hoj).1
    have hsj:(listed.setIfInBounds j true).size=l.length:=by simpa using hsz
    have hgd: ∀i,(listed.setIfInBounds j true).getD i false=bJ (fun i=>listed.getD i false) j i:=by
     intro i
     by_cases hij:i=j
     ·subst hij
      have:i<listed.size:=by omega
      simp [bJ,this]
     ·simp only [bJ,if_neg hij];exact getD_set_ne false (Ne.symm hij)
    have hO:=hO j oj (Nat.zero_le _) hoj;unfold wpOp;simp only [Tp,hoj];have hst:=hO x g1 hE (fun i hi=>hF i (hdeps i hi)) (hpre j hun)
    have hbk: ∀i,i<l.length->az l.toArray i j=true->listed.getD i false=false∧decide (i<j)=false:=by
     intro i hi hq
     constructor
     ·cases hli:listed.getD i false
      ·rfl
      ·have:=hcl i j hli hq
       rw [hun] at this;cases this
     ·rcases Nat.lt_or_ge i j with h|h
      ·have:=(hpair i j l[i] oj h (by simp [hi]) hoj).2.1
       rw [hq] at this;cases this
      ·simpa using h
    obtain ⟨c1,c2⟩:=hsee (fun i=>listed.getD i false) (fun i=>decide (i<j)) x j oj hoj hun (by simp) hbk (fun i hi hd=>⟨hdeps i hd,by
      rcases Nat.lt_trichotomy i j with h|h|h
      ·simpa using h
      ·rw [h,hself j hjl] at hd;cases hd
      ·have:=(hpair j i oj l[i] h hoj (by simp [hi])).2.1
       rw [hd] at this;cases this⟩)
    have next: ∀v g2,N.R g1 g2->(∀i,i≠j->N.pre i g1->N.pre i g2)->(uq L j).p v g2->wpAny P .any l.toArray Q fuel (listed.setIfInBounds j true) ((cG (fun i=>listed.getD i false) x l 0 a).put oj.dst v) (N.wd g2):=by
     intro v g2 hb hpp hv;have hi:=ix (s:=fun i=>listed.getD i false) (x:=x) (v:=v) l 0 j a hA hoj (by simpa using hun);rw [Nat.zero_add] at hi;rw [<-hi, <- show (fun i=>(listed.setIfInBounds j true).getD i false)=bJ (fun i=>listed.getD i false) j from funext hgd]
     refine ih _ _ g2 hsj (N.trans' _ _ _ hE hb) (fun i hi'=> ?_) (fun j' i hj' hd=> ?_) (fun j' hj'=> ?_) ?_
     ·rw [hgd] at hi'
      by_cases hij:i=j
      ·subst hij;simpa [gj] using hv
      ·simp only [bJ,if_neg hij] at hi';simp only [gj,if_neg hij];exact (uq L i).st _ _ _ hb (hF i hi')
     ·rw [hgd] at hj' ⊢
      by_cases hij:i=j
      ·simp [bJ,hij]
      ·simp only [bJ,if_neg hij]
       by_cases hj2:j'=j
       ·subst hj2;exact hdeps i hd
       ·simp only [bJ,if_neg hj2] at hj';exact hcl j' i hj' hd
     ·rw [hgd] at hj'
      by_cases hj2:j'=j
      ·simp [bJ,hj2] at hj'
      ·simp only [bJ,if_neg hj2] at hj';exact hpp j' hj2 (hpre j' hj')
     ·rw [iV (s':=bJ (fun i=>listed.getD i false) j) l.length (fun i _=>hgd i)]
      have:=nh (s:=fun i=>listed.getD i false) (i:=j) l.length hjl hun
      omega
    unfold pR at hst;rw [<-c1, <- c2] at hst
    rcases hst with ⟨h1,h2⟩|⟨h1,h2⟩
    ·rw [if_pos h1];refine .inl ?_;unfold Oper.wp;generalize (execOp (cG (fun i=>listed.getD i false) x l 0 a).eval oj).run P (N.wd g1)=r at h2
     cases r with
     | halt _ _=>exact h2.elim
     | ok n w'=>
      cases n<;>first|exact h2.elim|skip
      case value u=>obtain ⟨g2,rfl,k1,k3,k2⟩:=h2;exact next _ _ k1 k3 k2
      case skip=>obtain ⟨g2,rfl,k1,k3,k2⟩:=h2;exact next _ _ k1 k3 k2
      case enter f args=>
       refine Calls.mono h2 fun e w'' he=> ?_;obtain ⟨v,g2,rfl,rfl,k1,k3,k2⟩:=he
       exact next _ _ k1 k3 k2
    ·rw [if_neg (by rw [h1];decide)];obtain ⟨g2,e2,k1,k3,k2⟩:=h2;rw [<-e2]
     exact next _ _ k1 k3 k2
 have hrep: ∀i,(Array.replicate l.toArray.size false).getD i false=false:=fun i=>by
  simp only [T0,Array.getElem?_replicate];split<;>rfl
 have h0:=main l.toArray.size (Array.replicate l.toArray.size false) (fun _=>undef) g0 (by simp) (N.Qj _)
  (fun i hi=>by rw [hrep] at hi;cases hi) (fun j i hj=>by rw [hrep] at hj;cases hj) (fun j _=>hp0 j) (vv _)
 have e:cG (fun i=>(Array.replicate l.toArray.size false).getD i false) (fun _=>undef) l 0 a=a:=by
  have: ∀(l':List Oper) k,cG (fun i=>(Array.replicate l.toArray.size false).getD i false) (fun _=>undef) l' k a=a:=by
   intro l'
   induction l' with
   | nil=>intro k;rfl
   | cons o l' ih=>intro k;rw [cG,hrep];exact ih (k+1)
  exact this l 0
 rw [e,hg0] at h0;exact h0
end
end
end Go.Proofs.YtlhhccmopfamhaaGreatDoor
