/- texts of one claim, one behind the other. -/
import Derived.Test.YtfflpdekojlnmaaGreatDoorYOnceC
import Derived.Test.YtfflpdekojlnmaaGreatDoorYAbsV
import Derived.Test.YtfflpdekojlnmaaGreatDoorYDfaA
import Derived.Test.YtfflpdekojlnmaaGreatDoorYRef08
import Derived.Test.YtfflpdekojlnmaaGreatDoorYMat
import Derived.Test.YtfflpdekojlnmaaGreatDoorYDfaV
import Derived.Test.YtfflpdekojlnmaaGreatDoorProg
import Derived.Test.YtfflpdekojlnmaaGreatDoorYAbsG
set_option linter.unusedSimpArgs false
set_option linter.unusedVariables false
set_option maxRecDepth 100000
set_option maxHeartbeats 16000000
open Bool renaming and_eq_true -> XK, or_eq_true -> X9, or_assoc -> ZH, and_self -> YY, eq_iff_iff -> Y8, false_eq_true -> Yk, true_and -> Yg, eq_false_or_eq_true -> YF, false_and -> Yt, and_true -> Yb
open List renaming getD_eq_getElem?_getD -> XR, getElem?_eq_getElem -> Xb, length_append -> WX, range_succ -> Zg, all_append -> ZD, all_eq_true -> X7, mem_range -> X8, any_append -> ZE, any_eq_true -> ZF, getElem?_set_ne -> Xi, map_cons -> YW, map_nil -> Y5, getElem?_append_right -> Xr, set_append_right -> Zc, getElem?_cons_succ -> Yq, length_cons -> WY, length_nil -> WS, cons_append -> Y1, nil_append -> YR, append_assoc -> Xp, replicate_succ -> YB, replicate_zero -> YC, take_of_length_le -> Y7, getElem?_append_left -> WU
open Nat renaming lt_or_ge -> WV, le_trans -> WO, add_sub_cancel_left -> ZG, zero_le -> WZ
open Option.some renaming inj -> WL
open Option renaming map_some -> Xu
namespace Go.Proofs.YtfflpdekojlnmaaGreatDoor
open Go.RowKit
section
def lF (l:List Ex) (i:Nat):Ex:=l.getD i (.mk 0 ⟨#[]⟩ [])
theorem JY {l:List Ex} {i:Nat} (h:i<l.length):lF l i=l[i]:=by rw [lF,XR,Xb h];rfl
theorem df (x:Ex) (l:List Ex):lF (x :: l) 0=x:=rfl
theorem cz (x:Ex) (l:List Ex) (i:Nat):lF (x :: l) (i+1)=lF l i:=rfl
def pe (b:Nat) (l:List Ex) (i:Nat):Nat:=b+(aK (l.take i)).length
theorem dc (b:Nat) (l:List Ex):pe b l 0=b:=by simp [pe,aK]
theorem cw (b:Nat) (x:Ex) (l:List Ex) (i:Nat):pe b (x :: l) (i+1)=pe (b+(aD x).length) l i:=by
 simp only [pe,List.take_succ_cons,aK,WX];omega
theorem Ez: ∀ {l:List Ex} {b p:Nat},gh l b p ↔ ∃i,i<l.length∧kq (lF l i) (pe b l i) p
 | [],b,p=>by simp [gh]
 | x :: l,b,p=>by
  rw [gh,Ez (l:=l)]
  constructor
  ·rintro (h|⟨i,h1,h2⟩)
   ·exact ⟨0,by simp,by rw [df,dc];exact h⟩
   ·exact ⟨i+1,by simp;omega,by rw [cz,cw];exact h2⟩
  ·rintro ⟨i,h1,h2⟩
   cases i with
   | zero=>left;rw [df,dc] at h2;exact h2
   | succ i=>right;rw [cz,cw] at h2;exact ⟨i,by simpa using h1,h2⟩
theorem EA: ∀ {l:List Ex} {b p:Nat},gj l b p ↔ ∃i,i<l.length∧jz (lF l i) (pe b l i) p
 | [],b,p=>by simp [gj]
 | x :: l,b,p=>by
  rw [gj,EA (l:=l)]
  constructor
  ·rintro (h|⟨i,h1,h2⟩)
   ·exact ⟨0,by simp,by rw [df,dc];exact h⟩
   ·exact ⟨i+1,by simp;omega,by rw [cz,cw];exact h2⟩
  ·rintro ⟨i,h1,h2⟩
   cases i with
   | zero=>left;rw [df,dc] at h2;exact h2
   | succ i=>right;rw [cz,cw] at h2;exact ⟨i,by simpa using h1,h2⟩
theorem x0: ∀ {l:List Ex} {b p q:Nat},iw l b p q ↔ ∃i,i<l.length∧je (lF l i) (pe b l i) p q
 | [],b,p,q=>by simp [iw]
 | x :: l,b,p,q=>by
  rw [iw,x0 (l:=l)]
  constructor
  ·rintro (h|⟨i,h1,h2⟩)
   ·exact ⟨0,by simp,by rw [df,dc];exact h⟩
   ·exact ⟨i+1,by simp;omega,by rw [cz,cw];exact h2⟩
  ·rintro ⟨i,h1,h2⟩
   cases i with
   | zero=>left;rw [df,dc] at h2;exact h2
   | succ i=>right;rw [cz,cw] at h2;exact ⟨i,by simpa using h1,h2⟩
theorem x4: ∀ {l:List Ex} {b p:Nat},gP l b p ↔ ∃i,i<l.length∧(∀k,k<i->aH (lF l k)=true)∧kq (lF l i) (pe b l i) p
 | [],b,p=>by simp [gP]
 | x :: l,b,p=>by
  rw [gP,x4 (l:=l)]
  constructor
  ·rintro (h|⟨he,i,h1,h2,h3⟩)
   ·exact ⟨0,by simp,fun k hk=>by omega,by rw [df,dc];exact h⟩
   ·refine ⟨i+1,by simp;omega,fun k hk=> ?_,by rw [cz,cw];exact h3⟩
    cases k with
    | zero=>exact he
    | succ k=>exact h2 k (by omega)
  ·rintro ⟨i,h1,h2,h3⟩
   cases i with
   | zero=>left;rw [df,dc] at h3;exact h3
   | succ i=>
    right;rw [cz,cw] at h3;exact ⟨h2 0 (by omega),i,by simpa using h1,fun k hk=>h2 (k+1) (by omega),h3⟩
theorem Ao: ∀ {l:List Ex},cL l=true ↔ ∀k,k<l.length->aH (lF l k)=true
 | []=>by simp [cL]
 | x :: l=>by
  rw [cL,XK,Ao (l:=l)]
  constructor
  ·rintro ⟨h,k⟩ j hj
   cases j with
   | zero=>exact h
   | succ j=>exact k j (by simpa using hj)
  ·intro h;exact ⟨h 0 (by simp),fun k hk=>h (k+1) (by simp;omega)⟩
theorem EB: ∀ {l:List Ex} {b p:Nat},jG l b p ↔ ∃i,i<l.length∧(∀k,i<k->k<l.length->aH (lF l k)=true)∧jz (lF l i) (pe b l i) p
 | [],b,p=>by simp [jG]
 | x :: l,b,p=>by
  rw [jG,EB (l:=l),Ao]
  constructor
  ·rintro (⟨he,h⟩|⟨i,h1,h2,h3⟩)
   ·refine ⟨0,by simp,fun k hk hl=> ?_,by rw [df,dc];exact h⟩
    cases k with
    | zero=>omega
    | succ k=>exact he k (by simpa using hl)
   ·refine ⟨i+1,by simp;omega,fun k hk hl=> ?_,by rw [cz,cw];exact h3⟩
    cases k with
    | zero=>omega
    | succ k=>exact h2 k (by omega) (by simpa using hl)
  ·rintro ⟨i,h1,h2,h3⟩
   cases i with
   | zero=>
    left;rw [df,dc] at h3;exact ⟨fun k hk=>h2 (k+1) (by omega) (by simp;omega),h3⟩
   | succ i=>
    right;rw [cz,cw] at h3;exact ⟨i,by simpa using h1,fun k hk hl=>h2 (k+1) (by omega) (by simp;omega),h3⟩
theorem Ey: ∀ {l:List Ex} {b p q:Nat},gO l b p q↔(∃i,i<l.length∧je (lF l i) (pe b l i) p q)∨ ∃i k,i<k∧k<l.length∧(∀j,i<j->j<k->aH (lF l j)=true)∧jz (lF l i) (pe b l i) p∧kq (lF l k) (pe b l k) q
 | [],b,p,q=>by simp [gO]
 | x :: l,b,p,q=>by
  rw [gO,Ey (l:=l),x4]
  constructor
  ·rintro (h|(⟨i,h1,h2⟩|⟨i,k,h1,h2,h3,h4,h5⟩)|⟨h,k,h1,h2,h3⟩)
   ·exact .inl ⟨0,by simp,by rw [df,dc];exact h⟩
   ·exact .inl ⟨i+1,by simp;omega,by rw [cz,cw];exact h2⟩
   ·refine .inr ⟨i+1,k+1,by omega,by simp;omega,fun j j1 j2=> ?_,by rw [cz,cw];exact h4,by rw [cz,cw];exact h5⟩
    cases j with
    | zero=>omega
    | succ j=>exact h3 j (by omega) (by omega)
   ·refine .inr ⟨0,k+1,by omega,by simp;omega,fun j j1 j2=> ?_,by rw [df,dc];exact h,by rw [cz,cw];exact h3⟩
    cases j with
    | zero=>omega
    | succ j=>exact h2 j (by omega)
  ·rintro (⟨i,h1,h2⟩|⟨i,k,h1,h2,h3,h4,h5⟩)
   ·cases i with
    | zero=>left;rw [df,dc] at h2;exact h2
    | succ i=>right;left;left;rw [cz,cw] at h2;exact ⟨i,by simpa using h1,h2⟩
   ·cases k with
    | zero=>omega
    | succ k=>
     rw [cz,cw] at h5
     cases i with
     | zero=>
      right;right;rw [df,dc] at h4;exact ⟨h4,k,by simpa using h2,fun j hj=>h3 (j+1) (by omega) (by omega),h5⟩
     | succ i=>
      right;left;right;rw [cz,cw] at h4;exact ⟨i,k,by omega,by simpa using h2,fun j j1 j2=>h3 (j+1) (by omega) (by omega),h4,h5⟩
section
variable (s:Bool) (m:Nat) (Em:Nat->Bool) (F L:Nat->Nat->Bool)
def qK (i k:Nat):Bool:=(List.range k).all fun j=> !s||Em j
def qO (i k:Nat):Bool:=(List.range k).all fun j=>decide (j<=i)||(!s||Em j)
def oP (i q:Nat):Bool:=(List.range i).any fun j=>qK s Em j j&&F j q
def oU (i q:Nat):Bool:=(List.range i).any fun j=>qO s Em j m&&L j q
def nX (i k:Nat):Bool:=s&&(List.range k).all fun j=>decide (j<=i)||Em j
def ml (i k p q:Nat):Bool:=(List.range k).any fun j=>decide (i<j)&&nX s Em i j&&(L i p&&F j q)
def jU (i p q:Nat):Bool:=(List.range i).any fun j=>ml s Em F L j m p q
theorem FZ (i k:Nat):qK s Em i (k+1)=(qK s Em i k&&(!s||Em k)):=by rw [qK,Zg,ZD];simp [qK]
theorem Gh {i k:Nat} (h:i<k):qO s Em i (k+1)=(qO s Em i k&&(!s||Em k)):=by
 rw [qO,Zg,ZD]
 have:decide (k<=i)=false:=decide_eq_false (by omega)
 simp [qO,this]
theorem I6 (i:Nat):qO s Em i (i+1)=true:=by
 rw [qO,X7];intro x hx
 have:=X8.1 hx
 simp;omega
theorem Gw (i q:Nat):oP s Em F (i+1) q=(oP s Em F i q||(qK s Em i i&&F i q)):=by rw [oP,Zg,ZE];simp [oP]
theorem GV (i q:Nat):oU s m Em L (i+1) q=(oU s m Em L i q||(qO s Em i m&&L i q)):=by rw [oU,Zg,ZE];simp [oU]
theorem wQ {i k:Nat} (h:i<k):nX s Em i (k+1)=(nX s Em i k&&Em k):=by
 rw [nX,Zg,ZD]
 have:decide (k<=i)=false:=decide_eq_false (by omega)
 simp [nX,this,Bool.and_assoc]
theorem I9 (i:Nat):nX s Em i (i+1)=s:=by
 have:((List.range (i+1)).all fun j=>decide (j<=i)||Em j)=true:=by
  rw [X7];intro x hx;have:=X8.1 hx;simp;omega
 rw [nX,this,Bool.and_true]
theorem xq {i k p q:Nat} (h:i<k):ml s Em F L i (k+1) p q=(ml s Em F L i k p q||(nX s Em i k&&(L i p&&F k q))):=by
 rw [ml,Zg,ZE];simp [ml,h]
theorem Kd (i p q:Nat):ml s Em F L i (i+1) p q=false:=by
 rw [ml,List.any_eq_false];intro x hx
 have:=X8.1 hx
 have:decide (i<x)=false:=decide_eq_false (by omega)
 simp [this]
theorem MJ {i k j:Nat} (hk:i<k) (h:nX s Em i k=false) (hj:k<=j):nX s Em i j=false:=by
 induction j with
 | zero=>omega
 | succ j ih=>
  rcases WV j k with h1|h1
  ·obtain rfl:j+1=k:=by omega
   exact h
  ·rw [wQ s Em (by omega),ih h1,Bool.false_and]
theorem Nt {i k j p q:Nat} (hk:i<k) (h:nX s Em i k=false) (hj:k<=j):ml s Em F L i j p q=ml s Em F L i k p q:=by
 induction j with
 | zero=>omega
 | succ j ih=>
  rcases WV j k with h1|h1
  ·obtain rfl:j+1=k:=by omega
   rfl
  ·rw [xq s Em F L (by omega),ih h1,MJ s Em hk h h1,Bool.false_and,Bool.or_false]
theorem GA (i p q:Nat):jU s m Em F L (i+1) p q=(jU s m Em F L i p q||ml s Em F L i m p q):=by rw [jU,Zg,ZE];simp [jU]
end
theorem Jp {s:Bool} {m:Nat} {Em:Nat->Bool} {F:Nat->Nat->Bool} {q:Nat}:oP s Em F m q=true ↔ ∃i,i<m∧(s=true-> ∀k,k<i->Em k=true)∧F i q=true:=by
 simp only [oP,ZF,X8,XK,qK,X7,X9,Bool.not_eq_true']
 constructor
 ·rintro ⟨i,h1,h2,h3⟩;exact ⟨i,h1,fun hs k hk=>(h2 k hk).elim (fun e=>by rw [hs] at e;cases e) id,h3⟩
 ·rintro ⟨i,h1,h2,h3⟩;refine ⟨i,h1,fun k hk=> ?_,h3⟩
  cases hs:s
  ·exact .inl rfl
  ·exact .inr (h2 hs k hk)
theorem J1 {s:Bool} {m:Nat} {Em:Nat->Bool} {L:Nat->Nat->Bool} {q:Nat}:oU s m Em L m q=true ↔ ∃i,i<m∧(s=true-> ∀k,i<k->k<m->Em k=true)∧L i q=true:=by
 simp only [oU,ZF,X8,XK,qO,X7,X9,Bool.not_eq_true',decide_eq_true_eq]
 constructor
 ·rintro ⟨i,h1,h2,h3⟩;exact ⟨i,h1,fun hs k hk hl=>(h2 k hl).elim (fun e=>by omega) (fun e=>e.elim (fun e=>by rw [hs] at e;cases e) id),h3⟩
 ·rintro ⟨i,h1,h2,h3⟩;refine ⟨i,h1,fun k hk=> ?_,h3⟩
  rcases WV i k with h|h
  ·right
   cases hs:s
   ·exact .inl rfl
   ·exact .inr (h2 hs k h hk)
  ·exact .inl h
theorem AD {s:Bool} {m:Nat} {Em:Nat->Bool} {F L:Nat->Nat->Bool} {p q:Nat}:jU s m Em F L m p q=true↔s=true∧ ∃i k,i<k∧k<m∧(∀j,i<j->j<k->Em j=true)∧L i p=true∧F k q=true:=by
 simp only [jU,ml,nX,ZF,X8,XK,X7,X9,decide_eq_true_eq]
 constructor
 ·rintro ⟨i,h1,k,h2,⟨h3,h4,h5⟩,h6,h7⟩;exact ⟨h4,i,k,h3,h2,fun j j1 j2=>(h5 j j2).elim (fun e=>by omega) id,h6,h7⟩
 ·rintro ⟨h1,i,k,h2,h3,h4,h5,h6⟩;refine ⟨i,by omega,k,h3,⟨h2,h1,fun j hj=> ?_⟩,h5,h6⟩
  rcases WV i j with h|h
  ·exact .inr (h4 j h hj)
  ·exact .inl h
theorem tX {a:Act} {d:Nat} {v:Value} (h:d<a.tmps.size):(a.put (some d) v).eval (.tmp d)=v:=by
 simp [Act.put,Act.eval,Array.getD,h]
theorem By (a:Act) (d:Option Tmp) (v:Value):(a.put d v).tmps.size=a.tmps.size:=by
 cases d<;>simp [Act.put]
theorem put_defers (a:Act) (d:Option Tmp) (v:Value):(a.put d v).defers=a.defers:=by
 cases d<;>rfl
section
variable {D:Nat->Prop} {nu:Nat->Nat->Value} {o:List (Option ab)} {w:World} {P:Program}
theorem gb.put {t:List AV} {tm:Array Value} (h:gb D nu o w t tm) {r:AV} {v:Value} (hr:RA D nu o w r v) (d:Nat):gb D nu o w (t.set d r) (tm.setIfInBounds d v):=by
 refine ⟨by simpa using h.len,fun i c x h1 h2=> ?_⟩
 by_cases hd:d=i
 ·subst hd;have hl:=(List.getElem?_eq_some_iff.1 h1).1;simp only [List.length_set] at hl;rw [List.getElem?_set_self hl] at h1;rw [Array.getElem?_setIfInBounds_self_of_lt (by rw [<-h.len];exact hl)] at h2;cases h1;cases h2;exact hr
 ·rw [Xi hd] at h1;rw [Array.getElem?_setIfInBounds_ne hd] at h2;exact h.at' i c x h1 h2
theorem gb.iV {t:List AV} {a:Act} (h:gb D nu o w t a.tmps) {r:AV} {v:Value} (hr:RA D nu o w r v) (d:Nat):gb D nu o w (t.set d r) (a.put (some d) v).tmps:=h.put hr d
def n3 (T U V:TypeId) (oc:Op) (ty:Nat->TypeId) (po:Nat->String) (af:Nat->Array Edge) (last:Oper):List Oper:=
 [⟨some 22, .move (.tmp 5),ty 0,po 0,af 0,none⟩,⟨some 23, .makeSlice T (.tmp 22) (.tmp 22),ty 1,po 1,af 1,none⟩,⟨some 24, .move (.tmp 5),ty 2,po 2,af 2,none⟩,⟨some 25, .makeSlice T (.tmp 24) (.tmp 24),ty 3,po 3,af 3,none⟩,
  ⟨some 26, .load U (.tmp 3),ty 4,po 4,af 4,none⟩,⟨some 27,oc,ty 5,po 5,af 5,none⟩,⟨some 28, .build V #[(0, .tmp 23),(1, .tmp 25),(2, .tmp 27)],ty 6,po 6,af 6,none⟩,⟨some 6, .alloc V,ty 7,po 7,af 7,none⟩,last]
def o8 (t:List AV) (ax:AV):List AV:=((((t.set 22 .undef).set 23 .undef).set 24 .undef).set 25 .undef).set 26 ax
def rJ (t:List AV) (N n:Nat) (em:Bool):List AV:=
 ((((o8 t .undef).set 27 .undef).set 28 (.agg [.vec N n, .vec (N+1) n, .v (.bool em)])).set 6 (.ptr (N+2) 0 3 0 0))
def UM (n0:Nat) (m:iy):Spec:=⟨fun v w=>zG n0 m v w,fun _ _ _ hb h=>h.below hb⟩
def TL (D:Nat->Prop) (nu:Nat->Nat->Value) (o:List (Option ab)) (r:AV):Spec:=⟨fun v w=>RA D nu o w r v,fun _ _ _ hb h=>h.mono (ay hb) (fun _ _ h=>h)⟩
def VF (n0:Nat) (m1 m3:iy) (em:Bool):Spec:=⟨fun v w=> ∃v1 v3,v = .agg #[v1,v3, .bool em]∧zG n0 m1 v1 w∧zG n0 m3 v3 w∧ ∀b,cq v1=some b->cq v3≠some b,fun _ _ _ hb ⟨v1,v3,h1,h2,h3,h4⟩=>⟨v1,v3,h1,h2.below hb,h3.below hb,h4⟩⟩
theorem zG.lt {n0:Nat} {m:iy} {v:Value} (h:zG n0 m v w): ∀b,cq v=some b->n0<=b∧ ∃cur,w.heap[b]? = some (.cells cur m.e (0,0)):=fun b hb=>by
 obtain ⟨b',cap,cur,h1,h2,h3,_⟩:=h;rw [h1,iy.rM] at hb;cases hb;exact ⟨h2,cur,h3⟩
theorem qb {S S':Spec} {r:Result Next} (h:vV P S w r) (hi: ∀v w',S.p v w'->S'.p v w'):vV P S' w r:=by
 revert h
 cases r with
 | halt _ _=>exact fun h=>h
 | ok n w'=>
  cases n<;>first|exact fun h=>h|skip
  case value u=>exact fun h=>⟨hi _ _ h.1,h.2⟩
  case skip=>exact fun h=>⟨hi _ _ h.1,h.2⟩
  case enter f args=>
   exact fun h=>Calls.mono h fun e w'' he=>by
    obtain ⟨v,rfl,hv,hb⟩:=he;exact ⟨v,rfl,hi _ _ hv,hb⟩
theorem Kz {S:Spec} {r:Sem Next} {v:Value} {w':World} (h:r.run P w = .ok (.value v) w') (hs:S.p v w') (hb:Below w.heap.size w w'):vV P S w (r.run P w):=by
 rw [h];exact ⟨hs,hb⟩
theorem Sd {a:Act} {t:List AV} {o:List (Option ab)} {y:jA} (hro:RO D nu o w) (h:gb D nu o w t a.tmps) (y':Operand):RA D nu o w (AS.ev ⟨t,o,y⟩ y') (a.eval y'):=by
 cases y' with
 | tmp t'=>
  simp only [AS.ev,Act.eval]
  rcases WV t' t.length with hlt|hge
  ·have e1:t[t']? = some t[t']:=Xb hlt
   have hlt':t'<a.tmps.size:=by rw [<-h.len];exact hlt
   rw [getD_some e1]
   have e2:a.tmps.getD t' Go.undef=a.tmps[t']:=by simp [Array.getD,hlt']
   rw [e2];exact h.at' t' _ _ e1 (Array.getElem?_eq_getElem hlt')
  ·rw [XR,List.getElem?_eq_none hge];exact .undef _
 | const v=>exact .v v
 | global gi=>exact nE hro ⟨t,o,y⟩ gi
 | func f=>exact .fn f [] [] #[] #[] rfl rfl (fun i c x h=>by simp at h) (fun i c x h=>by simp at h)
theorem iS {t:List AV} {o:List (Option ab)} {y:jA} {d i:Nat} {v:AV} (h:d≠i):AS.ev ⟨t.set d v,o,y⟩ (.tmp i)=AS.ev ⟨t,o,y⟩ (.tmp i):=by
 simp [AS.ev,XR,Xi h]
theorem sF {t:List AV} {o:List (Option ab)} {y:jA} {d:Nat} {v:AV} (h:d<t.length):AS.ev ⟨t.set d v,o,y⟩ (.tmp d)=v:=by
 simp [AS.ev,XR,h]
theorem zG.one {n0:Nat} {m:iy} {v:Value} (h:zG n0 m v w):v.oneCell'=true:=by
 obtain ⟨b',cap,cur,h1,_⟩:=h;rw [h1,iy.val];split<;>rfl
theorem Ge {n0 id n z:Nat} {s:AS} {Q:bd->AS->Prop} {T U V:TypeId} {oc:Op} {ty:Nat->TypeId} {po:Nat->String} {af:Nat->Array Edge} {last:Oper} {ax:AV} {em:Bool} {p1 p7:Prop} {e:TypeId} {zc zr:List AV}
  (hB:gG (n3 T U V oc ty po af last).toArray 8=true) (hC:dw (n3 T U V oc ty po af last).toArray=true)
  (hdp:aG (n3 T U V oc ty po af last).toArray 1 0=true∧aG (n3 T U V oc ty po af last).toArray 3 2=true∧aG (n3 T U V oc ty po af last).toArray 5 4=true∧aG (n3 T U V oc ty po af last).toArray 6 1=true∧aG (n3 T U V oc ty po af last).toArray 6 3=true∧aG (n3 T U V oc ty po af last).toArray 6 5=true)
  (hlen:29<=s.t.length) (hmv:s.ev (.tmp 5) = .v (.int .i64 n)) (hm1:yj P T (.v (.int .i64 n)) (.v (.int .i64 n))=some (p1,e,z,n,zc)) (hp1:p1) (hal:yb P V=some (p7,V,3,1,zr)) (heV:e≠V)
  (hld:bZ P (.load U (.tmp 3)) s (fun r=>r=ax)) (hcl:bZ P oc ⟨o8 s.t ax,s.o,s.y⟩ (fun r=>r = .v (.bool em)))
  (hbd: ∀v1 v3:Value,v1.oneCell'=true->v3.oneCell'=true->oD P V [(0, .v v1),(1, .v v3),(2, .v (.bool em))]=some (.agg [.v v1, .v v3, .v (.bool em)]))
  (h:dX P (n3 T U V oc ty po af last) [last] ⟨rJ s.t s.o.length n em,s.o++[some ⟨e,z,true,List.replicate n zc⟩,some ⟨e,z,true,List.replicate n zc⟩,some ⟨V,3,false,[zr]⟩],s.y⟩ (Q .normal)) :
  cm P n0 (.region id (n3 T U V oc ty po af last).toArray true) s Q:=by
 refine .inr (fun f m D nu a w hZr hn hm hs hmx R hO hR=> ?_);have hs0:=hs.drew;obtain ⟨d10,d32,d54,d61,d63,d65⟩:=hdp;have hsz:a.tmps.size=s.t.length:=hs.tm.len.symm
 have hwant: ∀(i:Nat) (oo:Oper) (a':Act),oo.guard=none->Region.wanted oo (yielded (n3 T U V oc ty po af last).toArray a'.tmps)=true:=fun i oo a' hg=>by simp [Region.wanted,hg]
 
 have base: ∀wr,Below w.drew.heap.size w.drew wr->RO D nu s.o wr∧gb D nu s.o wr s.t a.tmps:=fun wr hE=>⟨hs0.ro.below hE,hs0.tm.mono (ay hE) (fun _ _ h=>h)⟩
 refine nt hmx hC hO (kJ [TL D nu s.o (.v (.int .i64 n)),UM w.drew.heap.size ⟨23,1,e,z,n,zc,false⟩,TL D nu s.o (.v (.int .i64 n)),UM w.drew.heap.size ⟨25,3,e,z,n,zc,false⟩,TL D nu s.o ax,TL D nu s.o (.v (.bool em)),VF w.drew.heap.size ⟨23,1,e,z,n,zc,false⟩ ⟨25,3,e,z,n,zc,false⟩ em,UM w.drew.heap.size ⟨6,7,V,3,1,zr,true⟩]
  (fun i=>i==1||i==3||i==7) (fun i v w1 hf hp b hb=> ?_) 8 hB ⟨fun x wr hE hD hP=> ?_,fun x wr hE hD hP=> ?_,fun x wr hE hD hP=> ?_,fun x wr hE hD hP=> ?_,fun x wr hE hD hP=> ?_,fun x wr hE hD hP=> ?_,fun x wr hE hD hP=> ?_,fun x wr hE hD hP=> ?_,fun x wr hE hD hP=> ?_⟩)
 ·simp only [X9,beq_iff_eq] at hf
  rcases hf with (rfl|rfl)|rfl<;>exact (Array.getElem?_eq_some_iff.1 ((zG.lt hp b hb).2.choose_spec)).1
 ·refine .inl ⟨hwant 0 _ _ rfl, ?_⟩;obtain ⟨hro,hra⟩:=base wr hE;obtain ⟨r,rfl,hout⟩:=fQ (P:=P) (s:=s) (rho:=a.eval) (oo:=⟨some 22, .move (.tmp 5),ty 0,po 0,af 0,none⟩) (K:=fun r=>r = .v (.int .i64 n)) hro (fun y _=>Sd hro hra y) ⟨trivial,hmv⟩;exact qb hout (fun v w' hv=>⟨hv.2,fun h=>absurd h (by decide)⟩)
 ·refine .inl ⟨hwant 1 _ _ rfl, ?_⟩;obtain ⟨hro,hra⟩:=base wr hE;have h0:RA D nu s.o wr (.v (.int .i64 n)) (x 0):=hD 0 d10;have e0:(a.put (some 22) (x 0)).eval (.tmp 22)=x 0:=tX (by omega);obtain ⟨v,w',h1,h2,h3⟩:=wG (P:=P) (w:=wr) h0 h0 hm1 hp1 23 1
  have hrun:(execOp (a.put (some 22) (x 0)).eval ⟨some 23, .makeSlice T (.tmp 22) (.tmp 22),ty 1,po 1,af 1,none⟩).run P wr = .ok (.value v) w':=by
   simp only [execOp,e0,Sem.run_bind,h1,Result.andThen_ok,Sem.run_pure]
  show vV P _ wr ((execOp (a.put (some 22) (x 0)).eval ⟨some 23, .makeSlice T (.tmp 22) (.tmp 22),ty 1,po 1,af 1,none⟩).run P wr);rw [hrun];obtain ⟨b,cap,cur,k1,k2,k3⟩:=h3;exact ⟨⟨⟨b,cap,cur,k1,WO hE.size k2,k3⟩,fun _ b' hb=>by rw [k1,iy.rM] at hb;cases hb;exact k2⟩,h2⟩
 ·refine .inl ⟨hwant 2 _ _ rfl, ?_⟩;obtain ⟨hro,hra⟩:=base wr hE;have hr2:=(hra.iV (.undef (x 0)) 22).iV (.undef (x 1)) 23
  obtain ⟨r,rfl,hout⟩:=fQ (P:=P) (s:=⟨(s.t.set 22 .undef).set 23 .undef,s.o,s.y⟩) (rho:=((a.put (some 22) (x 0)).put (some 23) (x 1)).eval) (oo:=⟨some 24, .move (.tmp 5),ty 2,po 2,af 2,none⟩) (K:=fun r=>r = .v (.int .i64 n)) hro (fun y _=>Sd hro hr2 y)
   ⟨trivial,by rw [iS (by decide),iS (by decide)];exact hmv⟩
  exact qb hout (fun v w' hv=>⟨hv.2,fun h=>absurd h (by decide)⟩)
 ·refine .inl ⟨hwant 3 _ _ rfl, ?_⟩;have h0:RA D nu s.o wr (.v (.int .i64 n)) (x 2):=hD 2 d32;have e0:(((a.put (some 22) (x 0)).put (some 23) (x 1)).put (some 24) (x 2)).eval (.tmp 24)=x 2:=tX (by rw [By,By];omega);obtain ⟨v,w',h1,h2,h3⟩:=wG (P:=P) (w:=wr) h0 h0 hm1 hp1 25 3
  have hrun:(execOp (((a.put (some 22) (x 0)).put (some 23) (x 1)).put (some 24) (x 2)).eval ⟨some 25, .makeSlice T (.tmp 24) (.tmp 24),ty 3,po 3,af 3,none⟩).run P wr = .ok (.value v) w':=by
   simp only [execOp,e0,Sem.run_bind,h1,Result.andThen_ok,Sem.run_pure]
  show vV P _ wr ((execOp (((a.put (some 22) (x 0)).put (some 23) (x 1)).put (some 24) (x 2)).eval ⟨some 25, .makeSlice T (.tmp 24) (.tmp 24),ty 3,po 3,af 3,none⟩).run P wr);rw [hrun];obtain ⟨b,cap,cur,k1,k2,k3⟩:=h3;exact ⟨⟨⟨b,cap,cur,k1,WO hE.size k2,k3⟩,fun _ b' hb=>by rw [k1,iy.rM] at hb;cases hb;exact k2⟩,h2⟩
 ·refine .inl ⟨hwant 4 _ _ rfl, ?_⟩;obtain ⟨hro,hra⟩:=base wr hE;have hr4:=(((hra.iV (.undef (x 0)) 22).iV (.undef (x 1)) 23).iV (.undef (x 2)) 24).iV (.undef (x 3)) 25
  obtain ⟨r,rfl,hout⟩:=fQ (P:=P) (s:=⟨(((s.t.set 22 .undef).set 23 .undef).set 24 .undef).set 25 .undef,s.o,s.y⟩) (rho:=((((a.put (some 22) (x 0)).put (some 23) (x 1)).put (some 24) (x 2)).put (some 25) (x 3)).eval) (oo:=⟨some 26, .load U (.tmp 3),ty 4,po 4,af 4,none⟩) (K:=fun r=>r=ax) hro (fun y _=>Sd hro hr4 y)
   (by simp only [bZ,CY,yq,iS (show 22≠3 by decide),iS (show 23≠3 by decide),iS (show 24≠3 by decide),iS (show 25≠3 by decide)] at hld ⊢; exact hld)
  exact qb hout (fun v w' hv=>⟨hv.2,fun h=>absurd h (by decide)⟩)
 ·refine .inl ⟨hwant 5 _ _ rfl, ?_⟩;obtain ⟨hro,hra⟩:=base wr hE;have h4:RA D nu s.o wr ax (x 4):=hD 4 d54;have hr5:=((((hra.iV (.undef (x 0)) 22).iV (.undef (x 1)) 23).iV (.undef (x 2)) 24).iV (.undef (x 3)) 25).iV h4 26;obtain ⟨r,rfl,hout⟩:=fQ (P:=P) (s:=⟨o8 s.t ax,s.o,s.y⟩) (rho:=(((((a.put (some 22) (x 0)).put (some 23) (x 1)).put (some 24) (x 2)).put (some 25) (x 3)).put (some 26) (x 4)).eval) (oo:=⟨some 27,oc,ty 5,po 5,af 5,none⟩) (K:=fun r=>r = .v (.bool em)) hro (fun y _=>Sd hro hr5 y) hcl;exact qb hout (fun v w' hv=>⟨hv.2,fun h=>absurd h (by decide)⟩)
 ·refine .inl ⟨hwant 6 _ _ rfl, ?_⟩;obtain ⟨hro,hra⟩:=base wr hE;have h1:zG w.drew.heap.size ⟨23,1,e,z,n,zc,false⟩ (x 1) wr:=hD 1 d61;have h3:zG w.drew.heap.size ⟨25,3,e,z,n,zc,false⟩ (x 3) wr:=hD 3 d63;have h5:RA D nu s.o wr (.v (.bool em)) (x 5):=hD 5 d65;have hne:=hP 1 3 d61 d63 (by decide) rfl rfl;have hr6:=(((((hra.iV (.undef (x 0)) 22).iV (.v (x 1)) 23).iV (.undef (x 2)) 24).iV (.v (x 3)) 25).iV (.undef (x 4)) 26).iV h5 27;have hb:=hbd (x 1) (x 3) h1.one h3.one
  obtain ⟨v,q1,q2⟩:=kK (P:=P) (ev:=AS.ev ⟨(((((s.t.set 22 .undef).set 23 (.v (x 1))).set 24 .undef).set 25 (.v (x 3))).set 26 .undef).set 27 (.v (.bool em)),s.o,s.y⟩) (rho:=((((((a.put (some 22) (x 0)).put (some 23) (x 1)).put (some 24) (x 2)).put (some 25) (x 3)).put (some 26) (x 4)).put (some 27) (x 5)).eval)
   (oo:=⟨some 28, .build V #[(0, .tmp 23),(1, .tmp 25),(2, .tmp 27)],ty 6,po 6,af 6,none⟩) hro (fun y _=>Sd hro hr6 y) (p:=True) (r:= .agg [.v (x 1), .v (x 3), .v (.bool em)]) (by
    have e1:AS.ev ⟨(((((s.t.set 22 .undef).set 23 (.v (x 1))).set 24 .undef).set 25 (.v (x 3))).set 26 .undef).set 27 (.v (.bool em)),s.o,s.y⟩ (.tmp 23) = .v (x 1):=by
     rw [iS (by decide),iS (by decide),iS (by decide),iS (by decide)];exact sF (by simp;omega)
    have e3:AS.ev ⟨(((((s.t.set 22 .undef).set 23 (.v (x 1))).set 24 .undef).set 25 (.v (x 3))).set 26 .undef).set 27 (.v (.bool em)),s.o,s.y⟩ (.tmp 25) = .v (x 3):=by
     rw [iS (by decide),iS (by decide)];exact sF (by simp;omega)
    have e5:AS.ev ⟨(((((s.t.set 22 .undef).set 23 (.v (x 1))).set 24 .undef).set 25 (.v (x 3))).set 26 .undef).set 27 (.v (.bool em)),s.o,s.y⟩ (.tmp 27) = .v (.bool em):=sF (by simp;omega)
    simp only [yq,YW,Y5,e1,e3,e5,hb]) trivial
  have q3:=tv (xs:=[x 1,x 3, .bool em]) q2;show vV P _ wr ((execOp ((((((a.put (some 22) (x 0)).put (some 23) (x 1)).put (some 24) (x 2)).put (some 25) (x 3)).put (some 26) (x 4)).put (some 27) (x 5)).eval ⟨some 28, .build V #[(0, .tmp 23),(1, .tmp 25),(2, .tmp 27)],ty 6,po 6,af 6,none⟩).run P wr);rw [q1];exact ⟨⟨⟨x 1,x 3,q3,h1,h3,hne⟩,fun h=>absurd h (by decide)⟩, .refl _ _⟩
 ·refine .inl ⟨hwant 7 _ _ rfl, ?_⟩;obtain ⟨v,w',h1,h2,h3⟩:=FU (P:=P) (w:=wr) hal 6 7;refine Kz (v:=v) (w':=w') (by simp only [execOp,Sem.run_bind,h1,Result.andThen_ok,Sem.run_pure]) ?_ h2;obtain ⟨b,cap,cur,k1,k2,k3⟩:=h3;exact ⟨⟨b,cap,cur,k1,WO hE.size k2,k3⟩,fun _ b' hb=>by rw [k1,iy.rM] at hb;cases hb;exact k2⟩
 ·obtain ⟨hro,hra⟩:=base wr hE;obtain ⟨v1,v3,e6,m1,m3,hne⟩:(VF w.drew.heap.size ⟨23,1,e,z,n,zc,false⟩ ⟨25,3,e,z,n,zc,false⟩ em).p (x 6) wr:=hD 6 (by decide);have m7:zG w.drew.heap.size ⟨6,7,V,3,1,zr,true⟩ (x 7) wr:=hD 7 (by decide)
  have hdiff: ∀v (mm:iy),mm.e=e->zG w.drew.heap.size mm v wr-> ∀b,cq v=some b->cq (x 7)≠some b:=fun v mm he hm b h1 h2=>by
   obtain ⟨c1,k1⟩:=(hm.lt b h1).2;obtain ⟨c2,k2⟩:=(m7.lt b h2).2;rw [k1] at k2;simp only [Option.some.injEq,Obj.cells.injEq,and_true] at k2;exact heV (he.symm.trans k2.2)
  obtain ⟨hmo,hro',hcl'⟩:=Jf hs0.ro hE [⟨23,1,e,z,n,zc,false⟩,⟨25,3,e,z,n,zc,false⟩,⟨6,7,V,3,1,zr,true⟩] (fun i=>if i=0 then v1 else if i=1 then v3 else x 7) (fun i mm hi=>by
   match i,hi with
   | 0,hi=>cases hi;exact m1
   | 1,hi=>cases hi;exact m3
   | 2,hi=>cases hi;exact m7
   | i+3,hi=>simp at hi) (fun i j hi hj hij b hb=>by
   simp only [List.length_cons,List.length_nil] at hi hj
   match i,j,hi,hj,hij,hb with
   | 0,0,_,_,h,_=>exact absurd rfl h
   | 0,1,_,_,_,hb=>exact hne b hb
   | 0,2,_,_,_,hb=>exact hdiff v1 _ rfl m1 b hb
   | 1,0,_,_,_,hb=>exact fun h=>hne b h hb
   | 1,1,_,_,h,_=>exact absurd rfl h
   | 1,2,_,_,_,hb=>exact hdiff v3 _ rfl m3 b hb
   | 2,0,_,_,_,hb=>exact fun h=>hdiff v1 _ rfl m1 b h hb
   | 2,1,_,_,_,hb=>exact fun h=>hdiff v3 _ rfl m3 b h hb
   | 2,2,_,_,h,_=>exact absurd rfl h
   | i+3,_,h,_,_,_=>omega
   | _,j+3,_,h,_,_=>omega)
  have c0:=hcl' 0 _ rfl;have c1:=hcl' 1 _ rfl;have c2:=hcl' 2 _ rfl;generalize Ie nu s.o.length (fun i=>if i=0 then v1 else if i=1 then v3 else x 7)=nu2 at *;have hra2:=hs0.tm.mono hmo (fun _ _ h=>h);simp only [iy.av,iy.ob,Bool.not_false,Bool.not_true,if_true,Bool.false_eq_true,if_false,Nat.add_zero,YW,Y5,Nat.one_ne_zero,List.replicate_succ,List.replicate_zero] at c0 c1 c2 hmo hro' hra2;have c2:RA D nu2 _ wr (.ptr (s.o.length+2) 0 3 0 0) (x 7):=c2
  have hagg:RA D nu2 (s.o++[some ⟨e,z,true,List.replicate n zc⟩,some ⟨e,z,true,List.replicate n zc⟩,some ⟨V,3,false,[zr]⟩]) wr (.agg [.vec s.o.length n, .vec (s.o.length+1) n, .v (.bool em)]) (x 6):=by
   rw [e6]
   refine .agg _ _ rfl (fun i c y h1 h2=> ?_) (fun i y h2=> ?_)
   ·match i,h1,h2 with
    | 0,h1,h2=>cases h1;cases h2;exact c0
    | 1,h1,h2=>cases h1;cases h2;exact c1
    | 2,h1,h2=>cases h1;cases h2;exact .v _
    | i+3,h1,h2=>simp at h1
   ·match i,h2 with
    | 0,h2=>cases h2;exact m1.one
    | 1,h2=>cases h2;exact m3.one
    | 2,h2=>cases h2;rfl
    | i+3,h2=>simp at h2
  have hra8:gb D nu2 (s.o++[some ⟨e,z,true,List.replicate n zc⟩,some ⟨e,z,true,List.replicate n zc⟩,some ⟨V,3,false,[zr]⟩]) wr (rJ s.t s.o.length n em) ((((((((a.put (some 22) (x 0)).put (some 23) (x 1)).put (some 24) (x 2)).put (some 25) (x 3)).put (some 26) (x 4)).put (some 27) (x 5)).put (some 28) (x 6)).put (some 6) (x 7)).tmps:=by
   refine gb.iV ?_ c2 6;refine gb.iV ?_ hagg 28;refine gb.iV ?_ (.undef (x 5)) 27;refine gb.iV ?_ (.undef (x 4)) 26;refine gb.iV ?_ (.undef (x 3)) 25;refine gb.iV ?_ (.undef (x 2)) 24;refine gb.iV ?_ (.undef (x 1)) 23;refine gb.iV ?_ (.undef (x 0)) 22;exact hra2
  generalize hA:((((((((a.put (some 22) (x 0)).put (some 23) (x 1)).put (some 24) (x 2)).put (some 25) (x 3)).put (some 26) (x 4)).put (some 27) (x 5)).put (some 28) (x 6)).put (some 6) (x 7))=a8 at hra8
  have hd8:a8.defers=a.defers:=by rw [<-hA];simp only [put_defers]
  show wpOps P (n3 T U V oc ty po af last).toArray R (List.range' 8 ((n3 T U V oc ty po af last).toArray.size - 8)) ((((((((a.put (some 22) (x 0)).put (some 23) (x 1)).put (some 24) (x 2)).put (some 25) (x 3)).put (some 26) (x 4)).put (some 27) (x 5)).put (some 28) (x 6)).put (some 6) (x 7)) wr;rw [hA]
  have hs8:RS f D nu2 ⟨rJ s.t s.o.length n em,s.o++[some ⟨e,z,true,List.replicate n zc⟩,some ⟨e,z,true,List.replicate n zc⟩,some ⟨V,3,false,[zr]⟩],s.y⟩ a8 wr:=
   ⟨hro',hra8,by rw [hd8];exact hs0.jj.mono hs0.ro (ay hE)⟩
  exact lq (P:=P) (f:=f) (l:=n3 T U V oc ty po af last) (R:=R) [last] 8 _ _ wr nu2 rfl (show 8<=9 by omega) hs8 h (fun s' a' w' nu' q1 q2 q3 q4=>hR .normal D f.Z s' a' w' nu' (by rw [q2];exact m.own hm hs.ro ((ay (cC w)).trans (hmo.trans q1)) q3.ro) q3 q4)
theorem C9 {n0 id n z:Nat} {s:AS} {Q:bd->AS->Prop} {l:List Oper} (T U V:TypeId) (oc:Op) {ax:AV} {em:Bool} {p1 p7:Prop} {e:TypeId} {zc zr:List AV}
  (hl:l=n3 T U V oc (fun i=>(l.getD i default).type) (fun i=>(l.getD i default).pos) (fun i=>(l.getD i default).after) (l.getD 8 default))
  (hB:gG l.toArray 8=true) (hC:dw l.toArray=true)
  (hdp:aG l.toArray 1 0=true∧aG l.toArray 3 2=true∧aG l.toArray 5 4=true∧aG l.toArray 6 1=true∧aG l.toArray 6 3=true∧aG l.toArray 6 5=true)
  (hlen:29<=s.t.length) (hmv:s.ev (.tmp 5) = .v (.int .i64 n)) (hm1:yj P T (.v (.int .i64 n)) (.v (.int .i64 n))=some (p1,e,z,n,zc)) (hp1:p1) (hal:yb P V=some (p7,V,3,1,zr)) (heV:e≠V)
  (hld:bZ P (.load U (.tmp 3)) s (fun r=>r=ax)) (hcl:bZ P oc ⟨o8 s.t ax,s.o,s.y⟩ (fun r=>r = .v (.bool em)))
  (hbd: ∀v1 v3:Value,v1.oneCell'=true->v3.oneCell'=true->oD P V [(0, .v v1),(1, .v v3),(2, .v (.bool em))]=some (.agg [.v v1, .v v3, .v (.bool em)]))
  (h:dX P l [l.getD 8 default] ⟨rJ s.t s.o.length n em,s.o++[some ⟨e,z,true,List.replicate n zc⟩,some ⟨e,z,true,List.replicate n zc⟩,some ⟨V,3,false,[zr]⟩],s.y⟩ (Q .normal)) :
  cm P n0 (.region id l.toArray true) s Q:=by
 generalize (fun i=>(l.getD i default).type)=ty at hl;generalize (fun i=>(l.getD i default).pos)=po at hl;generalize (fun i=>(l.getD i default).after)=af at hl;generalize l.getD 8 default=last at hl h;subst hl;exact Ge hB hC hdp hlen hmv hm1 hp1 hal heV hld hcl hbd h
end
open Classical in
noncomputable def kA (x:Ex) (b q:Nat):Bool:=decide (kq x b (q+1))
open Classical in
noncomputable def fc (x:Ex) (b q:Nat):Bool:=decide (jz x b (q+1))
open Classical in
noncomputable def kz (x:Ex) (b p q:Nat):Bool:=decide (je x b (p+1) (q+1))
theorem iD {x:Ex} {b q:Nat}:kA x b q=true↔kq x b (q+1):=by simp [kA]
theorem iG {x:Ex} {b q:Nat}:fc x b q=true↔jz x b (q+1):=by simp [fc]
theorem kP {x:Ex} {b p q:Nat}:kz x b p q=true↔je x b (p+1) (q+1):=by simp [kz]
theorem Mv {I:List (Option ab)} {z:Nat} (h:I.length=z) (tl:List (Option ab)) (j:Nat):(I++tl)[z+j]? = tl[j]? :=by
 rw [Xr (by omega),h,ZG]
theorem tC {I:List (Option ab)} {z:Nat} (h:I.length=z) (tl:List (Option ab)):(I++tl)[z]? = tl[0]? :=by
 rw [Xr (by omega),h,Nat.sub_self]
theorem Mw {I:List (Option ab)} {z:Nat} (h:I.length=z) (tl:List (Option ab)) (j:Nat) (x:Option ab):(I++tl).set (z+j) x=I++tl.set j x:=by
 rw [Zc _ _ (by omega),h,ZG]
theorem tD {I:List (Option ab)} {z:Nat} (h:I.length=z) (tl:List (Option ab)) (x:Option ab):(I++tl).set z x=I++tl.set 0 x:=by
 rw [Zc _ _ (by omega),h,Nat.sub_self]
theorem EO {n0 id n:Nat} {s:AS} {Q:bd->AS->Prop} {l:List Oper} {ax:AV} {em:Bool} (hn:n<=1000)
  (hl:l=n3 54 25 152 (.call ⟨.value (.func 100), #[.tmp 26], #[25]⟩) (fun i=>(l.getD i default).type) (fun i=>(l.getD i default).pos) (fun i=>(l.getD i default).after) (l.getD 8 default))
  (hB:gG l.toArray 8=true) (hC:dw l.toArray=true)
  (hdp:aG l.toArray 1 0=true∧aG l.toArray 3 2=true∧aG l.toArray 5 4=true∧aG l.toArray 6 1=true∧aG l.toArray 6 3=true∧aG l.toArray 6 5=true)
  (hlen:29<=s.t.length) (hmv:s.ev (.tmp 5) = .v (.int .i64 n))
  (hld:bZ Tryz.prog (.load 25 (.tmp 3)) s (fun r=>r=ax)) (hcl:aq Tryz.prog 100 [ax] (.v (.bool em)))
  (h:dX Tryz.prog l [l.getD 8 default] ⟨rJ s.t s.o.length n em,s.o++[some ⟨4,1,true,cV n (fun _=>false)⟩,some ⟨4,1,true,cV n (fun _=>false)⟩,some ⟨152,3,false,[[.v (.slice none 0 0), .v (.slice none 0 0), .v (.bool false)]]⟩],s.y⟩ (Q .normal)) :
  cm Tryz.prog n0 (.region id l.toArray true) s Q:=by
 have e1:yj Tryz.prog 54 (.v (.int .i64 n)) (.v (.int .i64 n))=some (0<=(n:Int)∧(n:Int)<=(n:Int)∧(n:Int).toNat * 1<=140737488355328∧(n:Int).toNat<=140737488355328,4,1,n,[.v (.bool false)]):=by
  simp only [go_sem]
 have e2:yb Tryz.prog 152=some (True,152,3,1,[.v (.slice none 0 0), .v (.slice none 0 0), .v (.bool false)]):=by
  first|(simp only [go_sem];done)|(simp only [go_sem];rfl)
 rw [<-jD] at h
 refine C9 54 25 152 _ hl hB hC hdp hlen hmv e1 ⟨by omega,by omega,by omega,by omega⟩ e2 (by decide) hld ?_ (fun v1 v3 h1 h3=> ?_) h
 ·have ev:AS.ev ⟨o8 s.t ax,s.o,s.y⟩ (.tmp 26)=ax:=by rw [o8];exact sF (by simp;omega)
  simp only [bZ,YW,Y5,ev];exact aE.one hcl rfl
 ·have c1:(AV.v v1).cells? = some [.v v1]:=by simp only [AV.cells?,h1,if_true]
  have c3:(AV.v v3).cells? = some [.v v3]:=by simp only [AV.cells?,h3,if_true]
  have c5:(AV.v (.bool em)).cells? = some [.v (.bool em)]:=rfl
  have tp:Lo Tryz.prog 152=some ([(0,1),(1,1),(2,1)],[.v (.slice none 0 0), .v (.slice none 0 0), .v (.bool false)]):=by
   simp only [go_sem]
  simp [oD,tp,pt,c1,c3,c5,BU]
theorem EK {k:Nat} {y:Ex} {labs:List ByteArray} {n:Nat} {f:Nat->Nat->Bool} {tl:List (Option ab)} {r:AV} (hk:k<=2 * n+3) (hr: ∀m,r.wf m=true) :
  Vs k (some ⟨120,8,false,[mq 0 y labs.length n]⟩ :: some ⟨9,1,true,labs.map encS⟩ :: some ⟨54,1,true,bc 2 n n⟩ :: (aZ n f n++tl)) r r (cF 0 y labs n f):=by
 refine ⟨⟨.inr ⟨rfl,hr _⟩,trivial⟩, ?_,by rw [bV];exact hk⟩
 have:=l6 (n:=(cF 0 y labs n f).length) (a:=tl) (b:=[]) (l:=cF 0 y labs n f) (jw (by rw [bV];omega)) (by cases tl<;>exact trivial)
 rw [List.append_nil] at this;exact this
def Tz (x:Ex):Prop:= ∀(y:Ex) (labs:List ByteArray) (n:Nat) (f:Nat->Nat->Bool),n<=1000->labs.length+(aD x).length<=n ->
 da Tryz.prog 102 [.ptr 0 0 8 0 0, .agg (aM x)] (cF 0 y labs n f) (.agg [.aB 1 (cV n (kA x labs.length)) n, .aB 1 (cV n (fc x labs.length)) n, .v (.bool (aH x))]) (cF 0 y (labs++aD x) n (fun p q=>f p q||kz x labs.length p q))
theorem Qv (s:ByteArray) (h1:aC (.mk 1 s [])=true) (hz: ∀z,z∈aj (.mk 1 s [])->z.kids.length<=1000000∧z.label.size<=1000000000000000):Tz (.mk 1 s []):=by
 intro y labs n f hn hb;have E:=qQ (.mk 1 s []) (by simp [aj,bM]) hz;rw [dy,h1,Bool.true_and] at E;simp only [aA,Ex.kind,Ex.label,Ex.kids,Y5,List.length_nil] at E ⊢;refine gF Tryz.func102 Tryz.ntmps102 Tryz.results102 ?_;simp only [cF,bS,mq,Nat.zero_add];obtain ⟨I,hI⟩: ∃I,I=aZ n f n:=⟨_,rfl⟩
 have hIl:I.length=2 * n:=by rw [hI,ah]
 rw [<-hI];generalize 2 * n=z at hIl;have g1:=fun tl j=>Mv hIl tl j;have g0:=fun tl=>tC hIl tl;have s1:=fun tl j x=>Mw hIl tl j x;have s0:=fun tl x=>tD hIl tl x
 repeat ((fail_if_success (with_reducible refine bm (i:=2) ?_));first|(with_reducible first|refine aw.up ?_|refine fun (K:AK) hK=> ?_|refine wK ?_|refine wF ?_|refine ae (by decide) ?_|refine ag (by decide) ?_|(refine hK _ ?_;clear hK K))|simp only [go_sem,hIl,g0,g1,s0,s1,WX]|with_reducible refine wA ?_|clear hK K)
 refine EO (n:=n) (em:=aH (.mk 1 s [])) (ax:= .agg [.v (.int .i64 1), .v (.string s), .aB 3 [] 0]) hn rfl (by decide+kernel) (by kernel_rfl) (by decide+kernel) (by simp) rfl ?_ E ?_
 ·(revert K;exact JK hIl g0 g1 s1)
 ·(revert K;refine JE hIl g0 g1 s1 ?_;intro K hK K hK)
  repeat ((fail_if_success (with_reducible refine bm (i:=4) ?_));first|(with_reducible first|refine aw.up ?_|refine fun (K:AK) hK=> ?_|refine wK ?_|refine wF ?_|refine ae (by decide) ?_|refine ag (by decide) ?_|(refine hK _ ?_;clear hK K))|simp only [go_sem,hIl,g0,g1,s0,s1,WX]|with_reducible refine wA ?_|clear hK K)
  refine bA [8,11] [] (by decide+kernel) (by kernel_rfl) ?_
  repeat (first|(with_reducible first|refine aw.up ?_|refine fun (K:AK) hK=> ?_|refine wK ?_|refine wF ?_|refine ae (by decide) ?_|refine ag (by decide) ?_|(refine hK _ ?_;clear hK K))|simp only [go_sem,hIl,g0,g1,s0,s1,WX]|with_reducible refine wA ?_|clear hK K)
  repeat ((fail_if_success (with_reducible refine bm (i:=5) ?_));first|(with_reducible first|refine aw.up ?_|refine fun (K:AK) hK=> ?_|refine wK ?_|refine wF ?_|refine ae (by decide) ?_|refine ag (by decide) ?_|(refine hK _ ?_;clear hK K))|simp only [go_sem,hIl,g0,g1,s0,s1,WX]|with_reducible refine wA ?_|clear hK K)
  have hlt:labs.length<n:=by simp [aD] at hb;omega
  have eN:IntKind.i64.wrap (((labs.length+1:Nat):Int) - 1)=(labs.length:Int):=by rw [bH (by omega) (by omega)];omega
  have eR:=cZ (g:=fun _=>false) hlt;have eS:=qk (N:=n) (j:=labs.length) (g:=fun _=>false) (v:=true);refine wE ?_
  repeat (first|(with_reducible first|refine aw.up ?_|refine fun (K:AK) hK=> ?_|refine wK ?_|refine wF ?_|refine ae (by decide) ?_|refine ag (by decide) ?_|(refine hK _ ?_;clear hK K))|simp only [go_sem,hIl,g0,g1,s0,s1,WX,eN,eR,eS]|with_reducible refine wA ?_|clear hK K)
  repeat ((fail_if_success (with_reducible refine bm (i:=6) ?_));first|(with_reducible first|refine aw.up ?_|refine fun (K:AK) hK=> ?_|refine wK ?_|refine wF ?_|refine ae (by decide) ?_|refine ag (by decide) ?_|(refine hK _ ?_;clear hK K))|simp only [go_sem,hIl,g0,g1,s0,s1,WX,eN,eR,eS]|with_reducible refine wA ?_|clear hK K)
  refine wE ?_
  repeat ((fail_if_success (with_reducible refine bm (i:=7) ?_));first|(with_reducible first|refine aw.up ?_|refine fun (K:AK) hK=> ?_|refine wK ?_|refine wF ?_|refine ae (by decide) ?_|refine ag (by decide) ?_|(refine hK _ ?_;clear hK K))|simp only [go_sem,hIl,g0,g1,s0,s1,WX,eN,eR,eS]|with_reducible refine wA ?_|clear hK K)
  refine a7 (dK (k:=z+2+1+1+1+2) (i:=0) (j:=0) (id:=z+2+1+1+1) (len:=n) (ob:=⟨152,3,false,[[.vec (z+2+1+1+1) n, .vec (z+2+1+1+1+1) n, .v (.bool (aH (.mk 1 s [])))]]⟩) (row:=[.vec (z+2+1+1+1) n, .vec (z+2+1+1+1+1) n, .v (.bool (aH (.mk 1 s [])))]) (ob2:=⟨4,1,true,cV n (fun q=>if q=labs.length then true else false)⟩)
   (by omega) (by simp only [Yq,g1];rfl) (show 0<3 by decide) rfl rfl (by simp only [Yq,g1];rfl) rfl (js _ _)) (by kernel_rfl) ?_
  simp only [List.set_cons_succ,s1,List.set_cons_zero]
  refine a7 (dK (k:=z+2+1+1+1+2) (i:=0) (j:=1) (id:=z+2+1+1+1+1) (len:=n) (ob:=⟨152,3,false,[[.aB 1 (cV n (fun q=>if q=labs.length then true else false)) n, .vec (z+2+1+1+1+1) n, .v (.bool (aH (.mk 1 s [])))]]⟩) (row:=[.aB 1 (cV n (fun q=>if q=labs.length then true else false)) n, .vec (z+2+1+1+1+1) n, .v (.bool (aH (.mk 1 s [])))]) (ob2:=⟨4,1,true,cV n (fun q=>if q=labs.length then true else false)⟩)
   (by omega) (by simp only [Yq,g1];rfl) (show 0<3 by decide) rfl rfl (by simp only [Yq,g1];rfl) rfl (js _ _)) (by kernel_rfl) ?_
  simp only [List.set_cons_succ,s1,List.set_cons_zero]
  (revert K;revert K;refine JF hIl g0 g1 s1 ?_)
  have eF:kA (.mk 1 s []) labs.length=fun q=>if q=labs.length then true else false:=by
   funext q
   rw [Bool.eq_iff_iff,iD];simp [kq]
  have eL:fc (.mk 1 s []) labs.length=fun q=>if q=labs.length then true else false:=by
   funext q
   rw [Bool.eq_iff_iff,iG];simp [jz]
  have eO:aZ n (fun p q=>f p q||kz (.mk 1 s []) labs.length p q) n=I:=by
   rw [hI];refine fq fun p q _ _=> ?_
   have:kz (.mk 1 s []) labs.length p q=false:=by rw [<-Bool.not_eq_true,kP];simp [je]
   rw [this,Bool.or_false]
  have e1':(labs++[s]).map encS=labs.map encS++[[.v (.string s)]]:=by simp [encS]
  have e2:aD (.mk 1 s [])=[s]:=by simp [aD]
  have e3:labs.length+[s].length=(labs++[s]).length:=by simp
  have e4:labs.length+1=(labs++[s]).length:=by simp
  rw [eF,eL,eO,e2,e3,e4, <- e1',hI];exact EK (by rw [<-ah n f n, <- hI,hIl];omega) (fun m=>by simp only [AV.wf,aN,aY,Bool.and_self])
end
noncomputable def kO (f:Nat->Nat->Bool) (b:Nat) (l:List Ex) (i p q:Nat):Bool:=f p q||(List.range i).any (fun j=>kz (lF l j) (pe b l j) p q)
theorem MZ (f:Nat->Nat->Bool) (b:Nat) (l:List Ex):kO f b l 0=f:=by funext p q;simp [kO]
theorem Dm (f:Nat->Nat->Bool) (b:Nat) (l:List Ex) (i:Nat):(fun p q=>kO f b l i p q||kz (lF l i) (pe b l i) p q)=kO f b l (i+1):=by
 funext p q
 rw [kO,kO,List.range_succ,List.any_append];simp [ZH]
def pg (labs:List ByteArray) (l:List Ex) (i:Nat):List ByteArray:=labs++aK (l.take i)
theorem Pd (labs:List ByteArray) (l:List Ex):pg labs l 0=labs:=by simp [pg,aK]
theorem Nq (labs:List ByteArray) (l:List Ex) (i:Nat):(pg labs l i).length=pe labs.length l i:=by rw [pg,WX,pe]
theorem uA {labs:List ByteArray} {l:List Ex} {i:Nat} (h:i<l.length):pg labs l i++aD l[i]=pg labs l (i+1):=by
 rw [pg,pg,List.take_succ_eq_append_getElem h,ij,List.append_assoc];simp [aK]
theorem J7 {labs:List ByteArray} {l:List Ex} {i n:Nat} (h:i<l.length) (hn:labs.length+(aK l).length<=n):(pg labs l i).length+(aD l[i]).length<=n:=by
 have e:(aK l).length=(aK (l.take (i+1))).length+(aK (l.drop (i+1))).length:=by rw [<-WX, <- ij,List.take_append_drop]
 have e2:(pg labs l i).length+(aD l[i]).length=(pg labs l (i+1)).length:=by rw [<-WX,uA h]
 rw [e2,pg,WX];omega
noncomputable def GP (n b:Nat) (l:List Ex) (j:Nat):List AV:=[.aB 1 (cV n (kA (lF l j) (pe b l j))) n, .aB 1 (cV n (fc (lF l j) (pe b l j))) n, .v (.bool (aH (lF l j)))]
noncomputable def mc (n b:Nat) (l:List Ex) (i:Nat):List (List AV):=(List.range i).map (GP n b l)
theorem xl (n b:Nat) (l:List Ex) (i:Nat):(mc n b l i).length=i:=by simp [mc]
theorem DF (n b:Nat) (l:List Ex) (i:Nat):mc n b l (i+1)=mc n b l i++[GP n b l i]:=by rw [mc,List.range_succ,List.map_append];rfl
theorem JV {n b:Nat} {l:List Ex} {i j:Nat} (h:j<i):(mc n b l i).getD j []=GP n b l j:=by
 rw [List.getD_eq_getElem?_getD,mc,List.getElem?_map,List.getElem?_range h];rfl
theorem OA (m n b:Nat) (l:List Ex) (j:Nat):aN m (GP n b l j)=true:=by simp only [GP,aN,AV.wf,aY,YY]
theorem Cc (m n b:Nat) (l:List Ex) (i:Nat):bj m (mc n b l i)=true:=bw _ (OA m n b l) _
theorem fL {m:Nat} {y:Ex} {labs:List ByteArray} {n:Nat} {f:Nat->Nat->Bool} {tl tl':List (Option ab)} (h:2 * n+3<=m) (ht:ku m tl tl') :
  ku m (some ⟨120,8,false,[mq 0 y labs.length n]⟩ :: some ⟨9,1,true,labs.map encS⟩ :: some ⟨54,1,true,bc 2 n n⟩ :: (aZ n f n++tl))
   (some ⟨120,8,false,[mq 0 y labs.length n]⟩ :: some ⟨9,1,true,labs.map encS⟩ :: some ⟨54,1,true,bc 2 n n⟩ :: (aZ n f n++tl')):=
 l6 (n:=m) (a:=tl) (b:=tl') (l:=cF 0 y labs n f) (jw h) ht
theorem fM {m:Nat} {a b c d:ab} {ex:List (Option ab)} (ha:bj m a.rows=true) (hb:bj m b.rows=true) (hc:bj m c.rows=true) (hd:bj m d.rows=true) :
  ku m (some a :: some b :: none :: none :: some c :: some d :: ex) [some a,some b,none,none,some c,some d]:=
 ⟨.inr ⟨rfl,fun ob e=>by cases e;exact ha⟩, .inr ⟨rfl,fun ob e=>by cases e;exact hb⟩, .inl rfl, .inl rfl, .inr ⟨rfl,fun ob e=>by cases e;exact hc⟩, .inr ⟨rfl,fun ob e=>by cases e;exact hd⟩,by cases ex<;>exact trivial⟩
theorem nG (n:Nat) (f:Nat->Nat->Bool) (tl:List (Option ab)) (j:Nat):(aZ n f n++tl)[2 * n+j]? = tl[j]? :=Mv (ah _ _ _) tl j
theorem zH (n:Nat) (f:Nat->Nat->Bool) (tl:List (Option ab)):(aZ n f n++tl)[2 * n]? = tl[0]? :=tC (ah _ _ _) tl
theorem nS (n:Nat) (f:Nat->Nat->Bool) (tl:List (Option ab)) (j:Nat) (x:Option ab):(aZ n f n++tl).set (2 * n+j) x=aZ n f n++tl.set j x:=Mw (ah _ _ _) tl j x
theorem zI (n:Nat) (f:Nat->Nat->Bool) (tl:List (Option ab)) (x:Option ab):(aZ n f n++tl).set (2 * n) x=aZ n f n++tl.set 0 x:=tD (ah _ _ _) tl x
theorem aa.SG {F:FuncId} {args:List AV} {r0:AV} {K:AV->List (Option ab)->Prop} {y:Ex} {labs labs':List ByteArray} {n:Nat} {f f':Nat->Nat->Bool} {tl:List (Option ab)}
  (h:da Tryz.prog F (.ptr 0 0 8 0 0 :: args) (cF 0 y labs n f) r0 (cF 0 y labs' n f')) (hwa: ∀m,aN m args=true) (hr: ∀m,r0.wf m=true)
  (k:K r0 (some ⟨120,8,false,[mq 0 y labs'.length n]⟩ :: some ⟨9,1,true,labs'.map encS⟩ :: some ⟨54,1,true,bc 2 n n⟩ :: (aZ n f' n++tl))) :
  aa Tryz.prog F (.ptr 0 0 8 0 0 :: args) (some ⟨120,8,false,[mq 0 y labs.length n]⟩ :: some ⟨9,1,true,labs.map encS⟩ :: some ⟨54,1,true,bc 2 n n⟩ :: (aZ n f n++tl)) K:=by
 have e:(cF 0 y labs n f).length=2 * n+3:=bV _ _ _ _ _;refine aa.sub (o0:=cF 0 y labs n f) (post:=tl) h (by rw [bV,bV]) ?_ (jw (by omega)) (fun ob hb=>jw (by omega) ob hb) (hr _) k;rw [aN,hwa,Bool.and_true,AV.wf,e];exact decide_eq_true (by omega)
theorem dW.SG {F:FuncId} {args:List AV} {r0:AV} {K:AV->List (Option ab)->Prop} {y:Ex} {labs labs':List ByteArray} {n:Nat} {f f':Nat->Nat->Bool} {tl:List (Option ab)}
  (h:da Tryz.prog F (.ptr 0 0 8 0 0 :: args) (cF 0 y labs n f) r0 (cF 0 y labs' n f')) (hwa: ∀m,aN m args=true) (hr: ∀m,r0.wf m=true)
  (k:K r0 (some ⟨120,8,false,[mq 0 y labs'.length n]⟩ :: some ⟨9,1,true,labs'.map encS⟩ :: some ⟨54,1,true,bc 2 n n⟩ :: (aZ n f' n++tl))) :
  dW Tryz.prog F (.ptr 0 0 8 0 0 :: args) (some ⟨120,8,false,[mq 0 y labs.length n]⟩ :: some ⟨9,1,true,labs.map encS⟩ :: some ⟨54,1,true,bc 2 n n⟩ :: (aZ n f n++tl)) K:=by
 have e:(cF 0 y labs n f).length=2 * n+3:=bV _ _ _ _ _;refine dW.sub (o0:=cF 0 y labs n f) (post:=tl) h (by rw [bV,bV]) ?_ (jw (by omega)) (fun ob hb=>jw (by omega) ob hb) (hr _) k;rw [aN,hwa,Bool.and_true,AV.wf,e];exact decide_eq_true (by omega)
theorem M9 {k:Int} {s:ByteArray} {l:List Ex} {b:Nat} (h1:k≠1):oP (k==2) (fun j=>aH (lF l j)) (fun j=>kA (lF l j) (pe b l j)) l.length=kA (.mk k s l) b:=by
 funext q
 rw [Y8,Jp,iD,kq,if_neg h1]
 by_cases h2:k=2
 ·rw [if_pos h2,x4];simp only [h2,beq_self_eq_true,forall_const,iD]
 ·rw [if_neg h2,Ez];simp only [beq_false_of_ne h2,Yk,false_implies,true_and,iD]
theorem Nw {k:Int} {s:ByteArray} {l:List Ex} {b:Nat} (h1:k≠1):oU (k==2) l.length (fun j=>aH (lF l j)) (fun j=>fc (lF l j) (pe b l j)) l.length=fc (.mk k s l) b:=by
 funext q
 rw [Y8,J1,iG,jz,if_neg h1]
 by_cases h2:k=2
 ·rw [if_pos h2,EB];simp only [h2,beq_self_eq_true,forall_const,iG]
 ·rw [if_neg h2,EA];simp only [beq_false_of_ne h2,Yk,false_implies,true_and,iG]
theorem EX {l:List Ex} {b p q:Nat}:(List.range l.length).any (fun j=>kz (lF l j) (pe b l j) p q)=true↔iw l b (p+1) (q+1):=by
 rw [x0];simp only [List.any_eq_true,List.mem_range,kP]
theorem M6 {k:Int} {s:ByteArray} {l:List Ex} {b:Nat} {f:Nat->Nat->Bool} (h1:k≠1) (h4:k≠4) (h5:k≠5) :
  (fun p q=>kO f b l l.length p q||jU (k==2) l.length (fun j=>aH (lF l j)) (fun j=>kA (lF l j) (pe b l j)) (fun j=>fc (lF l j) (pe b l j)) l.length p q)=fun p q=>f p q||kz (.mk k s l) b p q:=by
 funext p q
 rw [kO,ZH]
 congr 1
 rw [Y8,X9,EX,AD,kP,je,if_neg h1]
 by_cases h2:k=2
 ·rw [if_pos h2,Ey,x0];simp only [h2,beq_self_eq_true,true_and,iD,iG]
 ·rw [if_neg h2];simp only [beq_false_of_ne h2,Yk,false_and,or_false,h4,h5,or_self]
theorem Jr {k:Int} {s:ByteArray} {l:List Ex} {b:Nat} {f:Nat->Nat->Bool} (h45:k=4∨k=5) :
  (fun p q=>(kO f b l l.length p q||jU (k==2) l.length (fun j=>aH (lF l j)) (fun j=>kA (lF l j) (pe b l j)) (fun j=>fc (lF l j) (pe b l j)) l.length p q)||(fc (.mk k s l) b p&&kA (.mk k s l) b q))=fun p q=>f p q||kz (.mk k s l) b p q:=by
 have h1:k≠1:=by omega
 have h2:k≠2:=by omega
 funext p q
 rw [kO,ZH,ZH]
 congr 1
 rw [Y8,X9,X9,XK,EX,AD,kP,je,if_neg h1,if_neg h2,iG,iD,jz,if_neg h1,if_neg h2,kq,if_neg h1,if_neg h2];simp only [beq_false_of_ne h2,Yk,false_and,false_or,h45,true_and]
theorem Np {k:Int} {s:ByteArray} {labs:List ByteArray} {l:List Ex} (h1:k≠1):pg labs l l.length=labs++aD (.mk k s l):=by rw [pg,List.take_length,cW h1]
theorem NQ (k:Int) (h1:k≠1) (s:ByteArray) (l:List Ex) (hr:aC (.mk k s l)=true) (hp:(aj (.mk k s l)).length<=1000000) (hz: ∀z,z∈aj (.mk k s l)->z.kids.length<=1000000∧z.label.size<=1000000000000000) (H: ∀x,x∈l->Tz x):Tz (.mk k s l):=by
 intro y labs n f hn hb;have f1:(k==1)=false:=beq_false_of_ne h1;have E:=qQ (.mk k s l) hp hz;rw [dy,hr,Yg] at E;simp only [aA,Ex.kind,Ex.label,Ex.kids] at E ⊢;have hIl:(aZ n f n).length=2 * n:=ah _ _ _;have g1:=fun tl j=>Mv hIl tl j;have g0:=fun tl=>tC hIl tl;have s1:=fun tl j x=>Mw hIl tl j x;have s0:=fun tl x=>tD hIl tl x;refine gF Tryz.func102 Tryz.ntmps102 Tryz.results102 ?_;simp only [cF,bS,mq,Nat.zero_add]
 repeat ((fail_if_success (with_reducible refine bm (i:=2) ?_));first|(with_reducible first|refine aw.up ?_|refine fun (K:AK) hK=> ?_|refine wK ?_|refine wF ?_|refine ae (by decide) ?_|refine ag (by decide) ?_|(refine hK _ ?_;clear hK K))|simp only [go_sem,hIl,g0,g1,s0,s1,WX]|with_reducible refine wA ?_|clear hK K)
 refine EO (n:=n) (em:=aH (.mk k s l)) (ax:= .agg [.v (.int .i64 k), .v (.string s), .aB 3 (l.map aM) l.length]) hn rfl (by decide+kernel) (by kernel_rfl) (by decide+kernel) (by simp) rfl ?_ E ?_
 ·(revert K;exact JK hIl g0 g1 s1)
 ·(revert K;refine JE hIl g0 g1 s1 ?_;intro K hK)
  repeat ((fail_if_success (with_reducible refine bm (i:=8) ?_));first|(with_reducible first|refine aw.up ?_|refine fun (K:AK) hK=> ?_|refine wK ?_|refine wF ?_|refine ae (by decide) ?_|refine ag (by decide) ?_|(refine hK _ ?_;clear hK K))|simp only [go_sem,f1,hIl,g0,g1,s0,s1,WX]|with_reducible refine wA ?_|clear hK K)
  refine a7 (dK (k:=2 * n+2+1+1+1+2) (i:=0) (j:=0) (id:=2 * n+2+1+1+1) (len:=n) (ob:=⟨152,3,false,[[.vec (2 * n+2+1+1+1) n, .vec (2 * n+2+1+1+1+1) n, .v (.bool (aH (.mk k s l)))]]⟩) (row:=[.vec (2 * n+2+1+1+1) n, .vec (2 * n+2+1+1+1+1) n, .v (.bool (aH (.mk k s l)))]) (ob2:=⟨4,1,true,cV n (fun _=>false)⟩)
   (by omega) (by simp only [Yq,g1];rfl) (show 0<3 by decide) rfl rfl (by simp only [Yq,g1];rfl) rfl (js _ _)) (by kernel_rfl) ?_
  simp only [List.set_cons_succ,s1,List.set_cons_zero]
  refine a7 (dK (k:=2 * n+2+1+1+1+2) (i:=0) (j:=1) (id:=2 * n+2+1+1+1+1) (len:=n) (ob:=⟨152,3,false,[[.aB 1 (cV n (fun _=>false)) n, .vec (2 * n+2+1+1+1+1) n, .v (.bool (aH (.mk k s l)))]]⟩) (row:=[.aB 1 (cV n (fun _=>false)) n, .vec (2 * n+2+1+1+1+1) n, .v (.bool (aH (.mk k s l)))]) (ob2:=⟨4,1,true,cV n (fun _=>false)⟩)
   (by omega) (by simp only [Yq,g1];rfl) (show 0<3 by decide) rfl rfl (by simp only [Yq,g1];rfl) rfl (js _ _)) (by kernel_rfl) ?_
  simp only [List.set_cons_succ,s1,List.set_cons_zero]
  (revert K;refine JF hIl g0 g1 s1 ?_;intro K hK)
  clear g1 g0 s1 s0 hIl
  have hl24:l.length<=24:=by
   simp only [aC,XK,decide_eq_true_eq] at hr
   have:=j8 (.mk k s l);simp only [Ex.kids] at this;omega
  have hlab:labs.length+(aK l).length<=n:=by rw [cW h1] at hb;exact hb
  refine nB (ι:=Nat) 7 152 3 rfl (by decide) 62 (fun i=>[(7, .vec (2 * n+5+1+1+1) i),(8, .v (.int .i64 i)),(9, .undef)]) (fun i=>some ⟨120,8,false,[mq 0 y (pg labs l i).length n]⟩ :: some ⟨9,1,true,(pg labs l i).map encS⟩ :: some ⟨54,1,true,bc 2 n n⟩ :: (aZ n (kO f labs.length l i) n++[some ⟨25,3,false,[[.v (.int .i64 k), .v (.string s), .aB 3 (l.map aM) l.length]]⟩,some ⟨152,3,false,[[.v (.slice none 0 0), .v (.slice none 0 0), .v (.bool false)]]⟩,none,none,some ⟨152,3,false,[[.aB 1 (cV n (fun _=>false)) n, .aB 1 (cV n (fun _=>false)) n, .v (.bool (aH (.mk k s l)))]]⟩,some ⟨152,3,true,mc n labs.length l i⟩])) (fun i=>l.length - i) (fun i=>i<=l.length) 0 (by omega) ?_ ?_
  ·refine ai ?_ ?_ ?_
   ·simp only [WY,WX,ah,WS];simp only [go_sem,dv,true_or,or_true,true_and,and_true,false_or,XK,decide_eq_true_eq,AV.v.injEq,Value.int.injEq];omega
   ·simp only [Pd,MZ,List.cons_append,List.append_assoc];exact fL (by simp only [WY,WX,ah,WS];omega) (fM (by simp only [bj,aN,AV.wf,br,YY]) rfl (by simp only [bj,aN,AV.wf,aY,YY]) rfl)
   ·simp only [WY,WX,ah,WS];omega
  ·intro i hi K hK
   (revert K;revert K;refine Ds ?_;intro K hK K hK K hK)
   refine bD.part (fun h=> ?_) (fun h=> ?_)
   ·have hlt:i<l.length:=by replace h:=bG h;omega
    have eW:=ak (k:=i) (by omega);have eG:=getD_map aM l i [] hlt;have HX:=H l[i] (List.getElem_mem hlt) y (pg labs l i) n (kO f labs.length l i) hn (J7 hlt hlab);rw [Nq,uA hlt, <- JY hlt,Dm] at HX;have hkr:=DF n labs.length l i;simp only [GP] at hkr;rw [JY hlt] at HX hkr;simp only [aA] at HX eG
    repeat (first|(with_reducible first|refine aw.up ?_|refine fun (K:AK) hK=> ?_|refine wE ?_|refine wK ?_|refine wF ?_|refine ae (by decide) ?_|refine ag (by decide) ?_|(refine hK _ ?_;clear hK K))|simp only [go_sem,eG,nG,zH,nS,zI,ah,WX]|with_reducible refine wA ?_|clear hK K)
    refine aa.SG HX (fun m=>by simp only [aN,AV.wf,br,YY]) (fun m=>by simp only [AV.wf,aN,aY,YY]) ?_
    repeat (first|(with_reducible first|refine aw.up ?_|refine fun (K:AK) hK=> ?_|refine wE ?_|refine wK ?_|refine wF ?_|refine ae (by decide) ?_|refine ag (by decide) ?_|(refine hK _ ?_;clear hK K))|simp only [go_sem,eW,nG,zH,nS,zI,ah,WX,xl]|with_reducible refine wA ?_|clear hK K)
    rw [<-hkr]
    refine az.mk (i+1) (by omega) (by omega) (ai ?_ ?_ ?_)
    ·simp only [WY,WX,ah,WS];simp only [go_sem,dv,true_or,or_true,true_and,and_true,false_or,XK,decide_eq_true_eq,AV.v.injEq,Value.int.injEq];omega
    ·exact fL (by simp only [WY,WX,ah,WS];omega) (fM (by simp only [bj,aN,AV.wf,br,YY]) rfl (by simp only [bj,aN,AV.wf,aY,YY]) (Cc _ _ _ _ _))
    ·simp only [WY,WX,ah,WS];omega
   ·have hie:i=l.length:=by replace h:=bG h;omega
    simp only [hie];have hKR: ∀j,j<l.length->(mc n labs.length l l.length).getD j []=[.aB 1 (cV n ((fun j=>kA (lF l j) (pe labs.length l j)) j)) n, .aB 1 (cV n ((fun j=>fc (lF l j) (pe labs.length l j)) j)) n, .v (.bool ((fun j=>aH (lF l j)) j))]:=fun j hj=>JV hj;obtain ⟨F,hF⟩: ∃F:Nat->Nat->Bool,F=fun j=>kA (lF l j) (pe labs.length l j):=⟨_,rfl⟩;obtain ⟨L,hL⟩: ∃L:Nat->Nat->Bool,L=fun j=>fc (lF l j) (pe labs.length l j):=⟨_,rfl⟩;obtain ⟨Em,hEm⟩: ∃Em:Nat->Bool,Em=fun j=>aH (lF l j):=⟨_,rfl⟩;rw [<-hF, <- hL, <- hEm] at hKR;have hKl:=xl n labs.length l l.length;have hwK: ∀m,bj m (mc n labs.length l l.length)=true:=fun m=>Cc m _ _ _ _;obtain ⟨KR,hKe⟩: ∃KR,KR=mc n labs.length l l.length:=⟨_,rfl⟩;rw [<-hKe] at hKR hKl hwK ⊢;obtain ⟨fa,hfa⟩: ∃fa,fa=kO f labs.length l l.length:=⟨_,rfl⟩;rw [<-hfa];obtain ⟨sq,hsq⟩: ∃sq,sq=(k==2):=⟨_,rfl⟩
    have hsn:(k !=2) = !sq:=by rw [hsq];rfl
    have e0:(fun _=>false)=oP sq Em F 0:=by funext q;simp [oP]
    have e0':(fun _=>false)=oU sq l.length Em L 0:=by funext q;simp [oU]
    have ef0:fa=fun p q=>fa p q||jU sq l.length Em F L 0 p q:=by funext p q;simp [jU]
    ((iterate 3 revert K);refine qX hKl ?_;intro K hK)
    refine aV (ι:=Nat) 80 (fun i=>[(10, .v (.int .i64 i)),(11, .undef),(12, .undef),(13, .undef),(14, .undef),(15, .undef),(16, .undef)]) (fun i=>some ⟨120,8,false,[mq 0 y (pg labs l l.length).length n]⟩ :: some ⟨9,1,true,(pg labs l l.length).map encS⟩ :: some ⟨54,1,true,bc 2 n n⟩ :: (aZ n (fun p q=>fa p q||jU sq l.length Em F L i p q) n++[some ⟨25,3,false,[[.v (.int .i64 k), .v (.string s), .aB 3 (l.map aM) l.length]]⟩,some ⟨152,3,false,[[.v (.slice none 0 0), .v (.slice none 0 0), .v (.bool false)]]⟩,none,none,some ⟨152,3,false,[[.aB 1 (cV n (oP sq Em F i)) n, .aB 1 (cV n (oU sq l.length Em L i)) n, .v (.bool (aH (.mk k s l)))]]⟩,some ⟨152,3,true,KR⟩])) (fun i=>l.length - i) (fun i=>i<=l.length) 0 (by omega) ?_ ?_
    ·simp only [<-e0, <- e0', <- ef0]
     refine ai ?_ ?_ ?_
     ·simp only [WY,WX,ah,WS];simp only [go_sem,dv,true_or,or_true,true_and,and_true,false_or,XK,decide_eq_true_eq,AV.v.injEq,Value.int.injEq,Value.bool.injEq];omega
     ·exact fL (by simp only [WY,WX,ah,WS];omega) (fM (by simp only [bj,aN,AV.wf,br,YY]) rfl (by simp only [bj,aN,AV.wf,aY,YY]) (hwK _))
     ·simp only [WY,WX,ah,WS];omega
    ·intro i hi K hK
     (revert K;revert K;refine qX hKl ?_;intro K hK K hK K hK)
     refine bD.part (fun h=> ?_) (fun h=> ?_)
     ·have hlt:i<l.length:=by replace h:=bG h;omega
      have eW:=ak (k:=i) (by omega);have eKi:=hKR i hlt
      ((iterate 3 revert K);refine qX hKl ?_;iterate 4 intro K hK)
      refine bf (ι:=Nat) 86 (fun j=>[(11, .v (.bool (qK sq Em i j))),(13, .v (.int .i64 j))]) (fun j=>i - j) (fun j=>j<=i) 0 (by omega) ?_ ?_
      ·have e3:qK sq Em i 0=true:=by simp [qK]
       rw [e3]
       refine ai ?_ ?_ ?_
       ·simp only [WY,WX,ah,WS];simp only [go_sem,dv,true_or,or_true,true_and,and_true,false_or,XK,decide_eq_true_eq,AV.v.injEq,Value.int.injEq,Value.bool.injEq];omega
       ·exact fL (by simp only [WY,WX,ah,WS];omega) (fM (by simp only [bj,aN,AV.wf,br,YY]) rfl (by simp only [bj,aN,AV.wf,aY,YY]) (hwK _))
       ·simp only [WY,WX,ah,WS];omega
      ·intro j hj K hK
       ((iterate 5 revert K);refine qX hKl ?_;iterate 6 intro K hK)
       refine bD.part (fun hc=> ?_) (fun hc=> ?_)
       ·have hji:j<i:=by replace hc:=bG hc;omega
        have eV:=ak (k:=j) (by omega);have eKj:=hKR j (by omega);have eA:=FZ sq Em i j
        rcases YF (qK sq Em i j) with ha|ha
        rotate_left 1
        ·rw [ha,Yt] at eA
         ((iterate 6 revert K);refine yI ha eV ?_)
         refine az.mk (j+1) (by omega) (by omega) ?_;rw [eA]
         refine ai ?_ ?_ ?_
         ·simp only [WY,WX,ah,WS];simp only [go_sem,dv,true_or,or_true,true_and,and_true,false_or,XK,decide_eq_true_eq,AV.v.injEq,Value.int.injEq,Value.bool.injEq];omega
         ·exact fL (by simp only [WY,WX,ah,WS];omega) (fM (by simp only [bj,aN,AV.wf,br,YY]) rfl (by simp only [bj,aN,AV.wf,aY,YY]) (hwK _))
         ·simp only [WY,WX,ah,WS];omega
        ·rw [ha,Yg] at eA
         rcases YF sq with hs|hs
         ·rw [hs] at hsn;rw [show (!sq||Em j)=Em j by rw [hs];rfl] at eA;simp only [Bool.not_true] at hsn
          repeat (first|(with_reducible first|refine aw.up ?_|refine fun (K:AK) hK=> ?_|refine wE ?_|refine wK ?_|refine wF ?_|refine ae (by decide) ?_|refine ag (by decide) ?_|(refine hK _ ?_;clear hK K))|simp only [go_sem,nG,zH,nS,zI,ah,WX,ha,hsn,hKl,eKj,eV,Go.undef]|with_reducible refine wA ?_|clear hK K)
          refine az.mk (j+1) (by omega) (by omega) ?_;rw [eA]
          refine ai ?_ ?_ ?_
          ·simp only [WY,WX,ah,WS];simp only [go_sem,dv,true_or,or_true,true_and,and_true,false_or,XK,decide_eq_true_eq,AV.v.injEq,Value.int.injEq,Value.bool.injEq];omega
          ·exact fL (by simp only [WY,WX,ah,WS];omega) (fM (by simp only [bj,aN,AV.wf,br,YY]) rfl (by simp only [bj,aN,AV.wf,aY,YY]) (hwK _))
          ·simp only [WY,WX,ah,WS];omega
         ·rw [hs] at hsn;rw [show (!sq||Em j)=true by rw [hs];rfl] at eA;simp only [Bool.not_false] at hsn
          ((iterate 6 revert K);refine JA ha hsn hKl eKj eV ?_)
          refine az.mk (j+1) (by omega) (by omega) ?_;rw [eA]
          refine ai ?_ ?_ ?_
          ·simp only [WY,WX,ah,WS];simp only [go_sem,dv,true_or,or_true,true_and,and_true,false_or,XK,decide_eq_true_eq,AV.v.injEq,Value.int.injEq,Value.bool.injEq];omega
          ·exact fL (by simp only [WY,WX,ah,WS];omega) (fM (by simp only [bj,aN,AV.wf,br,YY]) rfl (by simp only [bj,aN,AV.wf,aY,YY]) (hwK _))
          ·simp only [WY,WX,ah,WS];omega
       ·have hje:j=i:=by replace hc:=bG hc;omega
        simp only [hje]
        ((iterate 6 revert K);refine qX eW ?_;iterate 4 intro K hK)
        refine bf (ι:=Nat) 106 (fun j=>[(12, .v (.bool (qO sq Em i j))),(14, .v (.int .i64 j))]) (fun j=>l.length - j) (fun j=>i+1<=j∧j<=l.length) (i+1) ⟨by omega,by omega⟩ ?_ ?_
        ·rw [I6]
         refine ai ?_ ?_ ?_
         ·simp only [WY,WX,ah,WS];simp only [go_sem,dv,true_or,or_true,true_and,and_true,false_or,XK,decide_eq_true_eq,AV.v.injEq,Value.int.injEq,Value.bool.injEq];omega
         ·exact fL (by simp only [WY,WX,ah,WS];omega) (fM (by simp only [bj,aN,AV.wf,br,YY]) rfl (by simp only [bj,aN,AV.wf,aY,YY]) (hwK _))
         ·simp only [WY,WX,ah,WS];omega
        ·rintro j ⟨hj1,hj2⟩ K hK
         ((iterate 5 revert K);refine qX hKl ?_;iterate 6 intro K hK)
         refine bD.part (fun hc=> ?_) (fun hc=> ?_)
         ·have hji:j<l.length:=by replace hc:=bG hc;omega
          have eV:=ak (k:=j) (by omega);have eKj:=hKR j (by omega);have eA:=Gh sq Em (i:=i) (k:=j) (by omega)
          rcases YF (qO sq Em i j) with ha|ha
          rotate_left 1
          ·rw [ha,Yt] at eA
           ((iterate 6 revert K);refine yI ha eV ?_)
           refine az.mk (j+1) (by omega) (by omega) ?_;rw [eA]
           refine ai ?_ ?_ ?_
           ·simp only [WY,WX,ah,WS];simp only [go_sem,dv,true_or,or_true,true_and,and_true,false_or,XK,decide_eq_true_eq,AV.v.injEq,Value.int.injEq,Value.bool.injEq];omega
           ·exact fL (by simp only [WY,WX,ah,WS];omega) (fM (by simp only [bj,aN,AV.wf,br,YY]) rfl (by simp only [bj,aN,AV.wf,aY,YY]) (hwK _))
           ·simp only [WY,WX,ah,WS];omega
          ·rw [ha,Yg] at eA
           rcases YF sq with hs|hs
           ·rw [hs] at hsn;rw [show (!sq||Em j)=Em j by rw [hs];rfl] at eA;simp only [Bool.not_true] at hsn
            repeat (first|(with_reducible first|refine aw.up ?_|refine fun (K:AK) hK=> ?_|refine wE ?_|refine wK ?_|refine wF ?_|refine ae (by decide) ?_|refine ag (by decide) ?_|(refine hK _ ?_;clear hK K))|simp only [go_sem,nG,zH,nS,zI,ah,WX,ha,hsn,hKl,eKj,eV,Go.undef]|with_reducible refine wA ?_|clear hK K)
            refine az.mk (j+1) (by omega) (by omega) ?_;rw [eA]
            refine ai ?_ ?_ ?_
            ·simp only [WY,WX,ah,WS];simp only [go_sem,dv,true_or,or_true,true_and,and_true,false_or,XK,decide_eq_true_eq,AV.v.injEq,Value.int.injEq,Value.bool.injEq];omega
            ·exact fL (by simp only [WY,WX,ah,WS];omega) (fM (by simp only [bj,aN,AV.wf,br,YY]) rfl (by simp only [bj,aN,AV.wf,aY,YY]) (hwK _))
            ·simp only [WY,WX,ah,WS];omega
           ·rw [hs] at hsn;rw [show (!sq||Em j)=true by rw [hs];rfl] at eA;simp only [Bool.not_false] at hsn
            ((iterate 6 revert K);refine JA ha hsn hKl eKj eV ?_)
            refine az.mk (j+1) (by omega) (by omega) ?_;rw [eA]
            refine ai ?_ ?_ ?_
            ·simp only [WY,WX,ah,WS];simp only [go_sem,dv,true_or,or_true,true_and,and_true,false_or,XK,decide_eq_true_eq,AV.v.injEq,Value.int.injEq,Value.bool.injEq];omega
            ·exact fL (by simp only [WY,WX,ah,WS];omega) (fM (by simp only [bj,aN,AV.wf,br,YY]) rfl (by simp only [bj,aN,AV.wf,aY,YY]) (hwK _))
            ·simp only [WY,WX,ah,WS];omega
         ·have hje2:j=l.length:=by replace hc:=bG hc;omega
          simp only [hje2];have C1:=tQ n (oP sq Em F i) (F i) hn;have C2:=tQ n (oU sq l.length Em L i) (L i) hn
          have eF1:oP sq Em F (i+1)=fun q=>oP sq Em F i q||(qK sq Em i i&&F i q):=by funext q;exact Gw sq Em F i q
          have eL1:oU sq l.length Em L (i+1)=fun q=>oU sq l.length Em L i q||(qO sq Em i l.length&&L i q):=by funext q;exact GV sq l.length Em L i q
          have eg0:(fun p q=>(fa p q||jU sq l.length Em F L i p q)||ml sq Em F L i (i+1) p q)=fun p q=>fa p q||jU sq l.length Em F L i p q:=by funext p q;rw [Kd,Bool.or_false]
          have eX: ∀j,i<j->j<=l.length->(j=l.length∨nX sq Em i j=false)->(fun p q=>(fa p q||jU sq l.length Em F L i p q)||ml sq Em F L i j p q)=fun p q=>fa p q||jU sq l.length Em F L (i+1) p q:=fun j h1 h2 h3=>by
           funext p q
           rw [GA, <- ZH]
           rcases h3 with e|e
           ·rw [e]
           ·rw [Nt sq Em F L h1 e h2]
          have hbs:(k==2)=nX sq Em i (i+1):=by rw [I9];exact hsq.symm
          rcases YF (qK sq Em i i) with hA|hA<;>rcases YF (qO sq Em i l.length) with hB|hB
          all_goals
           simp only [hA,hB,Yg,Yt,Bool.or_false] at eF1 eL1
           repeat (first|(with_reducible first|refine aw.up ?_|refine fun (K:AK) hK=> ?_|refine wE ?_|refine wK ?_|refine wF ?_|refine ae (by decide) ?_|refine ag (by decide) ?_|(refine hK _ ?_;clear hK K))|simp only [go_sem,nG,zH,nS,zI,ah,WX,hA,hB,hKl,eKi]|with_reducible refine wA ?_|clear hK K)
           (try ((first|(refine aE.one C1 ?_)|(refine aE.one C2 ?_));repeat (first|(with_reducible first|refine aw.up ?_|refine fun (K:AK) hK=> ?_|refine wE ?_|refine wK ?_|refine wF ?_|refine ae (by decide) ?_|refine ag (by decide) ?_|(refine hK _ ?_;clear hK K))|simp only [go_sem,nG,zH,nS,zI,ah,WX,hA,hB,hKl,eKi,eW]|with_reducible refine wA ?_|clear hK K)))
           (try ((refine aE.one C2 ?_);((iterate 5 revert K);refine P4 hA hB hKl eKi eW ?_;intro K hK K hK K hK)))
           refine aV (ι:=Nat) 150 (fun j=>[(15, .v (.bool (nX sq Em i j))),(16, .v (.int .i64 j))]) (fun j=>some ⟨120,8,false,[mq 0 y (pg labs l l.length).length n]⟩ :: some ⟨9,1,true,(pg labs l l.length).map encS⟩ :: some ⟨54,1,true,bc 2 n n⟩ :: (aZ n (fun p q=>(fa p q||jU sq l.length Em F L i p q)||ml sq Em F L i j p q) n++[some ⟨25,3,false,[[.v (.int .i64 k), .v (.string s), .aB 3 (l.map aM) l.length]]⟩,some ⟨152,3,false,[[.v (.slice none 0 0), .v (.slice none 0 0), .v (.bool false)]]⟩,none,none,some ⟨152,3,false,[[.aB 1 (cV n (oP sq Em F (i+1))) n, .aB 1 (cV n (oU sq l.length Em L (i+1))) n, .v (.bool (aH (.mk k s l)))]]⟩,some ⟨152,3,true,KR⟩])) (fun j=>l.length - j) (fun j=>i+1<=j∧j<=l.length) (i+1) ⟨by omega,by omega⟩ ?_ ?_
           ·rw [eg0,eF1,eL1, <- hbs]
            refine ai ?_ ?_ ?_
            ·simp only [WY,WX,ah,WS];simp only [go_sem,dv,true_or,or_true,true_and,and_true,false_or,XK,decide_eq_true_eq,AV.v.injEq,Value.int.injEq,Value.bool.injEq];omega
            ·exact fL (by simp only [WY,WX,ah,WS];omega) (fM (by simp only [bj,aN,AV.wf,br,YY]) rfl (by simp only [bj,aN,AV.wf,aY,YY]) (hwK _))
            ·simp only [WY,WX,ah,WS];omega
           ·rintro j ⟨hj1,hj2⟩ K hK
            rcases YF (decide ((j:Int)<(l.length:Int))) with hc|hc
            ·have hji:j<l.length:=by replace hc:=bG hc;omega
             rcases YF (nX sq Em i j) with hbt|hbt
             ·have eV:=ak (k:=j) (by omega);have eKj:=hKR j hji;have eBt:=wQ sq Em (i:=i) (k:=j) (by omega);rw [hbt,Yg] at eBt
              have eg:(fun p q=>((fa p q||jU sq l.length Em F L i p q)||ml sq Em F L i j p q)||(L i p&&F j q))=fun p q=>(fa p q||jU sq l.length Em F L i p q)||ml sq Em F L i (j+1) p q:=by
               funext p q;rw [xq sq Em F L (by omega),hbt,Yg,ZH _ (ml sq Em F L i j p q)]
              have LK:=Bc y (pg labs l l.length) n hn (fun p q=>(fa p q||jU sq l.length Em F L i p q)||ml sq Em F L i j p q) (L i) (F j);rw [eg] at LK
              repeat ((fail_if_success (with_reducible refine bm (i:=34) ?_));first|(with_reducible first|refine aw.up ?_|refine fun (K:AK) hK=> ?_|refine wK ?_|refine wF ?_|refine ae (by decide) ?_|refine ag (by decide) ?_|(refine hK _ ?_;clear hK K))|simp only [go_sem,nG,zH,nS,zI,ah,WX,hc,hbt,hKl,Go.undef]|with_reducible refine wA ?_|clear hK K)
              refine bA [11] [] (by decide+kernel) (by kernel_rfl) ?_
              repeat (first|(with_reducible first|refine aw.up ?_|refine fun (K:AK) hK=> ?_|refine wK ?_|refine wF ?_|refine ae (by decide) ?_|refine ag (by decide) ?_|(refine hK _ ?_;clear hK K))|simp only [go_sem,nG,zH,nS,zI,ah,WX,hc,hbt,hKl,eKi,eKj,Go.undef]|with_reducible refine wA ?_|clear hK K)
              refine dW.SG LK (fun m=>by simp only [aN,AV.wf,aY,YY]) (fun m=>rfl) ?_
              repeat (first|(with_reducible first|refine aw.up ?_|refine fun (K:AK) hK=> ?_|refine wE ?_|refine wK ?_|refine wF ?_|refine ae (by decide) ?_|refine ag (by decide) ?_|(refine hK _ ?_;clear hK K))|simp only [go_sem,nG,zH,nS,zI,ah,WX,hKl,eKj,eV,Go.undef]|with_reducible refine wA ?_|clear hK K)
              rw [<-eBt];refine az.mk (j+1) ⟨by omega,by omega⟩ (by omega) ?_
              refine ai ?_ ?_ ?_
              ·simp only [WY,WX,ah,WS];simp only [go_sem,dv,true_or,or_true,true_and,and_true,false_or,XK,decide_eq_true_eq,AV.v.injEq,Value.int.injEq,Value.bool.injEq];omega
              ·exact fL (by simp only [WY,WX,ah,WS];omega) (fM (by simp only [bj,aN,AV.wf,br,YY]) rfl (by simp only [bj,aN,AV.wf,aY,YY]) (hwK _))
              ·simp only [WY,WX,ah,WS];omega
             ·repeat (first|(with_reducible first|refine aw.up ?_|refine fun (K:AK) hK=> ?_|refine wE ?_|refine wK ?_|refine wF ?_|refine ae (by decide) ?_|refine ag (by decide) ?_|(refine hK _ ?_;clear hK K))|simp only [go_sem,nG,zH,nS,zI,ah,WX,hc,hbt,hKl,Go.undef,eW]|with_reducible refine wA ?_|clear hK K)
              rw [eX j (by omega) hj2 (.inr hbt)];refine az.mk (i+1) (by omega) (by omega) ?_
              refine ai ?_ ?_ ?_
              ·simp only [WY,WX,ah,WS];simp only [go_sem,dv,true_or,or_true,true_and,and_true,false_or,XK,decide_eq_true_eq,AV.v.injEq,Value.int.injEq,Value.bool.injEq];omega
              ·exact fL (by simp only [WY,WX,ah,WS];omega) (fM (by simp only [bj,aN,AV.wf,br,YY]) rfl (by simp only [bj,aN,AV.wf,aY,YY]) (hwK _))
              ·simp only [WY,WX,ah,WS];omega
            ·repeat (first|(with_reducible first|refine aw.up ?_|refine fun (K:AK) hK=> ?_|refine wE ?_|refine wK ?_|refine wF ?_|refine ae (by decide) ?_|refine ag (by decide) ?_|(refine hK _ ?_;clear hK K))|simp only [go_sem,nG,zH,nS,zI,ah,WX,hc,hKl,Go.undef,eW]|with_reducible refine wA ?_|clear hK K)
             rw [eX j (by omega) hj2 (.inl (by replace hc:=bG hc;omega))];refine az.mk (i+1) (by omega) (by omega) ?_
             refine ai ?_ ?_ ?_
             ·simp only [WY,WX,ah,WS];simp only [go_sem,dv,true_or,or_true,true_and,and_true,false_or,XK,decide_eq_true_eq,AV.v.injEq,Value.int.injEq,Value.bool.injEq];omega
             ·exact fL (by simp only [WY,WX,ah,WS];omega) (fM (by simp only [bj,aN,AV.wf,br,YY]) rfl (by simp only [bj,aN,AV.wf,aY,YY]) (hwK _))
             ·simp only [WY,WX,ah,WS];omega
     ·have hie2:i=l.length:=by replace h:=bG h;omega
      simp only [hie2]
      have hFI:oP sq Em F l.length=kA (.mk k s l) labs.length:=by rw [hsq,hEm,hF];exact M9 h1
      have hLI:oU sq l.length Em L l.length=fc (.mk k s l) labs.length:=by rw [hsq,hEm,hL];exact Nw h1
      rw [hFI,hLI];have elb:pg labs l l.length=labs++aD (.mk k s l):=Np h1
      have e3:labs.length+(aD (.mk k s l)).length=(pg labs l l.length).length:=by rw [elb,WX]
      by_cases h45:k=4∨k=5
      ·have hM:(fun p q=>(fa p q||jU sq l.length Em F L l.length p q)||(fc (.mk k s l) labs.length p&&kA (.mk k s l) labs.length q))=fun p q=>f p q||kz (.mk k s l) labs.length p q:=by
        rw [hfa,hsq,hEm,hF,hL];exact Jr h45
       have LK:=Bc y (pg labs l l.length) n hn (fun p q=>fa p q||jU sq l.length Em F L l.length p q) (fc (.mk k s l) labs.length) (kA (.mk k s l) labs.length);rw [hM] at LK
       rcases h45 with h4|h5
       ·have c4:(k==4)=true:=by rw [h4];rfl
        ((iterate 3 revert K);refine P5 c4 ?_;intro K hK K hK)
        refine aa.SG LK (fun m=>by simp only [aN,AV.wf,aY,YY]) (fun m=>rfl) ?_
        (revert K;revert K;refine Ds ?_)
        rw [e3, <- elb];exact EK (by omega) (fun m=>by simp only [AV.wf,aN,aY,YY])
       ·have c4:(k==4)=false:=by rw [h5];rfl
        have c5:(k==5)=true:=by rw [h5];rfl
        ((iterate 3 revert K);refine yI c4 c5 ?_;intro K hK K hK)
        refine aa.SG LK (fun m=>by simp only [aN,AV.wf,aY,YY]) (fun m=>rfl) ?_
        (revert K;revert K;refine Ds ?_)
        rw [e3, <- elb];exact EK (by omega) (fun m=>by simp only [AV.wf,aN,aY,YY])
      ·have c4:(k==4)=false:=beq_false_of_ne (fun e=>h45 (.inl e));have c5:(k==5)=false:=beq_false_of_ne (fun e=>h45 (.inr e))
       have hM:(fun p q=>fa p q||jU sq l.length Em F L l.length p q)=fun p q=>f p q||kz (.mk k s l) labs.length p q:=by
        rw [hfa,hsq,hEm,hF,hL];exact M6 h1 (fun e=>h45 (.inl e)) (fun e=>h45 (.inr e))
       rw [hM]
       ((iterate 3 revert K);refine yI c4 c5 ?_)
       rw [e3, <- elb];exact EK (by omega) (fun m=>by simp only [AV.wf,aN,aY,YY])
theorem Qt (x:Ex) (hr:aC x=true) (hp:(aj x).length<=1000000) (hz: ∀z,z∈aj x->z.kids.length<=1000000∧z.label.size<=1000000000000000):Tz x:=by
 induction x using Ex.ind with
 | h k s l ih=>
  have hsub: ∀x,x∈l-> ∀z,z∈aj x->z∈aj (.mk k s l):=fun x hx z hz=>by
   rw [aj,bo];exact List.mem_cons_of_mem _ (List.mem_flatMap.2 ⟨x,hx,hz⟩)
  by_cases h1:k=1
  ·subst h1
   have hl:l=[]:=by
    have:=(dN hr).1
    cases this with
    | lab s=>rfl
    | many k s l h _ _=>omega
    | one k s x h _=>omega
   subst hl;exact Qv s hr hz
  ·refine NQ k h1 s l hr hp hz fun x hx=>ih x hx (lW hr x hx) ?_ (fun z hzz=>hz z (hsub x hx z hzz))
   have:=fW (.mk k s l) x (hsub x hx x (by obtain ⟨k',s',l'⟩:=x;rw [aj];exact List.mem_cons_self))
   omega
theorem qf (p k N:Nat): ∀m,cG (fun j=>p+j) (bc k N m)=bc (p+k) N m
 | 0=>rfl
 | m+1=>by
  rw [dA,dA,rB,qf p k N m];simp only [bP,AV.bg,kC];rw [show p+(k+1+2 * m)=p+k+1+2 * m by omega]
theorem xJ (g:Nat->Nat) (N:Nat) (f:Nat->Nat->Bool): ∀m,(aZ N f m).map (Option.map (ab.bg g))=aZ N f m
 | 0=>rfl
 | m+1=>by
  rw [ec,List.map_append,xJ g N f m];simp only [List.map_cons,List.map_nil,jO,Option.map_some,Option.map_none,ab.bg,ki]
theorem BD (x:Ex) (labs:List ByteArray) (n:Nat) (f:Nat->Nat->Bool):(cF 0 x labs n f).map (Option.map (ab.bg (fun j=>1+j)))=cF 1 x labs n f:=by
 rw [cF,cF,bS,bS];simp only [List.map_cons,xJ,Option.map_some,ab.bg,qf,rA,cG,mq,bP,AV.bg,dJ _ _ (br 0 x.kids)]
theorem aa.UI {F:FuncId} {args:List AV} {r0:AV} {K:AV->List (Option ab)->Prop} {y:Ex} {labs labs':List ByteArray} {n:Nat} {f f':Nat->Nat->Bool} {xb:ab}
  (h:da Tryz.prog F (.ptr 0 0 8 0 0 :: args) (cF 0 y labs n f) r0 (cF 0 y labs' n f')) (hwa: ∀m,aN m args=true) (hr: ∀m,r0.wf m=true)
  (k:K r0 (some xb :: cF 1 y labs' n f')):aa Tryz.prog F (.ptr 1 0 8 0 0 :: args) (some xb :: cF 1 y labs n f) K:=by
 have hf: ∀k,k<0->(fun j=>1+j) k=k:=fun k h=>by omega
 have q:aa Tryz.prog F (bP (fun j=>[some xb].length+j) (.ptr 0 0 8 0 0 :: args)) ([some xb]++(cF 0 y labs n f).map (Option.map (ab.bg (fun j=>[some xb].length+j)))++[]) K:=by
  refine aa.UN (o1:=cF 0 y labs' n f') (pre:=[some xb]) (post:=[]) h (by rw [bV,bV]) ?_ (jw (by rw [bV];omega)) (jw (by rw [bV];omega)) (hr _) ?_
  ·rw [aN,hwa,Bool.and_true,AV.wf];exact decide_eq_true (by rw [bV];omega)
  ·simp only [WY,WS,Nat.zero_add,List.append_nil,BD,rC hf r0 (hr 0),Y1,YR];exact k
 simp only [WY,WS,Nat.zero_add,List.append_nil,BD,bP,iv hf args (hwa 0),AV.bg,Y1,YR,Nat.add_zero] at q;exact q
noncomputable def vc (x:Ex):List AV:=[.aB 1 ((aD x).map encS) (aD x).length, .aB 1 (cV (aD x).length (kA x 0)) (aD x).length, .aB 1 (cV (aD x).length (fc x 0)) (aD x).length, .aB 1 (kE (aD x).length (kz x 0)) (aD x).length, .v (.bool (dy x)), .v (.int .i64 x.kind), .v (.string x.label), .aB 3 (x.kids.map aM) x.kids.length]
theorem jx (n:Nat) (x:Ex):aN n (vc x)=true:=by
 simp only [vc,aN,AV.wf,aO,aY,fg,br,YY]
theorem NO (x:Ex) (h1:(aj x).length<=1000000) (hz: ∀z,z∈aj x->z.kids.length<=1000000∧z.label.size<=1000000000000000) :
  aq Tryz.prog 69 [.agg (aM x)] (if aC x then .cI [.vp (vc x), .v (.int .i64 0)] else .cI [.v (.pointer none), .v (.int .i64 2)]):=by
 have R:=nP x h1 hz;have E:=qQ x h1 hz
 cases hr:aC x
 ·rw [hr] at R;simp only [Bool.false_eq_true,if_false];simp only [aA] at *;refine gE Tryz.func69 Tryz.ntmps69 Tryz.results69 ?_
  (refine mM ?_;intro K hK K hK K hK)
  refine aa.one R ?_
  ((iterate 3 revert K);refine mM ?_)
  (refine gd.of 40 rfl ?_;simp only [go_sem])
 ·rw [hr] at R;simp only [if_true];have hnl:(aD x).length<=24:=ri hr;have M:=Kh x hr;have O:=Qt x hr h1 hz x [] (aD x).length (fun _ _=>false) (by omega) (by simp);simp only [YR,WS,Bool.false_or] at O
  have hF:(AV.cI [.vp (vc x), .v (.int .i64 0)]).wf 0=true:=by simp only [AV.wf,aN,jx,YY]
  have hA:aN 0 [AV.agg (aM x)]=true:=by simp only [AV.wf,aN,dL,YY]
  generalize hrv:AV.cI [.vp (vc x), .v (.int .i64 0)]=rv at hF;simp only [aA] at R E M O hA ⊢
  (refine aq.lC Tryz.func69 rfl (by kernel_rfl) (by kernel_rfl) rfl hA hF ?_;simp only [Tryz.ntmps69,Tryz.results69,WY,WS,Nat.reduceAdd,Nat.reduceSub,List.replicate_succ,List.replicate_zero,Y1,YR])
  (refine mM ?_;intro K hK K hK K hK)
  refine aa.one R ?_
  repeat ((fail_if_success (with_reducible refine bm (i:=3) ?_));first|(with_reducible first|refine aw.up ?_|refine fun (K:AK) hK=> ?_|refine ae (by decide) ?_|refine ag (by decide) ?_|refine gn (by decide) ?_|(refine hK _ ?_;clear hK K))|simp only [go_sem]|with_reducible refine wA ?_|(refine gp rfl rfl ?_)|(refine ek rfl ?_)|clear hK K)
  refine bA [4] [] (by decide+kernel) (by kernel_rfl) ?_
  (revert K;refine mM ?_;intro K hK K hK)
  refine aE.one E ?_
  repeat ((fail_if_success (with_reducible refine bm (i:=4) ?_));first|(with_reducible first|refine aw.up ?_|refine fun (K:AK) hK=> ?_|refine ae (by decide) ?_|refine ag (by decide) ?_|refine gn (by decide) ?_|(refine hK _ ?_;clear hK K))|simp only [go_sem]|with_reducible refine wA ?_|(refine gp rfl rfl ?_)|(refine ek rfl ?_)|clear hK K)
  refine a7 (c9 (k:=1) (i:=0) (j:=0) 9 1 (by decide) rfl (show 0<8 by decide) rfl rfl) (by kernel_rfl) ?_;simp only [WY,WS,Nat.reduceAdd,Y1,YR,List.set_cons_zero,List.set_cons_succ];refine a7 (c9 (k:=1) (i:=0) (j:=3) 54 1 (by decide) rfl (show 0<8 by decide) rfl rfl) (by kernel_rfl) ?_;simp only [WY,WS,Nat.reduceAdd,Y1,YR,List.set_cons_zero,List.set_cons_succ]
  (revert K;revert K;refine mM ?_;intro K hK K hK K hK)
  refine aa.one M ?_
  ((iterate 3 revert K);refine mM ?_;intro K hK)
  generalize hn:(aD x).length=n at *
  refine aV (ι:=Nat) 7 (fun m=>[(5, .v (.int .i64 (n - m:Nat)))]) (fun m=>some ⟨25,3,false,[[.v (.int .i64 x.kind), .v (.string x.label), .aB 3 (x.kids.map aM) x.kids.length]]⟩ :: some ⟨120,8,false,[[.vec 2 0, .v (.slice none 0 0), .v (.slice none 0 0), .vec 3 m, .v (.bool (dy x)), .v (.int .i64 x.kind), .v (.string x.label), .aB 3 (x.kids.map aM) x.kids.length]]⟩ :: some ⟨9,1,true,[]⟩ :: bS 3 n m (fun _ _=>false)) (fun m=>n - m) (fun m=>m<=n) 0 (by omega) ?_ ?_
  ·have hd: ∀j,j<4->decide (j<(bS 3 n 0 (fun _ _=>false)).length+1+1+1)=true:=fun j hj=>decide_eq_true (by rw [gz];omega)
   refine fm ?_ ?_ ai
   ·exact ⟨hd 0 (by omega),hd 1 (by omega)⟩
   ·refine ⟨by rw [hd 2 (by omega),hd 3 (by omega)];rfl, ?_⟩;exact Cf (by rw [gz];omega)
  ·intro m hm K hK;simp only [bS]
   repeat ((fail_if_success (with_reducible refine bm (i:=7) ?_));first|(with_reducible first|refine aw.up ?_|refine fun (K:AK) hK=> ?_|refine ae (by decide) ?_|refine ag (by decide) ?_|refine gn (by decide) ?_|(refine hK _ ?_;clear hK K))|simp only [go_sem]|with_reducible refine wA ?_|(refine gp rfl rfl ?_)|(refine ek rfl ?_)|clear hK K)
   refine bD.part (fun h=> ?_) (fun h=> ?_)
   ·have hlt:m<n:=by replace h:=bG h;omega
    have eW:IntKind.i64.wrap (((n - m:Nat):Int) - 1)=((n - (m+1):Nat):Int):=by rw [bH (by omega) (by omega)];omega
    have eL:List.replicate n [AV.v (.bool false)]=cV n (fun _=>false):=jD n
    repeat ((fail_if_success (with_reducible refine bm (i:=7) ?_));first|(with_reducible first|refine aw.up ?_|refine fun (K:AK) hK=> ?_|refine ae (by decide) ?_|refine ag (by decide) ?_|refine gn (by decide) ?_|(refine hK _ ?_;clear hK K))|simp only [go_sem]|with_reducible refine wA ?_|(refine gp rfl rfl ?_)|(refine ek rfl ?_)|clear hK K)
    refine Ga [7,8,9,12] [(4,1009)] (by decide+kernel) (by kernel_rfl) ?_;have g1:=fun tl j=>Mv (ah n (fun _ _=>false) m) tl j;have g0:=fun tl=>tC (ah n (fun _ _=>false) m) tl;have s1:=fun tl j x=>Mw (ah n (fun _ _=>false) m) tl j x;have s0:=fun tl x=>tD (ah n (fun _ _=>false) m) tl x
    ((iterate 3 revert K);refine mM ?_;iterate 4 intro K hK)
    refine aE.one M ?_
    repeat (first|(with_reducible first|refine aw.up ?_|refine fun (K:AK) hK=> ?_|refine ae (by decide) ?_|refine ag (by decide) ?_|refine gn (by decide) ?_|(refine hK _ ?_;clear hK K))|simp only [go_sem,eL,g1,g0,s1,s0,ah,List.length_append]|with_reducible refine wA ?_|(refine gp rfl rfl ?_)|(refine ek rfl ?_)|clear hK K)
    refine Qc eW eL g1 g0 s1 ?_
    refine az.mk (m+1) (by omega) (by omega) (ai ?_ ?_ ?_)
    ·have hd: ∀j,j<4->decide (j<(bS 3 n (m+1) (fun _ _=>false)).length+1+1+1)=true:=fun j hj=>decide_eq_true (by rw [gz];omega);simp only [WY];simp only [go_sem,dv,true_or,or_true,true_and,and_true];exact ⟨.inr (hd 0 (by omega)), .inr (hd 1 (by omega))⟩
    ·have hd: ∀j,j<4->decide (j<(bS 3 n (m+1) (fun _ _=>false)).length+1+1+1)=true:=fun j hj=>decide_eq_true (by rw [gz];omega)
     have hz':(bS 3 n (m+1) (fun _ _=>false)).length+1+1+1=2 * (m+1)+4:=by rw [gz]
     have hwf:bj (2 * (m+1)+4) (bc 3 n (m+1))=true:=jQ (by omega)
     have hor:bc 3 n (m+1)=bc 3 n m++[[.vec (2 * m+1+1+1+1) n]]:=by rw [dA,show kC 3 m=2 * m+1+1+1+1 by unfold kC;omega]
     simp only [WY];refine ⟨.inr ⟨rfl,fun ob e=>by cases e;simp only [bj,aN,AV.wf,br,YY]⟩, .inr ⟨rfl,fun ob e=>by cases e;simp only [bj,aN,AV.wf,br,YY,hd 2 (by omega),hd 3 (by omega)]⟩, .inr ⟨rfl,fun ob e=>by cases e;rfl⟩, ?_⟩;rw [hz'];simp only [bS,ec];exact ⟨.inr ⟨by rw [hor],fun ob e=>by cases e;exact hwf⟩,l6 (fun ob h=>nk _ _ _ _ _ h) ⟨.inr ⟨rfl,fun ob e=>by cases e;exact aY _ _ _⟩, .inl rfl,trivial⟩⟩
    ·exact Nat.zero_le _
   ·have e1:m=n:=by replace h:=bG h;omega
    simp only [e1]
    repeat ((fail_if_success (with_reducible refine bm (i:=8) ?_));first|(with_reducible first|refine aw.up ?_|refine fun (K:AK) hK=> ?_|refine ae (by decide) ?_|refine ag (by decide) ?_|refine gn (by decide) ?_|(refine hK _ ?_;clear hK K))|simp only [go_sem]|with_reducible refine wA ?_|(refine gp rfl rfl ?_)|(refine ek rfl ?_)|clear hK K)
    (revert K;refine mM ?_;intro K hK K hK)
    refine aa.UI (y:=x) (labs:=[]) (xb:=⟨25,3,false,[[.v (.int .i64 x.kind), .v (.string x.label), .aB 3 (x.kids.map aM) x.kids.length]]⟩) O (fun k=>by simp only [aN,AV.wf,br,YY]) (fun k=>by simp only [AV.wf,aN,aY,YY]) ?_;simp only [cF,bS,mq,List.map_nil,WS,Nat.reduceAdd];have g1:=fun f tl j=>nG n f tl j;have g0:=fun f tl=>zH n f tl;have s1:=fun f tl j x=>nS n f tl j x;have s0:=fun f tl x=>zI n f tl x
    (revert K;revert K;refine Qb g1 g0 s1 ?_)
    rw [<-hrv];simp only [vc,hn];refine bI.cI ⟨bI.ptr (ob:=⟨120,8,false,[[.vec 2 n, .aB 1 (cV n (kA x 0)) n, .aB 1 (cV n (fc x 0)) n, .vec 3 n, .v (.bool (dy x)), .v (.int .i64 x.kind), .v (.string x.label), .aB 3 (x.kids.map aM) x.kids.length]]⟩) rfl rfl rfl (Nat.succ_ne_zero 7) ?_,bI.v _,trivial⟩;refine ⟨bI.B7 (ob:=⟨9,1,true,(aD x).map encS⟩) rfl rfl (by simp [encS,hn]) (aO 0 _),bI.wk (aY 0 _ _),bI.wk (aY 0 _ _), ?_,bI.v _,bI.v _,bI.v _,bI.wk (br 0 _),trivial⟩;refine bI.Ov (ob:=⟨54,1,true,bc 3 n n⟩) rfl rfl (cO _ _ _) (by rw [sP];exact (cO _ _ _).symm) fun i row row' h1 h2=> ?_
    have hi:i<n:=by have:=(List.getElem?_eq_some_iff.1 h1).1;rw [cO] at this;exact this
    have e1:(bc 3 n n)[i]? = some [.vec (kC 3 i) n]:=by rw [bc,List.getElem?_map,List.getElem?_range hi];rfl
    have e2:(kE n (kz x 0))[i]? = some [.aB 1 (cV n (kz x 0 i)) n]:=by rw [kE,List.getElem?_map,List.getElem?_range hi];rfl
    cases (WL (e1.symm.trans h1));cases (WL (e2.symm.trans h2));refine ⟨bI.B7 (ob:=⟨4,1,true,cV n (kz x 0 i)⟩) ?_ rfl (js _ _) (aY 0 _ _),trivial⟩;rw [show kC 3 i=2 * i+1+1+1+1 by unfold kC;omega,Yq,Yq,Yq,Yq,List.getElem?_append_left (by rw [ah];omega)];exact q9 hi
theorem MT {l:List ByteArray} {i:Nat} (h:i<l.length):(l.map encS).getD i []=[.v (.string (l.getD i ⟨#[]⟩))]:=by
 rw [XR,XR,List.getElem?_map,List.getElem?_eq_getElem h];rfl
theorem tR (N:Nat) (a b:Nat->Bool) (hn:N<=1000):da Tryz.prog 103 [.vec 0 N, .aB 1 (cV N b) N] [some ⟨4,1,true,cV N a⟩] (.vec 1 N) [some ⟨4,1,true,cV N a⟩,some ⟨4,1,true,cV N (fun q=>a q||b q)⟩]:=by
 refine gF Tryz.func103 Tryz.ntmps103 Tryz.results103 ?_
 have e0:List.replicate N [AV.v (.bool false)]=cV N (mj a b 0):=by rw [jD];exact lY fun q _=>by simp [mj]
 repeat (first|(with_reducible first|refine aw.up ?_|refine fun (K:AK) hK=> ?_|(refine hK _ ?_;clear hK K))|simp only [go_sem,e0]|with_reducible refine wA ?_|clear hK K)
 refine aV (ι:=Nat) 10 (fun i=>[(6, .v (.int .i64 i))]) (fun i=>[some ⟨4,1,true,cV N a⟩,some ⟨4,1,true,cV N (mj a b i)⟩]) (fun i=>N - i) (fun i=>i<=N) 0 (by omega) ?_ ?_
 ·refine bl ?_ ai
  rfl
 ·intro i hi K hK
  (revert K;revert K;refine au ?_;intro K hK K hK K hK)
  refine bD.part (fun h=> ?_) (fun h=> ?_)
  ·have hlt:i<N:=by replace h:=bG h;omega
   have eW:=ak (k:=i) (by omega);have eA:=cZ (g:=a) hlt;have eB:=cZ (g:=b) hlt;have eR:=cZ (g:=mj a b i) hlt;have eS:=fun v=>qk (N:=N) (j:=i) (g:=mj a b i) (v:=v);have eU:=wT a b i;cases ha:a i
   all_goals
    simp only [ha,Bool.false_or,Bool.true_or] at eU
    repeat (first|(with_reducible first|refine aw.up ?_|refine fun (K:AK) hK=> ?_|(refine hK _ ?_;clear hK K))|simp only [go_sem,eW,eA,eB,ha,eR,eS,eU,Go.undef]|with_reducible refine wA ?_|clear hK K)
    exact az.mk (i+1) (by omega) (by omega) (by exact aR ai)
  ·have e1:i=N:=by replace h:=bG h;omega
   have eE:cV N (mj a b N)=cV N (fun q=>a q||b q):=lY fun q hq=>by simp [mj,hq]
   simp only [e1]
   ((iterate 3 revert K);refine au ?_)
   rw [eE]
   (refine ⟨?_, ?_, ?_⟩<;>simp only [dv,ku,AV.v.injEq,Value.int.injEq,Value.bool.injEq,Value.string.injEq,AV.vec.injEq,AV.ptr.injEq,true_or,or_true,false_or,or_false,ab.mk.injEq,forall_eq_apply_imp_iff,forall_eq,forall_eq',go_sem])
   all_goals first|exact aY _ _ _|exact ⟨aY _ _ _,aY _ _ _⟩|skip
noncomputable def vZ (x:Ex) (p:Int) (q:Nat):Bool:=if p=0 then kA x 0 q else if 0<p∧p<=(aD x).length then kz x 0 (p.toNat - 1) q else false
noncomputable def Cj (x:Ex) (l:List Int) (q:Nat):Bool:=l.any (fun p=>vZ x p q)
theorem Js {x:Ex} {l:List Int} {i:Nat} (h:i<l.length):Cj x (l.take (i+1))=fun q=>Cj x (l.take i) q||vZ x l[i] q:=by
 funext q
 rw [Cj,List.take_succ_eq_append_getElem h,List.any_append,Cj];simp
def GU (g:Nat->Bool) (l:List ByteArray) (lab:ByteArray) (j q:Nat):Bool:=if q<j then g q&&((l.getD q ⟨#[]⟩).toList==lab.toList) else g q
theorem Sw (g:Nat->Bool) (l:List ByteArray) (lab:ByteArray):GU g l lab 0=g:=by funext q;simp [GU]
theorem Qi (g:Nat->Bool) (l:List ByteArray) (lab:ByteArray) (j:Nat):GU g l lab j j=g j:=by simp [GU]
theorem J0 (g:Nat->Bool) (l:List ByteArray) (lab:ByteArray) (j:Nat):(fun q=>if q=j then (g j&&((l.getD j ⟨#[]⟩).toList==lab.toList)) else GU g l lab j q)=GU g l lab (j+1):=by
 funext q
 rw [GU,GU]
 by_cases h:q=j
 ·subst h;simp
 ·rw [if_neg h]
  by_cases h2:q<j
  ·rw [if_pos h2,if_pos (by omega)]
  ·rw [if_neg h2,if_neg (by omega)]
noncomputable def Oh (x:Ex) (l:List Int) (lab:ByteArray) (q:Nat):Bool:=Cj x l q&&(((aD x).getD q ⟨#[]⟩).toList==lab.toList)
def oY (c:Nat):List (Option ab):=List.replicate c none
theorem dh (c:Nat):(oY c).length=c:=by simp [oY]
theorem xx (c:Nat) (tl:List (Option ab)):oY (c+1)++tl=oY c++(none :: tl):=by
 rw [oY,List.replicate_succ',Xp];rfl
theorem jR {n:Nat} {a b:List (Option ab)}: ∀(c:Nat),ku n a b->ku n (oY c++a) (oY c++b)
 | 0,h=>h
 | c+1,h=>⟨.inl rfl,jR c h⟩
theorem aa.either {c N:Nat} {a b:Nat->Bool} {K:AV->List (Option ab)->Prop} (hn:N<=1000) (k:K (.vec (c+1) N) (oY c++[some ⟨4,1,true,cV N a⟩,some ⟨4,1,true,cV N (fun q=>a q||b q)⟩])) :
  aa Tryz.prog 103 [.vec c N, .aB 1 (cV N b) N] (oY c++[some ⟨4,1,true,cV N a⟩]) K:=by
 have hl:(oY c++[some (⟨4,1,true,cV N a⟩:ab)]).length=c+1:=by rw [WX,dh];rfl
 refine aa.fr [c] (tR N a b hn) (by simp) ?_ ?_ (by simp only [aN,AV.wf,aY,YY];rfl) ?_ ?_
 ·simp only [YW,Y5,tC (dh c),Xu,ab.bg,ki];rfl
 ·simp only [bP,AV.bg,ki];rfl
 ·intro k ob hk
  match k,hk with
  | 0,hk=>cases hk;exact aY _ _ _
  | k+1,hk=>simp at hk
 ·rw [hl]
  have e1:(AV.vec 1 N).bg (sig [c] (c+1)) = .vec (c+1) N:=by simp [AV.bg,sig]
  rw [e1];simp only [eu,Xu,Option.map_none,ab.bg,ki,YW,Y5,tD (dh c),List.set_cons_zero,Xp,Y1,YR];exact k
theorem dW.either {c N:Nat} {a b:Nat->Bool} {K:AV->List (Option ab)->Prop} (hn:N<=1000) (k:K (.vec (c+1) N) (oY c++[some ⟨4,1,true,cV N a⟩,some ⟨4,1,true,cV N (fun q=>a q||b q)⟩])) :
  dW Tryz.prog 103 [.vec c N, .aB 1 (cV N b) N] (oY c++[some ⟨4,1,true,cV N a⟩]) K:=by
 have hl:(oY c++[some (⟨4,1,true,cV N a⟩:ab)]).length=c+1:=by rw [WX,dh];rfl
 refine dW.fr [c] (tR N a b hn) (by simp) ?_ ?_ (by simp only [aN,AV.wf,aY,YY];rfl) ?_ ?_
 ·simp only [YW,Y5,tC (dh c),Xu,ab.bg,ki];rfl
 ·simp only [bP,AV.bg,ki];rfl
 ·intro k ob hk
  match k,hk with
  | 0,hk=>cases hk;exact aY _ _ _
  | k+1,hk=>simp at hk
 ·rw [hl]
  have e1:(AV.vec 1 N).bg (sig [c] (c+1)) = .vec (c+1) N:=by simp [AV.bg,sig]
  rw [e1];simp only [eu,Xu,Option.map_none,ab.bg,ki,YW,Y5,tD (dh c),List.set_cons_zero,Xp,Y1,YR];exact k
theorem N7 (x:Ex) (l:List Int) (lab:ByteArray) (hn:(aD x).length<=1000) (hl:l.length<=1000000):aq Tryz.prog 70 [.vp (vc x), .aB 1 (l.map encI) l.length, .v (.string lab)]
  (.aB 1 (aJ (jt (aD x).length (Oh x l lab))) (jt (aD x).length (Oh x l lab)).length):=by
 have hw:=jx 0 x;have hm:bj 0 (aJ (jt (aD x).length (Oh x l lab)))=true:=bw _ (fun _=>rfl) _;have hi:bj 0 (l.map encI)=true:=bw _ (fun _=>rfl) _;have S:=Od (aD x).length (Oh x l lab) hn;simp only [vc] at hw ⊢
 (refine aq.enter Tryz.func70 rfl (by kernel_rfl) (by kernel_rfl) rfl (by simp only [go_sem,aN,AV.wf,YY,Yb,Yg,hw,hm,hi]) (by simp only [go_sem,aN,AV.wf,aO,YY,Yb,Yg,hw,hm,hi]) ?_;simp only [Tryz.ntmps70,Tryz.results70,WY,WS,Nat.reduceAdd,Nat.reduceSub,YB,YC,Y1,YR])
 have e0:List.replicate (aD x).length [AV.v (.bool false)]=cV (aD x).length (Cj x (l.take 0)):=jD _
 repeat (first|(with_reducible first|refine aw.up ?_|refine fun (K:AK) hK=> ?_|refine wD ?_|refine ae (by decide) ?_|refine ag (by decide) ?_|(refine hK _ ?_;clear hK K))|simp only [go_sem,e0]|with_reducible refine wA ?_|clear hK K)
 refine aV (ι:=Nat×Nat) 9 (fun s=>[(7, .vec s.2 (aD x).length),(8, .v (.int .i64 s.1))]) (fun s=>oY s.2++[some ⟨4,1,true,cV (aD x).length (Cj x (l.take s.1))⟩]) (fun s=>l.length - s.1) (fun s=>s.1<=l.length) (0,0) (by simp) ?_ ?_
 ·refine fm ?_ ?_ ai
  ·exact ⟨rfl,rfl⟩
  ·exact ⟨.inr ⟨rfl,fun ob e=>by cases e;exact aY _ _ _⟩,trivial⟩
 ·rintro ⟨i,c⟩ hi K hK;simp only at hi ⊢;have g0:=fun tl=>tC (dh c) tl;have s0:=fun tl x=>tD (dh c) tl x
  (revert K;revert K;refine fV ?_;intro K hK K hK K hK)
  refine bD.part (fun h=> ?_) (fun h=> ?_)
  ·have hlt:i<l.length:=by replace h:=bG h;omega
   have eG:=getD_map encI l i [] hlt;have eW:=ak (k:=i) (by omega);have eF:=Js (x:=x) hlt;simp only [encI] at eG;generalize hp:l[i]=p at eG eF
   by_cases h0:p=0
   ·have e1:vZ x p=kA x 0:=by funext q;rw [vZ,if_pos h0]
    simp only [e1] at eF;subst h0
    repeat (first|(with_reducible first|refine aw.up ?_|refine fun (K:AK) hK=> ?_|refine wD ?_|refine ae (by decide) ?_|refine ag (by decide) ?_|(refine hK _ ?_;clear hK K))|simp only [go_sem,eG]|with_reducible refine wA ?_|clear hK K)
    refine aa.either hn ?_
    ((iterate 4 revert K);refine kT eW ?_)
    refine az.mk (i+1,c+1) (by simp only;omega) (by simp only;omega) (ai ?_ ?_ (WZ _))
    ·simp only [go_sem,dv,true_or,or_true,true_and,and_true,WX,dh,WY,WS];exact .inr (decide_eq_true (by omega))
    ·simp only [eF];rw [xx];exact jR c ⟨.inl rfl, .inr ⟨rfl,fun ob e=>by cases e;exact aY _ _ _⟩,trivial⟩
   ·have b0:(p==0)=false:=beq_false_of_ne h0
    by_cases h1:0<p∧p<=(aD x).length
    ·obtain ⟨j,rfl⟩: ∃j:Nat,p=(j:Int)+1:=⟨(p - 1).toNat,by omega⟩;have b1:decide ((0:Int)<(j:Int)+1)=true:=decide_eq_true (by omega);have b2:decide ((j:Int)+1<=((aD x).length:Int))=true:=decide_eq_true (by omega)
     have eV:IntKind.i64.wrap ((j:Int)+1 - 1)=(j:Int):=by rw [bH (by omega) (by omega)];omega
     have eM:=rl (N:=(aD x).length) (f:=kz x 0) (i:=j) (by omega)
     have e1:vZ x ((j:Int)+1)=kz x 0 j:=by funext q;rw [vZ,if_neg h0,if_pos h1,show ((j:Int)+1).toNat - 1=j by omega]
     simp only [e1] at eF
     repeat ((fail_if_success (with_reducible refine bm (i:=7) ?_));first|(with_reducible first|refine aw.up ?_|refine fun (K:AK) hK=> ?_|refine ae (by decide) ?_|refine ag (by decide) ?_|(refine hK _ ?_;clear hK K))|simp only [go_sem,eG,b0,b1,b2,eV,eM,Go.undef]|with_reducible refine wA ?_|clear hK K)
     first|refine wE ?_|refine wD ?_
     repeat (first|(with_reducible first|refine aw.up ?_|refine fun (K:AK) hK=> ?_|refine ae (by decide) ?_|refine ag (by decide) ?_|(refine hK _ ?_;clear hK K))|simp only [go_sem,eG,b0,b1,b2,eV,eM,Go.undef]|with_reducible refine wA ?_|clear hK K)
     refine bA [12] [] (by decide+kernel) (by kernel_rfl) ?_
     repeat (first|(with_reducible first|refine aw.up ?_|refine fun (K:AK) hK=> ?_|refine ae (by decide) ?_|refine ag (by decide) ?_|(refine hK _ ?_;clear hK K))|simp only [go_sem,eG,b0,b1,b2,eV,eM,Go.undef]|with_reducible refine wA ?_|clear hK K)
     refine dW.either hn ?_
     ((iterate 4 revert K);refine kT eW ?_)
     refine az.mk (i+1,c+1) (by simp only;omega) (by simp only;omega) (ai ?_ ?_ (WZ _))
     ·simp only [go_sem,dv,true_or,or_true,true_and,and_true,WX,dh,WY,WS];exact .inr (decide_eq_true (by omega))
     ·simp only [eF];rw [xx];exact jR c ⟨.inl rfl, .inr ⟨rfl,fun ob e=>by cases e;exact aY _ _ _⟩,trivial⟩
    ·have e1:vZ x p=fun _=>false:=by funext q;rw [vZ,if_neg h0,if_neg h1]
     simp only [e1,Bool.or_false] at eF
     rcases Int.lt_or_le 0 p with b|b
     ·have b1:decide (0<p)=true:=decide_eq_true b;have b2:decide (p<=((aD x).length:Int))=false:=decide_eq_false (by omega)
      repeat (first|(with_reducible first|refine aw.up ?_|refine fun (K:AK) hK=> ?_|refine wD ?_|refine ae (by decide) ?_|refine ag (by decide) ?_|(refine hK _ ?_;clear hK K))|simp only [go_sem,eG,b0,b1,b2,eW,Go.undef]|with_reducible refine wA ?_|clear hK K)
      refine az.mk (i+1,c) (by simp only;omega) (by simp only;omega) (ai ?_ ?_ (WZ _))
      ·simp only [go_sem,dv,true_or,or_true,true_and,and_true,WX,dh,WY,WS];exact .inr (decide_eq_true (by omega))
      ·simp only [eF];exact jR c ⟨.inr ⟨rfl,fun ob e=>by cases e;exact aY _ _ _⟩,trivial⟩
     ·have b1:decide (0<p)=false:=decide_eq_false (by omega)
      repeat (first|(with_reducible first|refine aw.up ?_|refine fun (K:AK) hK=> ?_|refine wD ?_|refine ae (by decide) ?_|refine ag (by decide) ?_|(refine hK _ ?_;clear hK K))|simp only [go_sem,eG,b0,b1,eW,Go.undef]|with_reducible refine wA ?_|clear hK K)
      refine az.mk (i+1,c) (by simp only;omega) (by simp only;omega) (ai ?_ ?_ (WZ _))
      ·simp only [go_sem,dv,true_or,or_true,true_and,and_true,WX,dh,WY,WS];exact .inr (decide_eq_true (by omega))
      ·simp only [eF];exact jR c ⟨.inr ⟨rfl,fun ob e=>by cases e;exact aY _ _ _⟩,trivial⟩
  ·have e1:l.take i=l:=Y7 (by replace h:=bG h;omega);simp only [e1]
   ((iterate 3 revert K);refine fV ?_;intro K hK)
   have ek0:=Sw (Cj x l) (aD x) lab
   refine aV (ι:=Nat) 10 (fun j=>[(9, .v (.int .i64 j))]) (fun j=>oY c++[some ⟨4,1,true,cV (aD x).length (GU (Cj x l) (aD x) lab j)⟩]) (fun j=>(aD x).length - j) (fun j=>j<=(aD x).length) 0 (by omega) ?_ ?_
   ·simp only [ek0]
    refine ai ?_ ?_ (WZ _)
    ·simp only [go_sem,dv,true_or,or_true,true_and,and_true,WX,dh,WY,WS];exact ⟨.inr (decide_eq_true (by omega)), .inr rfl⟩
    ·exact jR c ⟨.inr ⟨rfl,fun ob e=>by cases e;exact aY _ _ _⟩,trivial⟩
   ·intro j hj K hK
    repeat (first|(with_reducible first|refine aw.up ?_|refine fun (K:AK) hK=> ?_|refine wD ?_|refine ae (by decide) ?_|refine ag (by decide) ?_|(refine hK _ ?_;clear hK K))|simp only [go_sem,g0,s0]|with_reducible refine wA ?_|clear hK K)
    refine bD.part (fun h=> ?_) (fun h=> ?_)
    ·have hlt:j<(aD x).length:=by replace h:=bG h;omega
     have eW:=ak (k:=j) (by omega);have eR:=cZ (g:=GU (Cj x l) (aD x) lab j) hlt;rw [Qi] at eR;have eS:=fun v=>qk (N:=(aD x).length) (j:=j) (g:=GU (Cj x l) (aD x) lab j) (v:=v);have eU:=J0 (Cj x l) (aD x) lab j;have eL:=MT hlt;cases hg:Cj x l j
     all_goals
      simp only [hg,Bool.false_and,Yg] at eU eR
      repeat (first|(with_reducible first|refine aw.up ?_|refine fun (K:AK) hK=> ?_|refine wD ?_|refine ae (by decide) ?_|refine ag (by decide) ?_|(refine hK _ ?_;clear hK K))|simp only [go_sem,eW,eR,eS,eU,eL,g0,s0,Go.undef]|with_reducible refine wA ?_|clear hK K)
      refine az.mk (j+1) (by omega) (by omega) (ai ?_ ?_ (WZ _))
      ·simp only [go_sem,dv,true_or,or_true,true_and,and_true,WX,dh,WY,WS];exact .inr (decide_eq_true (by omega))
      ·exact jR c ⟨.inr ⟨rfl,fun ob e=>by cases e;exact aY _ _ _⟩,trivial⟩
    ·have e2:j=(aD x).length:=by replace h:=bG h;omega
     have eE:cV (aD x).length (GU (Cj x l) (aD x) lab (aD x).length)=cV (aD x).length (Oh x l lab):=lY fun q hq=>by rw [GU,if_pos hq,Oh]
     simp only [e2];simp only [eE]
     repeat ((fail_if_success (with_reducible refine bm (i:=13) ?_));first|(with_reducible first|refine aw.up ?_|refine fun (K:AK) hK=> ?_|refine ae (by decide) ?_|refine ag (by decide) ?_|(refine hK _ ?_;clear hK K))|simp only [go_sem]|with_reducible refine wA ?_|clear hK K)
     refine a7 (fZ 7 c rfl (g0 _) rfl (js _ _)) (by kernel_rfl) ?_
     (revert K;refine fV ?_;intro K hK K hK)
     refine aa.one S ?_
     (revert K;revert K;refine fV ?_)
     exact gd.aB hm
def e0:ByteArray:=⟨#[]⟩
def Wd (nm:ByteArray) (l r o:vQ):List AV:=[.aB 8 [[.v (.string ⟨#[97]⟩), .v (.string ⟨#[98]⟩), .v (.bool false), .v (.string ⟨#[120]⟩), .v (.string nm), .v (.int .i64 0), .v (.string e0), .v (.slice none 0 0)]] 1, .aB 13 [MR ⟨3,l,r⟩] 1, .aB 6 [Jm o] 1, .v (.int .i64 5), .v (.int .i64 1)]
def sA:ByteArray:=⟨#[97]⟩
def sB:ByteArray:=⟨#[98]⟩
def WH:Ex:= .mk 4 e0 [.mk 2 e0 [.mk 1 sA [], .mk 1 sB []]]
def Pg (i:Nat):List AV:=[Kk i]
theorem Pq {n:Nat} (h:n<=1000000):IntKind.i64.wrap ((n:Int)+12)=((n+12:Nat):Int):=by rw [bH (by omega) (by omega)];omega
@[go_sem] theorem Uk (n k:Nat):bj n (jV Pg k)=true:=ez n _ (fun _=>rfl) k
@[go_sem] theorem Ry (n:Nat):bj n (marksOf Pg)=true:=ez n _ (fun _=>rfl) 12
theorem Ss {α:Type} (f:α->List AV) (l:List α) (m:List (List AV)) (i:Nat) (h:i<l.length):(l.map f++m).getD i []=f l[i]:=by
 rw [XR,WU (by simpa using h)];simp [h]
theorem SE (f:Nat->List AV): ∀n i,i<n->(jV f n)[i]? = some (f i)
 | 0,i,h=>absurd h (by omega)
 | n+1,i,h=>by
  rw [jV]
  rcases Nat.lt_or_ge i n with q|q
  ·rw [WU (by rw [iH];exact q)];exact SE f n i q
  ·obtain rfl:i=n:=by omega
   rw [Xr (by rw [iH];exact Nat.le_refl _),iH];simp
theorem Sr {α:Type} (f:α->List AV) (l:List α) (m:Nat->List AV) (j:Nat) (h:j<12):(l.map f++marksOf m).getD (l.length+j) []=m j:=by
 rw [XR,Xr (by simp),List.length_map,Nat.add_sub_cancel_left,marksOf,SE m 12 j h];rfl
theorem uL (i:Nat) (hi:i<12):aq Tryz.prog 40 [.v (.int .i64 1), .v (.int .i64 i)] (.v (.string ⟨#[35,1,0,0,47,UInt8.ofNat i,0,0]⟩)):=by
 refine gE Tryz.func40 Tryz.ntmps40 Tryz.results40 ?_;refine bq ?_
 rcases (by omega:i=0∨i=1∨i=2∨i=3∨i=4∨i=5∨i=6∨i=7∨i=8∨i=9∨i=10∨i=11) with rfl|rfl|rfl|rfl|rfl|rfl|rfl|rfl|rfl|rfl|rfl|rfl
 all_goals rfl
def Vz (i:Nat):ByteArray:=⟨#[35,1,0,0,47,UInt8.ofNat i,0,0]⟩
def jc (i:Nat):List AV:=[.v (.string (Vz i))]
theorem s9 (n:Nat) (l:List ByteArray):bj n (l.map encS)=true:=bw _ (fun _=>rfl) l
@[go_sem] theorem Un (n k:Nat):bj n (jV jc k)=true:=ez n _ (fun _=>rfl) k
@[go_sem] theorem rN (n:Nat):bj n (marksOf jc)=true:=ez n _ (fun _=>rfl) 12
theorem Bb (l:List ByteArray) (hl:l.length<=1000000) :
  aq Tryz.prog 11 [.aB 1 (l.map encS) l.length] (.aB 1 (l.map encS++marksOf jc) l.length):=by
 have e1:IntKind.i64.wrap ((l.length:Int)+12)=((l.length+12:Nat):Int):=Pq hl
 have eT:List.take l.length (l.map encS)=l.map encS:=by rw [Y7 (by simp)]
 refine gE Tryz.func11 Tryz.ntmps11 Tryz.results11 ?_
 repeat (first|(with_reducible first|refine aw.up ?_|refine fun (K:AK) hK=> ?_|(refine hK _ ?_;clear hK K))|simp only [go_sem,e1,eT]|with_reducible refine wA ?_|clear hK K)
 refine bE (ι:=Nat) (fun i=>[(0, .aB 1 (l.map encS) l.length),(2, .v (.slice none 0 0)),(3, .vec 0 (l.length+i)),(4, .v (.int .i64 i))]) (fun i=>[some ⟨9,1,true,l.map encS++jV jc i⟩]) (fun i=>12 - i) (fun i=>i<=12) 0 (by omega) ?_ ?_
 ·refine fm ?_ ?_ ai
  ·exact ⟨rfl,rfl⟩
  ·simp [jV]
 ·intro i hi K hK;simp only [dV,List.foldl_cons,List.foldl_nil,YB,YC,go_sem]
  (revert K;revert K;refine au ?_;intro K hK K hK K hK)
  refine bD.part (fun h2=> ?_) (fun h2=> ?_)
  ·have hlt:i<12:=by replace h2:=bG h2;omega
   have eW:=ak (k:=i) (by omega);have M:=uL i (by omega)
   ((iterate 3 revert K);refine aP eW ?_;iterate 4 intro K hK)
   refine aa.one M ?_
   repeat (first|(with_reducible first|refine aw.up ?_|refine fun (K:AK) hK=> ?_|(refine hK _ ?_;clear hK K))|simp only [go_sem,eW]|with_reducible refine wA ?_|clear hK K)
   exact az.mk (i+1) (by omega) (by omega) (by refine fm ?_ ?_ ai<;>rfl)
  ·have h12:i=12:=by replace h2:=bG h2;omega
   have eM:jV jc i=marksOf jc:=by rw [h12];rfl
   repeat (first|(with_reducible first|refine aw.up ?_|refine fun (K:AK) hK=> ?_|(refine hK _ ?_;clear hK K))|simp only [go_sem,eM]|with_reducible refine wA ?_|clear hK K)
   exact gd.aB (by simp only [gJ,s9,rN,YY])
theorem AQ (l:List ByteArray) (hl:l.length<=1000000) :
  aq Tryz.prog 16 [.aB 1 (l.map encS++marksOf jc) l.length, .aB 1 (l.map encS) l.length] (.v (.bool true)):=by
 have e1:IntKind.i64.wrap ((l.length:Int)+12)=((l.length+12:Nat):Int):=Pq hl
 have w1:bj 0 (l.map encS++marksOf jc)=true:=by simp only [gJ,s9,rN,YY]
 (refine aq.enter Tryz.func16 rfl (by kernel_rfl) (by kernel_rfl) rfl (by simp only [go_sem,aN,AV.wf,YY,Yb,Yg,w1,s9]) (by simp only [go_sem,aN,AV.wf,aO,YY,Yb,Yg,w1,s9]) ?_;simp only [Tryz.ntmps16,Tryz.results16,WY,WS,Nat.reduceAdd,Nat.reduceSub,YB,YC,Y1,YR])
 repeat (first|(with_reducible first|refine aw.up ?_|refine fun (K:AK) hK=> ?_|refine wD ?_|(refine hK _ ?_;clear hK K))|simp only [go_sem,e1]|with_reducible refine wA ?_|clear hK K)
 refine bE (ι:=Nat) (fun i=>[(0, .aB 1 (l.map encS++marksOf jc) l.length),(1, .aB 1 (l.map encS) l.length),(4, .v (.bool false)),(5, .aB 1 (l.map encS++marksOf jc) (l.length+12)),(6, .v (.int .i64 i))]) (fun _=>[]) (fun i=>l.length+12 - i) (fun i=>i<=l.length+12) 0 (by omega) ?_ ?_
 ·refine bl ?_ ai
  rfl
 ·intro i hi K hK;simp only [dV,List.foldl_cons,List.foldl_nil,YB,YC,go_sem]
  (revert K;revert K;refine bU ?_;intro K hK K hK K hK)
  refine bD.part (fun h=> ?_) (fun h=> ?_)
  ·have hlt:i<l.length+12:=by (try simp only [decide_eq_true_eq,decide_eq_false_iff_not,Int.ofNat_lt,Int.ofNat_le] at h);omega
   have eW:=ak (k:=i) (by omega)
   rcases Nat.lt_or_ge i l.length with q|q
   ·have g1:decide ((i:Int)<(l.length:Int))=true:=by simpa using q
    have g2:decide ((l.length:Int)<=(i:Int))=false:=by simpa using q
    have eG:=Ss encS l (marksOf jc) i q;have eH:=getD_map encS l i [] q;simp only [encS] at eG eH
    repeat (first|(with_reducible first|refine aw.up ?_|refine fun (K:AK) hK=> ?_|refine wD ?_|(refine hK _ ?_;clear hK K))|simp only [go_sem,g1,g2,eG,eH,eW,Go.undef]|with_reducible refine wA ?_|clear hK K)
    exact az.mk (i+1) (by omega) (by omega) (by exact aR ai)
   ·obtain ⟨j,hj⟩: ∃j,i=l.length+j:=⟨i - l.length,by omega⟩;have g1:decide ((i:Int)<(l.length:Int))=false:=decide_eq_false (by omega);have g2:decide ((l.length:Int)<=(i:Int))=true:=decide_eq_true (by omega)
    have eS:IntKind.i64.wrap ((i:Int) - (l.length:Int))=(j:Int):=by rw [bH (by omega) (by omega)];omega
    have eG:(l.map encS++marksOf jc).getD i []=jc j:=by rw [hj];exact Sr encS l jc j (by omega)
    have M:=uL j (by omega);simp only [jc,Vz] at M eG
    repeat (first|(with_reducible first|refine aw.up ?_|refine fun (K:AK) hK=> ?_|refine wD ?_|(refine hK _ ?_;clear hK K))|simp only [go_sem,g1,g2,eG,eS,eW,Go.undef]|with_reducible refine wA ?_|clear hK K)
    refine aE.one M ?_
    ((iterate 5 revert K);refine Dr g1 g2 eG eS eW ?_)
    exact az.mk (i+1) (by omega) (by omega) (by exact aR ai)
  ·((iterate 3 revert K);exact r8)
mutual
theorem BP: ∀(x:Ex) (d:Nat),sX x d<=300->(aj x).length<=sX x d
 | .mk k s l,d,h=>by
  rw [sX] at h ⊢
  split at h
  ·omega
  ·rename_i hd;rw [if_neg hd]
   have:=BO l (d+1) 1 h
   rw [aj,WY];omega
theorem BO: ∀(l:List Ex) (d n:Nat),sL l d n<=300->n+(bM l).length<=sL l d n
 | [],d,n,h=>by rw [sL,bM];simp
 | x :: xs,d,n,h=>by
  rw [sL] at h ⊢
  split at h
  ·rename_i hn;rw [if_pos hn];have h2:=BO xs d (n+sX x d) h;have h1:=BP x d (by omega);rw [bM,WX];omega
  ·omega
end
theorem nh {x:Ex} (ko:x.ok) (h:sX x 0<=300):(aj x).length<=1000000∧ ∀z,z∈aj x->z.kids.length<=1000000∧z.label.size<=1000000000000000:=by
 have h1:=BP x 0 h
 refine ⟨by omega,fun z hz=>⟨?_, ?_⟩⟩
 ·have h2:=fW x z hz;have h3:=j8 z;omega
 ·have:=NW x ko z hz
  unfold ph at this;omega
theorem step_eq {x:Ex} (hr:aC x=true) (l:List Int) (lab:ByteArray):ar (iO (aT x) (fU (aT x) l) lab)=jt (aD x).length (Oh x l lab):=by
 have L:=iI hr;have ok:=L.ok;have hl:=L.labs;refine qg (jH _) (xN _ _) fun q=> ?_;rw [ba,lg ok,vq]
 have key: ∀(p:Nat),((aT x).fs.getD p 0#32).getLsbD q=true↔(if p=0 then kq x 0 q else je x 0 p q):=fun p=>by
  by_cases hp:p=0
  ·subst hp;rw [if_pos rfl];exact L.fst q
  ·rw [if_neg hp];exact L.rY p q hp
 have dV: ∀(p:Nat),(fU (aT x) l).getLsbD p=true↔(p:Int)∈l∧p<=(aD x).length:=fun p=>by
  rw [fU,kQ ok,hl];simp
 constructor
 ·rintro ⟨p,h1,h2,h3⟩;have hq:=ok.rY p q h2;rw [hl] at hq;obtain ⟨hpl,hpn⟩:=(dV p).1 h1;refine ⟨hq.1,hq.2, ?_⟩;rw [Oh,Bool.and_eq_true]
  constructor
  ·rw [Cj,List.any_eq_true];refine ⟨p,hpl, ?_⟩;have k:=(key p).1 h2;rw [vZ]
   by_cases hp:p=0
   ·subst hp;rw [if_pos rfl] at k;rw [if_pos (show ((0:Nat):Int)=0 from rfl),iD,show q - 1+1=q by omega];exact k
   ·rw [if_neg hp] at k;rw [if_neg (by omega),if_pos ⟨by omega,by omega⟩,kP,show q - 1+1=q by omega,show (p:Int).toNat - 1+1=p by omega];exact k
  ·rw [e7,if_pos ⟨by omega,by rw [hl];omega⟩,hl,show ((q:Int) - 1).toNat=q - 1 by omega] at h3;rw [beq_iff_eq];exact h3
 ·rintro ⟨h1,h2,h3⟩;rw [Oh,Bool.and_eq_true,Cj,List.any_eq_true] at h3;obtain ⟨⟨p,hpl,hp⟩,h4⟩:=h3
  have hlab:(e7 (aT x) q).toList=lab.toList:=by
   rw [e7,if_pos ⟨by omega,by rw [hl];omega⟩,hl,show ((q:Int) - 1).toNat=q - 1 by omega];rw [beq_iff_eq] at h4;exact h4
  rw [vZ] at hp
  by_cases hp0:p=0
  ·subst hp0;rw [if_pos rfl,iD,show q - 1+1=q by omega] at hp;exact ⟨0,(dV 0).2 ⟨hpl,by omega⟩,(key 0).2 (by rw [if_pos rfl];exact hp),hlab⟩
  ·rw [if_neg hp0] at hp
   by_cases hp1:0<p∧p<=(aD x).length
   ·rw [if_pos hp1,kP,show q - 1+1=q by omega] at hp;obtain ⟨j,rfl⟩: ∃j:Nat,p=(j:Int):=⟨p.toNat,by omega⟩;rw [show (j:Int).toNat - 1+1=j by omega] at hp;exact ⟨j,(dV j).2 ⟨hpl,by omega⟩,(key j).2 (by rw [if_neg (by omega)];exact hp),hlab⟩
   ·rw [if_neg hp1] at hp;cases hp
theorem Lr {x:Ex} (hr:aC x=true):ar (aT x).la=jt (aD x).length (fc x 0):=by
 have L:=iI hr;refine qg (jH _) (xN _ _) fun q=> ?_;rw [ba,vq]
 constructor
 ·intro h1;have hq:=L.ok.la _ h1;rw [L.labs] at hq;refine ⟨hq.1,hq.2, ?_⟩;rw [iG,show q - 1+1=q by omega];exact (L.xu _).1 h1
 ·rintro ⟨h1,h2,h3⟩;rw [iG,show q - 1+1=q by omega] at h3;exact (L.xu _).2 h3
theorem Oo {x:Ex} (hr:aC x=true):(aT x).em=dy x:=by
 rw [(iI hr).em,dy,hr,Yg]
end Go.Proofs.YtfflpdekojlnmaaGreatDoor
