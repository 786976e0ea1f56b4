/- texts of one claim, one behind the other. -/
import Derived.Test.YtfflpdekojlnmaaGreatDoorYAbsV
import Derived.KernelRfl
import Derived.Test.YtfflpdekojlnmaaGreatDoorProg
import Derived.Test.YtfflpdekojlnmaaGreatDoorYAbsN
import Derived.Test.YtfflpdekojlnmaaGreatDoorYAbsG
import Derived.StillTailTactics
set_option linter.unusedSimpArgs false
set_option linter.unusedVariables false
set_option maxRecDepth 100000
set_option maxHeartbeats 16000000
open Bool renaming and_eq_true -> XK, or_eq_true -> X9, false_eq_true -> Yk, not_eq_true' -> Yo, false_and -> Yt
open List renaming getElem?_of_mem -> Xk, filter_cons -> Yp, getElem?_eq_some_iff -> WT, getElem?_drop -> W9, getElem?_cons_zero -> X2, getElem?_cons_succ -> Yq, all_eq_true -> X7, getElem?_eq_getElem -> Xb, getElem_mem -> Ym, mem_of_getElem? -> Xw, size_toArray -> Xl, getD_eq_getElem?_getD -> XR, getElem?_toArray -> Xd, zip_cons_cons -> Yu, zip_nil_left -> Yv, foldl_cons -> Yw, foldl_nil -> Yx, setIfInBounds_toArray -> Yy, set_cons_succ -> Yz, set_cons_zero -> YA, getElem?_set_self -> Xj, getElem?_set_ne -> Xi
open Nat renaming lt_or_ge -> WV, le_refl -> WN, le_trans -> WO, zero_le -> WZ
open Array renaming replicate_succ -> Yr, replicate_zero -> Ys
namespace Go.Proofs.YtfflpdekojlnmaaGreatDoor
open Go.RowKit
section
section
variable {D:Nat->Prop} {nu:Nat->Nat->Value} {o:List (Option ab)} {w:World} {P:Program}
variable {nu0:Nat->Nat->Value} {o0:List (Option ab)} {w0:World} {l:List Oper} {es:List Nat} {O:Nat->List (Option ab)}
def uz:List (Nat×Nat)->Nat->Option Nat
 | [],_=>none
 | (j,lo) :: fs,k=>if j=k∧1000<=lo then some (lo - 1000) else uz fs k
def Rl:Option (Nat->List (Option ab)->Prop)->Nat->List (Option ab)->Prop
 | none,_,_=>True
 | some p,k,o=>p k o
def jT (es:List Nat) (k:Nat):List Nat:=es.filter (fun e=>decide (k<=e))
theorem nC {es:List Nat} {k:Nat} (h:es.contains k=false):jT es k=jT es (k+1):=by
 refine List.filter_congr fun e he=> ?_
 have hne:e≠k:=fun hh=>by subst hh;simp [he] at h
 rw [decide_eq_decide];omega
theorem AA {es:List Nat} {k:Nat} (h: ∀e,e∈es->k<=e):jT es k=es:=List.filter_eq_self.2 fun e he=>decide_eq_true (h e he)
theorem AB: ∀ {es:List Nat} {k:Nat},mh es=true->es.contains k=true->jT es k=k :: jT es (k+1)
 | [],k,_,h=>by simp at h
 | a :: t,k,hr,h=>by
  have ht:mh t=true:=by
   cases t with
   | nil=>rfl
   | cons b t=>simp only [mh,XK] at hr;exact hr.2
  have hgt: ∀e,e∈t->a<e:=fun e he=>by
   obtain ⟨i,hi⟩:=Xk he;exact iL hr 0 (i+1) a e (by omega) rfl (by simpa using hi)
  by_cases ha:a=k
  ·subst ha;have h1:jT t a=t:=AA fun e he=>Nat.le_of_lt (hgt e he);have h2:jT t (a+1)=t:=AA fun e he=>hgt e he;rw [jT,Yp, <- jT,h1,jT,Yp, <- jT,h2,if_pos (by simp),if_neg (by simp)]
  ·have hk:t.contains k=true:=by
    simp only [List.contains_cons,X9,beq_iff_eq] at h
    rcases h with h|h
    ·exact absurd h.symm ha
    ·exact h
   have hlt:=hgt k (by simpa using hk);have IH:=AB ht hk;rw [jT,Yp, <- jT,IH,if_neg (by simp;omega),jT,jT,Yp,if_neg (by simp;omega)]
theorem Gz {es:List Nat} {k m:Nat} (hm: ∀m' e,es[m']? = some e->(e<k↔m'<m)):jT es k=es.drop m:=by
 have h1:jT es k=jT (es.take m++es.drop m) k:=by rw [List.take_append_drop]
 rw [h1,jT,List.filter_append]
 have h2:(es.take m).filter (fun e=>decide (k<=e))=[]:=List.filter_eq_nil_iff.2 fun e he=>by
  obtain ⟨i,hi⟩:=Xk he;have hlt:=(WT.1 hi).1;rw [List.getElem?_take_of_lt (by simp at hlt;omega)] at hi
  have:=(hm i e hi).2 (by simp at hlt;omega)
  simp;omega
 have h3:(es.drop m).filter (fun e=>decide (k<=e))=es.drop m:=List.filter_eq_self.2 fun e he=>by
  obtain ⟨i,hi⟩:=Xk he;rw [W9] at hi
  have: ¬e<k:=fun hh=>by have:=(hm _ e hi).1 hh;omega
  simp;omega
 rw [h2,h3,List.nil_append]
def dO (P:Program) (all:List Oper) (es:List Nat) (fs:List (Nat×Nat)):List Oper->Nat->AS->List (List (Option ab))->Option (Nat->List (Option ab)->Prop)->(AS->Prop)->Prop
 | [],_,s,_,_,Q=>Q s
 | oo :: rest,k,s,hist,pn,Q=>if es.contains k then (match oo.guard with
   | none=>qy P oo.op s (fun r o'=>Rl pn k o'∧dO P all es fs rest (k+1) (s.put oo.dst r o') (hist++[s.o]) pn Q)
   | some _=>False) else match fI fs k with
   | some lo=>oo.guard=none∧bZ P oo.op s (fun r=>(∀o',o'∈hist.drop lo->bZ P oo.op ⟨s.t,o',s.y⟩ (fun r'=>r'=r))∧dO P all es fs rest (k+1) (s.put oo.dst r s.o) hist pn Q)
   | none=>match uz fs k with
    | some c=>oo.guard=none∧bZ P oo.op s (fun r=>dO P all es fs rest (k+1) (s.put oo.dst r s.o) hist (some fun k' o'=>Rl pn k' o'∧(if k'<c then bZ P oo.op ⟨s.t,o',s.y⟩ (fun r'=>r'=r) else True)) Q)
    | none=>dQ P all oo s (fun s'=>dO P all es fs rest (k+1) s' hist pn Q)
def RY (P:Program) (all:List Oper) (es:List Nat) (fs:List (Nat×Nat)):List Oper->Nat->AS->List (List (Option ab))->List AV->List (List (Option ab))->AS->Prop
 | [],_,s,_,rs,os,sf=>rs=[]∧os=[]∧sf=s
 | oo :: rest,k,s,hist,rs,os,sf=> ∃r rs',rs=r :: rs' ∧
   ((es.contains k=true∧oo.guard=none∧ ∃o' os',os=o' :: os'∧qy P oo.op s (fun r' o''=>r'=r∧o''=o')∧RY P all es fs rest (k+1) (s.put oo.dst r o') (hist++[s.o]) rs' os' sf) ∨
   (es.contains k=false∧(((oo.guard=none∨ ∃j want b,oo.guard=some (j,want)∧jk all s j=some (some b)∧(b==want)=true)∧bZ P oo.op s (fun r'=>r'=r)∧(∀lo,fI fs k=some lo-> ∀o',o'∈hist.drop lo->bZ P oo.op ⟨s.t,o',s.y⟩ (fun r'=>r'=r))∧(fI fs k=none-> ∀c,uz fs k=some c-> ∀(i e:Nat) o',(jT es (k+1))[i]? = some e->e<c->os[i]? = some o'->bZ P oo.op ⟨s.t,o',s.y⟩ (fun r'=>r'=r))) ∨
    (fI fs k=none∧uz fs k=none∧r = .v Go.undef∧ ∃j want g,oo.guard=some (j,want)∧jk all s j=some g∧(g=none∨ ∃b,g=some b∧(b==want)=false)))∧RY P all es fs rest (k+1) (s.put oo.dst r s.o) hist rs' os sf))
theorem fS {all:List Oper} {es:List Nat} {fs:List (Nat×Nat)} (hrise:mh es=true): ∀(rest:List Oper) (k:Nat) (s:AS) (hist:List (List (Option ab))) {pn:Option (Nat->List (Option ab)->Prop)} {Q:AS->Prop},dO P all es fs rest k s hist pn Q-> ∃rs os sf,RY P all es fs rest k s hist rs os sf∧(∀(i e:Nat) o',(jT es k)[i]? = some e->os[i]? = some o'->Rl pn e o')∧Q sf
 | [],k,s,hist,pn,Q,h=>⟨[],[],s,⟨rfl,rfl,rfl⟩,(fun _ _ _ _ h=>by simp at h),h⟩
 | oo :: rest,k,s,hist,pn,Q,h=>by
  simp only [dO] at h
  cases he:es.contains k
  ·rw [he] at h;simp only [Yk,if_false] at h
   cases hf:fI fs k with
   | some lo=>
    rw [hf] at h;obtain ⟨hg,h⟩:=h;obtain ⟨r,⟨hh,hk⟩,hr⟩:=gm h;obtain ⟨rs,os,sf,h1,h2⟩:=fS hrise rest (k+1) _ hist hk;exact ⟨r :: rs,os,sf,⟨r,rs,rfl, .inr ⟨he, .inl ⟨.inl hg,hr,(fun lo' hl=>by rw [hf] at hl;cases hl;exact hh),fun hn=>by rw [hf] at hn;cases hn⟩,h1⟩⟩,by rw [nC he];exact h2⟩
   | none=>
   rw [hf] at h
   have hno: ∀r lo,fI fs k=some lo-> ∀o',o'∈hist.drop lo->bZ P oo.op ⟨s.t,o',s.y⟩ (fun r'=>r'=r):=fun r lo hl=>by rw [hf] at hl;cases hl
   simp only at h;cases hlt:uz fs k
   case some cc=>
    rw [hlt] at h;simp only at h;obtain ⟨hg,h⟩:=h;obtain ⟨r,hk,hr⟩:=gm h;obtain ⟨rs,os,sf,h1,h0,h2⟩:=fS hrise rest (k+1) _ hist hk;exact ⟨r :: rs,os,sf,⟨r,rs,rfl, .inr ⟨he, .inl ⟨.inl hg,hr,hno r,fun _ c hc i e o' he' hlt' ho'=>by rw [hlt] at hc;cases hc;have:=(h0 i e o' he' ho').2;rw [if_pos hlt'] at this;exact this⟩,h1⟩⟩,fun i e o' he' ho'=>(h0 i e o' (by rw [nC he] at he';exact he') ho').1,h2⟩
   have hla: ∀(r:AV) (os:List (List (Option ab))),fI fs k=none-> ∀c,uz fs k=some c-> ∀(i e:Nat) o',(jT es (k+1))[i]? = some e->e<c->os[i]? = some o'->bZ P oo.op ⟨s.t,o',s.y⟩ (fun r'=>r'=r):=fun r os _ c h=>by rw [hlt] at h;cases h
   rw [hlt] at h;simp only at h;simp only [dQ] at h
   split at h
   ·rename_i hg;obtain ⟨r,hk,hr⟩:=gm h;obtain ⟨rs,os,sf,h1,h2⟩:=fS hrise rest (k+1) _ hist hk;exact ⟨r :: rs,os,sf,⟨r,rs,rfl, .inr ⟨he, .inl ⟨.inl hg,hr,hno r,hla r _⟩,h1⟩⟩,by rw [nC he];exact h2⟩
   ·rename_i j want hg;unfold vS at h
    split at h
    ·rename_i b e
     cases hb:b==want
     ·rw [hb,qA] at h;obtain ⟨rs,os,sf,h1,h2⟩:=fS hrise rest (k+1) _ hist h;exact ⟨_ :: rs,os,sf,⟨_,rs,rfl, .inr ⟨he, .inr ⟨hf,hlt,rfl,j,want,_,hg,e, .inr ⟨b,rfl,hb⟩⟩,h1⟩⟩,by rw [nC he];exact h2⟩
     ·rw [hb,tc] at h;obtain ⟨r,hk,hr⟩:=gm h;obtain ⟨rs,os,sf,h1,h2⟩:=fS hrise rest (k+1) _ hist hk;exact ⟨r :: rs,os,sf,⟨r,rs,rfl, .inr ⟨he, .inl ⟨.inr ⟨j,want,b,hg,e,hb⟩,hr,hno r,hla r _⟩,h1⟩⟩,by rw [nC he];exact h2⟩
    ·rename_i e;obtain ⟨rs,os,sf,h1,h2⟩:=fS hrise rest (k+1) _ hist h;exact ⟨_ :: rs,os,sf,⟨_,rs,rfl, .inr ⟨he, .inr ⟨hf,hlt,rfl,j,want,_,hg,e, .inl rfl⟩,h1⟩⟩,by rw [nC he];exact h2⟩
    ·exact h.elim
  ·rw [he] at h;simp only [if_true] at h
   split at h
   ·rename_i hg;obtain ⟨r,o',⟨hpo,hk⟩,hr⟩:=EJ h;obtain ⟨rs,os,sf,h1,h0,h2⟩:=fS hrise rest (k+1) _ _ hk
    exact ⟨r :: rs,o' :: os,sf,⟨r,rs,rfl, .inl ⟨he,hg,o',os,rfl,hr,h1⟩⟩,fun i e o'' hi ho=>by
     rw [AB hrise he] at hi
     cases i with
     | zero=>simp only [X2,Option.some.injEq] at hi ho;subst hi;subst ho;exact hpo
     | succ i=>rw [Yq] at hi ho;exact h0 i e o'' hi ho,h2⟩
   ·exact h.elim
def Nl (ops:Array Oper) (es:List Nat) (fs:List (Nat×Nat)) (j:Nat):Bool:=match uz fs j with
 | some c=> !es.contains j&&(fI fs j).isNone&&es.all (fun e=>decide (j<=e)||oS ops ops.size j e)&&es.all (fun e=>decide (e<c)||oS ops ops.size e j)
 | none=>false
def qZ (ops:Array Oper) (es:List Nat) (fs:List (Nat×Nat)):Bool:=ou ops&&mh es&&es.all (fun e=>decide (e<ops.size))&&(List.range ops.size).all (fun j=>(match ops[j]? with|some oo=>DT oo.op|none=>true) && !es.contains j||Gy ops es j||Az ops es fs j||Nl ops es fs j)
theorem Nn {ops:Array Oper} {es:List Nat} {fs:List (Nat×Nat)} {j:Nat} (h:Nl ops es fs j=true): ∃c,uz fs j=some c∧fI fs j=none∧es.contains j=false∧(∀e,e∈es->j<=e∨oS ops ops.size j e=true)∧(∀e,e∈es->c<=e->oS ops ops.size e j=true):=by
 unfold Nl at h
 split at h
 ·rename_i c hc;simp only [XK,Yo,X7,X9,decide_eq_true_eq] at h;refine ⟨c,hc,by have:=h.1.1.2;simpa using this,h.1.1.1,h.1.2,fun e he hle=> ?_⟩
  rcases h.2 e he with q|q
  ·omega
  ·exact q
 ·cases h
theorem GG.IV (g:GG D nu0 o0 w0 l es O) {k m:Nat} (hf: ∀e,e∈es->k<=e∨oS l.toArray l.toArray.size k e=true) (hd: ∀i,aG l.toArray k i=true->g.done i=true) (hm: ∀m' e,es[m']? = some e->(e<k↔m'<m)) (hml:m<=es.length):m<=g.c:=by
 rcases Nat.eq_zero_or_pos m with q|q
 ·omega
 ·have hlt:m - 1<es.length:=by omega
  have he:es[m - 1]? = some es[m - 1]:=Xb hlt;have hlk:=(hm _ _ he).2 (by omega)
  rcases hf _ (Ym hlt) with h|h
  ·omega
  ·have:=(g.ef _ _ he).1 (nH g h hd)
   omega
theorem zu {l:List Oper} {es:List Nat} {fs:List (Nat×Nat)} (hsz: ∀e,e∈es->e<l.length) (hrise:mh es=true): ∀(rest:List Oper) (k m:Nat) (s:AS) (hist:List (List (Option ab))) (rs:List AV) (os:List (List (Option ab))) (sf:AS),l.drop k=rest->k<=l.length->RY P l es fs rest k s hist rs os sf->m<=es.length ->
  (∀m' e,es[m']? = some e->(e<k↔m'<m))->os.length+m=es.length
 | [],k,m,s,hist,rs,os,sf,hl,hk,ht,hm,hme=>by
  obtain ⟨rfl,rfl,rfl⟩:=ht
  have hkl:k=l.length:=by have:=congrArg List.length hl;simp at this;omega
  rcases WV m es.length with q|q
  ·have he:es[m]? = some es[m]:=Xb q
   have:=(hme m _ he).1 (by rw [hkl];exact hsz _ (Ym q))
   omega
  ·simp;omega
 | oo :: rest,k,m,s,hist,rs,os,sf,hl,hk,ht,hm,hme=>by
  have hlt:k<l.length:=by have:=congrArg List.length hl;simp at this;omega
  have hl':l.drop (k+1)=rest:=by have:=congrArg List.tail hl;simpa using this
  obtain ⟨r,rs',rfl,ht⟩:=ht
  rcases ht with ⟨he,hg,o',os',rfl,hd,htr⟩|⟨he,hstep,htr⟩
  ·have hkm:k∈es:=by simpa using he
   obtain ⟨mk,hmk⟩:=Xk hkm
   have hmke:mk=m:=by
    have h1: ¬mk<m:=fun hh=>by have:=(hme mk k hmk).2 hh;omega
    rcases WV m mk with q|q
    ·have hlt2:m<es.length:=by have:=(WT.1 hmk).1;omega
     have hem:es[m]? = some es[m]:=Xb hlt2;have hlt3:=iL hrise m mk _ _ q hem hmk
     have:=(hme m _ hem).1 hlt3
     omega
    ·omega
   subst hmke;have hmlt:=(WT.1 hmk).1
   have:=zu hsz hrise rest (k+1) (mk+1) _ _ _ _ _ hl' hlt htr (by omega) (fun m' e h=>by
    by_cases hek:e=k
    ·subst hek
     have:m'=mk:=(List.getElem?_inj (WT.1 h).1 (dx hrise)).1 (h.trans hmk.symm)
     omega
    ·have:=hme m' e h
     have hne:m'≠mk:=fun hh=>by subst hh;rw [hmk] at h;cases h;exact hek rfl
     omega)
   simp only [List.length_cons];omega
  ·exact zu hsz hrise rest (k+1) m _ _ _ _ _ hl' hlt htr hm (fun m' e h=>by
    have hne:e≠k:=fun hh=>by
     subst hh
     have:=Xw h
     simp [this] at he
    rw [<-hme m' e h];omega)
theorem mE {f:Fr} {fs:List (Nat×Nat)} (hB:qZ l.toArray es fs=true) {s sf:AS} {a:Act} {w0:World} {rs:List AV} {os:List (List (Option ab))} {R:Exit->Act->World->Prop} {g0:GG D nu s.o w0 l es (fun c=>(s.o :: os).getD c [])} (hs:RS f D nu s a w0)
  (hR: ∀a' w' nu',bK nu s.o w0 nu' sf.o w'->sf.y=s.y->RS f D nu' sf a' w'->R .normal a' w') :
  ∀(rest:List Oper) (k m:Nat) (sk:AS) (hist:List (List (Option ab))) (rs1 rs2:List AV) (os2:List (List (Option ab))) (A:(Nat->Value)->Act),l.drop k=rest->RY P l es fs rest k sk hist rs2 os2 sf->(s.o :: os).take m=hist->rs=rs1++rs2->It l s a k sk rs1 A->(s.o :: os).drop m=sk.o :: os2 ->
   m<=es.length->(∀m' e,es[m']? = some e->(e<k↔m'<m))->k<=l.length ->
   Kw (N:=bJ D nu s.o w0 l es (fun c=>(s.o :: os).getD c [])) P l.toArray (rs.mapIdx (fun k r=>fY D nu s.o w0 l es (fun c=>(s.o :: os).getD c []) k r)) g0 (R .normal) rest k A
 | [],k,m,sk,hist,rs1,rs2,os2,A,hl,ht,hhi,hrs,hI,hO,hml,hme,hk=>by
  obtain ⟨rfl,rfl,rfl⟩:=ht;intro x g hE hD
  have hkl:k=l.length:=by have:=congrArg List.length hl;simp at this;omega
  have hspec: ∀i r,rs1[i]? = some r->(fY D nu s.o w0 l es (fun c=>(s.o :: os).getD c []) i r).p (x i) g:=fun i r hr=>by
   have hik:i<k:=by rw [<-hI.len];exact (WT.1 hr).1
   have:=hD i hik
   rw [hrs,List.append_nil,EN hr] at this;exact this
  have hdone: ∀i,i<k->g.done i=true:=fun i hi=>by
   have hlt:i<rs1.length:=by rw [hI.len];exact hi
   exact (hspec i _ (Xb hlt)).2
  have hsz: ∀e,e∈es->e<l.length:=by
   simp only [qZ,XK,X7,decide_eq_true_eq,Xl] at hB;exact hB.1.2
  have hm:m=es.length:=by
   rcases WV m es.length with q|q
   ·have he:es[m]? = some es[m]:=Xb q
    have:=(hme m _ he).1 (by rw [hkl];exact hsz _ (Ym q))
    omega
   ·omega
  have hc:g.c=m:=by
   have h1:=g.le
   rcases Nat.eq_zero_or_pos m with q|q
   ·omega
   ·have hlt:m - 1<es.length:=by omega
    have he:es[m - 1]? = some es[m - 1]:=Xb hlt
    have:=(g.ef _ _ he).1 (hdone _ (by rw [hkl];exact hsz _ (Ym hlt)))
    omega
  have hOm:(s.o :: os).getD m []=sf.o:=by
   have:=congrArg (fun l=>l[0]?) hO
   simp only [W9,Nat.add_zero,X2] at this;rw [XR,this];rfl
  have hro:=g.ro;have hmo:=g.mono;simp only [hc,hOm] at hro hmo;refine hR (A x) g.w g.nu hmo hI.y ⟨hro,⟨hI.size x,fun t c v h1 h2=> ?_⟩,by rw [hI.jj x];exact hs.jj.mono hs.ro hmo⟩
  rcases hI.val x t c v h1 h2 with ⟨h3,h4⟩|⟨i,q1,q2,q3,q4⟩
  ·exact (hs.tm.at' t c v h3 h4).mono hmo (fun _ _ h=>h)
  ·have:=(hspec i c q3).1
   simp only [hc,hOm] at this;rw [q4];exact this
 | oo :: rest,k,m,sk,hist,rs1,rs2,os2,A,hl,ht,hhi,hrs,hI,hO,hml,hme,hk=>by
  have hB':=hB;simp only [qZ,XK,X7,decide_eq_true_eq,Xl,List.mem_range,X9] at hB';obtain ⟨⟨⟨hrel,hrise⟩,hszs⟩,hfix⟩:=hB'
  have hlt:k<l.length:=by have:=congrArg List.length hl;simp at this;omega
  have hok:l[k]? = some oo:=by have:=congrArg (fun m=>m[0]?) hl;simpa using this
  have hl':l.drop (k+1)=rest:=by have:=congrArg List.tail hl;simpa using this
  have hOm:(s.o :: os).getD m []=sk.o:=by
   have:=congrArg (fun l=>l[0]?) hO
   simp only [W9,Nat.add_zero,X2] at this;rw [XR,this];rfl
  obtain ⟨r,rs',rfl,ht⟩:=ht
  have hrs':rs=(rs1++[r])++rs':=by rw [hrs];simp
  have hspecK:vR (rs.mapIdx (fun k r=>fY D nu s.o w0 l es (fun c=>(s.o :: os).getD c []) k r)) k=fY D nu s.o w0 l es (fun c=>(s.o :: os).getD c []) k r:=by
   rw [hrs];exact tE (by rw [List.getElem?_append_right (by rw [hI.len];exact Nat.le_refl _),hI.len,Nat.sub_self];rfl)
  have hspec: ∀(x:Nat->Value) (g:GG D nu s.o w0 l es (fun c=>(s.o :: os).getD c [])) i rr,(vR (rs.mapIdx (fun k r=>fY D nu s.o w0 l es (fun c=>(s.o :: os).getD c []) k r)) i).p (x i) g->rs1[i]? = some rr->RA D g.nu ((s.o :: os).getD g.c []) g.w rr (x i)∧g.done i=true:=fun x g i rr h hr=>by
   rw [hrs,tE (by rw [List.getElem?_append_left (WT.1 hr).1];exact hr)] at h;exact h
  have hdep: ∀i,aG l.toArray k i=true->i<k:=fun i hi=>by
   simp only [ou,XK,X7,List.mem_range,Xl] at hrel
   rcases Nat.lt_trichotomy i k with h|h|h
   ·exact h
   ·subst h
    have:=(hrel.2 i hlt).2.1
    rw [hi] at this;cases this
   ·exfalso;simp only [aG,Xd,hok,Array.any_eq_true',XK,beq_iff_eq] at hi;obtain ⟨e,he,hb,rfl⟩:=hi;have hfar:=(hrel.2 k hlt).2.2;simp only [Ax,Xd,hok,Array.all_eq_true_iff_forall_mem] at hfar
    have hel:e.on<l.length:=by simpa using hfar e he
    have:=(hrel.2 e.on hel).1 k h
    simp only [Bu,Xd,hok,Xb hel,XK,Yo] at this;have h2:=this.1.1.2;simp only [aG,Xd,hok] at h2
    have:oo.after.any (fun e_1=>Region.binds .any e_1&&e_1.on==e.on)=true:=by
     simp only [Array.any_eq_true',XK,beq_iff_eq];exact ⟨e,he,hb,rfl⟩
    rw [this] at h2;cases h2
  have hdoneD: ∀(x:Nat->Value) (g:GG D nu s.o w0 l es (fun c=>(s.o :: os).getD c [])),(∀i,aG l.toArray k i=true->(vR (rs.mapIdx (fun k r=>fY D nu s.o w0 l es (fun c=>(s.o :: os).getD c []) k r)) i).p (x i) g)-> ∀i,aG l.toArray k i=true->g.done i=true:=fun x g hD i hi=>by
   have hlt:i<rs1.length:=by rw [hI.len];exact hdep i hi
   exact (hspec x g i _ (hD i hi) (Xb hlt)).2
  
  have hlook: ∀(x:Nat->Value) (g:GG D nu s.o w0 l es (fun c=>(s.o :: os).getD c [])),(∀i,aG l.toArray k i=true->(vR (rs.mapIdx (fun k r=>fY D nu s.o w0 l es (fun c=>(s.o :: os).getD c []) k r)) i).p (x i) g)-> ∀(t:Nat) c v,t∈oo.looksAt l.toArray->sk.t[t]? = some c->(A x).tmps[t]? = some v->RA D g.nu ((s.o :: os).getD g.c []) g.w c v:=by
   intro x g hD t c v ht h1 h2
   rcases hI.val x t c v h1 h2 with ⟨h3,h4⟩|⟨i,q1,⟨oi,q2,q5⟩,q3,q4⟩
   ·exact (hs.tm.at' t c v h3 h4).mono g.mono (fun _ _ h=>h)
   ·rcases um hrel q1 q2 hok with h5|h5
    ·have:=(hspec x g i c (hD i h5) q3).1
     rw [q4];exact this
    ·exact absurd ht (h5 t q5)
  have hevs: ∀(x:Nat->Value) (g:GG D nu s.o w0 l es (fun c=>(s.o :: os).getD c [])),(∀i,aG l.toArray k i=true->(vR (rs.mapIdx (fun k r=>fY D nu s.o w0 l es (fun c=>(s.o :: os).getD c []) k r)) i).p (x i) g)->Ir D g.nu ((s.o :: os).getD g.c []) g.w sk.ev (A x).eval oo.op:=by
   intro x g hD y hy
   cases y with
   | tmp t=>
    simp only [AS.ev,Act.eval]
    rcases WV t sk.t.length with hlt|hge
    ·have e1:sk.t[t]? = some sk.t[t]:=Xb hlt
     have hlt':t<(A x).tmps.size:=by rw [<-hI.size x];exact hlt
     have hx:(A x).tmps[t]? = some (A x).tmps[t]:=Array.getElem?_eq_getElem hlt';rw [getD_some e1]
     have:(A x).tmps.getD t Go.undef=(A x).tmps[t]:=by simp [Array.getD,hlt']
     rw [this];exact hlook x g hD t _ _ (List.mem_append_left _ (List.mem_filterMap.2 ⟨.tmp t,hy,rfl⟩)) e1 hx
    ·have e0:sk.t.getD t .undef = .undef:=by rw [XR,List.getElem?_eq_none hge];rfl
     rw [e0];exact .undef _
   | const v=>exact .v v
   | global gi=>exact (nE hs.ro sk gi).mono g.mono (fun _ _ h=>h)
   | func f=>exact .fn f [] [] #[] #[] rfl rfl (fun i c x h=>by simp at h) (fun i c x h=>by simp at h)
  have hcont: ∀(x:Nat->Value),es.contains k=false-> ∀m' e,es[m']? = some e->(e<k+1↔m'<m):=fun _ he m' e h=>by
   have hne:e≠k:=fun hh=>by
    subst hh
    have:=Xw h
    simp [this] at he
   rw [<-hme m' e h];omega
  rcases ht with ⟨he,hg,o',os',rfl,hd,htr⟩|⟨he,hstep,htr⟩
  ·
   have hkm:k∈es:=by simpa using he
   obtain ⟨mk,hmk⟩:=Xk hkm
   have hmke:mk=m:=by
    have h1: ¬mk<m:=fun hh=>by have:=(hme mk k hmk).2 hh;omega
    rcases WV m mk with q|q
    ·have hlt2:m<es.length:=by have:=(WT.1 hmk).1;omega
     have hem:es[m]? = some es[m]:=Xb hlt2;have hlt3:=iL hrise m mk _ _ q hem hmk
     have:=(hme m _ hem).1 hlt3
     omega
    ·omega
   subst hmke
   have hOm1:(s.o :: os).getD (mk+1) []=o':=by
    have h1:=congrArg (fun (l:List (List (Option ab)))=>l[1]?) hO;simp only [W9] at h1;rw [XR,h1];rfl
   refine ⟨fun x g hE hD hp=> ?_, ?_⟩
   ·have hdd:=hdoneD x g hD
    have hfx:Gy l.toArray es k=true:=by
     rcases hfix k hlt with ((h|h)|h)|h
     ·have:=h.2;simp [hkm] at this
     ·exact h
     ·exfalso;simp only [Az] at h
      split at h
      ·simp only [XK,X7,X9,decide_eq_true_eq] at h
       rcases h.2 k hkm with q|q
       ·omega
       ·simp at q
      ·cases h
     ·exfalso;simp only [Nl] at h
      split at h
      ·simp only [XK] at h
       have:=h.1.1.1;simp [hkm] at this
      ·cases h
    have hc:g.c=mk:=g.pA hfx hdd hp hme hml;have hev:=hevs x g hD;have hro:=g.ro;simp only [hc,hOm] at hev hro;refine .inl ⟨by simp [Region.wanted,hg], ?_⟩;rw [hspecK]
    have hgo: ∀(v:Value) (w':World) (nu':Nat->Nat->Value),bK g.nu sk.o g.w nu' o' w'->RO D nu' o' w'->RA D nu' o' w' r v ->
      ∃g':GG D nu s.o w0 l es (fun c=>(s.o :: os).getD c []),(bJ D nu s.o w0 l es (fun c=>(s.o :: os).getD c [])).wd g'=w'∧(bJ D nu s.o w0 l es (fun c=>(s.o :: os).getD c [])).R g g'∧(∀i,i≠k->(bJ D nu s.o w0 l es (fun c=>(s.o :: os).getD c [])).pre i g->(bJ D nu s.o w0 l es (fun c=>(s.o :: os).getD c [])).pre i g')∧(fY D nu s.o w0 l es (fun c=>(s.o :: os).getD c []) k r).p v g':=by
     intro v w' nu' m1 m2 m3
     have hm':bK g.nu ((s.o :: os).getD g.c []) g.w nu' ((s.o :: os).getD (g.c+1) []) w':=by rw [hc,hOm,hOm1];exact m1
     have hr':RO D nu' ((s.o :: os).getD (g.c+1) []) w':=by rw [hc,hOm1];exact m2
     have hek:es[g.c]? = some k:=by rw [hc];exact hmk
     have hR2:=g.OW k w' nu' hm' hr' hdd hek (dx hrise)
     refine ⟨g.TE k w' nu' hm' hr' hdd hek (dx hrise),rfl,hR2.1,hR2.2, ?_, ?_⟩
     ·show RA D nu' ((s.o :: os).getD (g.c+1) []) w' r v;rw [hc,hOm1];exact m3
     ·show (if k=k then true else g.done k)=true;simp
    rcases wM (P:=P) (rho:=(A x).eval) hro hev hd with ⟨v,w',nu',h1,m1,m2,m3⟩|⟨gf,vargs,h1,h2⟩
    ·rcases h1 with h1|⟨h1,rfl⟩
     ·have e1:(execOp (A x).eval oo).run P ((bJ D nu s.o w0 l es (fun c=>(s.o :: os).getD c [])).wd g) = .ok (.value v) w':=h1;rw [e1];exact hgo v w' nu' m1 m2 m3
     ·have e1:(execOp (A x).eval oo).run P ((bJ D nu s.o w0 l es (fun c=>(s.o :: os).getD c [])).wd g) = .ok .skip w':=h1;rw [e1];exact hgo _ w' nu' m1 m2 m3
    ·have e1:(execOp (A x).eval oo).run P ((bJ D nu s.o w0 l es (fun c=>(s.o :: os).getD c [])).wd g) = .ok (.enter gf vargs) g.w:=h1;rw [e1];refine h2.mono ?_;rintro e w' ⟨v,nu',rfl,m1,m2,m3⟩;obtain ⟨g',k1,k2,k3,k4⟩:=hgo v w' nu' m1 m2 m3;exact ⟨v,g',rfl,k1,k2,k3,k4⟩
   ·refine mE hB hs hR rest (k+1) (mk+1) (sk.put oo.dst r o') (hist++[sk.o]) (rs1++[r]) rs' os' _ hl' htr (by rw [List.take_succ_eq_append_getElem (by have:=congrArg List.length hO;simp at this ⊢; omega),hhi];congr 1;have:=hOm;rw [XR,Xb (by have:=congrArg List.length hO;simp at this ⊢; omega)] at this;simpa using this) hrs' (hI.step hok r o') ?_ ((WT.1 hmk).1) (fun m' e h=> ?_) hlt
    ·have:=congrArg List.tail hO
     rw [List.tail_drop] at this;exact this
    ·by_cases hek:e=k
     ·subst hek
      have:m'=mk:=(List.getElem?_inj (WT.1 h).1 (dx hrise)).1 (h.trans hmk.symm)
      omega
     ·have:=hme m' e h
      have hne:m'≠mk:=fun hh=>by subst hh;rw [hmk] at h;cases h;exact hek rfl
      omega
  ·refine ⟨fun x g hE hD hp=> ?_, ?_⟩
   ·have hdd:=hdoneD x g hD;rw [hspecK]
    have hnext: ∀(v:Value) (w':World),RA D g.nu ((s.o :: os).getD g.c []) w' r v->Below g.w.heap.size g.w w' ->
      ∃g':GG D nu s.o w0 l es (fun c=>(s.o :: os).getD c []),(bJ D nu s.o w0 l es (fun c=>(s.o :: os).getD c [])).wd g'=w'∧(bJ D nu s.o w0 l es (fun c=>(s.o :: os).getD c [])).R g g'∧(∀i,i≠k->(bJ D nu s.o w0 l es (fun c=>(s.o :: os).getD c [])).pre i g->(bJ D nu s.o w0 l es (fun c=>(s.o :: os).getD c [])).pre i g')∧(fY D nu s.o w0 l es (fun c=>(s.o :: os).getD c []) k r).p v g':=by
     intro v w' hr hb;have hR2:=g.Kr k w' hb hdd he;refine ⟨g.next k w' hb hdd he,rfl,hR2.1,hR2.2,hr, ?_⟩;show (if k=k then true else g.done k)=true;simp
    have hyv: ∀j want,oo.guard=some (j,want)-> ∀gg,jk l sk j=some gg->yielded l.toArray (A x).tmps j=gg:=fun j want hg gg hgv=>
     ig (s:=⟨sk.t,(s.o :: os).getD g.c [],sk.y⟩) (D:=D) (nu:=g.nu) (w:=g.w) (fun d c v hd h1 h2=>by
      refine hlook x g hD d c v ?_ h1 h2;obtain ⟨og,q1,q2⟩:=hd;refine List.mem_append_right _ ?_;simp only [hg,Xd,q1,Option.bind_some,q2]
      simp) (hI.size x) (show jk l ⟨sk.t,_,sk.y⟩ j=some gg from hgv)
    rcases hstep with ⟨hw,hd,hfl,hlat⟩|⟨_,_,rfl,j,want,gg,hg,hgv,hno⟩
    ·have hwant:Region.wanted oo (yielded l.toArray (A x).tmps)=true:=by
      rcases hw with hg|⟨j,want,b,hg,hgv,hb⟩
      ·simp [Region.wanted,hg]
      ·simp only [Region.wanted,hg,hyv j want hg _ hgv];simpa using hb
     refine .inl ⟨hwant, ?_⟩
     have hd':bZ P oo.op ⟨sk.t,(s.o :: os).getD g.c [],sk.y⟩ (fun r'=>r'=r):=by
      rcases hfix k hlt with ((h|h)|h)|h
      ·rw [show l.toArray[k]? = some oo by simpa using hok] at h;exact wN (by simpa using h.1) (show bZ P oo.op ⟨sk.t,sk.o,sk.y⟩ (fun r'=>r'=r) from hd)
      ·have hc:g.c=m:=g.pA h hdd hp hme hml;rw [hc,hOm];exact hd
      ·have hlo: ∃lo,fI fs k=some lo:=by
        simp only [Az] at h
        split at h
        ·exact ⟨_, ‹_›⟩
        ·cases h
       obtain ⟨lo,hlo⟩:=hlo;obtain ⟨c1,c2⟩:=g.Aa h hlo hdd hp hme
       rcases Nat.eq_or_lt_of_le c2 with hc|hc
       ·rw [hc,hOm];exact hd
       ·have hgl:g.c<(s.o :: os).length:=by have:=congrArg List.length hO;simp at this ⊢; omega
        refine hfl lo hlo _ ?_;rw [<-hhi,XR,Xb hgl];refine List.mem_drop_iff_getElem.2 ⟨g.c - lo,by simp at hgl ⊢; omega, ?_⟩;rw [List.getElem_take];simp only [Option.getD_some]
        congr 1
        omega
      ·obtain ⟨cc,hcc,q1,q2,q3,q4⟩:=Nn h;have hc:=g.IV q3 hdd hme hml
       rcases Nat.eq_or_lt_of_le hc with hc|hc
       ·rw [<-hc,hOm];exact hd
       ·have hle:=g.le;have hln:=zu hszs hrise rest (k+1) m _ _ _ _ _ hl' (by omega) htr hml (hcont (fun _=>Go.undef) he);have e1:=congrArg (fun (l:List (List (Option ab)))=>l[g.c - m]?) hO;obtain ⟨d,hd1⟩: ∃d,g.c - m=d+1:=⟨g.c - m - 1,by omega⟩;simp only [W9,show m+(g.c - m)=g.c by omega] at e1;rw [hd1,Yq,Xb (l:=os2) (by omega)] at e1;rw [XR,e1]
        have hlt3:m+d<es.length:=by omega
        have hed:es[m+d]? = some es[m+d]:=Xb hlt3
        refine hlat q1 cc hcc d es[m+d] _ ?_ ?_ (Xb (l:=os2) (by omega))
        ·rw [Gz (hcont (fun _=>Go.undef) he),W9];exact hed
        ·rcases WV es[m+d] cc with q|q
         ·exact q
         ·exfalso;have h5:=kU g _ _ _ (q4 _ (Ym hlt3) q) ((g.ef _ _ hed).2 (by omega));have h6:g.done k=false:=hp;rw [h6] at h5;cases h5
     obtain ⟨r',rfl,hout⟩:=fQ (P:=P) (s:=⟨sk.t,(s.o :: os).getD g.c [],sk.y⟩) (rho:=(A x).eval) g.ro (hevs x g hD) hd';have e0:(execOp (A x).eval oo).run P ((bJ D nu s.o w0 l es (fun c=>(s.o :: os).getD c [])).wd g)=(execOp (A x).eval oo).run P g.w:=rfl;rw [e0];generalize (execOp (A x).eval oo).run P g.w=res at hout
     cases res with
     | halt _ _=>exact hout.elim
     | ok n w'=>
      cases n<;>first|exact hout.elim|skip
      case value u=>exact hnext u w' hout.1.2 hout.2
      case skip=>exact hnext _ w' hout.1.2 hout.2
      case enter gf vargs=>
       refine Calls.mono hout ?_;rintro e w'' ⟨v,rfl,hv,hb⟩;obtain ⟨g',k1,k2,k3,k4⟩:=hnext v w'' hv.2 hb;exact ⟨v,g',rfl,k1,k2,k3,k4⟩
    ·refine .inr ⟨?_, ?_⟩
     ·simp only [Region.wanted,hg,hyv j want hg _ hgv]
      rcases hno with rfl|⟨b,rfl,hb⟩
      ·rfl
      ·simpa using hb
     ·obtain ⟨g',k1,k2,k3,k4⟩:=hnext Go.undef g.w (.v _) (.refl _ _);exact ⟨g',k1,k2,k3,k4⟩
   ·have hO':(s.o :: os).drop m=(sk.put oo.dst r s.o).o :: os2->True:=fun _=>trivial;refine mE hB hs hR rest (k+1) m (sk.put oo.dst r sk.o) hist (rs1++[r]) rs' os2 _ hl' ?_ hhi hrs' (hI.step hok r sk.o) hO hml (hcont (fun _=>Go.undef) he) hlt;exact htr
theorem Ga {n0 id:Nat} {s:AS} {l:List Oper} {Q:bd->AS->Prop} (es:List Nat) (fs:List (Nat×Nat)) (hB:qZ l.toArray es fs=true) (hC:dw l.toArray=true) (h:dO P l es fs l 0 s [] none (Q .normal)):cm P n0 (.region id l.toArray true) s Q:=by
 refine .inr (fun f m D nu a w hZr hn hm hs hmx R hO hR=> ?_);obtain ⟨rs,os,sf,htr,_,hq⟩:=fS (by simp only [qZ,XK] at hB;exact hB.1.1.2) l 0 s [] h;have hs':=hs.drew
 have hrel:ou l.toArray=true:=by
  simp only [qZ,XK] at hB;exact hB.1.1.1
 let g0:GG D nu s.o w.drew l es (fun c=>(s.o :: os).getD c []):=⟨w.drew,nu,fun _=>false,0,hs'.ro, .refl _ _ _,(fun _ _ h=>by cases h),(fun _ _ _=>by simp),Nat.zero_le _⟩
 have hobl:=mE (P:=P) (R:=R) (rs:=rs) (g0:=g0) hB hs' (fun a' w' nu' h1 hy h2=>hR .normal D f.Z sf a' w' nu' (by rw [hy];exact m.own hm hs.ro ((ay (cC w)).trans h1) h2.ro) h2 hq) l 0 0 s [] [] rs os (fun _=>a) (by simp) htr (by simp) (by simp) ⟨rfl,rfl,fun _=>rfl,fun _=>hs.tm.len,fun x t c v h1 h2=> .inl ⟨h1,h2⟩⟩ (by simp) (Nat.zero_le _) (fun m' e _=>by simp) (Nat.zero_le _);exact nt hmx hC hO (kI (N:=bJ D nu s.o w.drew l es (fun c=>(s.o :: os).getD c [])) _ hrel g0 rfl (fun _=>rfl) hobl)
theorem gn {all rest:List Oper} {es:List Nat} {fs:List (Nat×Nat)} {oo:Oper} {k:Nat} {s:AS} {hist:List (List (Option ab))} {pn:Option (Nat->List (Option ab)->Prop)} {Q:AS->Prop} (he:(es.contains k||(fI fs k).isSome||(uz fs k).isSome)=false) (h: ∀K:AS->Prop,(∀s',dO P all es fs rest (k+1) s' hist pn Q->K s')->dQ P all oo s K):dO P all es fs (oo :: rest) k s hist pn Q:=by
 simp only [Bool.or_eq_false_iff] at he;simp only [dO,he.1.1,Yk,if_false]
 cases hf:fI fs k with
 | some lo=>rw [hf] at he;simp at he
 | none=>
  have:uz fs k=none:=by have:=he.2;simpa using this
  rw [this];exact h _ (fun _ h=>h)
theorem ek {all rest:List Oper} {es:List Nat} {fs:List (Nat×Nat)} {dst:Option Tmp} {op:Op} {ty:TypeId} {pos:String} {aft:Array Edge} {k:Nat} {s:AS} {hist:List (List (Option ab))} {p:Nat->List (Option ab)->Prop} {Q:AS->Prop} (he:es.contains k=true) (h: ∀K:AS->Prop,(∀s',dO P all es fs rest (k+1) s' (hist++[s.o]) (some p) Q->K s')->qy P op s (fun r o'=>p k o'∧K (s.put dst r o'))):dO P all es fs (⟨dst,op,ty,pos,aft,none⟩ :: rest) k s hist (some p) Q:=by
 simp only [dO,he,if_true,Rl];exact h _ (fun _ h=>h)
theorem gp {all rest:List Oper} {es:List Nat} {fs:List (Nat×Nat)} {dst:Option Tmp} {op:Op} {ty:TypeId} {pos:String} {aft:Array Edge} {k c:Nat} {s:AS} {hist:List (List (Option ab))} {pn:Option (Nat->List (Option ab)->Prop)} {Q:AS->Prop} (he:(!es.contains k&&(fI fs k).isNone)=true) (hc:uz fs k=some c) (h:bZ P op s (fun r=>dO P all es fs rest (k+1) (s.put dst r s.o) hist (some fun k' o'=>Rl pn k' o'∧(if k'<c then bZ P op ⟨s.t,o',s.y⟩ (fun r'=>r'=r) else True)) Q)):dO P all es fs (⟨dst,op,ty,pos,aft,none⟩ :: rest) k s hist pn Q:=by
 simp only [XK,Yo] at he;simp only [dO,he.1,Yk,if_false]
 cases hf:fI fs k with
 | some lo=>rw [hf] at he;simp at he
 | none=>rw [hc];exact ⟨trivial,h⟩
theorem CR {all:List Oper} {es:List Nat} {fs:List (Nat×Nat)} {k:Nat} {s:AS} {hist:List (List (Option ab))} {pn:Option (Nat->List (Option ab)->Prop)} {Q:AS->Prop} (h:Q s):dO P all es fs [] k s hist pn Q:=h
instance {all:List Oper} {es:List Nat} {fs:List (Nat×Nat)} {k:Nat} {s:AS} {hist:List (List (Option ab))} {pn:Option (Nat->List (Option ab)->Prop)} {Q:AS->Prop}:aw (dO P all es fs [] k s hist pn Q) (Q s):=⟨CR⟩
end
attribute [go_sem] Rl
end
theorem au {p q:Prop} (h:q) (f:q->p:=by intro h;(repeat (first|(with_reducible first|refine aw.up ?_|refine fun (K:AK) hK=> ?_|(refine hK _ ?_;clear hK K))|simp only [go_sem]|with_reducible refine wA ?_|clear hK K));(iterate 8 (try revert K));exact h):p:=f h
theorem pR {p:Prop} (f:p:=by (repeat (first|(with_reducible first|refine aw.up ?_|refine fun (K:AK) hK=> ?_|(refine hK _ ?_;clear hK K))|simp only [go_sem]|with_reducible refine wA ?_|clear hK K))<;>fail):p:=f
theorem aP {p q e0:Prop} (a0:e0) (h:q) (f:q->e0->p:=by intro h a0;(repeat (first|(with_reducible first|refine aw.up ?_|refine fun (K:AK) hK=> ?_|(refine hK _ ?_;clear hK K))|simp only [go_sem,a0]|with_reducible refine wA ?_|clear hK K));(iterate 8 (try revert K));exact h):p:=f h a0
theorem E5 {p e0:Prop} (a0:e0) (f:e0->p:=by intro a0;(repeat (first|(with_reducible first|refine aw.up ?_|refine fun (K:AK) hK=> ?_|(refine hK _ ?_;clear hK K))|simp only [go_sem,a0]|with_reducible refine wA ?_|clear hK K))<;>fail):p:=f a0
theorem rZ {p q e0 e1:Prop} (a0:e0) (a1:e1) (h:q) (f:q->e0->e1->p:=by intro h a0 a1;(repeat (first|(with_reducible first|refine aw.up ?_|refine fun (K:AK) hK=> ?_|(refine hK _ ?_;clear hK K))|simp only [go_sem,a0,a1]|with_reducible refine wA ?_|clear hK K));(iterate 8 (try revert K));exact h):p:=f h a0 a1
theorem JJ {p e0 e1:Prop} (a0:e0) (a1:e1) (f:e0->e1->p:=by intro a0 a1;(repeat (first|(with_reducible first|refine aw.up ?_|refine fun (K:AK) hK=> ?_|(refine hK _ ?_;clear hK K))|simp only [go_sem,a0,a1]|with_reducible refine wA ?_|clear hK K))<;>fail):p:=f a0 a1
theorem Sf {p q e0 e1 e2:Prop} (a0:e0) (a1:e1) (a2:e2) (h:q) (f:q->e0->e1->e2->p:=by intro h a0 a1 a2;(repeat (first|(with_reducible first|refine aw.up ?_|refine fun (K:AK) hK=> ?_|(refine hK _ ?_;clear hK K))|simp only [go_sem,a0,a1,a2]|with_reducible refine wA ?_|clear hK K));(iterate 8 (try revert K));exact h):p:=f h a0 a1 a2
theorem Sh {p e0 e1 e2 e3 e4:Prop} (a0:e0) (a1:e1) (a2:e2) (a3:e3) (a4:e4) (f:e0->e1->e2->e3->e4->p:=by intro a0 a1 a2 a3 a4;(repeat (first|(with_reducible first|refine aw.up ?_|refine fun (K:AK) hK=> ?_|(refine hK _ ?_;clear hK K))|simp only [go_sem,a0,a1,a2,a3,a4]|with_reducible refine wA ?_|clear hK K))<;>fail):p:=f a0 a1 a2 a3 a4
theorem r6 {p q e0 e1 e2 e3 e4 e5:Prop} (a0:e0) (a1:e1) (a2:e2) (a3:e3) (a4:e4) (a5:e5) (h:q) (f:q->e0->e1->e2->e3->e4->e5->p:=by intro h a0 a1 a2 a3 a4 a5;(repeat (first|(with_reducible first|refine aw.up ?_|refine fun (K:AK) hK=> ?_|(refine hK _ ?_;clear hK K))|simp only [go_sem,a0,a1,a2,a3,a4,a5]|with_reducible refine wA ?_|clear hK K));(iterate 8 (try revert K));exact h):p:=f h a0 a1 a2 a3 a4 a5
theorem bq {p q:Prop} (h:q) (f:q->p:=by intro h;(repeat (first|(with_reducible first|refine aw.up ?_|refine fun (K:AK) hK=> ?_|(refine hK _ ?_;clear hK K))|simp only [go_sem]|clear hK K));(iterate 8 (try revert K));exact h):p:=f h
theorem pS {p:Prop} (f:p:=by (repeat (first|(with_reducible first|refine aw.up ?_|refine fun (K:AK) hK=> ?_|(refine hK _ ?_;clear hK K))|simp only [go_sem]|clear hK K))<;>fail):p:=f
theorem JB {p q e0:Prop} (a0:e0) (h:q) (f:q->e0->p:=by intro h a0;(repeat (first|(with_reducible first|refine aw.up ?_|refine fun (K:AK) hK=> ?_|(refine hK _ ?_;clear hK K))|simp only [go_sem,a0]|clear hK K));(iterate 8 (try revert K));exact h):p:=f h a0
theorem O9 {p e0:Prop} (a0:e0) (f:e0->p:=by intro a0;(repeat (first|(with_reducible first|refine aw.up ?_|refine fun (K:AK) hK=> ?_|(refine hK _ ?_;clear hK K))|simp only [go_sem,a0]|clear hK K))<;>fail):p:=f a0
theorem bU {p q:Prop} (h:q) (f:q->p:=by intro h;(repeat (first|(with_reducible first|refine aw.up ?_|refine fun (K:AK) hK=> ?_|refine wD ?_|(refine hK _ ?_;clear hK K))|simp only [go_sem]|with_reducible refine wA ?_|clear hK K));(iterate 8 (try revert K));exact h):p:=f h
theorem r8 {p:Prop} (f:p:=by (repeat (first|(with_reducible first|refine aw.up ?_|refine fun (K:AK) hK=> ?_|refine wD ?_|(refine hK _ ?_;clear hK K))|simp only [go_sem]|with_reducible refine wA ?_|clear hK K))<;>fail):p:=f
theorem w8 {p q e0:Prop} (a0:e0) (h:q) (f:q->e0->p:=by intro h a0;(repeat (first|(with_reducible first|refine aw.up ?_|refine fun (K:AK) hK=> ?_|refine wD ?_|(refine hK _ ?_;clear hK K))|simp only [go_sem,a0]|with_reducible refine wA ?_|clear hK K));(iterate 8 (try revert K));exact h):p:=f h a0
theorem OX {p q e0 e1 e2 e3 e4:Prop} (a0:e0) (a1:e1) (a2:e2) (a3:e3) (a4:e4) (h:q) (f:q->e0->e1->e2->e3->e4->p:=by intro h a0 a1 a2 a3 a4;(repeat (first|(with_reducible first|refine aw.up ?_|refine fun (K:AK) hK=> ?_|refine wD ?_|(refine hK _ ?_;clear hK K))|simp only [go_sem,a0,a1,a2,a3,a4]|with_reducible refine wA ?_|clear hK K));(iterate 8 (try revert K));exact h):p:=f h a0 a1 a2 a3 a4
theorem dZ {p q:Prop} (h:q) (f:q->p:=by intro h;(repeat (first|(with_reducible first|refine aw.up ?_|refine fun (K:AK) hK=> ?_|refine wE ?_|refine wK ?_|refine wF ?_|(refine hK _ ?_;clear hK K))|simp only [go_sem]|with_reducible refine wA ?_|clear hK K));(iterate 8 (try revert K));exact h):p:=f h
theorem Si {p:Prop} (f:p:=by (repeat (first|(with_reducible first|refine aw.up ?_|refine fun (K:AK) hK=> ?_|refine wE ?_|refine wK ?_|refine wF ?_|(refine hK _ ?_;clear hK K))|simp only [go_sem]|with_reducible refine wA ?_|clear hK K))<;>fail):p:=f
theorem kS {p q e0:Prop} (a0:e0) (h:q) (f:q->e0->p:=by intro h a0;(repeat (first|(with_reducible first|refine aw.up ?_|refine fun (K:AK) hK=> ?_|refine wE ?_|refine wK ?_|refine wF ?_|(refine hK _ ?_;clear hK K))|simp only [go_sem,a0]|with_reducible refine wA ?_|clear hK K));(iterate 8 (try revert K));exact h):p:=f h a0
theorem fV {p q:Prop} (h:q) (f:q->p:=by intro h;(repeat (first|(with_reducible first|refine aw.up ?_|refine fun (K:AK) hK=> ?_|refine wD ?_|refine ae (by decide) ?_|refine ag (by decide) ?_|(refine hK _ ?_;clear hK K))|simp only [go_sem]|with_reducible refine wA ?_|clear hK K));(iterate 8 (try revert K));exact h):p:=f h
theorem kT {p q e0:Prop} (a0:e0) (h:q) (f:q->e0->p:=by intro h a0;(repeat (first|(with_reducible first|refine aw.up ?_|refine fun (K:AK) hK=> ?_|refine wD ?_|refine ae (by decide) ?_|refine ag (by decide) ?_|(refine hK _ ?_;clear hK K))|simp only [go_sem,a0]|with_reducible refine wA ?_|clear hK K));(iterate 8 (try revert K));exact h):p:=f h a0
theorem OY {p q e0 e1:Prop} (a0:e0) (a1:e1) (h:q) (f:q->e0->e1->p:=by intro h a0 a1;(repeat (first|(with_reducible first|refine aw.up ?_|refine fun (K:AK) hK=> ?_|refine wD ?_|refine ae (by decide) ?_|refine ag (by decide) ?_|(refine hK _ ?_;clear hK K))|simp only [go_sem,a0,a1]|with_reducible refine wA ?_|clear hK K));(iterate 8 (try revert K));exact h):p:=f h a0 a1
theorem gW {p q:Prop} (h:q) (f:q->p:=by intro h;(repeat (first|(with_reducible first|refine aw.up ?_|refine fun (K:AK) hK=> ?_|(refine hK _ ?_;clear hK K))|simp only [go_sem,Go.undef]|with_reducible refine wA ?_|clear hK K));(iterate 8 (try revert K));exact h):p:=f h
theorem Sj {p:Prop} (f:p:=by (repeat (first|(with_reducible first|refine aw.up ?_|refine fun (K:AK) hK=> ?_|(refine hK _ ?_;clear hK K))|simp only [go_sem,Go.undef]|with_reducible refine wA ?_|clear hK K))<;>fail):p:=f
theorem w9 {p q e0:Prop} (a0:e0) (h:q) (f:q->e0->p:=by intro h a0;(repeat (first|(with_reducible first|refine aw.up ?_|refine fun (K:AK) hK=> ?_|(refine hK _ ?_;clear hK K))|simp only [go_sem,Go.undef,a0]|with_reducible refine wA ?_|clear hK K));(iterate 8 (try revert K));exact h):p:=f h a0
theorem Sk {p e0:Prop} (a0:e0) (f:e0->p:=by intro a0;(repeat (first|(with_reducible first|refine aw.up ?_|refine fun (K:AK) hK=> ?_|(refine hK _ ?_;clear hK K))|simp only [go_sem,Go.undef,a0]|with_reducible refine wA ?_|clear hK K))<;>fail):p:=f a0
theorem E3 {p q e0 e1:Prop} (a0:e0) (a1:e1) (h:q) (f:q->e0->e1->p:=by intro h a0 a1;(repeat (first|(with_reducible first|refine aw.up ?_|refine fun (K:AK) hK=> ?_|(refine hK _ ?_;clear hK K))|simp only [go_sem,Go.undef,a0,a1]|with_reducible refine wA ?_|clear hK K));(iterate 8 (try revert K));exact h):p:=f h a0 a1
theorem Sl {p e0 e1:Prop} (a0:e0) (a1:e1) (f:e0->e1->p:=by intro a0 a1;(repeat (first|(with_reducible first|refine aw.up ?_|refine fun (K:AK) hK=> ?_|(refine hK _ ?_;clear hK K))|simp only [go_sem,Go.undef,a0,a1]|with_reducible refine wA ?_|clear hK K))<;>fail):p:=f a0 a1
theorem Sm {p e0 e1 e2 e3:Prop} (a0:e0) (a1:e1) (a2:e2) (a3:e3) (f:e0->e1->e2->e3->p:=by intro a0 a1 a2 a3;(repeat (first|(with_reducible first|refine aw.up ?_|refine fun (K:AK) hK=> ?_|(refine hK _ ?_;clear hK K))|simp only [go_sem,Go.undef,a0,a1,a2,a3]|with_reducible refine wA ?_|clear hK K))<;>fail):p:=f a0 a1 a2 a3
theorem OZ {p q e0 e1 e2:Prop} (a0:e0) (a1:e1) (a2:e2) (h:q) (f:q->e0->e1->e2->p:=by intro h a0 a1 a2;(repeat (first|(with_reducible first|refine aw.up ?_|refine fun (K:AK) hK=> ?_|refine wE ?_|refine wK ?_|refine wF ?_|(refine hK _ ?_;clear hK K))|simp only [go_sem,Go.undef,a0,a1,a2]|with_reducible refine wA ?_|clear hK K));(iterate 8 (try revert K));exact h):p:=f h a0 a1 a2
theorem AF {p q:Prop} (h:q) (f:q->p:=by intro h;(repeat (first|(with_reducible first|refine aw.up ?_|refine fun (K:AK) hK=> ?_|refine ae (by decide) ?_|refine ag (by decide) ?_|(refine hK _ ?_;clear hK K))|simp only [go_sem,Go.undef]|with_reducible refine wA ?_|clear hK K));(iterate 8 (try revert K));exact h):p:=f h
theorem Sn {p:Prop} (f:p:=by (repeat (first|(with_reducible first|refine aw.up ?_|refine fun (K:AK) hK=> ?_|refine ae (by decide) ?_|refine ag (by decide) ?_|(refine hK _ ?_;clear hK K))|simp only [go_sem,Go.undef]|with_reducible refine wA ?_|clear hK K))<;>fail):p:=f
theorem E4 {p q e0:Prop} (a0:e0) (h:q) (f:q->e0->p:=by intro h a0;(repeat (first|(with_reducible first|refine aw.up ?_|refine fun (K:AK) hK=> ?_|refine ae (by decide) ?_|refine ag (by decide) ?_|(refine hK _ ?_;clear hK K))|simp only [go_sem,Go.undef,a0]|with_reducible refine wA ?_|clear hK K));(iterate 8 (try revert K));exact h):p:=f h a0
theorem JH {p q e0 e1:Prop} (a0:e0) (a1:e1) (h:q) (f:q->e0->e1->p:=by intro h a0 a1;(repeat (first|(with_reducible first|refine aw.up ?_|refine fun (K:AK) hK=> ?_|refine ae (by decide) ?_|refine ag (by decide) ?_|(refine hK _ ?_;clear hK K))|simp only [go_sem,Go.undef,a0,a1]|with_reducible refine wA ?_|clear hK K));(iterate 8 (try revert K));exact h):p:=f h a0 a1
theorem O0 {p q e0 e1 e2 e3 e4:Prop} (a0:e0) (a1:e1) (a2:e2) (a3:e3) (a4:e4) (h:q) (f:q->e0->e1->e2->e3->e4->p:=by intro h a0 a1 a2 a3 a4;(repeat (first|(with_reducible first|refine aw.up ?_|refine fun (K:AK) hK=> ?_|refine ae (by decide) ?_|refine ag (by decide) ?_|(refine hK _ ?_;clear hK K))|simp only [go_sem,Go.undef,a0,a1,a2,a3,a4]|with_reducible refine wA ?_|clear hK K));(iterate 8 (try revert K));exact h):p:=f h a0 a1 a2 a3 a4
theorem JI {p q:Prop} (h:q) (f:q->p:=by intro h;(repeat (first|(with_reducible first|refine aw.up ?_|refine fun (K:AK) hK=> ?_|(refine hK _ ?_;clear hK K))|simp only [go_sem,Go.undef]|clear hK K));(iterate 8 (try revert K));exact h):p:=f h
theorem Pa {p:Prop} (f:p:=by (repeat (first|(with_reducible first|refine aw.up ?_|refine fun (K:AK) hK=> ?_|(refine hK _ ?_;clear hK K))|simp only [go_sem,Go.undef]|clear hK K))<;>fail):p:=f
theorem l9 {p q e0:Prop} (a0:e0) (h:q) (f:q->e0->p:=by intro h a0;(repeat (first|(with_reducible first|refine aw.up ?_|refine fun (K:AK) hK=> ?_|(refine hK _ ?_;clear hK K))|simp only [go_sem,Go.undef,a0]|clear hK K));(iterate 8 (try revert K));exact h):p:=f h a0
theorem Pb {p e0:Prop} (a0:e0) (f:e0->p:=by intro a0;(repeat (first|(with_reducible first|refine aw.up ?_|refine fun (K:AK) hK=> ?_|(refine hK _ ?_;clear hK K))|simp only [go_sem,Go.undef,a0]|clear hK K))<;>fail):p:=f a0
theorem O7 {p q e0 e1:Prop} (a0:e0) (a1:e1) (h:q) (f:q->e0->e1->p:=by intro h a0 a1;(repeat (first|(with_reducible first|refine aw.up ?_|refine fun (K:AK) hK=> ?_|(refine hK _ ?_;clear hK K))|simp only [go_sem,Go.undef,a0,a1]|clear hK K));(iterate 8 (try revert K));exact h):p:=f h a0 a1
theorem O8 {p q e0 e1 e2:Prop} (a0:e0) (a1:e1) (a2:e2) (h:q) (f:q->e0->e1->e2->p:=by intro h a0 a1 a2;(repeat (first|(with_reducible first|refine aw.up ?_|refine fun (K:AK) hK=> ?_|(refine hK _ ?_;clear hK K))|simp only [go_sem,Go.undef,a0,a1,a2]|clear hK K));(iterate 8 (try revert K));exact h):p:=f h a0 a1 a2
theorem ma {p q:Prop} (h:q) (f:q->p:=by intro h;(repeat (first|(with_reducible first|refine aw.up ?_|refine fun (K:AK) hK=> ?_|refine wD ?_|refine ae (by decide) ?_|refine ag (by decide) ?_|(refine hK _ ?_;clear hK K))|simp only [go_sem]|with_reducible refine wA ?_|(refine cv rfl ?_)|clear hK K));(iterate 8 (try revert K));exact h):p:=f h
theorem xa {p q e0:Prop} (a0:e0) (h:q) (f:q->e0->p:=by intro h a0;(repeat (first|(with_reducible first|refine aw.up ?_|refine fun (K:AK) hK=> ?_|refine wD ?_|refine ae (by decide) ?_|refine ag (by decide) ?_|(refine hK _ ?_;clear hK K))|simp only [go_sem,a0]|with_reducible refine wA ?_|(refine cv rfl ?_)|clear hK K));(iterate 8 (try revert K));exact h):p:=f h a0
theorem dY {p q:Prop} (h:q) (f:q->p:=by intro h;(repeat (first|(with_reducible first|refine aw.up ?_|refine fun (K:AK) hK=> ?_|refine ae (by decide) ?_|refine ag (by decide) ?_|(refine hK _ ?_;clear hK K))|simp only [go_sem]|with_reducible refine wA ?_|clear hK K));(iterate 8 (try revert K));exact h):p:=f h
theorem P1 {p q e0:Prop} (a0:e0) (h:q) (f:q->e0->p:=by intro h a0;(repeat (first|(with_reducible first|refine aw.up ?_|refine fun (K:AK) hK=> ?_|refine ae (by decide) ?_|refine ag (by decide) ?_|(refine hK _ ?_;clear hK K))|simp only [go_sem,a0]|with_reducible refine wA ?_|clear hK K));(iterate 8 (try revert K));exact h):p:=f h a0
theorem mL {p q:Prop} (h:q) (f:q->p:=by intro h;(repeat (first|(with_reducible first|refine aw.up ?_|refine fun (K:AK) hK=> ?_|refine wD ?_|refine ae (by decide) ?_|(refine hK _ ?_;clear hK K))|simp only [go_sem]|with_reducible refine wA ?_|clear hK K));(iterate 8 (try revert K));exact h):p:=f h
theorem qW {p q e0:Prop} (a0:e0) (h:q) (f:q->e0->p:=by intro h a0;(repeat (first|(with_reducible first|refine aw.up ?_|refine fun (K:AK) hK=> ?_|refine wD ?_|refine ae (by decide) ?_|(refine hK _ ?_;clear hK K))|simp only [go_sem,a0]|with_reducible refine wA ?_|clear hK K));(iterate 8 (try revert K));exact h):p:=f h a0
theorem P2 {p q e0 e1 e2:Prop} (a0:e0) (a1:e1) (a2:e2) (h:q) (f:q->e0->e1->e2->p:=by intro h a0 a1 a2;(repeat (first|(with_reducible first|refine aw.up ?_|refine fun (K:AK) hK=> ?_|refine wD ?_|refine ae (by decide) ?_|(refine hK _ ?_;clear hK K))|simp only [go_sem,a0,a1,a2]|with_reducible refine wA ?_|clear hK K));(iterate 8 (try revert K));exact h):p:=f h a0 a1 a2
theorem ic {p q e0:Prop} (a0:e0) (h:q) (f:q->e0->p:=by intro h a0;(repeat (first|(with_reducible first|refine aw.up ?_|refine fun (K:AK) hK=> ?_|(refine hK _ ?_;clear hK K))|simp only [go_sem,Go.undef,e0,a0]|with_reducible refine wA ?_|clear hK K));(iterate 8 (try revert K));exact h):p:=f h a0
theorem Qf {p e0:Prop} (a0:e0) (f:e0->p:=by intro a0;(repeat (first|(with_reducible first|refine aw.up ?_|refine fun (K:AK) hK=> ?_|(refine hK _ ?_;clear hK K))|simp only [go_sem,Go.undef,e0,a0]|with_reducible refine wA ?_|clear hK K))<;>fail):p:=f a0
theorem Qg {p e0 e1 e2:Prop} (a0:e0) (a1:e1) (a2:e2) (f:e0->e1->e2->p:=by intro a0 a1 a2;(repeat (first|(with_reducible first|refine aw.up ?_|refine fun (K:AK) hK=> ?_|(refine hK _ ?_;clear hK K))|simp only [go_sem,Go.undef,e0,a0,a1,a2]|with_reducible refine wA ?_|clear hK K))<;>fail):p:=f a0 a1 a2
theorem P3 {p q e0:Prop} (a0:e0) (h:q) (f:q->e0->p:=by intro h a0;(repeat (first|(with_reducible first|refine aw.up ?_|refine fun (K:AK) hK=> ?_|refine wD ?_|(refine hK _ ?_;clear hK K))|simp only [go_sem,Go.undef,a0]|with_reducible refine wA ?_|clear hK K));(iterate 8 (try revert K));exact h):p:=f h a0
theorem Jz {p q e0 e1:Prop} (a0:e0) (a1:e1) (h:q) (f:q->e0->e1->p:=by intro h a0 a1;(repeat (first|(with_reducible first|refine aw.up ?_|refine fun (K:AK) hK=> ?_|refine wD ?_|(refine hK _ ?_;clear hK K))|simp only [go_sem,Go.undef,a0,a1]|with_reducible refine wA ?_|clear hK K));(iterate 8 (try revert K));exact h):p:=f h a0 a1
theorem uf {p q e0 e1 e2:Prop} (a0:e0) (a1:e1) (a2:e2) (h:q) (f:q->e0->e1->e2->p:=by intro h a0 a1 a2;(repeat (first|(with_reducible first|refine aw.up ?_|refine fun (K:AK) hK=> ?_|refine wD ?_|(refine hK _ ?_;clear hK K))|simp only [go_sem,Go.undef,a0,a1,a2]|with_reducible refine wA ?_|clear hK K));(iterate 8 (try revert K));exact h):p:=f h a0 a1 a2
theorem Dr {p q e0 e1 e2 e3 e4:Prop} (a0:e0) (a1:e1) (a2:e2) (a3:e3) (a4:e4) (h:q) (f:q->e0->e1->e2->e3->e4->p:=by intro h a0 a1 a2 a3 a4;(repeat (first|(with_reducible first|refine aw.up ?_|refine fun (K:AK) hK=> ?_|refine wD ?_|(refine hK _ ?_;clear hK K))|simp only [go_sem,Go.undef,a0,a1,a2,a3,a4]|with_reducible refine wA ?_|clear hK K));(iterate 8 (try revert K));exact h):p:=f h a0 a1 a2 a3 a4
theorem Ds {p q:Prop} (h:q) (f:q->p:=by intro h;(repeat (first|(with_reducible first|refine aw.up ?_|refine fun (K:AK) hK=> ?_|refine wE ?_|refine wK ?_|refine wF ?_|refine ae (by decide) ?_|refine ag (by decide) ?_|(refine hK _ ?_;clear hK K))|simp only [go_sem,List.length_append,ah,nG,zH,nS,zI]|with_reducible refine wA ?_|clear hK K));(iterate 8 (try revert K));exact h):p:=f h
theorem qX {p q e0:Prop} (a0:e0) (h:q) (f:q->e0->p:=by intro h a0;(repeat (first|(with_reducible first|refine aw.up ?_|refine fun (K:AK) hK=> ?_|refine wE ?_|refine wK ?_|refine wF ?_|refine ae (by decide) ?_|refine ag (by decide) ?_|(refine hK _ ?_;clear hK K))|simp only [go_sem,List.length_append,ah,nG,zH,nS,zI,a0]|with_reducible refine wA ?_|clear hK K));(iterate 8 (try revert K));exact h):p:=f h a0
theorem P4 {p q e0 e1 e2 e3 e4:Prop} (a0:e0) (a1:e1) (a2:e2) (a3:e3) (a4:e4) (h:q) (f:q->e0->e1->e2->e3->e4->p:=by intro h a0 a1 a2 a3 a4;(repeat (first|(with_reducible first|refine aw.up ?_|refine fun (K:AK) hK=> ?_|refine wE ?_|refine wK ?_|refine wF ?_|refine ae (by decide) ?_|refine ag (by decide) ?_|(refine hK _ ?_;clear hK K))|simp only [go_sem,List.length_append,ah,nG,zH,nS,zI,a0,a1,a2,a3,a4]|with_reducible refine wA ?_|clear hK K));(iterate 8 (try revert K));exact h):p:=f h a0 a1 a2 a3 a4
theorem P5 {p q e0:Prop} (a0:e0) (h:q) (f:q->e0->p:=by intro h a0;(repeat (first|(with_reducible first|refine aw.up ?_|refine fun (K:AK) hK=> ?_|refine wE ?_|refine wK ?_|refine wF ?_|refine ae (by decide) ?_|refine ag (by decide) ?_|(refine hK _ ?_;clear hK K))|simp only [go_sem,Go.undef,List.length_append,ah,nG,zH,nS,zI,a0]|with_reducible refine wA ?_|clear hK K));(iterate 8 (try revert K));exact h):p:=f h a0
theorem yI {p q e0 e1:Prop} (a0:e0) (a1:e1) (h:q) (f:q->e0->e1->p:=by intro h a0 a1;(repeat (first|(with_reducible first|refine aw.up ?_|refine fun (K:AK) hK=> ?_|refine wE ?_|refine wK ?_|refine wF ?_|refine ae (by decide) ?_|refine ag (by decide) ?_|(refine hK _ ?_;clear hK K))|simp only [go_sem,Go.undef,List.length_append,ah,nG,zH,nS,zI,a0,a1]|with_reducible refine wA ?_|clear hK K));(iterate 8 (try revert K));exact h):p:=f h a0 a1
theorem JA {p q e0 e1 e2 e3 e4:Prop} (a0:e0) (a1:e1) (a2:e2) (a3:e3) (a4:e4) (h:q) (f:q->e0->e1->e2->e3->e4->p:=by intro h a0 a1 a2 a3 a4;(repeat (first|(with_reducible first|refine aw.up ?_|refine fun (K:AK) hK=> ?_|refine wE ?_|refine wK ?_|refine wF ?_|refine ae (by decide) ?_|refine ag (by decide) ?_|(refine hK _ ?_;clear hK K))|simp only [go_sem,Go.undef,List.length_append,ah,nG,zH,nS,zI,a0,a1,a2,a3,a4]|with_reducible refine wA ?_|clear hK K));(iterate 8 (try revert K));exact h):p:=f h a0 a1 a2 a3 a4
theorem Dt {p q:Prop} (h:q) (f:q->p:=by intro h;(repeat (first|(with_reducible first|refine aw.up ?_|refine fun (K:AK) hK=> ?_|refine ae (by decide) ?_|(refine hK _ ?_;clear hK K))|simp only [go_sem]|with_reducible refine wA ?_|clear hK K));(iterate 8 (try revert K));exact h):p:=f h
theorem ug {p q e0:Prop} (a0:e0) (h:q) (f:q->e0->p:=by intro h a0;(repeat (first|(with_reducible first|refine aw.up ?_|refine fun (K:AK) hK=> ?_|refine ae (by decide) ?_|(refine hK _ ?_;clear hK K))|simp only [go_sem,a0]|with_reducible refine wA ?_|clear hK K));(iterate 8 (try revert K));exact h):p:=f h a0
theorem yJ {p q:Prop} (h:q) (f:q->p:=by intro h;(repeat (first|(with_reducible first|refine aw.up ?_|refine fun (K:AK) hK=> ?_|refine wE ?_|refine wD ?_|refine wK ?_|refine wF ?_|(refine hK _ ?_;clear hK K))|simp only [go_sem]|with_reducible refine wA ?_|clear hK K));(iterate 8 (try revert K));exact h):p:=f h
theorem Qh {p:Prop} (f:p:=by (repeat (first|(with_reducible first|refine aw.up ?_|refine fun (K:AK) hK=> ?_|refine wE ?_|refine wD ?_|refine wK ?_|refine wF ?_|(refine hK _ ?_;clear hK K))|simp only [go_sem]|with_reducible refine wA ?_|clear hK K))<;>fail):p:=f
theorem P6 {p q e0:Prop} (a0:e0) (h:q) (f:q->e0->p:=by intro h a0;(repeat (first|(with_reducible first|refine aw.up ?_|refine fun (K:AK) hK=> ?_|refine wE ?_|refine wD ?_|refine wK ?_|refine wF ?_|(refine hK _ ?_;clear hK K))|simp only [go_sem,a0]|with_reducible refine wA ?_|clear hK K));(iterate 8 (try revert K));exact h):p:=f h a0
theorem mM {p q:Prop} (h:q) (f:q->p:=by intro h;(repeat (first|(with_reducible first|refine aw.up ?_|refine fun (K:AK) hK=> ?_|refine ae (by decide) ?_|refine ag (by decide) ?_|refine gn (by decide) ?_|(refine hK _ ?_;clear hK K))|simp only [go_sem]|with_reducible refine wA ?_|(refine gp rfl rfl ?_)|(refine ek rfl ?_)|clear hK K));(iterate 8 (try revert K));exact h):p:=f h
theorem uh {p q:Prop} (h:q) (f:q->p:=by intro h;(repeat (first|(with_reducible first|refine aw.up ?_|refine fun (K:AK) hK=> ?_|refine ae (by decide) ?_|refine ag (by decide) ?_|(refine hK _ ?_;clear hK K))|simp only [go_sem]|with_reducible refine wA ?_|(refine cP rfl ?_)|(refine cn rfl ?_)|clear hK K));(iterate 8 (try revert K));exact h):p:=f h
theorem Du {p q:Prop} (h:q) (f:q->p:=by intro h;(repeat (first|(with_reducible first|refine aw.up ?_|refine fun (K:AK) hK=> ?_|refine wD ?_|refine ae (by decide) ?_|refine ag (by decide) ?_|(refine hK _ ?_;clear hK K))|simp only [go_sem,Go.undef]|with_reducible refine wA ?_|(refine cv rfl ?_)|clear hK K));(iterate 8 (try revert K));exact h):p:=f h
theorem JC {p q e0:Prop} (a0:e0) (h:q) (f:q->e0->p:=by intro h a0;(repeat (first|(with_reducible first|refine aw.up ?_|refine fun (K:AK) hK=> ?_|refine wD ?_|refine ae (by decide) ?_|refine ag (by decide) ?_|(refine hK _ ?_;clear hK K))|simp only [go_sem,Go.undef,a0]|with_reducible refine wA ?_|(refine cv rfl ?_)|clear hK K));(iterate 8 (try revert K));exact h):p:=f h a0
theorem ui {p q:Prop} (h:q) (f:q->p:=by intro h;(repeat (first|(with_reducible first|refine aw.up ?_|refine fun (K:AK) hK=> ?_|refine wE ?_|refine wD ?_|refine wK ?_|refine wF ?_|refine ae (by decide) ?_|refine ag (by decide) ?_|(refine hK _ ?_;clear hK K))|simp only [go_sem]|with_reducible refine wA ?_|clear hK K));(iterate 8 (try revert K));exact h):p:=f h
theorem yK {p q:Prop} (h:q) (f:q->p:=by intro h;(repeat (first|(with_reducible first|refine aw.up ?_|refine fun (K:AK) hK=> ?_|refine ae (by decide) ?_|(refine hK _ ?_;clear hK K))|simp only [go_sem]|with_reducible refine wA ?_|(refine cP rfl ?_)|(refine cn rfl ?_)|clear hK K));(iterate 8 (try revert K));exact h):p:=f h
theorem JK {p e0 e1 e2 e3:Prop} (a0:e0) (a1:e1) (a2:e2) (a3:e3) (f:e0->e1->e2->e3->p:=by intro a0 a1 a2 a3;(repeat (first|(with_reducible first|refine aw.up ?_|refine fun (K:AK) hK=> ?_|refine wK ?_|refine wF ?_|refine ae (by decide) ?_|refine ag (by decide) ?_|(refine hK _ ?_;clear hK K))|simp only [go_sem,List.length_append,s0,a0,a1,a2,a3]|with_reducible refine wA ?_|clear hK K))<;>fail):p:=f a0 a1 a2 a3
theorem P7 {p q:Prop} (h:q) (f:q->p:=by intro h;(repeat (first|(with_reducible first|refine aw.up ?_|refine fun (K:AK) hK=> ?_|refine wD ?_|refine ae (by decide) ?_|refine ag (by decide) ?_|(refine hK _ ?_;clear hK K))|simp only [go_sem,Go.undef]|with_reducible refine wA ?_|clear hK K));(iterate 8 (try revert K));exact h):p:=f h
theorem P8 {p q e0 e1 e2 e3:Prop} (a0:e0) (a1:e1) (a2:e2) (a3:e3) (h:q) (f:q->e0->e1->e2->e3->p:=by intro h a0 a1 a2 a3;(repeat (first|(with_reducible first|refine aw.up ?_|refine fun (K:AK) hK=> ?_|(refine hK _ ?_;clear hK K))|simp only [go_sem,List.drop_succ_cons,List.drop_zero,a0,a1,a2,a3]|with_reducible refine wA ?_|clear hK K));(iterate 8 (try revert K));exact h):p:=f h a0 a1 a2 a3
theorem P9 {p q:Prop} (h:q) (f:q->p:=by intro h;(repeat (first|(with_reducible first|refine aw.up ?_|refine fun (K:AK) hK=> ?_|(refine hK _ ?_;clear hK K))|simp only [go_sem,lJ]|with_reducible refine wA ?_|clear hK K));(iterate 8 (try revert K));exact h):p:=f h
theorem JD {p q:Prop} (h:q) (f:q->p:=by intro h;(repeat (first|(with_reducible first|refine aw.up ?_|refine fun (K:AK) hK=> ?_|refine ae (by decide) ?_|refine ag (by decide) ?_|(refine hK _ ?_;clear hK K))|simp only [go_sem,Go.undef]|with_reducible refine wA ?_|(refine cP rfl ?_)|(refine cn rfl ?_)|clear hK K));(iterate 8 (try revert K));exact h):p:=f h
theorem Qa {p q e0 e1:Prop} (a0:e0) (a1:e1) (h:q) (f:q->e0->e1->p:=by intro h a0 a1;(repeat (first|(with_reducible first|refine aw.up ?_|refine fun (K:AK) hK=> ?_|refine ae (by decide) ?_|refine ag (by decide) ?_|(refine hK _ ?_;clear hK K))|simp only [go_sem,Go.undef,a0,a1]|with_reducible refine wA ?_|(refine cP rfl ?_)|(refine cn rfl ?_)|clear hK K));(iterate 8 (try revert K));exact h):p:=f h a0 a1
theorem Qb {p q e0 e1 e2:Prop} (a0:e0) (a1:e1) (a2:e2) (h:q) (f:q->e0->e1->e2->p:=by intro h a0 a1 a2;(repeat (first|(with_reducible first|refine aw.up ?_|refine fun (K:AK) hK=> ?_|refine ae (by decide) ?_|refine ag (by decide) ?_|refine gn (by decide) ?_|(refine hK _ ?_;clear hK K))|simp only [go_sem,List.length_append,ah,s0,a0,a1,a2]|with_reducible refine wA ?_|(refine gp rfl rfl ?_)|(refine ek rfl ?_)|clear hK K));(iterate 8 (try revert K));exact h):p:=f h a0 a1 a2
theorem Qc {p q e0 e1 e2 e3 e4:Prop} (a0:e0) (a1:e1) (a2:e2) (a3:e3) (a4:e4) (h:q) (f:q->e0->e1->e2->e3->e4->p:=by intro h a0 a1 a2 a3 a4;(repeat (first|(with_reducible first|refine aw.up ?_|refine fun (K:AK) hK=> ?_|refine ae (by decide) ?_|refine ag (by decide) ?_|refine gn (by decide) ?_|(refine hK _ ?_;clear hK K))|simp only [go_sem,List.length_append,ah,s0,a0,a1,a2,a3,a4]|with_reducible refine wA ?_|(refine gp rfl rfl ?_)|(refine ek rfl ?_)|clear hK K));(iterate 8 (try revert K));exact h):p:=f h a0 a1 a2 a3 a4
theorem Qd {p q:Prop} (h:q) (f:q->p:=by intro h;(repeat (first|(with_reducible first|refine aw.up ?_|refine fun (K:AK) hK=> ?_|refine ae (by decide) ?_|(refine hK _ ?_;clear hK K))|simp only [go_sem,Go.undef]|with_reducible refine wA ?_|clear hK K));(iterate 8 (try revert K));exact h):p:=f h
theorem Qe {p q e0 e1 e2:Prop} (a0:e0) (a1:e1) (a2:e2) (h:q) (f:q->e0->e1->e2->p:=by intro h a0 a1 a2;(repeat (first|(with_reducible first|refine aw.up ?_|refine fun (K:AK) hK=> ?_|refine wK ?_|refine wF ?_|refine ae (by decide) ?_|refine ag (by decide) ?_|(refine hK _ ?_;clear hK K))|simp only [go_sem,a0,a1,a2]|with_reducible refine wA ?_|clear hK K));(iterate 8 (try revert K));exact h):p:=f h a0 a1 a2
theorem JE {p q e0 e1 e2 e3:Prop} (a0:e0) (a1:e1) (a2:e2) (a3:e3) (h:q) (f:q->e0->e1->e2->e3->p:=by intro h a0 a1 a2 a3;(repeat (first|(with_reducible first|refine aw.up ?_|refine fun (K:AK) hK=> ?_|refine wK ?_|refine wF ?_|refine ae (by decide) ?_|refine ag (by decide) ?_|(refine hK _ ?_;clear hK K))|simp only [go_sem,List.getD_cons_succ,List.getD_cons_zero,List.length_append,s0,o8,rJ,a0,a1,a2,a3]|with_reducible refine wA ?_|clear hK K));(iterate 8 (try revert K));exact h):p:=f h a0 a1 a2 a3
theorem JF {p q e0 e1 e2 e3:Prop} (a0:e0) (a1:e1) (a2:e2) (a3:e3) (h:q) (f:q->e0->e1->e2->e3->p:=by intro h a0 a1 a2 a3;(repeat (first|(with_reducible first|refine aw.up ?_|refine fun (K:AK) hK=> ?_|refine wE ?_|refine wK ?_|refine wF ?_|refine ae (by decide) ?_|refine ag (by decide) ?_|(refine hK _ ?_;clear hK K))|simp only [go_sem,List.length_append,s0,a0,a1,a2,a3]|with_reducible refine wA ?_|clear hK K));(iterate 8 (try revert K));exact h):p:=f h a0 a1 a2 a3
theorem JG {p q e0:Prop} (a0:e0) (h:q) (f:q->e0->p:=by intro h a0;(repeat (first|(with_reducible first|refine aw.up ?_|refine fun (K:AK) hK=> ?_|refine wD ?_|refine ae (by decide) ?_|(refine hK _ ?_;clear hK K))|simp only [go_sem,Go.undef,a0]|with_reducible refine wA ?_|clear hK K));(iterate 8 (try revert K));exact h):p:=f h a0
theorem aR {p p0 p1 p2:Prop} (k:p0->p1->p2->p) (f0:p0:=by simp only [dV,List.foldl_cons,List.foldl_nil,List.replicate_succ,List.replicate_zero,dv,ku,AV.v.injEq,Value.int.injEq,Value.bool.injEq,Value.string.injEq,AV.vec.injEq,AV.ptr.injEq,true_or,or_true,false_or,or_false,ab.mk.injEq,forall_eq_apply_imp_iff,forall_eq,forall_eq',go_sem]<;>fail) (f1:p1:=by simp only [dV,List.foldl_cons,List.foldl_nil,List.replicate_succ,List.replicate_zero,dv,ku,AV.v.injEq,Value.int.injEq,Value.bool.injEq,Value.string.injEq,AV.vec.injEq,AV.ptr.injEq,true_or,or_true,false_or,or_false,ab.mk.injEq,forall_eq_apply_imp_iff,forall_eq,forall_eq',go_sem]<;>fail) (f2:p2:=by simp only [dV,List.foldl_cons,List.foldl_nil,List.replicate_succ,List.replicate_zero,dv,ku,AV.v.injEq,Value.int.injEq,Value.bool.injEq,Value.string.injEq,AV.vec.injEq,AV.ptr.injEq,true_or,or_true,false_or,or_false,ab.mk.injEq,forall_eq_apply_imp_iff,forall_eq,forall_eq',go_sem]<;>fail):p:=k (f0) (f1) (f2)
theorem bl {p p0 p1 p2 r0:Prop} (h0:r0) (k:p0->p1->p2->p) (f0:r0->p0:=by intro h;simp only [dV,List.foldl_cons,List.foldl_nil,List.replicate_succ,List.replicate_zero,dv,ku,AV.v.injEq,Value.int.injEq,Value.bool.injEq,Value.string.injEq,AV.vec.injEq,AV.ptr.injEq,true_or,or_true,false_or,or_false,ab.mk.injEq,forall_eq_apply_imp_iff,forall_eq,forall_eq',go_sem];exact h) (f1:p1:=by simp only [dV,List.foldl_cons,List.foldl_nil,List.replicate_succ,List.replicate_zero,dv,ku,AV.v.injEq,Value.int.injEq,Value.bool.injEq,Value.string.injEq,AV.vec.injEq,AV.ptr.injEq,true_or,or_true,false_or,or_false,ab.mk.injEq,forall_eq_apply_imp_iff,forall_eq,forall_eq',go_sem]<;>fail) (f2:p2:=by simp only [dV,List.foldl_cons,List.foldl_nil,List.replicate_succ,List.replicate_zero,dv,ku,AV.v.injEq,Value.int.injEq,Value.bool.injEq,Value.string.injEq,AV.vec.injEq,AV.ptr.injEq,true_or,or_true,false_or,or_false,ab.mk.injEq,forall_eq_apply_imp_iff,forall_eq,forall_eq',go_sem]<;>fail):p:=k (f0 h0) (f1) (f2)
theorem mb {p p0 p1 p2 r1:Prop} (h1:r1) (k:p0->p1->p2->p) (f0:p0:=by simp only [dV,List.foldl_cons,List.foldl_nil,List.replicate_succ,List.replicate_zero,dv,ku,AV.v.injEq,Value.int.injEq,Value.bool.injEq,Value.string.injEq,AV.vec.injEq,AV.ptr.injEq,true_or,or_true,false_or,or_false,ab.mk.injEq,forall_eq_apply_imp_iff,forall_eq,forall_eq',go_sem]<;>fail) (f1:r1->p1:=by intro h;simp only [dV,List.foldl_cons,List.foldl_nil,List.replicate_succ,List.replicate_zero,dv,ku,AV.v.injEq,Value.int.injEq,Value.bool.injEq,Value.string.injEq,AV.vec.injEq,AV.ptr.injEq,true_or,or_true,false_or,or_false,ab.mk.injEq,forall_eq_apply_imp_iff,forall_eq,forall_eq',go_sem];exact h) (f2:p2:=by simp only [dV,List.foldl_cons,List.foldl_nil,List.replicate_succ,List.replicate_zero,dv,ku,AV.v.injEq,Value.int.injEq,Value.bool.injEq,Value.string.injEq,AV.vec.injEq,AV.ptr.injEq,true_or,or_true,false_or,or_false,ab.mk.injEq,forall_eq_apply_imp_iff,forall_eq,forall_eq',go_sem]<;>fail):p:=k (f0) (f1 h1) (f2)
theorem fm {p p0 p1 p2 r0 r1:Prop} (h0:r0) (h1:r1) (k:p0->p1->p2->p) (f0:r0->p0:=by intro h;simp only [dV,List.foldl_cons,List.foldl_nil,List.replicate_succ,List.replicate_zero,dv,ku,AV.v.injEq,Value.int.injEq,Value.bool.injEq,Value.string.injEq,AV.vec.injEq,AV.ptr.injEq,true_or,or_true,false_or,or_false,ab.mk.injEq,forall_eq_apply_imp_iff,forall_eq,forall_eq',go_sem];exact h) (f1:r1->p1:=by intro h;simp only [dV,List.foldl_cons,List.foldl_nil,List.replicate_succ,List.replicate_zero,dv,ku,AV.v.injEq,Value.int.injEq,Value.bool.injEq,Value.string.injEq,AV.vec.injEq,AV.ptr.injEq,true_or,or_true,false_or,or_false,ab.mk.injEq,forall_eq_apply_imp_iff,forall_eq,forall_eq',go_sem];exact h) (f2:p2:=by simp only [dV,List.foldl_cons,List.foldl_nil,List.replicate_succ,List.replicate_zero,dv,ku,AV.v.injEq,Value.int.injEq,Value.bool.injEq,Value.string.injEq,AV.vec.injEq,AV.ptr.injEq,true_or,or_true,false_or,or_false,ab.mk.injEq,forall_eq_apply_imp_iff,forall_eq,forall_eq',go_sem]<;>fail):p:=k (f0 h0) (f1 h1) (f2)
theorem Sg {p p0 p1 p2 r0 r1 r2:Prop} (h0:r0) (h1:r1) (h2:r2) (k:p0->p1->p2->p) (f0:r0->p0:=by intro h;simp only [dV,List.foldl_cons,List.foldl_nil,List.replicate_succ,List.replicate_zero,dv,ku,AV.v.injEq,Value.int.injEq,Value.bool.injEq,Value.string.injEq,AV.vec.injEq,AV.ptr.injEq,true_or,or_true,false_or,or_false,ab.mk.injEq,forall_eq_apply_imp_iff,forall_eq,forall_eq',go_sem];exact h) (f1:r1->p1:=by intro h;simp only [dV,List.foldl_cons,List.foldl_nil,List.replicate_succ,List.replicate_zero,dv,ku,AV.v.injEq,Value.int.injEq,Value.bool.injEq,Value.string.injEq,AV.vec.injEq,AV.ptr.injEq,true_or,or_true,false_or,or_false,ab.mk.injEq,forall_eq_apply_imp_iff,forall_eq,forall_eq',go_sem];exact h) (f2:r2->p2:=by intro h;simp only [dV,List.foldl_cons,List.foldl_nil,List.replicate_succ,List.replicate_zero,dv,ku,AV.v.injEq,Value.int.injEq,Value.bool.injEq,Value.string.injEq,AV.vec.injEq,AV.ptr.injEq,true_or,or_true,false_or,or_false,ab.mk.injEq,forall_eq_apply_imp_iff,forall_eq,forall_eq',go_sem];exact h):p:=k (f0 h0) (f1 h1) (f2 h2)
theorem bG {p q:Prop} (h:p) (f:p->q:=by intro h;(try simp only [bne_iff_ne,ne_eq,bne_eq_false_iff_eq,beq_iff_eq,beq_eq_false_iff_ne,decide_eq_true_eq,decide_eq_false_iff_not,Bool.not_eq_eq_eq_not,Int.natCast_inj,Int.ofNat_lt,Int.ofNat_le] at h);exact h):q:=f h
theorem pf {p q:Prop} (h:p) (f:p->q:=by intro h;(try simp only [decide_eq_true_eq,decide_eq_false_iff_not,Int.ofNat_lt] at h);exact h):q:=f h
theorem Rf {p q:Prop} (h:p) (f:p->q:=by intro h;(try simp only [bne_iff_ne,ne_eq,bne_eq_false_iff_eq,decide_eq_true_eq,decide_eq_false_iff_not,Int.natCast_inj,Int.ofNat_lt] at h);exact h):q:=f h
theorem UA {p q:Prop} (h:p) (f:p->q:=by intro h;(try simp only [decide_eq_true_eq,decide_eq_false_iff_not,Int.ofNat_le] at h);exact h):q:=f h
theorem gE {p q e0 e1 e2:Prop} (a0:e0) (a1:e1) (a2:e2) (h:q) (f:e0->e1->e2->q->p:=by intro a0 a1 a2 h;refine aq.enter a0 rfl (by kernel_rfl) (by kernel_rfl) rfl (by first|rfl|(simp only [go_sem,Bool.and_self,Bool.and_true,Bool.true_and])) (by first|rfl|(simp only [go_sem,Bool.and_self,Bool.and_true,Bool.true_and])) ?_;simp only [a1,a2,List.length_cons,List.length_nil,Nat.reduceAdd,Nat.reduceSub,List.replicate_succ,List.replicate_zero,List.cons_append,List.nil_append];exact h):p:=f a0 a1 a2 h
theorem gF {p q e0 e1 e2:Prop} (a0:e0) (a1:e1) (a2:e2) (h:q) (f:e0->e1->e2->q->p:=by intro a0 a1 a2 h;refine da.enter a0 rfl (by kernel_rfl) (by kernel_rfl) rfl ?_;simp only [a1,a2,List.length_cons,List.length_nil,Nat.reduceAdd,Nat.reduceSub,List.replicate_succ,List.replicate_zero,List.cons_append,List.nil_append];exact h):p:=f a0 a1 a2 h
section
@[go_sem] theorem Wy:Tryz.prog.underlying 3=some (.int .i64):=by kernel_rfl
@[go_sem] theorem VH:ff Tryz.prog 3=some (false):=by kernel_rfl
@[go_sem] theorem Vb:ct Tryz.prog 3=some (1):=by kernel_rfl
@[go_sem] theorem Vf:ei Tryz.prog 3=some ([.v (.int .i64 0)]):=by kernel_rfl
@[go_sem] theorem Uu:zX Tryz.prog 3=some (.v (.int .i64 0)):=by kernel_rfl
@[go_sem] theorem Wz:Tryz.prog.underlying 4=some (.bool):=by kernel_rfl
@[go_sem] theorem VI:ff Tryz.prog 4=some (false):=by kernel_rfl
@[go_sem] theorem Vc:ct Tryz.prog 4=some (1):=by kernel_rfl
@[go_sem] theorem Vg:ei Tryz.prog 4=some ([.v (.bool false)]):=by kernel_rfl
@[go_sem] theorem WA:Tryz.prog.underlying 5=some (.int .u8):=by kernel_rfl
@[go_sem] theorem VJ:ff Tryz.prog 5=some (false):=by kernel_rfl
@[go_sem] theorem Vd:ct Tryz.prog 5=some (1):=by kernel_rfl
@[go_sem] theorem Vh:ei Tryz.prog 5=some ([.v (.int .u8 0)]):=by kernel_rfl
@[go_sem] theorem WB:Tryz.prog.underlying 9=some (.string):=by kernel_rfl
@[go_sem] theorem VK:ff Tryz.prog 9=some (false):=by kernel_rfl
@[go_sem] theorem Ve:ct Tryz.prog 9=some (1):=by kernel_rfl
@[go_sem] theorem Vi:ei Tryz.prog 9=some ([.v (.string ⟨#[]⟩)]):=by kernel_rfl
@[go_sem] theorem UO:ff Tryz.prog 22=some (false):=by kernel_rfl
@[go_sem] theorem TV:ct Tryz.prog 22=some (1):=by kernel_rfl
@[go_sem] theorem VU:Tryz.prog.underlying 23=some (.slice 25):=by kernel_rfl
@[go_sem] theorem UP:ff Tryz.prog 23=some (false):=by kernel_rfl
@[go_sem] theorem TX:ct Tryz.prog 23=some (1):=by kernel_rfl
@[go_sem] theorem VQ:Rw Tryz.prog 23=some (3):=by kernel_rfl
@[go_sem] theorem U2:lh Tryz.prog 23=some (25,3,48):=by kernel_rfl
@[go_sem] theorem UQ:ff Tryz.prog 25=some (true):=by kernel_rfl
@[go_sem] theorem TY:ct Tryz.prog 25=some (3):=by kernel_rfl
@[go_sem] theorem Uc:ei Tryz.prog 25=some ([.v (.int .i64 0), .v (.string ⟨#[]⟩), .v (.slice none 0 0)]):=by kernel_rfl
@[go_sem] theorem SS:iP Tryz.prog 25 0=some (0):=by kernel_rfl
@[go_sem] theorem SU:iP Tryz.prog 25 1=some (1):=by kernel_rfl
@[go_sem] theorem SV:iP Tryz.prog 25 2=some (2):=by kernel_rfl
@[go_sem] theorem VL:Lo Tryz.prog 25=some ([(0,1),(1,1),(2,1)],[.v (.int .i64 0), .v (.string ⟨#[]⟩), .v (.slice none 0 0)]):=by kernel_rfl
@[go_sem] theorem VV:Tryz.prog.underlying 26=some (.slice 9):=by kernel_rfl
@[go_sem] theorem UR:ff Tryz.prog 26=some (false):=by kernel_rfl
@[go_sem] theorem TZ:ct Tryz.prog 26=some (1):=by kernel_rfl
@[go_sem] theorem VR:Rw Tryz.prog 26=some (1):=by kernel_rfl
@[go_sem] theorem U3:lh Tryz.prog 26=some (9,1,16):=by kernel_rfl
@[go_sem] theorem VW:Tryz.prog.underlying 29=some (.pointer 73):=by kernel_rfl
@[go_sem] theorem VX:Tryz.prog.underlying 54=some (.slice 4):=by kernel_rfl
@[go_sem] theorem US:ff Tryz.prog 54=some (false):=by kernel_rfl
@[go_sem] theorem T3:ct Tryz.prog 54=some (1):=by kernel_rfl
@[go_sem] theorem Ud:ei Tryz.prog 54=some ([.v (.slice none 0 0)]):=by kernel_rfl
@[go_sem] theorem U4:lh Tryz.prog 54=some (4,1,1):=by kernel_rfl
@[go_sem] theorem VY:Tryz.prog.underlying 61=some (.pointer 99):=by kernel_rfl
@[go_sem] theorem UT:ff Tryz.prog 61=some (false):=by kernel_rfl
@[go_sem] theorem T4:ct Tryz.prog 61=some (1):=by kernel_rfl
@[go_sem] theorem UU:ff Tryz.prog 65=some (false):=by kernel_rfl
@[go_sem] theorem T5:ct Tryz.prog 65=some (1):=by kernel_rfl
@[go_sem] theorem VZ:Tryz.prog.underlying 68=some (.slice 84):=by kernel_rfl
@[go_sem] theorem UW:ff Tryz.prog 68=some (false):=by kernel_rfl
@[go_sem] theorem T6:ct Tryz.prog 68=some (1):=by kernel_rfl
@[go_sem] theorem U5:lh Tryz.prog 68=some (84,1,8):=by kernel_rfl
@[go_sem] theorem UX:ff Tryz.prog 70=some (true):=by kernel_rfl
@[go_sem] theorem T7:ct Tryz.prog 70=some (2):=by kernel_rfl
@[go_sem] theorem Ue:ei Tryz.prog 70=some ([.v (.slice none 0 0), .v (.slice none 0 0)]):=by kernel_rfl
@[go_sem] theorem SX:iP Tryz.prog 70 0=some (0):=by kernel_rfl
@[go_sem] theorem SY:iP Tryz.prog 70 1=some (1):=by kernel_rfl
@[go_sem] theorem VM:Lo Tryz.prog 70=some ([(0,1),(1,1)],[.v (.slice none 0 0), .v (.slice none 0 0)]):=by kernel_rfl
@[go_sem] theorem SZ:iP Tryz.prog 73 0=some (0):=by kernel_rfl
@[go_sem] theorem S4:iP Tryz.prog 73 1=some (2):=by kernel_rfl
@[go_sem] theorem VN:Lo Tryz.prog 73=some ([(0,2),(2,1)],[.v (.slice none 0 0), .v (.slice none 0 0), .v (.slice none 0 0)]):=by kernel_rfl
@[go_sem] theorem V0:Tryz.prog.underlying 74=some (.slice 79):=by kernel_rfl
@[go_sem] theorem UY:ff Tryz.prog 74=some (false):=by kernel_rfl
@[go_sem] theorem T8:ct Tryz.prog 74=some (1):=by kernel_rfl
@[go_sem] theorem U6:lh Tryz.prog 74=some (79,1,24):=by kernel_rfl
@[go_sem] theorem S5:iP Tryz.prog 76 0=some (0):=by kernel_rfl
@[go_sem] theorem S6:iP Tryz.prog 76 1=some (1):=by kernel_rfl
@[go_sem] theorem S7:iP Tryz.prog 76 2=some (2):=by kernel_rfl
@[go_sem] theorem VO:Lo Tryz.prog 76=some ([(0,1),(1,1),(2,1)],[.v (.slice none 0 0), .v (.slice none 0 0), .v (.slice none 0 0)]):=by kernel_rfl
@[go_sem] theorem V1:Tryz.prog.underlying 79=some (.slice 3):=by kernel_rfl
@[go_sem] theorem UZ:ff Tryz.prog 79=some (false):=by kernel_rfl
@[go_sem] theorem T9:ct Tryz.prog 79=some (1):=by kernel_rfl
@[go_sem] theorem Uf:ei Tryz.prog 79=some ([.v (.slice none 0 0)]):=by kernel_rfl
@[go_sem] theorem U7:lh Tryz.prog 79=some (3,1,8):=by kernel_rfl
@[go_sem] theorem V2:Tryz.prog.underlying 83=some (.map 9 3):=by kernel_rfl
@[go_sem] theorem V3:Tryz.prog.underlying 84=some (.map 9 3):=by kernel_rfl
@[go_sem] theorem U0:ff Tryz.prog 84=some (false):=by kernel_rfl
@[go_sem] theorem Ua:ct Tryz.prog 84=some (1):=by kernel_rfl
@[go_sem] theorem Ug:ei Tryz.prog 84=some ([.v (.map none)]):=by kernel_rfl
@[go_sem] theorem U1:ff Tryz.prog 96=some (false):=by kernel_rfl
@[go_sem] theorem Ub:ct Tryz.prog 96=some (1):=by kernel_rfl
@[go_sem] theorem Uh:ei Tryz.prog 96=some ([.v (.int .u32 0)]):=by kernel_rfl
@[go_sem] theorem V4:Tryz.prog.underlying 97=some (.array 25 96):=by kernel_rfl
@[go_sem] theorem S8:iP Tryz.prog 99 0=some (0):=by kernel_rfl
@[go_sem] theorem S9:iP Tryz.prog 99 1=some (1):=by kernel_rfl
@[go_sem] theorem Ta:iP Tryz.prog 99 2=some (26):=by kernel_rfl
@[go_sem] theorem Tb:iP Tryz.prog 99 3=some (27):=by kernel_rfl
@[go_sem] theorem VP:Lo Tryz.prog 99=some ([(0,1),(1,25),(26,1),(27,1)],[.v (.slice none 0 0), .v (.int .u32 0), .v (.int .u32 0), .v (.int .u32 0), .v (.int .u32 0), .v (.int .u32 0), .v (.int .u32 0), .v (.int .u32 0), .v (.int .u32 0), .v (.int .u32 0), .v (.int .u32 0), .v (.int .u32 0), .v (.int .u32 0), .v (.int .u32 0), .v (.int .u32 0), .v (.int .u32 0), .v (.int .u32 0), .v (.int .u32 0), .v (.int .u32 0), .v (.int .u32 0), .v (.int .u32 0), .v (.int .u32 0), .v (.int .u32 0), .v (.int .u32 0), .v (.int .u32 0), .v (.int .u32 0), .v (.int .u32 0), .v (.bool false)]):=by kernel_rfl
@[go_sem] theorem TN:ff Tryz.prog 101=some (true):=by kernel_rfl
@[go_sem] theorem Tc:ct Tryz.prog 101=some (2):=by kernel_rfl
@[go_sem] theorem Th:ei Tryz.prog 101=some ([.v (.int .u32 0), .v (.int .u32 0)]):=by kernel_rfl
@[go_sem] theorem Rm:iP Tryz.prog 101 0=some (0):=by kernel_rfl
@[go_sem] theorem Rn:iP Tryz.prog 101 1=some (1):=by kernel_rfl
@[go_sem] theorem U8:Lo Tryz.prog 101=some ([(0,1),(1,1)],[.v (.int .u32 0), .v (.int .u32 0)]):=by kernel_rfl
@[go_sem] theorem Vl:Tryz.prog.underlying 108=some (.map 3 3):=by kernel_rfl
@[go_sem] theorem TO:ff Tryz.prog 108=some (false):=by kernel_rfl
@[go_sem] theorem Te:ct Tryz.prog 108=some (1):=by kernel_rfl
@[go_sem] theorem Ti:ei Tryz.prog 108=some ([.v (.map none)]):=by kernel_rfl
@[go_sem] theorem Vm:Tryz.prog.underlying 118=some (.slice 54):=by kernel_rfl
@[go_sem] theorem TP:ff Tryz.prog 118=some (false):=by kernel_rfl
@[go_sem] theorem Tf:ct Tryz.prog 118=some (1):=by kernel_rfl
@[go_sem] theorem TS:lh Tryz.prog 118=some (54,1,24):=by kernel_rfl
@[go_sem] theorem Ro:iP Tryz.prog 120 0=some (0):=by kernel_rfl
@[go_sem] theorem Rp:iP Tryz.prog 120 1=some (1):=by kernel_rfl
@[go_sem] theorem Rq:iP Tryz.prog 120 2=some (2):=by kernel_rfl
@[go_sem] theorem Rr:iP Tryz.prog 120 3=some (3):=by kernel_rfl
@[go_sem] theorem Rs:iP Tryz.prog 120 4=some (4):=by kernel_rfl
@[go_sem] theorem U9:Lo Tryz.prog 120=some ([(0,1),(1,1),(2,1),(3,1),(4,1),(5,3)],[.v (.slice none 0 0), .v (.slice none 0 0), .v (.slice none 0 0), .v (.slice none 0 0), .v (.bool false), .v (.int .i64 0), .v (.string ⟨#[]⟩), .v (.slice none 0 0)]):=by kernel_rfl
@[go_sem] theorem Vn:Tryz.prog.underlying 122=some (.slice 5):=by kernel_rfl
@[go_sem] theorem TT:lh Tryz.prog 122=some (5,1,1):=by kernel_rfl
@[go_sem] theorem TQ:ff Tryz.prog 152=some (true):=by kernel_rfl
@[go_sem] theorem Tg:ct Tryz.prog 152=some (3):=by kernel_rfl
@[go_sem] theorem Tj:ei Tryz.prog 152=some ([.v (.slice none 0 0), .v (.slice none 0 0), .v (.bool false)]):=by kernel_rfl
@[go_sem] theorem Rt:iP Tryz.prog 152 0=some (0):=by kernel_rfl
@[go_sem] theorem Ru:iP Tryz.prog 152 1=some (1):=by kernel_rfl
@[go_sem] theorem Rv:iP Tryz.prog 152 2=some (2):=by kernel_rfl
@[go_sem] theorem Va:Lo Tryz.prog 152=some ([(0,1),(1,1),(2,1)],[.v (.slice none 0 0), .v (.slice none 0 0), .v (.bool false)]):=by kernel_rfl
@[go_sem] theorem Vo:Tryz.prog.underlying 181=some (.slice 152):=by kernel_rfl
@[go_sem] theorem TU:lh Tryz.prog 181=some (152,3,56):=by kernel_rfl
@[go_sem] theorem Vp:Tryz.prog.underlying 203=some (.array 32 5):=by kernel_rfl
open Go.RowKit Go.Shelf
attribute [local go_sem] Oper.semAt_some
def Wb (J Jx:List XC->World->Prop) (Kp:World->World->Prop) (pre:List XC) (xs:List Ex) (W:World) (e:Ending) (W':World):Prop:=
 (e = .returned (.bool true)∧(∃L,L.map XC.sig=xs.map Ex.sig∧J (pre++L) W')∧Kp W W') ∨
 (e = .returned (.bool false)∧ ∃q,q.map XC.sig <+: xs.map Ex.sig∧Jx (pre++q) W')
def WalkC (F:Fence) (l N lo hi:Nat) (et:TypeId) (J Jx:List XC->World->Prop) (w0:World) (x:Ex):Prop:=
 ∀(n:Nat) (cx:List Value) (pre:List XC) (W:World),fG w0 x cx->x.ok->Cells w0 W->hi<=W.heap.size->J pre W->pre.length+(aj x).length<=N ->
  CallsIn F n Tryz.prog 75 #[.agg cx.toArray, .func (.yield l) #[] #[]] W (Wb J Jx (Kept lo hi et) pre (aj x) W)
theorem H9 (F:Fence) (hF: ∀f,F.fn f) (hd:F.depth=none) (hro:F.round=none) (l N lo hi:Nat) (et:TypeId) (het:25≠et) (J Jx:List XC->World->Prop) (w0:World) (hlo:w0.heap.size<=lo)
  (hJ: ∀pre W o,J pre W->J pre (W.alloc o))
  (hY: ∀m pre (c:XC) W,J pre W->pre.length<N->YieldAt F m Tryz.prog l #[c.val] W (Wc J Jx (Kept lo hi et) pre c W)) (x:Ex):WalkC F l N lo hi et J Jx w0 x:=by
 induction x using Ex.ind with
 | h k s kids ih=>
  intro n cx pre W hx hok hb hhi hj hN;rw [fG] at hx;obtain ⟨sv,rfl,hr⟩:=hx;obtain ⟨p,c,rfl,hc1,hc2⟩:=hr.shape;rw [Ex.ok] at hok;obtain ⟨hs,hoks⟩:=hok
  replace hs:=hs.len
  rw [aj] at hN ⊢
  have hdd: ∀k:Nat,(F.depth.isSome=true->1<=k):=fun k h=>by rw [hd] at h;cases h
  obtain ⟨xc,hxv,hxs⟩: ∃xc:XC,xc.val = .agg #[.int .i64 k, .string s, .slice p kids.length c]∧xc.sig=(k,s,kids.length):=⟨⟨k,s,p,kids.length,c,hs,by omega⟩,rfl,rfl⟩;have hy1:=hY (n - 1) pre xc (W.alloc (.cells #[.int .i64 k, .string s, .slice p kids.length c] 25)) (hJ _ _ _ hj) (by simp at hN;omega);obtain ⟨fn,tmps,assign,body,hy,hR⟩:=hy1;rw [hxv] at hy;have HR:=Lib.hid hR;clear hR;have HX:=Lib.hid ih;have HO:=Lib.hid (qS.1 hoks);have HRd:=Lib.hid hr;have HBl:=Lib.hid hb;have HNN:=Lib.hid hN;have HJ:=Lib.hid hJ;have HXS:=Lib.hid hxs
  have HW:Hid (W.heap.size<(W.alloc (.cells #[.int .i64 k, .string s, .slice p kids.length c] 25)).heap.size):=by show _<_;simp
  have HB:Hid ((W.alloc (.cells #[.int .i64 k, .string s, .slice p kids.length c] 25)).heap[W.heap.size]? = some (.cells #[.int .i64 k, .string s, .slice p kids.length c] 25)):=by show _=_;exact fp _ _
  clear ih hoks hr hb hN hj hs hY hJ hxv hxs;unfold maxLen at hc2;refine callsIn_of_wp Tryz.func75 rfl (hF _) ?_ hro;simp only [Tryz.ntmps75,List.size_toArray,List.length_cons,List.length_nil,Nat.reduceAdd,Nat.reduceSub,Yr,Ys,List.push_toArray,List.append_toArray,List.nil_append,List.cons_append]
  gi_wp2_with fail
  refine HR.out.mono ?_
  rintro e W2 (⟨rfl,hJ2,hk2⟩|⟨rfl,hx2⟩)
  ·have hbox:=hk2.box hhi het HB.out;have hk1:Kept lo hi et W W2:=(Kept.alloc W _).trans hk2;have hce:=aI hbox 2;have HH:=Lib.hid hbox;have HK:=Lib.hid hk1;have HJ2:=Lib.hid hJ2;clear hbox hk1 hk2 hJ2;simp only [Xd,Yq,X2] at hce
   gi_wp2_with fail
   gi_loopw [4,14] (fun r i wr=>r = .bool false∧ ∃k:Nat,i = .int .i64 k∧k<=kids.length∧Kept lo hi et W wr∧ ∃L,L.map XC.sig=((bM (kids.take k))).map Ex.sig∧J (pre++[xc]++L) wr) (fun _ i _=>kids.length - (intOf i).toNat)
   case atStart=>exact ⟨rfl,0,rfl,Nat.zero_le _,HK.out,[],rfl,by simpa using HJ2.out⟩
   case round=>
    obtain ⟨rfl,i,rfl,hik,hkw,L,hL,hJL⟩:=hrel;have HKW:=Lib.hid hkw;have HL:=Lib.hid hL;have HJL:=Lib.hid hJL
    have hlen:L.length=(bM (kids.take i)).length:=by have:=congrArg List.length hL;simpa using this
    clear hkw hL hJL
    by_cases hlt:i<kids.length
    ·have hcw:=HKW.out.cells HBl.out hlo;obtain ⟨b1,o1,k1,s1,l1,v1,rfl,hx1,hr1,a0,a1,a2⟩:=HRd.out.at hlt;obtain ⟨p1,c1,rfl, -, -⟩:=hr1.shape
     replace a0:=hcw _ _ _ a0
     replace a1:=hcw _ _ _ a1
     replace a2:=hcw _ _ _ a2
     have hq1:=lI a0;have hmem:kids[i]∈kids:=List.getElem_mem _
     have hrx:fG w0 kids[i] [.int .i64 k1, .string s1, .slice p1 l1.length c1]:=by rw [hx1,fG];exact ⟨_,rfl,hr1⟩
     have hpp:=oN hlt
     have hbd:(pre++[xc]++L).length+(aj kids[i]).length<=N:=by
      have h1:=HNN.out;have h2:=qT kids (i+1);rw [hpp] at h2;simp at h1 h2 ⊢;omega
     have HH1:=Lib.hid (fun m W' hcc hh hj=>HX.out kids[i] hmem m _ (pre++[xc]++L) W' hrx (HO.out _ hmem) hcc hh hj hbd);have HCW:=Lib.hid hcw;have HPP:=Lib.hid hpp;have hhw:=Nat.le_trans hhi HKW.out.size;have HB2:=Lib.hid (fun o=>Kept.alloc (lo:=lo) (hi:=hi) (e:=et) wr o)
     have HS2:Hid (∀o:Obj,hi<=(wr.alloc o).heap.size):=fun o=>by simp;omega
     have HJJ:Hid (∀o:Obj,J (pre++[xc]++L) (wr.alloc o)):=fun o=>HJ.out _ _ _ HJL.out;have HC2:Hid (∀o:Obj,Cells w0 (wr.alloc o)):=fun o=>(HB2.out o).cells HCW.out hlo;clear hx1 hr1 hcw hmem hrx hpp hbd hlen
     gi_wp2_with fail
     refine (HH1.out _ _ (HC2.out _) (HS2.out _) (HJJ.out _)).mono ?_
     rintro e W3 (⟨rfl,⟨L3,hL3,hJ3⟩,hk3⟩|⟨rfl,q,hq,hx3⟩)
     ·have HL3:=Lib.hid hL3;have HJ3:=Lib.hid hJ3;have HK3:=Lib.hid (HKW.out.trans ((HB2.out _).trans hk3));clear hL3 hJ3 hk3
      gi_wp2_with fail
      go_roundw
      case rel=>exact ⟨rfl,i+1,by go_num,by omega,HK3.out,L++L3,by rw [HPP.out];simp [HL.out,HL3.out],by simpa using HJ3.out⟩
      case measure=>simp [intOf];omega
     ·have HQ:=Lib.hid hq;have HX3:=Lib.hid hx3;clear hq hx3
      gi_wp2_with fail
      go_ret
      refine .inr ⟨rfl,[xc]++(L++q), ?_,by simpa using HX3.out⟩;obtain ⟨r,hr⟩:=HQ.out;have h2:=iT (kids.take (i+1)) (kids.drop (i+1));rw [List.take_append_drop,HPP.out] at h2;refine ⟨r++(bM (kids.drop (i+1))).map Ex.sig, ?_⟩;rw [h2];simp [HXS.out,Ex.sig,HL.out, <- hr]
    ·gi_wp2
     go_ret
     obtain rfl:i=kids.length:=by omega
     refine .inl ⟨rfl,⟨[xc]++L, ?_,by simpa using HJL.out⟩,HKW.out⟩;simp [HXS.out,Ex.sig,HL.out]
  ·gi_wp2
   go_ret
   exact .inr ⟨rfl,[xc],by simp [HXS.out,Ex.sig],hx2⟩
theorem sg (F:Fence) (hF: ∀f,F.fn f) (hd:F.depth=none) (hro:F.round=none) (n lo hi B:Nat) (et:TypeId) (het:25≠et) (x:Ex) (cx:List Value) (w0 w:World) (hlo:w0.heap.size<=lo) (hhi:hi<=w.heap.size)
  (hx:fG w0 x cx) (hok:x.ok) (hc:Cells w0 w) (hB:w.heap[B]? = some (.cells cx.toArray 25)) :
  SeqStopsK F n Tryz.prog 74 #[.pointer (some ⟨B,0,none⟩)] (fun c:XC=> #[c.val]) (Kept lo hi et) (fun L=>L.map XC.sig=(aj x).map Ex.sig) (fun q=>q.map XC.sig <+: (aj x).map Ex.sig) (aj x).length w:=by
 intro l J Jx W hW hJ hJx hY h0;have hw:=H9 F hF hd hro l (aj x).length lo hi et het J Jx w0 hlo (fun pre W o h=>hJ pre _ _ none h (World.grownBy_alloc W o none) (fun r e=>by cases e)) (fun m pre c W hj hl=>rO hd m (hY pre c W hj hl)) x (n - 1) cx [] W hx hok (hc.trans (.of hW)) (Nat.le_trans hhi hW.size) h0 (by simp);obtain ⟨k,s,kids⟩:=x;rw [fG] at hx;obtain ⟨sv,rfl,hr⟩:=hx;obtain ⟨p,c,rfl, -, -⟩:=hr.shape;have hbw:=(hW.block B (Array.getElem?_eq_some_iff.1 hB).1).trans hB;have c0:=aI hbw 0;have c1:=aI hbw 1;have c2:=aI hbw 2;simp only [Xd,Yq,X2] at c0 c1 c2;have HW:=Lib.hid hw
 have hdd: ∀k:Nat,(F.depth.isSome=true->1<=k):=fun k h=>by rw [hd] at h;cases h
 clear hw hJ hJx hY h0 hr hbw hB hc hW;refine callsIn_of_wp Tryz.func74 rfl (hF _) ?_ hro;simp only [Tryz.ntmps74,List.size_toArray,List.length_cons,List.length_nil,Nat.reduceAdd,Nat.reduceSub,Yr,Ys,List.push_toArray,List.append_toArray,List.nil_append,List.cons_append]
 gi_wp2_with fail
 refine HW.out.mono ?_
 rintro e W1 (⟨rfl,⟨L,hL,hJ1⟩, -⟩|⟨rfl,q,hq,hx⟩)
 ·have HL:=Lib.hid hL;have HJ1:=Lib.hid hJ1;clear hL hJ1
  gi_wp2
  go_end0
  exact ⟨⟨_,rfl⟩, .inl ⟨L,HL.out,by simpa using HJ1.out⟩⟩
 ·have HQ:=Lib.hid hq;have HX:=Lib.hid hx;clear hq hx
  gi_wp2
  go_end0
  exact ⟨⟨_,rfl⟩, .inr ⟨q,HQ.out,by simpa using HX.out⟩⟩
theorem xC (k:Int) (s:ByteArray) (p:Option Addr) (n c:Nat) (w:World) :
  Calls Tryz.prog 49 #[.agg #[.int .i64 k, .string s, .slice p n c]] w fun e w'=>e = .returned (.func (.func 74) #[] #[.pointer (some ⟨w.heap.size,0,none⟩)])∧w.alloc (.cells #[.int .i64 k, .string s, .slice p n c] 25)=w':=by
 go_enter Tryz.func49,Tryz.ntmps49
 go_wp2_with fail
 go_ret
 exact ⟨rfl,rfl⟩
end
section
open Go.RowKit Go.Shelf
attribute [local go_sem] Oper.semAt_some
theorem yF {x:Ex} {q:List XC} (h:q.map XC.sig <+: (aj x).map Ex.sig) (hq:24<q.length∨ ∃c,c∈q∧sd c.sig=false):aC x=false:=by
 rw [rV];obtain ⟨r,hr⟩:=h;rw [<-hr]
 rcases hq with hq|⟨c,hc,hf⟩
 ·rw [decide_eq_false (by simp;omega),Yt]
 ·have:(q.map XC.sig++r).all sd=false:=by
   rw [List.all_eq_false];exact ⟨c.sig,by simp;exact .inl ⟨c,hc,rfl⟩,by rw [hf];decide⟩
  rw [this,Bool.and_false]
theorem yE {x:Ex} {q:List XC} (h:q.map XC.sig=(aj x).map Ex.sig) (hq:q.length<=24) (hp: ∀c,c∈q->sd c.sig=true):aC x=true:=by
 rw [rV, <- h,decide_eq_true (by simpa using hq),Bool.true_and,List.all_map,List.all_eq_true];exact hp
theorem vO (x:Ex) (cx:List Value) (w:World) (hx:fG w x cx) (hok:x.ok) :
  Calls Tryz.prog 27 #[.agg cx.toArray] w (Cw w (.bool (aC x))):=by
 obtain ⟨k,s,kids⟩:=x;have hx':=hx;rw [fG] at hx;obtain ⟨sv,rfl,hr⟩:=hx;obtain ⟨p,c,rfl, -, -⟩:=hr.shape;refine (callsIn_wide (n:=9)).1 ?_;have HX:=Lib.hid hx';have HO:=Lib.hid hok;clear hx' hok hr;refine callsIn_of_wp_marks Tryz.func27 rfl trivial ?_ rfl;simp only [Tryz.ntmps27,List.size_toArray,List.length_cons,List.length_nil,Nat.reduceAdd,Nat.reduceSub,Array.replicate_succ,Array.replicate_zero,List.push_toArray,List.append_toArray,List.nil_append,List.cons_append]
 gi_wp2_with fail
 refine ⟨trivial, ?_⟩;refine (callsIn_wide.2 (xC _ _ _ _ _ _)).mono ?_;rintro e w' ⟨rfl,rfl⟩
 gi_wp2_with fail
 obtain ⟨bx,hbx⟩: ∃bx:Obj,bx = .cells #[.int .i64 k, .string s, .slice p kids.length c] 25:=⟨_,rfl⟩;rw [<-hbx];obtain ⟨W0,hW0⟩: ∃W0,(((w.alloc bx).alloc (.cells #[.bool false] 4)).alloc (.cells #[.int .i64 0] 3)).alloc bx=W0:=⟨_,rfl⟩
 have hs0:W0.heap.size=w.heap.size+4:=by rw [<-hW0];simp
 have hb0:Below w.heap.size w W0:=by rw [<-hW0];exact ((((Below.refl w.heap.size w).alloc (WN _) _).alloc (by simp) _).alloc (by simp;omega) _).alloc (by simp;omega) _
 have hbr:W0.heap[w.heap.size+1]? = some (.cells #[.bool false] 4 (0,0)):=by rw [<-hW0];exact j0 (j0 (by simpa using fp (w.alloc bx) _) _) _
 have hbn:W0.heap[w.heap.size+2]? = some (.cells #[.int .i64 0] 3 (0,0)):=by rw [<-hW0];exact j0 (by simpa using fp ((w.alloc bx).alloc (.cells #[.bool false] 4)) _) _
 have hbp:W0.heap[w.heap.size+3]? = some bx:=by rw [<-hW0];simpa using fp (((w.alloc bx).alloc (.cells #[.bool false] 4)).alloc (.cells #[.int .i64 0] 3)) bx
 rw [hbx] at hbp;have hseq:=sg Fence.wide (fun _=>trivial) rfl rfl 8 w.heap.size (w.heap.size+3) (w.heap.size+3) 0 (by decide) _ _ w W0 (WN _) (by omega) HX.out HO.out (.of hb0) hbp;rw [hW0];clear hbx
 refine KZ (lb:= #[.pointer (some ⟨w.heap.size+3,0,none⟩)]) (gf:=74) rfl (enters_of Tryz.func74 (by kernel_rfl) rfl) hseq (Below.refl _ _) (fun _=>rfl)
  (fun pre W=>(Below w.heap.size w W∧W.heap[w.heap.size+2]? = some (.cells #[.int .i64 pre.length] 3 (0,0))∧W.heap[w.heap.size+1]? = some (.cells #[.bool false] 4 (0,0))∧W0.heap.size<=W.heap.size)∧pre.length<=24∧ ∀c,c∈pre->sd c.sig=true)
  (fun c pre W=>(Below w.heap.size w W∧W.heap[w.heap.size+1]? = some (.cells #[.bool false] 4 (0,0)))∧c = .ret∧(24<pre.length∨ ∃c,c∈pre∧sd c.sig=false))
  (((ownFrom_below (WN _) (by omega)).and ((ke _ _ (fun s:List XC=> #[.int .i64 s.length]) _).and ((ke _ _ (fun _:List XC=> #[.bool false]) _).and (fun _ _ _ _ hs hg _=>WO hs hg.size)))).and (ownFrom_pure _ _))
  (fun _=>((ownFrom_below (WN _) (by omega)).and (ke _ _ (fun _:List XC=> #[.bool false]) _)).and (ownFrom_pure _ _))
  ⟨⟨hb0,hbn,hbr,WN _⟩,WZ _,fun _ h=>by cases h⟩ 4 (fun c=> #[.int .i64 c.kind, .string c.label, .slice c.ptr c.len c.cap]) 25 (fun _ _ h=>h.1.2.2.2) ?assign ?body ?done ?stop
 case assign=>
  intro l x W K hK;simp only [handed,XC.val,Yu,Yv,Yw,Yx,Yy,Yz,YA];simp only [handed,XC.val,Act.o7,Yu,Yv,Yw,Yx,Yy,Yz,YA] at hK
  gi_wp2
  exact hK
 case body=>
  rintro l pre x B W hl hrec ⟨⟨hb,hn,hr,hsz⟩,hle,hall⟩ hB hbB hlen;have hcn:=aI hn 0;have hfn:=cD hn 0;have hcr:=aI hr 0;have hfr:=cD hr 0;have hp0:=aI hbB 0;have hp1:=aI hbB 1;have hp2:=aI hbB 2;simp only [Xd,X2,List.getElem?_cons_succ] at hcn hcr hp0 hp1 hp2
  have hB1: ¬B=w.heap.size+2:=by omega
  have hB2: ¬w.heap.size+2=B:=by omega
  obtain ⟨W1,hW1⟩: ∃W1,W1=W.setCell ⟨w.heap.size+2,0,none⟩ (.int .i64 ((pre.length:Int)+1)):=⟨_,rfl⟩
  have hk1:Kept w.heap.size (w.heap.size+3) 0 W W1:=by rw [hW1];exact Kept.setCell W (by omega) (by omega) _
  have hf1:KeepsFrom W0.heap.size W W1:=by rw [hW1];exact (KeepsOthers.setCell _ _ _).from _
  have hbw1:Below w.heap.size w W1:=by rw [hW1];exact hb.setCell (p:=⟨w.heap.size+2,0,none⟩) (by simp) _
  have hn1:W1.heap[w.heap.size+2]? = some (.cells #[.int .i64 ((pre++[x]).length:Nat)] 3 (0,0)):=by rw [hW1];simpa using jB hn (.int .i64 ((pre.length:Int)+1))
  have hr1:W1.heap[w.heap.size+1]? = some (.cells #[.bool false] 4 (0,0)):=by rw [hW1];exact dG hr _ (by omega)
  have hz1:W0.heap.size<=W1.heap.size:=by rw [hW1];exact WO hsz (KeepsOthers.setCell _ _ _).size
  have HA:=Lib.hid (show _∧_∧_∧_∧_∧_ from ⟨hk1,hf1,hbw1,hn1,hr1,hz1⟩)
  have hzl:w.heap.size+1<W1.heap.size:=by omega
  have HP:=Lib.hid (fun W'=>KG x.kind x.label x.ptr x.len x.cap W' x.hl x.hn);have HS:Hid (∀b,bp x.kind x.label x.len=b->sd x.sig=b):=fun b h=>h;have HALL:=Lib.hid hall;have HB0:=Lib.hid hb;have HW1:=Lib.hid hW1;clear hb hn hr hbB hk1 hf1 hbw1 hn1 hr1 hz1 hall hW1 hsz;simp only [handed,Act.o7,Yu,Yv,Yw,Yx,Yy,Yz,YA]
  by_cases h24:pre.length=24
  ·have hgt:(24:Int)<(pre.length:Int)+1:=by omega
   have H24:=Lib.hid h24;clear h24;have hcr1:=aI HA.out.2.2.2.2.1 0;have hfr1:=cD HA.out.2.2.2.2.1 0;rw [HW1.out] at hcr1 hfr1;simp only [Xd,X2] at hcr1
   gi_wp2_with fail
   refine ⟨trivial, ?_⟩
   gi_wp2
   obtain ⟨hk1,hf1,hbw1,hn1,hr1,hz1⟩:=HA.out;rw [HW1.out] at hf1 hbw1 hr1;refine ⟨hf1.trans ((KeepsOthers.setCell _ _ _).from _),⟨hbw1.setCell (p:=⟨w.heap.size+1,0,none⟩) (by simp) _,jB hr1 _⟩,rfl, .inl (by have:=H24.out;simp;omega)⟩
  ·have hgt: ¬(24:Int)<(pre.length:Int)+1:=by omega
   have H24:=Lib.hid h24;clear h24
   cases hpb:bp x.kind x.label x.len
   ·rw [hpb] at HP;have HPB:=Lib.hid (HS.out _ hpb);clear hpb
    gi_wp2_with fail
    refine ⟨trivial,(CallsIn.inRound l (callsIn_wide.2 (HP.out _))).mono ?_⟩;rintro e w2 ⟨rfl,hb2⟩
    have hb2':Below W1.heap.size W1 w2:=by rw [HW1.out];exact hb2
    clear hb2;obtain ⟨hk1,hf1,hbw1,hn1,hr1,hz1⟩:=HA.out;have hr2:w2.heap[w.heap.size+1]? = some (.cells #[.bool false] 4 (0,0)):=(hb2'.block _ (by omega)).trans hr1;have hcr1:=aI hr2 0;have hfr1:=cD hr2 0;simp only [Xd,X2] at hcr1;have HR2:=Lib.hid hr2;have HB2:=Lib.hid hb2';clear hk1 hf1 hbw1 hn1 hr1 hz1 hr2 hb2'
    gi_wp2
    obtain ⟨hk1,hf1,hbw1,hn1,hr1,hz1⟩:=HA.out;exact ⟨(hf1.trans (mf HB2.out)).trans ((KeepsOthers.setCell _ _ _).from _),⟨(cp hbw1 HB2.out).setCell (p:=⟨w.heap.size+1,0,none⟩) (by simp) _,jB HR2.out _⟩,rfl, .inr ⟨x,by simp,HPB.out⟩⟩
   ·rw [hpb] at HP;have HPB:=Lib.hid (HS.out _ hpb);clear hpb
    gi_wp2_with fail
    refine ⟨trivial,(CallsIn.inRound l (callsIn_wide.2 (HP.out _))).mono ?_⟩;rintro e w2 ⟨rfl,hb2⟩
    have HB2:Hid (Below W1.heap.size W1 w2):=by show Below _ _ _;rw [HW1.out];exact hb2
    clear hb2
    gi_wp2
    obtain ⟨hk1,hf1,hbw1,hn1,hr1,hz1⟩:=HA.out;have hb2:=HB2.out;refine ⟨hf1.trans (mf hb2),hk1.trans (Kept.below hb2),⟨cp hbw1 hb2,(hb2.block _ (by omega)).trans hn1,(hb2.block _ (by omega)).trans hr1,WO hz1 hb2.size⟩,by have:=H24.out;simp;omega, ?_⟩;intro c hc
    rcases List.mem_append.1 hc with hc|hc
    ·exact HALL.out c hc
    ·rw [List.mem_singleton.1 hc];exact HPB.out
 case done=>
  rintro D xs W hD hS ⟨⟨hb,hn,hr,hsz⟩,hle,hall⟩ hK;have hcr:=aI hr 0;have hfr:=cD hr 0;simp only [Xd,X2] at hcr;have hfin:=yE hS hle hall;have HF:=Lib.hid hfin;have HR:=Lib.hid hr;have HB:=Lib.hid hb;have HK:=Lib.hid hK;have HD:=Lib.hid hD;have H0:=Lib.hid hs0;clear hb hn hr hsz hle hall hK hD hS hfin hW0 hb0 hbr hbn hbp hseq hs0
  gi_wp2
  have hD:=HD.out;have h0:=H0.out;have hKs:=dG HK.out (b:=w.heap.size+1) (o:=0) (.bool true) (by omega);refine ⟨by simp, .inl ⟨_,_,rfl,run_takeDeferred hKs, ?_⟩⟩;have hbx:=dF (jB HR.out (.bool true)) (.deferred none) (D:=D) (by omega);have hcf:=aI hbx 0;simp only [Xd,X2] at hcf
  refine ⟨.bool true, ?_,cr rfl HF.out.symm ?_⟩
  ·simp [results,Tryz.results27,go_sem,hcf]
  ·exact lu (HB.out.setCell (p:=⟨w.heap.size+1,0,none⟩) (Nat.le_succ _) _) (by omega) _ hKs
 case stop=>
  rintro D c pre W hD hSp ⟨⟨hb,hr⟩,rfl,hq⟩ hK;have hfin:=yF hSp hq;have HF:=Lib.hid hfin;have HR:=Lib.hid hr;have HB:=Lib.hid hb;have HK:=Lib.hid hK;have HD:=Lib.hid hD;have H0:=Lib.hid hs0;clear hb hr hK hD hSp hq hfin hW0 hb0 hbr hbn hbp hseq hs0
  gi_wp2
  have hD:=HD.out;have h0:=H0.out;refine ⟨by simp, .inl ⟨_,_,rfl,run_takeDeferred HK.out, ?_⟩⟩;have hbx:=dF HR.out (.deferred none) (D:=D) (by omega);have hcf:=aI hbx 0;simp only [Xd,X2] at hcf
  refine ⟨.bool false, ?_,cr rfl HF.out.symm ?_⟩
  ·simp [results,Tryz.results27,go_sem,hcf]
  ·exact lu HB.out (by omega) _ HK.out
end
def wx (x:Ex):Prop:= ∀(y:Ex) (cx cy:List Value) (w:World),fG w x cx->fG w y cy ->
 Calls Tryz.prog 45 #[.agg cx.toArray, .agg cy.toArray] w (Cw w (.bool (gu x y)))
theorem zp (xs:List Ex) (hx: ∀x,x∈xs->wx x) (ys:List Ex) (vx vy:Value) (w:World) (h1:iZ w xs vx) (h2:iZ w ys vy) :
  Calls Tryz.prog 73 #[vx,vy] w (Cw w (.bool (j7 xs ys))):=by
 rw [oO];obtain ⟨p,c,rfl,hc1,hc2⟩:=h1.shape;obtain ⟨q,d,rfl,hd1,hd2⟩:=h2.shape;unfold maxLen at hc2 hd2
 by_cases hl:xs.length=ys.length
 ·have H1:=Lib.hid h1;have H2:=Lib.hid h2;have HX:=Lib.hid hx;have HL:=Lib.hid hl
  have hne:(((xs.length:Nat):Int) !=((ys.length:Nat):Int))=false:=by simp [hl]
  clear h1 h2 hx hl
  go_enter Tryz.func73,Tryz.ntmps73
  go_wp2_with fail
  go_loopw [4,5] (fun r i wr=> ∃k:Nat,k<=xs.length∧r = .bool false∧i = .int .i64 k∧Below w.heap.size w wr∧ ∀j (h:j<k) (h':j<xs.length) (h'':j<ys.length),gu xs[j] ys[j]=true) (fun _ i _=>xs.length - (intOf i).toNat)
  case atStart=>exact ⟨0,WZ _,rfl,rfl,Below.refl _ _,fun j h=>by omega⟩
  case round=>
   obtain ⟨k,hk,rfl,rfl,hb,hP⟩:=hrel;have HP:=Lib.hid hP;clear hP
   by_cases hlt:k<xs.length
   ·have hlt2:k<ys.length:=by have:=HL.out;omega
    obtain ⟨b1,o1,k1,s1,l1,v1,rfl,hx1,hr1,a0,a1,a2⟩:=(H1.out.below hb).at hlt;obtain ⟨b2,o2,k2,s2,l2,v2,rfl,hx2,hr2,c0,c1,c2⟩:=(H2.out.below hb).at hlt2;have HC:=Lib.hid (HX.out xs[k] (List.getElem_mem _) ys[k] [.int .i64 k1, .string s1,v1] [.int .i64 k2, .string s2,v2] wr.drew (by rw [hx1,fG];exact ⟨v1,rfl,hr1.below (cC wr)⟩) (by rw [hx2,fG];exact ⟨v2,rfl,hr2.below (cC wr)⟩));clear hx1 hr1 hx2 hr2
    cases hs:gu xs[k] ys[k]
    ·rw [hs] at HC;have HS:=Lib.hid hs;clear hs
     go_wp2_with fail
     go_still_tail 8,(by kernel_rfl)
     change wpList _ _ _ _ _ wr.drew
     go_wp2_with fail
     refine HC.out.mono ?_;rintro e w' ⟨rfl,hb'⟩
     go_wp2_with fail
     go_ret
     exact cr rfl (EL hlt hlt2 HS.out).symm (cp hb (Below.Lx hb'))
    ·rw [hs] at HC;have HS:=Lib.hid hs;clear hs
     go_wp2_with fail
     go_still_tail 8,(by kernel_rfl)
     change wpList _ _ _ _ _ wr.drew
     go_wp2_with fail
     refine HC.out.mono ?_;rintro e w' ⟨rfl,hb'⟩
     go_wp2_with fail
     go_roundw
     case rel=>exact ⟨k+1,by omega,rfl,by go_num,cp hb (Below.Lx hb'),fun j h h' h''=>by
      by_cases e:j=k
      ·subst e;exact HS.out
      ·exact HP.out j (by omega) h' h''⟩
     case measure=>simp [intOf];omega
   ·go_wp2_with fail
    go_ret
    have hk':k=xs.length:=by omega
    exact cr rfl (mF.2 ⟨HL.out,fun i h h'=>HP.out i (by omega) h h'⟩).symm hb
 ·have hne:(((xs.length:Nat):Int) !=((ys.length:Nat):Int))=true:=by simp;omega
  clear h1 h2 hx;rw [zZ hl];clear hl
  go_enter Tryz.func73,Tryz.ntmps73
  go_wp2_with fail
  go_ret
  exact ⟨rfl,Below.refl _ _⟩
theorem zo (x:Ex):wx x:=by
 induction x using Ex.ind with
 | h k s l ih=>
  intro y cx cy w hx hy;obtain ⟨k',s',l'⟩:=y;rw [fG] at hx hy;obtain ⟨vx,rfl,hx⟩:=hx;obtain ⟨vy,rfl,hy⟩:=hy;rw [gu];have HB: ∀o o',Below w.heap.size w ((w.alloc o).alloc o'):=fun o o'=>((Below.refl _ _).alloc (WN _) o).alloc (by simp) o'
  cases hk:k==k'
  ·clear ih hx hy;rw [Yt,Yt];have HB':=Lib.hid HB;clear HB
   go_enter Tryz.func45,Tryz.ntmps45
   go_wp2_with fail
   go_ret
   exact cr rfl rfl (HB'.out _ _)
  ·cases hs:s.toList==s'.toList
   ·clear ih hx hy;rw [Bool.and_false,Yt];have HB':=Lib.hid HB;clear HB
    go_enter Tryz.func45,Tryz.ntmps45
    go_wp2_with fail
    go_ret
    exact cr rfl rfl (HB'.out _ _)
   ·rw [Bool.and_true,Bool.true_and];have HC:=Lib.hid (fun w' (hb:Below w.heap.size w w')=>zp l ih l' vx vy w' (hx.below hb) (hy.below hb));have HB':=Lib.hid HB;clear ih hx hy HB
    go_enter Tryz.func45,Tryz.ntmps45
    go_wp2_with fail
    refine (HC.out _ (HB'.out _ _)).mono ?_;rintro e w' ⟨rfl,hb'⟩
    go_wp2_with fail
    go_ret
    exact cr rfl rfl (cp (HB'.out _ _) hb')
theorem wj (xs ys:List ByteArray) (vx vy:Value) (w:World) (h1:kr w xs vx) (h2:kr w ys vy) :
  Calls Tryz.prog 48 #[vx,vy] w (Cw w (.bool (jS cH xs ys))):=by
 obtain ⟨p,c,rfl,hc1,hc2⟩:=h1.shape;obtain ⟨q,d,rfl,hd1,hd2⟩:=h2.shape;unfold maxLen at hc2 hd2
 by_cases hl:xs.length=ys.length
 ·have H1:=Lib.hid h1;have H2:=Lib.hid h2;have HL:=Lib.hid hl
  skip
  have hne:(((xs.length:Nat):Int) !=((ys.length:Nat):Int))=false:=by simp [hl]
  clear h1 h2 hl
  go_enter Tryz.func48,Tryz.ntmps48
  go_wp2_with fail
  go_loopw [4,5] (fun r i wr=> ∃k:Nat,k<=xs.length∧r = .bool false∧i = .int .i64 k∧Below w.heap.size w wr∧ ∀j (h:j<k) (h':j<xs.length) (h'':j<ys.length),cH xs[j] ys[j]=true) (fun _ i _=>xs.length - (intOf i).toNat)
  case atStart=>exact ⟨0,WZ _,rfl,rfl,Below.refl _ _,fun j h=>by omega⟩
  case round=>
   obtain ⟨k,hk,rfl,rfl,hb,hP⟩:=hrel;have HP:=Lib.hid hP;clear hP
   by_cases hlt:k<xs.length
   ·have hlt2:k<ys.length:=by have:=HL.out;omega
    obtain ⟨b1,o1,rfl,a0⟩:=rz (H1.out.below hb) hlt;obtain ⟨b2,o2,rfl,c0⟩:=rz (H2.out.below hb) hlt2
    cases hs:cH xs[k] ys[k]
    ·have HS:=Lib.hid hs;unfold cH at hs
     go_wp2_with fail
     go_still (by kernel_rfl)
     go_wp2_with fail
     go_ret
     exact cr rfl (EL hlt hlt2 HS.out).symm hb.drew
    ·have HS:=Lib.hid hs;unfold cH at hs
     go_wp2_with fail
     go_still (by kernel_rfl)
     go_wp2_with fail
     go_roundw
     case rel=>exact ⟨k+1,by omega,rfl,by go_num,hb.drew,fun j h h' h''=>by
      by_cases e:j=k
      ·subst e;exact HS.out
      ·exact HP.out j (by omega) h' h''⟩
     case measure=>simp [intOf];omega
   ·go_wp2_with fail
    go_ret
    have hk':k=xs.length:=by omega
    exact cr rfl (mF.2 ⟨HL.out,fun i h h'=>HP.out i (by omega) h h'⟩).symm hb
 ·have hne:(((xs.length:Nat):Int) !=((ys.length:Nat):Int))=true:=by simp;omega
  clear h1 h2;rw [zZ hl];clear hl
  go_enter Tryz.func48,Tryz.ntmps48
  go_wp2_with fail
  go_ret
  exact cr rfl rfl (Below.refl _ _)
section
open Go.RowKit
end
section
open Go.RowKit
end
section
def Ty (f:FuncId) (cap:List Value) (q:om->Bool) (w:World):Prop:= ∀(x:om) (k:Int) (s:ByteArray) (l:List Ex) (v:Value) (W:World),Below w.heap.size w W->x.ok->x.expr = .mk k s l->iZ W l v ->
 Calls Tryz.prog f (.agg #[.string x.dV, .string x.to, .bool x.path, .string x.label, .string x.name, .int .i64 k, .string s,v] :: cap).toArray W (Cw W (.bool (q x)))
def Tw (f:FuncId) (cap:List Value) (q:Eu->Bool) (w:World):Prop:= ∀(x:Eu) (W:World),Below w.heap.size w W->x.ok ->
 Calls Tryz.prog f (.agg #[.int .i64 x.op, .int .i64 x.left.kind, .string x.left.name, .string x.left.key, .int .i64 x.left.val.kind, .int .i64 x.left.val.num, .string x.left.val.text, .int .i64 x.right.kind, .string x.right.name, .string x.right.key, .int .i64 x.right.val.kind, .int .i64 x.right.val.num, .string x.right.val.text] :: cap).toArray W (Cw W (.bool (q x)))
def Tx (f:FuncId) (cap:List Value) (q:vQ->Bool) (w:World):Prop:= ∀(x:vQ) (W:World),Below w.heap.size w W->x.ok ->
 Calls Tryz.prog f (.agg #[.int .i64 x.kind, .string x.name, .string x.key, .int .i64 x.val.kind, .int .i64 x.val.num, .string x.val.text] :: cap).toArray W (Cw W (.bool (q x)))
theorem BQ (xs ys:List ByteArray):aq Tryz.prog 48 [aS xs,aS ys] (.v (.bool (jS cH xs ys))):=
 .za (by kernel_rfl) (by simp only [aN,aS,AV.wf,aO,Bool.and_self]) (fun D nu w vargs h=>by
  obtain ⟨x,y,rfl,hx,hy⟩:=ze h
  exact wj xs ys x y w (Fl hx) (Fl hy))
section
variable {P:Program}
theorem c9 {s:AS} {k i j:Nat} {ob:ab} {row:List AV} (T':TypeId) (z':Nat) (hz':0<z') (hk:s.o[k]? = some (some ob)) (hz:0<ob.z) (hr:ob.rows[i]? = some row) (hj:row[j]? = some (.v (.slice none 0 0))) :
  x8 s (AS.mk s.t ((s.o++[some (ab.mk T' z' true [])]).set k (some { ob with rows:=ob.rows.set i (row.set j (.vec s.o.length 0)) })) s.y):=by
 intro f D nu a w hs
 have hv: ∀b,cX (Value.slice none 0 0)=some b->w.heap.size<=b:=fun b e=>by cases e
 have hp:=ik (nu:=nu) (o:=s.o) (ob:=⟨T',z',true,[]⟩) (Below.refl w.heap.size w) hv;have hro:=nL (ob:=⟨T',z',true,[]⟩) hs.ro (Below.refl _ _) hv (.inl ⟨rfl,rfl,rfl⟩);have hlt:=(WT.1 hk).1
 have hk':(s.o++[some (⟨T',z',true,[]⟩:ab)])[k]? = some (some ob):=by rw [List.getElem?_append_left hlt];exact hk
 have hh:ob.hl=({ ob with rows:=ob.rows.set i (row.set j (.vec s.o.length 0)) }:ab).hl:=by simp [ab.hl]
 obtain ⟨g,cur,hb⟩: ∃g cur,zP D (ju nu s.o.length (.slice none 0 0)) (s.o++[some ⟨T',z',true,[]⟩]) w k ob g cur:=by
  rcases hro.obj k ob hk' with ⟨_,e,_⟩|h|⟨g,es,cl,hm⟩
  ·rw [e] at hr;simp at hr
  ·exact h
  ·have:=hm.z;omega
 have hm:=lf (nu:=ju nu s.o.length (.slice none 0 0)) (o:=s.o++[some ⟨T',z',true,[]⟩]) (w:=w) (w':=w) (ob':={ ob with rows:=ob.rows.set i (row.set j (.vec s.o.length 0)) }) hk' hh.symm hb.bF rfl rfl rfl rfl (fun _ _=>rfl);refine ⟨ju nu s.o.length (.slice none 0 0),hp.trans hm,rfl, ?_,(hs.tm.mono hp (fun _ _ h=>h)).mono hm (fun _ _ h=>h),hs.jj⟩;have hil:=(WT.1 hr).1;have hjl:=(WT.1 hj).1
 have key: ∀(i' j':Nat) r c,(ob.rows.set i (row.set j (.vec s.o.length 0)))[i']? = some r->r[j']? = some c-> ∃r0 c0,ob.rows[i']? = some r0∧r0[j']? = some c0∧(c=c0∨(c = .vec s.o.length 0∧c0 = .v (.slice none 0 0))):=by
  intro i' j' r c h1 h2
  by_cases hi:i=i'
  ·subst hi;rw [Xj hil] at h1;cases h1
   by_cases hj':j=j'
   ·subst hj';rw [Xj hjl] at h2;cases h2;exact ⟨row,_,hr,hj, .inr ⟨rfl,rfl⟩⟩
   ·rw [Xi hj'] at h2;exact ⟨row,c,hr,h2, .inl rfl⟩
  ·rw [Xi hi] at h1;exact ⟨r,c,h1,h2, .inl rfl⟩
 refine vr hro hk' hh.symm hb.bF hm (fun _ _=>rfl) (cur:=cur) ⟨hb.fl,hb.nY,fun hv'=> ?_,fun hv'=> ?_,hb.z,fun i' r hi'=> ?_,fun i' j' r c x h1 h2 h3=> ?_,fun i' j' r c x h1 h2 h3=> ?_⟩
 ·obtain ⟨q1,q2,q3⟩:=hb.box hv';exact ⟨q1,by simpa using q2,q3⟩
 ·obtain ⟨cap,q1,q2,q3,q4⟩:=hb.vec hv';exact ⟨cap,by simpa using q1,by simpa using q2,q3,q4⟩
 ·by_cases hi:i=i'
  ·subst hi;rw [Xj hil] at hi';cases hi';rw [List.length_set];exact hb.row i row hr
  ·rw [Xi hi] at hi';exact hb.row i' r hi'
 ·obtain ⟨r0,c0,k1,k2,e⟩:=key i' j' r c h1 h2;have h0:=hb.cell i' j' r0 c0 x k1 k2 h3
  rcases e with rfl|⟨rfl,rfl⟩
  ·exact h0.mono hm (fun _ _ h=>h)
  ·obtain rfl:=h0.c6
   have:=RA.vec (D:=D) (nu:=ju nu s.o.length (.slice none 0 0)) (o:=(s.o++[some (⟨T',z',true,[]⟩:ab)])) (w:=w) s.o.length 0 ⟨_,List.getElem?_concat_length,fun x hx=>WZ _⟩ (by rw [b6];rfl)
   rw [b6] at this;exact this.mono hm (fun _ _ h=>h)
 ·obtain ⟨r0,c0,k1,k2,_⟩:=key i' j' r c h1 h2;exact hb.one i' j' r0 c0 x k1 k2 h3
end
def Wh (l:List ByteArray):List (List AV):=l.map (fun s=>[.v (.string s)])
end
end Go.Proofs.YtfflpdekojlnmaaGreatDoor
