/- texts of one claim, one behind the other. -/
import Derived.Test.YtfflpdekojlnmaaGreatDoorWAbsV
import Derived.Test.YtfflpdekojlnmaaGreatDoorWLang
import Derived.Test.YtfflpdekojlnmaaGreatDoorWFen
import Derived.ChangeArms
import Derived.Deep.Slices
import Derived.KernelRfl
import Derived.SizedLaws
import Derived.Test.YtfflpdekojlnmaaGreatDoorProg
import Derived.Test.YtfflpdekojlnmaaGreatDoorRows
import Derived.Test.YtfflpdekojlnmaaGreatDoorWAbsS
import Derived.WalkKit
import Derived.ProofKit
import Derived.OpenShut
set_option linter.unusedSimpArgs false
set_option linter.unusedVariables false
set_option maxRecDepth 100000
set_option maxHeartbeats 16000000
open Bool renaming and_eq_true -> Vj, or_eq_true -> VJ, false_eq_true -> VS, not_eq_true' -> VW, and_true -> VZ
open List renaming getElem?_of_mem -> UW, filter_cons -> VX, getElem?_eq_some_iff -> Uy, getElem?_drop -> UK, getElem?_cons_zero -> VC, getElem?_cons_succ -> VY, all_eq_true -> VH, getElem?_eq_getElem -> UM, getElem_mem -> VU, mem_of_getElem? -> U7, size_toArray -> UX, getD_eq_getElem?_getD -> Vq, getElem?_toArray -> UO, length_eq_zero_iff -> V0, getElem?_map -> UP, getElem?_range -> UQ, getElem?_eq_none -> UR
open Nat renaming lt_or_ge -> UA
open Option renaming bind_eq_some_iff -> V1
namespace Go.Proofs.YtfflpdekojlnmaaGreatDoor
open Go.RowKit
section
section
variable {D:Nat->Prop} {nu:Nat->Nat->Value} {o:List (Option aa)} {w:World} {P:Program}
variable {nu0:Nat->Nat->Value} {o0:List (Option aa)} {w0:World} {l:List Oper} {es:List Nat} {O:Nat->List (Option aa)}
def sY:List (Nat×Nat)->Nat->Option Nat
 | [],_=>none
 | (j,lo) :: fs,k=>if j=k∧1000<=lo then some (lo - 1000) else sY fs k
def O7:Option (Nat->List (Option aa)->Prop)->Nat->List (Option aa)->Prop
 | none,_,_=>True
 | some p,k,o=>p k o
def jF (es:List Nat) (k:Nat):List Nat:=es.filter (fun e=>decide (k<=e))
theorem mN {es:List Nat} {k:Nat} (h:es.contains k=false):jF es k=jF es (k+1):=by
 refine List.filter_congr fun e he=> ?_
 have hne:e≠k:=fun hh=>by subst hh;simp [he] at h
 rw [decide_eq_decide];omega
theorem y6 {es:List Nat} {k:Nat} (h: ∀e,e∈es->k<=e):jF es k=es:=List.filter_eq_self.2 fun e he=>decide_eq_true (h e he)
theorem y7: ∀ {es:List Nat} {k:Nat},lJ es=true->es.contains k=true->jF es k=k :: jF es (k+1)
 | [],k,_,h=>by simp at h
 | a :: t,k,hr,h=>by
  have ht:lJ t=true:=by
   cases t with
   | nil=>rfl
   | cons b t=>simp only [lJ,Vj] at hr;exact hr.2
  have hgt: ∀e,e∈t->a<e:=fun e he=>by
   obtain ⟨i,hi⟩:=UW he;exact iu hr 0 (i+1) a e (by omega) rfl (by simpa using hi)
  by_cases ha:a=k
  ·subst ha;have h1:jF t a=t:=y6 fun e he=>Nat.le_of_lt (hgt e he);have h2:jF t (a+1)=t:=y6 fun e he=>hgt e he;rw [jF,VX, <- jF,h1,jF,VX, <- jF,h2,if_pos (by simp),if_neg (by simp)]
  ·have hk:t.contains k=true:=by
    simp only [List.contains_cons,VJ,beq_iff_eq] at h
    rcases h with h|h
    ·exact absurd h.symm ha
    ·exact h
   have hlt:=hgt k (by simpa using hk);have IH:=y7 ht hk;rw [jF,VX, <- jF,IH,if_neg (by simp;omega),jF,jF,VX,if_neg (by simp;omega)]
theorem ER {es:List Nat} {k m:Nat} (hm: ∀m' e,es[m']? = some e->(e<k↔m'<m)):jF es k=es.drop m:=by
 have h1:jF es k=jF (es.take m++es.drop m) k:=by rw [List.take_append_drop]
 rw [h1,jF,List.filter_append]
 have h2:(es.take m).filter (fun e=>decide (k<=e))=[]:=List.filter_eq_nil_iff.2 fun e he=>by
  obtain ⟨i,hi⟩:=UW he;have hlt:=(Uy.1 hi).1;rw [List.getElem?_take_of_lt (by simp at hlt;omega)] at hi
  have:=(hm i e hi).2 (by simp at hlt;omega)
  simp;omega
 have h3:(es.drop m).filter (fun e=>decide (k<=e))=es.drop m:=List.filter_eq_self.2 fun e he=>by
  obtain ⟨i,hi⟩:=UW he;rw [UK] at hi
  have: ¬e<k:=fun hh=>by have:=(hm _ e hi).1 hh;omega
  simp;omega
 rw [h2,h3,List.nil_append]
def dE (P:Program) (all:List Oper) (es:List Nat) (fs:List (Nat×Nat)):List Oper->Nat->AS->List (List (Option aa))->Option (Nat->List (Option aa)->Prop)->(AS->Prop)->Prop
 | [],_,s,_,_,Q=>Q s
 | oo :: rest,k,s,hist,pn,Q=>if es.contains k then (match oo.guard with
   | none=>pH P oo.op s (fun r o'=>O7 pn k o'∧dE P all es fs rest (k+1) (s.put oo.dst r o') (hist++[s.o]) pn Q)
   | some _=>False) else match ft fs k with
   | some lo=>oo.guard=none∧bS P oo.op s (fun r=>(∀o',o'∈hist.drop lo->bS P oo.op ⟨s.t,o',s.y⟩ (fun r'=>r'=r))∧dE P all es fs rest (k+1) (s.put oo.dst r s.o) hist pn Q)
   | none=>match sY fs k with
    | some c=>oo.guard=none∧bS P oo.op s (fun r=>dE P all es fs rest (k+1) (s.put oo.dst r s.o) hist (some fun k' o'=>O7 pn k' o'∧(if k'<c then bS P oo.op ⟨s.t,o',s.y⟩ (fun r'=>r'=r) else True)) Q)
    | none=>dG P all oo s (fun s'=>dE P all es fs rest (k+1) s' hist pn Q)
def PG (P:Program) (all:List Oper) (es:List Nat) (fs:List (Nat×Nat)):List Oper->Nat->AS->List (List (Option aa))->List AV->List (List (Option aa))->AS->Prop
 | [],_,s,_,rs,os,sf=>rs=[]∧os=[]∧sf=s
 | oo :: rest,k,s,hist,rs,os,sf=> ∃r rs',rs=r :: rs' ∧
   ((es.contains k=true∧oo.guard=none∧ ∃o' os',os=o' :: os'∧pH P oo.op s (fun r' o''=>r'=r∧o''=o')∧PG P all es fs rest (k+1) (s.put oo.dst r o') (hist++[s.o]) rs' os' sf) ∨
   (es.contains k=false∧(((oo.guard=none∨ ∃j want b,oo.guard=some (j,want)∧iS all s j=some (some b)∧(b==want)=true)∧bS P oo.op s (fun r'=>r'=r)∧(∀lo,ft fs k=some lo-> ∀o',o'∈hist.drop lo->bS P oo.op ⟨s.t,o',s.y⟩ (fun r'=>r'=r))∧(ft fs k=none-> ∀c,sY fs k=some c-> ∀(i e:Nat) o',(jF es (k+1))[i]? = some e->e<c->os[i]? = some o'->bS P oo.op ⟨s.t,o',s.y⟩ (fun r'=>r'=r))) ∨
    (ft fs k=none∧sY fs k=none∧r = .v Go.undef∧ ∃j want g,oo.guard=some (j,want)∧iS all s j=some g∧(g=none∨ ∃b,g=some b∧(b==want)=false)))∧PG P all es fs rest (k+1) (s.put oo.dst r s.o) hist rs' os sf))
theorem fF {all:List Oper} {es:List Nat} {fs:List (Nat×Nat)} (hrise:lJ es=true): ∀(rest:List Oper) (k:Nat) (s:AS) (hist:List (List (Option aa))) {pn:Option (Nat->List (Option aa)->Prop)} {Q:AS->Prop},dE P all es fs rest k s hist pn Q-> ∃rs os sf,PG P all es fs rest k s hist rs os sf∧(∀(i e:Nat) o',(jF es k)[i]? = some e->os[i]? = some o'->O7 pn e o')∧Q sf
 | [],k,s,hist,pn,Q,h=>⟨[],[],s,⟨rfl,rfl,rfl⟩,(fun _ _ _ _ h=>by simp at h),h⟩
 | oo :: rest,k,s,hist,pn,Q,h=>by
  simp only [dE] at h
  cases he:es.contains k
  ·rw [he] at h;simp only [VS,if_false] at h
   cases hf:ft fs k with
   | some lo=>
    rw [hf] at h;obtain ⟨hg,h⟩:=h;obtain ⟨r,⟨hh,hk⟩,hr⟩:=fR h;obtain ⟨rs,os,sf,h1,h2⟩:=fF hrise rest (k+1) _ hist hk;exact ⟨r :: rs,os,sf,⟨r,rs,rfl, .inr ⟨he, .inl ⟨.inl hg,hr,(fun lo' hl=>by rw [hf] at hl;cases hl;exact hh),fun hn=>by rw [hf] at hn;cases hn⟩,h1⟩⟩,by rw [mN he];exact h2⟩
   | none=>
   rw [hf] at h
   have hno: ∀r lo,ft fs k=some lo-> ∀o',o'∈hist.drop lo->bS P oo.op ⟨s.t,o',s.y⟩ (fun r'=>r'=r):=fun r lo hl=>by rw [hf] at hl;cases hl
   simp only at h;cases hlt:sY fs k
   case some cc=>
    rw [hlt] at h;simp only at h;obtain ⟨hg,h⟩:=h;obtain ⟨r,hk,hr⟩:=fR h;obtain ⟨rs,os,sf,h1,h0,h2⟩:=fF hrise rest (k+1) _ hist hk;exact ⟨r :: rs,os,sf,⟨r,rs,rfl, .inr ⟨he, .inl ⟨.inl hg,hr,hno r,fun _ c hc i e o' he' hlt' ho'=>by rw [hlt] at hc;cases hc;have:=(h0 i e o' he' ho').2;rw [if_pos hlt'] at this;exact this⟩,h1⟩⟩,fun i e o' he' ho'=>(h0 i e o' (by rw [mN he] at he';exact he') ho').1,h2⟩
   have hla: ∀(r:AV) (os:List (List (Option aa))),ft fs k=none-> ∀c,sY fs k=some c-> ∀(i e:Nat) o',(jF es (k+1))[i]? = some e->e<c->os[i]? = some o'->bS P oo.op ⟨s.t,o',s.y⟩ (fun r'=>r'=r):=fun r os _ c h=>by rw [hlt] at h;cases h
   rw [hlt] at h;simp only at h;simp only [dG] at h
   split at h
   ·rename_i hg;obtain ⟨r,hk,hr⟩:=fR h;obtain ⟨rs,os,sf,h1,h2⟩:=fF hrise rest (k+1) _ hist hk;exact ⟨r :: rs,os,sf,⟨r,rs,rfl, .inr ⟨he, .inl ⟨.inl hg,hr,hno r,hla r _⟩,h1⟩⟩,by rw [mN he];exact h2⟩
   ·rename_i j want hg;unfold ur at h
    split at h
    ·rename_i b e
     cases hb:b==want
     ·rw [hb,pK] at h;obtain ⟨rs,os,sf,h1,h2⟩:=fF hrise rest (k+1) _ hist h;exact ⟨_ :: rs,os,sf,⟨_,rs,rfl, .inr ⟨he, .inr ⟨hf,hlt,rfl,j,want,_,hg,e, .inr ⟨b,rfl,hb⟩⟩,h1⟩⟩,by rw [mN he];exact h2⟩
     ·rw [hb,rJ] at h;obtain ⟨r,hk,hr⟩:=fR h;obtain ⟨rs,os,sf,h1,h2⟩:=fF hrise rest (k+1) _ hist hk;exact ⟨r :: rs,os,sf,⟨r,rs,rfl, .inr ⟨he, .inl ⟨.inr ⟨j,want,b,hg,e,hb⟩,hr,hno r,hla r _⟩,h1⟩⟩,by rw [mN he];exact h2⟩
    ·rename_i e;obtain ⟨rs,os,sf,h1,h2⟩:=fF hrise rest (k+1) _ hist h;exact ⟨_ :: rs,os,sf,⟨_,rs,rfl, .inr ⟨he, .inr ⟨hf,hlt,rfl,j,want,_,hg,e, .inl rfl⟩,h1⟩⟩,by rw [mN he];exact h2⟩
    ·exact h.elim
  ·rw [he] at h;simp only [if_true] at h
   split at h
   ·rename_i hg;obtain ⟨r,o',⟨hpo,hk⟩,hr⟩:=CR h;obtain ⟨rs,os,sf,h1,h0,h2⟩:=fF hrise rest (k+1) _ _ hk
    exact ⟨r :: rs,o' :: os,sf,⟨r,rs,rfl, .inl ⟨he,hg,o',os,rfl,hr,h1⟩⟩,fun i e o'' hi ho=>by
     rw [y7 hrise he] at hi
     cases i with
     | zero=>simp only [VC,Option.some.injEq] at hi ho;subst hi;subst ho;exact hpo
     | succ i=>rw [VY] at hi ho;exact h0 i e o'' hi ho,h2⟩
   ·exact h.elim
def Li (ops:Array Oper) (es:List Nat) (fs:List (Nat×Nat)) (j:Nat):Bool:=match sY fs j with
 | some c=> !es.contains j&&(ft fs j).isNone&&es.all (fun e=>decide (j<=e)||nX ops ops.size j e)&&es.all (fun e=>decide (e<c)||nX ops ops.size e j)
 | none=>false
def qb (ops:Array Oper) (es:List Nat) (fs:List (Nat×Nat)):Bool:=nA ops&&lJ es&&es.all (fun e=>decide (e<ops.size))&&(List.range ops.size).all (fun j=>(match ops[j]? with|some oo=>BX oo.op|none=>true) && !es.contains j||EP ops es j||y5 ops es fs j||Li ops es fs j)
theorem Lj {ops:Array Oper} {es:List Nat} {fs:List (Nat×Nat)} {j:Nat} (h:Li ops es fs j=true): ∃c,sY fs j=some c∧ft fs j=none∧es.contains j=false∧(∀e,e∈es->j<=e∨nX ops ops.size j e=true)∧(∀e,e∈es->c<=e->nX ops ops.size e j=true):=by
 unfold Li at h
 split at h
 ·rename_i c hc;simp only [Vj,VW,VH,VJ,decide_eq_true_eq] at h;refine ⟨c,hc,by have:=h.1.1.2;simpa using this,h.1.1.1,h.1.2,fun e he hle=> ?_⟩
  rcases h.2 e he with q|q
  ·omega
  ·exact q
 ·cases h
theorem GG.GM (g:GG D nu0 o0 w0 l es O) {k m:Nat} (hf: ∀e,e∈es->k<=e∨nX l.toArray l.toArray.size k e=true) (hd: ∀i,aE l.toArray k i=true->g.done i=true) (hm: ∀m' e,es[m']? = some e->(e<k↔m'<m)) (hml:m<=es.length):m<=g.c:=by
 rcases Nat.eq_zero_or_pos m with q|q
 ·omega
 ·have hlt:m - 1<es.length:=by omega
  have he:es[m - 1]? = some es[m - 1]:=UM hlt;have hlk:=(hm _ _ he).2 (by omega)
  rcases hf _ (VU hlt) with h|h
  ·omega
  ·have:=(g.ef _ _ he).1 (mQ g h hd)
   omega
theorem x7 {l:List Oper} {es:List Nat} {fs:List (Nat×Nat)} (hsz: ∀e,e∈es->e<l.length) (hrise:lJ es=true): ∀(rest:List Oper) (k m:Nat) (s:AS) (hist:List (List (Option aa))) (rs:List AV) (os:List (List (Option aa))) (sf:AS),l.drop k=rest->k<=l.length->PG P l es fs rest k s hist rs os sf->m<=es.length ->
  (∀m' e,es[m']? = some e->(e<k↔m'<m))->os.length+m=es.length
 | [],k,m,s,hist,rs,os,sf,hl,hk,ht,hm,hme=>by
  obtain ⟨rfl,rfl,rfl⟩:=ht
  have hkl:k=l.length:=by have:=congrArg List.length hl;simp at this;omega
  rcases UA m es.length with q|q
  ·have he:es[m]? = some es[m]:=UM q
   have:=(hme m _ he).1 (by rw [hkl];exact hsz _ (VU q))
   omega
  ·simp;omega
 | oo :: rest,k,m,s,hist,rs,os,sf,hl,hk,ht,hm,hme=>by
  have hlt:k<l.length:=by have:=congrArg List.length hl;simp at this;omega
  have hl':l.drop (k+1)=rest:=by have:=congrArg List.tail hl;simpa using this
  obtain ⟨r,rs',rfl,ht⟩:=ht
  rcases ht with ⟨he,hg,o',os',rfl,hd,htr⟩|⟨he,hstep,htr⟩
  ·have hkm:k∈es:=by simpa using he
   obtain ⟨mk,hmk⟩:=UW hkm
   have hmke:mk=m:=by
    have h1: ¬mk<m:=fun hh=>by have:=(hme mk k hmk).2 hh;omega
    rcases UA m mk with q|q
    ·have hlt2:m<es.length:=by have:=(Uy.1 hmk).1;omega
     have hem:es[m]? = some es[m]:=UM hlt2;have hlt3:=iu hrise m mk _ _ q hem hmk
     have:=(hme m _ hem).1 hlt3
     omega
    ·omega
   subst hmke;have hmlt:=(Uy.1 hmk).1
   have:=x7 hsz hrise rest (k+1) (mk+1) _ _ _ _ _ hl' hlt htr (by omega) (fun m' e h=>by
    by_cases hek:e=k
    ·subst hek
     have:m'=mk:=(List.getElem?_inj (Uy.1 h).1 (dj hrise)).1 (h.trans hmk.symm)
     omega
    ·have:=hme m' e h
     have hne:m'≠mk:=fun hh=>by subst hh;rw [hmk] at h;cases h;exact hek rfl
     omega)
   simp only [List.length_cons];omega
  ·exact x7 hsz hrise rest (k+1) m _ _ _ _ _ hl' hlt htr hm (fun m' e h=>by
    have hne:e≠k:=fun hh=>by
     subst hh
     have:=U7 h
     simp [this] at he
    rw [<-hme m' e h];omega)
theorem l6 {f:Fr} {fs:List (Nat×Nat)} (hB:qb l.toArray es fs=true) {s sf:AS} {a:Act} {w0:World} {rs:List AV} {os:List (List (Option aa))} {R:Exit->Act->World->Prop} {g0:GG D nu s.o w0 l es (fun c=>(s.o :: os).getD c [])} (hs:RS f D nu s a w0)
  (hR: ∀a' w' nu',bG nu s.o w0 nu' sf.o w'->sf.y=s.y->RS f D nu' sf a' w'->R .normal a' w') :
  ∀(rest:List Oper) (k m:Nat) (sk:AS) (hist:List (List (Option aa))) (rs1 rs2:List AV) (os2:List (List (Option aa))) (A:(Nat->Value)->Act),l.drop k=rest->PG P l es fs rest k sk hist rs2 os2 sf->(s.o :: os).take m=hist->rs=rs1++rs2->Gp l s a k sk rs1 A->(s.o :: os).drop m=sk.o :: os2 ->
   m<=es.length->(∀m' e,es[m']? = some e->(e<k↔m'<m))->k<=l.length ->
   IL (N:=bC D nu s.o w0 l es (fun c=>(s.o :: os).getD c [])) P l.toArray (rs.mapIdx (fun k r=>fL D nu s.o w0 l es (fun c=>(s.o :: os).getD c []) k r)) g0 (R .normal) rest k A
 | [],k,m,sk,hist,rs1,rs2,os2,A,hl,ht,hhi,hrs,hI,hO,hml,hme,hk=>by
  obtain ⟨rfl,rfl,rfl⟩:=ht;intro x g hE hD
  have hkl:k=l.length:=by have:=congrArg List.length hl;simp at this;omega
  have hspec: ∀i r,rs1[i]? = some r->(fL D nu s.o w0 l es (fun c=>(s.o :: os).getD c []) i r).p (x i) g:=fun i r hr=>by
   have hik:i<k:=by rw [<-hI.len];exact (Uy.1 hr).1
   have:=hD i hik
   rw [hrs,List.append_nil,CY hr] at this;exact this
  have hdone: ∀i,i<k->g.done i=true:=fun i hi=>by
   have hlt:i<rs1.length:=by rw [hI.len];exact hi
   exact (hspec i _ (UM hlt)).2
  have hsz: ∀e,e∈es->e<l.length:=by
   simp only [qb,Vj,VH,decide_eq_true_eq,UX] at hB;exact hB.1.2
  have hm:m=es.length:=by
   rcases UA m es.length with q|q
   ·have he:es[m]? = some es[m]:=UM q
    have:=(hme m _ he).1 (by rw [hkl];exact hsz _ (VU q))
    omega
   ·omega
  have hc:g.c=m:=by
   have h1:=g.le
   rcases Nat.eq_zero_or_pos m with q|q
   ·omega
   ·have hlt:m - 1<es.length:=by omega
    have he:es[m - 1]? = some es[m - 1]:=UM hlt
    have:=(g.ef _ _ he).1 (hdone _ (by rw [hkl];exact hsz _ (VU hlt)))
    omega
  have hOm:(s.o :: os).getD m []=sf.o:=by
   have:=congrArg (fun l=>l[0]?) hO
   simp only [UK,Nat.add_zero,VC] at this;rw [Vq,this];rfl
  have hro:=g.ro;have hmo:=g.mono;simp only [hc,hOm] at hro hmo;refine hR (A x) g.w g.nu hmo hI.y ⟨hro,⟨hI.size x,fun t c v h1 h2=> ?_⟩,by rw [hI.js x];exact hs.js.mono hs.ro hmo⟩
  rcases hI.val x t c v h1 h2 with ⟨h3,h4⟩|⟨i,q1,q2,q3,q4⟩
  ·exact (hs.tm.at' t c v h3 h4).mono hmo (fun _ _ h=>h)
  ·have:=(hspec i c q3).1
   simp only [hc,hOm] at this;rw [q4];exact this
 | oo :: rest,k,m,sk,hist,rs1,rs2,os2,A,hl,ht,hhi,hrs,hI,hO,hml,hme,hk=>by
  have hB':=hB;simp only [qb,Vj,VH,decide_eq_true_eq,UX,List.mem_range,VJ] at hB';obtain ⟨⟨⟨hrel,hrise⟩,hszs⟩,hfix⟩:=hB'
  have hlt:k<l.length:=by have:=congrArg List.length hl;simp at this;omega
  have hok:l[k]? = some oo:=by have:=congrArg (fun m=>m[0]?) hl;simpa using this
  have hl':l.drop (k+1)=rest:=by have:=congrArg List.tail hl;simpa using this
  have hOm:(s.o :: os).getD m []=sk.o:=by
   have:=congrArg (fun l=>l[0]?) hO
   simp only [UK,Nat.add_zero,VC] at this;rw [Vq,this];rfl
  obtain ⟨r,rs',rfl,ht⟩:=ht
  have hrs':rs=(rs1++[r])++rs':=by rw [hrs];simp
  have hspecK:uq (rs.mapIdx (fun k r=>fL D nu s.o w0 l es (fun c=>(s.o :: os).getD c []) k r)) k=fL D nu s.o w0 l es (fun c=>(s.o :: os).getD c []) k r:=by
   rw [hrs];exact rY (by rw [List.getElem?_append_right (by rw [hI.len];exact Nat.le_refl _),hI.len,Nat.sub_self];rfl)
  have hspec: ∀(x:Nat->Value) (g:GG D nu s.o w0 l es (fun c=>(s.o :: os).getD c [])) i rr,(uq (rs.mapIdx (fun k r=>fL D nu s.o w0 l es (fun c=>(s.o :: os).getD c []) k r)) i).p (x i) g->rs1[i]? = some rr->RA D g.nu ((s.o :: os).getD g.c []) g.w rr (x i)∧g.done i=true:=fun x g i rr h hr=>by
   rw [hrs,rY (by rw [List.getElem?_append_left (Uy.1 hr).1];exact hr)] at h;exact h
  have hdep: ∀i,aE l.toArray k i=true->i<k:=fun i hi=>by
   simp only [nA,Vj,VH,List.mem_range,UX] at hrel
   rcases Nat.lt_trichotomy i k with h|h|h
   ·exact h
   ·subst h
    have:=(hrel.2 i hlt).2.1
    rw [hi] at this;cases this
   ·exfalso;simp only [aE,UO,hok,Array.any_eq_true',Vj,beq_iff_eq] at hi;obtain ⟨e,he,hb,rfl⟩:=hi;have hfar:=(hrel.2 k hlt).2.2;simp only [y0,UO,hok,Array.all_eq_true_iff_forall_mem] at hfar
    have hel:e.on<l.length:=by simpa using hfar e he
    have:=(hrel.2 e.on hel).1 k h
    simp only [zS,UO,hok,UM hel,Vj,VW] at this;have h2:=this.1.1.2;simp only [aE,UO,hok] at h2
    have:oo.after.any (fun e_1=>Region.binds .any e_1&&e_1.on==e.on)=true:=by
     simp only [Array.any_eq_true',Vj,beq_iff_eq];exact ⟨e,he,hb,rfl⟩
    rw [this] at h2;cases h2
  have hdoneD: ∀(x:Nat->Value) (g:GG D nu s.o w0 l es (fun c=>(s.o :: os).getD c [])),(∀i,aE l.toArray k i=true->(uq (rs.mapIdx (fun k r=>fL D nu s.o w0 l es (fun c=>(s.o :: os).getD c []) k r)) i).p (x i) g)-> ∀i,aE l.toArray k i=true->g.done i=true:=fun x g hD i hi=>by
   have hlt:i<rs1.length:=by rw [hI.len];exact hdep i hi
   exact (hspec x g i _ (hD i hi) (UM hlt)).2
  
  have hlook: ∀(x:Nat->Value) (g:GG D nu s.o w0 l es (fun c=>(s.o :: os).getD c [])),(∀i,aE l.toArray k i=true->(uq (rs.mapIdx (fun k r=>fL D nu s.o w0 l es (fun c=>(s.o :: os).getD c []) k r)) i).p (x i) g)-> ∀(t:Nat) c v,t∈oo.looksAt l.toArray->sk.t[t]? = some c->(A x).tmps[t]? = some v->RA D g.nu ((s.o :: os).getD g.c []) g.w c v:=by
   intro x g hD t c v ht h1 h2
   rcases hI.val x t c v h1 h2 with ⟨h3,h4⟩|⟨i,q1,⟨oi,q2,q5⟩,q3,q4⟩
   ·exact (hs.tm.at' t c v h3 h4).mono g.mono (fun _ _ h=>h)
   ·rcases sI hrel q1 q2 hok with h5|h5
    ·have:=(hspec x g i c (hD i h5) q3).1
     rw [q4];exact this
    ·exact absurd ht (h5 t q5)
  have hevs: ∀(x:Nat->Value) (g:GG D nu s.o w0 l es (fun c=>(s.o :: os).getD c [])),(∀i,aE l.toArray k i=true->(uq (rs.mapIdx (fun k r=>fL D nu s.o w0 l es (fun c=>(s.o :: os).getD c []) k r)) i).p (x i) g)->Gm D g.nu ((s.o :: os).getD g.c []) g.w sk.ev (A x).eval oo.op:=by
   intro x g hD y hy
   cases y with
   | tmp t=>
    simp only [AS.ev,Act.eval]
    rcases UA t sk.t.length with hlt|hge
    ·have e1:sk.t[t]? = some sk.t[t]:=UM hlt
     have hlt':t<(A x).tmps.size:=by rw [<-hI.size x];exact hlt
     have hx:(A x).tmps[t]? = some (A x).tmps[t]:=Array.getElem?_eq_getElem hlt';rw [getD_some e1]
     have:(A x).tmps.getD t Go.undef=(A x).tmps[t]:=by simp [Array.getD,hlt']
     rw [this];exact hlook x g hD t _ _ (List.mem_append_left _ (List.mem_filterMap.2 ⟨.tmp t,hy,rfl⟩)) e1 hx
    ·have e0:sk.t.getD t .undef = .undef:=by rw [Vq,List.getElem?_eq_none hge];rfl
     rw [e0];exact .undef _
   | const v=>exact .v v
   | global gi=>exact (mO hs.ro sk gi).mono g.mono (fun _ _ h=>h)
   | func f=>exact .fn f [] [] #[] #[] rfl rfl (fun i c x h=>by simp at h) (fun i c x h=>by simp at h)
  have hcont: ∀(x:Nat->Value),es.contains k=false-> ∀m' e,es[m']? = some e->(e<k+1↔m'<m):=fun _ he m' e h=>by
   have hne:e≠k:=fun hh=>by
    subst hh
    have:=U7 h
    simp [this] at he
   rw [<-hme m' e h];omega
  rcases ht with ⟨he,hg,o',os',rfl,hd,htr⟩|⟨he,hstep,htr⟩
  ·
   have hkm:k∈es:=by simpa using he
   obtain ⟨mk,hmk⟩:=UW hkm
   have hmke:mk=m:=by
    have h1: ¬mk<m:=fun hh=>by have:=(hme mk k hmk).2 hh;omega
    rcases UA m mk with q|q
    ·have hlt2:m<es.length:=by have:=(Uy.1 hmk).1;omega
     have hem:es[m]? = some es[m]:=UM hlt2;have hlt3:=iu hrise m mk _ _ q hem hmk
     have:=(hme m _ hem).1 hlt3
     omega
    ·omega
   subst hmke
   have hOm1:(s.o :: os).getD (mk+1) []=o':=by
    have h1:=congrArg (fun (l:List (List (Option aa)))=>l[1]?) hO;simp only [UK] at h1;rw [Vq,h1];rfl
   refine ⟨fun x g hE hD hp=> ?_, ?_⟩
   ·have hdd:=hdoneD x g hD
    have hfx:EP l.toArray es k=true:=by
     rcases hfix k hlt with ((h|h)|h)|h
     ·have:=h.2;simp [hkm] at this
     ·exact h
     ·exfalso;simp only [y5] at h
      split at h
      ·simp only [Vj,VH,VJ,decide_eq_true_eq] at h
       rcases h.2 k hkm with q|q
       ·omega
       ·simp at q
      ·cases h
     ·exfalso;simp only [Li] at h
      split at h
      ·simp only [Vj] at h
       have:=h.1.1.1;simp [hkm] at this
      ·cases h
    have hc:g.c=mk:=g.oO hfx hdd hp hme hml;have hev:=hevs x g hD;have hro:=g.ro;simp only [hc,hOm] at hev hro;refine .inl ⟨by simp [Region.wanted,hg], ?_⟩;rw [hspecK]
    have hgo: ∀(v:Value) (w':World) (nu':Nat->Nat->Value),bG g.nu sk.o g.w nu' o' w'->RO D nu' o' w'->RA D nu' o' w' r v ->
      ∃g':GG D nu s.o w0 l es (fun c=>(s.o :: os).getD c []),(bC D nu s.o w0 l es (fun c=>(s.o :: os).getD c [])).wd g'=w'∧(bC D nu s.o w0 l es (fun c=>(s.o :: os).getD c [])).R g g'∧(∀i,i≠k->(bC D nu s.o w0 l es (fun c=>(s.o :: os).getD c [])).pre i g->(bC D nu s.o w0 l es (fun c=>(s.o :: os).getD c [])).pre i g')∧(fL D nu s.o w0 l es (fun c=>(s.o :: os).getD c []) k r).p v g':=by
     intro v w' nu' m1 m2 m3
     have hm':bG g.nu ((s.o :: os).getD g.c []) g.w nu' ((s.o :: os).getD (g.c+1) []) w':=by rw [hc,hOm,hOm1];exact m1
     have hr':RO D nu' ((s.o :: os).getD (g.c+1) []) w':=by rw [hc,hOm1];exact m2
     have hek:es[g.c]? = some k:=by rw [hc];exact hmk
     have hR2:=g.MF k w' nu' hm' hr' hdd hek (dj hrise)
     refine ⟨g.Rc k w' nu' hm' hr' hdd hek (dj hrise),rfl,hR2.1,hR2.2, ?_, ?_⟩
     ·show RA D nu' ((s.o :: os).getD (g.c+1) []) w' r v;rw [hc,hOm1];exact m3
     ·show (if k=k then true else g.done k)=true;simp
    rcases uX (P:=P) (rho:=(A x).eval) hro hev hd with ⟨v,w',nu',h1,m1,m2,m3⟩|⟨gf,vargs,h1,h2⟩
    ·rcases h1 with h1|⟨h1,rfl⟩
     ·have e1:(execOp (A x).eval oo).run P ((bC D nu s.o w0 l es (fun c=>(s.o :: os).getD c [])).wd g) = .ok (.value v) w':=h1;rw [e1];exact hgo v w' nu' m1 m2 m3
     ·have e1:(execOp (A x).eval oo).run P ((bC D nu s.o w0 l es (fun c=>(s.o :: os).getD c [])).wd g) = .ok .skip w':=h1;rw [e1];exact hgo _ w' nu' m1 m2 m3
    ·have e1:(execOp (A x).eval oo).run P ((bC D nu s.o w0 l es (fun c=>(s.o :: os).getD c [])).wd g) = .ok (.enter gf vargs) g.w:=h1;rw [e1];refine h2.mono ?_;rintro e w' ⟨v,nu',rfl,m1,m2,m3⟩;obtain ⟨g',k1,k2,k3,k4⟩:=hgo v w' nu' m1 m2 m3;exact ⟨v,g',rfl,k1,k2,k3,k4⟩
   ·refine l6 hB hs hR rest (k+1) (mk+1) (sk.put oo.dst r o') (hist++[sk.o]) (rs1++[r]) rs' os' _ hl' htr (by rw [List.take_succ_eq_append_getElem (by have:=congrArg List.length hO;simp at this ⊢; omega),hhi];congr 1;have:=hOm;rw [Vq,UM (by have:=congrArg List.length hO;simp at this ⊢; omega)] at this;simpa using this) hrs' (hI.step hok r o') ?_ ((Uy.1 hmk).1) (fun m' e h=> ?_) hlt
    ·have:=congrArg List.tail hO
     rw [List.tail_drop] at this;exact this
    ·by_cases hek:e=k
     ·subst hek
      have:m'=mk:=(List.getElem?_inj (Uy.1 h).1 (dj hrise)).1 (h.trans hmk.symm)
      omega
     ·have:=hme m' e h
      have hne:m'≠mk:=fun hh=>by subst hh;rw [hmk] at h;cases h;exact hek rfl
      omega
  ·refine ⟨fun x g hE hD hp=> ?_, ?_⟩
   ·have hdd:=hdoneD x g hD;rw [hspecK]
    have hnext: ∀(v:Value) (w':World),RA D g.nu ((s.o :: os).getD g.c []) w' r v->Below g.w.heap.size g.w w' ->
      ∃g':GG D nu s.o w0 l es (fun c=>(s.o :: os).getD c []),(bC D nu s.o w0 l es (fun c=>(s.o :: os).getD c [])).wd g'=w'∧(bC D nu s.o w0 l es (fun c=>(s.o :: os).getD c [])).R g g'∧(∀i,i≠k->(bC D nu s.o w0 l es (fun c=>(s.o :: os).getD c [])).pre i g->(bC D nu s.o w0 l es (fun c=>(s.o :: os).getD c [])).pre i g')∧(fL D nu s.o w0 l es (fun c=>(s.o :: os).getD c []) k r).p v g':=by
     intro v w' hr hb;have hR2:=g.II k w' hb hdd he;refine ⟨g.next k w' hb hdd he,rfl,hR2.1,hR2.2,hr, ?_⟩;show (if k=k then true else g.done k)=true;simp
    have hyv: ∀j want,oo.guard=some (j,want)-> ∀gg,iS l sk j=some gg->yielded l.toArray (A x).tmps j=gg:=fun j want hg gg hgv=>
     gI (s:=⟨sk.t,(s.o :: os).getD g.c [],sk.y⟩) (D:=D) (nu:=g.nu) (w:=g.w) (fun d c v hd h1 h2=>by
      refine hlook x g hD d c v ?_ h1 h2;obtain ⟨og,q1,q2⟩:=hd;refine List.mem_append_right _ ?_;simp only [hg,UO,q1,Option.bind_some,q2]
      simp) (hI.size x) (show iS l ⟨sk.t,_,sk.y⟩ j=some gg from hgv)
    rcases hstep with ⟨hw,hd,hfl,hlat⟩|⟨_,_,rfl,j,want,gg,hg,hgv,hno⟩
    ·have hwant:Region.wanted oo (yielded l.toArray (A x).tmps)=true:=by
      rcases hw with hg|⟨j,want,b,hg,hgv,hb⟩
      ·simp [Region.wanted,hg]
      ·simp only [Region.wanted,hg,hyv j want hg _ hgv];simpa using hb
     refine .inl ⟨hwant, ?_⟩
     have hd':bS P oo.op ⟨sk.t,(s.o :: os).getD g.c [],sk.y⟩ (fun r'=>r'=r):=by
      rcases hfix k hlt with ((h|h)|h)|h
      ·rw [show l.toArray[k]? = some oo by simpa using hok] at h;exact uY (by simpa using h.1) (show bS P oo.op ⟨sk.t,sk.o,sk.y⟩ (fun r'=>r'=r) from hd)
      ·have hc:g.c=m:=g.oO h hdd hp hme hml;rw [hc,hOm];exact hd
      ·have hlo: ∃lo,ft fs k=some lo:=by
        simp only [y5] at h
        split at h
        ·exact ⟨_, ‹_›⟩
        ·cases h
       obtain ⟨lo,hlo⟩:=hlo;obtain ⟨c1,c2⟩:=g.yE h hlo hdd hp hme
       rcases Nat.eq_or_lt_of_le c2 with hc|hc
       ·rw [hc,hOm];exact hd
       ·have hgl:g.c<(s.o :: os).length:=by have:=congrArg List.length hO;simp at this ⊢; omega
        refine hfl lo hlo _ ?_;rw [<-hhi,Vq,UM hgl];refine List.mem_drop_iff_getElem.2 ⟨g.c - lo,by simp at hgl ⊢; omega, ?_⟩;rw [List.getElem_take];simp only [Option.getD_some]
        congr 1
        omega
      ·obtain ⟨cc,hcc,q1,q2,q3,q4⟩:=Lj h;have hc:=g.GM q3 hdd hme hml
       rcases Nat.eq_or_lt_of_le hc with hc|hc
       ·rw [<-hc,hOm];exact hd
       ·have hle:=g.le;have hln:=x7 hszs hrise rest (k+1) m _ _ _ _ _ hl' (by omega) htr hml (hcont (fun _=>Go.undef) he);have e1:=congrArg (fun (l:List (List (Option aa)))=>l[g.c - m]?) hO;obtain ⟨d,hd1⟩: ∃d,g.c - m=d+1:=⟨g.c - m - 1,by omega⟩;simp only [UK,show m+(g.c - m)=g.c by omega] at e1;rw [hd1,VY,UM (l:=os2) (by omega)] at e1;rw [Vq,e1]
        have hlt3:m+d<es.length:=by omega
        have hed:es[m+d]? = some es[m+d]:=UM hlt3
        refine hlat q1 cc hcc d es[m+d] _ ?_ ?_ (UM (l:=os2) (by omega))
        ·rw [ER (hcont (fun _=>Go.undef) he),UK];exact hed
        ·rcases UA es[m+d] cc with q|q
         ·exact q
         ·exfalso;have h5:=kB g _ _ _ (q4 _ (VU hlt3) q) ((g.ef _ _ hed).2 (by omega));have h6:g.done k=false:=hp;rw [h6] at h5;cases h5
     obtain ⟨r',rfl,hout⟩:=fD (P:=P) (s:=⟨sk.t,(s.o :: os).getD g.c [],sk.y⟩) (rho:=(A x).eval) g.ro (hevs x g hD) hd';have e0:(execOp (A x).eval oo).run P ((bC D nu s.o w0 l es (fun c=>(s.o :: os).getD c [])).wd g)=(execOp (A x).eval oo).run P g.w:=rfl;rw [e0];generalize (execOp (A x).eval oo).run P g.w=res at hout
     cases res with
     | halt _ _=>exact hout.elim
     | ok n w'=>
      cases n<;>first|exact hout.elim|skip
      case value u=>exact hnext u w' hout.1.2 hout.2
      case skip=>exact hnext _ w' hout.1.2 hout.2
      case enter gf vargs=>
       refine Calls.mono hout ?_;rintro e w'' ⟨v,rfl,hv,hb⟩;obtain ⟨g',k1,k2,k3,k4⟩:=hnext v w'' hv.2 hb;exact ⟨v,g',rfl,k1,k2,k3,k4⟩
    ·refine .inr ⟨?_, ?_⟩
     ·simp only [Region.wanted,hg,hyv j want hg _ hgv]
      rcases hno with rfl|⟨b,rfl,hb⟩
      ·rfl
      ·simpa using hb
     ·obtain ⟨g',k1,k2,k3,k4⟩:=hnext Go.undef g.w (.v _) (.refl _ _);exact ⟨g',k1,k2,k3,k4⟩
   ·have hO':(s.o :: os).drop m=(sk.put oo.dst r s.o).o :: os2->True:=fun _=>trivial;refine l6 hB hs hR rest (k+1) m (sk.put oo.dst r sk.o) hist (rs1++[r]) rs' os2 _ hl' ?_ hhi hrs' (hI.step hok r sk.o) hO hml (hcont (fun _=>Go.undef) he) hlt;exact htr
theorem Es {n0 id:Nat} {s:AS} {l:List Oper} {Q:aY->AS->Prop} (es:List Nat) (fs:List (Nat×Nat)) (hB:qb l.toArray es fs=true) (hC:dw l.toArray=true) (h:dE P l es fs l 0 s [] none (Q .normal)):cj P n0 (.region id l.toArray true) s Q:=by
 refine .inr (fun f m D nu a w hZr hn hm hs hmx R hO hR=> ?_);obtain ⟨rs,os,sf,htr,_,hq⟩:=fF (by simp only [qb,Vj] at hB;exact hB.1.1.2) l 0 s [] h;have hs':=hs.drew
 have hrel:nA l.toArray=true:=by
  simp only [qb,Vj] at hB;exact hB.1.1.1
 let g0:GG D nu s.o w.drew l es (fun c=>(s.o :: os).getD c []):=⟨w.drew,nu,fun _=>false,0,hs'.ro, .refl _ _ _,(fun _ _ h=>by cases h),(fun _ _ _=>by simp),Nat.zero_le _⟩
 have hobl:=l6 (P:=P) (R:=R) (rs:=rs) (g0:=g0) hB hs' (fun a' w' nu' h1 hy h2=>hR .normal D f.Z sf a' w' nu' (by rw [hy];exact m.own hm hs.ro ((au (cr w)).trans h1) h2.ro) h2 hq) l 0 0 s [] [] rs os (fun _=>a) (by simp) htr (by simp) (by simp) ⟨rfl,rfl,fun _=>rfl,fun _=>hs.tm.len,fun x t c v h1 h2=> .inl ⟨h1,h2⟩⟩ (by simp) (Nat.zero_le _) (fun m' e _=>by simp) (Nat.zero_le _);exact mG hmx hC hO (kg (N:=bC D nu s.o w.drew l es (fun c=>(s.o :: os).getD c [])) _ hrel g0 rfl (fun _=>rfl) hobl)
theorem fT {all rest:List Oper} {es:List Nat} {fs:List (Nat×Nat)} {oo:Oper} {k:Nat} {s:AS} {hist:List (List (Option aa))} {pn:Option (Nat->List (Option aa)->Prop)} {Q:AS->Prop} (he:(es.contains k||(ft fs k).isSome||(sY fs k).isSome)=false) (h: ∀K:AS->Prop,(∀s',dE P all es fs rest (k+1) s' hist pn Q->K s')->dG P all oo s K):dE P all es fs (oo :: rest) k s hist pn Q:=by
 simp only [Bool.or_eq_false_iff] at he;simp only [dE,he.1.1,VS,if_false]
 cases hf:ft fs k with
 | some lo=>rw [hf] at he;simp at he
 | none=>
  have:sY fs k=none:=by have:=he.2;simpa using this
  rw [this];exact h _ (fun _ h=>h)
theorem dS {all rest:List Oper} {es:List Nat} {fs:List (Nat×Nat)} {dst:Option Tmp} {op:Op} {ty:TypeId} {pos:String} {aft:Array Edge} {k:Nat} {s:AS} {hist:List (List (Option aa))} {p:Nat->List (Option aa)->Prop} {Q:AS->Prop} (he:es.contains k=true) (h: ∀K:AS->Prop,(∀s',dE P all es fs rest (k+1) s' (hist++[s.o]) (some p) Q->K s')->pH P op s (fun r o'=>p k o'∧K (s.put dst r o'))):dE P all es fs (⟨dst,op,ty,pos,aft,none⟩ :: rest) k s hist (some p) Q:=by
 simp only [dE,he,if_true,O7];exact h _ (fun _ h=>h)
theorem fU {all rest:List Oper} {es:List Nat} {fs:List (Nat×Nat)} {dst:Option Tmp} {op:Op} {ty:TypeId} {pos:String} {aft:Array Edge} {k c:Nat} {s:AS} {hist:List (List (Option aa))} {pn:Option (Nat->List (Option aa)->Prop)} {Q:AS->Prop} (he:(!es.contains k&&(ft fs k).isNone)=true) (hc:sY fs k=some c) (h:bS P op s (fun r=>dE P all es fs rest (k+1) (s.put dst r s.o) hist (some fun k' o'=>O7 pn k' o'∧(if k'<c then bS P op ⟨s.t,o',s.y⟩ (fun r'=>r'=r) else True)) Q)):dE P all es fs (⟨dst,op,ty,pos,aft,none⟩ :: rest) k s hist pn Q:=by
 simp only [Vj,VW] at he;simp only [dE,he.1,VS,if_false]
 cases hf:ft fs k with
 | some lo=>rw [hf] at he;simp at he
 | none=>rw [hc];exact ⟨trivial,h⟩
theorem Ba {all:List Oper} {es:List Nat} {fs:List (Nat×Nat)} {k:Nat} {s:AS} {hist:List (List (Option aa))} {pn:Option (Nat->List (Option aa)->Prop)} {Q:AS->Prop} (h:Q s):dE P all es fs [] k s hist pn Q:=h
instance {all:List Oper} {es:List Nat} {fs:List (Nat×Nat)} {k:Nat} {s:AS} {hist:List (List (Option aa))} {pn:Option (Nat->List (Option aa)->Prop)} {Q:AS->Prop}:aA (dE P all es fs [] k s hist pn Q) (Q s):=⟨Ba⟩
end
attribute [go_sem] O7
end
theorem aw {p q:Prop} (h:q) (f:q->p:=by intro h;(repeat (first|(with_reducible first|refine aA.up ?_|refine fun (K:AK) hK=> ?_|(refine hK _ ?_;clear hK K))|simp only [go_sem]|with_reducible refine wA ?_|clear hK K));(iterate 8 (try revert K));exact h):p:=f h
theorem vj {p:Prop} (f:p:=by (repeat (first|(with_reducible first|refine aA.up ?_|refine fun (K:AK) hK=> ?_|(refine hK _ ?_;clear hK K))|simp only [go_sem]|with_reducible refine wA ?_|clear hK K))<;>fail):p:=f
theorem aM {p q e0:Prop} (a0:e0) (h:q) (f:q->e0->p:=by intro h a0;(repeat (first|(with_reducible first|refine aA.up ?_|refine fun (K:AK) hK=> ?_|(refine hK _ ?_;clear hK K))|simp only [go_sem,a0]|with_reducible refine wA ?_|clear hK K));(iterate 8 (try revert K));exact h):p:=f h a0
theorem Dl {p e0:Prop} (a0:e0) (f:e0->p:=by intro a0;(repeat (first|(with_reducible first|refine aA.up ?_|refine fun (K:AK) hK=> ?_|(refine hK _ ?_;clear hK K))|simp only [go_sem,a0]|with_reducible refine wA ?_|clear hK K))<;>fail):p:=f a0
theorem qL {p q e0 e1:Prop} (a0:e0) (a1:e1) (h:q) (f:q->e0->e1->p:=by intro h a0 a1;(repeat (first|(with_reducible first|refine aA.up ?_|refine fun (K:AK) hK=> ?_|(refine hK _ ?_;clear hK K))|simp only [go_sem,a0,a1]|with_reducible refine wA ?_|clear hK K));(iterate 8 (try revert K));exact h):p:=f h a0 a1
theorem Hy {p e0 e1:Prop} (a0:e0) (a1:e1) (f:e0->e1->p:=by intro a0 a1;(repeat (first|(with_reducible first|refine aA.up ?_|refine fun (K:AK) hK=> ?_|(refine hK _ ?_;clear hK K))|simp only [go_sem,a0,a1]|with_reducible refine wA ?_|clear hK K))<;>fail):p:=f a0 a1
theorem P0 {p q e0 e1 e2:Prop} (a0:e0) (a1:e1) (a2:e2) (h:q) (f:q->e0->e1->e2->p:=by intro h a0 a1 a2;(repeat (first|(with_reducible first|refine aA.up ?_|refine fun (K:AK) hK=> ?_|(refine hK _ ?_;clear hK K))|simp only [go_sem,a0,a1,a2]|with_reducible refine wA ?_|clear hK K));(iterate 8 (try revert K));exact h):p:=f h a0 a1 a2
theorem P5 {p e0 e1 e2 e3 e4:Prop} (a0:e0) (a1:e1) (a2:e2) (a3:e3) (a4:e4) (f:e0->e1->e2->e3->e4->p:=by intro a0 a1 a2 a3 a4;(repeat (first|(with_reducible first|refine aA.up ?_|refine fun (K:AK) hK=> ?_|(refine hK _ ?_;clear hK K))|simp only [go_sem,a0,a1,a2,a3,a4]|with_reducible refine wA ?_|clear hK K))<;>fail):p:=f a0 a1 a2 a3 a4
theorem qM {p q e0 e1 e2 e3 e4 e5:Prop} (a0:e0) (a1:e1) (a2:e2) (a3:e3) (a4:e4) (a5:e5) (h:q) (f:q->e0->e1->e2->e3->e4->e5->p:=by intro h a0 a1 a2 a3 a4 a5;(repeat (first|(with_reducible first|refine aA.up ?_|refine fun (K:AK) hK=> ?_|(refine hK _ ?_;clear hK K))|simp only [go_sem,a0,a1,a2,a3,a4,a5]|with_reducible refine wA ?_|clear hK K));(iterate 8 (try revert K));exact h):p:=f h a0 a1 a2 a3 a4 a5
theorem bq {p q:Prop} (h:q) (f:q->p:=by intro h;(repeat (first|(with_reducible first|refine aA.up ?_|refine fun (K:AK) hK=> ?_|(refine hK _ ?_;clear hK K))|simp only [go_sem]|clear hK K));(iterate 8 (try revert K));exact h):p:=f h
theorem vn {p:Prop} (f:p:=by (repeat (first|(with_reducible first|refine aA.up ?_|refine fun (K:AK) hK=> ?_|(refine hK _ ?_;clear hK K))|simp only [go_sem]|clear hK K))<;>fail):p:=f
theorem Hs {p q e0:Prop} (a0:e0) (h:q) (f:q->e0->p:=by intro h a0;(repeat (first|(with_reducible first|refine aA.up ?_|refine fun (K:AK) hK=> ?_|(refine hK _ ?_;clear hK K))|simp only [go_sem,a0]|clear hK K));(iterate 8 (try revert K));exact h):p:=f h a0
theorem ML {p e0:Prop} (a0:e0) (f:e0->p:=by intro a0;(repeat (first|(with_reducible first|refine aA.up ?_|refine fun (K:AK) hK=> ?_|(refine hK _ ?_;clear hK K))|simp only [go_sem,a0]|clear hK K))<;>fail):p:=f a0
theorem dO {p q:Prop} (h:q) (f:q->p:=by intro h;(repeat (first|(with_reducible first|refine aA.up ?_|refine fun (K:AK) hK=> ?_|refine wE ?_|refine wK ?_|refine wF ?_|(refine hK _ ?_;clear hK K))|simp only [go_sem]|with_reducible refine wA ?_|clear hK K));(iterate 8 (try revert K));exact h):p:=f h
theorem P6 {p:Prop} (f:p:=by (repeat (first|(with_reducible first|refine aA.up ?_|refine fun (K:AK) hK=> ?_|refine wE ?_|refine wK ?_|refine wF ?_|(refine hK _ ?_;clear hK K))|simp only [go_sem]|with_reducible refine wA ?_|clear hK K))<;>fail):p:=f
theorem kz {p q e0:Prop} (a0:e0) (h:q) (f:q->e0->p:=by intro h a0;(repeat (first|(with_reducible first|refine aA.up ?_|refine fun (K:AK) hK=> ?_|refine wE ?_|refine wK ?_|refine wF ?_|(refine hK _ ?_;clear hK K))|simp only [go_sem,a0]|with_reducible refine wA ?_|clear hK K));(iterate 8 (try revert K));exact h):p:=f h a0
theorem fI {p q:Prop} (h:q) (f:q->p:=by intro h;(repeat (first|(with_reducible first|refine aA.up ?_|refine fun (K:AK) hK=> ?_|refine wD ?_|refine ae (by decide) ?_|refine ai (by decide) ?_|(refine hK _ ?_;clear hK K))|simp only [go_sem]|with_reducible refine wA ?_|clear hK K));(iterate 8 (try revert K));exact h):p:=f h
theorem kA {p q e0:Prop} (a0:e0) (h:q) (f:q->e0->p:=by intro h a0;(repeat (first|(with_reducible first|refine aA.up ?_|refine fun (K:AK) hK=> ?_|refine wD ?_|refine ae (by decide) ?_|refine ai (by decide) ?_|(refine hK _ ?_;clear hK K))|simp only [go_sem,a0]|with_reducible refine wA ?_|clear hK K));(iterate 8 (try revert K));exact h):p:=f h a0
theorem MG {p q e0 e1:Prop} (a0:e0) (a1:e1) (h:q) (f:q->e0->e1->p:=by intro h a0 a1;(repeat (first|(with_reducible first|refine aA.up ?_|refine fun (K:AK) hK=> ?_|refine wD ?_|refine ae (by decide) ?_|refine ai (by decide) ?_|(refine hK _ ?_;clear hK K))|simp only [go_sem,a0,a1]|with_reducible refine wA ?_|clear hK K));(iterate 8 (try revert K));exact h):p:=f h a0 a1
theorem gy {p q:Prop} (h:q) (f:q->p:=by intro h;(repeat (first|(with_reducible first|refine aA.up ?_|refine fun (K:AK) hK=> ?_|(refine hK _ ?_;clear hK K))|simp only [go_sem,Go.undef]|with_reducible refine wA ?_|clear hK K));(iterate 8 (try revert K));exact h):p:=f h
theorem P7 {p:Prop} (f:p:=by (repeat (first|(with_reducible first|refine aA.up ?_|refine fun (K:AK) hK=> ?_|(refine hK _ ?_;clear hK K))|simp only [go_sem,Go.undef]|with_reducible refine wA ?_|clear hK K))<;>fail):p:=f
theorem vd {p q e0:Prop} (a0:e0) (h:q) (f:q->e0->p:=by intro h a0;(repeat (first|(with_reducible first|refine aA.up ?_|refine fun (K:AK) hK=> ?_|(refine hK _ ?_;clear hK K))|simp only [go_sem,Go.undef,a0]|with_reducible refine wA ?_|clear hK K));(iterate 8 (try revert K));exact h):p:=f h a0
theorem P8 {p e0:Prop} (a0:e0) (f:e0->p:=by intro a0;(repeat (first|(with_reducible first|refine aA.up ?_|refine fun (K:AK) hK=> ?_|(refine hK _ ?_;clear hK K))|simp only [go_sem,Go.undef,a0]|with_reducible refine wA ?_|clear hK K))<;>fail):p:=f a0
theorem Dj {p q e0 e1:Prop} (a0:e0) (a1:e1) (h:q) (f:q->e0->e1->p:=by intro h a0 a1;(repeat (first|(with_reducible first|refine aA.up ?_|refine fun (K:AK) hK=> ?_|(refine hK _ ?_;clear hK K))|simp only [go_sem,Go.undef,a0,a1]|with_reducible refine wA ?_|clear hK K));(iterate 8 (try revert K));exact h):p:=f h a0 a1
theorem P9 {p e0 e1:Prop} (a0:e0) (a1:e1) (f:e0->e1->p:=by intro a0 a1;(repeat (first|(with_reducible first|refine aA.up ?_|refine fun (K:AK) hK=> ?_|(refine hK _ ?_;clear hK K))|simp only [go_sem,Go.undef,a0,a1]|with_reducible refine wA ?_|clear hK K))<;>fail):p:=f a0 a1
theorem Qa {p e0 e1 e2 e3:Prop} (a0:e0) (a1:e1) (a2:e2) (a3:e3) (f:e0->e1->e2->e3->p:=by intro a0 a1 a2 a3;(repeat (first|(with_reducible first|refine aA.up ?_|refine fun (K:AK) hK=> ?_|(refine hK _ ?_;clear hK K))|simp only [go_sem,Go.undef,a0,a1,a2,a3]|with_reducible refine wA ?_|clear hK K))<;>fail):p:=f a0 a1 a2 a3
theorem ez {p q:Prop} (h:q) (f:q->p:=by intro h;(repeat (first|(with_reducible first|refine aA.up ?_|refine fun (K:AK) hK=> ?_|refine wD ?_|(refine hK _ ?_;clear hK K))|simp only [go_sem]|with_reducible refine wA ?_|clear hK K));(iterate 8 (try revert K));exact h):p:=f h
theorem MM {p:Prop} (f:p:=by (repeat (first|(with_reducible first|refine aA.up ?_|refine fun (K:AK) hK=> ?_|refine wD ?_|(refine hK _ ?_;clear hK K))|simp only [go_sem]|with_reducible refine wA ?_|clear hK K))<;>fail):p:=f
theorem ve {p q e0:Prop} (a0:e0) (h:q) (f:q->e0->p:=by intro h a0;(repeat (first|(with_reducible first|refine aA.up ?_|refine fun (K:AK) hK=> ?_|refine wD ?_|(refine hK _ ?_;clear hK K))|simp only [go_sem,a0]|with_reducible refine wA ?_|clear hK K));(iterate 8 (try revert K));exact h):p:=f h a0
theorem MH {p q e0 e1 e2 e3 e4:Prop} (a0:e0) (a1:e1) (a2:e2) (a3:e3) (a4:e4) (h:q) (f:q->e0->e1->e2->e3->e4->p:=by intro h a0 a1 a2 a3 a4;(repeat (first|(with_reducible first|refine aA.up ?_|refine fun (K:AK) hK=> ?_|refine wD ?_|(refine hK _ ?_;clear hK K))|simp only [go_sem,a0,a1,a2,a3,a4]|with_reducible refine wA ?_|clear hK K));(iterate 8 (try revert K));exact h):p:=f h a0 a1 a2 a3 a4
theorem Qb {p:Prop} (f:p:=by (repeat (first|(with_reducible first|refine aA.up ?_|refine fun (K:AK) hK=> ?_|(refine hK _ ?_;clear hK K))|simp only [go_sem,Go.undef]|clear hK K))<;>fail):p:=f
theorem lE {p q e0:Prop} (a0:e0) (h:q) (f:q->e0->p:=by intro h a0;(repeat (first|(with_reducible first|refine aA.up ?_|refine fun (K:AK) hK=> ?_|(refine hK _ ?_;clear hK K))|simp only [go_sem,Go.undef,a0]|clear hK K));(iterate 8 (try revert K));exact h):p:=f h a0
theorem MN {p e0:Prop} (a0:e0) (f:e0->p:=by intro a0;(repeat (first|(with_reducible first|refine aA.up ?_|refine fun (K:AK) hK=> ?_|(refine hK _ ?_;clear hK K))|simp only [go_sem,Go.undef,a0]|clear hK K))<;>fail):p:=f a0
theorem MI {p q e0 e1:Prop} (a0:e0) (a1:e1) (h:q) (f:q->e0->e1->p:=by intro h a0 a1;(repeat (first|(with_reducible first|refine aA.up ?_|refine fun (K:AK) hK=> ?_|(refine hK _ ?_;clear hK K))|simp only [go_sem,Go.undef,a0,a1]|clear hK K));(iterate 8 (try revert K));exact h):p:=f h a0 a1
theorem MJ {p q e0 e1 e2:Prop} (a0:e0) (a1:e1) (a2:e2) (h:q) (f:q->e0->e1->e2->p:=by intro h a0 a1 a2;(repeat (first|(with_reducible first|refine aA.up ?_|refine fun (K:AK) hK=> ?_|(refine hK _ ?_;clear hK K))|simp only [go_sem,Go.undef,a0,a1,a2]|clear hK K));(iterate 8 (try revert K));exact h):p:=f h a0 a1 a2
theorem qN {p q:Prop} (h:q) (f:q->p:=by intro h;(repeat (first|(with_reducible first|refine aA.up ?_|refine fun (K:AK) hK=> ?_|refine wD ?_|refine ae (by decide) ?_|(refine hK _ ?_;clear hK K))|simp only [go_sem]|with_reducible refine wA ?_|clear hK K));(iterate 8 (try revert K));exact h):p:=f h
theorem vg {p q e0:Prop} (a0:e0) (h:q) (f:q->e0->p:=by intro h a0;(repeat (first|(with_reducible first|refine aA.up ?_|refine fun (K:AK) hK=> ?_|refine wD ?_|refine ae (by decide) ?_|(refine hK _ ?_;clear hK K))|simp only [go_sem,a0]|with_reducible refine wA ?_|clear hK K));(iterate 8 (try revert K));exact h):p:=f h a0
theorem P1 {p q e0 e1 e2:Prop} (a0:e0) (a1:e1) (a2:e2) (h:q) (f:q->e0->e1->e2->p:=by intro h a0 a1 a2;(repeat (first|(with_reducible first|refine aA.up ?_|refine fun (K:AK) hK=> ?_|refine wD ?_|refine ae (by decide) ?_|(refine hK _ ?_;clear hK K))|simp only [go_sem,a0,a1,a2]|with_reducible refine wA ?_|clear hK K));(iterate 8 (try revert K));exact h):p:=f h a0 a1 a2
theorem Hx {p q:Prop} (h:q) (f:q->p:=by intro h;(repeat (first|(with_reducible first|refine aA.up ?_|refine fun (K:AK) hK=> ?_|refine wE ?_|refine wK ?_|refine wF ?_|refine ae (by decide) ?_|refine ai (by decide) ?_|(refine hK _ ?_;clear hK K))|simp only [go_sem,List.length_append,ag,nG,yg,nS,yh]|with_reducible refine wA ?_|clear hK K));(iterate 8 (try revert K));exact h):p:=f h
theorem vi {p q e0:Prop} (a0:e0) (h:q) (f:q->e0->p:=by intro h a0;(repeat (first|(with_reducible first|refine aA.up ?_|refine fun (K:AK) hK=> ?_|refine wE ?_|refine wK ?_|refine wF ?_|refine ae (by decide) ?_|refine ai (by decide) ?_|(refine hK _ ?_;clear hK K))|simp only [go_sem,List.length_append,ag,nG,yg,nS,yh,a0]|with_reducible refine wA ?_|clear hK K));(iterate 8 (try revert K));exact h):p:=f h a0
theorem P2 {p q e0 e1 e2 e3 e4:Prop} (a0:e0) (a1:e1) (a2:e2) (a3:e3) (a4:e4) (h:q) (f:q->e0->e1->e2->e3->e4->p:=by intro h a0 a1 a2 a3 a4;(repeat (first|(with_reducible first|refine aA.up ?_|refine fun (K:AK) hK=> ?_|refine wE ?_|refine wK ?_|refine wF ?_|refine ae (by decide) ?_|refine ai (by decide) ?_|(refine hK _ ?_;clear hK K))|simp only [go_sem,List.length_append,ag,nG,yg,nS,yh,a0,a1,a2,a3,a4]|with_reducible refine wA ?_|clear hK K));(iterate 8 (try revert K));exact h):p:=f h a0 a1 a2 a3 a4
theorem P3 {p q e0:Prop} (a0:e0) (h:q) (f:q->e0->p:=by intro h a0;(repeat (first|(with_reducible first|refine aA.up ?_|refine fun (K:AK) hK=> ?_|refine wE ?_|refine wK ?_|refine wF ?_|refine ae (by decide) ?_|refine ai (by decide) ?_|(refine hK _ ?_;clear hK K))|simp only [go_sem,Go.undef,List.length_append,ag,nG,yg,nS,yh,a0]|with_reducible refine wA ?_|clear hK K));(iterate 8 (try revert K));exact h):p:=f h a0
theorem Dk {p q e0 e1:Prop} (a0:e0) (a1:e1) (h:q) (f:q->e0->e1->p:=by intro h a0 a1;(repeat (first|(with_reducible first|refine aA.up ?_|refine fun (K:AK) hK=> ?_|refine wE ?_|refine wK ?_|refine wF ?_|refine ae (by decide) ?_|refine ai (by decide) ?_|(refine hK _ ?_;clear hK K))|simp only [go_sem,Go.undef,List.length_append,ag,nG,yg,nS,yh,a0,a1]|with_reducible refine wA ?_|clear hK K));(iterate 8 (try revert K));exact h):p:=f h a0 a1
theorem MK {p q e0 e1 e2 e3 e4:Prop} (a0:e0) (a1:e1) (a2:e2) (a3:e3) (a4:e4) (h:q) (f:q->e0->e1->e2->e3->e4->p:=by intro h a0 a1 a2 a3 a4;(repeat (first|(with_reducible first|refine aA.up ?_|refine fun (K:AK) hK=> ?_|refine wE ?_|refine wK ?_|refine wF ?_|refine ae (by decide) ?_|refine ai (by decide) ?_|(refine hK _ ?_;clear hK K))|simp only [go_sem,Go.undef,List.length_append,ag,nG,yg,nS,yh,a0,a1,a2,a3,a4]|with_reducible refine wA ?_|clear hK K));(iterate 8 (try revert K));exact h):p:=f h a0 a1 a2 a3 a4
theorem By {p q:Prop} (h:q) (f:q->p:=by intro h;(repeat (first|(with_reducible first|refine aA.up ?_|refine fun (K:AK) hK=> ?_|refine ae (by decide) ?_|(refine hK _ ?_;clear hK K))|simp only [go_sem]|with_reducible refine wA ?_|clear hK K));(iterate 8 (try revert K));exact h):p:=f h
theorem sE {p q e0:Prop} (a0:e0) (h:q) (f:q->e0->p:=by intro h a0;(repeat (first|(with_reducible first|refine aA.up ?_|refine fun (K:AK) hK=> ?_|refine ae (by decide) ?_|(refine hK _ ?_;clear hK K))|simp only [go_sem,a0]|with_reducible refine wA ?_|clear hK K));(iterate 8 (try revert K));exact h):p:=f h a0
theorem xn {p q:Prop} (h:q) (f:q->p:=by intro h;(repeat (first|(with_reducible first|refine aA.up ?_|refine fun (K:AK) hK=> ?_|refine wE ?_|refine wD ?_|refine wK ?_|refine wF ?_|(refine hK _ ?_;clear hK K))|simp only [go_sem]|with_reducible refine wA ?_|clear hK K));(iterate 8 (try revert K));exact h):p:=f h
theorem NS {p:Prop} (f:p:=by (repeat (first|(with_reducible first|refine aA.up ?_|refine fun (K:AK) hK=> ?_|refine wE ?_|refine wD ?_|refine wK ?_|refine wF ?_|(refine hK _ ?_;clear hK K))|simp only [go_sem]|with_reducible refine wA ?_|clear hK K))<;>fail):p:=f
theorem NG {p q e0:Prop} (a0:e0) (h:q) (f:q->e0->p:=by intro h a0;(repeat (first|(with_reducible first|refine aA.up ?_|refine fun (K:AK) hK=> ?_|refine wE ?_|refine wD ?_|refine wK ?_|refine wF ?_|(refine hK _ ?_;clear hK K))|simp only [go_sem,a0]|with_reducible refine wA ?_|clear hK K));(iterate 8 (try revert K));exact h):p:=f h a0
theorem mf {p q:Prop} (h:q) (f:q->p:=by intro h;(repeat (first|(with_reducible first|refine aA.up ?_|refine fun (K:AK) hK=> ?_|refine ae (by decide) ?_|refine ai (by decide) ?_|refine fT (by decide) ?_|(refine hK _ ?_;clear hK K))|simp only [go_sem]|with_reducible refine wA ?_|(refine fU rfl rfl ?_)|(refine dS rfl ?_)|clear hK K));(iterate 8 (try revert K));exact h):p:=f h
theorem sF {p q:Prop} (h:q) (f:q->p:=by intro h;(repeat (first|(with_reducible first|refine aA.up ?_|refine fun (K:AK) hK=> ?_|refine ae (by decide) ?_|refine ai (by decide) ?_|(refine hK _ ?_;clear hK K))|simp only [go_sem]|with_reducible refine wA ?_|(refine cJ rfl ?_)|(refine b7 rfl ?_)|clear hK K));(iterate 8 (try revert K));exact h):p:=f h
theorem NH {p q e0:Prop} (a0:e0) (h:q) (f:q->e0->p:=by intro h a0;(repeat (first|(with_reducible first|refine aA.up ?_|refine fun (K:AK) hK=> ?_|refine wD ?_|(refine hK _ ?_;clear hK K))|simp only [go_sem,Go.undef,a0]|with_reducible refine wA ?_|clear hK K));(iterate 8 (try revert K));exact h):p:=f h a0
theorem NI {p q e0 e1:Prop} (a0:e0) (a1:e1) (h:q) (f:q->e0->e1->p:=by intro h a0 a1;(repeat (first|(with_reducible first|refine aA.up ?_|refine fun (K:AK) hK=> ?_|refine wD ?_|(refine hK _ ?_;clear hK K))|simp only [go_sem,Go.undef,a0,a1]|with_reducible refine wA ?_|clear hK K));(iterate 8 (try revert K));exact h):p:=f h a0 a1
theorem NJ {p q e0 e1 e2:Prop} (a0:e0) (a1:e1) (a2:e2) (h:q) (f:q->e0->e1->e2->p:=by intro h a0 a1 a2;(repeat (first|(with_reducible first|refine aA.up ?_|refine fun (K:AK) hK=> ?_|refine wD ?_|(refine hK _ ?_;clear hK K))|simp only [go_sem,Go.undef,a0,a1,a2]|with_reducible refine wA ?_|clear hK K));(iterate 8 (try revert K));exact h):p:=f h a0 a1 a2
theorem Hr {p q e0 e1 e2 e3 e4:Prop} (a0:e0) (a1:e1) (a2:e2) (a3:e3) (a4:e4) (h:q) (f:q->e0->e1->e2->e3->e4->p:=by intro h a0 a1 a2 a3 a4;(repeat (first|(with_reducible first|refine aA.up ?_|refine fun (K:AK) hK=> ?_|refine wD ?_|(refine hK _ ?_;clear hK K))|simp only [go_sem,Go.undef,a0,a1,a2,a3,a4]|with_reducible refine wA ?_|clear hK K));(iterate 8 (try revert K));exact h):p:=f h a0 a1 a2 a3 a4
theorem Bz {p q:Prop} (h:q) (f:q->p:=by intro h;(repeat (first|(with_reducible first|refine aA.up ?_|refine fun (K:AK) hK=> ?_|refine wD ?_|refine ae (by decide) ?_|refine ai (by decide) ?_|(refine hK _ ?_;clear hK K))|simp only [go_sem]|with_reducible refine wA ?_|(refine fS rfl ?_)|clear hK K));(iterate 8 (try revert K));exact h):p:=f h
theorem BA {p q e0:Prop} (a0:e0) (h:q) (f:q->e0->p:=by intro h a0;(repeat (first|(with_reducible first|refine aA.up ?_|refine fun (K:AK) hK=> ?_|refine wD ?_|refine ae (by decide) ?_|refine ai (by decide) ?_|(refine hK _ ?_;clear hK K))|simp only [go_sem,a0]|with_reducible refine wA ?_|(refine fS rfl ?_)|clear hK K));(iterate 8 (try revert K));exact h):p:=f h a0
theorem sG {p q:Prop} (h:q) (f:q->p:=by intro h;(repeat (first|(with_reducible first|refine aA.up ?_|refine fun (K:AK) hK=> ?_|refine wE ?_|refine wD ?_|refine wK ?_|refine wF ?_|refine ae (by decide) ?_|refine ai (by decide) ?_|(refine hK _ ?_;clear hK K))|simp only [go_sem]|with_reducible refine wA ?_|clear hK K));(iterate 8 (try revert K));exact h):p:=f h
theorem xo {p q:Prop} (h:q) (f:q->p:=by intro h;(repeat (first|(with_reducible first|refine aA.up ?_|refine fun (K:AK) hK=> ?_|refine ae (by decide) ?_|(refine hK _ ?_;clear hK K))|simp only [go_sem]|with_reducible refine wA ?_|(refine cJ rfl ?_)|(refine b7 rfl ?_)|clear hK K));(iterate 8 (try revert K));exact h):p:=f h
theorem Hz {p e0 e1 e2 e3:Prop} (a0:e0) (a1:e1) (a2:e2) (a3:e3) (f:e0->e1->e2->e3->p:=by intro a0 a1 a2 a3;(repeat (first|(with_reducible first|refine aA.up ?_|refine fun (K:AK) hK=> ?_|refine wK ?_|refine wF ?_|refine ae (by decide) ?_|refine ai (by decide) ?_|(refine hK _ ?_;clear hK K))|simp only [go_sem,List.length_append,s0,a0,a1,a2,a3]|with_reducible refine wA ?_|clear hK K))<;>fail):p:=f a0 a1 a2 a3
theorem NK {p q:Prop} (h:q) (f:q->p:=by intro h;(repeat (first|(with_reducible first|refine aA.up ?_|refine fun (K:AK) hK=> ?_|refine wD ?_|refine ae (by decide) ?_|refine ai (by decide) ?_|(refine hK _ ?_;clear hK K))|simp only [go_sem,Go.undef]|with_reducible refine wA ?_|clear hK K));(iterate 8 (try revert K));exact h):p:=f h
theorem NL {p q e0 e1 e2 e3:Prop} (a0:e0) (a1:e1) (a2:e2) (a3:e3) (h:q) (f:q->e0->e1->e2->e3->p:=by intro h a0 a1 a2 a3;(repeat (first|(with_reducible first|refine aA.up ?_|refine fun (K:AK) hK=> ?_|(refine hK _ ?_;clear hK K))|simp only [go_sem,List.drop_succ_cons,List.drop_zero,a0,a1,a2,a3]|with_reducible refine wA ?_|clear hK K));(iterate 8 (try revert K));exact h):p:=f h a0 a1 a2 a3
theorem NM {p q:Prop} (h:q) (f:q->p:=by intro h;(repeat (first|(with_reducible first|refine aA.up ?_|refine fun (K:AK) hK=> ?_|(refine hK _ ?_;clear hK K))|simp only [go_sem,ld]|with_reducible refine wA ?_|clear hK K));(iterate 8 (try revert K));exact h):p:=f h
theorem Ht {p q:Prop} (h:q) (f:q->p:=by intro h;(repeat (first|(with_reducible first|refine aA.up ?_|refine fun (K:AK) hK=> ?_|refine ae (by decide) ?_|refine ai (by decide) ?_|(refine hK _ ?_;clear hK K))|simp only [go_sem,Go.undef]|with_reducible refine wA ?_|(refine cJ rfl ?_)|(refine b7 rfl ?_)|clear hK K));(iterate 8 (try revert K));exact h):p:=f h
theorem NN {p q e0 e1:Prop} (a0:e0) (a1:e1) (h:q) (f:q->e0->e1->p:=by intro h a0 a1;(repeat (first|(with_reducible first|refine aA.up ?_|refine fun (K:AK) hK=> ?_|refine ae (by decide) ?_|refine ai (by decide) ?_|(refine hK _ ?_;clear hK K))|simp only [go_sem,Go.undef,a0,a1]|with_reducible refine wA ?_|(refine cJ rfl ?_)|(refine b7 rfl ?_)|clear hK K));(iterate 8 (try revert K));exact h):p:=f h a0 a1
theorem NO {p q e0 e1 e2:Prop} (a0:e0) (a1:e1) (a2:e2) (h:q) (f:q->e0->e1->e2->p:=by intro h a0 a1 a2;(repeat (first|(with_reducible first|refine aA.up ?_|refine fun (K:AK) hK=> ?_|refine ae (by decide) ?_|refine ai (by decide) ?_|refine fT (by decide) ?_|(refine hK _ ?_;clear hK K))|simp only [go_sem,List.length_append,ag,s0,a0,a1,a2]|with_reducible refine wA ?_|(refine fU rfl rfl ?_)|(refine dS rfl ?_)|clear hK K));(iterate 8 (try revert K));exact h):p:=f h a0 a1 a2
theorem NP {p q e0 e1 e2 e3 e4:Prop} (a0:e0) (a1:e1) (a2:e2) (a3:e3) (a4:e4) (h:q) (f:q->e0->e1->e2->e3->e4->p:=by intro h a0 a1 a2 a3 a4;(repeat (first|(with_reducible first|refine aA.up ?_|refine fun (K:AK) hK=> ?_|refine ae (by decide) ?_|refine ai (by decide) ?_|refine fT (by decide) ?_|(refine hK _ ?_;clear hK K))|simp only [go_sem,List.length_append,ag,s0,a0,a1,a2,a3,a4]|with_reducible refine wA ?_|(refine fU rfl rfl ?_)|(refine dS rfl ?_)|clear hK K));(iterate 8 (try revert K));exact h):p:=f h a0 a1 a2 a3 a4
theorem NQ {p q:Prop} (h:q) (f:q->p:=by intro h;(repeat (first|(with_reducible first|refine aA.up ?_|refine fun (K:AK) hK=> ?_|refine ae (by decide) ?_|(refine hK _ ?_;clear hK K))|simp only [go_sem,Go.undef]|with_reducible refine wA ?_|clear hK K));(iterate 8 (try revert K));exact h):p:=f h
theorem NR {p q e0 e1 e2:Prop} (a0:e0) (a1:e1) (a2:e2) (h:q) (f:q->e0->e1->e2->p:=by intro h a0 a1 a2;(repeat (first|(with_reducible first|refine aA.up ?_|refine fun (K:AK) hK=> ?_|refine wK ?_|refine wF ?_|refine ae (by decide) ?_|refine ai (by decide) ?_|(refine hK _ ?_;clear hK K))|simp only [go_sem,a0,a1,a2]|with_reducible refine wA ?_|clear hK K));(iterate 8 (try revert K));exact h):p:=f h a0 a1 a2
theorem Hu {p q e0 e1 e2 e3:Prop} (a0:e0) (a1:e1) (a2:e2) (a3:e3) (h:q) (f:q->e0->e1->e2->e3->p:=by intro h a0 a1 a2 a3;(repeat (first|(with_reducible first|refine aA.up ?_|refine fun (K:AK) hK=> ?_|refine wK ?_|refine wF ?_|refine ae (by decide) ?_|refine ai (by decide) ?_|(refine hK _ ?_;clear hK K))|simp only [go_sem,List.getD_cons_succ,List.getD_cons_zero,List.length_append,s0,ox,qA,a0,a1,a2,a3]|with_reducible refine wA ?_|clear hK K));(iterate 8 (try revert K));exact h):p:=f h a0 a1 a2 a3
theorem Hv {p q e0 e1 e2 e3:Prop} (a0:e0) (a1:e1) (a2:e2) (a3:e3) (h:q) (f:q->e0->e1->e2->e3->p:=by intro h a0 a1 a2 a3;(repeat (first|(with_reducible first|refine aA.up ?_|refine fun (K:AK) hK=> ?_|refine wE ?_|refine wK ?_|refine wF ?_|refine ae (by decide) ?_|refine ai (by decide) ?_|(refine hK _ ?_;clear hK K))|simp only [go_sem,List.length_append,s0,a0,a1,a2,a3]|with_reducible refine wA ?_|clear hK K));(iterate 8 (try revert K));exact h):p:=f h a0 a1 a2 a3
theorem Hw {p q e0:Prop} (a0:e0) (h:q) (f:q->e0->p:=by intro h a0;(repeat (first|(with_reducible first|refine aA.up ?_|refine fun (K:AK) hK=> ?_|refine wD ?_|refine ae (by decide) ?_|(refine hK _ ?_;clear hK K))|simp only [go_sem,Go.undef,a0]|with_reducible refine wA ?_|clear hK K));(iterate 8 (try revert K));exact h):p:=f h a0
theorem aR {p p0 p1 p2:Prop} (k:p0->p1->p2->p) (f0:p0:=by simp only [gq,List.foldl_cons,List.foldl_nil,List.replicate_succ,List.replicate_zero,di,j7,AV.v.injEq,Value.int.injEq,Value.bool.injEq,Value.string.injEq,AV.vec.injEq,AV.ptr.injEq,true_or,or_true,false_or,or_false,aa.mk.injEq,forall_eq_apply_imp_iff,forall_eq,forall_eq',go_sem]<;>fail) (f1:p1:=by simp only [gq,List.foldl_cons,List.foldl_nil,List.replicate_succ,List.replicate_zero,di,j7,AV.v.injEq,Value.int.injEq,Value.bool.injEq,Value.string.injEq,AV.vec.injEq,AV.ptr.injEq,true_or,or_true,false_or,or_false,aa.mk.injEq,forall_eq_apply_imp_iff,forall_eq,forall_eq',go_sem]<;>fail) (f2:p2:=by simp only [gq,List.foldl_cons,List.foldl_nil,List.replicate_succ,List.replicate_zero,di,j7,AV.v.injEq,Value.int.injEq,Value.bool.injEq,Value.string.injEq,AV.vec.injEq,AV.ptr.injEq,true_or,or_true,false_or,or_false,aa.mk.injEq,forall_eq_apply_imp_iff,forall_eq,forall_eq',go_sem]<;>fail):p:=k (f0) (f1) (f2)
theorem bo {p p0 p1 p2 r0:Prop} (h0:r0) (k:p0->p1->p2->p) (f0:r0->p0:=by intro h;simp only [gq,List.foldl_cons,List.foldl_nil,List.replicate_succ,List.replicate_zero,di,j7,AV.v.injEq,Value.int.injEq,Value.bool.injEq,Value.string.injEq,AV.vec.injEq,AV.ptr.injEq,true_or,or_true,false_or,or_false,aa.mk.injEq,forall_eq_apply_imp_iff,forall_eq,forall_eq',go_sem];exact h) (f1:p1:=by simp only [gq,List.foldl_cons,List.foldl_nil,List.replicate_succ,List.replicate_zero,di,j7,AV.v.injEq,Value.int.injEq,Value.bool.injEq,Value.string.injEq,AV.vec.injEq,AV.ptr.injEq,true_or,or_true,false_or,or_false,aa.mk.injEq,forall_eq_apply_imp_iff,forall_eq,forall_eq',go_sem]<;>fail) (f2:p2:=by simp only [gq,List.foldl_cons,List.foldl_nil,List.replicate_succ,List.replicate_zero,di,j7,AV.v.injEq,Value.int.injEq,Value.bool.injEq,Value.string.injEq,AV.vec.injEq,AV.ptr.injEq,true_or,or_true,false_or,or_false,aa.mk.injEq,forall_eq_apply_imp_iff,forall_eq,forall_eq',go_sem]<;>fail):p:=k (f0 h0) (f1) (f2)
theorem o5 {p p0 p1 p2 r1:Prop} (h1:r1) (k:p0->p1->p2->p) (f0:p0:=by simp only [gq,List.foldl_cons,List.foldl_nil,List.replicate_succ,List.replicate_zero,di,j7,AV.v.injEq,Value.int.injEq,Value.bool.injEq,Value.string.injEq,AV.vec.injEq,AV.ptr.injEq,true_or,or_true,false_or,or_false,aa.mk.injEq,forall_eq_apply_imp_iff,forall_eq,forall_eq',go_sem]<;>fail) (f1:r1->p1:=by intro h;simp only [gq,List.foldl_cons,List.foldl_nil,List.replicate_succ,List.replicate_zero,di,j7,AV.v.injEq,Value.int.injEq,Value.bool.injEq,Value.string.injEq,AV.vec.injEq,AV.ptr.injEq,true_or,or_true,false_or,or_false,aa.mk.injEq,forall_eq_apply_imp_iff,forall_eq,forall_eq',go_sem];exact h) (f2:p2:=by simp only [gq,List.foldl_cons,List.foldl_nil,List.replicate_succ,List.replicate_zero,di,j7,AV.v.injEq,Value.int.injEq,Value.bool.injEq,Value.string.injEq,AV.vec.injEq,AV.ptr.injEq,true_or,or_true,false_or,or_false,aa.mk.injEq,forall_eq_apply_imp_iff,forall_eq,forall_eq',go_sem]<;>fail):p:=k (f0) (f1 h1) (f2)
theorem iI {p p0 p1 p2 r0 r1:Prop} (h0:r0) (h1:r1) (k:p0->p1->p2->p) (f0:r0->p0:=by intro h;simp only [gq,List.foldl_cons,List.foldl_nil,List.replicate_succ,List.replicate_zero,di,j7,AV.v.injEq,Value.int.injEq,Value.bool.injEq,Value.string.injEq,AV.vec.injEq,AV.ptr.injEq,true_or,or_true,false_or,or_false,aa.mk.injEq,forall_eq_apply_imp_iff,forall_eq,forall_eq',go_sem];exact h) (f1:r1->p1:=by intro h;simp only [gq,List.foldl_cons,List.foldl_nil,List.replicate_succ,List.replicate_zero,di,j7,AV.v.injEq,Value.int.injEq,Value.bool.injEq,Value.string.injEq,AV.vec.injEq,AV.ptr.injEq,true_or,or_true,false_or,or_false,aa.mk.injEq,forall_eq_apply_imp_iff,forall_eq,forall_eq',go_sem];exact h) (f2:p2:=by simp only [gq,List.foldl_cons,List.foldl_nil,List.replicate_succ,List.replicate_zero,di,j7,AV.v.injEq,Value.int.injEq,Value.bool.injEq,Value.string.injEq,AV.vec.injEq,AV.ptr.injEq,true_or,or_true,false_or,or_false,aa.mk.injEq,forall_eq_apply_imp_iff,forall_eq,forall_eq',go_sem]<;>fail):p:=k (f0 h0) (f1 h1) (f2)
theorem P4 {p p0 p1 p2 r0 r1 r2:Prop} (h0:r0) (h1:r1) (h2:r2) (k:p0->p1->p2->p) (f0:r0->p0:=by intro h;simp only [gq,List.foldl_cons,List.foldl_nil,List.replicate_succ,List.replicate_zero,di,j7,AV.v.injEq,Value.int.injEq,Value.bool.injEq,Value.string.injEq,AV.vec.injEq,AV.ptr.injEq,true_or,or_true,false_or,or_false,aa.mk.injEq,forall_eq_apply_imp_iff,forall_eq,forall_eq',go_sem];exact h) (f1:r1->p1:=by intro h;simp only [gq,List.foldl_cons,List.foldl_nil,List.replicate_succ,List.replicate_zero,di,j7,AV.v.injEq,Value.int.injEq,Value.bool.injEq,Value.string.injEq,AV.vec.injEq,AV.ptr.injEq,true_or,or_true,false_or,or_false,aa.mk.injEq,forall_eq_apply_imp_iff,forall_eq,forall_eq',go_sem];exact h) (f2:r2->p2:=by intro h;simp only [gq,List.foldl_cons,List.foldl_nil,List.replicate_succ,List.replicate_zero,di,j7,AV.v.injEq,Value.int.injEq,Value.bool.injEq,Value.string.injEq,AV.vec.injEq,AV.ptr.injEq,true_or,or_true,false_or,or_false,aa.mk.injEq,forall_eq_apply_imp_iff,forall_eq,forall_eq',go_sem];exact h):p:=k (f0 h0) (f1 h1) (f2 h2)
theorem bI {p q:Prop} (h:p) (f:p->q:=by intro h;(try simp only [bne_iff_ne,ne_eq,bne_eq_false_iff_eq,beq_iff_eq,beq_eq_false_iff_ne,decide_eq_true_eq,decide_eq_false_iff_not,Bool.not_eq_eq_eq_not,Int.natCast_inj,Int.ofNat_lt,Int.ofNat_le] at h);exact h):q:=f h
theorem oE {p q:Prop} (h:p) (f:p->q:=by intro h;(try simp only [decide_eq_true_eq,decide_eq_false_iff_not,Int.ofNat_lt] at h);exact h):q:=f h
theorem R8 {p q:Prop} (h:p) (f:p->q:=by intro h;(try simp only [decide_eq_true_eq,decide_eq_false_iff_not,Int.ofNat_le] at h);exact h):q:=f h
theorem gE {p q e0 e1 e2:Prop} (a0:e0) (a1:e1) (a2:e2) (h:q) (f:e0->e1->e2->q->p:=by intro a0 a1 a2 h;refine ar.enter a0 rfl (by kernel_rfl) (by kernel_rfl) rfl (by first|rfl|(simp only [go_sem,Bool.and_self,Bool.and_true,Bool.true_and])) (by first|rfl|(simp only [go_sem,Bool.and_self,Bool.and_true,Bool.true_and])) ?_;simp only [a1,a2,List.length_cons,List.length_nil,Nat.reduceAdd,Nat.reduceSub,List.replicate_succ,List.replicate_zero,List.cons_append,List.nil_append];exact h):p:=f a0 a1 a2 h
theorem gF {p q e0 e1 e2:Prop} (a0:e0) (a1:e1) (a2:e2) (h:q) (f:e0->e1->e2->q->p:=by intro a0 a1 a2 h;refine c7.enter a0 rfl (by kernel_rfl) (by kernel_rfl) rfl ?_;simp only [a1,a2,List.length_cons,List.length_nil,Nat.reduceAdd,Nat.reduceSub,List.replicate_succ,List.replicate_zero,List.cons_append,List.nil_append];exact h):p:=f a0 a1 a2 h
section
def encS (s:ByteArray):List AV:=[.v (.string s)]
def encI (n:Int):List AV:=[.v (.int .i64 n)]
def Hd (x:uo):List AV:=[.v (.int .i64 x.kind), .v (.string x.name), .v (.string x.key), .v (.int .i64 x.val.kind), .v (.int .i64 x.val.num), .v (.string x.val.text)]
def R6 (x:Kn):List AV:=[.v (.int .i64 x.kind), .v (.int .i64 x.num), .v (.string x.text)]
def KT (x:Cq):List AV:=[.v (.int .i64 x.op), .v (.int .i64 x.left.kind), .v (.string x.left.name), .v (.string x.left.key), .v (.int .i64 x.left.val.kind), .v (.int .i64 x.left.val.num), .v (.string x.left.val.text),
 .v (.int .i64 x.right.kind), .v (.string x.right.name), .v (.string x.right.key), .v (.int .i64 x.right.val.kind), .v (.int .i64 x.right.val.num), .v (.string x.right.val.text)]
mutual
def aN:Ex->List AV
 | .mk k s l=>[.v (.int .i64 k), .v (.string s), .aC 3 (Dd l) l.length]
def Dd:List Ex->List (List AV)
 | []=>[]
 | x :: xs=>aN x :: Dd xs
end
theorem ma: ∀l:List Ex,Dd l=l.map aN
 | []=>rfl
 | x :: xs=>by rw [Dd,ma xs,List.map_cons]
theorem aD (x:Ex):aN x=[.v (.int .i64 x.kind), .v (.string x.label), .aC 3 (x.kids.map aN) x.kids.length]:=by
 obtain ⟨k,s,l⟩:=x;rw [aN,ma];rfl
def He (p:ny):List AV:=[.v (.string p.gq), .v (.string p.to), .v (.bool p.path), .v (.string p.label), .v (.string p.name), .v (.int .i64 p.expr.kind), .v (.string p.expr.label), .aC 3 (p.expr.kids.map aN) p.expr.kids.length]
def Nx (q:D8):List AV:=[.aC 8 (q.re.map He) q.re.length, .aC 13 (q.conds.map KT) q.conds.length, .aC 6 (q.ret.map Hd) q.ret.length, .v (.int .i64 q.range), .v (.int .i64 q.Jw)]
def ba (l:List ByteArray):AV:= .aC 1 (l.map encS) l.length
def Qe (l:List Int):AV:= .aC 1 (l.map encI) l.length
theorem a7 (n:Nat) (l:List ByteArray):bw n (l.map encS)=true:=bB _ (fun _=>rfl) l
theorem Mn (n:Nat) (l:List Int):bw n (l.map encI)=true:=bB _ (fun _=>rfl) l
theorem DP (n:Nat) (l:List uo):bw n (l.map Hd)=true:=bB _ (fun _=>rfl) l
theorem DO (n:Nat) (l:List Cq):bw n (l.map KT)=true:=bB _ (fun _=>rfl) l
theorem dA (n:Nat) (x:Ex):aV n (aN x)=true:=by
 induction x using Ex.ind with
 | h k s l ih=>
  rw [aN,ma];simp only [aV,AV.wf,VZ,Bool.true_and];exact yb (fun r hr=>by obtain ⟨x,hx,rfl⟩:=List.mem_map.1 hr;exact ih x hx)
theorem bl (n:Nat) (l:List Ex):bw n (l.map aN)=true:=bB _ (dA n) l
theorem Ay (n:Nat) (p:ny):aV n (He p)=true:=by simp only [He,aV,AV.wf,bl,VZ]
theorem DQ (n:Nat) (l:List ny):bw n (l.map He)=true:=bB _ (Ay n) l
theorem Mo (n:Nat) (q:D8):aV n (Nx q)=true:=by simp only [Nx,aV,AV.wf,DQ,DO,DP,VZ]
attribute [go_sem] ba Qe encS encI Hd R6 KT He Nx a7 Mn DP DO dA bl Ay DQ Mo
@[go_sem] theorem getD_map {α β:Type} (f:α->β) (l:List α) (k:Nat) (d:β) (h:k<l.length):(l.map f).getD k d=f l[k]:=by
 simp [List.getD,h]
section
variable {D:Nat->Prop} {nu:Nat->Nat->Value} {o:List (Option aa)} {w:World} {P:Program}
theorem sb {b:Nat}: ∀ {cs:List Value} {off:Nat},(∀(j:Nat) v,cs[j]? = some v->w.cell? ⟨b,off+j,none⟩=some v)->cN w b off cs
 | [],_,_=>trivial
 | y :: cs,off,h=>⟨by simpa using h 0 y rfl,sb (off:=off+1) (fun j v hj=>by rw [show off+1+j=off+(j+1) by omega];exact h (j+1) v (by simpa using hj))⟩
def My (D:Nat->Prop) (nu:Nat->Nat->Value) (o:List (Option aa)) (w:World) (cs:List AV) (xs:List Value):Prop:=cs.length=xs.length∧ ∀(j:Nat) c x,cs[j]? = some c->xs[j]? = some x->RA D nu o w c x
theorem RA.Oj {α:Type} {z:Nat} {enc:α->List AV} {rd:α->List Value->Prop} {xs:List α} {v:Value} (h:RA D nu o w (.aC z (xs.map enc) xs.length) v) (hrd: ∀x,x∈xs-> ∀cs:List Value,My D nu o w (enc x) cs->rd x cs):fP w z rd xs v:=by
 generalize hn:xs.length=n at h;generalize hr:xs.map enc=rows at h
 cases h with
 | bp=>
  exact .inl ⟨.inl rfl,V0.1 hn⟩
 | bD _ a=>
  exact .inl ⟨.inr ⟨a,rfl⟩,V0.1 hn⟩
 | aC _ _ _ b off cap f h1 h2 h3 h4 h5 h6 h7 h8=>
  subst hr;simp only [List.length_map] at h2;refine .inr ⟨b,off,cap,by rw [hn],h2,h3,fun i x hx=> ?_⟩
  have hi:(xs.map enc)[i]? = some (enc x):=by rw [UP,hx];rfl
  refine ⟨(List.range (enc x).length).map (f i),hrd x (U7 hx) _ ⟨by simp,fun j c y hc hy=> ?_⟩,sb (fun j y hy=> ?_)⟩
  ·have hj:=(Uy.1 hc).1;rw [UP,UQ hj] at hy;cases hy;exact h7 i j _ c hi hc
  ·rw [UP] at hy
   have hj:j<(enc x).length:=by
    rcases UA j (enc x).length with q|q
    ·exact q
    ·rw [UR (by simpa using q)] at hy;cases hy
   rw [UQ hj] at hy;cases hy;exact h6 i j _ _ hi (UM hj)
theorem Aa {vs cs:List Value} (h:My D nu o w (vs.map AV.v) cs):cs=vs:=by
 apply List.ext_getElem?
 intro i;have hl:=h.1;simp only [List.length_map] at hl
 rcases UA i vs.length with q|q
 ·have e1:(vs.map AV.v)[i]? = some (.v vs[i]):=by simp [q]
  have e2:cs[i]? = some cs[i]:=UM (by omega)
  have:=(h.2 i _ _ e1 e2).cU
  rw [e2,this,UM q]
 ·rw [UR q,UR (by omega)]
theorem DD {l:List ByteArray} {v:Value} (h:RA D nu o w (ba l) v):jY w l v:=RA.Oj h (fun x _ cs hc=>Aa (vs:=[.string x]) hc)
theorem xV: ∀(x:Ex) (cs:List Value),My D nu o w (aN x) cs->dt w x cs:=by
 intro x
 induction x using Ex.ind with
 | h k s l ih=>
  intro cs h;rw [aN,ma] at h;obtain ⟨hl,hr⟩:=h
  match cs,hl with
  | [a,b,c],_=>
   have h0:=(hr 0 _ a rfl rfl).cU;have h1:=(hr 1 _ b rfl rfl).cU;have h2:=hr 2 _ c rfl rfl;rw [dt];exact ⟨c,by rw [h0,h1],dV.2 (RA.Oj h2 (fun y hy cs' hc=>ih y hy cs' hc))⟩
theorem xP {cs:List AV} {v:Value} (h:RA D nu o w (.agg cs) v): ∃xs:List Value,v = .agg xs.toArray∧My D nu o w cs xs:=by
 cases h with
 | agg _ xs h1 h2 h3=>exact ⟨xs.toList,by simp,by simpa using h1,fun j c x q1 q2=>h2 j c x q1 (by simpa using q2)⟩
theorem RA.zL {α:Type} {z:Nat} (hz:0<z) {enc:α->List AV} {rd:α->List Value->Prop} {xs:List α} {v:Value} (hD: ∀b off n c,v = .slice (some ⟨b,off,none⟩) n c->b<w.heap.size->D b) (h:fP w z rd xs v) (hlen: ∀x,(enc x).length=z)
  (hrd: ∀x,x∈xs-> ∀cs:List Value,rd x cs->My D nu [] w (enc x) cs∧ ∀y∈cs,y.oneCell'=true):RA D nu [] w (.aC z (xs.map enc) xs.length) v:=by
 rcases h with ⟨rfl|⟨a,rfl⟩,rfl⟩|⟨b,off,cap,rfl,h1,h2,h3⟩
 ·exact .bp z
 ·exact .bD z a
 ·have hex: ∀i:Nat, ∃cs:List Value, ∀x,xs[i]? = some x->rd x cs∧cN w b (off+i * z) cs:=fun i=>by
   cases hx:xs[i]? with
   | none=>exact ⟨[],fun x hx=>by cases hx⟩
   | some x=>
    obtain ⟨cs,q⟩:=h3 i x hx;exact ⟨cs,fun y hy=>by cases hy;exact q⟩
  let g:Nat->List Value:=fun i=>Classical.choose (hex i)
  have hg: ∀i x,xs[i]? = some x->rd x (g i)∧cN w b (off+i * z) (g i):=fun i x hx=>Classical.choose_spec (hex i) x hx
  have key: ∀(i j:Nat) row c,(xs.map enc)[i]? = some row->row[j]? = some c-> ∃y,(g i)[j]? = some y∧w.cell? ⟨b,off+i * z+j,none⟩=some y∧RA D nu [] w c y∧y.oneCell'=true:=by
   intro i j row c hi hj;rw [UP] at hi
   cases hx:xs[i]? with
   | none=>rw [hx] at hi;cases hi
   | some x=>
    rw [hx] at hi;cases hi;obtain ⟨q1,q2⟩:=hg i x hx;obtain ⟨q3,q4⟩:=hrd x (U7 hx) _ q1
    have hjl:j<(g i).length:=by rw [<-q3.1];exact (Uy.1 hj).1
    have e:=UM hjl;exact ⟨_,e,jM q2 j _ e,q3.2 j c _ hj e,q4 _ (U7 e)⟩
  refine .aC z _ _ b off cap (fun i j=>(g i).getD j Go.undef) (by simp) (by simpa using h1) h2 (fun hne=> ?_) (fun i row hi=> ?_) (fun i j row c hi hj=> ?_) (fun i j row c hi hj=> ?_) (fun i j row c hi hj=> ?_)
  ·obtain ⟨x,xs',rfl⟩: ∃x xs',xs=x :: xs':=by
    cases xs with
    | nil=>exact absurd rfl hne
    | cons x xs'=>exact ⟨x,xs',rfl⟩
   obtain ⟨c,hc⟩: ∃c,(enc x)[0]? = some c:=⟨_,UM (by rw [hlen x];exact hz)⟩;obtain ⟨y,_,q,_⟩:=key 0 0 (enc x) c (by simp) hc;have hlt:=k9 q;exact ⟨hlt,bd _ _,hD _ _ _ _ rfl hlt⟩
  ·rw [UP] at hi
   cases hx:xs[i]? with
   | none=>rw [hx] at hi;cases hi
   | some x=>rw [hx] at hi;cases hi;exact hlen x
  ·obtain ⟨y,q1,q2,_⟩:=key i j row c hi hj;rw [q2,getD_some q1]
  ·obtain ⟨y,q1,_,q3,_⟩:=key i j row c hi hj;rw [getD_some q1];exact q3
  ·obtain ⟨y,q1,_,_,q4⟩:=key i j row c hi hj;rw [getD_some q1];exact q4
theorem RA.LI (hD: ∀b,b<w.heap.size->D b) {α:Type} {z:Nat} (hz:0<z) {enc:α->List AV} {rd:α->List Value->Prop} {xs:List α} {v:Value} (h:fP w z rd xs v) (hlen: ∀x,(enc x).length=z)
  (hrd: ∀x,x∈xs-> ∀cs:List Value,rd x cs->My D nu [] w (enc x) cs∧ ∀y∈cs,y.oneCell'=true):RA D nu [] w (.aC z (xs.map enc) xs.length) v:=RA.zL hz (fun b _ _ _ _ hb=>hD b hb) h hlen hrd
theorem z8 (vs:List Value):My D nu o w (vs.map AV.v) vs:=⟨by simp,fun j c x h1 h2=>by
 rw [UP,h2] at h1;cases h1;exact .v x⟩
theorem Jb {α:Type} {z:Nat} {rd:α->List Value->Prop} {xs:List α} {v:Value} (h:fP w z rd xs v):v.oneCell'=true:=by
 rcases h with ⟨rfl|⟨a,rfl⟩,_⟩|⟨b,off,cap,rfl,_⟩<;>rfl
theorem JD {l:List ByteArray} {v:Value} (hD: ∀b off n c,v = .slice (some ⟨b,off,none⟩) n c->D b) (h:jY w l v):RA D nu [] w (ba l) v:=
 RA.zL (by omega) (fun b off n c e _=>hD b off n c e) h (fun _=>rfl) (fun x _ cs hc=>by subst hc;exact ⟨z8 [.string x],by simp [Value.oneCell']⟩)
theorem Hc (x:Ex):(aN x).length=3:=by rw [aD];rfl
theorem PY (hD: ∀b,b<w.heap.size->D b): ∀(x:Ex) (cs:List Value),dt w x cs->My D nu [] w (aN x) cs∧ ∀y∈cs,y.oneCell'=true:=by
 intro x
 induction x using Ex.ind with
 | h k s l ih=>
  intro cs h;rw [dt] at h;obtain ⟨sv,rfl,h⟩:=h;have h':=dV.1 h;have hs:=RA.LI (nu:=nu) hD (by omega:0<3) h' Hc (fun y hy cs hc=>ih y hy cs hc);have ho:=Jb h';rw [aN,ma];refine ⟨⟨rfl,fun j c y h1 h2=> ?_⟩,by simp [Value.oneCell'] at ho ⊢; exact ho⟩
  match j,h1,h2 with
  | 0,h1,h2=>cases h1;cases h2;exact .v _
  | 1,h1,h2=>cases h1;cases h2;exact .v _
  | 2,h1,h2=>cases h1;cases h2;exact hs
  | j+3,h1,h2=>simp at h1
theorem K1 {D:Nat->Prop} {nu:Nat->Nat->Value} {w:World} {v:Value} (hro:RO D nu [] w) {e:Ending} {w':World} (h:AZ w v e w'):Gn D nu [] w (fun r' o'=>r' = .v v∧o'=[]) e w':=by
 obtain ⟨rfl,hb⟩:=h;exact ⟨v,nu,[], .v v,rfl,au hb,hro.below hb, .v v,rfl,rfl⟩
theorem ar.xN {f:FuncId} {args:List AV} {v:Value} (hc:eh P f=true) (ha:aV 0 args=true) (h: ∀D nu w vargs,fM D nu [] w args vargs->Calls P f vargs w (AZ w v)):ar P f args (.v v):=
 ⟨⟨ha,rfl⟩,hc,fun D nu w vargs hro hra=>(h D nu w vargs hra).mono (fun e w' hr=>K1 hro hr)⟩
theorem ar.Du {f:FuncId} {args:List AV} {l:List ByteArray} (hc:eh P f=true) (ha:aV 0 args=true)
  (h: ∀D nu w vargs,fM D nu [] w args vargs->Calls P f vargs w (fun e w'=> ∃v,e = .returned v∧jY w' l v∧Below w.heap.size w w'∧ ∀b off n c,v = .slice (some ⟨b,off,none⟩) n c->w.heap.size<=b)):ar P f args (ba l):=
 ⟨⟨ha,by simp only [ba,AV.wf,a7]⟩,hc,fun D nu w vargs hro hra=>(h D nu w vargs hra).mono (fun e w' hr=>by
  obtain ⟨v,rfl,h1,hb,h2⟩:=hr
  exact ⟨v,nu,[],ba l,rfl,au hb,hro.below hb,JD (fun b off n c e=>hro.up b (h2 b off n c e)) h1,rfl,rfl⟩)⟩
theorem ar.args {f:FuncId} {args args':List AV} {r:AV} (h:ar P f args r) (hw:aV 0 args'=true) (hl: ∀D nu w vargs,fM D nu [] w args' vargs->fM D nu [] w args vargs):ar P f args' r:=
 ⟨⟨hw,h.1.2⟩,h.2.1,fun D nu w vargs hro hra=>h.2.2 D nu w vargs hro (hl D nu w vargs hra)⟩
theorem jR {a:AV} {vargs:Array Value} (h:fM D nu o w [a] vargs): ∃x,vargs = #[x]∧RA D nu o w a x:=by
 obtain ⟨x,hx⟩:=List.length_eq_one_iff.1 (by simpa using h.len.symm:vargs.toList.length=1)
 have e:vargs = #[x]:=by apply Array.ext';simpa using hx
 subst e;exact ⟨x,rfl,h.at' 0 a x rfl rfl⟩
theorem xQ {a b:AV} {vargs:Array Value} (h:fM D nu o w [a,b] vargs): ∃x y,vargs = #[x,y]∧RA D nu o w a x∧RA D nu o w b y:=by
 have hl:vargs.toList.length=2:=by simpa using h.len.symm
 match hv:vargs.toList,hl with
 | [x,y],_=>
  have e:vargs = #[x,y]:=by apply Array.ext';simpa using hv
  subst e;exact ⟨x,y,rfl,h.at' 0 a x rfl rfl,h.at' 1 b y rfl rfl⟩
end
open Go.RowKit Go.ChangeShapes Go.Deep
def Oy (P:Program) (t:TypeId):Option (List (TypeId×Nat×Nat)):=match P.underlying t with
 | some (.struct fs)=>some (fs.toList.map fun f=>(f.type,f.offset,P.cellsOf f.type))
 | _=>none
section
variable {H:Type} {enc:TypeId×Value->H} {P:Program} {w:World}
def Td (enc:TypeId×Value->H) (P:Program) (w:World) (n:Nat) (t:TypeId) (cs:List Value):Prop:= ∃y,DataW.trod enc P w 0 (fun _=>true) true n t cs=some y∧ ∀k∈y.1.weights P t,k<=reachBytes
theorem qW {t:TypeId}: ∀ {l:List (DataW H)} {d:DataW H},d∈l-> ∀k∈d.weights P t,k∈DataW.weightsAll P t l
 | y :: l,d,hd,k,hk=>by
  rw [DataW.weightsAll,List.mem_append]
  rcases List.mem_cons.1 hd with rfl|hd
  ·exact .inl hk
  ·exact .inr (qW hd k hk)
theorem OA {n:Nat} {t:TypeId} {cs:List Value} (ht:P.underlying t=some (.int .i64)) (h:Td enc P w n t cs): ∃k,cs=[.int .i64 k]∧(Lit.int .i64 k).wf=true:=by
 obtain ⟨y,h,_⟩:=h;obtain ⟨k,rfl,_,hk⟩:=DataW.trod_int ht h;exact ⟨k,rfl,hk⟩
theorem OC {n:Nat} {t:TypeId} {cs:List Value} (ht:P.underlying t=some .string) (h:Td enc P w n t cs): ∃s,cs=[.string s]∧zM s:=by
 obtain ⟨y,h,hy⟩:=h;obtain ⟨s,rfl,rfl,hs⟩:=DataW.trod_string ht h;refine ⟨s,rfl, ?_⟩
 have:=hy s.data.toList.length (by rw [DataW.weights];exact List.mem_singleton.2 rfl)
 unfold reachBytes at this;unfold zM;have e:s.size=s.data.toList.length:=rfl;omega
theorem wa {n:Nat} {t:TypeId} {cs:List Value} {l:List (TypeId×Nat×Nat)} (hs:Oy P t=some l) (h:Td enc P w n t cs) :
  ∃m,n=m+1∧cs.length=P.cellsOf t∧ ∀(i:Nat) T off sz,l[i]? = some (T,off,sz)->Td enc P w m T ((cs.drop off).take sz):=by
 obtain ⟨y,h,hy⟩:=h;unfold Oy at hs
 split at hs
 ·rename_i fs ht;cases hs;obtain ⟨xs,m,rfl,rfl,h1,h2,h3⟩:=DataW.trod_struct ht h;refine ⟨m,rfl,h1,fun i T off sz hi=> ?_⟩;rw [UP] at hi
  cases hf:fs[i]? with
  | none=>simp [hf] at hi
  | some f=>
   simp [hf] at hi;obtain ⟨rfl,rfl,rfl⟩:=hi
   have:=h3 i f hf
   have hlt:i<xs.length:=by rw [h2];exact (Array.getElem?_eq_some_iff.1 hf).1
   rw [UM hlt] at this;refine ⟨_,this,fun k hk=>hy k ?_⟩;simp only [DataW.weights,ht];exact DataW.weights_mem_each (j:=i) (t:=f.type) (d:=xs[i].1) (by simp [hf]) (by simp [hlt]) k hk
 ·cases hs
theorem OB {α:Type} [Inhabited α] {n:Nat} {t e:TypeId} {z:Nat} {v:Value} {rd:α->List Value->Prop} {okx:α->Prop} (ht:P.underlying t=some (.slice e)) (hz:P.cellsOf e=z) (hz0:0<z) (hby:0<P.bytesOf e)
  (h:Td enc P w n t [v]) (hrd: ∀m cs,n=m+1->Td enc P w m e cs-> ∃x,rd x cs∧okx x): ∃xs:List α,fP w z rd xs v∧(∀x,x∈xs->okx x)∧xs.length<=140737488355328:=by
 obtain ⟨y,h,hy⟩:=h
 rcases DataW.trod_slice ht h with ⟨h0,_⟩|⟨a,len,cap,elems,rest,m,rfl,h0,rfl,hb,hl,hm,hlen,hel,hsp,_⟩
 ·cases h0;exact ⟨[], .inl ⟨.inl rfl,rfl⟩,fun x hx=>(by cases hx),by simp⟩
 ·cases h0;rw [hz] at hel hsp;obtain ⟨hrl,hre⟩:=hsp rfl;have hw:=hy ((elems.length+rest.length) * P.bytesOf e) (by simp [DataW.weights,ht])
  have hln:len<=140737488355328:=by
   unfold reachBytes at hw
   have:elems.length+rest.length<=(elems.length+rest.length) * P.bytesOf e:=Nat.le_mul_of_pos_right _ hby
   omega
  by_cases hc:cap=0
  ·subst hc
   obtain rfl:len=0:=by omega
   exact ⟨[], .inl ⟨.inr ⟨a,rfl⟩,rfl⟩,fun x hx=>(by cases hx),by simp⟩
  ·have hspot:a.spot=none:=by
    have k: ∃u,((w.cells? 0 (a.add (0 * z)) z).bind (DataW.trod enc P w 0 (fun _=>true) true m e))=some u:=by
     rcases Nat.eq_zero_or_pos len with q|q
     ·subst q
      have:=hre 0 (by omega)
      rw [UM (by omega)] at this;exact ⟨_,this⟩
     ·have:=hel 0 q
      rw [UM (by omega)] at this;exact ⟨_,this⟩
    obtain ⟨u,hu⟩:=k;obtain ⟨cs,h1,_⟩:=V1.1 hu;obtain ⟨_,h2,h3⟩:=World.cells?_some h1;have h4:=h3 0 hz0;rw [UM (by omega)] at h4
    have:=World.cell?_spot h4
    simpa [Addr.add] using this
   obtain ⟨b,o,sp⟩:=a;cases hspot
   have hx: ∀i,i<len-> ∃x:α,okx x∧ ∃cs,rd x cs∧cN w b (o+i * z) cs:=fun i hi=>by
    have h1:=hel i hi;rw [UM (by omega)] at h1;obtain ⟨cs,h2,h3⟩:=V1.1 h1
    obtain ⟨x,q1,q2⟩:=hrd m cs rfl ⟨_,h3,fun k hk=>hy k (by
     simp only [DataW.weights,ht]
     refine List.mem_cons_of_mem _ (List.mem_append_left _ (qW (List.mem_map_of_mem (List.getElem_mem (l:=elems) (n:=i) (by omega))) k hk)))⟩
    obtain ⟨_,h4,h5⟩:=World.cells?_some h2;refine ⟨x,q2,cs,q1, ?_⟩
    have key: ∀(l:List Value) (off:Nat),(∀(j:Nat) v,l[j]? = some v->w.cell? ⟨b,off+j,none⟩=some v)->cN w b off l:=by
     intro l
     induction l with
     | nil=>exact fun _ _=>trivial
     | cons y l ih=>exact fun off h=>⟨by simpa using h 0 y rfl,ih (off+1) (fun j v hj=>by rw [show off+1+j=off+(j+1) by omega];exact h (j+1) v (by simpa using hj))⟩
    refine key cs _ (fun j v hj=> ?_);have hjl:=(Uy.1 hj).1;have h6:=h5 j (by omega);rw [hj,Addr.add_lit,Addr.add_lit] at h6;exact h6
   obtain ⟨f,hf⟩:=choose_lt hx
   refine ⟨(List.range len).map f, .inr ⟨b,o,cap,by simp,by simpa using hl,hm,fun i x hi=> ?_⟩,fun x hx=> ?_,by simp;omega⟩
   ·rw [UP] at hi
    have hil:i<len:=by
     rcases UA i len with q|q
     ·exact q
     ·rw [UR (by simpa using q)] at hi;cases hi
    rw [UQ hil] at hi;cases hi;exact (hf i hil).2
   ·obtain ⟨i,hi,rfl⟩:=List.mem_map.1 hx;exact (hf i (List.mem_range.1 hi)).1
end
section
variable {H:Type} {enc:TypeId×Value->H} {w:World}
instance:Inhabited Ex:=⟨.mk 0 ⟨#[]⟩ []⟩
instance:Inhabited uo:=⟨⟨0,⟨#[]⟩,⟨#[]⟩,⟨0,0,⟨#[]⟩⟩⟩⟩
instance:Inhabited Cq:=⟨⟨0,default,default⟩⟩
instance:Inhabited ny:=⟨⟨⟨#[]⟩,⟨#[]⟩,false,⟨#[]⟩,⟨#[]⟩,default⟩⟩
theorem QU:Tryz.prog.underlying 9=some .string:=by kernel_rfl
theorem Ug:Tryz.prog.underlying 22=some (.int .i64):=by kernel_rfl
theorem Th:Oy Tryz.prog 25=some [(22,0,1),(9,1,1),(23,2,1)]:=by kernel_rfl
theorem R4:Tryz.prog.cellsOf 25=3:=by kernel_rfl
theorem SV:Tryz.prog.underlying 23=some (.slice 25):=by kernel_rfl
theorem TU:0<Tryz.prog.bytesOf 25:=of_decide_eq_true (by kernel_rfl)
theorem QS: ∀(n:Nat) {cs:List Value},Td enc Tryz.prog w n 25 cs-> ∃x:Ex,dt w x cs∧x.ok:=by
 intro n
 induction n using Nat.strongRecOn with
 | _ n ih=>
  intro cs h;obtain ⟨m,rfl,hl,hf⟩:=wa Th h;rw [R4] at hl
  obtain ⟨a,b,c,rfl⟩: ∃a b c,cs=[a,b,c]:=by
   rcases cs with _|⟨a,_|⟨b,_|⟨c,_|⟨d,cs⟩⟩⟩⟩
   ·cases hl
   ·cases hl
   ·cases hl
   ·exact ⟨a,b,c,rfl⟩
   ·simp at hl
  obtain ⟨k,e0,_⟩:=OA Ug (hf 0 _ _ _ rfl);obtain ⟨s,e1,h1⟩:=OC QU (hf 1 _ _ _ rfl);obtain ⟨xs,h2,h3,_⟩:=OB SV R4 (by omega) TU (hf 2 _ _ _ rfl) (rd:=dt w) (okx:=Ex.ok) (fun m' cs' hm hx=>ih m' (by omega) hx);cases e0;cases e1;exact ⟨.mk k s xs,by rw [dt];exact ⟨_,rfl,dV.2 h2⟩,by rw [Ex.ok];exact ⟨h1,mM.2 h3⟩⟩
end
open Go.ChangeShapes Go.WideShapes Go.ChangeAt Go.RowKit
theorem ar.OG {P:Program} {f:FuncId} {args:List AV} {v:Value} (h:ar P f args (.v v)) {w:World} {vargs:Array Value} (hr:fM (fun _=>True) (fun _ _=>Go.undef) [] w args vargs) (hG:ec (fun _=>True) (fun _ _=>Go.undef) [] w:=by exact fun g T cs hg=>by cases hg) :
  Calls P f vargs w (AZ w v):=by
 refine (h.2.2 _ _ w vargs (RO.nil _ _ _ (fun _ _=>trivial) hG) hr).mono fun e w' hf=> ?_;obtain ⟨x,nu',o',r,rfl,hm,_,hx,rfl,rfl⟩:=hf;have e1:=hx.cU;subst e1;exact ⟨rfl,hm.os,hm.tape,hm.output,hm.size,fun b hb=>(hm.keep b hb (bd _ _)).1⟩
section
variable {H:Type} {enc:TypeId×Value->H} {w:World}
end
open Go.ChangeShapes Go.WideShapes Go.ChangeAt Go.RowKit
section
variable {H:Type} {enc:TypeId×Value->H} {w:World}
theorem Mg {v:Value} {d:DataW H} {ps:List MemPlace} (h:DataW.Trod enc Tryz.prog w 0 (fun _=>true) true 25 v d ps) (hw: ∀k∈d.weights Tryz.prog 25,k<=reachBytes) :
  ∃(x:Ex) (cx:List Value),v = .agg cx.toArray∧dt w x cx∧x.ok:=by
 obtain ⟨n,h⟩:=h;have ht:Td enc Tryz.prog w n 25 v.cells.toList:=⟨_,h,hw⟩;obtain ⟨m,_,hl,_⟩:=wa Th ht;rw [R4] at hl;obtain ⟨x,h1,h2⟩:=QS n ht
 cases v with
 | agg cs=>exact ⟨x,cs.toList,by simp,h1,h2⟩
 | _=>simp [Value.cells] at hl
theorem Hh {D:Nat->Prop} {nu:Nat->Nat->Value} (hD: ∀b,b<w.heap.size->D b) {x:Ex} {cx:List Value} (h:dt w x cx):RA D nu [] w (.agg (aN x)) (.agg cx.toArray):=by
 obtain ⟨h1,h2⟩:=PY (nu:=nu) hD x cx h;exact .agg _ _ (by simpa using h1.1) (fun i c y hc hy=>h1.2 i c y hc (by simpa using hy)) (fun i y hy=>h2 y (U7 (by simpa using hy)))
end
end
end Go.Proofs.YtfflpdekojlnmaaGreatDoor
