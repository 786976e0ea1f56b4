/- texts of one claim, one behind the other. -/
import Derived.Test.YtfflpdekojlnmaaGreatDoorXAbsV
import Derived.Test.YtfflpdekojlnmaaGreatDoorXLang
import Derived.Test.YtfflpdekojlnmaaGreatDoorXFen
import Derived.ChangeArms
import Derived.Deep.Slices
import Derived.KernelRfl
import Derived.SizedLaws
import Derived.Test.YtfflpdekojlnmaaGreatDoorProg
import Derived.Test.YtfflpdekojlnmaaGreatDoorRows
import Derived.Test.YtfflpdekojlnmaaGreatDoorXAbsS
import Derived.WalkKit
import Derived.ProofKit
import Derived.OpenShut
set_option linter.unusedSimpArgs false
set_option linter.unusedVariables false
set_option maxRecDepth 100000
set_option maxHeartbeats 16000000
open Bool renaming and_eq_true -> UW, or_eq_true -> Vl, false_eq_true -> Vu, not_eq_true' -> Vz, and_true -> VC
open List renaming getElem?_of_mem -> Uz, filter_cons -> VA, getElem?_eq_some_iff -> Uc, getElem?_drop -> Uo, getElem?_cons_zero -> Ve, getElem?_cons_succ -> VB, all_eq_true -> Vj, getElem?_eq_getElem -> Uq, getElem_mem -> Vx, mem_of_getElem? -> UK, size_toArray -> UA, getD_eq_getElem?_getD -> U3, getElem?_toArray -> Us, length_eq_zero_iff -> VD, getElem?_map -> Ut, getElem?_range -> Uu, getElem?_eq_none -> Uv
open Nat renaming lt_or_ge -> Ue
open Option renaming bind_eq_some_iff -> VE
namespace Go.Proofs.YtfflpdekojlnmaaGreatDoor
open Go.RowKit
section
section
variable {D:Nat->Prop} {nu:Nat->Nat->Value} {o:List (Option aa)} {w:World} {P:Program}
variable {nu0:Nat->Nat->Value} {o0:List (Option aa)} {w0:World} {l:List Oper} {es:List Nat} {O:Nat->List (Option aa)}
def sY:List (Nat×Nat)->Nat->Option Nat
 | [],_=>none
 | (j,lo) :: fs,k=>if j=k∧1000<=lo then some (lo - 1000) else sY fs k
def OA:Option (Nat->List (Option aa)->Prop)->Nat->List (Option aa)->Prop
 | none,_,_=>True
 | some p,k,o=>p k o
def jx (es:List Nat) (k:Nat):List Nat:=es.filter (fun e=>decide (k<=e))
theorem mJ {es:List Nat} {k:Nat} (h:es.contains k=false):jx es k=jx es (k+1):=by
 refine List.filter_congr fun e he=> ?_
 have hne:e≠k:=fun hh=>by subst hh;simp [he] at h
 rw [decide_eq_decide];omega
theorem yT {es:List Nat} {k:Nat} (h: ∀e,e∈es->k<=e):jx es k=es:=List.filter_eq_self.2 fun e he=>decide_eq_true (h e he)
theorem yU: ∀ {es:List Nat} {k:Nat},lC es=true->es.contains k=true->jx es k=k :: jx es (k+1)
 | [],k,_,h=>by simp at h
 | a :: t,k,hr,h=>by
  have ht:lC t=true:=by
   cases t with
   | nil=>rfl
   | cons b t=>simp only [lC,UW] at hr;exact hr.2
  have hgt: ∀e,e∈t->a<e:=fun e he=>by
   obtain ⟨i,hi⟩:=Uz he;exact iq hr 0 (i+1) a e (by omega) rfl (by simpa using hi)
  by_cases ha:a=k
  ·subst ha;have h1:jx t a=t:=yT fun e he=>Nat.le_of_lt (hgt e he);have h2:jx t (a+1)=t:=yT fun e he=>hgt e he;rw [jx,VA, <- jx,h1,jx,VA, <- jx,h2,if_pos (by simp),if_neg (by simp)]
  ·have hk:t.contains k=true:=by
    simp only [List.contains_cons,Vl,beq_iff_eq] at h
    rcases h with h|h
    ·exact absurd h.symm ha
    ·exact h
   have hlt:=hgt k (by simpa using hk);have IH:=yU ht hk;rw [jx,VA, <- jx,IH,if_neg (by simp;omega),jx,jx,VA,if_neg (by simp;omega)]
theorem Ep {es:List Nat} {k m:Nat} (hm: ∀m' e,es[m']? = some e->(e<k↔m'<m)):jx es k=es.drop m:=by
 have h1:jx es k=jx (es.take m++es.drop m) k:=by rw [List.take_append_drop]
 rw [h1,jx,List.filter_append]
 have h2:(es.take m).filter (fun e=>decide (k<=e))=[]:=List.filter_eq_nil_iff.2 fun e he=>by
  obtain ⟨i,hi⟩:=Uz he;have hlt:=(Uc.1 hi).1;rw [List.getElem?_take_of_lt (by simp at hlt;omega)] at hi
  have:=(hm i e hi).2 (by simp at hlt;omega)
  simp;omega
 have h3:(es.drop m).filter (fun e=>decide (k<=e))=es.drop m:=List.filter_eq_self.2 fun e he=>by
  obtain ⟨i,hi⟩:=Uz he;rw [Uo] at hi
  have: ¬e<k:=fun hh=>by have:=(hm _ e hi).1 hh;omega
  simp;omega
 rw [h2,h3,List.nil_append]
def dF (P:Program) (all:List Oper) (es:List Nat) (fs:List (Nat×Nat)):List Oper->Nat->AS->List (List (Option aa))->Option (Nat->List (Option aa)->Prop)->(AS->Prop)->Prop
 | [],_,s,_,_,Q=>Q s
 | oo :: rest,k,s,hist,pn,Q=>if es.contains k then (match oo.guard with
   | none=>pC P oo.op s (fun r o'=>OA pn k o'∧dF P all es fs rest (k+1) (s.put oo.dst r o') (hist++[s.o]) pn Q)
   | some _=>False) else match fq fs k with
   | some lo=>oo.guard=none∧bR P oo.op s (fun r=>(∀o',o'∈hist.drop lo->bR P oo.op ⟨s.t,o',s.y⟩ (fun r'=>r'=r))∧dF P all es fs rest (k+1) (s.put oo.dst r s.o) hist pn Q)
   | none=>match sY fs k with
    | some c=>oo.guard=none∧bR P oo.op s (fun r=>dF P all es fs rest (k+1) (s.put oo.dst r s.o) hist (some fun k' o'=>OA pn k' o'∧(if k'<c then bR P oo.op ⟨s.t,o',s.y⟩ (fun r'=>r'=r) else True)) Q)
    | none=>dH P all oo s (fun s'=>dF P all es fs rest (k+1) s' hist pn Q)
def Pc (P:Program) (all:List Oper) (es:List Nat) (fs:List (Nat×Nat)):List Oper->Nat->AS->List (List (Option aa))->List AV->List (List (Option aa))->AS->Prop
 | [],_,s,_,rs,os,sf=>rs=[]∧os=[]∧sf=s
 | oo :: rest,k,s,hist,rs,os,sf=> ∃r rs',rs=r :: rs' ∧
   ((es.contains k=true∧oo.guard=none∧ ∃o' os',os=o' :: os'∧pC P oo.op s (fun r' o''=>r'=r∧o''=o')∧Pc P all es fs rest (k+1) (s.put oo.dst r o') (hist++[s.o]) rs' os' sf) ∨
   (es.contains k=false∧(((oo.guard=none∨ ∃j want b,oo.guard=some (j,want)∧iP all s j=some (some b)∧(b==want)=true)∧bR P oo.op s (fun r'=>r'=r)∧(∀lo,fq fs k=some lo-> ∀o',o'∈hist.drop lo->bR P oo.op ⟨s.t,o',s.y⟩ (fun r'=>r'=r))∧(fq fs k=none-> ∀c,sY fs k=some c-> ∀(i e:Nat) o',(jx es (k+1))[i]? = some e->e<c->os[i]? = some o'->bR P oo.op ⟨s.t,o',s.y⟩ (fun r'=>r'=r))) ∨
    (fq fs k=none∧sY fs k=none∧r = .v Go.undef∧ ∃j want g,oo.guard=some (j,want)∧iP all s j=some g∧(g=none∨ ∃b,g=some b∧(b==want)=false)))∧Pc P all es fs rest (k+1) (s.put oo.dst r s.o) hist rs' os sf))
theorem fE {all:List Oper} {es:List Nat} {fs:List (Nat×Nat)} (hrise:lC es=true): ∀(rest:List Oper) (k:Nat) (s:AS) (hist:List (List (Option aa))) {pn:Option (Nat->List (Option aa)->Prop)} {Q:AS->Prop},dF P all es fs rest k s hist pn Q-> ∃rs os sf,Pc P all es fs rest k s hist rs os sf∧(∀(i e:Nat) o',(jx es k)[i]? = some e->os[i]? = some o'->OA pn e o')∧Q sf
 | [],k,s,hist,pn,Q,h=>⟨[],[],s,⟨rfl,rfl,rfl⟩,(fun _ _ _ _ h=>by simp at h),h⟩
 | oo :: rest,k,s,hist,pn,Q,h=>by
  simp only [dF] at h
  cases he:es.contains k
  ·rw [he] at h;simp only [Vu,if_false] at h
   cases hf:fq fs k with
   | some lo=>
    rw [hf] at h;obtain ⟨hg,h⟩:=h;obtain ⟨r,⟨hh,hk⟩,hr⟩:=fR h;obtain ⟨rs,os,sf,h1,h2⟩:=fE hrise rest (k+1) _ hist hk;exact ⟨r :: rs,os,sf,⟨r,rs,rfl, .inr ⟨he, .inl ⟨.inl hg,hr,(fun lo' hl=>by rw [hf] at hl;cases hl;exact hh),fun hn=>by rw [hf] at hn;cases hn⟩,h1⟩⟩,by rw [mJ he];exact h2⟩
   | none=>
   rw [hf] at h
   have hno: ∀r lo,fq fs k=some lo-> ∀o',o'∈hist.drop lo->bR P oo.op ⟨s.t,o',s.y⟩ (fun r'=>r'=r):=fun r lo hl=>by rw [hf] at hl;cases hl
   simp only at h;cases hlt:sY fs k
   case some cc=>
    rw [hlt] at h;simp only at h;obtain ⟨hg,h⟩:=h;obtain ⟨r,hk,hr⟩:=fR h;obtain ⟨rs,os,sf,h1,h0,h2⟩:=fE hrise rest (k+1) _ hist hk;exact ⟨r :: rs,os,sf,⟨r,rs,rfl, .inr ⟨he, .inl ⟨.inl hg,hr,hno r,fun _ c hc i e o' he' hlt' ho'=>by rw [hlt] at hc;cases hc;have:=(h0 i e o' he' ho').2;rw [if_pos hlt'] at this;exact this⟩,h1⟩⟩,fun i e o' he' ho'=>(h0 i e o' (by rw [mJ he] at he';exact he') ho').1,h2⟩
   have hla: ∀(r:AV) (os:List (List (Option aa))),fq fs k=none-> ∀c,sY fs k=some c-> ∀(i e:Nat) o',(jx es (k+1))[i]? = some e->e<c->os[i]? = some o'->bR P oo.op ⟨s.t,o',s.y⟩ (fun r'=>r'=r):=fun r os _ c h=>by rw [hlt] at h;cases h
   rw [hlt] at h;simp only at h;simp only [dH] at h
   split at h
   ·rename_i hg;obtain ⟨r,hk,hr⟩:=fR h;obtain ⟨rs,os,sf,h1,h2⟩:=fE hrise rest (k+1) _ hist hk;exact ⟨r :: rs,os,sf,⟨r,rs,rfl, .inr ⟨he, .inl ⟨.inl hg,hr,hno r,hla r _⟩,h1⟩⟩,by rw [mJ he];exact h2⟩
   ·rename_i j want hg;unfold uk at h
    split at h
    ·rename_i b e
     cases hb:b==want
     ·rw [hb,pE] at h;obtain ⟨rs,os,sf,h1,h2⟩:=fE hrise rest (k+1) _ hist h;exact ⟨_ :: rs,os,sf,⟨_,rs,rfl, .inr ⟨he, .inr ⟨hf,hlt,rfl,j,want,_,hg,e, .inr ⟨b,rfl,hb⟩⟩,h1⟩⟩,by rw [mJ he];exact h2⟩
     ·rw [hb,rG] at h;obtain ⟨r,hk,hr⟩:=fR h;obtain ⟨rs,os,sf,h1,h2⟩:=fE hrise rest (k+1) _ hist hk;exact ⟨r :: rs,os,sf,⟨r,rs,rfl, .inr ⟨he, .inl ⟨.inr ⟨j,want,b,hg,e,hb⟩,hr,hno r,hla r _⟩,h1⟩⟩,by rw [mJ he];exact h2⟩
    ·rename_i e;obtain ⟨rs,os,sf,h1,h2⟩:=fE hrise rest (k+1) _ hist h;exact ⟨_ :: rs,os,sf,⟨_,rs,rfl, .inr ⟨he, .inr ⟨hf,hlt,rfl,j,want,_,hg,e, .inl rfl⟩,h1⟩⟩,by rw [mJ he];exact h2⟩
    ·exact h.elim
  ·rw [he] at h;simp only [if_true] at h
   split at h
   ·rename_i hg;obtain ⟨r,o',⟨hpo,hk⟩,hr⟩:=Co h;obtain ⟨rs,os,sf,h1,h0,h2⟩:=fE hrise rest (k+1) _ _ hk
    exact ⟨r :: rs,o' :: os,sf,⟨r,rs,rfl, .inl ⟨he,hg,o',os,rfl,hr,h1⟩⟩,fun i e o'' hi ho=>by
     rw [yU hrise he] at hi
     cases i with
     | zero=>simp only [Ve,Option.some.injEq] at hi ho;subst hi;subst ho;exact hpo
     | succ i=>rw [VB] at hi ho;exact h0 i e o'' hi ho,h2⟩
   ·exact h.elim
def KV (ops:Array Oper) (es:List Nat) (fs:List (Nat×Nat)) (j:Nat):Bool:=match sY fs j with
 | some c=> !es.contains j&&(fq fs j).isNone&&es.all (fun e=>decide (j<=e)||nQ ops ops.size j e)&&es.all (fun e=>decide (e<c)||nQ ops ops.size e j)
 | none=>false
def pY (ops:Array Oper) (es:List Nat) (fs:List (Nat×Nat)):Bool:=nt ops&&lC es&&es.all (fun e=>decide (e<ops.size))&&(List.range ops.size).all (fun j=>(match ops[j]? with|some oo=>BD oo.op|none=>true) && !es.contains j||Eo ops es j||yS ops es fs j||KV ops es fs j)
theorem KW {ops:Array Oper} {es:List Nat} {fs:List (Nat×Nat)} {j:Nat} (h:KV ops es fs j=true): ∃c,sY fs j=some c∧fq fs j=none∧es.contains j=false∧(∀e,e∈es->j<=e∨nQ ops ops.size j e=true)∧(∀e,e∈es->c<=e->nQ ops ops.size e j=true):=by
 unfold KV at h
 split at h
 ·rename_i c hc;simp only [UW,Vz,Vj,Vl,decide_eq_true_eq] at h;refine ⟨c,hc,by have:=h.1.1.2;simpa using this,h.1.1.1,h.1.2,fun e he hle=> ?_⟩
  rcases h.2 e he with q|q
  ·omega
  ·exact q
 ·cases h
theorem GG.Gn (g:GG D nu0 o0 w0 l es O) {k m:Nat} (hf: ∀e,e∈es->k<=e∨nQ l.toArray l.toArray.size k e=true) (hd: ∀i,aE l.toArray k i=true->g.done i=true) (hm: ∀m' e,es[m']? = some e->(e<k↔m'<m)) (hml:m<=es.length):m<=g.c:=by
 rcases Nat.eq_zero_or_pos m with q|q
 ·omega
 ·have hlt:m - 1<es.length:=by omega
  have he:es[m - 1]? = some es[m - 1]:=Uq hlt;have hlk:=(hm _ _ he).2 (by omega)
  rcases hf _ (Vx hlt) with h|h
  ·omega
  ·have:=(g.ef _ _ he).1 (mM g h hd)
   omega
theorem xV {l:List Oper} {es:List Nat} {fs:List (Nat×Nat)} (hsz: ∀e,e∈es->e<l.length) (hrise:lC es=true): ∀(rest:List Oper) (k m:Nat) (s:AS) (hist:List (List (Option aa))) (rs:List AV) (os:List (List (Option aa))) (sf:AS),l.drop k=rest->k<=l.length->Pc P l es fs rest k s hist rs os sf->m<=es.length ->
  (∀m' e,es[m']? = some e->(e<k↔m'<m))->os.length+m=es.length
 | [],k,m,s,hist,rs,os,sf,hl,hk,ht,hm,hme=>by
  obtain ⟨rfl,rfl,rfl⟩:=ht
  have hkl:k=l.length:=by have:=congrArg List.length hl;simp at this;omega
  rcases Ue m es.length with q|q
  ·have he:es[m]? = some es[m]:=Uq q
   have:=(hme m _ he).1 (by rw [hkl];exact hsz _ (Vx q))
   omega
  ·simp;omega
 | oo :: rest,k,m,s,hist,rs,os,sf,hl,hk,ht,hm,hme=>by
  have hlt:k<l.length:=by have:=congrArg List.length hl;simp at this;omega
  have hl':l.drop (k+1)=rest:=by have:=congrArg List.tail hl;simpa using this
  obtain ⟨r,rs',rfl,ht⟩:=ht
  rcases ht with ⟨he,hg,o',os',rfl,hd,htr⟩|⟨he,hstep,htr⟩
  ·have hkm:k∈es:=by simpa using he
   obtain ⟨mk,hmk⟩:=Uz hkm
   have hmke:mk=m:=by
    have h1: ¬mk<m:=fun hh=>by have:=(hme mk k hmk).2 hh;omega
    rcases Ue m mk with q|q
    ·have hlt2:m<es.length:=by have:=(Uc.1 hmk).1;omega
     have hem:es[m]? = some es[m]:=Uq hlt2;have hlt3:=iq hrise m mk _ _ q hem hmk
     have:=(hme m _ hem).1 hlt3
     omega
    ·omega
   subst hmke;have hmlt:=(Uc.1 hmk).1
   have:=xV hsz hrise rest (k+1) (mk+1) _ _ _ _ _ hl' hlt htr (by omega) (fun m' e h=>by
    by_cases hek:e=k
    ·subst hek
     have:m'=mk:=(List.getElem?_inj (Uc.1 h).1 (di hrise)).1 (h.trans hmk.symm)
     omega
    ·have:=hme m' e h
     have hne:m'≠mk:=fun hh=>by subst hh;rw [hmk] at h;cases h;exact hek rfl
     omega)
   simp only [List.length_cons];omega
  ·exact xV hsz hrise rest (k+1) m _ _ _ _ _ hl' hlt htr hm (fun m' e h=>by
    have hne:e≠k:=fun hh=>by
     subst hh
     have:=UK h
     simp [this] at he
    rw [<-hme m' e h];omega)
theorem lW {f:Fr} {fs:List (Nat×Nat)} (hB:pY l.toArray es fs=true) {s sf:AS} {a:Act} {w0:World} {rs:List AV} {os:List (List (Option aa))} {R:Exit->Act->World->Prop} {g0:GG D nu s.o w0 l es (fun c=>(s.o :: os).getD c [])} (hs:RS f D nu s a w0)
  (hR: ∀a' w' nu',bI nu s.o w0 nu' sf.o w'->sf.y=s.y->RS f D nu' sf a' w'->R .normal a' w') :
  ∀(rest:List Oper) (k m:Nat) (sk:AS) (hist:List (List (Option aa))) (rs1 rs2:List AV) (os2:List (List (Option aa))) (A:(Nat->Value)->Act),l.drop k=rest->Pc P l es fs rest k sk hist rs2 os2 sf->(s.o :: os).take m=hist->rs=rs1++rs2->F2 l s a k sk rs1 A->(s.o :: os).drop m=sk.o :: os2 ->
   m<=es.length->(∀m' e,es[m']? = some e->(e<k↔m'<m))->k<=l.length ->
   Il (N:=bA D nu s.o w0 l es (fun c=>(s.o :: os).getD c [])) P l.toArray (rs.mapIdx (fun k r=>fJ D nu s.o w0 l es (fun c=>(s.o :: os).getD c []) k r)) g0 (R .normal) rest k A
 | [],k,m,sk,hist,rs1,rs2,os2,A,hl,ht,hhi,hrs,hI,hO,hml,hme,hk=>by
  obtain ⟨rfl,rfl,rfl⟩:=ht;intro x g hE hD
  have hkl:k=l.length:=by have:=congrArg List.length hl;simp at this;omega
  have hspec: ∀i r,rs1[i]? = some r->(fJ D nu s.o w0 l es (fun c=>(s.o :: os).getD c []) i r).p (x i) g:=fun i r hr=>by
   have hik:i<k:=by rw [<-hI.len];exact (Uc.1 hr).1
   have:=hD i hik
   rw [hrs,List.append_nil,Cr hr] at this;exact this
  have hdone: ∀i,i<k->g.done i=true:=fun i hi=>by
   have hlt:i<rs1.length:=by rw [hI.len];exact hi
   exact (hspec i _ (Uq hlt)).2
  have hsz: ∀e,e∈es->e<l.length:=by
   simp only [pY,UW,Vj,decide_eq_true_eq,UA] at hB;exact hB.1.2
  have hm:m=es.length:=by
   rcases Ue m es.length with q|q
   ·have he:es[m]? = some es[m]:=Uq q
    have:=(hme m _ he).1 (by rw [hkl];exact hsz _ (Vx q))
    omega
   ·omega
  have hc:g.c=m:=by
   have h1:=g.le
   rcases Nat.eq_zero_or_pos m with q|q
   ·omega
   ·have hlt:m - 1<es.length:=by omega
    have he:es[m - 1]? = some es[m - 1]:=Uq hlt
    have:=(g.ef _ _ he).1 (hdone _ (by rw [hkl];exact hsz _ (Vx hlt)))
    omega
  have hOm:(s.o :: os).getD m []=sf.o:=by
   have:=congrArg (fun l=>l[0]?) hO
   simp only [Uo,Nat.add_zero,Ve] at this;rw [U3,this];rfl
  have hro:=g.ro;have hmo:=g.mono;simp only [hc,hOm] at hro hmo;refine hR (A x) g.w g.nu hmo hI.y ⟨hro,⟨hI.size x,fun t c v h1 h2=> ?_⟩,by rw [hI.jm x];exact hs.jm.mono hs.ro hmo⟩
  rcases hI.val x t c v h1 h2 with ⟨h3,h4⟩|⟨i,q1,q2,q3,q4⟩
  ·exact (hs.tm.at' t c v h3 h4).mono hmo (fun _ _ h=>h)
  ·have:=(hspec i c q3).1
   simp only [hc,hOm] at this;rw [q4];exact this
 | oo :: rest,k,m,sk,hist,rs1,rs2,os2,A,hl,ht,hhi,hrs,hI,hO,hml,hme,hk=>by
  have hB':=hB;simp only [pY,UW,Vj,decide_eq_true_eq,UA,List.mem_range,Vl] at hB';obtain ⟨⟨⟨hrel,hrise⟩,hszs⟩,hfix⟩:=hB'
  have hlt:k<l.length:=by have:=congrArg List.length hl;simp at this;omega
  have hok:l[k]? = some oo:=by have:=congrArg (fun m=>m[0]?) hl;simpa using this
  have hl':l.drop (k+1)=rest:=by have:=congrArg List.tail hl;simpa using this
  have hOm:(s.o :: os).getD m []=sk.o:=by
   have:=congrArg (fun l=>l[0]?) hO
   simp only [Uo,Nat.add_zero,Ve] at this;rw [U3,this];rfl
  obtain ⟨r,rs',rfl,ht⟩:=ht
  have hrs':rs=(rs1++[r])++rs':=by rw [hrs];simp
  have hspecK:uj (rs.mapIdx (fun k r=>fJ D nu s.o w0 l es (fun c=>(s.o :: os).getD c []) k r)) k=fJ D nu s.o w0 l es (fun c=>(s.o :: os).getD c []) k r:=by
   rw [hrs];exact rU (by rw [List.getElem?_append_right (by rw [hI.len];exact Nat.le_refl _),hI.len,Nat.sub_self];rfl)
  have hspec: ∀(x:Nat->Value) (g:GG D nu s.o w0 l es (fun c=>(s.o :: os).getD c [])) i rr,(uj (rs.mapIdx (fun k r=>fJ D nu s.o w0 l es (fun c=>(s.o :: os).getD c []) k r)) i).p (x i) g->rs1[i]? = some rr->RA D g.nu ((s.o :: os).getD g.c []) g.w rr (x i)∧g.done i=true:=fun x g i rr h hr=>by
   rw [hrs,rU (by rw [List.getElem?_append_left (Uc.1 hr).1];exact hr)] at h;exact h
  have hdep: ∀i,aE l.toArray k i=true->i<k:=fun i hi=>by
   simp only [nt,UW,Vj,List.mem_range,UA] at hrel
   rcases Nat.lt_trichotomy i k with h|h|h
   ·exact h
   ·subst h
    have:=(hrel.2 i hlt).2.1
    rw [hi] at this;cases this
   ·exfalso;simp only [aE,Us,hok,Array.any_eq_true',UW,beq_iff_eq] at hi;obtain ⟨e,he,hb,rfl⟩:=hi;have hfar:=(hrel.2 k hlt).2.2;simp only [yQ,Us,hok,Array.all_eq_true_iff_forall_mem] at hfar
    have hel:e.on<l.length:=by simpa using hfar e he
    have:=(hrel.2 e.on hel).1 k h
    simp only [zH,Us,hok,Uq hel,UW,Vz] at this;have h2:=this.1.1.2;simp only [aE,Us,hok] at h2
    have:oo.after.any (fun e_1=>Region.binds .any e_1&&e_1.on==e.on)=true:=by
     simp only [Array.any_eq_true',UW,beq_iff_eq];exact ⟨e,he,hb,rfl⟩
    rw [this] at h2;cases h2
  have hdoneD: ∀(x:Nat->Value) (g:GG D nu s.o w0 l es (fun c=>(s.o :: os).getD c [])),(∀i,aE l.toArray k i=true->(uj (rs.mapIdx (fun k r=>fJ D nu s.o w0 l es (fun c=>(s.o :: os).getD c []) k r)) i).p (x i) g)-> ∀i,aE l.toArray k i=true->g.done i=true:=fun x g hD i hi=>by
   have hlt:i<rs1.length:=by rw [hI.len];exact hdep i hi
   exact (hspec x g i _ (hD i hi) (Uq hlt)).2
  
  have hlook: ∀(x:Nat->Value) (g:GG D nu s.o w0 l es (fun c=>(s.o :: os).getD c [])),(∀i,aE l.toArray k i=true->(uj (rs.mapIdx (fun k r=>fJ D nu s.o w0 l es (fun c=>(s.o :: os).getD c []) k r)) i).p (x i) g)-> ∀(t:Nat) c v,t∈oo.looksAt l.toArray->sk.t[t]? = some c->(A x).tmps[t]? = some v->RA D g.nu ((s.o :: os).getD g.c []) g.w c v:=by
   intro x g hD t c v ht h1 h2
   rcases hI.val x t c v h1 h2 with ⟨h3,h4⟩|⟨i,q1,⟨oi,q2,q5⟩,q3,q4⟩
   ·exact (hs.tm.at' t c v h3 h4).mono g.mono (fun _ _ h=>h)
   ·rcases sH hrel q1 q2 hok with h5|h5
    ·have:=(hspec x g i c (hD i h5) q3).1
     rw [q4];exact this
    ·exact absurd ht (h5 t q5)
  have hevs: ∀(x:Nat->Value) (g:GG D nu s.o w0 l es (fun c=>(s.o :: os).getD c [])),(∀i,aE l.toArray k i=true->(uj (rs.mapIdx (fun k r=>fJ D nu s.o w0 l es (fun c=>(s.o :: os).getD c []) k r)) i).p (x i) g)->F0 D g.nu ((s.o :: os).getD g.c []) g.w sk.ev (A x).eval oo.op:=by
   intro x g hD y hy
   cases y with
   | tmp t=>
    simp only [AS.ev,Act.eval]
    rcases Ue t sk.t.length with hlt|hge
    ·have e1:sk.t[t]? = some sk.t[t]:=Uq hlt
     have hlt':t<(A x).tmps.size:=by rw [<-hI.size x];exact hlt
     have hx:(A x).tmps[t]? = some (A x).tmps[t]:=Array.getElem?_eq_getElem hlt';rw [getD_some e1]
     have:(A x).tmps.getD t Go.undef=(A x).tmps[t]:=by simp [Array.getD,hlt']
     rw [this];exact hlook x g hD t _ _ (List.mem_append_left _ (List.mem_filterMap.2 ⟨.tmp t,hy,rfl⟩)) e1 hx
    ·have e0:sk.t.getD t .undef = .undef:=by rw [U3,List.getElem?_eq_none hge];rfl
     rw [e0];exact .undef _
   | const v=>exact .v v
   | global gi=>exact (mK hs.ro sk gi).mono g.mono (fun _ _ h=>h)
   | func f=>exact .fn f [] [] #[] #[] rfl rfl (fun i c x h=>by simp at h) (fun i c x h=>by simp at h)
  have hcont: ∀(x:Nat->Value),es.contains k=false-> ∀m' e,es[m']? = some e->(e<k+1↔m'<m):=fun _ he m' e h=>by
   have hne:e≠k:=fun hh=>by
    subst hh
    have:=UK h
    simp [this] at he
   rw [<-hme m' e h];omega
  rcases ht with ⟨he,hg,o',os',rfl,hd,htr⟩|⟨he,hstep,htr⟩
  ·
   have hkm:k∈es:=by simpa using he
   obtain ⟨mk,hmk⟩:=Uz hkm
   have hmke:mk=m:=by
    have h1: ¬mk<m:=fun hh=>by have:=(hme mk k hmk).2 hh;omega
    rcases Ue m mk with q|q
    ·have hlt2:m<es.length:=by have:=(Uc.1 hmk).1;omega
     have hem:es[m]? = some es[m]:=Uq hlt2;have hlt3:=iq hrise m mk _ _ q hem hmk
     have:=(hme m _ hem).1 hlt3
     omega
    ·omega
   subst hmke
   have hOm1:(s.o :: os).getD (mk+1) []=o':=by
    have h1:=congrArg (fun (l:List (List (Option aa)))=>l[1]?) hO;simp only [Uo] at h1;rw [U3,h1];rfl
   refine ⟨fun x g hE hD hp=> ?_, ?_⟩
   ·have hdd:=hdoneD x g hD
    have hfx:Eo l.toArray es k=true:=by
     rcases hfix k hlt with ((h|h)|h)|h
     ·have:=h.2;simp [hkm] at this
     ·exact h
     ·exfalso;simp only [yS] at h
      split at h
      ·simp only [UW,Vj,Vl,decide_eq_true_eq] at h
       rcases h.2 k hkm with q|q
       ·omega
       ·simp at q
      ·cases h
     ·exfalso;simp only [KV] at h
      split at h
      ·simp only [UW] at h
       have:=h.1.1.1;simp [hkm] at this
      ·cases h
    have hc:g.c=mk:=g.oG hfx hdd hp hme hml;have hev:=hevs x g hD;have hro:=g.ro;simp only [hc,hOm] at hev hro;refine .inl ⟨by simp [Region.wanted,hg], ?_⟩;rw [hspecK]
    have hgo: ∀(v:Value) (w':World) (nu':Nat->Nat->Value),bI g.nu sk.o g.w nu' o' w'->RO D nu' o' w'->RA D nu' o' w' r v ->
      ∃g':GG D nu s.o w0 l es (fun c=>(s.o :: os).getD c []),(bA D nu s.o w0 l es (fun c=>(s.o :: os).getD c [])).wd g'=w'∧(bA D nu s.o w0 l es (fun c=>(s.o :: os).getD c [])).R g g'∧(∀i,i≠k->(bA D nu s.o w0 l es (fun c=>(s.o :: os).getD c [])).pre i g->(bA D nu s.o w0 l es (fun c=>(s.o :: os).getD c [])).pre i g')∧(fJ D nu s.o w0 l es (fun c=>(s.o :: os).getD c []) k r).p v g':=by
     intro v w' nu' m1 m2 m3
     have hm':bI g.nu ((s.o :: os).getD g.c []) g.w nu' ((s.o :: os).getD (g.c+1) []) w':=by rw [hc,hOm,hOm1];exact m1
     have hr':RO D nu' ((s.o :: os).getD (g.c+1) []) w':=by rw [hc,hOm1];exact m2
     have hek:es[g.c]? = some k:=by rw [hc];exact hmk
     have hR2:=g.Mi k w' nu' hm' hr' hdd hek (di hrise)
     refine ⟨g.QL k w' nu' hm' hr' hdd hek (di hrise),rfl,hR2.1,hR2.2, ?_, ?_⟩
     ·show RA D nu' ((s.o :: os).getD (g.c+1) []) w' r v;rw [hc,hOm1];exact m3
     ·show (if k=k then true else g.done k)=true;simp
    rcases uO (P:=P) (rho:=(A x).eval) hro hev hd with ⟨v,w',nu',h1,m1,m2,m3⟩|⟨gf,vargs,h1,h2⟩
    ·rcases h1 with h1|⟨h1,rfl⟩
     ·have e1:(execOp (A x).eval oo).run P ((bA D nu s.o w0 l es (fun c=>(s.o :: os).getD c [])).wd g) = .ok (.value v) w':=h1;rw [e1];exact hgo v w' nu' m1 m2 m3
     ·have e1:(execOp (A x).eval oo).run P ((bA D nu s.o w0 l es (fun c=>(s.o :: os).getD c [])).wd g) = .ok .skip w':=h1;rw [e1];exact hgo _ w' nu' m1 m2 m3
    ·have e1:(execOp (A x).eval oo).run P ((bA D nu s.o w0 l es (fun c=>(s.o :: os).getD c [])).wd g) = .ok (.enter gf vargs) g.w:=h1;rw [e1];refine h2.mono ?_;rintro e w' ⟨v,nu',rfl,m1,m2,m3⟩;obtain ⟨g',k1,k2,k3,k4⟩:=hgo v w' nu' m1 m2 m3;exact ⟨v,g',rfl,k1,k2,k3,k4⟩
   ·refine lW hB hs hR rest (k+1) (mk+1) (sk.put oo.dst r o') (hist++[sk.o]) (rs1++[r]) rs' os' _ hl' htr (by rw [List.take_succ_eq_append_getElem (by have:=congrArg List.length hO;simp at this ⊢; omega),hhi];congr 1;have:=hOm;rw [U3,Uq (by have:=congrArg List.length hO;simp at this ⊢; omega)] at this;simpa using this) hrs' (hI.step hok r o') ?_ ((Uc.1 hmk).1) (fun m' e h=> ?_) hlt
    ·have:=congrArg List.tail hO
     rw [List.tail_drop] at this;exact this
    ·by_cases hek:e=k
     ·subst hek
      have:m'=mk:=(List.getElem?_inj (Uc.1 h).1 (di hrise)).1 (h.trans hmk.symm)
      omega
     ·have:=hme m' e h
      have hne:m'≠mk:=fun hh=>by subst hh;rw [hmk] at h;cases h;exact hek rfl
      omega
  ·refine ⟨fun x g hE hD hp=> ?_, ?_⟩
   ·have hdd:=hdoneD x g hD;rw [hspecK]
    have hnext: ∀(v:Value) (w':World),RA D g.nu ((s.o :: os).getD g.c []) w' r v->Below g.w.heap.size g.w w' ->
      ∃g':GG D nu s.o w0 l es (fun c=>(s.o :: os).getD c []),(bA D nu s.o w0 l es (fun c=>(s.o :: os).getD c [])).wd g'=w'∧(bA D nu s.o w0 l es (fun c=>(s.o :: os).getD c [])).R g g'∧(∀i,i≠k->(bA D nu s.o w0 l es (fun c=>(s.o :: os).getD c [])).pre i g->(bA D nu s.o w0 l es (fun c=>(s.o :: os).getD c [])).pre i g')∧(fJ D nu s.o w0 l es (fun c=>(s.o :: os).getD c []) k r).p v g':=by
     intro v w' hr hb;have hR2:=g.Ii k w' hb hdd he;refine ⟨g.next k w' hb hdd he,rfl,hR2.1,hR2.2,hr, ?_⟩;show (if k=k then true else g.done k)=true;simp
    have hyv: ∀j want,oo.guard=some (j,want)-> ∀gg,iP l sk j=some gg->yielded l.toArray (A x).tmps j=gg:=fun j want hg gg hgv=>
     gC (s:=⟨sk.t,(s.o :: os).getD g.c [],sk.y⟩) (D:=D) (nu:=g.nu) (w:=g.w) (fun d c v hd h1 h2=>by
      refine hlook x g hD d c v ?_ h1 h2;obtain ⟨og,q1,q2⟩:=hd;refine List.mem_append_right _ ?_;simp only [hg,Us,q1,Option.bind_some,q2]
      simp) (hI.size x) (show iP l ⟨sk.t,_,sk.y⟩ j=some gg from hgv)
    rcases hstep with ⟨hw,hd,hfl,hlat⟩|⟨_,_,rfl,j,want,gg,hg,hgv,hno⟩
    ·have hwant:Region.wanted oo (yielded l.toArray (A x).tmps)=true:=by
      rcases hw with hg|⟨j,want,b,hg,hgv,hb⟩
      ·simp [Region.wanted,hg]
      ·simp only [Region.wanted,hg,hyv j want hg _ hgv];simpa using hb
     refine .inl ⟨hwant, ?_⟩
     have hd':bR P oo.op ⟨sk.t,(s.o :: os).getD g.c [],sk.y⟩ (fun r'=>r'=r):=by
      rcases hfix k hlt with ((h|h)|h)|h
      ·rw [show l.toArray[k]? = some oo by simpa using hok] at h;exact uP (by simpa using h.1) (show bR P oo.op ⟨sk.t,sk.o,sk.y⟩ (fun r'=>r'=r) from hd)
      ·have hc:g.c=m:=g.oG h hdd hp hme hml;rw [hc,hOm];exact hd
      ·have hlo: ∃lo,fq fs k=some lo:=by
        simp only [yS] at h
        split at h
        ·exact ⟨_, ‹_›⟩
        ·cases h
       obtain ⟨lo,hlo⟩:=hlo;obtain ⟨c1,c2⟩:=g.yt h hlo hdd hp hme
       rcases Nat.eq_or_lt_of_le c2 with hc|hc
       ·rw [hc,hOm];exact hd
       ·have hgl:g.c<(s.o :: os).length:=by have:=congrArg List.length hO;simp at this ⊢; omega
        refine hfl lo hlo _ ?_;rw [<-hhi,U3,Uq hgl];refine List.mem_drop_iff_getElem.2 ⟨g.c - lo,by simp at hgl ⊢; omega, ?_⟩;rw [List.getElem_take];simp only [Option.getD_some]
        congr 1
        omega
      ·obtain ⟨cc,hcc,q1,q2,q3,q4⟩:=KW h;have hc:=g.Gn q3 hdd hme hml
       rcases Nat.eq_or_lt_of_le hc with hc|hc
       ·rw [<-hc,hOm];exact hd
       ·have hle:=g.le;have hln:=xV hszs hrise rest (k+1) m _ _ _ _ _ hl' (by omega) htr hml (hcont (fun _=>Go.undef) he);have e1:=congrArg (fun (l:List (List (Option aa)))=>l[g.c - m]?) hO;obtain ⟨d,hd1⟩: ∃d,g.c - m=d+1:=⟨g.c - m - 1,by omega⟩;simp only [Uo,show m+(g.c - m)=g.c by omega] at e1;rw [hd1,VB,Uq (l:=os2) (by omega)] at e1;rw [U3,e1]
        have hlt3:m+d<es.length:=by omega
        have hed:es[m+d]? = some es[m+d]:=Uq hlt3
        refine hlat q1 cc hcc d es[m+d] _ ?_ ?_ (Uq (l:=os2) (by omega))
        ·rw [Ep (hcont (fun _=>Go.undef) he),Uo];exact hed
        ·rcases Ue es[m+d] cc with q|q
         ·exact q
         ·exfalso;have h5:=kf g _ _ _ (q4 _ (Vx hlt3) q) ((g.ef _ _ hed).2 (by omega));have h6:g.done k=false:=hp;rw [h6] at h5;cases h5
     obtain ⟨r',rfl,hout⟩:=fC (P:=P) (s:=⟨sk.t,(s.o :: os).getD g.c [],sk.y⟩) (rho:=(A x).eval) g.ro (hevs x g hD) hd';have e0:(execOp (A x).eval oo).run P ((bA D nu s.o w0 l es (fun c=>(s.o :: os).getD c [])).wd g)=(execOp (A x).eval oo).run P g.w:=rfl;rw [e0];generalize (execOp (A x).eval oo).run P g.w=res at hout
     cases res with
     | halt _ _=>exact hout.elim
     | ok n w'=>
      cases n<;>first|exact hout.elim|skip
      case value u=>exact hnext u w' hout.1.2 hout.2
      case skip=>exact hnext _ w' hout.1.2 hout.2
      case enter gf vargs=>
       refine Calls.mono hout ?_;rintro e w'' ⟨v,rfl,hv,hb⟩;obtain ⟨g',k1,k2,k3,k4⟩:=hnext v w'' hv.2 hb;exact ⟨v,g',rfl,k1,k2,k3,k4⟩
    ·refine .inr ⟨?_, ?_⟩
     ·simp only [Region.wanted,hg,hyv j want hg _ hgv]
      rcases hno with rfl|⟨b,rfl,hb⟩
      ·rfl
      ·simpa using hb
     ·obtain ⟨g',k1,k2,k3,k4⟩:=hnext Go.undef g.w (.v _) (.refl _ _);exact ⟨g',k1,k2,k3,k4⟩
   ·have hO':(s.o :: os).drop m=(sk.put oo.dst r s.o).o :: os2->True:=fun _=>trivial;refine lW hB hs hR rest (k+1) m (sk.put oo.dst r sk.o) hist (rs1++[r]) rs' os2 _ hl' ?_ hhi hrs' (hI.step hok r sk.o) hO hml (hcont (fun _=>Go.undef) he) hlt;exact htr
theorem D4 {n0 id:Nat} {s:AS} {l:List Oper} {Q:a7->AS->Prop} (es:List Nat) (fs:List (Nat×Nat)) (hB:pY l.toArray es fs=true) (hC:dw l.toArray=true) (h:dF P l es fs l 0 s [] none (Q .normal)):cr P n0 (.region id l.toArray true) s Q:=by
 refine .inr (fun f m D nu a w hZr hn hm hs hmx R hO hR=> ?_);obtain ⟨rs,os,sf,htr,_,hq⟩:=fE (by simp only [pY,UW] at hB;exact hB.1.1.2) l 0 s [] h;have hs':=hs.drew
 have hrel:nt l.toArray=true:=by
  simp only [pY,UW] at hB;exact hB.1.1.1
 let g0:GG D nu s.o w.drew l es (fun c=>(s.o :: os).getD c []):=⟨w.drew,nu,fun _=>false,0,hs'.ro, .refl _ _ _,(fun _ _ h=>by cases h),(fun _ _ _=>by simp),Nat.zero_le _⟩
 have hobl:=lW (P:=P) (R:=R) (rs:=rs) (g0:=g0) hB hs' (fun a' w' nu' h1 hy h2=>hR .normal D f.Z sf a' w' nu' (by rw [hy];exact m.own hm hs.ro ((aw (cW w)).trans h1) h2.ro) h2 hq) l 0 0 s [] [] rs os (fun _=>a) (by simp) htr (by simp) (by simp) ⟨rfl,rfl,fun _=>rfl,fun _=>hs.tm.len,fun x t c v h1 h2=> .inl ⟨h1,h2⟩⟩ (by simp) (Nat.zero_le _) (fun m' e _=>by simp) (Nat.zero_le _);exact mC hmx hC hO (jX (N:=bA D nu s.o w.drew l es (fun c=>(s.o :: os).getD c [])) _ hrel g0 rfl (fun _=>rfl) hobl)
theorem fS {all rest:List Oper} {es:List Nat} {fs:List (Nat×Nat)} {oo:Oper} {k:Nat} {s:AS} {hist:List (List (Option aa))} {pn:Option (Nat->List (Option aa)->Prop)} {Q:AS->Prop} (he:(es.contains k||(fq fs k).isSome||(sY fs k).isSome)=false) (h: ∀K:AS->Prop,(∀s',dF P all es fs rest (k+1) s' hist pn Q->K s')->dH P all oo s K):dF P all es fs (oo :: rest) k s hist pn Q:=by
 simp only [Bool.or_eq_false_iff] at he;simp only [dF,he.1.1,Vu,if_false]
 cases hf:fq fs k with
 | some lo=>rw [hf] at he;simp at he
 | none=>
  have:sY fs k=none:=by have:=he.2;simpa using this
  rw [this];exact h _ (fun _ h=>h)
theorem dT {all rest:List Oper} {es:List Nat} {fs:List (Nat×Nat)} {dst:Option Tmp} {op:Op} {ty:TypeId} {pos:String} {aft:Array Edge} {k:Nat} {s:AS} {hist:List (List (Option aa))} {p:Nat->List (Option aa)->Prop} {Q:AS->Prop} (he:es.contains k=true) (h: ∀K:AS->Prop,(∀s',dF P all es fs rest (k+1) s' (hist++[s.o]) (some p) Q->K s')->pC P op s (fun r o'=>p k o'∧K (s.put dst r o'))):dF P all es fs (⟨dst,op,ty,pos,aft,none⟩ :: rest) k s hist (some p) Q:=by
 simp only [dF,he,if_true,OA];exact h _ (fun _ h=>h)
theorem fT {all rest:List Oper} {es:List Nat} {fs:List (Nat×Nat)} {dst:Option Tmp} {op:Op} {ty:TypeId} {pos:String} {aft:Array Edge} {k c:Nat} {s:AS} {hist:List (List (Option aa))} {pn:Option (Nat->List (Option aa)->Prop)} {Q:AS->Prop} (he:(!es.contains k&&(fq fs k).isNone)=true) (hc:sY fs k=some c) (h:bR P op s (fun r=>dF P all es fs rest (k+1) (s.put dst r s.o) hist (some fun k' o'=>OA pn k' o'∧(if k'<c then bR P op ⟨s.t,o',s.y⟩ (fun r'=>r'=r) else True)) Q)):dF P all es fs (⟨dst,op,ty,pos,aft,none⟩ :: rest) k s hist pn Q:=by
 simp only [UW,Vz] at he;simp only [dF,he.1,Vu,if_false]
 cases hf:fq fs k with
 | some lo=>rw [hf] at he;simp at he
 | none=>rw [hc];exact ⟨trivial,h⟩
theorem AP {all:List Oper} {es:List Nat} {fs:List (Nat×Nat)} {k:Nat} {s:AS} {hist:List (List (Option aa))} {pn:Option (Nat->List (Option aa)->Prop)} {Q:AS->Prop} (h:Q s):dF P all es fs [] k s hist pn Q:=h
instance {all:List Oper} {es:List Nat} {fs:List (Nat×Nat)} {k:Nat} {s:AS} {hist:List (List (Option aa))} {pn:Option (Nat->List (Option aa)->Prop)} {Q:AS->Prop}:aA (dF P all es fs [] k s hist pn Q) (Q s):=⟨AP⟩
end
attribute [go_sem] OA
end
theorem au {p q:Prop} (h:q) (f:q->p:=by intro h;(repeat (first|(with_reducible first|refine aA.up ?_|refine fun (K:AK) hK=> ?_|(refine hK _ ?_;clear hK K))|simp only [go_sem]|with_reducible refine wA ?_|clear hK K));(iterate 8 (try revert K));exact h):p:=f h
theorem yZ {p:Prop} (f:p:=by (repeat (first|(with_reducible first|refine aA.up ?_|refine fun (K:AK) hK=> ?_|(refine hK _ ?_;clear hK K))|simp only [go_sem]|with_reducible refine wA ?_|clear hK K))<;>fail):p:=f
theorem aK {p q e0:Prop} (a0:e0) (h:q) (f:q->e0->p:=by intro h a0;(repeat (first|(with_reducible first|refine aA.up ?_|refine fun (K:AK) hK=> ?_|(refine hK _ ?_;clear hK K))|simp only [go_sem,a0]|with_reducible refine wA ?_|clear hK K));(iterate 8 (try revert K));exact h):p:=f h a0
theorem CR {p e0:Prop} (a0:e0) (f:e0->p:=by intro a0;(repeat (first|(with_reducible first|refine aA.up ?_|refine fun (K:AK) hK=> ?_|(refine hK _ ?_;clear hK K))|simp only [go_sem,a0]|with_reducible refine wA ?_|clear hK K))<;>fail):p:=f a0
theorem qE {p q e0 e1:Prop} (a0:e0) (a1:e1) (h:q) (f:q->e0->e1->p:=by intro h a0 a1;(repeat (first|(with_reducible first|refine aA.up ?_|refine fun (K:AK) hK=> ?_|(refine hK _ ?_;clear hK K))|simp only [go_sem,a0,a1]|with_reducible refine wA ?_|clear hK K));(iterate 8 (try revert K));exact h):p:=f h a0 a1
theorem He {p e0 e1:Prop} (a0:e0) (a1:e1) (f:e0->e1->p:=by intro a0 a1;(repeat (first|(with_reducible first|refine aA.up ?_|refine fun (K:AK) hK=> ?_|(refine hK _ ?_;clear hK K))|simp only [go_sem,a0,a1]|with_reducible refine wA ?_|clear hK K))<;>fail):p:=f a0 a1
theorem Pu {p q e0 e1 e2:Prop} (a0:e0) (a1:e1) (a2:e2) (h:q) (f:q->e0->e1->e2->p:=by intro h a0 a1 a2;(repeat (first|(with_reducible first|refine aA.up ?_|refine fun (K:AK) hK=> ?_|(refine hK _ ?_;clear hK K))|simp only [go_sem,a0,a1,a2]|with_reducible refine wA ?_|clear hK K));(iterate 8 (try revert K));exact h):p:=f h a0 a1 a2
theorem Pz {p e0 e1 e2 e3 e4:Prop} (a0:e0) (a1:e1) (a2:e2) (a3:e3) (a4:e4) (f:e0->e1->e2->e3->e4->p:=by intro a0 a1 a2 a3 a4;(repeat (first|(with_reducible first|refine aA.up ?_|refine fun (K:AK) hK=> ?_|(refine hK _ ?_;clear hK K))|simp only [go_sem,a0,a1,a2,a3,a4]|with_reducible refine wA ?_|clear hK K))<;>fail):p:=f a0 a1 a2 a3 a4
theorem qF {p q e0 e1 e2 e3 e4 e5:Prop} (a0:e0) (a1:e1) (a2:e2) (a3:e3) (a4:e4) (a5:e5) (h:q) (f:q->e0->e1->e2->e3->e4->e5->p:=by intro h a0 a1 a2 a3 a4 a5;(repeat (first|(with_reducible first|refine aA.up ?_|refine fun (K:AK) hK=> ?_|(refine hK _ ?_;clear hK K))|simp only [go_sem,a0,a1,a2,a3,a4,a5]|with_reducible refine wA ?_|clear hK K));(iterate 8 (try revert K));exact h):p:=f h a0 a1 a2 a3 a4 a5
theorem bF {p q:Prop} (h:q) (f:q->p:=by intro h;(repeat (first|(with_reducible first|refine aA.up ?_|refine fun (K:AK) hK=> ?_|(refine hK _ ?_;clear hK K))|simp only [go_sem]|clear hK K));(iterate 8 (try revert K));exact h):p:=f h
theorem y0 {p:Prop} (f:p:=by (repeat (first|(with_reducible first|refine aA.up ?_|refine fun (K:AK) hK=> ?_|(refine hK _ ?_;clear hK K))|simp only [go_sem]|clear hK K))<;>fail):p:=f
theorem G8 {p q e0:Prop} (a0:e0) (h:q) (f:q->e0->p:=by intro h a0;(repeat (first|(with_reducible first|refine aA.up ?_|refine fun (K:AK) hK=> ?_|(refine hK _ ?_;clear hK K))|simp only [go_sem,a0]|clear hK K));(iterate 8 (try revert K));exact h):p:=f h a0
theorem Mn {p e0:Prop} (a0:e0) (f:e0->p:=by intro a0;(repeat (first|(with_reducible first|refine aA.up ?_|refine fun (K:AK) hK=> ?_|(refine hK _ ?_;clear hK K))|simp only [go_sem,a0]|clear hK K))<;>fail):p:=f a0
theorem cn {p q:Prop} (h:q) (f:q->p:=by intro h;(repeat (first|(with_reducible first|refine aA.up ?_|refine fun (K:AK) hK=> ?_|refine wD ?_|(refine hK _ ?_;clear hK K))|simp only [go_sem]|with_reducible refine wA ?_|clear hK K));(iterate 8 (try revert K));exact h):p:=f h
theorem va {p:Prop} (f:p:=by (repeat (first|(with_reducible first|refine aA.up ?_|refine fun (K:AK) hK=> ?_|refine wD ?_|(refine hK _ ?_;clear hK K))|simp only [go_sem]|with_reducible refine wA ?_|clear hK K))<;>fail):p:=f
theorem Mj {p q e0:Prop} (a0:e0) (h:q) (f:q->e0->p:=by intro h a0;(repeat (first|(with_reducible first|refine aA.up ?_|refine fun (K:AK) hK=> ?_|refine wD ?_|(refine hK _ ?_;clear hK K))|simp only [go_sem,a0]|with_reducible refine wA ?_|clear hK K));(iterate 8 (try revert K));exact h):p:=f h a0
theorem Mk {p q e0 e1 e2 e3 e4:Prop} (a0:e0) (a1:e1) (a2:e2) (a3:e3) (a4:e4) (h:q) (f:q->e0->e1->e2->e3->e4->p:=by intro h a0 a1 a2 a3 a4;(repeat (first|(with_reducible first|refine aA.up ?_|refine fun (K:AK) hK=> ?_|refine wD ?_|(refine hK _ ?_;clear hK K))|simp only [go_sem,a0,a1,a2,a3,a4]|with_reducible refine wA ?_|clear hK K));(iterate 8 (try revert K));exact h):p:=f h a0 a1 a2 a3 a4
theorem dO {p q:Prop} (h:q) (f:q->p:=by intro h;(repeat (first|(with_reducible first|refine aA.up ?_|refine fun (K:AK) hK=> ?_|refine wE ?_|refine wK ?_|refine wF ?_|(refine hK _ ?_;clear hK K))|simp only [go_sem]|with_reducible refine wA ?_|clear hK K));(iterate 8 (try revert K));exact h):p:=f h
theorem PA {p:Prop} (f:p:=by (repeat (first|(with_reducible first|refine aA.up ?_|refine fun (K:AK) hK=> ?_|refine wE ?_|refine wK ?_|refine wF ?_|(refine hK _ ?_;clear hK K))|simp only [go_sem]|with_reducible refine wA ?_|clear hK K))<;>fail):p:=f
theorem kb {p q e0:Prop} (a0:e0) (h:q) (f:q->e0->p:=by intro h a0;(repeat (first|(with_reducible first|refine aA.up ?_|refine fun (K:AK) hK=> ?_|refine wE ?_|refine wK ?_|refine wF ?_|(refine hK _ ?_;clear hK K))|simp only [go_sem,a0]|with_reducible refine wA ?_|clear hK K));(iterate 8 (try revert K));exact h):p:=f h a0
theorem fH {p q:Prop} (h:q) (f:q->p:=by intro h;(repeat (first|(with_reducible first|refine aA.up ?_|refine fun (K:AK) hK=> ?_|refine wD ?_|refine ae (by decide) ?_|refine ah (by decide) ?_|(refine hK _ ?_;clear hK K))|simp only [go_sem]|with_reducible refine wA ?_|clear hK K));(iterate 8 (try revert K));exact h):p:=f h
theorem ke {p q e0:Prop} (a0:e0) (h:q) (f:q->e0->p:=by intro h a0;(repeat (first|(with_reducible first|refine aA.up ?_|refine fun (K:AK) hK=> ?_|refine wD ?_|refine ae (by decide) ?_|refine ah (by decide) ?_|(refine hK _ ?_;clear hK K))|simp only [go_sem,a0]|with_reducible refine wA ?_|clear hK K));(iterate 8 (try revert K));exact h):p:=f h a0
theorem Ml {p q e0 e1:Prop} (a0:e0) (a1:e1) (h:q) (f:q->e0->e1->p:=by intro h a0 a1;(repeat (first|(with_reducible first|refine aA.up ?_|refine fun (K:AK) hK=> ?_|refine wD ?_|refine ae (by decide) ?_|refine ah (by decide) ?_|(refine hK _ ?_;clear hK K))|simp only [go_sem,a0,a1]|with_reducible refine wA ?_|clear hK K));(iterate 8 (try revert K));exact h):p:=f h a0 a1
theorem gu {p q:Prop} (h:q) (f:q->p:=by intro h;(repeat (first|(with_reducible first|refine aA.up ?_|refine fun (K:AK) hK=> ?_|(refine hK _ ?_;clear hK K))|simp only [go_sem,Go.undef]|with_reducible refine wA ?_|clear hK K));(iterate 8 (try revert K));exact h):p:=f h
theorem PB {p:Prop} (f:p:=by (repeat (first|(with_reducible first|refine aA.up ?_|refine fun (K:AK) hK=> ?_|(refine hK _ ?_;clear hK K))|simp only [go_sem,Go.undef]|with_reducible refine wA ?_|clear hK K))<;>fail):p:=f
theorem u5 {p q e0:Prop} (a0:e0) (h:q) (f:q->e0->p:=by intro h a0;(repeat (first|(with_reducible first|refine aA.up ?_|refine fun (K:AK) hK=> ?_|(refine hK _ ?_;clear hK K))|simp only [go_sem,Go.undef,a0]|with_reducible refine wA ?_|clear hK K));(iterate 8 (try revert K));exact h):p:=f h a0
theorem PC {p e0:Prop} (a0:e0) (f:e0->p:=by intro a0;(repeat (first|(with_reducible first|refine aA.up ?_|refine fun (K:AK) hK=> ?_|(refine hK _ ?_;clear hK K))|simp only [go_sem,Go.undef,a0]|with_reducible refine wA ?_|clear hK K))<;>fail):p:=f a0
theorem CM {p q e0 e1:Prop} (a0:e0) (a1:e1) (h:q) (f:q->e0->e1->p:=by intro h a0 a1;(repeat (first|(with_reducible first|refine aA.up ?_|refine fun (K:AK) hK=> ?_|(refine hK _ ?_;clear hK K))|simp only [go_sem,Go.undef,a0,a1]|with_reducible refine wA ?_|clear hK K));(iterate 8 (try revert K));exact h):p:=f h a0 a1
theorem PD {p e0 e1:Prop} (a0:e0) (a1:e1) (f:e0->e1->p:=by intro a0 a1;(repeat (first|(with_reducible first|refine aA.up ?_|refine fun (K:AK) hK=> ?_|(refine hK _ ?_;clear hK K))|simp only [go_sem,Go.undef,a0,a1]|with_reducible refine wA ?_|clear hK K))<;>fail):p:=f a0 a1
theorem PE {p e0 e1 e2 e3:Prop} (a0:e0) (a1:e1) (a2:e2) (a3:e3) (f:e0->e1->e2->e3->p:=by intro a0 a1 a2 a3;(repeat (first|(with_reducible first|refine aA.up ?_|refine fun (K:AK) hK=> ?_|(refine hK _ ?_;clear hK K))|simp only [go_sem,Go.undef,a0,a1,a2,a3]|with_reducible refine wA ?_|clear hK K))<;>fail):p:=f a0 a1 a2 a3
theorem lu {p q:Prop} (h:q) (f:q->p:=by intro h;(repeat (first|(with_reducible first|refine aA.up ?_|refine fun (K:AK) hK=> ?_|refine wD ?_|refine ae (by decide) ?_|refine ah (by decide) ?_|(refine hK _ ?_;clear hK K))|simp only [go_sem]|with_reducible refine wA ?_|(refine ck rfl ?_)|clear hK K));(iterate 8 (try revert K));exact h):p:=f h
theorem u6 {p q e0:Prop} (a0:e0) (h:q) (f:q->e0->p:=by intro h a0;(repeat (first|(with_reducible first|refine aA.up ?_|refine fun (K:AK) hK=> ?_|refine wD ?_|refine ae (by decide) ?_|refine ah (by decide) ?_|(refine hK _ ?_;clear hK K))|simp only [go_sem,a0]|with_reducible refine wA ?_|(refine ck rfl ?_)|clear hK K));(iterate 8 (try revert K));exact h):p:=f h a0
theorem qG {p q:Prop} (h:q) (f:q->p:=by intro h;(repeat (first|(with_reducible first|refine aA.up ?_|refine fun (K:AK) hK=> ?_|refine wD ?_|refine ae (by decide) ?_|(refine hK _ ?_;clear hK K))|simp only [go_sem]|with_reducible refine wA ?_|clear hK K));(iterate 8 (try revert K));exact h):p:=f h
theorem u7 {p q e0:Prop} (a0:e0) (h:q) (f:q->e0->p:=by intro h a0;(repeat (first|(with_reducible first|refine aA.up ?_|refine fun (K:AK) hK=> ?_|refine wD ?_|refine ae (by decide) ?_|(refine hK _ ?_;clear hK K))|simp only [go_sem,a0]|with_reducible refine wA ?_|clear hK K));(iterate 8 (try revert K));exact h):p:=f h a0
theorem Pv {p q e0 e1 e2:Prop} (a0:e0) (a1:e1) (a2:e2) (h:q) (f:q->e0->e1->e2->p:=by intro h a0 a1 a2;(repeat (first|(with_reducible first|refine aA.up ?_|refine fun (K:AK) hK=> ?_|refine wD ?_|refine ae (by decide) ?_|(refine hK _ ?_;clear hK K))|simp only [go_sem,a0,a1,a2]|with_reducible refine wA ?_|clear hK K));(iterate 8 (try revert K));exact h):p:=f h a0 a1 a2
theorem Hd {p q:Prop} (h:q) (f:q->p:=by intro h;(repeat (first|(with_reducible first|refine aA.up ?_|refine fun (K:AK) hK=> ?_|refine wE ?_|refine wK ?_|refine wF ?_|refine ae (by decide) ?_|refine ah (by decide) ?_|(refine hK _ ?_;clear hK K))|simp only [go_sem,List.length_append,ag,nG,x6,nS,x7]|with_reducible refine wA ?_|clear hK K));(iterate 8 (try revert K));exact h):p:=f h
theorem u9 {p q e0:Prop} (a0:e0) (h:q) (f:q->e0->p:=by intro h a0;(repeat (first|(with_reducible first|refine aA.up ?_|refine fun (K:AK) hK=> ?_|refine wE ?_|refine wK ?_|refine wF ?_|refine ae (by decide) ?_|refine ah (by decide) ?_|(refine hK _ ?_;clear hK K))|simp only [go_sem,List.length_append,ag,nG,x6,nS,x7,a0]|with_reducible refine wA ?_|clear hK K));(iterate 8 (try revert K));exact h):p:=f h a0
theorem Pw {p q e0 e1 e2 e3 e4:Prop} (a0:e0) (a1:e1) (a2:e2) (a3:e3) (a4:e4) (h:q) (f:q->e0->e1->e2->e3->e4->p:=by intro h a0 a1 a2 a3 a4;(repeat (first|(with_reducible first|refine aA.up ?_|refine fun (K:AK) hK=> ?_|refine wE ?_|refine wK ?_|refine wF ?_|refine ae (by decide) ?_|refine ah (by decide) ?_|(refine hK _ ?_;clear hK K))|simp only [go_sem,List.length_append,ag,nG,x6,nS,x7,a0,a1,a2,a3,a4]|with_reducible refine wA ?_|clear hK K));(iterate 8 (try revert K));exact h):p:=f h a0 a1 a2 a3 a4
theorem Px {p q e0:Prop} (a0:e0) (h:q) (f:q->e0->p:=by intro h a0;(repeat (first|(with_reducible first|refine aA.up ?_|refine fun (K:AK) hK=> ?_|refine wE ?_|refine wK ?_|refine wF ?_|refine ae (by decide) ?_|refine ah (by decide) ?_|(refine hK _ ?_;clear hK K))|simp only [go_sem,Go.undef,List.length_append,ag,nG,x6,nS,x7,a0]|with_reducible refine wA ?_|clear hK K));(iterate 8 (try revert K));exact h):p:=f h a0
theorem CO {p q e0 e1:Prop} (a0:e0) (a1:e1) (h:q) (f:q->e0->e1->p:=by intro h a0 a1;(repeat (first|(with_reducible first|refine aA.up ?_|refine fun (K:AK) hK=> ?_|refine wE ?_|refine wK ?_|refine wF ?_|refine ae (by decide) ?_|refine ah (by decide) ?_|(refine hK _ ?_;clear hK K))|simp only [go_sem,Go.undef,List.length_append,ag,nG,x6,nS,x7,a0,a1]|with_reducible refine wA ?_|clear hK K));(iterate 8 (try revert K));exact h):p:=f h a0 a1
theorem Mm {p q e0 e1 e2 e3 e4:Prop} (a0:e0) (a1:e1) (a2:e2) (a3:e3) (a4:e4) (h:q) (f:q->e0->e1->e2->e3->e4->p:=by intro h a0 a1 a2 a3 a4;(repeat (first|(with_reducible first|refine aA.up ?_|refine fun (K:AK) hK=> ?_|refine wE ?_|refine wK ?_|refine wF ?_|refine ae (by decide) ?_|refine ah (by decide) ?_|(refine hK _ ?_;clear hK K))|simp only [go_sem,Go.undef,List.length_append,ag,nG,x6,nS,x7,a0,a1,a2,a3,a4]|with_reducible refine wA ?_|clear hK K));(iterate 8 (try revert K));exact h):p:=f h a0 a1 a2 a3 a4
theorem Bi {p q:Prop} (h:q) (f:q->p:=by intro h;(repeat (first|(with_reducible first|refine aA.up ?_|refine fun (K:AK) hK=> ?_|refine ae (by decide) ?_|(refine hK _ ?_;clear hK K))|simp only [go_sem]|with_reducible refine wA ?_|clear hK K));(iterate 8 (try revert K));exact h):p:=f h
theorem sC {p q e0:Prop} (a0:e0) (h:q) (f:q->e0->p:=by intro h a0;(repeat (first|(with_reducible first|refine aA.up ?_|refine fun (K:AK) hK=> ?_|refine ae (by decide) ?_|(refine hK _ ?_;clear hK K))|simp only [go_sem,a0]|with_reducible refine wA ?_|clear hK K));(iterate 8 (try revert K));exact h):p:=f h a0
theorem xh {p q:Prop} (h:q) (f:q->p:=by intro h;(repeat (first|(with_reducible first|refine aA.up ?_|refine fun (K:AK) hK=> ?_|refine wE ?_|refine wD ?_|refine wK ?_|refine wF ?_|(refine hK _ ?_;clear hK K))|simp only [go_sem]|with_reducible refine wA ?_|clear hK K));(iterate 8 (try revert K));exact h):p:=f h
theorem Nq {p:Prop} (f:p:=by (repeat (first|(with_reducible first|refine aA.up ?_|refine fun (K:AK) hK=> ?_|refine wE ?_|refine wD ?_|refine wK ?_|refine wF ?_|(refine hK _ ?_;clear hK K))|simp only [go_sem]|with_reducible refine wA ?_|clear hK K))<;>fail):p:=f
theorem Nd {p q e0:Prop} (a0:e0) (h:q) (f:q->e0->p:=by intro h a0;(repeat (first|(with_reducible first|refine aA.up ?_|refine fun (K:AK) hK=> ?_|refine wE ?_|refine wD ?_|refine wK ?_|refine wF ?_|(refine hK _ ?_;clear hK K))|simp only [go_sem,a0]|with_reducible refine wA ?_|clear hK K));(iterate 8 (try revert K));exact h):p:=f h a0
theorem Nf {p q e0:Prop} (a0:e0) (h:q) (f:q->e0->p:=by intro h a0;(repeat (first|(with_reducible first|refine aA.up ?_|refine fun (K:AK) hK=> ?_|refine wD ?_|(refine hK _ ?_;clear hK K))|simp only [go_sem,Go.undef,a0]|with_reducible refine wA ?_|clear hK K));(iterate 8 (try revert K));exact h):p:=f h a0
theorem G4 {p q e0 e1:Prop} (a0:e0) (a1:e1) (h:q) (f:q->e0->e1->p:=by intro h a0 a1;(repeat (first|(with_reducible first|refine aA.up ?_|refine fun (K:AK) hK=> ?_|refine wD ?_|(refine hK _ ?_;clear hK K))|simp only [go_sem,Go.undef,a0,a1]|with_reducible refine wA ?_|clear hK K));(iterate 8 (try revert K));exact h):p:=f h a0 a1
theorem xi {p q e0 e1 e2:Prop} (a0:e0) (a1:e1) (a2:e2) (h:q) (f:q->e0->e1->e2->p:=by intro h a0 a1 a2;(repeat (first|(with_reducible first|refine aA.up ?_|refine fun (K:AK) hK=> ?_|refine wD ?_|(refine hK _ ?_;clear hK K))|simp only [go_sem,Go.undef,a0,a1,a2]|with_reducible refine wA ?_|clear hK K));(iterate 8 (try revert K));exact h):p:=f h a0 a1 a2
theorem Ng {p q e0 e1 e2 e3 e4:Prop} (a0:e0) (a1:e1) (a2:e2) (a3:e3) (a4:e4) (h:q) (f:q->e0->e1->e2->e3->e4->p:=by intro h a0 a1 a2 a3 a4;(repeat (first|(with_reducible first|refine aA.up ?_|refine fun (K:AK) hK=> ?_|refine wD ?_|(refine hK _ ?_;clear hK K))|simp only [go_sem,Go.undef,a0,a1,a2,a3,a4]|with_reducible refine wA ?_|clear hK K));(iterate 8 (try revert K));exact h):p:=f h a0 a1 a2 a3 a4
theorem Nr {p:Prop} (f:p:=by (repeat (first|(with_reducible first|refine aA.up ?_|refine fun (K:AK) hK=> ?_|(refine hK _ ?_;clear hK K))|simp only [go_sem,Go.undef]|clear hK K))<;>fail):p:=f
theorem Bj {p q e0:Prop} (a0:e0) (h:q) (f:q->e0->p:=by intro h a0;(repeat (first|(with_reducible first|refine aA.up ?_|refine fun (K:AK) hK=> ?_|(refine hK _ ?_;clear hK K))|simp only [go_sem,Go.undef,a0]|clear hK K));(iterate 8 (try revert K));exact h):p:=f h a0
theorem Ns {p e0:Prop} (a0:e0) (f:e0->p:=by intro a0;(repeat (first|(with_reducible first|refine aA.up ?_|refine fun (K:AK) hK=> ?_|(refine hK _ ?_;clear hK K))|simp only [go_sem,Go.undef,a0]|clear hK K))<;>fail):p:=f a0
theorem G5 {p q e0 e1:Prop} (a0:e0) (a1:e1) (h:q) (f:q->e0->e1->p:=by intro h a0 a1;(repeat (first|(with_reducible first|refine aA.up ?_|refine fun (K:AK) hK=> ?_|(refine hK _ ?_;clear hK K))|simp only [go_sem,Go.undef,a0,a1]|clear hK K));(iterate 8 (try revert K));exact h):p:=f h a0 a1
theorem G6 {p q e0 e1 e2:Prop} (a0:e0) (a1:e1) (a2:e2) (h:q) (f:q->e0->e1->e2->p:=by intro h a0 a1 a2;(repeat (first|(with_reducible first|refine aA.up ?_|refine fun (K:AK) hK=> ?_|(refine hK _ ?_;clear hK K))|simp only [go_sem,Go.undef,a0,a1,a2]|clear hK K));(iterate 8 (try revert K));exact h):p:=f h a0 a1 a2
theorem l8 {p q:Prop} (h:q) (f:q->p:=by intro h;(repeat (first|(with_reducible first|refine aA.up ?_|refine fun (K:AK) hK=> ?_|refine ae (by decide) ?_|refine ah (by decide) ?_|refine fS (by decide) ?_|(refine hK _ ?_;clear hK K))|simp only [go_sem]|with_reducible refine wA ?_|(refine fT rfl rfl ?_)|(refine dT rfl ?_)|clear hK K));(iterate 8 (try revert K));exact h):p:=f h
theorem sD {p q:Prop} (h:q) (f:q->p:=by intro h;(repeat (first|(with_reducible first|refine aA.up ?_|refine fun (K:AK) hK=> ?_|refine ae (by decide) ?_|refine ah (by decide) ?_|(refine hK _ ?_;clear hK K))|simp only [go_sem]|with_reducible refine wA ?_|(refine cG rfl ?_)|(refine cd rfl ?_)|clear hK K));(iterate 8 (try revert K));exact h):p:=f h
theorem Bk {p q:Prop} (h:q) (f:q->p:=by intro h;(repeat (first|(with_reducible first|refine aA.up ?_|refine fun (K:AK) hK=> ?_|refine wD ?_|refine ae (by decide) ?_|refine ah (by decide) ?_|(refine hK _ ?_;clear hK K))|simp only [go_sem,Go.undef]|with_reducible refine wA ?_|(refine ck rfl ?_)|clear hK K));(iterate 8 (try revert K));exact h):p:=f h
theorem G7 {p q e0:Prop} (a0:e0) (h:q) (f:q->e0->p:=by intro h a0;(repeat (first|(with_reducible first|refine aA.up ?_|refine fun (K:AK) hK=> ?_|refine wD ?_|refine ae (by decide) ?_|refine ah (by decide) ?_|(refine hK _ ?_;clear hK K))|simp only [go_sem,Go.undef,a0]|with_reducible refine wA ?_|(refine ck rfl ?_)|clear hK K));(iterate 8 (try revert K));exact h):p:=f h a0
theorem sE {p q:Prop} (h:q) (f:q->p:=by intro h;(repeat (first|(with_reducible first|refine aA.up ?_|refine fun (K:AK) hK=> ?_|refine wE ?_|refine wD ?_|refine wK ?_|refine wF ?_|refine ae (by decide) ?_|refine ah (by decide) ?_|(refine hK _ ?_;clear hK K))|simp only [go_sem]|with_reducible refine wA ?_|clear hK K));(iterate 8 (try revert K));exact h):p:=f h
theorem xj {p q:Prop} (h:q) (f:q->p:=by intro h;(repeat (first|(with_reducible first|refine aA.up ?_|refine fun (K:AK) hK=> ?_|refine ae (by decide) ?_|(refine hK _ ?_;clear hK K))|simp only [go_sem]|with_reducible refine wA ?_|(refine cG rfl ?_)|(refine cd rfl ?_)|clear hK K));(iterate 8 (try revert K));exact h):p:=f h
theorem Hf {p e0 e1 e2 e3:Prop} (a0:e0) (a1:e1) (a2:e2) (a3:e3) (f:e0->e1->e2->e3->p:=by intro a0 a1 a2 a3;(repeat (first|(with_reducible first|refine aA.up ?_|refine fun (K:AK) hK=> ?_|refine wK ?_|refine wF ?_|refine ae (by decide) ?_|refine ah (by decide) ?_|(refine hK _ ?_;clear hK K))|simp only [go_sem,List.length_append,s0,a0,a1,a2,a3]|with_reducible refine wA ?_|clear hK K))<;>fail):p:=f a0 a1 a2 a3
theorem Nh {p q:Prop} (h:q) (f:q->p:=by intro h;(repeat (first|(with_reducible first|refine aA.up ?_|refine fun (K:AK) hK=> ?_|refine wD ?_|refine ae (by decide) ?_|refine ah (by decide) ?_|(refine hK _ ?_;clear hK K))|simp only [go_sem,Go.undef]|with_reducible refine wA ?_|clear hK K));(iterate 8 (try revert K));exact h):p:=f h
theorem Ni {p q e0 e1 e2 e3:Prop} (a0:e0) (a1:e1) (a2:e2) (a3:e3) (h:q) (f:q->e0->e1->e2->e3->p:=by intro h a0 a1 a2 a3;(repeat (first|(with_reducible first|refine aA.up ?_|refine fun (K:AK) hK=> ?_|(refine hK _ ?_;clear hK K))|simp only [go_sem,List.drop_succ_cons,List.drop_zero,a0,a1,a2,a3]|with_reducible refine wA ?_|clear hK K));(iterate 8 (try revert K));exact h):p:=f h a0 a1 a2 a3
theorem Nj {p q:Prop} (h:q) (f:q->p:=by intro h;(repeat (first|(with_reducible first|refine aA.up ?_|refine fun (K:AK) hK=> ?_|(refine hK _ ?_;clear hK K))|simp only [go_sem,kT]|with_reducible refine wA ?_|clear hK K));(iterate 8 (try revert K));exact h):p:=f h
theorem G9 {p q:Prop} (h:q) (f:q->p:=by intro h;(repeat (first|(with_reducible first|refine aA.up ?_|refine fun (K:AK) hK=> ?_|refine ae (by decide) ?_|refine ah (by decide) ?_|(refine hK _ ?_;clear hK K))|simp only [go_sem,Go.undef]|with_reducible refine wA ?_|(refine cG rfl ?_)|(refine cd rfl ?_)|clear hK K));(iterate 8 (try revert K));exact h):p:=f h
theorem Nk {p q e0 e1:Prop} (a0:e0) (a1:e1) (h:q) (f:q->e0->e1->p:=by intro h a0 a1;(repeat (first|(with_reducible first|refine aA.up ?_|refine fun (K:AK) hK=> ?_|refine ae (by decide) ?_|refine ah (by decide) ?_|(refine hK _ ?_;clear hK K))|simp only [go_sem,Go.undef,a0,a1]|with_reducible refine wA ?_|(refine cG rfl ?_)|(refine cd rfl ?_)|clear hK K));(iterate 8 (try revert K));exact h):p:=f h a0 a1
theorem Nl {p q e0 e1 e2:Prop} (a0:e0) (a1:e1) (a2:e2) (h:q) (f:q->e0->e1->e2->p:=by intro h a0 a1 a2;(repeat (first|(with_reducible first|refine aA.up ?_|refine fun (K:AK) hK=> ?_|refine ae (by decide) ?_|refine ah (by decide) ?_|refine fS (by decide) ?_|(refine hK _ ?_;clear hK K))|simp only [go_sem,List.length_append,ag,s0,a0,a1,a2]|with_reducible refine wA ?_|(refine fT rfl rfl ?_)|(refine dT rfl ?_)|clear hK K));(iterate 8 (try revert K));exact h):p:=f h a0 a1 a2
theorem Nn {p q e0 e1 e2 e3 e4:Prop} (a0:e0) (a1:e1) (a2:e2) (a3:e3) (a4:e4) (h:q) (f:q->e0->e1->e2->e3->e4->p:=by intro h a0 a1 a2 a3 a4;(repeat (first|(with_reducible first|refine aA.up ?_|refine fun (K:AK) hK=> ?_|refine ae (by decide) ?_|refine ah (by decide) ?_|refine fS (by decide) ?_|(refine hK _ ?_;clear hK K))|simp only [go_sem,List.length_append,ag,s0,a0,a1,a2,a3,a4]|with_reducible refine wA ?_|(refine fT rfl rfl ?_)|(refine dT rfl ?_)|clear hK K));(iterate 8 (try revert K));exact h):p:=f h a0 a1 a2 a3 a4
theorem No {p q:Prop} (h:q) (f:q->p:=by intro h;(repeat (first|(with_reducible first|refine aA.up ?_|refine fun (K:AK) hK=> ?_|refine ae (by decide) ?_|(refine hK _ ?_;clear hK K))|simp only [go_sem,Go.undef]|with_reducible refine wA ?_|clear hK K));(iterate 8 (try revert K));exact h):p:=f h
theorem Np {p q e0 e1 e2:Prop} (a0:e0) (a1:e1) (a2:e2) (h:q) (f:q->e0->e1->e2->p:=by intro h a0 a1 a2;(repeat (first|(with_reducible first|refine aA.up ?_|refine fun (K:AK) hK=> ?_|refine wK ?_|refine wF ?_|refine ae (by decide) ?_|refine ah (by decide) ?_|(refine hK _ ?_;clear hK K))|simp only [go_sem,a0,a1,a2]|with_reducible refine wA ?_|clear hK K));(iterate 8 (try revert K));exact h):p:=f h a0 a1 a2
theorem Ha {p q e0 e1 e2 e3:Prop} (a0:e0) (a1:e1) (a2:e2) (a3:e3) (h:q) (f:q->e0->e1->e2->e3->p:=by intro h a0 a1 a2 a3;(repeat (first|(with_reducible first|refine aA.up ?_|refine fun (K:AK) hK=> ?_|refine wK ?_|refine wF ?_|refine ae (by decide) ?_|refine ah (by decide) ?_|(refine hK _ ?_;clear hK K))|simp only [go_sem,List.getD_cons_succ,List.getD_cons_zero,List.length_append,s0,oe,qs,a0,a1,a2,a3]|with_reducible refine wA ?_|clear hK K));(iterate 8 (try revert K));exact h):p:=f h a0 a1 a2 a3
theorem Hb {p q e0 e1 e2 e3:Prop} (a0:e0) (a1:e1) (a2:e2) (a3:e3) (h:q) (f:q->e0->e1->e2->e3->p:=by intro h a0 a1 a2 a3;(repeat (first|(with_reducible first|refine aA.up ?_|refine fun (K:AK) hK=> ?_|refine wE ?_|refine wK ?_|refine wF ?_|refine ae (by decide) ?_|refine ah (by decide) ?_|(refine hK _ ?_;clear hK K))|simp only [go_sem,List.length_append,s0,a0,a1,a2,a3]|with_reducible refine wA ?_|clear hK K));(iterate 8 (try revert K));exact h):p:=f h a0 a1 a2 a3
theorem Hc {p q e0:Prop} (a0:e0) (h:q) (f:q->e0->p:=by intro h a0;(repeat (first|(with_reducible first|refine aA.up ?_|refine fun (K:AK) hK=> ?_|refine wD ?_|refine ae (by decide) ?_|(refine hK _ ?_;clear hK K))|simp only [go_sem,Go.undef,a0]|with_reducible refine wA ?_|clear hK K));(iterate 8 (try revert K));exact h):p:=f h a0
theorem aO {p p0 p1 p2:Prop} (k:p0->p1->p2->p) (f0:p0:=by simp only [gz,List.foldl_cons,List.foldl_nil,List.replicate_succ,List.replicate_zero,dt,kE,AV.v.injEq,Value.int.injEq,Value.bool.injEq,Value.string.injEq,AV.vec.injEq,AV.ptr.injEq,true_or,or_true,false_or,or_false,aa.mk.injEq,forall_eq_apply_imp_iff,forall_eq,forall_eq',go_sem]<;>fail) (f1:p1:=by simp only [gz,List.foldl_cons,List.foldl_nil,List.replicate_succ,List.replicate_zero,dt,kE,AV.v.injEq,Value.int.injEq,Value.bool.injEq,Value.string.injEq,AV.vec.injEq,AV.ptr.injEq,true_or,or_true,false_or,or_false,aa.mk.injEq,forall_eq_apply_imp_iff,forall_eq,forall_eq',go_sem]<;>fail) (f2:p2:=by simp only [gz,List.foldl_cons,List.foldl_nil,List.replicate_succ,List.replicate_zero,dt,kE,AV.v.injEq,Value.int.injEq,Value.bool.injEq,Value.string.injEq,AV.vec.injEq,AV.ptr.injEq,true_or,or_true,false_or,or_false,aa.mk.injEq,forall_eq_apply_imp_iff,forall_eq,forall_eq',go_sem]<;>fail):p:=k (f0) (f1) (f2)
theorem bp {p p0 p1 p2 r0:Prop} (h0:r0) (k:p0->p1->p2->p) (f0:r0->p0:=by intro h;simp only [gz,List.foldl_cons,List.foldl_nil,List.replicate_succ,List.replicate_zero,dt,kE,AV.v.injEq,Value.int.injEq,Value.bool.injEq,Value.string.injEq,AV.vec.injEq,AV.ptr.injEq,true_or,or_true,false_or,or_false,aa.mk.injEq,forall_eq_apply_imp_iff,forall_eq,forall_eq',go_sem];exact h) (f1:p1:=by simp only [gz,List.foldl_cons,List.foldl_nil,List.replicate_succ,List.replicate_zero,dt,kE,AV.v.injEq,Value.int.injEq,Value.bool.injEq,Value.string.injEq,AV.vec.injEq,AV.ptr.injEq,true_or,or_true,false_or,or_false,aa.mk.injEq,forall_eq_apply_imp_iff,forall_eq,forall_eq',go_sem]<;>fail) (f2:p2:=by simp only [gz,List.foldl_cons,List.foldl_nil,List.replicate_succ,List.replicate_zero,dt,kE,AV.v.injEq,Value.int.injEq,Value.bool.injEq,Value.string.injEq,AV.vec.injEq,AV.ptr.injEq,true_or,or_true,false_or,or_false,aa.mk.injEq,forall_eq_apply_imp_iff,forall_eq,forall_eq',go_sem]<;>fail):p:=k (f0 h0) (f1) (f2)
theorem qI {p p0 p1 p2 r1:Prop} (h1:r1) (k:p0->p1->p2->p) (f0:p0:=by simp only [gz,List.foldl_cons,List.foldl_nil,List.replicate_succ,List.replicate_zero,dt,kE,AV.v.injEq,Value.int.injEq,Value.bool.injEq,Value.string.injEq,AV.vec.injEq,AV.ptr.injEq,true_or,or_true,false_or,or_false,aa.mk.injEq,forall_eq_apply_imp_iff,forall_eq,forall_eq',go_sem]<;>fail) (f1:r1->p1:=by intro h;simp only [gz,List.foldl_cons,List.foldl_nil,List.replicate_succ,List.replicate_zero,dt,kE,AV.v.injEq,Value.int.injEq,Value.bool.injEq,Value.string.injEq,AV.vec.injEq,AV.ptr.injEq,true_or,or_true,false_or,or_false,aa.mk.injEq,forall_eq_apply_imp_iff,forall_eq,forall_eq',go_sem];exact h) (f2:p2:=by simp only [gz,List.foldl_cons,List.foldl_nil,List.replicate_succ,List.replicate_zero,dt,kE,AV.v.injEq,Value.int.injEq,Value.bool.injEq,Value.string.injEq,AV.vec.injEq,AV.ptr.injEq,true_or,or_true,false_or,or_false,aa.mk.injEq,forall_eq_apply_imp_iff,forall_eq,forall_eq',go_sem]<;>fail):p:=k (f0) (f1 h1) (f2)
theorem iG {p p0 p1 p2 r0 r1:Prop} (h0:r0) (h1:r1) (k:p0->p1->p2->p) (f0:r0->p0:=by intro h;simp only [gz,List.foldl_cons,List.foldl_nil,List.replicate_succ,List.replicate_zero,dt,kE,AV.v.injEq,Value.int.injEq,Value.bool.injEq,Value.string.injEq,AV.vec.injEq,AV.ptr.injEq,true_or,or_true,false_or,or_false,aa.mk.injEq,forall_eq_apply_imp_iff,forall_eq,forall_eq',go_sem];exact h) (f1:r1->p1:=by intro h;simp only [gz,List.foldl_cons,List.foldl_nil,List.replicate_succ,List.replicate_zero,dt,kE,AV.v.injEq,Value.int.injEq,Value.bool.injEq,Value.string.injEq,AV.vec.injEq,AV.ptr.injEq,true_or,or_true,false_or,or_false,aa.mk.injEq,forall_eq_apply_imp_iff,forall_eq,forall_eq',go_sem];exact h) (f2:p2:=by simp only [gz,List.foldl_cons,List.foldl_nil,List.replicate_succ,List.replicate_zero,dt,kE,AV.v.injEq,Value.int.injEq,Value.bool.injEq,Value.string.injEq,AV.vec.injEq,AV.ptr.injEq,true_or,or_true,false_or,or_false,aa.mk.injEq,forall_eq_apply_imp_iff,forall_eq,forall_eq',go_sem]<;>fail):p:=k (f0 h0) (f1 h1) (f2)
theorem Py {p p0 p1 p2 r0 r1 r2:Prop} (h0:r0) (h1:r1) (h2:r2) (k:p0->p1->p2->p) (f0:r0->p0:=by intro h;simp only [gz,List.foldl_cons,List.foldl_nil,List.replicate_succ,List.replicate_zero,dt,kE,AV.v.injEq,Value.int.injEq,Value.bool.injEq,Value.string.injEq,AV.vec.injEq,AV.ptr.injEq,true_or,or_true,false_or,or_false,aa.mk.injEq,forall_eq_apply_imp_iff,forall_eq,forall_eq',go_sem];exact h) (f1:r1->p1:=by intro h;simp only [gz,List.foldl_cons,List.foldl_nil,List.replicate_succ,List.replicate_zero,dt,kE,AV.v.injEq,Value.int.injEq,Value.bool.injEq,Value.string.injEq,AV.vec.injEq,AV.ptr.injEq,true_or,or_true,false_or,or_false,aa.mk.injEq,forall_eq_apply_imp_iff,forall_eq,forall_eq',go_sem];exact h) (f2:r2->p2:=by intro h;simp only [gz,List.foldl_cons,List.foldl_nil,List.replicate_succ,List.replicate_zero,dt,kE,AV.v.injEq,Value.int.injEq,Value.bool.injEq,Value.string.injEq,AV.vec.injEq,AV.ptr.injEq,true_or,or_true,false_or,or_false,aa.mk.injEq,forall_eq_apply_imp_iff,forall_eq,forall_eq',go_sem];exact h):p:=k (f0 h0) (f1 h1) (f2 h2)
theorem bJ {p q:Prop} (h:p) (f:p->q:=by intro h;(try simp only [bne_iff_ne,ne_eq,bne_eq_false_iff_eq,beq_iff_eq,beq_eq_false_iff_ne,decide_eq_true_eq,decide_eq_false_iff_not,Bool.not_eq_eq_eq_not,Int.natCast_inj,Int.ofNat_lt,Int.ofNat_le] at h);exact h):q:=f h
theorem ot {p q:Prop} (h:p) (f:p->q:=by intro h;(try simp only [decide_eq_true_eq,decide_eq_false_iff_not,Int.ofNat_lt] at h);exact h):q:=f h
theorem Ow {p q:Prop} (h:p) (f:p->q:=by intro h;(try simp only [bne_iff_ne,ne_eq,bne_eq_false_iff_eq,decide_eq_true_eq,decide_eq_false_iff_not,Int.natCast_inj,Int.ofNat_lt] at h);exact h):q:=f h
theorem RH {p q:Prop} (h:p) (f:p->q:=by intro h;(try simp only [decide_eq_true_eq,decide_eq_false_iff_not,Int.ofNat_le] at h);exact h):q:=f h
theorem gE {p q e0 e1 e2:Prop} (a0:e0) (a1:e1) (a2:e2) (h:q) (f:e0->e1->e2->q->p:=by intro a0 a1 a2 h;refine ar.enter a0 rfl (by kernel_rfl) (by kernel_rfl) rfl (by first|rfl|(simp only [go_sem,Bool.and_self,Bool.and_true,Bool.true_and])) (by first|rfl|(simp only [go_sem,Bool.and_self,Bool.and_true,Bool.true_and])) ?_;simp only [a1,a2,List.length_cons,List.length_nil,Nat.reduceAdd,Nat.reduceSub,List.replicate_succ,List.replicate_zero,List.cons_append,List.nil_append];exact h):p:=f a0 a1 a2 h
theorem gF {p q e0 e1 e2:Prop} (a0:e0) (a1:e1) (a2:e2) (h:q) (f:e0->e1->e2->q->p:=by intro a0 a1 a2 h;refine dN.enter a0 rfl (by kernel_rfl) (by kernel_rfl) rfl ?_;simp only [a1,a2,List.length_cons,List.length_nil,Nat.reduceAdd,Nat.reduceSub,List.replicate_succ,List.replicate_zero,List.cons_append,List.nil_append];exact h):p:=f a0 a1 a2 h
section
def encS (s:ByteArray):List AV:=[.v (.string s)]
def encI (n:Int):List AV:=[.v (.int .i64 n)]
def GQ (x:ui):List AV:=[.v (.int .i64 x.kind), .v (.string x.name), .v (.string x.key), .v (.int .i64 x.val.kind), .v (.int .i64 x.val.num), .v (.string x.val.text)]
def RF (x:J3):List AV:=[.v (.int .i64 x.kind), .v (.int .i64 x.num), .v (.string x.text)]
def Ky (x:Ca):List AV:=[.v (.int .i64 x.op), .v (.int .i64 x.left.kind), .v (.string x.left.name), .v (.string x.left.key), .v (.int .i64 x.left.val.kind), .v (.int .i64 x.left.val.num), .v (.string x.left.val.text),
 .v (.int .i64 x.right.kind), .v (.string x.right.name), .v (.string x.right.key), .v (.int .i64 x.right.val.kind), .v (.int .i64 x.right.val.num), .v (.string x.right.val.text)]
mutual
def aS:Ex->List AV
 | .mk k s l=>[.v (.int .i64 k), .v (.string s), .aC 3 (Cw l) l.length]
def Cw:List Ex->List (List AV)
 | []=>[]
 | x :: xs=>aS x :: Cw xs
end
theorem lZ: ∀l:List Ex,Cw l=l.map aS
 | []=>rfl
 | x :: xs=>by rw [Cw,lZ xs,List.map_cons]
theorem aD (x:Ex):aS x=[.v (.int .i64 x.kind), .v (.string x.label), .aC 3 (x.kids.map aS) x.kids.length]:=by
 obtain ⟨k,s,l⟩:=x;rw [aS,lZ];rfl
def GR (p:nk):List AV:=[.v (.string p.gz), .v (.string p.to), .v (.bool p.path), .v (.string p.label), .v (.string p.name), .v (.int .i64 p.expr.kind), .v (.string p.expr.label), .aC 3 (p.expr.kids.map aS) p.expr.kids.length]
def M8 (q:DI):List AV:=[.aC 8 (q.q6.map GR) q.q6.length, .aC 13 (q.conds.map Ky) q.conds.length, .aC 6 (q.ret.map GQ) q.ret.length, .v (.int .i64 q.range), .v (.int .i64 q.I9)]
def aZ (l:List ByteArray):AV:= .aC 1 (l.map encS) l.length
def PJ (l:List Int):AV:= .aC 1 (l.map encI) l.length
theorem bm (n:Nat) (l:List ByteArray):bw n (l.map encS)=true:=bz _ (fun _=>rfl) l
theorem LZ (n:Nat) (l:List Int):bw n (l.map encI)=true:=bz _ (fun _=>rfl) l
theorem Dt (n:Nat) (l:List ui):bw n (l.map GQ)=true:=bz _ (fun _=>rfl) l
theorem Ds (n:Nat) (l:List Ca):bw n (l.map Ky)=true:=bz _ (fun _=>rfl) l
theorem fe (n:Nat) (x:Ex):aX n (aS x)=true:=by
 induction x using Ex.ind with
 | h k s l ih=>
  rw [aS,lZ];simp only [aX,AV.wf,VC,Bool.true_and];exact xZ (fun r hr=>by obtain ⟨x,hx,rfl⟩:=List.mem_map.1 hr;exact ih x hx)
theorem bf (n:Nat) (l:List Ex):bw n (l.map aS)=true:=bz _ (fe n) l
theorem Ai (n:Nat) (p:nk):aX n (GR p)=true:=by simp only [GR,aX,AV.wf,bf,VC]
theorem Du (n:Nat) (l:List nk):bw n (l.map GR)=true:=bz _ (Ai n) l
theorem L0 (n:Nat) (q:DI):aX n (M8 q)=true:=by simp only [M8,aX,AV.wf,Du,Ds,Dt,VC]
attribute [go_sem] aZ PJ encS encI GQ RF Ky GR M8 bm LZ Dt Ds fe bf Ai Du L0
@[go_sem] theorem getD_map {α β:Type} (f:α->β) (l:List α) (k:Nat) (d:β) (h:k<l.length):(l.map f).getD k d=f l[k]:=by
 simp [List.getD,h]
section
variable {D:Nat->Prop} {nu:Nat->Nat->Value} {o:List (Option aa)} {w:World} {P:Program}
theorem r8 {b:Nat}: ∀ {cs:List Value} {off:Nat},(∀(j:Nat) v,cs[j]? = some v->w.cell? ⟨b,off+j,none⟩=some v)->cJ w b off cs
 | [],_,_=>trivial
 | y :: cs,off,h=>⟨by simpa using h 0 y rfl,r8 (off:=off+1) (fun j v hj=>by rw [show off+1+j=off+(j+1) by omega];exact h (j+1) v (by simpa using hj))⟩
def Md (D:Nat->Prop) (nu:Nat->Nat->Value) (o:List (Option aa)) (w:World) (cs:List AV) (xs:List Value):Prop:=cs.length=xs.length∧ ∀(j:Nat) c x,cs[j]? = some c->xs[j]? = some x->RA D nu o w c x
theorem RA.P2 {α:Type} {z:Nat} {enc:α->List AV} {rd:α->List Value->Prop} {xs:List α} {v:Value} (h:RA D nu o w (.aC z (xs.map enc) xs.length) v) (hrd: ∀x,x∈xs-> ∀cs:List Value,Md D nu o w (enc x) cs->rd x cs):fP w z rd xs v:=by
 generalize hn:xs.length=n at h;generalize hr:xs.map enc=rows at h
 cases h with
 | bu=>
  exact .inl ⟨.inl rfl,VD.1 hn⟩
 | bM _ a=>
  exact .inl ⟨.inr ⟨a,rfl⟩,VD.1 hn⟩
 | aC _ _ _ b off cap f h1 h2 h3 h4 h5 h6 h7 h8=>
  subst hr;simp only [List.length_map] at h2;refine .inr ⟨b,off,cap,by rw [hn],h2,h3,fun i x hx=> ?_⟩
  have hi:(xs.map enc)[i]? = some (enc x):=by rw [Ut,hx];rfl
  refine ⟨(List.range (enc x).length).map (f i),hrd x (UK hx) _ ⟨by simp,fun j c y hc hy=> ?_⟩,r8 (fun j y hy=> ?_)⟩
  ·have hj:=(Uc.1 hc).1;rw [Ut,Uu hj] at hy;cases hy;exact h7 i j _ c hi hc
  ·rw [Ut] at hy
   have hj:j<(enc x).length:=by
    rcases Ue j (enc x).length with q|q
    ·exact q
    ·rw [Uv (by simpa using q)] at hy;cases hy
   rw [Uu hj] at hy;cases hy;exact h6 i j _ _ hi (Uq hj)
theorem IT {vs cs:List Value} (h:Md D nu o w (vs.map AV.v) cs):cs=vs:=by
 apply List.ext_getElem?
 intro i;have hl:=h.1;simp only [List.length_map] at hl
 rcases Ue i vs.length with q|q
 ·have e1:(vs.map AV.v)[i]? = some (.v vs[i]):=by simp [q]
  have e2:cs[i]? = some cs[i]:=Uq (by omega)
  have:=(h.2 i _ _ e1 e2).cO
  rw [e2,this,Uq q]
 ·rw [Uv q,Uv (by omega)]
theorem IS: ∀(x:Ex) (cs:List Value),Md D nu o w (aS x) cs->eu w x cs:=by
 intro x
 induction x using Ex.ind with
 | h k s l ih=>
  intro cs h;rw [aS,lZ] at h;obtain ⟨hl,hr⟩:=h
  match cs,hl with
  | [a,b,c],_=>
   have h0:=(hr 0 _ a rfl rfl).cO;have h1:=(hr 1 _ b rfl rfl).cO;have h2:=hr 2 _ c rfl rfl;rw [eu];exact ⟨c,by rw [h0,h1],gJ.2 (RA.P2 h2 (fun y hy cs' hc=>ih y hy cs' hc))⟩
theorem IK {cs:List AV} {v:Value} (h:RA D nu o w (.agg cs) v): ∃xs:List Value,v = .agg xs.toArray∧Md D nu o w cs xs:=by
 cases h with
 | agg _ xs h1 h2 h3=>exact ⟨xs.toList,by simp,by simpa using h1,fun j c x q1 q2=>h2 j c x q1 (by simpa using q2)⟩
theorem RA.zE {α:Type} {z:Nat} (hz:0<z) {enc:α->List AV} {rd:α->List Value->Prop} {xs:List α} {v:Value} (hD: ∀b off n c,v = .slice (some ⟨b,off,none⟩) n c->b<w.heap.size->D b) (h:fP w z rd xs v) (hlen: ∀x,(enc x).length=z)
  (hrd: ∀x,x∈xs-> ∀cs:List Value,rd x cs->Md D nu [] w (enc x) cs∧ ∀y∈cs,y.oneCell'=true):RA D nu [] w (.aC z (xs.map enc) xs.length) v:=by
 rcases h with ⟨rfl|⟨a,rfl⟩,rfl⟩|⟨b,off,cap,rfl,h1,h2,h3⟩
 ·exact .bu z
 ·exact .bM z a
 ·have hex: ∀i:Nat, ∃cs:List Value, ∀x,xs[i]? = some x->rd x cs∧cJ w b (off+i * z) cs:=fun i=>by
   cases hx:xs[i]? with
   | none=>exact ⟨[],fun x hx=>by cases hx⟩
   | some x=>
    obtain ⟨cs,q⟩:=h3 i x hx;exact ⟨cs,fun y hy=>by cases hy;exact q⟩
  let g:Nat->List Value:=fun i=>Classical.choose (hex i)
  have hg: ∀i x,xs[i]? = some x->rd x (g i)∧cJ w b (off+i * z) (g i):=fun i x hx=>Classical.choose_spec (hex i) x hx
  have key: ∀(i j:Nat) row c,(xs.map enc)[i]? = some row->row[j]? = some c-> ∃y,(g i)[j]? = some y∧w.cell? ⟨b,off+i * z+j,none⟩=some y∧RA D nu [] w c y∧y.oneCell'=true:=by
   intro i j row c hi hj;rw [Ut] at hi
   cases hx:xs[i]? with
   | none=>rw [hx] at hi;cases hi
   | some x=>
    rw [hx] at hi;cases hi;obtain ⟨q1,q2⟩:=hg i x hx;obtain ⟨q3,q4⟩:=hrd x (UK hx) _ q1
    have hjl:j<(g i).length:=by rw [<-q3.1];exact (Uc.1 hj).1
    have e:=Uq hjl;exact ⟨_,e,jG q2 j _ e,q3.2 j c _ hj e,q4 _ (UK e)⟩
  refine .aC z _ _ b off cap (fun i j=>(g i).getD j Go.undef) (by simp) (by simpa using h1) h2 (fun hne=> ?_) (fun i row hi=> ?_) (fun i j row c hi hj=> ?_) (fun i j row c hi hj=> ?_) (fun i j row c hi hj=> ?_)
  ·obtain ⟨x,xs',rfl⟩: ∃x xs',xs=x :: xs':=by
    cases xs with
    | nil=>exact absurd rfl hne
    | cons x xs'=>exact ⟨x,xs',rfl⟩
   obtain ⟨c,hc⟩: ∃c,(enc x)[0]? = some c:=⟨_,Uq (by rw [hlen x];exact hz)⟩;obtain ⟨y,_,q,_⟩:=key 0 0 (enc x) c (by simp) hc;have hlt:=kS q;exact ⟨hlt,bl _ _,hD _ _ _ _ rfl hlt⟩
  ·rw [Ut] at hi
   cases hx:xs[i]? with
   | none=>rw [hx] at hi;cases hi
   | some x=>rw [hx] at hi;cases hi;exact hlen x
  ·obtain ⟨y,q1,q2,_⟩:=key i j row c hi hj;rw [q2,getD_some q1]
  ·obtain ⟨y,q1,_,q3,_⟩:=key i j row c hi hj;rw [getD_some q1];exact q3
  ·obtain ⟨y,q1,_,_,q4⟩:=key i j row c hi hj;rw [getD_some q1];exact q4
theorem RA.C7 (hD: ∀b,b<w.heap.size->D b) {α:Type} {z:Nat} (hz:0<z) {enc:α->List AV} {rd:α->List Value->Prop} {xs:List α} {v:Value} (h:fP w z rd xs v) (hlen: ∀x,(enc x).length=z)
  (hrd: ∀x,x∈xs-> ∀cs:List Value,rd x cs->Md D nu [] w (enc x) cs∧ ∀y∈cs,y.oneCell'=true):RA D nu [] w (.aC z (xs.map enc) xs.length) v:=RA.zE hz (fun b _ _ _ _ hb=>hD b hb) h hlen hrd
theorem qQ (vs:List Value):Md D nu o w (vs.map AV.v) vs:=⟨by simp,fun j c x h1 h2=>by
 rw [Ut,h2] at h1;cases h1;exact .v x⟩
theorem IL {α:Type} {z:Nat} {rd:α->List Value->Prop} {xs:List α} {v:Value} (h:fP w z rd xs v):v.oneCell'=true:=by
 rcases h with ⟨rfl|⟨a,rfl⟩,_⟩|⟨b,off,cap,rfl,_⟩<;>rfl
theorem LN (hD: ∀b,b<w.heap.size->D b) {l:List ByteArray} {v:Value} (h:kF w l v):RA D nu [] w (aZ l) v:=
 RA.C7 hD (by omega) h (fun _=>rfl) (fun x _ cs hc=>by subst hc;exact ⟨qQ [.string x],by simp [Value.oneCell']⟩)
theorem Jf {l:List ByteArray} {v:Value} (hD: ∀b off n c,v = .slice (some ⟨b,off,none⟩) n c->D b) (h:kF w l v):RA D nu [] w (aZ l) v:=
 RA.zE (by omega) (fun b off n c e _=>hD b off n c e) h (fun _=>rfl) (fun x _ cs hc=>by subst hc;exact ⟨qQ [.string x],by simp [Value.oneCell']⟩)
theorem GP (x:Ex):(aS x).length=3:=by rw [aD];rfl
theorem Ps (hD: ∀b,b<w.heap.size->D b): ∀(x:Ex) (cs:List Value),eu w x cs->Md D nu [] w (aS x) cs∧ ∀y∈cs,y.oneCell'=true:=by
 intro x
 induction x using Ex.ind with
 | h k s l ih=>
  intro cs h;rw [eu] at h;obtain ⟨sv,rfl,h⟩:=h;have h':=gJ.1 h;have hs:=RA.C7 (nu:=nu) hD (by omega:0<3) h' GP (fun y hy cs hc=>ih y hy cs hc);have ho:=IL h';rw [aS,lZ];refine ⟨⟨rfl,fun j c y h1 h2=> ?_⟩,by simp [Value.oneCell'] at ho ⊢; exact ho⟩
  match j,h1,h2 with
  | 0,h1,h2=>cases h1;cases h2;exact .v _
  | 1,h1,h2=>cases h1;cases h2;exact .v _
  | 2,h1,h2=>cases h1;cases h2;exact hs
  | j+3,h1,h2=>simp at h1
theorem KG {D:Nat->Prop} {nu:Nat->Nat->Value} {w:World} {v:Value} (hro:RO D nu [] w) {e:Ending} {w':World} (h:FJ w v e w'):F1 D nu [] w (fun r' o'=>r' = .v v∧o'=[]) e w':=by
 obtain ⟨rfl,hb⟩:=h;exact ⟨v,nu,[], .v v,rfl,aw hb,hro.below hb, .v v,rfl,rfl⟩
theorem ar.Im {f:FuncId} {args:List AV} {v:Value} (hc:ei P f=true) (ha:aX 0 args=true) (h: ∀D nu w vargs,fK D nu [] w args vargs->Calls P f vargs w (FJ w v)):ar P f args (.v v):=
 ⟨⟨ha,rfl⟩,hc,fun D nu w vargs hro hra=>(h D nu w vargs hra).mono (fun e w' hr=>KG hro hr)⟩
theorem ar.C8 {f:FuncId} {args:List AV} {l:List ByteArray} (hc:ei P f=true) (ha:aX 0 args=true)
  (h: ∀D nu w vargs,fK D nu [] w args vargs->Calls P f vargs w (fun e w'=> ∃v,e = .returned v∧kF w' l v∧Below w.heap.size w w'∧ ∀b off n c,v = .slice (some ⟨b,off,none⟩) n c->w.heap.size<=b)):ar P f args (aZ l):=
 ⟨⟨ha,by simp only [aZ,AV.wf,bm]⟩,hc,fun D nu w vargs hro hra=>(h D nu w vargs hra).mono (fun e w' hr=>by
  obtain ⟨v,rfl,h1,hb,h2⟩:=hr
  exact ⟨v,nu,[],aZ l,rfl,aw hb,hro.below hb,Jf (fun b off n c e=>hro.up b (h2 b off n c e)) h1,rfl,rfl⟩)⟩
theorem ar.args {f:FuncId} {args args':List AV} {r:AV} (h:ar P f args r) (hw:aX 0 args'=true) (hl: ∀D nu w vargs,fK D nu [] w args' vargs->fK D nu [] w args vargs):ar P f args' r:=
 ⟨⟨hw,h.1.2⟩,h.2.1,fun D nu w vargs hro hra=>h.2.2 D nu w vargs hro (hl D nu w vargs hra)⟩
theorem kX {a:AV} {vargs:Array Value} (h:fK D nu o w [a] vargs): ∃x,vargs = #[x]∧RA D nu o w a x:=by
 obtain ⟨x,hx⟩:=List.length_eq_one_iff.1 (by simpa using h.len.symm:vargs.toList.length=1)
 have e:vargs = #[x]:=by apply Array.ext';simpa using hx
 subst e;exact ⟨x,rfl,h.at' 0 a x rfl rfl⟩
theorem Lv {a b:AV} {vargs:Array Value} (h:fK D nu o w [a,b] vargs): ∃x y,vargs = #[x,y]∧RA D nu o w a x∧RA D nu o w b y:=by
 have hl:vargs.toList.length=2:=by simpa using h.len.symm
 match hv:vargs.toList,hl with
 | [x,y],_=>
  have e:vargs = #[x,y]:=by apply Array.ext';simpa using hv
  subst e;exact ⟨x,y,rfl,h.at' 0 a x rfl rfl,h.at' 1 b y rfl rfl⟩
end
open Go.RowKit Go.ChangeShapes Go.Deep
def N7 (P:Program) (t:TypeId):Option (List (TypeId×Nat×Nat)):=match P.underlying t with
 | some (.struct fs)=>some (fs.toList.map fun f=>(f.type,f.offset,P.cellsOf f.type))
 | _=>none
section
variable {H:Type} {enc:TypeId×Value->H} {P:Program} {w:World}
def Td (enc:TypeId×Value->H) (P:Program) (w:World) (n:Nat) (t:TypeId) (cs:List Value):Prop:= ∃y,DataW.trod enc P w 0 (fun _=>true) true n t cs=some y∧ ∀k∈y.1.weights P t,k<=reachBytes
theorem qT {t:TypeId}: ∀ {l:List (DataW H)} {d:DataW H},d∈l-> ∀k∈d.weights P t,k∈DataW.weightsAll P t l
 | y :: l,d,hd,k,hk=>by
  rw [DataW.weightsAll,List.mem_append]
  rcases List.mem_cons.1 hd with rfl|hd
  ·exact .inl hk
  ·exact .inr (qT hd k hk)
theorem N9 {n:Nat} {t:TypeId} {cs:List Value} (ht:P.underlying t=some (.int .i64)) (h:Td enc P w n t cs): ∃k,cs=[.int .i64 k]∧(Lit.int .i64 k).wf=true:=by
 obtain ⟨y,h,_⟩:=h;obtain ⟨k,rfl,_,hk⟩:=DataW.trod_int ht h;exact ⟨k,rfl,hk⟩
theorem Jn {n:Nat} {t:TypeId} {cs:List Value} (ht:P.underlying t=some .string) (h:Td enc P w n t cs): ∃s,cs=[.string s]∧xG s:=by
 obtain ⟨y,h,hy⟩:=h;obtain ⟨s,rfl,rfl,hs⟩:=DataW.trod_string ht h;refine ⟨s,rfl, ?_⟩
 have:=hy s.data.toList.length (by rw [DataW.weights];exact List.mem_singleton.2 rfl)
 unfold reachBytes at this;unfold xG;have e:s.size=s.data.toList.length:=rfl;omega
theorem vW {n:Nat} {t:TypeId} {cs:List Value} {l:List (TypeId×Nat×Nat)} (hs:N7 P t=some l) (h:Td enc P w n t cs) :
  ∃m,n=m+1∧cs.length=P.cellsOf t∧ ∀(i:Nat) T off sz,l[i]? = some (T,off,sz)->Td enc P w m T ((cs.drop off).take sz):=by
 obtain ⟨y,h,hy⟩:=h;unfold N7 at hs
 split at hs
 ·rename_i fs ht;cases hs;obtain ⟨xs,m,rfl,rfl,h1,h2,h3⟩:=DataW.trod_struct ht h;refine ⟨m,rfl,h1,fun i T off sz hi=> ?_⟩;rw [Ut] at hi
  cases hf:fs[i]? with
  | none=>simp [hf] at hi
  | some f=>
   simp [hf] at hi;obtain ⟨rfl,rfl,rfl⟩:=hi
   have:=h3 i f hf
   have hlt:i<xs.length:=by rw [h2];exact (Array.getElem?_eq_some_iff.1 hf).1
   rw [Uq hlt] at this;refine ⟨_,this,fun k hk=>hy k ?_⟩;simp only [DataW.weights,ht];exact DataW.weights_mem_each (j:=i) (t:=f.type) (d:=xs[i].1) (by simp [hf]) (by simp [hlt]) k hk
 ·cases hs
theorem Jm {α:Type} [Inhabited α] {n:Nat} {t e:TypeId} {z:Nat} {v:Value} {rd:α->List Value->Prop} {okx:α->Prop} (ht:P.underlying t=some (.slice e)) (hz:P.cellsOf e=z) (hz0:0<z) (hby:0<P.bytesOf e)
  (h:Td enc P w n t [v]) (hrd: ∀m cs,n=m+1->Td enc P w m e cs-> ∃x,rd x cs∧okx x): ∃xs:List α,fP w z rd xs v∧(∀x,x∈xs->okx x)∧xs.length<=140737488355328:=by
 obtain ⟨y,h,hy⟩:=h
 rcases DataW.trod_slice ht h with ⟨h0,_⟩|⟨a,len,cap,elems,rest,m,rfl,h0,rfl,hb,hl,hm,hlen,hel,hsp,_⟩
 ·cases h0;exact ⟨[], .inl ⟨.inl rfl,rfl⟩,fun x hx=>(by cases hx),by simp⟩
 ·cases h0;rw [hz] at hel hsp;obtain ⟨hrl,hre⟩:=hsp rfl;have hw:=hy ((elems.length+rest.length) * P.bytesOf e) (by simp [DataW.weights,ht])
  have hln:len<=140737488355328:=by
   unfold reachBytes at hw
   have:elems.length+rest.length<=(elems.length+rest.length) * P.bytesOf e:=Nat.le_mul_of_pos_right _ hby
   omega
  by_cases hc:cap=0
  ·subst hc
   obtain rfl:len=0:=by omega
   exact ⟨[], .inl ⟨.inr ⟨a,rfl⟩,rfl⟩,fun x hx=>(by cases hx),by simp⟩
  ·have hspot:a.spot=none:=by
    have k: ∃u,((w.cells? 0 (a.add (0 * z)) z).bind (DataW.trod enc P w 0 (fun _=>true) true m e))=some u:=by
     rcases Nat.eq_zero_or_pos len with q|q
     ·subst q
      have:=hre 0 (by omega)
      rw [Uq (by omega)] at this;exact ⟨_,this⟩
     ·have:=hel 0 q
      rw [Uq (by omega)] at this;exact ⟨_,this⟩
    obtain ⟨u,hu⟩:=k;obtain ⟨cs,h1,_⟩:=VE.1 hu;obtain ⟨_,h2,h3⟩:=World.cells?_some h1;have h4:=h3 0 hz0;rw [Uq (by omega)] at h4
    have:=World.cell?_spot h4
    simpa [Addr.add] using this
   obtain ⟨b,o,sp⟩:=a;cases hspot
   have hx: ∀i,i<len-> ∃x:α,okx x∧ ∃cs,rd x cs∧cJ w b (o+i * z) cs:=fun i hi=>by
    have h1:=hel i hi;rw [Uq (by omega)] at h1;obtain ⟨cs,h2,h3⟩:=VE.1 h1
    obtain ⟨x,q1,q2⟩:=hrd m cs rfl ⟨_,h3,fun k hk=>hy k (by
     simp only [DataW.weights,ht]
     refine List.mem_cons_of_mem _ (List.mem_append_left _ (qT (List.mem_map_of_mem (List.getElem_mem (l:=elems) (n:=i) (by omega))) k hk)))⟩
    obtain ⟨_,h4,h5⟩:=World.cells?_some h2;refine ⟨x,q2,cs,q1, ?_⟩
    have key: ∀(l:List Value) (off:Nat),(∀(j:Nat) v,l[j]? = some v->w.cell? ⟨b,off+j,none⟩=some v)->cJ w b off l:=by
     intro l
     induction l with
     | nil=>exact fun _ _=>trivial
     | cons y l ih=>exact fun off h=>⟨by simpa using h 0 y rfl,ih (off+1) (fun j v hj=>by rw [show off+1+j=off+(j+1) by omega];exact h (j+1) v (by simpa using hj))⟩
    refine key cs _ (fun j v hj=> ?_);have hjl:=(Uc.1 hj).1;have h6:=h5 j (by omega);rw [hj,Addr.add_lit,Addr.add_lit] at h6;exact h6
   obtain ⟨f,hf⟩:=choose_lt hx
   refine ⟨(List.range len).map f, .inr ⟨b,o,cap,by simp,by simpa using hl,hm,fun i x hi=> ?_⟩,fun x hx=> ?_,by simp;omega⟩
   ·rw [Ut] at hi
    have hil:i<len:=by
     rcases Ue i len with q|q
     ·exact q
     ·rw [Uv (by simpa using q)] at hi;cases hi
    rw [Uu hil] at hi;cases hi;exact (hf i hil).2
   ·obtain ⟨i,hi,rfl⟩:=List.mem_map.1 hx;exact (hf i (List.mem_range.1 hi)).1
end
section
variable {H:Type} {enc:TypeId×Value->H} {w:World}
instance:Inhabited Ex:=⟨.mk 0 ⟨#[]⟩ []⟩
instance:Inhabited ui:=⟨⟨0,⟨#[]⟩,⟨#[]⟩,⟨0,0,⟨#[]⟩⟩⟩⟩
instance:Inhabited Ca:=⟨⟨0,default,default⟩⟩
instance:Inhabited nk:=⟨⟨⟨#[]⟩,⟨#[]⟩,false,⟨#[]⟩,⟨#[]⟩,default⟩⟩
theorem Qt:Tryz.prog.underlying 9=some .string:=by kernel_rfl
theorem TS:Tryz.prog.underlying 22=some (.int .i64):=by kernel_rfl
theorem SR:N7 Tryz.prog 25=some [(22,0,1),(9,1,1),(23,2,1)]:=by kernel_rfl
theorem RD:Tryz.prog.cellsOf 25=3:=by kernel_rfl
theorem Sx:Tryz.prog.underlying 23=some (.slice 25):=by kernel_rfl
theorem Tz:0<Tryz.prog.bytesOf 25:=of_decide_eq_true (by kernel_rfl)
theorem Qq: ∀(n:Nat) {cs:List Value},Td enc Tryz.prog w n 25 cs-> ∃x:Ex,eu w x cs∧x.ok:=by
 intro n
 induction n using Nat.strongRecOn with
 | _ n ih=>
  intro cs h;obtain ⟨m,rfl,hl,hf⟩:=vW SR h;rw [RD] at hl
  obtain ⟨a,b,c,rfl⟩: ∃a b c,cs=[a,b,c]:=by
   rcases cs with _|⟨a,_|⟨b,_|⟨c,_|⟨d,cs⟩⟩⟩⟩
   ·cases hl
   ·cases hl
   ·cases hl
   ·exact ⟨a,b,c,rfl⟩
   ·simp at hl
  obtain ⟨k,e0,_⟩:=N9 TS (hf 0 _ _ _ rfl);obtain ⟨s,e1,h1⟩:=Jn Qt (hf 1 _ _ _ rfl);obtain ⟨xs,h2,h3,_⟩:=Jm Sx RD (by omega) Tz (hf 2 _ _ _ rfl) (rd:=eu w) (okx:=Ex.ok) (fun m' cs' hm hx=>ih m' (by omega) hx);cases e0;cases e1;exact ⟨.mk k s xs,by rw [eu];exact ⟨_,rfl,gJ.2 h2⟩,by rw [Ex.ok];exact ⟨h1,mI.2 h3⟩⟩
end
open Go.ChangeShapes Go.WideShapes Go.ChangeAt Go.RowKit
theorem ar.Oc {P:Program} {f:FuncId} {args:List AV} {v:Value} (h:ar P f args (.v v)) {w:World} {vargs:Array Value} (hr:fK (fun _=>True) (fun _ _=>Go.undef) [] w args vargs) (hG:eh (fun _=>True) (fun _ _=>Go.undef) [] w:=by exact fun g T cs hg=>by cases hg) :
  Calls P f vargs w (FJ w v):=by
 refine (h.2.2 _ _ w vargs (RO.nil _ _ _ (fun _ _=>trivial) hG) hr).mono fun e w' hf=> ?_;obtain ⟨x,nu',o',r,rfl,hm,_,hx,rfl,rfl⟩:=hf;have e1:=hx.cO;subst e1;exact ⟨rfl,hm.os,hm.tape,hm.output,hm.size,fun b hb=>(hm.keep b hb (bl _ _)).1⟩
section
variable {H:Type} {enc:TypeId×Value->H} {w:World}
end
open Go.ChangeShapes Go.WideShapes Go.ChangeAt Go.RowKit
section
variable {H:Type} {enc:TypeId×Value->H} {w:World}
theorem Dp {v:Value} {d:DataW H} {ps:List MemPlace} (h:DataW.Trod enc Tryz.prog w 0 (fun _=>true) true 25 v d ps) (hw: ∀k∈d.weights Tryz.prog 25,k<=reachBytes) :
  ∃(x:Ex) (cx:List Value),v = .agg cx.toArray∧eu w x cx∧x.ok:=by
 obtain ⟨n,h⟩:=h;have ht:Td enc Tryz.prog w n 25 v.cells.toList:=⟨_,h,hw⟩;obtain ⟨m,_,hl,_⟩:=vW SR ht;rw [RD] at hl;obtain ⟨x,h1,h2⟩:=Qq n ht
 cases v with
 | agg cs=>exact ⟨x,cs.toList,by simp,h1,h2⟩
 | _=>simp [Value.cells] at hl
theorem yN {D:Nat->Prop} {nu:Nat->Nat->Value} (hD: ∀b,b<w.heap.size->D b) {x:Ex} {cx:List Value} (h:eu w x cx):RA D nu [] w (.agg (aS x)) (.agg cx.toArray):=by
 obtain ⟨h1,h2⟩:=Ps (nu:=nu) hD x cx h;exact .agg _ _ (by simpa using h1.1) (fun i c y hc hy=>h1.2 i c y hc (by simpa using hy)) (fun i y hy=>h2 y (UK (by simpa using hy)))
theorem Jt:Tryz.prog.underlying 26=some (.slice 9):=by kernel_rfl
theorem M6:Tryz.prog.cellsOf 9=1:=by kernel_rfl
theorem M5:0<Tryz.prog.bytesOf 9:=of_decide_eq_true (by kernel_rfl)
theorem FA {a:Option Addr} {len cap:Nat} {d:DataW H} {ps:List MemPlace} (h:DataW.Trod enc Tryz.prog w 0 (fun _=>true) true 26 (.slice a len cap) d ps) (hw: ∀k∈d.weights Tryz.prog 26,k<=reachBytes) :
  ∃(l:List ByteArray),kF w l (.slice a len cap)∧(∀s,s∈l->xG s)∧l.length<=140737488355328:=by
 obtain ⟨n,h⟩:=h;have ht:Td enc Tryz.prog w n 26 [.slice a len cap]:=⟨_,h,hw⟩
 obtain ⟨xs,h2,h3,h4⟩:=Jm Jt M6 (by omega) M5 ht (rd:=F7) (okx:=xG) (fun m' cs' hm hx=>by
  obtain ⟨s,e1,e2⟩:=Jn Qt hx
  exact ⟨s,e1,e2⟩)
 exact ⟨xs,h2,h3,h4⟩
end
end
end Go.Proofs.YtfflpdekojlnmaaGreatDoor
