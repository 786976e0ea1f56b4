/- texts of one claim, one behind the other. -/
import Derived.Test.YtlhhccmopfamhaaGreatDoorWRelG
import Derived.KernelRfl
import Derived.Test.YtlhhccmopfamhaaGreatDoorProg
import Derived.Test.YtlhhccmopfamhaaGreatDoorWAbsJ
import Derived.Test.YtlhhccmopfamhaaGreatDoorWBase2
set_option linter.unusedSimpArgs false
set_option linter.unusedVariables false
set_option maxRecDepth 100000
set_option maxHeartbeats 16000000
open Array renaming getElem?_append_left -> TJ, getElem?_append_right -> T7, replicate_succ -> UB, replicate_zero -> UC
open Bool renaming false_eq_true -> Uw, or_eq_true -> Uk, and_eq_true -> TY, not_eq_true' -> UA
open List renaming getElem?_append_left -> S8, getElem?_append_right -> TD, mem_of_getElem? -> TI, getElem?_inj -> Ux, getElem?_eq_some_iff -> S7, all_eq_true -> Ui, getElem?_eq_getElem -> Tn, getElem_mem -> Uy, getD_eq_getElem?_getD -> T3, mem_range -> Uj, size_toArray -> Ty, getElem?_toArray -> Tp, getElem?_of_mem -> Tx, getElem?_drop -> Tl, getElem?_cons_zero -> Ud, getElem?_cons_succ -> UD
open Nat renaming lt_or_ge -> S9, eq_zero_or_pos -> Uz
namespace Go.Proofs.YtlhhccmopfamhaaGreatDoor
open Go.RowKit
section
section
variable {D:Nat->Prop} {nu:Nat->Nat->Value} {o:List (Option aa)} {w:World} {P:Program}
def FW:Op->Bool
 | .move _| .assign _| .nilCheck _| .build .. | .binOp .. | .unOp .. | .convert .. | .makeFunc .. | .fieldAddr .. | .field .. | .index .. | .extract .. | .pick .. | .box .. | .buildSlice .. =>true
 | _=>false
theorem B1 {op:Op} (h:FW op=true) {t:List AV} {o o':List (Option aa)} {y:iz} {K:AV->Prop} (hd:cO P op ⟨t,o,y⟩ K):cO P op ⟨t,o',y⟩ K:=by
 cases op with
 | makeFunc fn a b=>cases fn<;>exact hd
 | _=>first|(cases h;done)|exact hd
def tS (P:Program) (f:FuncId) (args:List AV) (o:List (Option aa)) (K:AV->List (Option aa)->Prop):Prop:= ∃r o',aR P f args o r o'∧K r o'
@[congr] theorem Hc {f:FuncId} {args args':List AV} {o o':List (Option aa)} {K:AV->List (Option aa)->Prop} (h:args=args') (k:o=o'):tS P f args o K=tS P f args' o' K:=by rw [h,k]
def BN (P:Program) (f:AV) (args:List AV) (o:List (Option aa)) (K:AV->List (Option aa)->Prop):Prop:=match f with
 | .fn g first caps=>tS P g (first++args++caps) o K
 | _=>False
@[congr] theorem Kq {f f':AV} {args args':List AV} {o o':List (Option aa)} {K:AV->List (Option aa)->Prop} (h:f=f') (k:args=args') (l:o=o'):BN P f args o K=BN P f' args' o' K:=by rw [h,k,l]
theorem Hf (g:FuncId) (first caps args:List AV) (o:List (Option aa)) (K:AV->List (Option aa)->Prop):BN P (.fn g first caps) args o K=tS P g (first++args++caps) o K:=rfl
def rO (P:Program) (op:Op) (s:AS) (K:AV->List (Option aa)->Prop):Prop:=match op with
 | .pick _ _ _=>False
 | .call c=>match c.callee with
  | .value f=>BN P (s.ev f) (c.args.toList.map s.ev) s.o K
  | _=>AR (H2 P s.ev s.o (.call c)) K
 | op=>AR (H2 P s.ev s.o op) K
theorem Hx {s:AS} {op:Op} {K:AV->List (Option aa)->Prop} (h:rO P op s K): ∃r o',K r o'∧rO P op s (fun r' o''=>r'=r∧o''=o'):=by
 unfold rO at h ⊢
 split at h
 ·exact h.elim
 ·split at h
  ·unfold BN at h ⊢
   split at h
   ·obtain ⟨r,o',h1,h2⟩:=h;exact ⟨r,o',h2,r,o',h1,rfl,rfl⟩
   ·exact h.elim
  ·unfold AR at h ⊢
   split at h
   ·exact ⟨_,_,h.2,h.1,rfl,rfl⟩
   ·exact h.elim
 ·unfold AR at h ⊢
  split at h
  ·exact ⟨_,_,h.2,h.1,rfl,rfl⟩
  ·exact h.elim
theorem BZ {s:AS} {rho:Operand->Value} {oo:Oper} {r:AV} {o':List (Option aa)} (h:RO D nu s.o w) (hev:G8 D nu s.o w s.ev rho oo.op) (hd:rO P oo.op s (fun r' o''=>r'=r∧o''=o')) :
  (∃v w' nu',((execOp rho oo).run P w = .ok (.value v) w'∨((execOp rho oo).run P w = .ok .skip w'∧v=Go.undef))∧bl nu s.o w nu' o' w'∧RO D nu' o' w'∧RA D nu' o' w' r v) ∨
  (∃g vargs,(execOp rho oo).run P w = .ok (.enter g vargs) w∧Calls P g vargs w (fun e w'=> ∃v nu',e = .returned v∧bl nu s.o w nu' o' w'∧RO D nu' o' w'∧RA D nu' o' w' r v)):=by
 have hop: ∀op,oo.op=op->AR (H2 P s.ev s.o op) (fun r' o''=>r'=r∧o''=o')->(∃v w' nu',((execOp rho oo).run P w = .ok (.value v) w'∨((execOp rho oo).run P w = .ok .skip w'∧v=Go.undef))∧bl nu s.o w nu' o' w'∧RO D nu' o' w'∧RA D nu' o' w' r v):=by
  intro op ho hh;subst ho;unfold AR at hh
  split at hh
  ·rename_i p r1 o1 e;obtain ⟨hp,rfl,rfl⟩:=hh;obtain ⟨v,w',nu',h1,h2,h3,h4⟩:=wb (P:=P) h hev e hp;exact ⟨v,w',nu',h1,h2,h3,h4⟩
  ·exact hh.elim
 unfold rO at hd
 split at hd
 ·exact hd.elim
 ·rename_i c ho
  split at hd
  ·rename_i f hc;unfold BN at hd
   split at hd
   ·rename_i g first caps e
    obtain ⟨r1,o1,hcall,rfl,rfl⟩:=hd;have hf:=hev f (by rw [ho];simp [Op.operands,Call.operands,hc]);rw [e] at hf;generalize hq:rho f=vf at hf
    cases hf with
    | fn _ _ _ fi ca q1 q2 q3 q4=>
    have hargs: ∀x,x∈c.args.toList->RA D nu s.o w (s.ev x) (rho x):=fun x hx=>hev x (by rw [ho];simp only [Op.operands,Call.operands,hc];simp;exact .inr (by simpa using hx))
    have hra:gk D nu s.o w (first++c.args.toList.map s.ev++caps) (fi++c.args.map rho++ca):=by
     refine ⟨by simp [q1,q2],fun i cc x k1 k2=> ?_⟩;rw [List.append_assoc] at k1;rw [Array.append_assoc] at k2
     rcases S9 i first.length with l1|l1
     ·rw [S8 l1] at k1;rw [TJ (by omega)] at k2;exact q3 i cc x k1 k2
     ·rw [TD l1] at k1;rw [T7 (by omega)] at k2;rw [q1] at k1
      rcases S9 (i - fi.size) c.args.size with l2|l2
      ·rw [S8 (by simpa using l2),List.getElem?_map] at k1;rw [TJ (by simpa using l2),Array.getElem?_map] at k2
       have e2:c.args.toList[i - fi.size]? = c.args[i - fi.size]? :=by simp
       rw [e2] at k1
       cases hk2:c.args[i - fi.size]? with
       | none=>rw [hk2] at k1;cases k1
       | some y=>
        rw [hk2] at k1 k2;cases k1;cases k2;exact hargs y (TI (by rw [e2];exact hk2))
      ·rw [TD (by simpa using l2)] at k1;rw [T7 (by simpa using l2)] at k2;simp only [List.length_map,Array.length_toList,Array.size_map] at k1 k2;exact q4 _ cc x k1 k2
    refine .inr ⟨g,_, ?_,(hcall.2 D nu w _ h hra).mono ?_⟩
    ·simp only [execOp,ho,resolve,hc,hq,Deferred.ofValue,Sem.run_bind,Sem.run_pure,Result.andThen_ok,invoke];exact gx hcall.1 _ w
    ·rintro e w' ⟨v,nu',o2,r2,rfl,m1,m2,m3,rfl,rfl⟩;exact ⟨v,nu',rfl,m1,m2,m3⟩
   ·exact hd.elim
  ·exact .inl (hop _ ho hd)
 ·exact .inl (hop _ rfl hd)
def ke:List (Nat×Nat)->Nat->Option Nat
 | [],_=>none
 | (j,lo) :: fs,k=>if j=k∧lo<1000 then some lo else ke fs k
def uP:List (Nat×Nat)->Nat->Bool
 | [],_=>false
 | (j,lo) :: fs,k=>decide (j=k∧lo=1000)||uP fs k
def Lj:Option (List (Option aa)->Prop)->List (Option aa)->Prop
 | none,_=>True
 | some p,o=>p o
def b7 (P:Program) (all:List Oper) (es:List Nat) (fs:List (Nat×Nat)):List Oper->Nat->AS->List (List (Option aa))->Option (List (Option aa)->Prop)->(AS->Prop)->Prop
 | [],_,s,_,_,Q=>Q s
 | oo :: rest,k,s,hist,pn,Q=>if es.contains k then (match oo.guard with
   | none=>rO P oo.op s (fun r o'=>Lj pn o'∧b7 P all es fs rest (k+1) (s.put oo.dst r o') (hist++[s.o]) pn Q)
   | some _=>False) else match ke fs k with
   | some lo=>oo.guard=none∧cO P oo.op s (fun r=>(∀o',o'∈hist.drop lo->cO P oo.op ⟨s.t,o',s.y⟩ (fun r'=>r'=r))∧b7 P all es fs rest (k+1) (s.put oo.dst r s.o) hist pn Q)
   | none=>if uP fs k=true then oo.guard=none∧cO P oo.op s (fun r=>b7 P all es fs rest (k+1) (s.put oo.dst r s.o) hist (some fun o'=>Lj pn o'∧cO P oo.op ⟨s.t,o',s.y⟩ (fun r'=>r'=r)) Q)
    else dT P all oo s (fun s'=>b7 P all es fs rest (k+1) s' hist pn Q)
def MK (P:Program) (all:List Oper) (es:List Nat) (fs:List (Nat×Nat)):List Oper->Nat->AS->List (List (Option aa))->List AV->List (List (Option aa))->AS->Prop
 | [],_,s,_,rs,os,sf=>rs=[]∧os=[]∧sf=s
 | oo :: rest,k,s,hist,rs,os,sf=> ∃r rs',rs=r :: rs' ∧
   ((es.contains k=true∧oo.guard=none∧ ∃o' os',os=o' :: os'∧rO P oo.op s (fun r' o''=>r'=r∧o''=o')∧MK P all es fs rest (k+1) (s.put oo.dst r o') (hist++[s.o]) rs' os' sf) ∨
   (es.contains k=false∧(((oo.guard=none∨ ∃j want b,oo.guard=some (j,want)∧iJ all s j=some (some b)∧(b==want)=true)∧cO P oo.op s (fun r'=>r'=r)∧(∀lo,ke fs k=some lo-> ∀o',o'∈hist.drop lo->cO P oo.op ⟨s.t,o',s.y⟩ (fun r'=>r'=r))∧(ke fs k=none->uP fs k=true-> ∀o',o'∈os->cO P oo.op ⟨s.t,o',s.y⟩ (fun r'=>r'=r))) ∨
    (ke fs k=none∧uP fs k=false∧r = .v Go.undef∧ ∃j want g,oo.guard=some (j,want)∧iJ all s j=some g∧(g=none∨ ∃b,g=some b∧(b==want)=false)))∧MK P all es fs rest (k+1) (s.put oo.dst r s.o) hist rs' os sf))
theorem ei {all:List Oper} {es:List Nat} {fs:List (Nat×Nat)}: ∀(rest:List Oper) (k:Nat) (s:AS) (hist:List (List (Option aa))) {pn:Option (List (Option aa)->Prop)} {Q:AS->Prop},b7 P all es fs rest k s hist pn Q-> ∃rs os sf,MK P all es fs rest k s hist rs os sf∧(∀o',o'∈os->Lj pn o')∧Q sf
 | [],k,s,hist,pn,Q,h=>⟨[],[],s,⟨rfl,rfl,rfl⟩,(fun _ h=>by cases h),h⟩
 | oo :: rest,k,s,hist,pn,Q,h=>by
  simp only [b7] at h
  cases he:es.contains k
  ·rw [he] at h;simp only [Uw,if_false] at h
   cases hf:ke fs k with
   | some lo=>
    rw [hf] at h;obtain ⟨hg,h⟩:=h;obtain ⟨r,⟨hh,hk⟩,hr⟩:=jh h;obtain ⟨rs,os,sf,h1,h2⟩:=ei rest (k+1) _ hist hk;exact ⟨r :: rs,os,sf,⟨r,rs,rfl, .inr ⟨he, .inl ⟨.inl hg,hr,(fun lo' hl=>by rw [hf] at hl;cases hl;exact hh),fun hn=>by rw [hf] at hn;cases hn⟩,h1⟩⟩,h2⟩
   | none=>
   rw [hf] at h
   have hno: ∀r lo,ke fs k=some lo-> ∀o',o'∈hist.drop lo->cO P oo.op ⟨s.t,o',s.y⟩ (fun r'=>r'=r):=fun r lo hl=>by rw [hf] at hl;cases hl
   simp only at h;cases hlt:uP fs k
   case true=>
    rw [hlt] at h;simp only [if_true] at h;obtain ⟨hg,h⟩:=h;obtain ⟨r,hk,hr⟩:=jh h;obtain ⟨rs,os,sf,h1,h0,h2⟩:=ei rest (k+1) _ hist hk;exact ⟨r :: rs,os,sf,⟨r,rs,rfl, .inr ⟨he, .inl ⟨.inl hg,hr,hno r,fun _ _ o' ho'=>(h0 o' ho').2⟩,h1⟩⟩,fun o' ho'=>(h0 o' ho').1,h2⟩
   have hla: ∀(r:AV) (os:List (List (Option aa))),ke fs k=none->uP fs k=true-> ∀o',o'∈os->cO P oo.op ⟨s.t,o',s.y⟩ (fun r'=>r'=r):=fun r os _ h=>by rw [hlt] at h;cases h
   rw [hlt] at h;simp only [Uw,if_false] at h;simp only [dT] at h
   split at h
   ·rename_i hg;obtain ⟨r,hk,hr⟩:=jh h;obtain ⟨rs,os,sf,h1,h2⟩:=ei rest (k+1) _ hist hk;exact ⟨r :: rs,os,sf,⟨r,rs,rfl, .inr ⟨he, .inl ⟨.inl hg,hr,hno r,hla r _⟩,h1⟩⟩,h2⟩
   ·rename_i j want hg;unfold rP at h
    split at h
    ·rename_i b e
     cases hb:b==want
     ·rw [hb,sl] at h;obtain ⟨rs,os,sf,h1,h2⟩:=ei rest (k+1) _ hist h;exact ⟨_ :: rs,os,sf,⟨_,rs,rfl, .inr ⟨he, .inr ⟨hf,hlt,rfl,j,want,_,hg,e, .inr ⟨b,rfl,hb⟩⟩,h1⟩⟩,h2⟩
     ·rw [hb,vQ] at h;obtain ⟨r,hk,hr⟩:=jh h;obtain ⟨rs,os,sf,h1,h2⟩:=ei rest (k+1) _ hist hk;exact ⟨r :: rs,os,sf,⟨r,rs,rfl, .inr ⟨he, .inl ⟨.inr ⟨j,want,b,hg,e,hb⟩,hr,hno r,hla r _⟩,h1⟩⟩,h2⟩
    ·rename_i e;obtain ⟨rs,os,sf,h1,h2⟩:=ei rest (k+1) _ hist h;exact ⟨_ :: rs,os,sf,⟨_,rs,rfl, .inr ⟨he, .inr ⟨hf,hlt,rfl,j,want,_,hg,e, .inl rfl⟩,h1⟩⟩,h2⟩
    ·exact h.elim
  ·rw [he] at h;simp only [if_true] at h
   split at h
   ·rename_i hg;obtain ⟨r,o',⟨hpo,hk⟩,hr⟩:=Hx h;obtain ⟨rs,os,sf,h1,h0,h2⟩:=ei rest (k+1) _ _ hk;exact ⟨r :: rs,o' :: os,sf,⟨r,rs,rfl, .inl ⟨he,hg,o',os,rfl,hr,h1⟩⟩,fun o'' ho=>(List.mem_cons.1 ho).elim (fun e=>by rw [e];exact hpo) (h0 o''),h2⟩
   ·exact h.elim
def r7 (ops:Array Oper):Nat->Nat->Nat->Bool
 | 0,_,_=>false
 | n+1,j,i=>az ops j i||(List.range ops.size).any (fun k=>az ops j k&&r7 ops n k i)
def IE (ops:Array Oper) (es:List Nat) (j:Nat):Bool:=es.all (fun e=>decide (e=j)||if e<j then r7 ops ops.size j e else r7 ops ops.size e j)
def tw:List Nat->Bool
 | []=>true
 | [_]=>true
 | a :: b :: l=>decide (a<b)&&tw (b :: l)
def E5 (ops:Array Oper) (es:List Nat) (fs:List (Nat×Nat)) (j:Nat):Bool:=match ke fs j with
 | some lo=>decide (lo<=es.length)&&(es.take lo).all (fun e=>r7 ops ops.size j e)&&es.all (fun e=>decide (e<j)||(e !=j&&r7 ops ops.size e j))
 | none=>false
def FC (ops:Array Oper) (es:List Nat) (fs:List (Nat×Nat)) (j:Nat):Bool:= !es.contains j&&(ke fs j).isNone&&uP fs j&&es.all (fun e=>decide (j<=e)||r7 ops ops.size j e)
def qC (ops:Array Oper) (es:List Nat) (fs:List (Nat×Nat)):Bool:=mX ops&&tw es&&es.all (fun e=>decide (e<ops.size))&&(List.range ops.size).all (fun j=>(match ops[j]? with|some oo=>FW oo.op|none=>true) && !es.contains j||IE ops es j||E5 ops es fs j||FC ops es fs j)
structure GG (D:Nat->Prop) (nu0:Nat->Nat->Value) (o0:List (Option aa)) (w0:World) (l:List Oper) (es:List Nat) (O:Nat->List (Option aa)) where
 w:World
 nu:Nat->Nat->Value
 done:Nat->Bool
 c:Nat
 ro:RO D nu (O c) w
 mono:bl nu0 o0 w0 nu (O c) w
 cl: ∀j i,done j=true->az l.toArray j i=true->done i=true
 ef: ∀k e,es[k]? = some e->(done e=true↔k<c)
 le:c<=es.length
variable {nu0:Nat->Nat->Value} {o0:List (Option aa)} {w0:World} {l:List Oper} {es:List Nat} {O:Nat->List (Option aa)}
def cC (D:Nat->Prop) (nu0:Nat->Nat->Value) (o0:List (Option aa)) (w0:World) (l:List Oper) (es:List Nat) (O:Nat->List (Option aa)):jW:=
 ⟨GG D nu0 o0 w0 l es O,GG.w,fun g g'=>bl g.nu (O g.c) g.w g'.nu (O g'.c) g'.w∧ ∀j,g.done j=true->g'.done j=true,fun g=>⟨.refl _ _ _,fun _ h=>h⟩,fun _ _ _ h k=>⟨h.1.trans k.1,fun j hj=>k.2 j (h.2 j hj)⟩,fun j g=>g.done j=false⟩
def lE (D:Nat->Prop) (nu0:Nat->Nat->Value) (o0:List (Option aa)) (w0:World) (l:List Oper) (es:List Nat) (O:Nat->List (Option aa)) (k:Nat) (r:AV):fI (cC D nu0 o0 w0 l es O):=
 ⟨fun v g=>RA D g.nu (O g.c) g.w r v∧g.done k=true,fun v g g' hR h=>⟨h.1.mono hR.1 (fun _ _ h=>h),hR.2 k h.2⟩⟩
def GG.next (g:GG D nu0 o0 w0 l es O) (k:Nat) (w':World) (hb:Below g.w.heap.size g.w w') (hd: ∀i,az l.toArray k i=true->g.done i=true) (he:es.contains k=false):GG D nu0 o0 w0 l es O where
 w:=w'
 nu:=g.nu
 done:=fun j=>if j=k then true else g.done j
 c:=g.c
 ro:=g.ro.below hb
 mono:=g.mono.trans (ak hb)
 cl:=fun j i h1 h2=>by
  by_cases hi:i=k
  ·simp [hi]
  ·simp only [if_neg hi]
   by_cases hj:j=k
   ·subst hj;exact hd i h2
   ·simp only [if_neg hj] at h1;exact g.cl j i h1 h2
 ef:=fun m e h=>by
  have hne:e≠k:=fun hh=>by
   subst hh
   have:=TI h
   simp [this] at he
  simp only [if_neg hne];exact g.ef m e h
 le:=g.le
theorem GG.K5 (g:GG D nu0 o0 w0 l es O) (k:Nat) (w':World) (hb:Below g.w.heap.size g.w w') (hd: ∀i,az l.toArray k i=true->g.done i=true) (he:es.contains k=false) :
  (cC D nu0 o0 w0 l es O).R g (g.next k w' hb hd he)∧ ∀i,i≠k->(cC D nu0 o0 w0 l es O).pre i g->(cC D nu0 o0 w0 l es O).pre i (g.next k w' hb hd he):=by
 refine ⟨⟨ak hb,fun j hj=> ?_⟩,fun i hi h=> ?_⟩
 ·show (if j=k then true else g.done j)=true
  by_cases hjk:j=k
  ·simp [hjk]
  ·simp [hjk,hj]
 ·show (if i=k then true else g.done i)=false;simp [hi];exact h
def GG.P8 (g:GG D nu0 o0 w0 l es O) (k:Nat) (w':World) (nu':Nat->Nat->Value) (hm:bl g.nu (O g.c) g.w nu' (O (g.c+1)) w') (hr:RO D nu' (O (g.c+1)) w') (hd: ∀i,az l.toArray k i=true->g.done i=true) (he:es[g.c]? = some k) (hn:es.Nodup):GG D nu0 o0 w0 l es O where
 w:=w'
 nu:=nu'
 done:=fun j=>if j=k then true else g.done j
 c:=g.c+1
 ro:=hr
 mono:=g.mono.trans hm
 cl:=fun j i h1 h2=>by
  by_cases hi:i=k
  ·simp [hi]
  ·simp only [if_neg hi]
   by_cases hj:j=k
   ·subst hj;exact hd i h2
   ·simp only [if_neg hj] at h1;exact g.cl j i h1 h2
 ef:=fun m e h=>by
  by_cases hek:e=k
  ·subst hek
   have:m=g.c:=(Ux (S7.1 h).1 hn).1 (h.trans he.symm)
   simp [this]
  ·simp only [if_neg hek]
   have hne:m≠g.c:=fun hh=>by subst hh;rw [he] at h;cases h;exact hek rfl
   rw [g.ef m e h];omega
 le:=(S7.1 he).1
theorem GG.MX (g:GG D nu0 o0 w0 l es O) (k:Nat) (w':World) (nu':Nat->Nat->Value) (hm:bl g.nu (O g.c) g.w nu' (O (g.c+1)) w') (hr:RO D nu' (O (g.c+1)) w') (hd: ∀i,az l.toArray k i=true->g.done i=true) (he:es[g.c]? = some k) (hn:es.Nodup) :
  (cC D nu0 o0 w0 l es O).R g (g.P8 k w' nu' hm hr hd he hn)∧ ∀i,i≠k->(cC D nu0 o0 w0 l es O).pre i g->(cC D nu0 o0 w0 l es O).pre i (g.P8 k w' nu' hm hr hd he hn):=by
 refine ⟨⟨hm,fun j hj=> ?_⟩,fun i hi h=> ?_⟩
 ·show (if j=k then true else g.done j)=true
  by_cases hjk:j=k
  ·simp [hjk]
  ·simp [hjk,hj]
 ·show (if i=k then true else g.done i)=false;simp [hi];exact h
theorem kV (g:GG D nu0 o0 w0 l es O): ∀(n j i:Nat),r7 l.toArray n j i=true->g.done j=true->g.done i=true
 | 0,_,_,h,_=>by cases h
 | n+1,j,i,h,hj=>by
  simp only [r7,Uk,List.any_eq_true,TY] at h
  rcases h with h|⟨k,_,h1,h2⟩
  ·exact g.cl j i hj h
  ·exact kV g n k i h2 (g.cl j k hj h1)
theorem nT (g:GG D nu0 o0 w0 l es O) {n j i:Nat} (h:r7 l.toArray n j i=true) (hd: ∀i,az l.toArray j i=true->g.done i=true):g.done i=true:=by
 cases n with
 | zero=>cases h
 | succ n=>
  simp only [r7,Uk,List.any_eq_true,TY] at h
  rcases h with h|⟨k,_,h1,h2⟩
  ·exact hd i h
  ·exact kV g n k i h2 (hd k h1)
theorem GG.wh (g:GG D nu0 o0 w0 l es O) {k m:Nat} (hf:IE l.toArray es k=true) (hd: ∀i,az l.toArray k i=true->g.done i=true) (hk:g.done k=false) (hm: ∀m' e,es[m']? = some e->(e<k↔m'<m)) (hml:m<=es.length):g.c=m:=by
 simp only [IE,Ui,Uk,decide_eq_true_eq] at hf
 have h1:g.c<=m:=by
  rcases S9 m g.c with q|q
  ·exfalso;have hlt:m<es.length:=Nat.lt_of_lt_of_le q g.le;have he:es[m]? = some es[m]:=Tn hlt;have hdn:=(g.ef m _ he).2 q
   have hge: ¬es[m]<k:=fun hh=>by have:=(hm m _ he).1 hh;omega
   rcases hf _ (Uy hlt) with h|h
   ·rw [h,hk] at hdn;cases hdn
   ·rw [if_neg hge] at h
    have:=kV g _ _ _ h hdn
    rw [hk] at this;cases this
  ·exact q
 have h2:m<=g.c:=by
  rcases Uz m with q|q
  ·omega
  ·have hlt:m - 1<es.length:=by omega
   have he:es[m - 1]? = some es[m - 1]:=Tn hlt;have hlk:=(hm _ _ he).2 (by omega)
   rcases hf _ (Uy hlt) with h|h
   ·omega
   ·rw [if_pos hlk] at h
    have:=(g.ef _ _ he).1 (nT g h hd)
    omega
 omega
theorem GG.H8 (g:GG D nu0 o0 w0 l es O) {k m:Nat} {fs:List (Nat×Nat)} (hf:FC l.toArray es fs k=true) (hd: ∀i,az l.toArray k i=true->g.done i=true) (hm: ∀m' e,es[m']? = some e->(e<k↔m'<m)) (hml:m<=es.length):m<=g.c:=by
 simp only [FC,TY,Ui,Uk,decide_eq_true_eq] at hf
 rcases Uz m with q|q
 ·omega
 ·have hlt:m - 1<es.length:=by omega
  have he:es[m - 1]? = some es[m - 1]:=Tn hlt;have hlk:=(hm _ _ he).2 (by omega)
  rcases hf.2 _ (Uy hlt) with h|h
  ·omega
  ·have:=(g.ef _ _ he).1 (nT g h hd)
   omega
theorem GG.Ev (g:GG D nu0 o0 w0 l es O) {k m lo:Nat} {fs:List (Nat×Nat)} (hf:E5 l.toArray es fs k=true) (hlo:ke fs k=some lo) (hd: ∀i,az l.toArray k i=true->g.done i=true) (hk:g.done k=false) (hm: ∀m' e,es[m']? = some e->(e<k↔m'<m)):lo<=g.c∧g.c<=m:=by
 simp only [E5,hlo,TY,Ui,Uk,decide_eq_true_eq] at hf;obtain ⟨⟨h0,h1⟩,h2⟩:=hf
 constructor
 ·rcases Uz lo with q|q
  ·omega
  ·have hlt:lo - 1<es.length:=by omega
   have he:es[lo - 1]? = some es[lo - 1]:=Tn hlt;have hmem:es[lo - 1]∈es.take lo:=List.mem_take_iff_getElem.2 ⟨lo - 1,by omega,rfl⟩
   have:=(g.ef _ _ he).1 (nT g (h1 _ hmem) hd)
   omega
 ·rcases S9 m g.c with q|q
  ·exfalso;have hlt:m<es.length:=Nat.lt_of_lt_of_le q g.le;have he:es[m]? = some es[m]:=Tn hlt;have hdn:=(g.ef m _ he).2 q
   have hge: ¬es[m]<k:=fun hh=>by have:=(hm m _ he).1 hh;omega
   rcases h2 _ (Uy hlt) with h|h
   ·exact hge h
   ·have:=kV g _ _ _ h.2 hdn
    rw [hk] at this;cases this
  ·exact q
theorem yW {N:jW} {f:Nat->AV->fI N} {rs:List AV} {i:Nat} {e:AV} (h:rs[i]? = some e):uq (rs.mapIdx f) i=f i e:=by
 rw [uq,T3,List.getElem?_mapIdx,h];rfl
theorem H7 {N:jW} {f:Nat->AV->fI N} {rs:List AV} {i:Nat} {e:AV} (h:rs[i]? = some e):uq (rs.mapIdx f) i=f i e:=yW h
structure Hl (l:List Oper) (s:AS) (a:Act) (k:Nat) (sk:AS) (rs:List AV) (A:(Nat->Value)->Act):Prop where
 y:sk.y=s.y
 len:rs.length=k
 ig: ∀x,(A x).defers=a.defers
 size: ∀x,sk.t.length=(A x).tmps.size
 val: ∀x (t:Nat) c v,sk.t[t]? = some c->(A x).tmps[t]? = some v->(s.t[t]? = some c∧a.tmps[t]? = some v)∨ ∃i,i<k∧(∃oi,l[i]? = some oi∧oi.dst=some t)∧rs[i]? = some c∧v=x i
theorem Hl.step {l:List Oper} {s:AS} {a:Act} {k:Nat} {sk:AS} {rs:List AV} {A:(Nat->Value)->Act} (h:Hl l s a k sk rs A) {oo:Oper} (ho:l[k]? = some oo) (r:AV) (o':List (Option aa)) :
  Hl l s a (k+1) (sk.put oo.dst r o') (rs++[r]) (fun x=>(A x).put oo.dst (x k)):=by
 refine ⟨h.y,by simp [h.len],fun x=> ?_,fun x=> ?_,fun x t c v h1 h2=> ?_⟩
 ·have:=h.ig x;cases oo.dst<;>simpa [Act.put] using this
 ·have:=h.size x;cases oo.dst<;>simpa [Act.put,AS.put] using this
 ·have jP:sk.t[t]? = some c->(A x).tmps[t]? = some v->(s.t[t]? = some c∧a.tmps[t]? = some v)∨ ∃i,i<k+1∧(∃oi,l[i]? = some oi∧oi.dst=some t)∧(rs++[r])[i]? = some c∧v=x i:=by
   intro h1 h2
   rcases h.val x t c v h1 h2 with h3|⟨i,q1,q2,q3,q4⟩
   ·exact .inl h3
   ·exact .inr ⟨i,by omega,q2,by rw [S8 (by rw [h.len];exact q1)];exact q3,q4⟩
  cases hd:oo.dst with
  | none=>rw [hd] at h1 h2;exact jP h1 h2
  | some d=>
   rw [hd] at h1 h2;simp only [AS.put,Act.put] at h1 h2
   by_cases hdt:d=t
   ·subst hdt;have hlt:=(S7.1 h1).1;simp only [List.length_set] at hlt;rw [List.getElem?_set_self hlt] at h1;rw [Array.getElem?_setIfInBounds_self_of_lt (by have:=h.size x;omega)] at h2;cases h1;cases h2;exact .inr ⟨k,by omega,⟨oo,ho,hd⟩,by rw [TD (by rw [h.len];exact Nat.le_refl _),h.len,Nat.sub_self];rfl,rfl⟩
   ·rw [List.getElem?_set_ne hdt] at h1;rw [Array.getElem?_setIfInBounds_ne hdt] at h2;exact jP h1 h2
theorem zn {l:List Oper} (hB:mX l.toArray=true) {i j:Nat} {oi oj:Oper} (hij:i<j) (hi:l[i]? = some oi) (hj:l[j]? = some oj):az l.toArray j i=true∨ ∀d,oi.dst=some d->d∉oj.looksAt l.toArray:=by
 simp only [mX,TY,Ui,Uj,Ty] at hB;have hjn:=(S7.1 hj).1
 have:=(hB.2 j hjn).1 i hij
 simp only [Bj,Tp,hi,hj,TY,Uk,UA] at this
 rcases this.1.1.1 with h|h
 ·exact .inl h
 ·refine .inr (fun e he=> ?_);rw [he] at h;simpa using h
theorem kD: ∀ {l:List Nat},tw l=true-> ∀(i j x y:Nat),i<j->l[i]? = some x->l[j]? = some y->x<y
 | [],_,i,j,x,y,_,h,_=>by simp at h
 | [a],_,i,j,x,y,hij,h1,h2=>by
  have:=(S7.1 h2).1
  simp at this;omega
 | a :: b :: l,h,i,j,x,y,hij,h1,h2=>by
  simp only [tw,TY,decide_eq_true_eq] at h
  match i,j,h1,h2 with
  | 0,1,h1,h2=>cases h1;cases h2;exact h.1
  | 0,j+2,h1,h2=>
   cases h1
   have:=kD h.2 0 (j+1) b y (by omega) rfl (by simpa using h2)
   omega
  | i+1,j+1,h1,h2=>exact kD h.2 i j x y (by omega) (by simpa using h1) (by simpa using h2)
theorem iu {l:List Nat} (h:tw l=true):l.Nodup:=by
 refine List.pairwise_iff_getElem.2 (fun i j hi hj hij=> ?_)
 have:=kD h i j _ _ hij (Tn hi) (Tn hj)
 omega
theorem Al {l:List Oper} {es:List Nat} {fs:List (Nat×Nat)} (hsz: ∀e,e∈es->e<l.length) (hrise:tw es=true): ∀(rest:List Oper) (k m:Nat) (s:AS) (hist:List (List (Option aa))) (rs:List AV) (os:List (List (Option aa))) (sf:AS),l.drop k=rest->k<=l.length->MK P l es fs rest k s hist rs os sf->m<=es.length ->
  (∀m' e,es[m']? = some e->(e<k↔m'<m))->os.length+m=es.length
 | [],k,m,s,hist,rs,os,sf,hl,hk,ht,hm,hme=>by
  obtain ⟨rfl,rfl,rfl⟩:=ht
  have hkl:k=l.length:=by have:=congrArg List.length hl;simp at this;omega
  rcases S9 m es.length with q|q
  ·have he:es[m]? = some es[m]:=Tn q
   have:=(hme m _ he).1 (by rw [hkl];exact hsz _ (Uy q))
   omega
  ·simp;omega
 | oo :: rest,k,m,s,hist,rs,os,sf,hl,hk,ht,hm,hme=>by
  have hlt:k<l.length:=by have:=congrArg List.length hl;simp at this;omega
  have hl':l.drop (k+1)=rest:=by have:=congrArg List.tail hl;simpa using this
  obtain ⟨r,rs',rfl,ht⟩:=ht
  rcases ht with ⟨he,hg,o',os',rfl,hd,htr⟩|⟨he,hstep,htr⟩
  ·have hkm:k∈es:=by simpa using he
   obtain ⟨mk,hmk⟩:=Tx hkm
   have hmke:mk=m:=by
    have h1: ¬mk<m:=fun hh=>by have:=(hme mk k hmk).2 hh;omega
    rcases S9 m mk with q|q
    ·have hlt2:m<es.length:=by have:=(S7.1 hmk).1;omega
     have hem:es[m]? = some es[m]:=Tn hlt2;have hlt3:=kD hrise m mk _ _ q hem hmk
     have:=(hme m _ hem).1 hlt3
     omega
    ·omega
   subst hmke;have hmlt:=(S7.1 hmk).1
   have:=Al hsz hrise rest (k+1) (mk+1) _ _ _ _ _ hl' hlt htr (by omega) (fun m' e h=>by
    by_cases hek:e=k
    ·subst hek
     have:m'=mk:=(Ux (S7.1 h).1 (iu hrise)).1 (h.trans hmk.symm)
     omega
    ·have:=hme m' e h
     have hne:m'≠mk:=fun hh=>by subst hh;rw [hmk] at h;cases h;exact hek rfl
     omega)
   simp only [List.length_cons];omega
  ·exact Al hsz hrise rest (k+1) m _ _ _ _ _ hl' hlt htr hm (fun m' e h=>by
    have hne:e≠k:=fun hh=>by
     subst hh
     have:=TI h
     simp [this] at he
    rw [<-hme m' e h];omega)
theorem j5 {f:Fr} {fs:List (Nat×Nat)} (hB:qC l.toArray es fs=true) {s sf:AS} {a:Act} {w0:World} {rs:List AV} {os:List (List (Option aa))} {R:Exit->Act->World->Prop} {g0:GG D nu s.o w0 l es (fun c=>(s.o :: os).getD c [])} (hs:RS f D nu s a w0)
  (hR: ∀a' w' nu',bl nu s.o w0 nu' sf.o w'->sf.y=s.y->RS f D nu' sf a' w'->R .normal a' w') :
  ∀(rest:List Oper) (k m:Nat) (sk:AS) (hist:List (List (Option aa))) (rs1 rs2:List AV) (os2:List (List (Option aa))) (A:(Nat->Value)->Act),l.drop k=rest->MK P l es fs rest k sk hist rs2 os2 sf->(s.o :: os).take m=hist->rs=rs1++rs2->Hl l s a k sk rs1 A->(s.o :: os).drop m=sk.o :: os2 ->
   m<=es.length->(∀m' e,es[m']? = some e->(e<k↔m'<m))->k<=l.length ->
   Db (N:=cC D nu s.o w0 l es (fun c=>(s.o :: os).getD c [])) P l.toArray (rs.mapIdx (fun k r=>lE D nu s.o w0 l es (fun c=>(s.o :: os).getD c []) k r)) g0 (R .normal) rest k A
 | [],k,m,sk,hist,rs1,rs2,os2,A,hl,ht,hhi,hrs,hI,hO,hml,hme,hk=>by
  obtain ⟨rfl,rfl,rfl⟩:=ht;intro x g hE hD
  have hkl:k=l.length:=by have:=congrArg List.length hl;simp at this;omega
  have hspec: ∀i r,rs1[i]? = some r->(lE D nu s.o w0 l es (fun c=>(s.o :: os).getD c []) i r).p (x i) g:=fun i r hr=>by
   have hik:i<k:=by rw [<-hI.len];exact (S7.1 hr).1
   have:=hD i hik
   rw [hrs,List.append_nil,H7 hr] at this;exact this
  have hdone: ∀i,i<k->g.done i=true:=fun i hi=>by
   have hlt:i<rs1.length:=by rw [hI.len];exact hi
   exact (hspec i _ (Tn hlt)).2
  have hsz: ∀e,e∈es->e<l.length:=by
   simp only [qC,TY,Ui,decide_eq_true_eq,Ty] at hB;exact hB.1.2
  have hm:m=es.length:=by
   rcases S9 m es.length with q|q
   ·have he:es[m]? = some es[m]:=Tn q
    have:=(hme m _ he).1 (by rw [hkl];exact hsz _ (Uy q))
    omega
   ·omega
  have hc:g.c=m:=by
   have h1:=g.le
   rcases Uz m with q|q
   ·omega
   ·have hlt:m - 1<es.length:=by omega
    have he:es[m - 1]? = some es[m - 1]:=Tn hlt
    have:=(g.ef _ _ he).1 (hdone _ (by rw [hkl];exact hsz _ (Uy hlt)))
    omega
  have hOm:(s.o :: os).getD m []=sf.o:=by
   have:=congrArg (fun l=>l[0]?) hO
   simp only [Tl,Nat.add_zero,Ud] at this;rw [T3,this];rfl
  have hro:=g.ro;have hmo:=g.mono;simp only [hc,hOm] at hro hmo;refine hR (A x) g.w g.nu hmo hI.y ⟨hro,⟨hI.size x,fun t c v h1 h2=> ?_⟩,by rw [hI.ig x];exact hs.ig.mono hs.ro hmo⟩
  rcases hI.val x t c v h1 h2 with ⟨h3,h4⟩|⟨i,q1,q2,q3,q4⟩
  ·exact (hs.tm.at' t c v h3 h4).mono hmo (fun _ _ h=>h)
  ·have:=(hspec i c q3).1
   simp only [hc,hOm] at this;rw [q4];exact this
 | oo :: rest,k,m,sk,hist,rs1,rs2,os2,A,hl,ht,hhi,hrs,hI,hO,hml,hme,hk=>by
  have hB':=hB;simp only [qC,TY,Ui,decide_eq_true_eq,Ty,Uj,Uk] at hB';obtain ⟨⟨⟨hrel,hrise⟩,hszs⟩,hfix⟩:=hB'
  have hlt:k<l.length:=by have:=congrArg List.length hl;simp at this;omega
  have hok:l[k]? = some oo:=by have:=congrArg (fun m=>m[0]?) hl;simpa using this
  have hl':l.drop (k+1)=rest:=by have:=congrArg List.tail hl;simpa using this
  have hOm:(s.o :: os).getD m []=sk.o:=by
   have:=congrArg (fun l=>l[0]?) hO
   simp only [Tl,Nat.add_zero,Ud] at this;rw [T3,this];rfl
  obtain ⟨r,rs',rfl,ht⟩:=ht
  have hrs':rs=(rs1++[r])++rs':=by rw [hrs];simp
  have hspecK:uq (rs.mapIdx (fun k r=>lE D nu s.o w0 l es (fun c=>(s.o :: os).getD c []) k r)) k=lE D nu s.o w0 l es (fun c=>(s.o :: os).getD c []) k r:=by
   rw [hrs];exact yW (by rw [TD (by rw [hI.len];exact Nat.le_refl _),hI.len,Nat.sub_self];rfl)
  have hspec: ∀(x:Nat->Value) (g:GG D nu s.o w0 l es (fun c=>(s.o :: os).getD c [])) i rr,(uq (rs.mapIdx (fun k r=>lE D nu s.o w0 l es (fun c=>(s.o :: os).getD c []) k r)) i).p (x i) g->rs1[i]? = some rr->RA D g.nu ((s.o :: os).getD g.c []) g.w rr (x i)∧g.done i=true:=fun x g i rr h hr=>by
   rw [hrs,yW (by rw [S8 (S7.1 hr).1];exact hr)] at h;exact h
  have hdep: ∀i,az l.toArray k i=true->i<k:=fun i hi=>by
   simp only [mX,TY,Ui,Uj,Ty] at hrel
   rcases Nat.lt_trichotomy i k with h|h|h
   ·exact h
   ·subst h
    have:=(hrel.2 i hlt).2.1
    rw [hi] at this;cases this
   ·exfalso;simp only [az,Tp,hok,Array.any_eq_true',TY,beq_iff_eq] at hi;obtain ⟨e,he,hb,rfl⟩:=hi;have hfar:=(hrel.2 k hlt).2.2;simp only [zj,Tp,hok,Array.all_eq_true_iff_forall_mem] at hfar
    have hel:e.on<l.length:=by simpa using hfar e he
    have:=(hrel.2 e.on hel).1 k h
    simp only [Bj,Tp,hok,Tn hel,TY,UA] at this;have h2:=this.1.1.2;simp only [az,Tp,hok] at h2
    have:oo.after.any (fun e_1=>Region.binds .any e_1&&e_1.on==e.on)=true:=by
     simp only [Array.any_eq_true',TY,beq_iff_eq];exact ⟨e,he,hb,rfl⟩
    rw [this] at h2;cases h2
  have hdoneD: ∀(x:Nat->Value) (g:GG D nu s.o w0 l es (fun c=>(s.o :: os).getD c [])),(∀i,az l.toArray k i=true->(uq (rs.mapIdx (fun k r=>lE D nu s.o w0 l es (fun c=>(s.o :: os).getD c []) k r)) i).p (x i) g)-> ∀i,az l.toArray k i=true->g.done i=true:=fun x g hD i hi=>by
   have hlt:i<rs1.length:=by rw [hI.len];exact hdep i hi
   exact (hspec x g i _ (hD i hi) (Tn hlt)).2
  
  have hlook: ∀(x:Nat->Value) (g:GG D nu s.o w0 l es (fun c=>(s.o :: os).getD c [])),(∀i,az l.toArray k i=true->(uq (rs.mapIdx (fun k r=>lE D nu s.o w0 l es (fun c=>(s.o :: os).getD c []) k r)) i).p (x i) g)-> ∀(t:Nat) c v,t∈oo.looksAt l.toArray->sk.t[t]? = some c->(A x).tmps[t]? = some v->RA D g.nu ((s.o :: os).getD g.c []) g.w c v:=by
   intro x g hD t c v ht h1 h2
   rcases hI.val x t c v h1 h2 with ⟨h3,h4⟩|⟨i,q1,⟨oi,q2,q5⟩,q3,q4⟩
   ·exact (hs.tm.at' t c v h3 h4).mono g.mono (fun _ _ h=>h)
   ·rcases zn hrel q1 q2 hok with h5|h5
    ·have:=(hspec x g i c (hD i h5) q3).1
     rw [q4];exact this
    ·exact absurd ht (h5 t q5)
  have hevs: ∀(x:Nat->Value) (g:GG D nu s.o w0 l es (fun c=>(s.o :: os).getD c [])),(∀i,az l.toArray k i=true->(uq (rs.mapIdx (fun k r=>lE D nu s.o w0 l es (fun c=>(s.o :: os).getD c []) k r)) i).p (x i) g)->G8 D g.nu ((s.o :: os).getD g.c []) g.w sk.ev (A x).eval oo.op:=by
   intro x g hD y hy
   cases y with
   | tmp t=>
    simp only [AS.ev,Act.eval]
    rcases S9 t sk.t.length with hlt|hge
    ·have e1:sk.t[t]? = some sk.t[t]:=Tn hlt
     have hlt':t<(A x).tmps.size:=by rw [<-hI.size x];exact hlt
     have hx:(A x).tmps[t]? = some (A x).tmps[t]:=Array.getElem?_eq_getElem hlt';rw [getD_some e1]
     have:(A x).tmps.getD t Go.undef=(A x).tmps[t]:=by simp [Array.getD,hlt']
     rw [this];exact hlook x g hD t _ _ (List.mem_append_left _ (List.mem_filterMap.2 ⟨.tmp t,hy,rfl⟩)) e1 hx
    ·have e0:sk.t.getD t .undef = .undef:=by rw [T3,List.getElem?_eq_none hge];rfl
     rw [e0];exact .undef _
   | const v=>exact .v v
   | global gi=>exact (pF hs.ro sk gi).mono g.mono (fun _ _ h=>h)
   | func f=>exact .fn f [] [] #[] #[] rfl rfl (fun i c x h=>by simp at h) (fun i c x h=>by simp at h)
  have hcont: ∀(x:Nat->Value),es.contains k=false-> ∀m' e,es[m']? = some e->(e<k+1↔m'<m):=fun _ he m' e h=>by
   have hne:e≠k:=fun hh=>by
    subst hh
    have:=TI h
    simp [this] at he
   rw [<-hme m' e h];omega
  rcases ht with ⟨he,hg,o',os',rfl,hd,htr⟩|⟨he,hstep,htr⟩
  ·
   have hkm:k∈es:=by simpa using he
   obtain ⟨mk,hmk⟩:=Tx hkm
   have hmke:mk=m:=by
    have h1: ¬mk<m:=fun hh=>by have:=(hme mk k hmk).2 hh;omega
    rcases S9 m mk with q|q
    ·have hlt2:m<es.length:=by have:=(S7.1 hmk).1;omega
     have hem:es[m]? = some es[m]:=Tn hlt2;have hlt3:=kD hrise m mk _ _ q hem hmk
     have:=(hme m _ hem).1 hlt3
     omega
    ·omega
   subst hmke
   have hOm1:(s.o :: os).getD (mk+1) []=o':=by
    have h1:=congrArg (fun (l:List (List (Option aa)))=>l[1]?) hO;simp only [Tl] at h1;rw [T3,h1];rfl
   refine ⟨fun x g hE hD hp=> ?_, ?_⟩
   ·have hdd:=hdoneD x g hD
    have hfx:IE l.toArray es k=true:=by
     rcases hfix k hlt with ((h|h)|h)|h
     ·have:=h.2;simp [hkm] at this
     ·exact h
     ·exfalso;simp only [E5] at h
      split at h
      ·simp only [TY,Ui,Uk,decide_eq_true_eq] at h
       rcases h.2 k hkm with q|q
       ·omega
       ·simp at q
      ·cases h
     ·exfalso;simp only [FC,TY] at h
      have:=h.1.1.1;simp [hkm] at this
    have hc:g.c=mk:=g.wh hfx hdd hp hme hml;have hev:=hevs x g hD;have hro:=g.ro;simp only [hc,hOm] at hev hro;refine .inl ⟨by simp [Region.wanted,hg], ?_⟩;rw [hspecK]
    have hgo: ∀(v:Value) (w':World) (nu':Nat->Nat->Value),bl g.nu sk.o g.w nu' o' w'->RO D nu' o' w'->RA D nu' o' w' r v ->
      ∃g':GG D nu s.o w0 l es (fun c=>(s.o :: os).getD c []),(cC D nu s.o w0 l es (fun c=>(s.o :: os).getD c [])).wd g'=w'∧(cC D nu s.o w0 l es (fun c=>(s.o :: os).getD c [])).R g g'∧(∀i,i≠k->(cC D nu s.o w0 l es (fun c=>(s.o :: os).getD c [])).pre i g->(cC D nu s.o w0 l es (fun c=>(s.o :: os).getD c [])).pre i g')∧(lE D nu s.o w0 l es (fun c=>(s.o :: os).getD c []) k r).p v g':=by
     intro v w' nu' m1 m2 m3
     have hm':bl g.nu ((s.o :: os).getD g.c []) g.w nu' ((s.o :: os).getD (g.c+1) []) w':=by rw [hc,hOm,hOm1];exact m1
     have hr':RO D nu' ((s.o :: os).getD (g.c+1) []) w':=by rw [hc,hOm1];exact m2
     have hek:es[g.c]? = some k:=by rw [hc];exact hmk
     have hR2:=g.MX k w' nu' hm' hr' hdd hek (iu hrise)
     refine ⟨g.P8 k w' nu' hm' hr' hdd hek (iu hrise),rfl,hR2.1,hR2.2, ?_, ?_⟩
     ·show RA D nu' ((s.o :: os).getD (g.c+1) []) w' r v;rw [hc,hOm1];exact m3
     ·show (if k=k then true else g.done k)=true;simp
    rcases BZ (P:=P) (rho:=(A x).eval) hro hev hd with ⟨v,w',nu',h1,m1,m2,m3⟩|⟨gf,vargs,h1,h2⟩
    ·rcases h1 with h1|⟨h1,rfl⟩
     ·have e1:(execOp (A x).eval oo).run P ((cC D nu s.o w0 l es (fun c=>(s.o :: os).getD c [])).wd g) = .ok (.value v) w':=h1;rw [e1];exact hgo v w' nu' m1 m2 m3
     ·have e1:(execOp (A x).eval oo).run P ((cC D nu s.o w0 l es (fun c=>(s.o :: os).getD c [])).wd g) = .ok .skip w':=h1;rw [e1];exact hgo _ w' nu' m1 m2 m3
    ·have e1:(execOp (A x).eval oo).run P ((cC D nu s.o w0 l es (fun c=>(s.o :: os).getD c [])).wd g) = .ok (.enter gf vargs) g.w:=h1;rw [e1];refine h2.mono ?_;rintro e w' ⟨v,nu',rfl,m1,m2,m3⟩;obtain ⟨g',k1,k2,k3,k4⟩:=hgo v w' nu' m1 m2 m3;exact ⟨v,g',rfl,k1,k2,k3,k4⟩
   ·refine j5 hB hs hR rest (k+1) (mk+1) (sk.put oo.dst r o') (hist++[sk.o]) (rs1++[r]) rs' os' _ hl' htr (by rw [List.take_succ_eq_append_getElem (by have:=congrArg List.length hO;simp at this ⊢; omega),hhi];congr 1;have:=hOm;rw [T3,Tn (by have:=congrArg List.length hO;simp at this ⊢; omega)] at this;simpa using this) hrs' (hI.step hok r o') ?_ ((S7.1 hmk).1) (fun m' e h=> ?_) hlt
    ·have:=congrArg List.tail hO
     rw [List.tail_drop] at this;exact this
    ·by_cases hek:e=k
     ·subst hek
      have:m'=mk:=(Ux (S7.1 h).1 (iu hrise)).1 (h.trans hmk.symm)
      omega
     ·have:=hme m' e h
      have hne:m'≠mk:=fun hh=>by subst hh;rw [hmk] at h;cases h;exact hek rfl
      omega
  ·refine ⟨fun x g hE hD hp=> ?_, ?_⟩
   ·have hdd:=hdoneD x g hD;rw [hspecK]
    have hnext: ∀(v:Value) (w':World),RA D g.nu ((s.o :: os).getD g.c []) w' r v->Below g.w.heap.size g.w w' ->
      ∃g':GG D nu s.o w0 l es (fun c=>(s.o :: os).getD c []),(cC D nu s.o w0 l es (fun c=>(s.o :: os).getD c [])).wd g'=w'∧(cC D nu s.o w0 l es (fun c=>(s.o :: os).getD c [])).R g g'∧(∀i,i≠k->(cC D nu s.o w0 l es (fun c=>(s.o :: os).getD c [])).pre i g->(cC D nu s.o w0 l es (fun c=>(s.o :: os).getD c [])).pre i g')∧(lE D nu s.o w0 l es (fun c=>(s.o :: os).getD c []) k r).p v g':=by
     intro v w' hr hb;have hR2:=g.K5 k w' hb hdd he;refine ⟨g.next k w' hb hdd he,rfl,hR2.1,hR2.2,hr, ?_⟩;show (if k=k then true else g.done k)=true;simp
    have hyv: ∀j want,oo.guard=some (j,want)-> ∀gg,iJ l sk j=some gg->yielded l.toArray (A x).tmps j=gg:=fun j want hg gg hgv=>
     ek (s:=⟨sk.t,(s.o :: os).getD g.c [],sk.y⟩) (D:=D) (nu:=g.nu) (w:=g.w) (fun d c v hd h1 h2=>by
      refine hlook x g hD d c v ?_ h1 h2;obtain ⟨og,q1,q2⟩:=hd;refine List.mem_append_right _ ?_;simp only [hg,Tp,q1,Option.bind_some,q2]
      simp) (hI.size x) (show iJ l ⟨sk.t,_,sk.y⟩ j=some gg from hgv)
    rcases hstep with ⟨hw,hd,hfl,hlat⟩|⟨_,_,rfl,j,want,gg,hg,hgv,hno⟩
    ·have hwant:Region.wanted oo (yielded l.toArray (A x).tmps)=true:=by
      rcases hw with hg|⟨j,want,b,hg,hgv,hb⟩
      ·simp [Region.wanted,hg]
      ·simp only [Region.wanted,hg,hyv j want hg _ hgv];simpa using hb
     refine .inl ⟨hwant, ?_⟩
     have hd':cO P oo.op ⟨sk.t,(s.o :: os).getD g.c [],sk.y⟩ (fun r'=>r'=r):=by
      rcases hfix k hlt with ((h|h)|h)|h
      ·rw [show l.toArray[k]? = some oo by simpa using hok] at h;exact B1 (by simpa using h.1) (show cO P oo.op ⟨sk.t,sk.o,sk.y⟩ (fun r'=>r'=r) from hd)
      ·have hc:g.c=m:=g.wh h hdd hp hme hml;rw [hc,hOm];exact hd
      ·have hlo: ∃lo,ke fs k=some lo:=by
        simp only [E5] at h
        split at h
        ·exact ⟨_, ‹_›⟩
        ·cases h
       obtain ⟨lo,hlo⟩:=hlo;obtain ⟨c1,c2⟩:=g.Ev h hlo hdd hp hme
       rcases Nat.eq_or_lt_of_le c2 with hc|hc
       ·rw [hc,hOm];exact hd
       ·have hgl:g.c<(s.o :: os).length:=by have:=congrArg List.length hO;simp at this ⊢; omega
        refine hfl lo hlo _ ?_;rw [<-hhi,T3,Tn hgl];refine List.mem_drop_iff_getElem.2 ⟨g.c - lo,by simp at hgl ⊢; omega, ?_⟩;rw [List.getElem_take];simp only [Option.getD_some]
        congr 1
        omega
      ·have hc:=g.H8 h hdd hme hml;simp only [FC,TY] at h
       rcases Nat.eq_or_lt_of_le hc with hc|hc
       ·rw [<-hc,hOm];exact hd
       ·have hle:=g.le;refine hlat (by simpa using h.1.1.2) h.1.2 _ ?_;have hln:=Al hszs hrise rest (k+1) m _ _ _ _ _ hl' (by omega) htr hml (hcont (fun _=>Go.undef) he);have e1:=congrArg (fun (l:List (List (Option aa)))=>l[g.c - m]?) hO;obtain ⟨d,hd1⟩: ∃d,g.c - m=d+1:=⟨g.c - m - 1,by omega⟩;simp only [Tl,show m+(g.c - m)=g.c by omega] at e1;rw [hd1,List.getElem?_cons_succ,Tn (l:=os2) (by omega)] at e1;rw [T3,e1];exact Uy _
     obtain ⟨r',rfl,hout⟩:=nF (P:=P) (s:=⟨sk.t,(s.o :: os).getD g.c [],sk.y⟩) (rho:=(A x).eval) g.ro (hevs x g hD) hd';have e0:(execOp (A x).eval oo).run P ((cC D nu s.o w0 l es (fun c=>(s.o :: os).getD c [])).wd g)=(execOp (A x).eval oo).run P g.w:=rfl;rw [e0];generalize (execOp (A x).eval oo).run P g.w=res at hout
     cases res with
     | halt _ _=>exact hout.elim
     | ok n w'=>
      cases n<;>first|exact hout.elim|skip
      case value u=>exact hnext u w' hout.1.2 hout.2
      case skip=>exact hnext _ w' hout.1.2 hout.2
      case enter gf vargs=>
       refine Calls.mono hout ?_;rintro e w'' ⟨v,rfl,hv,hb⟩;obtain ⟨g',k1,k2,k3,k4⟩:=hnext v w'' hv.2 hb;exact ⟨v,g',rfl,k1,k2,k3,k4⟩
    ·refine .inr ⟨?_, ?_⟩
     ·simp only [Region.wanted,hg,hyv j want hg _ hgv]
      rcases hno with rfl|⟨b,rfl,hb⟩
      ·rfl
      ·simpa using hb
     ·obtain ⟨g',k1,k2,k3,k4⟩:=hnext Go.undef g.w (.v _) (.refl _ _);exact ⟨g',k1,k2,k3,k4⟩
   ·have hO':(s.o :: os).drop m=(sk.put oo.dst r s.o).o :: os2->True:=fun _=>trivial;refine j5 hB hs hR rest (k+1) m (sk.put oo.dst r sk.o) hist (rs1++[r]) rs' os2 _ hl' ?_ hhi hrs' (hI.step hok r sk.o) hO hml (hcont (fun _=>Go.undef) he) hlt;exact htr
theorem du {n0 id:Nat} {s:AS} {l:List Oper} {Q:aJ->AS->Prop} (es:List Nat) (fs:List (Nat×Nat)) (hB:qC l.toArray es fs=true) (hC:c9 l.toArray=true) (h:b7 P l es fs l 0 s [] none (Q .normal)):bK P n0 (.region id l.toArray true) s Q:=by
 refine .inr (fun f m D nu a w hZr hn hm hs hmx R hO hR=> ?_);obtain ⟨rs,os,sf,htr,_,hq⟩:=ei l 0 s [] h;have hs':=hs.drew
 have hrel:mX l.toArray=true:=by
  simp only [qC,TY] at hB;exact hB.1.1.1
 let g0:GG D nu s.o w.drew l es (fun c=>(s.o :: os).getD c []):=⟨w.drew,nu,fun _=>false,0,hs'.ro, .refl _ _ _,(fun _ _ h=>by cases h),(fun _ _ _=>by simp),Nat.zero_le _⟩
 have hobl:=j5 (P:=P) (R:=R) (rs:=rs) (g0:=g0) hB hs' (fun a' w' nu' h1 hy h2=>hR .normal D f.Z sf a' w' nu' (by rw [hy];exact m.own hm hs.ro ((ak (cQ w)).trans h1) h2.ro) h2 hq) l 0 0 s [] [] rs os (fun _=>a) (by simp) htr (by simp) (by simp) ⟨rfl,rfl,fun _=>rfl,fun _=>hs.tm.len,fun x t c v h1 h2=> .inl ⟨h1,h2⟩⟩ (by simp) (Nat.zero_le _) (fun m' e _=>by simp) (Nat.zero_le _);exact np hmx hC hO (fu (N:=cC D nu s.o w.drew l es (fun c=>(s.o :: os).getD c [])) _ hrel g0 rfl (fun _=>rfl) hobl)
theorem ah {all rest:List Oper} {es:List Nat} {fs:List (Nat×Nat)} {oo:Oper} {k:Nat} {s:AS} {hist:List (List (Option aa))} {pn:Option (List (Option aa)->Prop)} {Q:AS->Prop} (he:(es.contains k||(ke fs k).isSome||uP fs k)=false) (h: ∀K:AS->Prop,(∀s',b7 P all es fs rest (k+1) s' hist pn Q->K s')->dT P all oo s K):b7 P all es fs (oo :: rest) k s hist pn Q:=by
 simp only [Bool.or_eq_false_iff] at he;simp only [b7,he.1.1,Uw,if_false]
 cases hf:ke fs k with
 | some lo=>rw [hf] at he;simp at he
 | none=>rw [he.2];exact h _ (fun _ h=>h)
theorem ar {all rest:List Oper} {es:List Nat} {fs:List (Nat×Nat)} {dst:Option Tmp} {op:Op} {ty:TypeId} {pos:String} {aft:Array Edge} {k:Nat} {s:AS} {hist:List (List (Option aa))} {Q:AS->Prop} (he:es.contains k=true) (h: ∀K:AS->Prop,(∀s',b7 P all es fs rest (k+1) s' (hist++[s.o]) none Q->K s')->rO P op s (fun r o'=>K (s.put dst r o'))):b7 P all es fs (⟨dst,op,ty,pos,aft,none⟩ :: rest) k s hist none Q:=by
 simp only [b7,he,if_true,Lj,true_and];exact h _ (fun _ h=>h)
theorem aA {all rest:List Oper} {es:List Nat} {fs:List (Nat×Nat)} {dst:Option Tmp} {op:Op} {ty:TypeId} {pos:String} {aft:Array Edge} {k:Nat} {s:AS} {hist:List (List (Option aa))} {p:List (Option aa)->Prop} {Q:AS->Prop} (he:es.contains k=true) (h: ∀K:AS->Prop,(∀s',b7 P all es fs rest (k+1) s' (hist++[s.o]) (some p) Q->K s')->rO P op s (fun r o'=>p o'∧K (s.put dst r o'))):b7 P all es fs (⟨dst,op,ty,pos,aft,none⟩ :: rest) k s hist (some p) Q:=by
 simp only [b7,he,if_true,Lj];exact h _ (fun _ h=>h)
theorem aW {all rest:List Oper} {es:List Nat} {fs:List (Nat×Nat)} {dst:Option Tmp} {op:Op} {ty:TypeId} {pos:String} {aft:Array Edge} {k lo:Nat} {s:AS} {hist:List (List (Option aa))} {pn:Option (List (Option aa)->Prop)} {Q:AS->Prop} (he:(if es.contains k then none else ke fs k)=some lo) (h: ∀K:AS->Prop,(∀s',b7 P all es fs rest (k+1) s' hist pn Q->K s')->cO P op s (fun r=>(∀o',o'∈hist.drop lo->cO P op ⟨s.t,o',s.y⟩ (fun r'=>r'=r))∧K (s.put dst r s.o))):b7 P all es fs (⟨dst,op,ty,pos,aft,none⟩ :: rest) k s hist pn Q:=by
 have hc:es.contains k=false:=by cases hc:es.contains k<;>simp_all
 simp only [hc,Uw,if_false] at he;simp only [b7,hc,Uw,if_false,he];exact ⟨trivial,h _ (fun _ h=>h)⟩
theorem aH {all rest:List Oper} {es:List Nat} {fs:List (Nat×Nat)} {dst:Option Tmp} {op:Op} {ty:TypeId} {pos:String} {aft:Array Edge} {k:Nat} {s:AS} {hist:List (List (Option aa))} {pn:Option (List (Option aa)->Prop)} {Q:AS->Prop} (he:(!es.contains k&&(ke fs k).isNone&&uP fs k)=true) (h:cO P op s (fun r=>b7 P all es fs rest (k+1) (s.put dst r s.o) hist (some fun o'=>Lj pn o'∧cO P op ⟨s.t,o',s.y⟩ (fun r'=>r'=r)) Q)):b7 P all es fs (⟨dst,op,ty,pos,aft,none⟩ :: rest) k s hist pn Q:=by
 simp only [TY,UA] at he;simp only [b7,he.1.1,Uw,if_false]
 cases hf:ke fs k with
 | some lo=>rw [hf] at he;simp at he
 | none=>rw [he.2];exact ⟨trivial,h⟩
theorem yS {all:List Oper} {es:List Nat} {fs:List (Nat×Nat)} {k:Nat} {s:AS} {hist:List (List (Option aa))} {pn:Option (List (Option aa)->Prop)} {Q:AS->Prop} (h:Q s):b7 P all es fs [] k s hist pn Q:=h
instance {all:List Oper} {es:List Nat} {fs:List (Nat×Nat)} {k:Nat} {s:AS} {hist:List (List (Option aa))} {pn:Option (List (Option aa)->Prop)} {Q:AS->Prop}:ag (b7 P all es fs [] k s hist pn Q) (Q s):=⟨yS⟩
end
attribute [go_sem] Lj rO Hf List.forall_mem_cons List.not_mem_nil false_implies implies_true
end
section
@[go_sem] theorem SI:Tryz.prog.underlying 3=some (.int .i64):=by kernel_rfl
@[go_sem] theorem Rz:cp Tryz.prog 3=some (false):=by kernel_rfl
@[go_sem] theorem QR:aY Tryz.prog 3=some (1):=by kernel_rfl
@[go_sem] theorem QV:b6 Tryz.prog 3=some ([.v (.int .i64 0)]):=by kernel_rfl
@[go_sem] theorem P0:oL Tryz.prog 3=some (.v (.int .i64 0)):=by kernel_rfl
@[go_sem] theorem RB:cp Tryz.prog 4=some (false):=by kernel_rfl
@[go_sem] theorem QS:aY Tryz.prog 4=some (1):=by kernel_rfl
@[go_sem] theorem QX:b6 Tryz.prog 4=some ([.v (.bool false)]):=by kernel_rfl
@[go_sem] theorem SJ:Tryz.prog.underlying 5=some (.int .u8):=by kernel_rfl
@[go_sem] theorem RD:cp Tryz.prog 5=some (false):=by kernel_rfl
@[go_sem] theorem QT:aY Tryz.prog 5=some (1):=by kernel_rfl
@[go_sem] theorem SK:Tryz.prog.underlying 9=some (.string):=by kernel_rfl
@[go_sem] theorem RE:cp Tryz.prog 9=some (false):=by kernel_rfl
@[go_sem] theorem QU:aY Tryz.prog 9=some (1):=by kernel_rfl
@[go_sem] theorem QY:b6 Tryz.prog 9=some ([.v (.string ⟨#[]⟩)]):=by kernel_rfl
@[go_sem] theorem Qq:cp Tryz.prog 22=some (false):=by kernel_rfl
@[go_sem] theorem Pl:aY Tryz.prog 22=some (1):=by kernel_rfl
@[go_sem] theorem RP:Tryz.prog.underlying 23=some (.slice 25):=by kernel_rfl
@[go_sem] theorem Qr:cp Tryz.prog 23=some (false):=by kernel_rfl
@[go_sem] theorem Pm:aY Tryz.prog 23=some (1):=by kernel_rfl
@[go_sem] theorem QE:gR Tryz.prog 23=some (25,3,48):=by kernel_rfl
@[go_sem] theorem Qs:cp Tryz.prog 25=some (true):=by kernel_rfl
@[go_sem] theorem Pn:aY Tryz.prog 25=some (3):=by kernel_rfl
@[go_sem] theorem PA:b6 Tryz.prog 25=some ([.v (.int .i64 0), .v (.string ⟨#[]⟩), .v (.slice none 0 0)]):=by kernel_rfl
@[go_sem] theorem Nw:c8 Tryz.prog 25 0=some (0):=by kernel_rfl
@[go_sem] theorem Nx:c8 Tryz.prog 25 1=some (1):=by kernel_rfl
@[go_sem] theorem Ny:c8 Tryz.prog 25 2=some (2):=by kernel_rfl
@[go_sem] theorem RF:yw Tryz.prog 25=some ([(0,1),(1,1),(2,1)],[.v (.int .i64 0), .v (.string ⟨#[]⟩), .v (.slice none 0 0)]):=by kernel_rfl
@[go_sem] theorem RQ:Tryz.prog.underlying 26=some (.slice 35):=by kernel_rfl
@[go_sem] theorem OL:oL Tryz.prog 26=some (.v (.slice none 0 0)):=by kernel_rfl
@[go_sem] theorem QF:gR Tryz.prog 26=some (35,5,80):=by kernel_rfl
@[go_sem] theorem RR:Tryz.prog.underlying 29=some (.slice 37):=by kernel_rfl
@[go_sem] theorem QG:gR Tryz.prog 29=some (37,3,40):=by kernel_rfl
@[go_sem] theorem RT:Tryz.prog.underlying 33=some (.slice 173):=by kernel_rfl
@[go_sem] theorem Qt:cp Tryz.prog 33=some (false):=by kernel_rfl
@[go_sem] theorem Po:aY Tryz.prog 33=some (1):=by kernel_rfl
@[go_sem] theorem Qu:cp Tryz.prog 35=some (true):=by kernel_rfl
@[go_sem] theorem Pp:aY Tryz.prog 35=some (5):=by kernel_rfl
@[go_sem] theorem PB:b6 Tryz.prog 35=some ([.v (.string ⟨#[]⟩), .v (.string ⟨#[]⟩), .v (.string ⟨#[]⟩), .v (.int .i64 0), .v (.slice none 0 0)]):=by kernel_rfl
@[go_sem] theorem Nz:c8 Tryz.prog 35 0=some (0):=by kernel_rfl
@[go_sem] theorem NA:c8 Tryz.prog 35 1=some (1):=by kernel_rfl
@[go_sem] theorem NB:c8 Tryz.prog 35 2=some (2):=by kernel_rfl
@[go_sem] theorem NC:c8 Tryz.prog 35 3=some (3):=by kernel_rfl
@[go_sem] theorem ND:c8 Tryz.prog 35 4=some (4):=by kernel_rfl
@[go_sem] theorem RG:yw Tryz.prog 35=some ([(0,1),(1,1),(2,1),(3,1),(4,1)],[.v (.string ⟨#[]⟩), .v (.string ⟨#[]⟩), .v (.string ⟨#[]⟩), .v (.int .i64 0), .v (.slice none 0 0)]):=by kernel_rfl
@[go_sem] theorem Qv:cp Tryz.prog 37=some (true):=by kernel_rfl
@[go_sem] theorem Pq:aY Tryz.prog 37=some (3):=by kernel_rfl
@[go_sem] theorem PC:b6 Tryz.prog 37=some ([.v (.string ⟨#[]⟩), .v (.string ⟨#[]⟩), .v (.int .i64 0)]):=by kernel_rfl
@[go_sem] theorem NF:c8 Tryz.prog 37 0=some (0):=by kernel_rfl
@[go_sem] theorem NG:c8 Tryz.prog 37 1=some (1):=by kernel_rfl
@[go_sem] theorem NH:c8 Tryz.prog 37 2=some (2):=by kernel_rfl
@[go_sem] theorem RH:yw Tryz.prog 37=some ([(0,1),(1,1),(2,1)],[.v (.string ⟨#[]⟩), .v (.string ⟨#[]⟩), .v (.int .i64 0)]):=by kernel_rfl
@[go_sem] theorem RU:Tryz.prog.underlying 41=some (.slice 61):=by kernel_rfl
@[go_sem] theorem QH:gR Tryz.prog 41=some (61,3,40):=by kernel_rfl
@[go_sem] theorem RV:Tryz.prog.underlying 55=some (.slice 9):=by kernel_rfl
@[go_sem] theorem Qw:cp Tryz.prog 55=some (false):=by kernel_rfl
@[go_sem] theorem Pr:aY Tryz.prog 55=some (1):=by kernel_rfl
@[go_sem] theorem QI:gR Tryz.prog 55=some (9,1,16):=by kernel_rfl
@[go_sem] theorem RW:Tryz.prog.underlying 56=some (.slice 3):=by kernel_rfl
@[go_sem] theorem Qx:cp Tryz.prog 56=some (false):=by kernel_rfl
@[go_sem] theorem Ps:aY Tryz.prog 56=some (1):=by kernel_rfl
@[go_sem] theorem PD:b6 Tryz.prog 56=some ([.v (.slice none 0 0)]):=by kernel_rfl
@[go_sem] theorem QJ:gR Tryz.prog 56=some (3,1,8):=by kernel_rfl
@[go_sem] theorem Pt:aY Tryz.prog 61=some (3):=by kernel_rfl
@[go_sem] theorem PE:b6 Tryz.prog 61=some ([.v (.string ⟨#[]⟩), .v (.string ⟨#[]⟩), .v (.int .i64 0)]):=by kernel_rfl
@[go_sem] theorem NI:c8 Tryz.prog 61 0=some (0):=by kernel_rfl
@[go_sem] theorem NJ:c8 Tryz.prog 61 1=some (1):=by kernel_rfl
@[go_sem] theorem NK:c8 Tryz.prog 61 2=some (2):=by kernel_rfl
@[go_sem] theorem RI:yw Tryz.prog 61=some ([(0,1),(1,1),(2,1)],[.v (.string ⟨#[]⟩), .v (.string ⟨#[]⟩), .v (.int .i64 0)]):=by kernel_rfl
@[go_sem] theorem RX:Tryz.prog.underlying 63=some (.pointer 125):=by kernel_rfl
@[go_sem] theorem Qy:cp Tryz.prog 63=some (false):=by kernel_rfl
@[go_sem] theorem Pu:aY Tryz.prog 63=some (1):=by kernel_rfl
@[go_sem] theorem RY:Tryz.prog.underlying 64=some (.map 9 26):=by kernel_rfl
@[go_sem] theorem Qz:cp Tryz.prog 64=some (false):=by kernel_rfl
@[go_sem] theorem Pv:aY Tryz.prog 64=some (1):=by kernel_rfl
@[go_sem] theorem QA:cp Tryz.prog 66=some (true):=by kernel_rfl
@[go_sem] theorem Pw:aY Tryz.prog 66=some (2):=by kernel_rfl
@[go_sem] theorem PF:b6 Tryz.prog 66=some ([.v (.pointer none), .v (.map none)]):=by kernel_rfl
@[go_sem] theorem NL:c8 Tryz.prog 66 0=some (0):=by kernel_rfl
@[go_sem] theorem NM:c8 Tryz.prog 66 1=some (1):=by kernel_rfl
@[go_sem] theorem RJ:yw Tryz.prog 66=some ([(0,1),(1,1)],[.v (.pointer none), .v (.map none)]):=by kernel_rfl
@[go_sem] theorem RZ:Tryz.prog.underlying 70=some (.map 74 3):=by kernel_rfl
@[go_sem] theorem QB:cp Tryz.prog 70=some (false):=by kernel_rfl
@[go_sem] theorem Px:aY Tryz.prog 70=some (1):=by kernel_rfl
@[go_sem] theorem PG:b6 Tryz.prog 70=some ([.v (.map none)]):=by kernel_rfl
@[go_sem] theorem QC:cp Tryz.prog 74=some (true):=by kernel_rfl
@[go_sem] theorem Py:aY Tryz.prog 74=some (2):=by kernel_rfl
@[go_sem] theorem PH:b6 Tryz.prog 74=some ([.v (.string ⟨#[]⟩), .v (.string ⟨#[]⟩)]):=by kernel_rfl
@[go_sem] theorem NN:c8 Tryz.prog 74 0=some (0):=by kernel_rfl
@[go_sem] theorem NO:c8 Tryz.prog 74 1=some (1):=by kernel_rfl
@[go_sem] theorem RK:yw Tryz.prog 74=some ([(0,1),(1,1)],[.v (.string ⟨#[]⟩), .v (.string ⟨#[]⟩)]):=by kernel_rfl
@[go_sem] theorem QD:cp Tryz.prog 79=some (true):=by kernel_rfl
@[go_sem] theorem Pz:aY Tryz.prog 79=some (2):=by kernel_rfl
@[go_sem] theorem PI:b6 Tryz.prog 79=some ([.v (.string ⟨#[]⟩), .v (.int .i64 0)]):=by kernel_rfl
@[go_sem] theorem NP:c8 Tryz.prog 79 0=some (0):=by kernel_rfl
@[go_sem] theorem NQ:c8 Tryz.prog 79 1=some (1):=by kernel_rfl
@[go_sem] theorem RL:yw Tryz.prog 79=some ([(0,1),(1,1)],[.v (.string ⟨#[]⟩), .v (.int .i64 0)]):=by kernel_rfl
@[go_sem] theorem Q2:Tryz.prog.underlying 107=some (.map 79 3):=by kernel_rfl
@[go_sem] theorem Q3:Tryz.prog.underlying 108=some (.map 79 3):=by kernel_rfl
@[go_sem] theorem OW:cp Tryz.prog 108=some (false):=by kernel_rfl
@[go_sem] theorem NR:aY Tryz.prog 108=some (1):=by kernel_rfl
@[go_sem] theorem Od:b6 Tryz.prog 108=some ([.v (.map none)]):=by kernel_rfl
@[go_sem] theorem Q4:Tryz.prog.underlying 109=some (.slice 79):=by kernel_rfl
@[go_sem] theorem OX:cp Tryz.prog 109=some (false):=by kernel_rfl
@[go_sem] theorem NS:aY Tryz.prog 109=some (1):=by kernel_rfl
@[go_sem] theorem Oe:b6 Tryz.prog 109=some ([.v (.slice none 0 0)]):=by kernel_rfl
@[go_sem] theorem Pe:gR Tryz.prog 109=some (79,2,24):=by kernel_rfl
@[go_sem] theorem Q5:Tryz.prog.underlying 110=some (.pointer 162):=by kernel_rfl
@[go_sem] theorem OY:cp Tryz.prog 110=some (false):=by kernel_rfl
@[go_sem] theorem NT:aY Tryz.prog 110=some (1):=by kernel_rfl
@[go_sem] theorem Of:b6 Tryz.prog 110=some ([.v (.pointer none)]):=by kernel_rfl
@[go_sem] theorem OZ:cp Tryz.prog 115=some (true):=by kernel_rfl
@[go_sem] theorem NU:aY Tryz.prog 115=some (2):=by kernel_rfl
@[go_sem] theorem Og:b6 Tryz.prog 115=some ([.v (.int .i64 0), .v (.int .i64 0)]):=by kernel_rfl
@[go_sem] theorem L8:c8 Tryz.prog 115 0=some (0):=by kernel_rfl
@[go_sem] theorem L9:c8 Tryz.prog 115 1=some (1):=by kernel_rfl
@[go_sem] theorem QK:yw Tryz.prog 115=some ([(0,1),(1,1)],[.v (.int .i64 0), .v (.int .i64 0)]):=by kernel_rfl
@[go_sem] theorem Q6:Tryz.prog.underlying 120=some (.slice 164):=by kernel_rfl
@[go_sem] theorem O0:cp Tryz.prog 120=some (false):=by kernel_rfl
@[go_sem] theorem NV:aY Tryz.prog 120=some (1):=by kernel_rfl
@[go_sem] theorem Pf:gR Tryz.prog 120=some (164,1,8):=by kernel_rfl
@[go_sem] theorem Q7:Tryz.prog.underlying 121=some (.slice 4):=by kernel_rfl
@[go_sem] theorem O2:cp Tryz.prog 121=some (false):=by kernel_rfl
@[go_sem] theorem NX:aY Tryz.prog 121=some (1):=by kernel_rfl
@[go_sem] theorem Pg:gR Tryz.prog 121=some (4,1,1):=by kernel_rfl
@[go_sem] theorem O3:cp Tryz.prog 123=some (true):=by kernel_rfl
@[go_sem] theorem NY:aY Tryz.prog 123=some (2):=by kernel_rfl
@[go_sem] theorem Oh:b6 Tryz.prog 123=some ([.v (.slice none 0 0), .v (.slice none 0 0)]):=by kernel_rfl
@[go_sem] theorem Ma:c8 Tryz.prog 123 0=some (0):=by kernel_rfl
@[go_sem] theorem Mb:c8 Tryz.prog 123 1=some (1):=by kernel_rfl
@[go_sem] theorem QL:yw Tryz.prog 123=some ([(0,1),(1,1)],[.v (.slice none 0 0), .v (.slice none 0 0)]):=by kernel_rfl
@[go_sem] theorem Mc:c8 Tryz.prog 125 0=some (0):=by kernel_rfl
@[go_sem] theorem QM:yw Tryz.prog 125=some ([(0,2),(2,1)],[.v (.slice none 0 0), .v (.slice none 0 0), .v (.slice none 0 0)]):=by kernel_rfl
@[go_sem] theorem Q8:Tryz.prog.underlying 129=some (.slice 74):=by kernel_rfl
@[go_sem] theorem O4:cp Tryz.prog 129=some (false):=by kernel_rfl
@[go_sem] theorem NZ:aY Tryz.prog 129=some (1):=by kernel_rfl
@[go_sem] theorem Ph:gR Tryz.prog 129=some (74,2,32):=by kernel_rfl
@[go_sem] theorem Q9:Tryz.prog.underlying 137=some (.slice 56):=by kernel_rfl
@[go_sem] theorem Pj:gR Tryz.prog 137=some (56,1,24):=by kernel_rfl
@[go_sem] theorem Ra:Tryz.prog.underlying 149=some (.pointer 188):=by kernel_rfl
@[go_sem] theorem O5:cp Tryz.prog 149=some (false):=by kernel_rfl
@[go_sem] theorem N0:aY Tryz.prog 149=some (1):=by kernel_rfl
@[go_sem] theorem O6:cp Tryz.prog 153=some (false):=by kernel_rfl
@[go_sem] theorem N4:aY Tryz.prog 153=some (1):=by kernel_rfl
@[go_sem] theorem Rb:Tryz.prog.underlying 160=some (.slice 115):=by kernel_rfl
@[go_sem] theorem O7:cp Tryz.prog 160=some (false):=by kernel_rfl
@[go_sem] theorem N5:aY Tryz.prog 160=some (1):=by kernel_rfl
@[go_sem] theorem Pk:gR Tryz.prog 160=some (115,2,16):=by kernel_rfl
@[go_sem] theorem Md:c8 Tryz.prog 162 0=some (0):=by kernel_rfl
@[go_sem] theorem Me:c8 Tryz.prog 162 1=some (1):=by kernel_rfl
@[go_sem] theorem QN:yw Tryz.prog 162=some ([(0,1),(1,1)],[.v (.slice none 0 0), .v (.bool false)]):=by kernel_rfl
@[go_sem] theorem Rc:Tryz.prog.underlying 163=some (.map 9 3):=by kernel_rfl
@[go_sem] theorem Re:Tryz.prog.underlying 164=some (.map 9 3):=by kernel_rfl
@[go_sem] theorem O8:cp Tryz.prog 164=some (false):=by kernel_rfl
@[go_sem] theorem N6:aY Tryz.prog 164=some (1):=by kernel_rfl
@[go_sem] theorem Oi:b6 Tryz.prog 164=some ([.v (.map none)]):=by kernel_rfl
@[go_sem] theorem O9:cp Tryz.prog 171=some (true):=by kernel_rfl
@[go_sem] theorem N7:aY Tryz.prog 171=some (3):=by kernel_rfl
@[go_sem] theorem Pa:cp Tryz.prog 173=some (true):=by kernel_rfl
@[go_sem] theorem N8:aY Tryz.prog 173=some (4):=by kernel_rfl
@[go_sem] theorem Oj:b6 Tryz.prog 173=some ([.v (.string ⟨#[]⟩), .v (.int .i64 0), .v (.int .i64 0), .v (.string ⟨#[]⟩)]):=by kernel_rfl
@[go_sem] theorem Mf:c8 Tryz.prog 173 0=some (0):=by kernel_rfl
@[go_sem] theorem Mg:c8 Tryz.prog 173 1=some (1):=by kernel_rfl
@[go_sem] theorem Pb:cp Tryz.prog 185=some (false):=by kernel_rfl
@[go_sem] theorem N9:aY Tryz.prog 185=some (1):=by kernel_rfl
@[go_sem] theorem Ol:b6 Tryz.prog 185=some ([.v (.int .u32 0)]):=by kernel_rfl
@[go_sem] theorem Rf:Tryz.prog.underlying 186=some (.array 25 185):=by kernel_rfl
@[go_sem] theorem Mh:c8 Tryz.prog 188 0=some (0):=by kernel_rfl
@[go_sem] theorem Mi:c8 Tryz.prog 188 1=some (1):=by kernel_rfl
@[go_sem] theorem Mj:c8 Tryz.prog 188 2=some (26):=by kernel_rfl
@[go_sem] theorem Mk:c8 Tryz.prog 188 3=some (27):=by kernel_rfl
@[go_sem] theorem QO:yw Tryz.prog 188=some ([(0,1),(1,25),(26,1),(27,1)],[.v (.slice none 0 0), .v (.int .u32 0), .v (.int .u32 0), .v (.int .u32 0), .v (.int .u32 0), .v (.int .u32 0), .v (.int .u32 0), .v (.int .u32 0), .v (.int .u32 0), .v (.int .u32 0), .v (.int .u32 0), .v (.int .u32 0), .v (.int .u32 0), .v (.int .u32 0), .v (.int .u32 0), .v (.int .u32 0), .v (.int .u32 0), .v (.int .u32 0), .v (.int .u32 0), .v (.int .u32 0), .v (.int .u32 0), .v (.int .u32 0), .v (.int .u32 0), .v (.int .u32 0), .v (.int .u32 0), .v (.int .u32 0), .v (.int .u32 0), .v (.bool false)]):=by kernel_rfl
@[go_sem] theorem Pc:cp Tryz.prog 190=some (true):=by kernel_rfl
@[go_sem] theorem Oa:aY Tryz.prog 190=some (2):=by kernel_rfl
@[go_sem] theorem Om:b6 Tryz.prog 190=some ([.v (.int .u32 0), .v (.int .u32 0)]):=by kernel_rfl
@[go_sem] theorem Ml:c8 Tryz.prog 190 0=some (0):=by kernel_rfl
@[go_sem] theorem Mm:c8 Tryz.prog 190 1=some (1):=by kernel_rfl
@[go_sem] theorem QP:yw Tryz.prog 190=some ([(0,1),(1,1)],[.v (.int .u32 0), .v (.int .u32 0)]):=by kernel_rfl
@[go_sem] theorem Rg:Tryz.prog.underlying 199=some (.map 3 3):=by kernel_rfl
@[go_sem] theorem Pd:cp Tryz.prog 199=some (false):=by kernel_rfl
@[go_sem] theorem Ob:aY Tryz.prog 199=some (1):=by kernel_rfl
@[go_sem] theorem On:b6 Tryz.prog 199=some ([.v (.map none)]):=by kernel_rfl
@[go_sem] theorem Rh:Tryz.prog.underlying 208=some (.array 2 3):=by kernel_rfl
@[go_sem] theorem QQ:yw Tryz.prog 208=some ([(0,1),(1,1)],[.v (.int .i64 0), .v (.int .i64 0)]):=by kernel_rfl
@[go_sem] theorem Ri:Tryz.prog.underlying 301=some (.array 32 5):=by kernel_rfl
open Go.RowKit Go.Shelf
attribute [local go_sem] Oper.semAt_some
def Sa (J Jx:List XC->World->Prop) (Kp:World->World->Prop) (pre:List XC) (xs:List Ex) (W:World) (e:Ending) (W':World):Prop:=
 (e = .returned (.bool true)∧(∃L,L.map XC.sig=xs.map Ex.sig∧J (pre++L) W')∧Kp W W') ∨
 (e = .returned (.bool false)∧ ∃q,q.map XC.sig <+: xs.map Ex.sig∧Jx (pre++q) W')
def WalkC (F:Fence) (l N lo hi:Nat) (et:TypeId) (J Jx:List XC->World->Prop) (w0:World) (x:Ex):Prop:=
 ∀(n:Nat) (cx:List Value) (pre:List XC) (W:World),dI w0 x cx->x.ok->Cells w0 W->hi<=W.heap.size->J pre W->pre.length+(au x).length<=N ->
  CallsIn F n Tryz.prog 110 #[.agg cx.toArray, .func (.yield l) #[] #[]] W (Sa J Jx (Kept lo hi et) pre (au x) W)
theorem DM (F:Fence) (hF: ∀f,F.fn f) (hd:F.depth=none) (hro:F.round=none) (l N lo hi:Nat) (et:TypeId) (het:25≠et) (J Jx:List XC->World->Prop) (w0:World) (hlo:w0.heap.size<=lo)
  (hJ: ∀pre W o,J pre W->J pre (W.alloc o))
  (hY: ∀m pre (c:XC) W,J pre W->pre.length<N->YieldAt F m Tryz.prog l #[c.val] W (Sb J Jx (Kept lo hi et) pre c W)) (x:Ex):WalkC F l N lo hi et J Jx w0 x:=by
 induction x using Ex.ind with
 | h k s kids ih=>
  intro n cx pre W hx hok hb hhi hj hN;rw [dI] at hx;obtain ⟨sv,rfl,hr⟩:=hx;obtain ⟨p,c,rfl,hc1,hc2⟩:=hr.shape;rw [Ex.ok] at hok;obtain ⟨hs,hoks⟩:=hok
  replace hs:=hs.len
  rw [au] at hN ⊢
  have hdd: ∀k:Nat,(F.depth.isSome=true->1<=k):=fun k h=>by rw [hd] at h;cases h
  obtain ⟨xc,hxv,hxs⟩: ∃xc:XC,xc.val = .agg #[.int .i64 k, .string s, .slice p kids.length c]∧xc.sig=(k,s,kids.length):=⟨⟨k,s,p,kids.length,c,hs,by omega⟩,rfl,rfl⟩;have hy1:=hY (n - 1) pre xc (W.alloc (.cells #[.int .i64 k, .string s, .slice p kids.length c] 25)) (hJ _ _ _ hj) (by simp at hN;omega);obtain ⟨fn,tmps,assign,body,hy,hR⟩:=hy1;rw [hxv] at hy;have HR:=Lib.hid hR;clear hR;have HX:=Lib.hid ih;have HO:=Lib.hid (nM.1 hoks);have HRd:=Lib.hid hr;have HBl:=Lib.hid hb;have HNN:=Lib.hid hN;have HJ:=Lib.hid hJ;have HXS:=Lib.hid hxs
  have HW:Hid (W.heap.size<(W.alloc (.cells #[.int .i64 k, .string s, .slice p kids.length c] 25)).heap.size):=by show _<_;simp
  have HB:Hid ((W.alloc (.cells #[.int .i64 k, .string s, .slice p kids.length c] 25)).heap[W.heap.size]? = some (.cells #[.int .i64 k, .string s, .slice p kids.length c] 25)):=by show _=_;exact dJ _ _
  clear ih hoks hr hb hN hj hs hY hJ hxv hxs;unfold maxLen at hc2;refine callsIn_of_wp Tryz.func110 rfl (hF _) ?_ hro;simp only [Tryz.ntmps110,List.size_toArray,List.length_cons,List.length_nil,Nat.reduceAdd,Nat.reduceSub,UB,UC,List.push_toArray,List.append_toArray,List.nil_append,List.cons_append]
  gi_wp2_with fail
  refine HR.out.mono ?_
  rintro e W2 (⟨rfl,hJ2,hk2⟩|⟨rfl,hx2⟩)
  ·have hbox:=hk2.box hhi het HB.out;have hk1:Kept lo hi et W W2:=(Kept.alloc W _).trans hk2;have hce:=aj hbox 2;have HH:=Lib.hid hbox;have HK:=Lib.hid hk1;have HJ2:=Lib.hid hJ2;clear hbox hk1 hk2 hJ2;simp only [Tp,UD,Ud] at hce
   gi_wp2_with fail
   gi_loopw [4,14] (fun r i wr=>r = .bool false∧ ∃k:Nat,i = .int .i64 k∧k<=kids.length∧Kept lo hi et W wr∧ ∃L,L.map XC.sig=((bL (kids.take k))).map Ex.sig∧J (pre++[xc]++L) wr) (fun _ i _=>kids.length - (intOf i).toNat)
   case atStart=>exact ⟨rfl,0,rfl,Nat.zero_le _,HK.out,[],rfl,by simpa using HJ2.out⟩
   case round=>
    obtain ⟨rfl,i,rfl,hik,hkw,L,hL,hJL⟩:=hrel;have HKW:=Lib.hid hkw;have HL:=Lib.hid hL;have HJL:=Lib.hid hJL
    have hlen:L.length=(bL (kids.take i)).length:=by have:=congrArg List.length hL;simpa using this
    clear hkw hL hJL
    by_cases hlt:i<kids.length
    ·have hcw:=HKW.out.cells HBl.out hlo;obtain ⟨b1,o1,k1,s1,l1,v1,rfl,hx1,hr1,a0,a1,a2⟩:=HRd.out.at hlt;obtain ⟨p1,c1,rfl, -, -⟩:=hr1.shape
     replace a0:=hcw _ _ _ a0
     replace a1:=hcw _ _ _ a1
     replace a2:=hcw _ _ _ a2
     have hq1:=ju a0;have hmem:kids[i]∈kids:=List.getElem_mem _
     have hrx:dI w0 kids[i] [.int .i64 k1, .string s1, .slice p1 l1.length c1]:=by rw [hx1,dI];exact ⟨_,rfl,hr1⟩
     have hpp:=lY hlt
     have hbd:(pre++[xc]++L).length+(au kids[i]).length<=N:=by
      have h1:=HNN.out;have h2:=nN kids (i+1);rw [hpp] at h2;simp at h1 h2 ⊢;omega
     have HH1:=Lib.hid (fun m W' hcc hh hj=>HX.out kids[i] hmem m _ (pre++[xc]++L) W' hrx (HO.out _ hmem) hcc hh hj hbd);have HCW:=Lib.hid hcw;have HPP:=Lib.hid hpp;have hhw:=Nat.le_trans hhi HKW.out.size;have HB2:=Lib.hid (fun o=>Kept.alloc (lo:=lo) (hi:=hi) (e:=et) wr o)
     have HS2:Hid (∀o:Obj,hi<=(wr.alloc o).heap.size):=fun o=>by simp;omega
     have HJJ:Hid (∀o:Obj,J (pre++[xc]++L) (wr.alloc o)):=fun o=>HJ.out _ _ _ HJL.out;have HC2:Hid (∀o:Obj,Cells w0 (wr.alloc o)):=fun o=>(HB2.out o).cells HCW.out hlo;clear hx1 hr1 hcw hmem hrx hpp hbd hlen
     gi_wp2_with fail
     refine (HH1.out _ _ (HC2.out _) (HS2.out _) (HJJ.out _)).mono ?_
     rintro e W3 (⟨rfl,⟨L3,hL3,hJ3⟩,hk3⟩|⟨rfl,q,hq,hx3⟩)
     ·have HL3:=Lib.hid hL3;have HJ3:=Lib.hid hJ3;have HK3:=Lib.hid (HKW.out.trans ((HB2.out _).trans hk3));clear hL3 hJ3 hk3
      gi_wp2_with fail
      go_roundw
      case rel=>exact ⟨rfl,i+1,by go_num,by omega,HK3.out,L++L3,by rw [HPP.out];simp [HL.out,HL3.out],by simpa using HJ3.out⟩
      case measure=>simp [intOf];omega
     ·have HQ:=Lib.hid hq;have HX3:=Lib.hid hx3;clear hq hx3
      gi_wp2_with fail
      go_ret
      refine .inr ⟨rfl,[xc]++(L++q), ?_,by simpa using HX3.out⟩;obtain ⟨r,hr⟩:=HQ.out;have h2:=fZ (kids.take (i+1)) (kids.drop (i+1));rw [List.take_append_drop,HPP.out] at h2;refine ⟨r++(bL (kids.drop (i+1))).map Ex.sig, ?_⟩;rw [h2];simp [HXS.out,Ex.sig,HL.out, <- hr]
    ·gi_wp2
     go_ret
     obtain rfl:i=kids.length:=by omega
     refine .inl ⟨rfl,⟨[xc]++L, ?_,by simpa using HJL.out⟩,HKW.out⟩;simp [HXS.out,Ex.sig,HL.out]
  ·gi_wp2
   go_ret
   exact .inr ⟨rfl,[xc],by simp [HXS.out,Ex.sig],hx2⟩
theorem o9 (F:Fence) (hF: ∀f,F.fn f) (hd:F.depth=none) (hro:F.round=none) (n lo hi B:Nat) (et:TypeId) (het:25≠et) (x:Ex) (cx:List Value) (w0 w:World) (hlo:w0.heap.size<=lo) (hhi:hi<=w.heap.size)
  (hx:dI w0 x cx) (hok:x.ok) (hc:Cells w0 w) (hB:w.heap[B]? = some (.cells cx.toArray 25)) :
  SeqStopsK F n Tryz.prog 109 #[.pointer (some ⟨B,0,none⟩)] (fun c:XC=> #[c.val]) (Kept lo hi et) (fun L=>L.map XC.sig=(au x).map Ex.sig) (fun q=>q.map XC.sig <+: (au x).map Ex.sig) (au x).length w:=by
 intro l J Jx W hW hJ hJx hY h0;have hw:=DM F hF hd hro l (au x).length lo hi et het J Jx w0 hlo (fun pre W o h=>hJ pre _ _ none h (World.grownBy_alloc W o none) (fun r e=>by cases e)) (fun m pre c W hj hl=>oD hd m (hY pre c W hj hl)) x (n - 1) cx [] W hx hok (hc.trans (.of hW)) (Nat.le_trans hhi hW.size) h0 (by simp);obtain ⟨k,s,kids⟩:=x;rw [dI] at hx;obtain ⟨sv,rfl,hr⟩:=hx;obtain ⟨p,c,rfl, -, -⟩:=hr.shape;have hbw:=(hW.block B (Array.getElem?_eq_some_iff.1 hB).1).trans hB;have c0:=aj hbw 0;have c1:=aj hbw 1;have c2:=aj hbw 2;simp only [Tp,UD,Ud] at c0 c1 c2;have HW:=Lib.hid hw
 have hdd: ∀k:Nat,(F.depth.isSome=true->1<=k):=fun k h=>by rw [hd] at h;cases h
 clear hw hJ hJx hY h0 hr hbw hB hc hW;refine callsIn_of_wp Tryz.func109 rfl (hF _) ?_ hro;simp only [Tryz.ntmps109,List.size_toArray,List.length_cons,List.length_nil,Nat.reduceAdd,Nat.reduceSub,UB,UC,List.push_toArray,List.append_toArray,List.nil_append,List.cons_append]
 gi_wp2_with fail
 refine HW.out.mono ?_
 rintro e W1 (⟨rfl,⟨L,hL,hJ1⟩, -⟩|⟨rfl,q,hq,hx⟩)
 ·have HL:=Lib.hid hL;have HJ1:=Lib.hid hJ1;clear hL hJ1
  gi_wp2
  go_end0
  exact ⟨⟨_,rfl⟩, .inl ⟨L,HL.out,by simpa using HJ1.out⟩⟩
 ·have HQ:=Lib.hid hq;have HX:=Lib.hid hx;clear hq hx
  gi_wp2
  go_end0
  exact ⟨⟨_,rfl⟩, .inr ⟨q,HQ.out,by simpa using HX.out⟩⟩
theorem th (k:Int) (s:ByteArray) (p:Option Addr) (n c:Nat) (w:World) :
  Calls Tryz.prog 75 #[.agg #[.int .i64 k, .string s, .slice p n c]] w fun e w'=>e = .returned (.func (.func 109) #[] #[.pointer (some ⟨w.heap.size,0,none⟩)])∧w.alloc (.cells #[.int .i64 k, .string s, .slice p n c] 25)=w':=by
 go_enter Tryz.func75,Tryz.ntmps75
 go_wp2_with fail
 go_ret
 exact ⟨rfl,rfl⟩
end
end Go.Proofs.YtlhhccmopfamhaaGreatDoor
