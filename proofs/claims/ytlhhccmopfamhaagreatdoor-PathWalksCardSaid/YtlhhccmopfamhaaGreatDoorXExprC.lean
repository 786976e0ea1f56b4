/- texts of one claim, one behind the other. -/
import Derived.Test.YtlhhccmopfamhaaGreatDoorXRelG
import Derived.KernelRfl
import Derived.Test.YtlhhccmopfamhaaGreatDoorProg
import Derived.Test.YtlhhccmopfamhaaGreatDoorXAbsN
import Derived.Test.YtlhhccmopfamhaaGreatDoorXFen
import Derived.StillTailTactics
import Derived.Sort.Grow
import Derived.Shelf.Sort.Plain
import Derived.Shelf.Slices.CompactI
import Derived.Shelf.Slices.In.SortNone
import Derived.Shelf.Spec.SlicesGrow
set_option linter.unusedSimpArgs false
set_option linter.unusedVariables false
set_option maxRecDepth 100000
set_option maxHeartbeats 16000000
open Array renaming getElem?_append_left -> VE, getElem?_append_right -> V1, replicate_succ -> WD, replicate_zero -> WE, getElem?_modify -> VY, getElem?_eq_getElem -> Vh, getElem?_eq_some_iff -> U2, getElem?_eq_none -> WU, eq_empty_of_size_eq_zero -> WV
open Bool renaming false_eq_true -> Wy, or_eq_true -> We, and_eq_true -> VS, not_eq_true' -> WC, and_true -> Wg, true_and -> Wn, and_self -> WT, not_eq_eq_eq_not -> W5, eq_false_or_eq_true -> Xg
open List renaming getElem?_append_left -> U5, getElem?_append_right -> Vy, mem_of_getElem? -> VD, getElem?_inj -> Wz, getElem?_eq_some_iff -> U4, all_eq_true -> Wc, getElem?_eq_getElem -> Vi, getElem_mem -> WA, getD_eq_getElem?_getD -> VX, mem_range -> Wd, size_toArray -> Vs, getElem?_toArray -> Vk, getElem?_of_mem -> Vr, getElem?_drop -> Vg, getElem?_cons_zero -> V7, getElem?_cons_succ -> WG, zip_cons_cons -> WH, zip_nil_left -> WI, foldl_cons -> WJ, foldl_nil -> WK, setIfInBounds_toArray -> WL, set_cons_succ -> WN, set_cons_zero -> WO, getElem?_set_self -> Vq, getElem?_set_ne -> Vp, map_cons -> WR, eq_nil_of_length_eq_zero -> VF, length_cons -> U9, length_nil -> U3, replicate_succ -> WW, replicate_zero -> WX, cons_append -> WY, nil_append -> WZ, take_of_length_le -> W4, contains_iff_mem -> Xa, map_nil -> Xb, length_append -> U8, take_length -> Xc, eq_nil_or_concat -> Xd, take_succ_eq_append_getElem -> Xe, mem_flatMap -> Xf, mem_cons_self -> V4, mem_cons_of_mem -> V2
open Nat renaming lt_or_ge -> U6, eq_zero_or_pos -> WB, le_refl -> UZ, le_trans -> U0
open Option.some renaming injEq -> Ve
open Prod.mk renaming injEq -> Vf
open Go.Sort renaming heap_ahead -> WQ
open Option renaming map_some -> VB
open Int renaming natCast_inj -> W7, ofNat_lt -> W8, ofNat_le -> W9
namespace Go.Proofs.YtlhhccmopfamhaaGreatDoor
open Go.RowKit
section
section
variable {D:Nat->Prop} {nu:Nat->Nat->Value} {o:List (Option aa)} {w:World} {P:Program}
def Hn:Op->Bool
 | .move _| .assign _| .nilCheck _| .build .. | .binOp .. | .unOp .. | .convert .. | .makeFunc .. | .fieldAddr .. | .field .. | .index .. | .extract .. | .pick .. | .box .. | .buildSlice .. =>true
 | _=>false
theorem Dr {op:Op} (h:Hn op=true) {t:List AV} {o o':List (Option aa)} {y:iW} {K:AV->Prop} (hd:db P op ⟨t,o,y⟩ K):db P op ⟨t,o',y⟩ K:=by
 cases op with
 | makeFunc fn a b=>cases fn<;>exact hd
 | _=>first|(cases h;done)|exact hd
def mf (P:Program) (f:FuncId) (args:List AV) (o:List (Option aa)) (K:AV->List (Option aa)->Prop):Prop:= ∃r o',aK P f args o r o'∧K r o'
@[congr] theorem I7 {f:FuncId} {args args':List AV} {o o':List (Option aa)} {K:AV->List (Option aa)->Prop} (h:args=args') (k:o=o'):mf P f args o K=mf P f args' o' K:=by rw [h,k]
theorem mf.out {f:FuncId} {args:List AV} {r:AV} {o':List (Option aa)} {K:AV->List (Option aa)->Prop} (h:aK P f args o r o') (k:K r o'):mf P f args o K:=⟨r,o',h,k⟩
def Dd (P:Program) (f:AV) (args:List AV) (o:List (Option aa)) (K:AV->List (Option aa)->Prop):Prop:=match f with
 | .fn g first caps=>mf P g (first++args++caps) o K
 | _=>False
@[congr] theorem L6 {f f':AV} {args args':List AV} {o o':List (Option aa)} {K:AV->List (Option aa)->Prop} (h:f=f') (k:args=args') (l:o=o'):Dd P f args o K=Dd P f' args' o' K:=by rw [h,k,l]
theorem Ja (g:FuncId) (first caps args:List AV) (o:List (Option aa)) (K:AV->List (Option aa)->Prop):Dd P (.fn g first caps) args o K=mf P g (first++args++caps) o K:=rfl
def sQ (P:Program) (op:Op) (s:AS) (K:AV->List (Option aa)->Prop):Prop:=match op with
 | .pick _ _ _=>False
 | .call c=>match c.callee with
  | .value f=>Dd P (s.ev f) (c.args.toList.map s.ev) s.o K
  | _=>AR (Jy P s.ev s.o (.call c)) K
 | op=>AR (Jy P s.ev s.o op) K
theorem Js {s:AS} {op:Op} {K:AV->List (Option aa)->Prop} (h:sQ P op s K): ∃r o',K r o'∧sQ P op s (fun r' o''=>r'=r∧o''=o'):=by
 unfold sQ at h ⊢
 split at h
 ·exact h.elim
 ·split at h
  ·unfold Dd at h ⊢
   split at h
   ·obtain ⟨r,o',h1,h2⟩:=h;exact ⟨r,o',h2,r,o',h1,rfl,rfl⟩
   ·exact h.elim
  ·unfold AR at h ⊢
   split at h
   ·exact ⟨_,_,h.2,h.1,rfl,rfl⟩
   ·exact h.elim
 ·unfold AR at h ⊢
  split at h
  ·exact ⟨_,_,h.2,h.1,rfl,rfl⟩
  ·exact h.elim
theorem Dq {s:AS} {rho:Operand->Value} {oo:Oper} {r:AV} {o':List (Option aa)} (h:RO D nu s.o w) (hev:I0 D nu s.o w s.ev rho oo.op) (hd:sQ P oo.op s (fun r' o''=>r'=r∧o''=o')) :
  (∃v w' nu',((execOp rho oo).run P w = .ok (.value v) w'∨((execOp rho oo).run P w = .ok .skip w'∧v=Go.undef))∧bt nu s.o w nu' o' w'∧RO D nu' o' w'∧RA D nu' o' w' r v) ∨
  (∃g vargs,(execOp rho oo).run P w = .ok (.enter g vargs) w∧Calls P g vargs w (fun e w'=> ∃v nu',e = .returned v∧bt nu s.o w nu' o' w'∧RO D nu' o' w'∧RA D nu' o' w' r v)):=by
 have hop: ∀op,oo.op=op->AR (Jy P s.ev s.o op) (fun r' o''=>r'=r∧o''=o')->(∃v w' nu',((execOp rho oo).run P w = .ok (.value v) w'∨((execOp rho oo).run P w = .ok .skip w'∧v=Go.undef))∧bt nu s.o w nu' o' w'∧RO D nu' o' w'∧RA D nu' o' w' r v):=by
  intro op ho hh;subst ho;unfold AR at hh
  split at hh
  ·rename_i p r1 o1 e;obtain ⟨hp,rfl,rfl⟩:=hh;obtain ⟨v,w',nu',h1,h2,h3,h4⟩:=xj (P:=P) h hev e hp;exact ⟨v,w',nu',h1,h2,h3,h4⟩
  ·exact hh.elim
 unfold sQ at hd
 split at hd
 ·exact hd.elim
 ·rename_i c ho
  split at hd
  ·rename_i f hc;unfold Dd at hd
   split at hd
   ·rename_i g first caps e
    obtain ⟨r1,o1,hcall,rfl,rfl⟩:=hd;have hf:=hev f (by rw [ho];simp [Op.operands,Call.operands,hc]);rw [e] at hf;generalize hq:rho f=vf at hf
    cases hf with
    | fn _ _ _ fi ca q1 q2 q3 q4=>
    have hargs: ∀x,x∈c.args.toList->RA D nu s.o w (s.ev x) (rho x):=fun x hx=>hev x (by rw [ho];simp only [Op.operands,Call.operands,hc];simp;exact .inr (by simpa using hx))
    have hra:fE D nu s.o w (first++c.args.toList.map s.ev++caps) (fi++c.args.map rho++ca):=by
     refine ⟨by simp [q1,q2],fun i cc x k1 k2=> ?_⟩;rw [List.append_assoc] at k1;rw [Array.append_assoc] at k2
     rcases U6 i first.length with l1|l1
     ·rw [U5 l1] at k1;rw [VE (by omega)] at k2;exact q3 i cc x k1 k2
     ·rw [Vy l1] at k1;rw [V1 (by omega)] at k2;rw [q1] at k1
      rcases U6 (i - fi.size) c.args.size with l2|l2
      ·rw [U5 (by simpa using l2),List.getElem?_map] at k1;rw [VE (by simpa using l2),Array.getElem?_map] at k2
       have e2:c.args.toList[i - fi.size]? = c.args[i - fi.size]? :=by simp
       rw [e2] at k1
       cases hk2:c.args[i - fi.size]? with
       | none=>rw [hk2] at k1;cases k1
       | some y=>
        rw [hk2] at k1 k2;cases k1;cases k2;exact hargs y (VD (by rw [e2];exact hk2))
      ·rw [Vy (by simpa using l2)] at k1;rw [V1 (by simpa using l2)] at k2;simp only [List.length_map,Array.length_toList,Array.size_map] at k1 k2;exact q4 _ cc x k1 k2
    refine .inr ⟨g,_, ?_,(hcall.2 D nu w _ h hra).mono ?_⟩
    ·simp only [execOp,ho,resolve,hc,hq,Deferred.ofValue,Sem.run_bind,Sem.run_pure,Result.andThen_ok,invoke];exact gR hcall.1 _ w
    ·rintro e w' ⟨v,nu',o2,r2,rfl,m1,m2,m3,rfl,rfl⟩;exact ⟨v,nu',rfl,m1,m2,m3⟩
   ·exact hd.elim
  ·exact .inl (hop _ ho hd)
 ·exact .inl (hop _ rfl hd)
def kQ:List (Nat×Nat)->Nat->Option Nat
 | [],_=>none
 | (j,lo) :: fs,k=>if j=k∧lo<1000 then some lo else kQ fs k
def vM:List (Nat×Nat)->Nat->Bool
 | [],_=>false
 | (j,lo) :: fs,k=>decide (j=k∧lo=1000)||vM fs k
def M1:Option (List (Option aa)->Prop)->List (Option aa)->Prop
 | none,_=>True
 | some p,o=>p o
def cr (P:Program) (all:List Oper) (es:List Nat) (fs:List (Nat×Nat)):List Oper->Nat->AS->List (List (Option aa))->Option (List (Option aa)->Prop)->(AS->Prop)->Prop
 | [],_,s,_,_,Q=>Q s
 | oo :: rest,k,s,hist,pn,Q=>if es.contains k then (match oo.guard with
   | none=>sQ P oo.op s (fun r o'=>M1 pn o'∧cr P all es fs rest (k+1) (s.put oo.dst r o') (hist++[s.o]) pn Q)
   | some _=>False) else match kQ fs k with
   | some lo=>oo.guard=none∧db P oo.op s (fun r=>(∀o',o'∈hist.drop lo->db P oo.op ⟨s.t,o',s.y⟩ (fun r'=>r'=r))∧cr P all es fs rest (k+1) (s.put oo.dst r s.o) hist pn Q)
   | none=>if vM fs k=true then oo.guard=none∧db P oo.op s (fun r=>cr P all es fs rest (k+1) (s.put oo.dst r s.o) hist (some fun o'=>M1 pn o'∧db P oo.op ⟨s.t,o',s.y⟩ (fun r'=>r'=r)) Q)
    else eo P all oo s (fun s'=>cr P all es fs rest (k+1) s' hist pn Q)
def OF (P:Program) (all:List Oper) (es:List Nat) (fs:List (Nat×Nat)):List Oper->Nat->AS->List (List (Option aa))->List AV->List (List (Option aa))->AS->Prop
 | [],_,s,_,rs,os,sf=>rs=[]∧os=[]∧sf=s
 | oo :: rest,k,s,hist,rs,os,sf=> ∃r rs',rs=r :: rs' ∧
   ((es.contains k=true∧oo.guard=none∧ ∃o' os',os=o' :: os'∧sQ P oo.op s (fun r' o''=>r'=r∧o''=o')∧OF P all es fs rest (k+1) (s.put oo.dst r o') (hist++[s.o]) rs' os' sf) ∨
   (es.contains k=false∧(((oo.guard=none∨ ∃j want b,oo.guard=some (j,want)∧jl all s j=some (some b)∧(b==want)=true)∧db P oo.op s (fun r'=>r'=r)∧(∀lo,kQ fs k=some lo-> ∀o',o'∈hist.drop lo->db P oo.op ⟨s.t,o',s.y⟩ (fun r'=>r'=r))∧(kQ fs k=none->vM fs k=true-> ∀o',o'∈os->db P oo.op ⟨s.t,o',s.y⟩ (fun r'=>r'=r))) ∨
    (kQ fs k=none∧vM fs k=false∧r = .v Go.undef∧ ∃j want g,oo.guard=some (j,want)∧jl all s j=some g∧(g=none∨ ∃b,g=some b∧(b==want)=false)))∧OF P all es fs rest (k+1) (s.put oo.dst r s.o) hist rs' os sf))
theorem e8 {all:List Oper} {es:List Nat} {fs:List (Nat×Nat)}: ∀(rest:List Oper) (k:Nat) (s:AS) (hist:List (List (Option aa))) {pn:Option (List (Option aa)->Prop)} {Q:AS->Prop},cr P all es fs rest k s hist pn Q-> ∃rs os sf,OF P all es fs rest k s hist rs os sf∧(∀o',o'∈os->M1 pn o')∧Q sf
 | [],k,s,hist,pn,Q,h=>⟨[],[],s,⟨rfl,rfl,rfl⟩,(fun _ h=>by cases h),h⟩
 | oo :: rest,k,s,hist,pn,Q,h=>by
  simp only [cr] at h
  cases he:es.contains k
  ·rw [he] at h;simp only [Wy,if_false] at h
   cases hf:kQ fs k with
   | some lo=>
    rw [hf] at h;obtain ⟨hg,h⟩:=h;obtain ⟨r,⟨hh,hk⟩,hr⟩:=jH h;obtain ⟨rs,os,sf,h1,h2⟩:=e8 rest (k+1) _ hist hk;exact ⟨r :: rs,os,sf,⟨r,rs,rfl, .inr ⟨he, .inl ⟨.inl hg,hr,(fun lo' hl=>by rw [hf] at hl;cases hl;exact hh),fun hn=>by rw [hf] at hn;cases hn⟩,h1⟩⟩,h2⟩
   | none=>
   rw [hf] at h
   have hno: ∀r lo,kQ fs k=some lo-> ∀o',o'∈hist.drop lo->db P oo.op ⟨s.t,o',s.y⟩ (fun r'=>r'=r):=fun r lo hl=>by rw [hf] at hl;cases hl
   simp only at h;cases hlt:vM fs k
   case true=>
    rw [hlt] at h;simp only [if_true] at h;obtain ⟨hg,h⟩:=h;obtain ⟨r,hk,hr⟩:=jH h;obtain ⟨rs,os,sf,h1,h0,h2⟩:=e8 rest (k+1) _ hist hk;exact ⟨r :: rs,os,sf,⟨r,rs,rfl, .inr ⟨he, .inl ⟨.inl hg,hr,hno r,fun _ _ o' ho'=>(h0 o' ho').2⟩,h1⟩⟩,fun o' ho'=>(h0 o' ho').1,h2⟩
   have hla: ∀(r:AV) (os:List (List (Option aa))),kQ fs k=none->vM fs k=true-> ∀o',o'∈os->db P oo.op ⟨s.t,o',s.y⟩ (fun r'=>r'=r):=fun r os _ h=>by rw [hlt] at h;cases h
   rw [hlt] at h;simp only [Wy,if_false] at h;simp only [eo] at h
   split at h
   ·rename_i hg;obtain ⟨r,hk,hr⟩:=jH h;obtain ⟨rs,os,sf,h1,h2⟩:=e8 rest (k+1) _ hist hk;exact ⟨r :: rs,os,sf,⟨r,rs,rfl, .inr ⟨he, .inl ⟨.inl hg,hr,hno r,hla r _⟩,h1⟩⟩,h2⟩
   ·rename_i j want hg;unfold sR at h
    split at h
    ·rename_i b e
     cases hb:b==want
     ·rw [hb,tu] at h;obtain ⟨rs,os,sf,h1,h2⟩:=e8 rest (k+1) _ hist h;exact ⟨_ :: rs,os,sf,⟨_,rs,rfl, .inr ⟨he, .inr ⟨hf,hlt,rfl,j,want,_,hg,e, .inr ⟨b,rfl,hb⟩⟩,h1⟩⟩,h2⟩
     ·rw [hb,wV] at h;obtain ⟨r,hk,hr⟩:=jH h;obtain ⟨rs,os,sf,h1,h2⟩:=e8 rest (k+1) _ hist hk;exact ⟨r :: rs,os,sf,⟨r,rs,rfl, .inr ⟨he, .inl ⟨.inr ⟨j,want,b,hg,e,hb⟩,hr,hno r,hla r _⟩,h1⟩⟩,h2⟩
    ·rename_i e;obtain ⟨rs,os,sf,h1,h2⟩:=e8 rest (k+1) _ hist h;exact ⟨_ :: rs,os,sf,⟨_,rs,rfl, .inr ⟨he, .inr ⟨hf,hlt,rfl,j,want,_,hg,e, .inl rfl⟩,h1⟩⟩,h2⟩
    ·exact h.elim
  ·rw [he] at h;simp only [if_true] at h
   split at h
   ·rename_i hg;obtain ⟨r,o',⟨hpo,hk⟩,hr⟩:=Js h;obtain ⟨rs,os,sf,h1,h0,h2⟩:=e8 rest (k+1) _ _ hk;exact ⟨r :: rs,o' :: os,sf,⟨r,rs,rfl, .inl ⟨he,hg,o',os,rfl,hr,h1⟩⟩,fun o'' ho=>(List.mem_cons.1 ho).elim (fun e=>by rw [e];exact hpo) (h0 o''),h2⟩
   ·exact h.elim
def s8 (ops:Array Oper):Nat->Nat->Nat->Bool
 | 0,_,_=>false
 | n+1,j,i=>aG ops j i||(List.range ops.size).any (fun k=>aG ops j k&&s8 ops n k i)
def J7 (ops:Array Oper) (es:List Nat) (j:Nat):Bool:=es.all (fun e=>decide (e=j)||if e<j then s8 ops ops.size j e else s8 ops ops.size e j)
def ux:List Nat->Bool
 | []=>true
 | [_]=>true
 | a :: b :: l=>decide (a<b)&&ux (b :: l)
def Gy (ops:Array Oper) (es:List Nat) (fs:List (Nat×Nat)) (j:Nat):Bool:=match kQ fs j with
 | some lo=>decide (lo<=es.length)&&(es.take lo).all (fun e=>s8 ops ops.size j e)&&es.all (fun e=>decide (e<j)||(e !=j&&s8 ops ops.size e j))
 | none=>false
def G6 (ops:Array Oper) (es:List Nat) (fs:List (Nat×Nat)) (j:Nat):Bool:= !es.contains j&&(kQ fs j).isNone&&vM fs j&&es.all (fun e=>decide (j<=e)||s8 ops ops.size j e)
def rB (ops:Array Oper) (es:List Nat) (fs:List (Nat×Nat)):Bool:=nR ops&&ux es&&es.all (fun e=>decide (e<ops.size))&&(List.range ops.size).all (fun j=>(match ops[j]? with|some oo=>Hn oo.op|none=>true) && !es.contains j||J7 ops es j||Gy ops es fs j||G6 ops es fs j)
structure GG (D:Nat->Prop) (nu0:Nat->Nat->Value) (o0:List (Option aa)) (w0:World) (l:List Oper) (es:List Nat) (O:Nat->List (Option aa)) where
 w:World
 nu:Nat->Nat->Value
 done:Nat->Bool
 c:Nat
 ro:RO D nu (O c) w
 mono:bt nu0 o0 w0 nu (O c) w
 cl: ∀j i,done j=true->aG l.toArray j i=true->done i=true
 ef: ∀k e,es[k]? = some e->(done e=true↔k<c)
 le:c<=es.length
variable {nu0:Nat->Nat->Value} {o0:List (Option aa)} {w0:World} {l:List Oper} {es:List Nat} {O:Nat->List (Option aa)}
def cR (D:Nat->Prop) (nu0:Nat->Nat->Value) (o0:List (Option aa)) (w0:World) (l:List Oper) (es:List Nat) (O:Nat->List (Option aa)):kD:=
 ⟨GG D nu0 o0 w0 l es O,GG.w,fun g g'=>bt g.nu (O g.c) g.w g'.nu (O g'.c) g'.w∧ ∀j,g.done j=true->g'.done j=true,fun g=>⟨.refl _ _ _,fun _ h=>h⟩,fun _ _ _ h k=>⟨h.1.trans k.1,fun j hj=>k.2 j (h.2 j hj)⟩,fun j g=>g.done j=false⟩
def me (D:Nat->Prop) (nu0:Nat->Nat->Value) (o0:List (Option aa)) (w0:World) (l:List Oper) (es:List Nat) (O:Nat->List (Option aa)) (k:Nat) (r:AV):fY (cR D nu0 o0 w0 l es O):=
 ⟨fun v g=>RA D g.nu (O g.c) g.w r v∧g.done k=true,fun v g g' hR h=>⟨h.1.mono hR.1 (fun _ _ h=>h),hR.2 k h.2⟩⟩
def GG.next (g:GG D nu0 o0 w0 l es O) (k:Nat) (w':World) (hb:Below g.w.heap.size g.w w') (hd: ∀i,aG l.toArray k i=true->g.done i=true) (he:es.contains k=false):GG D nu0 o0 w0 l es O where
 w:=w'
 nu:=g.nu
 done:=fun j=>if j=k then true else g.done j
 c:=g.c
 ro:=g.ro.below hb
 mono:=g.mono.trans (aw hb)
 cl:=fun j i h1 h2=>by
  by_cases hi:i=k
  ·simp [hi]
  ·simp only [if_neg hi]
   by_cases hj:j=k
   ·subst hj;exact hd i h2
   ·simp only [if_neg hj] at h1;exact g.cl j i h1 h2
 ef:=fun m e h=>by
  have hne:e≠k:=fun hh=>by
   subst hh
   have:=VD h
   simp [this] at he
  simp only [if_neg hne];exact g.ef m e h
 le:=g.le
theorem GG.MN (g:GG D nu0 o0 w0 l es O) (k:Nat) (w':World) (hb:Below g.w.heap.size g.w w') (hd: ∀i,aG l.toArray k i=true->g.done i=true) (he:es.contains k=false) :
  (cR D nu0 o0 w0 l es O).R g (g.next k w' hb hd he)∧ ∀i,i≠k->(cR D nu0 o0 w0 l es O).pre i g->(cR D nu0 o0 w0 l es O).pre i (g.next k w' hb hd he):=by
 refine ⟨⟨aw hb,fun j hj=> ?_⟩,fun i hi h=> ?_⟩
 ·show (if j=k then true else g.done j)=true
  by_cases hjk:j=k
  ·simp [hjk]
  ·simp [hjk,hj]
 ·show (if i=k then true else g.done i)=false;simp [hi];exact h
def GG.RY (g:GG D nu0 o0 w0 l es O) (k:Nat) (w':World) (nu':Nat->Nat->Value) (hm:bt g.nu (O g.c) g.w nu' (O (g.c+1)) w') (hr:RO D nu' (O (g.c+1)) w') (hd: ∀i,aG l.toArray k i=true->g.done i=true) (he:es[g.c]? = some k) (hn:es.Nodup):GG D nu0 o0 w0 l es O where
 w:=w'
 nu:=nu'
 done:=fun j=>if j=k then true else g.done j
 c:=g.c+1
 ro:=hr
 mono:=g.mono.trans hm
 cl:=fun j i h1 h2=>by
  by_cases hi:i=k
  ·simp [hi]
  ·simp only [if_neg hi]
   by_cases hj:j=k
   ·subst hj;exact hd i h2
   ·simp only [if_neg hj] at h1;exact g.cl j i h1 h2
 ef:=fun m e h=>by
  by_cases hek:e=k
  ·subst hek
   have:m=g.c:=(Wz (U4.1 h).1 hn).1 (h.trans he.symm)
   simp [this]
  ·simp only [if_neg hek]
   have hne:m≠g.c:=fun hh=>by subst hh;rw [he] at h;cases h;exact hek rfl
   rw [g.ef m e h];omega
 le:=(U4.1 he).1
theorem GG.OS (g:GG D nu0 o0 w0 l es O) (k:Nat) (w':World) (nu':Nat->Nat->Value) (hm:bt g.nu (O g.c) g.w nu' (O (g.c+1)) w') (hr:RO D nu' (O (g.c+1)) w') (hd: ∀i,aG l.toArray k i=true->g.done i=true) (he:es[g.c]? = some k) (hn:es.Nodup) :
  (cR D nu0 o0 w0 l es O).R g (g.RY k w' nu' hm hr hd he hn)∧ ∀i,i≠k->(cR D nu0 o0 w0 l es O).pre i g->(cR D nu0 o0 w0 l es O).pre i (g.RY k w' nu' hm hr hd he hn):=by
 refine ⟨⟨hm,fun j hj=> ?_⟩,fun i hi h=> ?_⟩
 ·show (if j=k then true else g.done j)=true
  by_cases hjk:j=k
  ·simp [hjk]
  ·simp [hjk,hj]
 ·show (if i=k then true else g.done i)=false;simp [hi];exact h
theorem lK (g:GG D nu0 o0 w0 l es O): ∀(n j i:Nat),s8 l.toArray n j i=true->g.done j=true->g.done i=true
 | 0,_,_,h,_=>by cases h
 | n+1,j,i,h,hj=>by
  simp only [s8,We,List.any_eq_true,VS] at h
  rcases h with h|⟨k,_,h1,h2⟩
  ·exact g.cl j i hj h
  ·exact lK g n k i h2 (g.cl j k hj h1)
theorem o7 (g:GG D nu0 o0 w0 l es O) {n j i:Nat} (h:s8 l.toArray n j i=true) (hd: ∀i,aG l.toArray j i=true->g.done i=true):g.done i=true:=by
 cases n with
 | zero=>cases h
 | succ n=>
  simp only [s8,We,List.any_eq_true,VS] at h
  rcases h with h|⟨k,_,h1,h2⟩
  ·exact hd i h
  ·exact lK g n k i h2 (hd k h1)
theorem GG.xn (g:GG D nu0 o0 w0 l es O) {k m:Nat} (hf:J7 l.toArray es k=true) (hd: ∀i,aG l.toArray k i=true->g.done i=true) (hk:g.done k=false) (hm: ∀m' e,es[m']? = some e->(e<k↔m'<m)) (hml:m<=es.length):g.c=m:=by
 simp only [J7,Wc,We,decide_eq_true_eq] at hf
 have h1:g.c<=m:=by
  rcases U6 m g.c with q|q
  ·exfalso;have hlt:m<es.length:=Nat.lt_of_lt_of_le q g.le;have he:es[m]? = some es[m]:=Vi hlt;have hdn:=(g.ef m _ he).2 q
   have hge: ¬es[m]<k:=fun hh=>by have:=(hm m _ he).1 hh;omega
   rcases hf _ (WA hlt) with h|h
   ·rw [h,hk] at hdn;cases hdn
   ·rw [if_neg hge] at h
    have:=lK g _ _ _ h hdn
    rw [hk] at this;cases this
  ·exact q
 have h2:m<=g.c:=by
  rcases WB m with q|q
  ·omega
  ·have hlt:m - 1<es.length:=by omega
   have he:es[m - 1]? = some es[m - 1]:=Vi hlt;have hlk:=(hm _ _ he).2 (by omega)
   rcases hf _ (WA hlt) with h|h
   ·omega
   ·rw [if_pos hlk] at h
    have:=(g.ef _ _ he).1 (o7 g h hd)
    omega
 omega
theorem GG.JE (g:GG D nu0 o0 w0 l es O) {k m:Nat} {fs:List (Nat×Nat)} (hf:G6 l.toArray es fs k=true) (hd: ∀i,aG l.toArray k i=true->g.done i=true) (hm: ∀m' e,es[m']? = some e->(e<k↔m'<m)) (hml:m<=es.length):m<=g.c:=by
 simp only [G6,VS,Wc,We,decide_eq_true_eq] at hf
 rcases WB m with q|q
 ·omega
 ·have hlt:m - 1<es.length:=by omega
  have he:es[m - 1]? = some es[m - 1]:=Vi hlt;have hlk:=(hm _ _ he).2 (by omega)
  rcases hf.2 _ (WA hlt) with h|h
  ·omega
  ·have:=(g.ef _ _ he).1 (o7 g h hd)
   omega
theorem GG.FT (g:GG D nu0 o0 w0 l es O) {k m lo:Nat} {fs:List (Nat×Nat)} (hf:Gy l.toArray es fs k=true) (hlo:kQ fs k=some lo) (hd: ∀i,aG l.toArray k i=true->g.done i=true) (hk:g.done k=false) (hm: ∀m' e,es[m']? = some e->(e<k↔m'<m)):lo<=g.c∧g.c<=m:=by
 simp only [Gy,hlo,VS,Wc,We,decide_eq_true_eq] at hf;obtain ⟨⟨h0,h1⟩,h2⟩:=hf
 constructor
 ·rcases WB lo with q|q
  ·omega
  ·have hlt:lo - 1<es.length:=by omega
   have he:es[lo - 1]? = some es[lo - 1]:=Vi hlt;have hmem:es[lo - 1]∈es.take lo:=List.mem_take_iff_getElem.2 ⟨lo - 1,by omega,rfl⟩
   have:=(g.ef _ _ he).1 (o7 g (h1 _ hmem) hd)
   omega
 ·rcases U6 m g.c with q|q
  ·exfalso;have hlt:m<es.length:=Nat.lt_of_lt_of_le q g.le;have he:es[m]? = some es[m]:=Vi hlt;have hdn:=(g.ef m _ he).2 q
   have hge: ¬es[m]<k:=fun hh=>by have:=(hm m _ he).1 hh;omega
   rcases h2 _ (WA hlt) with h|h
   ·exact hge h
   ·have:=lK g _ _ _ h.2 hdn
    rw [hk] at this;cases this
  ·exact q
theorem zP {N:kD} {f:Nat->AV->fY N} {rs:List AV} {i:Nat} {e:AV} (h:rs[i]? = some e):vi (rs.mapIdx f) i=f i e:=by
 rw [vi,VX,List.getElem?_mapIdx,h];rfl
theorem JD {N:kD} {f:Nat->AV->fY N} {rs:List AV} {i:Nat} {e:AV} (h:rs[i]? = some e):vi (rs.mapIdx f) i=f i e:=zP h
structure Jg (l:List Oper) (s:AS) (a:Act) (k:Nat) (sk:AS) (rs:List AV) (A:(Nat->Value)->Act):Prop where
 y:sk.y=s.y
 len:rs.length=k
 iB: ∀x,(A x).defers=a.defers
 size: ∀x,sk.t.length=(A x).tmps.size
 val: ∀x (t:Nat) c v,sk.t[t]? = some c->(A x).tmps[t]? = some v->(s.t[t]? = some c∧a.tmps[t]? = some v)∨ ∃i,i<k∧(∃oi,l[i]? = some oi∧oi.dst=some t)∧rs[i]? = some c∧v=x i
theorem Jg.step {l:List Oper} {s:AS} {a:Act} {k:Nat} {sk:AS} {rs:List AV} {A:(Nat->Value)->Act} (h:Jg l s a k sk rs A) {oo:Oper} (ho:l[k]? = some oo) (r:AV) (o':List (Option aa)) :
  Jg l s a (k+1) (sk.put oo.dst r o') (rs++[r]) (fun x=>(A x).put oo.dst (x k)):=by
 refine ⟨h.y,by simp [h.len],fun x=> ?_,fun x=> ?_,fun x t c v h1 h2=> ?_⟩
 ·have:=h.iB x;cases oo.dst<;>simpa [Act.put] using this
 ·have:=h.size x;cases oo.dst<;>simpa [Act.put,AS.put] using this
 ·have ku:sk.t[t]? = some c->(A x).tmps[t]? = some v->(s.t[t]? = some c∧a.tmps[t]? = some v)∨ ∃i,i<k+1∧(∃oi,l[i]? = some oi∧oi.dst=some t)∧(rs++[r])[i]? = some c∧v=x i:=by
   intro h1 h2
   rcases h.val x t c v h1 h2 with h3|⟨i,q1,q2,q3,q4⟩
   ·exact .inl h3
   ·exact .inr ⟨i,by omega,q2,by rw [U5 (by rw [h.len];exact q1)];exact q3,q4⟩
  cases hd:oo.dst with
  | none=>rw [hd] at h1 h2;exact ku h1 h2
  | some d=>
   rw [hd] at h1 h2;simp only [AS.put,Act.put] at h1 h2
   by_cases hdt:d=t
   ·subst hdt;have hlt:=(U4.1 h1).1;simp only [List.length_set] at hlt;rw [List.getElem?_set_self hlt] at h1;rw [Array.getElem?_setIfInBounds_self_of_lt (by have:=h.size x;omega)] at h2;cases h1;cases h2;exact .inr ⟨k,by omega,⟨oo,ho,hd⟩,by rw [Vy (by rw [h.len];exact Nat.le_refl _),h.len,Nat.sub_self];rfl,rfl⟩
   ·rw [List.getElem?_set_ne hdt] at h1;rw [Array.getElem?_setIfInBounds_ne hdt] at h2;exact ku h1 h2
theorem Ao {l:List Oper} (hB:nR l.toArray=true) {i j:Nat} {oi oj:Oper} (hij:i<j) (hi:l[i]? = some oi) (hj:l[j]? = some oj):aG l.toArray j i=true∨ ∀d,oi.dst=some d->d∉oj.looksAt l.toArray:=by
 simp only [nR,VS,Wc,Wd,Vs] at hB;have hjn:=(U4.1 hj).1
 have:=(hB.2 j hjn).1 i hij
 simp only [Cq,Vk,hi,hj,VS,We,WC] at this
 rcases this.1.1.1 with h|h
 ·exact .inl h
 ·refine .inr (fun e he=> ?_);rw [he] at h;simpa using h
theorem lh: ∀ {l:List Nat},ux l=true-> ∀(i j x y:Nat),i<j->l[i]? = some x->l[j]? = some y->x<y
 | [],_,i,j,x,y,_,h,_=>by simp at h
 | [a],_,i,j,x,y,hij,h1,h2=>by
  have:=(U4.1 h2).1
  simp at this;omega
 | a :: b :: l,h,i,j,x,y,hij,h1,h2=>by
  simp only [ux,VS,decide_eq_true_eq] at h
  match i,j,h1,h2 with
  | 0,1,h1,h2=>cases h1;cases h2;exact h.1
  | 0,j+2,h1,h2=>
   cases h1
   have:=lh h.2 0 (j+1) b y (by omega) rfl (by simpa using h2)
   omega
  | i+1,j+1,h1,h2=>exact lh h.2 i j x y (by omega) (by simpa using h1) (by simpa using h2)
theorem iR {l:List Nat} (h:ux l=true):l.Nodup:=by
 refine List.pairwise_iff_getElem.2 (fun i j hi hj hij=> ?_)
 have:=lh h i j _ _ hij (Vi hi) (Vi hj)
 omega
theorem Bs {l:List Oper} {es:List Nat} {fs:List (Nat×Nat)} (hsz: ∀e,e∈es->e<l.length) (hrise:ux es=true): ∀(rest:List Oper) (k m:Nat) (s:AS) (hist:List (List (Option aa))) (rs:List AV) (os:List (List (Option aa))) (sf:AS),l.drop k=rest->k<=l.length->OF P l es fs rest k s hist rs os sf->m<=es.length ->
  (∀m' e,es[m']? = some e->(e<k↔m'<m))->os.length+m=es.length
 | [],k,m,s,hist,rs,os,sf,hl,hk,ht,hm,hme=>by
  obtain ⟨rfl,rfl,rfl⟩:=ht
  have hkl:k=l.length:=by have:=congrArg List.length hl;simp at this;omega
  rcases U6 m es.length with q|q
  ·have he:es[m]? = some es[m]:=Vi q
   have:=(hme m _ he).1 (by rw [hkl];exact hsz _ (WA q))
   omega
  ·simp;omega
 | oo :: rest,k,m,s,hist,rs,os,sf,hl,hk,ht,hm,hme=>by
  have hlt:k<l.length:=by have:=congrArg List.length hl;simp at this;omega
  have hl':l.drop (k+1)=rest:=by have:=congrArg List.tail hl;simpa using this
  obtain ⟨r,rs',rfl,ht⟩:=ht
  rcases ht with ⟨he,hg,o',os',rfl,hd,htr⟩|⟨he,hstep,htr⟩
  ·have hkm:k∈es:=by simpa using he
   obtain ⟨mk,hmk⟩:=Vr hkm
   have hmke:mk=m:=by
    have h1: ¬mk<m:=fun hh=>by have:=(hme mk k hmk).2 hh;omega
    rcases U6 m mk with q|q
    ·have hlt2:m<es.length:=by have:=(U4.1 hmk).1;omega
     have hem:es[m]? = some es[m]:=Vi hlt2;have hlt3:=lh hrise m mk _ _ q hem hmk
     have:=(hme m _ hem).1 hlt3
     omega
    ·omega
   subst hmke;have hmlt:=(U4.1 hmk).1
   have:=Bs hsz hrise rest (k+1) (mk+1) _ _ _ _ _ hl' hlt htr (by omega) (fun m' e h=>by
    by_cases hek:e=k
    ·subst hek
     have:m'=mk:=(Wz (U4.1 h).1 (iR hrise)).1 (h.trans hmk.symm)
     omega
    ·have:=hme m' e h
     have hne:m'≠mk:=fun hh=>by subst hh;rw [hmk] at h;cases h;exact hek rfl
     omega)
   simp only [List.length_cons];omega
  ·exact Bs hsz hrise rest (k+1) m _ _ _ _ _ hl' hlt htr hm (fun m' e h=>by
    have hne:e≠k:=fun hh=>by
     subst hh
     have:=VD h
     simp [this] at he
    rw [<-hme m' e h];omega)
theorem kJ {f:Fr} {fs:List (Nat×Nat)} (hB:rB l.toArray es fs=true) {s sf:AS} {a:Act} {w0:World} {rs:List AV} {os:List (List (Option aa))} {R:Exit->Act->World->Prop} {g0:GG D nu s.o w0 l es (fun c=>(s.o :: os).getD c [])} (hs:RS f D nu s a w0)
  (hR: ∀a' w' nu',bt nu s.o w0 nu' sf.o w'->sf.y=s.y->RS f D nu' sf a' w'->R .normal a' w') :
  ∀(rest:List Oper) (k m:Nat) (sk:AS) (hist:List (List (Option aa))) (rs1 rs2:List AV) (os2:List (List (Option aa))) (A:(Nat->Value)->Act),l.drop k=rest->OF P l es fs rest k sk hist rs2 os2 sf->(s.o :: os).take m=hist->rs=rs1++rs2->Jg l s a k sk rs1 A->(s.o :: os).drop m=sk.o :: os2 ->
   m<=es.length->(∀m' e,es[m']? = some e->(e<k↔m'<m))->k<=l.length ->
   Ey (N:=cR D nu s.o w0 l es (fun c=>(s.o :: os).getD c [])) P l.toArray (rs.mapIdx (fun k r=>me D nu s.o w0 l es (fun c=>(s.o :: os).getD c []) k r)) g0 (R .normal) rest k A
 | [],k,m,sk,hist,rs1,rs2,os2,A,hl,ht,hhi,hrs,hI,hO,hml,hme,hk=>by
  obtain ⟨rfl,rfl,rfl⟩:=ht;intro x g hE hD
  have hkl:k=l.length:=by have:=congrArg List.length hl;simp at this;omega
  have hspec: ∀i r,rs1[i]? = some r->(me D nu s.o w0 l es (fun c=>(s.o :: os).getD c []) i r).p (x i) g:=fun i r hr=>by
   have hik:i<k:=by rw [<-hI.len];exact (U4.1 hr).1
   have:=hD i hik
   rw [hrs,List.append_nil,JD hr] at this;exact this
  have hdone: ∀i,i<k->g.done i=true:=fun i hi=>by
   have hlt:i<rs1.length:=by rw [hI.len];exact hi
   exact (hspec i _ (Vi hlt)).2
  have hsz: ∀e,e∈es->e<l.length:=by
   simp only [rB,VS,Wc,decide_eq_true_eq,Vs] at hB;exact hB.1.2
  have hm:m=es.length:=by
   rcases U6 m es.length with q|q
   ·have he:es[m]? = some es[m]:=Vi q
    have:=(hme m _ he).1 (by rw [hkl];exact hsz _ (WA q))
    omega
   ·omega
  have hc:g.c=m:=by
   have h1:=g.le
   rcases WB m with q|q
   ·omega
   ·have hlt:m - 1<es.length:=by omega
    have he:es[m - 1]? = some es[m - 1]:=Vi hlt
    have:=(g.ef _ _ he).1 (hdone _ (by rw [hkl];exact hsz _ (WA hlt)))
    omega
  have hOm:(s.o :: os).getD m []=sf.o:=by
   have:=congrArg (fun l=>l[0]?) hO
   simp only [Vg,Nat.add_zero,V7] at this;rw [VX,this];rfl
  have hro:=g.ro;have hmo:=g.mono;simp only [hc,hOm] at hro hmo;refine hR (A x) g.w g.nu hmo hI.y ⟨hro,⟨hI.size x,fun t c v h1 h2=> ?_⟩,by rw [hI.iB x];exact hs.iB.mono hs.ro hmo⟩
  rcases hI.val x t c v h1 h2 with ⟨h3,h4⟩|⟨i,q1,q2,q3,q4⟩
  ·exact (hs.tm.at' t c v h3 h4).mono hmo (fun _ _ h=>h)
  ·have:=(hspec i c q3).1
   simp only [hc,hOm] at this;rw [q4];exact this
 | oo :: rest,k,m,sk,hist,rs1,rs2,os2,A,hl,ht,hhi,hrs,hI,hO,hml,hme,hk=>by
  have hB':=hB;simp only [rB,VS,Wc,decide_eq_true_eq,Vs,Wd,We] at hB';obtain ⟨⟨⟨hrel,hrise⟩,hszs⟩,hfix⟩:=hB'
  have hlt:k<l.length:=by have:=congrArg List.length hl;simp at this;omega
  have hok:l[k]? = some oo:=by have:=congrArg (fun m=>m[0]?) hl;simpa using this
  have hl':l.drop (k+1)=rest:=by have:=congrArg List.tail hl;simpa using this
  have hOm:(s.o :: os).getD m []=sk.o:=by
   have:=congrArg (fun l=>l[0]?) hO
   simp only [Vg,Nat.add_zero,V7] at this;rw [VX,this];rfl
  obtain ⟨r,rs',rfl,ht⟩:=ht
  have hrs':rs=(rs1++[r])++rs':=by rw [hrs];simp
  have hspecK:vi (rs.mapIdx (fun k r=>me D nu s.o w0 l es (fun c=>(s.o :: os).getD c []) k r)) k=me D nu s.o w0 l es (fun c=>(s.o :: os).getD c []) k r:=by
   rw [hrs];exact zP (by rw [Vy (by rw [hI.len];exact Nat.le_refl _),hI.len,Nat.sub_self];rfl)
  have hspec: ∀(x:Nat->Value) (g:GG D nu s.o w0 l es (fun c=>(s.o :: os).getD c [])) i rr,(vi (rs.mapIdx (fun k r=>me D nu s.o w0 l es (fun c=>(s.o :: os).getD c []) k r)) i).p (x i) g->rs1[i]? = some rr->RA D g.nu ((s.o :: os).getD g.c []) g.w rr (x i)∧g.done i=true:=fun x g i rr h hr=>by
   rw [hrs,zP (by rw [U5 (U4.1 hr).1];exact hr)] at h;exact h
  have hdep: ∀i,aG l.toArray k i=true->i<k:=fun i hi=>by
   simp only [nR,VS,Wc,Wd,Vs] at hrel
   rcases Nat.lt_trichotomy i k with h|h|h
   ·exact h
   ·subst h
    have:=(hrel.2 i hlt).2.1
    rw [hi] at this;cases this
   ·exfalso;simp only [aG,Vk,hok,Array.any_eq_true',VS,beq_iff_eq] at hi;obtain ⟨e,he,hb,rfl⟩:=hi;have hfar:=(hrel.2 k hlt).2.2;simp only [Ak,Vk,hok,Array.all_eq_true_iff_forall_mem] at hfar
    have hel:e.on<l.length:=by simpa using hfar e he
    have:=(hrel.2 e.on hel).1 k h
    simp only [Cq,Vk,hok,Vi hel,VS,WC] at this;have h2:=this.1.1.2;simp only [aG,Vk,hok] at h2
    have:oo.after.any (fun e_1=>Region.binds .any e_1&&e_1.on==e.on)=true:=by
     simp only [Array.any_eq_true',VS,beq_iff_eq];exact ⟨e,he,hb,rfl⟩
    rw [this] at h2;cases h2
  have hdoneD: ∀(x:Nat->Value) (g:GG D nu s.o w0 l es (fun c=>(s.o :: os).getD c [])),(∀i,aG l.toArray k i=true->(vi (rs.mapIdx (fun k r=>me D nu s.o w0 l es (fun c=>(s.o :: os).getD c []) k r)) i).p (x i) g)-> ∀i,aG l.toArray k i=true->g.done i=true:=fun x g hD i hi=>by
   have hlt:i<rs1.length:=by rw [hI.len];exact hdep i hi
   exact (hspec x g i _ (hD i hi) (Vi hlt)).2
  
  have hlook: ∀(x:Nat->Value) (g:GG D nu s.o w0 l es (fun c=>(s.o :: os).getD c [])),(∀i,aG l.toArray k i=true->(vi (rs.mapIdx (fun k r=>me D nu s.o w0 l es (fun c=>(s.o :: os).getD c []) k r)) i).p (x i) g)-> ∀(t:Nat) c v,t∈oo.looksAt l.toArray->sk.t[t]? = some c->(A x).tmps[t]? = some v->RA D g.nu ((s.o :: os).getD g.c []) g.w c v:=by
   intro x g hD t c v ht h1 h2
   rcases hI.val x t c v h1 h2 with ⟨h3,h4⟩|⟨i,q1,⟨oi,q2,q5⟩,q3,q4⟩
   ·exact (hs.tm.at' t c v h3 h4).mono g.mono (fun _ _ h=>h)
   ·rcases Ao hrel q1 q2 hok with h5|h5
    ·have:=(hspec x g i c (hD i h5) q3).1
     rw [q4];exact this
    ·exact absurd ht (h5 t q5)
  have hevs: ∀(x:Nat->Value) (g:GG D nu s.o w0 l es (fun c=>(s.o :: os).getD c [])),(∀i,aG l.toArray k i=true->(vi (rs.mapIdx (fun k r=>me D nu s.o w0 l es (fun c=>(s.o :: os).getD c []) k r)) i).p (x i) g)->I0 D g.nu ((s.o :: os).getD g.c []) g.w sk.ev (A x).eval oo.op:=by
   intro x g hD y hy
   cases y with
   | tmp t=>
    simp only [AS.ev,Act.eval]
    rcases U6 t sk.t.length with hlt|hge
    ·have e1:sk.t[t]? = some sk.t[t]:=Vi hlt
     have hlt':t<(A x).tmps.size:=by rw [<-hI.size x];exact hlt
     have hx:(A x).tmps[t]? = some (A x).tmps[t]:=Array.getElem?_eq_getElem hlt';rw [getD_some e1]
     have:(A x).tmps.getD t Go.undef=(A x).tmps[t]:=by simp [Array.getD,hlt']
     rw [this];exact hlook x g hD t _ _ (List.mem_append_left _ (List.mem_filterMap.2 ⟨.tmp t,hy,rfl⟩)) e1 hx
    ·have e0:sk.t.getD t .undef = .undef:=by rw [VX,List.getElem?_eq_none hge];rfl
     rw [e0];exact .undef _
   | const v=>exact .v v
   | global gi=>exact (qj hs.ro sk gi).mono g.mono (fun _ _ h=>h)
   | func f=>exact .fn f [] [] #[] #[] rfl rfl (fun i c x h=>by simp at h) (fun i c x h=>by simp at h)
  have hcont: ∀(x:Nat->Value),es.contains k=false-> ∀m' e,es[m']? = some e->(e<k+1↔m'<m):=fun _ he m' e h=>by
   have hne:e≠k:=fun hh=>by
    subst hh
    have:=VD h
    simp [this] at he
   rw [<-hme m' e h];omega
  rcases ht with ⟨he,hg,o',os',rfl,hd,htr⟩|⟨he,hstep,htr⟩
  ·
   have hkm:k∈es:=by simpa using he
   obtain ⟨mk,hmk⟩:=Vr hkm
   have hmke:mk=m:=by
    have h1: ¬mk<m:=fun hh=>by have:=(hme mk k hmk).2 hh;omega
    rcases U6 m mk with q|q
    ·have hlt2:m<es.length:=by have:=(U4.1 hmk).1;omega
     have hem:es[m]? = some es[m]:=Vi hlt2;have hlt3:=lh hrise m mk _ _ q hem hmk
     have:=(hme m _ hem).1 hlt3
     omega
    ·omega
   subst hmke
   have hOm1:(s.o :: os).getD (mk+1) []=o':=by
    have h1:=congrArg (fun (l:List (List (Option aa)))=>l[1]?) hO;simp only [Vg] at h1;rw [VX,h1];rfl
   refine ⟨fun x g hE hD hp=> ?_, ?_⟩
   ·have hdd:=hdoneD x g hD
    have hfx:J7 l.toArray es k=true:=by
     rcases hfix k hlt with ((h|h)|h)|h
     ·have:=h.2;simp [hkm] at this
     ·exact h
     ·exfalso;simp only [Gy] at h
      split at h
      ·simp only [VS,Wc,We,decide_eq_true_eq] at h
       rcases h.2 k hkm with q|q
       ·omega
       ·simp at q
      ·cases h
     ·exfalso;simp only [G6,VS] at h
      have:=h.1.1.1;simp [hkm] at this
    have hc:g.c=mk:=g.xn hfx hdd hp hme hml;have hev:=hevs x g hD;have hro:=g.ro;simp only [hc,hOm] at hev hro;refine .inl ⟨by simp [Region.wanted,hg], ?_⟩;rw [hspecK]
    have hgo: ∀(v:Value) (w':World) (nu':Nat->Nat->Value),bt g.nu sk.o g.w nu' o' w'->RO D nu' o' w'->RA D nu' o' w' r v ->
      ∃g':GG D nu s.o w0 l es (fun c=>(s.o :: os).getD c []),(cR D nu s.o w0 l es (fun c=>(s.o :: os).getD c [])).wd g'=w'∧(cR D nu s.o w0 l es (fun c=>(s.o :: os).getD c [])).R g g'∧(∀i,i≠k->(cR D nu s.o w0 l es (fun c=>(s.o :: os).getD c [])).pre i g->(cR D nu s.o w0 l es (fun c=>(s.o :: os).getD c [])).pre i g')∧(me D nu s.o w0 l es (fun c=>(s.o :: os).getD c []) k r).p v g':=by
     intro v w' nu' m1 m2 m3
     have hm':bt g.nu ((s.o :: os).getD g.c []) g.w nu' ((s.o :: os).getD (g.c+1) []) w':=by rw [hc,hOm,hOm1];exact m1
     have hr':RO D nu' ((s.o :: os).getD (g.c+1) []) w':=by rw [hc,hOm1];exact m2
     have hek:es[g.c]? = some k:=by rw [hc];exact hmk
     have hR2:=g.OS k w' nu' hm' hr' hdd hek (iR hrise)
     refine ⟨g.RY k w' nu' hm' hr' hdd hek (iR hrise),rfl,hR2.1,hR2.2, ?_, ?_⟩
     ·show RA D nu' ((s.o :: os).getD (g.c+1) []) w' r v;rw [hc,hOm1];exact m3
     ·show (if k=k then true else g.done k)=true;simp
    rcases Dq (P:=P) (rho:=(A x).eval) hro hev hd with ⟨v,w',nu',h1,m1,m2,m3⟩|⟨gf,vargs,h1,h2⟩
    ·rcases h1 with h1|⟨h1,rfl⟩
     ·have e1:(execOp (A x).eval oo).run P ((cR D nu s.o w0 l es (fun c=>(s.o :: os).getD c [])).wd g) = .ok (.value v) w':=h1;rw [e1];exact hgo v w' nu' m1 m2 m3
     ·have e1:(execOp (A x).eval oo).run P ((cR D nu s.o w0 l es (fun c=>(s.o :: os).getD c [])).wd g) = .ok .skip w':=h1;rw [e1];exact hgo _ w' nu' m1 m2 m3
    ·have e1:(execOp (A x).eval oo).run P ((cR D nu s.o w0 l es (fun c=>(s.o :: os).getD c [])).wd g) = .ok (.enter gf vargs) g.w:=h1;rw [e1];refine h2.mono ?_;rintro e w' ⟨v,nu',rfl,m1,m2,m3⟩;obtain ⟨g',k1,k2,k3,k4⟩:=hgo v w' nu' m1 m2 m3;exact ⟨v,g',rfl,k1,k2,k3,k4⟩
   ·refine kJ hB hs hR rest (k+1) (mk+1) (sk.put oo.dst r o') (hist++[sk.o]) (rs1++[r]) rs' os' _ hl' htr (by rw [List.take_succ_eq_append_getElem (by have:=congrArg List.length hO;simp at this ⊢; omega),hhi];congr 1;have:=hOm;rw [VX,Vi (by have:=congrArg List.length hO;simp at this ⊢; omega)] at this;simpa using this) hrs' (hI.step hok r o') ?_ ((U4.1 hmk).1) (fun m' e h=> ?_) hlt
    ·have:=congrArg List.tail hO
     rw [List.tail_drop] at this;exact this
    ·by_cases hek:e=k
     ·subst hek
      have:m'=mk:=(Wz (U4.1 h).1 (iR hrise)).1 (h.trans hmk.symm)
      omega
     ·have:=hme m' e h
      have hne:m'≠mk:=fun hh=>by subst hh;rw [hmk] at h;cases h;exact hek rfl
      omega
  ·refine ⟨fun x g hE hD hp=> ?_, ?_⟩
   ·have hdd:=hdoneD x g hD;rw [hspecK]
    have hnext: ∀(v:Value) (w':World),RA D g.nu ((s.o :: os).getD g.c []) w' r v->Below g.w.heap.size g.w w' ->
      ∃g':GG D nu s.o w0 l es (fun c=>(s.o :: os).getD c []),(cR D nu s.o w0 l es (fun c=>(s.o :: os).getD c [])).wd g'=w'∧(cR D nu s.o w0 l es (fun c=>(s.o :: os).getD c [])).R g g'∧(∀i,i≠k->(cR D nu s.o w0 l es (fun c=>(s.o :: os).getD c [])).pre i g->(cR D nu s.o w0 l es (fun c=>(s.o :: os).getD c [])).pre i g')∧(me D nu s.o w0 l es (fun c=>(s.o :: os).getD c []) k r).p v g':=by
     intro v w' hr hb;have hR2:=g.MN k w' hb hdd he;refine ⟨g.next k w' hb hdd he,rfl,hR2.1,hR2.2,hr, ?_⟩;show (if k=k then true else g.done k)=true;simp
    have hyv: ∀j want,oo.guard=some (j,want)-> ∀gg,jl l sk j=some gg->yielded l.toArray (A x).tmps j=gg:=fun j want hg gg hgv=>
     fa (s:=⟨sk.t,(s.o :: os).getD g.c [],sk.y⟩) (D:=D) (nu:=g.nu) (w:=g.w) (fun d c v hd h1 h2=>by
      refine hlook x g hD d c v ?_ h1 h2;obtain ⟨og,q1,q2⟩:=hd;refine List.mem_append_right _ ?_;simp only [hg,Vk,q1,Option.bind_some,q2]
      simp) (hI.size x) (show jl l ⟨sk.t,_,sk.y⟩ j=some gg from hgv)
    rcases hstep with ⟨hw,hd,hfl,hlat⟩|⟨_,_,rfl,j,want,gg,hg,hgv,hno⟩
    ·have hwant:Region.wanted oo (yielded l.toArray (A x).tmps)=true:=by
      rcases hw with hg|⟨j,want,b,hg,hgv,hb⟩
      ·simp [Region.wanted,hg]
      ·simp only [Region.wanted,hg,hyv j want hg _ hgv];simpa using hb
     refine .inl ⟨hwant, ?_⟩
     have hd':db P oo.op ⟨sk.t,(s.o :: os).getD g.c [],sk.y⟩ (fun r'=>r'=r):=by
      rcases hfix k hlt with ((h|h)|h)|h
      ·rw [show l.toArray[k]? = some oo by simpa using hok] at h;exact Dr (by simpa using h.1) (show db P oo.op ⟨sk.t,sk.o,sk.y⟩ (fun r'=>r'=r) from hd)
      ·have hc:g.c=m:=g.xn h hdd hp hme hml;rw [hc,hOm];exact hd
      ·have hlo: ∃lo,kQ fs k=some lo:=by
        simp only [Gy] at h
        split at h
        ·exact ⟨_, ‹_›⟩
        ·cases h
       obtain ⟨lo,hlo⟩:=hlo;obtain ⟨c1,c2⟩:=g.FT h hlo hdd hp hme
       rcases Nat.eq_or_lt_of_le c2 with hc|hc
       ·rw [hc,hOm];exact hd
       ·have hgl:g.c<(s.o :: os).length:=by have:=congrArg List.length hO;simp at this ⊢; omega
        refine hfl lo hlo _ ?_;rw [<-hhi,VX,Vi hgl];refine List.mem_drop_iff_getElem.2 ⟨g.c - lo,by simp at hgl ⊢; omega, ?_⟩;rw [List.getElem_take];simp only [Option.getD_some]
        congr 1
        omega
      ·have hc:=g.JE h hdd hme hml;simp only [G6,VS] at h
       rcases Nat.eq_or_lt_of_le hc with hc|hc
       ·rw [<-hc,hOm];exact hd
       ·have hle:=g.le;refine hlat (by simpa using h.1.1.2) h.1.2 _ ?_;have hln:=Bs hszs hrise rest (k+1) m _ _ _ _ _ hl' (by omega) htr hml (hcont (fun _=>Go.undef) he);have e1:=congrArg (fun (l:List (List (Option aa)))=>l[g.c - m]?) hO;obtain ⟨d,hd1⟩: ∃d,g.c - m=d+1:=⟨g.c - m - 1,by omega⟩;simp only [Vg,show m+(g.c - m)=g.c by omega] at e1;rw [hd1,List.getElem?_cons_succ,Vi (l:=os2) (by omega)] at e1;rw [VX,e1];exact WA _
     obtain ⟨r',rfl,hout⟩:=oJ (P:=P) (s:=⟨sk.t,(s.o :: os).getD g.c [],sk.y⟩) (rho:=(A x).eval) g.ro (hevs x g hD) hd';have e0:(execOp (A x).eval oo).run P ((cR D nu s.o w0 l es (fun c=>(s.o :: os).getD c [])).wd g)=(execOp (A x).eval oo).run P g.w:=rfl;rw [e0];generalize (execOp (A x).eval oo).run P g.w=res at hout
     cases res with
     | halt _ _=>exact hout.elim
     | ok n w'=>
      cases n<;>first|exact hout.elim|skip
      case value u=>exact hnext u w' hout.1.2 hout.2
      case skip=>exact hnext _ w' hout.1.2 hout.2
      case enter gf vargs=>
       refine Calls.mono hout ?_;rintro e w'' ⟨v,rfl,hv,hb⟩;obtain ⟨g',k1,k2,k3,k4⟩:=hnext v w'' hv.2 hb;exact ⟨v,g',rfl,k1,k2,k3,k4⟩
    ·refine .inr ⟨?_, ?_⟩
     ·simp only [Region.wanted,hg,hyv j want hg _ hgv]
      rcases hno with rfl|⟨b,rfl,hb⟩
      ·rfl
      ·simpa using hb
     ·obtain ⟨g',k1,k2,k3,k4⟩:=hnext Go.undef g.w (.v _) (.refl _ _);exact ⟨g',k1,k2,k3,k4⟩
   ·have hO':(s.o :: os).drop m=(sk.put oo.dst r s.o).o :: os2->True:=fun _=>trivial;refine kJ hB hs hR rest (k+1) m (sk.put oo.dst r sk.o) hist (rs1++[r]) rs' os2 _ hl' ?_ hhi hrs' (hI.step hok r sk.o) hO hml (hcont (fun _=>Go.undef) he) hlt;exact htr
theorem dt {n0 id:Nat} {s:AS} {l:List Oper} {Q:aR->AS->Prop} (es:List Nat) (fs:List (Nat×Nat)) (hB:rB l.toArray es fs=true) (hC:dy l.toArray=true) (h:cr P l es fs l 0 s [] none (Q .normal)):bS P n0 (.region id l.toArray true) s Q:=by
 refine .inr (fun f m D nu a w hZr hn hm hs hmx R hO hR=> ?_);obtain ⟨rs,os,sf,htr,_,hq⟩:=e8 l 0 s [] h;have hs':=hs.drew
 have hrel:nR l.toArray=true:=by
  simp only [rB,VS] at hB;exact hB.1.1.1
 let g0:GG D nu s.o w.drew l es (fun c=>(s.o :: os).getD c []):=⟨w.drew,nu,fun _=>false,0,hs'.ro, .refl _ _ _,(fun _ _ h=>by cases h),(fun _ _ _=>by simp),Nat.zero_le _⟩
 have hobl:=kJ (P:=P) (R:=R) (rs:=rs) (g0:=g0) hB hs' (fun a' w' nu' h1 hy h2=>hR .normal D f.Z sf a' w' nu' (by rw [hy];exact m.own hm hs.ro ((aw (cP w)).trans h1) h2.ro) h2 hq) l 0 0 s [] [] rs os (fun _=>a) (by simp) htr (by simp) (by simp) ⟨rfl,rfl,fun _=>rfl,fun _=>hs.tm.len,fun x t c v h1 h2=> .inl ⟨h1,h2⟩⟩ (by simp) (Nat.zero_le _) (fun m' e _=>by simp) (Nat.zero_le _);exact ou hmx hC hO (fL (N:=cR D nu s.o w.drew l es (fun c=>(s.o :: os).getD c [])) _ hrel g0 rfl (fun _=>rfl) hobl)
theorem ae {all rest:List Oper} {es:List Nat} {fs:List (Nat×Nat)} {oo:Oper} {k:Nat} {s:AS} {hist:List (List (Option aa))} {pn:Option (List (Option aa)->Prop)} {Q:AS->Prop} (he:(es.contains k||(kQ fs k).isSome||vM fs k)=false) (h: ∀K:AS->Prop,(∀s',cr P all es fs rest (k+1) s' hist pn Q->K s')->eo P all oo s K):cr P all es fs (oo :: rest) k s hist pn Q:=by
 simp only [Bool.or_eq_false_iff] at he;simp only [cr,he.1.1,Wy,if_false]
 cases hf:kQ fs k with
 | some lo=>rw [hf] at he;simp at he
 | none=>rw [he.2];exact h _ (fun _ h=>h)
theorem ay {all rest:List Oper} {es:List Nat} {fs:List (Nat×Nat)} {dst:Option Tmp} {op:Op} {ty:TypeId} {pos:String} {aft:Array Edge} {k:Nat} {s:AS} {hist:List (List (Option aa))} {Q:AS->Prop} (he:es.contains k=true) (h: ∀K:AS->Prop,(∀s',cr P all es fs rest (k+1) s' (hist++[s.o]) none Q->K s')->sQ P op s (fun r o'=>K (s.put dst r o'))):cr P all es fs (⟨dst,op,ty,pos,aft,none⟩ :: rest) k s hist none Q:=by
 simp only [cr,he,if_true,M1,true_and];exact h _ (fun _ h=>h)
theorem ai {all rest:List Oper} {es:List Nat} {fs:List (Nat×Nat)} {dst:Option Tmp} {op:Op} {ty:TypeId} {pos:String} {aft:Array Edge} {k:Nat} {s:AS} {hist:List (List (Option aa))} {p:List (Option aa)->Prop} {Q:AS->Prop} (he:es.contains k=true) (h: ∀K:AS->Prop,(∀s',cr P all es fs rest (k+1) s' (hist++[s.o]) (some p) Q->K s')->sQ P op s (fun r o'=>p o'∧K (s.put dst r o'))):cr P all es fs (⟨dst,op,ty,pos,aft,none⟩ :: rest) k s hist (some p) Q:=by
 simp only [cr,he,if_true,M1];exact h _ (fun _ h=>h)
theorem ax {all rest:List Oper} {es:List Nat} {fs:List (Nat×Nat)} {dst:Option Tmp} {op:Op} {ty:TypeId} {pos:String} {aft:Array Edge} {k lo:Nat} {s:AS} {hist:List (List (Option aa))} {pn:Option (List (Option aa)->Prop)} {Q:AS->Prop} (he:(if es.contains k then none else kQ fs k)=some lo) (h: ∀K:AS->Prop,(∀s',cr P all es fs rest (k+1) s' hist pn Q->K s')->db P op s (fun r=>(∀o',o'∈hist.drop lo->db P op ⟨s.t,o',s.y⟩ (fun r'=>r'=r))∧K (s.put dst r s.o))):cr P all es fs (⟨dst,op,ty,pos,aft,none⟩ :: rest) k s hist pn Q:=by
 have hc:es.contains k=false:=by cases hc:es.contains k<;>simp_all
 simp only [hc,Wy,if_false] at he;simp only [cr,hc,Wy,if_false,he];exact ⟨trivial,h _ (fun _ h=>h)⟩
theorem ak {all rest:List Oper} {es:List Nat} {fs:List (Nat×Nat)} {dst:Option Tmp} {op:Op} {ty:TypeId} {pos:String} {aft:Array Edge} {k:Nat} {s:AS} {hist:List (List (Option aa))} {pn:Option (List (Option aa)->Prop)} {Q:AS->Prop} (he:(!es.contains k&&(kQ fs k).isNone&&vM fs k)=true) (h:db P op s (fun r=>cr P all es fs rest (k+1) (s.put dst r s.o) hist (some fun o'=>M1 pn o'∧db P op ⟨s.t,o',s.y⟩ (fun r'=>r'=r)) Q)):cr P all es fs (⟨dst,op,ty,pos,aft,none⟩ :: rest) k s hist pn Q:=by
 simp only [VS,WC] at he;simp only [cr,he.1.1,Wy,if_false]
 cases hf:kQ fs k with
 | some lo=>rw [hf] at he;simp at he
 | none=>rw [he.2];exact ⟨trivial,h⟩
theorem zL {all:List Oper} {es:List Nat} {fs:List (Nat×Nat)} {k:Nat} {s:AS} {hist:List (List (Option aa))} {pn:Option (List (Option aa)->Prop)} {Q:AS->Prop} (h:Q s):cr P all es fs [] k s hist pn Q:=h
instance {all:List Oper} {es:List Nat} {fs:List (Nat×Nat)} {k:Nat} {s:AS} {hist:List (List (Option aa))} {pn:Option (List (Option aa)->Prop)} {Q:AS->Prop}:ag (cr P all es fs [] k s hist pn Q) (Q s):=⟨zL⟩
end
attribute [go_sem] M1 sQ Ja List.forall_mem_cons List.not_mem_nil false_implies implies_true
end
section
@[go_sem] theorem UP:Tryz.prog.underlying 3=some (.int .i64):=by kernel_rfl
@[go_sem] theorem TF:cw Tryz.prog 3=some (false):=by kernel_rfl
@[go_sem] theorem SR:bc Tryz.prog 3=some (1):=by kernel_rfl
@[go_sem] theorem SX:cq Tryz.prog 3=some ([.v (.int .i64 0)]):=by kernel_rfl
@[go_sem] theorem RN:pD Tryz.prog 3=some (.v (.int .i64 0)):=by kernel_rfl
@[go_sem] theorem TG:cw Tryz.prog 4=some (false):=by kernel_rfl
@[go_sem] theorem SS:bc Tryz.prog 4=some (1):=by kernel_rfl
@[go_sem] theorem SY:cq Tryz.prog 4=some ([.v (.bool false)]):=by kernel_rfl
@[go_sem] theorem UQ:Tryz.prog.underlying 5=some (.int .u8):=by kernel_rfl
@[go_sem] theorem TH:cw Tryz.prog 5=some (false):=by kernel_rfl
@[go_sem] theorem SU:bc Tryz.prog 5=some (1):=by kernel_rfl
@[go_sem] theorem UR:Tryz.prog.underlying 9=some (.string):=by kernel_rfl
@[go_sem] theorem TI:cw Tryz.prog 9=some (false):=by kernel_rfl
@[go_sem] theorem SV:bc Tryz.prog 9=some (1):=by kernel_rfl
@[go_sem] theorem S3:cq Tryz.prog 9=some ([.v (.string ⟨#[]⟩)]):=by kernel_rfl
@[go_sem] theorem Sh:cw Tryz.prog 22=some (false):=by kernel_rfl
@[go_sem] theorem Rc:bc Tryz.prog 22=some (1):=by kernel_rfl
@[go_sem] theorem TV:Tryz.prog.underlying 23=some (.slice 25):=by kernel_rfl
@[go_sem] theorem Si:cw Tryz.prog 23=some (false):=by kernel_rfl
@[go_sem] theorem Re:bc Tryz.prog 23=some (1):=by kernel_rfl
@[go_sem] theorem Sz:gF Tryz.prog 23=some (25,3,48):=by kernel_rfl
@[go_sem] theorem Sj:cw Tryz.prog 25=some (true):=by kernel_rfl
@[go_sem] theorem Rf:bc Tryz.prog 25=some (3):=by kernel_rfl
@[go_sem] theorem Rt:cq Tryz.prog 25=some ([.v (.int .i64 0), .v (.string ⟨#[]⟩), .v (.slice none 0 0)]):=by kernel_rfl
@[go_sem] theorem Pq:dq Tryz.prog 25 0=some (0):=by kernel_rfl
@[go_sem] theorem Pr:dq Tryz.prog 25 1=some (1):=by kernel_rfl
@[go_sem] theorem Ps:dq Tryz.prog 25 2=some (2):=by kernel_rfl
@[go_sem] theorem TJ:yX Tryz.prog 25=some ([(0,1),(1,1),(2,1)],[.v (.int .i64 0), .v (.string ⟨#[]⟩), .v (.slice none 0 0)]):=by kernel_rfl
@[go_sem] theorem TW:Tryz.prog.underlying 26=some (.slice 35):=by kernel_rfl
@[go_sem] theorem QF:pD Tryz.prog 26=some (.v (.slice none 0 0)):=by kernel_rfl
@[go_sem] theorem SA:gF Tryz.prog 26=some (35,5,80):=by kernel_rfl
@[go_sem] theorem TX:Tryz.prog.underlying 29=some (.slice 37):=by kernel_rfl
@[go_sem] theorem SB:gF Tryz.prog 29=some (37,3,40):=by kernel_rfl
@[go_sem] theorem TY:Tryz.prog.underlying 30=some (.int .i64):=by kernel_rfl
@[go_sem] theorem TZ:Tryz.prog.underlying 33=some (.slice 173):=by kernel_rfl
@[go_sem] theorem Sk:cw Tryz.prog 33=some (false):=by kernel_rfl
@[go_sem] theorem Rg:bc Tryz.prog 33=some (1):=by kernel_rfl
@[go_sem] theorem Sl:cw Tryz.prog 35=some (true):=by kernel_rfl
@[go_sem] theorem Rh:bc Tryz.prog 35=some (5):=by kernel_rfl
@[go_sem] theorem Ru:cq Tryz.prog 35=some ([.v (.string ⟨#[]⟩), .v (.string ⟨#[]⟩), .v (.string ⟨#[]⟩), .v (.int .i64 0), .v (.slice none 0 0)]):=by kernel_rfl
@[go_sem] theorem Pt:dq Tryz.prog 35 0=some (0):=by kernel_rfl
@[go_sem] theorem Pu:dq Tryz.prog 35 1=some (1):=by kernel_rfl
@[go_sem] theorem Pv:dq Tryz.prog 35 2=some (2):=by kernel_rfl
@[go_sem] theorem Pw:dq Tryz.prog 35 3=some (3):=by kernel_rfl
@[go_sem] theorem Px:dq Tryz.prog 35 4=some (4):=by kernel_rfl
@[go_sem] theorem TN:yX Tryz.prog 35=some ([(0,1),(1,1),(2,1),(3,1),(4,1)],[.v (.string ⟨#[]⟩), .v (.string ⟨#[]⟩), .v (.string ⟨#[]⟩), .v (.int .i64 0), .v (.slice none 0 0)]):=by kernel_rfl
@[go_sem] theorem Sm:cw Tryz.prog 37=some (true):=by kernel_rfl
@[go_sem] theorem Ri:bc Tryz.prog 37=some (3):=by kernel_rfl
@[go_sem] theorem Rv:cq Tryz.prog 37=some ([.v (.string ⟨#[]⟩), .v (.string ⟨#[]⟩), .v (.int .i64 0)]):=by kernel_rfl
@[go_sem] theorem Py:dq Tryz.prog 37 0=some (0):=by kernel_rfl
@[go_sem] theorem Pz:dq Tryz.prog 37 1=some (1):=by kernel_rfl
@[go_sem] theorem PA:dq Tryz.prog 37 2=some (2):=by kernel_rfl
@[go_sem] theorem TO:yX Tryz.prog 37=some ([(0,1),(1,1),(2,1)],[.v (.string ⟨#[]⟩), .v (.string ⟨#[]⟩), .v (.int .i64 0)]):=by kernel_rfl
@[go_sem] theorem T0:Tryz.prog.underlying 41=some (.slice 61):=by kernel_rfl
@[go_sem] theorem SC:gF Tryz.prog 41=some (61,3,40):=by kernel_rfl
@[go_sem] theorem T1:Tryz.prog.underlying 55=some (.slice 9):=by kernel_rfl
@[go_sem] theorem Sn:cw Tryz.prog 55=some (false):=by kernel_rfl
@[go_sem] theorem Rj:bc Tryz.prog 55=some (1):=by kernel_rfl
@[go_sem] theorem SD:gF Tryz.prog 55=some (9,1,16):=by kernel_rfl
@[go_sem] theorem T3:Tryz.prog.underlying 56=some (.slice 3):=by kernel_rfl
@[go_sem] theorem Sq:cw Tryz.prog 56=some (false):=by kernel_rfl
@[go_sem] theorem Rk:bc Tryz.prog 56=some (1):=by kernel_rfl
@[go_sem] theorem Rw:cq Tryz.prog 56=some ([.v (.slice none 0 0)]):=by kernel_rfl
@[go_sem] theorem SE:gF Tryz.prog 56=some (3,1,8):=by kernel_rfl
@[go_sem] theorem Rl:bc Tryz.prog 61=some (3):=by kernel_rfl
@[go_sem] theorem Rx:cq Tryz.prog 61=some ([.v (.string ⟨#[]⟩), .v (.string ⟨#[]⟩), .v (.int .i64 0)]):=by kernel_rfl
@[go_sem] theorem PB:dq Tryz.prog 61 0=some (0):=by kernel_rfl
@[go_sem] theorem PC:dq Tryz.prog 61 1=some (1):=by kernel_rfl
@[go_sem] theorem PD:dq Tryz.prog 61 2=some (2):=by kernel_rfl
@[go_sem] theorem TP:yX Tryz.prog 61=some ([(0,1),(1,1),(2,1)],[.v (.string ⟨#[]⟩), .v (.string ⟨#[]⟩), .v (.int .i64 0)]):=by kernel_rfl
@[go_sem] theorem T4:Tryz.prog.underlying 63=some (.pointer 125):=by kernel_rfl
@[go_sem] theorem Sr:cw Tryz.prog 63=some (false):=by kernel_rfl
@[go_sem] theorem Rm:bc Tryz.prog 63=some (1):=by kernel_rfl
@[go_sem] theorem T5:Tryz.prog.underlying 64=some (.map 9 26):=by kernel_rfl
@[go_sem] theorem Ss:cw Tryz.prog 64=some (false):=by kernel_rfl
@[go_sem] theorem Rn:bc Tryz.prog 64=some (1):=by kernel_rfl
@[go_sem] theorem Su:cw Tryz.prog 66=some (true):=by kernel_rfl
@[go_sem] theorem Ro:bc Tryz.prog 66=some (2):=by kernel_rfl
@[go_sem] theorem Ry:cq Tryz.prog 66=some ([.v (.pointer none), .v (.map none)]):=by kernel_rfl
@[go_sem] theorem PE:dq Tryz.prog 66 0=some (0):=by kernel_rfl
@[go_sem] theorem PF:dq Tryz.prog 66 1=some (1):=by kernel_rfl
@[go_sem] theorem TQ:yX Tryz.prog 66=some ([(0,1),(1,1)],[.v (.pointer none), .v (.map none)]):=by kernel_rfl
@[go_sem] theorem T6:Tryz.prog.underlying 70=some (.map 74 3):=by kernel_rfl
@[go_sem] theorem Sv:cw Tryz.prog 70=some (false):=by kernel_rfl
@[go_sem] theorem Rp:bc Tryz.prog 70=some (1):=by kernel_rfl
@[go_sem] theorem Rz:cq Tryz.prog 70=some ([.v (.map none)]):=by kernel_rfl
@[go_sem] theorem Sw:cw Tryz.prog 74=some (true):=by kernel_rfl
@[go_sem] theorem Rq:bc Tryz.prog 74=some (2):=by kernel_rfl
@[go_sem] theorem RB:cq Tryz.prog 74=some ([.v (.string ⟨#[]⟩), .v (.string ⟨#[]⟩)]):=by kernel_rfl
@[go_sem] theorem PG:dq Tryz.prog 74 0=some (0):=by kernel_rfl
@[go_sem] theorem PH:dq Tryz.prog 74 1=some (1):=by kernel_rfl
@[go_sem] theorem TR:yX Tryz.prog 74=some ([(0,1),(1,1)],[.v (.string ⟨#[]⟩), .v (.string ⟨#[]⟩)]):=by kernel_rfl
@[go_sem] theorem Sx:cw Tryz.prog 79=some (true):=by kernel_rfl
@[go_sem] theorem Rr:bc Tryz.prog 79=some (2):=by kernel_rfl
@[go_sem] theorem RD:cq Tryz.prog 79=some ([.v (.string ⟨#[]⟩), .v (.int .i64 0)]):=by kernel_rfl
@[go_sem] theorem PI:dq Tryz.prog 79 0=some (0):=by kernel_rfl
@[go_sem] theorem PJ:dq Tryz.prog 79 1=some (1):=by kernel_rfl
@[go_sem] theorem TS:yX Tryz.prog 79=some ([(0,1),(1,1)],[.v (.string ⟨#[]⟩), .v (.int .i64 0)]):=by kernel_rfl
@[go_sem] theorem T7:Tryz.prog.underlying 98=some (.slice 3):=by kernel_rfl
@[go_sem] theorem Sy:cw Tryz.prog 98=some (false):=by kernel_rfl
@[go_sem] theorem Rs:bc Tryz.prog 98=some (1):=by kernel_rfl
@[go_sem] theorem RE:cq Tryz.prog 98=some ([.v (.slice none 0 0)]):=by kernel_rfl
@[go_sem] theorem SG:gF Tryz.prog 98=some (3,1,8):=by kernel_rfl
@[go_sem] theorem QM:cw Tryz.prog 100=some (true):=by kernel_rfl
@[go_sem] theorem PN:bc Tryz.prog 100=some (1):=by kernel_rfl
@[go_sem] theorem NV:dq Tryz.prog 100 0=some (0):=by kernel_rfl
@[go_sem] theorem SH:yX Tryz.prog 100=some ([(0,1)],[.v (.slice none 0 0)]):=by kernel_rfl
@[go_sem] theorem S7:Tryz.prog.underlying 107=some (.map 79 3):=by kernel_rfl
@[go_sem] theorem S8:Tryz.prog.underlying 108=some (.map 79 3):=by kernel_rfl
@[go_sem] theorem QN:cw Tryz.prog 108=some (false):=by kernel_rfl
@[go_sem] theorem PO:bc Tryz.prog 108=some (1):=by kernel_rfl
@[go_sem] theorem Qb:cq Tryz.prog 108=some ([.v (.map none)]):=by kernel_rfl
@[go_sem] theorem S9:Tryz.prog.underlying 109=some (.slice 79):=by kernel_rfl
@[go_sem] theorem QO:cw Tryz.prog 109=some (false):=by kernel_rfl
@[go_sem] theorem PQ:bc Tryz.prog 109=some (1):=by kernel_rfl
@[go_sem] theorem Qc:cq Tryz.prog 109=some ([.v (.slice none 0 0)]):=by kernel_rfl
@[go_sem] theorem Q5:gF Tryz.prog 109=some (79,2,24):=by kernel_rfl
@[go_sem] theorem Ta:Tryz.prog.underlying 110=some (.pointer 162):=by kernel_rfl
@[go_sem] theorem QP:cw Tryz.prog 110=some (false):=by kernel_rfl
@[go_sem] theorem PV:bc Tryz.prog 110=some (1):=by kernel_rfl
@[go_sem] theorem Qd:cq Tryz.prog 110=some ([.v (.pointer none)]):=by kernel_rfl
@[go_sem] theorem QQ:cw Tryz.prog 115=some (true):=by kernel_rfl
@[go_sem] theorem PW:bc Tryz.prog 115=some (2):=by kernel_rfl
@[go_sem] theorem Qe:cq Tryz.prog 115=some ([.v (.int .i64 0), .v (.int .i64 0)]):=by kernel_rfl
@[go_sem] theorem NX:dq Tryz.prog 115 0=some (0):=by kernel_rfl
@[go_sem] theorem NY:dq Tryz.prog 115 1=some (1):=by kernel_rfl
@[go_sem] theorem SI:yX Tryz.prog 115=some ([(0,1),(1,1)],[.v (.int .i64 0), .v (.int .i64 0)]):=by kernel_rfl
@[go_sem] theorem Tb:Tryz.prog.underlying 120=some (.slice 164):=by kernel_rfl
@[go_sem] theorem QR:cw Tryz.prog 120=some (false):=by kernel_rfl
@[go_sem] theorem PX:bc Tryz.prog 120=some (1):=by kernel_rfl
@[go_sem] theorem Q6:gF Tryz.prog 120=some (164,1,8):=by kernel_rfl
@[go_sem] theorem Tc:Tryz.prog.underlying 121=some (.slice 4):=by kernel_rfl
@[go_sem] theorem QS:cw Tryz.prog 121=some (false):=by kernel_rfl
@[go_sem] theorem PY:bc Tryz.prog 121=some (1):=by kernel_rfl
@[go_sem] theorem Q7:gF Tryz.prog 121=some (4,1,1):=by kernel_rfl
@[go_sem] theorem QT:cw Tryz.prog 123=some (true):=by kernel_rfl
@[go_sem] theorem PZ:bc Tryz.prog 123=some (2):=by kernel_rfl
@[go_sem] theorem Qf:cq Tryz.prog 123=some ([.v (.slice none 0 0), .v (.slice none 0 0)]):=by kernel_rfl
@[go_sem] theorem NZ:dq Tryz.prog 123 0=some (0):=by kernel_rfl
@[go_sem] theorem N0:dq Tryz.prog 123 1=some (1):=by kernel_rfl
@[go_sem] theorem SJ:yX Tryz.prog 123=some ([(0,1),(1,1)],[.v (.slice none 0 0), .v (.slice none 0 0)]):=by kernel_rfl
@[go_sem] theorem N4:dq Tryz.prog 125 0=some (0):=by kernel_rfl
@[go_sem] theorem SK:yX Tryz.prog 125=some ([(0,2),(2,1)],[.v (.slice none 0 0), .v (.slice none 0 0), .v (.slice none 0 0)]):=by kernel_rfl
@[go_sem] theorem Te:Tryz.prog.underlying 129=some (.slice 74):=by kernel_rfl
@[go_sem] theorem QU:cw Tryz.prog 129=some (false):=by kernel_rfl
@[go_sem] theorem P0:bc Tryz.prog 129=some (1):=by kernel_rfl
@[go_sem] theorem Q8:gF Tryz.prog 129=some (74,2,32):=by kernel_rfl
@[go_sem] theorem Tf:Tryz.prog.underlying 137=some (.slice 56):=by kernel_rfl
@[go_sem] theorem Q9:gF Tryz.prog 137=some (56,1,24):=by kernel_rfl
@[go_sem] theorem Tg:Tryz.prog.underlying 149=some (.pointer 188):=by kernel_rfl
@[go_sem] theorem QV:cw Tryz.prog 149=some (false):=by kernel_rfl
@[go_sem] theorem P1:bc Tryz.prog 149=some (1):=by kernel_rfl
@[go_sem] theorem QX:cw Tryz.prog 153=some (false):=by kernel_rfl
@[go_sem] theorem P2:bc Tryz.prog 153=some (1):=by kernel_rfl
@[go_sem] theorem Th:Tryz.prog.underlying 160=some (.slice 115):=by kernel_rfl
@[go_sem] theorem QY:cw Tryz.prog 160=some (false):=by kernel_rfl
@[go_sem] theorem P3:bc Tryz.prog 160=some (1):=by kernel_rfl
@[go_sem] theorem Ra:gF Tryz.prog 160=some (115,2,16):=by kernel_rfl
@[go_sem] theorem N5:dq Tryz.prog 162 0=some (0):=by kernel_rfl
@[go_sem] theorem N6:dq Tryz.prog 162 1=some (1):=by kernel_rfl
@[go_sem] theorem SL:yX Tryz.prog 162=some ([(0,1),(1,1)],[.v (.slice none 0 0), .v (.bool false)]):=by kernel_rfl
@[go_sem] theorem Ti:Tryz.prog.underlying 163=some (.map 9 3):=by kernel_rfl
@[go_sem] theorem Tj:Tryz.prog.underlying 164=some (.map 9 3):=by kernel_rfl
@[go_sem] theorem QZ:cw Tryz.prog 164=some (false):=by kernel_rfl
@[go_sem] theorem P4:bc Tryz.prog 164=some (1):=by kernel_rfl
@[go_sem] theorem Qg:cq Tryz.prog 164=some ([.v (.map none)]):=by kernel_rfl
@[go_sem] theorem Q0:cw Tryz.prog 171=some (true):=by kernel_rfl
@[go_sem] theorem P5:bc Tryz.prog 171=some (3):=by kernel_rfl
@[go_sem] theorem Q1:cw Tryz.prog 173=some (true):=by kernel_rfl
@[go_sem] theorem P6:bc Tryz.prog 173=some (4):=by kernel_rfl
@[go_sem] theorem Qh:cq Tryz.prog 173=some ([.v (.string ⟨#[]⟩), .v (.int .i64 0), .v (.int .i64 0), .v (.string ⟨#[]⟩)]):=by kernel_rfl
@[go_sem] theorem N7:dq Tryz.prog 173 0=some (0):=by kernel_rfl
@[go_sem] theorem N8:dq Tryz.prog 173 1=some (1):=by kernel_rfl
@[go_sem] theorem Tl:Tryz.prog.underlying 180=some (.slice 98):=by kernel_rfl
@[go_sem] theorem Rb:gF Tryz.prog 180=some (98,1,24):=by kernel_rfl
@[go_sem] theorem Q2:cw Tryz.prog 185=some (false):=by kernel_rfl
@[go_sem] theorem P7:bc Tryz.prog 185=some (1):=by kernel_rfl
@[go_sem] theorem Qi:cq Tryz.prog 185=some ([.v (.int .u32 0)]):=by kernel_rfl
@[go_sem] theorem Tm:Tryz.prog.underlying 186=some (.array 25 185):=by kernel_rfl
@[go_sem] theorem N9:dq Tryz.prog 188 0=some (0):=by kernel_rfl
@[go_sem] theorem Oa:dq Tryz.prog 188 1=some (1):=by kernel_rfl
@[go_sem] theorem Ob:dq Tryz.prog 188 2=some (26):=by kernel_rfl
@[go_sem] theorem Oc:dq Tryz.prog 188 3=some (27):=by kernel_rfl
@[go_sem] theorem SN:yX Tryz.prog 188=some ([(0,1),(1,25),(26,1),(27,1)],[.v (.slice none 0 0), .v (.int .u32 0), .v (.int .u32 0), .v (.int .u32 0), .v (.int .u32 0), .v (.int .u32 0), .v (.int .u32 0), .v (.int .u32 0), .v (.int .u32 0), .v (.int .u32 0), .v (.int .u32 0), .v (.int .u32 0), .v (.int .u32 0), .v (.int .u32 0), .v (.int .u32 0), .v (.int .u32 0), .v (.int .u32 0), .v (.int .u32 0), .v (.int .u32 0), .v (.int .u32 0), .v (.int .u32 0), .v (.int .u32 0), .v (.int .u32 0), .v (.int .u32 0), .v (.int .u32 0), .v (.int .u32 0), .v (.int .u32 0), .v (.bool false)]):=by kernel_rfl
@[go_sem] theorem Q3:cw Tryz.prog 190=some (true):=by kernel_rfl
@[go_sem] theorem P8:bc Tryz.prog 190=some (2):=by kernel_rfl
@[go_sem] theorem Qj:cq Tryz.prog 190=some ([.v (.int .u32 0), .v (.int .u32 0)]):=by kernel_rfl
@[go_sem] theorem Od:dq Tryz.prog 190 0=some (0):=by kernel_rfl
@[go_sem] theorem Oe:dq Tryz.prog 190 1=some (1):=by kernel_rfl
@[go_sem] theorem SO:yX Tryz.prog 190=some ([(0,1),(1,1)],[.v (.int .u32 0), .v (.int .u32 0)]):=by kernel_rfl
@[go_sem] theorem Tn:Tryz.prog.underlying 199=some (.map 3 3):=by kernel_rfl
@[go_sem] theorem Q4:cw Tryz.prog 199=some (false):=by kernel_rfl
@[go_sem] theorem P9:bc Tryz.prog 199=some (1):=by kernel_rfl
@[go_sem] theorem Qk:cq Tryz.prog 199=some ([.v (.map none)]):=by kernel_rfl
@[go_sem] theorem To:Tryz.prog.underlying 208=some (.array 2 3):=by kernel_rfl
@[go_sem] theorem SP:yX Tryz.prog 208=some ([(0,1),(1,1)],[.v (.int .i64 0), .v (.int .i64 0)]):=by kernel_rfl
@[go_sem] theorem Tp:Tryz.prog.underlying 301=some (.array 32 5):=by kernel_rfl
open Go.RowKit Go.Shelf
attribute [local go_sem] Oper.semAt_some
def Um (J Jx:List XC->World->Prop) (Kp:World->World->Prop) (pre:List XC) (xs:List Ex) (W:World) (e:Ending) (W':World):Prop:=
 (e = .returned (.bool true)∧(∃L,L.map XC.sig=xs.map Ex.sig∧J (pre++L) W')∧Kp W W') ∨
 (e = .returned (.bool false)∧ ∃q,q.map XC.sig <+: xs.map Ex.sig∧Jx (pre++q) W')
def WalkC (F:Fence) (l N lo hi:Nat) (et:TypeId) (J Jx:List XC->World->Prop) (w0:World) (x:Ex):Prop:=
 ∀(n:Nat) (cx:List Value) (pre:List XC) (W:World),dZ w0 x cx->x.ok->Cells w0 W->hi<=W.heap.size->J pre W->pre.length+(az x).length<=N ->
  CallsIn F n Tryz.prog 110 #[.agg cx.toArray, .func (.yield l) #[] #[]] W (Um J Jx (Kept lo hi et) pre (az x) W)
theorem E9 (F:Fence) (hF: ∀f,F.fn f) (hd:F.depth=none) (hro:F.round=none) (l N lo hi:Nat) (et:TypeId) (het:25≠et) (J Jx:List XC->World->Prop) (w0:World) (hlo:w0.heap.size<=lo)
  (hJ: ∀pre W o,J pre W->J pre (W.alloc o))
  (hY: ∀m pre (c:XC) W,J pre W->pre.length<N->YieldAt F m Tryz.prog l #[c.val] W (Un J Jx (Kept lo hi et) pre c W)) (x:Ex):WalkC F l N lo hi et J Jx w0 x:=by
 induction x using Ex.ind with
 | h k s kids ih=>
  intro n cx pre W hx hok hb hhi hj hN;rw [dZ] at hx;obtain ⟨sv,rfl,hr⟩:=hx;obtain ⟨p,c,rfl,hc1,hc2⟩:=hr.shape;rw [Ex.ok] at hok;obtain ⟨hs,hoks⟩:=hok
  replace hs:=hs.len
  rw [az] at hN ⊢
  have hdd: ∀k:Nat,(F.depth.isSome=true->1<=k):=fun k h=>by rw [hd] at h;cases h
  obtain ⟨xc,hxv,hxs⟩: ∃xc:XC,xc.val = .agg #[.int .i64 k, .string s, .slice p kids.length c]∧xc.sig=(k,s,kids.length):=⟨⟨k,s,p,kids.length,c,hs,by omega⟩,rfl,rfl⟩;have hy1:=hY (n - 1) pre xc (W.alloc (.cells #[.int .i64 k, .string s, .slice p kids.length c] 25)) (hJ _ _ _ hj) (by simp at hN;omega);obtain ⟨fn,tmps,assign,body,hy,hR⟩:=hy1;rw [hxv] at hy;have HR:=Lib.hid hR;clear hR;have HX:=Lib.hid ih;have HO:=Lib.hid (oV.1 hoks);have HRd:=Lib.hid hr;have HBl:=Lib.hid hb;have HNN:=Lib.hid hN;have HJ:=Lib.hid hJ;have HXS:=Lib.hid hxs
  have HW:Hid (W.heap.size<(W.alloc (.cells #[.int .i64 k, .string s, .slice p kids.length c] 25)).heap.size):=by show _<_;simp
  have HB:Hid ((W.alloc (.cells #[.int .i64 k, .string s, .slice p kids.length c] 25)).heap[W.heap.size]? = some (.cells #[.int .i64 k, .string s, .slice p kids.length c] 25)):=by show _=_;exact dG _ _
  clear ih hoks hr hb hN hj hs hY hJ hxv hxs;unfold maxLen at hc2;refine callsIn_of_wp Tryz.func110 rfl (hF _) ?_ hro;simp only [Tryz.ntmps110,List.size_toArray,List.length_cons,List.length_nil,Nat.reduceAdd,Nat.reduceSub,WD,WE,List.push_toArray,List.append_toArray,List.nil_append,List.cons_append]
  gi_wp2_with fail
  refine HR.out.mono ?_
  rintro e W2 (⟨rfl,hJ2,hk2⟩|⟨rfl,hx2⟩)
  ·have hbox:=hk2.box hhi het HB.out;have hk1:Kept lo hi et W W2:=(Kept.alloc W _).trans hk2;have hce:=au hbox 2;have HH:=Lib.hid hbox;have HK:=Lib.hid hk1;have HJ2:=Lib.hid hJ2;clear hbox hk1 hk2 hJ2;simp only [Vk,WG,V7] at hce
   gi_wp2_with fail
   gi_loopw [4,14] (fun r i wr=>r = .bool false∧ ∃k:Nat,i = .int .i64 k∧k<=kids.length∧Kept lo hi et W wr∧ ∃L,L.map XC.sig=((bW (kids.take k))).map Ex.sig∧J (pre++[xc]++L) wr) (fun _ i _=>kids.length - (intOf i).toNat)
   case atStart=>exact ⟨rfl,0,rfl,Nat.zero_le _,HK.out,[],rfl,by simpa using HJ2.out⟩
   case round=>
    obtain ⟨rfl,i,rfl,hik,hkw,L,hL,hJL⟩:=hrel;have HKW:=Lib.hid hkw;have HL:=Lib.hid hL;have HJL:=Lib.hid hJL
    have hlen:L.length=(bW (kids.take i)).length:=by have:=congrArg List.length hL;simpa using this
    clear hkw hL hJL
    by_cases hlt:i<kids.length
    ·have hcw:=HKW.out.cells HBl.out hlo;obtain ⟨b1,o1,k1,s1,l1,v1,rfl,hx1,hr1,a0,a1,a2⟩:=HRd.out.at hlt;obtain ⟨p1,c1,rfl, -, -⟩:=hr1.shape
     replace a0:=hcw _ _ _ a0
     replace a1:=hcw _ _ _ a1
     replace a2:=hcw _ _ _ a2
     have hq1:=jX a0;have hmem:kids[i]∈kids:=List.getElem_mem _
     have hrx:dZ w0 kids[i] [.int .i64 k1, .string s1, .slice p1 l1.length c1]:=by rw [hx1,dZ];exact ⟨_,rfl,hr1⟩
     have hpp:=mE hlt
     have hbd:(pre++[xc]++L).length+(az kids[i]).length<=N:=by
      have h1:=HNN.out;have h2:=oY kids (i+1);rw [hpp] at h2;simp at h1 h2 ⊢;omega
     have HH1:=Lib.hid (fun m W' hcc hh hj=>HX.out kids[i] hmem m _ (pre++[xc]++L) W' hrx (HO.out _ hmem) hcc hh hj hbd);have HCW:=Lib.hid hcw;have HPP:=Lib.hid hpp;have hhw:=Nat.le_trans hhi HKW.out.size;have HB2:=Lib.hid (fun o=>Kept.alloc (lo:=lo) (hi:=hi) (e:=et) wr o)
     have HS2:Hid (∀o:Obj,hi<=(wr.alloc o).heap.size):=fun o=>by simp;omega
     have HJJ:Hid (∀o:Obj,J (pre++[xc]++L) (wr.alloc o)):=fun o=>HJ.out _ _ _ HJL.out;have HC2:Hid (∀o:Obj,Cells w0 (wr.alloc o)):=fun o=>(HB2.out o).cells HCW.out hlo;clear hx1 hr1 hcw hmem hrx hpp hbd hlen
     gi_wp2_with fail
     refine (HH1.out _ _ (HC2.out _) (HS2.out _) (HJJ.out _)).mono ?_
     rintro e W3 (⟨rfl,⟨L3,hL3,hJ3⟩,hk3⟩|⟨rfl,q,hq,hx3⟩)
     ·have HL3:=Lib.hid hL3;have HJ3:=Lib.hid hJ3;have HK3:=Lib.hid (HKW.out.trans ((HB2.out _).trans hk3));clear hL3 hJ3 hk3
      gi_wp2_with fail
      go_roundw
      case rel=>exact ⟨rfl,i+1,by go_num,by omega,HK3.out,L++L3,by rw [HPP.out];simp [HL.out,HL3.out],by simpa using HJ3.out⟩
      case measure=>simp [intOf];omega
     ·have HQ:=Lib.hid hq;have HX3:=Lib.hid hx3;clear hq hx3
      gi_wp2_with fail
      go_ret
      refine .inr ⟨rfl,[xc]++(L++q), ?_,by simpa using HX3.out⟩;obtain ⟨r,hr⟩:=HQ.out;have h2:=gy (kids.take (i+1)) (kids.drop (i+1));rw [List.take_append_drop,HPP.out] at h2;refine ⟨r++(bW (kids.drop (i+1))).map Ex.sig, ?_⟩;rw [h2];simp [HXS.out,Ex.sig,HL.out, <- hr]
    ·gi_wp2
     go_ret
     obtain rfl:i=kids.length:=by omega
     refine .inl ⟨rfl,⟨[xc]++L, ?_,by simpa using HJL.out⟩,HKW.out⟩;simp [HXS.out,Ex.sig,HL.out]
  ·gi_wp2
   go_ret
   exact .inr ⟨rfl,[xc],by simp [HXS.out,Ex.sig],hx2⟩
theorem pP (F:Fence) (hF: ∀f,F.fn f) (hd:F.depth=none) (hro:F.round=none) (n lo hi B:Nat) (et:TypeId) (het:25≠et) (x:Ex) (cx:List Value) (w0 w:World) (hlo:w0.heap.size<=lo) (hhi:hi<=w.heap.size)
  (hx:dZ w0 x cx) (hok:x.ok) (hc:Cells w0 w) (hB:w.heap[B]? = some (.cells cx.toArray 25)) :
  SeqStopsK F n Tryz.prog 109 #[.pointer (some ⟨B,0,none⟩)] (fun c:XC=> #[c.val]) (Kept lo hi et) (fun L=>L.map XC.sig=(az x).map Ex.sig) (fun q=>q.map XC.sig <+: (az x).map Ex.sig) (az x).length w:=by
 intro l J Jx W hW hJ hJx hY h0;have hw:=E9 F hF hd hro l (az x).length lo hi et het J Jx w0 hlo (fun pre W o h=>hJ pre _ _ none h (World.grownBy_alloc W o none) (fun r e=>by cases e)) (fun m pre c W hj hl=>py hd m (hY pre c W hj hl)) x (n - 1) cx [] W hx hok (hc.trans (.of hW)) (Nat.le_trans hhi hW.size) h0 (by simp);obtain ⟨k,s,kids⟩:=x;rw [dZ] at hx;obtain ⟨sv,rfl,hr⟩:=hx;obtain ⟨p,c,rfl, -, -⟩:=hr.shape;have hbw:=(hW.block B (Array.getElem?_eq_some_iff.1 hB).1).trans hB;have c0:=au hbw 0;have c1:=au hbw 1;have c2:=au hbw 2;simp only [Vk,WG,V7] at c0 c1 c2;have HW:=Lib.hid hw
 have hdd: ∀k:Nat,(F.depth.isSome=true->1<=k):=fun k h=>by rw [hd] at h;cases h
 clear hw hJ hJx hY h0 hr hbw hB hc hW;refine callsIn_of_wp Tryz.func109 rfl (hF _) ?_ hro;simp only [Tryz.ntmps109,List.size_toArray,List.length_cons,List.length_nil,Nat.reduceAdd,Nat.reduceSub,WD,WE,List.push_toArray,List.append_toArray,List.nil_append,List.cons_append]
 gi_wp2_with fail
 refine HW.out.mono ?_
 rintro e W1 (⟨rfl,⟨L,hL,hJ1⟩, -⟩|⟨rfl,q,hq,hx⟩)
 ·have HL:=Lib.hid hL;have HJ1:=Lib.hid hJ1;clear hL hJ1
  gi_wp2
  go_end0
  exact ⟨⟨_,rfl⟩, .inl ⟨L,HL.out,by simpa using HJ1.out⟩⟩
 ·have HQ:=Lib.hid hq;have HX:=Lib.hid hx;clear hq hx
  gi_wp2
  go_end0
  exact ⟨⟨_,rfl⟩, .inr ⟨q,HQ.out,by simpa using HX.out⟩⟩
theorem uj (k:Int) (s:ByteArray) (p:Option Addr) (n c:Nat) (w:World) :
  Calls Tryz.prog 75 #[.agg #[.int .i64 k, .string s, .slice p n c]] w fun e w'=>e = .returned (.func (.func 109) #[] #[.pointer (some ⟨w.heap.size,0,none⟩)])∧w.alloc (.cells #[.int .i64 k, .string s, .slice p n c] 25)=w':=by
 go_enter Tryz.func75,Tryz.ntmps75
 go_wp2_with fail
 go_ret
 exact ⟨rfl,rfl⟩
end
section
open Go.RowKit Go.Shelf
attribute [local go_sem] Oper.semAt_some
theorem vz {x:Ex} {q:List XC} (h:q.map XC.sig <+: (az x).map Ex.sig) (hq:24<q.length∨ ∃c,c∈q∧pO c.sig=false):aI x=false:=by
 rw [pG];obtain ⟨r,hr⟩:=h;rw [<-hr]
 rcases hq with hq|⟨c,hc,hf⟩
 ·rw [decide_eq_false (by simp;omega),Bool.false_and]
 ·have:(q.map XC.sig++r).all pO=false:=by
   rw [List.all_eq_false];exact ⟨c.sig,by simp;exact .inl ⟨c,hc,rfl⟩,by rw [hf];decide⟩
  rw [this,Bool.and_false]
theorem vy {x:Ex} {q:List XC} (h:q.map XC.sig=(az x).map Ex.sig) (hq:q.length<=24) (hp: ∀c,c∈q->pO c.sig=true):aI x=true:=by
 rw [pG, <- h,decide_eq_true (by simpa using hq),Bool.true_and,List.all_map,List.all_eq_true];exact hp
theorem sN (x:Ex) (cx:List Value) (w:World) (hx:dZ w x cx) (hok:x.ok) :
  Calls Tryz.prog 46 #[.agg cx.toArray] w (Dj w (.bool (aI x))):=by
 obtain ⟨k,s,kids⟩:=x;have hx':=hx;rw [dZ] at hx;obtain ⟨sv,rfl,hr⟩:=hx;obtain ⟨p,c,rfl, -, -⟩:=hr.shape;refine (callsIn_wide (n:=9)).1 ?_;have HX:=Lib.hid hx';have HO:=Lib.hid hok;clear hx' hok hr;refine callsIn_of_wp_marks Tryz.func46 rfl trivial ?_ rfl;simp only [Tryz.ntmps46,List.size_toArray,List.length_cons,List.length_nil,Nat.reduceAdd,Nat.reduceSub,Array.replicate_succ,Array.replicate_zero,List.push_toArray,List.append_toArray,List.nil_append,List.cons_append]
 gi_wp2_with fail
 refine ⟨trivial, ?_⟩;refine (callsIn_wide.2 (uj _ _ _ _ _ _)).mono ?_;rintro e w' ⟨rfl,rfl⟩
 gi_wp2_with fail
 obtain ⟨bx,hbx⟩: ∃bx:Obj,bx = .cells #[.int .i64 k, .string s, .slice p kids.length c] 25:=⟨_,rfl⟩;rw [<-hbx];obtain ⟨W0,hW0⟩: ∃W0,(((w.alloc bx).alloc (.cells #[.bool false] 4)).alloc (.cells #[.int .i64 0] 3)).alloc bx=W0:=⟨_,rfl⟩
 have hs0:W0.heap.size=w.heap.size+4:=by rw [<-hW0];simp
 have hb0:Below w.heap.size w W0:=by rw [<-hW0];exact ((((Below.refl w.heap.size w).alloc (UZ _) _).alloc (by simp) _).alloc (by simp;omega) _).alloc (by simp;omega) _
 have hbr:W0.heap[w.heap.size+1]? = some (.cells #[.bool false] 4 (0,0)):=by rw [<-hW0];exact iI (iI (by simpa using dG (w.alloc bx) _) _) _
 have hbn:W0.heap[w.heap.size+2]? = some (.cells #[.int .i64 0] 3 (0,0)):=by rw [<-hW0];exact iI (by simpa using dG ((w.alloc bx).alloc (.cells #[.bool false] 4)) _) _
 have hbp:W0.heap[w.heap.size+3]? = some bx:=by rw [<-hW0];simpa using dG (((w.alloc bx).alloc (.cells #[.bool false] 4)).alloc (.cells #[.int .i64 0] 3)) bx
 rw [hbx] at hbp;have hseq:=pP Fence.wide (fun _=>trivial) rfl rfl 8 w.heap.size (w.heap.size+3) (w.heap.size+3) 0 (by decide) _ _ w W0 (UZ _) (by omega) HX.out HO.out (.of hb0) hbp;rw [hW0];clear hbx
 refine Ia (lb:= #[.pointer (some ⟨w.heap.size+3,0,none⟩)]) (gf:=109) rfl (enters_of Tryz.func109 (by kernel_rfl) rfl) hseq (Below.refl _ _) (fun _=>rfl)
  (fun pre W=>(Below w.heap.size w W∧W.heap[w.heap.size+2]? = some (.cells #[.int .i64 pre.length] 3 (0,0))∧W.heap[w.heap.size+1]? = some (.cells #[.bool false] 4 (0,0))∧W0.heap.size<=W.heap.size)∧pre.length<=24∧ ∀c,c∈pre->pO c.sig=true)
  (fun c pre W=>(Below w.heap.size w W∧W.heap[w.heap.size+1]? = some (.cells #[.bool false] 4 (0,0)))∧c = .ret∧(24<pre.length∨ ∃c,c∈pre∧pO c.sig=false))
  (((ownFrom_below (UZ _) (by omega)).and ((iO _ _ (fun s:List XC=> #[.int .i64 s.length]) _).and ((iO _ _ (fun _:List XC=> #[.bool false]) _).and (fun _ _ _ _ hs hg _=>U0 hs hg.size)))).and (ownFrom_pure _ _))
  (fun _=>((ownFrom_below (UZ _) (by omega)).and (iO _ _ (fun _:List XC=> #[.bool false]) _)).and (ownFrom_pure _ _))
  ⟨⟨hb0,hbn,hbr,UZ _⟩,Nat.zero_le _,fun _ h=>by cases h⟩ 4 (fun c=> #[.int .i64 c.kind, .string c.label, .slice c.ptr c.len c.cap]) 25 (fun _ _ h=>h.1.2.2.2) ?assign ?body ?done ?stop
 case assign=>
  intro l x W K hK;simp only [handed,XC.val,WH,WI,WJ,WK,WL,WN,WO];simp only [handed,XC.val,Act.mQ,WH,WI,WJ,WK,WL,WN,WO] at hK
  gi_wp2
  exact hK
 case body=>
  rintro l pre x B W hl hrec ⟨⟨hb,hn,hr,hsz⟩,hle,hall⟩ hB hbB hlen;have hcn:=au hn 0;have hfn:=cj hn 0;have hcr:=au hr 0;have hfr:=cj hr 0;have hp0:=au hbB 0;have hp1:=au hbB 1;have hp2:=au hbB 2;simp only [Vk,V7,List.getElem?_cons_succ] at hcn hcr hp0 hp1 hp2
  have hB1: ¬B=w.heap.size+2:=by omega
  have hB2: ¬w.heap.size+2=B:=by omega
  obtain ⟨W1,hW1⟩: ∃W1,W1=W.setCell ⟨w.heap.size+2,0,none⟩ (.int .i64 ((pre.length:Int)+1)):=⟨_,rfl⟩
  have hk1:Kept w.heap.size (w.heap.size+3) 0 W W1:=by rw [hW1];exact Kept.setCell W (by omega) (by omega) _
  have hf1:KeepsFrom W0.heap.size W W1:=by rw [hW1];exact (KeepsOthers.setCell _ _ _).from _
  have hbw1:Below w.heap.size w W1:=by rw [hW1];exact hb.setCell (p:=⟨w.heap.size+2,0,none⟩) (by simp) _
  have hn1:W1.heap[w.heap.size+2]? = some (.cells #[.int .i64 ((pre++[x]).length:Nat)] 3 (0,0)):=by rw [hW1];simpa using gX hn (.int .i64 ((pre.length:Int)+1))
  have hr1:W1.heap[w.heap.size+1]? = some (.cells #[.bool false] 4 (0,0)):=by rw [hW1];exact dn hr _ (by omega)
  have hz1:W0.heap.size<=W1.heap.size:=by rw [hW1];exact U0 hsz (KeepsOthers.setCell _ _ _).size
  have HA:=Lib.hid (show _∧_∧_∧_∧_∧_ from ⟨hk1,hf1,hbw1,hn1,hr1,hz1⟩)
  have hzl:w.heap.size+1<W1.heap.size:=by omega
  have HP:=Lib.hid (fun W'=>Hs x.kind x.label x.ptr x.len x.cap W' x.hl x.hn);have HS:Hid (∀b,bA x.kind x.label x.len=b->pO x.sig=b):=fun b h=>h;have HALL:=Lib.hid hall;have HB0:=Lib.hid hb;have HW1:=Lib.hid hW1;clear hb hn hr hbB hk1 hf1 hbw1 hn1 hr1 hz1 hall hW1 hsz;simp only [handed,Act.mQ,WH,WI,WJ,WK,WL,WN,WO]
  by_cases h24:pre.length=24
  ·have hgt:(24:Int)<(pre.length:Int)+1:=by omega
   have H24:=Lib.hid h24;clear h24;have hcr1:=au HA.out.2.2.2.2.1 0;have hfr1:=cj HA.out.2.2.2.2.1 0;rw [HW1.out] at hcr1 hfr1;simp only [Vk,V7] at hcr1
   gi_wp2_with fail
   refine ⟨trivial, ?_⟩
   gi_wp2
   obtain ⟨hk1,hf1,hbw1,hn1,hr1,hz1⟩:=HA.out;rw [HW1.out] at hf1 hbw1 hr1;refine ⟨hf1.trans ((KeepsOthers.setCell _ _ _).from _),⟨hbw1.setCell (p:=⟨w.heap.size+1,0,none⟩) (by simp) _,gX hr1 _⟩,rfl, .inl (by have:=H24.out;simp;omega)⟩
  ·have hgt: ¬(24:Int)<(pre.length:Int)+1:=by omega
   have H24:=Lib.hid h24;clear h24
   cases hpb:bA x.kind x.label x.len
   ·rw [hpb] at HP;have HPB:=Lib.hid (HS.out _ hpb);clear hpb
    gi_wp2_with fail
    refine ⟨trivial,(CallsIn.inRound l (callsIn_wide.2 (HP.out _))).mono ?_⟩;rintro e w2 ⟨rfl,hb2⟩
    have hb2':Below W1.heap.size W1 w2:=by rw [HW1.out];exact hb2
    clear hb2;obtain ⟨hk1,hf1,hbw1,hn1,hr1,hz1⟩:=HA.out;have hr2:w2.heap[w.heap.size+1]? = some (.cells #[.bool false] 4 (0,0)):=(hb2'.block _ (by omega)).trans hr1;have hcr1:=au hr2 0;have hfr1:=cj hr2 0;simp only [Vk,V7] at hcr1;have HR2:=Lib.hid hr2;have HB2:=Lib.hid hb2';clear hk1 hf1 hbw1 hn1 hr1 hz1 hr2 hb2'
    gi_wp2
    obtain ⟨hk1,hf1,hbw1,hn1,hr1,hz1⟩:=HA.out;exact ⟨(hf1.trans (kr HB2.out)).trans ((KeepsOthers.setCell _ _ _).from _),⟨(cQ hbw1 HB2.out).setCell (p:=⟨w.heap.size+1,0,none⟩) (by simp) _,gX HR2.out _⟩,rfl, .inr ⟨x,by simp,HPB.out⟩⟩
   ·rw [hpb] at HP;have HPB:=Lib.hid (HS.out _ hpb);clear hpb
    gi_wp2_with fail
    refine ⟨trivial,(CallsIn.inRound l (callsIn_wide.2 (HP.out _))).mono ?_⟩;rintro e w2 ⟨rfl,hb2⟩
    have HB2:Hid (Below W1.heap.size W1 w2):=by show Below _ _ _;rw [HW1.out];exact hb2
    clear hb2
    gi_wp2
    obtain ⟨hk1,hf1,hbw1,hn1,hr1,hz1⟩:=HA.out;have hb2:=HB2.out;refine ⟨hf1.trans (kr hb2),hk1.trans (Kept.below hb2),⟨cQ hbw1 hb2,(hb2.block _ (by omega)).trans hn1,(hb2.block _ (by omega)).trans hr1,U0 hz1 hb2.size⟩,by have:=H24.out;simp;omega, ?_⟩;intro c hc
    rcases List.mem_append.1 hc with hc|hc
    ·exact HALL.out c hc
    ·rw [List.mem_singleton.1 hc];exact HPB.out
 case done=>
  rintro D xs W hD hS ⟨⟨hb,hn,hr,hsz⟩,hle,hall⟩ hK;have hcr:=au hr 0;have hfr:=cj hr 0;simp only [Vk,V7] at hcr;have hfin:=vy hS hle hall;have HF:=Lib.hid hfin;have HR:=Lib.hid hr;have HB:=Lib.hid hb;have HK:=Lib.hid hK;have HD:=Lib.hid hD;have H0:=Lib.hid hs0;clear hb hn hr hsz hle hall hK hD hS hfin hW0 hb0 hbr hbn hbp hseq hs0
  gi_wp2
  have hD:=HD.out;have h0:=H0.out;have hKs:=dn HK.out (b:=w.heap.size+1) (o:=0) (.bool true) (by omega);refine ⟨by simp, .inl ⟨_,_,rfl,run_takeDeferred hKs, ?_⟩⟩;have hbx:=dj (gX HR.out (.bool true)) (.deferred none) (D:=D) (by omega);have hcf:=au hbx 0;simp only [Vk,V7] at hcf
  refine ⟨.bool true, ?_,b7 rfl HF.out.symm ?_⟩
  ·simp [results,Tryz.results46,go_sem,hcf]
  ·exact jI (HB.out.setCell (p:=⟨w.heap.size+1,0,none⟩) (Nat.le_succ _) _) (by omega) _ hKs
 case stop=>
  rintro D c pre W hD hSp ⟨⟨hb,hr⟩,rfl,hq⟩ hK;have hfin:=vz hSp hq;have HF:=Lib.hid hfin;have HR:=Lib.hid hr;have HB:=Lib.hid hb;have HK:=Lib.hid hK;have HD:=Lib.hid hD;have H0:=Lib.hid hs0;clear hb hr hK hD hSp hq hfin hW0 hb0 hbr hbn hbp hseq hs0
  gi_wp2
  have hD:=HD.out;have h0:=H0.out;refine ⟨by simp, .inl ⟨_,_,rfl,run_takeDeferred HK.out, ?_⟩⟩;have hbx:=dj HR.out (.deferred none) (D:=D) (by omega);have hcf:=au hbx 0;simp only [Vk,V7] at hcf
  refine ⟨.bool false, ?_,b7 rfl HF.out.symm ?_⟩
  ·simp [results,Tryz.results46,go_sem,hcf]
  ·exact jI HB.out (by omega) _ HK.out
end
section
open Go.RowKit
end
section
open Go.RowKit
end
section
open Go.RowKit
end
section
open Go.RowKit
end
section
def QB (f:FuncId) (cap:List Value) (q:l7->Bool) (w:World):Prop:= ∀(x:l7) (k:Int) (s:ByteArray) (l:List Ex) (v:Value) (W:World),Below w.heap.size w W->x.ok->x.expr = .mk k s l->kE W l v ->
 Calls Tryz.prog f (.agg #[.string x.aD, .string x.to, .bool x.path, .string x.label, .string x.name, .int .i64 k, .string s,v] :: cap).toArray W (Dj W (.bool (q x)))
def Qz (f:FuncId) (cap:List Value) (q:BD->Bool) (w:World):Prop:= ∀(x:BD) (W:World),Below w.heap.size w W->x.ok ->
 Calls Tryz.prog f (.agg #[.int .i64 x.op, .int .i64 x.left.kind, .string x.left.name, .string x.left.key, .int .i64 x.left.val.kind, .int .i64 x.left.val.num, .string x.left.val.text, .int .i64 x.right.kind, .string x.right.name, .string x.right.key, .int .i64 x.right.val.kind, .int .i64 x.right.val.num, .string x.right.val.text] :: cap).toArray W (Dj W (.bool (q x)))
def QA (f:FuncId) (cap:List Value) (q:sY->Bool) (w:World):Prop:= ∀(x:sY) (W:World),Below w.heap.size w W->x.ok ->
 Calls Tryz.prog f (.agg #[.int .i64 x.kind, .string x.name, .string x.key, .int .i64 x.val.kind, .int .i64 x.val.num, .string x.val.text] :: cap).toArray W (Dj W (.bool (q x)))
section
variable {P:Program}
theorem fh {s:AS} {k i j:Nat} {ob:aa} {row:List AV} (T':TypeId) (z':Nat) (hz':0<z') (hk:s.o[k]? = some (some ob)) (hz:0<ob.z) (hr:ob.rows[i]? = some row) (hj:row[j]? = some (.v (.slice none 0 0))) :
  w8 s (AS.mk s.t ((s.o++[some (aa.mk T' z' true [])]).set k (some { ob with rows:=ob.rows.set i (row.set j (.vec s.o.length 0)) })) s.y):=by
 intro f D nu a w hs
 have hv: ∀b,b9 (Value.slice none 0 0)=some b->w.heap.size<=b:=fun b e=>by cases e
 have hp:=dv (nu:=nu) (o:=s.o) (ob:=⟨T',z',true,[]⟩) (Below.refl w.heap.size w) hv;have hro:=gP (ob:=⟨T',z',true,[]⟩) hs.ro (Below.refl _ _) hv (.inl ⟨rfl,rfl,rfl⟩);have hlt:=(U4.1 hk).1
 have hk':(s.o++[some (⟨T',z',true,[]⟩:aa)])[k]? = some (some ob):=by rw [List.getElem?_append_left hlt];exact hk
 have hh:ob.hl=({ ob with rows:=ob.rows.set i (row.set j (.vec s.o.length 0)) }:aa).hl:=by simp [aa.hl]
 obtain ⟨g,cur,hb⟩: ∃g cur,sO D (cN nu s.o.length (.slice none 0 0)) (s.o++[some ⟨T',z',true,[]⟩]) w k ob g cur:=by
  rcases hro.obj k ob hk' with ⟨_,e,_⟩|h|⟨g,es,cl,hm⟩
  ·rw [e] at hr;simp at hr
  ·exact h
  ·have:=hm.z;omega
 have hm:=gn (nu:=cN nu s.o.length (.slice none 0 0)) (o:=s.o++[some ⟨T',z',true,[]⟩]) (w:=w) (w':=w) (ob':={ ob with rows:=ob.rows.set i (row.set j (.vec s.o.length 0)) }) hk' hh.symm hb.bg rfl rfl rfl rfl (fun _ _=>rfl);refine ⟨cN nu s.o.length (.slice none 0 0),hp.trans hm,rfl, ?_,(hs.tm.mono hp (fun _ _ h=>h)).mono hm (fun _ _ h=>h),hs.iB⟩;have hil:=(U4.1 hr).1;have hjl:=(U4.1 hj).1
 have key: ∀(i' j':Nat) r c,(ob.rows.set i (row.set j (.vec s.o.length 0)))[i']? = some r->r[j']? = some c-> ∃r0 c0,ob.rows[i']? = some r0∧r0[j']? = some c0∧(c=c0∨(c = .vec s.o.length 0∧c0 = .v (.slice none 0 0))):=by
  intro i' j' r c h1 h2
  by_cases hi:i=i'
  ·subst hi;rw [Vq hil] at h1;cases h1
   by_cases hj':j=j'
   ·subst hj';rw [Vq hjl] at h2;cases h2;exact ⟨row,_,hr,hj, .inr ⟨rfl,rfl⟩⟩
   ·rw [Vp hj'] at h2;exact ⟨row,c,hr,h2, .inl rfl⟩
  ·rw [Vp hi] at h1;exact ⟨r,c,h1,h2, .inl rfl⟩
 refine mR hro hk' hh.symm hb.bg hm (fun _ _=>rfl) (cur:=cur) ⟨hb.blk,hb.ko,fun hv'=> ?_,fun hv'=> ?_,hb.z,fun i' r hi'=> ?_,fun i' j' r c x h1 h2 h3=> ?_,fun i' j' r c x h1 h2 h3=> ?_⟩
 ·obtain ⟨q1,q2,q3⟩:=hb.box hv';exact ⟨q1,by simpa using q2,q3⟩
 ·obtain ⟨cap,q1,q2,q3,q4⟩:=hb.vec hv';exact ⟨cap,by simpa using q1,by simpa using q2,q3,q4⟩
 ·by_cases hi:i=i'
  ·subst hi;rw [Vq hil] at hi';cases hi';rw [List.length_set];exact hb.row i row hr
  ·rw [Vp hi] at hi';exact hb.row i' r hi'
 ·obtain ⟨r0,c0,k1,k2,e⟩:=key i' j' r c h1 h2;have h0:=hb.cell i' j' r0 c0 x k1 k2 h3
  rcases e with rfl|⟨rfl,rfl⟩
  ·exact h0.mono hm (fun _ _ h=>h)
  ·obtain rfl:=h0.b5
   have:=RA.vec (D:=D) (nu:=cN nu s.o.length (.slice none 0 0)) (o:=(s.o++[some (⟨T',z',true,[]⟩:aa)])) (w:=w) s.o.length 0 ⟨_,List.getElem?_concat_length,fun x hx=>Nat.zero_le _⟩ (by rw [aQ];rfl)
   rw [aQ] at this;exact this.mono hm (fun _ _ h=>h)
 ·obtain ⟨r0,c0,k1,k2,_⟩:=key i' j' r c h1 h2;exact hb.one i' j' r0 c0 x k1 k2 h3
end
def Us (l:List ByteArray):List (List AV):=l.map (fun s=>[.v (.string s)])
structure sW where
 d:Tmp
 k:Nat
 e:TypeId
 z:Nat
 n:Nat
 zc:List AV
 bx:Bool:=false
def sW.ob (m:sW):aa:=⟨m.e,m.z, !m.bx,List.replicate m.n m.zc⟩
def sW.av (m:sW) (id:Nat):AV:=if m.bx then .ptr id 0 m.z 0 0 else .vec id m.n
def sW.val (m:sW) (b cap:Nat):Value:=if m.bx then .pointer (some ⟨b,0,none⟩) else .slice (some ⟨b,0,none⟩) m.n cap
def UU (n0:Nat) (m:sW) (v:Value) (w:World):Prop:= ∃b cap cur,v=m.val b cap∧n0<=b∧w.heap[b]? = some (.cells cur m.e (0,0))∧m.n<=cap∧cap<=maxLen∧cur.size=cap * m.z∧0<m.z∧m.zc.length=m.z∧(m.bx=true->m.n=1∧cap=1) ∧
 ∀(i j:Nat) c x,i<m.n->m.zc[j]? = some c->cur[i * m.z+j]? = some x->c = .v x∧x.oneCell'=true
section
variable {D:Nat->Prop} {nu:Nat->Nat->Value} {o:List (Option aa)} {w:World} {P:Program}
def R7:List AV->Nat->List sW->List AV
 | t,_,[]=>t
 | t,N,m :: l=>R7 (t.set m.d (m.av N)) (N+1) l
def vQ (s:AS) (ms:List sW):AS:=⟨R7 s.t s.o.length ms,s.o++ms.map (fun m=>some m.ob),s.y⟩
def AV.ON:AV->AV
 | .v x=> .v x
 | .ptr a b c d e=> .ptr a b c d e
 | .vec a b=> .vec a b
 | .agg cs=>if AV.flat (.agg cs) then .agg cs else .undef
 | .gu _ (.v x)=> .v x
 | _=> .undef
theorem RA.ON {D':Nat->Prop} {nu':Nat->Nat->Value} {o':List (Option aa)} {w':World} (hh: ∀id len,c7 o id len->c7 o' id len∧nu' id len=nu id len) {c:AV} {x:Value} (h:RA D nu o w c x):RA D' nu' o' w' c.ON x:=by
 cases h with
 | v=>exact .v _
 | ptr id len z row off b h1 h2=>exact .ptr id len z row off b (hh _ _ h1).1 (by rw [(hh _ _ h1).2];exact h2)
 | vec id len h1 h2=>
  rw [<-(hh _ _ h1).2] at h2 ⊢;exact .vec id len (hh _ _ h1).1 h2
 | agg cs xs h1 h2 h3=>
  simp only [AV.ON]
  split
  ·rename_i hf;exact (RA.agg cs xs h1 h2 h3:RA D nu o w _ _).flat hf
  ·exact .undef _
 | gu p a x S h0 h1 hc h2 h3=>
  cases a with
  | v y=>cases h3;exact .v _
  | _=>exact .undef _
 | _=>exact .undef _
def F9:List Tmp->List AV->List AV
 | [],t=>t
 | d :: ds,t=>F9 ds (t.set d (t.getD d .undef).ON)
def Jq (P:Program) (T:TypeId) (n c:AV):Option (Prop×TypeId×Nat×Nat×List AV):=
 match P.underlying T,n,c with
 | some (.slice e), .v (.int _ l), .v (.int _ m)=>match gF P T,cq P e with
  | some (_,z,bytes),some zr=>some (0<=l∧l<=m∧m.toNat * bytes<=140737488355328∧m.toNat<=140737488355328,e,z,l.toNat,zr)
  | _,_=>none
 | _,_,_=>none
def Jn (P:Program) (T:TypeId):Option (Prop×TypeId×Nat×Nat×List AV):=
 match cq P T with
 | some zr=>if 0<zr.length then some (True,T,zr.length,1,zr) else none
 | none=>none
def Jc (g:Option (Nat×Bool)) (d:Option Tmp) (N:Nat) (x:Option (Prop×TypeId×Nat×Nat×List AV)) (K:Tmp->TypeId->Nat->Nat->List AV->Prop):Prop:=match g,d,x with
 | none,some d,some (p,e,z,n,zc)=>(p∧d<N)∧K d e z n zc
 | _,_,_=>False
theorem Fq (d N:Nat) (p:Prop) (e:TypeId) (z n:Nat) (zc:List AV) (K:Tmp->TypeId->Nat->Nat->List AV->Prop):Jc none (some d) N (some (p,e,z,n,zc)) K=((p∧d<N)∧K d e z n zc):=rfl
@[congr] theorem NL {g:Option (Nat×Bool)} {d:Option Tmp} {N N':Nat} {x x':Option (Prop×TypeId×Nat×Nat×List AV)} {K:Tmp->TypeId->Nat->Nat->List AV->Prop} (h:N=N') (k:x=x'):Jc g d N x K=Jc g d N' x' K:=by rw [h,k]
def ek (P:Program) (all tail:List Oper):List Oper->Nat->AS->List sW->List Tmp->(AS->Prop)->Prop
 | [],_,s,ms,ds,Q=>eU P all tail (vQ ⟨F9 ds s.t,s.o,s.y⟩ ms) Q
 | oo :: rest,k,s,ms,ds,Q=>match oo.op with
  | .makeSlice T n c=>Jc oo.guard oo.dst s.t.length (Jq P T (s.ev n) (s.ev c)) (fun d e z l zc=>ek P all tail rest (k+1) (s.put (some d) .undef s.o) (ms++[⟨d,k,e,z,l,zc,false⟩]) ds Q)
  | .alloc T=>Jc oo.guard oo.dst s.t.length (Jn P T) (fun d e z l zc=>ek P all tail rest (k+1) (s.put (some d) .undef s.o) (ms++[⟨d,k,e,z,l,zc,true⟩]) ds Q)
  | _=>match oo.guard with
   | none=>db P oo.op s (fun r=>ek P all tail rest (k+1) (s.put oo.dst r s.o) ms (oo.dst.toList++ds) Q)
   | some (j,want)=>sR (jl all s j) want (db P oo.op s (fun r=>ek P all tail rest (k+1) (s.put oo.dst r s.o) ms (oo.dst.toList++ds) Q)) (ek P all tail rest (k+1) (s.put oo.dst (.v Go.undef) s.o) ms (oo.dst.toList++ds) Q)
structure Uk (l:List Oper) (s:AS) (a:Act) (k:Nat) (sk:AS) (rs:List (AV×Option sW)) (A:(Nat->Value)->Act) (ms:List sW) (ds:List Tmp):Prop extends De l s a k sk (rs.map Prod.fst) A where
 row: ∀m,m∈ms->m.k<k∧rs[m.k]? = some (.undef,some m)∧(∃oi,l[m.k]? = some oi∧oi.dst=some m.d)∧ ∀x,(A x).tmps[m.d]? = some (x m.k)
 Ty:(ms.map sW.k).Nodup
 UK: ∀(i:Nat) r m,rs[i]? = some (r,some m)->r = .undef
 dst: ∀(i:Nat) (oi:Oper) d r,i<k->l[i]? = some oi->oi.dst=some d->rs[i]? = some (r,none)->d∈ds
def l9:List (Option aa)->List AV->Option (Prop×List AV×List (Option aa))
 | o,[]=>some (True,[],o)
 | o, .vec id len :: l=>match o[id]? with
  | some (some ob)=>match l9 (o.set id none) l with
   | some (p,m,o')=>some ((ob.du=true∧ob.rows.length=len∧bZ 0 ob.rows=true)∧p, .aH ob.z ob.rows len :: m,o')
   | none=>none
  | _=>none
 | o,a :: l=>match l9 o l with
  | some (p,m,o')=>some (a.wf 0=true∧p,a :: m,o')
  | none=>none
theorem lH: ∀(args:List AV) {o:List (Option aa)} {p:Prop} {args':List AV} {o':List (Option aa)},l9 o args=some (p,args',o')->p->RO D nu o w->bt nu o w nu o' w∧RO D nu o' w∧args.length=args'.length ∧
  ∀(i:Nat) a b x,args[i]? = some a->args'[i]? = some b->RA D nu o w a x->RA D nu o' w b x
 | [],o,p,args',o',he,hp,h=>by
  simp only [l9,Ve,Vf] at he;obtain ⟨rfl,rfl,rfl⟩:=he;exact ⟨.refl _ _ _,h,rfl,fun i a b x h=>by simp at h⟩
 | a :: l,o,p,args',o',he,hp,h=>by
  have plain:(match l9 o l with
   | some (p,m,o')=>some (a.wf 0=true∧p,a :: m,o')
   | none=>none)=some (p,args',o')->bt nu o w nu o' w∧RO D nu o' w∧(a :: l).length=args'.length∧ ∀(i:Nat) c b x,(a :: l)[i]? = some c->args'[i]? = some b->RA D nu o w c x->RA D nu o' w b x:=fun he=>by
   cases hg:l9 o l with
   | none=>rw [hg] at he;cases he
   | some y=>
    obtain ⟨q,m,o2⟩:=y;rw [hg] at he;simp only [Ve,Vf] at he;obtain ⟨rfl,rfl,rfl⟩:=he;obtain ⟨k1,k2,k3,k4⟩:=lH l hg hp.2 h;refine ⟨k1,k2,by simp [k3],fun i c b x q1 q2 hr=> ?_⟩
    cases i with
    | zero=>simp at q1 q2;subst q1;subst q2;exact hr.mono k1 (fun _ _ h=>h)
    | succ i=>exact k4 i c b x (by simpa using q1) (by simpa using q2) hr
  cases a with
  | vec id len=>
   simp only [l9] at he
   split at he
   ·rename_i ob ho
    cases hg:l9 (o.set id none) l with
    | none=>rw [hg] at he;cases he
    | some y=>
     obtain ⟨q,m,o2⟩:=y;rw [hg] at he;simp only [Ve,Vf] at he;obtain ⟨rfl,rfl,rfl⟩:=he;obtain ⟨⟨hv,rfl,hw⟩,hq⟩:=hp;have hm:=cH (nu:=nu) (o:=o) (w:=w) id;obtain ⟨k1,k2,k3,k4⟩:=lH l hg hq (iN h id);refine ⟨hm.trans k1,k2,by simp [k3],fun i c b x q1 q2 hr=> ?_⟩
     cases i with
     | zero=>
      simp at q1 q2;subst q1;subst q2;cases hr;exact (kf h ho hv).mono k1 (fun _ _ h=>h)
     | succ i=>exact k4 i c b x (by simpa using q1) (by simpa using q2) (hr.mono hm (fun _ _ h=>h))
   ·cases he
  | _=>exact plain he
theorem ab.D6 {f:FuncId} {args args':List AV} {o':List (Option aa)} {r:AV} {p:Prop} {K:AV->List (Option aa)->Prop} (h:ah P f args' r) (hz:l9 o args=some (p,args',o')) (hp:p) (k:K r o'):ab P f args o K:=by
 refine .inr (.inr ⟨h.2.1,fun D nu w vargs hro hra=> ?_⟩);obtain ⟨k1,k2,k3,k4⟩:=lH args hz hp hro
 refine (jK h k2 ⟨by rw [<-k3];exact hra.len,fun i c x q1 q2=> ?_⟩).mono ?_
 ·have hi:i<args.length:=by rw [k3];exact (U4.1 q1).1
  exact k4 i _ c x (Vi hi) q1 (hra.at' i _ x (Vi hi) q2)
 ·rintro e w' ⟨v,rfl,hb,hr⟩;exact ⟨v,nu,o',r,rfl,k1.trans (aw hb),k2.below hb,hr,k⟩
theorem pt {s:AS} (i id:Nat) {len:Nat} {ob:aa} (hi:s.t[i]? = some (.vec id len)) (ho:s.o[id]? = some (some ob)) (hv:ob.du=true) (hl:ob.rows.length=len):w8 s (AS.mk (s.t.set i (.aH ob.z ob.rows len)) (s.o.set id none) s.y):=by
 intro f D nu a w hs;have hm:=cH (nu:=nu) (o:=s.o) (w:=w) id;refine ⟨nu,hm,rfl,iN hs.ro id,⟨by simpa using hs.tm.len,fun j c x h1 h2=> ?_⟩,hs.iB⟩
 by_cases hij:i=j
 ·subst hij;rw [Vq (U4.1 hi).1] at h1;cases h1;have hr:=hs.tm.at' i _ x hi h2;subst hl;cases hr;exact kf hs.ro ho hv
 ·rw [Vp hij] at h1;exact (hs.tm.at' j c x h1 h2).mono hm (fun _ _ h=>h)
theorem bL {n0 i:Nat} {ops:Array Oper} {d:Bool} {s:AS} {Q:aR->AS->Prop} (h:bS P n0 (.region i ops d) s Q):bS P n0 (.region i ops d) s Q:=h
theorem Ds {all tail rest:List Oper} {d:Tmp} {T ty:TypeId} {pos:String} {aft:Array Edge} {k:Nat} {s:AS} {ms:List sW} {ds:List Tmp} {Q:AS->Prop} (h:Jc none (some d) s.t.length (Jn P T) (fun d e z l zc=>ek P all tail rest (k+1) (s.put (some d) .undef s.o) (ms++[⟨d,k,e,z,l,zc,true⟩]) ds Q)):ek P all tail (⟨some d, .alloc T,ty,pos,aft,none⟩ :: rest) k s ms ds Q:=h
theorem Dt {all tail rest:List Oper} {d:Tmp} {T ty:TypeId} {n c:Operand} {pos:String} {aft:Array Edge} {k:Nat} {s:AS} {ms:List sW} {ds:List Tmp} {Q:AS->Prop} (h:Jc none (some d) s.t.length (Jq P T (s.ev n) (s.ev c)) (fun d e z l zc=>ek P all tail rest (k+1) (s.put (some d) .undef s.o) (ms++[⟨d,k,e,z,l,zc,false⟩]) ds Q)):ek P all tail (⟨some d, .makeSlice T n c,ty,pos,aft,none⟩ :: rest) k s ms ds Q:=h
theorem zM {all tail:List Oper} {k:Nat} {s:AS} {ms:List sW} {ds:List Tmp} {Q:AS->Prop} (h:eU P all tail (vQ ⟨F9 ds s.t,s.o,s.y⟩ ms) Q):ek P all tail [] k s ms ds Q:=h
instance {all tail:List Oper} {k:Nat} {s:AS} {ms:List sW} {ds:List Tmp} {Q:AS->Prop}:ag (ek P all tail [] k s ms ds Q) (eU P all tail (vQ ⟨F9 ds s.t,s.o,s.y⟩ ms) Q):=⟨zM⟩
instance {all tail rest:List Oper} {d:Tmp} {T ty:TypeId} {n c:Operand} {pos:String} {aft:Array Edge} {k:Nat} {s:AS} {ms:List sW} {ds:List Tmp} {Q:AS->Prop}:ag (ek P all tail (⟨some d, .makeSlice T n c,ty,pos,aft,none⟩ :: rest) k s ms ds Q)
 (Jc none (some d) s.t.length (Jq P T (s.ev n) (s.ev c)) (fun d e z l zc=>ek P all tail rest (k+1) (s.put (some d) .undef s.o) (ms++[⟨d,k,e,z,l,zc,false⟩]) ds Q)):=⟨Dt⟩
instance {all tail rest:List Oper} {d:Tmp} {T ty:TypeId} {pos:String} {aft:Array Edge} {k:Nat} {s:AS} {ms:List sW} {ds:List Tmp} {Q:AS->Prop}:ag (ek P all tail (⟨some d, .alloc T,ty,pos,aft,none⟩ :: rest) k s ms ds Q)
 (Jc none (some d) s.t.length (Jn P T) (fun d e z l zc=>ek P all tail rest (k+1) (s.put (some d) .undef s.o) (ms++[⟨d,k,e,z,l,zc,true⟩]) ds Q)):=⟨Ds⟩
end
attribute [go_sem] Fq Jn sW.av Jq vQ R7 F9 AV.ON AV.flat sW.ob Option.toList_some Option.toList_none
end
section
section
variable {D:Nat->Prop} {nu:Nat->Nat->Value} {o:List (Option aa)} {w:World} {P:Program}
def cB (o:List (Option aa)) (a r:AV):Prop:= ∀(D:Nat->Prop) (nu:Nat->Nat->Value) (w:World) (x:Value),RO D nu o w->RA D nu o w a x->RA D nu [] w r x
def sU (o:List (Option aa)):List AV->List AV->Prop
 | [],[]=>True
 | a :: l,b :: m=>cB o a b∧sU o l m
 | _,_=>False
theorem cB.of {a r:AV} (n:Nat) {p:Prop} (hz:fK o n a=some (p,r)) (hp:p):cB o a r:=fun _ _ _ x hro hra=>(jj hro n).1 a x p r hz hp hra
theorem sU.at': ∀ {l m:List AV},sU o l m->l.length=m.length∧ ∀(i:Nat) a b,l[i]? = some a->m[i]? = some b->cB o a b
 | [],[],_=>⟨rfl,fun i a b h=>by simp at h⟩
 | a :: l,b :: m,h=>by
  obtain ⟨h1,h2⟩:=sU.at' h.2;refine ⟨by simp [h1],fun i x y k1 k2=> ?_⟩
  cases i with
  | zero=>simp at k1 k2;subst k1;subst k2;exact h.1
  | succ i=>exact h2 i x y (by simpa using k1) (by simpa using k2)
theorem sU.UG {l m:List AV} (h:sU o l m) (hro:RO D nu o w) {xs:Array Value} (hr:fE D nu o w l xs):fE D nu [] w m xs:=by
 obtain ⟨h1,h2⟩:=h.at';refine ⟨by rw [<-h1];exact hr.len,fun i c x q1 q2=> ?_⟩
 have hi:i<l.length:=by rw [h1];exact (U4.1 q1).1
 exact h2 i _ c (Vi hi) q1 D nu w x hro (hr.at' i _ x (Vi hi) q2)
def Tr (P:Program) (f:FuncId) (args:List AV) (r:AV):Prop:=(bp 0 args=true∧r.wf 0=true)∧df P f=true∧ ∀D nu w vargs,RO D nu [] w->fE D nu [] w args vargs->Calls P f vargs w (fun e w'=> ∃v,e = .returned v∧Below w.heap.size w w'∧RA (fun b=>w.heap.size<=b) nu [] w' r v)
def Ub (o:List (Option aa)) (r0 r:AV):Prop:= ∀(D:Nat->Prop) (nu:Nat->Nat->Value) (w:World) (x:Value),RO D nu o w->RA D nu o w r0 x->RA (owned nu o) nu [] w r x
open Go.Sort in
theorem si {α:Type} [Inhabited α] {enc:α->Value} {n blk:Nat} {d:Array α} {os:Array Obj} (hlt:blk<w.heap.size):(∀b,b<w.heap.size->b≠blk->(grow (putRow enc (Go.Sort.ahead w n) blk 0 d) os).heap[b]? = w.heap[b]?) ∧
  ∀cs T fr,w.heap[blk]? = some (.cells cs T fr)->(grow (putRow enc (Go.Sort.ahead w n) blk 0 d) os).heap[blk]? = some (.cells (putCells enc 0 d cs) T fr):=by
 refine ⟨fun b hb hne=> ?_,fun cs T fr h=> ?_⟩
 ·rw [heap_grow_old _ _ (by simpa using hb)];simp only [putRow,mapBlock,WQ,VY,if_neg (Ne.symm hne)]
 ·rw [heap_grow_old _ _ (by simpa using hlt)];simp only [putRow,mapBlock,WQ,VY,if_true,h,Option.map_some,onCells]
def aO {α:Type} (enc:α->Value) (l:List α):List (List AV):=l.map (fun a=>[.v (enc a)])
open Go.Sort in
theorem tV {α:Type} [Inhabited α] {enc:α->Value} {id:Nat} {ob:aa} {g:Nat} {cur:Array Value} {d:List α} (h:sO D nu o w id ob g cur) (hz:ob.z=1) (hr:ob.rows=aO enc d):Holds enc w g 0 d.toArray:=fun j hj=>by
 have hj':j<d.length:=by simpa using hj
 have h1:ob.rows[j]? = some [.v (enc d[j])]:=by rw [hr];simp [aO,hj']
 have h2:=h.nt h1 (j:=0) (by simp);rw [hz] at h2;have h3:=h.cell j 0 _ _ _ h1 rfl (by rw [hz];exact Vh h2)
 refine ⟨?_, ?_⟩
 ·have e:w.cell? ⟨g,0+j,none⟩=cur[0+j]? :=by simp [World.cell?,h.blk]
  rw [e,show 0+j=j * 1+0 by omega,Vh h2,h3.b5];simp [hj']
 ·simp [World.frozen?,h.blk]
open Go.Sort in
theorem Ih {α:Type} [Inhabited α] {enc:α->Value} (hone: ∀a,(enc a).oneCell'=true) (h:RO D nu o w) {id:Nat} {ob:aa} (ho:o[id]? = some (some ob)) (hv:ob.du=true) (hz:ob.z=1) {d:List α} (hr:ob.rows=aO enc d) {blk cap:Nat} (hnu:nu id ob.rows.length = .slice (some ⟨blk,0,none⟩) d.length cap)
  {n:Nat} {d':Array α} (hd:d'.size=d.length) {os:Array Obj} {k:Nat} (hk:k<=d.length) :
  bt nu o w (cN nu o.length (.slice (some ⟨blk,0,none⟩) k cap)) (o.set id none++[some ⟨ob.T,1,true,aO enc (d'.toList.take k)⟩]) (grow (putRow enc (Go.Sort.ahead w n) blk 0 d') os) ∧
   RO D (cN nu o.length (.slice (some ⟨blk,0,none⟩) k cap)) (o.set id none++[some ⟨ob.T,1,true,aO enc (d'.toList.take k)⟩]) (grow (putRow enc (Go.Sort.ahead w n) blk 0 d') os):=by
 have hlen:ob.rows.length=d.length:=by rw [hr];simp [aO]
 obtain ⟨cur,hb⟩: ∃cur,sO D nu o w id ob blk cur:=by
  rcases h.obj id ob ho with ⟨e1,e2,e3⟩|⟨g,cur,hb⟩|⟨g,es,cl,hm⟩
  ·rw [e2] at hnu;rw [List.length_nil,e3] at hnu;cases hnu
  ·obtain ⟨cap',h1,_⟩:=hb.vec hv;rw [h1] at hnu;simp only [Value.slice.injEq,Option.some.injEq,Addr.mk.injEq] at hnu;obtain ⟨⟨rfl,_⟩,_⟩:=hnu;exact ⟨cur,hb⟩
  ·have:=hm.du;rw [hv] at this;cases this
 have hlt:blk<w.heap.size:=(U2.1 hb.blk).1;obtain ⟨hsame,hblk⟩:=si (w:=w) (enc:=enc) (n:=n) (d:=d') (os:=os) hlt;have hblk:=hblk _ _ _ hb.blk;generalize hw':grow (putRow enc (Go.Sort.ahead w n) blk 0 d') os=w' at hsame hblk ⊢
 have hsz:w.heap.size<=w'.heap.size:=by rw [<-hw'];simp
 have hidl:=(U4.1 ho).1
 have hl:(o.set id none).length=o.length:=by simp
 have hold: ∀id',id'<o.length->(o.set id none++[some (⟨ob.T,1,true,aO enc (d'.toList.take k)⟩:aa)])[id']? = (o.set id none)[id']? :=fun id' h=>List.getElem?_append_left (by rw [hl];exact h)
 have hnew:(o.set id none++[some (⟨ob.T,1,true,aO enc (d'.toList.take k)⟩:aa)])[o.length]? = some (some ⟨ob.T,1,true,aO enc (d'.toList.take k)⟩):=by rw [<-hl,List.getElem?_concat_length]
 obtain ⟨cap',hc1,hc2,hc3,hc4⟩:=hb.vec hv
 have ecap:cap'=cap:=by
  rw [hc1] at hnu;simp only [Value.slice.injEq] at hnu;exact hnu.2.2
 subst ecap;have hbk:b9 (nu id ob.hl)=some blk:=hb.bg
 have hkl:(aO enc (d'.toList.take k)).length=k:=by simp [aO];omega
 have hm:bt nu o w (cN nu o.length (.slice (some ⟨blk,0,none⟩) k cap')) (o.set id none++[some ⟨ob.T,1,true,aO enc (d'.toList.take k)⟩]) w':=by
  refine ⟨by rw [<-hw'];rfl,by rw [<-hw'];rfl,by rw [<-hw'];rfl,hsz,fun id' len hh=> ?_,fun b hbl hno=> ?_⟩
  ·have hlt':=gd hh;obtain ⟨x,h1,h2⟩:=hh;refine ⟨?_,ba hlt'⟩
   by_cases he:id=id'
   ·subst he;exact ⟨none,by rw [hold _ hlt',List.getElem?_set_self hidl],fun _ e=>by cases e⟩
   ·exact ⟨x,by rw [hold _ hlt',List.getElem?_set_ne he];exact h1,h2⟩
  ·have hne:b≠blk:=fun e=>hno ⟨id,ob,ho,by rw [e];exact hbk⟩;refine ⟨hsame b hbl hne,fun ⟨id',ob',h1,h2⟩=> ?_⟩
   rcases U6 id' o.length with q|q
   ·rw [hold _ q] at h1;rw [ba q] at h2;exact hno ⟨id',ob',(cK h1).1,h2⟩
   ·obtain rfl:id'=o.length:=by
     have:=(U4.1 h1).1
     simp at this;omega
    rw [aQ] at h2;cases h2;exact hne rfl
 refine ⟨hm,fun id' ob' h1=> ?_,fun b hbl=>h.up b (Nat.le_trans hsz hbl),fun i1 i2 b1 b2 b k1 k2 hne k3 k4=> ?_,h.gl.mono hm (fun _ _ h=>h)⟩
 ·rcases U6 id' o.length with q|q
  ·rw [hold _ q] at h1;obtain ⟨h2,h3⟩:=cK h1;have hne: ∀g,b9 (nu id' ob'.hl)=some g->g≠blk:=fun g e e'=>h.sep id id' ob ob' blk ho h2 h3 hbk (by rw [<-e'];exact e)
   rcases h.obj id' ob' h2 with ⟨e1,e2,e3⟩|⟨g,c,hr'⟩|⟨g,es,cl,hmp⟩
   ·exact .inl ⟨e1,e2,by rw [ba q];exact e3⟩
   ·have hg:=(hsame g (h.a6 ⟨id',ob',h2,hr'.bg⟩) (hne g hr'.bg)).trans hr'.blk;exact .inr (.inl ⟨g,c,hg,hr'.ko,fun e=>by rw [ba q];exact hr'.box e,fun e=>by rw [ba q];exact hr'.vec e,hr'.z,hr'.row,fun i j row cc x q1 q2 q3=>(hr'.cell i j row cc x q1 q2 q3).mono hm (fun _ _ h=>h),hr'.one⟩)
   ·exact .inr (.inr ⟨g,es,cl,hmp.tr (hsame g (h.a6 ⟨id',ob',h2,hmp.bg⟩) (hne g hmp.bg)) (fun h=>h) (ba q) (fun i j row c x _ _ hr=>hr.mono hm (fun _ _ h=>h))⟩)
  ·obtain rfl:id'=o.length:=by
    have:=(U4.1 h1).1
    simp at this;omega
   rw [hnew] at h1;cases h1
   have row: ∀(i:Nat) r,(aO enc (d'.toList.take k))[i]? = some r-> ∃hi:i<d'.size,i<k∧r=[.v (enc d'[i])]:=fun i r hi=>by
    have hik:=(U4.1 hi).1;rw [hkl] at hik;refine ⟨by omega,hik, ?_⟩;simp only [aO,List.getElem?_map,List.getElem?_take,if_pos hik] at hi
    have hid:i<d'.size:=by omega
    rw [show d'.toList[i]? = some d'[i] by simp [hid]] at hi;simpa using hi.symm
   have cell: ∀(i j:Nat) r c x,(aO enc (d'.toList.take k))[i]? = some r->r[j]? = some c->(putCells enc 0 d' cur)[i * 1+j]? = some x->c = .v x∧x.oneCell'=true:=fun i j r c x q1 q2 q3=>by
    obtain ⟨hi,hik,rfl⟩:=row i r q1
    cases j with
    | succ j=>simp at q2
    | zero=>
     simp at q2;subst q2;simp only [putCells,Array.getElem?_mapIdx,Nat.mul_one,Nat.add_zero,Nat.zero_le,true_and,Nat.zero_add,Nat.sub_zero] at q3
     have hic:i<cur.size:=by rw [hc4,hz];omega
     rw [Vh hic,Option.map_some,if_pos hi] at q3;cases q3;exact ⟨by rw [getElem!_pos d' i hi],hone _⟩
   refine .inr (.inl ⟨blk,putCells enc 0 d' cur,hblk,hb.ko,fun e=>(by cases e),fun _=>⟨cap',by rw [aQ,hkl],by rw [hkl];omega,hc3,by simp only [putCells,Array.size_mapIdx];rw [hc4,hz]⟩,Nat.one_pos,fun i r hi=> ?_,fun i j r c x q1 q2 q3=> ?_,fun i j r c x q1 q2 q3=> ?_⟩)
   ·obtain ⟨_,_,rfl⟩:=row i r hi;rfl
   ·rw [(cell i j r c x q1 q2 q3).1];exact .v x
   ·exact (cell i j r c x q1 q2 q3).2
 ·have side: ∀i1 i2 b1 b2,(o.set id none++[some (⟨ob.T,1,true,aO enc (d'.toList.take k)⟩:aa)])[i1]? = some (some b1)->(o.set id none++[some (⟨ob.T,1,true,aO enc (d'.toList.take k)⟩:aa)])[i2]? = some (some b2)->i1<o.length->o.length<=i2->b9 (cN nu o.length (.slice (some ⟨blk,0,none⟩) k cap') i1 b1.hl)=some b->b9 (cN nu o.length (.slice (some ⟨blk,0,none⟩) k cap') i2 b2.hl)=some b->False:=fun i1 i2 b1 b2 k1 k2 l1 l2 k3 k4=>by
   obtain rfl:i2=o.length:=by
    have:=(U4.1 k2).1
    simp at this;omega
   rw [aQ] at k4;cases k4;rw [hold _ l1] at k1;obtain ⟨h2,h3⟩:=cK k1;rw [ba l1] at k3;exact h.sep id i1 ob b1 _ ho h2 h3 hbk k3
  rcases U6 i1 o.length with l1|l1
  ·rcases U6 i2 o.length with l2|l2
   ·rw [hold _ l1] at k1;rw [hold _ l2] at k2;rw [ba l1] at k3;rw [ba l2] at k4;exact h.sep i1 i2 b1 b2 b (cK k1).1 (cK k2).1 hne k3 k4
   ·exact side i1 i2 b1 b2 k1 k2 l1 l2 k3 k4
  ·rcases U6 i2 o.length with l2|l2
   ·exact side i2 i1 b2 b1 k2 k1 l2 l1 k4 k3
   ·have e1:=(U4.1 k1).1;have e2:=(U4.1 k2).1;simp at e1 e2;omega
theorem aK.row {α:Type} [Inhabited α] {enc:α->Value} (hone: ∀a,(enc a).oneCell'=true) {f:FuncId} {args:List AV} {T:TypeId} {d:List α} {o1:List (Option aa)} {d':List α} {k:Nat} (hd:d'.length=d.length) (hk:k<=d.length) (hc:df P f=true)
  (hcall: ∀D nu w vargs cap blk,RO D nu (some ⟨T,1,true,aO enc d⟩ :: o1) w->fE D nu (some ⟨T,1,true,aO enc d⟩ :: o1) w args vargs->Go.Sort.Holds enc w blk 0 d.toArray->blk<w.heap.size->nu 0 d.length = .slice (some ⟨blk,0,none⟩) d.length cap->d.length<=cap->cap<=maxLen->Calls P f (#[.slice (some ⟨blk,0,none⟩) d.length cap]++vargs) w (fun e w'=>e = .returned (.slice (some ⟨blk,0,none⟩) k cap)∧ ∃n os,w'=Go.Sort.grow (Go.Sort.putRow enc (Go.Sort.ahead w n) blk 0 d'.toArray) os))
  (hnil:d=[]-> ∀D nu w vargs,RO D nu (some ⟨T,1,true,aO enc d⟩ :: o1) w->fE D nu (some ⟨T,1,true,aO enc d⟩ :: o1) w args vargs->Calls P f (#[.slice none 0 0]++vargs) w (fun e w'=>e = .returned (.slice none 0 0)∧Below w.heap.size w w')) :
  aK P f (.vec 0 d.length :: args) (some ⟨T,1,true,aO enc d⟩ :: o1) (.vec (o1.length+1) k) (none :: o1++[some ⟨T,1,true,aO enc (d'.take k)⟩]):=by
 refine ⟨hc,fun D nu w vargs hro hra=> ?_⟩
 have hlen:(aO enc d).length=d.length:=by simp [aO]
 obtain ⟨vl⟩:=vargs
 cases vl with
 | nil=>have:=hra.len;simp at this
 | cons x l=>
 have hx:=hra.at' 0 _ x rfl (by simp);have hxs:fE D nu (some ⟨T,1,true,aO enc d⟩ :: o1) w args l.toArray:=⟨by have:=hra.len;simp at this;simpa using this,fun i c y h1 h2=>hra.at' (i+1) c y (by simpa using h1) (by simpa using h2)⟩
 have ev:(⟨x :: l⟩:Array Value) = #[x]++l.toArray:=by simp
 have hxq:x=nu 0 d.length:=by
  cases hx with
  | vec=>rfl
 have hob:(some ⟨T,1,true,aO enc d⟩ :: o1)[0]? = some (some (⟨T,1,true,aO enc d⟩:aa)):=rfl;rw [ev,hxq]
 rcases hro.obj 0 _ hob with ⟨_,e2,e3⟩|⟨g,cur,hb⟩|⟨g,es,cl,hm⟩
 ·have hdn:d=[]:=by simpa [aO] using e2
  have hk0:k=0:=by rw [hdn] at hk;simpa using hk
  have hn:=hnil hdn D nu w l.toArray hro hxs;subst hk0
  have e4:nu 0 d.length = .slice none 0 0:=by rw [hdn];exact e3
  rw [e4];refine hn.mono ?_;rintro e w' ⟨rfl,hbl⟩;have hkm:=cH (nu:=nu) (o:=some ⟨T,1,true,aO enc d⟩ :: o1) (w:=w) 0;have hkr:=(iN hro 0);simp only [List.set_cons_zero] at hkm hkr
  have hv: ∀b,b9 (Value.slice none 0 0)=some b->w.heap.size<=b:=fun b e=>by cases e
  have hpm:=dv (nu:=nu) (o:=none :: o1) (ob:=⟨T,1,true,[]⟩) hbl hv;have hpr:=gP (ob:=⟨T,1,true,[]⟩) hkr hbl hv (.inl ⟨rfl,rfl,rfl⟩);simp only [List.length_cons] at hpm hpr;refine ⟨_,_,_,_,rfl,hkm.trans hpm,hpr, ?_,rfl,by simp [aO]⟩
  have:=RA.vec (D:=D) (nu:=cN nu (o1.length+1) (.slice none 0 0)) (o:=(none :: o1++[some (⟨T,1,true,[]⟩:aa)])) (w:=w') (o1.length+1) 0 ⟨some ⟨T,1,true,[]⟩,by simp,fun _ _=>Nat.zero_le _⟩ (by rw [aQ];rfl)
  rw [aQ] at this;exact this
 ·obtain ⟨cap,h1,h2,h3,h4⟩:=hb.vec rfl;have hlen':(aa.mk T 1 true (aO enc d)).rows.length=d.length:=hlen;rw [hlen'] at h1 h2;have hlt:g<w.heap.size:=(U2.1 hb.blk).1;rw [show nu 0 d.length=_ from h1];refine (hcall D nu w l.toArray cap g hro hxs (tV hb rfl rfl) hlt h1 h2 h3).mono ?_;rintro e w' ⟨rfl,n,os,rfl⟩;obtain ⟨hm,hr⟩:=Ih (enc:=enc) hone hro hob rfl rfl (d:=d) rfl (blk:=g) (cap:=cap) (by rw [hlen'];exact h1) (n:=n) (d':=d'.toArray) (by simpa using hd) (os:=os) hk;simp only [List.set_cons_zero,List.length_cons] at hm hr;refine ⟨_,_,_,_,rfl,hm,hr, ?_,rfl,rfl⟩
  have:=RA.vec (D:=D) (nu:=cN nu (o1.length+1) (.slice (some ⟨g,0,none⟩) k cap)) (o:=(none :: o1++[some (⟨T,1,true,aO enc (d'.take k)⟩:aa)])) (w:=Go.Sort.grow (Go.Sort.putRow enc (Go.Sort.ahead w n) g 0 d'.toArray) os) (o1.length+1) k ⟨some ⟨T,1,true,aO enc (d'.take k)⟩,by simp,fun x hx=>by cases hx;simp [aa.hl,aO];omega⟩ (by rw [aQ];rfl)
  rw [aQ] at this;exact this
 ·have:=hm.du;cases this
def w6 (f:Nat->Nat) (n:Nat):List AV->List AV->Prop
 | [],[]=>True
 | a :: l,c :: m=>(c = .undef∨(a=c.aV f∧c.wf n=true))∧w6 f n l m
 | _,_=>False
theorem w7 {f:Nat->Nat} {n:Nat}: ∀ {l m:List AV},w6 f n l m->l.length=m.length∧ ∀(i:Nat) c,m[i]? = some c->c = .undef∨(l[i]? = some (c.aV f)∧c.wf n=true)
 | [],[],_=>⟨rfl,fun i c h=>by simp at h⟩
 | a :: l,b :: m,h=>by
  obtain ⟨h1,h2⟩:=w7 h.2;refine ⟨by simp [h1],fun i c hc=> ?_⟩
  cases i with
  | zero=>
   simp at hc;subst hc;rcases h.1 with e|⟨e,g⟩
   ·exact .inl e
   ·exact .inr ⟨by simp [e],g⟩
  | succ i=>simpa using h2 i c (by simpa using hc)
theorem xl {s:AS} {c:Code} {Q:aR->AS->Prop} (ids:List Nat) (t0:List AV) (o0:List (Option aa)) (hnd:ids.Nodup) (ho:ids.map (fun i=>s.o[i]?)=o0.map (fun x=>some (x.map (aa.aV (sig ids s.o.length)))))
  (hwo: ∀(k:Nat) ob,o0[k]? = some (some ob)->bZ ids.length ob.rows=true) (ht:w6 (sig ids s.o.length) ids.length s.t t0) (hok:bq c=true) (h:bS P 0 c ⟨t0,o0,s.y⟩ Q):zw P 0 c s Q:=fun f m D nu a w hZr hn hm hs hmx R hO hR=>by
 obtain ⟨ro0,own0,fz0,hdr0,_⟩:=rz ids hs.ro hnd ho hwo
 have hlen:o0.length=ids.length:=by have:=congrArg List.length ho;simpa using this.symm
 generalize sig ids s.o.length=σ at *;have hD: ∀b,(D b∧ ¬(b<w.heap.size∧ ∃id ob,id∉ids∧s.o[id]? = some (some ob)∧b9 (nu id ob.hl)=some b))->D b:=fun b h=>h.1;have ro1:=ro0.wider hD;obtain ⟨t1,t2⟩:=w7 ht
 have hs0:RS f D (fun k len=>nu (σ k) len) ⟨t0,o0,s.y⟩ a w:=⟨ro1,⟨by rw [<-t1];exact hs.tm.len,fun i c x h1 h2=>by
  rcases t2 i c h1 with rfl|⟨e,g⟩
  ·exact .undef x
  ·exact ((hs.tm.at' i _ x e h2).y9 (f:=σ) (n:=ids.length) fz0 hdr0 c g rfl).wider hD⟩,hs.iB⟩
 refine fl hmx m hZr hn c hok _ a w D _ f.Z Q R hO ?_ hs0 h hR
 
 have hoz: ∀b,owned nu s.o b-> ¬f.Z b:=fun b hb hz=>((m.mV hm).1 b hz).2 (hs.ro.jO hb)
 have m1:=m.step (D':=fun b=>D b∧ ¬owned nu s.o b) (nu':=nu) (o':=[]) (Z':=fun b=>f.Z b∨owned nu s.o b) (w':=w) hm hs.ro
  ⟨rfl,rfl,rfl,Nat.le_refl _,fun id len hlt _=>by simp at hlt,fun b _ _ _=>⟨rfl,bd _ _⟩⟩
  (.nil _ _ _ (fun b hb=>⟨hs.ro.up b hb,fun ho=>by have:=hs.ro.a6 ho;omega⟩) (hs.ro.gl.keep fun b _ hno hd=>⟨rfl,bd _ _,hd,hno⟩))
  (fun c v hr hc=>hr.tr (n:=0) (fun b hf=>⟨hf.1,bd _ _,hf.2.2,hf.2.1⟩) (fun id len hlt=>by omega) hc)
  (fun b hb=> .inl hb.1) (fun b hb=>by by_cases ho:owned nu s.o b;exact .inr (.inr ho);exact .inl ⟨hb,ho⟩)
  (fun b hb=>by
   rcases hb with hz|ho
   ·exact ⟨((m.mV hm).1 b hz).1,fun hd=>((m.mV hm).1 b hz).2 hd.1, .inl hz⟩
   ·exact ⟨hs.ro.a6 ho,fun hd=>hd.2 ho, .inr (.inl ho)⟩) (by simpa using hn)
 exact m.step m1 (.nil _ _ _ (fun b hb=>⟨hs.ro.up b hb,fun ho=>by have:=hs.ro.a6 ho;omega⟩) (hs.ro.gl.keep fun b _ hno hd=>⟨rfl,bd _ _,hd,hno⟩))
  ⟨rfl,rfl,rfl,Nat.le_refl _,fun id len _ hh=>by obtain ⟨x,h1,_⟩:=hh;simp at h1,fun b _ _ hz=>⟨rfl,fun ho=>hz (.inr (own0 b ho))⟩⟩ ro1
  (fun c v hr hc=>hr.tr (n:=o0.length) (fun b hf=>⟨hf.1,fun ho=>hf.2.2.2 (own0 b ho),hf.2.2.1⟩) (fun id len hlt hh=>by obtain ⟨x,h1,_⟩:=hh;simp at h1) hc)
  (fun b hb=>by by_cases ho:owned nu s.o b;exact .inr (.inr ho);exact .inl ⟨hb,ho⟩) (fun b hb=> .inl hb.1)
  (fun b hz=>⟨((m.mV hm).1 b hz).1,((m.mV hm).1 b hz).2, .inl (.inl hz)⟩) (Nat.le_trans hn (Nat.zero_le _))
theorem BV {id:Nat} {t:List AV} {o:List (Option aa)} {y:iW} {ops:Array Oper} {d:Bool} {Q:aR->AS->Prop} (ids:List Nat) (t0:List AV) (o0:List (Option aa)) (hnd:ids.Nodup) (ho:ids.map (fun i=>o[i]?)=o0.map (fun x=>some (x.map (aa.aV (sig ids o.length)))))
  (hwo: ∀(k:Nat) ob,o0[k]? = some (some ob)->bZ ids.length ob.rows=true) (ht:w6 (sig ids o.length) ids.length t t0) (hok:dy ops=true) (h:bS P 0 (.region id ops d) ⟨t0,o0,y⟩ Q):bS P 0 (.region id ops d) ⟨t,o,y⟩ Q:=by
 have:=xl (P:=P) (s:=⟨t,o,y⟩) (c:= .region id ops d) ids t0 o0 hnd ho hwo ht hok h
 cases d
 ·exact .inr this
 ·exact .inr this
end
end
section
def UD (q:Di) (i:Nat):List (List AV):=((q.conds.drop i).flatMap (fun c=>[c.left,c.right])++q.ret).map (fun o=>[.agg (J5 o)])
def Pa (l:List (ByteArray×Int)):List (List AV):=l.map (fun p=>[.v (.string p.1), .v (.int .i64 p.2)])
@[go_sem] theorem Qx (n:Nat) (l:List (ByteArray×Int)):bZ n (Pa l)=true:=aZ _ (fun _=>rfl) l
def UW:Option (List ByteArray)->AV
 | none=> .cy [.v (.map none), .v (.bool false)]
 | some _=> .cy [.vec 1 0, .v (.bool true)]
section
variable {P:Program}
theorem aK.TT {f:FuncId} {args:List AV} {r r':AV} {o':List (Option aa)} (h:aK P f args [] r o') (n:Nat) {p:Prop} (hz:fK o' n r=some (p,r')) (hp:p) (hw:bp 0 args=true) (hw':r'.wf 0=true):ah P f args r':=by
 refine ⟨⟨hw,hw'⟩,h.1,fun D nu w vargs hro hra=>(h.2 D nu w vargs hro hra).mono ?_⟩;rintro e w' ⟨v,nu',o'',r'',rfl,hm,hro',hx,rfl,rfl⟩;exact ⟨v,nu',[],r',rfl,⟨hm.os,hm.tape,hm.output,hm.size,fun id len hh=>by obtain ⟨ob,h1,_⟩:=hh;simp at h1,fun b hb hno=>⟨(hm.keep b hb (bd _ _)).1,bd _ _⟩⟩,(.nil _ _ _ hro'.up (hro'.gl.nil (fun _ _ h=>h))),(jj hro' n).1 _ _ _ _ hz hp hx,rfl,rfl⟩
end
def aj (l:List Nat):List (List AV):=l.map (fun k:Nat=>[.v (.int .i64 (k:Int))])
attribute [go_sem] Value.oneCell'
def QJ (i:Nat):AV:= .v (.int .i64 ((8000024+i:Nat):Int))
def yn (i:Nat):List AV:=[QJ i, .v (.string ⟨#[]⟩), .v (.slice none 0 0)]
def tf (f:Nat->List AV):Nat->List (List AV)
 | 0=>[]
 | n+1=>tf f n++[f n]
@[go_sem] theorem yo (f:Nat->List AV): ∀n,(tf f n).length=n
 | 0=>rfl
 | n+1=>by rw [tf,List.length_append,yo f n];rfl
def marksOf (f:Nat->List AV):List (List AV):=tf f 12
mutual
def ue:Ex->List AV
 | .mk k s l=>[.v (.int .i64 k), .v (.string s), .aH 3 (vN l++marksOf yn) l.length]
def vN:List Ex->List (List AV)
 | []=>[]
 | x :: xs=>ue x :: vN xs
end
theorem uf: ∀l:List Ex,vN l=l.map ue
 | []=>rfl
 | x :: xs=>by rw [vN,uf xs,WR]
theorem qy (n:Nat) (a b:List (List AV)):bZ n (a++b)=(bZ n a&&bZ n b):=by
 induction a with
 | nil=>simp [bZ]
 | cons x a ih=>simp [bZ,ih,Bool.and_assoc]
theorem gU (n:Nat) (f:Nat->List AV) (h: ∀i,bp n (f i)=true): ∀k,bZ n (tf f k)=true
 | 0=>rfl
 | k+1=>by simp [tf,qy,gU n f h k,bZ,h]
theorem zj (n:Nat) (f:Nat->List AV) (h: ∀i,bp n (f i)=true):bZ n (marksOf f)=true:=gU n f h 12
@[go_sem] theorem NT (f:Nat->List AV):(marksOf f).length=12:=yo f 12
theorem sM (n:Nat) (i:Nat):bp n (yn i)=true:=rfl
theorem uP (n:Nat) (x:Ex):bp n (ue x)=true:=by
 induction x using Ex.ind with
 | h k s l ih=>
  rw [ue,uf];simp only [bp,AV.wf,Wg,Wn,qy,zj n _ (sM n)];exact wG (fun r hr=>by obtain ⟨x,hx,rfl⟩:=List.mem_map.1 hr;exact ih x hx)
theorem zi (n:Nat) (l:List Ex):bZ n (l.map ue)=true:=aZ _ (uP n) l
attribute [go_sem] uP zi qy
@[go_sem] theorem RG (n k:Nat):bZ n (tf yn k)=true:=gU n _ (sM n) k
@[go_sem] theorem Fc (n:Nat):bZ n (marksOf yn)=true:=zj n _ (sM n)
def Ex.lens (n:Nat) (x:Ex):Prop:= ∀y,y∈az x->y.kids.length<=n
def LJ (i:Nat):List AV:=[.v (.string ⟨#[]⟩), .v (.string ⟨#[]⟩), .v (.bool false), .v (.string ⟨#[109]⟩), .v (.string ⟨#[]⟩),QJ i, .v (.string ⟨#[]⟩), .v (.slice none 0 0)]
def LH (i:Nat):List AV:=[QJ i, .v (.int .i64 0), .v (.string ⟨#[]⟩), .v (.string ⟨#[]⟩), .v (.int .i64 0), .v (.int .i64 0), .v (.string ⟨#[]⟩), .v (.int .i64 0), .v (.string ⟨#[]⟩), .v (.string ⟨#[]⟩), .v (.int .i64 0), .v (.int .i64 0), .v (.string ⟨#[]⟩)]
def LI (i:Nat):List AV:=[.v (.int .i64 0), .v (.string ⟨#[]⟩), .v (.string ⟨#[]⟩), .v (.int .i64 0),QJ i, .v (.string ⟨#[]⟩)]
def G9 (p:l7):List AV:=[.v (.string p.aD), .v (.string p.to), .v (.bool p.path), .v (.string p.label), .v (.string p.name), .v (.int .i64 p.expr.kind), .v (.string p.expr.label), .aH 3 (p.expr.kids.map ue++marksOf yn) p.expr.kids.length]
theorem Fb (n:Nat) (p:l7):bp n (G9 p)=true:=by simp only [G9,bp,AV.wf,qy,zi,Fc,Wg,WT]
@[go_sem] theorem Qw (n:Nat) (l:List l7):bZ n (l.map G9)=true:=aZ _ (Fb n) l
@[go_sem] theorem RI (n k:Nat):bZ n (tf LJ k)=true:=gU n _ (fun _=>rfl) k
@[go_sem] theorem Oh (n:Nat):bZ n (marksOf LJ)=true:=gU n _ (fun _=>rfl) 12
@[go_sem] theorem RF (n k:Nat):bZ n (tf LH k)=true:=gU n _ (fun _=>rfl) k
@[go_sem] theorem Of (n:Nat):bZ n (marksOf LH)=true:=gU n _ (fun _=>rfl) 12
@[go_sem] theorem RH (n k:Nat):bZ n (tf LI k)=true:=gU n _ (fun _=>rfl) k
@[go_sem] theorem Og (n:Nat):bZ n (marksOf LI)=true:=gU n _ (fun _=>rfl) 12
def Di.lens (n:Nat) (q:Di):Prop:=q.p9.length<=n∧q.conds.length<=n∧q.ret.length<=n∧ ∀p,p∈q.p9->p.expr.lens n
inductive Le:AV->AV->Prop
 | refl (a:AV):Le a a
 | gu (p:(Nat->Prop)->World->Value->Prop) (a b:AV):Le a b->Le (.gu p a) b
 | nil (z:Nat):Le (.v (.slice none 0 0)) (.aH z [] 0)
 | agg (cs ds:List AV):cs.length=ds.length->(∀(i:Nat) c d,cs[i]? = some c->ds[i]? = some d->Le c d)->Le (.agg cs) (.agg ds)
 | aH (z:Nat) (rows rows':List (List AV)) (len:Nat):len<=rows'.length->rows'.length<=rows.length->(∀(i:Nat) r r',rows[i]? = some r->rows'[i]? = some r'->r.length=r'.length) ->
   (∀(i j:Nat) r r' c c',rows[i]? = some r->rows'[i]? = some r'->r[j]? = some c->r'[j]? = some c'->Le c c')->Le (.aH z rows len) (.aH z rows' len)
section
variable {D:Nat->Prop} {nu:Nat->Nat->Value} {o:List (Option aa)} {w:World} {P:Program}
theorem RA.le {a b:AV} (h:Le a b): ∀ {x:Value},RA D nu o w a x->RA D nu o w b x:=by
 induction h with
 | refl a=>exact fun h=>h
 | gu p a b _ ih=>intro x h;cases h with|gu _ _ _ S h0 h1 hc h2 h3=>exact ih h3
 | nil z=>intro x h;obtain rfl:=h.b5;exact .br z
 | agg cs ds hl _ ih=>
  intro x h
  cases h with
  | agg _ xs h1 h2 h3=>
   refine .agg ds xs (by omega) (fun i d y hd hy=> ?_) h3
   have hi:i<cs.length:=by have:=(U4.1 hd).1;omega
   exact ih i cs[i] d (Vi hi) hd (h2 i _ y (Vi hi) hy)
 | aH z rows rows' len h1 h2 h3 _ ih=>
  intro x h;have up: ∀(i:Nat) r',rows'[i]? = some r'-> ∃r,rows[i]? = some r:=fun i r' hr=>⟨_,Vi (by have:=(U4.1 hr).1;omega)⟩
  have upj: ∀(i j:Nat) r' c',rows'[i]? = some r'->r'[j]? = some c'-> ∃r c,rows[i]? = some r∧r[j]? = some c:=fun i j r' c' hr hc=>by
   obtain ⟨r,hr'⟩:=up i r' hr;exact ⟨r,_,hr',Vi (by have:=h3 i r r' hr' hr;have:=(U4.1 hc).1;omega)⟩
  cases h with
  | br=>
   have:rows'=[]:=VF (by simpa using h2)
   subst this;exact .br z
  | bz _ a=>
   have:rows'=[]:=VF (by simpa using h2)
   subst this;exact .bz z a
  | aH _ _ _ b off cap f k1 k2 k3 k4 k5 k6 k7 k8=>
   refine .aH z rows' len b off cap f h1 (by omega) k3 (fun hne=>k4 (fun e=>hne (by subst e;exact VF (by simpa using h2)))) (fun i r' hr=> ?_) (fun i j r' c' hr hc=> ?_) (fun i j r' c' hr hc=> ?_) (fun i j r' c' hr hc=> ?_)
   ·obtain ⟨r,hr'⟩:=up i r' hr;rw [<-h3 i r r' hr' hr];exact k5 i r hr'
   ·obtain ⟨r,c,q1,q2⟩:=upj i j r' c' hr hc;exact k6 i j r c q1 q2
   ·obtain ⟨r,c,q1,q2⟩:=upj i j r' c' hr hc;exact ih i j r r' c c' q1 hr q2 hc (k7 i j r c q1 q2)
   ·obtain ⟨r,c,q1,q2⟩:=upj i j r' c' hr hc;exact k8 i j r c q1 q2
def Dh (cs ds:List AV):Prop:=cs.length=ds.length∧ ∀(i:Nat) c d,cs[i]? = some c->ds[i]? = some d->Le c d
theorem Dh.nil:Dh [] []:=⟨rfl,fun i c d h=>by simp at h⟩
theorem Dh.cons {c d:AV} {cs ds:List AV} (h:Le c d) (k:Dh cs ds):Dh (c :: cs) (d :: ds):=⟨by simp [k.1],fun i x y hx hy=>by
 cases i with
 | zero=>cases hx;cases hy;exact h
 | succ i=>exact k.2 i x y hx hy⟩
theorem Dh.agg {cs ds:List AV} (h:Dh cs ds):Le (.agg cs) (.agg ds):= .agg cs ds h.1 h.2
theorem Le.rows {α:Type} {z:Nat} {f g:α->List AV} {xs:List α} {more:List (List AV)} (h: ∀x,x∈xs->Dh (f x) (g x)):Le (.aH z (xs.map f++more) xs.length) (.aH z (xs.map g) xs.length):=by
 have key: ∀(i:Nat) r r',(xs.map f++more)[i]? = some r->(xs.map g)[i]? = some r'->Dh r r':=fun i r r' h1 h2=>by
  have hi:i<xs.length:=by simpa using (U4.1 h2).1
  rw [List.getElem?_append_left (by simpa using hi)] at h1;rw [List.getElem?_map,Vi hi] at h1 h2;cases h1;cases h2;exact h _ (List.getElem_mem hi)
 exact .aH z _ _ _ (by simp) (by simp) (fun i r r' h1 h2=>(key i r r' h1 h2).1) (fun i j r r' c c' h1 h2 h3 h4=>(key i r r' h1 h2).2 j c c' h3 h4)
theorem fE.le {cs ds:List AV} {xs:Array Value} (h:Dh cs ds) (k:fE D nu o w cs xs):fE D nu o w ds xs:=⟨by rw [<-h.1];exact k.len,fun i d x hd hx=>by
 have hi:i<cs.length:=by have:=(U4.1 hd).1;have:=h.1;omega
 exact (k.at' i cs[i] x (Vi hi) hx).le (h.2 i _ d (Vi hi) hd)⟩
theorem ah.le {f:FuncId} {args args':List AV} {r:AV} (h:ah P f args r) (hw:bp 0 args'=true) (hl:Dh args' args):ah P f args' r:=h.args hw (fun _ _ _ _ k=>k.le hl)
end
section
variable {P:Program}
open Go.Sort in
theorem aK.same {α:Type} [Inhabited α] {enc:α->Value} (hone: ∀a,(enc a).oneCell'=true) {f:FuncId} {args:List AV} {T:TypeId} {d d':List α} {o1:List (Option aa)} (hd:d'.length=d.length) (hc:df P f=true)
  (hcall: ∀D nu w vargs cap blk,RO D nu (some ⟨T,1,true,aO enc d⟩ :: o1) w->fE D nu (some ⟨T,1,true,aO enc d⟩ :: o1) w args vargs->Holds enc w blk 0 d.toArray->blk<w.heap.size->d.length<=cap->cap<=maxLen->Calls P f (#[.slice (some ⟨blk,0,none⟩) d.length cap]++vargs) w (fun e w'=>e = .returned (.tuple #[])∧ ∃n os,w'=grow (putRow enc (Go.Sort.ahead w n) blk 0 d'.toArray) os))
  (hnil:d=[]-> ∀D nu w vargs,RO D nu (some ⟨T,1,true,aO enc d⟩ :: o1) w->fE D nu (some ⟨T,1,true,aO enc d⟩ :: o1) w args vargs->Calls P f (#[.slice none 0 0]++vargs) w (fun e w'=>e = .returned (.tuple #[])∧Below w.heap.size w w')) :
  aK P f (.vec 0 d.length :: args) (some ⟨T,1,true,aO enc d⟩ :: o1) (.cy []) (some ⟨T,1,true,aO enc d'⟩ :: o1):=by
 refine ⟨hc,fun D nu w vargs hro hra=> ?_⟩
 have hlen:(aO enc d).length=d.length:=by simp [aO]
 have hlen':(aO enc d').length=d'.length:=by simp [aO]
 obtain ⟨vl⟩:=vargs
 cases vl with
 | nil=>have:=hra.len;simp at this
 | cons x l=>
 have hx:=hra.at' 0 _ x rfl (by simp);have hxs:fE D nu (some ⟨T,1,true,aO enc d⟩ :: o1) w args l.toArray:=⟨by have:=hra.len;simp at this;simpa using this,fun i c y h1 h2=>hra.at' (i+1) c y (by simpa using h1) (by simpa using h2)⟩
 have ev:(⟨x :: l⟩:Array Value) = #[x]++l.toArray:=by simp
 have hxq:x=nu 0 d.length:=by
  cases hx with
  | vec=>rfl
 have hob:(some ⟨T,1,true,aO enc d⟩ :: o1)[0]? = some (some (⟨T,1,true,aO enc d⟩:aa)):=rfl;have tup0: ∀w',RA D nu (some ⟨T,1,true,aO enc d'⟩ :: o1) w' (.cy []) (.tuple #[]):=fun w'=> .cy _ _ rfl (fun i c x h _=>by simp at h);rw [ev,hxq]
 rcases hro.obj 0 _ hob with ⟨_,e2,e3⟩|⟨g,cur,hb⟩|⟨g,es,cl,hm⟩
 ·have hdn:d=[]:=by simpa [aO] using e2
  have hdn':d'=[]:=VF (by rw [hd,hdn];rfl);have hn:=hnil hdn D nu w l.toArray hro hxs
  have e4:nu 0 d.length = .slice none 0 0:=by rw [hdn];exact e3
  rw [e4];refine hn.mono ?_;rintro e w' ⟨rfl,hbl⟩
  have e5:(some ⟨T,1,true,aO enc d'⟩ :: o1:List (Option aa))=some ⟨T,1,true,aO enc d⟩ :: o1:=by rw [hdn,hdn']
  refine ⟨_,nu,some ⟨T,1,true,aO enc d'⟩ :: o1,_,rfl, ?_, ?_,tup0 w',rfl,rfl⟩
  ·rw [e5];exact aw hbl
  ·rw [e5];exact hro.below hbl
 ·obtain ⟨cap,h1,h2,h3,h4⟩:=hb.vec rfl;have hlr:(aa.mk T 1 true (aO enc d)).rows.length=d.length:=hlen;rw [hlr] at h1 h2;have hlt:g<w.heap.size:=(Array.getElem?_eq_some_iff.1 hb.blk).1;rw [h1];refine (hcall D nu w l.toArray cap g hro hxs (tV hb rfl rfl) hlt h2 h3).mono ?_;rintro e w' ⟨rfl,n,os,rfl⟩
  
  obtain ⟨hsame,hblk⟩:=si (w:=w) (enc:=enc) (n:=n) (d:=d'.toArray) (os:= #[]) hlt;have hblk:=hblk _ _ _ hb.blk;rw [grow_empty] at hsame hblk
  have hsz:(putRow enc (Go.Sort.ahead w n) g 0 d'.toArray).heap.size=w.heap.size:=by rw [size_putRow];rfl
  have hh:(aa.mk T 1 true (aO enc d)).hl=(aa.mk T 1 true (aO enc d')).hl:=by simp [aa.hl,hlen,hlen',hd]
  have hne: ∀b,b≠g->(putRow enc (Go.Sort.ahead w n) g 0 d'.toArray).heap[b]? = w.heap[b]? :=fun b hbg=>by
   rcases Nat.lt_or_ge b w.heap.size with q|q
   ·exact hsame b q hbg
   ·rw [WU (by omega),WU q]
  have hm:=gn (nu:=nu) (w:=w) (w':=putRow enc (Go.Sort.ahead w n) g 0 d'.toArray) (ob':=⟨T,1,true,aO enc d'⟩) hob hh.symm hb.bg rfl rfl rfl hsz hne
  have row: ∀(i:Nat) r,(aO enc d')[i]? = some r-> ∃hi:i<d'.length,r=[.v (enc d'[i])]:=fun i r hi=>by
   have hik:=(U4.1 hi).1;rw [hlen'] at hik;exact ⟨hik,by simp [aO,hik] at hi;exact hi.symm⟩
  have cell: ∀(i j:Nat) r c x,(aO enc d')[i]? = some r->r[j]? = some c->(putCells enc 0 d'.toArray cur)[i * 1+j]? = some x->c = .v x∧x.oneCell'=true:=fun i j r c x k1 k2 k3=>by
   obtain ⟨hi,rfl⟩:=row i r k1
   have hj:j=0:=by have:=(U4.1 k2).1;simp at this;exact this
   subst hj;simp only [putCells,Nat.mul_one,Nat.add_zero,Array.getElem?_mapIdx] at k3
   cases hc:cur[i]? with
   | none=>rw [hc] at k3;simp at k3
   | some y=>
    rw [hc] at k3;simp only [VB,Ve] at k3;rw [if_pos ⟨Nat.zero_le _,by simpa using hi⟩,Nat.sub_zero,getElem!_pos d'.toArray i (by simpa using hi)] at k3;simp only [V7,Ve] at k2;subst k3;exact ⟨by rw [<-k2];simp,hone _⟩
  have hnew:sO D nu (some ⟨T,1,true,aO enc d'⟩ :: o1) (putRow enc (Go.Sort.ahead w n) g 0 d'.toArray) 0 ⟨T,1,true,aO enc d'⟩ g (putCells enc 0 d'.toArray cur):=by
   refine ⟨hblk,hb.ko,(fun e=>by cases e),fun _=>⟨cap, ?_, ?_,h3, ?_⟩,Nat.zero_lt_one,fun i r hi=> ?_,fun i j r c x k1 k2 k3=> ?_,fun i j r c x k1 k2 k3=>(cell i j r c x k1 k2 k3).2⟩
   ·show nu 0 (aO enc d').length = .slice (some ⟨g,0,none⟩) (aO enc d').length cap;rw [hlen',hd];exact h1
   ·show (aO enc d').length<=cap;rw [hlen',hd];exact h2
   ·rw [<-h4];simp [putCells]
   ·obtain ⟨_,rfl⟩:=row i r hi;rfl
   ·rw [(cell i j r c x k1 k2 k3).1];exact .v x
  have hr:=mR hro hob hh.symm hb.bg hm hne (cur:=putCells enc 0 d'.toArray cur) hnew;have hb2:Below (putRow enc (Go.Sort.ahead w n) g 0 d'.toArray).heap.size (putRow enc (Go.Sort.ahead w n) g 0 d'.toArray) (grow (putRow enc (Go.Sort.ahead w n) g 0 d'.toArray) os):=⟨rfl,rfl,rfl,by simp,fun b hb=>heap_grow_old _ _ hb⟩;simp only [List.set_cons_zero] at hm hr;exact ⟨_,nu,some ⟨T,1,true,aO enc d'⟩ :: o1,_,rfl,hm.trans (aw hb2),hr.below hb2,tup0 _,rfl,rfl⟩
 ·have:=hm.du;cases this
end
def qx:Go.Shelf.Ren:=⟨fun|189=>112|125=>135|257=>144|128=>171|129=>172|294=>179|295=>180|296=>181|297=>182|298=>183|299=>184|216=>185|300=>186|301=>187|328=>210|329=>204|330=>205|331=>211|332=>212|215=>202|343=>223|n=>n,fun|28=>56|3=>3|46=>212|0=>0|51=>184|53=>256|4=>4|183=>249|182=>248|131=>105|5=>5|9=>9|218=>279|222=>283|228=>296|229=>297|n=>n,fun n=>n⟩
theorem sB:Lays.n189 Tryz.prog qx:={
 mixed:=by kernel_rfl
 f125:=Tryz.func135
 f128:=Tryz.func171
 f129:=Tryz.func172
 f189:=Tryz.func112
 f215:=Tryz.func202
 f216:=Tryz.func185
 f257:=Tryz.func144
 f294:=Tryz.func179
 f295:=Tryz.func180
 f296:=Tryz.func181
 f297:=Tryz.func182
 f298:=Tryz.func183
 f299:=Tryz.func184
 f300:=Tryz.func186
 f301:=Tryz.func187
 f328:=Tryz.func210
 f329:=Tryz.func204
 f330:=Tryz.func205
 f331:=Tryz.func211
 f332:=Tryz.func212
 f343:=Tryz.func223
 t0:=by kernel_rfl
 a0:=fun w=>by kernel_rfl
 z0:=fun w=>by kernel_rfl
 v0:=fun w=>by kernel_rfl
 t3:=by kernel_rfl
 a3:=fun w=>by kernel_rfl
 z3:=fun w=>by kernel_rfl
 v3:=fun w=>by kernel_rfl
 t4:=by kernel_rfl
 a4:=fun w=>by kernel_rfl
 z4:=fun w=>by kernel_rfl
 v4:=fun w=>by kernel_rfl
 t5:=by kernel_rfl
 a5:=fun w=>by kernel_rfl
 z5:=fun w=>by kernel_rfl
 v5:=fun w=>by kernel_rfl
 t9:=by kernel_rfl
 a9:=fun w=>by kernel_rfl
 z9:=fun w=>by kernel_rfl
 v9:=fun w=>by kernel_rfl
 t28:=by kernel_rfl
 a28:=fun w=>by kernel_rfl
 z28:=fun w=>by kernel_rfl
 v28:=fun w=>by kernel_rfl
 t46:=by kernel_rfl
 a46:=fun w=>by kernel_rfl
 z46:=fun w=>by kernel_rfl
 v46:=fun w=>by kernel_rfl
 t51:=by kernel_rfl
 a51:=fun w=>by kernel_rfl
 z51:=fun w=>by kernel_rfl
 v51:=fun w=>by kernel_rfl
 t53:=by kernel_rfl
 a53:=fun w=>by kernel_rfl
 z53:=fun w=>by kernel_rfl
 v53:=fun w=>by kernel_rfl
 t131:=by kernel_rfl
 a131:=fun w=>by kernel_rfl
 z131:=fun w=>by kernel_rfl
 v131:=fun w=>by kernel_rfl
 t182:=by kernel_rfl
 a182:=fun w=>by kernel_rfl
 z182:=fun w=>by kernel_rfl
 v182:=fun w=>by kernel_rfl
 t183:=by kernel_rfl
 a183:=fun w=>by kernel_rfl
 z183:=fun w=>by kernel_rfl
 v183:=fun w=>by kernel_rfl
 t218:=by kernel_rfl
 a218:=fun w=>by kernel_rfl
 z218:=fun w=>by kernel_rfl
 v218:=fun w=>by kernel_rfl
 t222:=by kernel_rfl
 a222:=fun w=>by kernel_rfl
 z222:=fun w=>by kernel_rfl
 v222:=fun w=>by kernel_rfl
 t228:=by kernel_rfl
 a228:=fun w=>by kernel_rfl
 z228:=fun w=>by kernel_rfl
 v228:=fun w=>by kernel_rfl
 t229:=by kernel_rfl
 a229:=fun w=>by kernel_rfl
 z229:=fun w=>by kernel_rfl
 v229:=fun w=>by kernel_rfl }
def qf:Go.Shelf.Ren:=⟨fun|20=>113|n=>n,fun|22=>56|3=>3|4=>4|0=>0|n=>n,fun n=>n⟩
theorem q8:Lays2.n20 Tryz.prog qf:={
 mixed:=by kernel_rfl
 f20:=Tryz.func113
 t0:=by kernel_rfl
 a0:=fun w=>by kernel_rfl
 z0:=fun w=>by kernel_rfl
 v0:=fun w=>by kernel_rfl
 t3:=by kernel_rfl
 a3:=fun w=>by kernel_rfl
 z3:=fun w=>by kernel_rfl
 v3:=fun w=>by kernel_rfl
 t4:=by kernel_rfl
 a4:=fun w=>by kernel_rfl
 z4:=fun w=>by kernel_rfl
 v4:=fun w=>by kernel_rfl
 t22:=by kernel_rfl
 a22:=fun w=>by kernel_rfl
 z22:=fun w=>by kernel_rfl
 v22:=fun w=>by kernel_rfl
 i3:=by kernel_rfl }
theorem rl (l:List Nat):aj l=aO (Value.int .i64) (nX l):=by simp [aj,aO,nX]
theorem lU (l:List Nat):(nX l).length=l.length:=by simp [nX]
open Go.Sort in
theorem Np (l:List Nat) (hl:l.length<=1000000):aK Tryz.prog 112 [.vec 0 l.length] [some ⟨3,1,true,aj l⟩] (.cy [])
  [some ⟨3,1,true,aO (Value.int .i64) ((nX l).mergeSort (fun x y=>decide (x<=y)))⟩]:=by
 have key:=aK.same (P:=Tryz.prog) (enc:=Value.int .i64) (fun _=>rfl) (f:=112) (args:=[]) (T:=3) (d:=nX l) (o1:=[]) (d':=(nX l).mergeSort (fun x y=>decide (x<=y))) (by simp) (by kernel_rfl) ?_ ?_
 ·rw [lU, <- rl] at key;exact key
 ·intro D nu w vargs cap blk hro hra hH hblk hcap hmx;have e0:vargs = #[]:=WV (by have:=hra.len;simpa using this.symm);subst e0;have hS:=Any.slices_Sort_int (P:=Tryz.prog) (ρ:=qx) sB blk 0 cap (nX l) w hH hblk (by rw [lU];omega)
  change Calls Tryz.prog 112 _ _ _ at hS
  exact hS
 ·intro _ D nu w vargs hro hra;have e0:vargs = #[]:=WV (by have:=hra.len;simpa using this.symm);subst e0;have hS:=Any.slices_Sort_int_none (P:=Tryz.prog) (ρ:=qx) sB none 0 w
  change Calls Tryz.prog 112 _ _ _ at hS
  refine hS.mono ?_;rintro e w' ⟨rfl,rfl⟩;exact ⟨rfl, .refl _ _⟩
open Go.Sort in
theorem DT (l:List Nat) (hl:l.length<=1000000):aK Tryz.prog 113 [.vec 0 l.length] [some ⟨3,1,true,aO (Value.int .i64) ((nX l).mergeSort (fun x y=>decide (x<=y)))⟩] (.vec 1 (ja l).length)
  [none,some ⟨3,1,true,aj (ja l)⟩]:=by
 have hc:=vq l;have hn:=La l;generalize hs:(nX l).mergeSort (fun x y=>decide (x<=y))=s at hc ⊢
 have hsl:s.length=l.length:=by rw [<-hs];simp [nX]
 have key:=aK.row (P:=Tryz.prog) (enc:=Value.int .i64) (fun _=>rfl) (f:=113) (args:=[]) (T:=3) (d:=s) (o1:=[])
  (d':=nX (ja l)++List.replicate (s.length - (ja l).length) 0) (k:=(ja l).length) (by rw [List.length_append,List.length_replicate,lU];omega) (by omega) (by kernel_rfl) ?_ ?_
 ·rw [List.take_append_of_le_length (by rw [lU];omega),List.take_of_length_le (by rw [lU];omega)] at key;rw [hsl, <- rl] at key;exact key
 ·intro D nu w vargs cap blk hro hra hH hblk hnu hcap hmx;have e0:vargs = #[]:=WV (by have:=hra.len;simpa using this.symm);subst e0;have hS:=Any.slices_Compact_int (P:=Tryz.prog) (ρ:=qf) q8 blk 0 cap s w hH (by omega) hcap;rw [hc,lU] at hS
  change Calls Tryz.prog 113 _ _ _ at hS
  refine hS.mono ?_;rintro e w' ⟨rfl,q,rfl⟩;exact ⟨rfl,q, #[],by rw [grow_empty]⟩
 ·intro hd D nu w vargs hro hra;have e0:vargs = #[]:=WV (by have:=hra.len;simpa using this.symm);subst e0;have hS:=Any.slices_Compact_int_empty (P:=Tryz.prog) (ρ:=qf) q8 none 0 w
  change Calls Tryz.prog 113 _ _ _ at hS
  refine hS.mono ?_;rintro e w' ⟨rfl,rfl⟩;exact ⟨rfl, .refl _ _⟩
theorem sl {D:Nat->Prop} {nu:Nat->Nat->Value} {o:List (Option aa)} {w:World} {x:Value} (h:RA D nu o w (.aH 1 [] 0) x): ∃a c,x = .slice a 0 c:=by
 cases h with
 | br=>exact ⟨_,_,rfl⟩
 | bz _ a=>exact ⟨_,_,rfl⟩
 | aH _ _ _ b off cap f=>exact ⟨_,_,rfl⟩
theorem No:ah Tryz.prog 112 [.aH 1 [] 0] (.cy []):=by
 refine ⟨⟨rfl,rfl⟩,by kernel_rfl,fun D nu w vargs hro hra=> ?_⟩;obtain ⟨x,rfl,hx⟩:=di hra;obtain ⟨a,c,rfl⟩:=sl hx;have hS:=Any.slices_Sort_int_none (P:=Tryz.prog) (ρ:=qx) sB a c w
 change Calls Tryz.prog 112 _ _ _ at hS
 refine hS.mono ?_;rintro e w' ⟨rfl,rfl⟩;exact ⟨_,nu,[],_,rfl, .refl _ _ _,hro, .cy _ _ rfl (fun i c x h _=>by simp at h),rfl,rfl⟩
theorem DR:ah Tryz.prog 113 [.aH 1 [] 0] (.aH 1 [] 0):=by
 refine ⟨⟨rfl,rfl⟩,by kernel_rfl,fun D nu w vargs hro hra=> ?_⟩;obtain ⟨x,rfl,hx⟩:=di hra;obtain ⟨a,c,rfl⟩:=sl hx;have hS:=Any.slices_Compact_int_empty (P:=Tryz.prog) (ρ:=qf) q8 a c w
 change Calls Tryz.prog 113 _ _ _ at hS
 refine hS.mono ?_;rintro e w' ⟨rfl,rfl⟩;exact ⟨_,nu,[],_,rfl, .refl _ _ _,hro,hx,rfl,rfl⟩
theorem qK (l:List Nat) (hl:l.length<=1000000):aK Tryz.prog 80 [.vec 0 l.length] [some ⟨3,1,true,aj l⟩] (.vec 1 (ja l).length) [none,some ⟨3,1,true,aj (ja l)⟩]:=by
 have S:=Np l hl;have C:=DT l hl;have eZ: ∀f,bu f (aj l)=aj l:=fun f=>aS _ _ (aZ _ (fun _=>rfl) _);have eZ2: ∀f,bu f (aj (ja l))=aj (ja l):=fun f=>aS _ _ (aZ _ (fun _=>rfl) _);have eZ3: ∀f m,bu f (aO (Value.int .i64) m)=aO (Value.int .i64) m:=fun f m=>aS _ _ (aZ _ (fun _=>rfl) _)
 (refine aK.enter Tryz.func80 rfl (by kernel_rfl) (by kernel_rfl) rfl ?_;simp only [Tryz.ntmps80,Tryz.results80,List.length_cons,List.length_nil,Nat.reduceAdd,Nat.reduceSub,List.replicate_succ,List.replicate_zero,List.cons_append,List.nil_append])
 repeat (first|(with_reducible first|refine ag.up ?_|refine fun (K:AK) hK=> ?_|(refine hK _ ?_;clear hK K))|simp only [go_sem]|with_reducible refine wA ?_|clear hK K)
 refine ab.fr [0] S (by simp) ?_ ?_ ?_ ?_ ?_
 ·simp only [WR,List.map_nil,V7,VB,aa.aV,eZ]
 ·rfl
 ·rfl
 ·intro j ob hj
  match j,hj with
  | 0,hj=>cases hj;exact aZ _ (fun _=>rfl) _
  | j+1,hj=>simp at hj
 repeat (first|(with_reducible first|refine ag.up ?_|refine fun (K:AK) hK=> ?_|(refine hK _ ?_;clear hK K))|simp only [go_sem]|with_reducible refine wA ?_|clear hK K)
 refine ab.fr [0] C (by simp) ?_ ?_ ?_ ?_ ?_
 ·simp only [WR,List.map_nil,V7,VB,aa.aV,eZ3]
 ·rfl
 ·rfl
 ·intro j ob hj
  match j,hj with
  | 0,hj=>cases hj;exact aZ _ (fun _=>rfl) _
  | j+1,hj=>simp at hj
 repeat (first|(with_reducible first|refine ag.up ?_|refine fun (K:AK) hK=> ?_|(refine hK _ ?_;clear hK K))|simp only [go_sem]|with_reducible refine wA ?_|clear hK K)
 simp only [eZ2]
 (refine ⟨?_, ?_, ?_⟩<;>simp only [aW,aY,AV.v.injEq,Value.int.injEq,Value.bool.injEq,Value.string.injEq,AV.vec.injEq,AV.ptr.injEq,true_or,or_true,false_or,or_false,aa.mk.injEq,forall_eq_apply_imp_iff,forall_eq,forall_eq',go_sem])
 all_goals first|exact aZ _ (fun _=>rfl) _|exact ⟨rfl,aZ _ (fun _=>rfl) _⟩|trace_state
theorem tG:ah Tryz.prog 80 [.aH 1 [] 0] (.aH 1 [] 0):=by
 have S:=No;have C:=DR
 (refine ah.enter Tryz.func80 rfl (by kernel_rfl) (by kernel_rfl) rfl (by first|rfl|(simp only [go_sem,WT,Wg,Wn])) (by first|rfl|(simp only [go_sem,WT,Wg,Wn])) ?_;simp only [Tryz.ntmps80,Tryz.results80,List.length_cons,List.length_nil,Nat.reduceAdd,Nat.reduceSub,List.replicate_succ,List.replicate_zero,List.cons_append,List.nil_append])
 repeat' (first|(with_reducible first|refine ag.up ?_|refine fun (K:AK) hK=> ?_|(refine hK _ ?_;clear hK K))|simp only [go_sem]|clear hK K|(with_reducible refine ab.one (by assumption) ?_)|(with_reducible refine bf.one (by assumption) ?_)|(refine eJ.part (fun hb=> ?_) (fun hb=> ?_)<;>simp only [hb,go_sem])|(refine eJ.part (fun hb=> ?_) (fun hb=> ?_))|(with_reducible refine jc.mk ?_ ?_))
 (refine jb.of 40 rfl ?_;simp only [go_sem])
end
theorem bo (b:Nat) (l:List Nat):bZ b (aj l)=true:=aZ _ (fun _=>rfl) _
attribute [go_sem] bo
theorem jN (l:List Nat) (hl:l.length<=1000000) (hne:l≠[]):aK Tryz.prog 81 [.aH 1 (aj l) l.length] [] (.vec 0 l.length) [some ⟨3,1,true,aj l⟩]:=by
 have hpos:0<l.length:=by cases l<;>simp_all
 have eL:(aj l).length=l.length:=by simp [aj]
 (refine aK.enter Tryz.func81 rfl (by kernel_rfl) (by kernel_rfl) rfl ?_;simp only [Tryz.ntmps81,Tryz.results81,U9,U3,Nat.reduceAdd,Nat.reduceSub,WW,WX,WY,WZ])
 repeat (first|(with_reducible first|refine ag.up ?_|refine fun (K:AK) hK=> ?_|(refine hK _ ?_;clear hK K))|simp only [go_sem,eL]|with_reducible refine wA ?_|clear hK K)
 refine ⟨fun e=>hne (by simpa [aj] using e), ?_⟩;have eT:(aj l).take l.length=aj l:=W4 (by omega)
 repeat (first|(with_reducible first|refine ag.up ?_|refine fun (K:AK) hK=> ?_|(refine hK _ ?_;clear hK K))|simp only [go_sem,eL,eT]|with_reducible refine wA ?_|clear hK K)
 (refine ⟨?_, ?_, ?_⟩<;>simp only [aW,aY,AV.v.injEq,Value.int.injEq,Value.bool.injEq,Value.string.injEq,AV.vec.injEq,AV.ptr.injEq,true_or,or_true,false_or,or_false,aa.mk.injEq,forall_eq_apply_imp_iff,forall_eq,forall_eq',go_sem])
theorem rF: ∀(l:List Nat) (n i:Nat),l[i]? = some n->l.idxOf n<=i
 | [],n,i,h=>by simp at h
 | x :: l,n,0,h=>by simp at h;subst h;simp
 | x :: l,n,i+1,h=>by
  have:=rF l n i (by simpa using h)
  rw [List.idxOf_cons];cases x==n<;>simp only [cond_true,cond_false]<;>omega
theorem GN (l:List Nat) (n:Nat) (hl:l.length<=1000000): ∃k:Int,(decide (0<=k)=l.contains n)∧ah Tryz.prog 77 [.aH 1 (aj l) l.length, .v (.int .i64 n)] (.v (.int .i64 k)):=by
 refine ⟨if l.contains n then (l.idxOf n:Int) else -1,by split<;>simp_all<;>omega, ?_⟩
 (refine ah.enter Tryz.func77 rfl (by kernel_rfl) (by kernel_rfl) rfl (by first|rfl|(simp only [go_sem,WT,Wg,Wn])) (by first|rfl|(simp only [go_sem,WT,Wg,Wn])) ?_;simp only [Tryz.ntmps77,Tryz.results77,U9,U3,Nat.reduceAdd,Nat.reduceSub,WW,WX,WY,WZ])
 repeat (first|(with_reducible first|refine ag.up ?_|refine fun (K:AK) hK=> ?_|(refine hK _ ?_;clear hK K))|simp only [go_sem]|with_reducible refine wA ?_|clear hK K)
 refine bD (ι:=Nat) 8 (fun i=>[(5, .undef),(8, .v (.int .i64 i))]) (fun i=>l.length - i) (fun i=>i<=l.length∧n∉l.take i) 0 ⟨Nat.zero_le _,by simp⟩ ?_ ?_
 ·(refine aq ?_ ?_ ?_<;>simp only [aD,WJ,WK,WW,WX,aW,aY,AV.v.injEq,Value.int.injEq,Value.bool.injEq,Value.string.injEq,AV.vec.injEq,AV.ptr.injEq,true_or,or_true,false_or,or_false,aa.mk.injEq,forall_eq_apply_imp_iff,forall_eq,forall_eq',go_sem])
  rfl
 rintro i ⟨hi,hn⟩ K hK
 repeat (first|(with_reducible first|refine ag.up ?_|refine fun (K:AK) hK=> ?_|(refine hK _ ?_;clear hK K))|simp only [go_sem]|with_reducible refine wA ?_|clear hK K)
 refine eJ.part (fun h=> ?_) (fun h=> ?_)
 ·have hlt:i<l.length:=by (try simp only [bne_iff_ne,ne_eq,bne_eq_false_iff_eq,beq_iff_eq,beq_eq_false_iff_ne,decide_eq_true_eq,decide_eq_false_iff_not,W5,W7,W8,W9] at h);omega
  have eW:=aB (k:=i) (by omega)
  have eG:(aj l).getD i []=[.v (.int .i64 (l[i]:Nat))]:=by rw [aj,getD_map _ l i [] hlt]
  repeat (first|(with_reducible first|refine ag.up ?_|refine fun (K:AK) hK=> ?_|(refine hK _ ?_;clear hK K))|simp only [go_sem,h,eG]|with_reducible refine wA ?_|clear hK K)
  refine eJ.part (fun h2=> ?_) (fun h2=> ?_)
  ·have hc:n=l[i]:=by (try simp only [bne_iff_ne,ne_eq,bne_eq_false_iff_eq,beq_iff_eq,beq_eq_false_iff_ne,decide_eq_true_eq,decide_eq_false_iff_not,W5,W7,W8,W9] at h2);omega
   have hm:l.contains n=true:=by rw [Xa,hc];exact List.getElem_mem hlt
   have hx:l.idxOf n=i:=by
    have h1:l.idxOf n<=i:=by
     exact rF l n i (by rw [hc];exact List.getElem?_eq_getElem hlt)
    rcases Nat.lt_or_ge (l.idxOf n) i with q|q
    ·exfalso
     have hq:l.idxOf n<l.length:=by omega
     refine hn (List.mem_take_iff_getElem.2 ⟨l.idxOf n,by omega, ?_⟩);exact List.getElem_idxOf hq
    ·omega
   repeat (first|(with_reducible first|refine ag.up ?_|refine fun (K:AK) hK=> ?_|(refine hK _ ?_;clear hK K))|simp only [go_sem]|with_reducible refine wA ?_|clear hK K)
   rw [hm,if_pos rfl,hx]
  ·have hc:n≠l[i]:=by (try simp only [bne_iff_ne,ne_eq,bne_eq_false_iff_eq,beq_iff_eq,beq_eq_false_iff_ne,decide_eq_true_eq,decide_eq_false_iff_not,W5,W7,W8,W9] at h2);omega
   repeat (first|(with_reducible first|refine ag.up ?_|refine fun (K:AK) hK=> ?_|(refine hK _ ?_;clear hK K))|simp only [go_sem,eW]|with_reducible refine wA ?_|clear hK K)
   exact aJ.mk (i+1) ⟨by omega,by
    rw [List.take_succ_eq_append_getElem hlt,List.mem_append]
    rintro (e|e)
    ·exact hn e
    ·exact hc (by simpa using e)⟩ (by omega) (by (refine aq ?_ ?_ ?_<;>simp only [aD,WJ,WK,WW,WX,aW,aY,AV.v.injEq,Value.int.injEq,Value.bool.injEq,Value.string.injEq,AV.vec.injEq,AV.ptr.injEq,true_or,or_true,false_or,or_false,aa.mk.injEq,forall_eq_apply_imp_iff,forall_eq,forall_eq',go_sem]))
 ·have hm:l.contains n=false:=by
   have:i=l.length:=by (try simp only [bne_iff_ne,ne_eq,bne_eq_false_iff_eq,beq_iff_eq,beq_eq_false_iff_ne,decide_eq_true_eq,decide_eq_false_iff_not,W5,W7,W8,W9] at h);omega
   rw [this,List.take_length] at hn;rw [<-Bool.not_eq_true,Xa];exact hn
  repeat (first|(with_reducible first|refine ag.up ?_|refine fun (K:AK) hK=> ?_|(refine hK _ ?_;clear hK K))|simp only [go_sem]|with_reducible refine wA ?_|clear hK K)
  rw [hm,if_neg (by decide)]
theorem xD (l:List Nat) (n:Nat) (hl:l.length<=1000000):ah Tryz.prog 47 [.aH 1 (aj l) l.length, .v (.int .i64 n)] (.v (.bool (l.contains n))):=by
 obtain ⟨k,hk,C⟩:=GN l n hl
 (refine ah.enter Tryz.func47 rfl (by kernel_rfl) (by kernel_rfl) rfl (by first|rfl|(simp only [go_sem,WT,Wg,Wn])) (by first|rfl|(simp only [go_sem,WT,Wg,Wn])) ?_;simp only [Tryz.ntmps47,Tryz.results47,U9,U3,Nat.reduceAdd,Nat.reduceSub,WW,WX,WY,WZ])
 repeat (first|(with_reducible first|refine ag.up ?_|refine fun (K:AK) hK=> ?_|(refine hK _ ?_;clear hK K))|simp only [go_sem]|clear hK K)
 refine ab.one C ?_
 repeat (first|(with_reducible first|refine ag.up ?_|refine fun (K:AK) hK=> ?_|(refine hK _ ?_;clear hK K))|simp only [go_sem]|clear hK K)
 rw [<-hk]
def jR:Go.Shelf.Ren:=⟨fun|4=>111|n=>n,fun|22=>98|25=>3|3=>3|4=>4|9=>9|20=>20|0=>0|n=>n,fun n=>n⟩
theorem xU:Lays8.n4 Tryz.prog jR:={
 mixed:=by kernel_rfl
 f4:=⟨Tryz.f111.name,by decide,Tryz.func111⟩
 t0:=by kernel_rfl
 a0:=fun w=>by kernel_rfl
 z0:=fun w=>by kernel_rfl
 v0:=fun w=>by kernel_rfl
 t3:=by kernel_rfl
 a3:=fun w=>by kernel_rfl
 z3:=fun w=>by kernel_rfl
 v3:=fun w=>by kernel_rfl
 t4:=by kernel_rfl
 a4:=fun w=>by kernel_rfl
 z4:=fun w=>by kernel_rfl
 v4:=fun w=>by kernel_rfl
 t9:=by kernel_rfl
 a9:=fun w=>by kernel_rfl
 z9:=fun w=>by kernel_rfl
 v9:=fun w=>by kernel_rfl
 t20:=by kernel_rfl
 a20:=fun w=>by kernel_rfl
 z20:=fun w=>by kernel_rfl
 v20:=fun w=>by kernel_rfl
 t22:=by kernel_rfl
 a22:=fun w=>by kernel_rfl
 z22:=fun w=>by kernel_rfl
 v22:=fun w=>by kernel_rfl }
theorem GI (n:Nat) (hn:n<=1000000):aK Tryz.prog 111 [.v (.slice none 0 0), .v (.int .i64 n)] [] (.vec 0 0) [some ⟨3,1,true,[]⟩]:=by
 refine ⟨by kernel_rfl,fun D nu w vargs hro hra=> ?_⟩;obtain ⟨x,y,rfl,hx,hy⟩:=KW hra;obtain rfl:=hx.b5;obtain rfl:=hy.b5
 have fin: ∀(v:Value) (w':World),Below w.heap.size w w'->(∀b,b9 v=some b->w.heap.size<=b)->v.oneCell'=true->((true=true∧([]:List (List AV))=[]∧v = .slice none 0 0)∨(∃g cur,sO D (cN nu 0 v) ([]++[some ⟨3,1,true,[]⟩]) w' 0 ⟨3,1,true,[]⟩ g cur)∨ ∃g es cl,tw D (cN nu 0 v) ([]++[some ⟨3,1,true,[]⟩]) w' 0 ⟨3,1,true,[]⟩ g es cl) ->
   Df D nu [] w (fun r' o''=>r'=AV.vec 0 0∧o''=[some ⟨3,1,true,[]⟩]) (.returned v) w':=fun v w' hb hv hone hob=>by
  have hpm:=dv (nu:=nu) (o:=[]) (ob:=⟨3,1,true,[]⟩) hb hv;have hpr:=gP (ob:=⟨3,1,true,[]⟩) hro hb hv hob;simp only [U3,WZ] at hpm hpr;refine ⟨v,cN nu 0 v,_,_,rfl,hpm,hpr, ?_,rfl,rfl⟩
  have:=RA.vec (D:=D) (nu:=cN nu 0 v) (o:=[some (⟨3,1,true,[]⟩:aa)]) (w:=w') 0 0 ⟨_,rfl,fun x _=>Nat.zero_le _⟩ (by rw [show cN nu 0 v 0 0=v from aQ _ _ _ _];exact hone)
  rw [show cN nu 0 v 0 0=v from aQ _ _ _ _] at this;exact this
 rcases Nat.eq_zero_or_pos n with h0|h0
 ·subst h0;have hG:=Any8.slices_Grow_room (P:=Tryz.prog) (ρ:=jR) xU none 0 0 0 w (by omega) (by omega) (by omega) (by omega)
  change Calls Tryz.prog 111 _ _ _ at hG
  refine hG.mono ?_;rintro e w' ⟨rfl,rfl⟩;exact fin _ _ (.refl _ _) (fun b e=>by cases e) rfl (.inl ⟨rfl,rfl,rfl⟩)
 ·have hi:(Tryz.prog.info? 3).map (fun i=>(i.zero,i.size,i.bytes))=some (some (.int .i64 0),1,8):=by kernel_rfl
  obtain ⟨i0,hi0,hi1⟩:=Option.map_eq_some_iff.1 hi;simp only [Prod.mk.injEq] at hi1;obtain ⟨hz0,hs0,hb0⟩:=hi1;have hG:=Any8.slices_Grow_grow (P:=Tryz.prog) (ρ:=jR) xU i0 (.int .i64 0) hi0 hz0 (by omega) none 0 0 n [] w (by omega) (by omega) (by rw [hb0];omega) (by omega) (by simp) (fun _=>rfl) (fun a e=>by cases e)
  change Calls Tryz.prog 111 _ _ _ at hG
  refine hG.mono ?_;rintro e w' ⟨rfl,rfl⟩;have hge:=grownCap_ge w (0+n) 0 (jR.t 25);have hle:=grownCap_le_maxLen w (0+n) 0 (jR.t 25) (by unfold maxLen;omega);generalize hGc:grownCap w (0+n) 0 (jR.t 25)=G at hge hle ⊢;have hbl:Below w.heap.size w (w.drew.alloc (.cells (#[]++Builtin.zeroCells (Value.int .i64 0).cells (0+n - 0)++Builtin.zeroCells (Value.int .i64 0).cells (G - (0+n))) (jR.t 25))):=(cP w).alloc (by simp) _;refine fin _ _ hbl (fun b e=>by cases e;exact Nat.le_refl _) rfl (.inr (.inl ⟨w.heap.size,(#[]++Builtin.zeroCells (Value.int .i64 0).cells (0+n - 0)++Builtin.zeroCells (Value.int .i64 0).cells (G - (0+n))), ?_⟩))
  refine ⟨?_,hro.up _ (Nat.le_refl _),(fun e=>by cases e),fun _=>⟨G, ?_,Nat.zero_le _,hle, ?_⟩,Nat.zero_lt_one,fun i r hi=>by simp at hi,fun i j r c x k1=>by simp at k1,fun i j r c x k1=>by simp at k1⟩
  ·exact dG w.drew _
  ·rw [show cN nu 0 (Value.slice (some ⟨w.heap.size,0,none⟩) 0 G) 0 ([]:List (List AV)).length=_ from aQ _ _ _ _];rfl
  ·simp [size_zeroCells,Value.cells];omega
theorem jM:ah Tryz.prog 81 [.aH 1 [] 0] (.aH 1 [] 0):=by
 refine ⟨⟨rfl,rfl⟩,by kernel_rfl,fun D nu w vargs hro hra=> ?_⟩;obtain ⟨x,rfl,hx⟩:=di hra;obtain ⟨a,c,rfl⟩:=sl hx
 have key:Calls Tryz.prog 81 #[.slice a 0 c] w (fun e w'=> ∃b,e = .returned (.slice b 0 0)∧Below w.heap.size w w'):=by
  have hq: ∀w,(binOp .eql 98 (.slice a 0 c) (.slice none 0 0)).run Tryz.prog w = .ok (.bool a.isNone) w:=fun w=>(mT (by kernel_rfl)).1;have HB:=Lib.hid (fun ob=>((Below.refl w.heap.size w).alloc (Nat.le_refl _) ob))
  cases a with
  | none=>
   clear hx hra hro
   go_enter Tryz.func81,Tryz.ntmps81
   go_wp2
   go_ret
   exact ⟨none,rfl, .refl _ _⟩
  | some a=>
   clear hx hra hro
   go_enter Tryz.func81,Tryz.ntmps81
   go_wp2
   go_ret
   exact ⟨some _,rfl,HB.out _⟩
 refine key.mono ?_;rintro e w' ⟨b,rfl,hb⟩;refine ⟨_,nu,[], .aH 1 [] 0,rfl,aw hb,hro.below hb, ?_,rfl,rfl⟩
 cases b with
 | none=>exact .br 1
 | some b=>exact .bz 1 b
theorem Ge (a b:List Nat) (ha:a.length<=400000) (hb:b.length<=400000):aK Tryz.prog 78 [.aH 1 [[.aH 1 (aj a) a.length],[.aH 1 (aj b) b.length]] 2] [] (.vec 0 (a++b).length) [some ⟨3,1,true,aj (a++b)⟩]:=by
 have G:=GI (a.length+b.length) (by omega);have c0:((0:Nat):Int)=0:=rfl;have c1:((1:Nat):Int)=1:=rfl;have c2:((2:Nat):Int)=2:=rfl;have w1:IntKind.i64.wrap ((0:Int)+1)=1:=rfl;have w2:IntKind.i64.wrap ((1:Int)+1)=2:=rfl
 have s0:IntKind.i64.wrap ((0:Int)+(a.length:Int))=(a.length:Int):=by rw [Int.zero_add];exact cF (by omega) (by omega)
 have s1:IntKind.i64.wrap ((a.length:Int)+(b.length:Int))=((a.length+b.length:Nat):Int):=by rw [cF (by omega) (by omega)];omega
 have n0:decide ((a.length:Int)<0)=false:=decide_eq_false (by omega);have n1:decide (((a.length+b.length:Nat):Int)<0)=false:=decide_eq_false (by omega)
 (refine aK.enter Tryz.func78 rfl (by kernel_rfl) (by kernel_rfl) rfl ?_;simp only [Tryz.ntmps78,Tryz.results78,U9,U3,Nat.reduceAdd,Nat.reduceSub,WW,WX,WY,WZ])
 repeat (first|(with_reducible first|refine ag.up ?_|refine fun (K:AK) hK=> ?_|(refine hK _ ?_;clear hK K))|simp only [go_sem]|with_reducible refine wA ?_|clear hK K)
 refine bD (ι:=Nat) 11 (fun i=>[(3, .v (.int .i64 (if i=0 then 0 else if i=1 then a.length else a.length+b.length:Nat))),(5, .undef),(11, .v (.int .i64 i))]) (fun i=>2 - i) (fun i=>i<=2) 0 (by omega) ?_ ?_
 ·(refine aq ?_ ?_ ?_<;>simp only [aD,WJ,WK,WW,WX,aW,aY,AV.v.injEq,Value.int.injEq,Value.bool.injEq,Value.string.injEq,AV.vec.injEq,AV.ptr.injEq,true_or,or_true,false_or,or_false,aa.mk.injEq,forall_eq_apply_imp_iff,forall_eq,forall_eq',go_sem])
  all_goals first|rfl|exact ⟨rfl,rfl⟩
 rintro i hi K hK
 have hi3:i=0∨i=1∨i=2:=by omega
 rcases hi3 with hi0|hi0|hi0
 ·repeat (first|(with_reducible first|refine ag.up ?_|refine fun (K:AK) hK=> ?_|(refine hK _ ?_;clear hK K))|simp only [go_sem,hi0,c0,c1,c2,decide_true,decide_false,w1,s0,n0]|with_reducible refine wA ?_|clear hK K)
  exact aJ.mk 1 (by omega) (by omega) (by (refine aq ?_ ?_ ?_<;>simp only [aD,WJ,WK,WW,WX,aW,aY,AV.v.injEq,Value.int.injEq,Value.bool.injEq,Value.string.injEq,AV.vec.injEq,AV.ptr.injEq,true_or,or_true,false_or,or_false,aa.mk.injEq,forall_eq_apply_imp_iff,forall_eq,forall_eq',go_sem]);rfl)
 ·repeat (first|(with_reducible first|refine ag.up ?_|refine fun (K:AK) hK=> ?_|(refine hK _ ?_;clear hK K))|simp only [go_sem,hi0,c0,c1,c2,decide_true,decide_false,w2,s1,n1]|with_reducible refine wA ?_|clear hK K)
  exact aJ.mk 2 (by omega) (by omega) (by (refine aq ?_ ?_ ?_<;>simp only [aD,WJ,WK,WW,WX,aW,aY,AV.v.injEq,Value.int.injEq,Value.bool.injEq,Value.string.injEq,AV.vec.injEq,AV.ptr.injEq,true_or,or_true,false_or,or_false,aa.mk.injEq,forall_eq_apply_imp_iff,forall_eq,forall_eq',go_sem]);rfl)
 ·repeat (first|(with_reducible first|refine ag.up ?_|refine fun (K:AK) hK=> ?_|(refine hK _ ?_;clear hK K))|simp only [go_sem,hi0,c0,c1,c2,decide_true,decide_false]|with_reducible refine wA ?_|clear hK K)
  refine ab.fr [] G (by simp) ?_ ?_ ?_ ?_ ?_
  ·rfl
  ·rfl
  ·rfl
  ·intro k ob hk;simp at hk
  repeat (first|(with_reducible first|refine ag.up ?_|refine fun (K:AK) hK=> ?_|(refine hK _ ?_;clear hK K))|simp only [go_sem]|with_reducible refine wA ?_|clear hK K)
  have eA:(aj a).length=a.length:=by simp [aj]
  have eB:(aj b).length=b.length:=by simp [aj]
  have eTa:(aj a).take a.length=aj a:=W4 (by omega);have eTb:(aj b).take b.length=aj b:=W4 (by omega)
  refine bI (ι:=Nat) 27 (fun i=>[(6, .vec 0 (if i=0 then 0 else if i=1 then a.length else a.length+b.length)),(8, .undef),(27, .v (.int .i64 i))]) (fun i=>[some ⟨3,1,true,if i=0 then [] else if i=1 then aj a else aj a++aj b⟩]) (fun i=>2 - i) (fun i=>i<=2) 0 (by omega) ?_ ?_
  ·(refine aq ?_ ?_ ?_<;>simp only [aD,WJ,WK,WW,WX,aW,aY,AV.v.injEq,Value.int.injEq,Value.bool.injEq,Value.string.injEq,AV.vec.injEq,AV.ptr.injEq,true_or,or_true,false_or,or_false,aa.mk.injEq,forall_eq_apply_imp_iff,forall_eq,forall_eq',go_sem])
   rfl
  rintro i hi K hK
  have hi3:i=0∨i=1∨i=2:=by omega
  rcases hi3 with hi0|hi0|hi0
  ·repeat (first|(with_reducible first|refine ag.up ?_|refine fun (K:AK) hK=> ?_|(refine hK _ ?_;clear hK K))|simp only [go_sem,hi0,c0,c1,c2,decide_true,decide_false,w1,eA,eTa]|with_reducible refine wA ?_|clear hK K)
   exact aJ.mk 1 (by omega) (by omega) (by (refine aq ?_ ?_ ?_<;>simp only [aD,WJ,WK,WW,WX,aW,aY,AV.v.injEq,Value.int.injEq,Value.bool.injEq,Value.string.injEq,AV.vec.injEq,AV.ptr.injEq,true_or,or_true,false_or,or_false,aa.mk.injEq,forall_eq_apply_imp_iff,forall_eq,forall_eq',go_sem]);rfl)
  ·repeat (first|(with_reducible first|refine ag.up ?_|refine fun (K:AK) hK=> ?_|(refine hK _ ?_;clear hK K))|simp only [go_sem,hi0,c0,c1,c2,decide_true,decide_false,w2,eA,eB,eTb]|with_reducible refine wA ?_|clear hK K)
   exact aJ.mk 2 (by omega) (by omega) (by (refine aq ?_ ?_ ?_<;>simp only [aD,WJ,WK,WW,WX,aW,aY,AV.v.injEq,Value.int.injEq,Value.bool.injEq,Value.string.injEq,AV.vec.injEq,AV.ptr.injEq,true_or,or_true,false_or,or_false,aa.mk.injEq,forall_eq_apply_imp_iff,forall_eq,forall_eq',go_sem]);rfl)
  ·repeat (first|(with_reducible first|refine ag.up ?_|refine fun (K:AK) hK=> ?_|(refine hK _ ?_;clear hK K))|simp only [go_sem,hi0,c0,c1,c2,decide_true,decide_false]|with_reducible refine wA ?_|clear hK K)
   have eAB:aj a++aj b=aj (a++b):=by simp [aj]
   simp only [eAB,List.length_append]
   (refine ⟨?_, ?_, ?_⟩<;>simp only [aW,aY,AV.v.injEq,Value.int.injEq,Value.bool.injEq,Value.string.injEq,AV.vec.injEq,AV.ptr.injEq,true_or,or_true,false_or,or_false,aa.mk.injEq,forall_eq_apply_imp_iff,forall_eq,forall_eq',go_sem])
theorem Gf (a b:List Nat) (ha:a.length<=400000) (hb:b.length<=400000):aK Tryz.prog 78 [.vec 0 2] [some ⟨98,1,true,[[.aH 1 (aj a) a.length],[.aH 1 (aj b) b.length]]⟩] (.vec 1 (a++b).length) [some ⟨98,1,true,[[.aH 1 (aj a) a.length],[.aH 1 (aj b) b.length]]⟩,some ⟨3,1,true,aj (a++b)⟩]:=by
 have G:=GI (a.length+b.length) (by omega);have c0:((0:Nat):Int)=0:=rfl;have c1:((1:Nat):Int)=1:=rfl;have c2:((2:Nat):Int)=2:=rfl;have w1:IntKind.i64.wrap ((0:Int)+1)=1:=rfl;have w2:IntKind.i64.wrap ((1:Int)+1)=2:=rfl
 have s0:IntKind.i64.wrap ((0:Int)+(a.length:Int))=(a.length:Int):=by rw [Int.zero_add];exact cF (by omega) (by omega)
 have s1:IntKind.i64.wrap ((a.length:Int)+(b.length:Int))=((a.length+b.length:Nat):Int):=by rw [cF (by omega) (by omega)];omega
 have n0:decide ((a.length:Int)<0)=false:=decide_eq_false (by omega);have n1:decide (((a.length+b.length:Nat):Int)<0)=false:=decide_eq_false (by omega)
 (refine aK.enter Tryz.func78 rfl (by kernel_rfl) (by kernel_rfl) rfl ?_;simp only [Tryz.ntmps78,Tryz.results78,U9,U3,Nat.reduceAdd,Nat.reduceSub,WW,WX,WY,WZ])
 repeat (first|(with_reducible first|refine ag.up ?_|refine fun (K:AK) hK=> ?_|(refine hK _ ?_;clear hK K))|simp only [go_sem]|with_reducible refine wA ?_|clear hK K)
 refine bD (ι:=Nat) 11 (fun i=>[(3, .v (.int .i64 (if i=0 then 0 else if i=1 then a.length else a.length+b.length:Nat))),(5, .undef),(11, .v (.int .i64 i))]) (fun i=>2 - i) (fun i=>i<=2) 0 (by omega) ?_ ?_
 ·(refine aq ?_ ?_ ?_<;>simp only [aD,WJ,WK,WW,WX,aW,aY,AV.v.injEq,Value.int.injEq,Value.bool.injEq,Value.string.injEq,AV.vec.injEq,AV.ptr.injEq,true_or,or_true,false_or,or_false,aa.mk.injEq,forall_eq_apply_imp_iff,forall_eq,forall_eq',go_sem])
  all_goals first|rfl|exact ⟨rfl,rfl⟩
 rintro i hi K hK
 have hi3:i=0∨i=1∨i=2:=by omega
 rcases hi3 with hi0|hi0|hi0
 ·repeat (first|(with_reducible first|refine ag.up ?_|refine fun (K:AK) hK=> ?_|(refine hK _ ?_;clear hK K))|simp only [go_sem,hi0,c0,c1,c2,decide_true,decide_false,w1,s0,n0]|with_reducible refine wA ?_|clear hK K)
  exact aJ.mk 1 (by omega) (by omega) (by (refine aq ?_ ?_ ?_<;>simp only [aD,WJ,WK,WW,WX,aW,aY,AV.v.injEq,Value.int.injEq,Value.bool.injEq,Value.string.injEq,AV.vec.injEq,AV.ptr.injEq,true_or,or_true,false_or,or_false,aa.mk.injEq,forall_eq_apply_imp_iff,forall_eq,forall_eq',go_sem]);rfl)
 ·repeat (first|(with_reducible first|refine ag.up ?_|refine fun (K:AK) hK=> ?_|(refine hK _ ?_;clear hK K))|simp only [go_sem,hi0,c0,c1,c2,decide_true,decide_false,w2,s1,n1]|with_reducible refine wA ?_|clear hK K)
  exact aJ.mk 2 (by omega) (by omega) (by (refine aq ?_ ?_ ?_<;>simp only [aD,WJ,WK,WW,WX,aW,aY,AV.v.injEq,Value.int.injEq,Value.bool.injEq,Value.string.injEq,AV.vec.injEq,AV.ptr.injEq,true_or,or_true,false_or,or_false,aa.mk.injEq,forall_eq_apply_imp_iff,forall_eq,forall_eq',go_sem]);rfl)
 ·repeat (first|(with_reducible first|refine ag.up ?_|refine fun (K:AK) hK=> ?_|(refine hK _ ?_;clear hK K))|simp only [go_sem,hi0,c0,c1,c2,decide_true,decide_false]|with_reducible refine wA ?_|clear hK K)
  refine ab.fr [] G (by simp) ?_ ?_ ?_ ?_ ?_
  ·rfl
  ·rfl
  ·rfl
  ·intro k ob hk;simp at hk
  repeat (first|(with_reducible first|refine ag.up ?_|refine fun (K:AK) hK=> ?_|(refine hK _ ?_;clear hK K))|simp only [go_sem]|with_reducible refine wA ?_|clear hK K)
  have eA:(aj a).length=a.length:=by simp [aj]
  have eB:(aj b).length=b.length:=by simp [aj]
  have eTa:(aj a).take a.length=aj a:=W4 (by omega);have eTb:(aj b).take b.length=aj b:=W4 (by omega)
  refine bI (ι:=Nat) 27 (fun i=>[(6, .vec 1 (if i=0 then 0 else if i=1 then a.length else a.length+b.length)),(8, .undef),(27, .v (.int .i64 i))]) (fun i=>[some ⟨98,1,true,[[.aH 1 (aj a) a.length],[.aH 1 (aj b) b.length]]⟩,some ⟨3,1,true,if i=0 then [] else if i=1 then aj a else aj a++aj b⟩]) (fun i=>2 - i) (fun i=>i<=2) 0 (by omega) ?_ ?_
  ·(refine aq ?_ ?_ ?_<;>simp only [aD,WJ,WK,WW,WX,aW,aY,AV.v.injEq,Value.int.injEq,Value.bool.injEq,Value.string.injEq,AV.vec.injEq,AV.ptr.injEq,true_or,or_true,false_or,or_false,aa.mk.injEq,forall_eq_apply_imp_iff,forall_eq,forall_eq',go_sem])
   rfl
  rintro i hi K hK
  have hi3:i=0∨i=1∨i=2:=by omega
  rcases hi3 with hi0|hi0|hi0
  ·repeat (first|(with_reducible first|refine ag.up ?_|refine fun (K:AK) hK=> ?_|(refine hK _ ?_;clear hK K))|simp only [go_sem,hi0,c0,c1,c2,decide_true,decide_false,w1,eA,eTa]|with_reducible refine wA ?_|clear hK K)
   exact aJ.mk 1 (by omega) (by omega) (by (refine aq ?_ ?_ ?_<;>simp only [aD,WJ,WK,WW,WX,aW,aY,AV.v.injEq,Value.int.injEq,Value.bool.injEq,Value.string.injEq,AV.vec.injEq,AV.ptr.injEq,true_or,or_true,false_or,or_false,aa.mk.injEq,forall_eq_apply_imp_iff,forall_eq,forall_eq',go_sem]);rfl)
  ·repeat (first|(with_reducible first|refine ag.up ?_|refine fun (K:AK) hK=> ?_|(refine hK _ ?_;clear hK K))|simp only [go_sem,hi0,c0,c1,c2,decide_true,decide_false,w2,eA,eB,eTb]|with_reducible refine wA ?_|clear hK K)
   exact aJ.mk 2 (by omega) (by omega) (by (refine aq ?_ ?_ ?_<;>simp only [aD,WJ,WK,WW,WX,aW,aY,AV.v.injEq,Value.int.injEq,Value.bool.injEq,Value.string.injEq,AV.vec.injEq,AV.ptr.injEq,true_or,or_true,false_or,or_false,aa.mk.injEq,forall_eq_apply_imp_iff,forall_eq,forall_eq',go_sem]);rfl)
  ·repeat (first|(with_reducible first|refine ag.up ?_|refine fun (K:AK) hK=> ?_|(refine hK _ ?_;clear hK K))|simp only [go_sem,hi0,c0,c1,c2,decide_true,decide_false]|with_reducible refine wA ?_|clear hK K)
   have eAB:aj a++aj b=aj (a++b):=by simp [aj]
   simp only [eAB,List.length_append]
   (refine ⟨?_, ?_, ?_⟩<;>simp only [aW,aY,AV.v.injEq,Value.int.injEq,Value.bool.injEq,Value.string.injEq,AV.vec.injEq,AV.ptr.injEq,true_or,or_true,false_or,or_false,aa.mk.injEq,forall_eq_apply_imp_iff,forall_eq,forall_eq',go_sem])
theorem JS (l:List Nat) (hl:l.length<=1000000):ah Tryz.prog 81 [.aH 1 (aj l) l.length] (.aH 1 (aj l) l.length):=by
 by_cases h:l=[]
 ·subst h;exact jM
 ·exact (jN l hl h).TT 8 rfl ⟨by simp [aj],by simp [aj],bo _ _⟩ (by simp only [go_sem]) (bo _ _)
def mY (w:List ByteArray) (x:Ex):Prop:= ∀fr:List Nat,fr.Pairwise (· < ·)->(∀j,j∈fr->j<=w.length)->ah Tryz.prog 48 [.agg [cg w], .agg (bC x), .aH 1 (aj fr) fr.length] (.aH 1 (aj (bh w (Lg x) fr)) (bh w (Lg x) fr).length)
theorem xh (w:List ByteArray) (hw:w.length<=100000) (x:Ex) (H:mY w x) (fr:List Nat) (hr:fr.Pairwise (· < ·)) (hb: ∀j,j∈fr->j<=w.length) :
  ah Tryz.prog 79 [.agg [cg w], .agg (bC x), .aH 1 (aj fr) fr.length] (.aH 1 (aj (bh w (bF (Lg x)) fr)) (bh w (bF (Lg x)) fr).length):=by
 have hfl:fr.length<=w.length+1:=cV hr (fun j hj=>by have:=hb j hj;omega);have CL:=JS fr (by omega);obtain ⟨k,s,l⟩:=x;simp only [mY,aN,Ex.kind,Ex.label,Ex.kids,cg] at H ⊢
 (refine ah.enter Tryz.func79 rfl (by kernel_rfl) (by kernel_rfl) rfl (by first|rfl|(simp only [go_sem,WT,Wg,Wn])) (by first|rfl|(simp only [go_sem,WT,Wg,Wn])) ?_;simp only [Tryz.ntmps79,Tryz.results79,U9,U3,Nat.reduceAdd,Nat.reduceSub,WW,WX,WY,WZ])
 repeat (first|(with_reducible first|refine ag.up ?_|refine fun (K:AK) hK=> ?_|(refine hK _ ?_;clear hK K))|simp only [go_sem]|clear hK K)
 refine ab.one CL ?_
 repeat (first|(with_reducible first|refine ag.up ?_|refine fun (K:AK) hK=> ?_|(refine hK _ ?_;clear hK K))|simp only [go_sem]|clear hK K)
 refine bD (ι:=List Nat) 9 (fun out=>[(7, .aH 1 (aj out) out.length),(8, .undef)]) (fun out=>w.length+1 - out.length) (fun out=>Md w (Lg (.mk k s l)) fr out) fr (.start hr hb) ?_ ?_
 ·(refine aq ?_ ?_ ?_<;>simp only [aD,WJ,WK,WW,WX,aW,aY,AV.v.injEq,Value.int.injEq,Value.bool.injEq,Value.string.injEq,AV.vec.injEq,AV.ptr.injEq,true_or,or_true,false_or,or_false,aa.mk.injEq,forall_eq_apply_imp_iff,forall_eq,forall_eq',go_sem])
 rintro out hI K hK;have hol:out.length<=w.length+1:=cV hI.iC (fun j hj=>by have:=hI.le j hj;omega);have HX:=H out hI.iC hI.le;have hbl:=kL w (Lg (.mk k s l)) out
 obtain ⟨n1,n2,n3,n4⟩:=hI.next
 generalize bh w (Lg (.mk k s l)) out=be at HX hbl n1 n2 n3 n4;have CC:=Gf out be (by omega) (by omega);have AA:=qK (out++be) (by simp;omega);generalize ja (out++be)=nx at n1 n2 n3 n4 AA;generalize out++be=cb at CC AA
 repeat (first|(with_reducible first|refine ag.up ?_|refine fun (K:AK) hK=> ?_|(refine hK _ ?_;clear hK K))|simp only [go_sem]|clear hK K)
 refine ab.one HX ?_
 repeat (first|(with_reducible first|refine ag.up ?_|refine fun (K:AK) hK=> ?_|(refine hK _ ?_;clear hK K))|simp only [go_sem]|clear hK K)
 have eC:(aj cb).length=cb.length:=by simp [aj]
 have eN:(aj nx).length=nx.length:=by simp [aj]
 have eZ: ∀f l,bu f (aj l)=aj l:=fun f l=>aS _ _ (bo _ _)
 refine ab.fr [2] CC (by simp) ?_ ?_ ?_ ?_ ?_
 ·simp only [WR,Xb,V7,WG,VB,aa.aV,bu,bw,AV.aV,eZ]
 ·rfl
 ·rfl
 ·intro j ob hj
  match j,hj with
  | 0,hj=>cases hj;simp only [go_sem,WT]
  | j+1,hj=>simp at hj
 repeat (first|(with_reducible first|refine ag.up ?_|refine fun (K:AK) hK=> ?_|(refine hK _ ?_;clear hK K))|simp only [go_sem]|clear hK K)
 refine ab.fr [3] AA (by simp) ?_ ?_ ?_ ?_ ?_
 ·simp only [WR,Xb,V7,WG,VB,aa.aV,eZ]
 ·rfl
 ·rfl
 ·intro j ob hj
  match j,hj with
  | 0,hj=>cases hj;exact bo _ _
  | j+1,hj=>simp at hj
 repeat ((fail_if_success (with_reducible refine bL (i:=3) ?_));first|(with_reducible first|refine ag.up ?_|refine fun (K:AK) hK=> ?_|(refine hK _ ?_;clear hK K))|simp only [go_sem]|clear hK K)
 (try simp only [eZ])
 refine bU (pt 8 4 rfl rfl rfl eN) (by kernel_rfl) ?_
 by_cases he:nx.length=out.length
 ·have hd:((nx.length:Int)==(out.length:Int))=true:=beq_iff_eq.2 (by omega);have hO:=n4 he
  repeat (first|(with_reducible first|refine ag.up ?_|refine fun (K:AK) hK=> ?_|(refine hK _ ?_;clear hK K))|simp only [go_sem,hd]|clear hK K)
  rw [<-hO]
  (refine jb.of 40 rfl ?_;simp only [go_sem])
 ·have hd:((nx.length:Int)==(out.length:Int))=false:=beq_eq_false_iff_ne.2 (by omega)
  repeat (first|(with_reducible first|refine ag.up ?_|refine fun (K:AK) hK=> ?_|(refine hK _ ?_;clear hK K))|simp only [go_sem,hd]|clear hK K)
  exact aJ.mk nx n1 (by omega) (by (refine aq ?_ ?_ ?_<;>simp only [aD,WJ,WK,WW,WX,aW,aY,AV.v.injEq,Value.int.injEq,Value.bool.injEq,Value.string.injEq,AV.vec.injEq,AV.ptr.injEq,true_or,or_true,false_or,or_false,aa.mk.injEq,forall_eq_apply_imp_iff,forall_eq,forall_eq',go_sem]))
theorem zU (w:List ByteArray) (hw:w.length<=100000) (s:ByteArray):mY w (.mk 1 s []):=by
 intro fr hr hb;have hfl:fr.length<=w.length+1:=cV hr (fun j hj=>by have:=hb j hj;omega);have eO:=Kl w s [] fr;simp only [aN,Ex.kind,Ex.label,Ex.kids,cg]
 (refine ah.enter Tryz.func48 rfl (by kernel_rfl) (by kernel_rfl) rfl (by first|rfl|(simp only [go_sem,WT,Wg,Wn])) (by first|rfl|(simp only [go_sem,WT,Wg,Wn])) ?_;simp only [Tryz.ntmps48,Tryz.results48,U9,U3,Nat.reduceAdd,Nat.reduceSub,WW,WX,WY,WZ])
 repeat (first|(with_reducible first|refine ag.up ?_|refine fun (K:AK) hK=> ?_|refine wD ?_|(refine hK _ ?_;clear hK K))|simp only [go_sem]|with_reducible refine wA ?_|clear hK K)
 refine jh (ι:=Nat) 6 3 1 rfl (by decide) 19 (fun i=>[(6, .vec 2 (mJ w s (fr.take i)).length),(8, .undef),(19, .v (.int .i64 i))]) (fun i=>[some ⟨100,1,false,[[.aH 1 (w.map encS) w.length]]⟩,some ⟨25,3,false,[[.v (.int .i64 1), .v (.string s), .aH 3 [] 0]]⟩,some ⟨3,1,true,aj (mJ w s (fr.take i))⟩]) (fun i=>fr.length - i) (fun i=>i<=fr.length) 0 (Nat.zero_le _) ?_ ?_
 ·(refine aq ?_ ?_ ?_<;>simp only [aD,WJ,WK,WW,WX,aW,aY,AV.v.injEq,Value.int.injEq,Value.bool.injEq,Value.string.injEq,AV.vec.injEq,AV.ptr.injEq,true_or,or_true,false_or,or_false,aa.mk.injEq,forall_eq_apply_imp_iff,forall_eq,forall_eq',go_sem])
  ·exact ⟨rfl,rfl⟩
  ·rfl
 rintro i hi K hK
 have hol:(mJ w s (fr.take i)).length<=1000000:=by
  have h1:(mJ w s (fr.take i)).length<=(fr.take i).length:=by rw [mJ,List.length_map];exact List.length_filter_le _ _
  simp at h1;omega
 have eL:(aj (mJ w s (fr.take i))).length=(mJ w s (fr.take i)).length:=by simp [aj]
 repeat (first|(with_reducible first|refine ag.up ?_|refine fun (K:AK) hK=> ?_|refine wD ?_|(refine hK _ ?_;clear hK K))|simp only [go_sem]|with_reducible refine wA ?_|clear hK K)
 refine eJ.part (fun h=> ?_) (fun h=> ?_)
 ·have hlt:i<fr.length:=by (try simp only [bne_iff_ne,ne_eq,bne_eq_false_iff_eq,beq_iff_eq,beq_eq_false_iff_ne,decide_eq_true_eq,decide_eq_false_iff_not,W5,Int.natCast_inj,W8,Int.ofNat_le] at h);omega
  have eW:=aB (k:=i) (by omega)
  have eG:(aj fr).getD i []=[.v (.int .i64 (fr[i]:Nat))]:=by rw [aj,getD_map _ fr i [] hlt]
  have eS:=Em w s fr i hlt;have hfb:=hb fr[i] (WA hlt);generalize fr[i]=k at eG eS hfb;generalize mJ w s (fr.take i)=out at hol eS eL ⊢
  by_cases hk:k<w.length
  ·have hd:decide ((w.length:Int)<=(k:Int))=false:=decide_eq_false (by omega);have eK:=getD_map encS w k [] hk;simp only [encS] at eK;rw [List.getElem?_eq_getElem hk] at eS;generalize w[k]=u at eK eS;have eW2:IntKind.i64.wrap ((k:Int)+1)=((k+1:Nat):Int):=aB (by omega)
   repeat (first|(with_reducible first|refine ag.up ?_|refine fun (K:AK) hK=> ?_|refine wD ?_|(refine hK _ ?_;clear hK K))|simp only [go_sem,eG,hd,eK]|with_reducible refine wA ?_|clear hK K)
   refine eJ.part (fun h2=> ?_) (fun h2=> ?_)
   ·have hus:u=s:=Ip.1 h2;rw [if_pos (by rw [hus])] at eS
    have eA:aj (out++[k+1])=aj out++[[.v (.int .i64 (k+1:Nat))]]:=by simp [aj]
    repeat (first|(with_reducible first|refine ag.up ?_|refine fun (K:AK) hK=> ?_|refine wD ?_|(refine hK _ ?_;clear hK K))|simp only [go_sem,eW,eW2,eL]|with_reducible refine wA ?_|clear hK K)
    exact aJ.mk (i+1) (by omega) (by omega) (by
     simp only [eS,eA,U8,U9,U3]
     (refine aq ?_ ?_ ?_<;>simp only [aD,WJ,WK,WW,WX,aW,aY,AV.v.injEq,Value.int.injEq,Value.bool.injEq,Value.string.injEq,AV.vec.injEq,AV.ptr.injEq,true_or,or_true,false_or,or_false,aa.mk.injEq,forall_eq_apply_imp_iff,forall_eq,forall_eq',go_sem]))
   ·have hus:u≠s:=fun e=>by rw [e] at h2;simp at h2
    rw [if_neg (fun e=>hus (Option.some.inj e)),List.append_nil] at eS
    repeat (first|(with_reducible first|refine ag.up ?_|refine fun (K:AK) hK=> ?_|refine wD ?_|(refine hK _ ?_;clear hK K))|simp only [go_sem,eW]|with_reducible refine wA ?_|clear hK K)
    exact aJ.mk (i+1) (by omega) (by omega) (by simp only [eS];(refine aq ?_ ?_ ?_<;>simp only [aD,WJ,WK,WW,WX,aW,aY,AV.v.injEq,Value.int.injEq,Value.bool.injEq,Value.string.injEq,AV.vec.injEq,AV.ptr.injEq,true_or,or_true,false_or,or_false,aa.mk.injEq,forall_eq_apply_imp_iff,forall_eq,forall_eq',go_sem]))
  ·have hd:decide ((w.length:Int)<=(k:Int))=true:=decide_eq_true (by omega);rw [List.getElem?_eq_none (by omega),if_neg (by simp),List.append_nil] at eS
   repeat (first|(with_reducible first|refine ag.up ?_|refine fun (K:AK) hK=> ?_|refine wD ?_|(refine hK _ ?_;clear hK K))|simp only [go_sem,eG,hd,eW,Go.undef]|with_reducible refine wA ?_|clear hK K)
   exact aJ.mk (i+1) (by omega) (by omega) (by simp only [eS];(refine aq ?_ ?_ ?_<;>simp only [aD,WJ,WK,WW,WX,aW,aY,AV.v.injEq,Value.int.injEq,Value.bool.injEq,Value.string.injEq,AV.vec.injEq,AV.ptr.injEq,true_or,or_true,false_or,or_false,aa.mk.injEq,forall_eq_apply_imp_iff,forall_eq,forall_eq',go_sem]))
 ·have hie:i=fr.length:=by (try simp only [bne_iff_ne,ne_eq,bne_eq_false_iff_eq,beq_iff_eq,beq_eq_false_iff_ne,decide_eq_true_eq,decide_eq_false_iff_not,W5,Int.natCast_inj,W8,Int.ofNat_le] at h);omega
  have e1:fr.take i=fr:=by rw [hie,Xc]
  rw [e1] at hol
  repeat ((fail_if_success (with_reducible refine bL (i:=28) ?_));first|(with_reducible first|refine ag.up ?_|refine fun (K:AK) hK=> ?_|(refine hK _ ?_;clear hK K))|simp only [go_sem,e1]|with_reducible refine wA ?_|clear hK K)
  generalize mJ w s fr=out at hol eO ⊢;have ho:=hol;refine bU (pt 6 2 rfl rfl rfl (by simp [aj])) (by kernel_rfl) ?_
  rcases Xd out with hO|⟨out0,z0,hO⟩
  ·subst hO;have C0:=jM;have A0:=tG;have e0:aj []=[]:=rfl;simp only [e0,U3]
   repeat (first|(with_reducible first|refine ag.up ?_|refine fun (K:AK) hK=> ?_|refine wD ?_|(refine hK _ ?_;clear hK K))|simp only [go_sem]|with_reducible refine wA ?_|clear hK K)
   refine ab.one C0 ?_
   repeat (first|(with_reducible first|refine ag.up ?_|refine fun (K:AK) hK=> ?_|refine wD ?_|(refine hK _ ?_;clear hK K))|simp only [go_sem]|with_reducible refine wA ?_|clear hK K)
   refine ab.one A0 ?_
   repeat (first|(with_reducible first|refine ag.up ?_|refine fun (K:AK) hK=> ?_|refine wD ?_|(refine hK _ ?_;clear hK K))|simp only [go_sem]|with_reducible refine wA ?_|clear hK K)
   rw [<-eO]
   (refine jb.of 40 rfl ?_;simp only [go_sem])
  ·have hne:out≠[]:=by rw [hO];simp
   have CL:=jN out ho hne;have AA:=qK out ho
   have eN:(aj (ja out)).length=(ja out).length:=by simp [aj]
   have eZ: ∀f l,bu f (aj l)=aj l:=fun f l=>aS _ _ (bo _ _)
   repeat (first|(with_reducible first|refine ag.up ?_|refine fun (K:AK) hK=> ?_|refine wD ?_|(refine hK _ ?_;clear hK K))|simp only [go_sem]|with_reducible refine wA ?_|clear hK K)
   refine ab.fr [] CL (by simp) ?_ ?_ ?_ ?_ ?_
   ·rfl
   ·exact (cn _ _ (by simp only [go_sem])).symm
   ·simp only [U3,go_sem]
   ·intro k ob hk;simp at hk
   repeat (first|(with_reducible first|refine ag.up ?_|refine fun (K:AK) hK=> ?_|refine wD ?_|(refine hK _ ?_;clear hK K))|simp only [go_sem]|with_reducible refine wA ?_|clear hK K)
   refine ab.fr [3] AA (by simp) ?_ ?_ ?_ ?_ ?_
   ·simp only [WR,Xb,V7,WG,VB,aa.aV,eZ]
   ·rfl
   ·rfl
   ·intro j ob hj
    match j,hj with
    | 0,hj=>cases hj;exact bo _ _
    | j+1,hj=>simp at hj
   repeat (first|(with_reducible first|refine ag.up ?_|refine fun (K:AK) hK=> ?_|refine wD ?_|(refine hK _ ?_;clear hK K))|simp only [go_sem]|with_reducible refine wA ?_|clear hK K)
   rw [<-eO]
   (try simp only [eZ])
   (refine jb.of 40 rfl ?_;simp only [go_sem])
   exact eN
theorem zW (w:List ByteArray) (hw:w.length<=100000) (s:ByteArray) (l:List Ex) (hl:l.length<=1000000) (H: ∀x,x∈l->mY w x):mY w (.mk 2 s l):=by
 intro fr hr hb;have hfl:fr.length<=w.length+1:=cV hr (fun j hj=>by have:=hb j hj;omega);have hst:=Mv hr hb;simp only [aN,Ex.kind,Ex.label,Ex.kids,cg]
 (refine ah.enter Tryz.func48 rfl (by kernel_rfl) (by kernel_rfl) rfl (by first|rfl|(simp only [go_sem,WT,Wg,Wn])) (by first|rfl|(simp only [go_sem,WT,Wg,Wn])) ?_;simp only [Tryz.ntmps48,Tryz.results48,U9,U3,Nat.reduceAdd,Nat.reduceSub,WW,WX,WY,WZ])
 repeat (first|(with_reducible first|refine ag.up ?_|refine fun (K:AK) hK=> ?_|(refine hK _ ?_;clear hK K))|simp only [go_sem]|with_reducible refine wA ?_|clear hK K)
 refine bI (ι:=Nat) 50 (fun i=>[(6, .aH 1 (aj (bh w (bT (l.take i)) fr)) (bh w (bT (l.take i)) fr).length),(10, .undef),(50, .v (.int .i64 i))]) (fun i=>[some ⟨100,1,false,[[.aH 1 (w.map encS) w.length]]⟩,some ⟨25,3,false,[[.v (.int .i64 2), .v (.string s), .aH 3 (l.map bC) l.length]]⟩]) (fun i=>l.length - i) (fun i=>i<=l.length) 0 (Nat.zero_le _) ?_ ?_
 ·(refine aq ?_ ?_ ?_<;>simp only [aD,WJ,WK,WW,WX,aW,aY,AV.v.injEq,Value.int.injEq,Value.bool.injEq,Value.string.injEq,AV.vec.injEq,AV.ptr.injEq,true_or,or_true,false_or,or_false,aa.mk.injEq,forall_eq_apply_imp_iff,forall_eq,forall_eq',go_sem])
  exact ⟨by rw [hst],rfl⟩
 rintro i hi K hK
 repeat (first|(with_reducible first|refine ag.up ?_|refine fun (K:AK) hK=> ?_|(refine hK _ ?_;clear hK K))|simp only [go_sem]|with_reducible refine wA ?_|clear hK K)
 refine eJ.part (fun h=> ?_) (fun h=> ?_)
 ·have hlt:i<l.length:=by (try simp only [decide_eq_true_eq,decide_eq_false_iff_not,W8] at h);omega
  have eW:=aB (k:=i) (by omega);have eG:=getD_map bC l i [] hlt;have HX:=H l[i] (WA hlt) (bh w (bT (l.take i)) fr) (dM _ _ _) (fun j hj=>BY hj);have eS:=JL w (l.take i) l[i] fr;rw [<-Xe hlt] at eS;rw [eS] at HX;simp only [aN,cg] at HX eG
  repeat (first|(with_reducible first|refine ag.up ?_|refine fun (K:AK) hK=> ?_|(refine hK _ ?_;clear hK K))|simp only [go_sem,eG,aN]|with_reducible refine wA ?_|clear hK K)
  refine ab.one HX ?_
  repeat (first|(with_reducible first|refine ag.up ?_|refine fun (K:AK) hK=> ?_|(refine hK _ ?_;clear hK K))|simp only [go_sem,eW]|with_reducible refine wA ?_|clear hK K)
  exact aJ.mk (i+1) (by omega) (by omega) (by (refine aq ?_ ?_ ?_<;>simp only [aD,WJ,WK,WW,WX,aW,aY,AV.v.injEq,Value.int.injEq,Value.bool.injEq,Value.string.injEq,AV.vec.injEq,AV.ptr.injEq,true_or,or_true,false_or,or_false,aa.mk.injEq,forall_eq_apply_imp_iff,forall_eq,forall_eq',go_sem]))
 ·have hie:i=l.length:=by (try simp only [decide_eq_true_eq,decide_eq_false_iff_not,W8] at h);omega
  have e1:l.take i=l:=by rw [hie,Xc]
  repeat ((fail_if_success (with_reducible refine bL (i:=28) ?_));first|(with_reducible first|refine ag.up ?_|refine fun (K:AK) hK=> ?_|(refine hK _ ?_;clear hK K))|simp only [go_sem,e1]|with_reducible refine wA ?_|clear hK K)
  have eO:ja (bh w (bT l) fr)=bh w (Lg (.mk 2 s l)) fr:=by rw [Bo,ji (Uf s l)]
  have ho:(bh w (bT l) fr).length<=1000000:=by have:=kL w (bT l) fr;omega
  generalize bh w (bT l) fr=out at eO ho ⊢
  rcases Xd out with hO|⟨out0,z0,hO⟩
  ·subst hO;have C0:=jM;have A0:=tG;have e0:aj []=[]:=rfl;simp only [e0,U3]
   repeat (first|(with_reducible first|refine ag.up ?_|refine fun (K:AK) hK=> ?_|(refine hK _ ?_;clear hK K))|simp only [go_sem]|with_reducible refine wA ?_|clear hK K)
   refine ab.one C0 ?_
   repeat (first|(with_reducible first|refine ag.up ?_|refine fun (K:AK) hK=> ?_|(refine hK _ ?_;clear hK K))|simp only [go_sem]|with_reducible refine wA ?_|clear hK K)
   refine ab.one A0 ?_
   repeat (first|(with_reducible first|refine ag.up ?_|refine fun (K:AK) hK=> ?_|(refine hK _ ?_;clear hK K))|simp only [go_sem]|with_reducible refine wA ?_|clear hK K)
   rw [<-eO]
   (refine jb.of 40 rfl ?_;simp only [go_sem])
  ·have hne:out≠[]:=by rw [hO];simp
   have CL:=jN out ho hne;have AA:=qK out ho
   have eN:(aj (ja out)).length=(ja out).length:=by simp [aj]
   have eZ: ∀f l,bu f (aj l)=aj l:=fun f l=>aS _ _ (bo _ _)
   repeat (first|(with_reducible first|refine ag.up ?_|refine fun (K:AK) hK=> ?_|(refine hK _ ?_;clear hK K))|simp only [go_sem]|with_reducible refine wA ?_|clear hK K)
   refine ab.fr [] CL (by simp) ?_ ?_ ?_ ?_ ?_
   ·rfl
   ·exact (cn _ _ (by simp only [go_sem])).symm
   ·simp only [U3,go_sem]
   ·intro k ob hk;simp at hk
   repeat (first|(with_reducible first|refine ag.up ?_|refine fun (K:AK) hK=> ?_|(refine hK _ ?_;clear hK K))|simp only [go_sem]|with_reducible refine wA ?_|clear hK K)
   refine ab.fr [2] AA (by simp) ?_ ?_ ?_ ?_ ?_
   ·simp only [WR,Xb,V7,WG,VB,aa.aV,eZ]
   ·rfl
   ·rfl
   ·intro j ob hj
    match j,hj with
    | 0,hj=>cases hj;exact bo _ _
    | j+1,hj=>simp at hj
   repeat (first|(with_reducible first|refine ag.up ?_|refine fun (K:AK) hK=> ?_|(refine hK _ ?_;clear hK K))|simp only [go_sem]|with_reducible refine wA ?_|clear hK K)
   rw [<-eO]
   (try simp only [eZ])
   (refine jb.of 40 rfl ?_;simp only [go_sem])
   exact eN
theorem B9 (w:List ByteArray) (fr:List Nat): ∀l:List Ex,(l.flatMap (fun x=>bh w (Lg x) fr)).length<=l.length * (w.length+1)
 | []=>by simp
 | x :: l=>by
  have h1:=B9 w fr l;have h2:=kL w (Lg x) fr;rw [List.flatMap_cons,U8,U9,Nat.add_mul,Nat.one_mul];omega
theorem zT (w:List ByteArray) (hw:w.length<=1000) (s:ByteArray) (l:List Ex) (hl:l.length<=900) (H: ∀x,x∈l->mY w x):mY w (.mk 3 s l):=by
 intro fr hr hb;have hfl:fr.length<=w.length+1:=cV hr (fun j hj=>by have:=hb j hj;omega);simp only [aN,Ex.kind,Ex.label,Ex.kids,cg]
 (refine ah.enter Tryz.func48 rfl (by kernel_rfl) (by kernel_rfl) rfl (by first|rfl|(simp only [go_sem,WT,Wg,Wn])) (by first|rfl|(simp only [go_sem,WT,Wg,Wn])) ?_;simp only [Tryz.ntmps48,Tryz.results48,U9,U3,Nat.reduceAdd,Nat.reduceSub,WW,WX,WY,WZ])
 repeat (first|(with_reducible first|refine ag.up ?_|refine fun (K:AK) hK=> ?_|(refine hK _ ?_;clear hK K))|simp only [go_sem]|with_reducible refine wA ?_|clear hK K)
 refine jh (ι:=Nat) 6 3 1 rfl (by decide) 64 (fun i=>[(6, .vec 2 ((l.take i).flatMap (fun x=>bh w (Lg x) fr)).length),(12, .undef),(64, .v (.int .i64 i))]) (fun i=>[some ⟨100,1,false,[[.aH 1 (w.map encS) w.length]]⟩,some ⟨25,3,false,[[.v (.int .i64 3), .v (.string s), .aH 3 (l.map bC) l.length]]⟩,some ⟨3,1,true,aj ((l.take i).flatMap (fun x=>bh w (Lg x) fr))⟩]) (fun i=>l.length - i) (fun i=>i<=l.length) 0 (Nat.zero_le _) ?_ ?_
 ·(refine aq ?_ ?_ ?_<;>simp only [aD,WJ,WK,WW,WX,aW,aY,AV.v.injEq,Value.int.injEq,Value.bool.injEq,Value.string.injEq,AV.vec.injEq,AV.ptr.injEq,true_or,or_true,false_or,or_false,aa.mk.injEq,forall_eq_apply_imp_iff,forall_eq,forall_eq',go_sem])
  ·exact ⟨rfl,rfl⟩
  ·rfl
 rintro i hi K hK
 have hol:((l.take i).flatMap (fun x=>bh w (Lg x) fr)).length<=1000000:=by
  have h1:=B9 w fr (l.take i)
  have h2:(l.take i).length<=900:=by simp;omega
  have h3:(l.take i).length * (w.length+1)<=900 * 1001:=Nat.mul_le_mul h2 (by omega);omega
 repeat (first|(with_reducible first|refine ag.up ?_|refine fun (K:AK) hK=> ?_|(refine hK _ ?_;clear hK K))|simp only [go_sem]|with_reducible refine wA ?_|clear hK K)
 refine eJ.part (fun h=> ?_) (fun h=> ?_)
 ·have hlt:i<l.length:=by (try simp only [decide_eq_true_eq,decide_eq_false_iff_not,W8] at h);omega
  have eW:=aB (k:=i) (by omega);have eG:=getD_map bC l i [] hlt;have HX:=H l[i] (WA hlt) fr hr hb;have hbl:=kL w (Lg l[i]) fr
  have eS:(l.take (i+1)).flatMap (fun x=>bh w (Lg x) fr)=(l.take i).flatMap (fun x=>bh w (Lg x) fr)++bh w (Lg l[i]) fr:=by rw [Xe hlt,List.flatMap_append];simp
  simp only [aN,cg] at HX eG;generalize bh w (Lg l[i]) fr=be at HX hbl eS;generalize (l.take i).flatMap (fun x=>bh w (Lg x) fr)=out at hol eS ⊢
  have eL:(aj out).length=out.length:=by simp [aj]
  have eB:(aj be).length=be.length:=by simp [aj]
  have eT:(aj be).take be.length=aj be:=List.take_of_length_le (by omega)
  have eA:aj (out++be)=aj out++aj be:=by simp [aj]
  repeat (first|(with_reducible first|refine ag.up ?_|refine fun (K:AK) hK=> ?_|(refine hK _ ?_;clear hK K))|simp only [go_sem,eG,aN]|with_reducible refine wA ?_|clear hK K)
  refine ab.one HX ?_
  repeat (first|(with_reducible first|refine ag.up ?_|refine fun (K:AK) hK=> ?_|(refine hK _ ?_;clear hK K))|simp only [go_sem,eW,eL,eB,eT]|with_reducible refine wA ?_|clear hK K)
  exact aJ.mk (i+1) (by omega) (by omega) (by
   simp only [eS,eA,U8]
   (refine aq ?_ ?_ ?_<;>simp only [aD,WJ,WK,WW,WX,aW,aY,AV.v.injEq,Value.int.injEq,Value.bool.injEq,Value.string.injEq,AV.vec.injEq,AV.ptr.injEq,true_or,or_true,false_or,or_false,aa.mk.injEq,forall_eq_apply_imp_iff,forall_eq,forall_eq',go_sem]))
 ·have hie:i=l.length:=by (try simp only [decide_eq_true_eq,decide_eq_false_iff_not,W8] at h);omega
  have e1:l.take i=l:=by rw [hie,Xc]
  rw [e1] at hol
  repeat ((fail_if_success (with_reducible refine bL (i:=28) ?_));first|(with_reducible first|refine ag.up ?_|refine fun (K:AK) hK=> ?_|(refine hK _ ?_;clear hK K))|simp only [go_sem,e1]|with_reducible refine wA ?_|clear hK K)
  have eO:ja (l.flatMap (fun x=>bh w (Lg x) fr))=bh w (Lg (.mk 3 s l)) fr:=by rw [Ms,ji (Ug s l)]
  generalize l.flatMap (fun x=>bh w (Lg x) fr)=out at eO hol ⊢;have ho:=hol;refine bU (pt 6 2 rfl rfl rfl (by simp [aj])) (by kernel_rfl) ?_
  rcases Xd out with hO|⟨out0,z0,hO⟩
  ·subst hO;have C0:=jM;have A0:=tG;have e0:aj []=[]:=rfl;simp only [e0,U3]
   repeat (first|(with_reducible first|refine ag.up ?_|refine fun (K:AK) hK=> ?_|(refine hK _ ?_;clear hK K))|simp only [go_sem]|with_reducible refine wA ?_|clear hK K)
   refine ab.one C0 ?_
   repeat (first|(with_reducible first|refine ag.up ?_|refine fun (K:AK) hK=> ?_|(refine hK _ ?_;clear hK K))|simp only [go_sem]|with_reducible refine wA ?_|clear hK K)
   refine ab.one A0 ?_
   repeat (first|(with_reducible first|refine ag.up ?_|refine fun (K:AK) hK=> ?_|(refine hK _ ?_;clear hK K))|simp only [go_sem]|with_reducible refine wA ?_|clear hK K)
   rw [<-eO]
   (refine jb.of 40 rfl ?_;simp only [go_sem])
  ·have hne:out≠[]:=by rw [hO];simp
   have CL:=jN out ho hne;have AA:=qK out ho
   have eN:(aj (ja out)).length=(ja out).length:=by simp [aj]
   have eZ: ∀f l,bu f (aj l)=aj l:=fun f l=>aS _ _ (bo _ _)
   repeat (first|(with_reducible first|refine ag.up ?_|refine fun (K:AK) hK=> ?_|(refine hK _ ?_;clear hK K))|simp only [go_sem]|with_reducible refine wA ?_|clear hK K)
   refine ab.fr [] CL (by simp) ?_ ?_ ?_ ?_ ?_
   ·rfl
   ·exact (cn _ _ (by simp only [go_sem])).symm
   ·simp only [U3,go_sem]
   ·intro k ob hk;simp at hk
   repeat (first|(with_reducible first|refine ag.up ?_|refine fun (K:AK) hK=> ?_|(refine hK _ ?_;clear hK K))|simp only [go_sem]|with_reducible refine wA ?_|clear hK K)
   refine ab.fr [3] AA (by simp) ?_ ?_ ?_ ?_ ?_
   ·simp only [WR,Xb,V7,WG,VB,aa.aV,eZ]
   ·rfl
   ·rfl
   ·intro j ob hj
    match j,hj with
    | 0,hj=>cases hj;exact bo _ _
    | j+1,hj=>simp at hj
   repeat (first|(with_reducible first|refine ag.up ?_|refine fun (K:AK) hK=> ?_|(refine hK _ ?_;clear hK K))|simp only [go_sem]|with_reducible refine wA ?_|clear hK K)
   rw [<-eO]
   (try simp only [eZ])
   (refine jb.of 40 rfl ?_;simp only [go_sem])
   exact eN
theorem zV (w:List ByteArray) (hw:w.length<=100000) (s:ByteArray) (x:Ex) (H:mY w x):mY w (.mk 6 s [x]):=by
 intro fr hr hb;have hfl:fr.length<=w.length+1:=cV hr (fun j hj=>by have:=hb j hj;omega);have HX:=H fr hr hb;have hbl:=kL w (Lg x) fr;have eO:=MT w s x fr hb;have CC:=(Ge fr (bh w (Lg x) fr) (by omega) (by omega)).TT 8 rfl ⟨by simp [aj],by simp [aj],bo _ _⟩ (by simp only [go_sem,WT]) (bo _ _)
 have ho:(fr++bh w (Lg x) fr).length<=1000000:=by simp;omega
 generalize fr++bh w (Lg x) fr=out at eO CC ho;obtain ⟨k',s',l'⟩:=x;simp only [aN,Ex.kind,Ex.label,Ex.kids,cg,WR,Xb,U9,U3] at HX ⊢
 (refine ah.enter Tryz.func48 rfl (by kernel_rfl) (by kernel_rfl) rfl (by first|rfl|(simp only [go_sem,WT,Wg,Wn])) (by first|rfl|(simp only [go_sem,WT,Wg,Wn])) ?_;simp only [Tryz.ntmps48,Tryz.results48,U9,U3,Nat.reduceAdd,Nat.reduceSub,WW,WX,WY,WZ])
 repeat (first|(with_reducible first|refine ag.up ?_|refine fun (K:AK) hK=> ?_|refine wD ?_|(refine hK _ ?_;clear hK K))|simp only [go_sem]|with_reducible refine wA ?_|clear hK K)
 refine bf.one HX ?_
 repeat (first|(with_reducible first|refine ag.up ?_|refine fun (K:AK) hK=> ?_|refine wD ?_|(refine hK _ ?_;clear hK K))|simp only [go_sem]|with_reducible refine wA ?_|clear hK K)
 refine bf.one CC ?_
 repeat ((fail_if_success (with_reducible refine bL (i:=28) ?_));first|(with_reducible first|refine ag.up ?_|refine fun (K:AK) hK=> ?_|(refine hK _ ?_;clear hK K))|simp only [go_sem]|with_reducible refine wA ?_|clear hK K)
 rcases Xd out with hO|⟨out0,z0,hO⟩
 ·subst hO;have C0:=jM;have A0:=tG;have e0:aj []=[]:=rfl;simp only [e0,U3]
  repeat (first|(with_reducible first|refine ag.up ?_|refine fun (K:AK) hK=> ?_|refine wD ?_|(refine hK _ ?_;clear hK K))|simp only [go_sem]|with_reducible refine wA ?_|clear hK K)
  refine ab.one C0 ?_
  repeat (first|(with_reducible first|refine ag.up ?_|refine fun (K:AK) hK=> ?_|refine wD ?_|(refine hK _ ?_;clear hK K))|simp only [go_sem]|with_reducible refine wA ?_|clear hK K)
  refine ab.one A0 ?_
  repeat (first|(with_reducible first|refine ag.up ?_|refine fun (K:AK) hK=> ?_|refine wD ?_|(refine hK _ ?_;clear hK K))|simp only [go_sem]|with_reducible refine wA ?_|clear hK K)
  rw [<-eO]
  (refine jb.of 40 rfl ?_;simp only [go_sem])
 ·have hne:out≠[]:=by rw [hO];simp
  have CL:=jN out ho hne;have AA:=qK out ho
  have eN:(aj (ja out)).length=(ja out).length:=by simp [aj]
  have eZ: ∀f l,bu f (aj l)=aj l:=fun f l=>aS _ _ (bo _ _)
  repeat (first|(with_reducible first|refine ag.up ?_|refine fun (K:AK) hK=> ?_|refine wD ?_|(refine hK _ ?_;clear hK K))|simp only [go_sem]|with_reducible refine wA ?_|clear hK K)
  refine ab.fr [] CL (by simp) ?_ ?_ ?_ ?_ ?_
  ·rfl
  ·exact (cn _ _ (by simp only [go_sem])).symm
  ·simp only [U3,go_sem]
  ·intro k ob hk;simp at hk
  repeat (first|(with_reducible first|refine ag.up ?_|refine fun (K:AK) hK=> ?_|refine wD ?_|(refine hK _ ?_;clear hK K))|simp only [go_sem]|with_reducible refine wA ?_|clear hK K)
  refine ab.fr [2] AA (by simp) ?_ ?_ ?_ ?_ ?_
  ·simp only [WR,Xb,V7,WG,VB,aa.aV,eZ]
  ·rfl
  ·rfl
  ·intro j ob hj
   match j,hj with
   | 0,hj=>cases hj;exact bo _ _
   | j+1,hj=>simp at hj
  repeat (first|(with_reducible first|refine ag.up ?_|refine fun (K:AK) hK=> ?_|refine wD ?_|(refine hK _ ?_;clear hK K))|simp only [go_sem]|with_reducible refine wA ?_|clear hK K)
  rw [<-eO]
  (try simp only [eZ])
  (refine jb.of 40 rfl ?_;simp only [go_sem])
  exact eN
theorem xq (w:List ByteArray) (hw:w.length<=100000) (s:ByteArray) (x:Ex) (H:mY w x):mY w (.mk 5 s [x]):=by
 intro fr hr hb;have hfl:fr.length<=w.length+1:=cV hr (fun j hj=>by have:=hb j hj;omega);have HX:=H fr hr hb;have AG:=xh w hw x H (bh w (Lg x) fr) (dM _ _ _) (fun j hj=>BY hj)
 have eO:ja (bh w (bF (Lg x)) (bh w (Lg x) fr))=bh w (Lg (.mk 5 s [x])) fr:=by rw [Bo,KM]
 have ho:(bh w (bF (Lg x)) (bh w (Lg x) fr)).length<=1000000:=by have:=kL w (bF (Lg x)) (bh w (Lg x) fr);omega
 generalize bh w (bF (Lg x)) (bh w (Lg x) fr)=out at eO ho AG;obtain ⟨k',s',l'⟩:=x;simp only [aN,Ex.kind,Ex.label,Ex.kids,cg,WR,Xb,U9,U3] at HX AG ⊢
 (refine ah.enter Tryz.func48 rfl (by kernel_rfl) (by kernel_rfl) rfl (by first|rfl|(simp only [go_sem,WT,Wg,Wn])) (by first|rfl|(simp only [go_sem,WT,Wg,Wn])) ?_;simp only [Tryz.ntmps48,Tryz.results48,U9,U3,Nat.reduceAdd,Nat.reduceSub,WW,WX,WY,WZ])
 repeat (first|(with_reducible first|refine ag.up ?_|refine fun (K:AK) hK=> ?_|refine wD ?_|(refine hK _ ?_;clear hK K))|simp only [go_sem]|with_reducible refine wA ?_|clear hK K)
 refine bf.one HX ?_
 repeat (first|(with_reducible first|refine ag.up ?_|refine fun (K:AK) hK=> ?_|refine wD ?_|(refine hK _ ?_;clear hK K))|simp only [go_sem]|with_reducible refine wA ?_|clear hK K)
 refine bf.one AG ?_
 repeat ((fail_if_success (with_reducible refine bL (i:=28) ?_));first|(with_reducible first|refine ag.up ?_|refine fun (K:AK) hK=> ?_|(refine hK _ ?_;clear hK K))|simp only [go_sem]|with_reducible refine wA ?_|clear hK K)
 rcases Xd out with hO|⟨out0,z0,hO⟩
 ·subst hO;have C0:=jM;have A0:=tG;have e0:aj []=[]:=rfl;simp only [e0,U3]
  repeat (first|(with_reducible first|refine ag.up ?_|refine fun (K:AK) hK=> ?_|refine wD ?_|(refine hK _ ?_;clear hK K))|simp only [go_sem]|with_reducible refine wA ?_|clear hK K)
  refine ab.one C0 ?_
  repeat (first|(with_reducible first|refine ag.up ?_|refine fun (K:AK) hK=> ?_|refine wD ?_|(refine hK _ ?_;clear hK K))|simp only [go_sem]|with_reducible refine wA ?_|clear hK K)
  refine ab.one A0 ?_
  repeat (first|(with_reducible first|refine ag.up ?_|refine fun (K:AK) hK=> ?_|refine wD ?_|(refine hK _ ?_;clear hK K))|simp only [go_sem]|with_reducible refine wA ?_|clear hK K)
  rw [<-eO]
  (refine jb.of 40 rfl ?_;simp only [go_sem])
 ·have hne:out≠[]:=by rw [hO];simp
  have CL:=jN out ho hne;have AA:=qK out ho
  have eN:(aj (ja out)).length=(ja out).length:=by simp [aj]
  have eZ: ∀f l,bu f (aj l)=aj l:=fun f l=>aS _ _ (bo _ _)
  repeat (first|(with_reducible first|refine ag.up ?_|refine fun (K:AK) hK=> ?_|refine wD ?_|(refine hK _ ?_;clear hK K))|simp only [go_sem]|with_reducible refine wA ?_|clear hK K)
  refine ab.fr [] CL (by simp) ?_ ?_ ?_ ?_ ?_
  ·rfl
  ·exact (cn _ _ (by simp only [go_sem])).symm
  ·simp only [U3,go_sem]
  ·intro k ob hk;simp at hk
  repeat (first|(with_reducible first|refine ag.up ?_|refine fun (K:AK) hK=> ?_|refine wD ?_|(refine hK _ ?_;clear hK K))|simp only [go_sem]|with_reducible refine wA ?_|clear hK K)
  refine ab.fr [2] AA (by simp) ?_ ?_ ?_ ?_ ?_
  ·simp only [WR,Xb,V7,WG,VB,aa.aV,eZ]
  ·rfl
  ·rfl
  ·intro j ob hj
   match j,hj with
   | 0,hj=>cases hj;exact bo _ _
   | j+1,hj=>simp at hj
  repeat (first|(with_reducible first|refine ag.up ?_|refine fun (K:AK) hK=> ?_|refine wD ?_|(refine hK _ ?_;clear hK K))|simp only [go_sem]|with_reducible refine wA ?_|clear hK K)
  rw [<-eO]
  (try simp only [eZ])
  (refine jb.of 40 rfl ?_;simp only [go_sem])
  exact eN
theorem xr (w:List ByteArray) (hw:w.length<=100000) (s:ByteArray) (x:Ex) (H:mY w x):mY w (.mk 4 s [x]):=by
 intro fr hr hb;have hfl:fr.length<=w.length+1:=cV hr (fun j hj=>by have:=hb j hj;omega);have AG:=xh w hw x H fr hr hb
 have eO:ja (bh w (bF (Lg x)) fr)=bh w (Lg (.mk 4 s [x])) fr:=by rw [Bo,Lc]
 have ho:(bh w (bF (Lg x)) fr).length<=1000000:=by have:=kL w (bF (Lg x)) fr;omega
 generalize bh w (bF (Lg x)) fr=out at eO ho AG;obtain ⟨k',s',l'⟩:=x;simp only [aN,Ex.kind,Ex.label,Ex.kids,cg,WR,Xb,U9,U3] at AG ⊢
 (refine ah.enter Tryz.func48 rfl (by kernel_rfl) (by kernel_rfl) rfl (by first|rfl|(simp only [go_sem,WT,Wg,Wn])) (by first|rfl|(simp only [go_sem,WT,Wg,Wn])) ?_;simp only [Tryz.ntmps48,Tryz.results48,U9,U3,Nat.reduceAdd,Nat.reduceSub,WW,WX,WY,WZ])
 repeat (first|(with_reducible first|refine ag.up ?_|refine fun (K:AK) hK=> ?_|refine wD ?_|(refine hK _ ?_;clear hK K))|simp only [go_sem]|with_reducible refine wA ?_|clear hK K)
 refine bf.one AG ?_
 repeat ((fail_if_success (with_reducible refine bL (i:=28) ?_));first|(with_reducible first|refine ag.up ?_|refine fun (K:AK) hK=> ?_|(refine hK _ ?_;clear hK K))|simp only [go_sem]|with_reducible refine wA ?_|clear hK K)
 rcases Xd out with hO|⟨out0,z0,hO⟩
 ·subst hO;have C0:=jM;have A0:=tG;have e0:aj []=[]:=rfl;simp only [e0,U3]
  repeat (first|(with_reducible first|refine ag.up ?_|refine fun (K:AK) hK=> ?_|refine wD ?_|(refine hK _ ?_;clear hK K))|simp only [go_sem]|with_reducible refine wA ?_|clear hK K)
  refine ab.one C0 ?_
  repeat (first|(with_reducible first|refine ag.up ?_|refine fun (K:AK) hK=> ?_|refine wD ?_|(refine hK _ ?_;clear hK K))|simp only [go_sem]|with_reducible refine wA ?_|clear hK K)
  refine ab.one A0 ?_
  repeat (first|(with_reducible first|refine ag.up ?_|refine fun (K:AK) hK=> ?_|refine wD ?_|(refine hK _ ?_;clear hK K))|simp only [go_sem]|with_reducible refine wA ?_|clear hK K)
  rw [<-eO]
  (refine jb.of 40 rfl ?_;simp only [go_sem])
 ·have hne:out≠[]:=by rw [hO];simp
  have CL:=jN out ho hne;have AA:=qK out ho
  have eN:(aj (ja out)).length=(ja out).length:=by simp [aj]
  have eZ: ∀f l,bu f (aj l)=aj l:=fun f l=>aS _ _ (bo _ _)
  repeat (first|(with_reducible first|refine ag.up ?_|refine fun (K:AK) hK=> ?_|refine wD ?_|(refine hK _ ?_;clear hK K))|simp only [go_sem]|with_reducible refine wA ?_|clear hK K)
  refine ab.fr [] CL (by simp) ?_ ?_ ?_ ?_ ?_
  ·rfl
  ·exact (cn _ _ (by simp only [go_sem])).symm
  ·simp only [U3,go_sem]
  ·intro k ob hk;simp at hk
  repeat (first|(with_reducible first|refine ag.up ?_|refine fun (K:AK) hK=> ?_|refine wD ?_|(refine hK _ ?_;clear hK K))|simp only [go_sem]|with_reducible refine wA ?_|clear hK K)
  refine ab.fr [2] AA (by simp) ?_ ?_ ?_ ?_ ?_
  ·simp only [WR,Xb,V7,WG,VB,aa.aV,eZ]
  ·rfl
  ·rfl
  ·intro j ob hj
   match j,hj with
   | 0,hj=>cases hj;exact bo _ _
   | j+1,hj=>simp at hj
  repeat (first|(with_reducible first|refine ag.up ?_|refine fun (K:AK) hK=> ?_|refine wD ?_|(refine hK _ ?_;clear hK K))|simp only [go_sem]|with_reducible refine wA ?_|clear hK K)
  rw [<-eO]
  (try simp only [eZ])
  (refine jb.of 40 rfl ?_;simp only [go_sem])
  exact eN
inductive wY:Ex->Prop
 | lab (s:ByteArray):wY (.mk 1 s [])
 | many (k:Int) (s:ByteArray) (l:List Ex):(k=2∨k=3)->l.length<=900->(∀x∈l,wY x)->wY (.mk k s l)
 | one (k:Int) (s:ByteArray) (x:Ex):(k=4∨k=5∨k=6)->wY x->wY (.mk k s [x])
theorem F2 (w:List ByteArray) (hw:w.length<=1000) {x:Ex} (h:wY x):mY w x:=by
 induction h with
 | lab s=>exact zU w (by omega) s
 | many k s l hk hl _ ih=>
  rcases hk with rfl|rfl
  ·exact zW w (by omega) s l (by omega) ih
  ·exact zT w hw s l hl ih
 | one k s x hk _ ih=>
  rcases hk with rfl|rfl|rfl
  ·exact xr w (by omega) s x ih
  ·exact xq w (by omega) s x ih
  ·exact zV w (by omega) s x ih
theorem pI {α β:Type} (f:α->List β): ∀(l:List α) (x:α),x∈l->(f x).length<=(l.flatMap f).length
 | y :: l,x,h=>by
  rw [List.flatMap_cons,List.length_append]
  rcases List.mem_cons.1 h with rfl|h
  ·omega
  ·have:=pI f l x h;omega
theorem jQ (k:Int) (s:ByteArray) (l:List Ex):(az (.mk k s l)).length=1+(l.flatMap az).length:=by
 rw [az,b6,U9];omega
theorem xO (x:Ex):1<=(az x).length:=by
 obtain ⟨k,s,l⟩:=x;rw [jQ];omega
theorem Gx (l:List Ex):l.length<=(l.flatMap az).length:=by
 induction l with
 | nil=>simp
 | cons x l ih=>rw [List.flatMap_cons,List.length_append,U9];have:=xO x;omega
theorem pg (x:Ex): ∀y,y∈az x->(az y).length<=(az x).length:=by
 induction x using Ex.ind with
 | h k s l ih=>
  intro y hy;rw [az,b6] at hy
  rcases List.mem_cons.1 hy with rfl|hy
  ·exact Nat.le_refl _
  ·obtain ⟨z,hz,hy⟩:=Xf.1 hy;have h1:=ih z hz y hy;have h2:=pI az l z hz;rw [jQ];omega
theorem vK (x:Ex):x.kids.length<=(az x).length:=by
 obtain ⟨k,s,l⟩:=x;rw [jQ]
 have:=Gx l
 simp only [Ex.kids];omega
theorem oU (x:Ex) (h:x.ok):ah Tryz.prog 46 [.agg (bC x)] (.v (.bool (aI x))):=
 .rV (by kernel_rfl) (by simp only [bp,AV.wf,lu,WT]) (fun D nu w vargs hh=>by
  obtain ⟨a,rfl,ha⟩:=di hh;obtain ⟨ca,rfl,ka⟩:=H6 ha
  exact sN x ca w (Ic x ca ka) h)
def xY (p:Ex->Bool):List Ex->Nat->Int
 | [],_=> -1
 | x :: xs,i=>if p x then (i:Int) else xY p xs (i+1)
theorem xZ (p:Ex->Bool): ∀(l:List Ex) (i:Nat),decide (0<=xY p l i)=l.any p
 | [],i=>rfl
 | x :: xs,i=>by
  rw [xY,List.any_cons]
  cases p x with
  | true=>simp
  | false=>simpa using xZ p xs (i+1)
theorem vI {g:FuncId} (p:Ex->Bool) (l:List Ex) (hl:l.length<=1000000) (H: ∀x,x∈l->ah Tryz.prog g [.agg (bC x)] (.v (.bool (p x)))) :
  ah Tryz.prog 130 [.aH 3 (l.map bC) l.length, .fn g [] []] (.v (.int .i64 (xY p l 0))):=by
 (refine ah.enter Tryz.func130 rfl (by kernel_rfl) (by kernel_rfl) rfl (by first|rfl|(simp only [go_sem,WT,Wg,Wn])) (by first|rfl|(simp only [go_sem,WT,Wg,Wn])) ?_;simp only [Tryz.ntmps130,Tryz.results130,U9,U3,Nat.reduceAdd,Nat.reduceSub,WW,WX,WY,WZ])
 repeat (first|(with_reducible first|refine ag.up ?_|refine fun (K:AK) hK=> ?_|(refine hK _ ?_;clear hK K))|simp only [go_sem]|with_reducible refine wA ?_|clear hK K)
 refine bD (ι:=Nat) 8 (fun i=>[(5, .undef),(8, .v (.int .i64 i))]) (fun i=>l.length - i) (fun i=>i<=l.length∧xY p l 0=xY p (l.drop i) i) 0 ⟨Nat.zero_le _,rfl⟩ ?_ ?_
 ·(refine aq ?_ ?_ ?_<;>simp only [aD,List.foldl_cons,List.foldl_nil,WW,WX,aW,aY,AV.v.injEq,Value.int.injEq,Value.bool.injEq,Value.string.injEq,AV.vec.injEq,AV.ptr.injEq,true_or,or_true,false_or,or_false,aa.mk.injEq,forall_eq_apply_imp_iff,forall_eq,forall_eq',go_sem])
  rfl
 rintro i ⟨hi,hx⟩ K hK
 repeat (first|(with_reducible first|refine ag.up ?_|refine fun (K:AK) hK=> ?_|(refine hK _ ?_;clear hK K))|simp only [go_sem]|with_reducible refine wA ?_|clear hK K)
 refine eJ.part (fun h=> ?_) (fun h=> ?_)
 ·have hlt:i<l.length:=by (try simp only [bne_iff_ne,ne_eq,bne_eq_false_iff_eq,beq_iff_eq,beq_eq_false_iff_ne,decide_eq_true_eq,decide_eq_false_iff_not,W5,Int.natCast_inj,Int.ofNat_lt,Int.ofNat_le] at h);omega
  have eW:=aB (k:=i) (by omega);have eG:=getD_map bC l i [] hlt;have HX:=H l[i] (List.getElem_mem hlt);rw [List.drop_eq_getElem_cons hlt,xY] at hx;simp only [aN] at HX eG
  repeat (first|(with_reducible first|refine ag.up ?_|refine fun (K:AK) hK=> ?_|(refine hK _ ?_;clear hK K))|simp only [go_sem,eG,aN]|with_reducible refine wA ?_|clear hK K)
  refine ab.one HX ?_
  rcases Xg (p l[i]) with hp|hp
  ·rw [hp,if_pos rfl] at hx
   repeat (first|(with_reducible first|refine ag.up ?_|refine fun (K:AK) hK=> ?_|(refine hK _ ?_;clear hK K))|simp only [go_sem,hp]|with_reducible refine wA ?_|clear hK K)
   rw [hx]
  ·rw [hp,if_neg (by decide)] at hx
   repeat (first|(with_reducible first|refine ag.up ?_|refine fun (K:AK) hK=> ?_|(refine hK _ ?_;clear hK K))|simp only [go_sem,hp,eW]|with_reducible refine wA ?_|clear hK K)
   exact aJ.mk (i+1) ⟨by omega,hx⟩ (by omega) (by (refine aq ?_ ?_ ?_<;>simp only [aD,List.foldl_cons,List.foldl_nil,WW,WX,aW,aY,AV.v.injEq,Value.int.injEq,Value.bool.injEq,Value.string.injEq,AV.vec.injEq,AV.ptr.injEq,true_or,or_true,false_or,or_false,aa.mk.injEq,forall_eq_apply_imp_iff,forall_eq,forall_eq',go_sem]))
 ·have:i=l.length:=by (try simp only [bne_iff_ne,ne_eq,bne_eq_false_iff_eq,beq_iff_eq,beq_eq_false_iff_ne,decide_eq_true_eq,decide_eq_false_iff_not,W5,Int.natCast_inj,Int.ofNat_lt,Int.ofNat_le] at h);omega
  rw [this,List.drop_length,xY] at hx
  repeat (first|(with_reducible first|refine ag.up ?_|refine fun (K:AK) hK=> ?_|(refine hK _ ?_;clear hK K))|simp only [go_sem]|with_reducible refine wA ?_|clear hK K)
  rw [hx]
theorem kn {g:FuncId} (p:Ex->Bool) (l:List Ex) (hl:l.length<=1000000) (H: ∀x,x∈l->ah Tryz.prog g [.agg (bC x)] (.v (.bool (p x)))) :
  ah Tryz.prog 90 [.aH 3 (l.map bC) l.length, .fn g [] []] (.v (.bool (l.any p))):=by
 have C:=vI p l hl H
 (refine ah.enter Tryz.func90 rfl (by kernel_rfl) (by kernel_rfl) rfl (by first|rfl|(simp only [go_sem,WT,Wg,Wn])) (by first|rfl|(simp only [go_sem,WT,Wg,Wn])) ?_;simp only [Tryz.ntmps90,Tryz.results90,U9,U3,Nat.reduceAdd,Nat.reduceSub,WW,WX,WY,WZ])
 repeat (first|(with_reducible first|refine ag.up ?_|refine fun (K:AK) hK=> ?_|(refine hK _ ?_;clear hK K))|simp only [go_sem]|clear hK K)
 refine ab.one C ?_
 repeat (first|(with_reducible first|refine ag.up ?_|refine fun (K:AK) hK=> ?_|(refine hK _ ?_;clear hK K))|simp only [go_sem]|clear hK K)
 rw [xZ]
theorem AP (x:Ex) (H:ah Tryz.prog 51 [.agg (bC x)] (.v (.bool (bb x)))):ah Tryz.prog 91 [.agg (bC x)] (.v (.bool (!bb x))):=by
 simp only [aN] at H ⊢
 (refine ah.enter Tryz.func91 rfl (by kernel_rfl) (by kernel_rfl) rfl (by first|rfl|(simp only [go_sem,WT,Wg,Wn])) (by first|rfl|(simp only [go_sem,WT,Wg,Wn])) ?_;simp only [Tryz.ntmps91,Tryz.results91,U9,U3,Nat.reduceAdd,Nat.reduceSub,WW,WX,WY,WZ])
 repeat (first|(with_reducible first|refine ag.up ?_|refine fun (K:AK) hK=> ?_|(refine hK _ ?_;clear hK K))|simp only [go_sem]|clear hK K)
 refine ab.one H ?_
 repeat (first|(with_reducible first|refine ag.up ?_|refine fun (K:AK) hK=> ?_|(refine hK _ ?_;clear hK K))|simp only [go_sem]|clear hK K)
theorem J2 (x:Ex) (hx:x.lens 1000000):ah Tryz.prog 51 [.agg (bC x)] (.v (.bool (bb x))):=by
 induction x using Ex.ind with
 | h k s l ih=>
  have hl:l.length<=1000000:=hx (.mk k s l) (by rw [az];exact V4);have H:=fun x (h:x∈l)=>ih x h (fun y hy=>hx y (by rw [az,b6];exact V2 _ (Xf.2 ⟨x,h,hy⟩)));have C1:=kn bb l hl H;have C2:=kn (fun x=> !bb x) l hl (fun x h=>AP x (H x h))
  have e1:l.all bb = !l.any (fun x=> !bb x):=by simp [List.all_eq_not_any_not]
  simp only [aN,Ex.kind,Ex.label,Ex.kids,bb,mD,jP]
  by_cases h4:k=4
  ·subst h4
   (refine ah.enter Tryz.func51 rfl (by kernel_rfl) (by kernel_rfl) rfl (by first|rfl|(simp only [go_sem,WT,Wg,Wn])) (by first|rfl|(simp only [go_sem,WT,Wg,Wn])) ?_;simp only [Tryz.ntmps51,Tryz.results51,U9,U3,Nat.reduceAdd,Nat.reduceSub,WW,WX,WY,WZ])
   repeat (first|(with_reducible first|refine ag.up ?_|refine fun (K:AK) hK=> ?_|(refine hK _ ?_;clear hK K))|simp only [go_sem]|with_reducible refine wA ?_|clear hK K)
  ·by_cases h6:k=6
   ·subst h6
    (refine ah.enter Tryz.func51 rfl (by kernel_rfl) (by kernel_rfl) rfl (by first|rfl|(simp only [go_sem,WT,Wg,Wn])) (by first|rfl|(simp only [go_sem,WT,Wg,Wn])) ?_;simp only [Tryz.ntmps51,Tryz.results51,U9,U3,Nat.reduceAdd,Nat.reduceSub,WW,WX,WY,WZ])
    repeat (first|(with_reducible first|refine ag.up ?_|refine fun (K:AK) hK=> ?_|(refine hK _ ?_;clear hK K))|simp only [go_sem]|with_reducible refine wA ?_|clear hK K)
   ·by_cases h3:k=3
    ·subst h3
     (refine ah.enter Tryz.func51 rfl (by kernel_rfl) (by kernel_rfl) rfl (by first|rfl|(simp only [go_sem,WT,Wg,Wn])) (by first|rfl|(simp only [go_sem,WT,Wg,Wn])) ?_;simp only [Tryz.ntmps51,Tryz.results51,U9,U3,Nat.reduceAdd,Nat.reduceSub,WW,WX,WY,WZ])
     repeat (first|(with_reducible first|refine ag.up ?_|refine fun (K:AK) hK=> ?_|(refine hK _ ?_;clear hK K))|simp only [go_sem]|with_reducible refine wA ?_|clear hK K)
     refine ab.one C1 ?_
     repeat (first|(with_reducible first|refine ag.up ?_|refine fun (K:AK) hK=> ?_|(refine hK _ ?_;clear hK K))|simp only [go_sem]|with_reducible refine wA ?_|clear hK K)
    ·by_cases h2:k=2
     ·subst h2
      (refine ah.enter Tryz.func51 rfl (by kernel_rfl) (by kernel_rfl) rfl (by first|rfl|(simp only [go_sem,WT,Wg,Wn])) (by first|rfl|(simp only [go_sem,WT,Wg,Wn])) ?_;simp only [Tryz.ntmps51,Tryz.results51,U9,U3,Nat.reduceAdd,Nat.reduceSub,WW,WX,WY,WZ])
      repeat (first|(with_reducible first|refine ag.up ?_|refine fun (K:AK) hK=> ?_|(refine hK _ ?_;clear hK K))|simp only [go_sem]|with_reducible refine wA ?_|clear hK K)
      refine ab.one C2 ?_
      repeat (first|(with_reducible first|refine ag.up ?_|refine fun (K:AK) hK=> ?_|(refine hK _ ?_;clear hK K))|simp only [go_sem]|with_reducible refine wA ?_|clear hK K)
      rw [e1]
     ·by_cases h5:k=5
      ·subst h5
       (refine ah.enter Tryz.func51 rfl (by kernel_rfl) (by kernel_rfl) rfl (by first|rfl|(simp only [go_sem,WT,Wg,Wn])) (by first|rfl|(simp only [go_sem,WT,Wg,Wn])) ?_;simp only [Tryz.ntmps51,Tryz.results51,U9,U3,Nat.reduceAdd,Nat.reduceSub,WW,WX,WY,WZ])
       repeat (first|(with_reducible first|refine ag.up ?_|refine fun (K:AK) hK=> ?_|(refine hK _ ?_;clear hK K))|simp only [go_sem]|with_reducible refine wA ?_|clear hK K)
       refine ab.one C2 ?_
       repeat (first|(with_reducible first|refine ag.up ?_|refine fun (K:AK) hK=> ?_|(refine hK _ ?_;clear hK K))|simp only [go_sem]|with_reducible refine wA ?_|clear hK K)
       rw [e1]
      ·have f4:(k==4)=false:=beq_false_of_ne h4;have f6:(k==6)=false:=beq_false_of_ne h6;have f3:(k==3)=false:=beq_false_of_ne h3;have f2:(k==2)=false:=beq_false_of_ne h2;have f5:(k==5)=false:=beq_false_of_ne h5;simp only [if_neg h4,if_neg h6,if_neg h3,if_neg h2,if_neg h5]
       (refine ah.enter Tryz.func51 rfl (by kernel_rfl) (by kernel_rfl) rfl (by first|rfl|(simp only [go_sem,WT,Wg,Wn])) (by first|rfl|(simp only [go_sem,WT,Wg,Wn])) ?_;simp only [Tryz.ntmps51,Tryz.results51,U9,U3,Nat.reduceAdd,Nat.reduceSub,WW,WX,WY,WZ])
       repeat (first|(with_reducible first|refine ag.up ?_|refine fun (K:AK) hK=> ?_|(refine hK _ ?_;clear hK K))|simp only [go_sem,f4,f6,f3,f2,f5]|with_reducible refine wA ?_|clear hK K)
def dF (x:Ex):Bool:=aI x&&bb x
theorem Bh {x:Ex} (h:aI x=true):x.lens 1000000:=fun y hy=>by
 simp only [aI,VS,decide_eq_true_eq] at h;have h1:=pg x y hy;have h2:=vK y;omega
theorem uU (x:Ex) (h:x.ok):ah Tryz.prog 28 [.agg (bC x)] (.v (.bool (dF x))):=by
 have R:=oU x h
 rcases Xg (aI x) with hr|hr
 ·have E:=J2 x (Bh hr);rw [hr] at R;rw [show dF x=bb x by rw [dF,hr];rfl];simp only [aN] at R E ⊢
  (refine ah.enter Tryz.func28 rfl (by kernel_rfl) (by kernel_rfl) rfl (by first|rfl|(simp only [go_sem,WT,Wg,Wn])) (by first|rfl|(simp only [go_sem,WT,Wg,Wn])) ?_;simp only [Tryz.ntmps28,Tryz.results28,U9,U3,Nat.reduceAdd,Nat.reduceSub,WW,WX,WY,WZ])
  repeat (first|(with_reducible first|refine ag.up ?_|refine fun (K:AK) hK=> ?_|(refine hK _ ?_;clear hK K))|simp only [go_sem]|clear hK K)
  refine ab.one R ?_
  repeat (first|(with_reducible first|refine ag.up ?_|refine fun (K:AK) hK=> ?_|(refine hK _ ?_;clear hK K))|simp only [go_sem]|clear hK K)
  refine ab.one E ?_
  repeat (first|(with_reducible first|refine ag.up ?_|refine fun (K:AK) hK=> ?_|(refine hK _ ?_;clear hK K))|simp only [go_sem]|clear hK K)
 ·rw [hr] at R;rw [show dF x=false by rw [dF,hr];rfl];simp only [aN] at R ⊢
  (refine ah.enter Tryz.func28 rfl (by kernel_rfl) (by kernel_rfl) rfl (by first|rfl|(simp only [go_sem,WT,Wg,Wn])) (by first|rfl|(simp only [go_sem,WT,Wg,Wn])) ?_;simp only [Tryz.ntmps28,Tryz.results28,U9,U3,Nat.reduceAdd,Nat.reduceSub,WW,WX,WY,WZ])
  repeat (first|(with_reducible first|refine ag.up ?_|refine fun (K:AK) hK=> ?_|(refine hK _ ?_;clear hK K))|simp only [go_sem]|clear hK K)
  refine ab.one R ?_
  repeat (first|(with_reducible first|refine ag.up ?_|refine fun (K:AK) hK=> ?_|(refine hK _ ?_;clear hK K))|simp only [go_sem,Go.undef]|clear hK K)
theorem ED (x:Ex) (h:(az x).all Ex.part=true) (hn:(az x).length<=900):Fit x∧wY x:=by
 induction x using Ex.ind with
 | h k s l ih=>
  have hp:bA k s l.length=true:=Wc.1 h (.mk k s l) (by rw [az];exact V4)
  have hm: ∀x,x∈l->x∈az (.mk k s l):=fun x hx=>by
   rw [az,b6];exact V2 _ (Xf.2 ⟨x,hx,by obtain ⟨k',s',l'⟩:=x;rw [az];exact V4⟩)
  have H:=fun x (hx:x∈l)=>ih x hx (Wc.2 fun y hy=>Wc.1 h y (by rw [az,b6];exact V2 _ (Xf.2 ⟨x,hx,hy⟩))) (by
   have h1:=pg (.mk k s l) x (hm x hx)
   omega)
  have hl:l.length<=900:=by have:=vK (.mk k s l);simp only [Ex.kids] at this;omega
  unfold bA at hp
  by_cases h1:k=1
  ·subst h1;simp only [BEq.rfl,if_true,VS,decide_eq_true_eq] at hp;have hl0:l=[]:=List.eq_nil_of_length_eq_zero hp.1;subst hl0;exact ⟨.lab s, .lab s⟩
  ·rw [if_neg (by simpa using h1)] at hp
   by_cases h2:k=2∨k=3
   ·rw [if_pos (by simpa using h2)] at hp;simp only [VS,decide_eq_true_eq] at hp;exact ⟨.many k s l h2 hp.1 (fun x hx=>(H x hx).1), .many k s l h2 hl (fun x hx=>(H x hx).2)⟩
   ·rw [if_neg (by simpa using h2)] at hp
    by_cases h3:k=4∨k=5∨k=6
    ·rw [if_pos (by simpa [or_assoc] using h3)] at hp;simp only [VS,decide_eq_true_eq] at hp
     obtain ⟨x,rfl⟩: ∃x,l=[x]:=by
      match l,hp.1 with
      | [x],_=>exact ⟨x,rfl⟩
     exact ⟨.one k s x h3 (H x (by simp)).1, .one k s x h3 (H x (by simp)).2⟩
    ·rw [if_neg (by simpa [or_assoc] using h3)] at hp;cases hp
theorem js {x:Ex} (h:aI x=true):Fit x∧wY x:=by
 simp only [aI,VS,decide_eq_true_eq] at h;exact ED x h.2 (by omega)
noncomputable def ei (x:Ex) (w:List ByteArray):Bool:=aI x && @decide (Lg x w) (Classical.propDecidable _)
theorem kP {x:Ex} {w:List ByteArray}:ei x w=true↔aI x=true∧Lg x w:=by simp [ei]
theorem Li (x:Ex) (w:List ByteArray) (h:x.ok) (hw:w.length<=1000):ah Tryz.prog 24 [.agg (bC x),cg w] (.v (.bool (ei x w))):=by
 have R:=oU x h
 rcases Xg (aI x) with hr|hr
 ·have B:=F2 w hw (js hr).2 [0] (by simp) (fun j hj=>by simp at hj;omega);have hbl:=kL w (Lg x) [0];have C:=xD (bh w (Lg x) [0]) w.length (by omega)
  have eT:(bh w (Lg x) [0]).contains w.length=ei x w:=by
   rw [Bool.eq_iff_iff,List.contains_iff_mem,de,kP];simp only [List.mem_singleton,exists_eq_left,Tk.word];exact ⟨fun h=>⟨hr,h⟩,fun h=>h.2⟩
  rw [hr] at R;rw [eT] at C;generalize bh w (Lg x) [0]=out at B C;have e0:aj [0]=[[.v (.int .i64 0)]]:=rfl;simp only [aN,cg,e0,U9,U3,Nat.zero_add] at R B C ⊢
  (refine ah.enter Tryz.func24 rfl (by kernel_rfl) (by kernel_rfl) rfl (by first|rfl|(simp only [go_sem,WT,Wg,Wn])) (by first|rfl|(simp only [go_sem,WT,Wg,Wn])) ?_;simp only [Tryz.ntmps24,Tryz.results24,U9,U3,Nat.reduceAdd,Nat.reduceSub,WW,WX,WY,WZ])
  repeat (first|(with_reducible first|refine ag.up ?_|refine fun (K:AK) hK=> ?_|(refine hK _ ?_;clear hK K))|simp only [go_sem]|with_reducible refine wA ?_|clear hK K)
  refine ab.one R ?_
  repeat (first|(with_reducible first|refine ag.up ?_|refine fun (K:AK) hK=> ?_|(refine hK _ ?_;clear hK K))|simp only [go_sem]|with_reducible refine wA ?_|clear hK K)
  refine ab.D6 B rfl (by simp only [go_sem,Nat.reduceLT,Nat.reduceLeDiff,Nat.reduceEqDiff,Nat.lt_add_one,Nat.zero_lt_one,and_self]) ?_
  repeat (first|(with_reducible first|refine ag.up ?_|refine fun (K:AK) hK=> ?_|(refine hK _ ?_;clear hK K))|simp only [go_sem]|with_reducible refine wA ?_|clear hK K)
  refine ab.one C ?_
  repeat (first|(with_reducible first|refine ag.up ?_|refine fun (K:AK) hK=> ?_|(refine hK _ ?_;clear hK K))|simp only [go_sem]|with_reducible refine wA ?_|clear hK K)
 ·rw [hr] at R;rw [show ei x w=false by rw [ei,hr];rfl];simp only [aN,cg] at R ⊢
  (refine ah.enter Tryz.func24 rfl (by kernel_rfl) (by kernel_rfl) rfl (by first|rfl|(simp only [go_sem,WT,Wg,Wn])) (by first|rfl|(simp only [go_sem,WT,Wg,Wn])) ?_;simp only [Tryz.ntmps24,Tryz.results24,U9,U3,Nat.reduceAdd,Nat.reduceSub,WW,WX,WY,WZ])
  repeat (first|(with_reducible first|refine ag.up ?_|refine fun (K:AK) hK=> ?_|(refine hK _ ?_;clear hK K))|simp only [go_sem]|with_reducible refine wA ?_|clear hK K)
  refine ab.one R ?_
  repeat (first|(with_reducible first|refine ag.up ?_|refine fun (K:AK) hK=> ?_|(refine hK _ ?_;clear hK K))|simp only [go_sem,Go.undef]|with_reducible refine wA ?_|clear hK K)
end Go.Proofs.YtlhhccmopfamhaaGreatDoor
