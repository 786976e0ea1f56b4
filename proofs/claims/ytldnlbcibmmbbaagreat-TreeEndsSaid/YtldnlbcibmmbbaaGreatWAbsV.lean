/- The abstract walk: regions that draw their order and turn memory: as they stand, where each operation that looks at what is turned comes at one place among those that turn it. -/
import Derived.Test.YtldnlbcibmmbbaaGreatWRelG
set_option linter.unusedSimpArgs false
set_option linter.unusedVariables false
open Array renaming getElem?_append_left → JA, getElem?_append_right → JV
open Bool renaming false_eq_true → KZ, or_eq_true → J4, and_eq_true → JL
open List renaming getElem?_append_left → I1, getElem?_append_right → Jt, mem_of_getElem? → Jz, getElem?_inj → K4, getElem?_eq_some_iff → I0, all_eq_true → J2, getElem?_eq_getElem → Je, getElem_mem → KA, getD_eq_getElem?_getD → JR, mem_range → J3, size_toArray → Jo, getElem?_toArray → Jg, getElem?_of_mem → Jn, getElem?_drop → Jc, getElem?_cons_zero → Kd
open Nat renaming lt_or_ge → I2, eq_zero_or_pos → K5
namespace Go.Proofs.YtldnlbcibmmbbaaGreat
open Go.RowKit
section
variable {D:Nat→Prop} {nu:Nat→Nat→Value} {o:List (Option ab)} {w:World} {P:Program}
def AF:Op→Bool
 | .move _| .assign _| .nilCheck _| .build .. | .binOp .. | .unOp .. | .convert .. | .makeFunc .. | .fieldAddr .. | .field .. | .index .. | .extract .. | .pick .. | .box .. | .buildSlice .. =>true
 | _=>false
theorem zm {op:Op} (h:AF op=true) {t:List AV} {o o':List (Option ab)} {y:je} {K:AV→Prop} (hd:cK P op ⟨t,o,y⟩ K):cK P op ⟨t,o',y⟩ K:=by
 cases op with
 | makeFunc fn a b=>cases fn<;>exact hd
 | _=>first|(cases h;done)|exact hd
def sW (P:Program) (f:FuncId) (args:List AV) (o:List (Option ab)) (K:AV→List (Option ab)→Prop):Prop:= ∃r o',dz P f args o r o'∧K r o'
@[congr] theorem CF {f:FuncId} {args args':List AV} {o o':List (Option ab)} {K:AV→List (Option ab)→Prop} (h:args=args') (k:o=o'):sW P f args o K=sW P f args' o' K:=by rw [h,k]
def zw (P:Program) (f:AV) (args:List AV) (o:List (Option ab)) (K:AV→List (Option ab)→Prop):Prop:=match f with
 | .fn g first caps=>sW P g (first++args++caps) o K
 | _=>False
@[congr] theorem DG {f f':AV} {args args':List AV} {o o':List (Option ab)} {K:AV→List (Option ab)→Prop} (h:f=f') (k:args=args') (l:o=o'):zw P f args o K=zw P f' args' o' K:=by rw [h,k,l]
theorem Ct (g:FuncId) (first caps args:List AV) (o:List (Option ab)) (K:AV→List (Option ab)→Prop):zw P (.fn g first caps) args o K=sW P g (first++args++caps) o K:=rfl
def sM (P:Program) (op:Op) (s:AS) (K:AV→List (Option ab)→Prop):Prop:=match op with
 | .pick _ _ _=>False
 | .call c=>match c.callee with
  | .value f=>zw P (s.ev f) (c.args.toList.map s.ev) s.o K
  | _=>AR (Cy P s.ev s.o (.call c)) K
 | op=>AR (Cy P s.ev s.o op) K
theorem BP {s:AS} {op:Op} {K:AV→List (Option ab)→Prop} (h:sM P op s K): ∃r o',K r o'∧sM P op s (fun r' o''=>r'=r∧o''=o'):=by
 unfold sM at h ⊢
 split at h
 ·exact h.elim
 ·split at h
  ·unfold zw at h ⊢
   split at h
   ·obtain ⟨r,o',h1,h2⟩:=h
    exact ⟨r,o',h2,r,o',h1,rfl,rfl⟩
   ·exact h.elim
  ·unfold AR at h ⊢
   split at h
   ·exact ⟨_,_,h.2,h.1,rfl,rfl⟩
   ·exact h.elim
 ·unfold AR at h ⊢
  split at h
  ·exact ⟨_,_,h.2,h.1,rfl,rfl⟩
  ·exact h.elim
theorem y9 {s:AS} {rho:Operand→Value} {oo:Oper} {r:AV} {o':List (Option ab)} (h:RO D nu s.o w) (hev:zJ D nu s.o w s.ev rho oo.op) (hd:sM P oo.op s (fun r' o''=>r'=r∧o''=o')) :
  (∃v w' nu',((execOp rho oo).run P w = .ok (.value v) w'∨((execOp rho oo).run P w = .ok .skip w'∧v=Go.undef))∧bp nu s.o w nu' o' w'∧RO D nu' o' w'∧RA D nu' o' w' r v) ∨
  (∃g vargs,(execOp rho oo).run P w = .ok (.enter g vargs) w∧Calls P g vargs w (fun e w'=> ∃v nu',e = .returned v∧bp nu s.o w nu' o' w'∧RO D nu' o' w'∧RA D nu' o' w' r v)):=by
 have hop: ∀op,oo.op=op→AR (Cy P s.ev s.o op) (fun r' o''=>r'=r∧o''=o')→(∃v w' nu',((execOp rho oo).run P w = .ok (.value v) w'∨((execOp rho oo).run P w = .ok .skip w'∧v=Go.undef))∧bp nu s.o w nu' o' w'∧RO D nu' o' w'∧RA D nu' o' w' r v):=by
  intro op ho hh
  subst ho
  unfold AR at hh
  split at hh
  ·rename_i p r1 o1 e
   obtain ⟨hp,rfl,rfl⟩:=hh
   obtain ⟨v,w',nu',h1,h2,h3,h4⟩:=uX (P:=P) h hev e hp
   exact ⟨v,w',nu',h1,h2,h3,h4⟩
  ·exact hh.elim
 unfold sM at hd
 split at hd
 ·exact hd.elim
 ·rename_i c ho
  split at hd
  ·rename_i f hc
   unfold zw at hd
   split at hd
   ·rename_i g first caps e
    obtain ⟨r1,o1,hcall,rfl,rfl⟩:=hd
    have hf:=hev f (by rw [ho];simp [Op.operands,Call.operands,hc])
    rw [e] at hf
    generalize hq:rho f=vf at hf
    cases hf with
    | fn _ _ _ fi ca q1 q2 q3 q4=>
    have hargs: ∀x,x∈c.args.toList→RA D nu s.o w (s.ev x) (rho x):=fun x hx=>hev x (by rw [ho];simp only [Op.operands,Call.operands,hc];simp;exact .inr (by simpa using hx))
    have hra:gb D nu s.o w (first++c.args.toList.map s.ev++caps) (fi++c.args.map rho++ca):=by
     refine ⟨by simp [q1,q2],fun i cc x k1 k2=> ?_⟩
     rw [List.append_assoc] at k1
     rw [Array.append_assoc] at k2
     rcases I2 i first.length with l1|l1
     ·rw [I1 l1] at k1
      rw [JA (by omega)] at k2
      exact q3 i cc x k1 k2
     ·rw [Jt l1] at k1
      rw [JV (by omega)] at k2
      rw [q1] at k1
      rcases I2 (i - fi.size) c.args.size with l2|l2
      ·rw [I1 (by simpa using l2),List.getElem?_map] at k1
       rw [JA (by simpa using l2),Array.getElem?_map] at k2
       have e2:c.args.toList[i - fi.size]? = c.args[i - fi.size]? :=by simp
       rw [e2] at k1
       cases hk2:c.args[i - fi.size]? with
       | none=>rw [hk2] at k1;cases k1
       | some y=>
        rw [hk2] at k1 k2
        cases k1;cases k2
        exact hargs y (Jz (by rw [e2];exact hk2))
      ·rw [Jt (by simpa using l2)] at k1
       rw [JV (by simpa using l2)] at k2
       simp only [List.length_map,Array.length_toList,Array.size_map] at k1 k2
       exact q4 _ cc x k1 k2
    refine .inr ⟨g,_, ?_,(hcall.2 D nu w _ h hra).mono ?_⟩
    ·simp only [execOp,ho,resolve,hc,hq,Deferred.ofValue,Sem.run_bind,Sem.run_pure,Result.andThen_ok,invoke]
     exact eX hcall.1 _ w
    ·rintro e w' ⟨v,nu',o2,r2,rfl,m1,m2,m3,rfl,rfl⟩
     exact ⟨v,nu',rfl,m1,m2,m3⟩
   ·exact hd.elim
  ·exact .inl (hop _ ho hd)
 ·exact .inl (hop _ rfl hd)
def lu:List (Nat×Nat)→Nat→Option Nat
 | [],_=>none
 | (j,lo) :: fs,k=>if j=k∧lo<1000 then some lo else lu fs k
def uh:List (Nat×Nat)→Nat→Bool
 | [],_=>false
 | (j,lo) :: fs,k=>decide (j=k∧lo=1000)||uh fs k
def E3:Option (List (Option ab)→Prop)→List (Option ab)→Prop
 | none,_=>True
 | some p,o=>p o
def dR (P:Program) (all:List Oper) (es:List Nat) (fs:List (Nat×Nat)):List Oper→Nat→AS→List (List (Option ab))→Option (List (Option ab)→Prop)→(AS→Prop)→Prop
 | [],_,s,_,_,Q=>Q s
 | oo :: rest,k,s,hist,pn,Q=>if es.contains k then (match oo.guard with
   | none=>sM P oo.op s (fun r o'=>E3 pn o'∧dR P all es fs rest (k+1) (s.put oo.dst r o') (hist++[s.o]) pn Q)
   | some _=>False) else match lu fs k with
   | some lo=>oo.guard=none∧cK P oo.op s (fun r=>(∀o',o'∈hist.drop lo→cK P oo.op ⟨s.t,o',s.y⟩ (fun r'=>r'=r))∧dR P all es fs rest (k+1) (s.put oo.dst r s.o) hist pn Q)
   | none=>if uh fs k=true then oo.guard=none∧cK P oo.op s (fun r=>dR P all es fs rest (k+1) (s.put oo.dst r s.o) hist (some fun o'=>E3 pn o'∧cK P oo.op ⟨s.t,o',s.y⟩ (fun r'=>r'=r)) Q)
    else db P all oo s (fun s'=>dR P all es fs rest (k+1) s' hist pn Q)
def Ff (P:Program) (all:List Oper) (es:List Nat) (fs:List (Nat×Nat)):List Oper→Nat→AS→List (List (Option ab))→List AV→List (List (Option ab))→AS→Prop
 | [],_,s,_,rs,os,sf=>rs=[]∧os=[]∧sf=s
 | oo :: rest,k,s,hist,rs,os,sf=> ∃r rs',rs=r :: rs' ∧
   ((es.contains k=true∧oo.guard=none∧ ∃o' os',os=o' :: os'∧sM P oo.op s (fun r' o''=>r'=r∧o''=o')∧Ff P all es fs rest (k+1) (s.put oo.dst r o') (hist++[s.o]) rs' os' sf) ∨
   (es.contains k=false∧(((oo.guard=none∨ ∃j want b,oo.guard=some (j,want)∧gz all s j=some (some b)∧(b==want)=true)∧cK P oo.op s (fun r'=>r'=r)∧(∀lo,lu fs k=some lo→ ∀o',o'∈hist.drop lo→cK P oo.op ⟨s.t,o',s.y⟩ (fun r'=>r'=r))∧(lu fs k=none→uh fs k=true→ ∀o',o'∈os→cK P oo.op ⟨s.t,o',s.y⟩ (fun r'=>r'=r))) ∨
    (lu fs k=none∧uh fs k=false∧r = .v Go.undef∧ ∃j want g,oo.guard=some (j,want)∧gz all s j=some g∧(g=none∨ ∃b,g=some b∧(b==want)=false)))∧Ff P all es fs rest (k+1) (s.put oo.dst r s.o) hist rs' os sf))
theorem ek {all:List Oper} {es:List Nat} {fs:List (Nat×Nat)}: ∀(rest:List Oper) (k:Nat) (s:AS) (hist:List (List (Option ab))) {pn:Option (List (Option ab)→Prop)} {Q:AS→Prop},dR P all es fs rest k s hist pn Q→ ∃rs os sf,Ff P all es fs rest k s hist rs os sf∧(∀o',o'∈os→E3 pn o')∧Q sf
 | [],k,s,hist,pn,Q,h=>⟨[],[],s,⟨rfl,rfl,rfl⟩,(fun _ h=>by cases h),h⟩
 | oo :: rest,k,s,hist,pn,Q,h=>by
  simp only [dR] at h
  cases he:es.contains k
  ·rw [he] at h
   simp only [KZ,if_false] at h
   cases hf:lu fs k with
   | some lo=>
    rw [hf] at h
    obtain ⟨hg,h⟩:=h
    obtain ⟨r,⟨hh,hk⟩,hr⟩:=gd h
    obtain ⟨rs,os,sf,h1,h2⟩:=ek rest (k+1) _ hist hk
    exact ⟨r :: rs,os,sf,⟨r,rs,rfl, .inr ⟨he, .inl ⟨.inl hg,hr,(fun lo' hl=>by rw [hf] at hl;cases hl;exact hh),fun hn=>by rw [hf] at hn;cases hn⟩,h1⟩⟩,h2⟩
   | none=>
   rw [hf] at h
   have hno: ∀r lo,lu fs k=some lo→ ∀o',o'∈hist.drop lo→cK P oo.op ⟨s.t,o',s.y⟩ (fun r'=>r'=r):=fun r lo hl=>by rw [hf] at hl;cases hl
   simp only at h
   cases hlt:uh fs k
   case true=>
    rw [hlt] at h
    simp only [if_true] at h
    obtain ⟨hg,h⟩:=h
    obtain ⟨r,hk,hr⟩:=gd h
    obtain ⟨rs,os,sf,h1,h0,h2⟩:=ek rest (k+1) _ hist hk
    exact ⟨r :: rs,os,sf,⟨r,rs,rfl, .inr ⟨he, .inl ⟨.inl hg,hr,hno r,fun _ _ o' ho'=>(h0 o' ho').2⟩,h1⟩⟩,fun o' ho'=>(h0 o' ho').1,h2⟩
   have hla: ∀(r:AV) (os:List (List (Option ab))),lu fs k=none→uh fs k=true→ ∀o',o'∈os→cK P oo.op ⟨s.t,o',s.y⟩ (fun r'=>r'=r):=fun r os _ h=>by rw [hlt] at h;cases h
   rw [hlt] at h
   simp only [KZ,if_false] at h
   simp only [db] at h
   split at h
   ·rename_i hg
    obtain ⟨r,hk,hr⟩:=gd h
    obtain ⟨rs,os,sf,h1,h2⟩:=ek rest (k+1) _ hist hk
    exact ⟨r :: rs,os,sf,⟨r,rs,rfl, .inr ⟨he, .inl ⟨.inl hg,hr,hno r,hla r _⟩,h1⟩⟩,h2⟩
   ·rename_i j want hg
    unfold nU at h
    split at h
    ·rename_i b e
     cases hb:b==want
     ·rw [hb,rD] at h
      obtain ⟨rs,os,sf,h1,h2⟩:=ek rest (k+1) _ hist h
      exact ⟨_ :: rs,os,sf,⟨_,rs,rfl, .inr ⟨he, .inr ⟨hf,hlt,rfl,j,want,_,hg,e, .inr ⟨b,rfl,hb⟩⟩,h1⟩⟩,h2⟩
     ·rw [hb,uf] at h
      obtain ⟨r,hk,hr⟩:=gd h
      obtain ⟨rs,os,sf,h1,h2⟩:=ek rest (k+1) _ hist hk
      exact ⟨r :: rs,os,sf,⟨r,rs,rfl, .inr ⟨he, .inl ⟨.inr ⟨j,want,b,hg,e,hb⟩,hr,hno r,hla r _⟩,h1⟩⟩,h2⟩
    ·rename_i e
     obtain ⟨rs,os,sf,h1,h2⟩:=ek rest (k+1) _ hist h
     exact ⟨_ :: rs,os,sf,⟨_,rs,rfl, .inr ⟨he, .inr ⟨hf,hlt,rfl,j,want,_,hg,e, .inl rfl⟩,h1⟩⟩,h2⟩
    ·exact h.elim
  ·rw [he] at h
   simp only [if_true] at h
   split at h
   ·rename_i hg
    obtain ⟨r,o',⟨hpo,hk⟩,hr⟩:=BP h
    obtain ⟨rs,os,sf,h1,h0,h2⟩:=ek rest (k+1) _ _ hk
    exact ⟨r :: rs,o' :: os,sf,⟨r,rs,rfl, .inl ⟨he,hg,o',os,rfl,hr,h1⟩⟩,fun o'' ho=>(List.mem_cons.1 ho).elim (fun e=>by rw [e];exact hpo) (h0 o''),h2⟩
   ·exact h.elim
def qy (ops:Array Oper):Nat→Nat→Nat→Bool
 | 0,_,_=>false
 | n+1,j,i=>ay ops j i||(List.range ops.size).any (fun k=>ay ops j k&&qy ops n k i)
def Ci (ops:Array Oper) (es:List Nat) (j:Nat):Bool:=es.all (fun e=>decide (e=j)||if e<j then qy ops ops.size j e else qy ops ops.size e j)
def qY:List Nat→Bool
 | []=>true
 | [_]=>true
 | a :: b :: l=>decide (a<b)&&qY (b :: l)
def AT (ops:Array Oper) (es:List Nat) (fs:List (Nat×Nat)) (j:Nat):Bool:=match lu fs j with
 | some lo=>decide (lo≤es.length)&&(es.take lo).all (fun e=>qy ops ops.size j e)&&es.all (fun e=>decide (e<j)||(e !=j&&qy ops ops.size e j))
 | none=>false
def AO (ops:Array Oper) (es:List Nat) (fs:List (Nat×Nat)) (j:Nat):Bool:= !es.contains j&&(lu fs j).isNone&&uh fs j&&es.all (fun e=>decide (j≤e)||qy ops ops.size j e)
def pA (ops:Array Oper) (es:List Nat) (fs:List (Nat×Nat)):Bool:=oD ops&&qY es&&es.all (fun e=>decide (e<ops.size))&&(List.range ops.size).all (fun j=>(match ops[j]? with|some oo=>AF oo.op|none=>true) && !es.contains j||Ci ops es j||AT ops es fs j||AO ops es fs j)
structure GG (D:Nat→Prop) (nu0:Nat→Nat→Value) (o0:List (Option ab)) (w0:World) (l:List Oper) (es:List Nat) (O:Nat→List (Option ab)) where
 w:World
 nu:Nat→Nat→Value
 done:Nat→Bool
 c:Nat
 ro:RO D nu (O c) w
 mono:bp nu0 o0 w0 nu (O c) w
 cl: ∀j i,done j=true→ay l.toArray j i=true→done i=true
 ef: ∀k e,es[k]? = some e→(done e=true↔k<c)
 le:c≤es.length
variable {nu0:Nat→Nat→Value} {o0:List (Option ab)} {w0:World} {l:List Oper} {es:List Nat} {O:Nat→List (Option ab)}
def cJ (D:Nat→Prop) (nu0:Nat→Nat→Value) (o0:List (Option ab)) (w0:World) (l:List Oper) (es:List Nat) (O:Nat→List (Option ab)):jG:=
 ⟨GG D nu0 o0 w0 l es O,GG.w,fun g g'=>bp g.nu (O g.c) g.w g'.nu (O g'.c) g'.w∧ ∀j,g.done j=true→g'.done j=true,fun g=>⟨.refl _ _ _,fun _ h=>h⟩,fun _ _ _ h k=>⟨h.1.trans k.1,fun j hj=>k.2 j (h.2 j hj)⟩,fun j g=>g.done j=false⟩
def kG (D:Nat→Prop) (nu0:Nat→Nat→Value) (o0:List (Option ab)) (w0:World) (l:List Oper) (es:List Nat) (O:Nat→List (Option ab)) (k:Nat) (r:AV):dx (cJ D nu0 o0 w0 l es O):=
 ⟨fun v g=>RA D g.nu (O g.c) g.w r v∧g.done k=true,fun v g g' hR h=>⟨h.1.mono hR.1 (fun _ _ h=>h),hR.2 k h.2⟩⟩
def GG.next (g:GG D nu0 o0 w0 l es O) (k:Nat) (w':World) (hb:Below g.w.heap.size g.w w') (hd: ∀i,ay l.toArray k i=true→g.done i=true) (he:es.contains k=false):GG D nu0 o0 w0 l es O where
 w:=w'
 nu:=g.nu
 done:=fun j=>if j=k then true else g.done j
 c:=g.c
 ro:=g.ro.below hb
 mono:=g.mono.trans (ax hb)
 cl:=fun j i h1 h2=>by
  by_cases hi:i=k
  ·simp [hi]
  ·simp only [if_neg hi]
   by_cases hj:j=k
   ·subst hj;exact hd i h2
   ·simp only [if_neg hj] at h1;exact g.cl j i h1 h2
 ef:=fun m e h=>by
  have hne:e≠k:=fun hh=>by
   subst hh
   have:=Jz h
   simp [this] at he
  simp only [if_neg hne];exact g.ef m e h
 le:=g.le
theorem GG.pD (g:GG D nu0 o0 w0 l es O) (k:Nat) (w':World) (hb:Below g.w.heap.size g.w w') (hd: ∀i,ay l.toArray k i=true→g.done i=true) (he:es.contains k=false) :
  (cJ D nu0 o0 w0 l es O).R g (g.next k w' hb hd he)∧ ∀i,i≠k→(cJ D nu0 o0 w0 l es O).pre i g→(cJ D nu0 o0 w0 l es O).pre i (g.next k w' hb hd he):=by
 refine ⟨⟨ax hb,fun j hj=> ?_⟩,fun i hi h=> ?_⟩
 ·show (if j=k then true else g.done j)=true
  by_cases hjk:j=k
  ·simp [hjk]
  ·simp [hjk,hj]
 ·show (if i=k then true else g.done i)=false
  simp [hi];exact h
def GG.GZ (g:GG D nu0 o0 w0 l es O) (k:Nat) (w':World) (nu':Nat→Nat→Value) (hm:bp g.nu (O g.c) g.w nu' (O (g.c+1)) w') (hr:RO D nu' (O (g.c+1)) w') (hd: ∀i,ay l.toArray k i=true→g.done i=true) (he:es[g.c]? = some k) (hn:es.Nodup):GG D nu0 o0 w0 l es O where
 w:=w'
 nu:=nu'
 done:=fun j=>if j=k then true else g.done j
 c:=g.c+1
 ro:=hr
 mono:=g.mono.trans hm
 cl:=fun j i h1 h2=>by
  by_cases hi:i=k
  ·simp [hi]
  ·simp only [if_neg hi]
   by_cases hj:j=k
   ·subst hj;exact hd i h2
   ·simp only [if_neg hj] at h1;exact g.cl j i h1 h2
 ef:=fun m e h=>by
  by_cases hek:e=k
  ·subst hek
   have:m=g.c:=(K4 (I0.1 h).1 hn).1 (h.trans he.symm)
   simp [this]
  ·simp only [if_neg hek]
   have hne:m≠g.c:=fun hh=>by subst hh;rw [he] at h;cases h;exact hek rfl
   rw [g.ef m e h];omega
 le:=(I0.1 he).1
theorem GG.EL (g:GG D nu0 o0 w0 l es O) (k:Nat) (w':World) (nu':Nat→Nat→Value) (hm:bp g.nu (O g.c) g.w nu' (O (g.c+1)) w') (hr:RO D nu' (O (g.c+1)) w') (hd: ∀i,ay l.toArray k i=true→g.done i=true) (he:es[g.c]? = some k) (hn:es.Nodup) :
  (cJ D nu0 o0 w0 l es O).R g (g.GZ k w' nu' hm hr hd he hn)∧ ∀i,i≠k→(cJ D nu0 o0 w0 l es O).pre i g→(cJ D nu0 o0 w0 l es O).pre i (g.GZ k w' nu' hm hr hd he hn):=by
 refine ⟨⟨hm,fun j hj=> ?_⟩,fun i hi h=> ?_⟩
 ·show (if j=k then true else g.done j)=true
  by_cases hjk:j=k
  ·simp [hjk]
  ·simp [hjk,hj]
 ·show (if i=k then true else g.done i)=false
  simp [hi];exact h
theorem kn (g:GG D nu0 o0 w0 l es O): ∀(n j i:Nat),qy l.toArray n j i=true→g.done j=true→g.done i=true
 | 0,_,_,h,_=>by cases h
 | n+1,j,i,h,hj=>by
  simp only [qy,J4,List.any_eq_true,JL] at h
  rcases h with h|⟨k,_,h1,h2⟩
  ·exact g.cl j i hj h
  ·exact kn g n k i h2 (g.cl j k hj h1)
theorem lV (g:GG D nu0 o0 w0 l es O) {n j i:Nat} (h:qy l.toArray n j i=true) (hd: ∀i,ay l.toArray j i=true→g.done i=true):g.done i=true:=by
 cases n with
 | zero=>cases h
 | succ n=>
  simp only [qy,J4,List.any_eq_true,JL] at h
  rcases h with h|⟨k,_,h1,h2⟩
  ·exact hd i h
  ·exact kn g n k i h2 (hd k h1)
theorem GG.ui (g:GG D nu0 o0 w0 l es O) {k m:Nat} (hf:Ci l.toArray es k=true) (hd: ∀i,ay l.toArray k i=true→g.done i=true) (hk:g.done k=false) (hm: ∀m' e,es[m']? = some e→(e<k↔m'<m)) (hml:m≤es.length):g.c=m:=by
 simp only [Ci,J2,J4,decide_eq_true_eq] at hf
 have h1:g.c≤m:=by
  rcases I2 m g.c with q|q
  ·exfalso
   have hlt:m<es.length:=Nat.lt_of_lt_of_le q g.le
   have he:es[m]? = some es[m]:=Je hlt
   have hdn:=(g.ef m _ he).2 q
   have hge: ¬es[m]<k:=fun hh=>by have:=(hm m _ he).1 hh;omega
   rcases hf _ (KA hlt) with h|h
   ·rw [h,hk] at hdn;cases hdn
   ·rw [if_neg hge] at h
    have:=kn g _ _ _ h hdn
    rw [hk] at this;cases this
  ·exact q
 have h2:m≤g.c:=by
  rcases K5 m with q|q
  ·omega
  ·have hlt:m - 1<es.length:=by omega
   have he:es[m - 1]? = some es[m - 1]:=Je hlt
   have hlk:=(hm _ _ he).2 (by omega)
   rcases hf _ (KA hlt) with h|h
   ·omega
   ·rw [if_pos hlk] at h
    have:=(g.ef _ _ he).1 (lV g h hd)
    omega
 omega
theorem GG.BZ (g:GG D nu0 o0 w0 l es O) {k m:Nat} {fs:List (Nat×Nat)} (hf:AO l.toArray es fs k=true) (hd: ∀i,ay l.toArray k i=true→g.done i=true) (hm: ∀m' e,es[m']? = some e→(e<k↔m'<m)) (hml:m≤es.length):m≤g.c:=by
 simp only [AO,JL,J2,J4,decide_eq_true_eq] at hf
 rcases K5 m with q|q
 ·omega
 ·have hlt:m - 1<es.length:=by omega
  have he:es[m - 1]? = some es[m - 1]:=Je hlt
  have hlk:=(hm _ _ he).2 (by omega)
  rcases hf.2 _ (KA hlt) with h|h
  ·omega
  ·have:=(g.ef _ _ he).1 (lV g h hd)
   omega
theorem GG.AE (g:GG D nu0 o0 w0 l es O) {k m lo:Nat} {fs:List (Nat×Nat)} (hf:AT l.toArray es fs k=true) (hlo:lu fs k=some lo) (hd: ∀i,ay l.toArray k i=true→g.done i=true) (hk:g.done k=false) (hm: ∀m' e,es[m']? = some e→(e<k↔m'<m)):lo≤g.c∧g.c≤m:=by
 simp only [AT,hlo,JL,J2,J4,decide_eq_true_eq] at hf
 obtain ⟨⟨h0,h1⟩,h2⟩:=hf
 constructor
 ·rcases K5 lo with q|q
  ·omega
  ·have hlt:lo - 1<es.length:=by omega
   have he:es[lo - 1]? = some es[lo - 1]:=Je hlt
   have hmem:es[lo - 1]∈es.take lo:=List.mem_take_iff_getElem.2 ⟨lo - 1,by omega,rfl⟩
   have:=(g.ef _ _ he).1 (lV g (h1 _ hmem) hd)
   omega
 ·rcases I2 m g.c with q|q
  ·exfalso
   have hlt:m<es.length:=Nat.lt_of_lt_of_le q g.le
   have he:es[m]? = some es[m]:=Je hlt
   have hdn:=(g.ef m _ he).2 q
   have hge: ¬es[m]<k:=fun hh=>by have:=(hm m _ he).1 hh;omega
   rcases h2 _ (KA hlt) with h|h
   ·exact hge h
   ·have:=kn g _ _ _ h.2 hdn
    rw [hk] at this;cases this
  ·exact q
theorem vd {N:jG} {f:Nat→AV→dx N} {rs:List AV} {i:Nat} {e:AV} (h:rs[i]? = some e):kO (rs.mapIdx f) i=f i e:=by
 rw [kO,JR,List.getElem?_mapIdx,h];rfl
theorem BY {N:jG} {f:Nat→AV→dx N} {rs:List AV} {i:Nat} {e:AV} (h:rs[i]? = some e):kO (rs.mapIdx f) i=f i e:=vd h
structure CK (l:List Oper) (s:AS) (a:Act) (k:Nat) (sk:AS) (rs:List AV) (A:(Nat→Value)→Act):Prop where
 y:sk.y=s.y
 len:rs.length=k
 fR: ∀x,(A x).defers=a.defers
 size: ∀x,sk.t.length=(A x).tmps.size
 val: ∀x (t:Nat) c v,sk.t[t]? = some c→(A x).tmps[t]? = some v→(s.t[t]? = some c∧a.tmps[t]? = some v)∨ ∃i,i<k∧(∃oi,l[i]? = some oi∧oi.dst=some t)∧rs[i]? = some c∧v=x i
theorem CK.step {l:List Oper} {s:AS} {a:Act} {k:Nat} {sk:AS} {rs:List AV} {A:(Nat→Value)→Act} (h:CK l s a k sk rs A) {oo:Oper} (ho:l[k]? = some oo) (r:AV) (o':List (Option ab)) :
  CK l s a (k+1) (sk.put oo.dst r o') (rs++[r]) (fun x=>(A x).put oo.dst (x k)):=by
 refine ⟨h.y,by simp [h.len],fun x=> ?_,fun x=> ?_,fun x t c v h1 h2=> ?_⟩
 ·have:=h.fR x;cases oo.dst<;>simpa [Act.put] using this
 ·have:=h.size x;cases oo.dst<;>simpa [Act.put,AS.put] using this
 ·have old:sk.t[t]? = some c→(A x).tmps[t]? = some v→(s.t[t]? = some c∧a.tmps[t]? = some v)∨ ∃i,i<k+1∧(∃oi,l[i]? = some oi∧oi.dst=some t)∧(rs++[r])[i]? = some c∧v=x i:=by
   intro h1 h2
   rcases h.val x t c v h1 h2 with h3|⟨i,q1,q2,q3,q4⟩
   ·exact .inl h3
   ·exact .inr ⟨i,by omega,q2,by rw [I1 (by rw [h.len];exact q1)];exact q3,q4⟩
  cases hd:oo.dst with
  | none=>rw [hd] at h1 h2;exact old h1 h2
  | some d=>
   rw [hd] at h1 h2
   simp only [AS.put,Act.put] at h1 h2
   by_cases hdt:d=t
   ·subst hdt
    have hlt:=(I0.1 h1).1
    simp only [List.length_set] at hlt
    rw [List.getElem?_set_self hlt] at h1
    rw [Array.getElem?_setIfInBounds_self_of_lt (by have:=h.size x;omega)] at h2
    cases h1;cases h2
    exact .inr ⟨k,by omega,⟨oo,ho,hd⟩,by rw [Jt (by rw [h.len];exact Nat.le_refl _),h.len,Nat.sub_self];rfl,rfl⟩
   ·rw [List.getElem?_set_ne hdt] at h1
    rw [Array.getElem?_setIfInBounds_ne hdt] at h2
    exact old h1 h2
theorem vY {l:List Oper} (hB:oD l.toArray=true) {i j:Nat} {oi oj:Oper} (hij:i<j) (hi:l[i]? = some oi) (hj:l[j]? = some oj):ay l.toArray j i=true∨ ∀d,oi.dst=some d→d∉oj.looksAt l.toArray:=by
 simp only [oD,JL,J2,J3,Jo] at hB
 have hjn:=(I0.1 hj).1
 have:=(hB.2 j hjn).1 i hij
 simp only [xS,Jg,hi,hj,JL,J4,Bool.not_eq_true'] at this
 rcases this.1.1.1 with h|h
 ·exact .inl h
 ·refine .inr (fun e he=> ?_)
  rw [he] at h
  simpa using h
theorem jC: ∀ {l:List Nat},qY l=true→ ∀(i j x y:Nat),i<j→l[i]? = some x→l[j]? = some y→x<y
 | [],_,i,j,x,y,_,h,_=>by simp at h
 | [a],_,i,j,x,y,hij,h1,h2=>by
  have:=(I0.1 h2).1
  simp at this;omega
 | a :: b :: l,h,i,j,x,y,hij,h1,h2=>by
  simp only [qY,JL,decide_eq_true_eq] at h
  match i,j,h1,h2 with
  | 0,1,h1,h2=>cases h1;cases h2;exact h.1
  | 0,j+2,h1,h2=>
   cases h1
   have:=jC h.2 0 (j+1) b y (by omega) rfl (by simpa using h2)
   omega
  | i+1,j+1,h1,h2=>exact jC h.2 i j x y (by omega) (by simpa using h1) (by simpa using h2)
theorem gQ {l:List Nat} (h:qY l=true):l.Nodup:=by
 refine List.pairwise_iff_getElem.2 (fun i j hi hj hij=> ?_)
 have:=jC h i j _ _ hij (Je hi) (Je hj)
 omega
theorem v7 {l:List Oper} {es:List Nat} {fs:List (Nat×Nat)} (hsz: ∀e,e∈es→e<l.length) (hrise:qY es=true): ∀(rest:List Oper) (k m:Nat) (s:AS) (hist:List (List (Option ab))) (rs:List AV) (os:List (List (Option ab))) (sf:AS),l.drop k=rest→k≤l.length→Ff P l es fs rest k s hist rs os sf→m≤es.length →
  (∀m' e,es[m']? = some e→(e<k↔m'<m))→os.length+m=es.length
 | [],k,m,s,hist,rs,os,sf,hl,hk,ht,hm,hme=>by
  obtain ⟨rfl,rfl,rfl⟩:=ht
  have hkl:k=l.length:=by have:=congrArg List.length hl;simp at this;omega
  rcases I2 m es.length with q|q
  ·have he:es[m]? = some es[m]:=Je q
   have:=(hme m _ he).1 (by rw [hkl];exact hsz _ (KA q))
   omega
  ·simp;omega
 | oo :: rest,k,m,s,hist,rs,os,sf,hl,hk,ht,hm,hme=>by
  have hlt:k<l.length:=by have:=congrArg List.length hl;simp at this;omega
  have hl':l.drop (k+1)=rest:=by have:=congrArg List.tail hl;simpa using this
  obtain ⟨r,rs',rfl,ht⟩:=ht
  rcases ht with ⟨he,hg,o',os',rfl,hd,htr⟩|⟨he,hstep,htr⟩
  ·have hkm:k∈es:=by simpa using he
   obtain ⟨mk,hmk⟩:=Jn hkm
   have hmke:mk=m:=by
    have h1: ¬mk<m:=fun hh=>by have:=(hme mk k hmk).2 hh;omega
    rcases I2 m mk with q|q
    ·have hlt2:m<es.length:=by have:=(I0.1 hmk).1;omega
     have hem:es[m]? = some es[m]:=Je hlt2
     have hlt3:=jC hrise m mk _ _ q hem hmk
     have:=(hme m _ hem).1 hlt3
     omega
    ·omega
   subst hmke
   have hmlt:=(I0.1 hmk).1
   have:=v7 hsz hrise rest (k+1) (mk+1) _ _ _ _ _ hl' hlt htr (by omega) (fun m' e h=>by
    by_cases hek:e=k
    ·subst hek
     have:m'=mk:=(K4 (I0.1 h).1 (gQ hrise)).1 (h.trans hmk.symm)
     omega
    ·have:=hme m' e h
     have hne:m'≠mk:=fun hh=>by subst hh;rw [hmk] at h;cases h;exact hek rfl
     omega)
   simp only [List.length_cons];omega
  ·exact v7 hsz hrise rest (k+1) m _ _ _ _ _ hl' hlt htr hm (fun m' e h=>by
    have hne:e≠k:=fun hh=>by
     subst hh
     have:=Jz h
     simp [this] at he
    rw [←hme m' e h];omega)
theorem jz {f:Fr} {fs:List (Nat×Nat)} (hB:pA l.toArray es fs=true) {s sf:AS} {a:Act} {w0:World} {rs:List AV} {os:List (List (Option ab))} {R:Exit→Act→World→Prop} {g0:GG D nu s.o w0 l es (fun c=>(s.o :: os).getD c [])} (hs:RS f D nu s a w0)
  (hR: ∀a' w' nu',bp nu s.o w0 nu' sf.o w'→sf.y=s.y→RS f D nu' sf a' w'→R .normal a' w') :
  ∀(rest:List Oper) (k m:Nat) (sk:AS) (hist:List (List (Option ab))) (rs1 rs2:List AV) (os2:List (List (Option ab))) (A:(Nat→Value)→Act),l.drop k=rest→Ff P l es fs rest k sk hist rs2 os2 sf→(s.o :: os).take m=hist→rs=rs1++rs2→CK l s a k sk rs1 A→(s.o :: os).drop m=sk.o :: os2 →
   m≤es.length→(∀m' e,es[m']? = some e→(e<k↔m'<m))→k≤l.length →
   Cv (N:=cJ D nu s.o w0 l es (fun c=>(s.o :: os).getD c [])) P l.toArray (rs.mapIdx (fun k r=>kG D nu s.o w0 l es (fun c=>(s.o :: os).getD c []) k r)) g0 (R .normal) rest k A
 | [],k,m,sk,hist,rs1,rs2,os2,A,hl,ht,hhi,hrs,hI,hO,hml,hme,hk=>by
  obtain ⟨rfl,rfl,rfl⟩:=ht
  intro x g hE hD
  have hkl:k=l.length:=by have:=congrArg List.length hl;simp at this;omega
  have hspec: ∀i r,rs1[i]? = some r→(kG D nu s.o w0 l es (fun c=>(s.o :: os).getD c []) i r).p (x i) g:=fun i r hr=>by
   have hik:i<k:=by rw [←hI.len];exact (I0.1 hr).1
   have:=hD i hik
   rw [hrs,List.append_nil,BY hr] at this
   exact this
  have hdone: ∀i,i<k→g.done i=true:=fun i hi=>by
   have hlt:i<rs1.length:=by rw [hI.len];exact hi
   exact (hspec i _ (Je hlt)).2
  have hsz: ∀e,e∈es→e<l.length:=by
   simp only [pA,JL,J2,decide_eq_true_eq,Jo] at hB
   exact hB.1.2
  have hm:m=es.length:=by
   rcases I2 m es.length with q|q
   ·have he:es[m]? = some es[m]:=Je q
    have:=(hme m _ he).1 (by rw [hkl];exact hsz _ (KA q))
    omega
   ·omega
  have hc:g.c=m:=by
   have h1:=g.le
   rcases K5 m with q|q
   ·omega
   ·have hlt:m - 1<es.length:=by omega
    have he:es[m - 1]? = some es[m - 1]:=Je hlt
    have:=(g.ef _ _ he).1 (hdone _ (by rw [hkl];exact hsz _ (KA hlt)))
    omega
  have hOm:(s.o :: os).getD m []=sf.o:=by
   have:=congrArg (fun l=>l[0]?) hO
   simp only [Jc,Nat.add_zero,Kd] at this
   rw [JR,this];rfl
  have hro:=g.ro
  have hmo:=g.mono
  simp only [hc,hOm] at hro hmo
  refine hR (A x) g.w g.nu hmo hI.y ⟨hro,⟨hI.size x,fun t c v h1 h2=> ?_⟩,by rw [hI.fR x];exact hs.fR.mono hs.ro hmo⟩
  rcases hI.val x t c v h1 h2 with ⟨h3,h4⟩|⟨i,q1,q2,q3,q4⟩
  ·exact (hs.tm.bA t c v h3 h4).mono hmo (fun _ _ h=>h)
  ·have:=(hspec i c q3).1
   simp only [hc,hOm] at this
   rw [q4];exact this
 | oo :: rest,k,m,sk,hist,rs1,rs2,os2,A,hl,ht,hhi,hrs,hI,hO,hml,hme,hk=>by
  have hB':=hB
  simp only [pA,JL,J2,decide_eq_true_eq,Jo,J3,J4] at hB'
  obtain ⟨⟨⟨hrel,hrise⟩,hszs⟩,hfix⟩:=hB'
  have hlt:k<l.length:=by have:=congrArg List.length hl;simp at this;omega
  have hok:l[k]? = some oo:=by have:=congrArg (fun m=>m[0]?) hl;simpa using this
  have hl':l.drop (k+1)=rest:=by have:=congrArg List.tail hl;simpa using this
  have hOm:(s.o :: os).getD m []=sk.o:=by
   have:=congrArg (fun l=>l[0]?) hO
   simp only [Jc,Nat.add_zero,Kd] at this
   rw [JR,this];rfl
  obtain ⟨r,rs',rfl,ht⟩:=ht
  have hrs':rs=(rs1++[r])++rs':=by rw [hrs];simp
  have hspecK:kO (rs.mapIdx (fun k r=>kG D nu s.o w0 l es (fun c=>(s.o :: os).getD c []) k r)) k=kG D nu s.o w0 l es (fun c=>(s.o :: os).getD c []) k r:=by
   rw [hrs];exact vd (by rw [Jt (by rw [hI.len];exact Nat.le_refl _),hI.len,Nat.sub_self];rfl)
  have hspec: ∀(x:Nat→Value) (g:GG D nu s.o w0 l es (fun c=>(s.o :: os).getD c [])) i rr,(kO (rs.mapIdx (fun k r=>kG D nu s.o w0 l es (fun c=>(s.o :: os).getD c []) k r)) i).p (x i) g→rs1[i]? = some rr→RA D g.nu ((s.o :: os).getD g.c []) g.w rr (x i)∧g.done i=true:=fun x g i rr h hr=>by
   rw [hrs,vd (by rw [I1 (I0.1 hr).1];exact hr)] at h
   exact h
  have hdep: ∀i,ay l.toArray k i=true→i<k:=fun i hi=>by
   simp only [oD,JL,J2,J3,Jo] at hrel
   rcases Nat.lt_trichotomy i k with h|h|h
   ·exact h
   ·subst h
    have:=(hrel.2 i hlt).2.1
    rw [hi] at this;cases this
   ·exfalso
    simp only [ay,Jg,hok,Array.any_eq_true',JL,beq_iff_eq] at hi
    obtain ⟨e,he,hb,rfl⟩:=hi
    have hfar:=(hrel.2 k hlt).2.2
    simp only [qH,Jg,hok,Array.all_eq_true_iff_forall_mem] at hfar
    have hel:e.on<l.length:=by simpa using hfar e he
    have:=(hrel.2 e.on hel).1 k h
    simp only [xS,Jg,hok,Je hel,JL,Bool.not_eq_true'] at this
    have h2:=this.1.1.2
    simp only [ay,Jg,hok] at h2
    have:oo.after.any (fun e_1=>Region.binds .any e_1&&e_1.on==e.on)=true:=by
     simp only [Array.any_eq_true',JL,beq_iff_eq]
     exact ⟨e,he,hb,rfl⟩
    rw [this] at h2;cases h2
  have hdoneD: ∀(x:Nat→Value) (g:GG D nu s.o w0 l es (fun c=>(s.o :: os).getD c [])),(∀i,ay l.toArray k i=true→(kO (rs.mapIdx (fun k r=>kG D nu s.o w0 l es (fun c=>(s.o :: os).getD c []) k r)) i).p (x i) g)→ ∀i,ay l.toArray k i=true→g.done i=true:=fun x g hD i hi=>by
   have hlt:i<rs1.length:=by rw [hI.len];exact hdep i hi
   exact (hspec x g i _ (hD i hi) (Je hlt)).2
  
  have hlook: ∀(x:Nat→Value) (g:GG D nu s.o w0 l es (fun c=>(s.o :: os).getD c [])),(∀i,ay l.toArray k i=true→(kO (rs.mapIdx (fun k r=>kG D nu s.o w0 l es (fun c=>(s.o :: os).getD c []) k r)) i).p (x i) g)→ ∀(t:Nat) c v,t∈oo.looksAt l.toArray→sk.t[t]? = some c→(A x).tmps[t]? = some v→RA D g.nu ((s.o :: os).getD g.c []) g.w c v:=by
   intro x g hD t c v ht h1 h2
   rcases hI.val x t c v h1 h2 with ⟨h3,h4⟩|⟨i,q1,⟨oi,q2,q5⟩,q3,q4⟩
   ·exact (hs.tm.bA t c v h3 h4).mono g.mono (fun _ _ h=>h)
   ·rcases vY hrel q1 q2 hok with h5|h5
    ·have:=(hspec x g i c (hD i h5) q3).1
     rw [q4];exact this
    ·exact absurd ht (h5 t q5)
  have hevs: ∀(x:Nat→Value) (g:GG D nu s.o w0 l es (fun c=>(s.o :: os).getD c [])),(∀i,ay l.toArray k i=true→(kO (rs.mapIdx (fun k r=>kG D nu s.o w0 l es (fun c=>(s.o :: os).getD c []) k r)) i).p (x i) g)→zJ D g.nu ((s.o :: os).getD g.c []) g.w sk.ev (A x).eval oo.op:=by
   intro x g hD y hy
   cases y with
   | tmp t=>
    simp only [AS.ev,Act.eval]
    rcases I2 t sk.t.length with hlt|hge
    ·have e1:sk.t[t]? = some sk.t[t]:=Je hlt
     have hlt':t<(A x).tmps.size:=by rw [←hI.size x];exact hlt
     have hx:(A x).tmps[t]? = some (A x).tmps[t]:=Array.getElem?_eq_getElem hlt'
     rw [getD_some e1]
     have:(A x).tmps.getD t Go.undef=(A x).tmps[t]:=by simp [Array.getD,hlt']
     rw [this]
     exact hlook x g hD t _ _ (List.mem_append_left _ (List.mem_filterMap.2 ⟨.tmp t,hy,rfl⟩)) e1 hx
    ·have e0:sk.t.getD t .undef = .undef:=by rw [JR,List.getElem?_eq_none hge];rfl
     rw [e0]
     exact .undef _
   | const v=>exact .v v
   | global gi=>exact (j2 hs.ro sk gi).mono g.mono (fun _ _ h=>h)
   | func f=>exact .fn f [] [] #[] #[] rfl rfl (fun i c x h=>by simp at h) (fun i c x h=>by simp at h)
  have hcont: ∀(x:Nat→Value),es.contains k=false→ ∀m' e,es[m']? = some e→(e<k+1↔m'<m):=fun _ he m' e h=>by
   have hne:e≠k:=fun hh=>by
    subst hh
    have:=Jz h
    simp [this] at he
   rw [←hme m' e h];omega
  rcases ht with ⟨he,hg,o',os',rfl,hd,htr⟩|⟨he,hstep,htr⟩
  ·
   have hkm:k∈es:=by simpa using he
   obtain ⟨mk,hmk⟩:=Jn hkm
   have hmke:mk=m:=by
    have h1: ¬mk<m:=fun hh=>by have:=(hme mk k hmk).2 hh;omega
    rcases I2 m mk with q|q
    ·have hlt2:m<es.length:=by have:=(I0.1 hmk).1;omega
     have hem:es[m]? = some es[m]:=Je hlt2
     have hlt3:=jC hrise m mk _ _ q hem hmk
     have:=(hme m _ hem).1 hlt3
     omega
    ·omega
   subst hmke
   have hOm1:(s.o :: os).getD (mk+1) []=o':=by
    have h1:=congrArg (fun (l:List (List (Option ab)))=>l[1]?) hO
    simp only [Jc] at h1
    rw [JR,h1];rfl
   refine ⟨fun x g hE hD hp=> ?_, ?_⟩
   ·have hdd:=hdoneD x g hD
    have hfx:Ci l.toArray es k=true:=by
     rcases hfix k hlt with ((h|h)|h)|h
     ·have:=h.2;simp [hkm] at this
     ·exact h
     ·exfalso
      simp only [AT] at h
      split at h
      ·simp only [JL,J2,J4,decide_eq_true_eq] at h
       rcases h.2 k hkm with q|q
       ·omega
       ·simp at q
      ·cases h
     ·exfalso
      simp only [AO,JL] at h
      have:=h.1.1.1;simp [hkm] at this
    have hc:g.c=mk:=g.ui hfx hdd hp hme hml
    have hev:=hevs x g hD
    have hro:=g.ro
    simp only [hc,hOm] at hev hro
    refine .inl ⟨by simp [Region.wanted,hg], ?_⟩
    rw [hspecK]
    have hgo: ∀(v:Value) (w':World) (nu':Nat→Nat→Value),bp g.nu sk.o g.w nu' o' w'→RO D nu' o' w'→RA D nu' o' w' r v →
      ∃g':GG D nu s.o w0 l es (fun c=>(s.o :: os).getD c []),(cJ D nu s.o w0 l es (fun c=>(s.o :: os).getD c [])).wd g'=w'∧(cJ D nu s.o w0 l es (fun c=>(s.o :: os).getD c [])).R g g'∧(∀i,i≠k→(cJ D nu s.o w0 l es (fun c=>(s.o :: os).getD c [])).pre i g→(cJ D nu s.o w0 l es (fun c=>(s.o :: os).getD c [])).pre i g')∧(kG D nu s.o w0 l es (fun c=>(s.o :: os).getD c []) k r).p v g':=by
     intro v w' nu' m1 m2 m3
     have hm':bp g.nu ((s.o :: os).getD g.c []) g.w nu' ((s.o :: os).getD (g.c+1) []) w':=by rw [hc,hOm,hOm1];exact m1
     have hr':RO D nu' ((s.o :: os).getD (g.c+1) []) w':=by rw [hc,hOm1];exact m2
     have hek:es[g.c]? = some k:=by rw [hc];exact hmk
     have hR2:=g.EL k w' nu' hm' hr' hdd hek (gQ hrise)
     refine ⟨g.GZ k w' nu' hm' hr' hdd hek (gQ hrise),rfl,hR2.1,hR2.2, ?_, ?_⟩
     ·show RA D nu' ((s.o :: os).getD (g.c+1) []) w' r v
      rw [hc,hOm1];exact m3
     ·show (if k=k then true else g.done k)=true
      simp
    rcases y9 (P:=P) (rho:=(A x).eval) hro hev hd with ⟨v,w',nu',h1,m1,m2,m3⟩|⟨gf,vargs,h1,h2⟩
    ·rcases h1 with h1|⟨h1,rfl⟩
     ·have e1:(execOp (A x).eval oo).run P ((cJ D nu s.o w0 l es (fun c=>(s.o :: os).getD c [])).wd g) = .ok (.value v) w':=h1
      rw [e1];exact hgo v w' nu' m1 m2 m3
     ·have e1:(execOp (A x).eval oo).run P ((cJ D nu s.o w0 l es (fun c=>(s.o :: os).getD c [])).wd g) = .ok .skip w':=h1
      rw [e1];exact hgo _ w' nu' m1 m2 m3
    ·have e1:(execOp (A x).eval oo).run P ((cJ D nu s.o w0 l es (fun c=>(s.o :: os).getD c [])).wd g) = .ok (.enter gf vargs) g.w:=h1
     rw [e1]
     refine h2.mono ?_
     rintro e w' ⟨v,nu',rfl,m1,m2,m3⟩
     obtain ⟨g',k1,k2,k3,k4⟩:=hgo v w' nu' m1 m2 m3
     exact ⟨v,g',rfl,k1,k2,k3,k4⟩
   ·refine jz hB hs hR rest (k+1) (mk+1) (sk.put oo.dst r o') (hist++[sk.o]) (rs1++[r]) rs' os' _ hl' htr (by rw [List.take_succ_eq_append_getElem (by have:=congrArg List.length hO;simp at this ⊢; omega),hhi];congr 1;have:=hOm;rw [JR,Je (by have:=congrArg List.length hO;simp at this ⊢; omega)] at this;simpa using this) hrs' (hI.step hok r o') ?_ ((I0.1 hmk).1) (fun m' e h=> ?_) hlt
    ·have:=congrArg List.tail hO
     rw [List.tail_drop] at this
     exact this
    ·by_cases hek:e=k
     ·subst hek
      have:m'=mk:=(K4 (I0.1 h).1 (gQ hrise)).1 (h.trans hmk.symm)
      omega
     ·have:=hme m' e h
      have hne:m'≠mk:=fun hh=>by subst hh;rw [hmk] at h;cases h;exact hek rfl
      omega
  ·refine ⟨fun x g hE hD hp=> ?_, ?_⟩
   ·have hdd:=hdoneD x g hD
    rw [hspecK]
    have hnext: ∀(v:Value) (w':World),RA D g.nu ((s.o :: os).getD g.c []) w' r v→Below g.w.heap.size g.w w' →
      ∃g':GG D nu s.o w0 l es (fun c=>(s.o :: os).getD c []),(cJ D nu s.o w0 l es (fun c=>(s.o :: os).getD c [])).wd g'=w'∧(cJ D nu s.o w0 l es (fun c=>(s.o :: os).getD c [])).R g g'∧(∀i,i≠k→(cJ D nu s.o w0 l es (fun c=>(s.o :: os).getD c [])).pre i g→(cJ D nu s.o w0 l es (fun c=>(s.o :: os).getD c [])).pre i g')∧(kG D nu s.o w0 l es (fun c=>(s.o :: os).getD c []) k r).p v g':=by
     intro v w' hr hb
     have hR2:=g.pD k w' hb hdd he
     refine ⟨g.next k w' hb hdd he,rfl,hR2.1,hR2.2,hr, ?_⟩
     show (if k=k then true else g.done k)=true
     simp
    have hyv: ∀j want,oo.guard=some (j,want)→ ∀gg,gz l sk j=some gg→yielded l.toArray (A x).tmps j=gg:=fun j want hg gg hgv=>
     ej (s:=⟨sk.t,(s.o :: os).getD g.c [],sk.y⟩) (D:=D) (nu:=g.nu) (w:=g.w) (fun d c v hd h1 h2=>by
      refine hlook x g hD d c v ?_ h1 h2
      obtain ⟨og,q1,q2⟩:=hd
      refine List.mem_append_right _ ?_
      simp only [hg,Jg,q1,Option.bind_some,q2]
      simp) (hI.size x) (show gz l ⟨sk.t,_,sk.y⟩ j=some gg from hgv)
    rcases hstep with ⟨hw,hd,hfl,hlat⟩|⟨_,_,rfl,j,want,gg,hg,hgv,hno⟩
    ·have hwant:Region.wanted oo (yielded l.toArray (A x).tmps)=true:=by
      rcases hw with hg|⟨j,want,b,hg,hgv,hb⟩
      ·simp [Region.wanted,hg]
      ·simp only [Region.wanted,hg,hyv j want hg _ hgv];simpa using hb
     refine .inl ⟨hwant, ?_⟩
     have hd':cK P oo.op ⟨sk.t,(s.o :: os).getD g.c [],sk.y⟩ (fun r'=>r'=r):=by
      rcases hfix k hlt with ((h|h)|h)|h
      ·rw [show l.toArray[k]? = some oo by simpa using hok] at h
       exact zm (by simpa using h.1) (show cK P oo.op ⟨sk.t,sk.o,sk.y⟩ (fun r'=>r'=r) from hd)
      ·have hc:g.c=m:=g.ui h hdd hp hme hml
       rw [hc,hOm];exact hd
      ·have hlo: ∃lo,lu fs k=some lo:=by
        simp only [AT] at h
        split at h
        ·exact ⟨_, ‹_›⟩
        ·cases h
       obtain ⟨lo,hlo⟩:=hlo
       obtain ⟨c1,c2⟩:=g.AE h hlo hdd hp hme
       rcases Nat.eq_or_lt_of_le c2 with hc|hc
       ·rw [hc,hOm];exact hd
       ·have hgl:g.c<(s.o :: os).length:=by have:=congrArg List.length hO;simp at this ⊢; omega
        refine hfl lo hlo _ ?_
        rw [←hhi,JR,Je hgl]
        refine List.mem_drop_iff_getElem.2 ⟨g.c - lo,by simp at hgl ⊢; omega, ?_⟩
        rw [List.getElem_take]
        simp only [Option.getD_some]
        congr 1
        omega
      ·have hc:=g.BZ h hdd hme hml
       simp only [AO,JL] at h
       rcases Nat.eq_or_lt_of_le hc with hc|hc
       ·rw [←hc,hOm];exact hd
       ·have hle:=g.le
        refine hlat (by simpa using h.1.1.2) h.1.2 _ ?_
        have hln:=v7 hszs hrise rest (k+1) m _ _ _ _ _ hl' (by omega) htr hml (hcont (fun _=>Go.undef) he)
        have e1:=congrArg (fun (l:List (List (Option ab)))=>l[g.c - m]?) hO
        obtain ⟨d,hd1⟩: ∃d,g.c - m=d+1:=⟨g.c - m - 1,by omega⟩
        simp only [Jc,show m+(g.c - m)=g.c by omega] at e1
        rw [hd1,List.getElem?_cons_succ,Je (l:=os2) (by omega)] at e1
        rw [JR,e1]
        exact KA _
     obtain ⟨r',rfl,hout⟩:=iE (P:=P) (s:=⟨sk.t,(s.o :: os).getD g.c [],sk.y⟩) (rho:=(A x).eval) g.ro (hevs x g hD) hd'
     have e0:(execOp (A x).eval oo).run P ((cJ D nu s.o w0 l es (fun c=>(s.o :: os).getD c [])).wd g)=(execOp (A x).eval oo).run P g.w:=rfl
     rw [e0]
     generalize (execOp (A x).eval oo).run P g.w=res at hout
     cases res with
     | halt _ _=>exact hout.elim
     | ok n w'=>
      cases n<;>first|exact hout.elim|skip
      case value u=>exact hnext u w' hout.1.2 hout.2
      case skip=>exact hnext _ w' hout.1.2 hout.2
      case enter gf vargs=>
       refine Calls.mono hout ?_
       rintro e w'' ⟨v,rfl,hv,hb⟩
       obtain ⟨g',k1,k2,k3,k4⟩:=hnext v w'' hv.2 hb
       exact ⟨v,g',rfl,k1,k2,k3,k4⟩
    ·refine .inr ⟨?_, ?_⟩
     ·simp only [Region.wanted,hg,hyv j want hg _ hgv]
      rcases hno with rfl|⟨b,rfl,hb⟩
      ·rfl
      ·simpa using hb
     ·obtain ⟨g',k1,k2,k3,k4⟩:=hnext Go.undef g.w (.v _) (.refl _ _)
      exact ⟨g',k1,k2,k3,k4⟩
   ·have hO':(s.o :: os).drop m=(sk.put oo.dst r s.o).o :: os2→True:=fun _=>trivial
    refine jz hB hs hR rest (k+1) m (sk.put oo.dst r sk.o) hist (rs1++[r]) rs' os2 _ hl' ?_ hhi hrs' (hI.step hok r sk.o) hO hml (hcont (fun _=>Go.undef) he) hlt
    exact htr
theorem ck {n0 id:Nat} {s:AS} {l:List Oper} {Q:aH→AS→Prop} (es:List Nat) (fs:List (Nat×Nat)) (hB:pA l.toArray es fs=true) (hC:gO l.toArray=true) (h:dR P l es fs l 0 s [] none (Q .normal)):bZ P n0 (.region id l.toArray true) s Q:=by
 refine .inr (fun f m D nu a w hZr hn hm hs hmx R hO hR=> ?_)
 obtain ⟨rs,os,sf,htr,_,hq⟩:=ek l 0 s [] h
 have hs':=hs.drew
 have hrel:oD l.toArray=true:=by
  simp only [pA,JL] at hB
  exact hB.1.1.1
 let g0:GG D nu s.o w.drew l es (fun c=>(s.o :: os).getD c []):=⟨w.drew,nu,fun _=>false,0,hs'.ro, .refl _ _ _,(fun _ _ h=>by cases h),(fun _ _ _=>by simp),Nat.zero_le _⟩
 have hobl:=jz (P:=P) (R:=R) (rs:=rs) (g0:=g0) hB hs' (fun a' w' nu' h1 hy h2=>hR .normal D f.Z sf a' w' nu' (by rw [hy];exact m.own hm hs.ro ((ax (b6 w)).trans h1) h2.ro) h2 hq) l 0 0 s [] [] rs os (fun _=>a) (by simp) htr (by simp) (by simp) ⟨rfl,rfl,fun _=>rfl,fun _=>hs.tm.len,fun x t c v h1 h2=> .inl ⟨h1,h2⟩⟩ (by simp) (Nat.zero_le _) (fun m' e _=>by simp) (Nat.zero_le _)
 exact jR hmx hC hO (my (N:=cJ D nu s.o w.drew l es (fun c=>(s.o :: os).getD c [])) _ hrel g0 rfl (fun _=>rfl) hobl)
theorem af {all rest:List Oper} {es:List Nat} {fs:List (Nat×Nat)} {oo:Oper} {k:Nat} {s:AS} {hist:List (List (Option ab))} {pn:Option (List (Option ab)→Prop)} {Q:AS→Prop} (he:(es.contains k||(lu fs k).isSome||uh fs k)=false) (h: ∀K:AS→Prop,(∀s',dR P all es fs rest (k+1) s' hist pn Q→K s')→db P all oo s K):dR P all es fs (oo :: rest) k s hist pn Q:=by
 simp only [Bool.or_eq_false_iff] at he
 simp only [dR,he.1.1,KZ,if_false]
 cases hf:lu fs k with
 | some lo=>rw [hf] at he;simp at he
 | none=>rw [he.2];exact h _ (fun _ h=>h)
theorem ae {all rest:List Oper} {es:List Nat} {fs:List (Nat×Nat)} {dst:Option Tmp} {op:Op} {ty:TypeId} {pos:String} {aft:Array Edge} {k:Nat} {s:AS} {hist:List (List (Option ab))} {Q:AS→Prop} (he:es.contains k=true) (h: ∀K:AS→Prop,(∀s',dR P all es fs rest (k+1) s' (hist++[s.o]) none Q→K s')→sM P op s (fun r o'=>K (s.put dst r o'))):dR P all es fs (⟨dst,op,ty,pos,aft,none⟩ :: rest) k s hist none Q:=by
 simp only [dR,he,if_true,E3,true_and]
 exact h _ (fun _ h=>h)
theorem vr {all:List Oper} {es:List Nat} {fs:List (Nat×Nat)} {k:Nat} {s:AS} {hist:List (List (Option ab))} {pn:Option (List (Option ab)→Prop)} {Q:AS→Prop} (h:Q s):dR P all es fs [] k s hist pn Q:=h
instance {all:List Oper} {es:List Nat} {fs:List (Nat×Nat)} {k:Nat} {s:AS} {hist:List (List (Option ab))} {pn:Option (List (Option ab)→Prop)} {Q:AS→Prop}:ah (dR P all es fs [] k s hist pn Q) (Q s):=⟨vr⟩
end
attribute [go_sem] E3 sM Ct List.forall_mem_cons List.not_mem_nil false_implies implies_true
end Go.Proofs.YtldnlbcibmmbbaaGreat
