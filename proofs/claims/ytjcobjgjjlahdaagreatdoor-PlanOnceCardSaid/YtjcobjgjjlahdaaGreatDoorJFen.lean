/- texts of one claim, one behind the other. -/
import Derived.MapKept
import Derived.Test.YtjcobjgjjlahdaaGreatDoorJAbs
import Derived.Attr
import Derived.WalkKit
import Derived.WalkSpells
import Derived.WalkLawsBesides
import Derived.Lib.Hide
import Derived.Still
import Derived.Tactics
import Derived.KernelRfl
import Derived.StillTactics
import Derived.RangeFuncNested
import Derived.RangeFuncLeaves
import Derived.RangeFuncRecord
set_option linter.unusedSimpArgs false
set_option linter.unusedVariables false
set_option maxRecDepth 100000
set_option maxHeartbeats 16000000
open Array renaming getElem?_push_lt -> RT, getElem?_eq_getElem -> Ro, getElem?_push_size -> RU, getElem?_push -> RV, getElem?_eq_some_iff -> Q8, getD_eq_getD_getElem? -> RZ
open List renaming getElem?_eq_some_iff -> Ra, getElem?_set_self -> Rx, getElem?_set_ne -> Rw, getElem?_append_left -> Rb, getElem?_append_right -> RF, mem_of_getElem? -> RK, getElem?_toArray -> Rr
open Nat renaming lt_or_ge -> Rc, le_refl -> Q5, zero_add -> RX
open Option renaming map_eq_some_iff -> RR
open Option.some renaming injEq -> Rl
open Prod.mk renaming injEq -> Rm
open Bool renaming not_eq_true -> RW, and_eq_true -> RY
namespace Go.Proofs.YtjcobjgjjlahdaaGreatDoor
open Go.RowKit
section
open Go.RowKit Go.MapKept
def dj:TypeDesc->Value->Bool
 | .int k, .int k' _=>decide (k=k')
 | .string, .string _=>true
 | .bool, .bool _=>true
 | _,_=>false
theorem dY {d:TypeDesc} {k:Value} (h:dj d k=true):IsKey d k:=by
 cases d<;>cases k<;>simp_all [dj,IsKey]
theorem vT {s t:ByteArray} (h:s.toList=t.toList):s=t:=by
 rw [ByteArray.toList_eq,ByteArray.toList_eq] at h;obtain ⟨⟨a⟩⟩:=s;obtain ⟨⟨b⟩⟩:=t;simp at h;rw [h]
def dT:Value->Value->Bool
 | .int _ a, .int _ b=>a==b
 | .string a, .string b=>a.toList==b.toList
 | .bool a, .bool b=>a==b
 | _,_=>false
theorem qg {d:TypeDesc} {a b:Value} (ha:dj d a=true) (hb:dj d b=true):Instr.sameNow d a b=some (dT a b)∧(dT a b=true->b=a):=by
 cases d<;>cases a<;>simp only [dj,Bool.false_eq_true,decide_eq_true_eq] at ha<;>cases b<;>simp only [dj,Bool.false_eq_true,decide_eq_true_eq] at hb
 ·simp only [Instr.sameNow,dT,true_and,beq_iff_eq];exact fun h=>by rw [h]
 ·subst ha;subst hb;simp only [Instr.sameNow,dT,if_true,true_and,beq_iff_eq];exact fun h=>by rw [h]
 ·rename_i x y
  have e:(x==y)=(x.toList==y.toList):=by
   rw [Bool.eq_iff_iff,bytes_beq,beq_iff_eq];exact ⟨fun h=>by rw [h],fun h=>vT h⟩
  simp only [Instr.sameNow,dT,e,true_and,beq_iff_eq,Value.string.injEq];exact fun h=>(vT h).symm
theorem RA.plain {D:Nat->Prop} {nu:Nat->Nat->Value} {o:List (Option aa)} {w:World} {x y:Value} (h:RA D nu o w (.v x) y):y=x:=by cases h;rfl
def k9 (d:TypeDesc) (k:Value):List (List AV)->Option (Option AV)
 | []=>some none
 | [.v k',x] :: l=>if dj d k' then if dT k k' then some (some x) else k9 d k l else none
 | _=>none
def lz (d:TypeDesc) (k:Value) (x:AV):List (List AV)->Option (List (List AV))
 | []=>some [[.v k,x]]
 | [.v k',y] :: l=>if dj d k' then if dT k k' then some ([.v k,x] :: l) else (lz d k x l).map ([.v k',y] :: ·) else none
 | _=>none
section
variable {D:Nat->Prop} {nu:Nat->Nat->Value} {o:List (Option aa)} {w:World} {P:Program}
theorem mX {d:TypeDesc} {k:Value} (hk:dj d k=true): ∀(rows:List (List AV)) (es:List MapEntry) (i:Nat) (r:Option AV),es.length=rows.length->(∀(j:Nat) row c e,rows[j]? = some row->row[0]? = some c->es[j]? = some e->RA D nu o w c e.key)->k9 d k rows=some r ->
  (r=none∧Instr.findNow d k es i=some none)∨ ∃j c e row,r=some c∧Instr.findNow d k es i=some (some (i+j,e.val))∧rows[j]? = some row∧row[1]? = some c∧es[j]? = some e
 | [],[],i,r,_,_,h=>by
  simp only [k9,Rl] at h;exact .inl ⟨h.symm,rfl⟩
 | [],_ :: _,i,r,hl,_,_=>by simp at hl
 | _ :: _,[],i,r,hl,_,_=>by simp at hl
 | row :: l,e :: es,i,r,hl,hr,h=>by
  unfold k9 at h
  split at h
  ·cases ‹row :: l=[]›
  ·rename_i k' x l' e1;cases e1
   split at h
   ·rename_i hk';have hkey:e.key=k':=(hr 0 _ (.v k') e rfl rfl rfl).plain;obtain ⟨h1,h2⟩:=qg hk hk'
    split at h
    ·rename_i he;cases h;refine .inr ⟨0,x,e,_,rfl, ?_,rfl,rfl,rfl⟩;simp [Instr.findNow,hkey,h1,he]
    ·rename_i he
     have he':dT k k'=false:=by simpa using he
     rcases mX hk l es (i+1) r (by simpa using hl) (fun j row c e q1 q2 q3=>hr (j+1) row c e (by simpa using q1) q2 (by simpa using q3)) h with ⟨q1,q2⟩|⟨j,c,e2,row2,q1,q2,q3,q4,q5⟩
     ·exact .inl ⟨q1,by simp [Instr.findNow,hkey,h1,he',q2]⟩
     ·exact .inr ⟨j+1,c,e2,row2,q1,by simp [Instr.findNow,hkey,h1,he',q2];omega,by simpa using q3,q4,by simpa using q5⟩
   ·cases h
  ·cases h
theorem rZ {d:TypeDesc} {k:Value} {x:AV} (hk:dj d k=true): ∀(rows:List (List AV)) (es:List MapEntry) (i:Nat) (rows':List (List AV)),es.length=rows.length->(∀(j:Nat) row c e,rows[j]? = some row->row[0]? = some c->es[j]? = some e->RA D nu o w c e.key)->lz d k x rows=some rows' ->
  (rows'=rows++[[.v k,x]]∧Instr.findNow d k es i=some none)∨ ∃j e,rows'=rows.set j [.v k,x]∧Instr.findNow d k es i=some (some (i+j,e.val))∧es[j]? = some e∧e.key=k
 | [],[],i,r,_,_,h=>by
  simp only [lz,Rl] at h;exact .inl ⟨h.symm,rfl⟩
 | [],_ :: _,i,r,hl,_,_=>by simp at hl
 | _ :: _,[],i,r,hl,_,_=>by simp at hl
 | row :: l,e :: es,i,r,hl,hr,h=>by
  unfold lz at h
  split at h
  ·cases ‹row :: l=[]›
  ·rename_i k' y l' e1;cases e1
   split at h
   ·rename_i hk';have hkey:e.key=k':=(hr 0 _ (.v k') e rfl rfl rfl).plain;obtain ⟨h1,h2⟩:=qg hk hk'
    split at h
    ·rename_i he;cases h;refine .inr ⟨0,e,rfl, ?_,rfl,by rw [hkey];exact h2 he⟩;simp [Instr.findNow,hkey,h1,he]
    ·rename_i he
     have he':dT k k'=false:=by simpa using he
     obtain ⟨r2,hr2,rfl⟩:=RR.1 h
     rcases rZ hk l es (i+1) r2 (by simpa using hl) (fun j row c e q1 q2 q3=>hr (j+1) row c e (by simpa using q1) q2 (by simpa using q3)) hr2 with ⟨q1,q2⟩|⟨j,e2,q1,q2,q3,q4⟩
     ·exact .inl ⟨by rw [q1];rfl,by simp [Instr.findNow,hkey,h1,he',q2]⟩
     ·exact .inr ⟨j+1,e2,by rw [q1];rfl,by simp [Instr.findNow,hkey,h1,he',q2];omega,by simpa using q3,q4⟩
   ·cases h
  ·cases h
def Bk (P:Program) (T:TypeId) (o:List (Option aa)):AV->Option (TypeDesc×TypeId×Nat×aa)
 | .vec id 0=>match P.underlying T with
  | some (.map kt et)=>match P.underlying kt,o[id]? with
   | some d,some (some ob)=>some (d,et,id,ob)
   | _,_=>none
  | _=>none
 | _=>none
theorem rV {T:TypeId} {m:AV} {d:TypeDesc} {et:TypeId} {id:Nat} {ob:aa} {v:Value} (h:RO D nu o w) (hm:RA D nu o w m v) (ha:Bk P T o m=some (d,et,id,ob)) (hV:ob.fw=false) (hz:ob.z=0) :
  ∃kt g es cl,P.underlying T=some (.map kt et)∧P.underlying kt=some d∧o[id]? = some (some ob)∧v = .map (some g)∧vw D nu o w id ob g es cl:=by
 unfold Bk at ha
 split at ha
 ·split at ha
  ·rename_i kt et' hu
   split at ha
   ·rename_i d' ob' hk ho;cases ha;cases hm
    rcases h.obj id ob ho with ⟨e1,_⟩|⟨g,cur,hr⟩|⟨g,es,cl,hmp⟩
    ·rw [hV] at e1;cases e1
    ·have:=hr.z;omega
    ·exact ⟨kt,g,es,cl,hu,hk,ho,hmp.p9,hmp⟩
   ·cases ha
  ·cases ha
 ·cases ha
theorem uo (h:RO D nu o w) (P:Program) (T:TypeId):Good D nu o w ((Instr.makeMap T none).run P w) (.vec o.length 0) (o++[some ⟨T,0,false,[]⟩]):=by
 have hb:Below w.heap.size w (w.alloc (.map #[] 0)):=(Below.refl _ _).alloc (Nat.le_refl _) _
 have hv: ∀b,cW (Value.map (some w.heap.size))=some b->w.heap.size<=b:=fun b e=>by cases e;exact Nat.le_refl _
 have hm:=fq (nu:=nu) (o:=o) (ob:=⟨T,0,false,[]⟩) hb hv;refine ⟨_,_,dx nu o.length (.map (some w.heap.size)),rfl,hm,jC h hb hv (.inr (.inr ⟨w.heap.size, #[],0,(MapKept.heap_alloc w _).1,h.up _ (Nat.le_refl _),aY _ _ _ _,rfl,rfl,rfl,fun i row hi=>by simp at hi,fun i row c e hi=>by simp at hi,fun i row c e hi=>by simp at hi,fun i e hi=>by simp at hi,fun i j e e' hi=>by simp at hi⟩)), ?_⟩
 have:=RA.vec (D:=D) (nu:=dx nu o.length (.map (some w.heap.size))) (o:=o++[some ⟨T,0,false,[]⟩]) (w:=w.alloc (.map #[] 0)) o.length 0 ⟨_,List.getElem?_concat_length,fun x hx=>Nat.zero_le _⟩ (by rw [aY];rfl)
 rwa [aY] at this
theorem IK {w':World} {id:Nat} {ob ob':aa} (h:RO D nu o w) (ho:o[id]? = some (some ob)) (hl:ob'.hl=ob.hl) {g:Nat} (hg:cW (nu id ob.hl)=some g)
  (hm:b7 nu o w nu (o.set id (some ob')) w') (h5: ∀b,b≠g->w'.heap[b]? = w.heap[b]?) {es:Array MapEntry} {cl:Nat} (hn:vw D nu (o.set id (some ob')) w' id ob' g es cl):RO D nu (o.set id (some ob')) w':=by
 have hlt:=(Ra.1 ho).1
 refine ⟨?_,fun b hb=>h.up b (Nat.le_trans hm.size hb), ?_,h.gl.mono hm (fun _ _ h=>h)⟩
 ·intro id' ob'' k1
  by_cases he:id=id'
  ·subst he;rw [Rx hlt] at k1;cases k1;exact .inr (.inr ⟨g,es,cl,hn⟩)
  ·rw [Rw he] at k1
   rcases h.obj id' ob'' k1 with e|⟨g',cur',hr⟩|⟨g',es,cl,hmp⟩
   ·exact .inl e
   ·have hne:g'≠g:=fun e=>h.sep id id' ob ob'' g ho k1 he hg (by rw [<-e];exact hr.bJ);exact .inr (.inl ⟨g',cur',(h5 g' hne).trans hr.blk,hr.kJ,hr.box,hr.vec,hr.z,hr.row,fun i j row c x q1 q2 q3=>(hr.cell i j row c x q1 q2 q3).mono hm (fun _ _ h=>h),hr.one⟩)
   ·have hne:g'≠g:=fun e=>h.sep id id' ob ob'' g ho k1 he hg (by rw [<-e];exact hmp.bJ);exact .inr (.inr ⟨g',es,cl,hmp.tr (h5 g' hne) (fun h=>h) rfl (fun i j row c x _ _ hr=>hr.mono hm (fun _ _ h=>h))⟩)
 ·intro i1 i2 b1 b2 b k1 k2 hne k3
  have key: ∀(id':Nat) (ob'':aa),(o.set id (some ob'))[id']? = some (some ob'')-> ∃ob3:aa,o[id']? = some (some ob3)∧ob3.hl=ob''.hl:=fun id' ob'' q=>by
   by_cases he:id=id'
   ·subst he;rw [Rx hlt] at q;cases q;exact ⟨ob,ho,hl.symm⟩
   ·rw [Rw he] at q;exact ⟨ob'',q,rfl⟩
  obtain ⟨o1,m1,n1⟩:=key i1 b1 k1;obtain ⟨o2,m2,n2⟩:=key i2 b2 k2;rw [<-n2];rw [<-n1] at k3;exact h.sep i1 i2 o1 o2 b m1 m2 hne k3
theorem qm {T:TypeId} {m x:AV} {k v vx:Value} {d:TypeDesc} {et:TypeId} {id:Nat} {ob:aa} {rows':List (List AV)} (h:RO D nu o w) (hm:RA D nu o w m v) (hx:RA D nu o w x vx) (ha:Bk P T o m=some (d,et,id,ob)) (hV:ob.fw=false) (hz:ob.z=0) (hk:dj d k=true)
  (hs:lz d k x ob.rows=some rows'): ∃w',(Instr.mapUpdate T v k vx).run P w = .ok () w'∧b7 nu o w nu (o.set id (some { ob with rows:=rows' })) w'∧RO D nu (o.set id (some { ob with rows:=rows' })) w':=by
 obtain ⟨kt,g,es,cl,hu,hkd,ho,rfl,hmp⟩:=rV h hm ha hV hz;have hIK:=dY hk;have hlt:=(Ra.1 ho).1
 have hsz:es.toList.length=ob.rows.length:=by simpa using hmp.sz
 have hl:({ ob with rows:=rows' }:aa).hl=ob.hl:=by simp [aa.hl,hV]
 
 have fin: ∀(es':Array MapEntry) (cl':Nat),es'.size=rows'.length->(∀(i:Nat) row,rows'[i]? = some row->row.length=2)->(∀(i:Nat) row c e,rows'[i]? = some row->row[0]? = some c->es'[i]? = some e->RA D nu o w c e.key)->(∀(i:Nat) row c e,rows'[i]? = some row->row[1]? = some c->es'[i]? = some e->RA D nu o w c e.val) ->
   (∀(i:Nat) e,es'[i]? = some e->e.born<cl')->(∀(i j:Nat) e e',es'[i]? = some e->es'[j]? = some e'->i<j->e.born<e'.born) ->
   b7 nu o w nu (o.set id (some { ob with rows:=rows' })) { w with heap:=w.heap.setIfInBounds g (.map es' cl') }∧RO D nu (o.set id (some { ob with rows:=rows' })) { w with heap:=w.heap.setIfInBounds g (.map es' cl') }:=fun es' cl' p1 p2 p3 p4 p5 p6=>by
  have hh:=MapKept.heap_set (w:=w) (o':= .map es' cl') hmp.blk
  have hmono:b7 nu o w nu (o.set id (some { ob with rows:=rows' })) { w with heap:=w.heap.setIfInBounds g (.map es' cl') }:=
   jf ho hl hmp.bJ rfl rfl rfl (by simp) (fun b hb=>hh.2 b hb)
  refine ⟨hmono,IK h ho hl hmp.bJ hmono (fun b hb=>hh.2 b hb) ⟨hh.1,hmp.kJ,hmp.p9,hV,hz,p1,p2,fun i row c e q1 q2 q3=>(p3 i row c e q1 q2 q3).mono hmono (fun _ _ h=>h),fun i row c e q1 q2 q3=>(p4 i row c e q1 q2 q3).mono hmono (fun _ _ h=>h),p5,p6⟩⟩
 rcases rZ hk ob.rows es.toList 0 rows' hsz (fun j row c e q1 q2 q3=>hmp.key j row c e q1 q2 (by simpa using q3)) hs with ⟨rfl,hf⟩|⟨j,e0,rfl,hf,he0,hek⟩
 ·refine ⟨_, ?_,fin (es.push { key:=k,val:=vx,born:=cl }) (cl+1) (by simp [hmp.sz]) (fun i row hi=> ?_) (fun i row c e q1 q2 q3=> ?_) (fun i row c e q1 q2 q3=> ?_) (fun i e hi=> ?_) (fun i j e e' hi hj hij=> ?_)⟩
  ·simp [Instr.mapUpdate,run_underlying hu,MapKept.run_getObj_map hmp.blk,run_checkKey hkd hIK,run_findKey hkd hf,MapKept.run_setObj_map _ hmp.blk,Result.andThen]
  ·rcases Rc i ob.rows.length with q|q
   ·rw [Rb q] at hi;exact hmp.row i row hi
   ·rw [RF q] at hi
    have:=RK hi
    simp at this;subst this;rfl
  ·rcases Rc i ob.rows.length with q|q
   ·rw [Rb q] at q1;rw [RT (by rw [hmp.sz];exact q)] at q3;exact hmp.key i row c e q1 q2 (by rw [Ro (by rw [hmp.sz];exact q)];exact q3)
   ·rw [RF q] at q1
    have:=RK q1
    simp at this;subst this
    have hi:i=es.size:=by
     have:=(Ra.1 q1).1
     simp at this;have:=hmp.sz;omega
    subst hi;rw [RU] at q3;cases q3;cases q2;exact .v _
  ·rcases Rc i ob.rows.length with q|q
   ·rw [Rb q] at q1;rw [RT (by rw [hmp.sz];exact q)] at q3;exact hmp.val i row c e q1 q2 (by rw [Ro (by rw [hmp.sz];exact q)];exact q3)
   ·rw [RF q] at q1
    have:=RK q1
    simp at this;subst this
    have hi:i=es.size:=by
     have:=(Ra.1 q1).1
     simp at this;have:=hmp.sz;omega
    subst hi;rw [RU] at q3;cases q3;cases q2;exact hx
  ·rw [RV] at hi
   split at hi
   ·cases hi;exact Nat.lt_succ_self _
   ·exact Nat.lt_succ_of_lt (hmp.born i e hi)
  ·rw [RV] at hi hj
   split at hj
   ·cases hj
    split at hi
    ·omega
    ·exact hmp.born i e hi
   ·split at hi
    ·have:=(Q8.1 hj).1;omega
    ·exact hmp.rH i j e e' hi hj hij
 ·have hj0:es[j]? = some e0:=by simpa using he0
  have hjl:=(Q8.1 hj0).1
  have hmod: ∀i,(es.modify j fun e=>{ e with key:=k,val:=vx })[i]? = if j=i then (es[i]?).map (fun e=>{ e with key:=k,val:=vx }) else es[i]? :=fun i=>by rw [Array.getElem?_modify]
  have hbn: ∀(i:Nat) e,(es.modify j fun e=>{ e with key:=k,val:=vx })[i]? = some e-> ∃e1,es[i]? = some e1∧e1.born=e.born:=fun i e hi=>by
   rw [hmod] at hi
   split at hi
   ·obtain ⟨e1,k1,rfl⟩:=RR.1 hi;exact ⟨e1,k1,rfl⟩
   ·exact ⟨e,hi,rfl⟩
  refine ⟨_, ?_,fin (es.modify j fun e=>{ e with key:=k,val:=vx }) cl (by simp [hmp.sz]) (fun i row hi=> ?_) (fun i row c e q1 q2 q3=> ?_) (fun i row c e q1 q2 q3=> ?_) (fun i e hi=> ?_) (fun i j' e e' hi hj hij=> ?_)⟩
  ·simp [Instr.mapUpdate,run_underlying hu,MapKept.run_getObj_map hmp.blk,run_checkKey hkd hIK,run_findKey hkd hf,hj0,hek,run_keyThatStays hIK,MapKept.run_setObj_map _ hmp.blk,Result.andThen]
  ·by_cases hij:j=i
   ·subst hij;rw [Rx (by rw [<-hmp.sz];exact hjl)] at hi;cases hi;rfl
   ·rw [Rw hij] at hi;exact hmp.row i row hi
  ·rw [hmod] at q3
   by_cases hij:j=i
   ·subst hij;rw [Rx (by rw [<-hmp.sz];exact hjl)] at q1;cases q1;rw [if_pos rfl] at q3;obtain ⟨e1,k1,rfl⟩:=RR.1 q3;cases q2;exact .v _
   ·rw [Rw hij] at q1;rw [if_neg hij] at q3;exact hmp.key i row c e q1 q2 q3
  ·rw [hmod] at q3
   by_cases hij:j=i
   ·subst hij;rw [Rx (by rw [<-hmp.sz];exact hjl)] at q1;cases q1;rw [if_pos rfl] at q3;obtain ⟨e1,k1,rfl⟩:=RR.1 q3;cases q2;exact hx
   ·rw [Rw hij] at q1;rw [if_neg hij] at q3;exact hmp.val i row c e q1 q2 q3
  ·obtain ⟨e1,k1,k2⟩:=hbn i e hi;rw [<-k2];exact hmp.born i e1 k1
  ·obtain ⟨e1,k1,k2⟩:=hbn i e hi;obtain ⟨e2,k3,k4⟩:=hbn j' e' hj;rw [<-k2, <- k4];exact hmp.rH i j' e1 e2 k1 k3 hij
def r7 (P:Program) (T:TypeId):Option AV:=match P.info? T with
 | some i=>match i.zero with
  | some (.agg xs)=>if xs.toList.all (·.oneCell') then some (.agg (xs.toList.map AV.v)) else none
  | some zv=>some (.v zv)
  | none=>none
 | none=>none
theorem pj {T:TypeId} {c:AV} (h:r7 P T=some c): ∃zv,(zeroValue T).run P w = .ok zv w∧RA D nu o w c zv:=by
 unfold r7 at h
 split at h
 ·rename_i i hi
  split at h
  ·rename_i xs hz
   split at h
   ·rename_i hall;cases h
    refine ⟨.agg xs,by simp [zeroValue,typeInfo,hi,hz], .agg _ _ (by simp) (fun i c x q1 q2=> ?_) (fun i x q=> ?_)⟩
    ·rw [List.getElem?_map] at q1
     have:xs.toList[i]? = some x:=by simpa using q2
     rw [this] at q1;cases q1;exact .v _
    ·rw [List.all_eq_true] at hall;exact hall x (RK (i:=i) (by simpa using q))
   ·cases h
  ·rename_i zv hne hz;cases h;exact ⟨zv,by simp [zeroValue,typeInfo,hi,hz], .v _⟩
  ·cases h
 ·cases h
def tI (P:Program) (T:TypeId) (o:List (Option aa)) (m k:AV) (ok:Bool):Option (Prop×AV):=match Bk P T o m,k with
 | some (d,et,_,ob), .v kv=>if dj d kv then match k9 d kv ob.rows with
  | some (some c)=>some (ob.fw=false∧ob.z=0,if ok then .dC [c, .v (.bool true)] else c)
  | some none=>match r7 P et with
   | some z=>some (ob.fw=false∧ob.z=0,if ok then .dC [z, .v (.bool false)] else z)
   | none=>none
  | none=>none
  else none
 | _,_=>none
theorem RA.pair {c:AV} {x:Value} {b:Bool} (h:RA D nu o w c x):RA D nu o w (.dC [c, .v (.bool b)]) (.tuple #[x, .bool b]):=by
 refine .dC _ _ rfl (fun i a y q1 q2=> ?_)
 match i,q1,q2 with
 | 0,q1,q2=>cases q1;cases q2;exact h
 | 1,q1,q2=>cases q1;cases q2;exact .v _
 | i+2,q1,q2=>simp at q1
theorem vF {T:TypeId} {m k:AV} {vm vk:Value} {ok:Bool} {p:Prop} {r:AV} (h:RO D nu o w) (hm:RA D nu o w m vm) (hk:RA D nu o w k vk) (ha:tI P T o m k ok=some (p,r)) (hp:p): ∃v,(Instr.lookup T vm vk ok).run P w = .ok v w∧RA D nu o w r v:=by
 unfold tI at ha
 split at ha
 ·rename_i d et id ob kv e1;obtain rfl:=hk.plain
  split at ha
  ·rename_i hkb
   have fin:ob.fw=false∧ob.z=0-> ∀q,k9 d vk ob.rows=some q-> ∃kt g es cl,P.underlying T=some (.map kt et)∧P.underlying kt=some d∧vm = .map (some g)∧w.heap[g]? = some (.map es cl)∧vw D nu o w id ob g es cl ∧
     ((q=none∧Instr.findNow d vk es.toList 0=some none)∨ ∃j c e row,q=some c∧Instr.findNow d vk es.toList 0=some (some (0+j,e.val))∧ob.rows[j]? = some row∧row[1]? = some c∧es.toList[j]? = some e):=fun hh q hq=>by
    obtain ⟨kt,g,es,cl,hu,hkd,ho,rfl,hmp⟩:=rV h hm e1 hh.1 hh.2;exact ⟨kt,g,es,cl,hu,hkd,rfl,hmp.blk,hmp,mX hkb ob.rows es.toList 0 q (by simpa using hmp.sz) (fun j row c e q1 q2 q3=>hmp.key j row c e q1 q2 (by simpa using q3)) hq⟩
   split at ha
   ·rename_i c hq;simp only [Rl,Rm] at ha;obtain ⟨rfl,rfl⟩:=ha;obtain ⟨kt,g,es,cl,hu,hkd,rfl,hb,hmp,hf⟩:=fin hp _ hq
    rcases hf with ⟨q1,_⟩|⟨j,c',e,row,q1,q2,q3,q4,q5⟩
    ·cases q1
    ·cases q1;have hra:RA D nu o w c e.val:=hmp.val j row c e q3 q4 (by simpa using q5)
     cases ok
     ·exact ⟨e.val,by simp [Instr.lookup,run_underlying hu,MapKept.run_getObj_map hb,run_checkKey hkd (dY hkb),run_findKey hkd q2,Result.andThen],hra⟩
     ·exact ⟨.tuple #[e.val, .bool true],by simp [Instr.lookup,run_underlying hu,MapKept.run_getObj_map hb,run_checkKey hkd (dY hkb),run_findKey hkd q2,Result.andThen],hra.pair⟩
   ·rename_i hq
    split at ha
    ·rename_i z hz;simp only [Rl,Rm] at ha;obtain ⟨rfl,rfl⟩:=ha;obtain ⟨kt,g,es,cl,hu,hkd,rfl,hb,hmp,hf⟩:=fin hp _ hq
     rcases hf with ⟨_,q2⟩|⟨j,c',e,row,q1,_⟩
     ·obtain ⟨zv,z1,z2⟩:=pj (D:=D) (nu:=nu) (o:=o) (w:=w) hz
      cases ok
      ·exact ⟨zv,by simp [Instr.lookup,run_underlying hu,MapKept.run_getObj_map hb,run_checkKey hkd (dY hkb),run_findKey hkd q2,z1,Result.andThen],z2⟩
      ·exact ⟨.tuple #[zv, .bool false],by simp [Instr.lookup,run_underlying hu,MapKept.run_getObj_map hb,run_checkKey hkd (dY hkb),run_findKey hkd q2,z1,Result.andThen],z2.pair⟩
     ·cases q1
    ·cases ha
   ·cases ha
  ·cases ha
 ·cases ha
def tH (P:Program) (T:TypeId) (rows:List (List AV)) (k:AV) (ok:Bool):Option (Prop×AV):=match P.underlying T,k with
 | some (.map kt et), .v kv=>match P.underlying kt with
  | some d=>if dj d kv then match k9 d kv rows with
   | some (some c)=>some (True,if ok then .dC [c, .v (.bool true)] else c)
   | some none=>match r7 P et with
    | some z=>some (True,if ok then .dC [z, .v (.bool false)] else z)
    | none=>none
   | none=>none
   else none
  | none=>none
 | _,_=>none
theorem vE {T:TypeId} {rows:List (List AV)} {k:AV} {vm vk:Value} {ok:Bool} {p:Prop} {r:AV} (hm:RA D nu o w (.mp rows) vm) (hk:RA D nu o w k vk) (ha:tH P T rows k ok=some (p,r)): ∃v,(Instr.lookup T vm vk ok).run P w = .ok v w∧RA D nu o w r v:=by
 unfold tH at ha
 split at ha
 ·rename_i kt et kv hu;obtain rfl:=hk.plain
  split at ha
  ·rename_i d hkd
   split at ha
   ·rename_i hkb
    cases hm with
    | mp _ b es cl h1 hb h3 h4 h5 h6 h7=>
    have fin:=fun q hq=>mX (D:=D) (nu:=nu) (o:=o) (w:=w) hkb rows es.toList 0 q (by simpa using h3) (fun j row c e q1 q2 q3=>h7 j 0 row c e q1 q2 (by simpa using q3)) hq
    split at ha
    ·rename_i c hq;simp only [Rl,Rm] at ha;obtain ⟨rfl,rfl⟩:=ha
     rcases fin _ hq with ⟨q1,_⟩|⟨j,c',e,row,q1,q2,q3,q4,q5⟩
     ·cases q1
     ·cases q1;have hra:RA D nu o w c e.val:=h7 j 1 row c e q3 q4 (by simpa using q5)
      cases ok
      ·exact ⟨e.val,by simp [Instr.lookup,run_underlying hu,MapKept.run_getObj_map hb,run_checkKey hkd (dY hkb),run_findKey hkd q2,Result.andThen],hra⟩
      ·exact ⟨.tuple #[e.val, .bool true],by simp [Instr.lookup,run_underlying hu,MapKept.run_getObj_map hb,run_checkKey hkd (dY hkb),run_findKey hkd q2,Result.andThen],hra.pair⟩
    ·rename_i hq
     split at ha
     ·rename_i z hz;simp only [Rl,Rm] at ha;obtain ⟨rfl,rfl⟩:=ha
      rcases fin _ hq with ⟨_,q2⟩|⟨j,c',e,row,q1,_⟩
      ·obtain ⟨zv,z1,z2⟩:=pj (D:=D) (nu:=nu) (o:=o) (w:=w) hz
       cases ok
       ·exact ⟨zv,by simp [Instr.lookup,run_underlying hu,MapKept.run_getObj_map hb,run_checkKey hkd (dY hkb),run_findKey hkd q2,z1,Result.andThen],z2⟩
       ·exact ⟨.tuple #[zv, .bool false],by simp [Instr.lookup,run_underlying hu,MapKept.run_getObj_map hb,run_checkKey hkd (dY hkb),run_findKey hkd q2,z1,Result.andThen],z2.pair⟩
      ·cases q1
     ·cases ha
    ·cases ha
   ·cases ha
  ·cases ha
 ·cases ha
def vD (P:Program) (T:TypeId) (o:List (Option aa)) (m k:AV) (ok:Bool):Option (Prop×AV):=match m with
 | .mp rows=>tH P T rows k ok
 | .vec id len=>tI P T o (.vec id len) k ok
 | _=>none
theorem pg {T:TypeId} {m k:AV} {vm vk:Value} {ok:Bool} {p:Prop} {r:AV} (h:RO D nu o w) (hm:RA D nu o w m vm) (hk:RA D nu o w k vk) (ha:vD P T o m k ok=some (p,r)) (hp:p): ∃v,(Instr.lookup T vm vk ok).run P w = .ok v w∧RA D nu o w r v:=by
 unfold vD at ha
 split at ha
 ·exact vE hm hk ha
 ·exact vF h hm hk ha hp
 ·cases ha
def ph (P:Program) (T:TypeId) (o:List (Option aa)) (m k x:AV):Option (Prop×List (Option aa)):=match Bk P T o m,k with
 | some (d,_,id,ob), .v kv=>if dj d kv then match lz d kv x ob.rows with
  | some rows=>some (ob.fw=false∧ob.z=0,o.set id (some ⟨ob.T,ob.z,ob.fw,rows⟩))
  | none=>none
  else none
 | _,_=>none
theorem nS {T:TypeId} {m k x:AV} {vm vk vx:Value} {p:Prop} {o':List (Option aa)} (h:RO D nu o w) (hm:RA D nu o w m vm) (hk:RA D nu o w k vk) (hx:RA D nu o w x vx) (ha:ph P T o m k x=some (p,o')) (hp:p) :
  ∃w',(Instr.mapUpdate T vm vk vx).run P w = .ok () w'∧b7 nu o w nu o' w'∧RO D nu o' w':=by
 unfold ph at ha
 split at ha
 ·rename_i d et id ob kv e1;obtain rfl:=hk.plain
  split at ha
  ·rename_i hkb
   split at ha
   ·rename_i rows hs;simp only [Rl,Rm] at ha;obtain ⟨rfl,rfl⟩:=ha;exact qm h hm hx e1 hp.1 hp.2 hkb hs
   ·cases ha
  ·cases ha
 ·cases ha
end
end
section
attribute [go_sem_proc] Nat.reduceAdd Nat.reduceSub Nat.reduceMul Nat.reduceLeDiff Nat.reduceEqDiff Nat.reduceLT Int.reduceToNat reduceCtorEq Int.reduceLE Int.reduceLT Int.reduceNeg Int.reduceEq Int.reduceBEq Int.reduceBNe
attribute [go_sem_proc ↓] reduceIte
open Go.RowKit
inductive Ex where
 | mk (kind:Int) (label:ByteArray) (kids:List Ex)
def Ex.kind:Ex->Int| .mk k _ _=>k
def Ex.label:Ex->ByteArray| .mk _ s _=>s
def Ex.kids:Ex->List Ex| .mk _ _ l=>l
theorem Ex.ind {P:Ex->Prop} (h: ∀k s kids,(∀x,x∈kids->P x)->P (.mk k s kids)): ∀x,P x:=
 @Ex.rec P (fun l=> ∀x,x∈l->P x) (fun k s kids ih=>h k s kids ih) (fun x hx=>by cases hx) (fun hd tl h1 h2 x hx=>by
  cases hx with
  | head=>exact h1
  | tail _ hm=>exact h2 x hm)
def jW (w:World) (v:Value) (e:Ending) (w':World):Prop:=e = .returned v∧Below w.heap.size w w'
theorem fa {w:World} {b o:Nat} {v:Value} (h:w.cell? ⟨b,o,none⟩=some v):b<w.heap.size:=by
 rcases Nat.lt_or_ge b w.heap.size with h'|h'
 ·exact h'
 ·simp [World.cell?,Array.getElem?_eq_none h'] at h
theorem yH {w w':World} (hb:Below w.heap.size w w') {b o:Nat} {v:Value} (h:w.cell? ⟨b,o,none⟩=some v):w'.cell? ⟨b,o,none⟩=some v:=
 (hb.cell (p:=⟨b,o,none⟩) (fa h)).trans h
theorem ae {w w1 w2:World} (h:Below w.heap.size w w1) (k:Below w1.heap.size w1 w2):Below w.heap.size w w2:=h.trans (k.mono h.size)
theorem Below.Gg {w w':World} (h:Below w.drew.heap.size w.drew w'):Below w.heap.size w w':=⟨h.os,h.tape,h.output,h.size,h.block⟩
theorem cX (w:World):Below w.heap.size w w.drew:=(Below.refl _ _).drew
theorem aG {w w':World} {v:Value} {b b':Bool} (hv:v = .bool b) (h:b=b') (hb:Below w.heap.size w w'):jW w (.bool b') (.returned v) w':=⟨by rw [hv,h],hb⟩
theorem s8 {w w':World} {v:Value} {b b':Int} (hv:v = .int .i64 b) (h:b=b') (hb:Below w.heap.size w w'):jW w (.int .i64 b') (.returned v) w':=⟨by rw [hv,h],hb⟩
def yk (w:World) (v:Value) (e:Ending) (w':World):Prop:=e = .returned v∧w=w'
theorem lU {w:World} {v:Value} {b b':Bool} (hv:v = .bool b) (h:b=b'):yk w (.bool b') (.returned v) w:=⟨by rw [hv,h],rfl⟩
theorem FO {w:World} {v:Value} {b b':Int} (hv:v = .int .i64 b) (h:b=b'):yk w (.int .i64 b') (.returned v) w:=⟨by rw [hv,h],rfl⟩
theorem dz {w w1:World} (h:Below w.heap.size w w1) (o:Obj):Below w.heap.size w (w1.alloc o):=h.alloc h.size o
theorem j4 {w w1:World} (h:Below w.heap.size w w1):Below w.heap.size w w1.drew:=h.drew
theorem bO {W w1:World} (hb:Below W.heap.size W w1):(∀b o,b<W.heap.size->w1.cell? ⟨b,o,none⟩=W.cell? ⟨b,o,none⟩)∧(∀b o,b<W.heap.size->w1.frozen? ⟨b,o,none⟩=W.frozen? ⟨b,o,none⟩):=
 ⟨fun b o h=>hb.cell (p:=⟨b,o,none⟩) h,fun b o h=>hb.frozen (p:=⟨b,o,none⟩) h⟩
def cY (w:World) (b o:Nat):List Value->Prop
 | []=>True
 | v :: vs=>w.cell? ⟨b,o,none⟩=some v∧cY w b (o+1) vs
def Cells (w w':World):Prop:= ∀b o v,w.cell? ⟨b,o,none⟩=some v->w'.cell? ⟨b,o,none⟩=some v
theorem Cells.of {w w':World} (hb:Below w.heap.size w w'):Cells w w':=fun _ _ _ h=>yH hb h
theorem Cells.trans {a b c:World} (h:Cells a b) (k:Cells b c):Cells a c:=fun x o v hv=>k x o v (h x o v hv)
theorem cY.cells {w w':World} (hb:Cells w w'): ∀ {vs:List Value} {b o:Nat},cY w b o vs->cY w' b o vs
 | [],_,_,_=>trivial
 | _ :: _,_,_,h=>⟨hb _ _ _ h.1,h.2.cells hb⟩
theorem cY.below {w w':World} (hb:Below w.heap.size w w') {vs:List Value} {b o:Nat} (h:cY w b o vs):cY w' b o vs:=h.cells (.of hb)
def ej {α:Type} (w:World) (sz:Nat) (rd:α->List Value->Prop) (xs:List α) (v:Value):Prop:=
 ((v = .slice none 0 0∨ ∃a:Addr,v = .slice (some a) 0 0)∧xs=[])∨ ∃b o cap,v = .slice (some ⟨b,o,none⟩) xs.length cap∧xs.length<=cap∧cap<=maxLen ∧
  ∀i x,xs[i]? = some x-> ∃cs,rd x cs∧cY w b (o+i * sz) cs
theorem ej.LR {α:Type} {w w':World} {sz:Nat} {rd rd':α->List Value->Prop} {xs:List α} {v:Value} (h:ej w sz rd xs v)
  (hb:Cells w w') (hrd: ∀x cs,x∈xs->rd x cs->rd' x cs):ej w' sz rd' xs v:=by
 rcases h with h|⟨b,o,cap,hv,h1,h2,h3⟩
 ·exact .inl h
 ·refine .inr ⟨b,o,cap,hv,h1,h2,fun i x hx=> ?_⟩;obtain ⟨cs,hc,hw⟩:=h3 i x hx;exact ⟨cs,hrd x cs (RK hx) hc,hw.cells hb⟩
theorem ej.imp {α:Type} {w w':World} {sz:Nat} {rd rd':α->List Value->Prop} {xs:List α} {v:Value} (h:ej w sz rd xs v)
  (hb:Below w.heap.size w w') (hrd: ∀x cs,x∈xs->rd x cs->rd' x cs):ej w' sz rd' xs v:=by
 rcases h with h|⟨b,o,cap,hv,h1,h2,h3⟩
 ·exact .inl h
 ·refine .inr ⟨b,o,cap,hv,h1,h2,fun i x hx=> ?_⟩;obtain ⟨cs,hc,hw⟩:=h3 i x hx;exact ⟨cs,hrd x cs (RK hx) hc,hw.below hb⟩
theorem ej.below {α:Type} {w w':World} {sz:Nat} {rd:α->List Value->Prop} {xs:List α} {v:Value} (h:ej w sz rd xs v)
  (hb:Below w.heap.size w w'):ej w' sz rd xs v:=h.imp hb (fun _ _ _ h=>h)
theorem ej.shape {α:Type} {w:World} {sz:Nat} {rd:α->List Value->Prop} {xs:List α} {v:Value} (h:ej w sz rd xs v) :
  ∃p cap,v = .slice p xs.length cap∧xs.length<=cap∧cap<=maxLen:=by
 rcases h with ⟨rfl|⟨a,rfl⟩,rfl⟩|⟨b,o,cap,hv,h1,h2,h3⟩
 ·exact ⟨none,0,rfl,Nat.le_refl _,by unfold maxLen;omega⟩
 ·exact ⟨some a,0,rfl,Nat.le_refl _,by unfold maxLen;omega⟩
 ·exact ⟨_,cap,hv,h1,h2⟩
theorem ej.at {α:Type} {w:World} {sz:Nat} {rd:α->List Value->Prop} {xs:List α} {p:Option Addr} {n cap:Nat} (h:ej w sz rd xs (.slice p n cap))
  {k:Nat} (hk:k<xs.length): ∃b o cs,p=some ⟨b,o,none⟩∧rd xs[k] cs∧cY w b (o+k * sz) cs:=by
 rcases h with ⟨_,rfl⟩|⟨b,o,cap,hv,h1,h2,h3⟩
 ·simp at hk
 ·obtain ⟨cs,hc,hw⟩:=h3 k xs[k] (by simp [hk]);cases hv;exact ⟨b,o,cs,rfl,hc,hw⟩
mutual
def cU (w:World):Ex->List Value->Prop
 | .mk k s kids,cs=> ∃sv,cs=[.int .i64 k, .string s,sv]∧dm w kids sv
def dm (w:World):List Ex->Value->Prop
 | [],v=>(v = .slice none 0 0∨ ∃a:Addr,v = .slice (some a) 0 0)∨ ∃b o cap,v = .slice (some ⟨b,o,none⟩) 0 cap∧cap<=maxLen
 | x :: xs,v=> ∃b o cap cs,v = .slice (some ⟨b,o,none⟩) (xs.length+1) cap∧xs.length+1<=cap∧cap<=maxLen∧cU w x cs∧cY w b o cs∧pc w b (o+3) xs
def pc (w:World) (b:Nat):Nat->List Ex->Prop
 | _,[]=>True
 | o,x :: xs=> ∃cs,cU w x cs∧cY w b o cs∧pc w b (o+3) xs
end
theorem kP {w:World} {b:Nat}: ∀ {xs:List Ex} {o:Nat},pc w b o xs ↔ ∀i x,xs[i]? = some x-> ∃cs,cU w x cs∧cY w b (o+i * 3) cs
 | [],o=>⟨fun _ i x h=>by simp at h,fun _=>by simp [pc]⟩
 | y :: ys,o=>by
  rw [pc]
  constructor
  ·rintro ⟨cs,h1,h2,h3⟩ i x hx
   cases i with
   | zero=>simp at hx;subst hx;exact ⟨cs,h1,by simpa using h2⟩
   | succ i=>
    obtain ⟨cs',h4,h5⟩:=kP.1 h3 i x (by simpa using hx);exact ⟨cs',h4,by rw [show o+(i+1) * 3=o+3+i * 3 by omega];exact h5⟩
  ·intro h;obtain ⟨cs,h1,h2⟩:=h 0 y (by simp);refine ⟨cs,h1,by simpa using h2,kP.2 fun i x hx=> ?_⟩;obtain ⟨cs',h4,h5⟩:=h (i+1) x (by simpa using hx);exact ⟨cs',h4,by rw [show o+3+i * 3=o+(i+1) * 3 by omega];exact h5⟩
theorem cI {w:World}: ∀ {xs:List Ex} {v:Value},dm w xs v↔ej w 3 (cU w) xs v
 | [],v=>by
  rw [dm]
  constructor
  ·rintro (h|⟨b,o,cap,h1,h2⟩)
   ·exact .inl ⟨h,rfl⟩
   ·exact .inr ⟨b,o,cap,by simpa using h1,by simp,h2,fun i x h=>by simp at h⟩
  ·rintro (h|⟨b,o,cap,h1,_,h2,_⟩)
   ·exact .inl h.1
   ·exact .inr ⟨b,o,cap,by simpa using h1,h2⟩
 | x :: xs,v=>by
  rw [dm]
  constructor
  ·rintro ⟨b,o,cap,cs,h1,h2,h3,h4,h5,h6⟩;refine .inr ⟨b,o,cap,by simpa using h1,by simpa using h2,h3, ?_⟩
   have:=(kP (xs:=x :: xs) (o:=o)).1 (by rw [pc];exact ⟨cs,h4,h5,h6⟩)
   exact this
  ·rintro (⟨_,h⟩|⟨b,o,cap,h1,h2,h3,h4⟩)
   ·cases h
   ·have:=(kP (xs:=x :: xs) (o:=o)).2 h4
    rw [pc] at this;obtain ⟨cs,h5,h6,h7⟩:=this;exact ⟨b,o,cap,cs,by simpa using h1,by simpa using h2,h3,h5,h6,h7⟩
theorem cU.cells {w w':World} (hb:Cells w w'): ∀x:Ex, ∀cs,cU w x cs->cU w' x cs:=by
 intro x
 induction x using Ex.ind with
 | h k s kids ih=>
  intro cs h;rw [cU] at h ⊢;obtain ⟨sv,h1,h2⟩:=h;exact ⟨sv,h1,cI.2 ((cI.1 h2).LR hb (fun x cs hx=>ih x hx cs))⟩
theorem cU.below {w w':World} (hb:Below w.heap.size w w') (x:Ex) (cs:List Value) (h:cU w x cs):cU w' x cs:=cU.cells (.of hb) x cs h
theorem dm.cells {w w':World} (hb:Cells w w') {xs:List Ex} {v:Value} (h:dm w xs v):dm w' xs v:=
 cI.2 ((cI.1 h).LR hb (fun x cs _=>cU.cells hb x cs))
theorem dm.below {w w':World} (hb:Below w.heap.size w w') {xs:List Ex} {v:Value} (h:dm w xs v):dm w' xs v:=
 cI.2 ((cI.1 h).imp hb (fun x cs _=>cU.below hb x cs))
theorem dm.shape {w:World} {xs:List Ex} {v:Value} (h:dm w xs v): ∃p cap,v = .slice p xs.length cap∧xs.length<=cap∧cap<=maxLen:=(cI.1 h).shape
theorem dm.at {w:World} {xs:List Ex} {p:Option Addr} {n cap:Nat} (h:dm w xs (.slice p n cap)) {k:Nat} (hk:k<xs.length) :
  ∃b o kd s kids sv,p=some ⟨b,o,none⟩∧xs[k] = .mk kd s kids∧dm w kids sv ∧
   w.cell? ⟨b,o+k * 3,none⟩=some (.int .i64 kd)∧w.cell? ⟨b,o+k * 3+1,none⟩=some (.string s)∧w.cell? ⟨b,o+k * 3+2,none⟩=some sv:=by
 obtain ⟨b,o,cs,hp,hr,hc⟩:=(cI.1 h).at hk
 rcases hx:xs[k] with ⟨kd,s,kids⟩
 rw [hx,cU] at hr;obtain ⟨sv,rfl,hr⟩:=hr;exact ⟨b,o,kd,s,kids,sv,hp,rfl,hr,hc.1,hc.2.1,hc.2.2.1⟩
def fy {α β:Type} (f:α->β->Bool):List α->List β->Bool
 | [],[]=>true
 | x :: xs,y :: ys=>f x y&&fy f xs ys
 | _,_=>false
theorem ia {α β:Type} {f:α->β->Bool}: ∀ {xs:List α} {ys:List β},fy f xs ys=true↔xs.length=ys.length∧ ∀i (h:i<xs.length) (h':i<ys.length),f xs[i] ys[i]=true
 | [],[]=>by simp [fy]
 | [],_ :: _=>by simp [fy]
 | _ :: _,[]=>by simp [fy]
 | x :: xs,y :: ys=>by
  simp only [fy,Bool.and_eq_true,ia,List.length_cons]
  constructor
  ·rintro ⟨h1,h2,h3⟩;refine ⟨by omega,fun i h h'=> ?_⟩
   cases i with
   | zero=>exact h1
   | succ i=>exact h3 i (by omega) (by omega)
  ·rintro ⟨h1,h2⟩;exact ⟨h2 0 (by omega) (by omega),by omega,fun i h h'=>h2 (i+1) (by omega) (by omega)⟩
theorem l9 {α β:Type} {f:α->β->Bool} {xs:List α} {ys:List β} (h:xs.length≠ys.length):fy f xs ys=false:=by
 rw [<-RW,ia];exact fun hh=>h hh.1
theorem oQ {α β:Type} {f:α->β->Bool} {xs:List α} {ys:List β} {k:Nat} (h:k<xs.length) (h':k<ys.length) (hf:f xs[k] ys[k]=false):fy f xs ys=false:=by
 rw [<-RW,ia];exact fun hh=>by rw [hh.2 k h h'] at hf;cases hf
mutual
def du:Ex->Ex->Bool
 | .mk k s l, .mk k' s' l'=>(k==k')&&(s.toList==s'.toList)&&iB l l'
def iB:List Ex->List Ex->Bool
 | [],[]=>true
 | x :: xs,y :: ys=>du x y&&iB xs ys
 | _,_=>false
end
theorem lK: ∀xs ys,iB xs ys=fy du xs ys
 | [],[]=>by simp [iB,fy]
 | [],_ :: _=>by simp [iB,fy]
 | _ :: _,[]=>by simp [iB,fy]
 | x :: xs,y :: ys=>by simp [iB,fy,lK xs ys]
theorem jQ (k k':Int) (s s':ByteArray) (l l':List Ex):du (.mk k s l) (.mk k' s' l')=((k==k')&&(s.toList==s'.toList)&&fy du l l'):=by
 rw [du,lK]
structure pe where
 kind:Int
 num:Int
 text:ByteArray
structure dM where
 kind:Int
 name:ByteArray
 key:ByteArray
 val:pe
structure ff where
 op:Int
 left:dM
 right:dM
structure bQ where
 aR:ByteArray
 to:ByteArray
 path:Bool
 label:ByteArray
 name:ByteArray
 expr:Ex
structure fg where
 aj:List bQ
 conds:List ff
 ret:List dM
 range:Int
 kz:Int
def pe.cells (x:pe):List Value:=[.int .i64 x.kind, .int .i64 x.num, .string x.text]
def dM.cells (x:dM):List Value:=[.int .i64 x.kind, .string x.name, .string x.key, .int .i64 x.val.kind, .int .i64 x.val.num, .string x.val.text]
def ff.cells (x:ff):List Value:=[.int .i64 x.op, .int .i64 x.left.kind, .string x.left.name, .string x.left.key, .int .i64 x.left.val.kind, .int .i64 x.left.val.num, .string x.left.val.text,
 .int .i64 x.right.kind, .string x.right.name, .string x.right.key, .int .i64 x.right.val.kind, .int .i64 x.right.val.num, .string x.right.val.text]
def pe.mj (x y:pe):Bool:=(x.kind==y.kind)&&(x.num==y.num)&&(x.text.toList==y.text.toList)
def dM.mj (x y:dM):Bool:=(x.kind==y.kind)&&(x.name.toList==y.name.toList)&&(x.key.toList==y.key.toList)&&x.val.mj y.val
def ff.mj (x y:ff):Bool:=(x.op==y.op)&&x.left.mj y.left&&x.right.mj y.right
def cf (s t:ByteArray):Bool:=s.toList==t.toList
def fH (x y:bQ):Bool:=(x.aR.toList==y.aR.toList)&&(x.to.toList==y.to.toList)&&(x.path==y.path)&&(x.label.toList==y.label.toList)&&(x.name.toList==y.name.toList)&&du x.expr y.expr
def lp (w:World) (p:bQ) (cs:List Value):Prop:=
 ∃k s l sv,p.expr = .mk k s l∧dm w l sv∧cs=[.string p.aR, .string p.to, .bool p.path, .string p.label, .string p.name, .int .i64 k, .string s,sv]
def Jc (p:dM) (cs:List Value):Prop:=cs=p.cells
def Jb (p:ff) (cs:List Value):Prop:=cs=p.cells
def Jd (p:ByteArray) (cs:List Value):Prop:=cs=[.string p]
def Lo (p:Int) (cs:List Value):Prop:=cs=[.int .i64 p]
theorem lp.cells {w w':World} (hb:Cells w w') {p:bQ} {cs:List Value} (h:lp w p cs):lp w' p cs:=by
 obtain ⟨k,s,l,sv,h1,h2,h3⟩:=h;exact ⟨k,s,l,sv,h1,h2.cells hb,h3⟩
theorem lp.below {w w':World} (hb:Below w.heap.size w w') {p:bQ} {cs:List Value} (h:lp w p cs):lp w' p cs:=h.cells (.of hb)
abbrev jk (w:World) (xs:List bQ) (v:Value):Prop:=ej w 8 (lp w) xs v
abbrev jj (w:World) (xs:List dM) (v:Value):Prop:=ej w 6 Jc xs v
abbrev ly (w:World) (xs:List ff) (v:Value):Prop:=ej w 13 Jb xs v
abbrev gZ (w:World) (xs:List ByteArray) (v:Value):Prop:=ej w 1 Jd xs v
abbrev Oi (w:World) (xs:List Int) (v:Value):Prop:=ej w 1 Lo xs v
theorem jE {w w':World} (hb:Below w.heap.size w w') {xs:List bQ} {v:Value} (h:jk w xs v):jk w' xs v:=ej.imp h hb (fun _ _ _ h=>h.below hb)
def nQ (w:World) (q:fg) (cs:List Value):Prop:=
 ∃v1 v2 v3,jk w q.aj v1∧ly w q.conds v2∧jj w q.ret v3∧cs=[v1,v2,v3, .int .i64 q.range, .int .i64 q.kz]
def lj (c:Int):Bool:=decide (97<=c)&&decide (c<=122)
def iI (c:Int):Bool:=lj c||c==95||(decide (48<=c)&&decide (c<=57))
def kC (s:ByteArray):Bool:=s.data.toList.all (fun b=>iI b.toNat)&&decide (1<=s.size)&&decide (s.size<=20)
theorem gM (f:UInt8->Bool) (s:ByteArray):s.data.toList.all f=true ↔ ∀j (h:j<s.size),f s[j]=true:=by
 rw [List.all_eq_true]
 constructor
 ·intro h j hj;exact h _ (by simp [ByteArray.getElem_eq_getElem_data])
 ·intro h x hx;obtain ⟨j,hj,rfl⟩:=List.getElem_of_mem hx;exact h j (by simpa using hj)
theorem xS {s:ByteArray} {j:Nat} (h:j<s.size) (hf:iI s[j].toNat=false):kC s=false:=by
 have:s.data.toList.all (fun b=>iI b.toNat)=false:=by
  rw [<-RW,gM];exact fun hh=>by rw [hh j h] at hf;cases hf
 simp [kC,this]
theorem Dk {s:ByteArray} (h: ∀j (h:j<s.size),iI s[j].toNat=true):kC s=(decide (1<=s.size)&&decide (s.size<=20)):=by
 rw [kC,(gM _ s).2 h,Bool.true_and]
theorem dV (s:ByteArray):s.toList.isEmpty=decide (s.size=0):=by
 rw [ByteArray.toList_eq];obtain ⟨⟨l⟩⟩:=s;cases l<;>simp [ByteArray.size]
def words:List ByteArray:=[⟨#[97,115]⟩,⟨#[109,97,116,99,104]⟩,⟨#[119,104,101,114,101]⟩,⟨#[97,110,100]⟩,⟨#[114,101,116,117,114,110]⟩,⟨#[114,97,110,103,101]⟩,⟨#[115,108,105,100,101]⟩]
theorem zw {α:Type} {W:World} {n:Nat} {C:Array Value} {t:TypeId} {fz:Nat×Nat} (h:W.heap[n]? = some (.cells C t fz)) {sz:Nat} {rd:α->List Value->Prop} {xs:List α}
  (f:α->List Value) (hf: ∀x,x∈xs->rd x (f x)) (hsz: ∀x,x∈xs->(f x).length=sz) (hC:C.toList=xs.flatMap f) {m cap:Nat} (hm:m=xs.length) (hc:m<=cap) (hc2:cap<=maxLen) :
  ej W sz rd xs (.slice (some ⟨n,0,none⟩) m cap):=by
 subst hm;refine .inr ⟨n,0,cap,rfl,hc,hc2,fun i x hx=>⟨f x,hf x (RK hx), ?_⟩⟩
 have key: ∀(l:List α) (i:Nat) (x:α),(∀x,x∈l->(f x).length=sz)->l[i]? = some x-> ∀j v,(f x)[j]? = some v->(l.flatMap f)[i * sz+j]? = some v:=by
  intro l
  induction l with
  | nil=>intro i x _ h;simp at h
  | cons y l ih=>
   intro i x hl hx j v hj;rw [List.flatMap_cons]
   cases i with
   | zero=>
    simp at hx;subst hx;rw [List.getElem?_append_left (by rw [Nat.zero_mul,Nat.zero_add];exact (List.getElem?_eq_some_iff.1 hj).1)];simpa using hj
   | succ i=>
    have hy:=hl y (by simp);rw [List.getElem?_append_right (by rw [hy,Nat.succ_mul];omega),hy,show (i+1) * sz+j - sz=i * sz+j by rw [Nat.succ_mul];omega];exact ih i x (fun x hx=>hl x (by simp [hx])) (by simpa using hx) j v hj
 have hcell: ∀j v,(f x)[j]? = some v->W.cell? ⟨n,0+i * sz+j,none⟩=some v:=by
  intro j v hj
  have:=key xs i x hsz hx j v hj
  rw [<-hC] at this;simp only [World.cell?,h];simpa using this
 generalize 0+i * sz=o at hcell;clear hf hsz hC key hx;generalize f x=vs at hcell
 induction vs generalizing o with
 | nil=>trivial
 | cons y vs ih=>exact ⟨by simpa using hcell 0 y rfl,ih (o+1) (fun j v hj=>by rw [show o+1+j=o+(j+1) by omega];exact hcell (j+1) v (by simpa using hj))⟩
theorem cM (W:World) (o:Obj):(W.alloc o).heap[W.heap.size]? = some o:=by
 show (W.heap.push o)[W.heap.size]? = some o;simp
def pT (s:ByteArray):Int:=if h:0<s.size then (s[0]'h).toNat else 0
def dp (s:ByteArray):Bool:=kC s&&lj (pT s) && !words.any (fun x=>cf s x)
theorem zO {s:ByteArray} (h:kC s=true):0<s.size∧s.size<=20:=by
 simp only [kC,Bool.and_eq_true,decide_eq_true_eq] at h;omega
def fT (n:Nat):Bool:= !(decide (n<32)||decide (126<n)||n==34||n==92)
def lR (s:ByteArray):Bool:=s.data.toList.all (fun b=>fT b.toNat)
def fb (s:ByteArray):Bool:=decide (s.size=0)
def kM:Int:=1099511627776
def cr (v:pe):Bool:=if v.kind==1 then fb v.text&&decide (-kM<=v.num)&&decide (v.num<=kM) else
 if v.kind==2 then v.num==0&&decide (v.text.size<=40)&&lR v.text else false
def bT (k:Int) (s:ByteArray) (n:Nat):Bool:=if k==1 then decide (n=0)&&dp s else
 if k==2||k==3 then decide (1<n)&&fb s else
 if k==4||k==5||k==6 then decide (n=1)&&fb s else false
theorem CH {s:ByteArray} {j:Nat} (h:j<s.size) (hf:fT s[j].toNat=false):lR s=false:=by
 rw [lR, <- RW,gM];exact fun hh=>by rw [hh j h] at hf;cases hf
theorem zn {s:ByteArray} (h: ∀j (h:j<s.size),fT s[j].toNat=true):lR s=true:=by
 rw [lR,gM (fun b=>fT b.toNat)];exact h
theorem uA (n:Nat):(n<32∧fT n=false)∨(32<=n∧126<n∧fT n=false)∨(32<=n∧n<=126∧((n:Int)==34)=true∧fT n=false) ∨
  (32<=n∧n<=126∧((n:Int)==34)=false∧((n:Int)==92)=true∧fT n=false)∨(32<=n∧n<=126∧((n:Int)==34)=false∧((n:Int)==92)=false∧fT n=true):=by
 unfold fT
 by_cases h1:n<32
 ·exact .inl ⟨h1,by simp [h1]⟩
 ·by_cases h2:126<n
  ·exact .inr (.inl ⟨by omega,h2,by simp [h2]⟩)
  ·by_cases h3:n=34
   ·subst h3;exact .inr (.inr (.inl ⟨by omega,by omega,rfl,rfl⟩))
   ·by_cases h4:n=92
    ·subst h4;exact .inr (.inr (.inr (.inl ⟨by omega,by omega,rfl,rfl,rfl⟩)))
    ·exact .inr (.inr (.inr (.inr ⟨by omega,by omega,by simp;omega,by simp;omega,by simp [h1,h2,h3,h4]⟩)))
def x7 (s:ByteArray):Prop:=s.size<=140737488355328
theorem x7.len {s:ByteArray} (h:x7 s):s.size<=maxLen:=by unfold x7 at h;unfold maxLen;omega
mutual
def Ex.ok:Ex->Prop
 | .mk _ s l=>x7 s∧nZ l
def nZ:List Ex->Prop
 | []=>True
 | x :: xs=>x.ok∧nZ xs
end
theorem np: ∀ {l:List Ex},nZ l ↔ ∀x,x∈l->x.ok
 | []=>by simp [nZ]
 | x :: xs=>by simp [nZ,np (l:=xs)]
def pe.ok (v:pe):Prop:=x7 v.text
def dM.ok (o:dM):Prop:=x7 o.name∧x7 o.key∧o.val.ok
def ff.ok (c:ff):Prop:=c.left.ok∧c.right.ok
def bQ.ok (p:bQ):Prop:=x7 p.aR∧x7 p.to∧x7 p.label∧x7 p.name∧p.expr.ok
def fg.ok (q:fg):Prop:=(∀p,p∈q.aj->p.ok)∧(∀c,c∈q.conds->c.ok)∧(∀o,o∈q.ret->o.ok)
def fg.small (q:fg):Prop:=q.aj.length<=140737488355328∧q.conds.length<=140737488355328∧q.ret.length<=140737488355328
mutual
def az:Ex->List Ex
 | .mk k s l=> .mk k s l :: bR l
def bR:List Ex->List Ex
 | []=>[]
 | x :: xs=>az x++bR xs
end
theorem b8: ∀l:List Ex,bR l=l.flatMap az
 | []=>rfl
 | x :: xs=>by rw [bR,b8 xs,List.flatMap_cons]
theorem gB (a b:List Ex):bR (a++b)=bR a++bR b:=by simp [b8]
theorem nq (l:List Ex) (k:Nat):(bR (l.take k)).length<=(bR l).length:=by
 have:=congrArg List.length (gB (l.take k) (l.drop k))
 rw [List.take_append_drop,List.length_append] at this;omega
theorem lJ {l:List Ex} {k:Nat} (h:k<l.length):bR (l.take (k+1))=bR (l.take k)++az l[k]:=by
 rw [List.take_succ_eq_append_getElem h,gB];simp [bR]
def Ex.part:Ex->Bool| .mk k s l=>bT k s l.length
def aT (x:Ex):Bool:=decide ((az x).length<=24)&&(az x).all Ex.part
def Ex.sig:Ex->Int×ByteArray×Nat
 | .mk k s l=>(k,s,l.length)
def om (s:Int×ByteArray×Nat):Bool:=bT s.1 s.2.1 s.2.2
theorem FC (x:Ex):x.part=om x.sig:=by obtain ⟨k,s,l⟩:=x;rfl
theorem nY (x:Ex):aT x=(decide (((az x).map Ex.sig).length<=24)&&((az x).map Ex.sig).all om):=by
 rw [aT,List.length_map,List.all_map]
 congr 2
 funext y
 exact FC y
structure XC where
 kind:Int
 label:ByteArray
 ptr:Option Addr
 len:Nat
 cap:Nat
 hl:label.size<=maxLen
 hn:len<=maxLen
def XC.val (x:XC):Value:= .agg #[.int .i64 x.kind, .string x.label, .slice x.ptr x.len x.cap]
def XC.sig (x:XC):Int×ByteArray×Nat:=(x.kind,x.label,x.len)
def pe.none (v:pe):Bool:=v.kind==0&&v.num==0&&fb v.text
def bl (o:dM):Bool:=if o.kind==1 then dp o.name&&fb o.key&&o.val.none else
 if o.kind==2 then dp o.name&&dp o.key&&o.val.none else
 if o.kind==3 then cr o.val&&fb o.name&&fb o.key else false
def bL (p:bQ):Bool:=dp p.aR&&dp p.to&&if p.path then fb p.label&&fb p.name&&aT p.expr else
 dp p.label&&(fb p.name||dp p.name)&&du p.expr (.mk 0 ⟨#[]⟩ [])
def nj (n a b:Int):Bool:=decide (a<=n)&&decide (n<=b)
def dt (c:ff):Bool:=nj c.op 1 6&&bl c.left&&bl c.right
def eF (o:dM):Bool:=o.kind !=3&&bl o
def bt (q:fg):Bool:=nj q.aj.length 1 4&&decide (q.conds.length<=6)&&nj q.ret.length 1 4&&nj q.range 1 1048576&&nj q.kz 1 1048576 &&
 q.aj.all bL&&q.conds.all dt&&q.ret.all eF
theorem iC (s:ByteArray):s.toList.isEmpty=fb s:=by rw [dV,fb]
mutual
def QL:Ex->Nat->Nat
 | .mk _ _ l,deep=>if 60<deep then 401 else P0 l (deep+1) 1
def P0:List Ex->Nat->Nat->Nat
 | [],_,n=>n
 | x :: xs,deep,n=>if n<=400 then P0 xs deep (n+QL x deep) else n
end
end
section
theorem dQ {w:World} {b:Nat}: ∀ {vs:List Value} {o:Nat},cY w b o vs-> ∀j v,vs[j]? = some v->w.cell? ⟨b,o+j,none⟩=some v
 | [],_,_,j,v,h=>by simp at h
 | x :: vs,o,hc,j,v,h=>by
  cases j with
  | zero=>simp at h;subst h;simpa using hc.1
  | succ j=>
   have:=dQ hc.2 j v (by simpa using h)
   rw [show o+(j+1)=o+1+j by omega];exact this
theorem pC {w:World} {k:Nat} {C:Array Value} {T:TypeId} {fz:Nat×Nat} (h:w.heap[k]? = some (.cells C T fz)) (o:Nat):w.cell? ⟨k,o,none⟩=C[o]? :=by simp [World.cell?,h]
theorem C6 {w:World} {xs:List ff} {p:Option Addr} {n cap:Nat} (h:ly w xs (.slice p n cap)) {k:Nat} (hk:k<xs.length) :
  ∃b o,p=some ⟨b,o,none⟩∧w.cell? ⟨b,o+k * 13,none⟩=some (.int .i64 xs[k].op)∧w.cell? ⟨b,o+k * 13+1,none⟩=some (.int .i64 xs[k].left.kind)∧w.cell? ⟨b,o+k * 13+2,none⟩=some (.string xs[k].left.name)∧w.cell? ⟨b,o+k * 13+3,none⟩=some (.string xs[k].left.key)∧w.cell? ⟨b,o+k * 13+4,none⟩=some (.int .i64 xs[k].left.val.kind)∧w.cell? ⟨b,o+k * 13+5,none⟩=some (.int .i64 xs[k].left.val.num)∧w.cell? ⟨b,o+k * 13+6,none⟩=some (.string xs[k].left.val.text)∧w.cell? ⟨b,o+k * 13+7,none⟩=some (.int .i64 xs[k].right.kind)∧w.cell? ⟨b,o+k * 13+8,none⟩=some (.string xs[k].right.name)∧w.cell? ⟨b,o+k * 13+9,none⟩=some (.string xs[k].right.key)∧w.cell? ⟨b,o+k * 13+10,none⟩=some (.int .i64 xs[k].right.val.kind)∧w.cell? ⟨b,o+k * 13+11,none⟩=some (.int .i64 xs[k].right.val.num)∧w.cell? ⟨b,o+k * 13+12,none⟩=some (.string xs[k].right.val.text):=by
 obtain ⟨b,o,cs,hp,hr,hc⟩:=ej.at h hk;subst hr
 replace hc:=dQ hc
 exact ⟨b,o,hp,by simpa using hc 0 _ rfl,by simpa using hc 1 _ rfl,by simpa using hc 2 _ rfl,by simpa using hc 3 _ rfl,by simpa using hc 4 _ rfl,by simpa using hc 5 _ rfl,by simpa using hc 6 _ rfl,by simpa using hc 7 _ rfl,by simpa using hc 8 _ rfl,by simpa using hc 9 _ rfl,by simpa using hc 10 _ rfl,by simpa using hc 11 _ rfl,by simpa using hc 12 _ rfl⟩
theorem nH {w:World} {xs:List dM} {p:Option Addr} {n cap:Nat} (h:jj w xs (.slice p n cap)) {k:Nat} (hk:k<xs.length) :
  ∃b o,p=some ⟨b,o,none⟩∧w.cell? ⟨b,o+k * 6,none⟩=some (.int .i64 xs[k].kind)∧w.cell? ⟨b,o+k * 6+1,none⟩=some (.string xs[k].name)∧w.cell? ⟨b,o+k * 6+2,none⟩=some (.string xs[k].key)∧w.cell? ⟨b,o+k * 6+3,none⟩=some (.int .i64 xs[k].val.kind)∧w.cell? ⟨b,o+k * 6+4,none⟩=some (.int .i64 xs[k].val.num)∧w.cell? ⟨b,o+k * 6+5,none⟩=some (.string xs[k].val.text):=by
 obtain ⟨b,o,cs,hp,hr,hc⟩:=ej.at h hk;subst hr
 replace hc:=dQ hc
 exact ⟨b,o,hp,by simpa using hc 0 _ rfl,by simpa using hc 1 _ rfl,by simpa using hc 2 _ rfl,by simpa using hc 3 _ rfl,by simpa using hc 4 _ rfl,by simpa using hc 5 _ rfl⟩
theorem nI {w:World} {xs:List ByteArray} {p:Option Addr} {n cap:Nat} (h:gZ w xs (.slice p n cap)) {k:Nat} (hk:k<xs.length) :
  ∃b o,p=some ⟨b,o,none⟩∧w.cell? ⟨b,o+k,none⟩=some (.string xs[k]):=by
 obtain ⟨b,o,cs,hp,hr,hc⟩:=ej.at h hk;subst hr;rw [Nat.mul_one] at hc;replace hc:=dQ hc;exact ⟨b,o,hp,by simpa using hc 0 _ rfl⟩
theorem s6 {w:World} {xs:List bQ} {p:Option Addr} {n cap:Nat} (h:jk w xs (.slice p n cap)) {k:Nat} (hk:k<xs.length) :
  ∃b o kd s l sv,p=some ⟨b,o,none⟩∧xs[k].expr = .mk kd s l∧dm w l sv∧w.cell? ⟨b,o+k * 8,none⟩=some (.string xs[k].aR)∧w.cell? ⟨b,o+k * 8+1,none⟩=some (.string xs[k].to)∧w.cell? ⟨b,o+k * 8+2,none⟩=some (.bool xs[k].path)∧w.cell? ⟨b,o+k * 8+3,none⟩=some (.string xs[k].label)∧w.cell? ⟨b,o+k * 8+4,none⟩=some (.string xs[k].name)∧w.cell? ⟨b,o+k * 8+5,none⟩=some (.int .i64 kd)∧w.cell? ⟨b,o+k * 8+6,none⟩=some (.string s)∧w.cell? ⟨b,o+k * 8+7,none⟩=some (sv):=by
 obtain ⟨b,o,cs,hp,hr,hc⟩:=ej.at h hk;obtain ⟨kd,s,l,sv,he,hx,rfl⟩:=hr
 replace hc:=dQ hc
 exact ⟨b,o,kd,s,l,sv,hp,he,hx,by simpa using hc 0 _ rfl,by simpa using hc 1 _ rfl,by simpa using hc 2 _ rfl,by simpa using hc 3 _ rfl,by simpa using hc 4 _ rfl,by simpa using hc 5 _ rfl,by simpa using hc 6 _ rfl,by simpa using hc 7 _ rfl⟩
structure Spec where
 p:Value->World->Prop
 st: ∀v w w',Below w.heap.size w w'->p v w->p v w'
def Spec.any:Spec:=⟨fun _ _=>True,fun _ _ _ _ _=>trivial⟩
def at' (L:List Spec) (i:Nat):Spec:=L.getD i Spec.any
section
variable {P:Program} {ops:Array Oper}
def bN (s:Nat->Bool) (i:Nat):Nat->Bool:=fun j=>if j=i then true else s j
def fJ (x:Nat->Value) (i:Nat) (v:Value):Nat->Value:=fun j=>if j=i then v else x j
def cC (s:Nat->Bool) (x:Nat->Value):List Oper->Nat->Act->Act
 | [],_,a=>a
 | o :: l,k,a=>cC s x l (k+1) (if s k then a.put o.dst (x k) else a)
theorem bu {s s':Nat->Bool} {x x':Nat->Value}: ∀(l:List Oper) (k:Nat) (a:Act),(∀i,k<=i->i<k+l.length->s i=s' i∧(s i=true->x i=x' i))->cC s x l k a=cC s' x' l k a
 | [],_,_,_=>rfl
 | o :: l,k,a,h=>by
  have h0:=h k (Q5 _) (by simp)
  have e:(if s k then a.put o.dst (x k) else a)=(if s' k then a.put o.dst (x' k) else a):=by
   rw [<-h0.1]
   cases hs:s k
   ·rfl
   ·simp [h0.2 hs]
  rw [cC,cC,e];exact bu l (k+1) _ (fun i h1 h2=>h i (by omega) (by simp only [List.length_cons];omega))
theorem AM {s:Nat->Bool} {x:Nat->Value} {d:Option Tmp} {v:Value}: ∀(l:List Oper) (k:Nat) (a:Act),(∀o∈l, ∀e,d=some e->o.dst≠some e)->cC s x l k (a.put d v)=(cC s x l k a).put d v
 | [],_,_,_=>rfl
 | o :: l,k,a,h=>by
  have e:(if s k then (a.put d v).put o.dst (x k) else a.put d v)=(if s k then a.put o.dst (x k) else a).put d v:=by
   split
   ·exact Act.put_comm a v (x k) (h o (by simp))
   ·rfl
  rw [cC,cC,e];exact AM l (k+1) _ (fun o' ho=>h o' (by simp [ho]))
def gx (l:List Oper):Prop:= ∀(i j:Nat) (oi oj:Oper),l[i]? = some oi->l[j]? = some oj->i≠j-> ∀e,oi.dst=some e->oj.dst≠some e
theorem gd {s:Nat->Bool} {x:Nat->Value} {v:Value} {o:Oper}: ∀(l:List Oper) (k m:Nat) (a:Act),gx l->l[m]? = some o->s (k+m)=false->cC (bN s (k+m)) (fJ x (k+m) v) l k a=(cC s x l k a).put o.dst v
 | [],_,_,_,_,h,_=>by simp at h
 | o' :: l,k,0,a,hA,h,hs=>by
  obtain rfl:o'=o:=by simpa using h
  rw [cC,cC];simp only [Nat.add_zero] at hs ⊢
  have e:(if bN s k k then a.put o'.dst (fJ x k v k) else a)=a.put o'.dst v:=by simp [bN,fJ]
  have e2:(if s k then a.put o'.dst (x k) else a)=a:=by simp [hs]
  rw [e,e2,bu (s:=bN s k) (x:=fJ x k v) (s':=s) (x':=x) l (k+1) _ (fun i h1 _=>by
   have:i≠k:=by omega
   simp [bN,fJ,this])]
  refine AM l (k+1) a (fun o'' ho e he=> ?_);obtain ⟨j,hj⟩:=List.getElem?_of_mem ho;exact hA 0 (j+1) o' o'' (by simp) (by simpa using hj) (by omega) e he
 | o' :: l,k,m+1,a,hA,h,hs=>by
  have h1:k≠k+(m+1):=by omega
  rw [cC,cC]
  have e:(if bN s (k+(m+1)) k then a.put o'.dst (fJ x (k+(m+1)) v k) else a)=(if s k then a.put o'.dst (x k) else a):=by simp [bN,fJ]
  rw [e]
  have hk:k+(m+1)=k+1+m:=by omega
  rw [hk] at hs ⊢;exact gd l (k+1) m _ (fun i j oi oj hi hj hij=>hA (i+1) (j+1) oi oj (by simpa using hi) (by simpa using hj) (by omega)) (by simpa using h) hs
theorem kS {s keep:Nat->Bool} {x:Nat->Value} {l:List Oper} {a:Act} {oj:Oper} (hA:gx l) (hsel: ∀cs b,oj.op ≠ .select cs b)
  (h: ∀i oi,l[i]? = some oi->s i=true->keep i=false-> ∀d,oi.dst=some d->d∉oj.looksAt ops) :
  execOp (cC s x l 0 a).eval oj=execOp (cC (fun i=>s i&&keep i) x l 0 a).eval oj ∧
  Region.wanted oj (yielded ops (cC s x l 0 a).tmps)=Region.wanted oj (yielded ops (cC (fun i=>s i&&keep i) x l 0 a).tmps):=by
 have key: ∀t,t<=l.length->execOp (cC s x l 0 a).eval oj=execOp (cC (fun i=>s i&&(keep i||decide (t<=i))) x l 0 a).eval oj ∧
   Region.wanted oj (yielded ops (cC s x l 0 a).tmps)=Region.wanted oj (yielded ops (cC (fun i=>s i&&(keep i||decide (t<=i))) x l 0 a).tmps):=by
  intro t
  induction t with
  | zero=>
   intro _;rw [bu (s:=fun i=>s i&&(keep i||decide (0<=i))) (s':=s) (x':=x) l 0 a (fun i _ _=>by simp)];exact ⟨rfl,rfl⟩
  | succ t ih=>
   intro ht;obtain ⟨e1,e2⟩:=ih (by omega);rw [e1,e2];have ho:l[t]? = some l[t]:=List.getElem?_eq_getElem (by omega)
   by_cases hc:s t=true∧keep t=false
   ·have hd:=h t _ ho hc.1 hc.2;have hi:=gd (s:=fun i=>s i&&(keep i||decide (t+1<=i))) (x:=x) (v:=x t) l 0 t a hA ho (by simp [hc.2]);rw [RX] at hi
    have hq:cC (bN (fun i=>s i&&(keep i||decide (t+1<=i))) t) (fJ x t (x t)) l 0 a=cC (fun i=>s i&&(keep i||decide (t<=i))) x l 0 a:=
     bu l 0 a (fun i _ _=>by
      by_cases hit:i=t
      ·subst hit;simp [bN,fJ,hc.1]
      ·have:(t+1<=i)=(t<=i):=by apply propext;omega
       simp [bN,fJ,hit,this])
    rw [hq] at hi;rw [hi];exact ⟨execOp_put oj hsel _ _ _ hd,wanted_put oj _ _ _ hd⟩
   ·rw [bu (s:=fun i=>s i&&(keep i||decide (t<=i))) (s':=fun i=>s i&&(keep i||decide (t+1<=i))) (x':=x) l 0 a (fun i _ _=>by
     refine ⟨?_,fun _=>rfl⟩
     by_cases hit:i=t
     ·subst hit
      cases h1:s i
      ·simp
      ·cases h2:keep i
       ·exact absurd ⟨h1,h2⟩ hc
       ·simp
     ·have:(t+1<=i)=(t<=i):=by apply propext;omega
      simp [this])]
    exact ⟨rfl,rfl⟩
 have:=key l.length (Q5 _)
 rw [bu (s:=fun i=>s i&&(keep i||decide (l.length<=i))) (s':=fun i=>s i&&keep i) (x':=x) l 0 a (fun i _ h=>by
  have: ¬l.length<=i:=by omega
  simp [this])] at this
 exact this
def Bi (P:Program) (S:Spec) (w:World):Result Next->Prop
 | .ok (.value u) w'=>S.p u w'∧Below w.heap.size w w'
 | .ok .skip w'=>S.p undef w'∧Below w.heap.size w w'
 | .ok (.enter f args) w'=>Calls P f args w' (fun e w''=> ∃v,e = .returned v∧S.p v w''∧Below w.heap.size w w'')
 | _=>False
def jO (P:Program) (ops:Array Oper) (S:Spec) (o:Oper) (a:Act) (w:World):Prop:=
 (Region.wanted o (yielded ops a.tmps)=true∧Bi P S w ((execOp a.eval o).run P w))∨(Region.wanted o (yielded ops a.tmps)=false∧S.p undef w)
def aE (ops:Array Oper) (j i:Nat):Bool:=match ops[j]? with|some o=>o.after.any (fun e=>Region.binds .any e&&e.on==i)|none=>false
def jF (P:Program) (ops:Array Oper) (L:List Spec) (w0:World) (Q:Exit->Act->World->Prop):List Oper->Nat->((Nat->Value)->Act)->Prop
 | [],_,_=>False
 | [o],k,A=> ∀x w,Below w0.heap.size w0 w->(∀i,i<k->(at' L i).p (x i) w)->Region.wanted o (yielded ops (A x).tmps)=true∧o.wp P (A x) w (fun a' w'=>Q .normal a' w') Q
 | o :: l,k,A=>(∀x w,Below w0.heap.size w0 w->(∀i,aE ops k i=true->(at' L i).p (x i) w)->jO P ops (at' L k) o (A x) w)∧jF P ops L w0 Q l (k+1) (fun x=>(A x).put o.dst (x k))
theorem oy {L:List Spec} {w0:World} {Q:Exit->Act->World->Prop} {o o2:Oper} {l:List Oper} {k:Nat} {A:(Nat->Value)->Act}
  (h: ∀x w,Below w0.heap.size w0 w->(∀i,aE ops k i=true->(at' L i).p (x i) w)->jO P ops (at' L k) o (A x) w) (h2:jF P ops L w0 Q (o2 :: l) (k+1) (fun x=>(A x).put o.dst (x k))):jF P ops L w0 Q (o :: o2 :: l) k A:=⟨h,h2⟩
theorem xy {L:List Spec} {w0:World} {Q:Exit->Act->World->Prop} {o:Oper} {k:Nat} {A:(Nat->Value)->Act}
  (h: ∀x w,Below w0.heap.size w0 w->(∀i,i<k->(at' L i).p (x i) w)->Region.wanted o (yielded ops (A x).tmps)=true∧o.wp P (A x) w (fun a' w'=>Q .normal a' w') Q):jF P ops L w0 Q [o] k A:=h
def qH (ops:Array Oper) (i j:Nat):Bool:=
 match ops[i]?,ops[j]? with
 | some oi,some oj=>(aE ops j i||oi.apart ops oj) && !aE ops i j&&(match oi.dst with|some d=>oj.dst !=some d|none=>true)&&(match oj.dst with|some d=> !(oi.looksAt ops).contains d|none=>true)
 | _,_=>true
def tX (ops:Array Oper) (j:Nat):Bool:=match ops[j]? with|some o=>o.after.all (fun e=>decide (e.on<ops.size))|none=>true
def xw (ops:Array Oper):Bool:=
 Region.noSelect ops&&(List.range ops.size).all (fun j=>(List.range j).all (fun i=>qH ops i j)&&(!aE ops j j&&tX ops j)&&(decide (j+1=ops.size)||(List.range ops.size).any (fun i=>decide (j<i)&&aE ops i j)))
theorem Ef {a b c:World} (h1:Below a.heap.size a b) (h2:Below b.heap.size b c):Below a.heap.size a c:=ae h1 h2
theorem wpAny_done {Q:Exit->Act->World->Prop} {listed:Array Bool} {a:Act} {w:World} (h:Region.ready .any ops listed=[]) (hq:Q .normal a w): ∀fuel,wpAny P .any ops Q fuel listed a w
 | 0=>⟨h,hq⟩
 | _+1=>⟨fun _=>hq,fun i hi=>by rw [h] at hi;cases hi⟩
def vo (s:Nat->Bool):Nat->Nat
 | 0=>0
 | k+1=>vo s k+(if s k then 0 else 1)
theorem gW {s s':Nat->Bool}: ∀k,(∀i,i<k->s i=s' i)->vo s k=vo s' k
 | 0,_=>rfl
 | k+1,h=>by rw [vo,vo,gW k (fun i hi=>h i (by omega)),h k (by omega)]
theorem kW {s:Nat->Bool} {i:Nat}: ∀k,i<k->s i=false->vo (bN s i) k+1=vo s k
 | 0,h,_=>by omega
 | k+1,h,hs=>by
  rw [vo,vo]
  by_cases hik:i=k
  ·subst hik;rw [gW (s:=bN s i) (s':=s) i (fun j hj=>by have:j≠i:=(by omega);simp [bN,this])];simp [bN,hs]
  ·have:=kW (s:=s) (i:=i) k (by omega) hs
   have hk:bN s i k=s k:=by simp [bN,Ne.symm hik]
   rw [hk];omega
theorem oZ {s:Nat->Bool} {i:Nat}: ∀k,i<k->s i=false->1<=vo s k:=fun k h hs=>by
 have:=kW (s:=s) k h hs;omega
theorem qY {s:Nat->Bool}: ∀k,vo s k<=k
 | 0=>Q5 _
 | k+1=>by have:=qY (s:=s) k;rw [vo];split<;>omega
def JM (P:Program) (l:List Oper) (L:List Spec) (w0:World) (a0:Act) (j:Nat) (o:Oper):Prop:=
 ∀x w,Below w0.heap.size w0 w->(∀i,aE l.toArray j i=true->(at' L i).p (x i) w)->jO P l.toArray (at' L j) o (cC (fun i=>decide (i<j)) x l 0 a0) w
def JJ (P:Program) (l:List Oper) (L:List Spec) (w0:World) (Q:Exit->Act->World->Prop) (a0:Act) (j:Nat) (o:Oper):Prop:=
 ∀x w,Below w0.heap.size w0 w->(∀i,i<j->(at' L i).p (x i) w) ->
  Region.wanted o (yielded l.toArray (cC (fun i=>decide (i<j)) x l 0 a0).tmps)=true∧o.wp P (cC (fun i=>decide (i<j)) x l 0 a0) w (fun a' w'=>Q .normal a' w') Q
theorem qN {l:List Oper} {L:List Spec} {w0:World} {Q:Exit->Act->World->Prop} {a0:Act} (hA:gx l): ∀(l':List Oper) (k:Nat) (A:(Nat->Value)->Act),l.drop k=l'->(A=fun x=>cC (fun i=>decide (i<k)) x l 0 a0) ->
  jF P l.toArray L w0 Q l' k A-> ∀j o,k<=j->l[j]? = some o->(j+1<l.length->JM P l L w0 a0 j o)∧(j+1=l.length->JJ P l L w0 Q a0 j o)
 | [],_,_,_,_,h=>h.elim
 | [o],k,A,hl,hAx,h=>by
  intro j o' hj ho
  have h1:l.length=k+1:=by have:=congrArg List.length hl;simp at this;omega
  have h2:l[k]? = some o:=by have:=congrArg (fun m=>m[0]?) hl;simpa using this
  have hjl:=(Ra.1 ho).1
  obtain rfl:j=k:=by omega
  rw [h2] at ho;cases ho;subst hAx;exact ⟨fun hh=>by omega,fun _=>h⟩
 | o :: o2 :: l',k,A,hl,hAx,h=>by
  intro j o' hj ho
  have h1:l.length=k+(l'.length+2):=by have:=congrArg List.length hl;simp at this;omega
  have h2:l[k]? = some o:=by have:=congrArg (fun m=>m[0]?) hl;simpa using this
  subst hAx
  by_cases hjk:j=k
  ·subst hjk;rw [h2] at ho;cases ho;exact ⟨fun _=>h.1,fun hh=>by omega⟩
  ·refine qN hA (o2 :: l') (k+1) _ ?_ ?_ h.2 j o' (by omega) ho
   ·have:=congrArg List.tail hl;simpa using this
   ·funext x
    have hi:=gd (s:=fun i=>decide (i<k)) (x:=x) (v:=x k) l 0 k a0 hA h2 (by simp);rw [RX] at hi;rw [<-hi];refine bu l 0 a0 (fun i _ _=> ?_)
    by_cases hik:i=k
    ·subst hik;simp [bN,fJ]
    ·have:(i<k+1)=(i<k):=by apply propext;omega
     simp [bN,fJ,hik,this]
theorem pt {Q:Exit->Act->World->Prop} {a:Act} {w:World} {l:List Oper} (L:List Spec) (hB:xw l.toArray=true)
  (h:jF P l.toArray L w.drew Q l 0 (fun _=>a)):wpAny P .any l.toArray Q l.toArray.size (Array.replicate l.toArray.size false) a w.drew:=by
 simp only [xw,RY,List.all_eq_true,List.mem_range,List.size_toArray] at hB;obtain ⟨hns,hall⟩:=hB;have hsel:=Region.noSelect_spec hns
 have hpair: ∀i j oi oj,i<j->l[i]? = some oi->l[j]? = some oj->(aE l.toArray j i=true∨oi.apart l.toArray oj=true)∧aE l.toArray i j=false∧(∀e,oi.dst=some e->oj.dst≠some e)∧(∀e,oj.dst=some e->e∉oi.looksAt l.toArray):=by
  intro i j oi oj hij hi hj;have hjn:=(Ra.1 hj).1
  have:=(hall j hjn).1.1 i hij
  simp only [qH,Rr,hi,hj,RY,Bool.or_eq_true,Bool.not_eq_true'] at this
  refine ⟨this.1.1.1,this.1.1.2,fun e he=> ?_,fun e he=> ?_⟩
  ·have h3:=this.1.2;rw [he] at h3;simpa using h3
  ·have h3:=this.2;rw [he] at h3;simpa using h3
 have hself: ∀j,j<l.length->aE l.toArray j j=false:=fun j hj=>by simpa using (hall j hj).1.2.1
 have hfar: ∀(j:Nat) (o:Oper),l[j]? = some o-> ∀e∈o.after,e.on<l.length:=fun j o hj e he=>by
  have:=(hall j (Ra.1 hj).1).1.2.2
  simp only [tX,Rr,hj,Array.all_eq_true_iff_forall_mem] at this;simpa using this e he
 have hnext: ∀j,j+1<l.length-> ∃i,i<l.length∧j<i∧aE l.toArray i j=true:=fun j hj=>by
  have:=(hall j (by omega)).2
  simp only [Bool.or_eq_true,decide_eq_true_eq,List.any_eq_true,List.mem_range,RY] at this
  rcases this with h|h
  ·omega
  ·exact h
 have hA:gx l:=fun i j oi oj hi hj hij e he=>by
  rcases Nat.lt_or_gt_of_ne hij with h|h
  ·exact (hpair i j oi oj h hi hj).2.2.1 e he
  ·intro h2;exact (hpair j i oj oi h hj hi).2.2.1 e h2 he
 have hlen:l≠[]:=by intro e;subst e;exact h
 have hn:1<=l.length:=List.length_pos_iff.2 hlen
 have hO:=qN (P:=P) (L:=L) (w0:=w.drew) (Q:=Q) (a0:=a) hA l 0 (fun _=>a) (by simp) (by
  funext x
  exact (show a=cC (fun _=>false) x l 0 a from by
   have: ∀(l:List Oper) k,a=cC (fun _=>false) x l k a:=by
    intro l
    induction l with
    | nil=>intro k;rfl
    | cons o l ih=>intro k;rw [cC];exact ih (k+1)
   exact this l 0).trans (bu l 0 a (fun i _ _=>by simp))) h
 
 have hloose: ∀i j oi oj,l[i]? = some oi->l[j]? = some oj->i≠j->aE l.toArray j i=false-> ∀d,oi.dst=some d->d∉oj.looksAt l.toArray:=by
  intro i j oi oj hi hj hij hd
  rcases Nat.lt_or_gt_of_ne hij with h|h
  ·rcases (hpair i j oi oj h hi hj).1 with h1|h1
   ·rw [hd] at h1;cases h1
   ·exact (Oper.apart_spec h1).1
  ·exact (hpair j i oj oi h hj hi).2.2.2
 
 have hsee: ∀(s s':Nat->Bool) x j oj,l[j]? = some oj->s j=false->s' j=false->(∀i,i<l.length->aE l.toArray j i=true->s i=true∧s' i=true) ->
   execOp (cC s x l 0 a).eval oj=execOp (cC s' x l 0 a).eval oj∧Region.wanted oj (yielded l.toArray (cC s x l 0 a).tmps)=Region.wanted oj (yielded l.toArray (cC s' x l 0 a).tmps):=by
  intro s s' x j oj hj h1 h2 hd
  have one:=fun (s:Nat->Bool) (hs:s j=false)=>kS (ops:=l.toArray) (s:=s) (keep:=aE l.toArray j) (x:=x) (a:=a) hA (fun cs b=>hsel j oj cs b (by simpa using hj))
   (fun i oi hi hsi hk=>hloose i j oi oj hi hj (by intro e;subst e;rw [hsi] at hs;cases hs) hk)
  obtain ⟨a1,a2⟩:=one s h1;obtain ⟨b1,b2⟩:=one s' h2
  have e:cC (fun i=>s i&&aE l.toArray j i) x l 0 a=cC (fun i=>s' i&&aE l.toArray j i) x l 0 a:=bu l 0 a (fun i _ hi=>by
   refine ⟨?_,fun _=>rfl⟩
   cases hk:aE l.toArray j i
   ·simp
   ·obtain ⟨c1,c2⟩:=hd i (by omega) hk
    simp [c1,c2])
  exact ⟨by rw [a1,b1,e],by rw [a2,b2,e]⟩
 have main: ∀fuel (listed:Array Bool) x w1,listed.size=l.length->Below w.drew.heap.size w.drew w1->(∀i,listed.getD i false=true->(at' L i).p (x i) w1) ->
   (∀j i,listed.getD j false=true->aE l.toArray j i=true->listed.getD i false=true)->listed.getD (l.length - 1) false=false->vo (fun i=>listed.getD i false) l.length<=fuel ->
   wpAny P .any l.toArray Q fuel listed (cC (fun i=>listed.getD i false) x l 0 a) w1:=by
  intro fuel
  induction fuel with
  | zero=>
   intro listed x w1 _ _ _ _ hlast hu
   have:=oZ (s:=fun i=>listed.getD i false) l.length (i:=l.length - 1) (by omega) hlast
   omega
  | succ fuel ih=>
   intro listed x w1 hsz hE hF hcl hlast hu
   have hmemR: ∀j,j∈Region.ready .any l.toArray listed-> ∃oj,l[j]? = some oj∧listed.getD j false=false∧ ∀i,aE l.toArray j i=true->listed.getD i false=true:=by
    intro j hj;obtain ⟨h1,o,ho,h3⟩:=mem_ready.1 hj
    refine ⟨o,by simpa using ho, ?_,fun i hi=> ?_⟩
    ·rcases Nat.lt_or_ge j listed.size with h'|h'
     ·simp [h'] at h1 ⊢; exact h1
     ·simp [Array.getElem?_eq_none h']
    ·simp only [aE,ho,RY,beq_iff_eq,Array.any_eq_true'] at hi;obtain ⟨e,he,hb,rfl⟩:=hi;exact h3 e he hb
   refine ⟨fun h0=> ?_,fun j hj=> ?_⟩
   ·
    exfalso
    have hex: ∃m,m<l.length∧listed.getD m false=false∧ ∀i,i<m->listed.getD i false=true:=by
     have: ∀k,k<=l.length->(∀i,i<k->listed.getD i false=true)∨ ∃m,m<l.length∧listed.getD m false=false∧ ∀i,i<m->listed.getD i false=true:=by
      intro k
      induction k with
      | zero=>exact fun _=> .inl (fun i hi=>by omega)
      | succ k ihk=>
       intro hk
       rcases ihk (by omega) with h|h
       ·cases hc:listed.getD k false
        ·exact .inr ⟨k,by omega,hc,h⟩
        ·exact .inl (fun i hi=>by
          by_cases e:i=k
          ·subst e;exact hc
          ·exact h i (by omega))
       ·exact .inr h
     rcases this l.length (Q5 _) with h|h
     ·have:=h (l.length - 1) (by omega)
      rw [hlast] at this;cases this
     ·exact h
    obtain ⟨m,hm1,hm2,hm3⟩:=hex
    have hmem:m∈Region.ready .any l.toArray listed:=by
     refine mem_ready.2 ⟨?_,l[m],by simp [hm1],fun e he hb=> ?_⟩
     ·have hms:m<listed.size:=by omega
      simp [hms] at hm2 ⊢; exact hm2
     ·have hd:aE l.toArray m e.on=true:=by
       have:l.toArray[m]? = some l[m]:=by simp [hm1]
       simp only [aE,this];simp only [Array.any_eq_true',RY,beq_iff_eq];exact ⟨e,he,hb,rfl⟩
      rcases Nat.lt_trichotomy e.on m with h|h|h
      ·exact hm3 _ h
      ·rw [h,hself m hm1] at hd;cases hd
      ·by_cases hl:e.on<l.length
       ·have:=(hpair m e.on l[m] l[e.on] h (by simp [hm1]) (by simp [hl])).2.1
        rw [hd] at this;cases this
       ·exact absurd (hfar m l[m] (by simp [hm1]) e he) hl
    rw [h0] at hmem;cases hmem
   ·obtain ⟨oj,hoj,hun,hdeps⟩:=hmemR j hj;have hjl:=(Ra.1 hoj).1
    have hsj:(listed.setIfInBounds j true).size=l.length:=by simpa using hsz
    have hgd: ∀i,(listed.setIfInBounds j true).getD i false=bN (fun i=>listed.getD i false) j i:=by
     intro i
     by_cases hij:i=j
     ·subst hij
      have:i<listed.size:=by omega
      simp [bN,this]
     ·simp only [bN,if_neg hij];exact getD_set_ne false (Ne.symm hij)
    have hO:=hO j oj (Nat.zero_le _) hoj;unfold wpOp;simp only [Rr,hoj]
    by_cases hjn:j+1=l.length
    ·
     have hup: ∀t i,i+t+1=l.length->t≠0->listed.getD i false=true:=by
      intro t
      induction t using Nat.strongRecOn with
      | _ t iht=>
       intro i hi ht;obtain ⟨i',h1,h2,h3⟩:=hnext i (by omega)
       by_cases hi':i'=j
       ·subst hi';exact hdeps i h3
       ·exact hcl i' i (iht (l.length - 1 - i') (by omega) i' (by omega) (by omega)) h3
     have hall': ∀i,i<j->listed.getD i false=true:=fun i hi=>hup (j - i) i (by omega) (by omega);obtain ⟨h1,h2⟩:=hO.2 hjn x w1 hE (fun i hi=>hF i (hall' i hi))
     have e:cC (fun i=>decide (i<j)) x l 0 a=cC (fun i=>listed.getD i false) x l 0 a:=bu l 0 a (fun i _ hi=>by
      refine ⟨?_,fun _=>rfl⟩
      by_cases hij:i<j
      ·simp only [hij,decide_true];exact (hall' i hij).symm
      ·obtain rfl:i=j:=by omega
       simp only [hij,decide_false];exact hun.symm)
     rw [e] at h1 h2;rw [if_pos h1];refine .inl (Oper.wp_mono (fun a' w' hq=>wpAny_done ?_ hq fuel) h2);refine List.eq_nil_iff_forall_not_mem.2 (fun i hi=> ?_);obtain ⟨g1,o,g2, -⟩:=mem_ready.1 hi
     have hil:i<l.length:=by
      have:=(Ra.1 (show l[i]? = some o by simpa using g2)).1
      exact this
     have his:i<(listed.setIfInBounds j true).size:=by omega
     have g3:=hgd i
     rw [show (listed.setIfInBounds j true).getD i false=false by
      simp only [RZ,Array.getElem?_eq_getElem his,Option.getD_some] at g1 ⊢; exact g1] at g3
     by_cases hij:i=j
     ·simp [bN,hij] at g3
     ·simp only [bN,if_neg hij] at g3;rw [hall' i (by omega)] at g3;cases g3
    ·have hst:=hO.1 (by omega) x w1 hE (fun i hi=>hF i (hdeps i hi))
     obtain ⟨c1,c2⟩:=hsee (fun i=>listed.getD i false) (fun i=>decide (i<j)) x j oj hoj hun (by simp) (fun i hi hd=>⟨hdeps i hd,by
      rcases Nat.lt_trichotomy i j with h|h|h
      ·simpa using h
      ·rw [h,hself j hjl] at hd;cases hd
      ·have:=(hpair j i oj l[i] h hoj (by simp [hi])).2.1
       rw [hd] at this;cases this⟩)
     have next: ∀v w2,(at' L j).p v w2->Below w1.heap.size w1 w2->wpAny P .any l.toArray Q fuel (listed.setIfInBounds j true) ((cC (fun i=>listed.getD i false) x l 0 a).put oj.dst v) w2:=by
      intro v w2 hv hb;have hi:=gd (s:=fun i=>listed.getD i false) (x:=x) (v:=v) l 0 j a hA hoj (by simpa using hun);rw [RX] at hi;rw [<-hi, <- show (fun i=>(listed.setIfInBounds j true).getD i false)=bN (fun i=>listed.getD i false) j from funext hgd]
      refine ih _ _ w2 hsj (Ef hE hb) (fun i hi'=> ?_) (fun j' i hj' hd=> ?_) ?_ ?_
      ·rw [hgd] at hi'
       by_cases hij:i=j
       ·subst hij;simpa [fJ] using hv
       ·simp only [bN,if_neg hij] at hi';simp only [fJ,if_neg hij];exact (at' L i).st _ _ _ hb (hF i hi')
      ·rw [hgd] at hj' ⊢
       by_cases hij:i=j
       ·simp [bN,hij]
       ·simp only [bN,if_neg hij]
        by_cases hj2:j'=j
        ·subst hj2;exact hdeps i hd
        ·simp only [bN,if_neg hj2] at hj';exact hcl j' i hj' hd
      ·rw [hgd]
       have:l.length - 1≠j:=by omega
       simp only [bN,if_neg this];exact hlast
      ·rw [gW (s':=bN (fun i=>listed.getD i false) j) l.length (fun i _=>hgd i)]
       have:=kW (s:=fun i=>listed.getD i false) (i:=j) l.length hjl hun
       omega
     unfold jO at hst;rw [<-c1, <- c2] at hst
     rcases hst with ⟨h1,h2⟩|⟨h1,h2⟩
     ·rw [if_pos h1];refine .inl ?_;unfold Oper.wp;generalize (execOp (cC (fun i=>listed.getD i false) x l 0 a).eval oj).run P w1=r at h2
      cases r with
      | halt _ _=>exact h2.elim
      | ok n w'=>
       cases n<;>first|exact h2.elim|skip
       case value u=>exact next _ _ h2.1 h2.2
       case skip=>exact next _ _ h2.1 h2.2
       case enter f args=>
        refine Calls.mono h2 fun e w'' he=> ?_;obtain ⟨v,rfl,hv,hb⟩:=he
        exact next _ _ hv hb
     ·rw [if_neg (by rw [h1];decide)]
      exact next _ _ h2 (Below.refl _ _)
 have hrep: ∀i,(Array.replicate l.toArray.size false).getD i false=false:=fun i=>by
  simp only [RZ,Array.getElem?_replicate];split<;>rfl
 have h0:=main l.toArray.size (Array.replicate l.toArray.size false) (fun _=>undef) w.drew (by simp) (Below.refl _ _)
  (fun i hi=>by rw [hrep] at hi;cases hi) (fun j i hj=>by rw [hrep] at hj;cases hj) (hrep _) (qY _)
 have e:cC (fun i=>(Array.replicate l.toArray.size false).getD i false) (fun _=>undef) l 0 a=a:=by
  have: ∀(l':List Oper) k,cC (fun i=>(Array.replicate l.toArray.size false).getD i false) (fun _=>undef) l' k a=a:=by
   intro l'
   induction l' with
   | nil=>intro k;rfl
   | cons o l' ih=>intro k;rw [cC,hrep];exact ih (k+1)
  exact this l 0
 rw [e] at h0;exact h0
end
end
section
def WF (r:Option Nat):Fence:={ Fence.wide with round:=r }
theorem iG (r:Option Nat) (n:Nat):(WF r).room n:=fun d h=>by cases h
section
variable {P:Program} {r:Option Nat} {n:Nat} {ops:Array Oper} {Q:Exit->Act->World->Prop} {a:Act} {w:World}
theorem Gj {c:Code} {m:Nat} (h:c.wpIn (WF r) n P Q a w):c.wpIn (WF r) m P Q a w:=fun b k cs h1 h2 _=>h b k cs h1 h2 (iG _ _)
theorem C9 {m:Nat} {l:Nat} {f:FuncId} {tmps:Array Value} {assign body:Code} {R:Ending->World->Prop} {r':Option Nat} (h:RoundIn (WF r) n P l f tmps assign body w R):RoundIn (WF r') m P l f tmps assign body w R:=⟨trivial,fun c cs _=>h.2 c cs (iG _ _)⟩
theorem jo {f:FuncId} {args:Array Value} {R:Ending->World->Prop} (h:Calls P f args w R):CallsIn (WF r) n P f args w R:=(callsIn_wide (n:=n)).2 h
theorem vU {f:FuncId} {args:Array Value} {R:Ending->World->Prop} (h:CallsIn (WF none) n P f args w R):Calls P f args w R:=(callsIn_wide (n:=n)).1 h
def dP (ops:Array Oper):Bool:=ops.all (fun o=>match o.op with| .defer _=>false|_=>true)
theorem j5 {i:Nat} {o:Oper} (h:dP ops=true) (ho:ops[i]? = some o) (rho:Operand->Value):o.semAt r rho=execOp rho o:=by
 refine Oper.semAt_eq r rho o (fun c hc=> ?_);unfold dP at h;rw [Array.all_eq_true_iff_forall_mem] at h
 have:=h o (Array.mem_of_getElem? ho)
 rw [hc] at this;cases this
theorem tc {row:String} {args:Array Value} {R:Value->World->Prop} (h:Rows P row args w R):RowsIn (WF r) n P row args w R:=fun c cs _=>by
 obtain ⟨v,w',hr,hs⟩:=h c cs;exact ⟨v,w',hr,stepsIn_wide.2 hs⟩
theorem dW (hc:dP ops=true) (hQ: ∀a w, ¬Q .outgrown a w): ∀(l:List Nat) (a:Act) (w:World),wpOps P ops Q l a w->wpOpsIn (WF r) n P ops Q l a w
 | [],a,w,h=>h
 | i :: rest,a,w,h=>by
  simp only [wpOps] at h;simp only [wpOpsIn]
  cases ho:ops[i]? with
  | none=>
   rw [ho] at h;exact dW hc hQ rest a w h
  | some o=>
   rw [ho] at h;simp only at h ⊢
   split
   ·rename_i hw;rw [if_pos hw] at h
    rcases h with h|⟨_,a',w',h⟩
    ·refine ⟨fun f _=>trivial, ?_⟩;rw [j5 hc ho];unfold Oper.wp at h;generalize (execOp a.eval o).run P w=res at h;unfold Oper.upon at h;unfold Oper.uponIn
     split at h
     ·exact dW hc hQ rest _ _ h
     ·exact dW hc hQ rest _ _ h
     ·exact dW hc hQ rest _ _ h
     ·refine ⟨fun e=>(by cases e),jo (h.mono fun e w' he=> ?_)⟩
      cases e with
      | returned v=>exact dW hc hQ rest _ _ he
      | panicked ch=>exact he
      | outgrown=>exact he
     ·exact ⟨fun e=>(by cases e),tc (h.mono fun v w' he=>dW hc hQ rest _ _ he)⟩
     ·exact h
     ·exact h.elim
    ·exact absurd h (hQ a' w')
   ·rename_i hw;rw [if_neg hw] at h;exact ⟨fun f _=>trivial,dW hc hQ rest _ _ h⟩
theorem mR {id:Nat} (hm:P.follows .mixedOrders=true) (hc:dP ops=true) (hQ: ∀a w, ¬Q .outgrown a w) (h:wpAny P .any ops Q ops.size (Array.replicate ops.size false) a w.drew):(Code.region id ops true).wpIn (WF r) n P Q a w:=
 wpIn_region_draw fun t=>by
  simp only [Region.schedule,hm,Bool.true_or,if_true];exact dW hc hQ _ _ _ (wpAny_sound ops.size t _ a _ h)
theorem rM {c:Code} (I:Nat->Act->World->Prop) {m:Nat} (h0:I m a w) (round: ∀m a w,I m a w->c.wpIn (WF r) n P (Exit.then (fun a' w'=> ∃m',I m' a' w'∧m'<m) Q) a w):(Code.loop c).wpIn (WF r) n P Q a w:=by
 have key: ∀j a w,I j a w-> ∀b k cs,b.roundOf=(WF r).round-> ∃e a' w',Q e a' w'∧ArrivesIn (Machine.fenced P (WF r)) P (lone (b.atR a (.code c :: .inLoop c :: k)) cs w) b k cs e a' w':=by
  intro j
  induction j using Nat.strongRecOn with
  | _ j ih=>
   intro a w hI b k cs hro;obtain ⟨e,a1,w1,hq,harr⟩:=round j a w hI b (.inLoop c :: k) cs hro trivial (iG _ _)
   cases e with
   | normal=>
    obtain ⟨m',h1,h2⟩:=hq;obtain ⟨e2,a2,w2,q2,arr2⟩:=ih m' h2 a1 w1 h1 b k cs hro;exact ⟨e2,a2,w2,q2, .of_steps (StepsIn.trans harr (.one (fenced_calm (F:=WF r) (n:=n) trivial (iG _ _) rfl) stepR_inLoop)) arr2⟩
   | exit id=>exact ⟨_,a1,w1,hq, .pass (x:= .inLoop c) rfl (fun _ _=> .inl (by simp)) harr⟩
   | goto l=>exact ⟨_,a1,w1,hq, .pass (x:= .inLoop c) rfl (fun _ _=> .inl (by simp)) harr⟩
   | ret=>exact ⟨_,a1,w1,hq, .pass (x:= .inLoop c) rfl (fun _ _=> .inl (by simp)) harr⟩
   | panic ch=>exact ⟨_,a1,w1,hq, .pass (x:= .inLoop c) rfl (fun _ _=> .inl (by simp)) harr⟩
   | outgrown=>exact ⟨_,a1,w1,hq, .pass (x:= .inLoop c) rfl (fun _ _=> .inl (by simp)) harr⟩
 intro b k cs hro _ _;obtain ⟨e,a',w',hq,harr⟩:=key m a w h0 b k cs hro;exact ⟨e,a',w',hq, .of_steps (.one (fenced_calm (F:=WF r) (n:=n) trivial (iG _ _) rfl) stepR_loop) harr⟩
theorem u6 {b:Frame} {k:List Item} {cs:List Frame} {c:Code}:step P (lone (b.atR a (.code (.scope c) :: k)) cs w) = .next (lone (b.atR a (.code c :: .inScope c :: k)) cs w):=
 step_lone_go (by simp [stepG,stepG.exec,Frame.atR])
theorem qW {b:Frame} {k:List Item} {cs:List Frame} {c:Code}:step P (lone (b.atR a (.inScope c :: k)) cs w) = .next (lone (b.atR a k) cs w):=
 step_lone_go (by simp [stepG,stepG.exec,Frame.atR])
theorem zS {c:Code} (h:c.wpIn (WF r) n P (Exit.noGoto Q) a w):(Code.scope c).wpIn (WF r) n P Q a w:=by
 intro b k cs hro _ _;obtain ⟨e,a1,w1,hq,harr⟩:=h b (.inScope c :: k) cs hro trivial (iG _ _);have s1:StepsIn (Machine.fenced P (WF r)) P (lone (b.atR a (.code (.scope c) :: k)) cs w) (lone (b.atR a (.code c :: .inScope c :: k)) cs w):= .one (fenced_calm (F:=WF r) (n:=n) trivial (iG _ _) rfl) u6
 cases e with
 | normal=>exact ⟨.normal,a1,w1,hq,s1.trans (StepsIn.trans harr (.one (fenced_calm (F:=WF r) (n:=n) trivial (iG _ _) rfl) qW))⟩
 | exit id=>
  refine ⟨.exit id,a1,w1,hq,fun k' hk=>s1.trans (harr.1 k' (by simp [exitTo,hk])),fun hro2 hkk=> ?_⟩;obtain ⟨k1,h1,h2⟩:=harr.2 hro2 (by simp [exitTo,hkk]);exact ⟨k1,h1,s1.trans h2⟩
 | goto l=>exact hq.elim
 | ret=>exact ⟨_,a1,w1,hq, .of_steps s1 harr⟩
 | panic ch=>exact ⟨_,a1,w1,hq, .of_steps s1 harr⟩
 | outgrown=>exact ⟨_,a1,w1,hq, .of_steps s1 harr⟩
end
end
end Go.Proofs.YtjcobjgjjlahdaaGreatDoor
