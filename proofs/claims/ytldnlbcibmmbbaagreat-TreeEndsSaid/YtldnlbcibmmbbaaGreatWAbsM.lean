/- The abstract walk: own maps: made, written, read. -/
import Derived.MapKept
import Derived.Test.YtldnlbcibmmbbaaGreatWAbs
set_option linter.unusedSimpArgs false
set_option linter.unusedVariables false
open Array renaming getElem?_push_lt → JG, getElem?_eq_getElem → Jd, getElem?_push_size → JH, getElem?_push → JI, getElem?_eq_some_iff → IY
open List renaming getElem?_eq_some_iff → I0, getElem?_set_self → Jm, getElem?_set_ne → Jl, getElem?_append_left → I1, getElem?_append_right → Jt, mem_of_getElem? → Jz
open Nat renaming lt_or_ge → I2
open Option renaming map_eq_some_iff → JF
open Option.some renaming injEq → Ja
open Prod.mk renaming injEq → Jb
namespace Go.Proofs.YtldnlbcibmmbbaaGreat
open Go.RowKit Go.MapKept
def dS:TypeDesc→Value→Bool
 | .int k, .int k' _=>decide (k=k')
 | .string, .string _=>true
 | .bool, .bool _=>true
 | _,_=>false
theorem dt {d:TypeDesc} {k:Value} (h:dS d k=true):IsKey d k:=by
 cases d<;>cases k<;>simp_all [dS,IsKey]
theorem jJ {s t:ByteArray} (h:s.toList=t.toList):s=t:=by
 rw [ByteArray.toList_eq,ByteArray.toList_eq] at h
 obtain ⟨⟨a⟩⟩:=s;obtain ⟨⟨b⟩⟩:=t
 simp at h;rw [h]
def iR:Value→Value→Bool
 | .int _ a, .int _ b=>a==b
 | .string a, .string b=>a.toList==b.toList
 | .bool a, .bool b=>a==b
 | _,_=>false
theorem pP {d:TypeDesc} {a b:Value} (ha:dS d a=true) (hb:dS d b=true):Instr.sameNow d a b=some (iR a b)∧(iR a b=true→b=a):=by
 cases d<;>cases a<;>simp only [dS,Bool.false_eq_true,decide_eq_true_eq] at ha<;>cases b<;>simp only [dS,Bool.false_eq_true,decide_eq_true_eq] at hb
 ·simp only [Instr.sameNow,iR,true_and,beq_iff_eq];exact fun h=>by rw [h]
 ·subst ha;subst hb;simp only [Instr.sameNow,iR,if_true,true_and,beq_iff_eq];exact fun h=>by rw [h]
 ·rename_i x y
  have e:(x==y)=(x.toList==y.toList):=by
   rw [Bool.eq_iff_iff,bytes_beq,beq_iff_eq]
   exact ⟨fun h=>by rw [h],fun h=>jJ h⟩
  simp only [Instr.sameNow,iR,e,true_and,beq_iff_eq,Value.string.injEq]
  exact fun h=>(jJ h).symm
theorem RA.plain {D:Nat→Prop} {nu:Nat→Nat→Value} {o:List (Option ab)} {w:World} {x y:Value} (h:RA D nu o w (.v x) y):y=x:=by cases h;rfl
def uG (d:TypeDesc) (k:Value):List (List AV)→Option (Option AV)
 | []=>some none
 | [.v k',x] :: l=>if dS d k' then if iR k k' then some (some x) else uG d k l else none
 | _=>none
def vC (d:TypeDesc) (k:Value) (x:AV):List (List AV)→Option (List (List AV))
 | []=>some [[.v k,x]]
 | [.v k',y] :: l=>if dS d k' then if iR k k' then some ([.v k,x] :: l) else (vC d k x l).map ([.v k',y] :: ·) else none
 | _=>none
section
variable {D:Nat→Prop} {nu:Nat→Nat→Value} {o:List (Option ab)} {w:World} {P:Program}
theorem mj {d:TypeDesc} {k:Value} (hk:dS d k=true): ∀(rows:List (List AV)) (es:List MapEntry) (i:Nat) (r:Option AV),es.length=rows.length→(∀(j:Nat) row c e,rows[j]? = some row→row[0]? = some c→es[j]? = some e→RA D nu o w c e.key)→uG d k rows=some r →
  (r=none∧Instr.findNow d k es i=some none)∨ ∃j c e row,r=some c∧Instr.findNow d k es i=some (some (i+j,e.val))∧rows[j]? = some row∧row[1]? = some c∧es[j]? = some e
 | [],[],i,r,_,_,h=>by
  simp only [uG,Ja] at h
  exact .inl ⟨h.symm,rfl⟩
 | [],_ :: _,i,r,hl,_,_=>by simp at hl
 | _ :: _,[],i,r,hl,_,_=>by simp at hl
 | row :: l,e :: es,i,r,hl,hr,h=>by
  unfold uG at h
  split at h
  ·cases ‹row :: l=[]›
  ·rename_i k' x l' e1
   cases e1
   split at h
   ·rename_i hk'
    have hkey:e.key=k':=(hr 0 _ (.v k') e rfl rfl rfl).plain
    obtain ⟨h1,h2⟩:=pP hk hk'
    split at h
    ·rename_i he
     cases h
     refine .inr ⟨0,x,e,_,rfl, ?_,rfl,rfl,rfl⟩
     simp [Instr.findNow,hkey,h1,he]
    ·rename_i he
     have he':iR k k'=false:=by simpa using he
     rcases mj hk l es (i+1) r (by simpa using hl) (fun j row c e q1 q2 q3=>hr (j+1) row c e (by simpa using q1) q2 (by simpa using q3)) h with ⟨q1,q2⟩|⟨j,c,e2,row2,q1,q2,q3,q4,q5⟩
     ·exact .inl ⟨q1,by simp [Instr.findNow,hkey,h1,he',q2]⟩
     ·exact .inr ⟨j+1,c,e2,row2,q1,by simp [Instr.findNow,hkey,h1,he',q2];omega,by simpa using q3,q4,by simpa using q5⟩
   ·cases h
  ·cases h
theorem rj {d:TypeDesc} {k:Value} {x:AV} (hk:dS d k=true): ∀(rows:List (List AV)) (es:List MapEntry) (i:Nat) (rows':List (List AV)),es.length=rows.length→(∀(j:Nat) row c e,rows[j]? = some row→row[0]? = some c→es[j]? = some e→RA D nu o w c e.key)→vC d k x rows=some rows' →
  (rows'=rows++[[.v k,x]]∧Instr.findNow d k es i=some none)∨ ∃j e,rows'=rows.set j [.v k,x]∧Instr.findNow d k es i=some (some (i+j,e.val))∧es[j]? = some e∧e.key=k
 | [],[],i,r,_,_,h=>by
  simp only [vC,Ja] at h
  exact .inl ⟨h.symm,rfl⟩
 | [],_ :: _,i,r,hl,_,_=>by simp at hl
 | _ :: _,[],i,r,hl,_,_=>by simp at hl
 | row :: l,e :: es,i,r,hl,hr,h=>by
  unfold vC at h
  split at h
  ·cases ‹row :: l=[]›
  ·rename_i k' y l' e1
   cases e1
   split at h
   ·rename_i hk'
    have hkey:e.key=k':=(hr 0 _ (.v k') e rfl rfl rfl).plain
    obtain ⟨h1,h2⟩:=pP hk hk'
    split at h
    ·rename_i he
     cases h
     refine .inr ⟨0,e,rfl, ?_,rfl,by rw [hkey];exact h2 he⟩
     simp [Instr.findNow,hkey,h1,he]
    ·rename_i he
     have he':iR k k'=false:=by simpa using he
     obtain ⟨r2,hr2,rfl⟩:=JF.1 h
     rcases rj hk l es (i+1) r2 (by simpa using hl) (fun j row c e q1 q2 q3=>hr (j+1) row c e (by simpa using q1) q2 (by simpa using q3)) hr2 with ⟨q1,q2⟩|⟨j,e2,q1,q2,q3,q4⟩
     ·exact .inl ⟨by rw [q1];rfl,by simp [Instr.findNow,hkey,h1,he',q2]⟩
     ·exact .inr ⟨j+1,e2,by rw [q1];rfl,by simp [Instr.findNow,hkey,h1,he',q2];omega,by simpa using q3,q4⟩
   ·cases h
  ·cases h
def zy (P:Program) (T:TypeId) (o:List (Option ab)):AV→Option (TypeDesc×TypeId×Nat×ab)
 | .vec id 0=>match P.underlying T with
  | some (.map kt et)=>match P.underlying kt,o[id]? with
   | some d,some (some ob)=>some (d,et,id,ob)
   | _,_=>none
  | _=>none
 | _=>none
theorem qP {T:TypeId} {m:AV} {d:TypeDesc} {et:TypeId} {id:Nat} {ob:ab} {v:Value} (h:RO D nu o w) (hm:RA D nu o w m v) (ha:zy P T o m=some (d,et,id,ob)) (hV:ob.eu=false) (hz:ob.z=0) :
  ∃kt g es cl,P.underlying T=some (.map kt et)∧P.underlying kt=some d∧o[id]? = some (some ob)∧v = .map (some g)∧tg D nu o w id ob g es cl:=by
 unfold zy at ha
 split at ha
 ·split at ha
  ·rename_i kt et' hu
   split at ha
   ·rename_i d' ob' hk ho
    cases ha
    cases hm
    rcases h.obj id ob ho with ⟨e1,_⟩|⟨g,cur,hr⟩|⟨g,es,cl,hmp⟩
    ·rw [hV] at e1;cases e1
    ·have:=hr.z;omega
    ·exact ⟨kt,g,es,cl,hu,hk,ho,hmp.kz,hmp⟩
   ·cases ha
  ·cases ha
 ·cases ha
theorem sw (h:RO D nu o w) (P:Program) (T:TypeId):Good D nu o w ((Instr.makeMap T none).run P w) (.vec o.length 0) (o++[some ⟨T,0,false,[]⟩]):=by
 have hb:Below w.heap.size w (w.alloc (.map #[] 0)):=(Below.refl _ _).alloc (Nat.le_refl _) _
 have hv: ∀b,cG (Value.map (some w.heap.size))=some b→w.heap.size≤b:=fun b e=>by cases e;exact Nat.le_refl _
 have hm:=fw (nu:=nu) (o:=o) (ob:=⟨T,0,false,[]⟩) hb hv
 refine ⟨_,_,dn nu o.length (.map (some w.heap.size)),rfl,hm,kf h hb hv (.inr (.inr ⟨w.heap.size, #[],0,(MapKept.heap_alloc w _).1,h.up _ (Nat.le_refl _),bb _ _ _ _,rfl,rfl,rfl,fun i row hi=>by simp at hi,fun i row c e hi=>by simp at hi,fun i row c e hi=>by simp at hi,fun i e hi=>by simp at hi,fun i j e e' hi=>by simp at hi⟩)), ?_⟩
 have:=RA.vec (D:=D) (nu:=dn nu o.length (.map (some w.heap.size))) (o:=o++[some ⟨T,0,false,[]⟩]) (w:=w.alloc (.map #[] 0)) o.length 0 ⟨_,List.getElem?_concat_length,fun x hx=>Nat.zero_le _⟩ (by rw [bb];rfl)
 rwa [bb] at this
theorem BH {w':World} {id:Nat} {ob ob':ab} (h:RO D nu o w) (ho:o[id]? = some (some ob)) (hl:ob'.hl=ob.hl) {g:Nat} (hg:cG (nu id ob.hl)=some g)
  (hm:bp nu o w nu (o.set id (some ob')) w') (h5: ∀b,b≠g→w'.heap[b]? = w.heap[b]?) {es:Array MapEntry} {cl:Nat} (hn:tg D nu (o.set id (some ob')) w' id ob' g es cl):RO D nu (o.set id (some ob')) w':=by
 have hlt:=(I0.1 ho).1
 refine ⟨?_,fun b hb=>h.up b (Nat.le_trans hm.size hb), ?_,h.gl.mono hm (fun _ _ h=>h)⟩
 ·intro id' ob'' k1
  by_cases he:id=id'
  ·subst he
   rw [Jm hlt] at k1;cases k1
   exact .inr (.inr ⟨g,es,cl,hn⟩)
  ·rw [Jl he] at k1
   rcases h.obj id' ob'' k1 with e|⟨g',cur',hr⟩|⟨g',es,cl,hmp⟩
   ·exact .inl e
   ·have hne:g'≠g:=fun e=>h.sep id id' ob ob'' g ho k1 he hg (by rw [←e];exact hr.bq)
    exact .inr (.inl ⟨g',cur',(h5 g' hne).trans hr.b7,hr.ke,hr.box,hr.vec,hr.z,hr.row,fun i j row c x q1 q2 q3=>(hr.cell i j row c x q1 q2 q3).mono hm (fun _ _ h=>h),hr.one⟩)
   ·have hne:g'≠g:=fun e=>h.sep id id' ob ob'' g ho k1 he hg (by rw [←e];exact hmp.bq)
    exact .inr (.inr ⟨g',es,cl,hmp.tr (h5 g' hne) (fun h=>h) rfl (fun i j row c x _ _ hr=>hr.mono hm (fun _ _ h=>h))⟩)
 ·intro i1 i2 b1 b2 b k1 k2 hne k3
  have key: ∀(id':Nat) (ob'':ab),(o.set id (some ob'))[id']? = some (some ob'')→ ∃ob3:ab,o[id']? = some (some ob3)∧ob3.hl=ob''.hl:=fun id' ob'' q=>by
   by_cases he:id=id'
   ·subst he
    rw [Jm hlt] at q;cases q
    exact ⟨ob,ho,hl.symm⟩
   ·rw [Jl he] at q;exact ⟨ob'',q,rfl⟩
  obtain ⟨o1,m1,n1⟩:=key i1 b1 k1
  obtain ⟨o2,m2,n2⟩:=key i2 b2 k2
  rw [←n2]
  rw [←n1] at k3
  exact h.sep i1 i2 o1 o2 b m1 m2 hne k3
theorem oC {T:TypeId} {m x:AV} {k v vx:Value} {d:TypeDesc} {et:TypeId} {id:Nat} {ob:ab} {rows':List (List AV)} (h:RO D nu o w) (hm:RA D nu o w m v) (hx:RA D nu o w x vx) (ha:zy P T o m=some (d,et,id,ob)) (hV:ob.eu=false) (hz:ob.z=0) (hk:dS d k=true)
  (hs:vC d k x ob.rows=some rows'): ∃w',(Instr.mapUpdate T v k vx).run P w = .ok () w'∧bp nu o w nu (o.set id (some { ob with rows:=rows' })) w'∧RO D nu (o.set id (some { ob with rows:=rows' })) w':=by
 obtain ⟨kt,g,es,cl,hu,hkd,ho,rfl,hmp⟩:=qP h hm ha hV hz
 have hIK:=dt hk
 have hlt:=(I0.1 ho).1
 have hsz:es.toList.length=ob.rows.length:=by simpa using hmp.sz
 have hl:({ ob with rows:=rows' }:ab).hl=ob.hl:=by simp [ab.hl,hV]
 
 have fin: ∀(es':Array MapEntry) (cl':Nat),es'.size=rows'.length→(∀(i:Nat) row,rows'[i]? = some row→row.length=2)→(∀(i:Nat) row c e,rows'[i]? = some row→row[0]? = some c→es'[i]? = some e→RA D nu o w c e.key)→(∀(i:Nat) row c e,rows'[i]? = some row→row[1]? = some c→es'[i]? = some e→RA D nu o w c e.val) →
   (∀(i:Nat) e,es'[i]? = some e→e.born<cl')→(∀(i j:Nat) e e',es'[i]? = some e→es'[j]? = some e'→i<j→e.born<e'.born) →
   bp nu o w nu (o.set id (some { ob with rows:=rows' })) { w with heap:=w.heap.setIfInBounds g (.map es' cl') }∧RO D nu (o.set id (some { ob with rows:=rows' })) { w with heap:=w.heap.setIfInBounds g (.map es' cl') }:=fun es' cl' p1 p2 p3 p4 p5 p6=>by
  have hh:=MapKept.heap_set (w:=w) (o':= .map es' cl') hmp.b7
  have hmono:bp nu o w nu (o.set id (some { ob with rows:=rows' })) { w with heap:=w.heap.setIfInBounds g (.map es' cl') }:=
   jP ho hl hmp.bq rfl rfl rfl (by simp) (fun b hb=>hh.2 b hb)
  refine ⟨hmono,BH h ho hl hmp.bq hmono (fun b hb=>hh.2 b hb) ⟨hh.1,hmp.ke,hmp.kz,hV,hz,p1,p2,fun i row c e q1 q2 q3=>(p3 i row c e q1 q2 q3).mono hmono (fun _ _ h=>h),fun i row c e q1 q2 q3=>(p4 i row c e q1 q2 q3).mono hmono (fun _ _ h=>h),p5,p6⟩⟩
 rcases rj hk ob.rows es.toList 0 rows' hsz (fun j row c e q1 q2 q3=>hmp.key j row c e q1 q2 (by simpa using q3)) hs with ⟨rfl,hf⟩|⟨j,e0,rfl,hf,he0,hek⟩
 ·refine ⟨_, ?_,fin (es.push { key:=k,val:=vx,born:=cl }) (cl+1) (by simp [hmp.sz]) (fun i row hi=> ?_) (fun i row c e q1 q2 q3=> ?_) (fun i row c e q1 q2 q3=> ?_) (fun i e hi=> ?_) (fun i j e e' hi hj hij=> ?_)⟩
  ·simp [Instr.mapUpdate,run_underlying hu,MapKept.run_getObj_map hmp.b7,run_checkKey hkd hIK,run_findKey hkd hf,MapKept.run_setObj_map _ hmp.b7,Result.andThen]
  ·rcases I2 i ob.rows.length with q|q
   ·rw [I1 q] at hi;exact hmp.row i row hi
   ·rw [Jt q] at hi
    have:=Jz hi
    simp at this;subst this;rfl
  ·rcases I2 i ob.rows.length with q|q
   ·rw [I1 q] at q1
    rw [JG (by rw [hmp.sz];exact q)] at q3
    exact hmp.key i row c e q1 q2 (by rw [Jd (by rw [hmp.sz];exact q)];exact q3)
   ·rw [Jt q] at q1
    have:=Jz q1
    simp at this;subst this
    have hi:i=es.size:=by
     have:=(I0.1 q1).1
     simp at this;have:=hmp.sz;omega
    subst hi
    rw [JH] at q3
    cases q3;cases q2;exact .v _
  ·rcases I2 i ob.rows.length with q|q
   ·rw [I1 q] at q1
    rw [JG (by rw [hmp.sz];exact q)] at q3
    exact hmp.val i row c e q1 q2 (by rw [Jd (by rw [hmp.sz];exact q)];exact q3)
   ·rw [Jt q] at q1
    have:=Jz q1
    simp at this;subst this
    have hi:i=es.size:=by
     have:=(I0.1 q1).1
     simp at this;have:=hmp.sz;omega
    subst hi
    rw [JH] at q3
    cases q3;cases q2;exact hx
  ·rw [JI] at hi
   split at hi
   ·cases hi;exact Nat.lt_succ_self _
   ·exact Nat.lt_succ_of_lt (hmp.born i e hi)
  ·rw [JI] at hi hj
   split at hj
   ·cases hj
    split at hi
    ·omega
    ·exact hmp.born i e hi
   ·split at hi
    ·have:=(IY.1 hj).1;omega
    ·exact hmp.CU i j e e' hi hj hij
 ·have hj0:es[j]? = some e0:=by simpa using he0
  have hjl:=(IY.1 hj0).1
  have hmod: ∀i,(es.modify j fun e=>{ e with key:=k,val:=vx })[i]? = if j=i then (es[i]?).map (fun e=>{ e with key:=k,val:=vx }) else es[i]? :=fun i=>by rw [Array.getElem?_modify]
  have hbn: ∀(i:Nat) e,(es.modify j fun e=>{ e with key:=k,val:=vx })[i]? = some e→ ∃e1,es[i]? = some e1∧e1.born=e.born:=fun i e hi=>by
   rw [hmod] at hi
   split at hi
   ·obtain ⟨e1,k1,rfl⟩:=JF.1 hi
    exact ⟨e1,k1,rfl⟩
   ·exact ⟨e,hi,rfl⟩
  refine ⟨_, ?_,fin (es.modify j fun e=>{ e with key:=k,val:=vx }) cl (by simp [hmp.sz]) (fun i row hi=> ?_) (fun i row c e q1 q2 q3=> ?_) (fun i row c e q1 q2 q3=> ?_) (fun i e hi=> ?_) (fun i j' e e' hi hj hij=> ?_)⟩
  ·simp [Instr.mapUpdate,run_underlying hu,MapKept.run_getObj_map hmp.b7,run_checkKey hkd hIK,run_findKey hkd hf,hj0,hek,run_keyThatStays hIK,MapKept.run_setObj_map _ hmp.b7,Result.andThen]
  ·by_cases hij:j=i
   ·subst hij;rw [Jm (by rw [←hmp.sz];exact hjl)] at hi;cases hi;rfl
   ·rw [Jl hij] at hi;exact hmp.row i row hi
  ·rw [hmod] at q3
   by_cases hij:j=i
   ·subst hij
    rw [Jm (by rw [←hmp.sz];exact hjl)] at q1;cases q1
    rw [if_pos rfl] at q3
    obtain ⟨e1,k1,rfl⟩:=JF.1 q3
    cases q2;exact .v _
   ·rw [Jl hij] at q1
    rw [if_neg hij] at q3
    exact hmp.key i row c e q1 q2 q3
  ·rw [hmod] at q3
   by_cases hij:j=i
   ·subst hij
    rw [Jm (by rw [←hmp.sz];exact hjl)] at q1;cases q1
    rw [if_pos rfl] at q3
    obtain ⟨e1,k1,rfl⟩:=JF.1 q3
    cases q2;exact hx
   ·rw [Jl hij] at q1
    rw [if_neg hij] at q3
    exact hmp.val i row c e q1 q2 q3
  ·obtain ⟨e1,k1,k2⟩:=hbn i e hi
   rw [←k2];exact hmp.born i e1 k1
  ·obtain ⟨e1,k1,k2⟩:=hbn i e hi
   obtain ⟨e2,k3,k4⟩:=hbn j' e' hj
   rw [←k2, ← k4];exact hmp.CU i j' e1 e2 k1 k3 hij
def xF (P:Program) (T:TypeId):Option AV:=match P.info? T with
 | some i=>match i.zero with
  | some (.agg xs)=>if xs.toList.all (·.oneCell') then some (.agg (xs.toList.map AV.v)) else none
  | some zv=>some (.v zv)
  | none=>none
 | none=>none
theorem pj {T:TypeId} {c:AV} (h:xF P T=some c): ∃zv,(zeroValue T).run P w = .ok zv w∧RA D nu o w c zv:=by
 unfold xF at h
 split at h
 ·rename_i i hi
  split at h
  ·rename_i xs hz
   split at h
   ·rename_i hall
    cases h
    refine ⟨.agg xs,by simp [zeroValue,typeInfo,hi,hz], .agg _ _ (by simp) (fun i c x q1 q2=> ?_) (fun i x q=> ?_)⟩
    ·rw [List.getElem?_map] at q1
     have:xs.toList[i]? = some x:=by simpa using q2
     rw [this] at q1;cases q1;exact .v _
    ·rw [List.all_eq_true] at hall
     exact hall x (Jz (i:=i) (by simpa using q))
   ·cases h
  ·rename_i zv hne hz
   cases h
   exact ⟨zv,by simp [zeroValue,typeInfo,hi,hz], .v _⟩
  ·cases h
 ·cases h
def sg (P:Program) (T:TypeId) (o:List (Option ab)) (m k:AV) (ok:Bool):Option (Prop×AV):=match zy P T o m,k with
 | some (d,et,_,ob), .v kv=>if dS d kv then match uG d kv ob.rows with
  | some (some c)=>some (ob.eu=false∧ob.z=0,if ok then .dN [c, .v (.bool true)] else c)
  | some none=>match xF P et with
   | some z=>some (ob.eu=false∧ob.z=0,if ok then .dN [z, .v (.bool false)] else z)
   | none=>none
  | none=>none
  else none
 | _,_=>none
theorem RA.pair {c:AV} {x:Value} {b:Bool} (h:RA D nu o w c x):RA D nu o w (.dN [c, .v (.bool b)]) (.tuple #[x, .bool b]):=by
 refine .dN _ _ rfl (fun i a y q1 q2=> ?_)
 match i,q1,q2 with
 | 0,q1,q2=>cases q1;cases q2;exact h
 | 1,q1,q2=>cases q1;cases q2;exact .v _
 | i+2,q1,q2=>simp at q1
theorem tu {T:TypeId} {m k:AV} {vm vk:Value} {ok:Bool} {p:Prop} {r:AV} (h:RO D nu o w) (hm:RA D nu o w m vm) (hk:RA D nu o w k vk) (ha:sg P T o m k ok=some (p,r)) (hp:p): ∃v,(Instr.lookup T vm vk ok).run P w = .ok v w∧RA D nu o w r v:=by
 unfold sg at ha
 split at ha
 ·rename_i d et id ob kv e1
  obtain rfl:=hk.plain
  split at ha
  ·rename_i hkb
   have fin:ob.eu=false∧ob.z=0→ ∀q,uG d vk ob.rows=some q→ ∃kt g es cl,P.underlying T=some (.map kt et)∧P.underlying kt=some d∧vm = .map (some g)∧w.heap[g]? = some (.map es cl)∧tg D nu o w id ob g es cl ∧
     ((q=none∧Instr.findNow d vk es.toList 0=some none)∨ ∃j c e row,q=some c∧Instr.findNow d vk es.toList 0=some (some (0+j,e.val))∧ob.rows[j]? = some row∧row[1]? = some c∧es.toList[j]? = some e):=fun hh q hq=>by
    obtain ⟨kt,g,es,cl,hu,hkd,ho,rfl,hmp⟩:=qP h hm e1 hh.1 hh.2
    exact ⟨kt,g,es,cl,hu,hkd,rfl,hmp.b7,hmp,mj hkb ob.rows es.toList 0 q (by simpa using hmp.sz) (fun j row c e q1 q2 q3=>hmp.key j row c e q1 q2 (by simpa using q3)) hq⟩
   split at ha
   ·rename_i c hq
    simp only [Ja,Jb] at ha
    obtain ⟨rfl,rfl⟩:=ha
    obtain ⟨kt,g,es,cl,hu,hkd,rfl,hb,hmp,hf⟩:=fin hp _ hq
    rcases hf with ⟨q1,_⟩|⟨j,c',e,row,q1,q2,q3,q4,q5⟩
    ·cases q1
    ·cases q1
     have hra:RA D nu o w c e.val:=hmp.val j row c e q3 q4 (by simpa using q5)
     cases ok
     ·exact ⟨e.val,by simp [Instr.lookup,run_underlying hu,MapKept.run_getObj_map hb,run_checkKey hkd (dt hkb),run_findKey hkd q2,Result.andThen],hra⟩
     ·exact ⟨.tuple #[e.val, .bool true],by simp [Instr.lookup,run_underlying hu,MapKept.run_getObj_map hb,run_checkKey hkd (dt hkb),run_findKey hkd q2,Result.andThen],hra.pair⟩
   ·rename_i hq
    split at ha
    ·rename_i z hz
     simp only [Ja,Jb] at ha
     obtain ⟨rfl,rfl⟩:=ha
     obtain ⟨kt,g,es,cl,hu,hkd,rfl,hb,hmp,hf⟩:=fin hp _ hq
     rcases hf with ⟨_,q2⟩|⟨j,c',e,row,q1,_⟩
     ·obtain ⟨zv,z1,z2⟩:=pj (D:=D) (nu:=nu) (o:=o) (w:=w) hz
      cases ok
      ·exact ⟨zv,by simp [Instr.lookup,run_underlying hu,MapKept.run_getObj_map hb,run_checkKey hkd (dt hkb),run_findKey hkd q2,z1,Result.andThen],z2⟩
      ·exact ⟨.tuple #[zv, .bool false],by simp [Instr.lookup,run_underlying hu,MapKept.run_getObj_map hb,run_checkKey hkd (dt hkb),run_findKey hkd q2,z1,Result.andThen],z2.pair⟩
     ·cases q1
    ·cases ha
   ·cases ha
  ·cases ha
 ·cases ha
def sc (P:Program) (T:TypeId) (rows:List (List AV)) (k:AV) (ok:Bool):Option (Prop×AV):=match P.underlying T,k with
 | some (.map kt et), .v kv=>match P.underlying kt with
  | some d=>if dS d kv then match uG d kv rows with
   | some (some c)=>some (True,if ok then .dN [c, .v (.bool true)] else c)
   | some none=>match xF P et with
    | some z=>some (True,if ok then .dN [z, .v (.bool false)] else z)
    | none=>none
   | none=>none
   else none
  | none=>none
 | _,_=>none
theorem tw {T:TypeId} {rows:List (List AV)} {k:AV} {vm vk:Value} {ok:Bool} {p:Prop} {r:AV} (hm:RA D nu o w (.mp rows) vm) (hk:RA D nu o w k vk) (ha:sc P T rows k ok=some (p,r)): ∃v,(Instr.lookup T vm vk ok).run P w = .ok v w∧RA D nu o w r v:=by
 unfold sc at ha
 split at ha
 ·rename_i kt et kv hu
  obtain rfl:=hk.plain
  split at ha
  ·rename_i d hkd
   split at ha
   ·rename_i hkb
    cases hm with
    | mp _ b es cl h1 hb h3 h4 h5 h6 h7=>
    have fin:=fun q hq=>mj (D:=D) (nu:=nu) (o:=o) (w:=w) hkb rows es.toList 0 q (by simpa using h3) (fun j row c e q1 q2 q3=>h7 j 0 row c e q1 q2 (by simpa using q3)) hq
    split at ha
    ·rename_i c hq
     simp only [Ja,Jb] at ha
     obtain ⟨rfl,rfl⟩:=ha
     rcases fin _ hq with ⟨q1,_⟩|⟨j,c',e,row,q1,q2,q3,q4,q5⟩
     ·cases q1
     ·cases q1
      have hra:RA D nu o w c e.val:=h7 j 1 row c e q3 q4 (by simpa using q5)
      cases ok
      ·exact ⟨e.val,by simp [Instr.lookup,run_underlying hu,MapKept.run_getObj_map hb,run_checkKey hkd (dt hkb),run_findKey hkd q2,Result.andThen],hra⟩
      ·exact ⟨.tuple #[e.val, .bool true],by simp [Instr.lookup,run_underlying hu,MapKept.run_getObj_map hb,run_checkKey hkd (dt hkb),run_findKey hkd q2,Result.andThen],hra.pair⟩
    ·rename_i hq
     split at ha
     ·rename_i z hz
      simp only [Ja,Jb] at ha
      obtain ⟨rfl,rfl⟩:=ha
      rcases fin _ hq with ⟨_,q2⟩|⟨j,c',e,row,q1,_⟩
      ·obtain ⟨zv,z1,z2⟩:=pj (D:=D) (nu:=nu) (o:=o) (w:=w) hz
       cases ok
       ·exact ⟨zv,by simp [Instr.lookup,run_underlying hu,MapKept.run_getObj_map hb,run_checkKey hkd (dt hkb),run_findKey hkd q2,z1,Result.andThen],z2⟩
       ·exact ⟨.tuple #[zv, .bool false],by simp [Instr.lookup,run_underlying hu,MapKept.run_getObj_map hb,run_checkKey hkd (dt hkb),run_findKey hkd q2,z1,Result.andThen],z2.pair⟩
      ·cases q1
     ·cases ha
    ·cases ha
   ·cases ha
  ·cases ha
 ·cases ha
def tK (P:Program) (T:TypeId) (o:List (Option ab)) (m k:AV) (ok:Bool):Option (Prop×AV):=match m with
 | .mp rows=>sc P T rows k ok
 | .vec id len=>sg P T o (.vec id len) k ok
 | _=>none
theorem ql {T:TypeId} {m k:AV} {vm vk:Value} {ok:Bool} {p:Prop} {r:AV} (h:RO D nu o w) (hm:RA D nu o w m vm) (hk:RA D nu o w k vk) (ha:tK P T o m k ok=some (p,r)) (hp:p): ∃v,(Instr.lookup T vm vk ok).run P w = .ok v w∧RA D nu o w r v:=by
 unfold tK at ha
 split at ha
 ·exact tw hm hk ha
 ·exact tu h hm hk ha hp
 ·cases ha
def oQ (P:Program) (T:TypeId) (o:List (Option ab)) (m k x:AV):Option (Prop×List (Option ab)):=match zy P T o m,k with
 | some (d,_,id,ob), .v kv=>if dS d kv then match vC d kv x ob.rows with
  | some rows=>some (ob.eu=false∧ob.z=0,o.set id (some ⟨ob.T,ob.z,ob.eu,rows⟩))
  | none=>none
  else none
 | _,_=>none
theorem mK {T:TypeId} {m k x:AV} {vm vk vx:Value} {p:Prop} {o':List (Option ab)} (h:RO D nu o w) (hm:RA D nu o w m vm) (hk:RA D nu o w k vk) (hx:RA D nu o w x vx) (ha:oQ P T o m k x=some (p,o')) (hp:p) :
  ∃w',(Instr.mapUpdate T vm vk vx).run P w = .ok () w'∧bp nu o w nu o' w'∧RO D nu o' w':=by
 unfold oQ at ha
 split at ha
 ·rename_i d et id ob kv e1
  obtain rfl:=hk.plain
  split at ha
  ·rename_i hkb
   split at ha
   ·rename_i rows hs
    simp only [Ja,Jb] at ha
    obtain ⟨rfl,rfl⟩:=ha
    exact oC h hm hx e1 hp.1 hp.2 hkb hs
   ·cases ha
  ·cases ha
 ·cases ha
end
end Go.Proofs.YtldnlbcibmmbbaaGreat
