/- texts of one claim, one behind the other. -/
import Derived.Test.YtlhhccmopfamhaaGreatDoorWWalk
import Derived.Test.YtlhhccmopfamhaaGreatDoorWBest
import Derived.Test.YtlhhccmopfamhaaGreatDoorWRelG
import Derived.Test.YtlhhccmopfamhaaGreatDoorWOpenX
import Derived.Maps.RangeRun
import Derived.Deep.WholeRow
import Derived.Sort.MapsRangeIn
import Derived.Test.YtlhhccmopfamhaaGreatDoorWHeapP
import Derived.Test.YtlhhccmopfamhaaGreatDoorWBase2
import Derived.Sort.Grow
import Derived.WalkKit
import Derived.Shelf.GgSortFunc.InsertionK
import Derived.Shelf.SlSortCmp.NoneTotal
set_option linter.unusedSimpArgs false
set_option linter.unusedVariables false
set_option maxRecDepth 100000
set_option maxHeartbeats 16000000
open Array renaming getElem?_setIfInBounds_ne -> Vg, getElem?_eq_getElem -> Tm, getElem?_eq_some_iff -> S5, getElem?_eq_none -> Vj
open Bool renaming and_eq_true -> TY, and_true -> Um, not_eq_true' -> UA
open List renaming map_cons -> Vd, filter_cons_of_pos -> Ve, filter_cons_of_neg -> Vf, getElem_of_mem -> Vh, nil_append -> UQ, mem_cons_of_mem -> T8, getElem?_eq_getElem -> Tn, getElem?_set_ne -> Tv, getElem?_eq_some_iff -> S7, getElem?_set_self -> Tw, length_cons -> Tc, length_nil -> S6, replicate_succ -> UN, replicate_zero -> UO, cons_append -> UP, set_cons_zero -> UK, setIfInBounds_toArray -> UI, set_cons_succ -> UJ, pairwise_map -> Vk, append_nil -> Up, getElem?_append_left -> S8, getElem?_concat_length -> Ta
open Nat renaming le_refl -> SY, lt_or_ge -> S9
open List.cons renaming injEq -> Vi
open Option renaming map_some -> TG
open Option.some renaming injEq -> Ti
namespace Go.Proofs.YtlhhccmopfamhaaGreatDoor
open Go.RowKit
section
open Go.ChangeMaps (setBlock)
section
variable {F:Fence} {n:Nat} {P:Program} {w:World} {ops:Array Oper} {rest:List Oper} {o:Oper} {a:Act} {Q:Exit->Act->World->Prop}
theorem uI (hg:o.guard=none) (m:Operand) (t k e:TypeId) (b:Nat) (es:Array MapEntry) (cl:Nat) (hop:o.op=Op.range t m) (ht:P.underlying t=some (.map k e)) (hm:a.eval m = .map (some b)) (hb:w.heap[b]? = some (.map es cl))
  (hK:wpListIn F n P ops Q rest (a.put o.dst (.pointer (some ⟨w.heap.size,0,none⟩))) (w.alloc (.mapIter (some b) cl #[] cl))):wpListIn F n P ops Q (o :: rest) a w:=by
 refine wpListIn_plain hg fun K' hK'=> ?_;unfold Oper.wpIn;refine ⟨by simp [Oper.about,hop], ?_⟩;rw [Oper.semAt_plain F _ _ (by rw [hop];intro c hc';cases hc')];simp [execOp,hop,hm,run_range_map w t k e b es cl ht hb,Result.andThen];exact hK' _ _ hK
theorem oU (hg:o.guard=none) (p:Operand) (t:TypeId) (v:Value) (hop:o.op=Op.load t p) (hrun:(Instr.loadAt t (a.eval p)).run P w = .ok v w) (hK:wpListIn F n P ops Q rest (a.put o.dst v) w):wpListIn F n P ops Q (o :: rest) a w:=by
 refine wpListIn_plain hg fun K' hK'=> ?_;unfold Oper.wpIn;refine ⟨by simp [Oper.about,hop], ?_⟩;rw [Oper.semAt_plain F _ _ (by rw [hop];intro c hc';cases hc')];simp [execOp,hop,hrun,Result.andThen];exact hK' _ _ hK
theorem kn (hg:o.guard=none) (p:Operand) (i:Nat) (vs:Array Value) (v:Value) (hop:o.op=Op.extract p i) (hev:a.eval p = .tuple vs) (hget:vs[i]? = some v) (hK:wpListIn F n P ops Q rest (a.put o.dst v) w):wpListIn F n P ops Q (o :: rest) a w:=by
 refine wpListIn_plain hg fun K' hK'=> ?_;unfold Oper.wpIn;refine ⟨by simp [Oper.about,hop], ?_⟩;rw [Oper.semAt_plain F _ _ (by rw [hop];intro c hc';cases hc')];simp [execOp,hop,hev,Instr.extract,hget,Sem.run_pure,Result.andThen];exact hK' _ _ hK
def Rn (zc:Array Value) (c:List AV):Prop:=zc.size=c.length
theorem uG (hg:o.guard=none) (t:TypeId) (c:List AV) (hop:o.op=Op.alloc t) (hz:b6 P t=some c) (hK: ∀zc:Array Value,Rn zc c->wpListIn F n P ops Q rest (a.put o.dst (.pointer (some ⟨w.heap.size,0,none⟩))) (w.alloc (.cells zc t))):wpListIn F n P ops Q (o :: rest) a w:=by
 obtain ⟨i,zv,hi,hzv,he,hone⟩:=fC hz
 have hzr:(zeroValue t).run P w = .ok zv w:=by simp [zeroValue,typeInfo,hi,hzv]
 have hrun:(Instr.alloc t true (.tuple #[])).run P w = .ok (.pointer (some ⟨w.heap.size,0,none⟩)) (w.alloc (.cells zv.cells t)):=by simp [Instr.alloc,newVar,newRow,hzr]
 refine wpListIn_plain hg fun K' hK'=> ?_;unfold Oper.wpIn;refine ⟨by simp [Oper.about,hop], ?_⟩;rw [Oper.semAt_plain F _ _ (by rw [hop];intro c hc';cases hc')];simp [execOp,hop,hrun,Result.andThen];exact hK' _ _ (hK _ (by unfold Rn;rw [he];simp))
theorem mK (hg:o.guard=none) (p v:Operand) (t:TypeId) (hop:o.op=Op.store t p v) (W0:World) (c c':Array Value) (hp:a.eval p = .pointer (some ⟨W0.heap.size,0,none⟩)) (hv:a.eval v = .agg c') (hi:(P.info? t).map (·.size)=some c'.size) (ho:c.size=c'.size) (h1:c'.all (·.oneCell')=true) (hw:w=W0.alloc (.cells c t)) (hd:o.dst=none)
  (hK:wpListIn F n P ops Q rest (a.put o.dst Go.undef) (W0.alloc (.cells c' t))):wpListIn F n P ops Q (o :: rest) a w:=by
 subst hw;have hrun:=run_storeVar_new (P:=P) W0 t c c' hi ho h1;refine wpListIn_plain hg fun K' hK'=> ?_;unfold Oper.wpIn;refine ⟨by simp [Oper.about,hop], ?_⟩;rw [Oper.semAt_plain F _ _ (by rw [hop];intro c hc';cases hc')];simp [execOp,hop,hp,hv,Instr.storeAt,Instr.sureAddr,hrun,Result.andThen];exact hK' _ _ hK
def My (es:Array MapEntry) (seen:Array Nat):Prop:=(leftOf es seen).size=0
def MB (w:World) (r:Nat) (o':Obj) (w2:World):Prop:=w2=setBlock w r o'∨w2=setBlock w.drew r o'
def MA (es:Array MapEntry) (seen:Array Nat) (e:MapEntry):Prop:=e∈(leftOf es seen).toList
theorem w9 (hg:o.guard=none) (it:Operand) (hop:o.op=Op.next it false) (r bm since c0:Nat) (seen:Array Nat) (es:Array MapEntry) (cl:Nat) (hit:a.eval it = .pointer (some ⟨r,0,none⟩))
  (hr:w.heap[r]? = some (.mapIter (some bm) since seen c0)) (hb:w.heap[bm]? = some (.map es cl)) (hold: ∀x∈es.toList,x.born<since) (hsc:since<=c0)
  (hDone:My es seen->wpListIn F n P ops Q rest (a.put o.dst (.tuple #[.bool false])) w)
  (hMore: ∀(e:MapEntry) (w2:World),MA es seen e->MB w r (.mapIter (some bm) since (seen.push e.born) cl) w2->wpListIn F n P ops Q rest (a.put o.dst (.tuple #[.bool true,e.key,e.val])) w2) :
  wpListIn F n P ops Q (o :: rest) a w:=by
 refine wpListIn_plain hg fun K' hK'=> ?_;unfold Oper.wpIn;refine ⟨by simp [Oper.about,hop], ?_⟩;rw [Oper.semAt_plain F _ _ (by rw [hop];intro c hc';cases hc')]
 rcases run_next_at (P:=P) w o.type r bm since c0 seen es cl hr hb hold hsc with ⟨h0,hrun⟩|⟨e,he,w1,hw1,hrun⟩
 ·simp [execOp,hop,hit,hrun,Result.andThen];exact hK' _ _ (hDone h0)
 ·simp [execOp,hop,hit,hrun,Result.andThen];exact hK' _ _ (hMore e _ he (by rcases hw1 with rfl|rfl;exact .inl rfl;exact .inr rfl))
theorem uH (hg:o.guard=none) (it:Operand) (hop:o.op=Op.entry it) (r:Nat) (v:Value) (hit:a.eval it = .pointer (some ⟨r,0,none⟩)) (hrun:(Instr.entry (.pointer (some ⟨r,0,none⟩))).run P w = .ok v w)
  (hK:wpListIn F n P ops Q rest (a.put o.dst v) w):wpListIn F n P ops Q (o :: rest) a w:=by
 refine wpListIn_plain hg fun K' hK'=> ?_;unfold Oper.wpIn;refine ⟨by simp [Oper.about,hop], ?_⟩;rw [Oper.semAt_plain F _ _ (by rw [hop];intro c hc';cases hc')];simp [execOp,hop,hit,hrun,Result.andThen];exact hK' _ _ hK
end
def cy {α:Type} (l:List (α×MapEntry)) (seen:Array Nat):List (α×MapEntry):=l.filter (fun p=> !seen.contains p.2.born)
theorem qM {α:Type} {seen:Array Nat}: ∀ {l:List (α×MapEntry)},(l.map (fun p=>p.2.born)).Nodup-> ∀ {p:α×MapEntry},p∈l->seen.contains p.2.born=false->(cy l seen).Perm (p :: cy l (seen.push p.2.born))
 | [],_,p,h,_=>by cases h
 | q :: l,hn,p,h,hs=>by
  rw [Vd,List.nodup_cons] at hn
  have push: ∀b,(seen.push p.2.born).contains b=(seen.contains b||b==p.2.born):=fun b=>by
   rw [Bool.eq_iff_iff];simp
  rcases List.mem_cons.1 h with rfl|h
  ·have e1:cy (p :: l) seen=p :: cy l seen:=by simp only [cy];rw [Ve (by rw [hs];rfl)]
   have e2:cy (p :: l) (seen.push p.2.born)=cy l (seen.push p.2.born):=by simp only [cy];rw [Vf (by rw [push];simp)]
   have e3:cy l (seen.push p.2.born)=cy l seen:=by
    refine List.filter_congr fun q hq=> ?_
    have:q.2.born≠p.2.born:=fun e=>hn.1 (e ▸ List.mem_map.2 ⟨q,hq,rfl⟩)
    rw [push];simp [this]
   rw [e1,e2,e3]
  ·have hne:q.2.born≠p.2.born:=fun e=>hn.1 (e ▸ List.mem_map.2 ⟨p,h,rfl⟩);have ih:=qM hn.2 h hs
   by_cases hq:seen.contains q.2.born=true
   ·have e1:cy (q :: l) seen=cy l seen:=by simp only [cy];rw [Vf (by rw [hq];simp)]
    have e2:cy (q :: l) (seen.push p.2.born)=cy l (seen.push p.2.born):=by simp only [cy];rw [Vf (by rw [push,hq];simp)]
    rw [e1,e2];exact ih
   ·rw [Bool.not_eq_true] at hq
    have e1:cy (q :: l) seen=q :: cy l seen:=by simp only [cy];rw [Ve (by rw [hq];rfl)]
    have e2:cy (q :: l) (seen.push p.2.born)=q :: cy l (seen.push p.2.born):=by simp only [cy];rw [Ve (by rw [push,hq];simp [hne])]
    rw [e1,e2];exact (ih.cons q).trans (.swap _ _ _)
theorem CY {α:Type} {seen:Array Nat} {l:List (α×MapEntry)} (h: ∀p∈l,seen.contains p.2.born=true):cy l seen=[]:=by
 rw [cy,List.filter_eq_nil_iff];intro p hp;rw [h p hp];simp
theorem BI {α β:Type}: ∀ {l:List α} {m:List β},l.length=m.length->(l.zip m).map Prod.snd=m
 | [],[],_=>rfl
 | a :: l,b :: m,h=>by simp [BI (by simpa using h)]
theorem zip_fst {α β:Type}: ∀ {l:List α} {m:List β},l.length=m.length->(l.zip m).map Prod.fst=l
 | [],[],_=>rfl
 | a :: l,b :: m,h=>by simp [zip_fst (by simpa using h)]
theorem yF.trans {X:Nat->Prop} {a b c:World} (h:yF X a b) (k:yF X b c):yF X a c:=⟨k.os.trans h.os,k.tape.trans h.tape,k.output.trans h.output,Nat.le_trans h.size k.size,fun i hi hx=>(k.same i (Nat.lt_of_lt_of_le hi h.size) hx).trans (h.same i hi hx)⟩
theorem sA {X:Nat->Prop} (w:World) (o:Obj):yF X w (w.alloc o):=⟨rfl,rfl,rfl,by simp,fun b hb _=>(MapKept.heap_alloc w o).2 b hb⟩
theorem AJ {X:Nat->Prop} (w:World) {r:Nat} (o:Obj) (h:X r):yF X w (setBlock w r o):=⟨rfl,rfl,rfl,by simp [setBlock],fun b hb hx=>by
 show (w.heap.setIfInBounds r o)[b]? = _;have hne:r≠b:=fun e=>hx (by rw [<-e];exact h)
 rw [Vg hne]⟩
theorem El {X:Nat->Prop} (w:World):yF X w w.drew:=⟨rfl,rfl,rfl,SY _,fun _ _ _=>rfl⟩
def Ft (k:K2):Value:= .agg #[.string k.1, .string k.2]
theorem xW: ∃fs,Tryz.prog.underlying 74=some (.struct fs):=by
 have this:(match Tryz.prog.underlying 74 with|some (.struct _)=>true|_=>false)=true:=by kernel_rfl
 cases h:Tryz.prog.underlying 74 with
 | none=>rw [h] at this;cases this
 | some d=>
  rw [h] at this
  cases d with
  | struct fs=>exact ⟨fs,rfl⟩
  | _=>cases this
theorem Fv (l:List (K2×Int)):yJ true Tryz.prog 99 [.vp [.mp (bq aN l)]] [] (l.map fun p=>[.agg (aN p.1)]):=by
 refine ⟨by kernel_rfl,fun lb pr hperm D nu w vargs X hro ha hx hx' hD hSt hJ=> ?_⟩;have hX: ∀b, ¬X b:=fun b h=>bb _ _ (hx' b h);obtain ⟨x,rfl,hxr⟩:=dP ha;obtain ⟨m0,hld,hm⟩:=kT (P:=Tryz.prog) (T:=70) hro hxr (r:= .mp (bq aN l)) rfl trivial
 obtain ⟨bm,es,cl,rfl,hbm,hblk,hsz,hborn,hrise,hkey⟩: ∃bm es cl,m0 = .map (some bm)∧Fz D nu [] w bm∧w.heap[bm]? = some (.map es cl)∧es.size=l.length∧(∀x∈es.toList,x.born<cl)∧(es.toList.map (·.born)).Nodup∧ ∀p∈l.zip es.toList,p.2.key=Ft p.1.1:=by
  cases hm with
  | mp _ b es cl h1 h2 h3 h4 h5 h6 h7=>
   have h3':es.size=l.length:=by simpa [bq] using h3
   refine ⟨b,es,cl,rfl,h1,h2,h3',fun x hx=> ?_, ?_,fun p hp=> ?_⟩
   ·obtain ⟨i,hi,rfl⟩:=Vh hx;exact h5 i _ (by simp at hi ⊢)
   ·rw [List.nodup_iff_pairwise_ne,List.pairwise_map,List.pairwise_iff_getElem];intro i j hi hj hij
    have:=h6 i j _ _ (Tm (by simpa using hi)) (Tm (by simpa using hj)) hij
    simp only [Array.getElem_toList];omega
   ·obtain ⟨i,hi,rfl⟩:=Vh hp;rw [List.getElem_zip]
    have hi1:i<l.length:=by simp at hi;omega
    have hi2:i<es.size:=by omega
    have:=h7 i 0 _ _ _ (show (bq aN l)[i]? = some [.agg (aN l[i].1), .v (.int .i64 l[i].2)] by simp [bq,hi1]) rfl (Tm hi2)
    have e:=gG (xs:=[.string l[i].1.1, .string l[i].1.2]) this;simpa [Ft,J4] using e
 have hbmD:bm<w.heap.size:=hbm.1;have hStb:pr.St bm:=(hD bm hbm.1 hbm.2.2).resolve_left (hX bm)
 have hzl:l.length=es.toList.length:=by simpa using hsz.symm
 have hzn:((l.zip es.toList).map (fun p=>p.2.born)).Nodup:=by
  have:=BI hzl
  rw [show (l.zip es.toList).map (fun p=>p.2.born)=((l.zip es.toList).map Prod.snd).map (·.born) by simp,this];exact hborn |> fun _=>hrise
 have hJ0:pr.J ((cy (l.zip es.toList) #[]).map fun p=>[.agg (aN p.1.1)]) X X w:=by
  have e:cy (l.zip es.toList) #[]=l.zip es.toList:=by rw [cy,List.filter_eq_self];intro p hp;simp
  rw [e,show (l.zip es.toList).map (fun p=>[AV.agg (aN p.1.1)])=((l.zip es.toList).map Prod.fst).map fun p=>[AV.agg (aN p.1)] by simp,zip_fst hzl];exact hJ
 refine qf (n:=9) (callsIn_of_wp Tryz.func99 rfl trivial ?_ rfl);simp only [Tryz.ntmps99,List.size_toArray,List.length_cons,List.length_nil,Nat.reduceAdd,Nat.reduceSub,Array.replicate_succ,Array.replicate_zero,List.push_toArray,List.append_toArray,UQ,List.cons_append];have HJ:=Lib.hid hJ0;have HP:=Lib.hid (hperm rfl);have HST:=Lib.hid hStb;clear hJ hJ0 hperm hStb;have hwf:(WF none).round=none:=rfl
 have uM:Tryz.prog.underlying 70=some (.map 74 3):=by kernel_rfl
 clear hro ha hx hx' hxr hm
 gi_wp2_with (first|refine oU rfl _ _ _ rfl hld ?_|refine uI rfl _ _ _ _ bm es cl rfl uM rfl hblk ?_)
 have hW1:yF X w (w.alloc (.mapIter (some bm) cl #[] cl)):=sA w _;have hR1:(w.alloc (.mapIter (some bm) cl #[] cl)).heap[w.heap.size]? = some (.mapIter (some bm) cl #[] cl):=(MapKept.heap_alloc w _).1;have hM1:(w.alloc (.mapIter (some bm) cl #[] cl)).heap[bm]? = some (.map es cl):=((MapKept.heap_alloc w _).2 bm hbmD).trans hblk;have HJ1:=Lib.hid (pr.lB HJ.out hW1 (X':=fun b=>b=w.heap.size) (fun b hb=>by subst hb;exact ⟨by simp, .inr (SY _)⟩))
 have hz1:(w.alloc (.mapIter (some bm) cl #[] cl)).heap.size=w.heap.size+1:=by simp
 generalize hw1:w.alloc (.mapIter (some bm) cl #[] cl)=w1 at *;clear hw1 hW1 HJ hld
 go_frame
 gi_loopw [3] (fun _ wr=> ∃(seen:Array Nat) (c0:Nat) (T:Nat->Prop),wr.heap[w.heap.size]? = some (.mapIter (some bm) cl seen c0)∧wr.heap[bm]? = some (.map es cl)∧cl<=c0∧T w.heap.size∧pr.J ((cy (l.zip es.toList) seen).map fun p=>[AV.agg (aN p.1.1)]) (fun b=>b=w.heap.size) T wr)
  (fun _ wr=>match wr.heap[w.heap.size]? with|some (.mapIter _ _ seen _)=>(leftOf es seen).size|_=>0)
 case atStart=>
  exact ⟨#[],cl,_,hR1,hM1,SY _, .inr ⟨SY _,by omega⟩,HJ1.out⟩
 case round=>
  obtain ⟨seen,c0,T,hr,hb,hc,hT,hj⟩:=hrel;have HJR:=Lib.hid hj;clear hj HJ1
  gi_wp2_with (refine w9 rfl _ rfl _ bm cl c0 seen es cl rfl hr hb hborn hc ?_ ?_)
  ·intro h0
   gi_wp2_with (refine kn rfl _ _ _ _ rfl rfl rfl ?_)
   go_end0
   have hnil:cy (l.zip es.toList) seen=[]:=CY fun p hp=>all_seen es seen h0 p.2 (List.of_mem_zip hp).2;have hje:=HJR.out;rw [hnil,List.map_nil] at hje;exact ⟨⟨_,rfl⟩,_,_, .inl hje⟩
  ·intro e w2 he hw2;obtain ⟨hee,hes⟩:=mem_left he;obtain ⟨i,hi,hie⟩:=Vh hee
   have hil:i<l.length:=by omega
   have hpz:(l[i],e)∈l.zip es.toList:=by
    refine List.mem_iff_getElem.2 ⟨i,by simp;omega, ?_⟩;rw [List.getElem_zip,hie]
   have hk:=hkey _ hpz
   have hs2:w2.heap.size=wr.heap.size:=by rcases hw2 with rfl|rfl<;>simp [setBlock]
   have hrs:w.heap.size<wr.heap.size:=(S5.1 hr).1
   have hr2:w2.heap[w.heap.size]? = some (.mapIter (some bm) cl (seen.push e.born) cl):=by
    rcases hw2 with rfl|rfl<;>simp [setBlock,hrs]
   have hb2:w2.heap[bm]? = some (.map es cl):=by
    have hne:w.heap.size≠bm:=by omega
    rcases hw2 with rfl|rfl<;>(show (wr.heap.setIfInBounds _ _)[bm]? = _;rw [Vg hne];exact hb)
   have ha2:yF (fun b=>b=w.heap.size) wr w2:=by
    rcases hw2 with rfl|rfl
    ·exact AJ _ _ rfl
    ·exact (El wr).trans (AJ _ _ rfl)
   have hrun:=run_entry_at (P:=Tryz.prog) w2 w.heap.size bm cl seen es cl e hr2 hb2 hee hrise;have hj1:=HP.out _ _ _ _ _ ((qM hzn hpz hes).map fun p=>[AV.agg (aN p.1.1)]) HJR.out;rw [Vd] at hj1;have hlt:=left_shrinks es seen e he;have HJ2:=Lib.hid hj1;have HA2:=Lib.hid ha2;have HS2:=Lib.hid hs2;have HR2:=Lib.hid hr2;have HB2:=Lib.hid hb2;clear hj1 ha2 hw2 he HJR hs2 hr2 hb2;rw [hk] at hrun ⊢;simp only [Ft] at hrun ⊢;generalize l[i].1=k at *
   have iE:(Tryz.prog.info? 74).map (·.size)=some 2:=by kernel_rfl
   gi_wp2_with (first|refine uG rfl _ [.v (.string ⟨#[]⟩), .v (.string ⟨#[]⟩)] rfl (by kernel_rfl) ?_|refine mK rfl _ _ _ rfl _ _ _ rfl rfl iE (by simpa using ‹Array.size _=_›) rfl rfl rfl ?_|refine uH rfl _ rfl _ _ rfl hrun ?_|refine kn rfl _ _ _ _ rfl rfl rfl ?_)
   intro zc hzc;refine mK rfl _ _ _ rfl w2 zc #[.string k.1, .string k.2] rfl rfl iE hzc (by simp [Value.oneCell']) rfl rfl ?_;have uE: ∃fs,Tryz.prog.underlying 74=some (.struct fs):=xW;obtain ⟨fs,uE⟩:=uE;have hB3:(w2.alloc (.cells #[.string k.1, .string k.2] 74)).heap[w2.heap.size]? = some (.cells #[.string k.1, .string k.2] 74):=(MapKept.heap_alloc w2 _).1
   have hl3:(Instr.loadAt 74 (.pointer (some ⟨w2.heap.size,0,none⟩))).run Tryz.prog (w2.alloc (.cells #[.string k.1, .string k.2] 74)) = .ok (.agg #[.string k.1, .string k.2]) (w2.alloc (.cells #[.string k.1, .string k.2] 74)):=by
    simp only [Instr.loadAt,Instr.sureAddr,Sem.run_bind,Sem.run_pure,Result.andThen];exact run_loadVar_row _ _ _ _ _ _ _ hB3 uE rfl iE
   obtain ⟨hA3,hR3,hM3,hz3⟩:yF (fun b=>b=w.heap.size) wr (w2.alloc (.cells #[.string k.1, .string k.2] 74))∧(w2.alloc (.cells #[.string k.1, .string k.2] 74)).heap[w.heap.size]? = some (.mapIter (some bm) cl (seen.push e.born) cl)∧(w2.alloc (.cells #[.string k.1, .string k.2] 74)).heap[bm]? = some (.map es cl)∧wr.heap.size<(w2.alloc (.cells #[.string k.1, .string k.2] 74)).heap.size:=by
    have:=HS2.out
    exact ⟨HA2.out.trans (sA _ _),((MapKept.heap_alloc _ _).2 _ (by omega)).trans HR2.out,((MapKept.heap_alloc _ _).2 _ (by omega)).trans HB2.out,by simp;omega⟩
   generalize w2.alloc (.cells #[.string k.1, .string k.2] 74)=w3 at *;have hj3:=pr.lB HJ2.out hA3 (X':=fun b=>b=w.heap.size) (fun b hb=>by subst hb;exact ⟨by omega, .inl rfl⟩)
   obtain ⟨fn,tmps,assign,body,hy,hR⟩:=pr.round (x:=[.agg (aN k)]) (D:=fun _=>False) (nu:=nu) (vals:= #[.agg #[.string k.1, .string k.2]]) hj3 ⟨rfl,fun i c x h1 h2=>by
    match i,h1,h2 with
    | 0,h1,h2=>cases h1;cases h2;exact .agg _ _ rfl (fun j c x q1 q2=>by
     match j,q1,q2 with
     | 0,q1,q2=>cases q1;cases q2;exact .v _
     | 1,q1,q2=>cases q1;cases q2;exact .v _
     | j+2,q1,q2=>simp [aN] at q1) (fun j x q=>by
     match j,q with
     | 0,q=>cases q;rfl
     | 1,q=>cases q;rfl
     | j+2,q=>simp at q)
    | i+1,h1,h2=>simp at h1⟩ rfl (fun b _ h=>h.elim)
   have HR:=Lib.hid hR;have HR3:=Lib.hid hR3;have HRR:=Lib.hid hr;have HM3:=Lib.hid hM3;have HZ3:=Lib.hid hz3;clear hR hR3 hM3 hz3 hj3 hA3 hB3 hr hb HA2 HB2 HR2 HS2 HJ2 hrun
   gi_wp2_with (refine oU rfl _ _ _ rfl hl3 ?_)
   refine HR.out.mono ?_
   rintro e2 w4 ⟨hk4,⟨rfl,hj4⟩|⟨rfl,hj4⟩⟩
   ·have HJ4:=Lib.hid hj4;have HK4:=Lib.hid hk4;clear hj4 hk4 hy
    gi_wp2_with fail
    go_roundw
    case rel=>
     have hk4:=HK4.out
     have:=HZ3.out
     refine ⟨seen.push e.born,cl,_,(hk4.same _ (by omega) (.inl (.inl hT))).trans HR3.out,(hk4.same _ (by omega) (.inr HST.out)).trans HM3.out,SY _, .inl hT,HJ4.out⟩
    case measure=>
     have hk4:=HK4.out
     have:=HZ3.out
     rw [HRR.out,(hk4.same _ (by omega) (.inl (.inl hT))).trans HR3.out];exact hlt
   ·have HJ4:=Lib.hid hj4;clear hj4 hk4 hy
    gi_wp2_with fail
    refine bodyPost_ret (results_none rfl _ _ _) rfl ?_;exact ⟨⟨_,rfl⟩,_,_, .inr HJ4.out⟩
mutual
theorem ve {f:Nat->Nat} {m:Nat} (hf: ∀k,k<m->f k=k): ∀a:AV,a.wf m=true->a.aO f=a
 | .undef,_=>rfl
 | .v _,_=>rfl
 | .agg cs,h=>by rw [AV.aO,iq hf cs h]
 | .ct cs,h=>by rw [AV.aO,iq hf cs h]
 | .aI z rows len,h=>by rw [AV.aO,pM hf rows h]
 | .vp cs,h=>by rw [AV.aO,iq hf cs h]
 | .ptr id _ _ _ _,h=>by simp [AV.wf] at h;rw [AV.aO,hf id h]
 | .vec id _,h=>by simp [AV.wf] at h;rw [AV.aO,hf id h]
 | .fn g a b,h=>by
  simp only [AV.wf,TY] at h;rw [AV.aO,iq hf a h.1,iq hf b h.2]
 | .full a,h=>by rw [AV.aO,ve hf a h]
 | .fp p a,h=>by rw [AV.aO,ve hf a h]
 | .mp rows,h=>by rw [AV.aO,pM hf rows h]
theorem iq {f:Nat->Nat} {m:Nat} (hf: ∀k,k<m->f k=k): ∀l:List AV,ba m l=true->bo f l=l
 | [],_=>rfl
 | a :: l,h=>by
  simp only [ba,TY] at h;rw [bo,ve hf a h.1,iq hf l h.2]
theorem pM {f:Nat->Nat} {m:Nat} (hf: ∀k,k<m->f k=k): ∀l:List (List AV),bQ m l=true->bI f l=l
 | [],_=>rfl
 | a :: l,h=>by
  simp only [bQ,TY] at h;rw [bI,iq hf a h.1,pM hf l h.2]
end
theorem uX {f:Nat->Nat} {m:Nat} (hf: ∀k,k<m->f k=k): ∀l:List (Option aa),(∀ob,some ob∈l->bQ m ob.rows=true)->l.map (Option.map (aa.aO f))=l
 | [],_=>rfl
 | none :: l,h=>by rw [Vd,uX hf l (fun ob hb=>h ob (T8 _ hb))];rfl
 | some ob :: l,h=>by
  rw [Vd,uX hf l (fun ob hb=>h ob (T8 _ hb)),Option.map_some,aa.aO,pM hf _ (h ob List.mem_cons_self)]
theorem xF (f:Nat->Nat): ∀(l X pre post:List (Option aa)),l.length=X.length->dE f (List.range' pre.length l.length) l (pre++X++post)=pre++l.map (Option.map (aa.aO f))++post
 | [],[],pre,post,_=>by simp [dE]
 | [],_ :: _,_,_,h=>by simp at h
 | _ :: _,[],_,_,h=>by simp at h
 | a :: l,b :: X,pre,post,h=>by
  rw [List.length_cons,List.range'_succ,dE]
  have e1:(pre++b :: X++post).set pre.length (a.map (aa.aO f))=(pre++[a.map (aa.aO f)])++X++post:=by
   rw [List.append_assoc,List.set_append_right _ _ (SY _),Nat.sub_self,List.cons_append,List.set_cons_zero];simp
  rw [e1]
  have:=xF f l X (pre++[a.map (aa.aO f)]) post (by simpa using h)
  rw [List.length_append,List.length_singleton] at this;rw [this];simp
theorem ab.sub {P:Program} {f:FuncId} {args:List AV} {o0 o1 post:List (Option aa)} {r0:AV} {K:AV->List (Option aa)->Prop} (h:aR P f args o0 r0 o1) (hl:o1.length=o0.length)
  (hwa:ba o0.length args=true) (hw0: ∀ob,some ob∈o0->bQ o0.length ob.rows=true) (hw1: ∀ob,some ob∈o1->bQ o0.length ob.rows=true) (hr:r0.wf o0.length=true) (k:K r0 (o1++post)):ab P f args (o0++post) K:=by
 have hs: ∀j,j<o0.length->sig (List.range' 0 o0.length) (o0++post).length j=j:=fun j hj=>by
  rw [sig,if_pos (by simpa using hj),List.getD_eq_getElem?_getD,List.getElem?_range' hj];simp
 refine ab.fr (List.range' 0 o0.length) h List.nodup_range' ?_ (iq hs _ hwa).symm (by rw [List.length_range'];exact hwa) (fun j ob hj=>by rw [List.length_range'];exact hw0 ob (List.mem_of_getElem? hj)) ?_
 ·have e:o0.map (fun x=>some (x.map (aa.aO (sig (List.range' 0 o0.length) (o0++post).length))))=o0.map some:=by
   have h1:o0.map some=(o0.map (Option.map (aa.aO (sig (List.range' 0 o0.length) (o0++post).length)))).map some:=by rw [uX hs o0 hw0]
   rw [h1,List.map_map];rfl
  rw [e];refine List.ext_getElem (by simp) fun j h1 h2=> ?_
  have hj:j<o0.length:=by simpa using h2
  simp only [List.getElem_map,List.getElem_range',Nat.zero_add,Nat.one_mul];rw [List.getElem?_append_left hj,Tn hj]
 ·have e:=xF (sig (List.range' 0 o0.length) (o0++post).length) o1 o0 [] post hl;rw [List.length_nil,hl,UQ,UQ] at e;rw [e,ve hs r0 hr,uX hs o1 hw1];exact k
section
variable {D:Nat->Prop} {nu:Nat->Nat->Value} {o:List (Option aa)} {w:World} {P:Program}
theorem kH {s:AS} {k i j id len:Nat} {ob ob2:aa} {row:List AV} (hne:id≠k) (hk:s.o[k]? = some (some ob)) (hz:0<ob.z) (hr:ob.rows[i]? = some row) (hj:row[j]? = some (.vec id len)) (ho:s.o[id]? = some (some ob2)) (hv:ob2.dj=true) (hl:ob2.rows.length=len) :
  yK s (AS.mk s.t ((s.o.set id none).set k (some { ob with rows:=ob.rows.set i (row.set j (.aI ob2.z ob2.rows len)) })) s.y):=by
 intro f D nu a w hs;have hp:=c6 (nu:=nu) (o:=s.o) (w:=w) id;have hro:=kW hs.ro id
 have hk':(s.o.set id none)[k]? = some (some ob):=by rw [Tv hne];exact hk
 have hh:ob.hl=({ ob with rows:=ob.rows.set i (row.set j (.aI ob2.z ob2.rows len)) }:aa).hl:=by simp [aa.hl]
 obtain ⟨g,cur,hb⟩: ∃g cur,vH D nu (s.o.set id none) w k ob g cur:=by
  rcases hro.obj k ob hk' with ⟨_,e,_⟩|h|⟨g,es,cl,hm⟩
  ·rw [e] at hr;simp at hr
  ·exact h
  ·have:=hm.z;omega
 have hm:=gO (nu:=nu) (o:=s.o.set id none) (w:=w) (w':=w) (ob':={ ob with rows:=ob.rows.set i (row.set j (.aI ob2.z ob2.rows len)) }) hk' hh.symm hb.bn rfl rfl rfl rfl (fun _ _=>rfl);refine ⟨nu,hp.trans hm,rfl, ?_,(hs.tm.mono hp (fun _ _ h=>h)).mono hm (fun _ _ h=>h),hs.ig⟩;have hil:=(S7.1 hr).1;have hjl:=(S7.1 hj).1;have hsl:=ln hs.ro ho hv;rw [hl] at hsl
 have key: ∀(i' j':Nat) r c,(ob.rows.set i (row.set j (.aI ob2.z ob2.rows len)))[i']? = some r->r[j']? = some c-> ∃r0 c0,ob.rows[i']? = some r0∧r0[j']? = some c0∧(c=c0∨(c = .aI ob2.z ob2.rows len∧c0 = .vec id len)):=by
  intro i' j' r c h1 h2
  by_cases hi:i=i'
  ·subst hi;rw [Tw hil] at h1;cases h1
   by_cases hj':j=j'
   ·subst hj';rw [Tw hjl] at h2;cases h2;exact ⟨row,_,hr,hj, .inr ⟨rfl,rfl⟩⟩
   ·rw [Tv hj'] at h2;exact ⟨row,c,hr,h2, .inl rfl⟩
  ·rw [Tv hi] at h1;exact ⟨r,c,h1,h2, .inl rfl⟩
 refine ox hro hk' hh.symm hb.bn hm (fun _ _=>rfl) (cur:=cur) ⟨hb.cZ,hb.j9,fun hv'=> ?_,fun hv'=> ?_,hb.z,fun i' r hi'=> ?_,fun i' j' r c x h1 h2 h3=> ?_,fun i' j' r c x h1 h2 h3=> ?_⟩
 ·obtain ⟨q1,q2,q3⟩:=hb.box hv';exact ⟨q1,by simpa using q2,q3⟩
 ·obtain ⟨cap,q1,q2,q3,q4⟩:=hb.vec hv';exact ⟨cap,by simpa using q1,by simpa using q2,q3,q4⟩
 ·by_cases hi:i=i'
  ·subst hi;rw [Tw hil] at hi';cases hi';rw [List.length_set];exact hb.row i row hr
  ·rw [Tv hi] at hi';exact hb.row i' r hi'
 ·obtain ⟨r0,c0,k1,k2,e⟩:=key i' j' r c h1 h2;have h0:=hb.cell i' j' r0 c0 x k1 k2 h3
  rcases e with rfl|⟨rfl,rfl⟩
  ·exact h0.mono hm (fun _ _ h=>h)
  ·have hx:x=nu id len:=by
    cases h0 with
    | vec=>rfl
   rw [hx];exact hsl.mono hm (fun _ _ h=>h)
 ·obtain ⟨r0,c0,k1,k2,_⟩:=key i' j' r c h1 h2;exact hb.one i' j' r0 c0 x k1 k2 h3
end
section
variable {o:List (Option aa)}
end
def Ns (N:Nat) (g:Nat->Bool):List (List AV):=(List.range N).map (fun j=>[.v (.bool (g j))])
def Qg (N:Nat) (f:Nat->Nat->Bool):List (List AV):=(List.range N).map (fun i=>[.aI 1 (Ns N (f i)) N])
def SB (k i:Nat):Nat:=k+1+2 * i
def u4 (k N m:Nat):List (List AV):=(List.range m).map (fun i=>[.vec (SB k i) N])
def Qk (N:Nat) (g:Nat->Bool):Option aa:=some ⟨4,1,true,Ns N g⟩
def M4 (N:Nat) (f:Nat->Nat->Bool) (m:Nat):List (Option aa):=(List.range m).flatMap (fun i=>[Qk N (f i),none])
def Sq (k N m:Nat) (f:Nat->Nat->Bool):List (Option aa):=some ⟨121,1,true,u4 k N m⟩ :: M4 N f m
theorem Jw (N:Nat) (g:Nat->Bool):(Ns N g).length=N:=by simp [Ns]
theorem I9 (N:Nat) (f:Nat->Nat->Bool):(Qg N f).length=N:=by simp [Qg]
theorem xw (k N m:Nat):(u4 k N m).length=m:=by simp [u4]
def SL (f:Nat->Nat->Bool) (i j:Nat) (v:Bool):Nat->Nat->Bool:=fun p q=>if p=i∧q=j then v else f p q
theorem G2 (n N:Nat) (g:Nat->Bool):bQ n (Ns N g)=true:=bg _ (fun _=>rfl) _
theorem LP (n N:Nat) (f:Nat->Nat->Bool):bQ n (Qg N f)=true:=bg _ (fun i=>by simp only [ba,AV.wf,G2,Bool.and_self]) _
attribute [go_sem] G2 LP Jw I9 xw
section
variable {o:List (Option aa)} {P:Program}
theorem cj.v (x:Value):cj o (.v x) (.v x):=fun D nu w y hro hra=>by rw [hra.bZ];exact .v x
theorem cj.ct {l m:List AV} (h:rR o l m):cj o (.ct l) (.ct m):=fun D nu w x hro hra=>by
 obtain ⟨h1,h2⟩:=h.at'
 cases hra with
 | ct _ xs k1 k2=>
  refine .ct _ _ (by omega) fun i c y q1 q2=> ?_
  have hi:i<l.length:=by rw [h1];exact (S7.1 q1).1
  exact h2 i _ c (Tn hi) q1 D nu w y hro (k2 i _ y (Tn hi) q2)
theorem cj.ptr {id z:Nat} {ob:aa} {row cs:List AV} (ho:o[id]? = some (some ob)) (hv:ob.dj=false) (hr:ob.rows=[row]) (hz:ob.z≠0) (h:rR o row cs):cj o (.ptr id 0 z 0 0) (.vp cs):=fun D nu w x hro hra=>by
 obtain ⟨hl,hall⟩:=h.at'
 cases hra with
 | ptr _ _ _ _ _ b h1 h2=>
 rcases hro.obj id ob ho with ⟨e1,e2,e3⟩|⟨g,cur,hb⟩|⟨g,es,cl,hmp⟩
 ·rw [e2] at hr;cases hr
 ·have hb0:=hb.mz;rw [aa.hl,hv,if_neg (by decide)] at hb0;rw [hb0] at h2;cases h2
  have hrow:ob.rows[0]? = some row:=by rw [hr];rfl
  have hget: ∀(j:Nat) c,cs[j]? = some c-> ∃c0,row[j]? = some c0∧cur[0 * ob.z+j]? = some (cur.getD (0 * ob.z+j) Go.undef):=fun j c hc=>by
   have hj:j<row.length:=by rw [hl];exact (S7.1 hc).1
   have:=hb.oN hrow hj
   refine ⟨_,Tn hj, ?_⟩;rw [Tm this,Array.getD,dif_pos this]
   rfl
  refine .vp _ b _ (fun j=>cur.getD (0 * ob.z+j) Go.undef) ⟨(S5.1 hb.cZ).1,bb _ _,hb.j9⟩ (fun j c hc=> ?_) (fun j c hc=> ?_) (fun j c hc=> ?_)
  all_goals obtain ⟨c0,k1,k2⟩:=hget j c hc
  ·have hblk:=hb.cZ;simp only [Nat.zero_mul,Nat.zero_add] at k2 ⊢;rw [<-k2];simp [World.cell?,hblk]
  ·exact hall j c0 c k1 hc D nu w _ hro (hb.cell 0 j row c0 _ hrow k1 k2)
  ·exact hb.one 0 j row c0 _ hrow k1 k2
 ·exact absurd hmp.z hz
theorem af.nL {f:FuncId} {fn:Func} {c:Code} {args:List AV} {r:AV} (hf:P.funcs[f]? = some fn) (hb:fn.body=some c) (hc:df P f=true) (hok:a8 c=true) (hmx:P.follows .mixedOrders=true)
  (ha:ba 0 args=true) (hr:r.wf 0=true) (h:bK P 0 c ⟨args++List.replicate (fn.ntmps - args.length) .undef,[], .no⟩ (vO P fn.results.toList (fun r0 o=>cj o r0 r))):af P f args r:=by
 obtain ⟨_,h2⟩:=ea.enter (o:=[]) hf hb hc hok hmx h;refine ⟨⟨ha,hr⟩,hc,fun D nu w vargs hro hra=>(h2 D nu w vargs hro hra).mono ?_⟩;rintro e w' ⟨v,nu',o',r0,rfl,hm,hro',hra',hz⟩;have hm':bl nu [] w nu' [] w':=⟨hm.os,hm.tape,hm.output,hm.size,fun id len hh=>by obtain ⟨x,k,_⟩:=hh;simp at k,fun b hb ho=>⟨(hm.keep b hb ho).1,bb _ _⟩⟩;exact ⟨v,nu',[],r,rfl,hm',(.nil _ _ _ hro'.up (hro'.gl.nil (fun _ _ h=>h))),hz _ _ _ _ hro' hra',rfl,rfl⟩
end
mutual
theorem Aa {f g:Nat->Nat} {m:Nat} (hf: ∀k,k<m->f k=g k): ∀a:AV,a.wf m=true->a.aO f=a.aO g
 | .undef,_=>rfl
 | .v _,_=>rfl
 | .agg cs,h=>by rw [AV.aO,AV.aO,jD hf cs h]
 | .ct cs,h=>by rw [AV.aO,AV.aO,jD hf cs h]
 | .aI z rows len,h=>by rw [AV.aO,AV.aO,vc hf rows h]
 | .vp cs,h=>by rw [AV.aO,AV.aO,jD hf cs h]
 | .ptr id _ _ _ _,h=>by simp [AV.wf] at h;rw [AV.aO,AV.aO,hf id h]
 | .vec id _,h=>by simp [AV.wf] at h;rw [AV.aO,AV.aO,hf id h]
 | .fn g a b,h=>by
  simp only [AV.wf,TY] at h;rw [AV.aO,AV.aO,jD hf a h.1,jD hf b h.2]
 | .full a,h=>by rw [AV.aO,AV.aO,Aa hf a h]
 | .fp p a,h=>by rw [AV.aO,AV.aO,Aa hf a h]
 | .mp rows,h=>by rw [AV.aO,AV.aO,vc hf rows h]
theorem jD {f g:Nat->Nat} {m:Nat} (hf: ∀k,k<m->f k=g k): ∀l:List AV,ba m l=true->bo f l=bo g l
 | [],_=>rfl
 | a :: l,h=>by
  simp only [ba,TY] at h;rw [bo,bo,Aa hf a h.1,jD hf l h.2]
theorem vc {f g:Nat->Nat} {m:Nat} (hf: ∀k,k<m->f k=g k): ∀l:List (List AV),bQ m l=true->bI f l=bI g l
 | [],_=>rfl
 | a :: l,h=>by
  simp only [bQ,TY] at h;rw [bI,bI,jD hf a h.1,vc hf l h.2]
end
theorem cj.Qp {o:List (Option aa)} {z len:Nat} {rows:List (List AV)} (h:bQ 0 rows=true):cj o (.aI z rows len) (.aI z rows len):=cj.of 1 (p:=(AV.aI z rows len).wf 0=true) (by rw [fJ]<;>simp) (by rw [AV.wf];exact h)
theorem cj.LO {o:List (Option aa)} {id len:Nat} {ob:aa} (ho:o[id]? = some (some ob)) (hv:ob.dj=true) (hl:ob.rows.length=len) (hw:bQ 0 ob.rows=true):cj o (.vec id len) (.aI ob.z ob.rows len):=cj.of 1 (p:=ob.dj=true∧ob.rows.length=len∧bQ 0 ob.rows=true) (by rw [fJ,ho]) ⟨hv,hl,hw⟩
end
section
theorem yY {P:Program} {n0:Nat} {Q:aJ->AS->Prop} {t:List AV} {o:List (Option aa)} {y:iz} {g:Operand} {ps:Array Tmp} {assign body:Code} {gf:FuncId} {caps:List AV} {L:List (List AV)} (hseq:yJ true P gf caps [] L) (m:Nat) (O:List (List AV)->List (Option aa)) (ok:List (List AV)->Prop) (h0:ok [])
  (hg:(AS.mk t o y).ev g = .fn gf [] caps) (hcaps:ba 0 caps=true) (hwk:Wk n0 ⟨t,o,y⟩ ⟨bX m t,O [],y⟩) (hA:a8 assign=true) (hB:a8 body=true) (har: ∀x,x∈L->x.length=ps.size)
  (hround: ∀vis x rest,ok vis->(vis++x :: rest).Perm L->bK P (O []).length assign ⟨dY ps.toList x (bX m t),O vis,y⟩ (jb P (O []).length body (jJ (O []).length (bX m t) (ok (vis++[x])) (O (vis++[x])) y Q)))
  (hfin: ∀vis,vis.Perm L->ok vis->Q .normal ⟨bX m t,O vis,y⟩):bK P n0 (.rangeFunc g ps assign body) ⟨t,o,y⟩ Q:=
 yX hseq O ok h0 (bX m t) hg hcaps hwk hA hB har hround hfin
def LN:List AV->List AV
 | [.agg r]=>r
 | _=>[]
def dt (ks:List K2):List (List AV):=ks.map fun k=>[.agg (aN k)]
theorem Dk {ks:List K2} {vis:List (List AV)} (h:vis.Perm (dt ks)): ∃ks':List K2,ks'.Perm ks∧vis=dt ks':=by
 have key: ∀(a b:List (List AV)),a.Perm b-> ∀ks,b=dt ks-> ∃ks':List K2,ks'.Perm ks∧a=dt ks':=by
  intro a b h
  induction h with
  | nil=>exact fun ks e=>⟨ks, .refl _,e⟩
  | cons x _ ih=>
   intro ks e
   cases ks with
   | nil=>simp [dt] at e
   | cons k ks=>
    simp only [dt,Vd,Vi] at e;obtain ⟨ks',h1,h2⟩:=ih ks e.2;exact ⟨k :: ks',h1.cons k,by rw [e.1,h2];rfl⟩
  | swap x y l=>
   intro ks e
   match ks,e with
   | [],e=>simp [dt] at e
   | [k],e=>simp [dt] at e
   | k :: k' :: ks,e=>
    simp only [dt,Vd,Vi] at e;exact ⟨k' :: k :: ks, .swap _ _ _,by rw [e.1,e.2.1,e.2.2];rfl⟩
  | trans _ _ ih1 ih2=>
   intro ks e;obtain ⟨k1,h1,h2⟩:=ih2 ks e;obtain ⟨k2,h3,h4⟩:=ih1 k1 h2;exact ⟨k2,h3.trans h1,h4⟩
 exact key _ _ h ks rfl
theorem nj (n:Nat) (l:List K2):bQ n (l.map aN)=true:=bg _ (fun _=>rfl) l
attribute [go_sem] nj
theorem K0 (l:List (K2×Int)):af Tryz.prog 64 [.mp (bq aN l)] (.fn 99 [] [.vp [.mp (bq aN l)]]):=by
 have eW: ∀n,bQ n (bq aN l)=true:=fun n=>fh (fun _=>rfl) l
 have hA:ba 0 [.mp (bq aN l)]=true:=by simp only [ba,AV.wf,eW,Um]
 have hF:(AV.fn 99 [] [.vp [.mp (bq aN l)]]).wf 0=true:=by simp only [ba,AV.wf,eW,Um]
 (refine af.nL Tryz.func64 rfl (by kernel_rfl) (by kernel_rfl) rfl hA hF ?_;simp only [Tryz.ntmps64,Tryz.results64,Tc,S6,Nat.reduceAdd,Nat.reduceSub,UN,UO,UP,UQ])
 repeat (first|(with_reducible first|refine ag.up ?_|refine fun (K:AK) hK=> ?_|(refine hK _ ?_;clear hK K))|simp only [go_sem]|clear hK K)
 refine cj.of 6 rfl ?_;simp only [aa.hl,AV.wf,ba,eW,Um,Bool.and_self];simp
def Mx (ks:List K2) (r:AV) (o:List (Option aa)):Prop:= ∃vis:List K2,vis.Perm ks∧r = .vec 1 vis.length∧o=[some ⟨129,1,false,[[.vec 1 vis.length]]⟩,some ⟨74,2,true,vis.map aN⟩]
theorem uo {gf:FuncId} {caps:List AV} (ks:List K2) (hl:ks.length<=1000000) (hs:yJ true Tryz.prog gf caps [] (dt ks)) (hw:ba 0 caps=true) :
  ea Tryz.prog 133 [.v (.slice none 0 0), .fn gf [] caps] [] (Mx ks):=by
 refine ea.enter Tryz.func133 rfl (by kernel_rfl) (by kernel_rfl) rfl ?_;simp only [Tryz.ntmps133,Tryz.results133,Tc,S6,Nat.reduceAdd,Nat.reduceSub,UN,UO,UP,UQ]
 repeat (first|(with_reducible first|refine ag.up ?_|refine fun (K:AK) hK=> ?_|(refine hK _ ?_;clear hK K))|simp only [go_sem]|with_reducible refine wA ?_|clear hK K)
 refine nH (eJ (k:=0) (i:=0) (j:=0) 74 2 (by decide) rfl (Nat.zero_lt_succ _) rfl rfl) (by kernel_rfl) ?_;simp only [Tc,S6,Nat.reduceAdd,UP,UQ,UK]
 refine yY hs 5 (fun vis=>[some ⟨129,1,false,[[.vec 1 vis.length]]⟩,some ⟨74,2,true,vis.map LN⟩]) (fun vis=> ∃ks',vis=dt ks'∧ks'.length<=1000000) ⟨[],rfl,by simp⟩ ?_ ?_ ?_ (by kernel_rfl) (by kernel_rfl) ?_ ?_ ?_
 ·repeat (first|(with_reducible first|refine ag.up ?_|refine fun (K:AK) hK=> ?_|(refine hK _ ?_;clear hK K))|simp only [go_sem]|with_reducible refine wA ?_|clear hK K)
 ·exact hw
 ·(refine aq ?_ ?_ ?_<;>simp only [aG,List.foldl_cons,List.foldl_nil,UN,UO,bd,bj,AV.v.injEq,Value.int.injEq,Value.bool.injEq,Value.string.injEq,AV.vec.injEq,AV.ptr.injEq,true_or,or_true,false_or,or_false,aa.mk.injEq,forall_eq_apply_imp_iff,forall_eq,forall_eq',go_sem])
  all_goals first|exact jH (by omega) _ hw|exact ⟨rfl,rfl⟩
 ·intro x hx;obtain ⟨o,_,rfl⟩:=List.mem_map.1 hx
  rfl
 ·rintro vis x rest ⟨ks',rfl,hk'⟩ hp;have hx:x∈dt ks:=hp.mem_iff.1 (List.mem_append_right _ List.mem_cons_self);obtain ⟨k,_,rfl⟩:=List.mem_map.1 hx
  have hlen:ks'.length+1<=ks.length:=by
   have:=hp.length_eq
   simp only [dt,List.length_append,List.length_map,Tc] at this;omega
  have e1:(dt ks').length=ks'.length:=by simp [dt]
  have e2:(dt ks').map LN=ks'.map aN:=by simp [dt,LN]
  have e3:dt ks'++[[.agg (aN k)]]=dt (ks'++[k]):=by simp [dt]
  have e4:(dt (ks'++[k])).length=ks'.length+1:=by simp [dt]
  have e5:(dt (ks'++[k])).map LN=ks'.map aN++[[.v (.string k.1), .v (.string k.2)]]:=by simp [dt,LN,aN]
  have hw2:ba 2 caps=true:=jH (by omega) _ hw
  have eL:(ks'.map aN).length=ks'.length:=by simp
  rw [e1,e2,e3,e4,e5];have hok: ∃ks'',dt (ks'++[k])=dt ks''∧ks''.length<=1000000:=⟨ks'++[k],rfl,by simp;omega⟩;have hW:=nj 2 (ks'++[k]);rw [List.map_append] at hW;simp only [aN,Vd,List.map_nil] at hW;simp only [aN]
  repeat (first|(with_reducible first|refine ag.up ?_|refine fun (K:AK) hK=> ?_|(refine hK _ ?_;clear hK K))|simp only [go_sem,eL]|with_reducible refine wA ?_|clear hK K)
  (refine aq ?_ ?_ ?_<;>simp only [aG,List.foldl_cons,List.foldl_nil,UN,UO,bd,bj,AV.v.injEq,Value.int.injEq,Value.bool.injEq,Value.string.injEq,AV.vec.injEq,AV.ptr.injEq,true_or,or_true,false_or,or_false,aa.mk.injEq,forall_eq_apply_imp_iff,forall_eq,forall_eq',go_sem])
  all_goals first|exact hw2|exact hW|exact ⟨rfl,hW⟩|trace_state
 ·rintro vis hp ⟨ks',rfl,hk'⟩;obtain ⟨k2,h1,h2⟩:=Dk hp
  have h3:ks'.length=k2.length:=by simpa [dt] using congrArg List.length h2
  have h4:(dt ks').map LN=k2.map aN:=by rw [h2];simp [dt,LN]
  have e1:(dt ks').length=k2.length:=by rw [h2];simp [dt]
  rw [e1,h4]
  repeat (first|(with_reducible first|refine ag.up ?_|refine fun (K:AK) hK=> ?_|(refine hK _ ?_;clear hK K))|simp only [go_sem]|with_reducible refine wA ?_|clear hK K)
  exact ⟨k2,h1,rfl,rfl⟩
theorem zb {gf:FuncId} {caps:List AV} (ks:List K2) (hl:ks.length<=1000000) (hs:yJ true Tryz.prog gf caps [] (dt ks)) (hw:ba 0 caps=true) :
  ea Tryz.prog 97 [.fn gf [] caps] [] (Mx ks):=by
 have C:=uo ks hl hs hw;refine ea.enter Tryz.func97 rfl (by kernel_rfl) (by kernel_rfl) rfl ?_;simp only [Tryz.ntmps97,Tryz.results97,Tc,S6,Nat.reduceAdd,Nat.reduceSub,UN,UO,UP,UQ]
 repeat (first|(with_reducible first|refine ag.up ?_|refine fun (K:AK) hK=> ?_|(refine hK _ ?_;clear hK K))|simp only [go_sem]|with_reducible refine wA ?_|clear hK K)
 refine ab.two C ?_;rintro r o' ⟨vis,hp,rfl,rfl⟩
 repeat (first|(with_reducible first|refine ag.up ?_|refine fun (K:AK) hK=> ?_|(refine hK _ ?_;clear hK K))|simp only [go_sem]|with_reducible refine wA ?_|clear hK K)
 exact ⟨vis,hp,rfl,rfl⟩
open Go.RowKit Go.Sort
theorem zM (x:ByteArray) (w:World):Calls Tryz.prog 96 #[.string x] w fun e w'=>e = .returned (.bool false)∧w'=w:=by
 go_enter Tryz.func96,Tryz.ntmps96
 go_wp2_with fail
 go_ret
 exact ⟨by simp,rfl⟩
theorem EN (a b:ByteArray) (w:World):Calls Tryz.prog 62 #[.string a, .string b] w fun e w'=>e = .returned (.int .i64 (iB a b))∧w'=w:=by
 have hT:=IY a b;unfold iB
 cases e1:C7 a b
 ·rw [e1] at hT;have e0:Op.bytesLess a.toList b.toList=false:=e1;simp only [Bool.false_or] at hT
  cases e2:C7 b a
  ·rw [e2] at hT;simp only [Bool.false_eq_true,if_false]
   have e3:(a.toList==b.toList)=true:=by simpa using hT
   have H:=Lib.hid hT;clear hT
   go_enter Tryz.func62,Tryz.ntmps62
   go_wp2_with (go_at_call 96;refine (zM _ _).mono ?_;rintro e w' ⟨rfl,rfl⟩)
   go_ret
   exact ⟨rfl,rfl⟩
  ·rw [e2] at hT;simp only [Bool.false_eq_true,if_false,if_true]
   have e3:(a.toList==b.toList)=false:=by simpa using hT
   have H:=Lib.hid hT;clear hT
   go_enter Tryz.func62,Tryz.ntmps62
   go_wp2_with (go_at_call 96;refine (zM _ _).mono ?_;rintro e w' ⟨rfl,rfl⟩)
   go_ret
   exact ⟨rfl,rfl⟩
 ·have e0:Op.bytesLess a.toList b.toList=true:=e1;simp only [if_true];have H:=Lib.hid hT;clear hT
  go_enter Tryz.func62,Tryz.ntmps62
  go_wp2_with (go_at_call 96;refine (zM _ _).mono ?_;rintro e w' ⟨rfl,rfl⟩)
  go_ret
  exact ⟨rfl,rfl⟩
theorem Iq (a b:Int) (B cap:Nat) (w:World) (hc:2<=cap) (hm:cap<=maxLen) (h0:w.cell? ⟨B,0,none⟩=some (.int .i64 a)) (h1:w.cell? ⟨B,1,none⟩=some (.int .i64 b)):Calls Tryz.prog 61 #[.slice (some ⟨B,0,none⟩) 2 cap] w fun e w'=>e = .returned (.int .i64 (zO a b))∧w'=w:=by
 go_enter Tryz.func61,Tryz.ntmps61
 go_wp2_with fail
 refine wp_loop_rounds 3 ?_
 by_cases ha:a=0
 ·rw [rounds_succ]
  go_wp2_with fail
  by_cases hb:b=0
  ·rw [rounds_succ]
   go_wp2_with fail
   rw [rounds_succ]
   go_wp2_with fail
   go_ret
   exact ⟨by rw [zO,if_neg (by simp [ha]),hb];rfl,rfl⟩
  ·rw [rounds_succ]
   go_wp2_with fail
   go_ret
   exact ⟨by rw [zO,if_neg (by simp [ha])];rfl,rfl⟩
 ·rw [rounds_succ]
  go_wp2_with fail
  go_ret
  exact ⟨by rw [zO,if_pos ha];rfl,rfl⟩
theorem px {P:Program} {N:jW} {id:Nat} {Q:Exit->Act->World->Prop} {a:Act} {w:World} {l:List Oper} (L:List (fI N)) (hm:P.follows .mixedOrders=true) (hB:mX l.toArray=true) (g0:N.G) (hg0:N.wd g0=w.drew) (hp0: ∀j,N.pre j g0)
  (h:Db P l.toArray L g0 (Q .normal) l 0 (fun _=>a)):(Code.region id l.toArray true).wp P Q a w:=wp_region_any hm (fu L hB g0 hg0 hp0 h)
def ye (R0 R1:World) (m:Nat):jW:=⟨Bool,fun g=>if g then R1 else R0,fun g g'=>g=true->g'=true,fun _ h=>h,fun _ _ _ h k e=>k (h e),fun i g=>i=m->g=false⟩
def GW (R0 R1:World) (m:Nat) (val:Nat->Value) (i:Nat):fI (ye R0 R1 m):=⟨fun v g=>v=val i∧(m<=i->g=true),fun v g g' hR h=>⟨h.1,fun k=>hR (h.2 k)⟩⟩
theorem pf {P:Program} {R0 R1:World} {m:Nat} {val:Nat->Value} {ops:Array Oper} {o:Oper} {a:Act} {g:Bool} {k:Nat} (hw:Region.wanted o (yielded ops a.tmps)=true) (hk:k<m)
  (h:(execOp a.eval o).run P (if g then R1 else R0) = .ok (.value (val k)) (if g then R1 else R0)):pR P ops (GW R0 R1 m val k) k o a g:=by
 refine .inl ⟨hw, ?_⟩;have e:(execOp a.eval o).run P ((ye R0 R1 m).wd g) = .ok (.value (val k)) ((ye R0 R1 m).wd g):=h;rw [e];exact ⟨g,rfl,fun h=>h,fun _ _ h=>h,rfl,fun h=>by omega⟩
theorem GX {P:Program} {R0 R1:World} {m:Nat} {val:Nat->Value} {ops:Array Oper} {o:Oper} {a:Act} {g:Bool} {k:Nat} {f:FuncId} {args:Array Value} (hw:Region.wanted o (yielded ops a.tmps)=true) (hg:m<=k->g=true)
  (h:(execOp a.eval o).run P (if g then R1 else R0) = .ok (.enter f args) (if g then R1 else R0)) (hc:Calls P f args (if g then R1 else R0) fun e w'=>e = .returned (val k)∧w'=if g then R1 else R0):pR P ops (GW R0 R1 m val k) k o a g:=by
 refine .inl ⟨hw, ?_⟩;have e:(execOp a.eval o).run P ((ye R0 R1 m).wd g) = .ok (.enter f args) ((ye R0 R1 m).wd g):=h;rw [e];refine hc.mono ?_;rintro e w' ⟨rfl,rfl⟩;exact ⟨_,g,rfl,rfl,fun h=>h,fun _ _ h=>h,rfl,hg⟩
theorem Ov {P:Program} {R0 R1:World} {m:Nat} {val:Nat->Value} {ops:Array Oper} {o:Oper} {a:Act} {g:Bool} (hw:Region.wanted o (yielded ops a.tmps)=true) (hg:g=false)
  (h:(execOp a.eval o).run P R0 = .ok (.value (val m)) R1):pR P ops (GW R0 R1 m val m) m o a g:=by
 subst hg;refine .inl ⟨hw, ?_⟩;have e:(execOp a.eval o).run P ((ye R0 R1 m).wd false) = .ok (.value (val m)) R1:=h;rw [e];exact ⟨true,rfl,fun _=>rfl,fun i hi _ e=>absurd e hi,rfl,fun _=>rfl⟩
theorem Ow {P:Program} {R0 R1:World} {m:Nat} {val:Nat->Value} {ops:Array Oper} {o:Oper} {a:Act} {g:Bool} {k:Nat} (hw:Region.wanted o (yielded ops a.tmps)=true) (hg:g=true)
  (h:(execOp a.eval o).run P R1 = .ok (.value (val k)) R1):pR P ops (GW R0 R1 m val k) k o a g:=by
 subst hg;refine .inl ⟨hw, ?_⟩;have e:(execOp a.eval o).run P ((ye R0 R1 m).wd true) = .ok (.value (val k)) R1:=h;rw [e];exact ⟨true,rfl,fun _=>rfl,fun _ _ h=>h,rfl,fun _=>rfl⟩
theorem F0 (a b:K2) (W:World):Calls Tryz.prog 60 #[.agg #[.string a.1, .string a.2], .agg #[.string b.1, .string b.2]] W fun e w'=>e = .returned (.int .i64 (eC a b))∧ ∃q os,w'=grow (W.drewN q) os:=by
 go_enter Tryz.func60,Tryz.ntmps60
 go_wp2_with fail
 rename_i Q' K hK
 let R0:=((W.alloc (.cells #[.string a.1, .string a.2] 74)).alloc (.cells #[.string b.1, .string b.2] 74)).drew
 let R1:=R0.alloc (.cells #[.int .i64 (iB a.1 b.1), .int .i64 (iB a.2 b.2)] 3)
 let val:Nat->Value:=fun i=>match i with
  | 0=> .pointer (some ⟨W.heap.size,0,none⟩)|1=> .string a.1|2=> .pointer (some ⟨W.heap.size+1,0,none⟩)|3=> .string b.1|4=> .int .i64 (iB a.1 b.1)
  | 5=> .pointer (some ⟨W.heap.size,1,none⟩)|6=> .string a.2|7=> .pointer (some ⟨W.heap.size+1,1,none⟩)|8=> .string b.2|9=> .int .i64 (iB a.2 b.2)
  | 10=> .slice (some ⟨W.heap.size+2,0,none⟩) 2 2|11=> .int .i64 (eC a b)|_=> .int .i64 (eC a b)
 have hz:R0.heap.size=W.heap.size+2:=by simp [R0]
 have hA0:R0.heap[W.heap.size]? = some (.cells #[.string a.1, .string a.2] 74):=((MapKept.heap_alloc (W.alloc (.cells #[.string a.1, .string a.2] 74)) _).2 _ (by simp)).trans (MapKept.heap_alloc W _).1
 have hB0:R0.heap[W.heap.size+1]? = some (.cells #[.string b.1, .string b.2] 74):=by
  have:=(MapKept.heap_alloc (W.alloc (.cells #[.string a.1, .string a.2] 74)) (.cells #[.string b.1, .string b.2] 74)).1
  rw [show (W.alloc (.cells #[.string a.1, .string a.2] 74)).heap.size=W.heap.size+1 by simp] at this;exact this
 have hA1:R1.heap[W.heap.size]? = some (.cells #[.string a.1, .string a.2] 74):=((MapKept.heap_alloc R0 _).2 _ (by omega)).trans hA0;have hB1:R1.heap[W.heap.size+1]? = some (.cells #[.string b.1, .string b.2] 74):=((MapKept.heap_alloc R0 _).2 _ (by omega)).trans hB0
 have hR1:R1.heap[W.heap.size+2]? = some (.cells #[.int .i64 (iB a.1 b.1), .int .i64 (iB a.2 b.2)] 3):=by rw [<-hz];exact (MapKept.heap_alloc R0 _).1
 have hC: ∀g:Bool,(if g=true then R1 else R0).cell? ⟨W.heap.size,0,none⟩=some (.string a.1)∧(if g=true then R1 else R0).cell? ⟨W.heap.size,1,none⟩=some (.string a.2)∧(if g=true then R1 else R0).cell? ⟨W.heap.size+1,0,none⟩=some (.string b.1)∧(if g=true then R1 else R0).cell? ⟨W.heap.size+1,1,none⟩=some (.string b.2):=by
  intro g
  cases g
  ·exact ⟨(aj hA0 0).trans rfl,(aj hA0 1).trans rfl,(aj hB0 0).trans rfl,(aj hB0 1).trans rfl⟩
  ·exact ⟨(aj hA1 0).trans rfl,(aj hA1 1).trans rfl,(aj hB1 0).trans rfl,(aj hB1 1).trans rfl⟩
 have hD:R1.cell? ⟨W.heap.size+2,0,none⟩=some (.int .i64 (iB a.1 b.1))∧R1.cell? ⟨W.heap.size+2,1,none⟩=some (.int .i64 (iB a.2 b.2)):=⟨(aj hR1 0).trans rfl,(aj hR1 1).trans rfl⟩
 refine px (N:=ye R0 R1 10) ((List.range 13).map (GW R0 R1 10 val)) rfl (by kernel_rfl) false ?_ (fun _ _=>rfl) ?_
 ·rfl
 refine ⟨fun x g _ hs hp=>pf rfl (by decide) ?_,fun x g _ hs hp=>pf rfl (by decide) ?_,fun x g _ hs hp=>pf rfl (by decide) ?_,fun x g _ hs hp=>pf rfl (by decide) ?_,fun x g _ hs hp=>GX (f:=62) (args:= #[.string a.1, .string b.1]) rfl (fun h=>absurd h (by decide)) ?_ (EN _ _ _),fun x g _ hs hp=>pf rfl (by decide) ?_,fun x g _ hs hp=>pf rfl (by decide) ?_,fun x g _ hs hp=>pf rfl (by decide) ?_,fun x g _ hs hp=>pf rfl (by decide) ?_,fun x g _ hs hp=>GX (f:=62) (args:= #[.string a.2, .string b.2]) rfl (fun h=>absurd h (by decide)) ?_ (EN _ _ _),fun x g _ hs hp=>Ov rfl (hp rfl) ?_,fun x g _ hs hp=>GX (f:=61) (args:= #[.slice (some ⟨W.heap.size+2,0,none⟩) 2 2]) rfl (fun _=>(hs 10 (by kernel_rfl)).2 (SY _)) ?_ ?_,fun x g _ hs hp=>Ow rfl ((hs 11 (by kernel_rfl)).2 (by decide)) ?_,fun x g _ hs=> ?_⟩
 ·obtain ⟨c1,c2,c3,c4⟩:=hC g;simp only [Act.put,UI,UK,UJ]
  go_simp
  all_goals first|rfl|trace_state
 ·obtain ⟨c1,c2,c3,c4⟩:=hC g;have x0:x 0 = .pointer (some ⟨W.heap.size,0,none⟩):=(hs 0 (by kernel_rfl)).1;simp only [Act.put,UI,UK,UJ,x0]
  go_simp
  all_goals first|rfl|trace_state
 ·obtain ⟨c1,c2,c3,c4⟩:=hC g;simp only [Act.put,UI,UK,UJ]
  go_simp
  all_goals first|rfl|trace_state
 ·obtain ⟨c1,c2,c3,c4⟩:=hC g;have x2:x 2 = .pointer (some ⟨W.heap.size+1,0,none⟩):=(hs 2 (by kernel_rfl)).1;simp only [Act.put,UI,UK,UJ,x2]
  go_simp
  all_goals first|rfl|trace_state
 ·obtain ⟨c1,c2,c3,c4⟩:=hC g;have x1:x 1 = .string a.1:=(hs 1 (by kernel_rfl)).1;have x3:x 3 = .string b.1:=(hs 3 (by kernel_rfl)).1;simp only [Act.put,UI,UK,UJ,x1,x3]
  go_simp
  all_goals first|rfl|trace_state
 ·obtain ⟨c1,c2,c3,c4⟩:=hC g;simp only [Act.put,UI,UK,UJ]
  go_simp
  all_goals first|rfl|trace_state
 ·obtain ⟨c1,c2,c3,c4⟩:=hC g;have x5:x 5 = .pointer (some ⟨W.heap.size,1,none⟩):=(hs 5 (by kernel_rfl)).1;simp only [Act.put,UI,UK,UJ,x5]
  go_simp
  all_goals first|rfl|trace_state
 ·obtain ⟨c1,c2,c3,c4⟩:=hC g;simp only [Act.put,UI,UK,UJ]
  go_simp
  all_goals first|rfl|trace_state
 ·obtain ⟨c1,c2,c3,c4⟩:=hC g;have x7:x 7 = .pointer (some ⟨W.heap.size+1,1,none⟩):=(hs 7 (by kernel_rfl)).1;simp only [Act.put,UI,UK,UJ,x7]
  go_simp
  all_goals first|rfl|trace_state
 ·obtain ⟨c1,c2,c3,c4⟩:=hC g;have x6:x 6 = .string a.2:=(hs 6 (by kernel_rfl)).1;have x8:x 8 = .string b.2:=(hs 8 (by kernel_rfl)).1;simp only [Act.put,UI,UK,UJ,x6,x8]
  go_simp
  all_goals first|rfl|trace_state
 ·have x4:x 4 = .int .i64 (iB a.1 b.1):=(hs 4 (by kernel_rfl)).1;have x9:x 9 = .int .i64 (iB a.2 b.2):=(hs 9 (by kernel_rfl)).1;simp only [Act.put,UI,UK,UJ,x4,x9]
  go_simp
  exact ⟨rfl,rfl⟩
 ·have x10:x 10 = .slice (some ⟨W.heap.size+2,0,none⟩) 2 2:=(hs 10 (by kernel_rfl)).1;simp only [Act.put,UI,UK,UJ,x10]
  go_simp
 ·have hg:g=true:=(hs 10 (by kernel_rfl)).2 (SY _);subst hg;exact Iq _ _ _ 2 R1 (SY _) (by unfold maxLen;omega) hD.1 hD.2
 ·have x11:x 11 = .int .i64 (eC a b):=(hs 11 (by kernel_rfl)).1;simp only [Act.put,UI,UK,UJ,x11]
  go_simp
  all_goals first|rfl|trace_state
 ·have hg:g=true:=(hs 10 (by decide)).2 (SY _);have x12:x 12 = .int .i64 (eC a b):=(hs 12 (by decide)).1;simp only [Act.put,UI,UK,UJ,x12];subst hg;refine hK _ _ ?_
  go_wp2_with fail
  go_ret
  refine ⟨rfl,1, #[.cells #[.string a.1, .string a.2] 74, .cells #[.string b.1, .string b.2] 74, .cells #[.int .i64 (iB a.1 b.1), .int .i64 (iB a.2 b.2)] 3], ?_⟩;show (((W.alloc _).alloc _).drew).alloc _=_;rw [alloc_eq_grow,alloc_eq_grow,alloc_eq_grow];show grow (grow (grow W _) _).drew _=_;rw [show ∀u v:Array Obj,(grow (grow W u) v).drew=grow (W.drewN 1) (u++v) from fun u v=>by rw [grow_grow];rfl,grow_grow]
  rfl
end
section
section
variable {D:Nat->Prop} {nu:Nat->Nat->Value} {o:List (Option aa)} {w:World} {P:Program}
def b4 {α:Type} (enc:α->List Value) (l:List α):List (List AV):=l.map (fun a=>(enc a).map AV.v)
open Go.Sort in
theorem zA {α:Type} [Inhabited α] {enc:α->List Value} {k:Nat} (hk: ∀x,(enc x).length=k) (hk0:0<k) {id:Nat} {ob:aa} {g:Nat} {cur:Array Value} {d:List α} (h:vH D nu o w id ob g cur) (hz:ob.z=k) (hr:ob.rows=b4 enc d):HoldsK enc k w g 0 d.toArray:=fun t ht=>by
 have ht':t<d.length * k:=by simpa using ht
 have hi:t / k<d.length:=Nat.div_lt_of_lt_mul (by rw [Nat.mul_comm];exact ht');have hj:t % k<k:=Nat.mod_lt _ hk0
 have h1:ob.rows[t / k]? = some ((enc d[t / k]).map AV.v):=by rw [hr];simp [b4,hi]
 have hjl:t % k<((enc d[t / k]).map AV.v).length:=by simp [hk];exact hj
 have h2:=h.oN h1 hjl
 have e:t / k * ob.z+t % k=t:=by rw [hz];have:=Nat.div_add_mod t k;rw [Nat.mul_comm] at this;exact this
 rw [e] at h2;have h3:=h.cell (t / k) (t % k) _ _ _ h1 (Tn hjl) (by rw [e];exact Tm h2)
 refine ⟨?_, ?_⟩
 ·have e2:w.cell? ⟨g,0+t,none⟩=cur[t]? :=by simp [World.cell?,h.cZ]
  rw [e2,Tm h2];rw [get_flatK _ _ _ _ (by simpa using ht')];rw [List.getElem_map] at h3;rw [h3.bZ]
  have hg1:d.toArray[t / k]! = d[t / k]:=by simp [hi]
  rw [hg1,getElem!_pos (enc d[t / k]) (t % k) (by rw [hk];exact hj)];rfl
 ·simp [World.frozen?,h.cZ]
open Go.Sort in
theorem aR.Nt {α:Type} [Inhabited α] {enc:α->List Value} {k:Nat} (hk: ∀x,(enc x).length=k) (hk0:0<k) (hone: ∀a, ∀v∈enc a,v.oneCell'=true) {f:FuncId} {args:List AV} {T:TypeId} {d d':List α} {o1:List (Option aa)} (hd:d'.length=d.length) (hc:df P f=true)
  (hcall: ∀D nu w vargs cap cZ,RO D nu (some ⟨T,k,true,b4 enc d⟩ :: o1) w->gk D nu (some ⟨T,k,true,b4 enc d⟩ :: o1) w args vargs->HoldsK enc k w cZ 0 d.toArray->cZ<w.heap.size->d.length<=cap->cap<=maxLen->Calls P f (#[.slice (some ⟨cZ,0,none⟩) d.length cap]++vargs) w (fun e w'=>e = .returned (.tuple #[])∧ ∃n os,w'=sortWorldK enc k w cZ 0 n d'.toArray os))
  (hnil:d=[]-> ∀D nu w vargs,RO D nu (some ⟨T,k,true,b4 enc d⟩ :: o1) w->gk D nu (some ⟨T,k,true,b4 enc d⟩ :: o1) w args vargs->Calls P f (#[.slice none 0 0]++vargs) w (fun e w'=>e = .returned (.tuple #[])∧Below w.heap.size w w')) :
  aR P f (.vec 0 d.length :: args) (some ⟨T,k,true,b4 enc d⟩ :: o1) (.ct []) (some ⟨T,k,true,b4 enc d'⟩ :: o1):=by
 refine ⟨hc,fun D nu w vargs hro hra=> ?_⟩
 have hlen:(b4 enc d).length=d.length:=by simp [b4]
 have hlen':(b4 enc d').length=d'.length:=by simp [b4]
 obtain ⟨vl⟩:=vargs
 cases vl with
 | nil=>have:=hra.len;simp at this
 | cons x l=>
 have hx:=hra.at' 0 _ x rfl (by simp);have hxs:gk D nu (some ⟨T,k,true,b4 enc d⟩ :: o1) w args l.toArray:=⟨by have:=hra.len;simp at this;simpa using this,fun i c y h1 h2=>hra.at' (i+1) c y (by simpa using h1) (by simpa using h2)⟩
 have ev:(⟨x :: l⟩:Array Value) = #[x]++l.toArray:=by simp
 have hxq:x=nu 0 d.length:=by
  cases hx with
  | vec=>rfl
 have hob:(some ⟨T,k,true,b4 enc d⟩ :: o1)[0]? = some (some (⟨T,k,true,b4 enc d⟩:aa)):=rfl;have tup0: ∀w',RA D nu (some ⟨T,k,true,b4 enc d'⟩ :: o1) w' (.ct []) (.tuple #[]):=fun w'=> .ct _ _ rfl (fun i c x h _=>by simp at h);rw [ev,hxq]
 rcases hro.obj 0 _ hob with ⟨_,e2,e3⟩|⟨g,cur,hb⟩|⟨g,es,cl,hm⟩
 ·have hdn:d=[]:=by simpa [b4] using e2
  have hdn':d'=[]:=List.eq_nil_of_length_eq_zero (by rw [hd,hdn];rfl);have hn:=hnil hdn D nu w l.toArray hro hxs
  have e4:nu 0 d.length = .slice none 0 0:=by rw [hdn];exact e3
  rw [e4];refine hn.mono ?_;rintro e w' ⟨rfl,hbl⟩
  have e5:(some ⟨T,k,true,b4 enc d'⟩ :: o1:List (Option aa))=some ⟨T,k,true,b4 enc d⟩ :: o1:=by rw [hdn,hdn']
  refine ⟨_,nu,some ⟨T,k,true,b4 enc d'⟩ :: o1,_,rfl, ?_, ?_,tup0 w',rfl,rfl⟩
  ·rw [e5];exact ak hbl
  ·rw [e5];exact hro.below hbl
 ·obtain ⟨cap,h1,h2,h3,h4⟩:=hb.vec rfl;have hlr:(aa.mk T k true (b4 enc d)).rows.length=d.length:=hlen;rw [hlr] at h1 h2;have hlt:g<w.heap.size:=(Array.getElem?_eq_some_iff.1 hb.cZ).1;rw [h1];refine (hcall D nu w l.toArray cap g hro hxs (zA hk hk0 hb rfl rfl) hlt h2 h3).mono ?_;rintro e w' ⟨rfl,n,os,rfl⟩
  
  obtain ⟨hsame,hblk⟩:=Gd (w:=w) (enc:=id) (n:=n) (d:=flatK enc k d'.toArray) (os:= #[]) hlt;have hblk:=hblk _ _ _ hb.cZ;rw [grow_empty] at hsame hblk;unfold sortWorldK putRowK
  have hsz:(putRow id (Go.Sort.ahead w n) g 0 (flatK enc k d'.toArray)).heap.size=w.heap.size:=by rw [size_putRow];rfl
  have hh:(aa.mk T k true (b4 enc d)).hl=(aa.mk T k true (b4 enc d')).hl:=by simp [aa.hl,hlen,hlen',hd]
  have hne: ∀b,b≠g->(putRow id (Go.Sort.ahead w n) g 0 (flatK enc k d'.toArray)).heap[b]? = w.heap[b]? :=fun b hbg=>by
   rcases Nat.lt_or_ge b w.heap.size with q|q
   ·exact hsame b q hbg
   ·rw [Vj (by omega),Vj q]
  have hm:=gO (nu:=nu) (w:=w) (w':=putRow id (Go.Sort.ahead w n) g 0 (flatK enc k d'.toArray)) (ob':=⟨T,k,true,b4 enc d'⟩) hob hh.symm hb.bn rfl rfl rfl hsz hne
  have row: ∀(i:Nat) r,(b4 enc d')[i]? = some r-> ∃hi:i<d'.length,r=(enc d'[i]).map AV.v:=fun i r hi=>by
   have hik:=(S7.1 hi).1;rw [hlen'] at hik;exact ⟨hik,by simp [b4,hik] at hi;exact hi.symm⟩
  have cell: ∀(i j:Nat) r c x,(b4 enc d')[i]? = some r->r[j]? = some c->(putCells id 0 (flatK enc k d'.toArray) cur)[i * k+j]? = some x->c = .v x∧x.oneCell'=true:=fun i j r c x k1 k2 k3=>by
   obtain ⟨hi,rfl⟩:=row i r k1
   have hj:j<k:=by have:=(S7.1 k2).1;simp [hk] at this;exact this
   have hje:j<(enc d'[i]).length:=by rw [hk];exact hj
   have ht:i * k+j<d'.length * k:=kj hi hj;simp only [putCells,Array.getElem?_mapIdx] at k3
   cases hcur:cur[i * k+j]? with
   | none=>rw [hcur] at k3;simp at k3
   | some y=>
    rw [hcur] at k3;simp only [TG,Ti] at k3;rw [if_pos ⟨Nat.zero_le _,by simpa using ht⟩,Nat.sub_zero,get_flatK _ _ _ _ (by simpa using ht),A7 hj,pH hj] at k3
    have hg1:d'.toArray[i]! = d'[i]:=by simp [hi]
    rw [hg1,getElem!_pos (enc d'[i]) j hje] at k3;rw [List.getElem?_map,Tn hje,TG,Ti] at k2;subst k3;exact ⟨k2.symm,hone _ _ (List.getElem_mem hje)⟩
  have hnew:vH D nu (some ⟨T,k,true,b4 enc d'⟩ :: o1) (putRow id (Go.Sort.ahead w n) g 0 (flatK enc k d'.toArray)) 0 ⟨T,k,true,b4 enc d'⟩ g (putCells id 0 (flatK enc k d'.toArray) cur):=by
   refine ⟨hblk,hb.j9,(fun e=>by cases e),fun _=>⟨cap, ?_, ?_,h3, ?_⟩,hk0,fun i r hi=> ?_,fun i j r c x k1 k2 k3=> ?_,fun i j r c x k1 k2 k3=>(cell i j r c x k1 k2 k3).2⟩
   ·show nu 0 (b4 enc d').length = .slice (some ⟨g,0,none⟩) (b4 enc d').length cap;rw [hlen',hd];exact h1
   ·show (b4 enc d').length<=cap;rw [hlen',hd];exact h2
   ·rw [<-h4];simp [putCells]
   ·obtain ⟨_,rfl⟩:=row i r hi;simp [hk]
   ·rw [(cell i j r c x k1 k2 k3).1];exact .v x
  have hr:=ox hro hob hh.symm hb.bn hm hne (cur:=putCells id 0 (flatK enc k d'.toArray) cur) hnew;have hb2:Below (putRow id (Go.Sort.ahead w n) g 0 (flatK enc k d'.toArray)).heap.size (putRow id (Go.Sort.ahead w n) g 0 (flatK enc k d'.toArray)) (grow (putRow id (Go.Sort.ahead w n) g 0 (flatK enc k d'.toArray)) os):=⟨rfl,rfl,rfl,by simp,fun b hb=>heap_grow_old _ _ hb⟩;simp only [List.set_cons_zero] at hm hr;exact ⟨_,nu,some ⟨T,k,true,b4 enc d'⟩ :: o1,_,rfl,hm.trans (ak hb2),hr.below hb2,tup0 _,rfl,rfl⟩
 ·have:=hm.dj;cases this
end
open Go.RowKit Go.Shelf Go.Sort
def GB:Go.Shelf.Ren:=⟨fun|6=>98|15=>135|14=>134|28=>171|29=>172|20=>163|21=>164|22=>165|23=>166|24=>167|25=>168|26=>169|27=>170|46=>203|47=>204|48=>205|49=>206|50=>207|57=>221|n=>n,fun|22=>129|24=>74|25=>128|3=>3|39=>212|0=>0|53=>184|55=>256|4=>4|46=>249|45=>248|50=>105|5=>5|9=>9|66=>279|70=>283|76=>296|77=>297|n=>n,fun|n=>n⟩
theorem tI:SlLaysF0.n6 Tryz.prog GB:={
 mixed:=by kernel_rfl
 f6:=⟨Tryz.f98.name,by decide,Tryz.func98⟩
 f14:=⟨Tryz.f134.name,by decide,Tryz.func134⟩
 f15:=Tryz.func135
 f20:=⟨Tryz.f163.name,by decide,Tryz.func163⟩
 f21:=⟨Tryz.f164.name,by decide,Tryz.func164⟩
 f22:=⟨Tryz.f165.name,by decide,Tryz.func165⟩
 f23:=⟨Tryz.f166.name,by decide,Tryz.func166⟩
 f24:=⟨Tryz.f167.name,by decide,Tryz.func167⟩
 f25:=⟨Tryz.f168.name,by decide,Tryz.func168⟩
 f26:=⟨Tryz.f169.name,by decide,Tryz.func169⟩
 f27:=⟨Tryz.f170.name,by decide,Tryz.func170⟩
 f28:=Tryz.func171
 f29:=Tryz.func172
 f46:=⟨Tryz.f203.name,by decide,Tryz.func203⟩
 f47:=Tryz.func204
 f48:=Tryz.func205
 f49:=⟨Tryz.f206.name,by decide,Tryz.func206⟩
 f50:=⟨Tryz.f207.name,by decide,Tryz.func207⟩
 f57:=⟨Tryz.f221.name,by decide,Tryz.func221⟩
 t0:=by kernel_rfl
 a0:=fun w=>by kernel_rfl
 z0:=fun w=>by kernel_rfl
 v0:=fun w=>by kernel_rfl
 t3:=by kernel_rfl
 a3:=fun w=>by kernel_rfl
 z3:=fun w=>by kernel_rfl
 v3:=fun w=>by kernel_rfl
 t4:=by kernel_rfl
 a4:=fun w=>by kernel_rfl
 z4:=fun w=>by kernel_rfl
 v4:=fun w=>by kernel_rfl
 t5:=by kernel_rfl
 a5:=fun w=>by kernel_rfl
 z5:=fun w=>by kernel_rfl
 v5:=fun w=>by kernel_rfl
 t9:=by kernel_rfl
 a9:=fun w=>by kernel_rfl
 z9:=fun w=>by kernel_rfl
 v9:=fun w=>by kernel_rfl
 t22:=by kernel_rfl
 a22:=fun w=>by kernel_rfl
 z22:=fun w=>by kernel_rfl
 v22:=fun w=>by kernel_rfl
 t25:=by kernel_rfl
 a25:=fun w=>by kernel_rfl
 z25:=fun w=>by kernel_rfl
 v25:=fun w=>by kernel_rfl
 t39:=by kernel_rfl
 a39:=fun w=>by kernel_rfl
 z39:=fun w=>by kernel_rfl
 v39:=fun w=>by kernel_rfl
 t45:=by kernel_rfl
 a45:=fun w=>by kernel_rfl
 z45:=fun w=>by kernel_rfl
 v45:=fun w=>by kernel_rfl
 t46:=by kernel_rfl
 a46:=fun w=>by kernel_rfl
 z46:=fun w=>by kernel_rfl
 v46:=fun w=>by kernel_rfl
 t50:=by kernel_rfl
 a50:=fun w=>by kernel_rfl
 z50:=fun w=>by kernel_rfl
 v50:=fun w=>by kernel_rfl
 t53:=by kernel_rfl
 a53:=fun w=>by kernel_rfl
 z53:=fun w=>by kernel_rfl
 v53:=fun w=>by kernel_rfl
 t55:=by kernel_rfl
 a55:=fun w=>by kernel_rfl
 z55:=fun w=>by kernel_rfl
 v55:=fun w=>by kernel_rfl
 t66:=by kernel_rfl
 a66:=fun w=>by kernel_rfl
 z66:=fun w=>by kernel_rfl
 v66:=fun w=>by kernel_rfl
 t70:=by kernel_rfl
 a70:=fun w=>by kernel_rfl
 z70:=fun w=>by kernel_rfl
 v70:=fun w=>by kernel_rfl
 t76:=by kernel_rfl
 a76:=fun w=>by kernel_rfl
 z76:=fun w=>by kernel_rfl
 v76:=fun w=>by kernel_rfl
 t77:=by kernel_rfl
 a77:=fun w=>by kernel_rfl
 z77:=fun w=>by kernel_rfl
 v77:=fun w=>by kernel_rfl }
def AU (k:K2):List Value:=[.string k.1, .string k.2]
theorem wy (a b:ByteArray):iB a b<0↔a.data.toList<b.data.toList:=by
 unfold iB
 by_cases h:C7 a b=true
 ·rw [if_pos h];exact ⟨fun _=>ik.1 h,fun _=>by decide⟩
 ·rw [if_neg h];refine ⟨fun k=> ?_,fun k=>absurd (ik.2 k) h⟩
  split at k<;>omega
theorem sG (a b:ByteArray):iB a b=0↔a=b:=by
 unfold iB
 constructor
 ·intro h
  split at h
  ·cases h
  ·split at h
   ·cases h
   ·rename_i h1 h2;rw [ik] at h1 h2
    rcases kQ a b with q|q|q
    ·exact absurd q h1
    ·exact q
    ·exact absurd q h2
 ·rintro rfl
  have: ¬C7 a a=true:=by rw [ik];exact List.lt_irrefl _
  rw [if_neg this,if_neg this]
theorem KQ (a b:K2):eC a b<0↔zf a b:=by
 unfold eC zO zf
 by_cases h:iB a.1 b.1=0
 ·rw [if_neg (by simp [h]),wy]
  have:=(sG _ _).1 h
  rw [this];exact ⟨fun k=> .inr ⟨rfl,k⟩,fun k=>k.elim (fun q=>absurd q (List.lt_irrefl _)) (·.2)⟩
 ·rw [if_pos h,wy];exact ⟨.inl,fun k=>k.elim id (fun q=>absurd ((sG _ _).2 q.1) h)⟩
theorem qm (a b:K2):ltOf eC a b=decide (zf a b):=by rw [ltOf,decide_eq_decide];exact KQ a b
theorem LF:SWO (ltOf eC) where
 irrefl x:=by rw [qm];exact decide_eq_false (dX x)
 trans x y z h1 h2:=by rw [qm,decide_eq_true_eq] at *; exact gD h1 h2
 ntrans x y z h1 h2:=by
  rw [qm,decide_eq_false_iff_not] at *;intro h
  rcases mF y z with q|q|q
  ·exact h2 q
  ·rw [q] at h1;exact h1 h
  ·exact h1 (gD h q)
def lD (l:List K2):List K2:=l.mergeSort (fun x y=> !(ltOf eC) y x)
theorem GC {vis:List K2} {l:PL} (hp:vis.Perm (l.map Prod.fst)) (hn:(l.map Prod.fst).Nodup):lD vis=(bU l).map Prod.fst:=by
 have h1:(lD vis).Pairwise (fun x y=>(!(ltOf eC) y x)=true):=List.pairwise_mergeSort (fun a b c h1 h2=>by
  simp only [qm,UA,decide_eq_false_iff_not] at *;intro h
  rcases mF a b with q|q|q
  ·exact h2 (gD h q)
  ·rw [q] at h;exact h2 h
  ·exact h1 q) (fun a b=>by
  simp only [qm,Bool.or_eq_true,UA,decide_eq_false_iff_not]
  by_cases h:zf b a
  ·exact .inr (fun k=>dX _ (gD h k))
  ·exact .inl h) vis
 have h2:(lD vis).Perm (l.map Prod.fst):=(List.mergeSort_perm vis _).trans hp;have h3:(lD vis).Nodup:=h2.nodup_iff.2 hn
 have h4:(lD vis).Pairwise zf:=by
  rw [List.nodup_iff_pairwise_ne] at h3;refine (h1.and h3).imp fun {a b} h=> ?_;obtain ⟨q,r⟩:=h;rw [qm,UA,decide_eq_false_iff_not] at q
  rcases mF a b with k|k|k
  ·exact k
  ·exact absurd k r
  ·exact absurd k q
 have h5:=mh hn;have h6:=(cF l).map Prod.fst
 have e:=mc (l:=(lD vis).map fun k=>(k,0)) (m:=((bU l).map Prod.fst).map fun k=>(k,0)) (by rw [gF,Vk];exact h4) (by rw [gF,Vk,Vk];exact h5) (fun p=>by
  have:lD vis |>.Perm ((bU l).map Prod.fst):=h2.trans h6.symm
  exact (this.map fun k=>(k,(0:Int))).mem_iff)
 have key: ∀l:List K2,(l.map fun k=>(k,(0:Int))).map Prod.fst=l:=fun l=>by induction l<;>simp_all
 have:=congrArg (List.map Prod.fst) e
 rw [key,key] at this;exact this
theorem Ah (d:List K2) (hl:d.length<=1000000):aR Tryz.prog 98 [.vec 0 d.length, .fn 60 [] []] [some ⟨74,2,true,d.map aN⟩] (.ct []) [some ⟨74,2,true,(lD d).map aN⟩]:=by
 have one: ∀a, ∀v∈AU a,v.oneCell'=true:=fun a v hv=>by simp [AU] at hv;rcases hv with rfl|rfl<;>rfl
 have va: ∀D nu w o vargs,gk D nu o w [.fn 60 [] []] vargs->vargs = #[.func (.func 60) #[] #[]]:=fun D nu w o vargs h=>by
  obtain ⟨x,rfl,hx⟩:=dP h
  cases hx with
  | fn _ _ _ fi ca h1 h2 _ _=>
   have e1:fi = #[]:=by simpa using h1.symm
   have e2:ca = #[]:=by simpa using h2.symm
   rw [e1,e2]
 refine aR.Nt (enc:=AU) (k:=2) (d:=d) (d':=lD d) (fun _=>rfl) (by omega) one (by rw [lD,List.length_mergeSort]) (by kernel_rfl) (fun D nu w vargs cap cZ hro hra hH hb h1 h2=> ?_) (fun h0 D nu w vargs hro hra=> ?_)
 ·rw [va _ _ _ _ _ hra];have eg: ∀args w,(callFunc 60 args).run Tryz.prog w = .ok (.enter 60 args) w:=enters_of Tryz.func60 (by kernel_rfl) rfl
  have:=AnyQ.slices_SortFunc_total tI 2 (fun w=>by kernel_rfl) (fun w=>by kernel_rfl) AU (fun _=>rfl) one eC LF 60 #[] cZ 0 cap d.toArray w eg (fun m os dk _ x y=>F0 x y _) hH hb (by simp;omega) (fun x y h1 h2=>by
   rw [qm,decide_eq_false_iff_not] at h1 h2
   rcases mF x y with q|q|q
   ·exact absurd q h1
   ·exact q
   ·exact absurd q h2)
  simp only [List.size_toArray] at this;exact this
 ·rw [va _ _ _ _ _ hra]
  have:=AnyF.slices_SortFunc_none tI none 0 (.func (.func 60) #[] #[]) w
  refine this.mono ?_;rintro e w' ⟨rfl,rfl⟩;exact ⟨rfl,Below.refl _ _⟩
theorem vq {gf:FuncId} {caps:List AV} (l:PL) (hn:(l.map Prod.fst).Nodup) (hl:l.length<=1000000) (hs:yJ true Tryz.prog gf caps [] (dt (l.map Prod.fst))) (hw:ba 0 caps=true) :
  aR Tryz.prog 63 [.fn gf [] caps, .fn 60 [] []] [] (.vec 1 l.length) [none,some ⟨74,2,true,(bU l).map fun p=>aN p.1⟩]:=by
 have C:=zb (l.map Prod.fst) (by simpa using hl) hs hw
 (refine aR.enter Tryz.func63 rfl (by kernel_rfl) (by kernel_rfl) rfl ?_;simp only [Tryz.ntmps63,Tryz.results63,List.length_cons,List.length_nil,Nat.reduceAdd,Nat.reduceSub,List.replicate_succ,List.replicate_zero,List.cons_append,List.nil_append])
 repeat (first|(with_reducible first|refine ag.up ?_|refine fun (K:AK) hK=> ?_|(refine hK _ ?_;clear hK K))|simp only [go_sem]|with_reducible refine wA ?_|clear hK K)
 refine ab.two C ?_;rintro r o' ⟨vis,hp,rfl,rfl⟩
 have hv:vis.length=l.length:=by have:=hp.length_eq;simpa using this
 have S:=Ah vis (by omega);rw [GC hp hn,List.map_map] at S
 repeat (first|(with_reducible first|refine ag.up ?_|refine fun (K:AK) hK=> ?_|(refine hK _ ?_;clear hK K))|simp only [go_sem]|with_reducible refine wA ?_|clear hK K)
 refine ab.fr [1] S (by simp) ?_ ?_ ?_ ?_ ?_
 ·simp only [List.map_cons,List.map_nil,List.getElem?_cons_zero,List.getElem?_cons_succ,TG,aa.aO,bc _ _ (nj _ _)]
 ·rfl
 ·rfl
 ·intro k ob hk
  match k,hk with
  | 0,hk=>cases hk;exact nj _ _
  | k+1,hk=>simp at hk
 have eW: ∀n,bQ n ((bU l).map (aN ∘ Prod.fst))=true:=fun n=>bg _ (fun _=>rfl) _;simp only [dE,List.set_cons_zero,List.set_cons_succ,TG,Option.map_none,aa.aO,bc _ _ (eW 0),List.nil_append,Up,List.map_nil,List.length_cons,List.length_nil,Nat.reduceAdd,List.cons_append];rw [hv]
 repeat (first|(with_reducible first|refine ag.up ?_|refine fun (K:AK) hK=> ?_|(refine hK _ ?_;clear hK K))|simp only [go_sem]|with_reducible refine wA ?_|clear hK K)
 (refine ⟨?_, ?_, ?_⟩<;>simp only [bd,bj,AV.v.injEq,Value.int.injEq,Value.bool.injEq,Value.string.injEq,AV.vec.injEq,AV.ptr.injEq,true_or,or_true,false_or,or_false,aa.mk.injEq,forall_eq_apply_imp_iff,forall_eq,forall_eq',go_sem])
 exact ⟨rfl,bg _ (fun _=>rfl) _⟩
def uD (e:aV):List (ByteArray×List aV)->List (ByteArray×List aV)
 | []=>[(e.aG,[e])]
 | p :: G=>if p.1=e.aG then (p.1,p.2++[e]) :: G else p :: uD e G
def lu:List (ByteArray×List aV)->ByteArray->Option (List aV)
 | [],_=>none
 | p :: G,k=>if p.1=k then some p.2 else lu G k
def wY (E:List aV):List (ByteArray×List aV):=E.foldl (fun G e=>uD e G) []
theorem wV (e:aV) (v:ByteArray): ∀G,(lu (uD e G) v).getD []=(lu G v).getD []++if e.aG=v then [e] else []
 | []=>by
  simp only [uD,lu]
  by_cases h:e.aG=v
  ·simp [h]
  ·simp [h]
 | p :: G=>by
  rw [uD]
  by_cases h:p.1=e.aG
  ·rw [if_pos h];simp only [lu]
   by_cases k:p.1=v
   ·rw [if_pos k,if_pos k,if_pos (h ▸ k)];rfl
   ·rw [if_neg k,if_neg k,if_neg (fun q=>k (h.trans q)),Up]
  ·rw [if_neg h];simp only [lu]
   by_cases k:p.1=v
   ·rw [if_pos k,if_pos k,if_neg (fun q=>h (k.trans q.symm)),Up]
   ·rw [if_neg k,if_neg k];exact wV e v G
theorem Fg (E:List aV) (v:ByteArray):(lu (wY E) v).getD []=gw E v:=by
 have key: ∀(E:List aV) (G:List (ByteArray×List aV)),(lu (E.foldl (fun G e=>uD e G) G) v).getD []=(lu G v).getD []++gw E v:=by
  intro E
  induction E with
  | nil=>intro G;simp [gw]
  | cons e E ih=>
   intro G;rw [List.foldl_cons,ih,wV,List.append_assoc]
   congr 1
   by_cases h:e.aG=v
   ·simp [gw,h]
   ·simp [gw,h]
 have:=key E []
 simpa [wY,lu] using this
end
section
section
variable {D:Nat->Prop} {nu:Nat->Nat->Value} {o:List (Option aa)} {w:World} {P:Program}
def Kt (P:Program) (oo:Oper) (s:AS) (r:AV) (o':List (Option aa)):Prop:= ∀(f:Fr) (D:Nat->Prop) (nu:Nat->Nat->Value) (a:Act) (w:World),RS f D nu s a w-> ∃v w' nu',(execOp a.eval oo).run P w = .ok (.value v) w'∧bl nu s.o w nu' o' w'∧RO D nu' o' w'∧RA D nu' o' w' r v
def lG (P:Program) (all ops:List Oper) (s:AS) (Q:AS->Prop):Prop:= ∀(f:Fr) (m:WM P) (rest:List Oper) (R:Exit->Act->World->Prop),(∀l,f.r=some l->m.fix l)-> ∀(a:Act) (w:World) (D:Nat->Prop) (nu:Nat->Nat->Value),(∀oo,oo∈ops-> ∀c,oo.op ≠ .defer c)->m.M D nu s.o f.Z s.y w->RS f D nu s a w ->
  (∀D' s' a' w' nu',m.M D' nu' s'.o f.Z s'.y w'->RS f D' nu' s' a' w'->Q s'->wpListIn (WF f.r) 9 P all.toArray R rest a' w')->wpListIn (WF f.r) 9 P all.toArray R (ops++rest) a w
theorem Gy {all:List Oper} {oo:Oper} {s:AS} {Q:AS->Prop} (hq:oF P all oo s Q):lG P all [oo] s Q:=fun f m rest R hZr a w D nu hcalm hm hs hR=>by
 have hrun:AY P oo.op oo.dst s Q->oo.wpIn (WF f.r) 9 P a w (wpListIn (WF f.r) 9 P all.toArray R rest) R:=fun hd=>
  AN m hZr (hcalm oo List.mem_cons_self) hm hs hd (fun D' v w' nu' s' m1 m2 m3=>hR D' s' _ w' nu' m1 m2 m3)
 have hskip:Q (s.put oo.dst (.v Go.undef) s.o)->wpListIn (WF f.r) 9 P all.toArray R rest (a.put oo.dst Go.undef) w:=fun hd=>
  hR D _ _ w nu (by simpa only [AS.put] using hm) (hs.put (.refl nu s.o w) hs.ro (.v _) oo.dst) hd
 simp only [oF] at hq;simp only [List.cons_append,List.nil_append,wpListIn]
 split at hq
 ·rename_i hg
  have:Region.wanted oo (yielded all.toArray a.tmps)=true:=by simp [Region.wanted,hg]
  rw [if_pos this];exact hrun hq
 ·rename_i j want hg;unfold rP at hq
  split at hq
  ·rename_i b e;have hy:=ek (w:=w) (fun d c x _ h1 h2=>hs.tm.at' d c x h1 h2) hs.tm.len e
   have hw:Region.wanted oo (yielded all.toArray a.tmps)=(b==want):=by simp [Region.wanted,hg,hy]
   rw [hw]
   cases hb:b==want
   ·rw [hb] at hq;simp only [Bool.false_eq_true,if_false];exact ⟨fun f _=>trivial,hskip hq⟩
   ·rw [hb] at hq;simp only [if_true];exact hrun hq
  ·rename_i e;have hy:=ek (w:=w) (fun d c x _ h1 h2=>hs.tm.at' d c x h1 h2) hs.tm.len e
   have hw:Region.wanted oo (yielded all.toArray a.tmps)=false:=by simp [Region.wanted,hg,hy]
   rw [hw];simp only [Bool.false_eq_true,if_false];exact ⟨fun f _=>trivial,hskip hq⟩
  ·exact hq.elim
theorem xQ {all:List Oper} {oo:Oper} {l:List Oper} {s:AS} {Q:AS->Prop} (h:lG P all [oo] s (fun s'=>lG P all l s' Q)):lG P all (oo :: l) s Q:=fun f m rest R hZr a w D nu hcalm hm hs hR=>
 h f m (l++rest) R hZr a w D nu (fun o ho=>hcalm o (by simp at ho;simp [ho])) hm hs (fun D' s' a' w' nu' m1 m2 m3=>m3 f m rest R hZr a' w' D' nu' (fun o ho=>hcalm o (List.mem_cons_of_mem _ ho)) m1 m2 hR)
theorem JA {all:List Oper} {s:AS} {Q:AS->Prop} (h:Q s):lG P all [] s Q:=fun f m rest R hZr a w D nu hcalm hm hs hR=>hR D s a w nu hm hs h
theorem lG.mono {all l:List Oper} {s:AS} {Q Q':AS->Prop} (h:lG P all l s Q) (k: ∀s',Q s'->Q' s'):lG P all l s Q':=fun f m rest R hZr a w D nu hcalm hm hs hR=>h f m rest R hZr a w D nu hcalm hm hs (fun D' s' a' w' nu' m1 m2 m3=>hR D' s' a' w' nu' m1 m2 (k s' m3))
theorem Jz {all l1 l2:List Oper} {s:AS} {Q:AS->Prop} (h:lG P all l1 s (fun s'=>lG P all l2 s' Q)):lG P all (l1++l2) s Q:=fun f m rest R hZr a w D nu hcalm hm hs hR=>by
 rw [List.append_assoc];exact h f m (l2++rest) R hZr a w D nu (fun o ho=>hcalm o (List.mem_append_left _ ho)) hm hs (fun D' s' a' w' nu' m1 m2 m3=>m3 f m rest R hZr a' w' D' nu' (fun o ho=>hcalm o (List.mem_append_right _ ho)) m1 m2 hR)
theorem vo {all:List Oper}: ∀ {l:List Oper} {s:AS} {Q:AS->Prop},gq P all l s Q->lG P all l s Q
 | [],_,_,h=>JA h
 | oo :: l,s,Q,h=>xQ ((Gy (Q:=fun s'=>gq P all l s' Q) h).mono (fun s' h=>vo h))
theorem JB {all:List Oper} {oo:Oper} {s:AS} {Q:AS->Prop} (r:AV) (o':List (Option aa)) (hg:oo.guard=none) (h:Kt P oo s r o') (k:Q (s.put oo.dst r o')):lG P all [oo] s Q:=fun f m rest R hZr a w D nu hcalm hm hs hR=>by
 have hw:Region.wanted oo (yielded all.toArray a.tmps)=true:=by simp [Region.wanted,hg]
 simp only [List.cons_append,List.nil_append,wpListIn];rw [if_pos hw];obtain ⟨v,w',nu',h1,h2,h3,h4⟩:=h f D nu a w hs;refine ⟨fun f _=>trivial, ?_⟩;rw [Oper.semAt_eq _ _ oo (hcalm oo List.mem_cons_self),h1];exact hR D (s.put oo.dst r o') _ w' nu' (m.own hm hs.ro h2 h3) (hs.put h2 h3 h4 oo.dst) k
theorem Ie {n0 id:Nat} {s:AS} {l:List Oper} {Q:aJ->AS->Prop} (hok:c9 l.toArray=true) (h:lG P l l s (Q .normal)):bK P n0 (.region id l.toArray false) s Q:= .inr (fun f m D nu a w hZr hn hm hs hmx R hO hR=>wpIn_region_list (by
 have:=h f m [] R hZr a w D nu (wu hok) hm hs (fun D' s' a' w' nu' h1 h2 h3=>hR .normal D' f.Z s' a' w' nu' h1 h2 h3)
 simpa using this))
theorem Ib {n0 id:Nat} {s:AS} {l:List Oper} {Q:aJ->AS->Prop} (n:Nat) {oo:Oper} (hoo:l[n]? = some oo) (hok:c9 l.toArray=true) (hg:oo.guard=none) (h:gq P l (l.take n) s (fun s1=> ∃r o',Kt P oo s1 r o'∧gq P l (l.drop (n+1)) (s1.put oo.dst r o') (Q .normal))):bK P n0 (.region id l.toArray false) s Q:=by
 refine Ie hok ?_;have hn:=(S7.1 hoo);obtain ⟨hn,rfl⟩:=hn
 have e:l=l.take n++(l[n] :: l.drop (n+1)):=by rw [List.getElem_cons_drop,List.take_append_drop]
 have key:lG P l (l.take n++(l[n] :: l.drop (n+1))) s (Q .normal):=Jz ((vo h).mono (fun s1 ⟨r,o',h1,h2⟩=>xQ (JB r o' hg h1 (vo h2))));rw [<-e] at key;exact key
theorem Is (h:RO D nu o w) {id:Nat} {ob:aa} (ho:o[id]? = some (some ob)) (hv:ob.dj=true) {k:Nat} (hk:k<=ob.rows.length) :
  ∃ad cap,nu id ob.rows.length = .slice ad ob.rows.length cap∧ob.rows.length<=cap∧(ad=none->cap=0)∧(∀a,ad=some a->a.off=0)∧bl nu o w (eO nu o.length (.slice ad k cap)) (o.set id none++[some { ob with rows:=ob.rows.take k }]) w∧RO D (eO nu o.length (.slice ad k cap)) (o.set id none++[some { ob with rows:=ob.rows.take k }]) w:=by
 have hidl:=(S7.1 ho).1
 have hhl:ob.hl=ob.rows.length:=by rw [aa.hl,hv,if_pos rfl]
 rcases h.obj id ob ho with ⟨e1,e2,e3⟩|⟨g,cur,hb⟩|⟨g,es,cl,hmp⟩
 rotate_left 2
 ·rw [hmp.dj] at hv;cases hv
 ·have hkm:=c6 (nu:=nu) (o:=o) (w:=w) id;have hkr:=kW h id
  have hv': ∀b,cr (Value.slice none 0 0)=some b->w.heap.size<=b:=fun b e=>by cases e
  have hpm:=eo (nu:=nu) (o:=o.set id none) (ob:=⟨ob.T,ob.z,ob.dj,[]⟩) (Below.refl w.heap.size w) hv';have hpr:=jz (ob:=⟨ob.T,ob.z,ob.dj,[]⟩) hkr (Below.refl w.heap.size w) hv' (.inl ⟨hv,rfl,rfl⟩)
  have hk0:k=0:=by rw [e2] at hk;simpa using hk
  subst hk0;simp only [List.length_set] at hpm hpr;have er:ob.rows.take 0=[]:=rfl;rw [e2] at *;exact ⟨none,0,by simpa using e3,SY _,fun _=>rfl,fun a e=>(by cases e),hkm.trans hpm,hpr⟩
 ·obtain ⟨cap,c1,c2,c3,c4⟩:=hb.vec hv;have hbk:cr (nu id ob.hl)=some g:=hb.bn
  have hl:(o.set id none).length=o.length:=by simp
  have hkl:(ob.rows.take k).length=k:=by simp;omega
  generalize hob:({ ob with rows:=ob.rows.take k }:aa)=ob2
  have hob2:ob2.rows=ob.rows.take k∧ob2.z=ob.z∧ob2.dj=true∧ob2.T=ob.T:=by rw [<-hob];exact ⟨rfl,rfl,hv,rfl⟩
  have hh2:ob2.hl=k:=by rw [aa.hl,hob2.2.2.1,if_pos rfl,hob2.1,hkl]
  have hold: ∀id',id'<o.length->(o.set id none++[some ob2])[id']? = (o.set id none)[id']? :=fun id' h=>S8 (by rw [hl];exact h)
  have hnew:(o.set id none++[some ob2])[o.length]? = some (some ob2):=by rw [<-hl,Ta]
  have hm:bl nu o w (eO nu o.length (.slice (some ⟨g,0,none⟩) k cap)) (o.set id none++[some ob2]) w:=by
   refine ⟨rfl,rfl,rfl,SY _,fun id' len hh=> ?_,fun b hbl hno=> ?_⟩
   ·have hlt':=gI hh;obtain ⟨x,h1,h2⟩:=hh;refine ⟨?_,bP hlt'⟩
    by_cases he:id=id'
    ·subst he;exact ⟨none,by rw [hold _ hlt',List.getElem?_set_self hidl],fun _ e=>by cases e⟩
    ·exact ⟨x,by rw [hold _ hlt',List.getElem?_set_ne he];exact h1,h2⟩
   ·refine ⟨rfl,fun ⟨id',ob',h1,h2⟩=> ?_⟩
    rcases S9 id' o.length with q|q
    ·rw [hold _ q] at h1;rw [bP q] at h2;exact hno ⟨id',ob',(e8 h1).1,h2⟩
    ·obtain rfl:id'=o.length:=by
      have:=(S7.1 h1).1
      simp at this;omega
     rw [a6] at h2;cases h2;exact hno ⟨id,ob,ho,hbk⟩
  refine ⟨some ⟨g,0,none⟩,cap,c1,c2,fun e=>(by cases e),fun a e=>(by cases e;rfl),hm,fun id' ob' h1=> ?_,h.up,fun i1 i2 b1 b2 b k1 k2 hne k3 k4=> ?_,h.gl.mono hm (fun _ _ h=>h)⟩
  ·rcases S9 id' o.length with q|q
   ·rw [hold _ q] at h1;obtain ⟨h2,h3⟩:=e8 h1
    rcases h.obj id' ob' h2 with ⟨e1,e2,e3⟩|⟨g',c,hr'⟩|⟨g',es,cl,hmp⟩
    ·exact .inl ⟨e1,e2,by rw [bP q];exact e3⟩
    ·exact .inr (.inl ⟨g',c,hr'.cZ,hr'.j9,fun e=>by rw [bP q];exact hr'.box e,fun e=>by rw [bP q];exact hr'.vec e,hr'.z,hr'.row,fun i j row cc x q1 q2 q3=>(hr'.cell i j row cc x q1 q2 q3).mono hm (fun _ _ h=>h),hr'.one⟩)
    ·exact .inr (.inr ⟨g',es,cl,hmp.tr rfl (fun h=>h) (bP q) (fun i j row c x _ _ hr=>hr.mono hm (fun _ _ h=>h))⟩)
   ·obtain rfl:id'=o.length:=by
     have:=(S7.1 h1).1
     simp at this;omega
    rw [hnew] at h1;cases h1
    have hg: ∀(i:Nat) row,ob2.rows[i]? = some row->ob.rows[i]? = some row:=fun i row hi=>by
     rw [hob2.1,List.getElem?_take] at hi
     split at hi
     ·exact hi
     ·cases hi
    refine .inr (.inl ⟨g,cur,by rw [hob2.2.2.2];exact hb.cZ,hb.j9,fun e=>(by rw [hob2.2.2.1] at e;cases e),fun _=>⟨cap,by rw [a6,hob2.1,hkl],by rw [hob2.1,hkl];omega,c3,by rw [hob2.2.1];exact c4⟩,by rw [hob2.2.1];exact hb.z,fun i row hi=>by rw [hob2.2.1];exact hb.row i row (hg i row hi),fun i j row c x q1 q2 q3=> ?_,fun i j row c x q1 q2 q3=> ?_⟩)
    ·rw [hob2.2.1] at q3;exact (hb.cell i j row c x (hg i row q1) q2 q3).mono hm (fun _ _ h=>h)
    ·rw [hob2.2.1] at q3;exact hb.one i j row c x (hg i row q1) q2 q3
  ·have side: ∀i1 i2 b1 b2,(o.set id none++[some ob2])[i1]? = some (some b1)->(o.set id none++[some ob2])[i2]? = some (some b2)->i1<o.length->o.length<=i2->cr (eO nu o.length (.slice (some ⟨g,0,none⟩) k cap) i1 b1.hl)=some b->cr (eO nu o.length (.slice (some ⟨g,0,none⟩) k cap) i2 b2.hl)=some b->False:=fun i1 i2 b1 b2 k1 k2 l1 l2 k3 k4=>by
    obtain rfl:i2=o.length:=by
     have:=(S7.1 k2).1
     simp at this;omega
    rw [a6] at k4;cases k4;rw [hold _ l1] at k1;obtain ⟨h2,h3⟩:=e8 k1;rw [bP l1] at k3;exact h.sep id i1 ob b1 _ ho h2 h3 hbk k3
   rcases S9 i1 o.length with l1|l1
   ·rcases S9 i2 o.length with l2|l2
    ·rw [hold _ l1] at k1;rw [hold _ l2] at k2;rw [bP l1] at k3;rw [bP l2] at k4;exact h.sep i1 i2 b1 b2 b (e8 k1).1 (e8 k2).1 hne k3 k4
    ·exact side i1 i2 b1 b2 k1 k2 l1 l2 k3 k4
   ·rcases S9 i2 o.length with l2|l2
    ·exact side i2 i1 b2 b1 k2 k1 l2 l1 k4 k3
    ·have e1:=(S7.1 k1).1;have e2:=(S7.1 k2).1;simp at e1 e2;omega
theorem KO {oo:Oper} {s:AS} {T:TypeId} {x h:Operand} {id len:Nat} {ob:aa} {kk:IntKind} {k:Nat} (hop:oo.op = .slice T x none (some h) none) (hx:s.ev x = .vec id len) (hh:s.ev h = .v (.int kk k)) (ho:s.o[id]? = some (some ob)) (hv:ob.dj=true) (hl:ob.rows.length=len) (hz:Oc P T=some ob.z) (hk:k<=len) :
  Kt P oo s (.vec s.o.length k) (s.o.set id none++[some { ob with rows:=ob.rows.take k }]):=fun f D nu a w hs=>by
 subst hl;obtain ⟨ad,cap,c1,c2,c3,c4,hm,hr⟩:=Is hs.ro ho hv hk;have ex:=hs.ev x;rw [hx] at ex
 have ex':a.eval x=nu id ob.rows.length:=by
  generalize a.eval x=y at ex;cases ex;rfl
 have eh:a.eval h = .int kk k:=(hs.ev h).Kg hh;obtain ⟨e,hu,hsz⟩:=kG hz;have hb:=cv (P:=P) (w:=w) (b:=true) (len:=ob.rows.length) (cap:=cap) (l:=0) (h:=k) (m:=cap) (lo:=none) (hi:=some (.int kk k)) (mx:=none) (.inl ⟨rfl,rfl⟩) (.inr ⟨kk,rfl⟩) (.inl ⟨rfl,rfl⟩) (Nat.zero_le _) (by omega) (SY _)
 have hlen:(ob.rows.take k).length=k:=by simp;omega
 refine ⟨.slice ad k cap,w,_, ?_,hm,hr, ?_⟩
 ·simp only [execOp,hop];simp only [Sem.run_bind,Option.map_some,Option.map_none,ex',c1,eh]
  cases ad with
  | none=>
   have:=c3 rfl
   subst this;simp [Instr.sliceAt,Instr.slice,run_underlying hu,hb,run_sizeOf hsz]
  | some a=>
   have:=c4 a rfl
   obtain ⟨g,off,fr⟩:=a;simp only at this;subst this;simp [Instr.sliceAt,Instr.slice,run_underlying hu,hb,run_sizeOf hsz,Addr.add]
 ·have:=RA.vec (D:=D) (nu:=eO nu s.o.length (.slice ad k cap)) (o:=(s.o.set id none++[some { ob with rows:=ob.rows.take k }])) (w:=w) s.o.length k ⟨some { ob with rows:=ob.rows.take k },by rw [<-List.length_set (i:=id) (a:=none),Ta],fun x hx=>by cases hx;simp [aa.hl,hv,hlen]⟩ (by rw [a6];rfl)
  rw [a6] at this;exact this
theorem u9 {n id:Nat} {ob:aa} (h:(o++List.replicate n none)[id]? = some (some ob)):o[id]? = some (some ob):=by
 rcases S9 id o.length with q|q
 ·rwa [S8 q] at h
 ·rw [List.getElem?_append_right q,List.getElem?_replicate] at h
  split at h<;>cases h
theorem rb (n:Nat):bl nu o w nu (o++List.replicate n none) w:=⟨rfl,rfl,rfl,SY _,fun id len hh=>⟨by
 obtain ⟨x,h1,h2⟩:=hh
 exact ⟨x,by rw [S8 (S7.1 h1).1];exact h1,h2⟩,rfl⟩,fun b _ hno=>⟨rfl,fun ⟨id,ob,h1,h2⟩=>hno ⟨id,ob,u9 h1,h2⟩⟩⟩
theorem Ld (h:RO D nu o w) (n:Nat):RO D nu (o++List.replicate n none) w:=by
 have hm:=rb (nu:=nu) (o:=o) (w:=w) n;refine ⟨fun id ob k1=> ?_,h.up,fun i1 i2 b1 b2 b k1 k2=>h.sep i1 i2 b1 b2 b (u9 k1) (u9 k2),h.gl.mono hm (fun _ _ h=>h)⟩
 rcases h.obj id ob (u9 k1) with e|⟨g,cur,hr⟩|⟨g,es,cl,hmp⟩
 ·exact .inl e
 ·exact .inr (.inl ⟨g,cur,hr.cZ,hr.j9,hr.box,hr.vec,hr.z,hr.row,fun i j row c x q1 q2 q3=>(hr.cell i j row c x q1 q2 q3).mono hm (fun _ _ h=>h),hr.one⟩)
 ·exact .inr (.inr ⟨g,es,cl,hmp.tr rfl (fun h=>h) rfl (fun i j row c x _ _ hr=>hr.mono hm (fun _ _ h=>h))⟩)
theorem aR.pad {f:FuncId} {args:List AV} {o1:List (Option aa)} {r:AV} (h:aR P f args o r o1) (n:Nat):aR P f args o r (o1++List.replicate n none):=
 ⟨h.1,fun D nu w vargs hro hra=>(h.2 D nu w vargs hro hra).mono (by
  rintro e w' ⟨v,nu',o',r',rfl,hm,hr,hx,rfl,rfl⟩
  exact ⟨v,nu',_,r',rfl,hm.trans (rb n),Ld hr n,hx.mono (rb n) (fun _ _ h=>h),rfl,rfl⟩)⟩
end
end
end Go.Proofs.YtlhhccmopfamhaaGreatDoor
