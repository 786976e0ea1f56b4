/- texts of one claim, one behind the other. -/
import Derived.Attr
import Derived.WalkKit
import Derived.Lib.Hide
import Derived.Maps.AppendAt
import Derived.Laws.Tables
import Derived.Laws.StructEq
import Derived.MapKept
import Derived.WalkSpells
import Derived.WalkLawsBesides
import Derived.Still
import Derived.Tactics
import Derived.KernelRfl
import Derived.StillTactics
import Derived.RangeFuncNested
import Derived.RangeFuncLeaves
import Derived.RangeFuncRecord
set_option linter.unusedSimpArgs false
set_option linter.unusedVariables false
set_option maxRecDepth 100000
set_option maxHeartbeats 16000000
open Option.some renaming inj -> UY, injEq -> Ve
open Array renaming getElem?_eq_some_iff -> U2, getElem?_eq_getElem -> Vh, length_toList -> Vu, getElem?_append_left -> VE, getElem?_range -> VH, getElem?_extract -> VI, getElem?_push_lt -> VO, getElem?_push_size -> VP, getElem?_push -> VQ, all_eq_true_iff_forall_mem -> VU, getD_eq_getD_getElem? -> VV
open List renaming length_nil -> U3, getElem?_eq_some_iff -> U4, getElem?_append_left -> U5, getElem?_concat_length -> U7, length_append -> U8, length_cons -> U9, getElem?_drop -> Vg, getElem?_eq_getElem -> Vi, getElem?_take -> Vj, getElem?_toArray -> Vk, getElem?_map -> Vl, getElem?_range -> Vm, getElem?_eq_none -> Vn, getElem?_set_ne -> Vp, getElem?_set_self -> Vq, getElem?_of_mem -> Vr, size_toArray -> Vs, length_take -> Vt, append_assoc -> Vv, getElem?_take_of_lt -> Vx, getElem?_append_right -> Vy, mem_of_getElem? -> VD, eq_nil_of_length_eq_zero -> VF, getElem?_replicate -> VG, length_eq_one_iff -> VJ, drop_eq_nil_of_le -> VK, headD_cons -> VL
open Nat renaming le_refl -> UZ, le_trans -> U0, lt_of_lt_of_le -> U1, lt_or_ge -> U6, zero_le -> Va, mul_le_mul_right -> Vb, add_mul -> Vc, one_mul -> Vd, add_zero -> Vo, mul_comm -> Vz, div_lt_of_lt_mul -> VA, zero_add -> VR
open Ne renaming symm -> VC
open Option renaming map_some -> VB, map_eq_some_iff -> VM
open Prod.mk renaming injEq -> Vf
open Bool renaming true_eq -> VN, and_eq_true -> VS
namespace Go.Proofs.YtlhhccmopfamhaaGreatDoor
open Go.RowKit
attribute [go_sem_proc] Nat.reduceAdd Nat.reduceSub Nat.reduceMul Nat.reduceLeDiff Nat.reduceEqDiff Nat.reduceLT Int.reduceToNat reduceCtorEq Int.reduceLE Int.reduceLT Int.reduceNeg Int.reduceEq Int.reduceBEq Int.reduceBNe
attribute [go_sem_proc ↓] reduceIte
/-- the variables that are laid -/ def tU (g:Nat):Option (TypeId×Array Value):=
 if g=0 then some (301, #[.int .u8 0, .int .u8 1, .int .u8 28, .int .u8 2, .int .u8 29, .int .u8 14, .int .u8 24, .int .u8 3, .int .u8 30, .int .u8 22, .int .u8 20, .int .u8 15, .int .u8 25, .int .u8 17, .int .u8 4, .int .u8 8, .int .u8 31, .int .u8 27, .int .u8 13, .int .u8 23, .int .u8 21, .int .u8 19, .int .u8 16, .int .u8 7, .int .u8 26, .int .u8 12, .int .u8 18, .int .u8 6, .int .u8 11, .int .u8 5, .int .u8 10, .int .u8 9]) else
 if g=1 then some (311, #[.int .u64 1, .int .u64 10, .int .u64 100, .int .u64 1000, .int .u64 10000, .int .u64 100000, .int .u64 1000000, .int .u64 10000000, .int .u64 100000000, .int .u64 1000000000, .int .u64 10000000000, .int .u64 100000000000, .int .u64 1000000000000, .int .u64 10000000000000, .int .u64 100000000000000, .int .u64 1000000000000000, .int .u64 10000000000000000, .int .u64 100000000000000000, .int .u64 1000000000000000000, .int .u64 10000000000000000000]) else
 none
theorem D8 (g:Nat) (T:TypeId) (cs:Array Value) (h:tU g=some (T,cs)): ∀(i:Nat) x,cs[i]? = some x->x.oneCell'=true:=by
 intro i x hx;have key: ∀l:Array Value,cs=l->l.toList.all (fun v=>v.oneCell')=true->x.oneCell'=true:=fun l e hl=>List.all_eq_true.1 hl x (List.mem_of_getElem? (by subst e;simpa using hx))
 by_cases hg:g=0
 ·rw [tU,if_pos hg] at h;exact key _ (Prod.mk.inj (UY h)).2.symm (by rfl)
 rw [tU,if_neg hg] at h
 by_cases hg:g=1
 ·rw [if_pos hg] at h;exact key _ (Prod.mk.inj (UY h)).2.symm (by rfl)
 rw [if_neg hg] at h;cases h
inductive AV where
 | undef
 | v (x:Value)
 | agg (cs:List AV)
 | cy (vs:List AV)
 | aH (z:Nat) (rows:List (List AV)) (len:Nat)
 | vp (cs:List AV)
 | ptr (id len z row off:Nat)
 | vec (id len:Nat)
 | fn (g:FuncId) (first caps:List AV)
 | full (a:AV)
 | gu (p:(Nat->Prop)->World->Value->Prop) (a:AV)
 | mp (rows:List (List AV))
structure aa where
 T:TypeId
 z:Nat
 du:Bool
 rows:List (List AV)
def aa.hl (ob:aa):Nat:=if ob.du then ob.rows.length else 0
inductive iW where
 | no
 | run (l:Nat) (rest:List (List AV))
 | off
structure AS where
 t:List AV
 o:List (Option aa)
 y:iW
def dc:Value->Option Nat
 | .pointer (some a)=>some a.block
 | .slice (some a) _ _=>some a.block
 | _=>none
def b9:Value->Option Nat
 | .map b=>b
 | v=>dc v
theorem JO {v:Value} {b:Nat} (h:dc v=some b):b9 v=some b:=by cases v<;>first|exact h|cases h
def AV.st:AV->AV
 | .full a=>a
 | .gu _ a=>a
 | a=>a
def c7 (o:List (Option aa)) (id len:Nat):Prop:= ∃ob,o[id]? = some ob∧ ∀x,ob=some x->len<=x.hl
def owned (nu:Nat->Nat->Value) (o:List (Option aa)) (b:Nat):Prop:= ∃id ob,o[id]? = some (some ob)∧b9 (nu id ob.hl)=some b
def Fz (D:Nat->Prop) (nu:Nat->Nat->Value) (o:List (Option aa)) (w:World) (b:Nat):Prop:=b<w.heap.size∧ ¬owned nu o b∧D b
def LF (e:MapEntry):Nat->Value
 | 0=>e.key
 | _=>e.val
inductive RA (D:Nat->Prop) (nu:Nat->Nat->Value) (o:List (Option aa)) (w:World):AV->Value->Prop
 | undef (x:Value):RA D nu o w .undef x
 | v (x:Value):RA D nu o w (.v x) x
 | agg (cs:List AV) (xs:Array Value):cs.length=xs.size->(∀(i:Nat) c x,cs[i]? = some c->xs[i]? = some x->RA D nu o w c x)->(∀(i:Nat) x,xs[i]? = some x->x.oneCell'=true)->RA D nu o w (.agg cs) (.agg xs)
 | cy (cs:List AV) (xs:Array Value):cs.length=xs.size->(∀(i:Nat) c x,cs[i]? = some c->xs[i]? = some x->RA D nu o w c x)->RA D nu o w (.cy cs) (.tuple xs)
 | br (z:Nat):RA D nu o w (.aH z [] 0) (.slice none 0 0)
 | bz (z:Nat) (a:Addr):RA D nu o w (.aH z [] 0) (.slice (some a) 0 0)
 | aH (z:Nat) (rows:List (List AV)) (len b off cap:Nat) (f:Nat->Nat->Value):len<=rows.length->rows.length<=cap->cap<=maxLen->(rows≠[]->Fz D nu o w b) ->
   (∀(i:Nat) row,rows[i]? = some row->row.length=z)->(∀(i j:Nat) row c,rows[i]? = some row->row[j]? = some c->w.cell? ⟨b,off+i * z+j,none⟩=some (f i j)) ->
   (∀(i j:Nat) row c,rows[i]? = some row->row[j]? = some c->RA D nu o w c (f i j))->(∀(i j:Nat) row c,rows[i]? = some row->row[j]? = some c->(f i j).oneCell'=true) ->
   RA D nu o w (.aH z rows len) (.slice (some ⟨b,off,none⟩) len cap)
 | vp (cs:List AV) (b off:Nat) (f:Nat->Value):Fz D nu o w b->(∀(j:Nat) c,cs[j]? = some c->w.cell? ⟨b,off+j,none⟩=some (f j))->(∀(j:Nat) c,cs[j]? = some c->RA D nu o w c (f j)) ->
   (∀(j:Nat) c,cs[j]? = some c->(f j).oneCell'=true)->RA D nu o w (.vp cs) (.pointer (some ⟨b,off,none⟩))
 | ptr (id len z row off b:Nat):c7 o id len->dc (nu id len)=some b->RA D nu o w (.ptr id len z row off) (.pointer (some ⟨b,row * z+off,none⟩))
 | vec (id len:Nat):c7 o id len->(nu id len).oneCell'=true->RA D nu o w (.vec id len) (nu id len)
 | fn (g:FuncId) (first caps:List AV) (fi ca:Array Value):first.length=fi.size->caps.length=ca.size->(∀(i:Nat) c x,first[i]? = some c->fi[i]? = some x->RA D nu o w c x) ->
   (∀(i:Nat) c x,caps[i]? = some c->ca[i]? = some x->RA D nu o w c x)->RA D nu o w (.fn g first caps) (.func (.func g) fi ca)
 | full (a:AV) (x:Value):(∃ad n,x = .slice ad n n)->RA D nu o w a x->RA D nu o w (.full a) x
 | gu (p:(Nat->Prop)->World->Value->Prop) (a:AV) (x:Value) (S:Nat->Prop):x.oneCell'=true->(∀b,S b->Fz D nu o w b)->(∀b,S b-> ∃C T k,w.heap[b]? = some (.cells C T k))->(∀w':World,(∀b,S b->w'.heap[b]? = w.heap[b]?)->p S w' x)->RA D nu o w a x->RA D nu o w (.gu p a) x
 | mp (rows:List (List AV)) (b:Nat) (es:Array MapEntry) (cl:Nat):Fz D nu o w b->w.heap[b]? = some (.map es cl)->es.size=rows.length->(∀(i:Nat) row,rows[i]? = some row->row.length=2)->(∀(i:Nat) e,es[i]? = some e->e.born<cl) ->
   (∀(i j:Nat) e e',es[i]? = some e->es[j]? = some e'->i<j->e.born<e'.born)->(∀(i j:Nat) row c e,rows[i]? = some row->row[j]? = some c->es[i]? = some e->RA D nu o w c (LF e j))->RA D nu o w (.mp rows) (.map (some b))
theorem RA.st {D:Nat->Prop} {nu:Nat->Nat->Value} {o:List (Option aa)} {w:World} {a:AV} {x:Value} (h:RA D nu o w a x):RA D nu o w a.st x:=by
 cases h with
 | full a x h1 h2=>exact h2
 | gu p a x S h0 h1 hc h2 h3=>exact h3
 | mp rows b es cl h1 h2 h3 h4 h5 h6 h7=>exact .mp rows b es cl h1 h2 h3 h4 h5 h6 h7
 | undef=>exact .undef _
 | v=>exact .v _
 | agg cs xs h1 h2 h3=>exact .agg cs xs h1 h2 h3
 | cy cs xs h1 h2=>exact .cy cs xs h1 h2
 | br z=>exact .br z
 | bz z a=>exact .bz z a
 | aH z rows len b off cap f h1 h2 h3 h4 h5 h6 h7 h8=>exact .aH z rows len b off cap f h1 h2 h3 h4 h5 h6 h7 h8
 | vp cs b off f h1 h2 h3 h4=>exact .vp cs b off f h1 h2 h3 h4
 | ptr id len z row off b h1 h2=>exact .ptr id len z row off b h1 h2
 | vec id len h1 h2=>exact .vec id len h1 h2
 | fn g first caps fi ca h1 h2 h3 h4=>exact .fn g first caps fi ca h1 h2 h3 h4
structure fE (D:Nat->Prop) (nu:Nat->Nat->Value) (o:List (Option aa)) (w:World) (cs:List AV) (xs:Array Value):Prop where
 len:cs.length=xs.size
 at': ∀(i:Nat) c x,cs[i]? = some c->xs[i]? = some x->RA D nu o w c x
structure bt (nu:Nat->Nat->Value) (o:List (Option aa)) (w:World) (nu':Nat->Nat->Value) (o':List (Option aa)) (w':World):Prop where
 os:w'.os=w.os
 tape:w'.tape=w.tape
 output:w'.output=w.output
 size:w.heap.size<=w'.heap.size
 p8: ∀id len,c7 o id len->c7 o' id len∧nu' id len=nu id len
 keep: ∀b,b<w.heap.size-> ¬owned nu o b->w'.heap[b]? = w.heap[b]? ∧ ¬owned nu' o' b
theorem bt.refl (nu:Nat->Nat->Value) (o:List (Option aa)) (w:World):bt nu o w nu o w:=⟨rfl,rfl,rfl,UZ _,fun _ _ h=>⟨h,rfl⟩,fun _ _ h=>⟨rfl,h⟩⟩
theorem bt.trans {nu nu1 nu2:Nat->Nat->Value} {o o1 o2:List (Option aa)} {w w1 w2:World} (h:bt nu o w nu1 o1 w1) (k:bt nu1 o1 w1 nu2 o2 w2):bt nu o w nu2 o2 w2:=
 ⟨k.os.trans h.os,k.tape.trans h.tape,k.output.trans h.output,U0 h.size k.size,fun id len hh=>by
  obtain ⟨h1,h2⟩:=h.p8 id len hh;obtain ⟨h3,h4⟩:=k.p8 id len h1
  exact ⟨h3,h4.trans h2⟩,fun b hb ho=>by
  obtain ⟨h1,h2⟩:=h.keep b hb ho;obtain ⟨h3,h4⟩:=k.keep b (U1 hb h.size) h2
  exact ⟨h3.trans h1,h4⟩⟩
theorem bt.fz {D D':Nat->Prop} {nu nu':Nat->Nat->Value} {o o':List (Option aa)} {w w':World} (h:bt nu o w nu' o' w') (hD: ∀b,b<w.heap.size->D b->D' b) {b:Nat} (hb:Fz D nu o w b):Fz D' nu' o' w' b:=
 ⟨U1 hb.1 h.size,(h.keep b hb.1 hb.2.1).2,hD b hb.1 hb.2.2⟩
theorem RA.mono {D D':Nat->Prop} {nu nu':Nat->Nat->Value} {o o':List (Option aa)} {w w':World} (h:bt nu o w nu' o' w') (hD: ∀b,b<w.heap.size->D b->D' b) {a:AV} {x:Value} (hr:RA D nu o w a x):RA D' nu' o' w' a x:=by
 induction hr with
 | undef x=>exact .undef x
 | v x=>exact .v x
 | agg cs xs h1 _ h3 ih=>exact .agg cs xs h1 ih h3
 | cy cs xs h1 _ ih=>exact .cy cs xs h1 ih
 | br z=>exact .br z
 | bz z a=>exact .bz z a
 | aH z rows len b off cap f h1 h2 h3 h4 h5 h6 _ h8 ih=>
  refine .aH z rows len b off cap f h1 h2 h3 (fun hne=>h.fz hD (h4 hne)) h5 (fun i j row c hr hc=> ?_) ih h8
  have hne:rows≠[]:=fun e=>by subst e;simp at hr
  have hf:=h4 hne;rw [World.cell?_of_block (w:=w) (h.keep b hf.1 hf.2.1).1];exact h6 i j row c hr hc
 | vp cs b off f h1 h2 _ h4 ih=>
  refine .vp cs b off f (h.fz hD h1) (fun j c hc=> ?_) ih h4;rw [World.cell?_of_block (w:=w) (h.keep b h1.1 h1.2.1).1];exact h2 j c hc
 | ptr id len z row off b h1 h2=>
  obtain ⟨h3,h4⟩:=h.p8 id len h1;exact .ptr id len z row off b h3 (by rw [h4];exact h2)
 | vec id len h1 h2=>
  obtain ⟨h3,h4⟩:=h.p8 id len h1;rw [<-h4];exact .vec id len h3 (by rw [h4];exact h2)
 | fn g first caps fi ca h1 h2 _ _ ih1 ih2=>exact .fn g first caps fi ca h1 h2 ih1 ih2
 | full a x h1 _ ih=>exact .full a x h1 ih
 | gu p a x S h0 h1 hc h2 _ ih=>exact .gu p a x S h0 (fun b hb=>h.fz hD (h1 b hb)) (fun b hb=>by rw [(h.keep b (h1 b hb).1 (h1 b hb).2.1).1];exact hc b hb) (fun w2 hw=>h2 w2 (fun b hb=>(hw b hb).trans (h.keep b (h1 b hb).1 (h1 b hb).2.1).1)) ih
 | mp rows b es cl h1 h2 h3 h4 h5 h6 _ ih=>exact .mp rows b es cl (h.fz hD h1) ((h.keep b h1.1 h1.2.1).1.trans h2) h3 h4 h5 h6 ih
theorem fE.mono {D D':Nat->Prop} {nu nu':Nat->Nat->Value} {o o':List (Option aa)} {w w':World} (h:bt nu o w nu' o' w') (hD: ∀b,b<w.heap.size->D b->D' b) {cs:List AV} {xs:Array Value} (hr:fE D nu o w cs xs):fE D' nu' o' w' cs xs:=
 ⟨hr.len,fun i c x h1 h2=>(hr.at' i c x h1 h2).mono h hD⟩
structure sO (D:Nat->Prop) (nu:Nat->Nat->Value) (o:List (Option aa)) (w:World) (id:Nat) (ob:aa) (g:Nat) (cur:Array Value):Prop where
 blk:w.heap[g]? = some (.cells cur ob.T (0,0))
 ko:D g
 box:ob.du=false->nu id 0 = .pointer (some ⟨g,0,none⟩)∧ob.rows.length=1∧cur.size=ob.z
 vec:ob.du=true-> ∃cap,nu id ob.rows.length = .slice (some ⟨g,0,none⟩) ob.rows.length cap∧ob.rows.length<=cap∧cap<=maxLen∧cur.size=cap * ob.z
 z:0<ob.z
 row: ∀(i:Nat) row,ob.rows[i]? = some row->row.length=ob.z
 cell: ∀(i j:Nat) row c x,ob.rows[i]? = some row->row[j]? = some c->cur[i * ob.z+j]? = some x->RA D nu o w c x
 one: ∀(i j:Nat) row c x,ob.rows[i]? = some row->row[j]? = some c->cur[i * ob.z+j]? = some x->x.oneCell'=true
structure tw (D:Nat->Prop) (nu:Nat->Nat->Value) (o:List (Option aa)) (w:World) (id:Nat) (ob:aa) (g:Nat) (es:Array MapEntry) (clock:Nat):Prop where
 blk:w.heap[g]? = some (.map es clock)
 ko:D g
 p8:nu id 0 = .map (some g)
 du:ob.du=false
 z:ob.z=0
 sz:es.size=ob.rows.length
 row: ∀(i:Nat) row,ob.rows[i]? = some row->row.length=2
 key: ∀(i:Nat) row c e,ob.rows[i]? = some row->row[0]? = some c->es[i]? = some e->RA D nu o w c e.key
 val: ∀(i:Nat) row c e,ob.rows[i]? = some row->row[1]? = some c->es[i]? = some e->RA D nu o w c e.val
 born: ∀(i:Nat) e,es[i]? = some e->e.born<clock
 iC: ∀(i j:Nat) e e',es[i]? = some e->es[j]? = some e'->i<j->e.born<e'.born
def dU (D:Nat->Prop) (nu:Nat->Nat->Value) (o:List (Option aa)) (w:World):Prop:= ∀g T cs,tU g=some (T,cs)->(∃t,w.heap[g]? = some (.cells cs t (0,0)))∧ ¬owned nu o g∧D g
theorem dU.keep {D D':Nat->Prop} {nu nu':Nat->Nat->Value} {o o':List (Option aa)} {w w':World} (h:dU D nu o w) (hk: ∀b,b<w.heap.size-> ¬owned nu o b->D b->w'.heap[b]? = w.heap[b]? ∧ ¬owned nu' o' b∧D' b):dU D' nu' o' w':=fun g T cs hg=>by
 obtain ⟨⟨t,h1⟩,h2,h3⟩:=h g T cs hg;obtain ⟨k1,k2,k3⟩:=hk g (U2.1 h1).1 h2 h3;exact ⟨⟨t,k1.trans h1⟩,k2,k3⟩
theorem dU.fz {D D':Nat->Prop} {nu nu':Nat->Nat->Value} {o o':List (Option aa)} {w w':World} (h:dU D nu o w) (hF: ∀b,Fz D nu o w b->w'.heap[b]? = w.heap[b]? ∧Fz D' nu' o' w' b):dU D' nu' o' w':=
 h.keep fun b hb ho hd=>⟨(hF b ⟨hb,ho,hd⟩).1,(hF b ⟨hb,ho,hd⟩).2.2⟩
theorem rZ (nu:Nat->Nat->Value) (b:Nat): ¬owned nu [] b:=fun ⟨id,ob,h,_⟩=>by simp at h
theorem dU.nil {D D':Nat->Prop} {nu nu':Nat->Nat->Value} {o:List (Option aa)} {w:World} (h:dU D nu o w) (hD: ∀b,b<w.heap.size->D b->D' b):dU D' nu' [] w:=h.keep fun b hb _ hd=>⟨rfl,rZ _ _,hD b hb hd⟩
theorem dU.mono {D D':Nat->Prop} {nu nu':Nat->Nat->Value} {o o':List (Option aa)} {w w':World} (h:dU D nu o w) (hm:bt nu o w nu' o' w') (hD: ∀b,b<w.heap.size->D b->D' b):dU D' nu' o' w':=
 h.keep fun b hb ho hd=>⟨(hm.keep b hb ho).1,(hm.keep b hb ho).2,hD b hb hd⟩
structure RO (D:Nat->Prop) (nu:Nat->Nat->Value) (o:List (Option aa)) (w:World):Prop where
 obj: ∀id ob,o[id]? = some (some ob)->(ob.du=true∧ob.rows=[]∧nu id 0 = .slice none 0 0)∨(∃g cur,sO D nu o w id ob g cur)∨ ∃g es clock,tw D nu o w id ob g es clock
 up: ∀b,w.heap.size<=b->D b
 sep: ∀id id' ob ob' b,o[id]? = some (some ob)->o[id']? = some (some ob')->id≠id'->b9 (nu id ob.hl)=some b->b9 (nu id' ob'.hl)≠some b
 gl:dU D nu o w
theorem RO.nil (D:Nat->Prop) (nu:Nat->Nat->Value) (w:World) (up: ∀b,w.heap.size<=b->D b) (gl:dU D nu [] w):RO D nu [] w:=⟨fun id ob h=>by simp at h,up,fun id id' ob ob' b h=>by simp at h,gl⟩
theorem bd (nu:Nat->Nat->Value) (b:Nat): ¬owned nu [] b:=fun ⟨id,ob,h,_⟩=>by simp at h
theorem sO.nj {D:Nat->Prop} {nu:Nat->Nat->Value} {o:List (Option aa)} {w:World} {id:Nat} {ob:aa} {g:Nat} {cur:Array Value} (h:sO D nu o w id ob g cur):dc (nu id ob.hl)=some g:=by
 cases hv:ob.du
 ·simp only [aa.hl,hv,Bool.false_eq_true,if_false];rw [(h.box hv).1];rfl
 ·obtain ⟨cap,h1,_⟩:=h.vec hv;simp only [aa.hl,hv,if_true];rw [h1];rfl
theorem sO.bg {D:Nat->Prop} {nu:Nat->Nat->Value} {o:List (Option aa)} {w:World} {id:Nat} {ob:aa} {g:Nat} {cur:Array Value} (h:sO D nu o w id ob g cur):b9 (nu id ob.hl)=some g:=JO h.nj
theorem tw.hl {D:Nat->Prop} {nu:Nat->Nat->Value} {o:List (Option aa)} {w:World} {id:Nat} {ob:aa} {g clock:Nat} {es:Array MapEntry} (h:tw D nu o w id ob g es clock):ob.hl=0:=by simp [aa.hl,h.du]
theorem tw.bg {D:Nat->Prop} {nu:Nat->Nat->Value} {o:List (Option aa)} {w:World} {id:Nat} {ob:aa} {g clock:Nat} {es:Array MapEntry} (h:tw D nu o w id ob g es clock):b9 (nu id ob.hl)=some g:=by rw [h.hl,h.p8];rfl
theorem tw.Hl {D:Nat->Prop} {nu:Nat->Nat->Value} {o:List (Option aa)} {w:World} {id:Nat} {ob:aa} {g clock:Nat} {es:Array MapEntry} (h:tw D nu o w id ob g es clock) {len:Nat} (hl:len<=ob.hl) {b:Nat}:dc (nu id len)≠some b:=by
 have:=h.hl
 obtain rfl:len=0:=by omega
 rw [h.p8];exact fun e=>by cases e
theorem tw.tr {D D':Nat->Prop} {nu nu':Nat->Nat->Value} {o o':List (Option aa)} {w w':World} {id id':Nat} {ob:aa} {g clock:Nat} {es:Array MapEntry} (h:tw D nu o w id ob g es clock) (hb:w'.heap[g]? = w.heap[g]?) (hd:D g->D' g) (hn:nu' id' 0=nu id 0)
  (hr: ∀(i j:Nat) row c x,ob.rows[i]? = some row->row[j]? = some c->RA D nu o w c x->RA D' nu' o' w' c x):tw D' nu' o' w' id' ob g es clock:=
 ⟨hb.trans h.blk,hd h.ko,hn.trans h.p8,h.du,h.z,h.sz,h.row,fun i row c e q1 q2 q3=>hr i 0 row c _ q1 q2 (h.key i row c e q1 q2 q3),fun i row c e q1 q2 q3=>hr i 1 row c _ q1 q2 (h.val i row c e q1 q2 q3),h.born,h.iC⟩
theorem tw.rows {D D':Nat->Prop} {nu nu':Nat->Nat->Value} {o o':List (Option aa)} {w w':World} {id id':Nat} {ob ob':aa} {g clock:Nat} {es:Array MapEntry} (h:tw D nu o w id ob g es clock) (hb:w'.heap[g]? = w.heap[g]?) (hd:D' g) (hn:nu' id' 0=nu id 0) (hV:ob'.du=ob.du) (hz:ob'.z=ob.z) (hl:ob'.rows.length=ob.rows.length)
  (hr: ∀(i:Nat) row',ob'.rows[i]? = some row'-> ∃row,ob.rows[i]? = some row∧row'.length=row.length∧ ∀(j:Nat) c',row'[j]? = some c'-> ∃c,row[j]? = some c∧ ∀x,RA D nu o w c x->RA D' nu' o' w' c' x):tw D' nu' o' w' id' ob' g es clock:=by
 refine ⟨hb.trans h.blk,hd,hn.trans h.p8,hV.trans h.du,hz.trans h.z,h.sz.trans hl.symm,fun i row hi=> ?_,fun i row c e q1 q2 q3=> ?_,fun i row c e q1 q2 q3=> ?_,h.born,h.iC⟩
 ·obtain ⟨row0,k1,k2,_⟩:=hr i row hi;rw [k2];exact h.row i row0 k1
 ·obtain ⟨row0,k1,_,k3⟩:=hr i row q1;obtain ⟨c0,k4,k5⟩:=k3 0 c q2;exact k5 _ (h.key i row0 c0 e k1 k4 q3)
 ·obtain ⟨row0,k1,_,k3⟩:=hr i row q1;obtain ⟨c0,k4,k5⟩:=k3 1 c q2;exact k5 _ (h.val i row0 c0 e k1 k4 q3)
theorem RO.a6 {D:Nat->Prop} {nu:Nat->Nat->Value} {o:List (Option aa)} {w:World} (h:RO D nu o w) {b:Nat} (hb:owned nu o b):b<w.heap.size:=by
 obtain ⟨id,ob,h1,h2⟩:=hb
 rcases h.obj id ob h1 with ⟨e1,e2,e3⟩|⟨g,cur,hr⟩|⟨g,es,cl,hmp⟩
 ·simp only [aa.hl,e1,e2,if_true,U3,e3,b9,dc] at h2;cases h2
 ·rw [hr.bg] at h2;cases h2;exact (U2.1 hr.blk).1
 ·rw [hmp.bg] at h2;cases h2;exact (U2.1 hmp.blk).1
theorem RO.same {D:Nat->Prop} {nu:Nat->Nat->Value} {o:List (Option aa)} {w w':World} (h:RO D nu o w) (hm:bt nu o w nu o w') (hk: ∀b,owned nu o b->w'.heap[b]? = w.heap[b]?):RO D nu o w':=
 ⟨fun id ob ho=>by
  rcases h.obj id ob ho with h1|⟨g,cur,hr⟩|⟨g,es,cl,hmp⟩
  ·exact .inl h1
  ·exact .inr (.inl ⟨g,cur,(hk g ⟨id,ob,ho,hr.bg⟩).trans hr.blk,hr.ko,hr.box,hr.vec,hr.z,hr.row,fun i j row c x h1 h2 h3=>(hr.cell i j row c x h1 h2 h3).mono hm (fun _ _ h=>h),hr.one⟩)
  ·exact .inr (.inr ⟨g,es,cl,hmp.tr (hk g ⟨id,ob,ho,hmp.bg⟩) (fun h=>h) rfl (fun i j row c x _ _ hr=>hr.mono hm (fun _ _ h=>h))⟩),fun b hb=>h.up b (U0 hm.size hb),h.sep,h.gl.mono hm (fun _ _ h=>h)⟩
theorem aw {nu:Nat->Nat->Value} {o:List (Option aa)} {w w':World} (hb:Below w.heap.size w w'):bt nu o w nu o w':=
 ⟨hb.os,hb.tape,hb.output,hb.size,fun _ _ h=>⟨h,rfl⟩,fun b hlt ho=>⟨hb.block b hlt,ho⟩⟩
theorem RO.below {D:Nat->Prop} {nu:Nat->Nat->Value} {o:List (Option aa)} {w w':World} (h:RO D nu o w) (hb:Below w.heap.size w w'):RO D nu o w':=
 h.same (aw hb) (fun b ho=>hb.block b (h.a6 ho))
def AV.cells? :AV->Option (List AV)
 | .undef=>none
 | .cy _=>none
 | .agg cs=>some cs
 | .v x=>if x.oneCell' then some [.v x] else none
 | a=>some [a]
theorem cells_one {x:Value} (h:x.oneCell'=true):x.cells = #[x]:=by cases x<;>first|rfl|cases h
structure Jj (D:Nat->Prop) (nu:Nat->Nat->Value) (o:List (Option aa)) (w:World) (cs:List AV) (xs:Array Value):Prop extends fE D nu o w cs xs where
 one: ∀(i:Nat) x,xs[i]? = some x->x.oneCell'=true
theorem RA.one {D:Nat->Prop} {nu:Nat->Nat->Value} {o:List (Option aa)} {w:World} {a:AV} {x:Value} (h:RA D nu o w a x) {cs:List AV} (hc:a.cells? = some cs):Jj D nu o w cs x.cells:=by
 have key:x.oneCell'=true->cs=[a]->Jj D nu o w cs x.cells:=fun h1 h2=>by
  subst h2;rw [cells_one h1]
  refine ⟨⟨rfl,fun i c y hi hy=> ?_⟩,fun i y hy=> ?_⟩
  ·cases i with
   | zero=>simp at hi hy;subst hi;subst hy;exact h
   | succ i=>simp at hi
  ·cases i with
   | zero=>simp at hy;subst hy;exact h1
   | succ i=>simp at hy
 cases h with
 | undef=>cases hc
 | cy=>cases hc
 | v=>simp only [AV.cells?] at hc;split at hc<;>cases hc;exact key ‹_› rfl
 | agg cs' xs h1 h2 h3=>cases hc;exact ⟨⟨h1,h2⟩,h3⟩
 | br=>cases hc;exact key rfl rfl
 | bz=>cases hc;exact key rfl rfl
 | aH=>cases hc;exact key rfl rfl
 | vp=>cases hc;exact key rfl rfl
 | ptr=>cases hc;exact key rfl rfl
 | vec id len h1 h2=>cases hc;exact key h2 rfl
 | fn=>cases hc;exact key rfl rfl
 | full b x h1 h2=>cases hc;exact key (by obtain ⟨ad,n,rfl⟩:=h1;rfl) rfl
 | gu p b x S h0=>cases hc;exact key h0 rfl
 | mp=>cases hc;exact key rfl rfl
def cN (nu:Nat->Nat->Value) (k:Nat) (v:Value):Nat->Nat->Value:=fun id len=>if id=k then v else nu id len
theorem gd {o:List (Option aa)} {id len:Nat} (h:c7 o id len):id<o.length:=by
 obtain ⟨ob,h1,_⟩:=h;exact (U4.1 h1).1
theorem ba {nu:Nat->Nat->Value} {k id len:Nat} {v:Value} (h:id<k):cN nu k v id len=nu id len:=by
 have:id≠k:=by omega
 simp [cN,this]
theorem aQ (nu:Nat->Nat->Value) (k len:Nat) (v:Value):cN nu k v k len=v:=by simp [cN]
theorem dv {nu:Nat->Nat->Value} {o:List (Option aa)} {w w':World} {v:Value} {ob:aa} (hb:Below w.heap.size w w') (hv: ∀b,b9 v=some b->w.heap.size<=b) :
  bt nu o w (cN nu o.length v) (o++[some ob]) w':=by
 refine ⟨hb.os,hb.tape,hb.output,hb.size,fun id len h=>⟨?_,ba (gd h)⟩,fun b hlt ho=>⟨hb.block b hlt, ?_⟩⟩
 ·obtain ⟨x,h1,h2⟩:=h;exact ⟨x,by rw [U5 (U4.1 h1).1];exact h1,h2⟩
 ·rintro ⟨id,ob',h1,h2⟩
  rcases U6 id o.length with hlt'|hge
  ·rw [U5 hlt'] at h1;rw [ba hlt'] at h2;exact ho ⟨id,ob',h1,h2⟩
  ·obtain rfl:id=o.length:=by
    have:=(U4.1 h1).1
    simp at this;omega
   rw [aQ] at h2
   have:=hv b h2
   omega
theorem gP {D:Nat->Prop} {nu:Nat->Nat->Value} {o:List (Option aa)} {w w':World} {v:Value} {ob:aa} (h:RO D nu o w) (hb:Below w.heap.size w w') (hv: ∀b,b9 v=some b->w.heap.size<=b)
  (hn:(ob.du=true∧ob.rows=[]∧v = .slice none 0 0)∨(∃g cur,sO D (cN nu o.length v) (o++[some ob]) w' o.length ob g cur)∨ ∃g es cl,tw D (cN nu o.length v) (o++[some ob]) w' o.length ob g es cl):RO D (cN nu o.length v) (o++[some ob]) w':=by
 have hm:=dv (nu:=nu) (o:=o) (ob:=ob) hb hv
 refine ⟨?_,fun b hlt=>h.up b (U0 hb.size hlt), ?_,h.gl.mono hm (fun _ _ h=>h)⟩
 ·intro id ob' ho
  rcases U6 id o.length with hlt|hge
  ·rw [U5 hlt] at ho
   rcases h.obj id ob' ho with ⟨e1,e2,e3⟩|⟨g,cur,hr⟩|⟨g,es,cl,hmp⟩
   ·exact .inl ⟨e1,e2,by rw [ba hlt];exact e3⟩
   ·refine .inr (.inl ⟨g,cur,(hb.block g (h.a6 ⟨id,ob',ho,hr.bg⟩)).trans hr.blk,hr.ko,fun e=> ?_,fun e=> ?_,hr.z,hr.row,fun i j row c x h1 h2 h3=>(hr.cell i j row c x h1 h2 h3).mono hm (fun _ _ h=>h),hr.one⟩)
    ·rw [ba hlt];exact hr.box e
    ·rw [ba hlt];exact hr.vec e
   ·exact .inr (.inr ⟨g,es,cl,hmp.tr (hb.block g (h.a6 ⟨id,ob',ho,hmp.bg⟩)) (fun h=>h) (ba hlt) (fun i j row c x _ _ hr=>hr.mono hm (fun _ _ h=>h))⟩)
  ·obtain rfl:id=o.length:=by
    have:=(U4.1 ho).1
    simp at this;omega
   rw [U7] at ho;cases ho
   rcases hn with ⟨e1,e2,e3⟩|hn
   ·exact .inl ⟨e1,e2,by rw [aQ];exact e3⟩
   ·exact .inr hn
 ·intro id id' ob1 ob2 b h1 h2 hne h3 h4;have l1:=(U4.1 h1).1;have l2:=(U4.1 h2).1;simp only [U8,U9,U3] at l1 l2
  rcases U6 id o.length with g1|g1
  ·rw [U5 g1] at h1;rw [ba g1] at h3
   rcases U6 id' o.length with g2|g2
   ·rw [U5 g2] at h2;rw [ba g2] at h4;exact h.sep id id' ob1 ob2 b h1 h2 hne h3 h4
   ·obtain rfl:id'=o.length:=by omega
    rw [aQ] at h4
    have:=hv b h4
    have:=h.a6 ⟨id,ob1,h1,h3⟩
    omega
  ·obtain rfl:id=o.length:=by omega
   rw [aQ] at h3
   have:=hv b h3
   rcases U6 id' o.length with g2|g2
   ·rw [U5 g2] at h2;rw [ba g2] at h4
    have:=h.a6 ⟨id',ob2,h2,h4⟩
    omega
   ·omega
def Good (D:Nat->Prop) (nu:Nat->Nat->Value) (o:List (Option aa)) (w:World) (res:Result Value) (r:AV) (o':List (Option aa)):Prop:=
 ∃v w' nu',res = .ok v w'∧bt nu o w nu' o' w'∧RO D nu' o' w'∧RA D nu' o' w' r v
theorem Good.pure {D:Nat->Prop} {nu:Nat->Nat->Value} {o:List (Option aa)} {w:World} {r:AV} {v:Value} (h:RO D nu o w) (hr:RA D nu o w r v) {res:Result Value} (he:res = .ok v w):Good D nu o w res r o:=
 ⟨v,w,nu,he, .refl nu o w,h,hr⟩
theorem GF {D:Nat->Prop} {nu:Nat->Nat->Value} {o:List (Option aa)} {w:World} (h:RO D nu o w) (T:TypeId) {cs:List AV} {xs:Array Value} (hc:Jj D nu o w cs xs) (hz:0<cs.length) :
  Good D nu o w (.ok (.pointer (some ⟨w.heap.size,0,none⟩)) (w.alloc (.cells xs T))) (.ptr o.length 0 cs.length 0 0) (o++[some ⟨T,cs.length,false,[cs]⟩]):=by
 have hb:Below w.heap.size w (w.alloc (.cells xs T)):=(Below.refl _ _).alloc (UZ _) _
 have hv: ∀b,b9 (Value.pointer (some ⟨w.heap.size,0,none⟩))=some b->w.heap.size<=b:=fun b e=>by cases e;exact UZ _
 have hm:=dv (nu:=nu) (o:=o) (ob:=⟨T,cs.length,false,[cs]⟩) hb hv
 refine ⟨_,_,cN nu o.length (.pointer (some ⟨w.heap.size,0,none⟩)),rfl,hm,gP h hb hv (.inr (.inl ⟨w.heap.size,xs, ?_⟩)), ?_⟩
 ·have key: ∀(i j:Nat) row c x,[cs][i]? = some row->row[j]? = some c->xs[i * cs.length+j]? = some x->cs[j]? = some c∧xs[j]? = some x:=by
   intro i j row c x h1 h2 h3
   cases i with
   | zero=>simp at h1 h3;subst h1;exact ⟨h2,h3⟩
   | succ i=>simp at h1
  refine ⟨heap_alloc_new w _,h.up _ (UZ _),fun _=>⟨aQ _ _ _ _,rfl,hc.len.symm⟩,fun e=>(by cases e),hz,fun i row hi=> ?_,fun i j row c x h1 h2 h3=> ?_,fun i j row c x h1 h2 h3=> ?_⟩
  ·cases i with
   | zero=>simp at hi;subst hi;rfl
   | succ i=>simp at hi
  ·obtain ⟨h4,h5⟩:=key i j row c x h1 h2 h3;exact (hc.at' j c x h4 h5).mono hm (fun _ _ h=>h)
  ·obtain ⟨h4,h5⟩:=key i j row c x h1 h2 h3;exact hc.one j x h5
 ·have:=RA.ptr (D:=D) (nu:=cN nu o.length (.pointer (some ⟨w.heap.size,0,none⟩))) (o:=o++[some ⟨T,cs.length,false,[cs]⟩]) (w:=w.alloc (.cells xs T)) o.length 0 cs.length 0 0 w.heap.size
   ⟨_,U7,fun x hx=>Va _⟩ (by rw [aQ];rfl)
  simpa using this
section
def cw (P:Program) (T:TypeId):Option Bool:=(P.underlying T).map fun| .struct _=>true| .array _ _=>true|_=>false
def bc (P:Program) (T:TypeId):Option Nat:=(P.info? T).map (·.size)
theorem ff {P:Program} {T:TypeId} {b:Bool} (h:cw P T=some b) (w:World):(isAgg T).run P w = .ok b w:=by
 unfold cw at h
 cases hu:P.underlying T with
 | none=>simp [hu] at h
 | some d=>
  rw [hu] at h;unfold isAgg;rw [Sem.run_bind,run_underlying hu w];cases d<;>simp_all
theorem run_sizeOf {P:Program} {T:TypeId} {n:Nat} (h:bc P T=some n) (w:World):(sizeOf T).run P w = .ok n w:=by
 unfold bc at h
 cases hu:P.info? T with
 | none=>simp [hu] at h
 | some i=>
  rw [hu] at h;simp at h;subst h;simp [sizeOf,typeInfo,hu]
def kX (o:List (Option aa)):AV->Option (Prop×List AV)
 | .vp cs=>some (True,cs)
 | .ptr id len z row off=>match o[id]? with
  | some (some ob)=>some (ob.hl=len∧ob.z=z,(ob.rows.getD row []).drop off)
  | _=>none
 | _=>none
theorem getD_some {α:Type} {l:List α} {i:Nat} {d x:α} (h:l[i]? = some x):l.getD i d=x:=by simp [List.getD,h]
section
variable {D:Nat->Prop} {nu:Nat->Nat->Value} {o:List (Option aa)} {w:World}
theorem sO.nt {id:Nat} {ob:aa} {g:Nat} {cur:Array Value} (h:sO D nu o w id ob g cur) {i j:Nat} {row:List AV} (hi:ob.rows[i]? = some row) (hj:j<row.length):i * ob.z+j<cur.size:=by
 have hz:=h.row i row hi;have hi':=(U4.1 hi).1
 have key: ∀n,i<n->n * ob.z<=cur.size->i * ob.z+j<cur.size:=fun n h1 h2=>by
  have:(i+1) * ob.z<=n * ob.z:=Vb _ h1
  rw [Vc,Vd] at this;omega
 cases hv:ob.du
 ·obtain ⟨_,h2,h3⟩:=h.box hv;exact key 1 (by omega) (by omega)
 ·obtain ⟨cap,_,h2,_,h4⟩:=h.vec hv;exact key cap (by omega) (by omega)
theorem yk (h:RO D nu o w) {a:AV} {x:Value} (hr:RA D nu o w a x) {p:Prop} {cs:List AV} (hl:kX o a=some (p,cs)) (hp:p) :
  ∃(b off:Nat) (f:Nat->Value),x = .pointer (some ⟨b,off,none⟩)∧(∀(j:Nat) c,cs[j]? = some c->w.cell? ⟨b,off+j,none⟩=some (f j)∧RA D nu o w c (f j)∧(f j).oneCell'=true):=by
 cases a with
 | vp cs'=>
  simp only [kX,Ve,Vf] at hl;obtain ⟨_,rfl⟩:=hl
  cases hr with
  | vp _ b off f h1 h2 h3 h4=>exact ⟨b,off,f,rfl,fun j c hc=>⟨h2 j c hc,h3 j c hc,h4 j c hc⟩⟩
 | ptr id len z row off=>
  simp only [kX] at hl
  split at hl
  ·rename_i ob ho;simp only [Ve,Vf] at hl;obtain ⟨rfl,rfl⟩:=hl;obtain ⟨rfl,rfl⟩:=hp
   cases hr with
   | ptr _ _ _ _ _ b h1 h2=>
    rcases h.obj id ob ho with ⟨e1,e2,e3⟩|⟨g,cur,hb⟩|⟨g,es,cl,hmp⟩
    ·simp only [aa.hl,e1,e2,if_true,U3,e3,b9,dc] at h2;cases h2
    rotate_left 1
    ·exact absurd h2 (hmp.Hl (UZ _))
    ·rw [hb.nj] at h2;cases h2;refine ⟨b,_,fun j=>cur.getD (row * ob.z+off+j) Go.undef,rfl,fun j c hc=> ?_⟩
     cases hrow:ob.rows[row]? with
     | none=>simp [List.getD,hrow] at hc
     | some rw'=>
      rw [getD_some hrow,Vg] at hc;have hlt:=hb.nt hrow (U4.1 hc).1;have hx:cur[row * ob.z+(off+j)]? = some cur[row * ob.z+(off+j)]:=Vh hlt
      have e:cur.getD (row * ob.z+off+j) Go.undef=cur[row * ob.z+(off+j)]:=by
       rw [show row * ob.z+off+j=row * ob.z+(off+j) by omega];simp [Array.getD,hlt]
      simp only [e];refine ⟨?_,hb.cell row (off+j) rw' c _ hrow hc hx,hb.one row (off+j) rw' c _ hrow hc hx⟩
      have:=hb.blk
      rw [show row * ob.z+off+j=row * ob.z+(off+j) by omega];simp [World.cell?,this,hx]
  ·cases hl
 | _=>cases hl
def xa (P:Program) (T:TypeId) (o:List (Option aa)) (a:AV):Option (Prop×AV):=
 match cw P T,bc P T,kX o a with
 | some true,some n,some (p,cs)=>some (p∧n<=cs.length, .agg (cs.take n))
 | some false,_,some (p,c :: _)=>some (p,c)
 | _,_,_=>none
theorem lI {P:Program} {T:TypeId} (h:RO D nu o w) {a:AV} {x:Value} (hr:RA D nu o w a x) {p:Prop} {r:AV} (hl:xa P T o a=some (p,r)) (hp:p) :
  ∃v,(Instr.loadAt T x).run P w = .ok v w∧RA D nu o w r v:=by
 unfold xa at hl
 split at hl
 ·rename_i n p' cs e1 e2 e3;simp only [Ve,Vf] at hl;obtain ⟨rfl,rfl⟩:=hl;obtain ⟨b,off,f,rfl,hf⟩:=yk h hr e3 hp.1
  have hcell: ∀j,j<n->w.cell? ((⟨b,off,none⟩:Addr).add j)=some (f j):=fun j hj=>by
   rw [Addr.add_lit];exact (hf j cs[j] (Vi (by omega))).1
  refine ⟨_,by simp only [Instr.loadAt,Instr.sureAddr,loadVar,Sem.run_bind,Sem.run_pure,Result.andThen_ok,ff e1,if_true,run_sizeOf e2,run_loadCells w _ n f hcell];rfl, ?_⟩
  refine .agg _ _ (by simp;omega) (fun i c x h1 h2=> ?_) (fun i x h2=> ?_)
  ·rw [Vj] at h1
   split at h1
   ·simp only [Vk,Vl] at h2;rw [Vm ‹_›] at h2;simp at h2;subst h2;exact (hf i c h1).2.1
   ·cases h1
  ·simp only [Vk,Vl] at h2
   rcases U6 i n with hlt|hge
   ·rw [Vm hlt] at h2;simp at h2;subst h2;exact (hf i cs[i] (Vi (by omega))).2.2
   ·rw [Vn (by simp;omega)] at h2;cases h2
 ·rename_i p' c rest e1 e3;simp only [Ve,Vf] at hl;obtain ⟨rfl,rfl⟩:=hl;obtain ⟨b,off,f,rfl,hf⟩:=yk h hr e3 hp;obtain ⟨h1,h2,_⟩:=hf 0 c rfl;refine ⟨f 0, ?_,h2⟩;simp only [Instr.loadAt,Instr.sureAddr,loadVar,Sem.run_bind,Sem.run_pure,Result.andThen_ok,ff e1,Bool.false_eq_true,if_false,run_load];simp only [Vo] at h1;rw [h1]
 ·cases hl
def zo (row:List AV) (off:Nat) (cs:List AV):List AV:=row.take off++cs++row.drop (off+cs.length)
theorem gn {w':World} {id:Nat} {ob ob':aa} (ho:o[id]? = some (some ob)) (hl:ob'.hl=ob.hl) {g:Nat} (hg:b9 (nu id ob.hl)=some g)
  (h1:w'.os=w.os) (h2:w'.tape=w.tape) (h3:w'.output=w.output) (h4:w'.heap.size=w.heap.size) (h5: ∀b,b≠g->w'.heap[b]? = w.heap[b]?):bt nu o w nu (o.set id (some ob')) w':=by
 have hlt:=(U4.1 ho).1
 refine ⟨h1,h2,h3,by omega,fun id' len hh=>⟨?_,rfl⟩,fun b hb hno=>⟨h5 b (fun e=>hno ⟨id,ob,ho,by rw [e];exact hg⟩), ?_⟩⟩
 ·obtain ⟨x,k1,k2⟩:=hh
  by_cases he:id=id'
  ·subst he;rw [ho] at k1;cases k1;exact ⟨some ob',by simp [hlt],fun x hx=>by cases hx;rw [hl];exact k2 ob rfl⟩
  ·exact ⟨x,by rw [Vp he];exact k1,k2⟩
 ·rintro ⟨id',ob'',k1,k2⟩
  by_cases he:id=id'
  ·subst he;rw [Vq hlt] at k1;cases k1;rw [hl] at k2;exact hno ⟨id,ob,ho,k2⟩
  ·rw [Vp he] at k1;exact hno ⟨id',ob'',k1,k2⟩
theorem mR {w':World} {id:Nat} {ob ob':aa} (h:RO D nu o w) (ho:o[id]? = some (some ob)) (hl:ob'.hl=ob.hl) {g:Nat} (hg:b9 (nu id ob.hl)=some g)
  (hm:bt nu o w nu (o.set id (some ob')) w') (h5: ∀b,b≠g->w'.heap[b]? = w.heap[b]?) {cur:Array Value} (hn:sO D nu (o.set id (some ob')) w' id ob' g cur):RO D nu (o.set id (some ob')) w':=by
 have hlt:=(U4.1 ho).1
 refine ⟨?_,fun b hb=>h.up b (U0 hm.size hb), ?_,h.gl.mono hm (fun _ _ h=>h)⟩
 ·intro id' ob'' k1
  by_cases he:id=id'
  ·subst he;rw [Vq hlt] at k1;cases k1;exact .inr (.inl ⟨g,cur,hn⟩)
  ·rw [Vp he] at k1
   rcases h.obj id' ob'' k1 with e|⟨g',cur',hr⟩|⟨g',es,cl,hmp⟩
   ·exact .inl e
   ·have hne:g'≠g:=fun e=>h.sep id id' ob ob'' g ho k1 he hg (by rw [<-e];exact hr.bg);exact .inr (.inl ⟨g',cur',(h5 g' hne).trans hr.blk,hr.ko,hr.box,hr.vec,hr.z,hr.row,fun i j row c x q1 q2 q3=>(hr.cell i j row c x q1 q2 q3).mono hm (fun _ _ h=>h),hr.one⟩)
   ·have hne:g'≠g:=fun e=>h.sep id id' ob ob'' g ho k1 he hg (by rw [<-e];exact hmp.bg);exact .inr (.inr ⟨g',es,cl,hmp.tr (h5 g' hne) (fun h=>h) rfl (fun i j row c x _ _ hr=>hr.mono hm (fun _ _ h=>h))⟩)
 ·intro i1 i2 b1 b2 b k1 k2 hne k3
  have key: ∀(id':Nat) (ob'':aa),(o.set id (some ob'))[id']? = some (some ob'')-> ∃ob3:aa,o[id']? = some (some ob3)∧ob3.hl=ob''.hl:=fun id' ob'' q=>by
   by_cases he:id=id'
   ·subst he;rw [Vq hlt] at q;cases q;exact ⟨ob,ho,hl.symm⟩
   ·rw [Vp he] at q;exact ⟨ob'',q,rfl⟩
  obtain ⟨o1,m1,n1⟩:=key i1 b1 k1;obtain ⟨o2,m2,n2⟩:=key i2 b2 k2;rw [<-n2];rw [<-n1] at k3;exact h.sep i1 i2 o1 o2 b m1 m2 hne k3
theorem Av (P:Program) (h:RO D nu o w) {id row off:Nat} {ob:aa} (ho:o[id]? = some (some ob)) {rw':List AV} (hrow:ob.rows[row]? = some rw') {cs:List AV} {xs:Array Value} (hc:Jj D nu o w cs xs) (hfit:off+cs.length<=rw'.length)
  {b:Nat} (hb:dc (nu id ob.hl)=some b) :
  ∃w',(storeCells ⟨b,row * ob.z+off,none⟩ xs.toList).run P w = .ok () w'∧bt nu o w nu (o.set id (some { ob with rows:=ob.rows.set row (zo rw' off cs) })) w'∧RO D nu (o.set id (some { ob with rows:=ob.rows.set row (zo rw' off cs) })) w':=by
 rcases h.obj id ob ho with ⟨e1,e2,e3⟩|⟨g,cur,hr⟩|⟨g,es,cl,hmp⟩
 rotate_left 2
 ·exact absurd hb (hmp.Hl (UZ _))
 ·rw [e2] at hrow;simp at hrow
 ·have hbg:b=g:=by have:=hr.nj;rw [hb] at this;cases this;rfl
  subst hbg;have hz:=hr.row row rw' hrow;have hlenrow:=(U4.1 hrow).1
  have hend:row * ob.z+off+cs.length<=cur.size:=by
   rcases Nat.eq_zero_or_pos (off+cs.length) with h0|h0
   ·rcases Nat.eq_zero_or_pos rw'.length with h1|h1
    ·have:=hr.z;omega
    ·have:=hr.nt hrow (j:=0) (by omega);omega
   ·have:=hr.nt hrow (j:=off+cs.length - 1) (by omega);omega
  have hst:=run_storeCells_at P b (row * ob.z+off) ob.T xs.toList 0 cur w hr.blk (by have:=hc.len;simp;omega) (fun v hv=>by
   obtain ⟨i,hi⟩:=Vr hv
   exact hc.one i v (by simpa using hi))
  have hh:ob.hl=({ ob with rows:=ob.rows.set row (zo rw' off cs) }:aa).hl:=by simp [aa.hl]
  have hne: ∀k,k≠b->(w.setRow b (cur.toList.take (row * ob.z+off+0)++xs.toList++cur.toList.drop (row * ob.z+off+0+xs.toList.length)).toArray).heap[k]? = w.heap[k]? :=fun k hk=>setRow_other w b k _ hk
  have hsz:(w.setRow b (cur.toList.take (row * ob.z+off+0)++xs.toList++cur.toList.drop (row * ob.z+off+0+xs.toList.length)).toArray).heap.size=w.heap.size:=by simp [World.setRow]
  have hm:=gn (nu:=nu) (o:=o) (w:=w) (w':=w.setRow b (cur.toList.take (row * ob.z+off+0)++xs.toList++cur.toList.drop (row * ob.z+off+0+xs.toList.length)).toArray) (ob':={ ob with rows:=ob.rows.set row (zo rw' off cs) }) ho hh.symm hr.bg rfl rfl rfl hsz hne;refine ⟨_,hst,hm,mR h ho hh.symm hr.bg hm hne (cur:=(cur.toList.take (row * ob.z+off+0)++xs.toList++cur.toList.drop (row * ob.z+off+0+xs.toList.length)).toArray) ?_⟩
  have hlx:xs.toList.length=cs.length:=by have:=hc.len;simp;omega
  have hspl:(zo rw' off cs).length=rw'.length:=by simp [zo];omega
  have hcs:(cur.toList.take (row * ob.z+off+0)++xs.toList++cur.toList.drop (row * ob.z+off+0+xs.toList.length)).toArray.size=cur.size:=by
   simp only [Vs,U8,Vt,List.length_drop,Vu] at *; omega
  have key: ∀(i j:Nat) r c x,(ob.rows.set row (zo rw' off cs))[i]? = some r->r[j]? = some c->(cur.toList.take (row * ob.z+off+0)++xs.toList++cur.toList.drop (row * ob.z+off+0+xs.toList.length)).toArray[i * ob.z+j]? = some x ->
    (∃r',ob.rows[i]? = some r'∧r'[j]? = some c∧cur[i * ob.z+j]? = some x)∨(∃k:Nat,cs[k]? = some c∧xs[k]? = some x):=by
   intro i j r c x k1 k2 k3;rw [Vk,Vv] at k3;simp only [Vo,hlx] at k3
   have hlt1:(cur.toList.take (row * ob.z+off)).length=row * ob.z+off:=by simp only [Vt,Vu];omega
   have outside:(i * ob.z+j<row * ob.z+off∨row * ob.z+off+cs.length<=i * ob.z+j)->cur[i * ob.z+j]? = some x:=by
    rintro (hlt|hge)
    ·rw [U5 (by omega),Vx hlt] at k3;simpa using k3
    ·rw [Vy (by omega),hlt1,Vy (by omega),hlx,Vg] at k3;rw [show row * ob.z+off+cs.length+(i * ob.z+j - (row * ob.z+off) - cs.length)=i * ob.z+j by omega] at k3;simpa using k3
   by_cases hi:row=i
   ·subst hi;rw [Vq hlenrow] at k1;cases k1;simp only [zo,Vv] at k2
    have hlt2:(rw'.take off).length=off:=by simp;omega
    rcases U6 j off with hj|hj
    ·rw [U5 (by omega),Vx hj] at k2;exact .inl ⟨rw',hrow,k2,outside (.inl (by omega))⟩
    ·rw [Vy (by omega),hlt2] at k2
     rcases U6 (j - off) cs.length with hj2|hj2
     ·rw [U5 hj2] at k2;rw [Vy (by omega),hlt1,U5 (by omega)] at k3;rw [show row * ob.z+j - (row * ob.z+off)=j - off by omega] at k3;exact .inr ⟨j - off,k2,by simpa using k3⟩
     ·rw [Vy hj2,Vg] at k2;rw [show off+cs.length+(j - off - cs.length)=j by omega] at k2;exact .inl ⟨rw',hrow,k2,outside (.inr (by omega))⟩
   ·rw [Vp hi] at k1;refine .inl ⟨r,k1,k2,outside ?_⟩;have hj:=(U4.1 k2).1;have hrz:=hr.row i r k1
    rcases Nat.lt_or_gt_of_ne hi with hlt|hgt
    ·right
     have:(row+1) * ob.z<=i * ob.z:=Vb _ hlt
     rw [Vc,Vd] at this;omega
    ·left
     have:(i+1) * ob.z<=row * ob.z:=Vb _ hgt
     rw [Vc,Vd] at this;omega
  refine ⟨setRow_heap w b cur _ ob.T (0,0) hr.blk,hr.ko,fun hv=> ?_,fun hv=> ?_,hr.z,fun i r hi=> ?_,fun i j r c x k1 k2 k3=> ?_,fun i j r c x k1 k2 k3=> ?_⟩
  ·obtain ⟨q1,q2,q3⟩:=hr.box hv;exact ⟨q1,by simpa using q2,hcs.trans q3⟩
  ·obtain ⟨cap,q1,q2,q3,q4⟩:=hr.vec hv;exact ⟨cap,by simpa using q1,by simpa using q2,q3,hcs.trans q4⟩
  ·by_cases he:row=i
   ·subst he;rw [Vq hlenrow] at hi;cases hi;exact hspl.trans hz
   ·rw [Vp he] at hi;exact hr.row i r hi
  ·rcases key i j r c x k1 k2 k3 with ⟨r',q1,q2,q3⟩|⟨k,q1,q2⟩
   ·exact (hr.cell i j r' c x q1 q2 q3).mono hm (fun _ _ h=>h)
   ·exact (hc.at' k c x q1 q2).mono hm (fun _ _ h=>h)
  ·rcases key i j r c x k1 k2 k3 with ⟨r',q1,q2,q3⟩|⟨k,q1,q2⟩
   ·exact hr.one i j r' c x q1 q2 q3
   ·exact hc.one k x q2
def vd (P:Program) (T:TypeId) (o:List (Option aa)) (a x:AV):Option (Prop×List (Option aa)):=
 match a,bc P T,x.cells? with
 | .ptr id len z row off,some n,some cs=>match o[id]? with
  | some (some ob)=>some ((ob.hl=len∧ob.z=z∧row<ob.rows.length)∧cs.length=n∧off+cs.length<=(ob.rows.getD row []).length,o.set id (some { ob with rows:=ob.rows.set row (zo (ob.rows.getD row []) off cs) }))
  | _=>none
 | _,_,_=>none
theorem Au {P:Program} {T:TypeId} (h:RO D nu o w) {a b:AV} {x y:Value} (hr:RA D nu o w a x) (hs:RA D nu o w b y) {p:Prop} {o':List (Option aa)} (hl:vd P T o a b=some (p,o')) (hp:p) :
  ∃w',(Instr.storeAt T x y).run P w = .ok () w'∧bt nu o w nu o' w'∧RO D nu o' w':=by
 unfold vd at hl
 split at hl
 ·rename_i id len z row off n cs e1 e2
  split at hl
  ·rename_i ob ho;simp only [Ve,Vf] at hl;obtain ⟨rfl,rfl⟩:=hl;obtain ⟨⟨rfl,rfl,hlt⟩,rfl,hfit⟩:=hp;have hrow:ob.rows[row]? = some ob.rows[row]:=Vi hlt;rw [getD_some hrow] at hfit ⊢
   cases hr with
   | ptr _ _ _ _ _ bk h1 h2=>
    have hc:=hs.one e2;obtain ⟨w',k1,k2,k3⟩:=Av P h ho hrow hc hfit h2;refine ⟨w', ?_,k2,k3⟩;have hsz:y.cells.size=cs.length:=hc.len.symm;simp only [Instr.storeAt,Instr.sureAddr,storeVar,Sem.run_bind,Sem.run_pure,Result.andThen_ok,run_sizeOf e1,hsz,ne_eq,not_true_eq_false,if_false,k1]
  ·cases hl
 ·cases hl
end
end
section
section
variable {D:Nat->Prop} {nu:Nat->Nat->Value} {o:List (Option aa)} {w:World}
def gF (P:Program) (T:TypeId):Option (TypeId×Nat×Nat):=
 match P.underlying T with
 | some (.slice e)=>match P.info? e with
  | some i=>match i.zero with
   | some zv=>if zv.cells.size=i.size∧0<i.size then some (e,i.size,i.bytes) else none
   | none=>none
  | none=>none
 | _=>none
theorem fg {P:Program} {T e:TypeId} {z n:Nat} (h:gF P T=some (e,z,n)):P.underlying T=some (.slice e)∧ ∃i zv,P.info? e=some i∧i.zero=some zv∧zv.cells.size=z∧0<z∧i.size=z∧i.bytes=n:=by
 unfold gF at h
 split at h
 ·rename_i e' hu
  split at h
  ·rename_i i hi
   split at h
   ·rename_i zv hz
    split at h
    ·rename_i hc;cases h;exact ⟨hu,i,zv,hi,hz,hc.1,hc.2,rfl,rfl⟩
    ·cases h
   ·cases h
  ·cases h
 ·cases h
def mv (o:List (Option aa)) (z:Nat):AV->Option (Prop×List (List AV))
 | .aH z' rows len=>some (z'=z,rows.take len)
 | .vec id len=>match o[id]? with
  | some (some ob)=>some (ob.du=true∧ob.z=z∧ob.rows.length=len,ob.rows)
  | _=>none
 | .v (.slice none 0 0)=>some (True,[])
 | _=>none
structure uV (D:Nat->Prop) (nu:Nat->Nat->Value) (o:List (Option aa)) (w:World) (z:Nat) (rows:List (List AV)) (news:List Value):Prop where
 len:news.length=rows.length * z
 one: ∀u∈news,u.oneCell'=true
 row: ∀(i:Nat) row,rows[i]? = some row->row.length=z
 cell: ∀(i j:Nat) row c,rows[i]? = some row->row[j]? = some c-> ∃x,news[i * z+j]? = some x∧RA D nu o w c x
theorem kT {i j z n:Nat} (hi:i<n) (hj:j<z):i * z+j<n * z:=by
 have:(i+1) * z<=n * z:=Vb _ hi
 rw [Vc,Vd] at this;omega
theorem Cc {i j z:Nat} (hj:j<z):(i * z+j) / z=i:=by
 rw [Vz,Nat.mul_add_div (by omega),Nat.div_eq_of_lt hj,Vo]
theorem qm {i j z:Nat} (hj:j<z):(i * z+j) % z=j:=by
 rw [Vz,Nat.mul_add_mod,Nat.mod_eq_of_lt hj]
theorem rO (z:Nat):uV D nu o w z [] []:=⟨by simp,by simp,by simp,by simp⟩
theorem sO.MK {id:Nat} {ob:aa} {g:Nat} {cur:Array Value} (h:sO D nu o w id ob g cur):uV D nu o w ob.z ob.rows (cur.toList.take (ob.rows.length * ob.z)):=by
 have hsz:ob.rows.length * ob.z<=cur.size:=by
  cases hv:ob.du
  ·obtain ⟨_,h2,h3⟩:=h.box hv;rw [h2,h3];omega
  ·obtain ⟨cap,_,h2,_,h4⟩:=h.vec hv;rw [h4];exact Vb _ h2
 have hz:=h.z
 refine ⟨by simp;omega,fun u hu=> ?_,h.row,fun i j row c h1 h2=> ?_⟩
 ·obtain ⟨k,hk⟩:=Vr hu;rw [Vj] at hk
  split at hk
  ·rename_i hlt;have hi:k / ob.z<ob.rows.length:=VA (by rw [Vz];exact hlt);have hr:ob.rows[k / ob.z]? = some ob.rows[k / ob.z]:=Vi hi
   have hj:k % ob.z<ob.rows[k / ob.z].length:=by rw [h.row _ _ hr];exact Nat.mod_lt _ hz
   refine h.one (k / ob.z) (k % ob.z) _ _ u hr (Vi hj) ?_;rw [Vz,Nat.div_add_mod];simpa using hk
  ·cases hk
 ·have hi:=(U4.1 h1).1;have hj:=(U4.1 h2).1;have hlt:=h.nt h1 hj;rw [h.row i row h1] at hj;refine ⟨cur[i * ob.z+j], ?_,h.cell i j row c _ h1 h2 (Vh hlt)⟩;rw [Vx (kT hi hj)];simp [hlt]
theorem iu (h:RO D nu o w) {z:Nat} (hz:0<z) {a:AV} {x:Value} (hr:RA D nu o w a x) {p:Prop} {rows:List (List AV)} (hs:mv o z a=some (p,rows)) (hp:p) :
  (x = .slice none 0 0∧rows=[])∨ ∃(g:Addr) (c:Nat) (news:List Value),x = .slice (some g) rows.length c∧uV D nu o w z rows news∧(∀(j:Nat) u,news[j]? = some u->w.cell? (g.add j)=some u):=by
 cases a with
 | aH z' rows' len=>
  simp only [mv,Ve,Vf] at hs;obtain ⟨rfl,rfl⟩:=hs;subst hp
  cases hr with
  | br=>exact .inl ⟨rfl,rfl⟩
  | bz _ a=>exact .inr ⟨a,0,[],rfl,rO _,fun j u hj=>by simp at hj⟩
  | aH _ _ _ b off cap f h1 h2 h3 h4 h5 h6 h7 h8=>
   have hl:(rows'.take len).length=len:=by simp;omega
   refine .inr ⟨⟨b,off,none⟩,cap,(List.range (len * z')).map (fun k=>f (k / z') (k % z')),by rw [hl],⟨by simp [hl], ?_,fun i row hi=> ?_,fun i j row c hi hj=> ?_⟩, ?_⟩
   ·intro u hu;obtain ⟨k,hk,rfl⟩:=List.mem_map.1 hu;simp only [List.mem_range] at hk;have hi:k / z'<rows'.length:=U1 (VA (by rw [Vz];exact hk)) h1;have hr':rows'[k / z']? = some rows'[k / z']:=Vi hi
    have hj:k % z'<rows'[k / z'].length:=by rw [h5 _ _ hr'];exact Nat.mod_lt _ hz
    exact h8 _ _ _ _ hr' (Vi hj)
   ·rw [Vj] at hi;split at hi
    ·exact h5 i row hi
    ·cases hi
   ·rw [Vj] at hi
    split at hi
    ·rename_i hlt;have hjl:=(U4.1 hj).1;rw [h5 i row hi] at hjl;refine ⟨f i j, ?_,h7 i j row c hi hj⟩;rw [Vl,Vm (kT hlt hjl)];simp only [VB,Cc hjl,qm hjl]
    ·cases hi
   ·intro k u hk;rw [Vl] at hk
    rcases U6 k (len * z') with hlt|hge
    ·rw [Vm hlt] at hk;simp only [VB,Ve] at hk;subst hk;have hi:k / z'<rows'.length:=U1 (VA (by rw [Vz];exact hlt)) h1;have hr':rows'[k / z']? = some rows'[k / z']:=Vi hi
     have hj:k % z'<rows'[k / z'].length:=by rw [h5 _ _ hr'];exact Nat.mod_lt _ hz
     have:=h6 _ _ _ _ hr' (Vi hj)
     rw [<-this,Addr.add_lit]
     congr 2
     have:=Nat.div_add_mod k z'
     rw [Vz] at this;omega
    ·rw [Vn (by simpa using hge)] at hk;cases hk
 | vec id len=>
  simp only [mv] at hs
  split at hs
  ·rename_i ob ho;simp only [Ve,Vf] at hs;obtain ⟨rfl,rfl⟩:=hs;obtain ⟨hv,rfl,rfl⟩:=hp;cases hr
   rcases h.obj id ob ho with ⟨e1,e2,e3⟩|⟨g,cur,hb⟩|⟨g,es,cl,hmp⟩
   rotate_left 2
   ·rw [hmp.du] at hv;cases hv
   ·exact .inl ⟨by rw [e2];exact e3,e2⟩
   ·obtain ⟨cap,q1,q2,q3,q4⟩:=hb.vec hv;refine .inr ⟨⟨g,0,none⟩,cap,_,q1,hb.MK,fun j u hj=> ?_⟩;rw [Vj] at hj
    split at hj
    ·have:=hb.blk
     rw [Addr.add_lit,Nat.zero_add];simp [World.cell?,this];simpa using hj
    ·cases hj
  ·cases hs
 | v x'=>
  cases hr;simp only [mv] at hs
  split at hs
  case h_1 e=>cases e
  case h_2 e=>cases e
  case h_3 e=>cases e;cases hs;exact .inl ⟨rfl,rfl⟩
  case h_4=>cases hs
 | _=>cases hs
def wB (nu:Nat->Nat->Value) (k L:Nat) (v:Value):Nat->Nat->Value:=fun id len=>if id=k∧len=L then v else nu id len
theorem jy (nu:Nat->Nat->Value) (k L:Nat) (v:Value):wB nu k L v k L=v:=by simp [wB]
theorem ec {nu:Nat->Nat->Value} {k L id len:Nat} {v:Value} (h:id≠k∨len≠L):wB nu k L v id len=nu id len:=by
 have: ¬(id=k∧len=L):=by omega
 simp only [wB,if_neg this]
theorem RO.qq (h:RO D nu o w) {id:Nat} {ob:aa} (ho:o[id]? = some (some ob)) (hv:ob.du=true) :
  ∃xs,w.ownsRow 0 ob.T ob.z (nu id ob.rows.length) ob.rows.length xs∧uV D nu o w ob.z ob.rows xs∧(nu id ob.rows.length).ownBlock=b9 (nu id ob.hl):=by
 have hhl:ob.hl=ob.rows.length:=by simp [aa.hl,hv]
 rw [hhl]
 rcases h.obj id ob ho with ⟨e1,e2,e3⟩|⟨g,cur,hb⟩|⟨g,es,cl,hmp⟩
 rotate_left 2
 ·rw [hmp.du] at hv;cases hv
 ·refine ⟨[], ?_,by rw [e2];exact rO _, ?_⟩
  ·rw [e2];exact ⟨by simp, .inl ⟨e3,rfl⟩⟩
  ·rw [e2];simp only [U3];rw [e3];rfl
 ·obtain ⟨cap,q1,q2,q3,q4⟩:=hb.vec hv;refine ⟨_,⟨hb.MK.len, .inr ⟨g,cap,cur,q1,Va _,hb.blk,q2,q3,q4,rfl⟩⟩,hb.MK, ?_⟩;rw [q1];rfl
theorem Ed {w':World} (h:RO D nu o w) {id:Nat} {ob:aa} (ho:o[id]? = some (some ob)) (hv:ob.du=true) (hz:0<ob.z) {rows2:List (List AV)} (hne:rows2≠[]) {xs news:List Value} (hL:uV D nu o w ob.z ob.rows xs) (hN:uV D nu o w ob.z rows2 news)
  {v':Value} (hown:w'.ownsRow 0 ob.T ob.z v' (ob.rows.length+rows2.length) (xs++news)) (hg:w.grownBy w' (nu id ob.rows.length).ownBlock) (hvb:v'.ownBlock=(nu id ob.rows.length).ownBlock∨v'.ownBlock=some w.heap.size) :
  bt nu o w (wB nu id (ob.rows.length+rows2.length) v') (o.set id (some { ob with rows:=ob.rows++rows2 })) w'∧RO D (wB nu id (ob.rows.length+rows2.length) v') (o.set id (some { ob with rows:=ob.rows++rows2 })) w' ∧
   RA D (wB nu id (ob.rows.length+rows2.length) v') (o.set id (some { ob with rows:=ob.rows++rows2 })) w' (.vec id (ob.rows.length+rows2.length)) v':=by
 have hlt:=(U4.1 ho).1;have hm0:0<rows2.length:=List.length_pos_iff.2 hne
 have hhl:ob.hl=ob.rows.length:=by simp [aa.hl,hv]
 have hhl':({ ob with rows:=ob.rows++rows2 }:aa).hl=ob.rows.length+rows2.length:=by simp [aa.hl,hv]
 obtain ⟨_,hrest⟩:=hown
 rcases hrest with ⟨_,h0⟩|⟨g,cap,cur,rfl,_,hblk,hcap,hcm,hsz,htake⟩
 ·omega
 obtain ⟨xs0,hxs0,_,hob⟩:=h.qq ho hv;have hold: ∀b,b9 (nu id ob.hl)=some b->b<w.heap.size:=fun b hb=>h.a6 ⟨id,ob,ho,hb⟩
 have hvb':some g=b9 (nu id ob.hl)∨some g=some w.heap.size:=by
  rw [<-hob];simpa [Value.ownBlock] using hvb
 rw [hob] at hg
 have hm:bt nu o w (wB nu id (ob.rows.length+rows2.length) (.slice (some ⟨g,0,none⟩) (ob.rows.length+rows2.length) cap)) (o.set id (some { ob with rows:=ob.rows++rows2 })) w':=by
  refine ⟨hg.os,hg.tape,hg.output,hg.size,fun id' len hh=> ?_,fun b hb hno=>⟨hg.block b hb (fun e=>hno ⟨id,ob,ho,e.symm⟩), ?_⟩⟩
  ·obtain ⟨x,k1,k2⟩:=hh
   by_cases he:id=id'
   ·subst he;rw [ho] at k1;cases k1
    have:=k2 ob rfl
    exact ⟨⟨_,by rw [Vq hlt],fun x hx=>by cases hx;rw [hhl'];omega⟩,ec (by omega)⟩
   ·exact ⟨⟨x,by rw [Vp he];exact k1,k2⟩,ec (.inl (VC he))⟩
  ·rintro ⟨id',ob'',k1,k2⟩
   by_cases he:id=id'
   ·subst he;rw [Vq hlt] at k1;cases k1;rw [hhl',jy] at k2;simp only [b9,dc,Ve] at k2;subst k2
    rcases hvb' with e|e
    ·exact hno ⟨id,ob,ho,e.symm⟩
    ·cases e;omega
   ·rw [Vp he] at k1;rw [ec (.inl (VC he))] at k2;exact hno ⟨id',ob'',k1,k2⟩
 have hcl:cur.toList.take ((ob.rows.length+rows2.length) * ob.z)=xs++news:=htake
 refine ⟨hm,⟨fun id' ob'' k1=> ?_,fun b hb=>h.up b (U0 hg.size hb),fun i1 i2 b1 b2 b k1 k2 hne' k3 k4=> ?_,h.gl.mono hm (fun _ _ h=>h)⟩, ?_⟩
 ·by_cases he:id=id'
  ·subst he;rw [Vq hlt] at k1;cases k1
   have key: ∀(i j:Nat) row c x,(ob.rows++rows2)[i]? = some row->row[j]? = some c->cur[i * ob.z+j]? = some x->RA D nu o w c x∧x.oneCell'=true:=by
    intro i j row c x q1 q2 q3;have hj:=(U4.1 q2).1;have hi:=(U4.1 q1).1;simp only [U8] at hi
    have hjz:j<ob.z:=by
     rcases U6 i ob.rows.length with q|q
     ·rw [U5 q] at q1;rw [<-hL.row i row q1];exact hj
     ·rw [Vy q] at q1;rw [<-hN.row _ row q1];exact hj
    have q4:(xs++news)[i * ob.z+j]? = some x:=by
     rw [<-hcl,Vx (kT hi hjz)];simpa using q3
    rcases U6 i ob.rows.length with q|q
    ·rw [U5 q] at q1;obtain ⟨y,y1,y2⟩:=hL.cell i j row c q1 q2
     have hll:i * ob.z+j<xs.length:=by rw [hL.len];exact kT q hjz
     rw [U5 hll] at q4;rw [q4] at y1;cases y1;exact ⟨y2,hL.one _ (VD q4)⟩
    ·rw [Vy q] at q1;obtain ⟨y,y1,y2⟩:=hN.cell (i - ob.rows.length) j row c q1 q2
     have hge:xs.length<=i * ob.z+j:=by
      rw [hL.len];have:=Vb ob.z q;omega
     rw [Vy hge,hL.len] at q4
     rw [show i * ob.z+j - ob.rows.length * ob.z=(i - ob.rows.length) * ob.z+j by
      rw [Nat.sub_mul];have:=Vb ob.z q;omega] at q4
     rw [q4] at y1;cases y1;exact ⟨y2,hN.one _ (VD q4)⟩
   refine .inr (.inl ⟨g,cur,hblk, ?_,fun e=>(by rw [hv] at e;cases e),fun _=>⟨cap,by simp only [U8];rw [jy],by simpa using hcap,hcm,hsz⟩,hz,fun i row hi=> ?_,fun i j row c x q1 q2 q3=>(key i j row c x q1 q2 q3).1.mono hm (fun _ _ h=>h),fun i j row c x q1 q2 q3=>(key i j row c x q1 q2 q3).2⟩)
   ·rcases hvb' with e|e
    ·rcases h.obj id ob ho with ⟨e1,e2,e3⟩|⟨g0,cur0,hb⟩|⟨g0,es,cl,hmp⟩
     ·rw [hhl,e2] at e;simp only [U3] at e;rw [e3] at e;cases e
     ·rw [hb.bg] at e;cases e;exact hb.ko
     ·rw [hmp.du] at hv;cases hv
    ·cases e;exact h.up _ (UZ _)
   ·rcases U6 i ob.rows.length with q|q
    ·rw [U5 q] at hi;exact hL.row i row hi
    ·rw [Vy q] at hi;exact hN.row _ row hi
  ·rw [Vp he] at k1
   rcases h.obj id' ob'' k1 with ⟨e1,e2,e3⟩|⟨g',cur',hr⟩|⟨g',es,cl,hmp⟩
   ·exact .inl ⟨e1,e2,by rw [ec (.inl (VC he))];exact e3⟩
   ·refine .inr (.inl ⟨g',cur',(hg.block g' (h.a6 ⟨id',ob'',k1,hr.bg⟩) (fun e=>h.sep id id' ob ob'' g' ho k1 he e.symm hr.bg)).trans hr.blk,hr.ko,fun e=> ?_,fun e=> ?_,hr.z,hr.row,fun i j row c x q1 q2 q3=>(hr.cell i j row c x q1 q2 q3).mono hm (fun _ _ h=>h),hr.one⟩)
    ·rw [ec (.inl (VC he))];exact hr.box e
    ·rw [ec (.inl (VC he))];exact hr.vec e
   ·exact .inr (.inr ⟨g',es,cl,hmp.tr (hg.block g' (h.a6 ⟨id',ob'',k1,hmp.bg⟩) (fun e=>h.sep id id' ob ob'' g' ho k1 he e.symm hmp.bg)) (fun h=>h) (ec (.inl (VC he))) (fun i j row c x _ _ hr=>hr.mono hm (fun _ _ h=>h))⟩)
 ·have new: ∀id' ob'',id≠id'->o[id']? = some (some ob'')->b9 (nu id' ob''.hl)≠some g:=fun id' ob'' hne2 q1 q2=>by
   rcases hvb' with e|e
   ·exact h.sep id id' ob ob'' g ho q1 hne2 e.symm q2
   ·cases e
    have:=h.a6 ⟨id',ob'',q1,q2⟩
    omega
  by_cases h1:id=i1
  ·subst h1;rw [Vq hlt] at k1;cases k1;rw [hhl',jy] at k3;cases k3;rw [Vp hne'] at k2;rw [ec (.inl (VC hne'))] at k4;exact new i2 b2 hne' k2 k4
  ·rw [Vp h1] at k1;rw [ec (.inl (VC h1))] at k3
   by_cases h2:id=i2
   ·subst h2;rw [Vq hlt] at k2;cases k2;rw [hhl',jy] at k4;cases k4;exact new i1 b1 h1 k1 k3
   ·rw [Vp h2] at k2;rw [ec (.inl (VC h2))] at k4;exact h.sep i1 i2 b1 b2 b k1 k2 hne' k3 k4
 ·have:=RA.vec (D:=D) (nu:=wB nu id (ob.rows.length+rows2.length) (.slice (some ⟨g,0,none⟩) (ob.rows.length+rows2.length) cap)) (o:=o.set id (some { ob with rows:=ob.rows++rows2 })) (w:=w') id (ob.rows.length+rows2.length)
   ⟨_,Vq hlt,fun x hx=>by cases hx;rw [hhl'];exact UZ _⟩ (by rw [jy];rfl)
  rw [jy] at this;exact this
end
end
section
section
variable {D:Nat->Prop} {nu:Nat->Nat->Value} {o:List (Option aa)} {w:World}
structure sV (D:Nat->Prop) (nu:Nat->Nat->Value) (o:List (Option aa)) (w:World) (z:Nat) (rows:List (List AV)) (cur:Array Value):Prop where
 row: ∀(i:Nat) row,rows[i]? = some row->row.length=z
 cell: ∀(i j:Nat) row c,rows[i]? = some row->row[j]? = some c-> ∃x,cur[i * z+j]? = some x∧RA D nu o w c x∧x.oneCell'=true
theorem kR (h:RO D nu o w) (e:TypeId) {z:Nat} (hz:0<z) {rows:List (List AV)} {cur:Array Value} {cap:Nat} (hg:sV D nu o w z rows cur) (h1:rows.length<=cap) (h2:cap<=maxLen) (h3:cur.size=cap * z) :
  Good D nu o w (.ok (.slice (some ⟨w.heap.size,0,none⟩) rows.length cap) (w.alloc (.cells cur e))) (.vec o.length rows.length) (o++[some ⟨e,z,true,rows⟩]):=by
 have hb:Below w.heap.size w (w.alloc (.cells cur e)):=(Below.refl _ _).alloc (UZ _) _
 have hv: ∀b,b9 (Value.slice (some ⟨w.heap.size,0,none⟩) rows.length cap)=some b->w.heap.size<=b:=fun b e=>by cases e;exact UZ _
 have hm:=dv (nu:=nu) (o:=o) (ob:=⟨e,z,true,rows⟩) hb hv
 refine ⟨_,_,cN nu o.length (.slice (some ⟨w.heap.size,0,none⟩) rows.length cap),rfl,hm,gP h hb hv (.inr (.inl ⟨w.heap.size,cur,heap_alloc_new w _,h.up _ (UZ _),fun e'=>(by cases e'),fun _=>⟨cap,aQ _ _ _ _,h1,h2,h3⟩,hz,hg.row,fun i j row c x q1 q2 q3=> ?_,fun i j row c x q1 q2 q3=> ?_⟩)), ?_⟩
 ·obtain ⟨y,y1,y2,_⟩:=hg.cell i j row c q1 q2;rw [y1] at q3;cases q3;exact y2.mono hm (fun _ _ h=>h)
 ·obtain ⟨y,y1,_,y3⟩:=hg.cell i j row c q1 q2;rw [y1] at q3;cases q3;exact y3
 ·have:=RA.vec (D:=D) (nu:=cN nu o.length (.slice (some ⟨w.heap.size,0,none⟩) rows.length cap)) (o:=o++[some ⟨e,z,true,rows⟩]) (w:=w.alloc (.cells cur e)) o.length rows.length
   ⟨_,U7,fun x hx=>by cases hx;exact UZ _⟩ (by rw [aQ];rfl)
  rw [aQ] at this;exact this
theorem RA.K8 {z len:Nat} {rows:List (List AV)} {x:Value} (hr:RA D nu o w (.aH z rows len) x):len<=rows.length:=by
 cases hr with
 | br=>exact Va _
 | bz=>exact Va _
 | aH=>assumption
theorem yK {P:Program} {T:TypeId} (ty:TypeId) {e:TypeId} {z bytes:Nat} (ht:gF P T=some (e,z,bytes)) (h:RO D nu o w) {rows:List (List AV)} {len:Nat} {b:AV} {x y:Value} (hr:RA D nu o w (.full (.aH z rows len)) x) (hs:RA D nu o w b y) {p:Prop} {rows2:List (List AV)} (e2:mv o z b=some (p,rows2)) (hp:p)
  (hne:rows2≠[]) (hby:(len+rows2.length) * bytes<=70368744177664) (h63:len+rows2.length<=70368744177664) :
  ∃cap cur,(Builtin.append_ #[T,T] ty #[x,y]).run P w = .ok (.slice (some ⟨w.heap.size,0,none⟩) (len+rows2.length) cap) (w.drew.alloc (.cells cur e))∧sV D nu o w z (rows.take len++rows2) cur∧(rows.take len++rows2).length=len+rows2.length∧len+rows2.length<=cap∧cap<=maxLen∧cur.size=cap * z:=by
 obtain ⟨hu,i,zv,hi,hzv,hzs,hz0,hsize,hbytes⟩:=fg ht
 cases hr with
 | full _ _ hfull hr=>
 obtain ⟨ad,n,rfl⟩:=hfull;have hlen:=hr.K8
 have hL:(rows.take len).length=len:=by rw [Vt];omega
 have hpos:0<rows2.length:=List.length_pos_iff.2 hne
 obtain ⟨g2,c2,news,rfl,hN,hcell2⟩: ∃g c news,y = .slice (some g) rows2.length c∧uV D nu o w z rows2 news∧(∀(j:Nat) u,news[j]? = some u->w.cell? (g.add j)=some u):=by
  rcases iu h hz0 hs e2 hp with ⟨_,e0⟩|hh
  ·exact absurd e0 hne
  ·exact hh
 have hsz:i.size=z:=hsize
 have hgrid: ∀(olds:List Value) (cap:Nat),uV D nu o w z (rows.take len) olds->sV D nu o w z (rows.take len++rows2) (olds.toArray++news.toArray++Builtin.zeroCells zv.cells (cap - (len+rows2.length))):=by
  intro olds cap hO
  have hol:olds.length=len * z:=by rw [hO.len,hL]
  refine ⟨fun k row hk=> ?_,fun k j row c hk hj=> ?_⟩
  ·rcases U6 k (rows.take len).length with q|q
   ·rw [U5 q] at hk;exact hO.row k row hk
   ·rw [Vy q] at hk;exact hN.row _ row hk
  ·rcases U6 k (rows.take len).length with q|q
   ·rw [U5 q] at hk;obtain ⟨u,u1,u2⟩:=hO.cell k j row c hk hj;have hlt:=(U4.1 u1).1;refine ⟨u, ?_,u2,hO.one u (VD u1)⟩;rw [Array.append_assoc,VE (by simpa using hlt)];simpa using u1
   ·rw [Vy q] at hk;obtain ⟨u,u1,u2⟩:=hN.cell _ j row c hk hj;have hlt:=(U4.1 u1).1;refine ⟨u, ?_,u2,hN.one u (VD u1)⟩
    have hk2:k * z+j=len * z+((k - (rows.take len).length) * z+j):=by
     rw [hL] at q ⊢
     have:k * z=len * z+(k - len) * z:=by rw [<-Vc];congr 1;omega
     omega
    rw [Array.append_assoc,Array.getElem?_append_right (by simp [hol];omega),VE (by simp [hol];omega)];simp only [Vs,hol,hk2,Nat.add_sub_cancel_left];simpa using u1
 have hcs: ∀(olds:List Value) (cap:Nat),olds.length=len * z->len+rows2.length<=cap->(olds.toArray++news.toArray++Builtin.zeroCells zv.cells (cap - (len+rows2.length))).size=cap * z:=by
  intro olds cap h1 h2;simp only [Array.size_append,Vs,size_zeroCells,hzs,h1,hN.len, <- Vc]
  congr 1;omega
 have hml:len+rows2.length<=maxLen:=by unfold maxLen;omega
 have hfit: ∀ku,ku<len+rows2.length->Builtin.nextslicecap (len+rows2.length) ku * i.bytes<=281474976710656:=fun ku ho=>by
  have h1:Builtin.nextslicecap (len+rows2.length) ku * i.bytes<=2 * (len+rows2.length) * i.bytes:=Vb _ (nextslicecap_le ho);rw [Nat.mul_assoc,hbytes] at h1;rw [hbytes];omega
 have hlr:(rows.take len++rows2).length=len+rows2.length:=by rw [U8,hL]
 rcases iu (p:=z=z) (rows:=rows.take len) h hz0 hr rfl rfl with ⟨e0,e1⟩|⟨g,c,olds,e0,hO,hcell⟩
 ·rw [e0]
  have hl0:len=0:=by rw [<-hL,e1];rfl
  subst hl0;simp only [Nat.zero_add] at hby h63 hfit hgrid hcs hml hlr ⊢
  refine ⟨_,_,run_append_nil (P:=P) w T ty e i zv hu hi hzv g2 rows2.length c2 news (by rw [hsz];exact hN.len) hcell2 hpos (by unfold maxLen at hml;omega) (by rw [hbytes];omega), ?_,hlr,grownCap_ge w _ 0 e,grownCap_le_maxLen w _ 0 e hml, ?_⟩
  ·have:=hgrid [] (grownCap w rows2.length 0 e) ⟨by simp,fun u hu=>by simp at hu,fun k row hk=>by simp at hk,fun k j row c hk=>by simp at hk⟩
   simpa using this
  ·have:=hcs [] (grownCap w rows2.length 0 e) (by simp) (grownCap_ge w _ 0 e)
   simpa using this
 ·simp only [Value.slice.injEq] at e0;obtain ⟨rfl,e3,e4⟩:=e0;rw [hL] at e3;subst e3;refine ⟨_,_,run_append_grow (P:=P) w T ty e i zv hu hi hzv g n n olds (by rw [hO.len,hL,hsz]) hcell g2 rows2.length c2 news (by rw [hsz];exact hN.len) hcell2 (by omega) (by unfold maxLen at hml;omega) (hfit n (by omega)),hgrid olds _ hO,hlr,grownCap_ge w _ n e,grownCap_le_maxLen w _ n e hml,hcs olds _ (by rw [hO.len,hL]) (grownCap_ge w _ n e)⟩
def qc (P:Program) (T:TypeId) (o:List (Option aa)) (a b:AV):Option (Prop×AV×List (Option aa)):=
 match gF P T,a with
 | some (e,z,bytes), .vec id len=>match o[id]?,mv o z b with
  | some (some ob),some (p,rows2)=>some ((ob.du=true∧ob.z=z∧ob.T=e∧ob.rows.length=len)∧p∧(len+rows2.length) * bytes<=140737488355328∧len+rows2.length<=140737488355328, .vec id (len+rows2.length),o.set id (some { ob with rows:=ob.rows++rows2 }))
  | _,_=>none
 | some (e,z,bytes), .full (.aH z' rows len)=>match mv o z b with
  | some (p,rows2)=>some ((z'=z∧rows2≠[])∧p∧(len+rows2.length) * bytes<=70368744177664∧len+rows2.length<=70368744177664, .vec o.length (len+rows2.length),o++[some ⟨e,z,true,rows.take len++rows2⟩])
  | none=>none
 | some (e,z,bytes), .v (.slice none 0 0)=>match mv o z b with
  | some (p,rows2)=>some (p∧rows2.length * bytes<=140737488355328∧rows2.length<=140737488355328, .vec o.length rows2.length,o++[some ⟨e,z,true,rows2⟩])
  | none=>none
 | _,_=>none
theorem xT {P:Program} {T:TypeId} (ty:TypeId) (h:RO D nu o w) {a b:AV} {x y:Value} (hr:RA D nu o w a x) (hs:RA D nu o w b y) {p:Prop} {r:AV} {o':List (Option aa)} (hl:qc P T o a b=some (p,r,o')) (hp:p) :
  Good D nu o w ((Builtin.append_ #[T,T] ty #[x,y]).run P w) r o':=by
 unfold qc at hl
 split at hl
 ·rename_i e z bytes id len ht
  split at hl
  ·rename_i ob p' rows2 ho e2;simp only [Ve,Vf] at hl;obtain ⟨rfl,rfl,rfl⟩:=hl;obtain ⟨⟨hv,rfl,rfl,rfl⟩,hp',hby,h63⟩:=hp;obtain ⟨hu,i,zv,hi,hzv,hzs,hz0,hsize,hbytes⟩:=fg ht;obtain ⟨xs,hown,hL,hob⟩:=h.qq ho hv;cases hr
   rcases iu h hz0 hs e2 hp' with ⟨rfl,rfl⟩|⟨g,c,news,rfl,hN,hcell⟩
   ·have hrun:=run_append_owned_none (P:=P) w 0 T ty ob.T i ob.z hu hi _ _ _ hown
    have e1:({ ob with rows:=ob.rows++[] }:aa)=ob:=by simp
    have e3:o.set id (some { ob with rows:=ob.rows++[] })=o:=by
     rw [e1]
     apply List.ext_getElem?
     intro k
     by_cases hk:id=k
     ·subst hk;rw [Vq (U4.1 ho).1];exact ho.symm
     ·rw [Vp hk]
    rw [e3,hrun];rename_i hh ho1;exact Good.pure h (.vec id _ hh ho1) rfl
   ·by_cases hne:rows2=[]
    ·subst hne;have hn:news=[]:=VF (by simpa using hN.len);subst hn
     have e1:({ ob with rows:=ob.rows++[] }:aa)=ob:=by simp
     have e3:o.set id (some { ob with rows:=ob.rows++[] })=o:=by
      rw [e1]
      apply List.ext_getElem?
      intro k
      by_cases hk:id=k
      ·subst hk;rw [Vq (U4.1 ho).1];exact ho.symm
      ·rw [Vp hk]
     rw [e3];rename_i hh ho1
     have hrun:(Builtin.append_ #[T,T] ty #[nu id ob.rows.length, .slice (some g) 0 c]).run P w = .ok (nu id ob.rows.length) w:=by
      rcases hown.2 with ⟨e4,e5⟩|⟨g',cap,cur,e4,_,_,hnc,_⟩
      ·rw [e4];simp [Builtin.append_,run_underlying hu,sizeOf,typeInfo,hi,Builtin.lenOf,Builtin.firstCells,loadCells,loadCellsFrom]
      ·rw [e4];simp [Builtin.append_,run_underlying hu,sizeOf,typeInfo,hi,Builtin.lenOf,Builtin.firstCells,loadCells,loadCellsFrom,hnc,storeCells]
     exact Good.pure h (.vec id _ hh ho1) hrun
    ·obtain ⟨v',w',hrun,hown',hgr,_,hvb⟩:=run_append_own_at (P:=P) w 0 T ty ob.T i zv ob.z bytes hu hi hzv hsize hbytes hzs hz0 _ _ xs hown g rows2.length c news hN.len hcell hN.one
      (by unfold maxLen;omega) hby (Va _)
     obtain ⟨k1,k2,k3⟩:=Ed h ho hv hz0 hne hL hN hown' hgr hvb;exact ⟨v',w',_,hrun,k1,k2,k3⟩
  ·cases hl
 ·rename_i e z bytes z' rows len ht
  split at hl
  ·rename_i p' rows2 e2;simp only [Ve,Vf] at hl;obtain ⟨rfl,rfl,rfl⟩:=hl;obtain ⟨⟨rfl,hne⟩,hp',hby,h63⟩:=hp;obtain ⟨_,_,_,_,_,_,hz0,_,_⟩:=fg ht;obtain ⟨cap,cur,hrun,hg,hlr,hc1,hc2,hcs⟩:=yK ty ht h hr hs e2 hp' hne hby h63;have hb:Below w.heap.size w w.drew:=(Below.refl _ _).drew
   have hg':sV D nu o w.drew z' (rows.take len++rows2) cur:=⟨hg.row,fun i j row c h1 h2=>by
    obtain ⟨x,x1,x2,x3⟩:=hg.cell i j row c h1 h2
    exact ⟨x,x1,x2.mono (aw hb) (fun _ _ h=>h),x3⟩⟩
   have:=kR (h.below hb) e hz0 hg' (by rw [hlr];exact hc1) hc2 hcs
   rw [hlr] at this;obtain ⟨v,w',nu',k1,k2,k3⟩:=this;exact ⟨v,w',nu',hrun.trans k1,(aw hb).trans k2,k3⟩
  ·cases hl
 ·rename_i e z bytes ht
  split at hl
  ·rename_i p' rows2 e2;simp only [Ve,Vf] at hl;obtain ⟨rfl,rfl,rfl⟩:=hl;obtain ⟨hp',hby,h63⟩:=hp;obtain ⟨hu,i,zv,hi,hzv,hzs,hz0,hsize,hbytes⟩:=fg ht;cases hr
   
   have fin: ∀(v':Value) (w':World) (news:List Value),uV D nu o w z rows2 news->w'.ownsRow 0 e z v' rows2.length news->w.grownBy w' none->(v'.ownBlock=none∨v'.ownBlock=some w.heap.size) ->
     bt nu o w (cN nu o.length v') (o++[some ⟨e,z,true,rows2⟩]) w'∧RO D (cN nu o.length v') (o++[some ⟨e,z,true,rows2⟩]) w'∧RA D (cN nu o.length v') (o++[some ⟨e,z,true,rows2⟩]) w' (.vec o.length rows2.length) v':=by
    intro v' w' news hN hown hgr hvb;have hb:Below w.heap.size w w':=⟨hgr.os,hgr.tape,hgr.output,hgr.size,fun k hk=>hgr.block k hk (by simp)⟩;obtain ⟨hlen,hown⟩:=hown
    have hv: ∀b,b9 v'=some b->w.heap.size<=b:=fun b hb'=>by
     rcases hown with ⟨rfl,_⟩|⟨g,cap,cur,rfl,_⟩
     ·cases hb'
     ·simp only [Value.ownBlock] at hvb;simp only [b9,dc] at hb'
      rcases hvb with e1|e1
      ·cases e1
      ·rw [e1] at hb';cases hb';exact UZ _
    have hm:=dv (nu:=nu) (o:=o) (ob:=⟨e,z,true,rows2⟩) hb hv
    refine ⟨hm,gP h hb hv ?_, ?_⟩
    ·rcases hown with ⟨rfl,e0⟩|⟨g,cap,cur,rfl,_,hblk,hcap,hcm,hsz,htake⟩
     ·exact .inl ⟨rfl,VF e0,rfl⟩
     ·have hg:g=w.heap.size:=by simpa [Value.ownBlock] using hvb
      have key: ∀(i j:Nat) row c x,rows2[i]? = some row->row[j]? = some c->cur[i * z+j]? = some x->RA D nu o w c x∧x.oneCell'=true:=by
       intro i j row c x q1 q2 q3;obtain ⟨y,y1,y2⟩:=hN.cell i j row c q1 q2;have hj:=(U4.1 q2).1;rw [hN.row i row q1] at hj
       have q4:news[i * z+j]? = some x:=by
        rw [<-htake,Vx (kT (U4.1 q1).1 hj)];simpa using q3
       rw [q4] at y1;cases y1;exact ⟨y2,hN.one _ (VD q4)⟩
      refine .inr (.inl ⟨g,cur,hblk,h.up _ (by omega),fun e'=>(by cases e'),fun _=>⟨cap,aQ _ _ _ _,hcap,hcm,hsz⟩,hz0,hN.row,fun i j row c x q1 q2 q3=>(key i j row c x q1 q2 q3).1.mono hm (fun _ _ h=>h),fun i j row c x q1 q2 q3=>(key i j row c x q1 q2 q3).2⟩)
    ·have:=RA.vec (D:=D) (nu:=cN nu o.length v') (o:=o++[some ⟨e,z,true,rows2⟩]) (w:=w') o.length rows2.length ⟨_,U7,fun x hx=>by cases hx;exact UZ _⟩ (by
      rw [aQ]
      rcases hown with ⟨rfl,_⟩|⟨g,cap,cur,rfl,_⟩<;>rfl)
     rw [aQ] at this;exact this
   have hnil:=World.ownsRow_nil w 0 e z
   rcases iu h hz0 hs e2 hp' with ⟨rfl,rfl⟩|⟨g,c,news,rfl,hN,hcell⟩
   ·have hrun:=run_append_owned_none (P:=P) w 0 T ty e i z hu hi _ _ _ hnil;obtain ⟨k1,k2,k3⟩:=fin (.slice none 0 0) w [] (rO z) (by simpa using hnil) ⟨rfl,rfl,rfl,UZ _,fun _ _ _=>rfl⟩ (.inl rfl);exact ⟨_,w,_,hrun,k1,k2,k3⟩
   ·obtain ⟨v',w',hrun,hown',hgr,_,hvb⟩:=run_append_own_at (P:=P) w 0 T ty e i zv z bytes hu hi hzv hsize hbytes hzs hz0 _ _ [] hnil g rows2.length c news hN.len hcell hN.one
     (by unfold maxLen;omega) (by simpa using hby) (Va _)
    obtain ⟨k1,k2,k3⟩:=fin v' w' news hN (by simpa using hown') hgr (by simpa [Value.ownBlock] using hvb);exact ⟨v',w',_,hrun,k1,k2,k3⟩
  ·cases hl
 ·cases hl
def cq (P:Program) (e:TypeId):Option (List AV):=match P.info? e with
 | some i=>match i.zero with
  | some zv=>if zv.cells.toList.all (·.oneCell') then some (zv.cells.toList.map AV.v) else none
  | none=>none
 | none=>none
theorem ix {P:Program} {e:TypeId} {cs:List AV} (h:cq P e=some cs): ∃i zv,P.info? e=some i∧i.zero=some zv∧cs=zv.cells.toList.map AV.v∧ ∀x∈zv.cells.toList,x.oneCell'=true:=by
 unfold cq at h
 split at h
 ·rename_i i hi
  split at h
  ·rename_i zv hz
   split at h
   ·rename_i ha;cases h;exact ⟨i,zv,hi,hz,rfl,fun x hx=>List.all_eq_true.1 ha x hx⟩
   ·cases h
  ·cases h
 ·cases h
theorem wL (zv:Value) (h1: ∀x∈zv.cells.toList,x.oneCell'=true):Jj D nu o w (zv.cells.toList.map AV.v) zv.cells:=
 ⟨⟨by simp,fun i c x hc hx=>by
  rw [Vl] at hc
  have:zv.cells.toList[i]? = some x:=by simpa using hx
  rw [this] at hc;cases hc;exact .v x⟩,fun i x hx=>h1 x (VD (show zv.cells.toList[i]? = some x by simpa using hx))⟩
def BP (P:Program) (T:TypeId) (o:List (Option aa)) (n c:AV):Option (Prop×AV×List (Option aa)):=
 match P.underlying T,n,c with
 | some (.slice e), .v (.int _ l), .v (.int _ m)=>match gF P T,cq P e with
  | some (_,z,bytes),some zr=>some (0<=l∧l<=m∧m.toNat * bytes<=140737488355328∧m.toNat<=140737488355328, .vec o.length l.toNat,o++[some ⟨e,z,true,List.replicate l.toNat zr⟩])
  | _,_=>none
 | _,_,_=>none
theorem Ea {P:Program} {T:TypeId} (h:RO D nu o w) {n c:AV} {x y:Value} (hx:RA D nu o w n x) (hy:RA D nu o w c y) {p:Prop} {r:AV} {o':List (Option aa)} (hl:BP P T o n c=some (p,r,o')) (hp:p) :
  Good D nu o w ((Instr.makeSlice T x y).run P w) r o':=by
 unfold BP at hl
 split at hl
 ·rename_i e kl l kc m hu
  split at hl
  ·rename_i e2 z bytes zr ht hz;simp only [Ve,Vf] at hl;obtain ⟨rfl,rfl,rfl⟩:=hl;obtain ⟨h1,h2,h3,h4⟩:=hp;obtain ⟨hu',i,zv,hi,hzv,hzs,hz0,hsize,hbytes⟩:=fg ht;rw [hu] at hu';cases hu';obtain ⟨i',zv',hi',hzv',rfl,hone⟩:=ix hz;rw [hi] at hi';cases hi';rw [hzv] at hzv';cases hzv';cases hx;cases hy
   have hr:=run_make (P:=P) w T e i zv hu hi hzv kl kc l m h1 h2 (by
    have:(i.bytes:Int) * m=((m.toNat * i.bytes:Nat):Int):=by
     rw [Int.natCast_mul,Int.toNat_of_nonneg (by omega),Int.mul_comm]
    rw [this,hbytes];omega) (by omega)
   rw [hr]
   have hmod: ∀i j:Nat,j<z->(i * z+j) % zv.cells.size=j:=fun i j hj=>by rw [hzs];exact qm hj
   have hg:sV D nu o w z (List.replicate l.toNat (zv.cells.toList.map AV.v)) (madeCells zv.cells (m.toNat * i.size)):=by
    refine ⟨fun k row hk=> ?_,fun k j row c hk hj=> ?_⟩
    ·rw [VG] at hk;split at hk<;>cases hk;simpa using hzs
    ·rw [VG] at hk
     split at hk
     ·rename_i hlt;cases hk;rw [Vl] at hj
      cases hq:zv.cells.toList[j]? with
      | none=>rw [hq] at hj;cases hj
      | some u=>
       rw [hq] at hj;cases hj
       have hjl:j<zv.cells.size:=by have:=(U4.1 hq).1;simpa using this
       refine ⟨u, ?_, .v u,hone u (VD hq)⟩
       have hlt2:k * z+j<m.toNat * i.size:=by rw [hsize];exact kT (by omega) (by omega)
       simp only [madeCells,Array.getElem?_map,VH,if_pos hlt2,VB];rw [hmod k j (by omega)]
       have:zv.cells[j]? = some u:=by simpa using hq
       rw [getElem!_pos zv.cells j hjl,(U2.1 this).2]
     ·cases hk
   have:=kR h e hz0 hg (cap:=m.toNat) (by simp;omega) (by unfold maxLen;omega) (by rw [size_madeCells,hsize])
   simpa using this
  ·cases hl
 ·cases hl
theorem o5 (off:Nat): ∀(xs:List Value) (s:Nat) (cells:Array Value) (k:Nat),off+s+xs.length<=cells.size ->
  ((xs.zipIdx s).foldl (fun cs p=>cs.setIfInBounds (off+p.2) p.1) cells)[k]? = if off+s<=k∧k<off+s+xs.length then xs[k - (off+s)]? else cells[k]?
 | [],s,cells,k,_=>by
  rw [if_neg (by simp only [U3];omega)];rfl
 | x :: xs,s,cells,k,h=>by
  simp only [U9] at h;rw [List.zipIdx_cons,List.foldl_cons,o5 off xs (s+1) _ k (by simp;omega)];simp only [U9]
  by_cases h1:off+(s+1)<=k∧k<off+(s+1)+xs.length
  ·rw [if_pos h1,if_pos (by omega),show k - (off+s)=(k - (off+(s+1)))+1 by omega,List.getElem?_cons_succ]
  ·rw [if_neg h1]
   by_cases h2:k=off+s
   ·subst h2;rw [if_pos (by omega),Nat.sub_self,Array.getElem?_setIfInBounds_self_of_lt (by omega)];rfl
   ·rw [if_neg (by omega),Array.getElem?_setIfInBounds_ne (VC h2)]
theorem mF (off:Nat): ∀(xs:List Value) (s:Nat) (cells:Array Value),((xs.zipIdx s).foldl (fun cs p=>cs.setIfInBounds (off+p.2) p.1) cells).size=cells.size
 | [],_,_=>rfl
 | x :: xs,s,cells=>by rw [List.zipIdx_cons,List.foldl_cons,mF off xs];simp
theorem ru (xs:Array Value) (off:Nat) (cells:Array Value):xs.zipIdx.foldl (fun cs (c,j)=>cs.setIfInBounds (off+j) c) cells=(xs.toList.zipIdx 0).foldl (fun cs p=>cs.setIfInBounds (off+p.2) p.1) cells:=by
 rw [<-Array.foldl_toList,Array.toList_zipIdx]
def pA (place:List (Nat×Nat)) (cells:List AV):List (Nat×AV)->Option (List AV)
 | []=>some cells
 | (i,a) :: rest=>match place[i]?,a.cells? with
  | some (off,size),some cs=>if cs.length=size∧off+cs.length<=cells.length then pA place (zo cells off cs) rest else none
  | _,_=>none
theorem K9 {row cs:List AV} {off k:Nat} (h:off+cs.length<=row.length):(zo row off cs)[k]? = if off<=k∧k<off+cs.length then cs[k - off]? else row[k]? :=by
 have h1:(row.take off).length=off:=by simp;omega
 unfold zo
 by_cases hk:k<off
 ·rw [if_neg (by omega),Vv,U5 (by omega),Vx hk]
 ·rw [Vv,Vy (by omega),h1]
  by_cases h2:k<off+cs.length
  ·rw [if_pos (by omega),U5 (by omega)]
  ·rw [if_neg (by omega),Vy (by omega),Vg]
   congr 1;omega
theorem oZ (place:List (Nat×Nat)): ∀(ps:List (Nat×AV)) (vs:List (Nat×Value)) (cells:List AV) (cur:Array Value),ps.length=vs.length ->
  (∀(k:Nat) p q,ps[k]? = some p->vs[k]? = some q->p.1=q.1∧RA D nu o w p.2 q.2)->Jj D nu o w cells cur-> ∀ {res:List AV},pA place cells ps=some res-> ∃ys,Instr.fill (place.toArray[·]?) cur vs=some ys∧Jj D nu o w res ys
 | [],[],cells,cur,_,_,hc,res,hf=>by
  simp only [pA,Ve] at hf;subst hf;exact ⟨cur,rfl,hc⟩
 | (i,a) :: ps,(j,v) :: vs,cells,cur,hl,hall,hc,res,hf=>by
  obtain ⟨he,hr⟩:=hall 0 (i,a) (j,v) rfl rfl;simp only at he hr;subst he;simp only [pA] at hf
  split at hf
  ·rename_i off size cs e1 e2
   split at hf
   ·rename_i hcond;have hcs:=hr.one e2
    have hsz:v.cells.size=size:=by rw [<-hcs.len];exact hcond.1
    have hcl:=hc.len
    have hfit:off+v.cells.size<=cur.size:=by rw [<-hcs.len, <- hcl];exact hcond.2
    have hlen:(zo cells off cs).length=cells.length:=by simp [zo];omega
    have hnew:Jj D nu o w (zo cells off cs) (v.cells.zipIdx.foldl (fun cs (c,j)=>cs.setIfInBounds (off+j) c) cur):=by
     rw [ru];have hget:=fun k=>o5 off v.cells.toList 0 cur k (by simpa using hfit);simp only [Vo,Vu] at hget
     refine ⟨⟨by rw [hlen,mF];exact hcl,fun k c x h1 h2=> ?_⟩,fun k x h2=> ?_⟩
     ·rw [K9 hcond.2] at h1;rw [hget k] at h2;rw [hcs.len] at h1
      split at h1
      ·rename_i hk;rw [if_pos hk] at h2;exact hcs.at' _ c x h1 (by simpa using h2)
      ·rename_i hk;rw [if_neg hk] at h2;exact hc.at' k c x h1 h2
     ·rw [hget k] at h2
      split at h2
      ·exact hcs.one _ x (by simpa using h2)
      ·exact hc.one k x h2
    obtain ⟨ys,h1,h2⟩:=oZ place ps vs _ _ (by simpa using hl) (fun k p q h1 h2=>hall (k+1) p q (by simpa using h1) (by simpa using h2)) hnew hf;refine ⟨ys, ?_,h2⟩
    have e1':place.toArray[i]? = some (off,size):=by simpa using e1
    simp only [Instr.fill,e1'];rw [if_neg (by simp;omega)];exact h1
   ·cases hf
  ·cases hf
 | [],_ :: _,_,_,hl,_,_,_,_=>by simp at hl
 | _ :: _,[],_,_,hl,_,_,_,_=>by simp at hl
def yX (P:Program) (T:TypeId):Option (List (Nat×Nat)×List AV):=
 match P.underlying T with
 | some (.struct fields)=>match fields.toList.mapM (fun f=>(P.info? f.type).map fun i=>(f.offset,i.size)),cq P T with
  | some pl,some z=>some (pl,z)
  | _,_=>none
 | some (.array n e)=>match P.info? e,cq P T with
  | some ie,some z=>some ((List.range n).map (fun i=>(i * ie.size,ie.size)),z)
  | _,_=>none
 | _=>none
theorem tR {p q:Nat->Option (Nat×Nat)} (h: ∀i x,p i=some x->q i=some x): ∀(vs:List (Nat×Value)) (cur ys:Array Value),Instr.fill p cur vs=some ys->Instr.fill q cur vs=some ys
 | [],cur,ys,hf=>hf
 | (i,v) :: vs,cur,ys,hf=>by
  simp only [Instr.fill] at hf ⊢
  cases hp:p i with
  | none=>rw [hp] at hf;cases hf
  | some x=>
   rw [hp] at hf;rw [h i x hp];simp only at hf ⊢
   split at hf
   ·cases hf
   ·rename_i hc;rw [if_neg hc];exact tR h vs _ ys hf
def u4 (P:Program) (T:TypeId) (parts:List (Nat×AV)):Option AV:=match yX P T with
 | some (pl,z)=>(pA pl z parts).map AV.agg
 | none=>none
theorem Ap {P:Program} {T:TypeId} {ps:List (Nat×AV)} {vs:Array (Nat×Value)} (hl:ps.length=vs.size) (hall: ∀(k:Nat) p q,ps[k]? = some p->vs[k]? = some q->p.1=q.1∧RA D nu o w p.2 q.2) {r:AV} (hb:u4 P T ps=some r) :
  ∃v,(Instr.build T vs).run P w = .ok v w∧RA D nu o w r v:=by
 unfold u4 at hb
 split at hb
 ·rename_i pl z ht;unfold yX at ht
  split at ht
  ·rename_i fields hu
   split at ht
   ·rename_i pl' z' h1 h2;simp only [Ve,Vf] at ht;obtain ⟨rfl,rfl⟩:=ht;obtain ⟨i,zv,hi,hzv,rfl,hone⟩:=ix h2
    cases hf:pA pl' (zv.cells.toList.map AV.v) ps with
    | none=>rw [hf] at hb;cases hb
    | some res=>
     rw [hf] at hb;cases hb;obtain ⟨ys,h3,h4⟩:=oZ pl' ps vs.toList _ _ (by simpa using hl) (fun k p q a b=>hall k p q a (by simpa using b)) (wL zv hone) hf;refine ⟨.agg ys,run_build w T vs ys ?_, .agg _ _ h4.len h4.at' h4.one⟩;simp only [Program.built,hi,hu,hzv,h1];exact h3
   ·cases ht
  ·rename_i n e hu
   split at ht
   ·rename_i ie z' h1 h2;simp only [Ve,Vf] at ht;obtain ⟨rfl,rfl⟩:=ht;obtain ⟨i,zv,hi,hzv,rfl,hone⟩:=ix h2
    cases hf:pA ((List.range n).map (fun i=>(i * ie.size,ie.size))) (zv.cells.toList.map AV.v) ps with
    | none=>rw [hf] at hb;cases hb
    | some res=>
     rw [hf] at hb;cases hb;obtain ⟨ys,h3,h4⟩:=oZ _ ps vs.toList _ _ (by simpa using hl) (fun k p q a b=>hall k p q a (by simpa using b)) (wL zv hone) hf;refine ⟨.agg ys,run_build w T vs ys ?_, .agg _ _ h4.len h4.at' h4.one⟩;simp only [Program.built,hi,hu,hzv,h1];refine tR (fun i x hx=> ?_) _ _ _ h3;simp only [Vk,Vl] at hx
     cases hr:(List.range n)[i]? with
     | none=>rw [hr] at hx;cases hx
     | some j=>
      rw [hr] at hx
      have:=(U4.1 hr).2
      rw [List.getElem_range] at this;rw [<-hx,VB,this]
   ·cases ht
  ·cases ht
 ·cases hb
def tD (z:Nat) (rows:List (List AV)):List (Nat×AV)->Option (List (List AV))
 | []=>some rows
 | (i,a) :: rest=>match a.cells? with
  | some cs=>if cs.length=z∧i<rows.length then tD z (rows.set i cs) rest else none
  | none=>none
theorem uA {z:Nat}: ∀(ps:List (Nat×AV)) (vs:List (Nat×Value)) (rows:List (List AV)) (cur:Array Value),ps.length=vs.length ->
  (∀(k:Nat) p q,ps[k]? = some p->vs[k]? = some q->p.1=q.1∧RA D nu o w p.2 q.2)->sV D nu o w z rows cur->cur.size=rows.length * z-> ∀ {res:List (List AV)},tD z rows ps=some res ->
  ∃ys,Instr.fill (fun i=>some (i * z,z)) cur vs=some ys∧sV D nu o w z res ys∧res.length=rows.length∧ys.size=cur.size
 | [],[],rows,cur,_,_,hc,_,res,hf=>by
  simp only [tD,Ve] at hf;subst hf;exact ⟨cur,rfl,hc,rfl,rfl⟩
 | (i,a) :: ps,(j,v) :: vs,rows,cur,hl,hall,hc,hsz,res,hf=>by
  obtain ⟨he,hr⟩:=hall 0 (i,a) (j,v) rfl rfl;simp only at he hr;subst he;simp only [tD] at hf
  split at hf
  ·rename_i cs e2
   split at hf
   ·rename_i hcond;have hcs:=hr.one e2
    have hvs:v.cells.size=z:=by rw [<-hcs.len];exact hcond.1
    have hfit:i * z+z<=cur.size:=by
     rw [hsz];have:(i+1) * z<=rows.length * z:=Vb _ hcond.2;rw [Vc,Vd] at this;exact this
    have hnew:sV D nu o w z (rows.set i cs) (v.cells.zipIdx.foldl (fun cs (c,j)=>cs.setIfInBounds (i * z+j) c) cur):=by
     rw [ru];have hget:=fun k=>o5 (i * z) v.cells.toList 0 cur k (by simp;omega);simp only [Vo,Vu] at hget
     refine ⟨fun k row hk=> ?_,fun k m row c h1 h2=> ?_⟩
     ·by_cases hik:i=k
      ·subst hik;rw [Vq hcond.2] at hk;cases hk;exact hcond.1
      ·rw [Vp hik] at hk;exact hc.row k row hk
     ·by_cases hik:i=k
      ·subst hik;rw [Vq hcond.2] at h1;cases h1;have hm:=(U4.1 h2).1;have hx:v.cells[m]? = some v.cells[m]:=Vh (by omega);refine ⟨v.cells[m], ?_,hcs.at' m c _ h2 hx,hcs.one m _ hx⟩;rw [hget,if_pos (by omega),show i * z+m - i * z=m by omega];simp
      ·rw [Vp hik] at h1;obtain ⟨x,q1,q2⟩:=hc.cell k m row c h1 h2;refine ⟨x, ?_,q2⟩;have hm:=(U4.1 h2).1;rw [hc.row k row h1] at hm;rw [hget,if_neg,q1]
       rcases Nat.lt_or_gt_of_ne hik with hlt|hgt
       ·have:(i+1) * z<=k * z:=Vb _ hlt
        rw [Vc,Vd] at this;omega
       ·have:(k+1) * z<=i * z:=Vb _ hgt
        rw [Vc,Vd] at this;omega
    have hsz':(v.cells.zipIdx.foldl (fun cs (c,j)=>cs.setIfInBounds (i * z+j) c) cur).size=cur.size:=by rw [ru,mF]
    obtain ⟨ys,h1,h2,h3,h4⟩:=uA ps vs _ _ (by simpa using hl) (fun k p q h1 h2=>hall (k+1) p q (by simpa using h1) (by simpa using h2)) hnew (by rw [hsz'];simpa using hsz) hf;refine ⟨ys, ?_,h2,by simpa using h3,by rw [h4,hsz']⟩;simp only [Instr.fill];rw [if_neg (by simp;omega)];exact h1
   ·cases hf
  ·cases hf
 | [],_ :: _,_,_,hl,_,_,_,_,_=>by simp at hl
 | _ :: _,[],_,_,hl,_,_,_,_,_=>by simp at hl
def e7 (P:Program) (T:TypeId) (len:Nat) (o:List (Option aa)) (parts:List (Nat×AV)):Option (AV×List (Option aa)):=
 match P.underlying T with
 | some (.slice e)=>match gF P T,cq P e with
  | some (_,z,_),some zr=>if len * z<=16777216 then match tD z (List.replicate len zr) parts with
   | some rows=>some (.vec o.length len,o++[some ⟨e,z,true,rows⟩])
   | none=>none
   else none
  | _,_=>none
 | _=>none
theorem Ii {P:Program} {T:TypeId} {len:Nat} {ps:List (Nat×AV)} {vs:Array (Nat×Value)} (hl:ps.length=vs.size) (hall: ∀(k:Nat) p q,ps[k]? = some p->vs[k]? = some q->p.1=q.1∧RA D nu o w p.2 q.2) {o1:List (Option aa)} {r:AV} {o':List (Option aa)} (hb:e7 P T len o1 ps=some (r,o')) :
  ∃e z rows ys,r = .vec o1.length len∧o'=o1++[some ⟨e,z,true,rows⟩]∧rows.length=len∧0<z∧len<=16777216∧ys.size=len * z∧sV D nu o w z rows ys∧(Instr.buildSlice T len vs).run P w = .ok (.slice (some ⟨w.heap.size,0,none⟩) len len) (w.alloc (.cells ys e)):=by
 unfold e7 at hb
 split at hb
 ·rename_i e hu
  split at hb
  ·rename_i e2 z bytes zr ht hz
   split at hb
   ·rename_i hsmall
    split at hb
    ·rename_i rows hrows;simp only [Ve,Vf] at hb;obtain ⟨rfl,rfl⟩:=hb;obtain ⟨hu',i,zv,hi,hzv,hzs,hz0,hsize,hbytes⟩:=fg ht;rw [hu] at hu';cases hu';obtain ⟨i',zv',hi',hzv',rfl,hone⟩:=ix hz;rw [hi] at hi';cases hi';rw [hzv] at hzv';cases hzv'
     have hg:sV D nu o w z (List.replicate len (zv.cells.toList.map AV.v)) ((Array.range (len * i.size)).map (zv.cells[· % zv.cells.size]!)):=by
      refine ⟨fun k row hk=> ?_,fun k j row c hk hj=> ?_⟩
      ·rw [VG] at hk;split at hk<;>cases hk;simpa using hzs
      ·rw [VG] at hk
       split at hk
       ·rename_i hlt;cases hk;rw [Vl] at hj
        cases hq:zv.cells.toList[j]? with
        | none=>rw [hq] at hj;cases hj
        | some u=>
         rw [hq] at hj;cases hj
         have hjl:j<zv.cells.size:=by have:=(U4.1 hq).1;simpa using this
         refine ⟨u, ?_, .v u,hone u (VD hq)⟩
         have hlt2:k * z+j<len * i.size:=by rw [hsize];exact kT hlt (by omega)
         simp only [Array.getElem?_map,VH,if_pos hlt2,VB];rw [show (k * z+j) % zv.cells.size=j by rw [hzs];exact qm (by omega)]
         have:zv.cells[j]? = some u:=by simpa using hq
         rw [getElem!_pos zv.cells j hjl,(U2.1 this).2]
       ·cases hk
     obtain ⟨ys,h1,h2,h3,h4⟩:=uA ps vs.toList _ _ (by simpa using hl) (fun k p q a b=>hall k p q a (by simpa using b)) hg (by simp [hsize]) hrows;simp only [List.length_replicate] at h3
     have hys:ys.size=len * z:=by rw [h4];simp [hsize]
     have hrun:(Instr.buildSlice T len vs).run P w = .ok (.slice (some ⟨w.heap.size,0,none⟩) len len) (w.alloc (.cells ys e)):=by
      rw [<-hsize] at h1
      by_cases h0:len * i.size=0
      ·have hlen0:len=0:=by
        rcases Nat.mul_eq_zero.1 h0 with e1|e1
        ·exact e1
        ·omega
       subst hlen0
       have h0': ¬(0 > 16777216):=by omega
       simp [Array.range_zero'] at h1;simp [Instr.buildSlice,run_underlying hu,sizeOf,typeInfo,hi,newRow,Array.range_zero',h1]
      ·have hs': ¬len * i.size > 2 ^ 24:=by rw [hsize];omega
       simp [Instr.buildSlice,run_underlying hu,sizeOf,typeInfo,zeroValue,hi,hzv,hs',h0,h1,newRow]
     have hlm:len<=16777216:=U0 (Nat.le_mul_of_pos_right _ hz0) hsmall;exact ⟨e,z,rows,ys,rfl,rfl,h3,hz0,hlm,hys,h2,hrun⟩
    ·cases hb
   ·cases hb
  ·cases hb
 ·cases hb
theorem p7 {P:Program} {T:TypeId} {len:Nat} (h:RO D nu o w) {ps:List (Nat×AV)} {vs:Array (Nat×Value)} (hl:ps.length=vs.size) (hall: ∀(k:Nat) p q,ps[k]? = some p->vs[k]? = some q->p.1=q.1∧RA D nu o w p.2 q.2) {r:AV} {o':List (Option aa)} (hb:e7 P T len o ps=some (r,o')) :
  Good D nu o w ((Instr.buildSlice T len vs).run P w) r o':=by
 obtain ⟨e,z,rows,ys,rfl,rfl,h3,hz0,hlm,hys,h2,hrun⟩:=Ii hl hall hb;rw [hrun]
 have:=kR h e hz0 h2 (cap:=len) (by omega) (by unfold maxLen;omega) hys
 rw [h3] at this;exact this
end
end
section
section
variable {D:Nat->Prop} {nu:Nat->Nat->Value} {o:List (Option aa)} {w:World} {P:Program}
theorem cH (id:Nat):bt nu o w nu (o.set id none) w:=by
 refine ⟨rfl,rfl,rfl,UZ _,fun id' len hh=>⟨?_,rfl⟩,fun b _ hno=>⟨rfl, ?_⟩⟩
 ·obtain ⟨x,k1,k2⟩:=hh
  by_cases he:id=id'
  ·subst he;exact ⟨none,Vq (U4.1 k1).1,fun x hx=>by cases hx⟩
  ·exact ⟨x,by rw [Vp he];exact k1,k2⟩
 ·rintro ⟨id',ob'',k1,k2⟩
  by_cases he:id=id'
  ·subst he;rw [Vq (by have:=(U4.1 k1).1;simpa using this)] at k1;cases k1
  ·rw [Vp he] at k1;exact hno ⟨id',ob'',k1,k2⟩
theorem cK {id id':Nat} {ob:aa} (h:(o.set id none)[id']? = some (some ob)):o[id']? = some (some ob)∧id≠id':=by
 by_cases he:id=id'
 ·subst he;rw [Vq (by have:=(U4.1 h).1;simpa using this)] at h;cases h
 ·rw [Vp he] at h;exact ⟨h,he⟩
theorem iN (h:RO D nu o w) (id:Nat):RO D nu (o.set id none) w:=by
 have hm:=cH (nu:=nu) (o:=o) (w:=w) id;refine ⟨fun id' ob' k1=> ?_,h.up,fun i1 i2 b1 b2 b k1 k2=>h.sep i1 i2 b1 b2 b (cK k1).1 (cK k2).1,h.gl.mono hm (fun _ _ h=>h)⟩
 rcases h.obj id' ob' (cK k1).1 with e|⟨g,cur,hr⟩|⟨g,es,cl,hmp⟩
 ·exact .inl e
 ·exact .inr (.inl ⟨g,cur,hr.blk,hr.ko,hr.box,hr.vec,hr.z,hr.row,fun i j row c x q1 q2 q3=>(hr.cell i j row c x q1 q2 q3).mono hm (fun _ _ h=>h),hr.one⟩)
 ·exact .inr (.inr ⟨g,es,cl,hmp.tr rfl (fun h=>h) rfl (fun i j row c x _ _ hr=>hr.mono hm (fun _ _ h=>h))⟩)
theorem Kk (h:RO D nu o w) {id:Nat} {ob:aa} (ho:o[id]? = some (some ob)) {g:Nat} {cur:Array Value} (hb:sO D nu o w id ob g cur):Fz D nu (o.set id none) w g:=by
 refine ⟨(U2.1 hb.blk).1, ?_,hb.ko⟩;rintro ⟨id',ob',k1,k2⟩;obtain ⟨k3,k4⟩:=cK k1;exact h.sep id id' ob ob' g ho k3 k4 hb.bg k2
theorem kf (h:RO D nu o w) {id:Nat} {ob:aa} (ho:o[id]? = some (some ob)) (hv:ob.du=true):RA D nu (o.set id none) w (.aH ob.z ob.rows ob.rows.length) (nu id ob.rows.length):=by
 rcases h.obj id ob ho with ⟨e1,e2,e3⟩|⟨g,cur,hb⟩|⟨g,es,cl,hmp⟩
 rotate_left 2
 ·rw [hmp.du] at hv;cases hv
 ·rw [e2];simp only [U3];rw [e3];exact .br _
 ·obtain ⟨cap,q1,q2,q3,q4⟩:=hb.vec hv;rw [q1]
  have hget: ∀(i j:Nat) row c,ob.rows[i]? = some row->row[j]? = some c->cur[i * ob.z+j]? = some (cur.getD (i * ob.z+j) Go.undef):=fun i j row c k1 k2=>by
   have:=hb.nt k1 (U4.1 k2).1
   simp [Array.getD,this]
  refine .aH _ _ _ g 0 cap (fun i j=>cur.getD (i * ob.z+j) Go.undef) (UZ _) q2 q3 (fun _=>Kk h ho hb) hb.row (fun i j row c k1 k2=> ?_) (fun i j row c k1 k2=> ?_) (fun i j row c k1 k2=> ?_)
  ·rw [<-hget i j row c k1 k2]
   have:=hb.blk
   simp [World.cell?,this]
  ·exact (hb.cell i j row c _ k1 k2 (hget i j row c k1 k2)).mono (cH id) (fun _ _ h=>h)
  ·exact hb.one i j row c _ k1 k2 (hget i j row c k1 k2)
def Fe:Option AV->Nat->Option (Prop×Nat)
 | none,d=>some (True,d)
 | some (.v (.int _ i)),_=>some (0<=i,i.toNat)
 | some _,_=>none
theorem ee {a:Option AV} {d n:Nat} {p:Prop} (h:Fe a d=some (p,n)) (hp:p) {x:Option Value} (hx: ∀c,a=some c-> ∃y,x=some y∧RA D nu o w c y) (hn:a=none->x=none) :
  (x=none∧n=d)∨ ∃k,x=some (.int k (n:Int)):=by
 cases a with
 | none=>simp only [Fe,Ve,Vf] at h;exact .inl ⟨hn rfl,h.2.symm⟩
 | some c=>
  cases c with
  | v y=>
   cases y with
   | int k i=>
    simp only [Fe,Ve,Vf] at h;obtain ⟨rfl,rfl⟩:=h;obtain ⟨y,rfl,hy⟩:=hx _ rfl;cases hy;exact .inr ⟨k,by rw [Int.toNat_of_nonneg hp]⟩
   | _=>cases h
  | _=>cases h
theorem cI {b:Bool} {len cap l h m:Nat} {lo hi mx:Option Value} (hl:(lo=none∧l=0)∨ ∃k,lo=some (.int k (l:Int))) (hh:(hi=none∧h=len∧mx=none)∨ ∃k,hi=some (.int k (h:Int)))
  (hm:(mx=none∧m=cap)∨ ∃k,mx=some (.int k (m:Int))) (h1:l<=h) (h2:h<=m) (h3:m<=cap):(Instr.sliceBounds b len cap lo hi mx).run P w = .ok (l,h,m) w:=by
 rcases hm with ⟨rfl,rfl⟩|⟨km,rfl⟩
 ·rcases hh with ⟨rfl,rfl,_⟩|⟨kh,rfl⟩
  ·rcases hl with ⟨rfl,rfl⟩|⟨kl,rfl⟩
   ·simp [Instr.sliceBounds]
   ·simp [Instr.sliceBounds,Instr.sliceBound,asIntOf,h1]
  ·rcases hl with ⟨rfl,rfl⟩|⟨kl,rfl⟩
   ·simp [Instr.sliceBounds,Instr.sliceBound,asIntOf,h2]
   ·simp [Instr.sliceBounds,Instr.sliceBound,asIntOf,h1,h2]
 ·rcases hh with ⟨_,_,e⟩|⟨kh,rfl⟩
  ·cases e
  ·rcases hl with ⟨rfl,rfl⟩|⟨kl,rfl⟩
   ·simp [Instr.sliceBounds,Instr.sliceBound,asIntOf,h2,h3]
   ·simp [Instr.sliceBounds,Instr.sliceBound,asIntOf,h1,h2,h3]
theorem nP {z len l h m:Nat} {rows:List (List AV)} {x:Value} (hr:RA D nu o w (.aH z rows len) x) (h1:l<=h) (h2:h<=m) (h3:m<=rows.length) :
  ∃a cap,x = .slice a len cap∧rows.length<=cap∧(∀M,m<=M->M<=cap->RA D nu o w (.aH z ((rows.take m).drop l) (h - l)) (.slice (if M=l then a else a.map (·.add (l * z))) (h - l) (M - l))):=by
 cases hr with
 | br=>
  simp at h3
  obtain rfl:l=0:=by omega
  obtain rfl:h=0:=by omega
  subst h3;refine ⟨none,0,rfl,UZ _,fun M hM hM'=> ?_⟩
  obtain rfl:M=0:=by omega
  exact .br z
 | bz _ a=>
  simp at h3
  obtain rfl:l=0:=by omega
  obtain rfl:h=0:=by omega
  subst h3;refine ⟨some a,0,rfl,UZ _,fun M hM hM'=> ?_⟩
  obtain rfl:M=0:=by omega
  exact .bz z a
 | aH _ _ _ b off cap f k1 k2 k3 k4 k5 k6 k7 k8=>
  refine ⟨some ⟨b,off,none⟩,cap,rfl,k2,fun M hM hM'=> ?_⟩
  have hget: ∀(i:Nat) row,((rows.take m).drop l)[i]? = some row->rows[l+i]? = some row:=fun i row hi=>by
   rw [Vg,Vj] at hi
   split at hi
   ·exact hi
   ·cases hi
  by_cases hMl:M=l
  ·rw [if_pos hMl]
   have e:(rows.take m).drop l=[]:=by simp;omega
   rw [e];refine .aH z [] (h - l) b off (M - l) f (by simp;omega) (by simp) (by omega) (fun hh=>absurd rfl hh) (fun i row hi=>by simp at hi) (fun i j row c hi=>by simp at hi) (fun i j row c hi=>by simp at hi) (fun i j row c hi=>by simp at hi)
  ·rw [if_neg hMl];simp only [VB,Addr.add_lit];refine .aH z _ (h - l) b (off+l * z) (M - l) (fun i j=>f (l+i) j) (by simp;omega) (by simp;omega) (by omega) (fun hh=>k4 (fun e=>hh (by rw [e];simp))) (fun i row hi=>k5 _ row (hget i row hi)) (fun i j row c hi hj=> ?_) (fun i j row c hi hj=>k7 _ j row c (hget i row hi) hj) (fun i j row c hi hj=>k8 _ j row c (hget i row hi) hj)
   have:=k6 (l+i) j row c (hget i row hi) hj
   rw [<-this]
   congr 2
   rw [Vc];omega
def Qa (P:Program) (T:TypeId):Option Nat:=match P.underlying T with
 | some (.slice e)=>bc P e
 | _=>none
theorem lq {T:TypeId} {z:Nat} (h:Qa P T=some z): ∃e,P.underlying T=some (.slice e)∧bc P e=some z:=by
 unfold Qa at h
 split at h
 ·exact ⟨_, ‹_›,h⟩
 ·cases h
def mr (P:Program) (T:TypeId) (o:List (Option aa)) (a:AV) (lo hi mx:Option AV):Option (Prop×AV×List (Option aa)):=
 match a with
 | .v (.string s)=>match P.underlying T,Fe lo 0,Fe hi s.size,mx with
  | some .string,some (p,l),some (q,h),none=>some (p∧q∧l<=h∧h<=s.size, .v (.string (s.extract l h)),o)
  | _,_,_,_=>none
 | .aH z rows len=>match Qa P T,Fe lo 0,Fe hi len,mx with
  | some z',some (p,l),some (q,h),none=>some (p∧q∧l<=h∧h<=rows.length∧z'=z, .aH z (rows.drop l) (h - l),o)
  | some z',some (p,l),some (q,h),some m=>match Fe (some m) 0,hi with
   | some (r,m),some _=>some (p∧q∧r∧l<=h∧m=h∧m<=rows.length∧z'=z, .full (.aH z ((rows.take h).drop l) (h - l)),o)
   | _,_=>none
  | _,_,_,_=>none
 | .vec id len=>match o[id]?,Qa P T,Fe lo 0,Fe hi len,mx with
  | some (some ob),some z',some (p,l),some (q,h),none=>some ((ob.du=true∧ob.rows.length=len)∧p∧q∧l<=h∧h<=ob.rows.length∧z'=ob.z, .aH ob.z (ob.rows.drop l) (h - l),o.set id none)
  | some (some ob),some z',some (p,l),some (q,h),some m=>match Fe (some m) 0,hi with
   | some (r,m),some _=>some ((ob.du=true∧ob.rows.length=len)∧p∧q∧r∧l=0∧h=0∧m=0∧z'=ob.z, .full (.aH ob.z [] 0),o)
   | _,_=>none
  | _,_,_,_,_=>none
 | _=>none
theorem sA {T:TypeId} {a:AV} {x:Value} (hr:RA D nu o w a x) {lo hi mx:Option AV} {vl vh vm:Option Value}
  (hlo:(∀c,lo=some c-> ∃y,vl=some y∧RA D nu o w c y)∧(lo=none->vl=none)) (hhi:(∀c,hi=some c-> ∃y,vh=some y∧RA D nu o w c y)∧(hi=none->vh=none)) (hmx:(∀c,mx=some c-> ∃y,vm=some y∧RA D nu o w c y)∧(mx=none->vm=none))
  {p:Prop} {r:AV} {o':List (Option aa)} (hl:mr P T o a lo hi mx=some (p,r,o')) (hp:p) (hv: ∀id len,a ≠ .vec id len): ∃v,(Instr.sliceAt T x vl vh vm).run P w = .ok v w∧RA D nu o w r v∧o'=o:=by
 unfold mr at hl
 split at hl
 ·
  rename_i s
  split at hl
  ·rename_i p' l q h' hu e1 e2;simp only [Ve,Vf] at hl;obtain ⟨rfl,rfl,rfl⟩:=hl;obtain ⟨h1,h2,h3,h4⟩:=hp;cases hr;have b1:=ee e1 h1 hlo.1 hlo.2;have b2:=ee e2 h2 hhi.1 hhi.2;have hvm:=hmx.2 rfl;subst hvm;have hb:=cI (P:=P) (w:=w) (b:=false) (len:=s.size) (cap:=s.size) (m:=s.size) (lo:=vl) (hi:=vh) (mx:=none) b1 (b2.imp (fun e=>⟨e.1,e.2,rfl⟩) (fun e=>e)) (.inl ⟨rfl,rfl⟩) h3 h4 (UZ _);refine ⟨_, ?_, .v _,rfl⟩;simp [Instr.sliceAt,Instr.slice,run_underlying hu,hb]
  ·cases hl
 ·rename_i z rows len
  split at hl
  ·rename_i z' p' l q h' hu e1 e2;simp only [Ve,Vf] at hl;obtain ⟨rfl,rfl,rfl⟩:=hl;obtain ⟨h1,h2,h3,h4,rfl⟩:=hp;obtain ⟨e,hu,hsz⟩:=lq hu;have b1:=ee e1 h1 hlo.1 hlo.2;have b2:=ee e2 h2 hhi.1 hhi.2;have hvm:=hmx.2 rfl;subst hvm;obtain ⟨ad,cap,rfl,hcap,hfin⟩:=nP hr h3 h4 (UZ _);have hb:=cI (P:=P) (w:=w) (b:=true) (len:=len) (cap:=cap) (m:=cap) (lo:=vl) (hi:=vh) (mx:=none) b1 (b2.imp (fun e=>⟨e.1,e.2,rfl⟩) (fun e=>e)) (.inl ⟨rfl,rfl⟩) h3 (by omega) (UZ _)
   have:=hfin cap hcap (UZ _)
   rw [List.take_length] at this;refine ⟨_, ?_,this,rfl⟩;simp [Instr.sliceAt,Instr.slice,run_underlying hu,hb,run_sizeOf hsz]
  ·rename_i z' p' l q h' mm hu e1 e2
   split at hl
   ·rename_i r' m' _ e3;simp only [Ve,Vf] at hl;obtain ⟨rfl,rfl,rfl⟩:=hl;obtain ⟨h1,h2,h5,h3,rfl,h6,rfl⟩:=hp;have h4:=UZ m';obtain ⟨e,hu,hsz⟩:=lq hu;have b1:=ee e1 h1 hlo.1 hlo.2;have b2:=ee e2 h2 hhi.1 hhi.2;have b3:=ee e3 h5 hmx.1 hmx.2
    have hvh: ∃y,vh=some y:=by obtain ⟨y,hy,_⟩:=hhi.1 _ rfl;exact ⟨y,hy⟩
    have hvm: ∃y,vm=some y:=by obtain ⟨y,hy,_⟩:=hmx.1 _ rfl;exact ⟨y,hy⟩
    obtain ⟨ad,cap,rfl,hcap,hfin⟩:=nP hr h3 h4 h6
    have hb:=cI (P:=P) (w:=w) (b:=true) (len:=len) (cap:=cap) (m:=m') (lo:=vl) (hi:=vh) (mx:=vm) b1 (.inr (b2.resolve_left (fun e=>by obtain ⟨y,hy⟩:=hvh;rw [hy] at e;cases e.1)))
     (.inr (b3.resolve_left (fun e=>by obtain ⟨y,hy⟩:=hvm;rw [hy] at e;cases e.1))) h3 h4 (by omega)
    refine ⟨_, ?_, .full _ _ ⟨_,_,rfl⟩ (hfin m' (UZ _) (by omega)),rfl⟩;simp [Instr.sliceAt,Instr.slice,run_underlying hu,hb,run_sizeOf hsz]
   ·cases hl
  ·cases hl
 ·exact absurd rfl (hv _ _)
 ·cases hl
theorem As {T:TypeId} (h:RO D nu o w) {a:AV} {x:Value} (hr:RA D nu o w a x) {lo hi mx:Option AV} {vl vh vm:Option Value}
  (hlo:(∀c,lo=some c-> ∃y,vl=some y∧RA D nu o w c y)∧(lo=none->vl=none)) (hhi:(∀c,hi=some c-> ∃y,vh=some y∧RA D nu o w c y)∧(hi=none->vh=none)) (hmx:(∀c,mx=some c-> ∃y,vm=some y∧RA D nu o w c y)∧(mx=none->vm=none))
  {p:Prop} {r:AV} {o':List (Option aa)} (hl:mr P T o a lo hi mx=some (p,r,o')) (hp:p):Good D nu o w ((Instr.sliceAt T x vl vh vm).run P w) r o':=by
 by_cases hvec: ∀id len,a ≠ .vec id len
 ·obtain ⟨v,h1,h2,rfl⟩:=sA hr hlo hhi hmx hl hp hvec;exact Good.pure h h2 h1
 obtain ⟨id,len,rfl⟩: ∃id len,a = .vec id len:=by
  apply Classical.byContradiction
  intro hn;exact hvec (fun id len e=>hn ⟨id,len,e⟩)
 simp only [mr] at hl
 split at hl
 ·rename_i ob z' p' l q h' ho hu e1 e2;simp only [Ve,Vf] at hl;obtain ⟨rfl,rfl,rfl⟩:=hl;obtain ⟨⟨hv,rfl⟩,h1,h2,h3,h4,rfl⟩:=hp;obtain ⟨e,hu,hsz⟩:=lq hu;have b1:=ee e1 h1 hlo.1 hlo.2;have b2:=ee e2 h2 hhi.1 hhi.2;have hvm:=hmx.2 rfl;subst hvm;cases hr;obtain ⟨ad,cap,hx,hcap,hfin⟩:=nP (kf h ho hv) h3 h4 (UZ _);rw [hx];have hb:=cI (P:=P) (w:=w) (b:=true) (len:=ob.rows.length) (cap:=cap) (m:=cap) (lo:=vl) (hi:=vh) (mx:=none) b1 (b2.imp (fun e=>⟨e.1,e.2,rfl⟩) (fun e=>e)) (.inl ⟨rfl,rfl⟩) h3 (by omega) (UZ _)
  have:=hfin cap hcap (UZ _)
  rw [List.take_length] at this;refine ⟨_,w,nu, ?_,cH id,iN h id,this⟩;simp [Instr.sliceAt,Instr.slice,run_underlying hu,hb,run_sizeOf hsz]
 ·rename_i ob z' p' l q h' mm ho hu e1 e2
  split at hl
  ·rename_i r' m' _ e3;simp only [Ve,Vf] at hl;obtain ⟨rfl,rfl,rfl⟩:=hl;obtain ⟨⟨hv,rfl⟩,h1,h2,h5,rfl,rfl,rfl,rfl⟩:=hp;obtain ⟨e,hu,hsz⟩:=lq hu;have b1:=ee e1 h1 hlo.1 hlo.2;have b2:=ee e2 h2 hhi.1 hhi.2;have b3:=ee e3 h5 hmx.1 hmx.2
   have hvh: ∃y,vh=some y:=by obtain ⟨y,hy,_⟩:=hhi.1 _ rfl;exact ⟨y,hy⟩
   have hvm: ∃y,vm=some y:=by obtain ⟨y,hy,_⟩:=hmx.1 _ rfl;exact ⟨y,hy⟩
   cases hr;obtain ⟨ad,cap,hx,hcap,_⟩:=nP (kf h ho hv) (UZ 0) (UZ 0) (Va _);rw [hx]
   have hb:=cI (P:=P) (w:=w) (b:=true) (len:=ob.rows.length) (cap:=cap) (m:=0) (lo:=vl) (hi:=vh) (mx:=vm) b1 (.inr (b2.resolve_left (fun e=>by obtain ⟨y,hy⟩:=hvh;rw [hy] at e;cases e.1)))
    (.inr (b3.resolve_left (fun e=>by obtain ⟨y,hy⟩:=hvm;rw [hy] at e;cases e.1))) (UZ 0) (UZ 0) (Va _)
   refine Good.pure (v:= .slice ad 0 0) h (.full _ _ ⟨_,_,rfl⟩ ?_) ?_
   ·cases ad with
    | none=>exact .br _
    | some a=>exact .bz _ a
   ·simp [Instr.sliceAt,Instr.slice,run_underlying hu,hb,run_sizeOf hsz]
  ·cases hl
 ·cases hl
def dq (P:Program) (T:TypeId) (f:Nat):Option Nat:=match P.underlying T with
 | some (.struct fs)=>match fs[f]? with
  | some fd=>match bc P fd.type with
   | some n=>if n=0 then none else some fd.offset
   | none=>none
  | none=>none
 | _=>none
def tC:AV->Nat->Option AV
 | .vp cs,k=>some (.vp (cs.drop k))
 | .ptr id len z row off,k=>some (.ptr id len z row (off+k))
 | _,_=>none
theorem uo {a:AV} {x:Value} (hr:RA D nu o w a x) {k:Nat} {r:AV} (h:tC a k=some r): ∃b off,x = .pointer (some ⟨b,off,none⟩)∧RA D nu o w r (.pointer (some ⟨b,off+k,none⟩)):=by
 cases a with
 | vp cs=>
  simp only [tC,Ve] at h;subst h
  cases hr with
  | vp _ b off f h1 h2 h3 h4=>
   refine ⟨b,off,rfl, .vp _ b (off+k) (fun j=>f (k+j)) h1 (fun j c hc=> ?_) (fun j c hc=> ?_) (fun j c hc=> ?_)⟩
   ·rw [Vg] at hc;rw [show off+k+j=off+(k+j) by omega];exact h2 _ c hc
   ·rw [Vg] at hc;exact h3 _ c hc
   ·rw [Vg] at hc;exact h4 _ c hc
 | ptr id len z row off=>
  simp only [tC,Ve] at h;subst h
  cases hr with
  | ptr _ _ _ _ _ b h1 h2=>
   refine ⟨b,row * z+off,rfl, ?_⟩;rw [show row * z+off+k=row * z+(off+k) by omega];exact .ptr _ _ _ _ _ _ h1 h2
 | _=>cases h
def jD (P:Program) (T:TypeId) (f:Nat) (a:AV):Option AV:=match dq P T f with
 | some k=>tC a k
 | none=>none
theorem rC {T:TypeId} {f:Nat} {a:AV} {x:Value} (hr:RA D nu o w a x) {r:AV} (h:jD P T f a=some r): ∃v,(Instr.fieldAt T x f).run P w = .ok v w∧RA D nu o w r v:=by
 unfold jD at h
 split at h
 ·rename_i k hk;obtain ⟨b,off,rfl,hr'⟩:=uo hr h;unfold dq at hk
  split at hk
  ·rename_i fs hu
   split at hk
   ·rename_i fd hfd
    split at hk
    ·rename_i n hn
     split at hk
     ·cases hk
     ·rename_i hne;simp only [Ve] at hk;subst hk;refine ⟨_, ?_,hr'⟩;simp [Instr.fieldAt,run_underlying hu,hfd,Instr.sureAddr,fieldPlace,run_sizeOf hn,hne,Addr.add_lit]
    ·cases hk
   ·cases hk
  ·cases hk
 ·cases h
def IF (P:Program) (T:TypeId) (f:Nat):Option (Nat×Bool×Nat):=match P.underlying T with
 | some (.struct fs)=>match fs[f]? with
  | some fd=>match cw P fd.type,bc P fd.type with
   | some b,some n=>some (fd.offset,b,n)
   | _,_=>none
  | none=>none
 | _=>none
def u6 (P:Program) (T:TypeId) (f:Nat):AV->Option (Prop×AV)
 | .agg cs=>match IF P T f with
  | some (off,true,n)=>some (off+n<=cs.length, .agg ((cs.drop off).take n))
  | some (off,false,_)=>match cs[off]? with
   | some c=>some (True,c)
   | none=>none
  | none=>none
 | _=>none
theorem Ar {T:TypeId} {f:Nat} {a:AV} {x:Value} (hr:RA D nu o w a x) {p:Prop} {r:AV} (h:u6 P T f a=some (p,r)) (hp:p): ∃v,(Instr.field T x f).run P w = .ok v w∧RA D nu o w r v:=by
 cases a with
 | agg cs=>
  cases hr with
  | agg _ xs k1 k2 k3=>
  simp only [u6] at h
  have key: ∀off b n,IF P T f=some (off,b,n)-> ∃fs fd,P.underlying T=some (.struct fs)∧fs[f]? = some fd∧cw P fd.type=some b∧bc P fd.type=some n∧fd.offset=off:=by
   intro off b n hh;unfold IF at hh
   split at hh
   ·rename_i fs hu
    split at hh
    ·rename_i fd hfd
     split at hh
     ·rename_i b' n' e1 e2;cases hh;exact ⟨fs,fd,hu,hfd,e1,e2,rfl⟩
     ·cases hh
    ·cases hh
   ·cases hh
  split at h
  ·rename_i off n ht;obtain ⟨fs,fd,hu,hfd,e1,e2,rfl⟩:=key _ _ _ ht;simp only [Ve,Vf] at h;obtain ⟨rfl,rfl⟩:=h
   refine ⟨.agg (xs.extract fd.offset (fd.offset+n)), ?_, .agg _ _ (by simp;omega) (fun i c y q1 q2=> ?_) (fun i y q2=> ?_)⟩
   ·simp [Instr.field,run_underlying hu,hfd,asAgg,part,ff e1,run_sizeOf e2]
   ·rw [Vj] at q1
    split at q1
    ·rw [Vg] at q1;rw [VI] at q2
     split at q2
     ·exact k2 _ c y q1 q2
     ·cases q2
    ·cases q1
   ·rw [VI] at q2
    split at q2
    ·exact k3 _ y q2
    ·cases q2
  ·rename_i off n ht;obtain ⟨fs,fd,hu,hfd,e1,e2,rfl⟩:=key _ _ _ ht
   split at h
   ·rename_i c hc;simp only [Ve,Vf] at h;obtain ⟨rfl,rfl⟩:=h
    have hlt:fd.offset<xs.size:=by rw [<-k1];exact (U4.1 hc).1
    have hx:xs[fd.offset]? = some xs[fd.offset]:=Vh hlt;refine ⟨xs[fd.offset], ?_,k2 _ c _ hc hx⟩;simp [Instr.field,run_underlying hu,hfd,asAgg,part,ff e1,hx]
   ·cases h
  ·cases h
 | _=>cases h
def jE (P:Program) (T:TypeId) (o:List (Option aa)) (a i:AV):Option (Prop×AV):=match P.underlying T,i with
 | some (.slice e), .v (.int _ i)=>match bc P e,a with
  | some z, .aH z' rows len=>some (z'=z∧0<=i∧i<len, .vp (rows.getD i.toNat []))
  | some z, .vec id len=>match o[id]? with
   | some (some ob)=>some (ob.du=true∧ob.z=z∧ob.rows.length=len∧0<=i∧i<len, .ptr id len z i.toNat 0)
   | _=>none
  | _,_=>none
 | some (.array n e), .v (.int _ i)=>match bc P e with
  | some z=>match tC a (i.toNat * z) with
   | some r=>some (0<=i∧i<n,r)
   | none=>none
  | none=>none
 | _,_=>none
theorem rD {T:TypeId} (h:RO D nu o w) {a i:AV} {x y:Value} (hr:RA D nu o w a x) (hi:RA D nu o w i y) {p:Prop} {r:AV} (hl:jE P T o a i=some (p,r)) (hp:p): ∃v,(Instr.indexAt T x y).run P w = .ok v w∧RA D nu o w r v:=by
 unfold jE at hl
 split at hl
 ·rename_i e k i' hu;cases hi
  split at hl
  ·rename_i z z' rows len hz;simp only [Ve,Vf] at hl;obtain ⟨rfl,rfl⟩:=hl;obtain ⟨rfl,h0,h1⟩:=hp
   cases hr with
   | br=>omega
   | bz=>omega
   | aH _ _ _ b off cap f k1 k2 k3 k4 k5 k6 k7 k8=>
    have hlt:i'.toNat<rows.length:=by omega
    have hrow:rows[i'.toNat]? = some rows[i'.toNat]:=Vi hlt;rw [getD_some hrow];refine ⟨.pointer (some ⟨b,off+i'.toNat * z',none⟩), ?_, .vp _ b _ (fun j=>f i'.toNat j) (k4 (fun e=>by subst e;simp at hlt)) (fun j c hc=>k6 _ j _ c hrow hc) (fun j c hc=>k7 _ j _ c hrow hc) (fun j c hc=>k8 _ j _ c hrow hc)⟩;simp [Instr.indexAt,run_underlying hu,asIntOf,h0,h1,run_sizeOf hz,Addr.add_lit]
  ·rename_i z id len hz
   split at hl
   ·rename_i ob ho;simp only [Ve,Vf] at hl;obtain ⟨rfl,rfl⟩:=hl;obtain ⟨hv,rfl,rfl,h0,h1⟩:=hp
    cases hr with
    | vec _ _ q1 q2=>
    rcases h.obj id ob ho with ⟨e1,e2,e3⟩|⟨g,cur,hb⟩|⟨g,es,cl,hmp⟩
    rotate_left 2
    ·rw [hmp.du] at hv;cases hv
    ·rw [e2] at h1;simp at h1;omega
    ·obtain ⟨cap,q3,_⟩:=hb.vec hv;refine ⟨.pointer (some ⟨g,i'.toNat * ob.z+0,none⟩), ?_, .ptr id _ _ _ _ g q1 (by rw [q3];rfl)⟩;rw [q3];simp [Instr.indexAt,run_underlying hu,asIntOf,h0,h1,run_sizeOf hz,Addr.add_lit]
   ·cases hl
  ·cases hl
 ·rename_i n e k i' hu;cases hi
  split at hl
  ·rename_i z hz
   split at hl
   ·rename_i r' hpl;simp only [Ve,Vf] at hl;obtain ⟨rfl,rfl⟩:=hl;obtain ⟨b,off,rfl,hr'⟩:=uo hr hpl;refine ⟨_, ?_,hr'⟩;simp [Instr.indexAt,run_underlying hu,Instr.sureAddr,asIntOf,hp.1,hp.2,run_sizeOf hz,Addr.add_lit]
   ·cases hl
  ·cases hl
 ·cases hl
end
abbrev AK:=AS->Prop
theorem wA {p q:Prop} (k:q) (h:p:=by omega):p∧q:=⟨h,k⟩
end
section
open Go.RowKit Go.MapKept
section
variable {D:Nat->Prop} {nu:Nat->Nat->Value} {o:List (Option aa)} {w:World} {P:Program}
inductive FK where
 | b|i|s
def kv:FK->Value->Value->Option Bool
 | .b, .bool x, .bool y=>some (x==y)
 | .i, .int k x, .int k' y=>if k=k' then some (x==y) else none
 | .s, .string x, .string y=>some (x.toList==y.toList)
 | _,_,_=>none
def nB:List FK->List Value->List Value->Option Bool
 | [],[],[]=>some true
 | k :: ks,x :: xs,y :: ys=>match kv k x y,nB ks xs ys with
  | some a,some b=>some (a&&b)
  | _,_=>none
 | _,_,_=>none
def E2 (P:Program) (g:TypeId->Option (List FK)):List Field->Nat->Option (List FK)
 | [],_=>some []
 | f :: fs,off=>if f.name = "_" then none else match g f.type with
  | some ks=>if f.offset=off∧bc P f.type=some ks.length then match E2 P g fs (off+ks.length) with
   | some r=>some (ks++r)
   | none=>none
   else none
  | none=>none
def Fh (P:Program):Nat->TypeId->Option (List FK)
 | 0,_=>none
 | d+1,T=>match P.underlying T with
  | some .bool=>some [.b]
  | some (.int _)=>some [.i]
  | some .string=>some [.s]
  | some (.struct fs)=>if P.stoodInHeld T then none else E2 P (Fh P d) fs.toList 0
  | _=>none
def valOf (P:Program) (T:TypeId) (xs:List Value):Value:=match P.underlying T with
 | some (.struct _)=> .agg xs.toArray
 | _=>xs.headD Go.undef
theorem qg: ∀ {ks:List FK} {xs ys:List Value} {r:Bool},nB ks xs ys=some r->xs.length=ks.length∧ys.length=ks.length
 | [],[],[],_,_=>⟨rfl,rfl⟩
 | [],[],_ :: _,_,h=>by simp [nB] at h
 | [],_ :: _,_,_,h=>by simp [nB] at h
 | _ :: _,[],_,_,h=>by simp [nB] at h
 | _ :: _,_ :: _,[],_,h=>by simp [nB] at h
 | k :: ks,x :: xs,y :: ys,r,h=>by
  simp only [nB] at h
  split at h
  ·rename_i a b e1 e2;obtain ⟨h1,h2⟩:=qg e2;simp [h1,h2]
  ·cases h
theorem tQ: ∀ {ks ks':List FK} {xs ys:List Value} {r:Bool},nB (ks++ks') xs ys=some r-> ∃a b,nB ks (xs.take ks.length) (ys.take ks.length)=some a∧nB ks' (xs.drop ks.length) (ys.drop ks.length)=some b∧r=(a&&b)
 | [],ks',xs,ys,r,h=>⟨true,r,by simp [nB],by simpa using h,by simp⟩
 | k :: ks,ks',[],_,_,h=>by simp [nB] at h
 | k :: ks,ks',_ :: _,[],_,h=>by simp [nB] at h
 | k :: ks,ks',x :: xs,y :: ys,r,h=>by
  simp only [List.cons_append,nB] at h
  split at h
  ·rename_i a b e1 e2;cases h;obtain ⟨c,d,h1,h2,h3⟩:=tQ e2;refine ⟨a&&c,d, ?_,by simpa using h2,by rw [h3,Bool.and_assoc]⟩;simp [nB,e1,h1]
  ·cases h
theorem sb {d:Nat} {T:TypeId} {ks:List FK} (h:Fh P d T=some ks) (hs:bc P T=some ks.length) {xs:List Value} {off:Nat} (hl:off+ks.length<=xs.length) :
  (part T xs.toArray off).run P w = .ok (valOf P T ((xs.drop off).take ks.length)) w:=by
 cases d with
 | zero=>simp [Fh] at h
 | succ d=>
  simp only [Fh] at h
  have one: ∀dd,P.underlying T=some dd->cw P T=some false->ks.length=1->valOf P T ((xs.drop off).take ks.length)=((xs.drop off).take ks.length).headD Go.undef->(part T xs.toArray off).run P w = .ok (valOf P T ((xs.drop off).take ks.length)) w:=by
   intro dd hu ha h1 hv;rw [hv,h1]
   have hlt:off<xs.length:=by omega
   have hx:xs.toArray[off]? = some xs[off]:=by simp [hlt]
   have e:((xs.drop off).take 1).headD Go.undef=xs[off]:=by rw [List.drop_eq_getElem_cons hlt];rfl
   rw [e];simp [part,ff ha,hlt]
  split at h
  ·rename_i hu;cases h;exact one _ hu (by simp [cw,hu]) rfl (by simp [valOf,hu])
  ·rename_i hu;cases h;exact one _ hu (by simp [cw,hu]) rfl (by simp [valOf,hu])
  ·rename_i hu;cases h;exact one _ hu (by simp [cw,hu]) rfl (by simp [valOf,hu])
  ·rename_i fs hu
   have ha:cw P T=some true:=by simp [cw,hu]
   simp only [valOf,hu];simp only [part,Sem.run_bind,ff ha,Result.andThen_ok,if_true,run_sizeOf hs,Sem.run_pure]
   congr 2
   apply Array.ext'
   simp [List.take_drop]
  ·cases h
theorem vw {k:FK} {xs ys:List Value} {r:Bool} (h:nB [k] xs ys=some r): ∃x y,xs=[x]∧ys=[y]∧kv k x y=some r:=by
 obtain ⟨l1,l2⟩:=qg h;obtain ⟨x,rfl⟩:=VJ.1 l1;obtain ⟨y,rfl⟩:=VJ.1 l2;refine ⟨x,y,rfl,rfl, ?_⟩;simp only [nB] at h
 split at h
 ·rename_i a b e1 e2;cases e2;cases h;rw [e1,Bool.and_true]
 ·cases h
theorem O5 {x y:Value} {r:Bool} (h:kv .b x y=some r): ∃a b,x = .bool a∧y = .bool b∧r=(a==b):=by
 cases x<;>cases y<;>simp [kv] at h;exact ⟨_,_,rfl,rfl,h.symm⟩
theorem O7 {x y:Value} {r:Bool} (h:kv .s x y=some r): ∃a b,x = .string a∧y = .string b∧r=(a.toList==b.toList):=by
 cases x<;>cases y<;>simp [kv] at h;exact ⟨_,_,rfl,rfl,by simpa using h.symm⟩
theorem O6 {x y:Value} {r:Bool} (h:kv .i x y=some r): ∃k a b,x = .int k a∧y = .int k b∧r=(a==b):=by
 cases x<;>cases y<;>simp [kv] at h;obtain ⟨rfl,h⟩:=h;exact ⟨_,_,_,rfl,rfl,h.symm⟩
def Fu (P:Program) (d:Nat):Prop:= ∀(T:TypeId) (ks:List FK),Fh P d T=some ks-> ∀(d':Nat),d<=d'-> ∀(xs ys:List Value) (r:Bool) (w:World),nB ks xs ys=some r->(Op.equalIn d' T (valOf P T xs) (valOf P T ys)).run P w = .ok r w
theorem uL {d:Nat} (ih:Fu P d): ∀(fs:List Field) (off:Nat) (ks:List FK),E2 P (Fh P d) fs off=some ks-> ∀(d':Nat),d<=d'-> ∀(xs ys:List Value) (r:Bool) (w:World),nB ks (xs.drop off) (ys.drop off)=some r ->
  off+ks.length=xs.length->off+ks.length=ys.length->(Op.eqFields d' xs.toArray ys.toArray fs).run P w = .ok r w
 | [],off,ks,h,d',hd,xs,ys,r,w,he,hx,hy=>by
  simp only [E2,Ve] at h;subst h;have e1:xs.drop off=[]:=VK (by simp at hx;omega);have e2:ys.drop off=[]:=VK (by simp at hy;omega);rw [e1,e2] at he;simp only [nB,Ve] at he;subst he;simp [Op.eqFields]
 | f :: fs,off,ks,h,d',hd,xs,ys,r,w,he,hx,hy=>by
  simp only [E2] at h
  split at h
  ·cases h
  ·rename_i hname
   split at h
   ·rename_i k1 e1
    split at h
    ·rename_i hc
     split at h
     ·rename_i k2 e2;cases h;obtain ⟨rfl,hsz⟩:=hc;obtain ⟨a,b,h1,h2,h3⟩:=tQ he;rw [List.drop_drop,List.drop_drop] at h2;have hrest:=uL ih fs (f.offset+k1.length) k2 e2 d' hd xs ys b w (by simpa [Nat.add_comm] using h2) (by simp at hx;omega) (by simp at hy;omega);have hhead:=ih f.type k1 e1 d' hd _ _ a w h1
      have hl1:f.offset+k1.length<=xs.length:=by simp at hx;omega
      have hl2:f.offset+k1.length<=ys.length:=by simp at hy;omega
      simp only [Op.eqFields,ne_eq,hname,not_false_eq_true,if_true,Sem.run_bind,sb e1 hsz hl1,sb e1 hsz hl2,Result.andThen_ok,hhead];subst h3
      cases a
      ·simp
      ·simpa using hrest
     ·cases h
    ·cases h
   ·cases h
theorem yW: ∀(d:Nat),Fu P d
 | 0=>fun T ks h=>by simp [Fh] at h
 | d+1=>fun T ks h d' hd xs ys r w he=>by
  obtain ⟨d',rfl⟩: ∃m,d'=m+1:=⟨d' - 1,by omega⟩;simp only [Fh] at h
  split at h
  ·rename_i hu;cases h;obtain ⟨x,y,rfl,rfl,hk⟩:=vw he;obtain ⟨a,b,rfl,rfl,rfl⟩:=O5 hk;simp only [valOf,hu,VL];exact run_equalIn_bool' w d' T a b hu
  ·rename_i k hu;cases h;obtain ⟨x,y,rfl,rfl,hk⟩:=vw he;obtain ⟨k1,a,b,rfl,rfl,rfl⟩:=O6 hk;simp only [valOf,hu,VL];exact run_equalIn_int w d' T k1 k a b hu
  ·rename_i hu;cases h;obtain ⟨x,y,rfl,rfl,hk⟩:=vw he;obtain ⟨a,b,rfl,rfl,rfl⟩:=O7 hk;simp only [valOf,hu,VL];exact run_equalIn_string w d' T a b hu
  ·rename_i fs hu
   split at h
   ·cases h
   ·rename_i hs
    have hfo:P.fieldsOf T=fs:=by simp [Program.fieldsOf,hu]
    simp only [valOf,hu];rw [run_equalIn_struct w d' T _ _ (by rw [hfo];exact hu) (by simpa using hs),hfo];obtain ⟨l1,l2⟩:=qg he;exact uL (yW d) fs.toList 0 ks h d' (by omega) xs ys r w (by simpa using he) (by omega) (by omega)
  ·cases h
def iD (P:Program) (T:TypeId):Option (List FK):=if P.eqGuardType P.depth T then none else match P.underlying T with
 | some (.struct _)=>Fh P 12 T
 | _=>none
def ib:List FK->List AV->List AV->Option Bool
 | [],[],[]=>some true
 | k :: ks, .v x :: xs, .v y :: ys=>match kv k x y,ib ks xs ys with
  | some a,some b=>some (a&&b)
  | _,_=>none
 | _,_,_=>none
theorem lB: ∀ {ks:List FK} {cs ds:List AV} {r:Bool},ib ks cs ds=some r-> ∃xs ys,cs=xs.map AV.v∧ds=ys.map AV.v∧nB ks xs ys=some r
 | [],[],[],_,h=>⟨[],[],rfl,rfl,by simpa [ib,nB] using h⟩
 | [],[],_ :: _,_,h=>by simp [ib] at h
 | [],_ :: _,_,_,h=>by simp [ib] at h
 | k :: ks,cs,ds,r,h=>by
  unfold ib at h
  split at h
  ·exact absurd ‹k :: ks=[]› (by simp)
  ·rename_i k' ks' x xs y ys e;cases e
   split at h
   ·rename_i a b e1 e2;obtain ⟨xs',ys',rfl,rfl,h3⟩:=lB e2;refine ⟨x :: xs',y :: ys',rfl,rfl, ?_⟩;simp only [nB,e1,h3];exact h
   ·cases h
  ·cases h
theorem RA.LV {a:AV} {x y:Value} (h:RA D nu o w a y) (e:a = .v x):y=x:=by subst e;cases h;rfl
theorem RA.b5 {x y:Value} (h:RA D nu o w (.v x) y):y=x:=by cases h;rfl
theorem ic {xs:List Value} {x:Value} (h:RA D nu o w (.agg (xs.map AV.v)) x):x = .agg xs.toArray:=by
 cases h with
 | agg _ ys h1 h2 h3=>
  congr 1
  apply Array.ext
  ·simpa using h1.symm
  ·intro i q1 q2
   have e1:(xs.map AV.v)[i]? = some (.v xs[i]):=by simp at q2;simp [q2]
   have:=(h2 i _ _ e1 (Array.getElem?_eq_getElem q1)).b5
   simp [this]
theorem kF {T:TypeId} {cs ds:List AV} {x y:Value} {ks:List FK} {rr:Bool} (h1:iD P T=some ks) (h2:ib ks cs ds=some rr) (hx:RA D nu o w (.agg cs) x) (hy:RA D nu o w (.agg ds) y): ∃xs ys,x = .agg xs∧y = .agg ys∧P.eqGuardType P.depth T=false∧(Op.equalIn 10000 T (.agg xs) (.agg ys)).run P w = .ok rr w:=by
 unfold iD at h1
 split at h1
 ·cases h1
 ·rename_i hg
  split at h1
  ·rename_i fs hu;obtain ⟨xs,ys,rfl,rfl,h3⟩:=lB h2;refine ⟨_,_,ic hx,ic hy,by simpa using hg, ?_⟩
   have:=yW (P:=P) 12 T ks h1 10000 (by omega) xs ys rr w h3
   simpa only [valOf,hu] using this
  ·cases h1
end
end
section
open Go.RowKit Go.MapKept
def cC:TypeDesc->Value->Bool
 | .int k, .int k' _=>decide (k=k')
 | .string, .string _=>true
 | .bool, .bool _=>true
 | _,_=>false
theorem dO {d:TypeDesc} {k:Value} (h:cC d k=true):IsKey d k:=by
 cases d<;>cases k<;>simp_all [cC,IsKey]
theorem nn {s t:ByteArray} (h:s.toList=t.toList):s=t:=by
 rw [ByteArray.toList_eq,ByteArray.toList_eq] at h;obtain ⟨⟨a⟩⟩:=s;obtain ⟨⟨b⟩⟩:=t;simp at h;rw [h]
def dh:Value->Value->Bool
 | .int _ a, .int _ b=>a==b
 | .string a, .string b=>a.toList==b.toList
 | .bool a, .bool b=>a==b
 | _,_=>false
theorem rK {d:TypeDesc} {a b:Value} (ha:cC d a=true) (hb:cC d b=true):Instr.sameNow d a b=some (dh a b)∧(dh a b=true->b=a):=by
 cases d<;>cases a<;>simp only [cC,Bool.false_eq_true,decide_eq_true_eq] at ha<;>cases b<;>simp only [cC,Bool.false_eq_true,decide_eq_true_eq] at hb
 ·simp only [Instr.sameNow,dh,true_and,beq_iff_eq];exact fun h=>by rw [h]
 ·subst ha;subst hb;simp only [Instr.sameNow,dh,if_true,true_and,beq_iff_eq];exact fun h=>by rw [h]
 ·rename_i x y
  have e:(x==y)=(x.toList==y.toList):=by
   rw [Bool.eq_iff_iff,bytes_beq,beq_iff_eq];exact ⟨fun h=>by rw [h],fun h=>nn h⟩
  simp only [Instr.sameNow,dh,e,true_and,beq_iff_eq,Value.string.injEq];exact fun h=>(nn h).symm
theorem RA.plain {D:Nat->Prop} {nu:Nat->Nat->Value} {o:List (Option aa)} {w:World} {x y:Value} (h:RA D nu o w (.v x) y):y=x:=by cases h;rfl
def ky (d:TypeDesc) (k:Value):List (List AV)->Option (Option AV)
 | []=>some none
 | [.v k',x] :: l=>if cC d k' then if dh k k' then some (some x) else ky d k l else none
 | _=>none
def jF (d:TypeDesc) (k:Value) (x:AV):List (List AV)->Option (List (List AV))
 | []=>some [[.v k,x]]
 | [.v k',y] :: l=>if cC d k' then if dh k k' then some ([.v k,x] :: l) else (jF d k x l).map ([.v k',y] :: ·) else none
 | _=>none
section
variable {D:Nat->Prop} {nu:Nat->Nat->Value} {o:List (Option aa)} {w:World} {P:Program}
theorem oF {d:TypeDesc} {k:Value} (hk:cC d k=true): ∀(rows:List (List AV)) (es:List MapEntry) (i:Nat) (r:Option AV),es.length=rows.length->(∀(j:Nat) row c e,rows[j]? = some row->row[0]? = some c->es[j]? = some e->RA D nu o w c e.key)->ky d k rows=some r ->
  (r=none∧Instr.findNow d k es i=some none)∨ ∃j c e row,r=some c∧Instr.findNow d k es i=some (some (i+j,e.val))∧rows[j]? = some row∧row[1]? = some c∧es[j]? = some e
 | [],[],i,r,_,_,h=>by
  simp only [ky,Ve] at h;exact .inl ⟨h.symm,rfl⟩
 | [],_ :: _,i,r,hl,_,_=>by simp at hl
 | _ :: _,[],i,r,hl,_,_=>by simp at hl
 | row :: l,e :: es,i,r,hl,hr,h=>by
  unfold ky at h
  split at h
  ·cases ‹row :: l=[]›
  ·rename_i k' x l' e1;cases e1
   split at h
   ·rename_i hk';have hkey:e.key=k':=(hr 0 _ (.v k') e rfl rfl rfl).plain;obtain ⟨h1,h2⟩:=rK hk hk'
    split at h
    ·rename_i he;cases h;refine .inr ⟨0,x,e,_,rfl, ?_,rfl,rfl,rfl⟩;simp [Instr.findNow,hkey,h1,he]
    ·rename_i he
     have he':dh k k'=false:=by simpa using he
     rcases oF hk l es (i+1) r (by simpa using hl) (fun j row c e q1 q2 q3=>hr (j+1) row c e (by simpa using q1) q2 (by simpa using q3)) h with ⟨q1,q2⟩|⟨j,c,e2,row2,q1,q2,q3,q4,q5⟩
     ·exact .inl ⟨q1,by simp [Instr.findNow,hkey,h1,he',q2]⟩
     ·exact .inr ⟨j+1,c,e2,row2,q1,by simp [Instr.findNow,hkey,h1,he',q2];omega,by simpa using q3,q4,by simpa using q5⟩
   ·cases h
  ·cases h
theorem tE {d:TypeDesc} {k:Value} {x:AV} (hk:cC d k=true): ∀(rows:List (List AV)) (es:List MapEntry) (i:Nat) (rows':List (List AV)),es.length=rows.length->(∀(j:Nat) row c e,rows[j]? = some row->row[0]? = some c->es[j]? = some e->RA D nu o w c e.key)->jF d k x rows=some rows' ->
  (rows'=rows++[[.v k,x]]∧Instr.findNow d k es i=some none)∨ ∃j e,rows'=rows.set j [.v k,x]∧Instr.findNow d k es i=some (some (i+j,e.val))∧es[j]? = some e∧e.key=k
 | [],[],i,r,_,_,h=>by
  simp only [jF,Ve] at h;exact .inl ⟨h.symm,rfl⟩
 | [],_ :: _,i,r,hl,_,_=>by simp at hl
 | _ :: _,[],i,r,hl,_,_=>by simp at hl
 | row :: l,e :: es,i,r,hl,hr,h=>by
  unfold jF at h
  split at h
  ·cases ‹row :: l=[]›
  ·rename_i k' y l' e1;cases e1
   split at h
   ·rename_i hk';have hkey:e.key=k':=(hr 0 _ (.v k') e rfl rfl rfl).plain;obtain ⟨h1,h2⟩:=rK hk hk'
    split at h
    ·rename_i he;cases h;refine .inr ⟨0,e,rfl, ?_,rfl,by rw [hkey];exact h2 he⟩;simp [Instr.findNow,hkey,h1,he]
    ·rename_i he
     have he':dh k k'=false:=by simpa using he
     obtain ⟨r2,hr2,rfl⟩:=VM.1 h
     rcases tE hk l es (i+1) r2 (by simpa using hl) (fun j row c e q1 q2 q3=>hr (j+1) row c e (by simpa using q1) q2 (by simpa using q3)) hr2 with ⟨q1,q2⟩|⟨j,e2,q1,q2,q3,q4⟩
     ·exact .inl ⟨by rw [q1];rfl,by simp [Instr.findNow,hkey,h1,he',q2]⟩
     ·exact .inr ⟨j+1,e2,by rw [q1];rfl,by simp [Instr.findNow,hkey,h1,he',q2];omega,by simpa using q3,q4⟩
   ·cases h
  ·cases h
def fZ (ks:List FK) (k:List AV):List (List AV)->Option (Option AV)
 | []=>some none
 | [.agg k',x] :: l=>match ib ks k k' with
  | some true=>some (some x)
  | some false=>fZ ks k l
  | none=>none
 | _=>none
def iE (ks:List FK) (k:List AV) (x:AV):List (List AV)->Option (List (List AV))
 | []=>some [[.agg k,x]]
 | [.agg k',y] :: l=>match ib ks k k' with
  | some true=>some ([.agg k,x] :: l)
  | some false=>(iE ks k x l).map ([.agg k',y] :: ·)
  | none=>none
 | _=>none
theorem xN: ∀ {ks:List FK} {xs ys:List Value},nB ks xs ys=some true->xs=ys∧ ∀x∈xs, ∀n,Instr.sameBits n x x=true
 | [],[],[],_=>⟨rfl,fun x h=>by cases h⟩
 | [],[],_ :: _,h=>by simp [nB] at h
 | [],_ :: _,_,h=>by simp [nB] at h
 | _ :: _,[],_,h=>by simp [nB] at h
 | _ :: _,_ :: _,[],h=>by simp [nB] at h
 | k :: ks,x :: xs,y :: ys,h=>by
  simp only [nB] at h
  split at h
  ·rename_i a b e1 e2;simp only [Ve,Bool.and_eq_true] at h;obtain ⟨rfl,rfl⟩:=h;obtain ⟨rfl,h2⟩:=xN e2
   have hx:x=y∧ ∀n,Instr.sameBits n x x=true:=by
    cases k
    ·obtain ⟨a,b,rfl,rfl,h⟩:=O5 e1;simp only [VN,beq_iff_eq] at h;subst h;exact ⟨rfl,fun n=>by cases n<;>simp [Instr.sameBits]⟩
    ·obtain ⟨k,a,b,rfl,rfl,h⟩:=O6 e1;simp only [VN,beq_iff_eq] at h;subst h;exact ⟨rfl,fun n=>by cases n<;>simp [Instr.sameBits]⟩
    ·obtain ⟨a,b,rfl,rfl,h⟩:=O7 e1;simp only [VN,beq_iff_eq] at h;obtain rfl:=nn h;exact ⟨rfl,fun n=>by cases n<;>simp [Instr.sameBits,bytes_beq]⟩
   refine ⟨by rw [hx.1],fun z hz=> ?_⟩
   rcases List.mem_cons.1 hz with rfl|hz
   ·exact hx.2
   ·exact h2 z hz
  ·cases h
theorem zl {n:Nat}: ∀ {l:List Value},(∀x∈l,Instr.sameBits n x x=true)->(l.zip l).all (fun p=>Instr.sameBits n p.1 p.2)=true
 | [],_=>rfl
 | x :: l,h=>by
  simp only [List.zip_cons_cons,List.all_cons,Bool.and_eq_true];exact ⟨h x List.mem_cons_self,zl fun y hy=>h y (List.mem_cons_of_mem _ hy)⟩
theorem tn {xs:Array Value} (h: ∀x∈xs.toList, ∀n,Instr.sameBits n x x=true):(Instr.keyThatStays (.agg xs) (.agg xs)).run P w = .ok (.agg xs) w:=by
 have e:Instr.sameBits 10000 (.agg xs) (.agg xs)=true:=by
  rw [show (10000:Nat)=9999+1 from rfl,Instr.sameBits];simp only [beq_self_eq_true,Bool.true_and];exact zl fun x hx=>h x hx 9999
 simp [Instr.keyThatStays,e]
theorem nr (em:Bool): ∀(d:Nat) (T:TypeId) (ks:List FK),Fh P d T=some ks-> ∀(n:Nat),d<=n-> ∀(w:World) (xs:List Value),xs.length=ks.length->(Instr.checkKey em n T (valOf P T xs)).run P w = .ok () w
 | 0,T,ks,h,_,_,_,_,_=>by simp [Fh] at h
 | d+1,T,ks,h,n,hn,w,xs,hl=>by
  obtain ⟨n,rfl⟩: ∃m,n=m+1:=⟨n - 1,by omega⟩;simp only [Fh] at h
  split at h
  ·rename_i hu;simp [Instr.checkKey,run_underlying hu]
  ·rename_i hu;simp [Instr.checkKey,run_underlying hu]
  ·rename_i hu;simp [Instr.checkKey,run_underlying hu]
  ·rename_i fs hu
   split at h
   ·cases h
   ·have ih:=nr em d;rw [show valOf P T xs = .agg xs.toArray by simp only [valOf,hu],Instr.checkKey];simp only [Sem.run_bind,run_underlying hu,Result.andThen_ok];rw [<-Array.forIn_toList]
    have hl0:0+ks.length<=xs.length:=by omega
    clear hl;generalize fs.toList=L at h;generalize 0=off at h hl0
    induction L generalizing off ks with
    | nil=>simp
    | cons f L ihL=>
     simp only [E2] at h
     split at h
     ·cases h
     ·rename_i hname
      split at h
      ·rename_i k1 e1
       split at h
       ·rename_i hc
        split at h
        ·rename_i k2 e2;cases h;obtain ⟨rfl,hsz⟩:=hc;rw [List.length_append] at hl0;have p1:=sb (w:=w) e1 hsz (xs:=xs) (off:=f.offset) (by omega);have p2:=ih f.type k1 e1 n (by omega) w ((xs.drop f.offset).take k1.length) (by simp;omega);simp only [List.forIn_cons,Sem.run_bind,hname,ne_eq,not_false_eq_true,if_true,Result.andThen_ok,p1,p2,Sem.run_pure];exact ihL k2 (f.offset+k1.length) e2 (by omega)
        ·cases h
       ·cases h
      ·cases h
  ·cases h
theorem tj {kt:TypeId} {ks:List FK} (ht:iD P kt=some ks) (em:Bool) {xs:Array Value} (hl:xs.size=ks.length):(Instr.checkKey em 10000 kt (.agg xs)).run P w = .ok () w:=by
 unfold iD at ht
 split at ht
 ·cases ht
 ·split at ht
  ·rename_i fs hu
   have:=nr (P:=P) em 12 kt ks ht 10000 (by omega) w xs.toList (by simpa using hl)
   simpa only [valOf,hu] using this
  ·cases ht
theorem IE {kt:TypeId} {ks:List FK} (ht:iD P kt=some ks): ∃fs,P.underlying kt=some (.struct fs):=by
 unfold iD at ht
 split at ht
 ·cases ht
 ·split at ht
  ·rename_i fs hu;exact ⟨fs,hu⟩
  ·cases ht
theorem bH {kt:TypeId} {ks:List FK} (ht:iD P kt=some ks) (k:Value) (es:List MapEntry):(Instr.findKey kt k es).run P w=(Instr.findAsking kt k es 0).run P w:=by
 obtain ⟨fs,hu⟩:=IE ht
 cases es with
 | nil=>simp [Instr.findKey,run_underlying hu,Instr.findNow,Instr.findAsking]
 | cons e es=>simp [Instr.findKey,run_underlying hu,Instr.findNow,Instr.sameNow]
theorem ml {kt:TypeId} {ks:List FK} (ht:iD P kt=some ks) {k:List AV} {kx:Value} (hk:RA D nu o w (.agg k) kx): ∀(rows:List (List AV)) (es:List MapEntry) (i:Nat) (r:Option AV),es.length=rows.length->(∀(j:Nat) row c e,rows[j]? = some row->row[0]? = some c->es[j]? = some e->RA D nu o w c e.key)->fZ ks k rows=some r ->
  (r=none∧(Instr.findAsking kt kx es i).run P w = .ok none w)∨ ∃j c e row,r=some c∧(Instr.findAsking kt kx es i).run P w = .ok (some (i+j,e.val)) w∧rows[j]? = some row∧row[1]? = some c∧es[j]? = some e
 | [],[],i,r,_,_,h=>by
  simp only [fZ,Ve] at h;exact .inl ⟨h.symm,by simp [Instr.findAsking]⟩
 | [],_ :: _,i,r,hl,_,_=>by simp at hl
 | _ :: _,[],i,r,hl,_,_=>by simp at hl
 | row :: l,e :: es,i,r,hl,hr,h=>by
  unfold fZ at h
  split at h
  ·cases ‹row :: l=[]›
  ·rename_i k' x l' e1;cases e1;have hk':=hr 0 _ (.agg k') e rfl rfl rfl
   split at h
   ·rename_i he;cases h;obtain ⟨xs,ys,h1,h2,_,hq⟩:=kF ht he hk hk';refine .inr ⟨0,x,e,_,rfl, ?_,rfl,rfl,rfl⟩;rw [h1,Instr.findAsking,h2];simp [Op.equal,Op.maxDepth,hq]
   ·rename_i he;obtain ⟨xs,ys,h1,h2,_,hq⟩:=kF ht he hk hk'
    rcases ml ht hk l es (i+1) r (by simpa using hl) (fun j row c e q1 q2 q3=>hr (j+1) row c e (by simpa using q1) q2 (by simpa using q3)) h with ⟨q1,q2⟩|⟨j,c,e2,row2,q1,q2,q3,q4,q5⟩
    ·refine .inl ⟨q1, ?_⟩;rw [<-h1] at hq;rw [Instr.findAsking,h2];simp [Op.equal,Op.maxDepth,hq,q2]
    ·refine .inr ⟨j+1,c,e2,row2,q1, ?_,by simpa using q3,q4,by simpa using q5⟩;rw [<-h1] at hq;rw [Instr.findAsking,h2];simp [Op.equal,Op.maxDepth,hq,q2];omega
   ·cases h
  ·cases h
theorem mq {kt:TypeId} {ks:List FK} (ht:iD P kt=some ks) {k:List AV} {kx:Value} {x:AV} (hk:RA D nu o w (.agg k) kx): ∀(rows:List (List AV)) (es:List MapEntry) (i:Nat) (rows':List (List AV)),es.length=rows.length->(∀(j:Nat) row c e,rows[j]? = some row->row[0]? = some c->es[j]? = some e->RA D nu o w c e.key)->iE ks k x rows=some rows' ->
  (rows'=rows++[[.agg k,x]]∧(Instr.findAsking kt kx es i).run P w = .ok none w)∨ ∃j e,rows'=rows.set j [.agg k,x]∧(Instr.findAsking kt kx es i).run P w = .ok (some (i+j,e.val)) w∧es[j]? = some e∧e.key=kx∧(Instr.keyThatStays kx kx).run P w = .ok kx w
 | [],[],i,r,_,_,h=>by
  simp only [iE,Ve] at h;exact .inl ⟨h.symm,by simp [Instr.findAsking]⟩
 | [],_ :: _,i,r,hl,_,_=>by simp at hl
 | _ :: _,[],i,r,hl,_,_=>by simp at hl
 | row :: l,e :: es,i,r,hl,hr,h=>by
  unfold iE at h
  split at h
  ·cases ‹row :: l=[]›
  ·rename_i k' y l' e1;cases e1;have hk':=hr 0 _ (.agg k') e rfl rfl rfl
   split at h
   ·rename_i he;cases h;obtain ⟨xs',ys',rfl,rfl,h3⟩:=lB he;obtain ⟨rfl,hb⟩:=xN h3;obtain ⟨xs,ys,h1,h2,_,hq⟩:=kF ht he hk hk';have e1:=ic hk;have e2:=ic hk';refine .inr ⟨0,e,rfl, ?_,rfl,by rw [e1,e2],by rw [e1];exact tn fun x hx=>hb x (by simpa using hx)⟩;rw [h1,Instr.findAsking,h2];simp [Op.equal,Op.maxDepth,hq]
   ·rename_i he;obtain ⟨r2,hr2,rfl⟩:=VM.1 h;obtain ⟨xs,ys,h1,h2,_,hq⟩:=kF ht he hk hk';rw [<-h1] at hq
    rcases mq ht hk l es (i+1) r2 (by simpa using hl) (fun j row c e q1 q2 q3=>hr (j+1) row c e (by simpa using q1) q2 (by simpa using q3)) hr2 with ⟨q1,q2⟩|⟨j,e2,q1,q2,q3,q4,q5⟩
    ·refine .inl ⟨by rw [q1];rfl, ?_⟩;rw [Instr.findAsking,h2];simp [Op.equal,Op.maxDepth,hq,q2]
    ·refine .inr ⟨j+1,e2,by rw [q1];rfl, ?_,by simpa using q3,q4,q5⟩;rw [Instr.findAsking,h2];simp [Op.equal,Op.maxDepth,hq,q2];omega
   ·cases h
  ·cases h
def Dm (P:Program) (T:TypeId) (o:List (Option aa)):AV->Option (TypeDesc×TypeId×Nat×aa)
 | .vec id 0=>match P.underlying T with
  | some (.map kt et)=>match P.underlying kt,o[id]? with
   | some d,some (some ob)=>some (d,et,id,ob)
   | _,_=>none
  | _=>none
 | _=>none
theorem tB {T:TypeId} {m:AV} {d:TypeDesc} {et:TypeId} {id:Nat} {ob:aa} {v:Value} (h:RO D nu o w) (hm:RA D nu o w m v) (ha:Dm P T o m=some (d,et,id,ob)) (hV:ob.du=false) (hz:ob.z=0) :
  ∃kt g es cl,P.underlying T=some (.map kt et)∧P.underlying kt=some d∧o[id]? = some (some ob)∧v = .map (some g)∧tw D nu o w id ob g es cl:=by
 unfold Dm at ha
 split at ha
 ·split at ha
  ·rename_i kt et' hu
   split at ha
   ·rename_i d' ob' hk ho;cases ha;cases hm
    rcases h.obj id ob ho with ⟨e1,_⟩|⟨g,cur,hr⟩|⟨g,es,cl,hmp⟩
    ·rw [hV] at e1;cases e1
    ·have:=hr.z;omega
    ·exact ⟨kt,g,es,cl,hu,hk,ho,hmp.p8,hmp⟩
   ·cases ha
  ·cases ha
 ·cases ha
theorem vP (h:RO D nu o w) (P:Program) (T:TypeId):Good D nu o w ((Instr.makeMap T none).run P w) (.vec o.length 0) (o++[some ⟨T,0,false,[]⟩]):=by
 have hb:Below w.heap.size w (w.alloc (.map #[] 0)):=(Below.refl _ _).alloc (Nat.le_refl _) _
 have hv: ∀b,b9 (Value.map (some w.heap.size))=some b->w.heap.size<=b:=fun b e=>by cases e;exact Nat.le_refl _
 have hm:=dv (nu:=nu) (o:=o) (ob:=⟨T,0,false,[]⟩) hb hv;refine ⟨_,_,cN nu o.length (.map (some w.heap.size)),rfl,hm,gP h hb hv (.inr (.inr ⟨w.heap.size, #[],0,(MapKept.heap_alloc w _).1,h.up _ (Nat.le_refl _),aQ _ _ _ _,rfl,rfl,rfl,fun i row hi=>by simp at hi,fun i row c e hi=>by simp at hi,fun i row c e hi=>by simp at hi,fun i e hi=>by simp at hi,fun i j e e' hi=>by simp at hi⟩)), ?_⟩
 have:=RA.vec (D:=D) (nu:=cN nu o.length (.map (some w.heap.size))) (o:=o++[some ⟨T,0,false,[]⟩]) (w:=w.alloc (.map #[] 0)) o.length 0 ⟨_,List.getElem?_concat_length,fun x hx=>Nat.zero_le _⟩ (by rw [aQ];rfl)
 rwa [aQ] at this
theorem K6 {w':World} {id:Nat} {ob ob':aa} (h:RO D nu o w) (ho:o[id]? = some (some ob)) (hl:ob'.hl=ob.hl) {g:Nat} (hg:b9 (nu id ob.hl)=some g)
  (hm:bt nu o w nu (o.set id (some ob')) w') (h5: ∀b,b≠g->w'.heap[b]? = w.heap[b]?) {es:Array MapEntry} {cl:Nat} (hn:tw D nu (o.set id (some ob')) w' id ob' g es cl):RO D nu (o.set id (some ob')) w':=by
 have hlt:=(U4.1 ho).1
 refine ⟨?_,fun b hb=>h.up b (Nat.le_trans hm.size hb), ?_,h.gl.mono hm (fun _ _ h=>h)⟩
 ·intro id' ob'' k1
  by_cases he:id=id'
  ·subst he;rw [Vq hlt] at k1;cases k1;exact .inr (.inr ⟨g,es,cl,hn⟩)
  ·rw [Vp he] at k1
   rcases h.obj id' ob'' k1 with e|⟨g',cur',hr⟩|⟨g',es,cl,hmp⟩
   ·exact .inl e
   ·have hne:g'≠g:=fun e=>h.sep id id' ob ob'' g ho k1 he hg (by rw [<-e];exact hr.bg);exact .inr (.inl ⟨g',cur',(h5 g' hne).trans hr.blk,hr.ko,hr.box,hr.vec,hr.z,hr.row,fun i j row c x q1 q2 q3=>(hr.cell i j row c x q1 q2 q3).mono hm (fun _ _ h=>h),hr.one⟩)
   ·have hne:g'≠g:=fun e=>h.sep id id' ob ob'' g ho k1 he hg (by rw [<-e];exact hmp.bg);exact .inr (.inr ⟨g',es,cl,hmp.tr (h5 g' hne) (fun h=>h) rfl (fun i j row c x _ _ hr=>hr.mono hm (fun _ _ h=>h))⟩)
 ·intro i1 i2 b1 b2 b k1 k2 hne k3
  have key: ∀(id':Nat) (ob'':aa),(o.set id (some ob'))[id']? = some (some ob'')-> ∃ob3:aa,o[id']? = some (some ob3)∧ob3.hl=ob''.hl:=fun id' ob'' q=>by
   by_cases he:id=id'
   ·subst he;rw [Vq hlt] at q;cases q;exact ⟨ob,ho,hl.symm⟩
   ·rw [Vp he] at q;exact ⟨ob'',q,rfl⟩
  obtain ⟨o1,m1,n1⟩:=key i1 b1 k1;obtain ⟨o2,m2,n2⟩:=key i2 b2 k2;rw [<-n2];rw [<-n1] at k3;exact h.sep i1 i2 o1 o2 b m1 m2 hne k3
theorem kZ {T kt et:TypeId} {x kc:AV} {k vx:Value} {id g cl:Nat} {es:Array MapEntry} {ob:aa} {rows':List (List AV)} (h:RO D nu o w) (hx:RA D nu o w x vx) (hkc:RA D nu o w kc k) (hu:P.underlying T=some (.map kt et)) (ho:o[id]? = some (some ob)) (hmp:tw D nu o w id ob g es cl) (hV:ob.du=false) (hz:ob.z=0)
  (hck:(Instr.checkKey false 10000 kt k).run P w = .ok () w) (hs:(rows'=ob.rows++[[kc,x]]∧(Instr.findKey kt k es.toList).run P w = .ok none w)∨ ∃j e,rows'=ob.rows.set j [kc,x]∧(Instr.findKey kt k es.toList).run P w = .ok (some (j,e.val)) w∧es.toList[j]? = some e∧e.key=k∧(Instr.keyThatStays k k).run P w = .ok k w) :
  ∃w',(Instr.mapUpdate T (.map (some g)) k vx).run P w = .ok () w'∧bt nu o w nu (o.set id (some { ob with rows:=rows' })) w'∧RO D nu (o.set id (some { ob with rows:=rows' })) w':=by
 have hlt:=(U4.1 ho).1
 have hsz:es.toList.length=ob.rows.length:=by simpa using hmp.sz
 have hl:({ ob with rows:=rows' }:aa).hl=ob.hl:=by simp [aa.hl,hV]
 
 have fin: ∀(es':Array MapEntry) (cl':Nat),es'.size=rows'.length->(∀(i:Nat) row,rows'[i]? = some row->row.length=2)->(∀(i:Nat) row c e,rows'[i]? = some row->row[0]? = some c->es'[i]? = some e->RA D nu o w c e.key)->(∀(i:Nat) row c e,rows'[i]? = some row->row[1]? = some c->es'[i]? = some e->RA D nu o w c e.val) ->
   (∀(i:Nat) e,es'[i]? = some e->e.born<cl')->(∀(i j:Nat) e e',es'[i]? = some e->es'[j]? = some e'->i<j->e.born<e'.born) ->
   bt nu o w nu (o.set id (some { ob with rows:=rows' })) { w with heap:=w.heap.setIfInBounds g (.map es' cl') }∧RO D nu (o.set id (some { ob with rows:=rows' })) { w with heap:=w.heap.setIfInBounds g (.map es' cl') }:=fun es' cl' p1 p2 p3 p4 p5 p6=>by
  have hh:=MapKept.heap_set (w:=w) (o':= .map es' cl') hmp.blk
  have hmono:bt nu o w nu (o.set id (some { ob with rows:=rows' })) { w with heap:=w.heap.setIfInBounds g (.map es' cl') }:=
   gn ho hl hmp.bg rfl rfl rfl (by simp) (fun b hb=>hh.2 b hb)
  refine ⟨hmono,K6 h ho hl hmp.bg hmono (fun b hb=>hh.2 b hb) ⟨hh.1,hmp.ko,hmp.p8,hV,hz,p1,p2,fun i row c e q1 q2 q3=>(p3 i row c e q1 q2 q3).mono hmono (fun _ _ h=>h),fun i row c e q1 q2 q3=>(p4 i row c e q1 q2 q3).mono hmono (fun _ _ h=>h),p5,p6⟩⟩
 rcases hs with ⟨rfl,hf⟩|⟨j,e0,rfl,hf,he0,hek,hst⟩
 ·refine ⟨_, ?_,fin (es.push { key:=k,val:=vx,born:=cl }) (cl+1) (by simp [hmp.sz]) (fun i row hi=> ?_) (fun i row c e q1 q2 q3=> ?_) (fun i row c e q1 q2 q3=> ?_) (fun i e hi=> ?_) (fun i j e e' hi hj hij=> ?_)⟩
  ·simp [Instr.mapUpdate,run_underlying hu,MapKept.run_getObj_map hmp.blk,hck,hf,MapKept.run_setObj_map _ hmp.blk,Result.andThen]
  ·rcases U6 i ob.rows.length with q|q
   ·rw [U5 q] at hi;exact hmp.row i row hi
   ·rw [Vy q] at hi
    have:=VD hi
    simp at this;subst this;rfl
  ·rcases U6 i ob.rows.length with q|q
   ·rw [U5 q] at q1;rw [VO (by rw [hmp.sz];exact q)] at q3;exact hmp.key i row c e q1 q2 (by rw [Vh (by rw [hmp.sz];exact q)];exact q3)
   ·rw [Vy q] at q1
    have:=VD q1
    simp at this;subst this
    have hi:i=es.size:=by
     have:=(U4.1 q1).1
     simp at this;have:=hmp.sz;omega
    subst hi;rw [VP] at q3;cases q3;cases q2;exact hkc
  ·rcases U6 i ob.rows.length with q|q
   ·rw [U5 q] at q1;rw [VO (by rw [hmp.sz];exact q)] at q3;exact hmp.val i row c e q1 q2 (by rw [Vh (by rw [hmp.sz];exact q)];exact q3)
   ·rw [Vy q] at q1
    have:=VD q1
    simp at this;subst this
    have hi:i=es.size:=by
     have:=(U4.1 q1).1
     simp at this;have:=hmp.sz;omega
    subst hi;rw [VP] at q3;cases q3;cases q2;exact hx
  ·rw [VQ] at hi
   split at hi
   ·cases hi;exact Nat.lt_succ_self _
   ·exact Nat.lt_succ_of_lt (hmp.born i e hi)
  ·rw [VQ] at hi hj
   split at hj
   ·cases hj
    split at hi
    ·omega
    ·exact hmp.born i e hi
   ·split at hi
    ·have:=(U2.1 hj).1;omega
    ·exact hmp.iC i j e e' hi hj hij
 ·have hj0:es[j]? = some e0:=by simpa using he0
  have hjl:=(U2.1 hj0).1
  have hmod: ∀i,(es.modify j fun e=>{ e with key:=k,val:=vx })[i]? = if j=i then (es[i]?).map (fun e=>{ e with key:=k,val:=vx }) else es[i]? :=fun i=>by rw [Array.getElem?_modify]
  have hbn: ∀(i:Nat) e,(es.modify j fun e=>{ e with key:=k,val:=vx })[i]? = some e-> ∃e1,es[i]? = some e1∧e1.born=e.born:=fun i e hi=>by
   rw [hmod] at hi
   split at hi
   ·obtain ⟨e1,k1,rfl⟩:=VM.1 hi;exact ⟨e1,k1,rfl⟩
   ·exact ⟨e,hi,rfl⟩
  refine ⟨_, ?_,fin (es.modify j fun e=>{ e with key:=k,val:=vx }) cl (by simp [hmp.sz]) (fun i row hi=> ?_) (fun i row c e q1 q2 q3=> ?_) (fun i row c e q1 q2 q3=> ?_) (fun i e hi=> ?_) (fun i j' e e' hi hj hij=> ?_)⟩
  ·simp [Instr.mapUpdate,run_underlying hu,MapKept.run_getObj_map hmp.blk,hck,hf,hj0,hek,hst,MapKept.run_setObj_map _ hmp.blk,Result.andThen]
  ·by_cases hij:j=i
   ·subst hij;rw [Vq (by rw [<-hmp.sz];exact hjl)] at hi;cases hi;rfl
   ·rw [Vp hij] at hi;exact hmp.row i row hi
  ·rw [hmod] at q3
   by_cases hij:j=i
   ·subst hij;rw [Vq (by rw [<-hmp.sz];exact hjl)] at q1;cases q1;rw [if_pos rfl] at q3;obtain ⟨e1,k1,rfl⟩:=VM.1 q3;cases q2;exact hkc
   ·rw [Vp hij] at q1;rw [if_neg hij] at q3;exact hmp.key i row c e q1 q2 q3
  ·rw [hmod] at q3
   by_cases hij:j=i
   ·subst hij;rw [Vq (by rw [<-hmp.sz];exact hjl)] at q1;cases q1;rw [if_pos rfl] at q3;obtain ⟨e1,k1,rfl⟩:=VM.1 q3;cases q2;exact hx
   ·rw [Vp hij] at q1;rw [if_neg hij] at q3;exact hmp.val i row c e q1 q2 q3
  ·obtain ⟨e1,k1,k2⟩:=hbn i e hi;rw [<-k2];exact hmp.born i e1 k1
  ·obtain ⟨e1,k1,k2⟩:=hbn i e hi;obtain ⟨e2,k3,k4⟩:=hbn j' e' hj;rw [<-k2, <- k4];exact hmp.iC i j' e1 e2 k1 k3 hij
theorem rR {T:TypeId} {m x:AV} {k v vx:Value} {d:TypeDesc} {et:TypeId} {id:Nat} {ob:aa} {rows':List (List AV)} (h:RO D nu o w) (hm:RA D nu o w m v) (hx:RA D nu o w x vx) (ha:Dm P T o m=some (d,et,id,ob)) (hV:ob.du=false) (hz:ob.z=0) (hk:cC d k=true)
  (hs:jF d k x ob.rows=some rows'): ∃w',(Instr.mapUpdate T v k vx).run P w = .ok () w'∧bt nu o w nu (o.set id (some { ob with rows:=rows' })) w'∧RO D nu (o.set id (some { ob with rows:=rows' })) w':=by
 obtain ⟨kt,g,es,cl,hu,hkd,ho,rfl,hmp⟩:=tB h hm ha hV hz;have hIK:=dO hk
 have hsz:es.toList.length=ob.rows.length:=by simpa using hmp.sz
 refine kZ h hx (.v k) hu ho hmp hV hz (run_checkKey hkd hIK _ _) ?_
 rcases tE hk ob.rows es.toList 0 rows' hsz (fun j row c e q1 q2 q3=>hmp.key j row c e q1 q2 (by simpa using q3)) hs with ⟨h1,hf⟩|⟨j,e0,h1,hf,he0,hek⟩
 ·exact .inl ⟨h1,run_findKey hkd hf⟩
 ·exact .inr ⟨j,e0,h1,by rw [run_findKey hkd hf,Nat.zero_add],he0,hek,run_keyThatStays hIK⟩
def nf (P:Program) (T:TypeId) (o:List (Option aa)):AV->Option (TypeId×TypeId×Nat×aa)
 | .vec id 0=>match P.underlying T,o[id]? with
  | some (.map kt et),some (some ob)=>some (kt,et,id,ob)
  | _,_=>none
 | _=>none
theorem mo {T:TypeId} {m:AV} {kt et:TypeId} {id:Nat} {ob:aa} {v:Value} (h:RO D nu o w) (hm:RA D nu o w m v) (ha:nf P T o m=some (kt,et,id,ob)) (hV:ob.du=false) (hz:ob.z=0) :
  ∃g es cl,P.underlying T=some (.map kt et)∧o[id]? = some (some ob)∧v = .map (some g)∧tw D nu o w id ob g es cl:=by
 unfold nf at ha
 split at ha
 ·split at ha
  ·rename_i kt' et' ob' hu ho;cases ha;cases hm
   rcases h.obj id ob ho with ⟨e1,_⟩|⟨g,cur,hr⟩|⟨g,es,cl,hmp⟩
   ·rw [hV] at e1;cases e1
   ·have:=hr.z;omega
   ·exact ⟨g,es,cl,hu,ho,hmp.p8,hmp⟩
  ·cases ha
 ·cases ha
theorem Ad {kt:TypeId} {ks:List FK} {k:List AV} {kx:Value} (ht:iD P kt=some ks) (hk:RA D nu o w (.agg k) kx) (hw:ib ks k k=some true) (em:Bool):(Instr.checkKey em 10000 kt kx).run P w = .ok () w:=by
 obtain ⟨xs,_,rfl,_,h3⟩:=lB hw;rw [ic hk];exact tj ht em (by simpa using (qg h3).1)
theorem gC {T:TypeId} {m x:AV} {k:List AV} {kx v vx:Value} {kt et:TypeId} {ks:List FK} {id:Nat} {ob:aa} {rows':List (List AV)} (h:RO D nu o w) (hm:RA D nu o w m v) (hk:RA D nu o w (.agg k) kx) (hx:RA D nu o w x vx) (ha:nf P T o m=some (kt,et,id,ob)) (ht:iD P kt=some ks) (hV:ob.du=false) (hz:ob.z=0) (hw:ib ks k k=some true)
  (hs:iE ks k x ob.rows=some rows'): ∃w',(Instr.mapUpdate T v kx vx).run P w = .ok () w'∧bt nu o w nu (o.set id (some { ob with rows:=rows' })) w'∧RO D nu (o.set id (some { ob with rows:=rows' })) w':=by
 obtain ⟨g,es,cl,hu,ho,rfl,hmp⟩:=mo h hm ha hV hz
 have hsz:es.toList.length=ob.rows.length:=by simpa using hmp.sz
 refine kZ h hx hk hu ho hmp hV hz (Ad ht hk hw _) ?_
 rcases mq ht hk ob.rows es.toList 0 rows' hsz (fun j row c e q1 q2 q3=>hmp.key j row c e q1 q2 (by simpa using q3)) hs with ⟨h1,hf⟩|⟨j,e0,h1,hf,he0,hek,hst⟩
 ·exact .inl ⟨h1,by rw [bH ht,hf]⟩
 ·exact .inr ⟨j,e0,h1,by rw [bH ht,hf,Nat.zero_add],he0,hek,hst⟩
def pD (P:Program) (T:TypeId):Option AV:=match P.info? T with
 | some i=>match i.zero with
  | some (.agg xs)=>if xs.toList.all (·.oneCell') then some (.agg (xs.toList.map AV.v)) else none
  | some zv=>some (.v zv)
  | none=>none
 | none=>none
theorem jG {T:TypeId} {c:AV} (h:pD P T=some c): ∃zv,(zeroValue T).run P w = .ok zv w∧RA D nu o w c zv:=by
 unfold pD at h
 split at h
 ·rename_i i hi
  split at h
  ·rename_i xs hz
   split at h
   ·rename_i hall;cases h
    refine ⟨.agg xs,by simp [zeroValue,typeInfo,hi,hz], .agg _ _ (by simp) (fun i c x q1 q2=> ?_) (fun i x q=> ?_)⟩
    ·rw [List.getElem?_map] at q1
     have:xs.toList[i]? = some x:=by simpa using q2
     rw [this] at q1;cases q1;exact .v _
    ·rw [List.all_eq_true] at hall;exact hall x (VD (i:=i) (by simpa using q))
   ·cases h
  ·rename_i zv hne hz;cases h;exact ⟨zv,by simp [zeroValue,typeInfo,hi,hz], .v _⟩
  ·cases h
 ·cases h
def vc (P:Program) (T:TypeId) (o:List (Option aa)) (m k:AV) (ok:Bool):Option (Prop×AV):=match Dm P T o m,k with
 | some (d,et,_,ob), .v kv=>if cC d kv then match ky d kv ob.rows with
  | some (some c)=>some (ob.du=false∧ob.z=0,if ok then .cy [c, .v (.bool true)] else c)
  | some none=>match pD P et with
   | some z=>some (ob.du=false∧ob.z=0,if ok then .cy [z, .v (.bool false)] else z)
   | none=>none
  | none=>none
  else none
 | _,_=>none
theorem RA.pair {c:AV} {x:Value} {b:Bool} (h:RA D nu o w c x):RA D nu o w (.cy [c, .v (.bool b)]) (.tuple #[x, .bool b]):=by
 refine .cy _ _ rfl (fun i a y q1 q2=> ?_)
 match i,q1,q2 with
 | 0,q1,q2=>cases q1;cases q2;exact h
 | 1,q1,q2=>cases q1;cases q2;exact .v _
 | i+2,q1,q2=>simp at q1
theorem xe {T:TypeId} {m k:AV} {vm vk:Value} {ok:Bool} {p:Prop} {r:AV} (h:RO D nu o w) (hm:RA D nu o w m vm) (hk:RA D nu o w k vk) (ha:vc P T o m k ok=some (p,r)) (hp:p): ∃v,(Instr.lookup T vm vk ok).run P w = .ok v w∧RA D nu o w r v:=by
 unfold vc at ha
 split at ha
 ·rename_i d et id ob kv e1;obtain rfl:=hk.plain
  split at ha
  ·rename_i hkb
   have fin:ob.du=false∧ob.z=0-> ∀q,ky d vk ob.rows=some q-> ∃kt g es cl,P.underlying T=some (.map kt et)∧P.underlying kt=some d∧vm = .map (some g)∧w.heap[g]? = some (.map es cl)∧tw D nu o w id ob g es cl ∧
     ((q=none∧Instr.findNow d vk es.toList 0=some none)∨ ∃j c e row,q=some c∧Instr.findNow d vk es.toList 0=some (some (0+j,e.val))∧ob.rows[j]? = some row∧row[1]? = some c∧es.toList[j]? = some e):=fun hh q hq=>by
    obtain ⟨kt,g,es,cl,hu,hkd,ho,rfl,hmp⟩:=tB h hm e1 hh.1 hh.2;exact ⟨kt,g,es,cl,hu,hkd,rfl,hmp.blk,hmp,oF hkb ob.rows es.toList 0 q (by simpa using hmp.sz) (fun j row c e q1 q2 q3=>hmp.key j row c e q1 q2 (by simpa using q3)) hq⟩
   split at ha
   ·rename_i c hq;simp only [Ve,Vf] at ha;obtain ⟨rfl,rfl⟩:=ha;obtain ⟨kt,g,es,cl,hu,hkd,rfl,hb,hmp,hf⟩:=fin hp _ hq
    rcases hf with ⟨q1,_⟩|⟨j,c',e,row,q1,q2,q3,q4,q5⟩
    ·cases q1
    ·cases q1;have hra:RA D nu o w c e.val:=hmp.val j row c e q3 q4 (by simpa using q5)
     cases ok
     ·exact ⟨e.val,by simp [Instr.lookup,run_underlying hu,MapKept.run_getObj_map hb,run_checkKey hkd (dO hkb),run_findKey hkd q2,Result.andThen],hra⟩
     ·exact ⟨.tuple #[e.val, .bool true],by simp [Instr.lookup,run_underlying hu,MapKept.run_getObj_map hb,run_checkKey hkd (dO hkb),run_findKey hkd q2,Result.andThen],hra.pair⟩
   ·rename_i hq
    split at ha
    ·rename_i z hz;simp only [Ve,Vf] at ha;obtain ⟨rfl,rfl⟩:=ha;obtain ⟨kt,g,es,cl,hu,hkd,rfl,hb,hmp,hf⟩:=fin hp _ hq
     rcases hf with ⟨_,q2⟩|⟨j,c',e,row,q1,_⟩
     ·obtain ⟨zv,z1,z2⟩:=jG (D:=D) (nu:=nu) (o:=o) (w:=w) hz
      cases ok
      ·exact ⟨zv,by simp [Instr.lookup,run_underlying hu,MapKept.run_getObj_map hb,run_checkKey hkd (dO hkb),run_findKey hkd q2,z1,Result.andThen],z2⟩
      ·exact ⟨.tuple #[zv, .bool false],by simp [Instr.lookup,run_underlying hu,MapKept.run_getObj_map hb,run_checkKey hkd (dO hkb),run_findKey hkd q2,z1,Result.andThen],z2.pair⟩
     ·cases q1
    ·cases ha
   ·cases ha
  ·cases ha
 ·cases ha
def vb (P:Program) (T:TypeId) (rows:List (List AV)) (k:AV) (ok:Bool):Option (Prop×AV):=match P.underlying T,k with
 | some (.map kt et), .v kv=>match P.underlying kt with
  | some d=>if cC d kv then match ky d kv rows with
   | some (some c)=>some (True,if ok then .cy [c, .v (.bool true)] else c)
   | some none=>match pD P et with
    | some z=>some (True,if ok then .cy [z, .v (.bool false)] else z)
    | none=>none
   | none=>none
   else none
  | none=>none
 | _,_=>none
theorem xd {T:TypeId} {rows:List (List AV)} {k:AV} {vm vk:Value} {ok:Bool} {p:Prop} {r:AV} (hm:RA D nu o w (.mp rows) vm) (hk:RA D nu o w k vk) (ha:vb P T rows k ok=some (p,r)): ∃v,(Instr.lookup T vm vk ok).run P w = .ok v w∧RA D nu o w r v:=by
 unfold vb at ha
 split at ha
 ·rename_i kt et kv hu;obtain rfl:=hk.plain
  split at ha
  ·rename_i d hkd
   split at ha
   ·rename_i hkb
    cases hm with
    | mp _ b es cl h1 hb h3 h4 h5 h6 h7=>
    have fin:=fun q hq=>oF (D:=D) (nu:=nu) (o:=o) (w:=w) hkb rows es.toList 0 q (by simpa using h3) (fun j row c e q1 q2 q3=>h7 j 0 row c e q1 q2 (by simpa using q3)) hq
    split at ha
    ·rename_i c hq;simp only [Ve,Vf] at ha;obtain ⟨rfl,rfl⟩:=ha
     rcases fin _ hq with ⟨q1,_⟩|⟨j,c',e,row,q1,q2,q3,q4,q5⟩
     ·cases q1
     ·cases q1;have hra:RA D nu o w c e.val:=h7 j 1 row c e q3 q4 (by simpa using q5)
      cases ok
      ·exact ⟨e.val,by simp [Instr.lookup,run_underlying hu,MapKept.run_getObj_map hb,run_checkKey hkd (dO hkb),run_findKey hkd q2,Result.andThen],hra⟩
      ·exact ⟨.tuple #[e.val, .bool true],by simp [Instr.lookup,run_underlying hu,MapKept.run_getObj_map hb,run_checkKey hkd (dO hkb),run_findKey hkd q2,Result.andThen],hra.pair⟩
    ·rename_i hq
     split at ha
     ·rename_i z hz;simp only [Ve,Vf] at ha;obtain ⟨rfl,rfl⟩:=ha
      rcases fin _ hq with ⟨_,q2⟩|⟨j,c',e,row,q1,_⟩
      ·obtain ⟨zv,z1,z2⟩:=jG (D:=D) (nu:=nu) (o:=o) (w:=w) hz
       cases ok
       ·exact ⟨zv,by simp [Instr.lookup,run_underlying hu,MapKept.run_getObj_map hb,run_checkKey hkd (dO hkb),run_findKey hkd q2,z1,Result.andThen],z2⟩
       ·exact ⟨.tuple #[zv, .bool false],by simp [Instr.lookup,run_underlying hu,MapKept.run_getObj_map hb,run_checkKey hkd (dO hkb),run_findKey hkd q2,z1,Result.andThen],z2.pair⟩
      ·cases q1
     ·cases ha
    ·cases ha
   ·cases ha
  ·cases ha
 ·cases ha
def iX (P:Program) (et:TypeId) (ks:List FK) (rows:List (List AV)) (k:List AV) (ok:Bool):Option AV:=if ib ks k k=some true then match fZ ks k rows with
 | some (some c)=>some (if ok then .cy [c, .v (.bool true)] else c)
 | some none=>match pD P et with
  | some z=>some (if ok then .cy [z, .v (.bool false)] else z)
  | none=>none
 | none=>none
 else none
theorem mn {T kt et:TypeId} {ks:List FK} {rows:List (List AV)} {k:List AV} {kx:Value} {ok:Bool} {r:AV} {g cl:Nat} {es:Array MapEntry} (hu:P.underlying T=some (.map kt et)) (ht:iD P kt=some ks) (hk:RA D nu o w (.agg k) kx) (hb:w.heap[g]? = some (.map es cl)) (hsz:es.size=rows.length)
  (hkey: ∀(i:Nat) row c e,rows[i]? = some row->row[0]? = some c->es[i]? = some e->RA D nu o w c e.key) (hval: ∀(i:Nat) row c e,rows[i]? = some row->row[1]? = some c->es[i]? = some e->RA D nu o w c e.val) (ha:iX P et ks rows k ok=some r): ∃v,(Instr.lookup T (.map (some g)) kx ok).run P w = .ok v w∧RA D nu o w r v:=by
 unfold iX at ha
 split at ha
 ·rename_i hw;have hck:=fun em=>Ad (P:=P) ht hk hw em;have fin:=fun q hq=>ml ht hk rows es.toList 0 q (by simpa using hsz) (fun j row c e q1 q2 q3=>hkey j row c e q1 q2 (by simpa using q3)) hq
  split at ha
  ·rename_i c hq;cases ha
   rcases fin _ hq with ⟨q1,_⟩|⟨j,c',e,row,q1,q2,q3,q4,q5⟩
   ·cases q1
   ·cases q1;have hra:RA D nu o w c e.val:=hval j row c e q3 q4 (by simpa using q5)
    cases ok
    ·exact ⟨e.val,by simp [Instr.lookup,run_underlying hu,MapKept.run_getObj_map hb,hck,bH ht,q2,Result.andThen],hra⟩
    ·exact ⟨.tuple #[e.val, .bool true],by simp [Instr.lookup,run_underlying hu,MapKept.run_getObj_map hb,hck,bH ht,q2,Result.andThen],hra.pair⟩
  ·rename_i hq
   split at ha
   ·rename_i z hz;cases ha
    rcases fin _ hq with ⟨_,q2⟩|⟨j,c',e,row,q1,_⟩
    ·obtain ⟨zv,z1,z2⟩:=jG (D:=D) (nu:=nu) (o:=o) (w:=w) hz
     cases ok
     ·exact ⟨zv,by simp [Instr.lookup,run_underlying hu,MapKept.run_getObj_map hb,hck,bH ht,q2,z1,Result.andThen],z2⟩
     ·exact ⟨.tuple #[zv, .bool false],by simp [Instr.lookup,run_underlying hu,MapKept.run_getObj_map hb,hck,bH ht,q2,z1,Result.andThen],z2.pair⟩
    ·cases q1
   ·cases ha
  ·cases ha
 ·cases ha
def oG (P:Program) (T:TypeId) (o:List (Option aa)) (m:AV) (k:List AV) (ok:Bool):Option (Prop×AV):=match m,P.underlying T with
 | .mp rows,some (.map kt et)=>match iD P kt with
  | some ks=>(iX P et ks rows k ok).map (True, ·)
  | none=>none
 | .vec id 0,some (.map kt et)=>match iD P kt,o[id]? with
  | some ks,some (some ob)=>(iX P et ks ob.rows k ok).map (ob.du=false∧ob.z=0, ·)
  | _,_=>none
 | _,_=>none
theorem pB {T:TypeId} {m:AV} {k:List AV} {vm vk:Value} {ok:Bool} {p:Prop} {r:AV} (h:RO D nu o w) (hm:RA D nu o w m vm) (hk:RA D nu o w (.agg k) vk) (ha:oG P T o m k ok=some (p,r)) (hp:p): ∃v,(Instr.lookup T vm vk ok).run P w = .ok v w∧RA D nu o w r v:=by
 unfold oG at ha
 split at ha
 ·rename_i rows kt et hu
  split at ha
  ·rename_i ks ht;obtain ⟨r',hr,e⟩:=VM.1 ha;cases e
   cases hm with
   | mp _ b es cl h1 hb h3 h4 h5 h6 h7=>exact mn hu ht hk hb h3 (fun i row c e q1 q2 q3=>h7 i 0 row c e q1 q2 q3) (fun i row c e q1 q2 q3=>h7 i 1 row c e q1 q2 q3) hr
  ·cases ha
 ·rename_i id kt et hu
  split at ha
  ·rename_i ks ob ht ho;obtain ⟨r',hr,e⟩:=VM.1 ha;cases e
   have e0:nf P T o (.vec id 0)=some (kt,et,id,ob):=by simp only [nf,hu,ho]
   obtain ⟨g,es,cl,hu',ho',rfl,hmp⟩:=mo h hm e0 hp.1 hp.2;exact mn hu ht hk hmp.blk hmp.sz hmp.key hmp.val hr
  ·cases ha
 ·cases ha
def xb (P:Program) (T:TypeId) (o:List (Option aa)) (m k:AV) (ok:Bool):Option (Prop×AV):=match k with
 | .agg ks=>oG P T o m ks ok
 | .v kv=>match m with
  | .mp rows=>vb P T rows (.v kv) ok
  | .vec id len=>vc P T o (.vec id len) (.v kv) ok
  | _=>none
 | _=>none
theorem qG {T:TypeId} {m k:AV} {vm vk:Value} {ok:Bool} {p:Prop} {r:AV} (h:RO D nu o w) (hm:RA D nu o w m vm) (hk:RA D nu o w k vk) (ha:xb P T o m k ok=some (p,r)) (hp:p): ∃v,(Instr.lookup T vm vk ok).run P w = .ok v w∧RA D nu o w r v:=by
 unfold xb at ha
 split at ha
 ·exact pB h hm hk ha hp
 ·split at ha
  ·exact xd hm hk ha
  ·exact xe h hm hk ha hp
  ·cases ha
 ·cases ha
def qH (P:Program) (T:TypeId) (o:List (Option aa)) (m k x:AV):Option (Prop×List (Option aa)):=match k with
 | .agg kc=>match nf P T o m with
  | some (kt,_,id,ob)=>match iD P kt with
   | some ks=>if ib ks kc kc=some true then match iE ks kc x ob.rows with
    | some rows=>some (ob.du=false∧ob.z=0,o.set id (some ⟨ob.T,ob.z,ob.du,rows⟩))
    | none=>none
    else none
   | none=>none
  | none=>none
 | .v kv=>match Dm P T o m with
  | some (d,_,id,ob)=>if cC d kv then match jF d kv x ob.rows with
   | some rows=>some (ob.du=false∧ob.z=0,o.set id (some ⟨ob.T,ob.z,ob.du,rows⟩))
   | none=>none
   else none
  | none=>none
 | _=>none
theorem pC {T:TypeId} {m k x:AV} {vm vk vx:Value} {p:Prop} {o':List (Option aa)} (h:RO D nu o w) (hm:RA D nu o w m vm) (hk:RA D nu o w k vk) (hx:RA D nu o w x vx) (ha:qH P T o m k x=some (p,o')) (hp:p) :
  ∃w',(Instr.mapUpdate T vm vk vx).run P w = .ok () w'∧bt nu o w nu o' w'∧RO D nu o' w':=by
 unfold qH at ha
 split at ha
 ·split at ha
  ·rename_i kt et id ob e1
   split at ha
   ·rename_i ks ht
    split at ha
    ·rename_i hw
     split at ha
     ·rename_i rows hs;simp only [Ve,Vf] at ha;obtain ⟨rfl,rfl⟩:=ha;exact gC h hm hk hx e1 ht hp.1 hp.2 hw hs
     ·cases ha
    ·cases ha
   ·cases ha
  ·cases ha
 ·split at ha
  ·rename_i kv d et id ob e1;obtain rfl:=hk.plain
   split at ha
   ·rename_i hkb
    split at ha
    ·rename_i rows hs;simp only [Ve,Vf] at ha;obtain ⟨rfl,rfl⟩:=ha;exact rR h hm hx e1 hp.1 hp.2 hkb hs
    ·cases ha
   ·cases ha
  ·cases ha
 ·cases ha
end
end
section
attribute [go_sem_proc] Nat.reduceAdd Nat.reduceSub Nat.reduceMul Nat.reduceLeDiff Nat.reduceEqDiff Nat.reduceLT Int.reduceToNat reduceCtorEq Int.reduceLE Int.reduceLT Int.reduceNeg Int.reduceEq Int.reduceBEq Int.reduceBNe
attribute [go_sem_proc ↓] reduceIte
open Go.RowKit
inductive Ex where
 | mk (kind:Int) (label:ByteArray) (kids:List Ex)
def Ex.kind:Ex->Int| .mk k _ _=>k
def Ex.label:Ex->ByteArray| .mk _ s _=>s
def Ex.kids:Ex->List Ex| .mk _ _ l=>l
theorem Ex.ind {P:Ex->Prop} (h: ∀k s kids,(∀x,x∈kids->P x)->P (.mk k s kids)): ∀x,P x:=
 @Ex.rec P (fun l=> ∀x,x∈l->P x) (fun k s kids ih=>h k s kids ih) (fun x hx=>by cases hx) (fun hd tl h1 h2 x hx=>by
  cases hx with
  | head=>exact h1
  | tail _ hm=>exact h2 x hm)
def Dj (w:World) (v:Value) (e:Ending) (w':World):Prop:=e = .returned v∧Below w.heap.size w w'
theorem jX {w:World} {b o:Nat} {v:Value} (h:w.cell? ⟨b,o,none⟩=some v):b<w.heap.size:=by
 rcases Nat.lt_or_ge b w.heap.size with h'|h'
 ·exact h'
 ·simp [World.cell?,Array.getElem?_eq_none h'] at h
theorem Ac {w w':World} (hb:Below w.heap.size w w') {b o:Nat} {v:Value} (h:w.cell? ⟨b,o,none⟩=some v):w'.cell? ⟨b,o,none⟩=some v:=
 (hb.cell (p:=⟨b,o,none⟩) (jX h)).trans h
theorem cQ {w w1 w2:World} (h:Below w.heap.size w w1) (k:Below w1.heap.size w1 w2):Below w.heap.size w w2:=h.trans (k.mono h.size)
theorem cP (w:World):Below w.heap.size w w.drew:=(Below.refl _ _).drew
theorem b7 {w w':World} {v:Value} {b b':Bool} (hv:v = .bool b) (h:b=b') (hb:Below w.heap.size w w'):Dj w (.bool b') (.returned v) w':=⟨by rw [hv,h],hb⟩
def Dk (w:World) (v:Value) (e:Ending) (w':World):Prop:=e = .returned v∧w=w'
theorem sq {w:World} {v:Value} {b b':Bool} (hv:v = .bool b) (h:b=b'):Dk w (.bool b') (.returned v) w:=⟨by rw [hv,h],rfl⟩
theorem H9 {w:World} {v:Value} {b b':Int} (hv:v = .int .i64 b) (h:b=b'):Dk w (.int .i64 b') (.returned v) w:=⟨by rw [hv,h],rfl⟩
def cD (w:World) (b o:Nat):List Value->Prop
 | []=>True
 | v :: vs=>w.cell? ⟨b,o,none⟩=some v∧cD w b (o+1) vs
def Cells (w w':World):Prop:= ∀b o v,w.cell? ⟨b,o,none⟩=some v->w'.cell? ⟨b,o,none⟩=some v
theorem Cells.of {w w':World} (hb:Below w.heap.size w w'):Cells w w':=fun _ _ _ h=>Ac hb h
theorem Cells.trans {a b c:World} (h:Cells a b) (k:Cells b c):Cells a c:=fun x o v hv=>k x o v (h x o v hv)
theorem cD.cells {w w':World} (hb:Cells w w'): ∀ {vs:List Value} {b o:Nat},cD w b o vs->cD w' b o vs
 | [],_,_,_=>trivial
 | _ :: _,_,_,h=>⟨hb _ _ _ h.1,h.2.cells hb⟩
theorem cD.below {w w':World} (hb:Below w.heap.size w w') {vs:List Value} {b o:Nat} (h:cD w b o vs):cD w' b o vs:=h.cells (.of hb)
def dV {α:Type} (w:World) (sz:Nat) (rd:α->List Value->Prop) (xs:List α) (v:Value):Prop:=
 ((v = .slice none 0 0∨ ∃a:Addr,v = .slice (some a) 0 0)∧xs=[])∨ ∃b o cap,v = .slice (some ⟨b,o,none⟩) xs.length cap∧xs.length<=cap∧cap<=maxLen ∧
  ∀i x,xs[i]? = some x-> ∃cs,rd x cs∧cD w b (o+i * sz) cs
theorem dV.R5 {α:Type} {w w':World} {sz:Nat} {rd rd':α->List Value->Prop} {xs:List α} {v:Value} (h:dV w sz rd xs v)
  (hb:Cells w w') (hrd: ∀x cs,x∈xs->rd x cs->rd' x cs):dV w' sz rd' xs v:=by
 rcases h with h|⟨b,o,cap,hv,h1,h2,h3⟩
 ·exact .inl h
 ·refine .inr ⟨b,o,cap,hv,h1,h2,fun i x hx=> ?_⟩;obtain ⟨cs,hc,hw⟩:=h3 i x hx;exact ⟨cs,hrd x cs (VD hx) hc,hw.cells hb⟩
theorem dV.imp {α:Type} {w w':World} {sz:Nat} {rd rd':α->List Value->Prop} {xs:List α} {v:Value} (h:dV w sz rd xs v)
  (hb:Below w.heap.size w w') (hrd: ∀x cs,x∈xs->rd x cs->rd' x cs):dV w' sz rd' xs v:=by
 rcases h with h|⟨b,o,cap,hv,h1,h2,h3⟩
 ·exact .inl h
 ·refine .inr ⟨b,o,cap,hv,h1,h2,fun i x hx=> ?_⟩;obtain ⟨cs,hc,hw⟩:=h3 i x hx;exact ⟨cs,hrd x cs (VD hx) hc,hw.below hb⟩
theorem dV.below {α:Type} {w w':World} {sz:Nat} {rd:α->List Value->Prop} {xs:List α} {v:Value} (h:dV w sz rd xs v)
  (hb:Below w.heap.size w w'):dV w' sz rd xs v:=h.imp hb (fun _ _ _ h=>h)
theorem dV.shape {α:Type} {w:World} {sz:Nat} {rd:α->List Value->Prop} {xs:List α} {v:Value} (h:dV w sz rd xs v) :
  ∃p cap,v = .slice p xs.length cap∧xs.length<=cap∧cap<=maxLen:=by
 rcases h with ⟨rfl|⟨a,rfl⟩,rfl⟩|⟨b,o,cap,hv,h1,h2,h3⟩
 ·exact ⟨none,0,rfl,Nat.le_refl _,by unfold maxLen;omega⟩
 ·exact ⟨some a,0,rfl,Nat.le_refl _,by unfold maxLen;omega⟩
 ·exact ⟨_,cap,hv,h1,h2⟩
theorem dV.at {α:Type} {w:World} {sz:Nat} {rd:α->List Value->Prop} {xs:List α} {p:Option Addr} {n cap:Nat} (h:dV w sz rd xs (.slice p n cap))
  {k:Nat} (hk:k<xs.length): ∃b o cs,p=some ⟨b,o,none⟩∧rd xs[k] cs∧cD w b (o+k * sz) cs:=by
 rcases h with ⟨_,rfl⟩|⟨b,o,cap,hv,h1,h2,h3⟩
 ·simp at hk
 ·obtain ⟨cs,hc,hw⟩:=h3 k xs[k] (by simp [hk]);cases hv;exact ⟨b,o,cs,rfl,hc,hw⟩
mutual
def dZ (w:World):Ex->List Value->Prop
 | .mk k s kids,cs=> ∃sv,cs=[.int .i64 k, .string s,sv]∧kE w kids sv
def kE (w:World):List Ex->Value->Prop
 | [],v=>(v = .slice none 0 0∨ ∃a:Addr,v = .slice (some a) 0 0)∨ ∃b o cap,v = .slice (some ⟨b,o,none⟩) 0 cap∧cap<=maxLen
 | x :: xs,v=> ∃b o cap cs,v = .slice (some ⟨b,o,none⟩) (xs.length+1) cap∧xs.length+1<=cap∧cap<=maxLen∧dZ w x cs∧cD w b o cs∧qB w b (o+3) xs
def qB (w:World) (b:Nat):Nat->List Ex->Prop
 | _,[]=>True
 | o,x :: xs=> ∃cs,dZ w x cs∧cD w b o cs∧qB w b (o+3) xs
end
theorem lP {w:World} {b:Nat}: ∀ {xs:List Ex} {o:Nat},qB w b o xs ↔ ∀i x,xs[i]? = some x-> ∃cs,dZ w x cs∧cD w b (o+i * 3) cs
 | [],o=>⟨fun _ i x h=>by simp at h,fun _=>by simp [qB]⟩
 | y :: ys,o=>by
  rw [qB]
  constructor
  ·rintro ⟨cs,h1,h2,h3⟩ i x hx
   cases i with
   | zero=>simp at hx;subst hx;exact ⟨cs,h1,by simpa using h2⟩
   | succ i=>
    obtain ⟨cs',h4,h5⟩:=lP.1 h3 i x (by simpa using hx);exact ⟨cs',h4,by rw [show o+(i+1) * 3=o+3+i * 3 by omega];exact h5⟩
  ·intro h;obtain ⟨cs,h1,h2⟩:=h 0 y (by simp);refine ⟨cs,h1,by simpa using h2,lP.2 fun i x hx=> ?_⟩;obtain ⟨cs',h4,h5⟩:=h (i+1) x (by simpa using hx);exact ⟨cs',h4,by rw [show o+3+i * 3=o+(i+1) * 3 by omega];exact h5⟩
theorem fS {w:World}: ∀ {xs:List Ex} {v:Value},kE w xs v↔dV w 3 (dZ w) xs v
 | [],v=>by
  rw [kE]
  constructor
  ·rintro (h|⟨b,o,cap,h1,h2⟩)
   ·exact .inl ⟨h,rfl⟩
   ·exact .inr ⟨b,o,cap,by simpa using h1,by simp,h2,fun i x h=>by simp at h⟩
  ·rintro (h|⟨b,o,cap,h1,_,h2,_⟩)
   ·exact .inl h.1
   ·exact .inr ⟨b,o,cap,by simpa using h1,h2⟩
 | x :: xs,v=>by
  rw [kE]
  constructor
  ·rintro ⟨b,o,cap,cs,h1,h2,h3,h4,h5,h6⟩;refine .inr ⟨b,o,cap,by simpa using h1,by simpa using h2,h3, ?_⟩
   have:=(lP (xs:=x :: xs) (o:=o)).1 (by rw [qB];exact ⟨cs,h4,h5,h6⟩)
   exact this
  ·rintro (⟨_,h⟩|⟨b,o,cap,h1,h2,h3,h4⟩)
   ·cases h
   ·have:=(lP (xs:=x :: xs) (o:=o)).2 h4
    rw [qB] at this;obtain ⟨cs,h5,h6,h7⟩:=this;exact ⟨b,o,cap,cs,by simpa using h1,by simpa using h2,h3,h5,h6,h7⟩
theorem dZ.cells {w w':World} (hb:Cells w w'): ∀x:Ex, ∀cs,dZ w x cs->dZ w' x cs:=by
 intro x
 induction x using Ex.ind with
 | h k s kids ih=>
  intro cs h;rw [dZ] at h ⊢;obtain ⟨sv,h1,h2⟩:=h;exact ⟨sv,h1,fS.2 ((fS.1 h2).R5 hb (fun x cs hx=>ih x hx cs))⟩
theorem dZ.below {w w':World} (hb:Below w.heap.size w w') (x:Ex) (cs:List Value) (h:dZ w x cs):dZ w' x cs:=dZ.cells (.of hb) x cs h
theorem kE.shape {w:World} {xs:List Ex} {v:Value} (h:kE w xs v): ∃p cap,v = .slice p xs.length cap∧xs.length<=cap∧cap<=maxLen:=(fS.1 h).shape
theorem kE.at {w:World} {xs:List Ex} {p:Option Addr} {n cap:Nat} (h:kE w xs (.slice p n cap)) {k:Nat} (hk:k<xs.length) :
  ∃b o kd s kids sv,p=some ⟨b,o,none⟩∧xs[k] = .mk kd s kids∧kE w kids sv ∧
   w.cell? ⟨b,o+k * 3,none⟩=some (.int .i64 kd)∧w.cell? ⟨b,o+k * 3+1,none⟩=some (.string s)∧w.cell? ⟨b,o+k * 3+2,none⟩=some sv:=by
 obtain ⟨b,o,cs,hp,hr,hc⟩:=(fS.1 h).at hk
 rcases hx:xs[k] with ⟨kd,s,kids⟩
 rw [hx,dZ] at hr;obtain ⟨sv,rfl,hr⟩:=hr;exact ⟨b,o,kd,s,kids,sv,hp,rfl,hr,hc.1,hc.2.1,hc.2.2.1⟩
def RP {α β:Type} (f:α->β->Bool):List α->List β->Bool
 | [],[]=>true
 | x :: xs,y :: ys=>f x y&&RP f xs ys
 | _,_=>false
mutual
def Aj:Ex->Ex->Bool
 | .mk k s l, .mk k' s' l'=>(k==k')&&(s.toList==s'.toList)&&B7 l l'
def B7:List Ex->List Ex->Bool
 | [],[]=>true
 | x :: xs,y :: ys=>Aj x y&&B7 xs ys
 | _,_=>false
end
structure zE where
 kind:Int
 num:Int
 text:ByteArray
structure sY where
 kind:Int
 name:ByteArray
 key:ByteArray
 val:zE
structure BD where
 op:Int
 left:sY
 right:sY
structure l7 where
 aD:ByteArray
 to:ByteArray
 path:Bool
 label:ByteArray
 name:ByteArray
 expr:Ex
structure Di where
 p9:List l7
 conds:List BD
 ret:List sY
 range:Int
 Ir:Int
def zE.cells (x:zE):List Value:=[.int .i64 x.kind, .int .i64 x.num, .string x.text]
def sY.cells (x:sY):List Value:=[.int .i64 x.kind, .string x.name, .string x.key, .int .i64 x.val.kind, .int .i64 x.val.num, .string x.val.text]
def BD.cells (x:BD):List Value:=[.int .i64 x.op, .int .i64 x.left.kind, .string x.left.name, .string x.left.key, .int .i64 x.left.val.kind, .int .i64 x.left.val.num, .string x.left.val.text,
 .int .i64 x.right.kind, .string x.right.name, .string x.right.key, .int .i64 x.right.val.kind, .int .i64 x.right.val.num, .string x.right.val.text]
def dD (s t:ByteArray):Bool:=s.toList==t.toList
def OD (w:World) (p:l7) (cs:List Value):Prop:=
 ∃k s l sv,p.expr = .mk k s l∧kE w l sv∧cs=[.string p.aD, .string p.to, .bool p.path, .string p.label, .string p.name, .int .i64 k, .string s,sv]
def OC (p:sY) (cs:List Value):Prop:=cs=p.cells
def OA (p:BD) (cs:List Value):Prop:=cs=p.cells
def Ly (p:ByteArray) (cs:List Value):Prop:=cs=[.string p]
def Lx (p:Int) (cs:List Value):Prop:=cs=[.int .i64 p]
abbrev Mk (w:World) (xs:List l7) (v:Value):Prop:=dV w 8 (OD w) xs v
abbrev Mj (w:World) (xs:List sY) (v:Value):Prop:=dV w 6 OC xs v
abbrev Mi (w:World) (xs:List BD) (v:Value):Prop:=dV w 13 OA xs v
abbrev mj (w:World) (xs:List ByteArray) (v:Value):Prop:=dV w 1 Ly xs v
abbrev FB (w:World) (xs:List Int) (v:Value):Prop:=dV w 1 Lx xs v
def Tu (w:World) (q:Di) (cs:List Value):Prop:=
 ∃v1 v2 v3,Mk w q.p9 v1∧Mi w q.conds v2∧Mj w q.ret v3∧cs=[v1,v2,v3, .int .i64 q.range, .int .i64 q.Ir]
def lZ (c:Int):Bool:=decide (97<=c)&&decide (c<=122)
def iU (c:Int):Bool:=lZ c||c==95||(decide (48<=c)&&decide (c<=57))
def gJ (s:ByteArray):Bool:=s.data.toList.all (fun b=>iU b.toNat)&&decide (1<=s.size)&&decide (s.size<=20)
theorem gL (f:UInt8->Bool) (s:ByteArray):s.data.toList.all f=true ↔ ∀j (h:j<s.size),f s[j]=true:=by
 rw [List.all_eq_true]
 constructor
 ·intro h j hj;exact h _ (by simp [ByteArray.getElem_eq_getElem_data])
 ·intro h x hx;obtain ⟨j,hj,rfl⟩:=List.getElem_of_mem hx;exact h j (by simpa using hj)
theorem zb {s:ByteArray} {j:Nat} (h:j<s.size) (hf:iU s[j].toNat=false):gJ s=false:=by
 have:s.data.toList.all (fun b=>iU b.toNat)=false:=by
  rw [<-Bool.not_eq_true,gL];exact fun hh=>by rw [hh j h] at hf;cases hf
 simp [gJ,this]
theorem E8 {s:ByteArray} (h: ∀j (h:j<s.size),iU s[j].toNat=true):gJ s=(decide (1<=s.size)&&decide (s.size<=20)):=by
 rw [gJ,(gL _ s).2 h,Bool.true_and]
theorem iz (s:ByteArray):s.toList.isEmpty=decide (s.size=0):=by
 rw [ByteArray.toList_eq];obtain ⟨⟨l⟩⟩:=s;cases l<;>simp [ByteArray.size]
def words:List ByteArray:=[⟨#[97,115]⟩,⟨#[109,97,116,99,104]⟩,⟨#[119,104,101,114,101]⟩,⟨#[97,110,100]⟩,⟨#[114,101,116,117,114,110]⟩,⟨#[114,97,110,103,101]⟩,⟨#[115,108,105,100,101]⟩]
theorem Bb {α:Type} {W:World} {n:Nat} {C:Array Value} {t:TypeId} {fz:Nat×Nat} (h:W.heap[n]? = some (.cells C t fz)) {sz:Nat} {rd:α->List Value->Prop} {xs:List α}
  (f:α->List Value) (hf: ∀x,x∈xs->rd x (f x)) (hsz: ∀x,x∈xs->(f x).length=sz) (hC:C.toList=xs.flatMap f) {m cap:Nat} (hm:m=xs.length) (hc:m<=cap) (hc2:cap<=maxLen) :
  dV W sz rd xs (.slice (some ⟨n,0,none⟩) m cap):=by
 subst hm;refine .inr ⟨n,0,cap,rfl,hc,hc2,fun i x hx=>⟨f x,hf x (VD hx), ?_⟩⟩
 have key: ∀(l:List α) (i:Nat) (x:α),(∀x,x∈l->(f x).length=sz)->l[i]? = some x-> ∀j v,(f x)[j]? = some v->(l.flatMap f)[i * sz+j]? = some v:=by
  intro l
  induction l with
  | nil=>intro i x _ h;simp at h
  | cons y l ih=>
   intro i x hl hx j v hj;rw [List.flatMap_cons]
   cases i with
   | zero=>
    simp at hx;subst hx;rw [List.getElem?_append_left (by rw [Nat.zero_mul,Nat.zero_add];exact (List.getElem?_eq_some_iff.1 hj).1)];simpa using hj
   | succ i=>
    have hy:=hl y (by simp);rw [List.getElem?_append_right (by rw [hy,Nat.succ_mul];omega),hy,show (i+1) * sz+j - sz=i * sz+j by rw [Nat.succ_mul];omega];exact ih i x (fun x hx=>hl x (by simp [hx])) (by simpa using hx) j v hj
 have hcell: ∀j v,(f x)[j]? = some v->W.cell? ⟨n,0+i * sz+j,none⟩=some v:=by
  intro j v hj
  have:=key xs i x hsz hx j v hj
  rw [<-hC] at this;simp only [World.cell?,h];simpa using this
 generalize 0+i * sz=o at hcell;clear hf hsz hC key hx;generalize f x=vs at hcell
 induction vs generalizing o with
 | nil=>trivial
 | cons y vs ih=>exact ⟨by simpa using hcell 0 y rfl,ih (o+1) (fun j v hj=>by rw [show o+1+j=o+(j+1) by omega];exact hcell (j+1) v (by simpa using hj))⟩
theorem dG (W:World) (o:Obj):(W.alloc o).heap[W.heap.size]? = some o:=by
 show (W.heap.push o)[W.heap.size]? = some o;simp
def rn (s:ByteArray):Int:=if h:0<s.size then (s[0]'h).toNat else 0
def cZ (s:ByteArray):Bool:=gJ s&&lZ (rn s) && !words.any (fun x=>dD s x)
theorem Bv {s:ByteArray} (h:gJ s=true):0<s.size∧s.size<=20:=by
 simp only [gJ,Bool.and_eq_true,decide_eq_true_eq] at h;omega
def fQ (n:Nat):Bool:= !(decide (n<32)||decide (126<n)||n==34||n==92)
def mO (s:ByteArray):Bool:=s.data.toList.all (fun b=>fQ b.toNat)
def k9 (s:ByteArray):Bool:=decide (s.size=0)
def lL:Int:=1099511627776
def bM (v:zE):Bool:=if v.kind==1 then k9 v.text&&decide (-lL<=v.num)&&decide (v.num<=lL) else
 if v.kind==2 then v.num==0&&decide (v.text.size<=40)&&mO v.text else false
def bA (k:Int) (s:ByteArray) (n:Nat):Bool:=if k==1 then decide (n=0)&&cZ s else
 if k==2||k==3 then decide (1<n)&&k9 s else
 if k==4||k==5||k==6 then decide (n=1)&&k9 s else false
theorem EJ {s:ByteArray} {j:Nat} (h:j<s.size) (hf:fQ s[j].toNat=false):mO s=false:=by
 rw [mO, <- Bool.not_eq_true,gL];exact fun hh=>by rw [hh j h] at hf;cases hf
theorem A3 {s:ByteArray} (h: ∀j (h:j<s.size),fQ s[j].toNat=true):mO s=true:=by
 rw [mO,gL (fun b=>fQ b.toNat)];exact h
theorem vU (n:Nat):(n<32∧fQ n=false)∨(32<=n∧126<n∧fQ n=false)∨(32<=n∧n<=126∧((n:Int)==34)=true∧fQ n=false) ∨
  (32<=n∧n<=126∧((n:Int)==34)=false∧((n:Int)==92)=true∧fQ n=false)∨(32<=n∧n<=126∧((n:Int)==34)=false∧((n:Int)==92)=false∧fQ n=true):=by
 unfold fQ
 by_cases h1:n<32
 ·exact .inl ⟨h1,by simp [h1]⟩
 ·by_cases h2:126<n
  ·exact .inr (.inl ⟨by omega,h2,by simp [h2]⟩)
  ·by_cases h3:n=34
   ·subst h3;exact .inr (.inr (.inl ⟨by omega,by omega,rfl,rfl⟩))
   ·by_cases h4:n=92
    ·subst h4;exact .inr (.inr (.inr (.inl ⟨by omega,by omega,rfl,rfl,rfl⟩)))
    ·exact .inr (.inr (.inr (.inr ⟨by omega,by omega,by simp;omega,by simp;omega,by simp [h1,h2,h3,h4]⟩)))
def tg (s:ByteArray):Prop:=s.size<=140737488355328
theorem tg.len {s:ByteArray} (h:tg s):s.size<=maxLen:=by unfold tg at h;unfold maxLen;omega
mutual
def Ex.ok:Ex->Prop
 | .mk _ s l=>tg s∧pH l
def pH:List Ex->Prop
 | []=>True
 | x :: xs=>x.ok∧pH xs
end
theorem oV: ∀ {l:List Ex},pH l ↔ ∀x,x∈l->x.ok
 | []=>by simp [pH]
 | x :: xs=>by simp [pH,oV (l:=xs)]
def zE.ok (v:zE):Prop:=tg v.text
def sY.ok (o:sY):Prop:=tg o.name∧tg o.key∧o.val.ok
def BD.ok (c:BD):Prop:=c.left.ok∧c.right.ok
def l7.ok (p:l7):Prop:=tg p.aD∧tg p.to∧tg p.label∧tg p.name∧p.expr.ok
def Di.ok (q:Di):Prop:=(∀p,p∈q.p9->p.ok)∧(∀c,c∈q.conds->c.ok)∧(∀o,o∈q.ret->o.ok)
def Di.small (q:Di):Prop:=q.p9.length<=140737488355328∧q.conds.length<=140737488355328∧q.ret.length<=140737488355328
mutual
def az:Ex->List Ex
 | .mk k s l=> .mk k s l :: bW l
def bW:List Ex->List Ex
 | []=>[]
 | x :: xs=>az x++bW xs
end
theorem b6: ∀l:List Ex,bW l=l.flatMap az
 | []=>rfl
 | x :: xs=>by rw [bW,b6 xs,List.flatMap_cons]
theorem gy (a b:List Ex):bW (a++b)=bW a++bW b:=by simp [b6]
theorem oY (l:List Ex) (k:Nat):(bW (l.take k)).length<=(bW l).length:=by
 have:=congrArg List.length (gy (l.take k) (l.drop k))
 rw [List.take_append_drop,List.length_append] at this;omega
theorem mE {l:List Ex} {k:Nat} (h:k<l.length):bW (l.take (k+1))=bW (l.take k)++az l[k]:=by
 rw [List.take_succ_eq_append_getElem h,gy];simp [bW]
def Ex.part:Ex->Bool| .mk k s l=>bA k s l.length
def aI (x:Ex):Bool:=decide ((az x).length<=24)&&(az x).all Ex.part
def Ex.sig:Ex->Int×ByteArray×Nat
 | .mk k s l=>(k,s,l.length)
def pO (s:Int×ByteArray×Nat):Bool:=bA s.1 s.2.1 s.2.2
theorem Ht (x:Ex):x.part=pO x.sig:=by obtain ⟨k,s,l⟩:=x;rfl
theorem pG (x:Ex):aI x=(decide (((az x).map Ex.sig).length<=24)&&((az x).map Ex.sig).all pO):=by
 rw [aI,List.length_map,List.all_map]
 congr 2
 funext y
 exact Ht y
structure XC where
 kind:Int
 label:ByteArray
 ptr:Option Addr
 len:Nat
 cap:Nat
 hl:label.size<=maxLen
 hn:len<=maxLen
def XC.val (x:XC):Value:= .agg #[.int .i64 x.kind, .string x.label, .slice x.ptr x.len x.cap]
def XC.sig (x:XC):Int×ByteArray×Nat:=(x.kind,x.label,x.len)
def zE.none (v:zE):Bool:=v.kind==0&&v.num==0&&k9 v.text
def rW (o:sY):Bool:=if o.kind==1 then cZ o.name&&k9 o.key&&o.val.none else
 if o.kind==2 then cZ o.name&&cZ o.key&&o.val.none else
 if o.kind==3 then bM o.val&&k9 o.name&&k9 o.key else false
def Hu (p:l7):Bool:=cZ p.aD&&cZ p.to&&if p.path then k9 p.label&&k9 p.name&&aI p.expr else
 cZ p.label&&(k9 p.name||cZ p.name)&&Aj p.expr (.mk 0 ⟨#[]⟩ [])
def F4 (n a b:Int):Bool:=decide (a<=n)&&decide (n<=b)
def Gd (c:BD):Bool:=F4 c.op 1 6&&rW c.left&&rW c.right
def IK (o:sY):Bool:=o.kind !=3&&rW o
def H5 (q:Di):Bool:=F4 q.p9.length 1 4&&decide (q.conds.length<=6)&&F4 q.ret.length 1 4&&F4 q.range 1 1048576&&F4 q.Ir 1 1048576 &&
 q.p9.all Hu&&q.conds.all Gd&&q.ret.all IK
mutual
def UL:Ex->Nat->Nat
 | .mk _ _ l,deep=>if 60<deep then 401 else TE l (deep+1) 1
def TE:List Ex->Nat->Nat->Nat
 | [],_,n=>n
 | x :: xs,deep,n=>if n<=400 then TE xs deep (n+UL x deep) else n
end
theorem iK {w:World} {b:Nat}: ∀ {vs:List Value} {o:Nat},cD w b o vs-> ∀j v,vs[j]? = some v->w.cell? ⟨b,o+j,none⟩=some v
 | [],_,_,j,v,h=>by simp at h
 | x :: vs,o,hc,j,v,h=>by
  cases j with
  | zero=>simp at h;subst h;simpa using hc.1
  | succ j=>
   have:=iK hc.2 j v (by simpa using h)
   rw [show o+(j+1)=o+1+j by omega];exact this
theorem qY {w:World} {k:Nat} {C:Array Value} {T:TypeId} {fz:Nat×Nat} (h:w.heap[k]? = some (.cells C T fz)) (o:Nat):w.cell? ⟨k,o,none⟩=C[o]? :=by simp [World.cell?,h]
theorem ES {w:World} {xs:List ByteArray} {p:Option Addr} {n cap:Nat} (h:mj w xs (.slice p n cap)) {k:Nat} (hk:k<xs.length) :
  ∃b o,p=some ⟨b,o,none⟩∧w.cell? ⟨b,o+k,none⟩=some (.string xs[k]):=by
 obtain ⟨b,o,cs,hp,hr,hc⟩:=dV.at h hk;subst hr;rw [Nat.mul_one] at hc;replace hc:=iK hc;exact ⟨b,o,hp,by simpa using hc 0 _ rfl⟩
end
section
structure Spec where
 p:Value->World->Prop
 st: ∀v w w',Below w.heap.size w w'->p v w->p v w'
def Spec.any:Spec:=⟨fun _ _=>True,fun _ _ _ _ _=>trivial⟩
def at' (L:List Spec) (i:Nat):Spec:=L.getD i Spec.any
section
variable {P:Program} {ops:Array Oper}
def bR (s:Nat->Bool) (i:Nat):Nat->Bool:=fun j=>if j=i then true else s j
def gG (x:Nat->Value) (i:Nat) (v:Value):Nat->Value:=fun j=>if j=i then v else x j
def cX (s:Nat->Bool) (x:Nat->Value):List Oper->Nat->Act->Act
 | [],_,a=>a
 | o :: l,k,a=>cX s x l (k+1) (if s k then a.put o.dst (x k) else a)
theorem bE {s s':Nat->Bool} {x x':Nat->Value}: ∀(l:List Oper) (k:Nat) (a:Act),(∀i,k<=i->i<k+l.length->s i=s' i∧(s i=true->x i=x' i))->cX s x l k a=cX s' x' l k a
 | [],_,_,_=>rfl
 | o :: l,k,a,h=>by
  have h0:=h k (UZ _) (by simp)
  have e:(if s k then a.put o.dst (x k) else a)=(if s' k then a.put o.dst (x' k) else a):=by
   rw [<-h0.1]
   cases hs:s k
   ·rfl
   ·simp [h0.2 hs]
  rw [cX,cX,e];exact bE l (k+1) _ (fun i h1 h2=>h i (by omega) (by simp only [List.length_cons];omega))
theorem Cz {s:Nat->Bool} {x:Nat->Value} {d:Option Tmp} {v:Value}: ∀(l:List Oper) (k:Nat) (a:Act),(∀o∈l, ∀e,d=some e->o.dst≠some e)->cX s x l k (a.put d v)=(cX s x l k a).put d v
 | [],_,_,_=>rfl
 | o :: l,k,a,h=>by
  have e:(if s k then (a.put d v).put o.dst (x k) else a.put d v)=(if s k then a.put o.dst (x k) else a).put d v:=by
   split
   ·exact Act.put_comm a v (x k) (h o (by simp))
   ·rfl
  rw [cX,cX,e];exact Cz l (k+1) _ (fun o' ho=>h o' (by simp [ho]))
def kC (l:List Oper):Prop:= ∀(i j:Nat) (oi oj:Oper),l[i]? = some oi->l[j]? = some oj->i≠j-> ∀e,oi.dst=some e->oj.dst≠some e
theorem iT {s:Nat->Bool} {x:Nat->Value} {v:Value} {o:Oper}: ∀(l:List Oper) (k m:Nat) (a:Act),kC l->l[m]? = some o->s (k+m)=false->cX (bR s (k+m)) (gG x (k+m) v) l k a=(cX s x l k a).put o.dst v
 | [],_,_,_,_,h,_=>by simp at h
 | o' :: l,k,0,a,hA,h,hs=>by
  obtain rfl:o'=o:=by simpa using h
  rw [cX,cX];simp only [Nat.add_zero] at hs ⊢
  have e:(if bR s k k then a.put o'.dst (gG x k v k) else a)=a.put o'.dst v:=by simp [bR,gG]
  have e2:(if s k then a.put o'.dst (x k) else a)=a:=by simp [hs]
  rw [e,e2,bE (s:=bR s k) (x:=gG x k v) (s':=s) (x':=x) l (k+1) _ (fun i h1 _=>by
   have:i≠k:=by omega
   simp [bR,gG,this])]
  refine Cz l (k+1) a (fun o'' ho e he=> ?_);obtain ⟨j,hj⟩:=List.getElem?_of_mem ho;exact hA 0 (j+1) o' o'' (by simp) (by simpa using hj) (by omega) e he
 | o' :: l,k,m+1,a,hA,h,hs=>by
  have h1:k≠k+(m+1):=by omega
  rw [cX,cX]
  have e:(if bR s (k+(m+1)) k then a.put o'.dst (gG x (k+(m+1)) v k) else a)=(if s k then a.put o'.dst (x k) else a):=by simp [bR,gG]
  rw [e]
  have hk:k+(m+1)=k+1+m:=by omega
  rw [hk] at hs ⊢;exact iT l (k+1) m _ (fun i j oi oj hi hj hij=>hA (i+1) (j+1) oi oj (by simpa using hi) (by simpa using hj) (by omega)) (by simpa using h) hs
theorem pk {s keep:Nat->Bool} {x:Nat->Value} {l:List Oper} {a:Act} {oj:Oper} (hA:kC l) (hsel: ∀cs b,oj.op ≠ .select cs b)
  (h: ∀i oi,l[i]? = some oi->s i=true->keep i=false-> ∀d,oi.dst=some d->d∉oj.looksAt ops) :
  execOp (cX s x l 0 a).eval oj=execOp (cX (fun i=>s i&&keep i) x l 0 a).eval oj ∧
  Region.wanted oj (yielded ops (cX s x l 0 a).tmps)=Region.wanted oj (yielded ops (cX (fun i=>s i&&keep i) x l 0 a).tmps):=by
 have key: ∀t,t<=l.length->execOp (cX s x l 0 a).eval oj=execOp (cX (fun i=>s i&&(keep i||decide (t<=i))) x l 0 a).eval oj ∧
   Region.wanted oj (yielded ops (cX s x l 0 a).tmps)=Region.wanted oj (yielded ops (cX (fun i=>s i&&(keep i||decide (t<=i))) x l 0 a).tmps):=by
  intro t
  induction t with
  | zero=>
   intro _;rw [bE (s:=fun i=>s i&&(keep i||decide (0<=i))) (s':=s) (x':=x) l 0 a (fun i _ _=>by simp)];exact ⟨rfl,rfl⟩
  | succ t ih=>
   intro ht;obtain ⟨e1,e2⟩:=ih (by omega);rw [e1,e2];have ho:l[t]? = some l[t]:=List.getElem?_eq_getElem (by omega)
   by_cases hc:s t=true∧keep t=false
   ·have hd:=h t _ ho hc.1 hc.2;have hi:=iT (s:=fun i=>s i&&(keep i||decide (t+1<=i))) (x:=x) (v:=x t) l 0 t a hA ho (by simp [hc.2]);rw [VR] at hi
    have hq:cX (bR (fun i=>s i&&(keep i||decide (t+1<=i))) t) (gG x t (x t)) l 0 a=cX (fun i=>s i&&(keep i||decide (t<=i))) x l 0 a:=
     bE l 0 a (fun i _ _=>by
      by_cases hit:i=t
      ·subst hit;simp [bR,gG,hc.1]
      ·have:(t+1<=i)=(t<=i):=by apply propext;omega
       simp [bR,gG,hit,this])
    rw [hq] at hi;rw [hi];exact ⟨execOp_put oj hsel _ _ _ hd,wanted_put oj _ _ _ hd⟩
   ·rw [bE (s:=fun i=>s i&&(keep i||decide (t<=i))) (s':=fun i=>s i&&(keep i||decide (t+1<=i))) (x':=x) l 0 a (fun i _ _=>by
     refine ⟨?_,fun _=>rfl⟩
     by_cases hit:i=t
     ·subst hit
      cases h1:s i
      ·simp
      ·cases h2:keep i
       ·exact absurd ⟨h1,h2⟩ hc
       ·simp
     ·have:(t+1<=i)=(t<=i):=by apply propext;omega
      simp [this])]
    exact ⟨rfl,rfl⟩
 have:=key l.length (UZ _)
 rw [bE (s:=fun i=>s i&&(keep i||decide (l.length<=i))) (s':=fun i=>s i&&keep i) (x':=x) l 0 a (fun i _ h=>by
  have: ¬l.length<=i:=by omega
  simp [this])] at this
 exact this
def Jh (P:Program) (S:Spec) (w:World):Result Next->Prop
 | .ok (.value u) w'=>S.p u w'∧Below w.heap.size w w'
 | .ok .skip w'=>S.p undef w'∧Below w.heap.size w w'
 | .ok (.enter f args) w'=>Calls P f args w' (fun e w''=> ∃v,e = .returned v∧S.p v w''∧Below w.heap.size w w'')
 | _=>False
def kj (P:Program) (ops:Array Oper) (S:Spec) (o:Oper) (a:Act) (w:World):Prop:=
 (Region.wanted o (yielded ops a.tmps)=true∧Jh P S w ((execOp a.eval o).run P w))∨(Region.wanted o (yielded ops a.tmps)=false∧S.p undef w)
def aG (ops:Array Oper) (j i:Nat):Bool:=match ops[j]? with|some o=>o.after.any (fun e=>Region.binds .any e&&e.on==i)|none=>false
def j6 (P:Program) (ops:Array Oper) (L:List Spec) (w0:World) (Q:Exit->Act->World->Prop):List Oper->Nat->((Nat->Value)->Act)->Prop
 | [],_,_=>False
 | [o],k,A=> ∀x w,Below w0.heap.size w0 w->(∀i,i<k->(at' L i).p (x i) w)->Region.wanted o (yielded ops (A x).tmps)=true∧o.wp P (A x) w (fun a' w'=>Q .normal a' w') Q
 | o :: l,k,A=>(∀x w,Below w0.heap.size w0 w->(∀i,aG ops k i=true->(at' L i).p (x i) w)->kj P ops (at' L k) o (A x) w)∧j6 P ops L w0 Q l (k+1) (fun x=>(A x).put o.dst (x k))
theorem pS {L:List Spec} {w0:World} {Q:Exit->Act->World->Prop} {o o2:Oper} {l:List Oper} {k:Nat} {A:(Nat->Value)->Act}
  (h: ∀x w,Below w0.heap.size w0 w->(∀i,aG ops k i=true->(at' L i).p (x i) w)->kj P ops (at' L k) o (A x) w) (h2:j6 P ops L w0 Q (o2 :: l) (k+1) (fun x=>(A x).put o.dst (x k))):j6 P ops L w0 Q (o :: o2 :: l) k A:=⟨h,h2⟩
theorem yH {L:List Spec} {w0:World} {Q:Exit->Act->World->Prop} {o:Oper} {k:Nat} {A:(Nat->Value)->Act}
  (h: ∀x w,Below w0.heap.size w0 w->(∀i,i<k->(at' L i).p (x i) w)->Region.wanted o (yielded ops (A x).tmps)=true∧o.wp P (A x) w (fun a' w'=>Q .normal a' w') Q):j6 P ops L w0 Q [o] k A:=h
def Hp (ops:Array Oper) (i j:Nat):Bool:=
 match ops[i]?,ops[j]? with
 | some oi,some oj=>(aG ops j i||oi.apart ops oj) && !aG ops i j&&(match oi.dst with|some d=>oj.dst !=some d|none=>true)&&(match oj.dst with|some d=> !(oi.looksAt ops).contains d|none=>true)
 | _,_=>true
def Ak (ops:Array Oper) (j:Nat):Bool:=match ops[j]? with|some o=>o.after.all (fun e=>decide (e.on<ops.size))|none=>true
def yG (ops:Array Oper):Bool:=
 Region.noSelect ops&&(List.range ops.size).all (fun j=>(List.range j).all (fun i=>Hp ops i j)&&(!aG ops j j&&Ak ops j)&&(decide (j+1=ops.size)||(List.range ops.size).any (fun i=>decide (j<i)&&aG ops i j)))
theorem F3 {a b c:World} (h1:Below a.heap.size a b) (h2:Below b.heap.size b c):Below a.heap.size a c:=cQ h1 h2
theorem wpAny_done {Q:Exit->Act->World->Prop} {listed:Array Bool} {a:Act} {w:World} (h:Region.ready .any ops listed=[]) (hq:Q .normal a w): ∀fuel,wpAny P .any ops Q fuel listed a w
 | 0=>⟨h,hq⟩
 | _+1=>⟨fun _=>hq,fun i hi=>by rw [h] at hi;cases hi⟩
def y7 (s:Nat->Bool):Nat->Nat
 | 0=>0
 | k+1=>y7 s k+(if s k then 0 else 1)
theorem jx {s s':Nat->Bool}: ∀k,(∀i,i<k->s i=s' i)->y7 s k=y7 s' k
 | 0,_=>rfl
 | k+1,h=>by rw [y7,y7,jx k (fun i hi=>h i (by omega)),h k (by omega)]
theorem nY {s:Nat->Bool} {i:Nat}: ∀k,i<k->s i=false->y7 (bR s i) k+1=y7 s k
 | 0,h,_=>by omega
 | k+1,h,hs=>by
  rw [y7,y7]
  by_cases hik:i=k
  ·subst hik;rw [jx (s:=bR s i) (s':=s) i (fun j hj=>by have:j≠i:=(by omega);simp [bR,this])];simp [bR,hs]
  ·have:=nY (s:=s) (i:=i) k (by omega) hs
   have hk:bR s i k=s k:=by simp [bR,Ne.symm hik]
   rw [hk];omega
theorem wy {s:Nat->Bool} {i:Nat}: ∀k,i<k->s i=false->1<=y7 s k:=fun k h hs=>by
 have:=nY (s:=s) k h hs;omega
theorem wx {s:Nat->Bool}: ∀k,y7 s k<=k
 | 0=>UZ _
 | k+1=>by have:=wx (s:=s) k;rw [y7];split<;>omega
def Mn (P:Program) (l:List Oper) (L:List Spec) (w0:World) (a0:Act) (j:Nat) (o:Oper):Prop:=
 ∀x w,Below w0.heap.size w0 w->(∀i,aG l.toArray j i=true->(at' L i).p (x i) w)->kj P l.toArray (at' L j) o (cX (fun i=>decide (i<j)) x l 0 a0) w
def Mg (P:Program) (l:List Oper) (L:List Spec) (w0:World) (Q:Exit->Act->World->Prop) (a0:Act) (j:Nat) (o:Oper):Prop:=
 ∀x w,Below w0.heap.size w0 w->(∀i,i<j->(at' L i).p (x i) w) ->
  Region.wanted o (yielded l.toArray (cX (fun i=>decide (i<j)) x l 0 a0).tmps)=true∧o.wp P (cX (fun i=>decide (i<j)) x l 0 a0) w (fun a' w'=>Q .normal a' w') Q
theorem sn {l:List Oper} {L:List Spec} {w0:World} {Q:Exit->Act->World->Prop} {a0:Act} (hA:kC l): ∀(l':List Oper) (k:Nat) (A:(Nat->Value)->Act),l.drop k=l'->(A=fun x=>cX (fun i=>decide (i<k)) x l 0 a0) ->
  j6 P l.toArray L w0 Q l' k A-> ∀j o,k<=j->l[j]? = some o->(j+1<l.length->Mn P l L w0 a0 j o)∧(j+1=l.length->Mg P l L w0 Q a0 j o)
 | [],_,_,_,_,h=>h.elim
 | [o],k,A,hl,hAx,h=>by
  intro j o' hj ho
  have h1:l.length=k+1:=by have:=congrArg List.length hl;simp at this;omega
  have h2:l[k]? = some o:=by have:=congrArg (fun m=>m[0]?) hl;simpa using this
  have hjl:=(U4.1 ho).1
  obtain rfl:j=k:=by omega
  rw [h2] at ho;cases ho;subst hAx;exact ⟨fun hh=>by omega,fun _=>h⟩
 | o :: o2 :: l',k,A,hl,hAx,h=>by
  intro j o' hj ho
  have h1:l.length=k+(l'.length+2):=by have:=congrArg List.length hl;simp at this;omega
  have h2:l[k]? = some o:=by have:=congrArg (fun m=>m[0]?) hl;simpa using this
  subst hAx
  by_cases hjk:j=k
  ·subst hjk;rw [h2] at ho;cases ho;exact ⟨fun _=>h.1,fun hh=>by omega⟩
  ·refine sn hA (o2 :: l') (k+1) _ ?_ ?_ h.2 j o' (by omega) ho
   ·have:=congrArg List.tail hl;simpa using this
   ·funext x
    have hi:=iT (s:=fun i=>decide (i<k)) (x:=x) (v:=x k) l 0 k a0 hA h2 (by simp);rw [VR] at hi;rw [<-hi];refine bE l 0 a0 (fun i _ _=> ?_)
    by_cases hik:i=k
    ·subst hik;simp [bR,gG]
    ·have:(i<k+1)=(i<k):=by apply propext;omega
     simp [bR,gG,hik,this]
theorem qN {Q:Exit->Act->World->Prop} {a:Act} {w:World} {l:List Oper} (L:List Spec) (hB:yG l.toArray=true)
  (h:j6 P l.toArray L w.drew Q l 0 (fun _=>a)):wpAny P .any l.toArray Q l.toArray.size (Array.replicate l.toArray.size false) a w.drew:=by
 simp only [yG,VS,List.all_eq_true,List.mem_range,List.size_toArray] at hB;obtain ⟨hns,hall⟩:=hB;have hsel:=Region.noSelect_spec hns
 have hpair: ∀i j oi oj,i<j->l[i]? = some oi->l[j]? = some oj->(aG l.toArray j i=true∨oi.apart l.toArray oj=true)∧aG l.toArray i j=false∧(∀e,oi.dst=some e->oj.dst≠some e)∧(∀e,oj.dst=some e->e∉oi.looksAt l.toArray):=by
  intro i j oi oj hij hi hj;have hjn:=(U4.1 hj).1
  have:=(hall j hjn).1.1 i hij
  simp only [Hp,Vk,hi,hj,VS,Bool.or_eq_true,Bool.not_eq_true'] at this
  refine ⟨this.1.1.1,this.1.1.2,fun e he=> ?_,fun e he=> ?_⟩
  ·have h3:=this.1.2;rw [he] at h3;simpa using h3
  ·have h3:=this.2;rw [he] at h3;simpa using h3
 have hself: ∀j,j<l.length->aG l.toArray j j=false:=fun j hj=>by simpa using (hall j hj).1.2.1
 have hfar: ∀(j:Nat) (o:Oper),l[j]? = some o-> ∀e∈o.after,e.on<l.length:=fun j o hj e he=>by
  have:=(hall j (U4.1 hj).1).1.2.2
  simp only [Ak,Vk,hj,VU] at this;simpa using this e he
 have hnext: ∀j,j+1<l.length-> ∃i,i<l.length∧j<i∧aG l.toArray i j=true:=fun j hj=>by
  have:=(hall j (by omega)).2
  simp only [Bool.or_eq_true,decide_eq_true_eq,List.any_eq_true,List.mem_range,VS] at this
  rcases this with h|h
  ·omega
  ·exact h
 have hA:kC l:=fun i j oi oj hi hj hij e he=>by
  rcases Nat.lt_or_gt_of_ne hij with h|h
  ·exact (hpair i j oi oj h hi hj).2.2.1 e he
  ·intro h2;exact (hpair j i oj oi h hj hi).2.2.1 e h2 he
 have hlen:l≠[]:=by intro e;subst e;exact h
 have hn:1<=l.length:=List.length_pos_iff.2 hlen
 have hO:=sn (P:=P) (L:=L) (w0:=w.drew) (Q:=Q) (a0:=a) hA l 0 (fun _=>a) (by simp) (by
  funext x
  exact (show a=cX (fun _=>false) x l 0 a from by
   have: ∀(l:List Oper) k,a=cX (fun _=>false) x l k a:=by
    intro l
    induction l with
    | nil=>intro k;rfl
    | cons o l ih=>intro k;rw [cX];exact ih (k+1)
   exact this l 0).trans (bE l 0 a (fun i _ _=>by simp))) h
 
 have hloose: ∀i j oi oj,l[i]? = some oi->l[j]? = some oj->i≠j->aG l.toArray j i=false-> ∀d,oi.dst=some d->d∉oj.looksAt l.toArray:=by
  intro i j oi oj hi hj hij hd
  rcases Nat.lt_or_gt_of_ne hij with h|h
  ·rcases (hpair i j oi oj h hi hj).1 with h1|h1
   ·rw [hd] at h1;cases h1
   ·exact (Oper.apart_spec h1).1
  ·exact (hpair j i oj oi h hj hi).2.2.2
 
 have hsee: ∀(s s':Nat->Bool) x j oj,l[j]? = some oj->s j=false->s' j=false->(∀i,i<l.length->aG l.toArray j i=true->s i=true∧s' i=true) ->
   execOp (cX s x l 0 a).eval oj=execOp (cX s' x l 0 a).eval oj∧Region.wanted oj (yielded l.toArray (cX s x l 0 a).tmps)=Region.wanted oj (yielded l.toArray (cX s' x l 0 a).tmps):=by
  intro s s' x j oj hj h1 h2 hd
  have one:=fun (s:Nat->Bool) (hs:s j=false)=>pk (ops:=l.toArray) (s:=s) (keep:=aG l.toArray j) (x:=x) (a:=a) hA (fun cs b=>hsel j oj cs b (by simpa using hj))
   (fun i oi hi hsi hk=>hloose i j oi oj hi hj (by intro e;subst e;rw [hsi] at hs;cases hs) hk)
  obtain ⟨a1,a2⟩:=one s h1;obtain ⟨b1,b2⟩:=one s' h2
  have e:cX (fun i=>s i&&aG l.toArray j i) x l 0 a=cX (fun i=>s' i&&aG l.toArray j i) x l 0 a:=bE l 0 a (fun i _ hi=>by
   refine ⟨?_,fun _=>rfl⟩
   cases hk:aG l.toArray j i
   ·simp
   ·obtain ⟨c1,c2⟩:=hd i (by omega) hk
    simp [c1,c2])
  exact ⟨by rw [a1,b1,e],by rw [a2,b2,e]⟩
 have main: ∀fuel (listed:Array Bool) x w1,listed.size=l.length->Below w.drew.heap.size w.drew w1->(∀i,listed.getD i false=true->(at' L i).p (x i) w1) ->
   (∀j i,listed.getD j false=true->aG l.toArray j i=true->listed.getD i false=true)->listed.getD (l.length - 1) false=false->y7 (fun i=>listed.getD i false) l.length<=fuel ->
   wpAny P .any l.toArray Q fuel listed (cX (fun i=>listed.getD i false) x l 0 a) w1:=by
  intro fuel
  induction fuel with
  | zero=>
   intro listed x w1 _ _ _ _ hlast hu
   have:=wy (s:=fun i=>listed.getD i false) l.length (i:=l.length - 1) (by omega) hlast
   omega
  | succ fuel ih=>
   intro listed x w1 hsz hE hF hcl hlast hu
   have hmemR: ∀j,j∈Region.ready .any l.toArray listed-> ∃oj,l[j]? = some oj∧listed.getD j false=false∧ ∀i,aG l.toArray j i=true->listed.getD i false=true:=by
    intro j hj;obtain ⟨h1,o,ho,h3⟩:=mem_ready.1 hj
    refine ⟨o,by simpa using ho, ?_,fun i hi=> ?_⟩
    ·rcases Nat.lt_or_ge j listed.size with h'|h'
     ·simp [h'] at h1 ⊢; exact h1
     ·simp [Array.getElem?_eq_none h']
    ·simp only [aG,ho,VS,beq_iff_eq,Array.any_eq_true'] at hi;obtain ⟨e,he,hb,rfl⟩:=hi;exact h3 e he hb
   refine ⟨fun h0=> ?_,fun j hj=> ?_⟩
   ·
    exfalso
    have hex: ∃m,m<l.length∧listed.getD m false=false∧ ∀i,i<m->listed.getD i false=true:=by
     have: ∀k,k<=l.length->(∀i,i<k->listed.getD i false=true)∨ ∃m,m<l.length∧listed.getD m false=false∧ ∀i,i<m->listed.getD i false=true:=by
      intro k
      induction k with
      | zero=>exact fun _=> .inl (fun i hi=>by omega)
      | succ k ihk=>
       intro hk
       rcases ihk (by omega) with h|h
       ·cases hc:listed.getD k false
        ·exact .inr ⟨k,by omega,hc,h⟩
        ·exact .inl (fun i hi=>by
          by_cases e:i=k
          ·subst e;exact hc
          ·exact h i (by omega))
       ·exact .inr h
     rcases this l.length (UZ _) with h|h
     ·have:=h (l.length - 1) (by omega)
      rw [hlast] at this;cases this
     ·exact h
    obtain ⟨m,hm1,hm2,hm3⟩:=hex
    have hmem:m∈Region.ready .any l.toArray listed:=by
     refine mem_ready.2 ⟨?_,l[m],by simp [hm1],fun e he hb=> ?_⟩
     ·have hms:m<listed.size:=by omega
      simp [hms] at hm2 ⊢; exact hm2
     ·have hd:aG l.toArray m e.on=true:=by
       have:l.toArray[m]? = some l[m]:=by simp [hm1]
       simp only [aG,this];simp only [Array.any_eq_true',VS,beq_iff_eq];exact ⟨e,he,hb,rfl⟩
      rcases Nat.lt_trichotomy e.on m with h|h|h
      ·exact hm3 _ h
      ·rw [h,hself m hm1] at hd;cases hd
      ·by_cases hl:e.on<l.length
       ·have:=(hpair m e.on l[m] l[e.on] h (by simp [hm1]) (by simp [hl])).2.1
        rw [hd] at this;cases this
       ·exact absurd (hfar m l[m] (by simp [hm1]) e he) hl
    rw [h0] at hmem;cases hmem
   ·obtain ⟨oj,hoj,hun,hdeps⟩:=hmemR j hj;have hjl:=(U4.1 hoj).1
    have hsj:(listed.setIfInBounds j true).size=l.length:=by simpa using hsz
    have hgd: ∀i,(listed.setIfInBounds j true).getD i false=bR (fun i=>listed.getD i false) j i:=by
     intro i
     by_cases hij:i=j
     ·subst hij
      have:i<listed.size:=by omega
      simp [bR,this]
     ·simp only [bR,if_neg hij];exact getD_set_ne false (Ne.symm hij)
    have hO:=hO j oj (Nat.zero_le _) hoj;unfold wpOp;simp only [Vk,hoj]
    by_cases hjn:j+1=l.length
    ·
     have hup: ∀t i,i+t+1=l.length->t≠0->listed.getD i false=true:=by
      intro t
      induction t using Nat.strongRecOn with
      | _ t iht=>
       intro i hi ht;obtain ⟨i',h1,h2,h3⟩:=hnext i (by omega)
       by_cases hi':i'=j
       ·subst hi';exact hdeps i h3
       ·exact hcl i' i (iht (l.length - 1 - i') (by omega) i' (by omega) (by omega)) h3
     have hall': ∀i,i<j->listed.getD i false=true:=fun i hi=>hup (j - i) i (by omega) (by omega);obtain ⟨h1,h2⟩:=hO.2 hjn x w1 hE (fun i hi=>hF i (hall' i hi))
     have e:cX (fun i=>decide (i<j)) x l 0 a=cX (fun i=>listed.getD i false) x l 0 a:=bE l 0 a (fun i _ hi=>by
      refine ⟨?_,fun _=>rfl⟩
      by_cases hij:i<j
      ·simp only [hij,decide_true];exact (hall' i hij).symm
      ·obtain rfl:i=j:=by omega
       simp only [hij,decide_false];exact hun.symm)
     rw [e] at h1 h2;rw [if_pos h1];refine .inl (Oper.wp_mono (fun a' w' hq=>wpAny_done ?_ hq fuel) h2);refine List.eq_nil_iff_forall_not_mem.2 (fun i hi=> ?_);obtain ⟨g1,o,g2, -⟩:=mem_ready.1 hi
     have hil:i<l.length:=by
      have:=(U4.1 (show l[i]? = some o by simpa using g2)).1
      exact this
     have his:i<(listed.setIfInBounds j true).size:=by omega
     have g3:=hgd i
     rw [show (listed.setIfInBounds j true).getD i false=false by
      simp only [VV,Array.getElem?_eq_getElem his,Option.getD_some] at g1 ⊢; exact g1] at g3
     by_cases hij:i=j
     ·simp [bR,hij] at g3
     ·simp only [bR,if_neg hij] at g3;rw [hall' i (by omega)] at g3;cases g3
    ·have hst:=hO.1 (by omega) x w1 hE (fun i hi=>hF i (hdeps i hi))
     obtain ⟨c1,c2⟩:=hsee (fun i=>listed.getD i false) (fun i=>decide (i<j)) x j oj hoj hun (by simp) (fun i hi hd=>⟨hdeps i hd,by
      rcases Nat.lt_trichotomy i j with h|h|h
      ·simpa using h
      ·rw [h,hself j hjl] at hd;cases hd
      ·have:=(hpair j i oj l[i] h hoj (by simp [hi])).2.1
       rw [hd] at this;cases this⟩)
     have next: ∀v w2,(at' L j).p v w2->Below w1.heap.size w1 w2->wpAny P .any l.toArray Q fuel (listed.setIfInBounds j true) ((cX (fun i=>listed.getD i false) x l 0 a).put oj.dst v) w2:=by
      intro v w2 hv hb;have hi:=iT (s:=fun i=>listed.getD i false) (x:=x) (v:=v) l 0 j a hA hoj (by simpa using hun);rw [VR] at hi;rw [<-hi, <- show (fun i=>(listed.setIfInBounds j true).getD i false)=bR (fun i=>listed.getD i false) j from funext hgd]
      refine ih _ _ w2 hsj (F3 hE hb) (fun i hi'=> ?_) (fun j' i hj' hd=> ?_) ?_ ?_
      ·rw [hgd] at hi'
       by_cases hij:i=j
       ·subst hij;simpa [gG] using hv
       ·simp only [bR,if_neg hij] at hi';simp only [gG,if_neg hij];exact (at' L i).st _ _ _ hb (hF i hi')
      ·rw [hgd] at hj' ⊢
       by_cases hij:i=j
       ·simp [bR,hij]
       ·simp only [bR,if_neg hij]
        by_cases hj2:j'=j
        ·subst hj2;exact hdeps i hd
        ·simp only [bR,if_neg hj2] at hj';exact hcl j' i hj' hd
      ·rw [hgd]
       have:l.length - 1≠j:=by omega
       simp only [bR,if_neg this];exact hlast
      ·rw [jx (s':=bR (fun i=>listed.getD i false) j) l.length (fun i _=>hgd i)]
       have:=nY (s:=fun i=>listed.getD i false) (i:=j) l.length hjl hun
       omega
     unfold kj at hst;rw [<-c1, <- c2] at hst
     rcases hst with ⟨h1,h2⟩|⟨h1,h2⟩
     ·rw [if_pos h1];refine .inl ?_;unfold Oper.wp;generalize (execOp (cX (fun i=>listed.getD i false) x l 0 a).eval oj).run P w1=r at h2
      cases r with
      | halt _ _=>exact h2.elim
      | ok n w'=>
       cases n<;>first|exact h2.elim|skip
       case value u=>exact next _ _ h2.1 h2.2
       case skip=>exact next _ _ h2.1 h2.2
       case enter f args=>
        refine Calls.mono h2 fun e w'' he=> ?_;obtain ⟨v,rfl,hv,hb⟩:=he
        exact next _ _ hv hb
     ·rw [if_neg (by rw [h1];decide)]
      exact next _ _ h2 (Below.refl _ _)
 have hrep: ∀i,(Array.replicate l.toArray.size false).getD i false=false:=fun i=>by
  simp only [VV,Array.getElem?_replicate];split<;>rfl
 have h0:=main l.toArray.size (Array.replicate l.toArray.size false) (fun _=>undef) w.drew (by simp) (Below.refl _ _)
  (fun i hi=>by rw [hrep] at hi;cases hi) (fun j i hj=>by rw [hrep] at hj;cases hj) (hrep _) (wx _)
 have e:cX (fun i=>(Array.replicate l.toArray.size false).getD i false) (fun _=>undef) l 0 a=a:=by
  have: ∀(l':List Oper) k,cX (fun i=>(Array.replicate l.toArray.size false).getD i false) (fun _=>undef) l' k a=a:=by
   intro l'
   induction l' with
   | nil=>intro k;rfl
   | cons o l' ih=>intro k;rw [cX,hrep];exact ih (k+1)
  exact this l 0
 rw [e] at h0;exact h0
end
def WF (r:Option Nat):Fence:={ Fence.wide with round:=r }
theorem iS (r:Option Nat) (n:Nat):(WF r).room n:=fun d h=>by cases h
section
variable {P:Program} {r:Option Nat} {n:Nat} {ops:Array Oper} {Q:Exit->Act->World->Prop} {a:Act} {w:World}
theorem IY {c:Code} {m:Nat} (h:c.wpIn (WF r) n P Q a w):c.wpIn (WF r) m P Q a w:=fun b k cs h1 h2 _=>h b k cs h1 h2 (iS _ _)
theorem EW {m:Nat} {l:Nat} {f:FuncId} {tmps:Array Value} {assign body:Code} {R:Ending->World->Prop} {r':Option Nat} (h:RoundIn (WF r) n P l f tmps assign body w R):RoundIn (WF r') m P l f tmps assign body w R:=⟨trivial,fun c cs _=>h.2 c cs (iS _ _)⟩
theorem jL {f:FuncId} {args:Array Value} {R:Ending->World->Prop} (h:Calls P f args w R):CallsIn (WF r) n P f args w R:=(callsIn_wide (n:=n)).2 h
theorem qW {f:FuncId} {args:Array Value} {R:Ending->World->Prop} (h:CallsIn (WF none) n P f args w R):Calls P f args w R:=(callsIn_wide (n:=n)).1 h
def dy (ops:Array Oper):Bool:=ops.all (fun o=>match o.op with| .defer _=>false|_=>true)
theorem kM {i:Nat} {o:Oper} (h:dy ops=true) (ho:ops[i]? = some o) (rho:Operand->Value):o.semAt r rho=execOp rho o:=by
 refine Oper.semAt_eq r rho o (fun c hc=> ?_);unfold dy at h;rw [VU] at h
 have:=h o (Array.mem_of_getElem? ho)
 rw [hc] at this;cases this
theorem uz {row:String} {args:Array Value} {R:Value->World->Prop} (h:Rows P row args w R):RowsIn (WF r) n P row args w R:=fun c cs _=>by
 obtain ⟨v,w',hr,hs⟩:=h c cs;exact ⟨v,w',hr,stepsIn_wide.2 hs⟩
theorem dK (hc:dy ops=true) (hQ: ∀a w, ¬Q .outgrown a w): ∀(l:List Nat) (a:Act) (w:World),wpOps P ops Q l a w->wpOpsIn (WF r) n P ops Q l a w
 | [],a,w,h=>h
 | i :: rest,a,w,h=>by
  simp only [wpOps] at h;simp only [wpOpsIn]
  cases ho:ops[i]? with
  | none=>
   rw [ho] at h;exact dK hc hQ rest a w h
  | some o=>
   rw [ho] at h;simp only at h ⊢
   split
   ·rename_i hw;rw [if_pos hw] at h
    rcases h with h|⟨_,a',w',h⟩
    ·refine ⟨fun f _=>trivial, ?_⟩;rw [kM hc ho];unfold Oper.wp at h;generalize (execOp a.eval o).run P w=res at h;unfold Oper.upon at h;unfold Oper.uponIn
     split at h
     ·exact dK hc hQ rest _ _ h
     ·exact dK hc hQ rest _ _ h
     ·exact dK hc hQ rest _ _ h
     ·refine ⟨fun e=>(by cases e),jL (h.mono fun e w' he=> ?_)⟩
      cases e with
      | returned v=>exact dK hc hQ rest _ _ he
      | panicked ch=>exact he
      | outgrown=>exact he
     ·exact ⟨fun e=>(by cases e),uz (h.mono fun v w' he=>dK hc hQ rest _ _ he)⟩
     ·exact h
     ·exact h.elim
    ·exact absurd h (hQ a' w')
   ·rename_i hw;rw [if_neg hw] at h;exact ⟨fun f _=>trivial,dK hc hQ rest _ _ h⟩
theorem ou {id:Nat} (hm:P.follows .mixedOrders=true) (hc:dy ops=true) (hQ: ∀a w, ¬Q .outgrown a w) (h:wpAny P .any ops Q ops.size (Array.replicate ops.size false) a w.drew):(Code.region id ops true).wpIn (WF r) n P Q a w:=
 wpIn_region_draw fun t=>by
  simp only [Region.schedule,hm,Bool.true_or,if_true];exact dK hc hQ _ _ _ (wpAny_sound ops.size t _ a _ h)
theorem tp {c:Code} (I:Nat->Act->World->Prop) {m:Nat} (h0:I m a w) (round: ∀m a w,I m a w->c.wpIn (WF r) n P (Exit.then (fun a' w'=> ∃m',I m' a' w'∧m'<m) Q) a w):(Code.loop c).wpIn (WF r) n P Q a w:=by
 have key: ∀j a w,I j a w-> ∀b k cs,b.roundOf=(WF r).round-> ∃e a' w',Q e a' w'∧ArrivesIn (Machine.fenced P (WF r)) P (lone (b.atR a (.code c :: .inLoop c :: k)) cs w) b k cs e a' w':=by
  intro j
  induction j using Nat.strongRecOn with
  | _ j ih=>
   intro a w hI b k cs hro;obtain ⟨e,a1,w1,hq,harr⟩:=round j a w hI b (.inLoop c :: k) cs hro trivial (iS _ _)
   cases e with
   | normal=>
    obtain ⟨m',h1,h2⟩:=hq;obtain ⟨e2,a2,w2,q2,arr2⟩:=ih m' h2 a1 w1 h1 b k cs hro;exact ⟨e2,a2,w2,q2, .of_steps (StepsIn.trans harr (.one (fenced_calm (F:=WF r) (n:=n) trivial (iS _ _) rfl) stepR_inLoop)) arr2⟩
   | exit id=>exact ⟨_,a1,w1,hq, .pass (x:= .inLoop c) rfl (fun _ _=> .inl (by simp)) harr⟩
   | goto l=>exact ⟨_,a1,w1,hq, .pass (x:= .inLoop c) rfl (fun _ _=> .inl (by simp)) harr⟩
   | ret=>exact ⟨_,a1,w1,hq, .pass (x:= .inLoop c) rfl (fun _ _=> .inl (by simp)) harr⟩
   | panic ch=>exact ⟨_,a1,w1,hq, .pass (x:= .inLoop c) rfl (fun _ _=> .inl (by simp)) harr⟩
   | outgrown=>exact ⟨_,a1,w1,hq, .pass (x:= .inLoop c) rfl (fun _ _=> .inl (by simp)) harr⟩
 intro b k cs hro _ _;obtain ⟨e,a',w',hq,harr⟩:=key m a w h0 b k cs hro;exact ⟨e,a',w',hq, .of_steps (.one (fenced_calm (F:=WF r) (n:=n) trivial (iS _ _) rfl) stepR_loop) harr⟩
theorem wq {b:Frame} {k:List Item} {cs:List Frame} {c:Code}:step P (lone (b.atR a (.code (.scope c) :: k)) cs w) = .next (lone (b.atR a (.code c :: .inScope c :: k)) cs w):=
 step_lone_go (by simp [stepG,stepG.exec,Frame.atR])
theorem sD {b:Frame} {k:List Item} {cs:List Frame} {c:Code}:step P (lone (b.atR a (.inScope c :: k)) cs w) = .next (lone (b.atR a k) cs w):=
 step_lone_go (by simp [stepG,stepG.exec,Frame.atR])
theorem Bz {c:Code} (h:c.wpIn (WF r) n P (Exit.noGoto Q) a w):(Code.scope c).wpIn (WF r) n P Q a w:=by
 intro b k cs hro _ _;obtain ⟨e,a1,w1,hq,harr⟩:=h b (.inScope c :: k) cs hro trivial (iS _ _);have s1:StepsIn (Machine.fenced P (WF r)) P (lone (b.atR a (.code (.scope c) :: k)) cs w) (lone (b.atR a (.code c :: .inScope c :: k)) cs w):= .one (fenced_calm (F:=WF r) (n:=n) trivial (iS _ _) rfl) wq
 cases e with
 | normal=>exact ⟨.normal,a1,w1,hq,s1.trans (StepsIn.trans harr (.one (fenced_calm (F:=WF r) (n:=n) trivial (iS _ _) rfl) sD))⟩
 | exit id=>
  refine ⟨.exit id,a1,w1,hq,fun k' hk=>s1.trans (harr.1 k' (by simp [exitTo,hk])),fun hro2 hkk=> ?_⟩;obtain ⟨k1,h1,h2⟩:=harr.2 hro2 (by simp [exitTo,hkk]);exact ⟨k1,h1,s1.trans h2⟩
 | goto l=>exact hq.elim
 | ret=>exact ⟨_,a1,w1,hq, .of_steps s1 harr⟩
 | panic ch=>exact ⟨_,a1,w1,hq, .of_steps s1 harr⟩
 | outgrown=>exact ⟨_,a1,w1,hq, .of_steps s1 harr⟩
end
end
end Go.Proofs.YtlhhccmopfamhaaGreatDoor
