/- texts of one claim, one behind the other. -/
import Derived.Attr
import Derived.WalkKit
import Derived.Lib.Hide
import Derived.Maps.AppendAt
import Derived.Laws.Tables
import Derived.Laws.StructEq
set_option linter.unusedSimpArgs false
set_option linter.unusedVariables false
set_option maxRecDepth 100000
set_option maxHeartbeats 16000000
open Option.some renaming inj -> SX, injEq -> Ti
open Array renaming getElem?_eq_some_iff -> S5, getElem?_eq_getElem -> Tm, length_toList -> TA, getElem?_append_left -> TJ, getElem?_range -> TN, getElem?_extract -> TO
open List renaming length_nil -> S6, getElem?_eq_some_iff -> S7, getElem?_append_left -> S8, getElem?_concat_length -> Ta, length_append -> Tb, length_cons -> Tc, getElem?_drop -> Tl, getElem?_eq_getElem -> Tn, getElem?_take -> To, getElem?_toArray -> Tp, getElem?_map -> Tq, getElem?_range -> Tr, getElem?_eq_none -> Tt, getElem?_set_ne -> Tv, getElem?_set_self -> Tw, getElem?_of_mem -> Tx, size_toArray -> Ty, length_take -> Tz, append_assoc -> TB, getElem?_take_of_lt -> TC, getElem?_append_right -> TD, mem_of_getElem? -> TI, eq_nil_of_length_eq_zero -> TL, getElem?_replicate -> TM
open Nat renaming le_refl -> SY, le_trans -> S3, lt_of_lt_of_le -> S4, lt_or_ge -> S9, zero_le -> Te, mul_le_mul_right -> Tf, add_mul -> Tg, one_mul -> Th, add_zero -> Tu, mul_comm -> TE, div_lt_of_lt_mul -> TF
open Ne renaming symm -> TH
open Option renaming map_some -> TG
open Prod.mk renaming injEq -> Tj
namespace Go.Proofs.YtlhhccmopfamhaaGreatDoor
open Go.RowKit
attribute [go_sem_proc] Nat.reduceAdd Nat.reduceSub Nat.reduceMul Nat.reduceLeDiff Nat.reduceEqDiff Nat.reduceLT Int.reduceToNat reduceCtorEq Int.reduceLE Int.reduceLT Int.reduceNeg Int.reduceEq Int.reduceBEq Int.reduceBNe
attribute [go_sem_proc ↓] reduceIte
/-- the variables that are laid -/ def sR (g:Nat):Option (TypeId×Array Value):=
 if g=0 then some (301, #[.int .u8 0, .int .u8 1, .int .u8 28, .int .u8 2, .int .u8 29, .int .u8 14, .int .u8 24, .int .u8 3, .int .u8 30, .int .u8 22, .int .u8 20, .int .u8 15, .int .u8 25, .int .u8 17, .int .u8 4, .int .u8 8, .int .u8 31, .int .u8 27, .int .u8 13, .int .u8 23, .int .u8 21, .int .u8 19, .int .u8 16, .int .u8 7, .int .u8 26, .int .u8 12, .int .u8 18, .int .u8 6, .int .u8 11, .int .u8 5, .int .u8 10, .int .u8 9]) else
 if g=1 then some (311, #[.int .u64 1, .int .u64 10, .int .u64 100, .int .u64 1000, .int .u64 10000, .int .u64 100000, .int .u64 1000000, .int .u64 10000000, .int .u64 100000000, .int .u64 1000000000, .int .u64 10000000000, .int .u64 100000000000, .int .u64 1000000000000, .int .u64 10000000000000, .int .u64 100000000000000, .int .u64 1000000000000000, .int .u64 10000000000000000, .int .u64 100000000000000000, .int .u64 1000000000000000000, .int .u64 10000000000000000000]) else
 none
theorem Cw (g:Nat) (T:TypeId) (cs:Array Value) (h:sR g=some (T,cs)): ∀(i:Nat) x,cs[i]? = some x->x.oneCell'=true:=by
 intro i x hx;have key: ∀l:Array Value,cs=l->l.toList.all (fun v=>v.oneCell')=true->x.oneCell'=true:=fun l e hl=>List.all_eq_true.1 hl x (List.mem_of_getElem? (by subst e;simpa using hx))
 by_cases hg:g=0
 ·rw [sR,if_pos hg] at h;exact key _ (Prod.mk.inj (SX h)).2.symm (by rfl)
 rw [sR,if_neg hg] at h
 by_cases hg:g=1
 ·rw [if_pos hg] at h;exact key _ (Prod.mk.inj (SX h)).2.symm (by rfl)
 rw [if_neg hg] at h;cases h
inductive AV where
 | undef
 | v (x:Value)
 | agg (cs:List AV)
 | ct (vs:List AV)
 | aI (z:Nat) (rows:List (List AV)) (len:Nat)
 | vp (cs:List AV)
 | ptr (id len z row off:Nat)
 | vec (id len:Nat)
 | fn (g:FuncId) (first caps:List AV)
 | full (a:AV)
 | fp (p:(Nat->Prop)->World->Value->Prop) (a:AV)
 | mp (rows:List (List AV))
structure aa where
 T:TypeId
 z:Nat
 dj:Bool
 rows:List (List AV)
def aa.hl (ob:aa):Nat:=if ob.dj then ob.rows.length else 0
inductive iz where
 | no
 | run (l:Nat) (rest:List (List AV))
 | off
structure AS where
 t:List AV
 o:List (Option aa)
 y:iz
def cP:Value->Option Nat
 | .pointer (some a)=>some a.block
 | .slice (some a) _ _=>some a.block
 | _=>none
def cr:Value->Option Nat
 | .map b=>b
 | v=>cP v
theorem Ik {v:Value} {b:Nat} (h:cP v=some b):cr v=some b:=by cases v<;>first|exact h|cases h
def AV.st:AV->AV
 | .full a=>a
 | .fp _ a=>a
 | a=>a
def cK (o:List (Option aa)) (id len:Nat):Prop:= ∃ob,o[id]? = some ob∧ ∀x,ob=some x->len<=x.hl
def owned (nu:Nat->Nat->Value) (o:List (Option aa)) (b:Nat):Prop:= ∃id ob,o[id]? = some (some ob)∧cr (nu id ob.hl)=some b
def Fz (D:Nat->Prop) (nu:Nat->Nat->Value) (o:List (Option aa)) (w:World) (b:Nat):Prop:=b<w.heap.size∧ ¬owned nu o b∧D b
def J4 (e:MapEntry):Nat->Value
 | 0=>e.key
 | _=>e.val
inductive RA (D:Nat->Prop) (nu:Nat->Nat->Value) (o:List (Option aa)) (w:World):AV->Value->Prop
 | undef (x:Value):RA D nu o w .undef x
 | v (x:Value):RA D nu o w (.v x) x
 | agg (cs:List AV) (xs:Array Value):cs.length=xs.size->(∀(i:Nat) c x,cs[i]? = some c->xs[i]? = some x->RA D nu o w c x)->(∀(i:Nat) x,xs[i]? = some x->x.oneCell'=true)->RA D nu o w (.agg cs) (.agg xs)
 | ct (cs:List AV) (xs:Array Value):cs.length=xs.size->(∀(i:Nat) c x,cs[i]? = some c->xs[i]? = some x->RA D nu o w c x)->RA D nu o w (.ct cs) (.tuple xs)
 | bf (z:Nat):RA D nu o w (.aI z [] 0) (.slice none 0 0)
 | bA (z:Nat) (a:Addr):RA D nu o w (.aI z [] 0) (.slice (some a) 0 0)
 | aI (z:Nat) (rows:List (List AV)) (len b off cap:Nat) (f:Nat->Nat->Value):len<=rows.length->rows.length<=cap->cap<=maxLen->(rows≠[]->Fz D nu o w b) ->
   (∀(i:Nat) row,rows[i]? = some row->row.length=z)->(∀(i j:Nat) row c,rows[i]? = some row->row[j]? = some c->w.cell? ⟨b,off+i * z+j,none⟩=some (f i j)) ->
   (∀(i j:Nat) row c,rows[i]? = some row->row[j]? = some c->RA D nu o w c (f i j))->(∀(i j:Nat) row c,rows[i]? = some row->row[j]? = some c->(f i j).oneCell'=true) ->
   RA D nu o w (.aI z rows len) (.slice (some ⟨b,off,none⟩) len cap)
 | vp (cs:List AV) (b off:Nat) (f:Nat->Value):Fz D nu o w b->(∀(j:Nat) c,cs[j]? = some c->w.cell? ⟨b,off+j,none⟩=some (f j))->(∀(j:Nat) c,cs[j]? = some c->RA D nu o w c (f j)) ->
   (∀(j:Nat) c,cs[j]? = some c->(f j).oneCell'=true)->RA D nu o w (.vp cs) (.pointer (some ⟨b,off,none⟩))
 | ptr (id len z row off b:Nat):cK o id len->cP (nu id len)=some b->RA D nu o w (.ptr id len z row off) (.pointer (some ⟨b,row * z+off,none⟩))
 | vec (id len:Nat):cK o id len->(nu id len).oneCell'=true->RA D nu o w (.vec id len) (nu id len)
 | fn (g:FuncId) (first caps:List AV) (fi ca:Array Value):first.length=fi.size->caps.length=ca.size->(∀(i:Nat) c x,first[i]? = some c->fi[i]? = some x->RA D nu o w c x) ->
   (∀(i:Nat) c x,caps[i]? = some c->ca[i]? = some x->RA D nu o w c x)->RA D nu o w (.fn g first caps) (.func (.func g) fi ca)
 | full (a:AV) (x:Value):(∃ad n,x = .slice ad n n)->RA D nu o w a x->RA D nu o w (.full a) x
 | fp (p:(Nat->Prop)->World->Value->Prop) (a:AV) (x:Value) (S:Nat->Prop):x.oneCell'=true->(∀b,S b->Fz D nu o w b)->(∀b,S b-> ∃C T k,w.heap[b]? = some (.cells C T k))->(∀w':World,(∀b,S b->w'.heap[b]? = w.heap[b]?)->p S w' x)->RA D nu o w a x->RA D nu o w (.fp p a) x
 | mp (rows:List (List AV)) (b:Nat) (es:Array MapEntry) (cl:Nat):Fz D nu o w b->w.heap[b]? = some (.map es cl)->es.size=rows.length->(∀(i:Nat) row,rows[i]? = some row->row.length=2)->(∀(i:Nat) e,es[i]? = some e->e.born<cl) ->
   (∀(i j:Nat) e e',es[i]? = some e->es[j]? = some e'->i<j->e.born<e'.born)->(∀(i j:Nat) row c e,rows[i]? = some row->row[j]? = some c->es[i]? = some e->RA D nu o w c (J4 e j))->RA D nu o w (.mp rows) (.map (some b))
theorem RA.st {D:Nat->Prop} {nu:Nat->Nat->Value} {o:List (Option aa)} {w:World} {a:AV} {x:Value} (h:RA D nu o w a x):RA D nu o w a.st x:=by
 cases h with
 | full a x h1 h2=>exact h2
 | fp p a x S h0 h1 hc h2 h3=>exact h3
 | mp rows b es cl h1 h2 h3 h4 h5 h6 h7=>exact .mp rows b es cl h1 h2 h3 h4 h5 h6 h7
 | undef=>exact .undef _
 | v=>exact .v _
 | agg cs xs h1 h2 h3=>exact .agg cs xs h1 h2 h3
 | ct cs xs h1 h2=>exact .ct cs xs h1 h2
 | bf z=>exact .bf z
 | bA z a=>exact .bA z a
 | aI z rows len b off cap f h1 h2 h3 h4 h5 h6 h7 h8=>exact .aI z rows len b off cap f h1 h2 h3 h4 h5 h6 h7 h8
 | vp cs b off f h1 h2 h3 h4=>exact .vp cs b off f h1 h2 h3 h4
 | ptr id len z row off b h1 h2=>exact .ptr id len z row off b h1 h2
 | vec id len h1 h2=>exact .vec id len h1 h2
 | fn g first caps fi ca h1 h2 h3 h4=>exact .fn g first caps fi ca h1 h2 h3 h4
structure gk (D:Nat->Prop) (nu:Nat->Nat->Value) (o:List (Option aa)) (w:World) (cs:List AV) (xs:Array Value):Prop where
 len:cs.length=xs.size
 at': ∀(i:Nat) c x,cs[i]? = some c->xs[i]? = some x->RA D nu o w c x
structure bl (nu:Nat->Nat->Value) (o:List (Option aa)) (w:World) (nu':Nat->Nat->Value) (o':List (Option aa)) (w':World):Prop where
 os:w'.os=w.os
 tape:w'.tape=w.tape
 output:w'.output=w.output
 size:w.heap.size<=w'.heap.size
 pq: ∀id len,cK o id len->cK o' id len∧nu' id len=nu id len
 keep: ∀b,b<w.heap.size-> ¬owned nu o b->w'.heap[b]? = w.heap[b]? ∧ ¬owned nu' o' b
theorem bl.refl (nu:Nat->Nat->Value) (o:List (Option aa)) (w:World):bl nu o w nu o w:=⟨rfl,rfl,rfl,SY _,fun _ _ h=>⟨h,rfl⟩,fun _ _ h=>⟨rfl,h⟩⟩
theorem bl.trans {nu nu1 nu2:Nat->Nat->Value} {o o1 o2:List (Option aa)} {w w1 w2:World} (h:bl nu o w nu1 o1 w1) (k:bl nu1 o1 w1 nu2 o2 w2):bl nu o w nu2 o2 w2:=
 ⟨k.os.trans h.os,k.tape.trans h.tape,k.output.trans h.output,S3 h.size k.size,fun id len hh=>by
  obtain ⟨h1,h2⟩:=h.pq id len hh;obtain ⟨h3,h4⟩:=k.pq id len h1
  exact ⟨h3,h4.trans h2⟩,fun b hb ho=>by
  obtain ⟨h1,h2⟩:=h.keep b hb ho;obtain ⟨h3,h4⟩:=k.keep b (S4 hb h.size) h2
  exact ⟨h3.trans h1,h4⟩⟩
theorem bl.fz {D D':Nat->Prop} {nu nu':Nat->Nat->Value} {o o':List (Option aa)} {w w':World} (h:bl nu o w nu' o' w') (hD: ∀b,b<w.heap.size->D b->D' b) {b:Nat} (hb:Fz D nu o w b):Fz D' nu' o' w' b:=
 ⟨S4 hb.1 h.size,(h.keep b hb.1 hb.2.1).2,hD b hb.1 hb.2.2⟩
theorem RA.mono {D D':Nat->Prop} {nu nu':Nat->Nat->Value} {o o':List (Option aa)} {w w':World} (h:bl nu o w nu' o' w') (hD: ∀b,b<w.heap.size->D b->D' b) {a:AV} {x:Value} (hr:RA D nu o w a x):RA D' nu' o' w' a x:=by
 induction hr with
 | undef x=>exact .undef x
 | v x=>exact .v x
 | agg cs xs h1 _ h3 ih=>exact .agg cs xs h1 ih h3
 | ct cs xs h1 _ ih=>exact .ct cs xs h1 ih
 | bf z=>exact .bf z
 | bA z a=>exact .bA z a
 | aI z rows len b off cap f h1 h2 h3 h4 h5 h6 _ h8 ih=>
  refine .aI z rows len b off cap f h1 h2 h3 (fun hne=>h.fz hD (h4 hne)) h5 (fun i j row c hr hc=> ?_) ih h8
  have hne:rows≠[]:=fun e=>by subst e;simp at hr
  have hf:=h4 hne;rw [World.cell?_of_block (w:=w) (h.keep b hf.1 hf.2.1).1];exact h6 i j row c hr hc
 | vp cs b off f h1 h2 _ h4 ih=>
  refine .vp cs b off f (h.fz hD h1) (fun j c hc=> ?_) ih h4;rw [World.cell?_of_block (w:=w) (h.keep b h1.1 h1.2.1).1];exact h2 j c hc
 | ptr id len z row off b h1 h2=>
  obtain ⟨h3,h4⟩:=h.pq id len h1;exact .ptr id len z row off b h3 (by rw [h4];exact h2)
 | vec id len h1 h2=>
  obtain ⟨h3,h4⟩:=h.pq id len h1;rw [<-h4];exact .vec id len h3 (by rw [h4];exact h2)
 | fn g first caps fi ca h1 h2 _ _ ih1 ih2=>exact .fn g first caps fi ca h1 h2 ih1 ih2
 | full a x h1 _ ih=>exact .full a x h1 ih
 | fp p a x S h0 h1 hc h2 _ ih=>exact .fp p a x S h0 (fun b hb=>h.fz hD (h1 b hb)) (fun b hb=>by rw [(h.keep b (h1 b hb).1 (h1 b hb).2.1).1];exact hc b hb) (fun w2 hw=>h2 w2 (fun b hb=>(hw b hb).trans (h.keep b (h1 b hb).1 (h1 b hb).2.1).1)) ih
 | mp rows b es cl h1 h2 h3 h4 h5 h6 _ ih=>exact .mp rows b es cl (h.fz hD h1) ((h.keep b h1.1 h1.2.1).1.trans h2) h3 h4 h5 h6 ih
theorem gk.mono {D D':Nat->Prop} {nu nu':Nat->Nat->Value} {o o':List (Option aa)} {w w':World} (h:bl nu o w nu' o' w') (hD: ∀b,b<w.heap.size->D b->D' b) {cs:List AV} {xs:Array Value} (hr:gk D nu o w cs xs):gk D' nu' o' w' cs xs:=
 ⟨hr.len,fun i c x h1 h2=>(hr.at' i c x h1 h2).mono h hD⟩
structure vH (D:Nat->Prop) (nu:Nat->Nat->Value) (o:List (Option aa)) (w:World) (id:Nat) (ob:aa) (g:Nat) (cur:Array Value):Prop where
 cZ:w.heap[g]? = some (.cells cur ob.T (0,0))
 j9:D g
 box:ob.dj=false->nu id 0 = .pointer (some ⟨g,0,none⟩)∧ob.rows.length=1∧cur.size=ob.z
 vec:ob.dj=true-> ∃cap,nu id ob.rows.length = .slice (some ⟨g,0,none⟩) ob.rows.length cap∧ob.rows.length<=cap∧cap<=maxLen∧cur.size=cap * ob.z
 z:0<ob.z
 row: ∀(i:Nat) row,ob.rows[i]? = some row->row.length=ob.z
 cell: ∀(i j:Nat) row c x,ob.rows[i]? = some row->row[j]? = some c->cur[i * ob.z+j]? = some x->RA D nu o w c x
 one: ∀(i j:Nat) row c x,ob.rows[i]? = some row->row[j]? = some c->cur[i * ob.z+j]? = some x->x.oneCell'=true
structure ua (D:Nat->Prop) (nu:Nat->Nat->Value) (o:List (Option aa)) (w:World) (id:Nat) (ob:aa) (g:Nat) (es:Array MapEntry) (clock:Nat):Prop where
 cZ:w.heap[g]? = some (.map es clock)
 j9:D g
 pq:nu id 0 = .map (some g)
 dj:ob.dj=false
 z:ob.z=0
 sz:es.size=ob.rows.length
 row: ∀(i:Nat) row,ob.rows[i]? = some row->row.length=2
 key: ∀(i:Nat) row c e,ob.rows[i]? = some row->row[0]? = some c->es[i]? = some e->RA D nu o w c e.key
 val: ∀(i:Nat) row c e,ob.rows[i]? = some row->row[1]? = some c->es[i]? = some e->RA D nu o w c e.val
 born: ∀(i:Nat) e,es[i]? = some e->e.born<clock
 jT: ∀(i j:Nat) e e',es[i]? = some e->es[j]? = some e'->i<j->e.born<e'.born
def dC (D:Nat->Prop) (nu:Nat->Nat->Value) (o:List (Option aa)) (w:World):Prop:= ∀g T cs,sR g=some (T,cs)->(∃t,w.heap[g]? = some (.cells cs t (0,0)))∧ ¬owned nu o g∧D g
theorem dC.keep {D D':Nat->Prop} {nu nu':Nat->Nat->Value} {o o':List (Option aa)} {w w':World} (h:dC D nu o w) (hk: ∀b,b<w.heap.size-> ¬owned nu o b->D b->w'.heap[b]? = w.heap[b]? ∧ ¬owned nu' o' b∧D' b):dC D' nu' o' w':=fun g T cs hg=>by
 obtain ⟨⟨t,h1⟩,h2,h3⟩:=h g T cs hg;obtain ⟨k1,k2,k3⟩:=hk g (S5.1 h1).1 h2 h3;exact ⟨⟨t,k1.trans h1⟩,k2,k3⟩
theorem dC.fz {D D':Nat->Prop} {nu nu':Nat->Nat->Value} {o o':List (Option aa)} {w w':World} (h:dC D nu o w) (hF: ∀b,Fz D nu o w b->w'.heap[b]? = w.heap[b]? ∧Fz D' nu' o' w' b):dC D' nu' o' w':=
 h.keep fun b hb ho hd=>⟨(hF b ⟨hb,ho,hd⟩).1,(hF b ⟨hb,ho,hd⟩).2.2⟩
theorem qW (nu:Nat->Nat->Value) (b:Nat): ¬owned nu [] b:=fun ⟨id,ob,h,_⟩=>by simp at h
theorem dC.nil {D D':Nat->Prop} {nu nu':Nat->Nat->Value} {o:List (Option aa)} {w:World} (h:dC D nu o w) (hD: ∀b,b<w.heap.size->D b->D' b):dC D' nu' [] w:=h.keep fun b hb _ hd=>⟨rfl,qW _ _,hD b hb hd⟩
theorem dC.mono {D D':Nat->Prop} {nu nu':Nat->Nat->Value} {o o':List (Option aa)} {w w':World} (h:dC D nu o w) (hm:bl nu o w nu' o' w') (hD: ∀b,b<w.heap.size->D b->D' b):dC D' nu' o' w':=
 h.keep fun b hb ho hd=>⟨(hm.keep b hb ho).1,(hm.keep b hb ho).2,hD b hb hd⟩
structure RO (D:Nat->Prop) (nu:Nat->Nat->Value) (o:List (Option aa)) (w:World):Prop where
 obj: ∀id ob,o[id]? = some (some ob)->(ob.dj=true∧ob.rows=[]∧nu id 0 = .slice none 0 0)∨(∃g cur,vH D nu o w id ob g cur)∨ ∃g es clock,ua D nu o w id ob g es clock
 up: ∀b,w.heap.size<=b->D b
 sep: ∀id id' ob ob' b,o[id]? = some (some ob)->o[id']? = some (some ob')->id≠id'->cr (nu id ob.hl)=some b->cr (nu id' ob'.hl)≠some b
 gl:dC D nu o w
theorem RO.nil (D:Nat->Prop) (nu:Nat->Nat->Value) (w:World) (up: ∀b,w.heap.size<=b->D b) (gl:dC D nu [] w):RO D nu [] w:=⟨fun id ob h=>by simp at h,up,fun id id' ob ob' b h=>by simp at h,gl⟩
theorem bb (nu:Nat->Nat->Value) (b:Nat): ¬owned nu [] b:=fun ⟨id,ob,h,_⟩=>by simp at h
theorem vH.mz {D:Nat->Prop} {nu:Nat->Nat->Value} {o:List (Option aa)} {w:World} {id:Nat} {ob:aa} {g:Nat} {cur:Array Value} (h:vH D nu o w id ob g cur):cP (nu id ob.hl)=some g:=by
 cases hv:ob.dj
 ·simp only [aa.hl,hv,Bool.false_eq_true,if_false];rw [(h.box hv).1];rfl
 ·obtain ⟨cap,h1,_⟩:=h.vec hv;simp only [aa.hl,hv,if_true];rw [h1];rfl
theorem vH.bn {D:Nat->Prop} {nu:Nat->Nat->Value} {o:List (Option aa)} {w:World} {id:Nat} {ob:aa} {g:Nat} {cur:Array Value} (h:vH D nu o w id ob g cur):cr (nu id ob.hl)=some g:=Ik h.mz
theorem ua.hl {D:Nat->Prop} {nu:Nat->Nat->Value} {o:List (Option aa)} {w:World} {id:Nat} {ob:aa} {g clock:Nat} {es:Array MapEntry} (h:ua D nu o w id ob g es clock):ob.hl=0:=by simp [aa.hl,h.dj]
theorem ua.bn {D:Nat->Prop} {nu:Nat->Nat->Value} {o:List (Option aa)} {w:World} {id:Nat} {ob:aa} {g clock:Nat} {es:Array MapEntry} (h:ua D nu o w id ob g es clock):cr (nu id ob.hl)=some g:=by rw [h.hl,h.pq];rfl
theorem ua.FU {D:Nat->Prop} {nu:Nat->Nat->Value} {o:List (Option aa)} {w:World} {id:Nat} {ob:aa} {g clock:Nat} {es:Array MapEntry} (h:ua D nu o w id ob g es clock) {len:Nat} (hl:len<=ob.hl) {b:Nat}:cP (nu id len)≠some b:=by
 have:=h.hl
 obtain rfl:len=0:=by omega
 rw [h.pq];exact fun e=>by cases e
theorem ua.tr {D D':Nat->Prop} {nu nu':Nat->Nat->Value} {o o':List (Option aa)} {w w':World} {id id':Nat} {ob:aa} {g clock:Nat} {es:Array MapEntry} (h:ua D nu o w id ob g es clock) (hb:w'.heap[g]? = w.heap[g]?) (hd:D g->D' g) (hn:nu' id' 0=nu id 0)
  (hr: ∀(i j:Nat) row c x,ob.rows[i]? = some row->row[j]? = some c->RA D nu o w c x->RA D' nu' o' w' c x):ua D' nu' o' w' id' ob g es clock:=
 ⟨hb.trans h.cZ,hd h.j9,hn.trans h.pq,h.dj,h.z,h.sz,h.row,fun i row c e q1 q2 q3=>hr i 0 row c _ q1 q2 (h.key i row c e q1 q2 q3),fun i row c e q1 q2 q3=>hr i 1 row c _ q1 q2 (h.val i row c e q1 q2 q3),h.born,h.jT⟩
theorem ua.rows {D D':Nat->Prop} {nu nu':Nat->Nat->Value} {o o':List (Option aa)} {w w':World} {id id':Nat} {ob ob':aa} {g clock:Nat} {es:Array MapEntry} (h:ua D nu o w id ob g es clock) (hb:w'.heap[g]? = w.heap[g]?) (hd:D' g) (hn:nu' id' 0=nu id 0) (hV:ob'.dj=ob.dj) (hz:ob'.z=ob.z) (hl:ob'.rows.length=ob.rows.length)
  (hr: ∀(i:Nat) row',ob'.rows[i]? = some row'-> ∃row,ob.rows[i]? = some row∧row'.length=row.length∧ ∀(j:Nat) c',row'[j]? = some c'-> ∃c,row[j]? = some c∧ ∀x,RA D nu o w c x->RA D' nu' o' w' c' x):ua D' nu' o' w' id' ob' g es clock:=by
 refine ⟨hb.trans h.cZ,hd,hn.trans h.pq,hV.trans h.dj,hz.trans h.z,h.sz.trans hl.symm,fun i row hi=> ?_,fun i row c e q1 q2 q3=> ?_,fun i row c e q1 q2 q3=> ?_,h.born,h.jT⟩
 ·obtain ⟨row0,k1,k2,_⟩:=hr i row hi;rw [k2];exact h.row i row0 k1
 ·obtain ⟨row0,k1,_,k3⟩:=hr i row q1;obtain ⟨c0,k4,k5⟩:=k3 0 c q2;exact k5 _ (h.key i row0 c0 e k1 k4 q3)
 ·obtain ⟨row0,k1,_,k3⟩:=hr i row q1;obtain ⟨c0,k4,k5⟩:=k3 1 c q2;exact k5 _ (h.val i row0 c0 e k1 k4 q3)
theorem RO.aU {D:Nat->Prop} {nu:Nat->Nat->Value} {o:List (Option aa)} {w:World} (h:RO D nu o w) {b:Nat} (hb:owned nu o b):b<w.heap.size:=by
 obtain ⟨id,ob,h1,h2⟩:=hb
 rcases h.obj id ob h1 with ⟨e1,e2,e3⟩|⟨g,cur,hr⟩|⟨g,es,cl,hmp⟩
 ·simp only [aa.hl,e1,e2,if_true,S6,e3,cr,cP] at h2;cases h2
 ·rw [hr.bn] at h2;cases h2;exact (S5.1 hr.cZ).1
 ·rw [hmp.bn] at h2;cases h2;exact (S5.1 hmp.cZ).1
theorem RO.same {D:Nat->Prop} {nu:Nat->Nat->Value} {o:List (Option aa)} {w w':World} (h:RO D nu o w) (hm:bl nu o w nu o w') (hk: ∀b,owned nu o b->w'.heap[b]? = w.heap[b]?):RO D nu o w':=
 ⟨fun id ob ho=>by
  rcases h.obj id ob ho with h1|⟨g,cur,hr⟩|⟨g,es,cl,hmp⟩
  ·exact .inl h1
  ·exact .inr (.inl ⟨g,cur,(hk g ⟨id,ob,ho,hr.bn⟩).trans hr.cZ,hr.j9,hr.box,hr.vec,hr.z,hr.row,fun i j row c x h1 h2 h3=>(hr.cell i j row c x h1 h2 h3).mono hm (fun _ _ h=>h),hr.one⟩)
  ·exact .inr (.inr ⟨g,es,cl,hmp.tr (hk g ⟨id,ob,ho,hmp.bn⟩) (fun h=>h) rfl (fun i j row c x _ _ hr=>hr.mono hm (fun _ _ h=>h))⟩),fun b hb=>h.up b (S3 hm.size hb),h.sep,h.gl.mono hm (fun _ _ h=>h)⟩
theorem ak {nu:Nat->Nat->Value} {o:List (Option aa)} {w w':World} (hb:Below w.heap.size w w'):bl nu o w nu o w':=
 ⟨hb.os,hb.tape,hb.output,hb.size,fun _ _ h=>⟨h,rfl⟩,fun b hlt ho=>⟨hb.block b hlt,ho⟩⟩
theorem RO.below {D:Nat->Prop} {nu:Nat->Nat->Value} {o:List (Option aa)} {w w':World} (h:RO D nu o w) (hb:Below w.heap.size w w'):RO D nu o w':=
 h.same (ak hb) (fun b ho=>hb.block b (h.aU ho))
def AV.cells? :AV->Option (List AV)
 | .undef=>none
 | .ct _=>none
 | .agg cs=>some cs
 | .v x=>if x.oneCell' then some [.v x] else none
 | a=>some [a]
theorem cells_one {x:Value} (h:x.oneCell'=true):x.cells = #[x]:=by cases x<;>first|rfl|cases h
structure Ho (D:Nat->Prop) (nu:Nat->Nat->Value) (o:List (Option aa)) (w:World) (cs:List AV) (xs:Array Value):Prop extends gk D nu o w cs xs where
 one: ∀(i:Nat) x,xs[i]? = some x->x.oneCell'=true
theorem RA.one {D:Nat->Prop} {nu:Nat->Nat->Value} {o:List (Option aa)} {w:World} {a:AV} {x:Value} (h:RA D nu o w a x) {cs:List AV} (hc:a.cells? = some cs):Ho D nu o w cs x.cells:=by
 have key:x.oneCell'=true->cs=[a]->Ho D nu o w cs x.cells:=fun h1 h2=>by
  subst h2;rw [cells_one h1]
  refine ⟨⟨rfl,fun i c y hi hy=> ?_⟩,fun i y hy=> ?_⟩
  ·cases i with
   | zero=>simp at hi hy;subst hi;subst hy;exact h
   | succ i=>simp at hi
  ·cases i with
   | zero=>simp at hy;subst hy;exact h1
   | succ i=>simp at hy
 cases h with
 | undef=>cases hc
 | ct=>cases hc
 | v=>simp only [AV.cells?] at hc;split at hc<;>cases hc;exact key ‹_› rfl
 | agg cs' xs h1 h2 h3=>cases hc;exact ⟨⟨h1,h2⟩,h3⟩
 | bf=>cases hc;exact key rfl rfl
 | bA=>cases hc;exact key rfl rfl
 | aI=>cases hc;exact key rfl rfl
 | vp=>cases hc;exact key rfl rfl
 | ptr=>cases hc;exact key rfl rfl
 | vec id len h1 h2=>cases hc;exact key h2 rfl
 | fn=>cases hc;exact key rfl rfl
 | full b x h1 h2=>cases hc;exact key (by obtain ⟨ad,n,rfl⟩:=h1;rfl) rfl
 | fp p b x S h0=>cases hc;exact key h0 rfl
 | mp=>cases hc;exact key rfl rfl
def eO (nu:Nat->Nat->Value) (k:Nat) (v:Value):Nat->Nat->Value:=fun id len=>if id=k then v else nu id len
theorem gI {o:List (Option aa)} {id len:Nat} (h:cK o id len):id<o.length:=by
 obtain ⟨ob,h1,_⟩:=h;exact (S7.1 h1).1
theorem bP {nu:Nat->Nat->Value} {k id len:Nat} {v:Value} (h:id<k):eO nu k v id len=nu id len:=by
 have:id≠k:=by omega
 simp [eO,this]
theorem a6 (nu:Nat->Nat->Value) (k len:Nat) (v:Value):eO nu k v k len=v:=by simp [eO]
theorem eo {nu:Nat->Nat->Value} {o:List (Option aa)} {w w':World} {v:Value} {ob:aa} (hb:Below w.heap.size w w') (hv: ∀b,cr v=some b->w.heap.size<=b) :
  bl nu o w (eO nu o.length v) (o++[some ob]) w':=by
 refine ⟨hb.os,hb.tape,hb.output,hb.size,fun id len h=>⟨?_,bP (gI h)⟩,fun b hlt ho=>⟨hb.block b hlt, ?_⟩⟩
 ·obtain ⟨x,h1,h2⟩:=h;exact ⟨x,by rw [S8 (S7.1 h1).1];exact h1,h2⟩
 ·rintro ⟨id,ob',h1,h2⟩
  rcases S9 id o.length with hlt'|hge
  ·rw [S8 hlt'] at h1;rw [bP hlt'] at h2;exact ho ⟨id,ob',h1,h2⟩
  ·obtain rfl:id=o.length:=by
    have:=(S7.1 h1).1
    simp at this;omega
   rw [a6] at h2
   have:=hv b h2
   omega
theorem jz {D:Nat->Prop} {nu:Nat->Nat->Value} {o:List (Option aa)} {w w':World} {v:Value} {ob:aa} (h:RO D nu o w) (hb:Below w.heap.size w w') (hv: ∀b,cr v=some b->w.heap.size<=b)
  (hn:(ob.dj=true∧ob.rows=[]∧v = .slice none 0 0)∨(∃g cur,vH D (eO nu o.length v) (o++[some ob]) w' o.length ob g cur)∨ ∃g es cl,ua D (eO nu o.length v) (o++[some ob]) w' o.length ob g es cl):RO D (eO nu o.length v) (o++[some ob]) w':=by
 have hm:=eo (nu:=nu) (o:=o) (ob:=ob) hb hv
 refine ⟨?_,fun b hlt=>h.up b (S3 hb.size hlt), ?_,h.gl.mono hm (fun _ _ h=>h)⟩
 ·intro id ob' ho
  rcases S9 id o.length with hlt|hge
  ·rw [S8 hlt] at ho
   rcases h.obj id ob' ho with ⟨e1,e2,e3⟩|⟨g,cur,hr⟩|⟨g,es,cl,hmp⟩
   ·exact .inl ⟨e1,e2,by rw [bP hlt];exact e3⟩
   ·refine .inr (.inl ⟨g,cur,(hb.block g (h.aU ⟨id,ob',ho,hr.bn⟩)).trans hr.cZ,hr.j9,fun e=> ?_,fun e=> ?_,hr.z,hr.row,fun i j row c x h1 h2 h3=>(hr.cell i j row c x h1 h2 h3).mono hm (fun _ _ h=>h),hr.one⟩)
    ·rw [bP hlt];exact hr.box e
    ·rw [bP hlt];exact hr.vec e
   ·exact .inr (.inr ⟨g,es,cl,hmp.tr (hb.block g (h.aU ⟨id,ob',ho,hmp.bn⟩)) (fun h=>h) (bP hlt) (fun i j row c x _ _ hr=>hr.mono hm (fun _ _ h=>h))⟩)
  ·obtain rfl:id=o.length:=by
    have:=(S7.1 ho).1
    simp at this;omega
   rw [Ta] at ho;cases ho
   rcases hn with ⟨e1,e2,e3⟩|hn
   ·exact .inl ⟨e1,e2,by rw [a6];exact e3⟩
   ·exact .inr hn
 ·intro id id' ob1 ob2 b h1 h2 hne h3 h4;have l1:=(S7.1 h1).1;have l2:=(S7.1 h2).1;simp only [Tb,Tc,S6] at l1 l2
  rcases S9 id o.length with g1|g1
  ·rw [S8 g1] at h1;rw [bP g1] at h3
   rcases S9 id' o.length with g2|g2
   ·rw [S8 g2] at h2;rw [bP g2] at h4;exact h.sep id id' ob1 ob2 b h1 h2 hne h3 h4
   ·obtain rfl:id'=o.length:=by omega
    rw [a6] at h4
    have:=hv b h4
    have:=h.aU ⟨id,ob1,h1,h3⟩
    omega
  ·obtain rfl:id=o.length:=by omega
   rw [a6] at h3
   have:=hv b h3
   rcases S9 id' o.length with g2|g2
   ·rw [S8 g2] at h2;rw [bP g2] at h4
    have:=h.aU ⟨id',ob2,h2,h4⟩
    omega
   ·omega
def Good (D:Nat->Prop) (nu:Nat->Nat->Value) (o:List (Option aa)) (w:World) (res:Result Value) (r:AV) (o':List (Option aa)):Prop:=
 ∃v w' nu',res = .ok v w'∧bl nu o w nu' o' w'∧RO D nu' o' w'∧RA D nu' o' w' r v
theorem Good.pure {D:Nat->Prop} {nu:Nat->Nat->Value} {o:List (Option aa)} {w:World} {r:AV} {v:Value} (h:RO D nu o w) (hr:RA D nu o w r v) {res:Result Value} (he:res = .ok v w):Good D nu o w res r o:=
 ⟨v,w,nu,he, .refl nu o w,h,hr⟩
theorem Fc {D:Nat->Prop} {nu:Nat->Nat->Value} {o:List (Option aa)} {w:World} (h:RO D nu o w) (T:TypeId) {cs:List AV} {xs:Array Value} (hc:Ho D nu o w cs xs) (hz:0<cs.length) :
  Good D nu o w (.ok (.pointer (some ⟨w.heap.size,0,none⟩)) (w.alloc (.cells xs T))) (.ptr o.length 0 cs.length 0 0) (o++[some ⟨T,cs.length,false,[cs]⟩]):=by
 have hb:Below w.heap.size w (w.alloc (.cells xs T)):=(Below.refl _ _).alloc (SY _) _
 have hv: ∀b,cr (Value.pointer (some ⟨w.heap.size,0,none⟩))=some b->w.heap.size<=b:=fun b e=>by cases e;exact SY _
 have hm:=eo (nu:=nu) (o:=o) (ob:=⟨T,cs.length,false,[cs]⟩) hb hv
 refine ⟨_,_,eO nu o.length (.pointer (some ⟨w.heap.size,0,none⟩)),rfl,hm,jz h hb hv (.inr (.inl ⟨w.heap.size,xs, ?_⟩)), ?_⟩
 ·have key: ∀(i j:Nat) row c x,[cs][i]? = some row->row[j]? = some c->xs[i * cs.length+j]? = some x->cs[j]? = some c∧xs[j]? = some x:=by
   intro i j row c x h1 h2 h3
   cases i with
   | zero=>simp at h1 h3;subst h1;exact ⟨h2,h3⟩
   | succ i=>simp at h1
  refine ⟨heap_alloc_new w _,h.up _ (SY _),fun _=>⟨a6 _ _ _ _,rfl,hc.len.symm⟩,fun e=>(by cases e),hz,fun i row hi=> ?_,fun i j row c x h1 h2 h3=> ?_,fun i j row c x h1 h2 h3=> ?_⟩
  ·cases i with
   | zero=>simp at hi;subst hi;rfl
   | succ i=>simp at hi
  ·obtain ⟨h4,h5⟩:=key i j row c x h1 h2 h3;exact (hc.at' j c x h4 h5).mono hm (fun _ _ h=>h)
  ·obtain ⟨h4,h5⟩:=key i j row c x h1 h2 h3;exact hc.one j x h5
 ·have:=RA.ptr (D:=D) (nu:=eO nu o.length (.pointer (some ⟨w.heap.size,0,none⟩))) (o:=o++[some ⟨T,cs.length,false,[cs]⟩]) (w:=w.alloc (.cells xs T)) o.length 0 cs.length 0 0 w.heap.size
   ⟨_,Ta,fun x hx=>Te _⟩ (by rw [a6];rfl)
  simpa using this
section
def cp (P:Program) (T:TypeId):Option Bool:=(P.underlying T).map fun| .struct _=>true| .array _ _=>true|_=>false
def aY (P:Program) (T:TypeId):Option Nat:=(P.info? T).map (·.size)
theorem ew {P:Program} {T:TypeId} {b:Bool} (h:cp P T=some b) (w:World):(isAgg T).run P w = .ok b w:=by
 unfold cp at h
 cases hu:P.underlying T with
 | none=>simp [hu] at h
 | some d=>
  rw [hu] at h;unfold isAgg;rw [Sem.run_bind,run_underlying hu w];cases d<;>simp_all
theorem run_sizeOf {P:Program} {T:TypeId} {n:Nat} (h:aY P T=some n) (w:World):(sizeOf T).run P w = .ok n w:=by
 unfold aY at h
 cases hu:P.info? T with
 | none=>simp [hu] at h
 | some i=>
  rw [hu] at h;simp at h;subst h;simp [sizeOf,typeInfo,hu]
def kr (o:List (Option aa)):AV->Option (Prop×List AV)
 | .vp cs=>some (True,cs)
 | .ptr id len z row off=>match o[id]? with
  | some (some ob)=>some (ob.hl=len∧ob.z=z,(ob.rows.getD row []).drop off)
  | _=>none
 | _=>none
theorem getD_some {α:Type} {l:List α} {i:Nat} {d x:α} (h:l[i]? = some x):l.getD i d=x:=by simp [List.getD,h]
section
variable {D:Nat->Prop} {nu:Nat->Nat->Value} {o:List (Option aa)} {w:World}
theorem vH.oN {id:Nat} {ob:aa} {g:Nat} {cur:Array Value} (h:vH D nu o w id ob g cur) {i j:Nat} {row:List AV} (hi:ob.rows[i]? = some row) (hj:j<row.length):i * ob.z+j<cur.size:=by
 have hz:=h.row i row hi;have hi':=(S7.1 hi).1
 have key: ∀n,i<n->n * ob.z<=cur.size->i * ob.z+j<cur.size:=fun n h1 h2=>by
  have:(i+1) * ob.z<=n * ob.z:=Tf _ h1
  rw [Tg,Th] at this;omega
 cases hv:ob.dj
 ·obtain ⟨_,h2,h3⟩:=h.box hv;exact key 1 (by omega) (by omega)
 ·obtain ⟨cap,_,h2,_,h4⟩:=h.vec hv;exact key cap (by omega) (by omega)
theorem xk (h:RO D nu o w) {a:AV} {x:Value} (hr:RA D nu o w a x) {p:Prop} {cs:List AV} (hl:kr o a=some (p,cs)) (hp:p) :
  ∃(b off:Nat) (f:Nat->Value),x = .pointer (some ⟨b,off,none⟩)∧(∀(j:Nat) c,cs[j]? = some c->w.cell? ⟨b,off+j,none⟩=some (f j)∧RA D nu o w c (f j)∧(f j).oneCell'=true):=by
 cases a with
 | vp cs'=>
  simp only [kr,Ti,Tj] at hl;obtain ⟨_,rfl⟩:=hl
  cases hr with
  | vp _ b off f h1 h2 h3 h4=>exact ⟨b,off,f,rfl,fun j c hc=>⟨h2 j c hc,h3 j c hc,h4 j c hc⟩⟩
 | ptr id len z row off=>
  simp only [kr] at hl
  split at hl
  ·rename_i ob ho;simp only [Ti,Tj] at hl;obtain ⟨rfl,rfl⟩:=hl;obtain ⟨rfl,rfl⟩:=hp
   cases hr with
   | ptr _ _ _ _ _ b h1 h2=>
    rcases h.obj id ob ho with ⟨e1,e2,e3⟩|⟨g,cur,hb⟩|⟨g,es,cl,hmp⟩
    ·simp only [aa.hl,e1,e2,if_true,S6,e3,cr,cP] at h2;cases h2
    rotate_left 1
    ·exact absurd h2 (hmp.FU (SY _))
    ·rw [hb.mz] at h2;cases h2;refine ⟨b,_,fun j=>cur.getD (row * ob.z+off+j) Go.undef,rfl,fun j c hc=> ?_⟩
     cases hrow:ob.rows[row]? with
     | none=>simp [List.getD,hrow] at hc
     | some rw'=>
      rw [getD_some hrow,Tl] at hc;have hlt:=hb.oN hrow (S7.1 hc).1;have hx:cur[row * ob.z+(off+j)]? = some cur[row * ob.z+(off+j)]:=Tm hlt
      have e:cur.getD (row * ob.z+off+j) Go.undef=cur[row * ob.z+(off+j)]:=by
       rw [show row * ob.z+off+j=row * ob.z+(off+j) by omega];simp [Array.getD,hlt]
      simp only [e];refine ⟨?_,hb.cell row (off+j) rw' c _ hrow hc hx,hb.one row (off+j) rw' c _ hrow hc hx⟩
      have:=hb.cZ
      rw [show row * ob.z+off+j=row * ob.z+(off+j) by omega];simp [World.cell?,this,hx]
  ·cases hl
 | _=>cases hl
def vX (P:Program) (T:TypeId) (o:List (Option aa)) (a:AV):Option (Prop×AV):=
 match cp P T,aY P T,kr o a with
 | some true,some n,some (p,cs)=>some (p∧n<=cs.length, .agg (cs.take n))
 | some false,_,some (p,c :: _)=>some (p,c)
 | _,_,_=>none
theorem kT {P:Program} {T:TypeId} (h:RO D nu o w) {a:AV} {x:Value} (hr:RA D nu o w a x) {p:Prop} {r:AV} (hl:vX P T o a=some (p,r)) (hp:p) :
  ∃v,(Instr.loadAt T x).run P w = .ok v w∧RA D nu o w r v:=by
 unfold vX at hl
 split at hl
 ·rename_i n p' cs e1 e2 e3;simp only [Ti,Tj] at hl;obtain ⟨rfl,rfl⟩:=hl;obtain ⟨b,off,f,rfl,hf⟩:=xk h hr e3 hp.1
  have hcell: ∀j,j<n->w.cell? ((⟨b,off,none⟩:Addr).add j)=some (f j):=fun j hj=>by
   rw [Addr.add_lit];exact (hf j cs[j] (Tn (by omega))).1
  refine ⟨_,by simp only [Instr.loadAt,Instr.sureAddr,loadVar,Sem.run_bind,Sem.run_pure,Result.andThen_ok,ew e1,if_true,run_sizeOf e2,run_loadCells w _ n f hcell];rfl, ?_⟩
  refine .agg _ _ (by simp;omega) (fun i c x h1 h2=> ?_) (fun i x h2=> ?_)
  ·rw [To] at h1
   split at h1
   ·simp only [Tp,Tq] at h2;rw [Tr ‹_›] at h2;simp at h2;subst h2;exact (hf i c h1).2.1
   ·cases h1
  ·simp only [Tp,Tq] at h2
   rcases S9 i n with hlt|hge
   ·rw [Tr hlt] at h2;simp at h2;subst h2;exact (hf i cs[i] (Tn (by omega))).2.2
   ·rw [Tt (by simp;omega)] at h2;cases h2
 ·rename_i p' c rest e1 e3;simp only [Ti,Tj] at hl;obtain ⟨rfl,rfl⟩:=hl;obtain ⟨b,off,f,rfl,hf⟩:=xk h hr e3 hp;obtain ⟨h1,h2,_⟩:=hf 0 c rfl;refine ⟨f 0, ?_,h2⟩;simp only [Instr.loadAt,Instr.sureAddr,loadVar,Sem.run_bind,Sem.run_pure,Result.andThen_ok,ew e1,Bool.false_eq_true,if_false,run_load];simp only [Tu] at h1;rw [h1]
 ·cases hl
def yv (row:List AV) (off:Nat) (cs:List AV):List AV:=row.take off++cs++row.drop (off+cs.length)
theorem gO {w':World} {id:Nat} {ob ob':aa} (ho:o[id]? = some (some ob)) (hl:ob'.hl=ob.hl) {g:Nat} (hg:cr (nu id ob.hl)=some g)
  (h1:w'.os=w.os) (h2:w'.tape=w.tape) (h3:w'.output=w.output) (h4:w'.heap.size=w.heap.size) (h5: ∀b,b≠g->w'.heap[b]? = w.heap[b]?):bl nu o w nu (o.set id (some ob')) w':=by
 have hlt:=(S7.1 ho).1
 refine ⟨h1,h2,h3,by omega,fun id' len hh=>⟨?_,rfl⟩,fun b hb hno=>⟨h5 b (fun e=>hno ⟨id,ob,ho,by rw [e];exact hg⟩), ?_⟩⟩
 ·obtain ⟨x,k1,k2⟩:=hh
  by_cases he:id=id'
  ·subst he;rw [ho] at k1;cases k1;exact ⟨some ob',by simp [hlt],fun x hx=>by cases hx;rw [hl];exact k2 ob rfl⟩
  ·exact ⟨x,by rw [Tv he];exact k1,k2⟩
 ·rintro ⟨id',ob'',k1,k2⟩
  by_cases he:id=id'
  ·subst he;rw [Tw hlt] at k1;cases k1;rw [hl] at k2;exact hno ⟨id,ob,ho,k2⟩
  ·rw [Tv he] at k1;exact hno ⟨id',ob'',k1,k2⟩
theorem ox {w':World} {id:Nat} {ob ob':aa} (h:RO D nu o w) (ho:o[id]? = some (some ob)) (hl:ob'.hl=ob.hl) {g:Nat} (hg:cr (nu id ob.hl)=some g)
  (hm:bl nu o w nu (o.set id (some ob')) w') (h5: ∀b,b≠g->w'.heap[b]? = w.heap[b]?) {cur:Array Value} (hn:vH D nu (o.set id (some ob')) w' id ob' g cur):RO D nu (o.set id (some ob')) w':=by
 have hlt:=(S7.1 ho).1
 refine ⟨?_,fun b hb=>h.up b (S3 hm.size hb), ?_,h.gl.mono hm (fun _ _ h=>h)⟩
 ·intro id' ob'' k1
  by_cases he:id=id'
  ·subst he;rw [Tw hlt] at k1;cases k1;exact .inr (.inl ⟨g,cur,hn⟩)
  ·rw [Tv he] at k1
   rcases h.obj id' ob'' k1 with e|⟨g',cur',hr⟩|⟨g',es,cl,hmp⟩
   ·exact .inl e
   ·have hne:g'≠g:=fun e=>h.sep id id' ob ob'' g ho k1 he hg (by rw [<-e];exact hr.bn);exact .inr (.inl ⟨g',cur',(h5 g' hne).trans hr.cZ,hr.j9,hr.box,hr.vec,hr.z,hr.row,fun i j row c x q1 q2 q3=>(hr.cell i j row c x q1 q2 q3).mono hm (fun _ _ h=>h),hr.one⟩)
   ·have hne:g'≠g:=fun e=>h.sep id id' ob ob'' g ho k1 he hg (by rw [<-e];exact hmp.bn);exact .inr (.inr ⟨g',es,cl,hmp.tr (h5 g' hne) (fun h=>h) rfl (fun i j row c x _ _ hr=>hr.mono hm (fun _ _ h=>h))⟩)
 ·intro i1 i2 b1 b2 b k1 k2 hne k3
  have key: ∀(id':Nat) (ob'':aa),(o.set id (some ob'))[id']? = some (some ob'')-> ∃ob3:aa,o[id']? = some (some ob3)∧ob3.hl=ob''.hl:=fun id' ob'' q=>by
   by_cases he:id=id'
   ·subst he;rw [Tw hlt] at q;cases q;exact ⟨ob,ho,hl.symm⟩
   ·rw [Tv he] at q;exact ⟨ob'',q,rfl⟩
  obtain ⟨o1,m1,n1⟩:=key i1 b1 k1;obtain ⟨o2,m2,n2⟩:=key i2 b2 k2;rw [<-n2];rw [<-n1] at k3;exact h.sep i1 i2 o1 o2 b m1 m2 hne k3
theorem zu (P:Program) (h:RO D nu o w) {id row off:Nat} {ob:aa} (ho:o[id]? = some (some ob)) {rw':List AV} (hrow:ob.rows[row]? = some rw') {cs:List AV} {xs:Array Value} (hc:Ho D nu o w cs xs) (hfit:off+cs.length<=rw'.length)
  {b:Nat} (hb:cP (nu id ob.hl)=some b) :
  ∃w',(storeCells ⟨b,row * ob.z+off,none⟩ xs.toList).run P w = .ok () w'∧bl nu o w nu (o.set id (some { ob with rows:=ob.rows.set row (yv rw' off cs) })) w'∧RO D nu (o.set id (some { ob with rows:=ob.rows.set row (yv rw' off cs) })) w':=by
 rcases h.obj id ob ho with ⟨e1,e2,e3⟩|⟨g,cur,hr⟩|⟨g,es,cl,hmp⟩
 rotate_left 2
 ·exact absurd hb (hmp.FU (SY _))
 ·rw [e2] at hrow;simp at hrow
 ·have hbg:b=g:=by have:=hr.mz;rw [hb] at this;cases this;rfl
  subst hbg;have hz:=hr.row row rw' hrow;have hlenrow:=(S7.1 hrow).1
  have hend:row * ob.z+off+cs.length<=cur.size:=by
   rcases Nat.eq_zero_or_pos (off+cs.length) with h0|h0
   ·rcases Nat.eq_zero_or_pos rw'.length with h1|h1
    ·have:=hr.z;omega
    ·have:=hr.oN hrow (j:=0) (by omega);omega
   ·have:=hr.oN hrow (j:=off+cs.length - 1) (by omega);omega
  have hst:=run_storeCells_at P b (row * ob.z+off) ob.T xs.toList 0 cur w hr.cZ (by have:=hc.len;simp;omega) (fun v hv=>by
   obtain ⟨i,hi⟩:=Tx hv
   exact hc.one i v (by simpa using hi))
  have hh:ob.hl=({ ob with rows:=ob.rows.set row (yv rw' off cs) }:aa).hl:=by simp [aa.hl]
  have hne: ∀k,k≠b->(w.setRow b (cur.toList.take (row * ob.z+off+0)++xs.toList++cur.toList.drop (row * ob.z+off+0+xs.toList.length)).toArray).heap[k]? = w.heap[k]? :=fun k hk=>setRow_other w b k _ hk
  have hsz:(w.setRow b (cur.toList.take (row * ob.z+off+0)++xs.toList++cur.toList.drop (row * ob.z+off+0+xs.toList.length)).toArray).heap.size=w.heap.size:=by simp [World.setRow]
  have hm:=gO (nu:=nu) (o:=o) (w:=w) (w':=w.setRow b (cur.toList.take (row * ob.z+off+0)++xs.toList++cur.toList.drop (row * ob.z+off+0+xs.toList.length)).toArray) (ob':={ ob with rows:=ob.rows.set row (yv rw' off cs) }) ho hh.symm hr.bn rfl rfl rfl hsz hne;refine ⟨_,hst,hm,ox h ho hh.symm hr.bn hm hne (cur:=(cur.toList.take (row * ob.z+off+0)++xs.toList++cur.toList.drop (row * ob.z+off+0+xs.toList.length)).toArray) ?_⟩
  have hlx:xs.toList.length=cs.length:=by have:=hc.len;simp;omega
  have hspl:(yv rw' off cs).length=rw'.length:=by simp [yv];omega
  have hcs:(cur.toList.take (row * ob.z+off+0)++xs.toList++cur.toList.drop (row * ob.z+off+0+xs.toList.length)).toArray.size=cur.size:=by
   simp only [Ty,Tb,Tz,List.length_drop,TA] at *; omega
  have key: ∀(i j:Nat) r c x,(ob.rows.set row (yv rw' off cs))[i]? = some r->r[j]? = some c->(cur.toList.take (row * ob.z+off+0)++xs.toList++cur.toList.drop (row * ob.z+off+0+xs.toList.length)).toArray[i * ob.z+j]? = some x ->
    (∃r',ob.rows[i]? = some r'∧r'[j]? = some c∧cur[i * ob.z+j]? = some x)∨(∃k:Nat,cs[k]? = some c∧xs[k]? = some x):=by
   intro i j r c x k1 k2 k3;rw [Tp,TB] at k3;simp only [Tu,hlx] at k3
   have hlt1:(cur.toList.take (row * ob.z+off)).length=row * ob.z+off:=by simp only [Tz,TA];omega
   have outside:(i * ob.z+j<row * ob.z+off∨row * ob.z+off+cs.length<=i * ob.z+j)->cur[i * ob.z+j]? = some x:=by
    rintro (hlt|hge)
    ·rw [S8 (by omega),TC hlt] at k3;simpa using k3
    ·rw [TD (by omega),hlt1,TD (by omega),hlx,Tl] at k3;rw [show row * ob.z+off+cs.length+(i * ob.z+j - (row * ob.z+off) - cs.length)=i * ob.z+j by omega] at k3;simpa using k3
   by_cases hi:row=i
   ·subst hi;rw [Tw hlenrow] at k1;cases k1;simp only [yv,TB] at k2
    have hlt2:(rw'.take off).length=off:=by simp;omega
    rcases S9 j off with hj|hj
    ·rw [S8 (by omega),TC hj] at k2;exact .inl ⟨rw',hrow,k2,outside (.inl (by omega))⟩
    ·rw [TD (by omega),hlt2] at k2
     rcases S9 (j - off) cs.length with hj2|hj2
     ·rw [S8 hj2] at k2;rw [TD (by omega),hlt1,S8 (by omega)] at k3;rw [show row * ob.z+j - (row * ob.z+off)=j - off by omega] at k3;exact .inr ⟨j - off,k2,by simpa using k3⟩
     ·rw [TD hj2,Tl] at k2;rw [show off+cs.length+(j - off - cs.length)=j by omega] at k2;exact .inl ⟨rw',hrow,k2,outside (.inr (by omega))⟩
   ·rw [Tv hi] at k1;refine .inl ⟨r,k1,k2,outside ?_⟩;have hj:=(S7.1 k2).1;have hrz:=hr.row i r k1
    rcases Nat.lt_or_gt_of_ne hi with hlt|hgt
    ·right
     have:(row+1) * ob.z<=i * ob.z:=Tf _ hlt
     rw [Tg,Th] at this;omega
    ·left
     have:(i+1) * ob.z<=row * ob.z:=Tf _ hgt
     rw [Tg,Th] at this;omega
  refine ⟨setRow_heap w b cur _ ob.T (0,0) hr.cZ,hr.j9,fun hv=> ?_,fun hv=> ?_,hr.z,fun i r hi=> ?_,fun i j r c x k1 k2 k3=> ?_,fun i j r c x k1 k2 k3=> ?_⟩
  ·obtain ⟨q1,q2,q3⟩:=hr.box hv;exact ⟨q1,by simpa using q2,hcs.trans q3⟩
  ·obtain ⟨cap,q1,q2,q3,q4⟩:=hr.vec hv;exact ⟨cap,by simpa using q1,by simpa using q2,q3,hcs.trans q4⟩
  ·by_cases he:row=i
   ·subst he;rw [Tw hlenrow] at hi;cases hi;exact hspl.trans hz
   ·rw [Tv he] at hi;exact hr.row i r hi
  ·rcases key i j r c x k1 k2 k3 with ⟨r',q1,q2,q3⟩|⟨k,q1,q2⟩
   ·exact (hr.cell i j r' c x q1 q2 q3).mono hm (fun _ _ h=>h)
   ·exact (hc.at' k c x q1 q2).mono hm (fun _ _ h=>h)
  ·rcases key i j r c x k1 k2 k3 with ⟨r',q1,q2,q3⟩|⟨k,q1,q2⟩
   ·exact hr.one i j r' c x q1 q2 q3
   ·exact hc.one k x q2
def uk (P:Program) (T:TypeId) (o:List (Option aa)) (a x:AV):Option (Prop×List (Option aa)):=
 match a,aY P T,x.cells? with
 | .ptr id len z row off,some n,some cs=>match o[id]? with
  | some (some ob)=>some ((ob.hl=len∧ob.z=z∧row<ob.rows.length)∧cs.length=n∧off+cs.length<=(ob.rows.getD row []).length,o.set id (some { ob with rows:=ob.rows.set row (yv (ob.rows.getD row []) off cs) }))
  | _=>none
 | _,_,_=>none
theorem zt {P:Program} {T:TypeId} (h:RO D nu o w) {a b:AV} {x y:Value} (hr:RA D nu o w a x) (hs:RA D nu o w b y) {p:Prop} {o':List (Option aa)} (hl:uk P T o a b=some (p,o')) (hp:p) :
  ∃w',(Instr.storeAt T x y).run P w = .ok () w'∧bl nu o w nu o' w'∧RO D nu o' w':=by
 unfold uk at hl
 split at hl
 ·rename_i id len z row off n cs e1 e2
  split at hl
  ·rename_i ob ho;simp only [Ti,Tj] at hl;obtain ⟨rfl,rfl⟩:=hl;obtain ⟨⟨rfl,rfl,hlt⟩,rfl,hfit⟩:=hp;have hrow:ob.rows[row]? = some ob.rows[row]:=Tn hlt;rw [getD_some hrow] at hfit ⊢
   cases hr with
   | ptr _ _ _ _ _ bk h1 h2=>
    have hc:=hs.one e2;obtain ⟨w',k1,k2,k3⟩:=zu P h ho hrow hc hfit h2;refine ⟨w', ?_,k2,k3⟩;have hsz:y.cells.size=cs.length:=hc.len.symm;simp only [Instr.storeAt,Instr.sureAddr,storeVar,Sem.run_bind,Sem.run_pure,Result.andThen_ok,run_sizeOf e1,hsz,ne_eq,not_true_eq_false,if_false,k1]
  ·cases hl
 ·cases hl
end
end
section
section
variable {D:Nat->Prop} {nu:Nat->Nat->Value} {o:List (Option aa)} {w:World}
def gR (P:Program) (T:TypeId):Option (TypeId×Nat×Nat):=
 match P.underlying T with
 | some (.slice e)=>match P.info? e with
  | some i=>match i.zero with
   | some zv=>if zv.cells.size=i.size∧0<i.size then some (e,i.size,i.bytes) else none
   | none=>none
  | none=>none
 | _=>none
theorem eH {P:Program} {T e:TypeId} {z n:Nat} (h:gR P T=some (e,z,n)):P.underlying T=some (.slice e)∧ ∃i zv,P.info? e=some i∧i.zero=some zv∧zv.cells.size=z∧0<z∧i.size=z∧i.bytes=n:=by
 unfold gR at h
 split at h
 ·rename_i e' hu
  split at h
  ·rename_i i hi
   split at h
   ·rename_i zv hz
    split at h
    ·rename_i hc;cases h;exact ⟨hu,i,zv,hi,hz,hc.1,hc.2,rfl,rfl⟩
    ·cases h
   ·cases h
  ·cases h
 ·cases h
def lP (o:List (Option aa)) (z:Nat):AV->Option (Prop×List (List AV))
 | .aI z' rows len=>some (z'=z,rows.take len)
 | .vec id len=>match o[id]? with
  | some (some ob)=>some (ob.dj=true∧ob.z=z∧ob.rows.length=len,ob.rows)
  | _=>none
 | .v (.slice none 0 0)=>some (True,[])
 | _=>none
structure tW (D:Nat->Prop) (nu:Nat->Nat->Value) (o:List (Option aa)) (w:World) (z:Nat) (rows:List (List AV)) (news:List Value):Prop where
 len:news.length=rows.length * z
 one: ∀u∈news,u.oneCell'=true
 row: ∀(i:Nat) row,rows[i]? = some row->row.length=z
 cell: ∀(i j:Nat) row c,rows[i]? = some row->row[j]? = some c-> ∃x,news[i * z+j]? = some x∧RA D nu o w c x
theorem kj {i j z n:Nat} (hi:i<n) (hj:j<z):i * z+j<n * z:=by
 have:(i+1) * z<=n * z:=Tf _ hi
 rw [Tg,Th] at this;omega
theorem A7 {i j z:Nat} (hj:j<z):(i * z+j) / z=i:=by
 rw [TE,Nat.mul_add_div (by omega),Nat.div_eq_of_lt hj,Tu]
theorem pH {i j z:Nat} (hj:j<z):(i * z+j) % z=j:=by
 rw [TE,Nat.mul_add_mod,Nat.mod_eq_of_lt hj]
theorem qN (z:Nat):tW D nu o w z [] []:=⟨by simp,by simp,by simp,by simp⟩
theorem vH.K1 {id:Nat} {ob:aa} {g:Nat} {cur:Array Value} (h:vH D nu o w id ob g cur):tW D nu o w ob.z ob.rows (cur.toList.take (ob.rows.length * ob.z)):=by
 have hsz:ob.rows.length * ob.z<=cur.size:=by
  cases hv:ob.dj
  ·obtain ⟨_,h2,h3⟩:=h.box hv;rw [h2,h3];omega
  ·obtain ⟨cap,_,h2,_,h4⟩:=h.vec hv;rw [h4];exact Tf _ h2
 have hz:=h.z
 refine ⟨by simp;omega,fun u hu=> ?_,h.row,fun i j row c h1 h2=> ?_⟩
 ·obtain ⟨k,hk⟩:=Tx hu;rw [To] at hk
  split at hk
  ·rename_i hlt;have hi:k / ob.z<ob.rows.length:=TF (by rw [TE];exact hlt);have hr:ob.rows[k / ob.z]? = some ob.rows[k / ob.z]:=Tn hi
   have hj:k % ob.z<ob.rows[k / ob.z].length:=by rw [h.row _ _ hr];exact Nat.mod_lt _ hz
   refine h.one (k / ob.z) (k % ob.z) _ _ u hr (Tn hj) ?_;rw [TE,Nat.div_add_mod];simpa using hk
  ·cases hk
 ·have hi:=(S7.1 h1).1;have hj:=(S7.1 h2).1;have hlt:=h.oN h1 hj;rw [h.row i row h1] at hj;refine ⟨cur[i * ob.z+j], ?_,h.cell i j row c _ h1 h2 (Tm hlt)⟩;rw [TC (kj hi hj)];simp [hlt]
theorem gP (h:RO D nu o w) {z:Nat} (hz:0<z) {a:AV} {x:Value} (hr:RA D nu o w a x) {p:Prop} {rows:List (List AV)} (hs:lP o z a=some (p,rows)) (hp:p) :
  (x = .slice none 0 0∧rows=[])∨ ∃(g:Addr) (c:Nat) (news:List Value),x = .slice (some g) rows.length c∧tW D nu o w z rows news∧(∀(j:Nat) u,news[j]? = some u->w.cell? (g.add j)=some u):=by
 cases a with
 | aI z' rows' len=>
  simp only [lP,Ti,Tj] at hs;obtain ⟨rfl,rfl⟩:=hs;subst hp
  cases hr with
  | bf=>exact .inl ⟨rfl,rfl⟩
  | bA _ a=>exact .inr ⟨a,0,[],rfl,qN _,fun j u hj=>by simp at hj⟩
  | aI _ _ _ b off cap f h1 h2 h3 h4 h5 h6 h7 h8=>
   have hl:(rows'.take len).length=len:=by simp;omega
   refine .inr ⟨⟨b,off,none⟩,cap,(List.range (len * z')).map (fun k=>f (k / z') (k % z')),by rw [hl],⟨by simp [hl], ?_,fun i row hi=> ?_,fun i j row c hi hj=> ?_⟩, ?_⟩
   ·intro u hu;obtain ⟨k,hk,rfl⟩:=List.mem_map.1 hu;simp only [List.mem_range] at hk;have hi:k / z'<rows'.length:=S4 (TF (by rw [TE];exact hk)) h1;have hr':rows'[k / z']? = some rows'[k / z']:=Tn hi
    have hj:k % z'<rows'[k / z'].length:=by rw [h5 _ _ hr'];exact Nat.mod_lt _ hz
    exact h8 _ _ _ _ hr' (Tn hj)
   ·rw [To] at hi;split at hi
    ·exact h5 i row hi
    ·cases hi
   ·rw [To] at hi
    split at hi
    ·rename_i hlt;have hjl:=(S7.1 hj).1;rw [h5 i row hi] at hjl;refine ⟨f i j, ?_,h7 i j row c hi hj⟩;rw [Tq,Tr (kj hlt hjl)];simp only [TG,A7 hjl,pH hjl]
    ·cases hi
   ·intro k u hk;rw [Tq] at hk
    rcases S9 k (len * z') with hlt|hge
    ·rw [Tr hlt] at hk;simp only [TG,Ti] at hk;subst hk;have hi:k / z'<rows'.length:=S4 (TF (by rw [TE];exact hlt)) h1;have hr':rows'[k / z']? = some rows'[k / z']:=Tn hi
     have hj:k % z'<rows'[k / z'].length:=by rw [h5 _ _ hr'];exact Nat.mod_lt _ hz
     have:=h6 _ _ _ _ hr' (Tn hj)
     rw [<-this,Addr.add_lit]
     congr 2
     have:=Nat.div_add_mod k z'
     rw [TE] at this;omega
    ·rw [Tt (by simpa using hge)] at hk;cases hk
 | vec id len=>
  simp only [lP] at hs
  split at hs
  ·rename_i ob ho;simp only [Ti,Tj] at hs;obtain ⟨rfl,rfl⟩:=hs;obtain ⟨hv,rfl,rfl⟩:=hp;cases hr
   rcases h.obj id ob ho with ⟨e1,e2,e3⟩|⟨g,cur,hb⟩|⟨g,es,cl,hmp⟩
   rotate_left 2
   ·rw [hmp.dj] at hv;cases hv
   ·exact .inl ⟨by rw [e2];exact e3,e2⟩
   ·obtain ⟨cap,q1,q2,q3,q4⟩:=hb.vec hv;refine .inr ⟨⟨g,0,none⟩,cap,_,q1,hb.K1,fun j u hj=> ?_⟩;rw [To] at hj
    split at hj
    ·have:=hb.cZ
     rw [Addr.add_lit,Nat.zero_add];simp [World.cell?,this];simpa using hj
    ·cases hj
  ·cases hs
 | v x'=>
  cases hr;simp only [lP] at hs
  split at hs
  case h_1 e=>cases e
  case h_2 e=>cases e
  case h_3 e=>cases e;cases hs;exact .inl ⟨rfl,rfl⟩
  case h_4=>cases hs
 | _=>cases hs
def vy (nu:Nat->Nat->Value) (k L:Nat) (v:Value):Nat->Nat->Value:=fun id len=>if id=k∧len=L then v else nu id len
theorem iW (nu:Nat->Nat->Value) (k L:Nat) (v:Value):vy nu k L v k L=v:=by simp [vy]
theorem dM {nu:Nat->Nat->Value} {k L id len:Nat} {v:Value} (h:id≠k∨len≠L):vy nu k L v id len=nu id len:=by
 have: ¬(id=k∧len=L):=by omega
 simp only [vy,if_neg this]
theorem RO.pJ (h:RO D nu o w) {id:Nat} {ob:aa} (ho:o[id]? = some (some ob)) (hv:ob.dj=true) :
  ∃xs,w.ownsRow 0 ob.T ob.z (nu id ob.rows.length) ob.rows.length xs∧tW D nu o w ob.z ob.rows xs∧(nu id ob.rows.length).ownBlock=cr (nu id ob.hl):=by
 have hhl:ob.hl=ob.rows.length:=by simp [aa.hl,hv]
 rw [hhl]
 rcases h.obj id ob ho with ⟨e1,e2,e3⟩|⟨g,cur,hb⟩|⟨g,es,cl,hmp⟩
 rotate_left 2
 ·rw [hmp.dj] at hv;cases hv
 ·refine ⟨[], ?_,by rw [e2];exact qN _, ?_⟩
  ·rw [e2];exact ⟨by simp, .inl ⟨e3,rfl⟩⟩
  ·rw [e2];simp only [S6];rw [e3];rfl
 ·obtain ⟨cap,q1,q2,q3,q4⟩:=hb.vec hv;refine ⟨_,⟨hb.K1.len, .inr ⟨g,cap,cur,q1,Te _,hb.cZ,q2,q3,q4,rfl⟩⟩,hb.K1, ?_⟩;rw [q1];rfl
theorem CA {w':World} (h:RO D nu o w) {id:Nat} {ob:aa} (ho:o[id]? = some (some ob)) (hv:ob.dj=true) (hz:0<ob.z) {rows2:List (List AV)} (hne:rows2≠[]) {xs news:List Value} (hL:tW D nu o w ob.z ob.rows xs) (hN:tW D nu o w ob.z rows2 news)
  {v':Value} (hown:w'.ownsRow 0 ob.T ob.z v' (ob.rows.length+rows2.length) (xs++news)) (hg:w.grownBy w' (nu id ob.rows.length).ownBlock) (hvb:v'.ownBlock=(nu id ob.rows.length).ownBlock∨v'.ownBlock=some w.heap.size) :
  bl nu o w (vy nu id (ob.rows.length+rows2.length) v') (o.set id (some { ob with rows:=ob.rows++rows2 })) w'∧RO D (vy nu id (ob.rows.length+rows2.length) v') (o.set id (some { ob with rows:=ob.rows++rows2 })) w' ∧
   RA D (vy nu id (ob.rows.length+rows2.length) v') (o.set id (some { ob with rows:=ob.rows++rows2 })) w' (.vec id (ob.rows.length+rows2.length)) v':=by
 have hlt:=(S7.1 ho).1;have hm0:0<rows2.length:=List.length_pos_iff.2 hne
 have hhl:ob.hl=ob.rows.length:=by simp [aa.hl,hv]
 have hhl':({ ob with rows:=ob.rows++rows2 }:aa).hl=ob.rows.length+rows2.length:=by simp [aa.hl,hv]
 obtain ⟨_,hrest⟩:=hown
 rcases hrest with ⟨_,h0⟩|⟨g,cap,cur,rfl,_,hblk,hcap,hcm,hsz,htake⟩
 ·omega
 obtain ⟨xs0,hxs0,_,hob⟩:=h.pJ ho hv;have hold: ∀b,cr (nu id ob.hl)=some b->b<w.heap.size:=fun b hb=>h.aU ⟨id,ob,ho,hb⟩
 have hvb':some g=cr (nu id ob.hl)∨some g=some w.heap.size:=by
  rw [<-hob];simpa [Value.ownBlock] using hvb
 rw [hob] at hg
 have hm:bl nu o w (vy nu id (ob.rows.length+rows2.length) (.slice (some ⟨g,0,none⟩) (ob.rows.length+rows2.length) cap)) (o.set id (some { ob with rows:=ob.rows++rows2 })) w':=by
  refine ⟨hg.os,hg.tape,hg.output,hg.size,fun id' len hh=> ?_,fun b hb hno=>⟨hg.block b hb (fun e=>hno ⟨id,ob,ho,e.symm⟩), ?_⟩⟩
  ·obtain ⟨x,k1,k2⟩:=hh
   by_cases he:id=id'
   ·subst he;rw [ho] at k1;cases k1
    have:=k2 ob rfl
    exact ⟨⟨_,by rw [Tw hlt],fun x hx=>by cases hx;rw [hhl'];omega⟩,dM (by omega)⟩
   ·exact ⟨⟨x,by rw [Tv he];exact k1,k2⟩,dM (.inl (TH he))⟩
  ·rintro ⟨id',ob'',k1,k2⟩
   by_cases he:id=id'
   ·subst he;rw [Tw hlt] at k1;cases k1;rw [hhl',iW] at k2;simp only [cr,cP,Ti] at k2;subst k2
    rcases hvb' with e|e
    ·exact hno ⟨id,ob,ho,e.symm⟩
    ·cases e;omega
   ·rw [Tv he] at k1;rw [dM (.inl (TH he))] at k2;exact hno ⟨id',ob'',k1,k2⟩
 have hcl:cur.toList.take ((ob.rows.length+rows2.length) * ob.z)=xs++news:=htake
 refine ⟨hm,⟨fun id' ob'' k1=> ?_,fun b hb=>h.up b (S3 hg.size hb),fun i1 i2 b1 b2 b k1 k2 hne' k3 k4=> ?_,h.gl.mono hm (fun _ _ h=>h)⟩, ?_⟩
 ·by_cases he:id=id'
  ·subst he;rw [Tw hlt] at k1;cases k1
   have key: ∀(i j:Nat) row c x,(ob.rows++rows2)[i]? = some row->row[j]? = some c->cur[i * ob.z+j]? = some x->RA D nu o w c x∧x.oneCell'=true:=by
    intro i j row c x q1 q2 q3;have hj:=(S7.1 q2).1;have hi:=(S7.1 q1).1;simp only [Tb] at hi
    have hjz:j<ob.z:=by
     rcases S9 i ob.rows.length with q|q
     ·rw [S8 q] at q1;rw [<-hL.row i row q1];exact hj
     ·rw [TD q] at q1;rw [<-hN.row _ row q1];exact hj
    have q4:(xs++news)[i * ob.z+j]? = some x:=by
     rw [<-hcl,TC (kj hi hjz)];simpa using q3
    rcases S9 i ob.rows.length with q|q
    ·rw [S8 q] at q1;obtain ⟨y,y1,y2⟩:=hL.cell i j row c q1 q2
     have hll:i * ob.z+j<xs.length:=by rw [hL.len];exact kj q hjz
     rw [S8 hll] at q4;rw [q4] at y1;cases y1;exact ⟨y2,hL.one _ (TI q4)⟩
    ·rw [TD q] at q1;obtain ⟨y,y1,y2⟩:=hN.cell (i - ob.rows.length) j row c q1 q2
     have hge:xs.length<=i * ob.z+j:=by
      rw [hL.len];have:=Tf ob.z q;omega
     rw [TD hge,hL.len] at q4
     rw [show i * ob.z+j - ob.rows.length * ob.z=(i - ob.rows.length) * ob.z+j by
      rw [Nat.sub_mul];have:=Tf ob.z q;omega] at q4
     rw [q4] at y1;cases y1;exact ⟨y2,hN.one _ (TI q4)⟩
   refine .inr (.inl ⟨g,cur,hblk, ?_,fun e=>(by rw [hv] at e;cases e),fun _=>⟨cap,by simp only [Tb];rw [iW],by simpa using hcap,hcm,hsz⟩,hz,fun i row hi=> ?_,fun i j row c x q1 q2 q3=>(key i j row c x q1 q2 q3).1.mono hm (fun _ _ h=>h),fun i j row c x q1 q2 q3=>(key i j row c x q1 q2 q3).2⟩)
   ·rcases hvb' with e|e
    ·rcases h.obj id ob ho with ⟨e1,e2,e3⟩|⟨g0,cur0,hb⟩|⟨g0,es,cl,hmp⟩
     ·rw [hhl,e2] at e;simp only [S6] at e;rw [e3] at e;cases e
     ·rw [hb.bn] at e;cases e;exact hb.j9
     ·rw [hmp.dj] at hv;cases hv
    ·cases e;exact h.up _ (SY _)
   ·rcases S9 i ob.rows.length with q|q
    ·rw [S8 q] at hi;exact hL.row i row hi
    ·rw [TD q] at hi;exact hN.row _ row hi
  ·rw [Tv he] at k1
   rcases h.obj id' ob'' k1 with ⟨e1,e2,e3⟩|⟨g',cur',hr⟩|⟨g',es,cl,hmp⟩
   ·exact .inl ⟨e1,e2,by rw [dM (.inl (TH he))];exact e3⟩
   ·refine .inr (.inl ⟨g',cur',(hg.block g' (h.aU ⟨id',ob'',k1,hr.bn⟩) (fun e=>h.sep id id' ob ob'' g' ho k1 he e.symm hr.bn)).trans hr.cZ,hr.j9,fun e=> ?_,fun e=> ?_,hr.z,hr.row,fun i j row c x q1 q2 q3=>(hr.cell i j row c x q1 q2 q3).mono hm (fun _ _ h=>h),hr.one⟩)
    ·rw [dM (.inl (TH he))];exact hr.box e
    ·rw [dM (.inl (TH he))];exact hr.vec e
   ·exact .inr (.inr ⟨g',es,cl,hmp.tr (hg.block g' (h.aU ⟨id',ob'',k1,hmp.bn⟩) (fun e=>h.sep id id' ob ob'' g' ho k1 he e.symm hmp.bn)) (fun h=>h) (dM (.inl (TH he))) (fun i j row c x _ _ hr=>hr.mono hm (fun _ _ h=>h))⟩)
 ·have new: ∀id' ob'',id≠id'->o[id']? = some (some ob'')->cr (nu id' ob''.hl)≠some g:=fun id' ob'' hne2 q1 q2=>by
   rcases hvb' with e|e
   ·exact h.sep id id' ob ob'' g ho q1 hne2 e.symm q2
   ·cases e
    have:=h.aU ⟨id',ob'',q1,q2⟩
    omega
  by_cases h1:id=i1
  ·subst h1;rw [Tw hlt] at k1;cases k1;rw [hhl',iW] at k3;cases k3;rw [Tv hne'] at k2;rw [dM (.inl (TH hne'))] at k4;exact new i2 b2 hne' k2 k4
  ·rw [Tv h1] at k1;rw [dM (.inl (TH h1))] at k3
   by_cases h2:id=i2
   ·subst h2;rw [Tw hlt] at k2;cases k2;rw [hhl',iW] at k4;cases k4;exact new i1 b1 h1 k1 k3
   ·rw [Tv h2] at k2;rw [dM (.inl (TH h2))] at k4;exact h.sep i1 i2 b1 b2 b k1 k2 hne' k3 k4
 ·have:=RA.vec (D:=D) (nu:=vy nu id (ob.rows.length+rows2.length) (.slice (some ⟨g,0,none⟩) (ob.rows.length+rows2.length) cap)) (o:=o.set id (some { ob with rows:=ob.rows++rows2 })) (w:=w') id (ob.rows.length+rows2.length)
   ⟨_,Tw hlt,fun x hx=>by cases hx;rw [hhl'];exact SY _⟩ (by rw [iW];rfl)
  rw [iW] at this;exact this
end
end
section
section
variable {D:Nat->Prop} {nu:Nat->Nat->Value} {o:List (Option aa)} {w:World}
structure rS (D:Nat->Prop) (nu:Nat->Nat->Value) (o:List (Option aa)) (w:World) (z:Nat) (rows:List (List AV)) (cur:Array Value):Prop where
 row: ∀(i:Nat) row,rows[i]? = some row->row.length=z
 cell: ∀(i j:Nat) row c,rows[i]? = some row->row[j]? = some c-> ∃x,cur[i * z+j]? = some x∧RA D nu o w c x∧x.oneCell'=true
theorem kg (h:RO D nu o w) (e:TypeId) {z:Nat} (hz:0<z) {rows:List (List AV)} {cur:Array Value} {cap:Nat} (hg:rS D nu o w z rows cur) (h1:rows.length<=cap) (h2:cap<=maxLen) (h3:cur.size=cap * z) :
  Good D nu o w (.ok (.slice (some ⟨w.heap.size,0,none⟩) rows.length cap) (w.alloc (.cells cur e))) (.vec o.length rows.length) (o++[some ⟨e,z,true,rows⟩]):=by
 have hb:Below w.heap.size w (w.alloc (.cells cur e)):=(Below.refl _ _).alloc (SY _) _
 have hv: ∀b,cr (Value.slice (some ⟨w.heap.size,0,none⟩) rows.length cap)=some b->w.heap.size<=b:=fun b e=>by cases e;exact SY _
 have hm:=eo (nu:=nu) (o:=o) (ob:=⟨e,z,true,rows⟩) hb hv
 refine ⟨_,_,eO nu o.length (.slice (some ⟨w.heap.size,0,none⟩) rows.length cap),rfl,hm,jz h hb hv (.inr (.inl ⟨w.heap.size,cur,heap_alloc_new w _,h.up _ (SY _),fun e'=>(by cases e'),fun _=>⟨cap,a6 _ _ _ _,h1,h2,h3⟩,hz,hg.row,fun i j row c x q1 q2 q3=> ?_,fun i j row c x q1 q2 q3=> ?_⟩)), ?_⟩
 ·obtain ⟨y,y1,y2,_⟩:=hg.cell i j row c q1 q2;rw [y1] at q3;cases q3;exact y2.mono hm (fun _ _ h=>h)
 ·obtain ⟨y,y1,_,y3⟩:=hg.cell i j row c q1 q2;rw [y1] at q3;cases q3;exact y3
 ·have:=RA.vec (D:=D) (nu:=eO nu o.length (.slice (some ⟨w.heap.size,0,none⟩) rows.length cap)) (o:=o++[some ⟨e,z,true,rows⟩]) (w:=w.alloc (.cells cur e)) o.length rows.length
   ⟨_,Ta,fun x hx=>by cases hx;exact SY _⟩ (by rw [a6];rfl)
  rw [a6] at this;exact this
theorem RA.JE {z len:Nat} {rows:List (List AV)} {x:Value} (hr:RA D nu o w (.aI z rows len) x):len<=rows.length:=by
 cases hr with
 | bf=>exact Te _
 | bA=>exact Te _
 | aI=>assumption
theorem xO {P:Program} {T:TypeId} (ty:TypeId) {e:TypeId} {z bytes:Nat} (ht:gR P T=some (e,z,bytes)) (h:RO D nu o w) {rows:List (List AV)} {len:Nat} {b:AV} {x y:Value} (hr:RA D nu o w (.full (.aI z rows len)) x) (hs:RA D nu o w b y) {p:Prop} {rows2:List (List AV)} (e2:lP o z b=some (p,rows2)) (hp:p)
  (hne:rows2≠[]) (hby:(len+rows2.length) * bytes<=70368744177664) (h63:len+rows2.length<=70368744177664) :
  ∃cap cur,(Builtin.append_ #[T,T] ty #[x,y]).run P w = .ok (.slice (some ⟨w.heap.size,0,none⟩) (len+rows2.length) cap) (w.drew.alloc (.cells cur e))∧rS D nu o w z (rows.take len++rows2) cur∧(rows.take len++rows2).length=len+rows2.length∧len+rows2.length<=cap∧cap<=maxLen∧cur.size=cap * z:=by
 obtain ⟨hu,i,zv,hi,hzv,hzs,hz0,hsize,hbytes⟩:=eH ht
 cases hr with
 | full _ _ hfull hr=>
 obtain ⟨ad,n,rfl⟩:=hfull;have hlen:=hr.JE
 have hL:(rows.take len).length=len:=by rw [Tz];omega
 have hpos:0<rows2.length:=List.length_pos_iff.2 hne
 obtain ⟨g2,c2,news,rfl,hN,hcell2⟩: ∃g c news,y = .slice (some g) rows2.length c∧tW D nu o w z rows2 news∧(∀(j:Nat) u,news[j]? = some u->w.cell? (g.add j)=some u):=by
  rcases gP h hz0 hs e2 hp with ⟨_,e0⟩|hh
  ·exact absurd e0 hne
  ·exact hh
 have hsz:i.size=z:=hsize
 have hgrid: ∀(olds:List Value) (cap:Nat),tW D nu o w z (rows.take len) olds->rS D nu o w z (rows.take len++rows2) (olds.toArray++news.toArray++Builtin.zeroCells zv.cells (cap - (len+rows2.length))):=by
  intro olds cap hO
  have hol:olds.length=len * z:=by rw [hO.len,hL]
  refine ⟨fun k row hk=> ?_,fun k j row c hk hj=> ?_⟩
  ·rcases S9 k (rows.take len).length with q|q
   ·rw [S8 q] at hk;exact hO.row k row hk
   ·rw [TD q] at hk;exact hN.row _ row hk
  ·rcases S9 k (rows.take len).length with q|q
   ·rw [S8 q] at hk;obtain ⟨u,u1,u2⟩:=hO.cell k j row c hk hj;have hlt:=(S7.1 u1).1;refine ⟨u, ?_,u2,hO.one u (TI u1)⟩;rw [Array.append_assoc,TJ (by simpa using hlt)];simpa using u1
   ·rw [TD q] at hk;obtain ⟨u,u1,u2⟩:=hN.cell _ j row c hk hj;have hlt:=(S7.1 u1).1;refine ⟨u, ?_,u2,hN.one u (TI u1)⟩
    have hk2:k * z+j=len * z+((k - (rows.take len).length) * z+j):=by
     rw [hL] at q ⊢
     have:k * z=len * z+(k - len) * z:=by rw [<-Tg];congr 1;omega
     omega
    rw [Array.append_assoc,Array.getElem?_append_right (by simp [hol];omega),TJ (by simp [hol];omega)];simp only [Ty,hol,hk2,Nat.add_sub_cancel_left];simpa using u1
 have hcs: ∀(olds:List Value) (cap:Nat),olds.length=len * z->len+rows2.length<=cap->(olds.toArray++news.toArray++Builtin.zeroCells zv.cells (cap - (len+rows2.length))).size=cap * z:=by
  intro olds cap h1 h2;simp only [Array.size_append,Ty,size_zeroCells,hzs,h1,hN.len, <- Tg]
  congr 1;omega
 have hml:len+rows2.length<=maxLen:=by unfold maxLen;omega
 have hfit: ∀jP,jP<len+rows2.length->Builtin.nextslicecap (len+rows2.length) jP * i.bytes<=281474976710656:=fun jP ho=>by
  have h1:Builtin.nextslicecap (len+rows2.length) jP * i.bytes<=2 * (len+rows2.length) * i.bytes:=Tf _ (nextslicecap_le ho);rw [Nat.mul_assoc,hbytes] at h1;rw [hbytes];omega
 have hlr:(rows.take len++rows2).length=len+rows2.length:=by rw [Tb,hL]
 rcases gP (p:=z=z) (rows:=rows.take len) h hz0 hr rfl rfl with ⟨e0,e1⟩|⟨g,c,olds,e0,hO,hcell⟩
 ·rw [e0]
  have hl0:len=0:=by rw [<-hL,e1];rfl
  subst hl0;simp only [Nat.zero_add] at hby h63 hfit hgrid hcs hml hlr ⊢
  refine ⟨_,_,run_append_nil (P:=P) w T ty e i zv hu hi hzv g2 rows2.length c2 news (by rw [hsz];exact hN.len) hcell2 hpos (by unfold maxLen at hml;omega) (by rw [hbytes];omega), ?_,hlr,grownCap_ge w _ 0 e,grownCap_le_maxLen w _ 0 e hml, ?_⟩
  ·have:=hgrid [] (grownCap w rows2.length 0 e) ⟨by simp,fun u hu=>by simp at hu,fun k row hk=>by simp at hk,fun k j row c hk=>by simp at hk⟩
   simpa using this
  ·have:=hcs [] (grownCap w rows2.length 0 e) (by simp) (grownCap_ge w _ 0 e)
   simpa using this
 ·simp only [Value.slice.injEq] at e0;obtain ⟨rfl,e3,e4⟩:=e0;rw [hL] at e3;subst e3;refine ⟨_,_,run_append_grow (P:=P) w T ty e i zv hu hi hzv g n n olds (by rw [hO.len,hL,hsz]) hcell g2 rows2.length c2 news (by rw [hsz];exact hN.len) hcell2 (by omega) (by unfold maxLen at hml;omega) (hfit n (by omega)),hgrid olds _ hO,hlr,grownCap_ge w _ n e,grownCap_le_maxLen w _ n e hml,hcs olds _ (by rw [hO.len,hL]) (grownCap_ge w _ n e)⟩
def py (P:Program) (T:TypeId) (o:List (Option aa)) (a b:AV):Option (Prop×AV×List (Option aa)):=
 match gR P T,a with
 | some (e,z,bytes), .vec id len=>match o[id]?,lP o z b with
  | some (some ob),some (p,rows2)=>some ((ob.dj=true∧ob.z=z∧ob.T=e∧ob.rows.length=len)∧p∧(len+rows2.length) * bytes<=140737488355328∧len+rows2.length<=140737488355328, .vec id (len+rows2.length),o.set id (some { ob with rows:=ob.rows++rows2 }))
  | _,_=>none
 | some (e,z,bytes), .full (.aI z' rows len)=>match lP o z b with
  | some (p,rows2)=>some ((z'=z∧rows2≠[])∧p∧(len+rows2.length) * bytes<=70368744177664∧len+rows2.length<=70368744177664, .vec o.length (len+rows2.length),o++[some ⟨e,z,true,rows.take len++rows2⟩])
  | none=>none
 | some (e,z,bytes), .v (.slice none 0 0)=>match lP o z b with
  | some (p,rows2)=>some (p∧rows2.length * bytes<=140737488355328∧rows2.length<=140737488355328, .vec o.length rows2.length,o++[some ⟨e,z,true,rows2⟩])
  | none=>none
 | _,_=>none
theorem wW {P:Program} {T:TypeId} (ty:TypeId) (h:RO D nu o w) {a b:AV} {x y:Value} (hr:RA D nu o w a x) (hs:RA D nu o w b y) {p:Prop} {r:AV} {o':List (Option aa)} (hl:py P T o a b=some (p,r,o')) (hp:p) :
  Good D nu o w ((Builtin.append_ #[T,T] ty #[x,y]).run P w) r o':=by
 unfold py at hl
 split at hl
 ·rename_i e z bytes id len ht
  split at hl
  ·rename_i ob p' rows2 ho e2;simp only [Ti,Tj] at hl;obtain ⟨rfl,rfl,rfl⟩:=hl;obtain ⟨⟨hv,rfl,rfl,rfl⟩,hp',hby,h63⟩:=hp;obtain ⟨hu,i,zv,hi,hzv,hzs,hz0,hsize,hbytes⟩:=eH ht;obtain ⟨xs,hown,hL,hob⟩:=h.pJ ho hv;cases hr
   rcases gP h hz0 hs e2 hp' with ⟨rfl,rfl⟩|⟨g,c,news,rfl,hN,hcell⟩
   ·have hrun:=run_append_owned_none (P:=P) w 0 T ty ob.T i ob.z hu hi _ _ _ hown
    have e1:({ ob with rows:=ob.rows++[] }:aa)=ob:=by simp
    have e3:o.set id (some { ob with rows:=ob.rows++[] })=o:=by
     rw [e1]
     apply List.ext_getElem?
     intro k
     by_cases hk:id=k
     ·subst hk;rw [Tw (S7.1 ho).1];exact ho.symm
     ·rw [Tv hk]
    rw [e3,hrun];rename_i hh ho1;exact Good.pure h (.vec id _ hh ho1) rfl
   ·by_cases hne:rows2=[]
    ·subst hne;have hn:news=[]:=TL (by simpa using hN.len);subst hn
     have e1:({ ob with rows:=ob.rows++[] }:aa)=ob:=by simp
     have e3:o.set id (some { ob with rows:=ob.rows++[] })=o:=by
      rw [e1]
      apply List.ext_getElem?
      intro k
      by_cases hk:id=k
      ·subst hk;rw [Tw (S7.1 ho).1];exact ho.symm
      ·rw [Tv hk]
     rw [e3];rename_i hh ho1
     have hrun:(Builtin.append_ #[T,T] ty #[nu id ob.rows.length, .slice (some g) 0 c]).run P w = .ok (nu id ob.rows.length) w:=by
      rcases hown.2 with ⟨e4,e5⟩|⟨g',cap,cur,e4,_,_,hnc,_⟩
      ·rw [e4];simp [Builtin.append_,run_underlying hu,sizeOf,typeInfo,hi,Builtin.lenOf,Builtin.firstCells,loadCells,loadCellsFrom]
      ·rw [e4];simp [Builtin.append_,run_underlying hu,sizeOf,typeInfo,hi,Builtin.lenOf,Builtin.firstCells,loadCells,loadCellsFrom,hnc,storeCells]
     exact Good.pure h (.vec id _ hh ho1) hrun
    ·obtain ⟨v',w',hrun,hown',hgr,_,hvb⟩:=run_append_own_at (P:=P) w 0 T ty ob.T i zv ob.z bytes hu hi hzv hsize hbytes hzs hz0 _ _ xs hown g rows2.length c news hN.len hcell hN.one
      (by unfold maxLen;omega) hby (Te _)
     obtain ⟨k1,k2,k3⟩:=CA h ho hv hz0 hne hL hN hown' hgr hvb;exact ⟨v',w',_,hrun,k1,k2,k3⟩
  ·cases hl
 ·rename_i e z bytes z' rows len ht
  split at hl
  ·rename_i p' rows2 e2;simp only [Ti,Tj] at hl;obtain ⟨rfl,rfl,rfl⟩:=hl;obtain ⟨⟨rfl,hne⟩,hp',hby,h63⟩:=hp;obtain ⟨_,_,_,_,_,_,hz0,_,_⟩:=eH ht;obtain ⟨cap,cur,hrun,hg,hlr,hc1,hc2,hcs⟩:=xO ty ht h hr hs e2 hp' hne hby h63;have hb:Below w.heap.size w w.drew:=(Below.refl _ _).drew
   have hg':rS D nu o w.drew z' (rows.take len++rows2) cur:=⟨hg.row,fun i j row c h1 h2=>by
    obtain ⟨x,x1,x2,x3⟩:=hg.cell i j row c h1 h2
    exact ⟨x,x1,x2.mono (ak hb) (fun _ _ h=>h),x3⟩⟩
   have:=kg (h.below hb) e hz0 hg' (by rw [hlr];exact hc1) hc2 hcs
   rw [hlr] at this;obtain ⟨v,w',nu',k1,k2,k3⟩:=this;exact ⟨v,w',nu',hrun.trans k1,(ak hb).trans k2,k3⟩
  ·cases hl
 ·rename_i e z bytes ht
  split at hl
  ·rename_i p' rows2 e2;simp only [Ti,Tj] at hl;obtain ⟨rfl,rfl,rfl⟩:=hl;obtain ⟨hp',hby,h63⟩:=hp;obtain ⟨hu,i,zv,hi,hzv,hzs,hz0,hsize,hbytes⟩:=eH ht;cases hr
   
   have fin: ∀(v':Value) (w':World) (news:List Value),tW D nu o w z rows2 news->w'.ownsRow 0 e z v' rows2.length news->w.grownBy w' none->(v'.ownBlock=none∨v'.ownBlock=some w.heap.size) ->
     bl nu o w (eO nu o.length v') (o++[some ⟨e,z,true,rows2⟩]) w'∧RO D (eO nu o.length v') (o++[some ⟨e,z,true,rows2⟩]) w'∧RA D (eO nu o.length v') (o++[some ⟨e,z,true,rows2⟩]) w' (.vec o.length rows2.length) v':=by
    intro v' w' news hN hown hgr hvb;have hb:Below w.heap.size w w':=⟨hgr.os,hgr.tape,hgr.output,hgr.size,fun k hk=>hgr.block k hk (by simp)⟩;obtain ⟨hlen,hown⟩:=hown
    have hv: ∀b,cr v'=some b->w.heap.size<=b:=fun b hb'=>by
     rcases hown with ⟨rfl,_⟩|⟨g,cap,cur,rfl,_⟩
     ·cases hb'
     ·simp only [Value.ownBlock] at hvb;simp only [cr,cP] at hb'
      rcases hvb with e1|e1
      ·cases e1
      ·rw [e1] at hb';cases hb';exact SY _
    have hm:=eo (nu:=nu) (o:=o) (ob:=⟨e,z,true,rows2⟩) hb hv
    refine ⟨hm,jz h hb hv ?_, ?_⟩
    ·rcases hown with ⟨rfl,e0⟩|⟨g,cap,cur,rfl,_,hblk,hcap,hcm,hsz,htake⟩
     ·exact .inl ⟨rfl,TL e0,rfl⟩
     ·have hg:g=w.heap.size:=by simpa [Value.ownBlock] using hvb
      have key: ∀(i j:Nat) row c x,rows2[i]? = some row->row[j]? = some c->cur[i * z+j]? = some x->RA D nu o w c x∧x.oneCell'=true:=by
       intro i j row c x q1 q2 q3;obtain ⟨y,y1,y2⟩:=hN.cell i j row c q1 q2;have hj:=(S7.1 q2).1;rw [hN.row i row q1] at hj
       have q4:news[i * z+j]? = some x:=by
        rw [<-htake,TC (kj (S7.1 q1).1 hj)];simpa using q3
       rw [q4] at y1;cases y1;exact ⟨y2,hN.one _ (TI q4)⟩
      refine .inr (.inl ⟨g,cur,hblk,h.up _ (by omega),fun e'=>(by cases e'),fun _=>⟨cap,a6 _ _ _ _,hcap,hcm,hsz⟩,hz0,hN.row,fun i j row c x q1 q2 q3=>(key i j row c x q1 q2 q3).1.mono hm (fun _ _ h=>h),fun i j row c x q1 q2 q3=>(key i j row c x q1 q2 q3).2⟩)
    ·have:=RA.vec (D:=D) (nu:=eO nu o.length v') (o:=o++[some ⟨e,z,true,rows2⟩]) (w:=w') o.length rows2.length ⟨_,Ta,fun x hx=>by cases hx;exact SY _⟩ (by
      rw [a6]
      rcases hown with ⟨rfl,_⟩|⟨g,cap,cur,rfl,_⟩<;>rfl)
     rw [a6] at this;exact this
   have hnil:=World.ownsRow_nil w 0 e z
   rcases gP h hz0 hs e2 hp' with ⟨rfl,rfl⟩|⟨g,c,news,rfl,hN,hcell⟩
   ·have hrun:=run_append_owned_none (P:=P) w 0 T ty e i z hu hi _ _ _ hnil;obtain ⟨k1,k2,k3⟩:=fin (.slice none 0 0) w [] (qN z) (by simpa using hnil) ⟨rfl,rfl,rfl,SY _,fun _ _ _=>rfl⟩ (.inl rfl);exact ⟨_,w,_,hrun,k1,k2,k3⟩
   ·obtain ⟨v',w',hrun,hown',hgr,_,hvb⟩:=run_append_own_at (P:=P) w 0 T ty e i zv z bytes hu hi hzv hsize hbytes hzs hz0 _ _ [] hnil g rows2.length c news hN.len hcell hN.one
     (by unfold maxLen;omega) (by simpa using hby) (Te _)
    obtain ⟨k1,k2,k3⟩:=fin v' w' news hN (by simpa using hown') hgr (by simpa [Value.ownBlock] using hvb);exact ⟨v',w',_,hrun,k1,k2,k3⟩
  ·cases hl
 ·cases hl
def b6 (P:Program) (e:TypeId):Option (List AV):=match P.info? e with
 | some i=>match i.zero with
  | some zv=>if zv.cells.toList.all (·.oneCell') then some (zv.cells.toList.map AV.v) else none
  | none=>none
 | none=>none
theorem fC {P:Program} {e:TypeId} {cs:List AV} (h:b6 P e=some cs): ∃i zv,P.info? e=some i∧i.zero=some zv∧cs=zv.cells.toList.map AV.v∧ ∀x∈zv.cells.toList,x.oneCell'=true:=by
 unfold b6 at h
 split at h
 ·rename_i i hi
  split at h
  ·rename_i zv hz
   split at h
   ·rename_i ha;cases h;exact ⟨i,zv,hi,hz,rfl,fun x hx=>List.all_eq_true.1 ha x hx⟩
   ·cases h
  ·cases h
 ·cases h
theorem vF (zv:Value) (h1: ∀x∈zv.cells.toList,x.oneCell'=true):Ho D nu o w (zv.cells.toList.map AV.v) zv.cells:=
 ⟨⟨by simp,fun i c x hc hx=>by
  rw [Tq] at hc
  have:zv.cells.toList[i]? = some x:=by simpa using hx
  rw [this] at hc;cases hc;exact .v x⟩,fun i x hx=>h1 x (TI (show zv.cells.toList[i]? = some x by simpa using hx))⟩
def AH (P:Program) (T:TypeId) (o:List (Option aa)) (n c:AV):Option (Prop×AV×List (Option aa)):=
 match P.underlying T,n,c with
 | some (.slice e), .v (.int _ l), .v (.int _ m)=>match gR P T,b6 P e with
  | some (_,z,bytes),some zr=>some (0<=l∧l<=m∧m.toNat * bytes<=140737488355328∧m.toNat<=140737488355328, .vec o.length l.toNat,o++[some ⟨e,z,true,List.replicate l.toNat zr⟩])
  | _,_=>none
 | _,_,_=>none
theorem Cy {P:Program} {T:TypeId} (h:RO D nu o w) {n c:AV} {x y:Value} (hx:RA D nu o w n x) (hy:RA D nu o w c y) {p:Prop} {r:AV} {o':List (Option aa)} (hl:AH P T o n c=some (p,r,o')) (hp:p) :
  Good D nu o w ((Instr.makeSlice T x y).run P w) r o':=by
 unfold AH at hl
 split at hl
 ·rename_i e kl l kc m hu
  split at hl
  ·rename_i e2 z bytes zr ht hz;simp only [Ti,Tj] at hl;obtain ⟨rfl,rfl,rfl⟩:=hl;obtain ⟨h1,h2,h3,h4⟩:=hp;obtain ⟨hu',i,zv,hi,hzv,hzs,hz0,hsize,hbytes⟩:=eH ht;rw [hu] at hu';cases hu';obtain ⟨i',zv',hi',hzv',rfl,hone⟩:=fC hz;rw [hi] at hi';cases hi';rw [hzv] at hzv';cases hzv';cases hx;cases hy
   have hr:=run_make (P:=P) w T e i zv hu hi hzv kl kc l m h1 h2 (by
    have:(i.bytes:Int) * m=((m.toNat * i.bytes:Nat):Int):=by
     rw [Int.natCast_mul,Int.toNat_of_nonneg (by omega),Int.mul_comm]
    rw [this,hbytes];omega) (by omega)
   rw [hr]
   have hmod: ∀i j:Nat,j<z->(i * z+j) % zv.cells.size=j:=fun i j hj=>by rw [hzs];exact pH hj
   have hg:rS D nu o w z (List.replicate l.toNat (zv.cells.toList.map AV.v)) (madeCells zv.cells (m.toNat * i.size)):=by
    refine ⟨fun k row hk=> ?_,fun k j row c hk hj=> ?_⟩
    ·rw [TM] at hk;split at hk<;>cases hk;simpa using hzs
    ·rw [TM] at hk
     split at hk
     ·rename_i hlt;cases hk;rw [Tq] at hj
      cases hq:zv.cells.toList[j]? with
      | none=>rw [hq] at hj;cases hj
      | some u=>
       rw [hq] at hj;cases hj
       have hjl:j<zv.cells.size:=by have:=(S7.1 hq).1;simpa using this
       refine ⟨u, ?_, .v u,hone u (TI hq)⟩
       have hlt2:k * z+j<m.toNat * i.size:=by rw [hsize];exact kj (by omega) (by omega)
       simp only [madeCells,Array.getElem?_map,TN,if_pos hlt2,TG];rw [hmod k j (by omega)]
       have:zv.cells[j]? = some u:=by simpa using hq
       rw [getElem!_pos zv.cells j hjl,(S5.1 this).2]
     ·cases hk
   have:=kg h e hz0 hg (cap:=m.toNat) (by simp;omega) (by unfold maxLen;omega) (by rw [size_madeCells,hsize])
   simpa using this
  ·cases hl
 ·cases hl
theorem nQ (off:Nat): ∀(xs:List Value) (s:Nat) (cells:Array Value) (k:Nat),off+s+xs.length<=cells.size ->
  ((xs.zipIdx s).foldl (fun cs p=>cs.setIfInBounds (off+p.2) p.1) cells)[k]? = if off+s<=k∧k<off+s+xs.length then xs[k - (off+s)]? else cells[k]?
 | [],s,cells,k,_=>by
  rw [if_neg (by simp only [S6];omega)];rfl
 | x :: xs,s,cells,k,h=>by
  simp only [Tc] at h;rw [List.zipIdx_cons,List.foldl_cons,nQ off xs (s+1) _ k (by simp;omega)];simp only [Tc]
  by_cases h1:off+(s+1)<=k∧k<off+(s+1)+xs.length
  ·rw [if_pos h1,if_pos (by omega),show k - (off+s)=(k - (off+(s+1)))+1 by omega,List.getElem?_cons_succ]
  ·rw [if_neg h1]
   by_cases h2:k=off+s
   ·subst h2;rw [if_pos (by omega),Nat.sub_self,Array.getElem?_setIfInBounds_self_of_lt (by omega)];rfl
   ·rw [if_neg (by omega),Array.getElem?_setIfInBounds_ne (TH h2)]
theorem lZ (off:Nat): ∀(xs:List Value) (s:Nat) (cells:Array Value),((xs.zipIdx s).foldl (fun cs p=>cs.setIfInBounds (off+p.2) p.1) cells).size=cells.size
 | [],_,_=>rfl
 | x :: xs,s,cells=>by rw [List.zipIdx_cons,List.foldl_cons,lZ off xs];simp
theorem qy (xs:Array Value) (off:Nat) (cells:Array Value):xs.zipIdx.foldl (fun cs (c,j)=>cs.setIfInBounds (off+j) c) cells=(xs.toList.zipIdx 0).foldl (fun cs p=>cs.setIfInBounds (off+p.2) p.1) cells:=by
 rw [<-Array.foldl_toList,Array.toList_zipIdx]
def oH (place:List (Nat×Nat)) (cells:List AV):List (Nat×AV)->Option (List AV)
 | []=>some cells
 | (i,a) :: rest=>match place[i]?,a.cells? with
  | some (off,size),some cs=>if cs.length=size∧off+cs.length<=cells.length then oH place (yv cells off cs) rest else none
  | _,_=>none
theorem JF {row cs:List AV} {off k:Nat} (h:off+cs.length<=row.length):(yv row off cs)[k]? = if off<=k∧k<off+cs.length then cs[k - off]? else row[k]? :=by
 have h1:(row.take off).length=off:=by simp;omega
 unfold yv
 by_cases hk:k<off
 ·rw [if_neg (by omega),TB,S8 (by omega),TC hk]
 ·rw [TB,TD (by omega),h1]
  by_cases h2:k<off+cs.length
  ·rw [if_pos (by omega),S8 (by omega)]
  ·rw [if_neg (by omega),TD (by omega),Tl]
   congr 1;omega
theorem nP (place:List (Nat×Nat)): ∀(ps:List (Nat×AV)) (vs:List (Nat×Value)) (cells:List AV) (cur:Array Value),ps.length=vs.length ->
  (∀(k:Nat) p q,ps[k]? = some p->vs[k]? = some q->p.1=q.1∧RA D nu o w p.2 q.2)->Ho D nu o w cells cur-> ∀ {res:List AV},oH place cells ps=some res-> ∃ys,Instr.fill (place.toArray[·]?) cur vs=some ys∧Ho D nu o w res ys
 | [],[],cells,cur,_,_,hc,res,hf=>by
  simp only [oH,Ti] at hf;subst hf;exact ⟨cur,rfl,hc⟩
 | (i,a) :: ps,(j,v) :: vs,cells,cur,hl,hall,hc,res,hf=>by
  obtain ⟨he,hr⟩:=hall 0 (i,a) (j,v) rfl rfl;simp only at he hr;subst he;simp only [oH] at hf
  split at hf
  ·rename_i off size cs e1 e2
   split at hf
   ·rename_i hcond;have hcs:=hr.one e2
    have hsz:v.cells.size=size:=by rw [<-hcs.len];exact hcond.1
    have hcl:=hc.len
    have hfit:off+v.cells.size<=cur.size:=by rw [<-hcs.len, <- hcl];exact hcond.2
    have hlen:(yv cells off cs).length=cells.length:=by simp [yv];omega
    have hnew:Ho D nu o w (yv cells off cs) (v.cells.zipIdx.foldl (fun cs (c,j)=>cs.setIfInBounds (off+j) c) cur):=by
     rw [qy];have hget:=fun k=>nQ off v.cells.toList 0 cur k (by simpa using hfit);simp only [Tu,TA] at hget
     refine ⟨⟨by rw [hlen,lZ];exact hcl,fun k c x h1 h2=> ?_⟩,fun k x h2=> ?_⟩
     ·rw [JF hcond.2] at h1;rw [hget k] at h2;rw [hcs.len] at h1
      split at h1
      ·rename_i hk;rw [if_pos hk] at h2;exact hcs.at' _ c x h1 (by simpa using h2)
      ·rename_i hk;rw [if_neg hk] at h2;exact hc.at' k c x h1 h2
     ·rw [hget k] at h2
      split at h2
      ·exact hcs.one _ x (by simpa using h2)
      ·exact hc.one k x h2
    obtain ⟨ys,h1,h2⟩:=nP place ps vs _ _ (by simpa using hl) (fun k p q h1 h2=>hall (k+1) p q (by simpa using h1) (by simpa using h2)) hnew hf;refine ⟨ys, ?_,h2⟩
    have e1':place.toArray[i]? = some (off,size):=by simpa using e1
    simp only [Instr.fill,e1'];rw [if_neg (by simp;omega)];exact h1
   ·cases hf
  ·cases hf
 | [],_ :: _,_,_,hl,_,_,_,_=>by simp at hl
 | _ :: _,[],_,_,hl,_,_,_,_=>by simp at hl
def yw (P:Program) (T:TypeId):Option (List (Nat×Nat)×List AV):=
 match P.underlying T with
 | some (.struct fields)=>match fields.toList.mapM (fun f=>(P.info? f.type).map fun i=>(f.offset,i.size)),b6 P T with
  | some pl,some z=>some (pl,z)
  | _,_=>none
 | some (.array n e)=>match P.info? e,b6 P T with
  | some ie,some z=>some ((List.range n).map (fun i=>(i * ie.size,ie.size)),z)
  | _,_=>none
 | _=>none
theorem sO {p q:Nat->Option (Nat×Nat)} (h: ∀i x,p i=some x->q i=some x): ∀(vs:List (Nat×Value)) (cur ys:Array Value),Instr.fill p cur vs=some ys->Instr.fill q cur vs=some ys
 | [],cur,ys,hf=>hf
 | (i,v) :: vs,cur,ys,hf=>by
  simp only [Instr.fill] at hf ⊢
  cases hp:p i with
  | none=>rw [hp] at hf;cases hf
  | some x=>
   rw [hp] at hf;rw [h i x hp];simp only at hf ⊢
   split at hf
   ·cases hf
   ·rename_i hc;rw [if_neg hc];exact sO h vs _ ys hf
def ud (P:Program) (T:TypeId) (parts:List (Nat×AV)):Option AV:=match yw P T with
 | some (pl,z)=>(oH pl z parts).map AV.agg
 | none=>none
theorem zo {P:Program} {T:TypeId} {ps:List (Nat×AV)} {vs:Array (Nat×Value)} (hl:ps.length=vs.size) (hall: ∀(k:Nat) p q,ps[k]? = some p->vs[k]? = some q->p.1=q.1∧RA D nu o w p.2 q.2) {r:AV} (hb:ud P T ps=some r) :
  ∃v,(Instr.build T vs).run P w = .ok v w∧RA D nu o w r v:=by
 unfold ud at hb
 split at hb
 ·rename_i pl z ht;unfold yw at ht
  split at ht
  ·rename_i fields hu
   split at ht
   ·rename_i pl' z' h1 h2;simp only [Ti,Tj] at ht;obtain ⟨rfl,rfl⟩:=ht;obtain ⟨i,zv,hi,hzv,rfl,hone⟩:=fC h2
    cases hf:oH pl' (zv.cells.toList.map AV.v) ps with
    | none=>rw [hf] at hb;cases hb
    | some res=>
     rw [hf] at hb;cases hb;obtain ⟨ys,h3,h4⟩:=nP pl' ps vs.toList _ _ (by simpa using hl) (fun k p q a b=>hall k p q a (by simpa using b)) (vF zv hone) hf;refine ⟨.agg ys,run_build w T vs ys ?_, .agg _ _ h4.len h4.at' h4.one⟩;simp only [Program.built,hi,hu,hzv,h1];exact h3
   ·cases ht
  ·rename_i n e hu
   split at ht
   ·rename_i ie z' h1 h2;simp only [Ti,Tj] at ht;obtain ⟨rfl,rfl⟩:=ht;obtain ⟨i,zv,hi,hzv,rfl,hone⟩:=fC h2
    cases hf:oH ((List.range n).map (fun i=>(i * ie.size,ie.size))) (zv.cells.toList.map AV.v) ps with
    | none=>rw [hf] at hb;cases hb
    | some res=>
     rw [hf] at hb;cases hb;obtain ⟨ys,h3,h4⟩:=nP _ ps vs.toList _ _ (by simpa using hl) (fun k p q a b=>hall k p q a (by simpa using b)) (vF zv hone) hf;refine ⟨.agg ys,run_build w T vs ys ?_, .agg _ _ h4.len h4.at' h4.one⟩;simp only [Program.built,hi,hu,hzv,h1];refine sO (fun i x hx=> ?_) _ _ _ h3;simp only [Tp,Tq] at hx
     cases hr:(List.range n)[i]? with
     | none=>rw [hr] at hx;cases hx
     | some j=>
      rw [hr] at hx
      have:=(S7.1 hr).2
      rw [List.getElem_range] at this;rw [<-hx,TG,this]
   ·cases ht
  ·cases ht
 ·cases hb
def sx (z:Nat) (rows:List (List AV)):List (Nat×AV)->Option (List (List AV))
 | []=>some rows
 | (i,a) :: rest=>match a.cells? with
  | some cs=>if cs.length=z∧i<rows.length then sx z (rows.set i cs) rest else none
  | none=>none
theorem tC {z:Nat}: ∀(ps:List (Nat×AV)) (vs:List (Nat×Value)) (rows:List (List AV)) (cur:Array Value),ps.length=vs.length ->
  (∀(k:Nat) p q,ps[k]? = some p->vs[k]? = some q->p.1=q.1∧RA D nu o w p.2 q.2)->rS D nu o w z rows cur->cur.size=rows.length * z-> ∀ {res:List (List AV)},sx z rows ps=some res ->
  ∃ys,Instr.fill (fun i=>some (i * z,z)) cur vs=some ys∧rS D nu o w z res ys∧res.length=rows.length∧ys.size=cur.size
 | [],[],rows,cur,_,_,hc,_,res,hf=>by
  simp only [sx,Ti] at hf;subst hf;exact ⟨cur,rfl,hc,rfl,rfl⟩
 | (i,a) :: ps,(j,v) :: vs,rows,cur,hl,hall,hc,hsz,res,hf=>by
  obtain ⟨he,hr⟩:=hall 0 (i,a) (j,v) rfl rfl;simp only at he hr;subst he;simp only [sx] at hf
  split at hf
  ·rename_i cs e2
   split at hf
   ·rename_i hcond;have hcs:=hr.one e2
    have hvs:v.cells.size=z:=by rw [<-hcs.len];exact hcond.1
    have hfit:i * z+z<=cur.size:=by
     rw [hsz];have:(i+1) * z<=rows.length * z:=Tf _ hcond.2;rw [Tg,Th] at this;exact this
    have hnew:rS D nu o w z (rows.set i cs) (v.cells.zipIdx.foldl (fun cs (c,j)=>cs.setIfInBounds (i * z+j) c) cur):=by
     rw [qy];have hget:=fun k=>nQ (i * z) v.cells.toList 0 cur k (by simp;omega);simp only [Tu,TA] at hget
     refine ⟨fun k row hk=> ?_,fun k m row c h1 h2=> ?_⟩
     ·by_cases hik:i=k
      ·subst hik;rw [Tw hcond.2] at hk;cases hk;exact hcond.1
      ·rw [Tv hik] at hk;exact hc.row k row hk
     ·by_cases hik:i=k
      ·subst hik;rw [Tw hcond.2] at h1;cases h1;have hm:=(S7.1 h2).1;have hx:v.cells[m]? = some v.cells[m]:=Tm (by omega);refine ⟨v.cells[m], ?_,hcs.at' m c _ h2 hx,hcs.one m _ hx⟩;rw [hget,if_pos (by omega),show i * z+m - i * z=m by omega];simp
      ·rw [Tv hik] at h1;obtain ⟨x,q1,q2⟩:=hc.cell k m row c h1 h2;refine ⟨x, ?_,q2⟩;have hm:=(S7.1 h2).1;rw [hc.row k row h1] at hm;rw [hget,if_neg,q1]
       rcases Nat.lt_or_gt_of_ne hik with hlt|hgt
       ·have:(i+1) * z<=k * z:=Tf _ hlt
        rw [Tg,Th] at this;omega
       ·have:(k+1) * z<=i * z:=Tf _ hgt
        rw [Tg,Th] at this;omega
    have hsz':(v.cells.zipIdx.foldl (fun cs (c,j)=>cs.setIfInBounds (i * z+j) c) cur).size=cur.size:=by rw [qy,lZ]
    obtain ⟨ys,h1,h2,h3,h4⟩:=tC ps vs _ _ (by simpa using hl) (fun k p q h1 h2=>hall (k+1) p q (by simpa using h1) (by simpa using h2)) hnew (by rw [hsz'];simpa using hsz) hf;refine ⟨ys, ?_,h2,by simpa using h3,by rw [h4,hsz']⟩;simp only [Instr.fill];rw [if_neg (by simp;omega)];exact h1
   ·cases hf
  ·cases hf
 | [],_ :: _,_,_,hl,_,_,_,_,_=>by simp at hl
 | _ :: _,[],_,_,hl,_,_,_,_,_=>by simp at hl
def ee (P:Program) (T:TypeId) (len:Nat) (o:List (Option aa)) (parts:List (Nat×AV)):Option (AV×List (Option aa)):=
 match P.underlying T with
 | some (.slice e)=>match gR P T,b6 P e with
  | some (_,z,_),some zr=>if len * z<=16777216 then match sx z (List.replicate len zr) parts with
   | some rows=>some (.vec o.length len,o++[some ⟨e,z,true,rows⟩])
   | none=>none
   else none
  | _,_=>none
 | _=>none
theorem Gt {P:Program} {T:TypeId} {len:Nat} {ps:List (Nat×AV)} {vs:Array (Nat×Value)} (hl:ps.length=vs.size) (hall: ∀(k:Nat) p q,ps[k]? = some p->vs[k]? = some q->p.1=q.1∧RA D nu o w p.2 q.2) {o1:List (Option aa)} {r:AV} {o':List (Option aa)} (hb:ee P T len o1 ps=some (r,o')) :
  ∃e z rows ys,r = .vec o1.length len∧o'=o1++[some ⟨e,z,true,rows⟩]∧rows.length=len∧0<z∧len<=16777216∧ys.size=len * z∧rS D nu o w z rows ys∧(Instr.buildSlice T len vs).run P w = .ok (.slice (some ⟨w.heap.size,0,none⟩) len len) (w.alloc (.cells ys e)):=by
 unfold ee at hb
 split at hb
 ·rename_i e hu
  split at hb
  ·rename_i e2 z bytes zr ht hz
   split at hb
   ·rename_i hsmall
    split at hb
    ·rename_i rows hrows;simp only [Ti,Tj] at hb;obtain ⟨rfl,rfl⟩:=hb;obtain ⟨hu',i,zv,hi,hzv,hzs,hz0,hsize,hbytes⟩:=eH ht;rw [hu] at hu';cases hu';obtain ⟨i',zv',hi',hzv',rfl,hone⟩:=fC hz;rw [hi] at hi';cases hi';rw [hzv] at hzv';cases hzv'
     have hg:rS D nu o w z (List.replicate len (zv.cells.toList.map AV.v)) ((Array.range (len * i.size)).map (zv.cells[· % zv.cells.size]!)):=by
      refine ⟨fun k row hk=> ?_,fun k j row c hk hj=> ?_⟩
      ·rw [TM] at hk;split at hk<;>cases hk;simpa using hzs
      ·rw [TM] at hk
       split at hk
       ·rename_i hlt;cases hk;rw [Tq] at hj
        cases hq:zv.cells.toList[j]? with
        | none=>rw [hq] at hj;cases hj
        | some u=>
         rw [hq] at hj;cases hj
         have hjl:j<zv.cells.size:=by have:=(S7.1 hq).1;simpa using this
         refine ⟨u, ?_, .v u,hone u (TI hq)⟩
         have hlt2:k * z+j<len * i.size:=by rw [hsize];exact kj hlt (by omega)
         simp only [Array.getElem?_map,TN,if_pos hlt2,TG];rw [show (k * z+j) % zv.cells.size=j by rw [hzs];exact pH (by omega)]
         have:zv.cells[j]? = some u:=by simpa using hq
         rw [getElem!_pos zv.cells j hjl,(S5.1 this).2]
       ·cases hk
     obtain ⟨ys,h1,h2,h3,h4⟩:=tC ps vs.toList _ _ (by simpa using hl) (fun k p q a b=>hall k p q a (by simpa using b)) hg (by simp [hsize]) hrows;simp only [List.length_replicate] at h3
     have hys:ys.size=len * z:=by rw [h4];simp [hsize]
     have hrun:(Instr.buildSlice T len vs).run P w = .ok (.slice (some ⟨w.heap.size,0,none⟩) len len) (w.alloc (.cells ys e)):=by
      rw [<-hsize] at h1
      by_cases h0:len * i.size=0
      ·have hlen0:len=0:=by
        rcases Nat.mul_eq_zero.1 h0 with e1|e1
        ·exact e1
        ·omega
       subst hlen0
       have h0': ¬(0 > 16777216):=by omega
       simp [Array.range_zero'] at h1;simp [Instr.buildSlice,run_underlying hu,sizeOf,typeInfo,hi,newRow,Array.range_zero',h1]
      ·have hs': ¬len * i.size > 2 ^ 24:=by rw [hsize];omega
       simp [Instr.buildSlice,run_underlying hu,sizeOf,typeInfo,zeroValue,hi,hzv,hs',h0,h1,newRow]
     have hlm:len<=16777216:=S3 (Nat.le_mul_of_pos_right _ hz0) hsmall;exact ⟨e,z,rows,ys,rfl,rfl,h3,hz0,hlm,hys,h2,hrun⟩
    ·cases hb
   ·cases hb
  ·cases hb
 ·cases hb
theorem po {P:Program} {T:TypeId} {len:Nat} (h:RO D nu o w) {ps:List (Nat×AV)} {vs:Array (Nat×Value)} (hl:ps.length=vs.size) (hall: ∀(k:Nat) p q,ps[k]? = some p->vs[k]? = some q->p.1=q.1∧RA D nu o w p.2 q.2) {r:AV} {o':List (Option aa)} (hb:ee P T len o ps=some (r,o')) :
  Good D nu o w ((Instr.buildSlice T len vs).run P w) r o':=by
 obtain ⟨e,z,rows,ys,rfl,rfl,h3,hz0,hlm,hys,h2,hrun⟩:=Gt hl hall hb;rw [hrun]
 have:=kg h e hz0 h2 (cap:=len) (by omega) (by unfold maxLen;omega) hys
 rw [h3] at this;exact this
end
end
section
section
variable {D:Nat->Prop} {nu:Nat->Nat->Value} {o:List (Option aa)} {w:World} {P:Program}
theorem c6 (id:Nat):bl nu o w nu (o.set id none) w:=by
 refine ⟨rfl,rfl,rfl,SY _,fun id' len hh=>⟨?_,rfl⟩,fun b _ hno=>⟨rfl, ?_⟩⟩
 ·obtain ⟨x,k1,k2⟩:=hh
  by_cases he:id=id'
  ·subst he;exact ⟨none,Tw (S7.1 k1).1,fun x hx=>by cases hx⟩
  ·exact ⟨x,by rw [Tv he];exact k1,k2⟩
 ·rintro ⟨id',ob'',k1,k2⟩
  by_cases he:id=id'
  ·subst he;rw [Tw (by have:=(S7.1 k1).1;simpa using this)] at k1;cases k1
  ·rw [Tv he] at k1;exact hno ⟨id',ob'',k1,k2⟩
theorem e8 {id id':Nat} {ob:aa} (h:(o.set id none)[id']? = some (some ob)):o[id']? = some (some ob)∧id≠id':=by
 by_cases he:id=id'
 ·subst he;rw [Tw (by have:=(S7.1 h).1;simpa using this)] at h;cases h
 ·rw [Tv he] at h;exact ⟨h,he⟩
theorem kW (h:RO D nu o w) (id:Nat):RO D nu (o.set id none) w:=by
 have hm:=c6 (nu:=nu) (o:=o) (w:=w) id;refine ⟨fun id' ob' k1=> ?_,h.up,fun i1 i2 b1 b2 b k1 k2=>h.sep i1 i2 b1 b2 b (e8 k1).1 (e8 k2).1,h.gl.mono hm (fun _ _ h=>h)⟩
 rcases h.obj id' ob' (e8 k1).1 with e|⟨g,cur,hr⟩|⟨g,es,cl,hmp⟩
 ·exact .inl e
 ·exact .inr (.inl ⟨g,cur,hr.cZ,hr.j9,hr.box,hr.vec,hr.z,hr.row,fun i j row c x q1 q2 q3=>(hr.cell i j row c x q1 q2 q3).mono hm (fun _ _ h=>h),hr.one⟩)
 ·exact .inr (.inr ⟨g,es,cl,hmp.tr rfl (fun h=>h) rfl (fun i j row c x _ _ hr=>hr.mono hm (fun _ _ h=>h))⟩)
theorem IT (h:RO D nu o w) {id:Nat} {ob:aa} (ho:o[id]? = some (some ob)) {g:Nat} {cur:Array Value} (hb:vH D nu o w id ob g cur):Fz D nu (o.set id none) w g:=by
 refine ⟨(S5.1 hb.cZ).1, ?_,hb.j9⟩;rintro ⟨id',ob',k1,k2⟩;obtain ⟨k3,k4⟩:=e8 k1;exact h.sep id id' ob ob' g ho k3 k4 hb.bn k2
theorem ln (h:RO D nu o w) {id:Nat} {ob:aa} (ho:o[id]? = some (some ob)) (hv:ob.dj=true):RA D nu (o.set id none) w (.aI ob.z ob.rows ob.rows.length) (nu id ob.rows.length):=by
 rcases h.obj id ob ho with ⟨e1,e2,e3⟩|⟨g,cur,hb⟩|⟨g,es,cl,hmp⟩
 rotate_left 2
 ·rw [hmp.dj] at hv;cases hv
 ·rw [e2];simp only [S6];rw [e3];exact .bf _
 ·obtain ⟨cap,q1,q2,q3,q4⟩:=hb.vec hv;rw [q1]
  have hget: ∀(i j:Nat) row c,ob.rows[i]? = some row->row[j]? = some c->cur[i * ob.z+j]? = some (cur.getD (i * ob.z+j) Go.undef):=fun i j row c k1 k2=>by
   have:=hb.oN k1 (S7.1 k2).1
   simp [Array.getD,this]
  refine .aI _ _ _ g 0 cap (fun i j=>cur.getD (i * ob.z+j) Go.undef) (SY _) q2 q3 (fun _=>IT h ho hb) hb.row (fun i j row c k1 k2=> ?_) (fun i j row c k1 k2=> ?_) (fun i j row c k1 k2=> ?_)
  ·rw [<-hget i j row c k1 k2]
   have:=hb.cZ
   simp [World.cell?,this]
  ·exact (hb.cell i j row c _ k1 k2 (hget i j row c k1 k2)).mono (c6 id) (fun _ _ h=>h)
  ·exact hb.one i j row c _ k1 k2 (hget i j row c k1 k2)
def DQ:Option AV->Nat->Option (Prop×Nat)
 | none,d=>some (True,d)
 | some (.v (.int _ i)),_=>some (0<=i,i.toNat)
 | some _,_=>none
theorem dO {a:Option AV} {d n:Nat} {p:Prop} (h:DQ a d=some (p,n)) (hp:p) {x:Option Value} (hx: ∀c,a=some c-> ∃y,x=some y∧RA D nu o w c y) (hn:a=none->x=none) :
  (x=none∧n=d)∨ ∃k,x=some (.int k (n:Int)):=by
 cases a with
 | none=>simp only [DQ,Ti,Tj] at h;exact .inl ⟨hn rfl,h.2.symm⟩
 | some c=>
  cases c with
  | v y=>
   cases y with
   | int k i=>
    simp only [DQ,Ti,Tj] at h;obtain ⟨rfl,rfl⟩:=h;obtain ⟨y,rfl,hy⟩:=hx _ rfl;cases hy;exact .inr ⟨k,by rw [Int.toNat_of_nonneg hp]⟩
   | _=>cases h
  | _=>cases h
theorem cv {b:Bool} {len cap l h m:Nat} {lo hi mx:Option Value} (hl:(lo=none∧l=0)∨ ∃k,lo=some (.int k (l:Int))) (hh:(hi=none∧h=len∧mx=none)∨ ∃k,hi=some (.int k (h:Int)))
  (hm:(mx=none∧m=cap)∨ ∃k,mx=some (.int k (m:Int))) (h1:l<=h) (h2:h<=m) (h3:m<=cap):(Instr.sliceBounds b len cap lo hi mx).run P w = .ok (l,h,m) w:=by
 rcases hm with ⟨rfl,rfl⟩|⟨km,rfl⟩
 ·rcases hh with ⟨rfl,rfl,_⟩|⟨kh,rfl⟩
  ·rcases hl with ⟨rfl,rfl⟩|⟨kl,rfl⟩
   ·simp [Instr.sliceBounds]
   ·simp [Instr.sliceBounds,Instr.sliceBound,asIntOf,h1]
  ·rcases hl with ⟨rfl,rfl⟩|⟨kl,rfl⟩
   ·simp [Instr.sliceBounds,Instr.sliceBound,asIntOf,h2]
   ·simp [Instr.sliceBounds,Instr.sliceBound,asIntOf,h1,h2]
 ·rcases hh with ⟨_,_,e⟩|⟨kh,rfl⟩
  ·cases e
  ·rcases hl with ⟨rfl,rfl⟩|⟨kl,rfl⟩
   ·simp [Instr.sliceBounds,Instr.sliceBound,asIntOf,h2,h3]
   ·simp [Instr.sliceBounds,Instr.sliceBound,asIntOf,h1,h2,h3]
theorem mV {z len l h m:Nat} {rows:List (List AV)} {x:Value} (hr:RA D nu o w (.aI z rows len) x) (h1:l<=h) (h2:h<=m) (h3:m<=rows.length) :
  ∃a cap,x = .slice a len cap∧rows.length<=cap∧(∀M,m<=M->M<=cap->RA D nu o w (.aI z ((rows.take m).drop l) (h - l)) (.slice (if M=l then a else a.map (·.add (l * z))) (h - l) (M - l))):=by
 cases hr with
 | bf=>
  simp at h3
  obtain rfl:l=0:=by omega
  obtain rfl:h=0:=by omega
  subst h3;refine ⟨none,0,rfl,SY _,fun M hM hM'=> ?_⟩
  obtain rfl:M=0:=by omega
  exact .bf z
 | bA _ a=>
  simp at h3
  obtain rfl:l=0:=by omega
  obtain rfl:h=0:=by omega
  subst h3;refine ⟨some a,0,rfl,SY _,fun M hM hM'=> ?_⟩
  obtain rfl:M=0:=by omega
  exact .bA z a
 | aI _ _ _ b off cap f k1 k2 k3 k4 k5 k6 k7 k8=>
  refine ⟨some ⟨b,off,none⟩,cap,rfl,k2,fun M hM hM'=> ?_⟩
  have hget: ∀(i:Nat) row,((rows.take m).drop l)[i]? = some row->rows[l+i]? = some row:=fun i row hi=>by
   rw [Tl,To] at hi
   split at hi
   ·exact hi
   ·cases hi
  by_cases hMl:M=l
  ·rw [if_pos hMl]
   have e:(rows.take m).drop l=[]:=by simp;omega
   rw [e];refine .aI z [] (h - l) b off (M - l) f (by simp;omega) (by simp) (by omega) (fun hh=>absurd rfl hh) (fun i row hi=>by simp at hi) (fun i j row c hi=>by simp at hi) (fun i j row c hi=>by simp at hi) (fun i j row c hi=>by simp at hi)
  ·rw [if_neg hMl];simp only [TG,Addr.add_lit];refine .aI z _ (h - l) b (off+l * z) (M - l) (fun i j=>f (l+i) j) (by simp;omega) (by simp;omega) (by omega) (fun hh=>k4 (fun e=>hh (by rw [e];simp))) (fun i row hi=>k5 _ row (hget i row hi)) (fun i j row c hi hj=> ?_) (fun i j row c hi hj=>k7 _ j row c (hget i row hi) hj) (fun i j row c hi hj=>k8 _ j row c (hget i row hi) hj)
   have:=k6 (l+i) j row c (hget i row hi) hj
   rw [<-this]
   congr 2
   rw [Tg];omega
def Oc (P:Program) (T:TypeId):Option Nat:=match P.underlying T with
 | some (.slice e)=>aY P e
 | _=>none
theorem kG {T:TypeId} {z:Nat} (h:Oc P T=some z): ∃e,P.underlying T=some (.slice e)∧aY P e=some z:=by
 unfold Oc at h
 split at h
 ·exact ⟨_, ‹_›,h⟩
 ·cases h
def lO (P:Program) (T:TypeId) (o:List (Option aa)) (a:AV) (lo hi mx:Option AV):Option (Prop×AV×List (Option aa)):=
 match a with
 | .v (.string s)=>match P.underlying T,DQ lo 0,DQ hi s.size,mx with
  | some .string,some (p,l),some (q,h),none=>some (p∧q∧l<=h∧h<=s.size, .v (.string (s.extract l h)),o)
  | _,_,_,_=>none
 | .aI z rows len=>match Oc P T,DQ lo 0,DQ hi len,mx with
  | some z',some (p,l),some (q,h),none=>some (p∧q∧l<=h∧h<=rows.length∧z'=z, .aI z (rows.drop l) (h - l),o)
  | some z',some (p,l),some (q,h),some m=>match DQ (some m) 0,hi with
   | some (r,m),some _=>some (p∧q∧r∧l<=h∧m=h∧m<=rows.length∧z'=z, .full (.aI z ((rows.take h).drop l) (h - l)),o)
   | _,_=>none
  | _,_,_,_=>none
 | .vec id len=>match o[id]?,Oc P T,DQ lo 0,DQ hi len,mx with
  | some (some ob),some z',some (p,l),some (q,h),none=>some ((ob.dj=true∧ob.rows.length=len)∧p∧q∧l<=h∧h<=ob.rows.length∧z'=ob.z, .aI ob.z (ob.rows.drop l) (h - l),o.set id none)
  | some (some ob),some z',some (p,l),some (q,h),some m=>match DQ (some m) 0,hi with
   | some (r,m),some _=>some ((ob.dj=true∧ob.rows.length=len)∧p∧q∧r∧l=0∧h=0∧m=0∧z'=ob.z, .full (.aI ob.z [] 0),o)
   | _,_=>none
  | _,_,_,_,_=>none
 | _=>none
theorem rB {T:TypeId} {a:AV} {x:Value} (hr:RA D nu o w a x) {lo hi mx:Option AV} {vl vh vm:Option Value}
  (hlo:(∀c,lo=some c-> ∃y,vl=some y∧RA D nu o w c y)∧(lo=none->vl=none)) (hhi:(∀c,hi=some c-> ∃y,vh=some y∧RA D nu o w c y)∧(hi=none->vh=none)) (hmx:(∀c,mx=some c-> ∃y,vm=some y∧RA D nu o w c y)∧(mx=none->vm=none))
  {p:Prop} {r:AV} {o':List (Option aa)} (hl:lO P T o a lo hi mx=some (p,r,o')) (hp:p) (hv: ∀id len,a ≠ .vec id len): ∃v,(Instr.sliceAt T x vl vh vm).run P w = .ok v w∧RA D nu o w r v∧o'=o:=by
 unfold lO at hl
 split at hl
 ·
  rename_i s
  split at hl
  ·rename_i p' l q h' hu e1 e2;simp only [Ti,Tj] at hl;obtain ⟨rfl,rfl,rfl⟩:=hl;obtain ⟨h1,h2,h3,h4⟩:=hp;cases hr;have b1:=dO e1 h1 hlo.1 hlo.2;have b2:=dO e2 h2 hhi.1 hhi.2;have hvm:=hmx.2 rfl;subst hvm;have hb:=cv (P:=P) (w:=w) (b:=false) (len:=s.size) (cap:=s.size) (m:=s.size) (lo:=vl) (hi:=vh) (mx:=none) b1 (b2.imp (fun e=>⟨e.1,e.2,rfl⟩) (fun e=>e)) (.inl ⟨rfl,rfl⟩) h3 h4 (SY _);refine ⟨_, ?_, .v _,rfl⟩;simp [Instr.sliceAt,Instr.slice,run_underlying hu,hb]
  ·cases hl
 ·rename_i z rows len
  split at hl
  ·rename_i z' p' l q h' hu e1 e2;simp only [Ti,Tj] at hl;obtain ⟨rfl,rfl,rfl⟩:=hl;obtain ⟨h1,h2,h3,h4,rfl⟩:=hp;obtain ⟨e,hu,hsz⟩:=kG hu;have b1:=dO e1 h1 hlo.1 hlo.2;have b2:=dO e2 h2 hhi.1 hhi.2;have hvm:=hmx.2 rfl;subst hvm;obtain ⟨ad,cap,rfl,hcap,hfin⟩:=mV hr h3 h4 (SY _);have hb:=cv (P:=P) (w:=w) (b:=true) (len:=len) (cap:=cap) (m:=cap) (lo:=vl) (hi:=vh) (mx:=none) b1 (b2.imp (fun e=>⟨e.1,e.2,rfl⟩) (fun e=>e)) (.inl ⟨rfl,rfl⟩) h3 (by omega) (SY _)
   have:=hfin cap hcap (SY _)
   rw [List.take_length] at this;refine ⟨_, ?_,this,rfl⟩;simp [Instr.sliceAt,Instr.slice,run_underlying hu,hb,run_sizeOf hsz]
  ·rename_i z' p' l q h' mm hu e1 e2
   split at hl
   ·rename_i r' m' _ e3;simp only [Ti,Tj] at hl;obtain ⟨rfl,rfl,rfl⟩:=hl;obtain ⟨h1,h2,h5,h3,rfl,h6,rfl⟩:=hp;have h4:=SY m';obtain ⟨e,hu,hsz⟩:=kG hu;have b1:=dO e1 h1 hlo.1 hlo.2;have b2:=dO e2 h2 hhi.1 hhi.2;have b3:=dO e3 h5 hmx.1 hmx.2
    have hvh: ∃y,vh=some y:=by obtain ⟨y,hy,_⟩:=hhi.1 _ rfl;exact ⟨y,hy⟩
    have hvm: ∃y,vm=some y:=by obtain ⟨y,hy,_⟩:=hmx.1 _ rfl;exact ⟨y,hy⟩
    obtain ⟨ad,cap,rfl,hcap,hfin⟩:=mV hr h3 h4 h6
    have hb:=cv (P:=P) (w:=w) (b:=true) (len:=len) (cap:=cap) (m:=m') (lo:=vl) (hi:=vh) (mx:=vm) b1 (.inr (b2.resolve_left (fun e=>by obtain ⟨y,hy⟩:=hvh;rw [hy] at e;cases e.1)))
     (.inr (b3.resolve_left (fun e=>by obtain ⟨y,hy⟩:=hvm;rw [hy] at e;cases e.1))) h3 h4 (by omega)
    refine ⟨_, ?_, .full _ _ ⟨_,_,rfl⟩ (hfin m' (SY _) (by omega)),rfl⟩;simp [Instr.sliceAt,Instr.slice,run_underlying hu,hb,run_sizeOf hsz]
   ·cases hl
  ·cases hl
 ·exact absurd rfl (hv _ _)
 ·cases hl
theorem zs {T:TypeId} (h:RO D nu o w) {a:AV} {x:Value} (hr:RA D nu o w a x) {lo hi mx:Option AV} {vl vh vm:Option Value}
  (hlo:(∀c,lo=some c-> ∃y,vl=some y∧RA D nu o w c y)∧(lo=none->vl=none)) (hhi:(∀c,hi=some c-> ∃y,vh=some y∧RA D nu o w c y)∧(hi=none->vh=none)) (hmx:(∀c,mx=some c-> ∃y,vm=some y∧RA D nu o w c y)∧(mx=none->vm=none))
  {p:Prop} {r:AV} {o':List (Option aa)} (hl:lO P T o a lo hi mx=some (p,r,o')) (hp:p):Good D nu o w ((Instr.sliceAt T x vl vh vm).run P w) r o':=by
 by_cases hvec: ∀id len,a ≠ .vec id len
 ·obtain ⟨v,h1,h2,rfl⟩:=rB hr hlo hhi hmx hl hp hvec;exact Good.pure h h2 h1
 obtain ⟨id,len,rfl⟩: ∃id len,a = .vec id len:=by
  apply Classical.byContradiction
  intro hn;exact hvec (fun id len e=>hn ⟨id,len,e⟩)
 simp only [lO] at hl
 split at hl
 ·rename_i ob z' p' l q h' ho hu e1 e2;simp only [Ti,Tj] at hl;obtain ⟨rfl,rfl,rfl⟩:=hl;obtain ⟨⟨hv,rfl⟩,h1,h2,h3,h4,rfl⟩:=hp;obtain ⟨e,hu,hsz⟩:=kG hu;have b1:=dO e1 h1 hlo.1 hlo.2;have b2:=dO e2 h2 hhi.1 hhi.2;have hvm:=hmx.2 rfl;subst hvm;cases hr;obtain ⟨ad,cap,hx,hcap,hfin⟩:=mV (ln h ho hv) h3 h4 (SY _);rw [hx];have hb:=cv (P:=P) (w:=w) (b:=true) (len:=ob.rows.length) (cap:=cap) (m:=cap) (lo:=vl) (hi:=vh) (mx:=none) b1 (b2.imp (fun e=>⟨e.1,e.2,rfl⟩) (fun e=>e)) (.inl ⟨rfl,rfl⟩) h3 (by omega) (SY _)
  have:=hfin cap hcap (SY _)
  rw [List.take_length] at this;refine ⟨_,w,nu, ?_,c6 id,kW h id,this⟩;simp [Instr.sliceAt,Instr.slice,run_underlying hu,hb,run_sizeOf hsz]
 ·rename_i ob z' p' l q h' mm ho hu e1 e2
  split at hl
  ·rename_i r' m' _ e3;simp only [Ti,Tj] at hl;obtain ⟨rfl,rfl,rfl⟩:=hl;obtain ⟨⟨hv,rfl⟩,h1,h2,h5,rfl,rfl,rfl,rfl⟩:=hp;obtain ⟨e,hu,hsz⟩:=kG hu;have b1:=dO e1 h1 hlo.1 hlo.2;have b2:=dO e2 h2 hhi.1 hhi.2;have b3:=dO e3 h5 hmx.1 hmx.2
   have hvh: ∃y,vh=some y:=by obtain ⟨y,hy,_⟩:=hhi.1 _ rfl;exact ⟨y,hy⟩
   have hvm: ∃y,vm=some y:=by obtain ⟨y,hy,_⟩:=hmx.1 _ rfl;exact ⟨y,hy⟩
   cases hr;obtain ⟨ad,cap,hx,hcap,_⟩:=mV (ln h ho hv) (SY 0) (SY 0) (Te _);rw [hx]
   have hb:=cv (P:=P) (w:=w) (b:=true) (len:=ob.rows.length) (cap:=cap) (m:=0) (lo:=vl) (hi:=vh) (mx:=vm) b1 (.inr (b2.resolve_left (fun e=>by obtain ⟨y,hy⟩:=hvh;rw [hy] at e;cases e.1)))
    (.inr (b3.resolve_left (fun e=>by obtain ⟨y,hy⟩:=hvm;rw [hy] at e;cases e.1))) (SY 0) (SY 0) (Te _)
   refine Good.pure (v:= .slice ad 0 0) h (.full _ _ ⟨_,_,rfl⟩ ?_) ?_
   ·cases ad with
    | none=>exact .bf _
    | some a=>exact .bA _ a
   ·simp [Instr.sliceAt,Instr.slice,run_underlying hu,hb,run_sizeOf hsz]
  ·cases hl
 ·cases hl
def c8 (P:Program) (T:TypeId) (f:Nat):Option Nat:=match P.underlying T with
 | some (.struct fs)=>match fs[f]? with
  | some fd=>match aY P fd.type with
   | some n=>if n=0 then none else some fd.offset
   | none=>none
  | none=>none
 | _=>none
def sw:AV->Nat->Option AV
 | .vp cs,k=>some (.vp (cs.drop k))
 | .ptr id len z row off,k=>some (.ptr id len z row (off+k))
 | _,_=>none
theorem tj {a:AV} {x:Value} (hr:RA D nu o w a x) {k:Nat} {r:AV} (h:sw a k=some r): ∃b off,x = .pointer (some ⟨b,off,none⟩)∧RA D nu o w r (.pointer (some ⟨b,off+k,none⟩)):=by
 cases a with
 | vp cs=>
  simp only [sw,Ti] at h;subst h
  cases hr with
  | vp _ b off f h1 h2 h3 h4=>
   refine ⟨b,off,rfl, .vp _ b (off+k) (fun j=>f (k+j)) h1 (fun j c hc=> ?_) (fun j c hc=> ?_) (fun j c hc=> ?_)⟩
   ·rw [Tl] at hc;rw [show off+k+j=off+(k+j) by omega];exact h2 _ c hc
   ·rw [Tl] at hc;exact h3 _ c hc
   ·rw [Tl] at hc;exact h4 _ c hc
 | ptr id len z row off=>
  simp only [sw,Ti] at h;subst h
  cases hr with
  | ptr _ _ _ _ _ b h1 h2=>
   refine ⟨b,row * z+off,rfl, ?_⟩;rw [show row * z+off+k=row * z+(off+k) by omega];exact .ptr _ _ _ _ _ _ h1 h2
 | _=>cases h
def jd (P:Program) (T:TypeId) (f:Nat) (a:AV):Option AV:=match c8 P T f with
 | some k=>sw a k
 | none=>none
theorem qD {T:TypeId} {f:Nat} {a:AV} {x:Value} (hr:RA D nu o w a x) {r:AV} (h:jd P T f a=some r): ∃v,(Instr.fieldAt T x f).run P w = .ok v w∧RA D nu o w r v:=by
 unfold jd at h
 split at h
 ·rename_i k hk;obtain ⟨b,off,rfl,hr'⟩:=tj hr h;unfold c8 at hk
  split at hk
  ·rename_i fs hu
   split at hk
   ·rename_i fd hfd
    split at hk
    ·rename_i n hn
     split at hk
     ·cases hk
     ·rename_i hne;simp only [Ti] at hk;subst hk;refine ⟨_, ?_,hr'⟩;simp [Instr.fieldAt,run_underlying hu,hfd,Instr.sureAddr,fieldPlace,run_sizeOf hn,hne,Addr.add_lit]
    ·cases hk
   ·cases hk
  ·cases hk
 ·cases h
def GO (P:Program) (T:TypeId) (f:Nat):Option (Nat×Bool×Nat):=match P.underlying T with
 | some (.struct fs)=>match fs[f]? with
  | some fd=>match cp P fd.type,aY P fd.type with
   | some b,some n=>some (fd.offset,b,n)
   | _,_=>none
  | none=>none
 | _=>none
def uf (P:Program) (T:TypeId) (f:Nat):AV->Option (Prop×AV)
 | .agg cs=>match GO P T f with
  | some (off,true,n)=>some (off+n<=cs.length, .agg ((cs.drop off).take n))
  | some (off,false,_)=>match cs[off]? with
   | some c=>some (True,c)
   | none=>none
  | none=>none
 | _=>none
theorem zq {T:TypeId} {f:Nat} {a:AV} {x:Value} (hr:RA D nu o w a x) {p:Prop} {r:AV} (h:uf P T f a=some (p,r)) (hp:p): ∃v,(Instr.field T x f).run P w = .ok v w∧RA D nu o w r v:=by
 cases a with
 | agg cs=>
  cases hr with
  | agg _ xs k1 k2 k3=>
  simp only [uf] at h
  have key: ∀off b n,GO P T f=some (off,b,n)-> ∃fs fd,P.underlying T=some (.struct fs)∧fs[f]? = some fd∧cp P fd.type=some b∧aY P fd.type=some n∧fd.offset=off:=by
   intro off b n hh;unfold GO at hh
   split at hh
   ·rename_i fs hu
    split at hh
    ·rename_i fd hfd
     split at hh
     ·rename_i b' n' e1 e2;cases hh;exact ⟨fs,fd,hu,hfd,e1,e2,rfl⟩
     ·cases hh
    ·cases hh
   ·cases hh
  split at h
  ·rename_i off n ht;obtain ⟨fs,fd,hu,hfd,e1,e2,rfl⟩:=key _ _ _ ht;simp only [Ti,Tj] at h;obtain ⟨rfl,rfl⟩:=h
   refine ⟨.agg (xs.extract fd.offset (fd.offset+n)), ?_, .agg _ _ (by simp;omega) (fun i c y q1 q2=> ?_) (fun i y q2=> ?_)⟩
   ·simp [Instr.field,run_underlying hu,hfd,asAgg,part,ew e1,run_sizeOf e2]
   ·rw [To] at q1
    split at q1
    ·rw [Tl] at q1;rw [TO] at q2
     split at q2
     ·exact k2 _ c y q1 q2
     ·cases q2
    ·cases q1
   ·rw [TO] at q2
    split at q2
    ·exact k3 _ y q2
    ·cases q2
  ·rename_i off n ht;obtain ⟨fs,fd,hu,hfd,e1,e2,rfl⟩:=key _ _ _ ht
   split at h
   ·rename_i c hc;simp only [Ti,Tj] at h;obtain ⟨rfl,rfl⟩:=h
    have hlt:fd.offset<xs.size:=by rw [<-k1];exact (S7.1 hc).1
    have hx:xs[fd.offset]? = some xs[fd.offset]:=Tm hlt;refine ⟨xs[fd.offset], ?_,k2 _ c _ hc hx⟩;simp [Instr.field,run_underlying hu,hfd,asAgg,part,ew e1,hx]
   ·cases h
  ·cases h
 | _=>cases h
def je (P:Program) (T:TypeId) (o:List (Option aa)) (a i:AV):Option (Prop×AV):=match P.underlying T,i with
 | some (.slice e), .v (.int _ i)=>match aY P e,a with
  | some z, .aI z' rows len=>some (z'=z∧0<=i∧i<len, .vp (rows.getD i.toNat []))
  | some z, .vec id len=>match o[id]? with
   | some (some ob)=>some (ob.dj=true∧ob.z=z∧ob.rows.length=len∧0<=i∧i<len, .ptr id len z i.toNat 0)
   | _=>none
  | _,_=>none
 | some (.array n e), .v (.int _ i)=>match aY P e with
  | some z=>match sw a (i.toNat * z) with
   | some r=>some (0<=i∧i<n,r)
   | none=>none
  | none=>none
 | _,_=>none
theorem qE {T:TypeId} (h:RO D nu o w) {a i:AV} {x y:Value} (hr:RA D nu o w a x) (hi:RA D nu o w i y) {p:Prop} {r:AV} (hl:je P T o a i=some (p,r)) (hp:p): ∃v,(Instr.indexAt T x y).run P w = .ok v w∧RA D nu o w r v:=by
 unfold je at hl
 split at hl
 ·rename_i e k i' hu;cases hi
  split at hl
  ·rename_i z z' rows len hz;simp only [Ti,Tj] at hl;obtain ⟨rfl,rfl⟩:=hl;obtain ⟨rfl,h0,h1⟩:=hp
   cases hr with
   | bf=>omega
   | bA=>omega
   | aI _ _ _ b off cap f k1 k2 k3 k4 k5 k6 k7 k8=>
    have hlt:i'.toNat<rows.length:=by omega
    have hrow:rows[i'.toNat]? = some rows[i'.toNat]:=Tn hlt;rw [getD_some hrow];refine ⟨.pointer (some ⟨b,off+i'.toNat * z',none⟩), ?_, .vp _ b _ (fun j=>f i'.toNat j) (k4 (fun e=>by subst e;simp at hlt)) (fun j c hc=>k6 _ j _ c hrow hc) (fun j c hc=>k7 _ j _ c hrow hc) (fun j c hc=>k8 _ j _ c hrow hc)⟩;simp [Instr.indexAt,run_underlying hu,asIntOf,h0,h1,run_sizeOf hz,Addr.add_lit]
  ·rename_i z id len hz
   split at hl
   ·rename_i ob ho;simp only [Ti,Tj] at hl;obtain ⟨rfl,rfl⟩:=hl;obtain ⟨hv,rfl,rfl,h0,h1⟩:=hp
    cases hr with
    | vec _ _ q1 q2=>
    rcases h.obj id ob ho with ⟨e1,e2,e3⟩|⟨g,cur,hb⟩|⟨g,es,cl,hmp⟩
    rotate_left 2
    ·rw [hmp.dj] at hv;cases hv
    ·rw [e2] at h1;simp at h1;omega
    ·obtain ⟨cap,q3,_⟩:=hb.vec hv;refine ⟨.pointer (some ⟨g,i'.toNat * ob.z+0,none⟩), ?_, .ptr id _ _ _ _ g q1 (by rw [q3];rfl)⟩;rw [q3];simp [Instr.indexAt,run_underlying hu,asIntOf,h0,h1,run_sizeOf hz,Addr.add_lit]
   ·cases hl
  ·cases hl
 ·rename_i n e k i' hu;cases hi
  split at hl
  ·rename_i z hz
   split at hl
   ·rename_i r' hpl;simp only [Ti,Tj] at hl;obtain ⟨rfl,rfl⟩:=hl;obtain ⟨b,off,rfl,hr'⟩:=tj hr hpl;refine ⟨_, ?_,hr'⟩;simp [Instr.indexAt,run_underlying hu,Instr.sureAddr,asIntOf,hp.1,hp.2,run_sizeOf hz,Addr.add_lit]
   ·cases hl
  ·cases hl
 ·cases hl
end
abbrev AK:=AS->Prop
theorem wA {p q:Prop} (k:q) (h:p:=by omega):p∧q:=⟨h,k⟩
end
end Go.Proofs.YtlhhccmopfamhaaGreatDoor
