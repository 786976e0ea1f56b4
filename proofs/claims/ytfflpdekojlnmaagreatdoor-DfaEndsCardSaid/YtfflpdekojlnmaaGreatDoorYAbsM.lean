/- texts of one claim, one behind the other. -/
import Derived.Attr
import Derived.WalkKit
import Derived.Lib.Hide
import Derived.Maps.AppendAt
import Derived.Laws.Tables
import Derived.Laws.StructEq
import Derived.MapKept
set_option linter.unusedSimpArgs false
set_option linter.unusedVariables false
set_option maxRecDepth 100000
set_option maxHeartbeats 16000000
open Option.some renaming inj -> WL, injEq -> W7
open Array renaming getElem?_eq_some_iff -> WR, getElem?_eq_getElem -> Xa, length_toList -> Xo, getElem?_append_left -> Xx, getElem?_range -> XA, getElem?_extract -> XB, getElem?_push_lt -> XF, getElem?_push_size -> XG, getElem?_push -> XH
open List renaming length_nil -> WS, getElem?_eq_some_iff -> WT, getElem?_append_left -> WU, getElem?_concat_length -> WW, length_append -> WX, length_cons -> WY, getElem?_drop -> W9, getElem?_eq_getElem -> Xb, getElem?_take -> Xc, getElem?_toArray -> Xd, getElem?_map -> Xe, getElem?_range -> Xf, getElem?_eq_none -> Xg, getElem?_set_ne -> Xi, getElem?_set_self -> Xj, getElem?_of_mem -> Xk, size_toArray -> Xl, length_take -> Xm, append_assoc -> Xp, getElem?_take_of_lt -> Xq, getElem?_append_right -> Xr, mem_of_getElem? -> Xw, eq_nil_of_length_eq_zero -> Xy, getElem?_replicate -> Xz
open Nat renaming le_refl -> WN, le_trans -> WO, lt_of_lt_of_le -> WQ, lt_or_ge -> WV, zero_le -> WZ, mul_le_mul_right -> W4, add_mul -> W5, one_mul -> W6, add_zero -> Xh, mul_comm -> Xs, div_lt_of_lt_mul -> Xt
open Ne renaming symm -> Xv
open Option renaming map_some -> Xu, map_eq_some_iff -> XE
open Prod.mk renaming injEq -> W8
namespace Go.Proofs.YtfflpdekojlnmaaGreatDoor
open Go.RowKit
attribute [go_sem_proc] Nat.reduceAdd Nat.reduceSub Nat.reduceMul Nat.reduceLeDiff Nat.reduceEqDiff Nat.reduceLT Int.reduceToNat reduceCtorEq Int.reduceLE Int.reduceLT Int.reduceNeg Int.reduceEq Int.reduceBEq Int.reduceBNe
attribute [go_sem_proc ↓] reduceIte
/-- the variables that are laid -/ def xe (g:Nat):Option (TypeId×Array Value):=
 if g=0 then some (203, #[.int .u8 0, .int .u8 1, .int .u8 28, .int .u8 2, .int .u8 29, .int .u8 14, .int .u8 24, .int .u8 3, .int .u8 30, .int .u8 22, .int .u8 20, .int .u8 15, .int .u8 25, .int .u8 17, .int .u8 4, .int .u8 8, .int .u8 31, .int .u8 27, .int .u8 13, .int .u8 23, .int .u8 21, .int .u8 19, .int .u8 16, .int .u8 7, .int .u8 26, .int .u8 12, .int .u8 18, .int .u8 6, .int .u8 11, .int .u8 5, .int .u8 10, .int .u8 9]) else
 if g=1 then some (217, #[.int .u64 1, .int .u64 10, .int .u64 100, .int .u64 1000, .int .u64 10000, .int .u64 100000, .int .u64 1000000, .int .u64 10000000, .int .u64 100000000, .int .u64 1000000000, .int .u64 10000000000, .int .u64 100000000000, .int .u64 1000000000000, .int .u64 10000000000000, .int .u64 100000000000000, .int .u64 1000000000000000, .int .u64 10000000000000000, .int .u64 100000000000000000, .int .u64 1000000000000000000, .int .u64 10000000000000000000]) else
 none
theorem GH (g:Nat) (T:TypeId) (cs:Array Value) (h:xe g=some (T,cs)): ∀(i:Nat) x,cs[i]? = some x->x.oneCell'=true:=by
 intro i x hx;have key: ∀l:Array Value,cs=l->l.toList.all (fun v=>v.oneCell')=true->x.oneCell'=true:=fun l e hl=>List.all_eq_true.1 hl x (List.mem_of_getElem? (by subst e;simpa using hx))
 by_cases hg:g=0
 ·rw [xe,if_pos hg] at h;exact key _ (Prod.mk.inj (WL h)).2.symm (by rfl)
 rw [xe,if_neg hg] at h
 by_cases hg:g=1
 ·rw [if_pos hg] at h;exact key _ (Prod.mk.inj (WL h)).2.symm (by rfl)
 rw [if_neg hg] at h;cases h
inductive AV where
 | undef
 | v (x:Value)
 | agg (cs:List AV)
 | cI (vs:List AV)
 | aB (z:Nat) (rows:List (List AV)) (len:Nat)
 | vp (cs:List AV)
 | ptr (id len z row off:Nat)
 | vec (id len:Nat)
 | fn (g:FuncId) (first caps:List AV)
 | full (a:AV)
 | kF (p:(Nat->Prop)->World->Value->Prop) (a:AV)
 | mp (rows:List (List AV))
structure ab where
 T:TypeId
 z:Nat
 gw:Bool
 rows:List (List AV)
def ab.hl (ob:ab):Nat:=if ob.gw then ob.rows.length else 0
inductive jA where
 | no
 | run (l:Nat) (rest:List (List AV))
 | off
structure AS where
 t:List AV
 o:List (Option ab)
 y:jA
def cq:Value->Option Nat
 | .pointer (some a)=>some a.block
 | .slice (some a) _ _=>some a.block
 | _=>none
def cX:Value->Option Nat
 | .map b=>b
 | v=>cq v
theorem ER {v:Value} {b:Nat} (h:cq v=some b):cX v=some b:=by cases v<;>first|exact h|cases h
def AV.st:AV->AV
 | .full a=>a
 | .kF _ a=>a
 | a=>a
def dr (o:List (Option ab)) (id len:Nat):Prop:= ∃ob,o[id]? = some ob∧ ∀x,ob=some x->len<=x.hl
def owned (nu:Nat->Nat->Value) (o:List (Option ab)) (b:Nat):Prop:= ∃id ob,o[id]? = some (some ob)∧cX (nu id ob.hl)=some b
def Fz (D:Nat->Prop) (nu:Nat->Nat->Value) (o:List (Option ab)) (w:World) (b:Nat):Prop:=b<w.heap.size∧ ¬owned nu o b∧D b
def Sb (e:MapEntry):Nat->Value
 | 0=>e.key
 | _=>e.val
inductive RA (D:Nat->Prop) (nu:Nat->Nat->Value) (o:List (Option ab)) (w:World):AV->Value->Prop
 | undef (x:Value):RA D nu o w .undef x
 | v (x:Value):RA D nu o w (.v x) x
 | agg (cs:List AV) (xs:Array Value):cs.length=xs.size->(∀(i:Nat) c x,cs[i]? = some c->xs[i]? = some x->RA D nu o w c x)->(∀(i:Nat) x,xs[i]? = some x->x.oneCell'=true)->RA D nu o w (.agg cs) (.agg xs)
 | cI (cs:List AV) (xs:Array Value):cs.length=xs.size->(∀(i:Nat) c x,cs[i]? = some c->xs[i]? = some x->RA D nu o w c x)->RA D nu o w (.cI cs) (.tuple xs)
 | bu (z:Nat):RA D nu o w (.aB z [] 0) (.slice none 0 0)
 | bL (z:Nat) (a:Addr):RA D nu o w (.aB z [] 0) (.slice (some a) 0 0)
 | aB (z:Nat) (rows:List (List AV)) (len b off cap:Nat) (f:Nat->Nat->Value):len<=rows.length->rows.length<=cap->cap<=maxLen->(rows≠[]->Fz D nu o w b) ->
   (∀(i:Nat) row,rows[i]? = some row->row.length=z)->(∀(i j:Nat) row c,rows[i]? = some row->row[j]? = some c->w.cell? ⟨b,off+i * z+j,none⟩=some (f i j)) ->
   (∀(i j:Nat) row c,rows[i]? = some row->row[j]? = some c->RA D nu o w c (f i j))->(∀(i j:Nat) row c,rows[i]? = some row->row[j]? = some c->(f i j).oneCell'=true) ->
   RA D nu o w (.aB z rows len) (.slice (some ⟨b,off,none⟩) len cap)
 | vp (cs:List AV) (b off:Nat) (f:Nat->Value):Fz D nu o w b->(∀(j:Nat) c,cs[j]? = some c->w.cell? ⟨b,off+j,none⟩=some (f j))->(∀(j:Nat) c,cs[j]? = some c->RA D nu o w c (f j)) ->
   (∀(j:Nat) c,cs[j]? = some c->(f j).oneCell'=true)->RA D nu o w (.vp cs) (.pointer (some ⟨b,off,none⟩))
 | ptr (id len z row off b:Nat):dr o id len->cq (nu id len)=some b->RA D nu o w (.ptr id len z row off) (.pointer (some ⟨b,row * z+off,none⟩))
 | vec (id len:Nat):dr o id len->(nu id len).oneCell'=true->RA D nu o w (.vec id len) (nu id len)
 | fn (g:FuncId) (first caps:List AV) (fi ca:Array Value):first.length=fi.size->caps.length=ca.size->(∀(i:Nat) c x,first[i]? = some c->fi[i]? = some x->RA D nu o w c x) ->
   (∀(i:Nat) c x,caps[i]? = some c->ca[i]? = some x->RA D nu o w c x)->RA D nu o w (.fn g first caps) (.func (.func g) fi ca)
 | full (a:AV) (x:Value):(∃ad n,x = .slice ad n n)->RA D nu o w a x->RA D nu o w (.full a) x
 | kF (p:(Nat->Prop)->World->Value->Prop) (a:AV) (x:Value) (S:Nat->Prop):x.oneCell'=true->(∀b,S b->Fz D nu o w b)->(∀b,S b-> ∃C T k,w.heap[b]? = some (.cells C T k))->(∀w':World,(∀b,S b->w'.heap[b]? = w.heap[b]?)->p S w' x)->RA D nu o w a x->RA D nu o w (.kF p a) x
 | mp (rows:List (List AV)) (b:Nat) (es:Array MapEntry) (cl:Nat):Fz D nu o w b->w.heap[b]? = some (.map es cl)->es.size=rows.length->(∀(i:Nat) row,rows[i]? = some row->row.length=2)->(∀(i:Nat) e,es[i]? = some e->e.born<cl) ->
   (∀(i j:Nat) e e',es[i]? = some e->es[j]? = some e'->i<j->e.born<e'.born)->(∀(i j:Nat) row c e,rows[i]? = some row->row[j]? = some c->es[i]? = some e->RA D nu o w c (Sb e j))->RA D nu o w (.mp rows) (.map (some b))
theorem RA.st {D:Nat->Prop} {nu:Nat->Nat->Value} {o:List (Option ab)} {w:World} {a:AV} {x:Value} (h:RA D nu o w a x):RA D nu o w a.st x:=by
 cases h with
 | full a x h1 h2=>exact h2
 | kF p a x S h0 h1 hc h2 h3=>exact h3
 | mp rows b es cl h1 h2 h3 h4 h5 h6 h7=>exact .mp rows b es cl h1 h2 h3 h4 h5 h6 h7
 | undef=>exact .undef _
 | v=>exact .v _
 | agg cs xs h1 h2 h3=>exact .agg cs xs h1 h2 h3
 | cI cs xs h1 h2=>exact .cI cs xs h1 h2
 | bu z=>exact .bu z
 | bL z a=>exact .bL z a
 | aB z rows len b off cap f h1 h2 h3 h4 h5 h6 h7 h8=>exact .aB z rows len b off cap f h1 h2 h3 h4 h5 h6 h7 h8
 | vp cs b off f h1 h2 h3 h4=>exact .vp cs b off f h1 h2 h3 h4
 | ptr id len z row off b h1 h2=>exact .ptr id len z row off b h1 h2
 | vec id len h1 h2=>exact .vec id len h1 h2
 | fn g first caps fi ca h1 h2 h3 h4=>exact .fn g first caps fi ca h1 h2 h3 h4
structure gb (D:Nat->Prop) (nu:Nat->Nat->Value) (o:List (Option ab)) (w:World) (cs:List AV) (xs:Array Value):Prop where
 len:cs.length=xs.size
 at': ∀(i:Nat) c x,cs[i]? = some c->xs[i]? = some x->RA D nu o w c x
structure bK (nu:Nat->Nat->Value) (o:List (Option ab)) (w:World) (nu':Nat->Nat->Value) (o':List (Option ab)) (w':World):Prop where
 os:w'.os=w.os
 tape:w'.tape=w.tape
 output:w'.output=w.output
 size:w.heap.size<=w'.heap.size
 sI: ∀id len,dr o id len->dr o' id len∧nu' id len=nu id len
 keep: ∀b,b<w.heap.size-> ¬owned nu o b->w'.heap[b]? = w.heap[b]? ∧ ¬owned nu' o' b
theorem bK.refl (nu:Nat->Nat->Value) (o:List (Option ab)) (w:World):bK nu o w nu o w:=⟨rfl,rfl,rfl,WN _,fun _ _ h=>⟨h,rfl⟩,fun _ _ h=>⟨rfl,h⟩⟩
theorem bK.trans {nu nu1 nu2:Nat->Nat->Value} {o o1 o2:List (Option ab)} {w w1 w2:World} (h:bK nu o w nu1 o1 w1) (k:bK nu1 o1 w1 nu2 o2 w2):bK nu o w nu2 o2 w2:=
 ⟨k.os.trans h.os,k.tape.trans h.tape,k.output.trans h.output,WO h.size k.size,fun id len hh=>by
  obtain ⟨h1,h2⟩:=h.sI id len hh;obtain ⟨h3,h4⟩:=k.sI id len h1
  exact ⟨h3,h4.trans h2⟩,fun b hb ho=>by
  obtain ⟨h1,h2⟩:=h.keep b hb ho;obtain ⟨h3,h4⟩:=k.keep b (WQ hb h.size) h2
  exact ⟨h3.trans h1,h4⟩⟩
theorem bK.fz {D D':Nat->Prop} {nu nu':Nat->Nat->Value} {o o':List (Option ab)} {w w':World} (h:bK nu o w nu' o' w') (hD: ∀b,b<w.heap.size->D b->D' b) {b:Nat} (hb:Fz D nu o w b):Fz D' nu' o' w' b:=
 ⟨WQ hb.1 h.size,(h.keep b hb.1 hb.2.1).2,hD b hb.1 hb.2.2⟩
theorem RA.mono {D D':Nat->Prop} {nu nu':Nat->Nat->Value} {o o':List (Option ab)} {w w':World} (h:bK nu o w nu' o' w') (hD: ∀b,b<w.heap.size->D b->D' b) {a:AV} {x:Value} (hr:RA D nu o w a x):RA D' nu' o' w' a x:=by
 induction hr with
 | undef x=>exact .undef x
 | v x=>exact .v x
 | agg cs xs h1 _ h3 ih=>exact .agg cs xs h1 ih h3
 | cI cs xs h1 _ ih=>exact .cI cs xs h1 ih
 | bu z=>exact .bu z
 | bL z a=>exact .bL z a
 | aB z rows len b off cap f h1 h2 h3 h4 h5 h6 _ h8 ih=>
  refine .aB z rows len b off cap f h1 h2 h3 (fun hne=>h.fz hD (h4 hne)) h5 (fun i j row c hr hc=> ?_) ih h8
  have hne:rows≠[]:=fun e=>by subst e;simp at hr
  have hf:=h4 hne;rw [World.cell?_of_block (w:=w) (h.keep b hf.1 hf.2.1).1];exact h6 i j row c hr hc
 | vp cs b off f h1 h2 _ h4 ih=>
  refine .vp cs b off f (h.fz hD h1) (fun j c hc=> ?_) ih h4;rw [World.cell?_of_block (w:=w) (h.keep b h1.1 h1.2.1).1];exact h2 j c hc
 | ptr id len z row off b h1 h2=>
  obtain ⟨h3,h4⟩:=h.sI id len h1;exact .ptr id len z row off b h3 (by rw [h4];exact h2)
 | vec id len h1 h2=>
  obtain ⟨h3,h4⟩:=h.sI id len h1;rw [<-h4];exact .vec id len h3 (by rw [h4];exact h2)
 | fn g first caps fi ca h1 h2 _ _ ih1 ih2=>exact .fn g first caps fi ca h1 h2 ih1 ih2
 | full a x h1 _ ih=>exact .full a x h1 ih
 | kF p a x S h0 h1 hc h2 _ ih=>exact .kF p a x S h0 (fun b hb=>h.fz hD (h1 b hb)) (fun b hb=>by rw [(h.keep b (h1 b hb).1 (h1 b hb).2.1).1];exact hc b hb) (fun w2 hw=>h2 w2 (fun b hb=>(hw b hb).trans (h.keep b (h1 b hb).1 (h1 b hb).2.1).1)) ih
 | mp rows b es cl h1 h2 h3 h4 h5 h6 _ ih=>exact .mp rows b es cl (h.fz hD h1) ((h.keep b h1.1 h1.2.1).1.trans h2) h3 h4 h5 h6 ih
theorem gb.mono {D D':Nat->Prop} {nu nu':Nat->Nat->Value} {o o':List (Option ab)} {w w':World} (h:bK nu o w nu' o' w') (hD: ∀b,b<w.heap.size->D b->D' b) {cs:List AV} {xs:Array Value} (hr:gb D nu o w cs xs):gb D' nu' o' w' cs xs:=
 ⟨hr.len,fun i c x h1 h2=>(hr.at' i c x h1 h2).mono h hD⟩
structure zP (D:Nat->Prop) (nu:Nat->Nat->Value) (o:List (Option ab)) (w:World) (id:Nat) (ob:ab) (g:Nat) (cur:Array Value):Prop where
 fl:w.heap[g]? = some (.cells cur ob.T (0,0))
 nY:D g
 box:ob.gw=false->nu id 0 = .pointer (some ⟨g,0,none⟩)∧ob.rows.length=1∧cur.size=ob.z
 vec:ob.gw=true-> ∃cap,nu id ob.rows.length = .slice (some ⟨g,0,none⟩) ob.rows.length cap∧ob.rows.length<=cap∧cap<=maxLen∧cur.size=cap * ob.z
 z:0<ob.z
 row: ∀(i:Nat) row,ob.rows[i]? = some row->row.length=ob.z
 cell: ∀(i j:Nat) row c x,ob.rows[i]? = some row->row[j]? = some c->cur[i * ob.z+j]? = some x->RA D nu o w c x
 one: ∀(i j:Nat) row c x,ob.rows[i]? = some row->row[j]? = some c->cur[i * ob.z+j]? = some x->x.oneCell'=true
structure zQ (D:Nat->Prop) (nu:Nat->Nat->Value) (o:List (Option ab)) (w:World) (id:Nat) (ob:ab) (g:Nat) (es:Array MapEntry) (clock:Nat):Prop where
 fl:w.heap[g]? = some (.map es clock)
 nY:D g
 sI:nu id 0 = .map (some g)
 gw:ob.gw=false
 z:ob.z=0
 sz:es.size=ob.rows.length
 row: ∀(i:Nat) row,ob.rows[i]? = some row->row.length=2
 key: ∀(i:Nat) row c e,ob.rows[i]? = some row->row[0]? = some c->es[i]? = some e->RA D nu o w c e.key
 val: ∀(i:Nat) row c e,ob.rows[i]? = some row->row[1]? = some c->es[i]? = some e->RA D nu o w c e.val
 born: ∀(i:Nat) e,es[i]? = some e->e.born<clock
 wi: ∀(i j:Nat) e e',es[i]? = some e->es[j]? = some e'->i<j->e.born<e'.born
def e8 (D:Nat->Prop) (nu:Nat->Nat->Value) (o:List (Option ab)) (w:World):Prop:= ∀g T cs,xe g=some (T,cs)->(∃t,w.heap[g]? = some (.cells cs t (0,0)))∧ ¬owned nu o g∧D g
theorem e8.keep {D D':Nat->Prop} {nu nu':Nat->Nat->Value} {o o':List (Option ab)} {w w':World} (h:e8 D nu o w) (hk: ∀b,b<w.heap.size-> ¬owned nu o b->D b->w'.heap[b]? = w.heap[b]? ∧ ¬owned nu' o' b∧D' b):e8 D' nu' o' w':=fun g T cs hg=>by
 obtain ⟨⟨t,h1⟩,h2,h3⟩:=h g T cs hg;obtain ⟨k1,k2,k3⟩:=hk g (WR.1 h1).1 h2 h3;exact ⟨⟨t,k1.trans h1⟩,k2,k3⟩
theorem e8.fz {D D':Nat->Prop} {nu nu':Nat->Nat->Value} {o o':List (Option ab)} {w w':World} (h:e8 D nu o w) (hF: ∀b,Fz D nu o w b->w'.heap[b]? = w.heap[b]? ∧Fz D' nu' o' w' b):e8 D' nu' o' w':=
 h.keep fun b hb ho hd=>⟨(hF b ⟨hb,ho,hd⟩).1,(hF b ⟨hb,ho,hd⟩).2.2⟩
theorem uY (nu:Nat->Nat->Value) (b:Nat): ¬owned nu [] b:=fun ⟨id,ob,h,_⟩=>by simp at h
theorem e8.nil {D D':Nat->Prop} {nu nu':Nat->Nat->Value} {o:List (Option ab)} {w:World} (h:e8 D nu o w) (hD: ∀b,b<w.heap.size->D b->D' b):e8 D' nu' [] w:=h.keep fun b hb _ hd=>⟨rfl,uY _ _,hD b hb hd⟩
theorem e8.mono {D D':Nat->Prop} {nu nu':Nat->Nat->Value} {o o':List (Option ab)} {w w':World} (h:e8 D nu o w) (hm:bK nu o w nu' o' w') (hD: ∀b,b<w.heap.size->D b->D' b):e8 D' nu' o' w':=
 h.keep fun b hb ho hd=>⟨(hm.keep b hb ho).1,(hm.keep b hb ho).2,hD b hb hd⟩
structure RO (D:Nat->Prop) (nu:Nat->Nat->Value) (o:List (Option ab)) (w:World):Prop where
 obj: ∀id ob,o[id]? = some (some ob)->(ob.gw=true∧ob.rows=[]∧nu id 0 = .slice none 0 0)∨(∃g cur,zP D nu o w id ob g cur)∨ ∃g es clock,zQ D nu o w id ob g es clock
 up: ∀b,w.heap.size<=b->D b
 sep: ∀id id' ob ob' b,o[id]? = some (some ob)->o[id']? = some (some ob')->id≠id'->cX (nu id ob.hl)=some b->cX (nu id' ob'.hl)≠some b
 gl:e8 D nu o w
theorem RO.nil (D:Nat->Prop) (nu:Nat->Nat->Value) (w:World) (up: ∀b,w.heap.size<=b->D b) (gl:e8 D nu [] w):RO D nu [] w:=⟨fun id ob h=>by simp at h,up,fun id id' ob ob' b h=>by simp at h,gl⟩
theorem bb (nu:Nat->Nat->Value) (b:Nat): ¬owned nu [] b:=fun ⟨id,ob,h,_⟩=>by simp at h
theorem zP.pE {D:Nat->Prop} {nu:Nat->Nat->Value} {o:List (Option ab)} {w:World} {id:Nat} {ob:ab} {g:Nat} {cur:Array Value} (h:zP D nu o w id ob g cur):cq (nu id ob.hl)=some g:=by
 cases hv:ob.gw
 ·simp only [ab.hl,hv,Bool.false_eq_true,if_false];rw [(h.box hv).1];rfl
 ·obtain ⟨cap,h1,_⟩:=h.vec hv;simp only [ab.hl,hv,if_true];rw [h1];rfl
theorem zP.bF {D:Nat->Prop} {nu:Nat->Nat->Value} {o:List (Option ab)} {w:World} {id:Nat} {ob:ab} {g:Nat} {cur:Array Value} (h:zP D nu o w id ob g cur):cX (nu id ob.hl)=some g:=ER h.pE
theorem zQ.hl {D:Nat->Prop} {nu:Nat->Nat->Value} {o:List (Option ab)} {w:World} {id:Nat} {ob:ab} {g clock:Nat} {es:Array MapEntry} (h:zQ D nu o w id ob g es clock):ob.hl=0:=by simp [ab.hl,h.gw]
theorem zQ.bF {D:Nat->Prop} {nu:Nat->Nat->Value} {o:List (Option ab)} {w:World} {id:Nat} {ob:ab} {g clock:Nat} {es:Array MapEntry} (h:zQ D nu o w id ob g es clock):cX (nu id ob.hl)=some g:=by rw [h.hl,h.sI];rfl
theorem zQ.Kt {D:Nat->Prop} {nu:Nat->Nat->Value} {o:List (Option ab)} {w:World} {id:Nat} {ob:ab} {g clock:Nat} {es:Array MapEntry} (h:zQ D nu o w id ob g es clock) {len:Nat} (hl:len<=ob.hl) {b:Nat}:cq (nu id len)≠some b:=by
 have:=h.hl
 obtain rfl:len=0:=by omega
 rw [h.sI];exact fun e=>by cases e
theorem zQ.tr {D D':Nat->Prop} {nu nu':Nat->Nat->Value} {o o':List (Option ab)} {w w':World} {id id':Nat} {ob:ab} {g clock:Nat} {es:Array MapEntry} (h:zQ D nu o w id ob g es clock) (hb:w'.heap[g]? = w.heap[g]?) (hd:D g->D' g) (hn:nu' id' 0=nu id 0)
  (hr: ∀(i j:Nat) row c x,ob.rows[i]? = some row->row[j]? = some c->RA D nu o w c x->RA D' nu' o' w' c x):zQ D' nu' o' w' id' ob g es clock:=
 ⟨hb.trans h.fl,hd h.nY,hn.trans h.sI,h.gw,h.z,h.sz,h.row,fun i row c e q1 q2 q3=>hr i 0 row c _ q1 q2 (h.key i row c e q1 q2 q3),fun i row c e q1 q2 q3=>hr i 1 row c _ q1 q2 (h.val i row c e q1 q2 q3),h.born,h.wi⟩
theorem zQ.rows {D D':Nat->Prop} {nu nu':Nat->Nat->Value} {o o':List (Option ab)} {w w':World} {id id':Nat} {ob ob':ab} {g clock:Nat} {es:Array MapEntry} (h:zQ D nu o w id ob g es clock) (hb:w'.heap[g]? = w.heap[g]?) (hd:D' g) (hn:nu' id' 0=nu id 0) (hV:ob'.gw=ob.gw) (hz:ob'.z=ob.z) (hl:ob'.rows.length=ob.rows.length)
  (hr: ∀(i:Nat) row',ob'.rows[i]? = some row'-> ∃row,ob.rows[i]? = some row∧row'.length=row.length∧ ∀(j:Nat) c',row'[j]? = some c'-> ∃c,row[j]? = some c∧ ∀x,RA D nu o w c x->RA D' nu' o' w' c' x):zQ D' nu' o' w' id' ob' g es clock:=by
 refine ⟨hb.trans h.fl,hd,hn.trans h.sI,hV.trans h.gw,hz.trans h.z,h.sz.trans hl.symm,fun i row hi=> ?_,fun i row c e q1 q2 q3=> ?_,fun i row c e q1 q2 q3=> ?_,h.born,h.wi⟩
 ·obtain ⟨row0,k1,k2,_⟩:=hr i row hi;rw [k2];exact h.row i row0 k1
 ·obtain ⟨row0,k1,_,k3⟩:=hr i row q1;obtain ⟨c0,k4,k5⟩:=k3 0 c q2;exact k5 _ (h.key i row0 c0 e k1 k4 q3)
 ·obtain ⟨row0,k1,_,k3⟩:=hr i row q1;obtain ⟨c0,k4,k5⟩:=k3 1 c q2;exact k5 _ (h.val i row0 c0 e k1 k4 q3)
theorem RO.bn {D:Nat->Prop} {nu:Nat->Nat->Value} {o:List (Option ab)} {w:World} (h:RO D nu o w) {b:Nat} (hb:owned nu o b):b<w.heap.size:=by
 obtain ⟨id,ob,h1,h2⟩:=hb
 rcases h.obj id ob h1 with ⟨e1,e2,e3⟩|⟨g,cur,hr⟩|⟨g,es,cl,hmp⟩
 ·simp only [ab.hl,e1,e2,if_true,WS,e3,cX,cq] at h2;cases h2
 ·rw [hr.bF] at h2;cases h2;exact (WR.1 hr.fl).1
 ·rw [hmp.bF] at h2;cases h2;exact (WR.1 hmp.fl).1
theorem RO.same {D:Nat->Prop} {nu:Nat->Nat->Value} {o:List (Option ab)} {w w':World} (h:RO D nu o w) (hm:bK nu o w nu o w') (hk: ∀b,owned nu o b->w'.heap[b]? = w.heap[b]?):RO D nu o w':=
 ⟨fun id ob ho=>by
  rcases h.obj id ob ho with h1|⟨g,cur,hr⟩|⟨g,es,cl,hmp⟩
  ·exact .inl h1
  ·exact .inr (.inl ⟨g,cur,(hk g ⟨id,ob,ho,hr.bF⟩).trans hr.fl,hr.nY,hr.box,hr.vec,hr.z,hr.row,fun i j row c x h1 h2 h3=>(hr.cell i j row c x h1 h2 h3).mono hm (fun _ _ h=>h),hr.one⟩)
  ·exact .inr (.inr ⟨g,es,cl,hmp.tr (hk g ⟨id,ob,ho,hmp.bF⟩) (fun h=>h) rfl (fun i j row c x _ _ hr=>hr.mono hm (fun _ _ h=>h))⟩),fun b hb=>h.up b (WO hm.size hb),h.sep,h.gl.mono hm (fun _ _ h=>h)⟩
theorem ay {nu:Nat->Nat->Value} {o:List (Option ab)} {w w':World} (hb:Below w.heap.size w w'):bK nu o w nu o w':=
 ⟨hb.os,hb.tape,hb.output,hb.size,fun _ _ h=>⟨h,rfl⟩,fun b hlt ho=>⟨hb.block b hlt,ho⟩⟩
theorem RO.below {D:Nat->Prop} {nu:Nat->Nat->Value} {o:List (Option ab)} {w w':World} (h:RO D nu o w) (hb:Below w.heap.size w w'):RO D nu o w':=
 h.same (ay hb) (fun b ho=>hb.block b (h.bn ho))
def AV.cells? :AV->Option (List AV)
 | .undef=>none
 | .cI _=>none
 | .agg cs=>some cs
 | .v x=>if x.oneCell' then some [.v x] else none
 | a=>some [a]
theorem Gl {x:Value} (h:x.oneCell'=true):x.cells = #[x]:=by cases x<;>first|rfl|cases h
structure Mf (D:Nat->Prop) (nu:Nat->Nat->Value) (o:List (Option ab)) (w:World) (cs:List AV) (xs:Array Value):Prop extends gb D nu o w cs xs where
 one: ∀(i:Nat) x,xs[i]? = some x->x.oneCell'=true
theorem RA.one {D:Nat->Prop} {nu:Nat->Nat->Value} {o:List (Option ab)} {w:World} {a:AV} {x:Value} (h:RA D nu o w a x) {cs:List AV} (hc:a.cells? = some cs):Mf D nu o w cs x.cells:=by
 have key:x.oneCell'=true->cs=[a]->Mf D nu o w cs x.cells:=fun h1 h2=>by
  subst h2;rw [Gl h1]
  refine ⟨⟨rfl,fun i c y hi hy=> ?_⟩,fun i y hy=> ?_⟩
  ·cases i with
   | zero=>simp at hi hy;subst hi;subst hy;exact h
   | succ i=>simp at hi
  ·cases i with
   | zero=>simp at hy;subst hy;exact h1
   | succ i=>simp at hy
 cases h with
 | undef=>cases hc
 | cI=>cases hc
 | v=>simp only [AV.cells?] at hc;split at hc<;>cases hc;exact key ‹_› rfl
 | agg cs' xs h1 h2 h3=>cases hc;exact ⟨⟨h1,h2⟩,h3⟩
 | bu=>cases hc;exact key rfl rfl
 | bL=>cases hc;exact key rfl rfl
 | aB=>cases hc;exact key rfl rfl
 | vp=>cases hc;exact key rfl rfl
 | ptr=>cases hc;exact key rfl rfl
 | vec id len h1 h2=>cases hc;exact key h2 rfl
 | fn=>cases hc;exact key rfl rfl
 | full b x h1 h2=>cases hc;exact key (by obtain ⟨ad,n,rfl⟩:=h1;rfl) rfl
 | kF p b x S h0=>cases hc;exact key h0 rfl
 | mp=>cases hc;exact key rfl rfl
def ju (nu:Nat->Nat->Value) (k:Nat) (v:Value):Nat->Nat->Value:=fun id len=>if id=k then v else nu id len
theorem jI {o:List (Option ab)} {id len:Nat} (h:dr o id len):id<o.length:=by
 obtain ⟨ob,h1,_⟩:=h;exact (WT.1 h1).1
theorem gI {nu:Nat->Nat->Value} {k id len:Nat} {v:Value} (h:id<k):ju nu k v id len=nu id len:=by
 have:id≠k:=by omega
 simp [ju,this]
theorem b6 (nu:Nat->Nat->Value) (k len:Nat) (v:Value):ju nu k v k len=v:=by simp [ju]
theorem ik {nu:Nat->Nat->Value} {o:List (Option ab)} {w w':World} {v:Value} {ob:ab} (hb:Below w.heap.size w w') (hv: ∀b,cX v=some b->w.heap.size<=b) :
  bK nu o w (ju nu o.length v) (o++[some ob]) w':=by
 refine ⟨hb.os,hb.tape,hb.output,hb.size,fun id len h=>⟨?_,gI (jI h)⟩,fun b hlt ho=>⟨hb.block b hlt, ?_⟩⟩
 ·obtain ⟨x,h1,h2⟩:=h;exact ⟨x,by rw [WU (WT.1 h1).1];exact h1,h2⟩
 ·rintro ⟨id,ob',h1,h2⟩
  rcases WV id o.length with hlt'|hge
  ·rw [WU hlt'] at h1;rw [gI hlt'] at h2;exact ho ⟨id,ob',h1,h2⟩
  ·obtain rfl:id=o.length:=by
    have:=(WT.1 h1).1
    simp at this;omega
   rw [b6] at h2
   have:=hv b h2
   omega
theorem nL {D:Nat->Prop} {nu:Nat->Nat->Value} {o:List (Option ab)} {w w':World} {v:Value} {ob:ab} (h:RO D nu o w) (hb:Below w.heap.size w w') (hv: ∀b,cX v=some b->w.heap.size<=b)
  (hn:(ob.gw=true∧ob.rows=[]∧v = .slice none 0 0)∨(∃g cur,zP D (ju nu o.length v) (o++[some ob]) w' o.length ob g cur)∨ ∃g es cl,zQ D (ju nu o.length v) (o++[some ob]) w' o.length ob g es cl):RO D (ju nu o.length v) (o++[some ob]) w':=by
 have hm:=ik (nu:=nu) (o:=o) (ob:=ob) hb hv
 refine ⟨?_,fun b hlt=>h.up b (WO hb.size hlt), ?_,h.gl.mono hm (fun _ _ h=>h)⟩
 ·intro id ob' ho
  rcases WV id o.length with hlt|hge
  ·rw [WU hlt] at ho
   rcases h.obj id ob' ho with ⟨e1,e2,e3⟩|⟨g,cur,hr⟩|⟨g,es,cl,hmp⟩
   ·exact .inl ⟨e1,e2,by rw [gI hlt];exact e3⟩
   ·refine .inr (.inl ⟨g,cur,(hb.block g (h.bn ⟨id,ob',ho,hr.bF⟩)).trans hr.fl,hr.nY,fun e=> ?_,fun e=> ?_,hr.z,hr.row,fun i j row c x h1 h2 h3=>(hr.cell i j row c x h1 h2 h3).mono hm (fun _ _ h=>h),hr.one⟩)
    ·rw [gI hlt];exact hr.box e
    ·rw [gI hlt];exact hr.vec e
   ·exact .inr (.inr ⟨g,es,cl,hmp.tr (hb.block g (h.bn ⟨id,ob',ho,hmp.bF⟩)) (fun h=>h) (gI hlt) (fun i j row c x _ _ hr=>hr.mono hm (fun _ _ h=>h))⟩)
  ·obtain rfl:id=o.length:=by
    have:=(WT.1 ho).1
    simp at this;omega
   rw [WW] at ho;cases ho
   rcases hn with ⟨e1,e2,e3⟩|hn
   ·exact .inl ⟨e1,e2,by rw [b6];exact e3⟩
   ·exact .inr hn
 ·intro id id' ob1 ob2 b h1 h2 hne h3 h4;have l1:=(WT.1 h1).1;have l2:=(WT.1 h2).1;simp only [WX,WY,WS] at l1 l2
  rcases WV id o.length with g1|g1
  ·rw [WU g1] at h1;rw [gI g1] at h3
   rcases WV id' o.length with g2|g2
   ·rw [WU g2] at h2;rw [gI g2] at h4;exact h.sep id id' ob1 ob2 b h1 h2 hne h3 h4
   ·obtain rfl:id'=o.length:=by omega
    rw [b6] at h4
    have:=hv b h4
    have:=h.bn ⟨id,ob1,h1,h3⟩
    omega
  ·obtain rfl:id=o.length:=by omega
   rw [b6] at h3
   have:=hv b h3
   rcases WV id' o.length with g2|g2
   ·rw [WU g2] at h2;rw [gI g2] at h4
    have:=h.bn ⟨id',ob2,h2,h4⟩
    omega
   ·omega
def Good (D:Nat->Prop) (nu:Nat->Nat->Value) (o:List (Option ab)) (w:World) (res:Result Value) (r:AV) (o':List (Option ab)):Prop:=
 ∃v w' nu',res = .ok v w'∧bK nu o w nu' o' w'∧RO D nu' o' w'∧RA D nu' o' w' r v
theorem Good.pure {D:Nat->Prop} {nu:Nat->Nat->Value} {o:List (Option ab)} {w:World} {r:AV} {v:Value} (h:RO D nu o w) (hr:RA D nu o w r v) {res:Result Value} (he:res = .ok v w):Good D nu o w res r o:=
 ⟨v,w,nu,he, .refl nu o w,h,hr⟩
theorem JN {D:Nat->Prop} {nu:Nat->Nat->Value} {o:List (Option ab)} {w:World} (h:RO D nu o w) (T:TypeId) {cs:List AV} {xs:Array Value} (hc:Mf D nu o w cs xs) (hz:0<cs.length) :
  Good D nu o w (.ok (.pointer (some ⟨w.heap.size,0,none⟩)) (w.alloc (.cells xs T))) (.ptr o.length 0 cs.length 0 0) (o++[some ⟨T,cs.length,false,[cs]⟩]):=by
 have hb:Below w.heap.size w (w.alloc (.cells xs T)):=(Below.refl _ _).alloc (WN _) _
 have hv: ∀b,cX (Value.pointer (some ⟨w.heap.size,0,none⟩))=some b->w.heap.size<=b:=fun b e=>by cases e;exact WN _
 have hm:=ik (nu:=nu) (o:=o) (ob:=⟨T,cs.length,false,[cs]⟩) hb hv
 refine ⟨_,_,ju nu o.length (.pointer (some ⟨w.heap.size,0,none⟩)),rfl,hm,nL h hb hv (.inr (.inl ⟨w.heap.size,xs, ?_⟩)), ?_⟩
 ·have key: ∀(i j:Nat) row c x,[cs][i]? = some row->row[j]? = some c->xs[i * cs.length+j]? = some x->cs[j]? = some c∧xs[j]? = some x:=by
   intro i j row c x h1 h2 h3
   cases i with
   | zero=>simp at h1 h3;subst h1;exact ⟨h2,h3⟩
   | succ i=>simp at h1
  refine ⟨heap_alloc_new w _,h.up _ (WN _),fun _=>⟨b6 _ _ _ _,rfl,hc.len.symm⟩,fun e=>(by cases e),hz,fun i row hi=> ?_,fun i j row c x h1 h2 h3=> ?_,fun i j row c x h1 h2 h3=> ?_⟩
  ·cases i with
   | zero=>simp at hi;subst hi;rfl
   | succ i=>simp at hi
  ·obtain ⟨h4,h5⟩:=key i j row c x h1 h2 h3;exact (hc.at' j c x h4 h5).mono hm (fun _ _ h=>h)
  ·obtain ⟨h4,h5⟩:=key i j row c x h1 h2 h3;exact hc.one j x h5
 ·have:=RA.ptr (D:=D) (nu:=ju nu o.length (.pointer (some ⟨w.heap.size,0,none⟩))) (o:=o++[some ⟨T,cs.length,false,[cs]⟩]) (w:=w.alloc (.cells xs T)) o.length 0 cs.length 0 0 w.heap.size
   ⟨_,WW,fun x hx=>WZ _⟩ (by rw [b6];rfl)
  simpa using this
section
def ff (P:Program) (T:TypeId):Option Bool:=(P.underlying T).map fun| .struct _=>true| .array _ _=>true|_=>false
def ct (P:Program) (T:TypeId):Option Nat:=(P.info? T).map (·.size)
theorem ir {P:Program} {T:TypeId} {b:Bool} (h:ff P T=some b) (w:World):(isAgg T).run P w = .ok b w:=by
 unfold ff at h
 cases hu:P.underlying T with
 | none=>simp [hu] at h
 | some d=>
  rw [hu] at h;unfold isAgg;rw [Sem.run_bind,run_underlying hu w];cases d<;>simp_all
theorem run_sizeOf {P:Program} {T:TypeId} {n:Nat} (h:ct P T=some n) (w:World):(sizeOf T).run P w = .ok n w:=by
 unfold ct at h
 cases hu:P.info? T with
 | none=>simp [hu] at h
 | some i=>
  rw [hu] at h;simp at h;subst h;simp [sizeOf,typeInfo,hu]
def mQ (o:List (Option ab)):AV->Option (Prop×List AV)
 | .vp cs=>some (True,cs)
 | .ptr id len z row off=>match o[id]? with
  | some (some ob)=>some (ob.hl=len∧ob.z=z,(ob.rows.getD row []).drop off)
  | _=>none
 | _=>none
theorem getD_some {α:Type} {l:List α} {i:Nat} {d x:α} (h:l[i]? = some x):l.getD i d=x:=by simp [List.getD,h]
section
variable {D:Nat->Prop} {nu:Nat->Nat->Value} {o:List (Option ab)} {w:World}
theorem zP.pI {id:Nat} {ob:ab} {g:Nat} {cur:Array Value} (h:zP D nu o w id ob g cur) {i j:Nat} {row:List AV} (hi:ob.rows[i]? = some row) (hj:j<row.length):i * ob.z+j<cur.size:=by
 have hz:=h.row i row hi;have hi':=(WT.1 hi).1
 have key: ∀n,i<n->n * ob.z<=cur.size->i * ob.z+j<cur.size:=fun n h1 h2=>by
  have:(i+1) * ob.z<=n * ob.z:=W4 _ h1
  rw [W5,W6] at this;omega
 cases hv:ob.gw
 ·obtain ⟨_,h2,h3⟩:=h.box hv;exact key 1 (by omega) (by omega)
 ·obtain ⟨cap,_,h2,_,h4⟩:=h.vec hv;exact key cap (by omega) (by omega)
theorem Bd (h:RO D nu o w) {a:AV} {x:Value} (hr:RA D nu o w a x) {p:Prop} {cs:List AV} (hl:mQ o a=some (p,cs)) (hp:p) :
  ∃(b off:Nat) (f:Nat->Value),x = .pointer (some ⟨b,off,none⟩)∧(∀(j:Nat) c,cs[j]? = some c->w.cell? ⟨b,off+j,none⟩=some (f j)∧RA D nu o w c (f j)∧(f j).oneCell'=true):=by
 cases a with
 | vp cs'=>
  simp only [mQ,W7,W8] at hl;obtain ⟨_,rfl⟩:=hl
  cases hr with
  | vp _ b off f h1 h2 h3 h4=>exact ⟨b,off,f,rfl,fun j c hc=>⟨h2 j c hc,h3 j c hc,h4 j c hc⟩⟩
 | ptr id len z row off=>
  simp only [mQ] at hl
  split at hl
  ·rename_i ob ho;simp only [W7,W8] at hl;obtain ⟨rfl,rfl⟩:=hl;obtain ⟨rfl,rfl⟩:=hp
   cases hr with
   | ptr _ _ _ _ _ b h1 h2=>
    rcases h.obj id ob ho with ⟨e1,e2,e3⟩|⟨g,cur,hb⟩|⟨g,es,cl,hmp⟩
    ·simp only [ab.hl,e1,e2,if_true,WS,e3,cX,cq] at h2;cases h2
    rotate_left 1
    ·exact absurd h2 (hmp.Kt (WN _))
    ·rw [hb.pE] at h2;cases h2;refine ⟨b,_,fun j=>cur.getD (row * ob.z+off+j) Go.undef,rfl,fun j c hc=> ?_⟩
     cases hrow:ob.rows[row]? with
     | none=>simp [List.getD,hrow] at hc
     | some rw'=>
      rw [getD_some hrow,W9] at hc;have hlt:=hb.pI hrow (WT.1 hc).1;have hx:cur[row * ob.z+(off+j)]? = some cur[row * ob.z+(off+j)]:=Xa hlt
      have e:cur.getD (row * ob.z+off+j) Go.undef=cur[row * ob.z+(off+j)]:=by
       rw [show row * ob.z+off+j=row * ob.z+(off+j) by omega];simp [Array.getD,hlt]
      simp only [e];refine ⟨?_,hb.cell row (off+j) rw' c _ hrow hc hx,hb.one row (off+j) rw' c _ hrow hc hx⟩
      have:=hb.fl
      rw [show row * ob.z+off+j=row * ob.z+(off+j) by omega];simp [World.cell?,this,hx]
  ·cases hl
 | _=>cases hl
def zT (P:Program) (T:TypeId) (o:List (Option ab)) (a:AV):Option (Prop×AV):=
 match ff P T,ct P T,mQ o a with
 | some true,some n,some (p,cs)=>some (p∧n<=cs.length, .agg (cs.take n))
 | some false,_,some (p,c :: _)=>some (p,c)
 | _,_,_=>none
theorem xg {P:Program} {T:TypeId} (h:RO D nu o w) {a:AV} {x:Value} (hr:RA D nu o w a x) {p:Prop} {r:AV} (hl:zT P T o a=some (p,r)) (hp:p) :
  ∃v,(Instr.loadAt T x).run P w = .ok v w∧RA D nu o w r v:=by
 unfold zT at hl
 split at hl
 ·rename_i n p' cs e1 e2 e3;simp only [W7,W8] at hl;obtain ⟨rfl,rfl⟩:=hl;obtain ⟨b,off,f,rfl,hf⟩:=Bd h hr e3 hp.1
  have hcell: ∀j,j<n->w.cell? ((⟨b,off,none⟩:Addr).add j)=some (f j):=fun j hj=>by
   rw [Addr.add_lit];exact (hf j cs[j] (Xb (by omega))).1
  refine ⟨_,by simp only [Instr.loadAt,Instr.sureAddr,loadVar,Sem.run_bind,Sem.run_pure,Result.andThen_ok,ir e1,if_true,run_sizeOf e2,run_loadCells w _ n f hcell];rfl, ?_⟩
  refine .agg _ _ (by simp;omega) (fun i c x h1 h2=> ?_) (fun i x h2=> ?_)
  ·rw [Xc] at h1
   split at h1
   ·simp only [Xd,Xe] at h2;rw [Xf ‹_›] at h2;simp at h2;subst h2;exact (hf i c h1).2.1
   ·cases h1
  ·simp only [Xd,Xe] at h2
   rcases WV i n with hlt|hge
   ·rw [Xf hlt] at h2;simp at h2;subst h2;exact (hf i cs[i] (Xb (by omega))).2.2
   ·rw [Xg (by simp;omega)] at h2;cases h2
 ·rename_i p' c rest e1 e3;simp only [W7,W8] at hl;obtain ⟨rfl,rfl⟩:=hl;obtain ⟨b,off,f,rfl,hf⟩:=Bd h hr e3 hp;obtain ⟨h1,h2,_⟩:=hf 0 c rfl;refine ⟨f 0, ?_,h2⟩;simp only [Instr.loadAt,Instr.sureAddr,loadVar,Sem.run_bind,Sem.run_pure,Result.andThen_ok,ir e1,Bool.false_eq_true,if_false,run_load];simp only [Xh] at h1;rw [h1]
 ·cases hl
def BU (row:List AV) (off:Nat) (cs:List AV):List AV:=row.take off++cs++row.drop (off+cs.length)
theorem lf {w':World} {id:Nat} {ob ob':ab} (ho:o[id]? = some (some ob)) (hl:ob'.hl=ob.hl) {g:Nat} (hg:cX (nu id ob.hl)=some g)
  (h1:w'.os=w.os) (h2:w'.tape=w.tape) (h3:w'.output=w.output) (h4:w'.heap.size=w.heap.size) (h5: ∀b,b≠g->w'.heap[b]? = w.heap[b]?):bK nu o w nu (o.set id (some ob')) w':=by
 have hlt:=(WT.1 ho).1
 refine ⟨h1,h2,h3,by omega,fun id' len hh=>⟨?_,rfl⟩,fun b hb hno=>⟨h5 b (fun e=>hno ⟨id,ob,ho,by rw [e];exact hg⟩), ?_⟩⟩
 ·obtain ⟨x,k1,k2⟩:=hh
  by_cases he:id=id'
  ·subst he;rw [ho] at k1;cases k1;exact ⟨some ob',by simp [hlt],fun x hx=>by cases hx;rw [hl];exact k2 ob rfl⟩
  ·exact ⟨x,by rw [Xi he];exact k1,k2⟩
 ·rintro ⟨id',ob'',k1,k2⟩
  by_cases he:id=id'
  ·subst he;rw [Xj hlt] at k1;cases k1;rw [hl] at k2;exact hno ⟨id,ob,ho,k2⟩
  ·rw [Xi he] at k1;exact hno ⟨id',ob'',k1,k2⟩
theorem vr {w':World} {id:Nat} {ob ob':ab} (h:RO D nu o w) (ho:o[id]? = some (some ob)) (hl:ob'.hl=ob.hl) {g:Nat} (hg:cX (nu id ob.hl)=some g)
  (hm:bK nu o w nu (o.set id (some ob')) w') (h5: ∀b,b≠g->w'.heap[b]? = w.heap[b]?) {cur:Array Value} (hn:zP D nu (o.set id (some ob')) w' id ob' g cur):RO D nu (o.set id (some ob')) w':=by
 have hlt:=(WT.1 ho).1
 refine ⟨?_,fun b hb=>h.up b (WO hm.size hb), ?_,h.gl.mono hm (fun _ _ h=>h)⟩
 ·intro id' ob'' k1
  by_cases he:id=id'
  ·subst he;rw [Xj hlt] at k1;cases k1;exact .inr (.inl ⟨g,cur,hn⟩)
  ·rw [Xi he] at k1
   rcases h.obj id' ob'' k1 with e|⟨g',cur',hr⟩|⟨g',es,cl,hmp⟩
   ·exact .inl e
   ·have hne:g'≠g:=fun e=>h.sep id id' ob ob'' g ho k1 he hg (by rw [<-e];exact hr.bF);exact .inr (.inl ⟨g',cur',(h5 g' hne).trans hr.fl,hr.nY,hr.box,hr.vec,hr.z,hr.row,fun i j row c x q1 q2 q3=>(hr.cell i j row c x q1 q2 q3).mono hm (fun _ _ h=>h),hr.one⟩)
   ·have hne:g'≠g:=fun e=>h.sep id id' ob ob'' g ho k1 he hg (by rw [<-e];exact hmp.bF);exact .inr (.inr ⟨g',es,cl,hmp.tr (h5 g' hne) (fun h=>h) rfl (fun i j row c x _ _ hr=>hr.mono hm (fun _ _ h=>h))⟩)
 ·intro i1 i2 b1 b2 b k1 k2 hne k3
  have key: ∀(id':Nat) (ob'':ab),(o.set id (some ob'))[id']? = some (some ob'')-> ∃ob3:ab,o[id']? = some (some ob3)∧ob3.hl=ob''.hl:=fun id' ob'' q=>by
   by_cases he:id=id'
   ·subst he;rw [Xj hlt] at q;cases q;exact ⟨ob,ho,hl.symm⟩
   ·rw [Xi he] at q;exact ⟨ob'',q,rfl⟩
  obtain ⟨o1,m1,n1⟩:=key i1 b1 k1;obtain ⟨o2,m2,n2⟩:=key i2 b2 k2;rw [<-n2];rw [<-n1] at k3;exact h.sep i1 i2 o1 o2 b m1 m2 hne k3
theorem DB (P:Program) (h:RO D nu o w) {id row off:Nat} {ob:ab} (ho:o[id]? = some (some ob)) {rw':List AV} (hrow:ob.rows[row]? = some rw') {cs:List AV} {xs:Array Value} (hc:Mf D nu o w cs xs) (hfit:off+cs.length<=rw'.length)
  {b:Nat} (hb:cq (nu id ob.hl)=some b) :
  ∃w',(storeCells ⟨b,row * ob.z+off,none⟩ xs.toList).run P w = .ok () w'∧bK nu o w nu (o.set id (some { ob with rows:=ob.rows.set row (BU rw' off cs) })) w'∧RO D nu (o.set id (some { ob with rows:=ob.rows.set row (BU rw' off cs) })) w':=by
 rcases h.obj id ob ho with ⟨e1,e2,e3⟩|⟨g,cur,hr⟩|⟨g,es,cl,hmp⟩
 rotate_left 2
 ·exact absurd hb (hmp.Kt (WN _))
 ·rw [e2] at hrow;simp at hrow
 ·have hbg:b=g:=by have:=hr.pE;rw [hb] at this;cases this;rfl
  subst hbg;have hz:=hr.row row rw' hrow;have hlenrow:=(WT.1 hrow).1
  have hend:row * ob.z+off+cs.length<=cur.size:=by
   rcases Nat.eq_zero_or_pos (off+cs.length) with h0|h0
   ·rcases Nat.eq_zero_or_pos rw'.length with h1|h1
    ·have:=hr.z;omega
    ·have:=hr.pI hrow (j:=0) (by omega);omega
   ·have:=hr.pI hrow (j:=off+cs.length - 1) (by omega);omega
  have hst:=run_storeCells_at P b (row * ob.z+off) ob.T xs.toList 0 cur w hr.fl (by have:=hc.len;simp;omega) (fun v hv=>by
   obtain ⟨i,hi⟩:=Xk hv
   exact hc.one i v (by simpa using hi))
  have hh:ob.hl=({ ob with rows:=ob.rows.set row (BU rw' off cs) }:ab).hl:=by simp [ab.hl]
  have hne: ∀k,k≠b->(w.setRow b (cur.toList.take (row * ob.z+off+0)++xs.toList++cur.toList.drop (row * ob.z+off+0+xs.toList.length)).toArray).heap[k]? = w.heap[k]? :=fun k hk=>setRow_other w b k _ hk
  have hsz:(w.setRow b (cur.toList.take (row * ob.z+off+0)++xs.toList++cur.toList.drop (row * ob.z+off+0+xs.toList.length)).toArray).heap.size=w.heap.size:=by simp [World.setRow]
  have hm:=lf (nu:=nu) (o:=o) (w:=w) (w':=w.setRow b (cur.toList.take (row * ob.z+off+0)++xs.toList++cur.toList.drop (row * ob.z+off+0+xs.toList.length)).toArray) (ob':={ ob with rows:=ob.rows.set row (BU rw' off cs) }) ho hh.symm hr.bF rfl rfl rfl hsz hne;refine ⟨_,hst,hm,vr h ho hh.symm hr.bF hm hne (cur:=(cur.toList.take (row * ob.z+off+0)++xs.toList++cur.toList.drop (row * ob.z+off+0+xs.toList.length)).toArray) ?_⟩
  have hlx:xs.toList.length=cs.length:=by have:=hc.len;simp;omega
  have hspl:(BU rw' off cs).length=rw'.length:=by simp [BU];omega
  have hcs:(cur.toList.take (row * ob.z+off+0)++xs.toList++cur.toList.drop (row * ob.z+off+0+xs.toList.length)).toArray.size=cur.size:=by
   simp only [Xl,WX,Xm,List.length_drop,Xo] at *; omega
  have key: ∀(i j:Nat) r c x,(ob.rows.set row (BU rw' off cs))[i]? = some r->r[j]? = some c->(cur.toList.take (row * ob.z+off+0)++xs.toList++cur.toList.drop (row * ob.z+off+0+xs.toList.length)).toArray[i * ob.z+j]? = some x ->
    (∃r',ob.rows[i]? = some r'∧r'[j]? = some c∧cur[i * ob.z+j]? = some x)∨(∃k:Nat,cs[k]? = some c∧xs[k]? = some x):=by
   intro i j r c x k1 k2 k3;rw [Xd,Xp] at k3;simp only [Xh,hlx] at k3
   have hlt1:(cur.toList.take (row * ob.z+off)).length=row * ob.z+off:=by simp only [Xm,Xo];omega
   have outside:(i * ob.z+j<row * ob.z+off∨row * ob.z+off+cs.length<=i * ob.z+j)->cur[i * ob.z+j]? = some x:=by
    rintro (hlt|hge)
    ·rw [WU (by omega),Xq hlt] at k3;simpa using k3
    ·rw [Xr (by omega),hlt1,Xr (by omega),hlx,W9] at k3;rw [show row * ob.z+off+cs.length+(i * ob.z+j - (row * ob.z+off) - cs.length)=i * ob.z+j by omega] at k3;simpa using k3
   by_cases hi:row=i
   ·subst hi;rw [Xj hlenrow] at k1;cases k1;simp only [BU,Xp] at k2
    have hlt2:(rw'.take off).length=off:=by simp;omega
    rcases WV j off with hj|hj
    ·rw [WU (by omega),Xq hj] at k2;exact .inl ⟨rw',hrow,k2,outside (.inl (by omega))⟩
    ·rw [Xr (by omega),hlt2] at k2
     rcases WV (j - off) cs.length with hj2|hj2
     ·rw [WU hj2] at k2;rw [Xr (by omega),hlt1,WU (by omega)] at k3;rw [show row * ob.z+j - (row * ob.z+off)=j - off by omega] at k3;exact .inr ⟨j - off,k2,by simpa using k3⟩
     ·rw [Xr hj2,W9] at k2;rw [show off+cs.length+(j - off - cs.length)=j by omega] at k2;exact .inl ⟨rw',hrow,k2,outside (.inr (by omega))⟩
   ·rw [Xi hi] at k1;refine .inl ⟨r,k1,k2,outside ?_⟩;have hj:=(WT.1 k2).1;have hrz:=hr.row i r k1
    rcases Nat.lt_or_gt_of_ne hi with hlt|hgt
    ·right
     have:(row+1) * ob.z<=i * ob.z:=W4 _ hlt
     rw [W5,W6] at this;omega
    ·left
     have:(i+1) * ob.z<=row * ob.z:=W4 _ hgt
     rw [W5,W6] at this;omega
  refine ⟨setRow_heap w b cur _ ob.T (0,0) hr.fl,hr.nY,fun hv=> ?_,fun hv=> ?_,hr.z,fun i r hi=> ?_,fun i j r c x k1 k2 k3=> ?_,fun i j r c x k1 k2 k3=> ?_⟩
  ·obtain ⟨q1,q2,q3⟩:=hr.box hv;exact ⟨q1,by simpa using q2,hcs.trans q3⟩
  ·obtain ⟨cap,q1,q2,q3,q4⟩:=hr.vec hv;exact ⟨cap,by simpa using q1,by simpa using q2,q3,hcs.trans q4⟩
  ·by_cases he:row=i
   ·subst he;rw [Xj hlenrow] at hi;cases hi;exact hspl.trans hz
   ·rw [Xi he] at hi;exact hr.row i r hi
  ·rcases key i j r c x k1 k2 k3 with ⟨r',q1,q2,q3⟩|⟨k,q1,q2⟩
   ·exact (hr.cell i j r' c x q1 q2 q3).mono hm (fun _ _ h=>h)
   ·exact (hc.at' k c x q1 q2).mono hm (fun _ _ h=>h)
  ·rcases key i j r c x k1 k2 k3 with ⟨r',q1,q2,q3⟩|⟨k,q1,q2⟩
   ·exact hr.one i j r' c x q1 q2 q3
   ·exact hc.one k x q2
def yk (P:Program) (T:TypeId) (o:List (Option ab)) (a x:AV):Option (Prop×List (Option ab)):=
 match a,ct P T,x.cells? with
 | .ptr id len z row off,some n,some cs=>match o[id]? with
  | some (some ob)=>some ((ob.hl=len∧ob.z=z∧row<ob.rows.length)∧cs.length=n∧off+cs.length<=(ob.rows.getD row []).length,o.set id (some { ob with rows:=ob.rows.set row (BU (ob.rows.getD row []) off cs) }))
  | _=>none
 | _,_,_=>none
theorem DA {P:Program} {T:TypeId} (h:RO D nu o w) {a b:AV} {x y:Value} (hr:RA D nu o w a x) (hs:RA D nu o w b y) {p:Prop} {o':List (Option ab)} (hl:yk P T o a b=some (p,o')) (hp:p) :
  ∃w',(Instr.storeAt T x y).run P w = .ok () w'∧bK nu o w nu o' w'∧RO D nu o' w':=by
 unfold yk at hl
 split at hl
 ·rename_i id len z row off n cs e1 e2
  split at hl
  ·rename_i ob ho;simp only [W7,W8] at hl;obtain ⟨rfl,rfl⟩:=hl;obtain ⟨⟨rfl,rfl,hlt⟩,rfl,hfit⟩:=hp;have hrow:ob.rows[row]? = some ob.rows[row]:=Xb hlt;rw [getD_some hrow] at hfit ⊢
   cases hr with
   | ptr _ _ _ _ _ bk h1 h2=>
    have hc:=hs.one e2;obtain ⟨w',k1,k2,k3⟩:=DB P h ho hrow hc hfit h2;refine ⟨w', ?_,k2,k3⟩;have hsz:y.cells.size=cs.length:=hc.len.symm;simp only [Instr.storeAt,Instr.sureAddr,storeVar,Sem.run_bind,Sem.run_pure,Result.andThen_ok,run_sizeOf e1,hsz,ne_eq,not_true_eq_false,if_false,k1]
  ·cases hl
 ·cases hl
end
end
section
section
variable {D:Nat->Prop} {nu:Nat->Nat->Value} {o:List (Option ab)} {w:World}
def lh (P:Program) (T:TypeId):Option (TypeId×Nat×Nat):=
 match P.underlying T with
 | some (.slice e)=>match P.info? e with
  | some i=>match i.zero with
   | some zv=>if zv.cells.size=i.size∧0<i.size then some (e,i.size,i.bytes) else none
   | none=>none
  | none=>none
 | _=>none
theorem ew {P:Program} {T e:TypeId} {z n:Nat} (h:lh P T=some (e,z,n)):P.underlying T=some (.slice e)∧ ∃i zv,P.info? e=some i∧i.zero=some zv∧zv.cells.size=z∧0<z∧i.size=z∧i.bytes=n:=by
 unfold lh at h
 split at h
 ·rename_i e' hu
  split at h
  ·rename_i i hi
   split at h
   ·rename_i zv hz
    split at h
    ·rename_i hc;cases h;exact ⟨hu,i,zv,hi,hz,hc.1,hc.2,rfl,rfl⟩
    ·cases h
   ·cases h
  ·cases h
 ·cases h
def oF (o:List (Option ab)) (z:Nat):AV->Option (Prop×List (List AV))
 | .aB z' rows len=>some (z'=z,rows.take len)
 | .vec id len=>match o[id]? with
  | some (some ob)=>some (ob.gw=true∧ob.z=z∧ob.rows.length=len,ob.rows)
  | _=>none
 | .v (.slice none 0 0)=>some (True,[])
 | _=>none
structure x5 (D:Nat->Prop) (nu:Nat->Nat->Value) (o:List (Option ab)) (w:World) (z:Nat) (rows:List (List AV)) (news:List Value):Prop where
 len:news.length=rows.length * z
 one: ∀u∈news,u.oneCell'=true
 row: ∀(i:Nat) row,rows[i]? = some row->row.length=z
 cell: ∀(i j:Nat) row c,rows[i]? = some row->row[j]? = some c-> ∃x,news[i * z+j]? = some x∧RA D nu o w c x
theorem mO {i j z n:Nat} (hi:i<n) (hj:j<z):i * z+j<n * z:=by
 have:(i+1) * z<=n * z:=W4 _ hi
 rw [W5,W6] at this;omega
theorem Nf {i j z:Nat} (hj:j<z):(i * z+j) / z=i:=by
 rw [Xs,Nat.mul_add_div (by omega),Nat.div_eq_of_lt hj,Xh]
theorem sM {i j z:Nat} (hj:j<z):(i * z+j) % z=j:=by
 rw [Xs,Nat.mul_add_mod,Nat.mod_eq_of_lt hj]
theorem uG (z:Nat):x5 D nu o w z [] []:=⟨by simp,by simp,by simp,by simp⟩
theorem zP.Qk {id:Nat} {ob:ab} {g:Nat} {cur:Array Value} (h:zP D nu o w id ob g cur):x5 D nu o w ob.z ob.rows (cur.toList.take (ob.rows.length * ob.z)):=by
 have hsz:ob.rows.length * ob.z<=cur.size:=by
  cases hv:ob.gw
  ·obtain ⟨_,h2,h3⟩:=h.box hv;rw [h2,h3];omega
  ·obtain ⟨cap,_,h2,_,h4⟩:=h.vec hv;rw [h4];exact W4 _ h2
 have hz:=h.z
 refine ⟨by simp;omega,fun u hu=> ?_,h.row,fun i j row c h1 h2=> ?_⟩
 ·obtain ⟨k,hk⟩:=Xk hu;rw [Xc] at hk
  split at hk
  ·rename_i hlt;have hi:k / ob.z<ob.rows.length:=Xt (by rw [Xs];exact hlt);have hr:ob.rows[k / ob.z]? = some ob.rows[k / ob.z]:=Xb hi
   have hj:k % ob.z<ob.rows[k / ob.z].length:=by rw [h.row _ _ hr];exact Nat.mod_lt _ hz
   refine h.one (k / ob.z) (k % ob.z) _ _ u hr (Xb hj) ?_;rw [Xs,Nat.div_add_mod];simpa using hk
  ·cases hk
 ·have hi:=(WT.1 h1).1;have hj:=(WT.1 h2).1;have hlt:=h.pI h1 hj;rw [h.row i row h1] at hj;refine ⟨cur[i * ob.z+j], ?_,h.cell i j row c _ h1 h2 (Xa hlt)⟩;rw [Xq (mO hi hj)];simp [hlt]
theorem jP (h:RO D nu o w) {z:Nat} (hz:0<z) {a:AV} {x:Value} (hr:RA D nu o w a x) {p:Prop} {rows:List (List AV)} (hs:oF o z a=some (p,rows)) (hp:p) :
  (x = .slice none 0 0∧rows=[])∨ ∃(g:Addr) (c:Nat) (news:List Value),x = .slice (some g) rows.length c∧x5 D nu o w z rows news∧(∀(j:Nat) u,news[j]? = some u->w.cell? (g.add j)=some u):=by
 cases a with
 | aB z' rows' len=>
  simp only [oF,W7,W8] at hs;obtain ⟨rfl,rfl⟩:=hs;subst hp
  cases hr with
  | bu=>exact .inl ⟨rfl,rfl⟩
  | bL _ a=>exact .inr ⟨a,0,[],rfl,uG _,fun j u hj=>by simp at hj⟩
  | aB _ _ _ b off cap f h1 h2 h3 h4 h5 h6 h7 h8=>
   have hl:(rows'.take len).length=len:=by simp;omega
   refine .inr ⟨⟨b,off,none⟩,cap,(List.range (len * z')).map (fun k=>f (k / z') (k % z')),by rw [hl],⟨by simp [hl], ?_,fun i row hi=> ?_,fun i j row c hi hj=> ?_⟩, ?_⟩
   ·intro u hu;obtain ⟨k,hk,rfl⟩:=List.mem_map.1 hu;simp only [List.mem_range] at hk;have hi:k / z'<rows'.length:=WQ (Xt (by rw [Xs];exact hk)) h1;have hr':rows'[k / z']? = some rows'[k / z']:=Xb hi
    have hj:k % z'<rows'[k / z'].length:=by rw [h5 _ _ hr'];exact Nat.mod_lt _ hz
    exact h8 _ _ _ _ hr' (Xb hj)
   ·rw [Xc] at hi;split at hi
    ·exact h5 i row hi
    ·cases hi
   ·rw [Xc] at hi
    split at hi
    ·rename_i hlt;have hjl:=(WT.1 hj).1;rw [h5 i row hi] at hjl;refine ⟨f i j, ?_,h7 i j row c hi hj⟩;rw [Xe,Xf (mO hlt hjl)];simp only [Xu,Nf hjl,sM hjl]
    ·cases hi
   ·intro k u hk;rw [Xe] at hk
    rcases WV k (len * z') with hlt|hge
    ·rw [Xf hlt] at hk;simp only [Xu,W7] at hk;subst hk;have hi:k / z'<rows'.length:=WQ (Xt (by rw [Xs];exact hlt)) h1;have hr':rows'[k / z']? = some rows'[k / z']:=Xb hi
     have hj:k % z'<rows'[k / z'].length:=by rw [h5 _ _ hr'];exact Nat.mod_lt _ hz
     have:=h6 _ _ _ _ hr' (Xb hj)
     rw [<-this,Addr.add_lit]
     congr 2
     have:=Nat.div_add_mod k z'
     rw [Xs] at this;omega
    ·rw [Xg (by simpa using hge)] at hk;cases hk
 | vec id len=>
  simp only [oF] at hs
  split at hs
  ·rename_i ob ho;simp only [W7,W8] at hs;obtain ⟨rfl,rfl⟩:=hs;obtain ⟨hv,rfl,rfl⟩:=hp;cases hr
   rcases h.obj id ob ho with ⟨e1,e2,e3⟩|⟨g,cur,hb⟩|⟨g,es,cl,hmp⟩
   rotate_left 2
   ·rw [hmp.gw] at hv;cases hv
   ·exact .inl ⟨by rw [e2];exact e3,e2⟩
   ·obtain ⟨cap,q1,q2,q3,q4⟩:=hb.vec hv;refine .inr ⟨⟨g,0,none⟩,cap,_,q1,hb.Qk,fun j u hj=> ?_⟩;rw [Xc] at hj
    split at hj
    ·have:=hb.fl
     rw [Addr.add_lit,Nat.zero_add];simp [World.cell?,this];simpa using hj
    ·cases hj
  ·cases hs
 | v x'=>
  cases hr;simp only [oF] at hs
  split at hs
  case h_1 e=>cases e
  case h_2 e=>cases e
  case h_3 e=>cases e;cases hs;exact .inl ⟨rfl,rfl⟩
  case h_4=>cases hs
 | _=>cases hs
def zy (nu:Nat->Nat->Value) (k L:Nat) (v:Value):Nat->Nat->Value:=fun id len=>if id=k∧len=L then v else nu id len
theorem lk (nu:Nat->Nat->Value) (k L:Nat) (v:Value):zy nu k L v k L=v:=by simp [zy]
theorem fx {nu:Nat->Nat->Value} {k L id len:Nat} {v:Value} (h:id≠k∨len≠L):zy nu k L v id len=nu id len:=by
 have: ¬(id=k∧len=L):=by omega
 simp only [zy,if_neg this]
theorem RO.sV (h:RO D nu o w) {id:Nat} {ob:ab} (ho:o[id]? = some (some ob)) (hv:ob.gw=true) :
  ∃xs,w.ownsRow 0 ob.T ob.z (nu id ob.rows.length) ob.rows.length xs∧x5 D nu o w ob.z ob.rows xs∧(nu id ob.rows.length).ownBlock=cX (nu id ob.hl):=by
 have hhl:ob.hl=ob.rows.length:=by simp [ab.hl,hv]
 rw [hhl]
 rcases h.obj id ob ho with ⟨e1,e2,e3⟩|⟨g,cur,hb⟩|⟨g,es,cl,hmp⟩
 rotate_left 2
 ·rw [hmp.gw] at hv;cases hv
 ·refine ⟨[], ?_,by rw [e2];exact uG _, ?_⟩
  ·rw [e2];exact ⟨by simp, .inl ⟨e3,rfl⟩⟩
  ·rw [e2];simp only [WS];rw [e3];rfl
 ·obtain ⟨cap,q1,q2,q3,q4⟩:=hb.vec hv;refine ⟨_,⟨hb.Qk.len, .inr ⟨g,cap,cur,q1,WZ _,hb.fl,q2,q3,q4,rfl⟩⟩,hb.Qk, ?_⟩;rw [q1];rfl
theorem GK {w':World} (h:RO D nu o w) {id:Nat} {ob:ab} (ho:o[id]? = some (some ob)) (hv:ob.gw=true) (hz:0<ob.z) {rows2:List (List AV)} (hne:rows2≠[]) {xs news:List Value} (hL:x5 D nu o w ob.z ob.rows xs) (hN:x5 D nu o w ob.z rows2 news)
  {v':Value} (hown:w'.ownsRow 0 ob.T ob.z v' (ob.rows.length+rows2.length) (xs++news)) (hg:w.grownBy w' (nu id ob.rows.length).ownBlock) (hvb:v'.ownBlock=(nu id ob.rows.length).ownBlock∨v'.ownBlock=some w.heap.size) :
  bK nu o w (zy nu id (ob.rows.length+rows2.length) v') (o.set id (some { ob with rows:=ob.rows++rows2 })) w'∧RO D (zy nu id (ob.rows.length+rows2.length) v') (o.set id (some { ob with rows:=ob.rows++rows2 })) w' ∧
   RA D (zy nu id (ob.rows.length+rows2.length) v') (o.set id (some { ob with rows:=ob.rows++rows2 })) w' (.vec id (ob.rows.length+rows2.length)) v':=by
 have hlt:=(WT.1 ho).1;have hm0:0<rows2.length:=List.length_pos_iff.2 hne
 have hhl:ob.hl=ob.rows.length:=by simp [ab.hl,hv]
 have hhl':({ ob with rows:=ob.rows++rows2 }:ab).hl=ob.rows.length+rows2.length:=by simp [ab.hl,hv]
 obtain ⟨_,hrest⟩:=hown
 rcases hrest with ⟨_,h0⟩|⟨g,cap,cur,rfl,_,hblk,hcap,hcm,hsz,htake⟩
 ·omega
 obtain ⟨xs0,hxs0,_,hob⟩:=h.sV ho hv;have hold: ∀b,cX (nu id ob.hl)=some b->b<w.heap.size:=fun b hb=>h.bn ⟨id,ob,ho,hb⟩
 have hvb':some g=cX (nu id ob.hl)∨some g=some w.heap.size:=by
  rw [<-hob];simpa [Value.ownBlock] using hvb
 rw [hob] at hg
 have hm:bK nu o w (zy nu id (ob.rows.length+rows2.length) (.slice (some ⟨g,0,none⟩) (ob.rows.length+rows2.length) cap)) (o.set id (some { ob with rows:=ob.rows++rows2 })) w':=by
  refine ⟨hg.os,hg.tape,hg.output,hg.size,fun id' len hh=> ?_,fun b hb hno=>⟨hg.block b hb (fun e=>hno ⟨id,ob,ho,e.symm⟩), ?_⟩⟩
  ·obtain ⟨x,k1,k2⟩:=hh
   by_cases he:id=id'
   ·subst he;rw [ho] at k1;cases k1
    have:=k2 ob rfl
    exact ⟨⟨_,by rw [Xj hlt],fun x hx=>by cases hx;rw [hhl'];omega⟩,fx (by omega)⟩
   ·exact ⟨⟨x,by rw [Xi he];exact k1,k2⟩,fx (.inl (Xv he))⟩
  ·rintro ⟨id',ob'',k1,k2⟩
   by_cases he:id=id'
   ·subst he;rw [Xj hlt] at k1;cases k1;rw [hhl',lk] at k2;simp only [cX,cq,W7] at k2;subst k2
    rcases hvb' with e|e
    ·exact hno ⟨id,ob,ho,e.symm⟩
    ·cases e;omega
   ·rw [Xi he] at k1;rw [fx (.inl (Xv he))] at k2;exact hno ⟨id',ob'',k1,k2⟩
 have hcl:cur.toList.take ((ob.rows.length+rows2.length) * ob.z)=xs++news:=htake
 refine ⟨hm,⟨fun id' ob'' k1=> ?_,fun b hb=>h.up b (WO hg.size hb),fun i1 i2 b1 b2 b k1 k2 hne' k3 k4=> ?_,h.gl.mono hm (fun _ _ h=>h)⟩, ?_⟩
 ·by_cases he:id=id'
  ·subst he;rw [Xj hlt] at k1;cases k1
   have key: ∀(i j:Nat) row c x,(ob.rows++rows2)[i]? = some row->row[j]? = some c->cur[i * ob.z+j]? = some x->RA D nu o w c x∧x.oneCell'=true:=by
    intro i j row c x q1 q2 q3;have hj:=(WT.1 q2).1;have hi:=(WT.1 q1).1;simp only [WX] at hi
    have hjz:j<ob.z:=by
     rcases WV i ob.rows.length with q|q
     ·rw [WU q] at q1;rw [<-hL.row i row q1];exact hj
     ·rw [Xr q] at q1;rw [<-hN.row _ row q1];exact hj
    have q4:(xs++news)[i * ob.z+j]? = some x:=by
     rw [<-hcl,Xq (mO hi hjz)];simpa using q3
    rcases WV i ob.rows.length with q|q
    ·rw [WU q] at q1;obtain ⟨y,y1,y2⟩:=hL.cell i j row c q1 q2
     have hll:i * ob.z+j<xs.length:=by rw [hL.len];exact mO q hjz
     rw [WU hll] at q4;rw [q4] at y1;cases y1;exact ⟨y2,hL.one _ (Xw q4)⟩
    ·rw [Xr q] at q1;obtain ⟨y,y1,y2⟩:=hN.cell (i - ob.rows.length) j row c q1 q2
     have hge:xs.length<=i * ob.z+j:=by
      rw [hL.len];have:=W4 ob.z q;omega
     rw [Xr hge,hL.len] at q4
     rw [show i * ob.z+j - ob.rows.length * ob.z=(i - ob.rows.length) * ob.z+j by
      rw [Nat.sub_mul];have:=W4 ob.z q;omega] at q4
     rw [q4] at y1;cases y1;exact ⟨y2,hN.one _ (Xw q4)⟩
   refine .inr (.inl ⟨g,cur,hblk, ?_,fun e=>(by rw [hv] at e;cases e),fun _=>⟨cap,by simp only [WX];rw [lk],by simpa using hcap,hcm,hsz⟩,hz,fun i row hi=> ?_,fun i j row c x q1 q2 q3=>(key i j row c x q1 q2 q3).1.mono hm (fun _ _ h=>h),fun i j row c x q1 q2 q3=>(key i j row c x q1 q2 q3).2⟩)
   ·rcases hvb' with e|e
    ·rcases h.obj id ob ho with ⟨e1,e2,e3⟩|⟨g0,cur0,hb⟩|⟨g0,es,cl,hmp⟩
     ·rw [hhl,e2] at e;simp only [WS] at e;rw [e3] at e;cases e
     ·rw [hb.bF] at e;cases e;exact hb.nY
     ·rw [hmp.gw] at hv;cases hv
    ·cases e;exact h.up _ (WN _)
   ·rcases WV i ob.rows.length with q|q
    ·rw [WU q] at hi;exact hL.row i row hi
    ·rw [Xr q] at hi;exact hN.row _ row hi
  ·rw [Xi he] at k1
   rcases h.obj id' ob'' k1 with ⟨e1,e2,e3⟩|⟨g',cur',hr⟩|⟨g',es,cl,hmp⟩
   ·exact .inl ⟨e1,e2,by rw [fx (.inl (Xv he))];exact e3⟩
   ·refine .inr (.inl ⟨g',cur',(hg.block g' (h.bn ⟨id',ob'',k1,hr.bF⟩) (fun e=>h.sep id id' ob ob'' g' ho k1 he e.symm hr.bF)).trans hr.fl,hr.nY,fun e=> ?_,fun e=> ?_,hr.z,hr.row,fun i j row c x q1 q2 q3=>(hr.cell i j row c x q1 q2 q3).mono hm (fun _ _ h=>h),hr.one⟩)
    ·rw [fx (.inl (Xv he))];exact hr.box e
    ·rw [fx (.inl (Xv he))];exact hr.vec e
   ·exact .inr (.inr ⟨g',es,cl,hmp.tr (hg.block g' (h.bn ⟨id',ob'',k1,hmp.bF⟩) (fun e=>h.sep id id' ob ob'' g' ho k1 he e.symm hmp.bF)) (fun h=>h) (fx (.inl (Xv he))) (fun i j row c x _ _ hr=>hr.mono hm (fun _ _ h=>h))⟩)
 ·have new: ∀id' ob'',id≠id'->o[id']? = some (some ob'')->cX (nu id' ob''.hl)≠some g:=fun id' ob'' hne2 q1 q2=>by
   rcases hvb' with e|e
   ·exact h.sep id id' ob ob'' g ho q1 hne2 e.symm q2
   ·cases e
    have:=h.bn ⟨id',ob'',q1,q2⟩
    omega
  by_cases h1:id=i1
  ·subst h1;rw [Xj hlt] at k1;cases k1;rw [hhl',lk] at k3;cases k3;rw [Xi hne'] at k2;rw [fx (.inl (Xv hne'))] at k4;exact new i2 b2 hne' k2 k4
  ·rw [Xi h1] at k1;rw [fx (.inl (Xv h1))] at k3
   by_cases h2:id=i2
   ·subst h2;rw [Xj hlt] at k2;cases k2;rw [hhl',lk] at k4;cases k4;exact new i1 b1 h1 k1 k3
   ·rw [Xi h2] at k2;rw [fx (.inl (Xv h2))] at k4;exact h.sep i1 i2 b1 b2 b k1 k2 hne' k3 k4
 ·have:=RA.vec (D:=D) (nu:=zy nu id (ob.rows.length+rows2.length) (.slice (some ⟨g,0,none⟩) (ob.rows.length+rows2.length) cap)) (o:=o.set id (some { ob with rows:=ob.rows++rows2 })) (w:=w') id (ob.rows.length+rows2.length)
   ⟨_,Xj hlt,fun x hx=>by cases hx;rw [hhl'];exact WN _⟩ (by rw [lk];rfl)
  rw [lk] at this;exact this
end
end
section
section
variable {D:Nat->Prop} {nu:Nat->Nat->Value} {o:List (Option ab)} {w:World}
structure vU (D:Nat->Prop) (nu:Nat->Nat->Value) (o:List (Option ab)) (w:World) (z:Nat) (rows:List (List AV)) (cur:Array Value):Prop where
 row: ∀(i:Nat) row,rows[i]? = some row->row.length=z
 cell: ∀(i j:Nat) row c,rows[i]? = some row->row[j]? = some c-> ∃x,cur[i * z+j]? = some x∧RA D nu o w c x∧x.oneCell'=true
theorem mN (h:RO D nu o w) (e:TypeId) {z:Nat} (hz:0<z) {rows:List (List AV)} {cur:Array Value} {cap:Nat} (hg:vU D nu o w z rows cur) (h1:rows.length<=cap) (h2:cap<=maxLen) (h3:cur.size=cap * z) :
  Good D nu o w (.ok (.slice (some ⟨w.heap.size,0,none⟩) rows.length cap) (w.alloc (.cells cur e))) (.vec o.length rows.length) (o++[some ⟨e,z,true,rows⟩]):=by
 have hb:Below w.heap.size w (w.alloc (.cells cur e)):=(Below.refl _ _).alloc (WN _) _
 have hv: ∀b,cX (Value.slice (some ⟨w.heap.size,0,none⟩) rows.length cap)=some b->w.heap.size<=b:=fun b e=>by cases e;exact WN _
 have hm:=ik (nu:=nu) (o:=o) (ob:=⟨e,z,true,rows⟩) hb hv
 refine ⟨_,_,ju nu o.length (.slice (some ⟨w.heap.size,0,none⟩) rows.length cap),rfl,hm,nL h hb hv (.inr (.inl ⟨w.heap.size,cur,heap_alloc_new w _,h.up _ (WN _),fun e'=>(by cases e'),fun _=>⟨cap,b6 _ _ _ _,h1,h2,h3⟩,hz,hg.row,fun i j row c x q1 q2 q3=> ?_,fun i j row c x q1 q2 q3=> ?_⟩)), ?_⟩
 ·obtain ⟨y,y1,y2,_⟩:=hg.cell i j row c q1 q2;rw [y1] at q3;cases q3;exact y2.mono hm (fun _ _ h=>h)
 ·obtain ⟨y,y1,_,y3⟩:=hg.cell i j row c q1 q2;rw [y1] at q3;cases q3;exact y3
 ·have:=RA.vec (D:=D) (nu:=ju nu o.length (.slice (some ⟨w.heap.size,0,none⟩) rows.length cap)) (o:=o++[some ⟨e,z,true,rows⟩]) (w:=w.alloc (.cells cur e)) o.length rows.length
   ⟨_,WW,fun x hx=>by cases hx;exact WN _⟩ (by rw [b6];rfl)
  rw [b6] at this;exact this
theorem RA.Of {z len:Nat} {rows:List (List AV)} {x:Value} (hr:RA D nu o w (.aB z rows len) x):len<=rows.length:=by
 cases hr with
 | bu=>exact WZ _
 | bL=>exact WZ _
 | aB=>assumption
theorem BM {P:Program} {T:TypeId} (ty:TypeId) {e:TypeId} {z bytes:Nat} (ht:lh P T=some (e,z,bytes)) (h:RO D nu o w) {rows:List (List AV)} {len:Nat} {b:AV} {x y:Value} (hr:RA D nu o w (.full (.aB z rows len)) x) (hs:RA D nu o w b y) {p:Prop} {rows2:List (List AV)} (e2:oF o z b=some (p,rows2)) (hp:p)
  (hne:rows2≠[]) (hby:(len+rows2.length) * bytes<=70368744177664) (h63:len+rows2.length<=70368744177664) :
  ∃cap cur,(Builtin.append_ #[T,T] ty #[x,y]).run P w = .ok (.slice (some ⟨w.heap.size,0,none⟩) (len+rows2.length) cap) (w.drew.alloc (.cells cur e))∧vU D nu o w z (rows.take len++rows2) cur∧(rows.take len++rows2).length=len+rows2.length∧len+rows2.length<=cap∧cap<=maxLen∧cur.size=cap * z:=by
 obtain ⟨hu,i,zv,hi,hzv,hzs,hz0,hsize,hbytes⟩:=ew ht
 cases hr with
 | full _ _ hfull hr=>
 obtain ⟨ad,n,rfl⟩:=hfull;have hlen:=hr.Of
 have hL:(rows.take len).length=len:=by rw [Xm];omega
 have hpos:0<rows2.length:=List.length_pos_iff.2 hne
 obtain ⟨g2,c2,news,rfl,hN,hcell2⟩: ∃g c news,y = .slice (some g) rows2.length c∧x5 D nu o w z rows2 news∧(∀(j:Nat) u,news[j]? = some u->w.cell? (g.add j)=some u):=by
  rcases jP h hz0 hs e2 hp with ⟨_,e0⟩|hh
  ·exact absurd e0 hne
  ·exact hh
 have hsz:i.size=z:=hsize
 have hgrid: ∀(olds:List Value) (cap:Nat),x5 D nu o w z (rows.take len) olds->vU D nu o w z (rows.take len++rows2) (olds.toArray++news.toArray++Builtin.zeroCells zv.cells (cap - (len+rows2.length))):=by
  intro olds cap hO
  have hol:olds.length=len * z:=by rw [hO.len,hL]
  refine ⟨fun k row hk=> ?_,fun k j row c hk hj=> ?_⟩
  ·rcases WV k (rows.take len).length with q|q
   ·rw [WU q] at hk;exact hO.row k row hk
   ·rw [Xr q] at hk;exact hN.row _ row hk
  ·rcases WV k (rows.take len).length with q|q
   ·rw [WU q] at hk;obtain ⟨u,u1,u2⟩:=hO.cell k j row c hk hj;have hlt:=(WT.1 u1).1;refine ⟨u, ?_,u2,hO.one u (Xw u1)⟩;rw [Array.append_assoc,Xx (by simpa using hlt)];simpa using u1
   ·rw [Xr q] at hk;obtain ⟨u,u1,u2⟩:=hN.cell _ j row c hk hj;have hlt:=(WT.1 u1).1;refine ⟨u, ?_,u2,hN.one u (Xw u1)⟩
    have hk2:k * z+j=len * z+((k - (rows.take len).length) * z+j):=by
     rw [hL] at q ⊢
     have:k * z=len * z+(k - len) * z:=by rw [<-W5];congr 1;omega
     omega
    rw [Array.append_assoc,Array.getElem?_append_right (by simp [hol];omega),Xx (by simp [hol];omega)];simp only [Xl,hol,hk2,Nat.add_sub_cancel_left];simpa using u1
 have hcs: ∀(olds:List Value) (cap:Nat),olds.length=len * z->len+rows2.length<=cap->(olds.toArray++news.toArray++Builtin.zeroCells zv.cells (cap - (len+rows2.length))).size=cap * z:=by
  intro olds cap h1 h2;simp only [Array.size_append,Xl,size_zeroCells,hzs,h1,hN.len, <- W5]
  congr 1;omega
 have hml:len+rows2.length<=maxLen:=by unfold maxLen;omega
 have hfit: ∀old,old<len+rows2.length->Builtin.nextslicecap (len+rows2.length) old * i.bytes<=281474976710656:=fun old ho=>by
  have h1:Builtin.nextslicecap (len+rows2.length) old * i.bytes<=2 * (len+rows2.length) * i.bytes:=W4 _ (nextslicecap_le ho);rw [Nat.mul_assoc,hbytes] at h1;rw [hbytes];omega
 have hlr:(rows.take len++rows2).length=len+rows2.length:=by rw [WX,hL]
 rcases jP (p:=z=z) (rows:=rows.take len) h hz0 hr rfl rfl with ⟨e0,e1⟩|⟨g,c,olds,e0,hO,hcell⟩
 ·rw [e0]
  have hl0:len=0:=by rw [<-hL,e1];rfl
  subst hl0;simp only [Nat.zero_add] at hby h63 hfit hgrid hcs hml hlr ⊢
  refine ⟨_,_,run_append_nil (P:=P) w T ty e i zv hu hi hzv g2 rows2.length c2 news (by rw [hsz];exact hN.len) hcell2 hpos (by unfold maxLen at hml;omega) (by rw [hbytes];omega), ?_,hlr,grownCap_ge w _ 0 e,grownCap_le_maxLen w _ 0 e hml, ?_⟩
  ·have:=hgrid [] (grownCap w rows2.length 0 e) ⟨by simp,fun u hu=>by simp at hu,fun k row hk=>by simp at hk,fun k j row c hk=>by simp at hk⟩
   simpa using this
  ·have:=hcs [] (grownCap w rows2.length 0 e) (by simp) (grownCap_ge w _ 0 e)
   simpa using this
 ·simp only [Value.slice.injEq] at e0;obtain ⟨rfl,e3,e4⟩:=e0;rw [hL] at e3;subst e3;refine ⟨_,_,run_append_grow (P:=P) w T ty e i zv hu hi hzv g n n olds (by rw [hO.len,hL,hsz]) hcell g2 rows2.length c2 news (by rw [hsz];exact hN.len) hcell2 (by omega) (by unfold maxLen at hml;omega) (hfit n (by omega)),hgrid olds _ hO,hlr,grownCap_ge w _ n e,grownCap_le_maxLen w _ n e hml,hcs olds _ (by rw [hO.len,hL]) (grownCap_ge w _ n e)⟩
def sE (P:Program) (T:TypeId) (o:List (Option ab)) (a b:AV):Option (Prop×AV×List (Option ab)):=
 match lh P T,a with
 | some (e,z,bytes), .vec id len=>match o[id]?,oF o z b with
  | some (some ob),some (p,rows2)=>some ((ob.gw=true∧ob.z=z∧ob.T=e∧ob.rows.length=len)∧p∧(len+rows2.length) * bytes<=140737488355328∧len+rows2.length<=140737488355328, .vec id (len+rows2.length),o.set id (some { ob with rows:=ob.rows++rows2 }))
  | _,_=>none
 | some (e,z,bytes), .full (.aB z' rows len)=>match oF o z b with
  | some (p,rows2)=>some ((z'=z∧rows2≠[])∧p∧(len+rows2.length) * bytes<=70368744177664∧len+rows2.length<=70368744177664, .vec o.length (len+rows2.length),o++[some ⟨e,z,true,rows.take len++rows2⟩])
  | none=>none
 | some (e,z,bytes), .v (.slice none 0 0)=>match oF o z b with
  | some (p,rows2)=>some (p∧rows2.length * bytes<=140737488355328∧rows2.length<=140737488355328, .vec o.length rows2.length,o++[some ⟨e,z,true,rows2⟩])
  | none=>none
 | _,_=>none
theorem AG {P:Program} {T:TypeId} (ty:TypeId) (h:RO D nu o w) {a b:AV} {x y:Value} (hr:RA D nu o w a x) (hs:RA D nu o w b y) {p:Prop} {r:AV} {o':List (Option ab)} (hl:sE P T o a b=some (p,r,o')) (hp:p) :
  Good D nu o w ((Builtin.append_ #[T,T] ty #[x,y]).run P w) r o':=by
 unfold sE at hl
 split at hl
 ·rename_i e z bytes id len ht
  split at hl
  ·rename_i ob p' rows2 ho e2;simp only [W7,W8] at hl;obtain ⟨rfl,rfl,rfl⟩:=hl;obtain ⟨⟨hv,rfl,rfl,rfl⟩,hp',hby,h63⟩:=hp;obtain ⟨hu,i,zv,hi,hzv,hzs,hz0,hsize,hbytes⟩:=ew ht;obtain ⟨xs,hown,hL,hob⟩:=h.sV ho hv;cases hr
   rcases jP h hz0 hs e2 hp' with ⟨rfl,rfl⟩|⟨g,c,news,rfl,hN,hcell⟩
   ·have hrun:=run_append_owned_none (P:=P) w 0 T ty ob.T i ob.z hu hi _ _ _ hown
    have e1:({ ob with rows:=ob.rows++[] }:ab)=ob:=by simp
    have e3:o.set id (some { ob with rows:=ob.rows++[] })=o:=by
     rw [e1]
     apply List.ext_getElem?
     intro k
     by_cases hk:id=k
     ·subst hk;rw [Xj (WT.1 ho).1];exact ho.symm
     ·rw [Xi hk]
    rw [e3,hrun];rename_i hh ho1;exact Good.pure h (.vec id _ hh ho1) rfl
   ·by_cases hne:rows2=[]
    ·subst hne;have hn:news=[]:=Xy (by simpa using hN.len);subst hn
     have e1:({ ob with rows:=ob.rows++[] }:ab)=ob:=by simp
     have e3:o.set id (some { ob with rows:=ob.rows++[] })=o:=by
      rw [e1]
      apply List.ext_getElem?
      intro k
      by_cases hk:id=k
      ·subst hk;rw [Xj (WT.1 ho).1];exact ho.symm
      ·rw [Xi hk]
     rw [e3];rename_i hh ho1
     have hrun:(Builtin.append_ #[T,T] ty #[nu id ob.rows.length, .slice (some g) 0 c]).run P w = .ok (nu id ob.rows.length) w:=by
      rcases hown.2 with ⟨e4,e5⟩|⟨g',cap,cur,e4,_,_,hnc,_⟩
      ·rw [e4];simp [Builtin.append_,run_underlying hu,sizeOf,typeInfo,hi,Builtin.lenOf,Builtin.firstCells,loadCells,loadCellsFrom]
      ·rw [e4];simp [Builtin.append_,run_underlying hu,sizeOf,typeInfo,hi,Builtin.lenOf,Builtin.firstCells,loadCells,loadCellsFrom,hnc,storeCells]
     exact Good.pure h (.vec id _ hh ho1) hrun
    ·obtain ⟨v',w',hrun,hown',hgr,_,hvb⟩:=run_append_own_at (P:=P) w 0 T ty ob.T i zv ob.z bytes hu hi hzv hsize hbytes hzs hz0 _ _ xs hown g rows2.length c news hN.len hcell hN.one
      (by unfold maxLen;omega) hby (WZ _)
     obtain ⟨k1,k2,k3⟩:=GK h ho hv hz0 hne hL hN hown' hgr hvb;exact ⟨v',w',_,hrun,k1,k2,k3⟩
  ·cases hl
 ·rename_i e z bytes z' rows len ht
  split at hl
  ·rename_i p' rows2 e2;simp only [W7,W8] at hl;obtain ⟨rfl,rfl,rfl⟩:=hl;obtain ⟨⟨rfl,hne⟩,hp',hby,h63⟩:=hp;obtain ⟨_,_,_,_,_,_,hz0,_,_⟩:=ew ht;obtain ⟨cap,cur,hrun,hg,hlr,hc1,hc2,hcs⟩:=BM ty ht h hr hs e2 hp' hne hby h63;have hb:Below w.heap.size w w.drew:=(Below.refl _ _).drew
   have hg':vU D nu o w.drew z' (rows.take len++rows2) cur:=⟨hg.row,fun i j row c h1 h2=>by
    obtain ⟨x,x1,x2,x3⟩:=hg.cell i j row c h1 h2
    exact ⟨x,x1,x2.mono (ay hb) (fun _ _ h=>h),x3⟩⟩
   have:=mN (h.below hb) e hz0 hg' (by rw [hlr];exact hc1) hc2 hcs
   rw [hlr] at this;obtain ⟨v,w',nu',k1,k2,k3⟩:=this;exact ⟨v,w',nu',hrun.trans k1,(ay hb).trans k2,k3⟩
  ·cases hl
 ·rename_i e z bytes ht
  split at hl
  ·rename_i p' rows2 e2;simp only [W7,W8] at hl;obtain ⟨rfl,rfl,rfl⟩:=hl;obtain ⟨hp',hby,h63⟩:=hp;obtain ⟨hu,i,zv,hi,hzv,hzs,hz0,hsize,hbytes⟩:=ew ht;cases hr
   
   have fin: ∀(v':Value) (w':World) (news:List Value),x5 D nu o w z rows2 news->w'.ownsRow 0 e z v' rows2.length news->w.grownBy w' none->(v'.ownBlock=none∨v'.ownBlock=some w.heap.size) ->
     bK nu o w (ju nu o.length v') (o++[some ⟨e,z,true,rows2⟩]) w'∧RO D (ju nu o.length v') (o++[some ⟨e,z,true,rows2⟩]) w'∧RA D (ju nu o.length v') (o++[some ⟨e,z,true,rows2⟩]) w' (.vec o.length rows2.length) v':=by
    intro v' w' news hN hown hgr hvb;have hb:Below w.heap.size w w':=⟨hgr.os,hgr.tape,hgr.output,hgr.size,fun k hk=>hgr.block k hk (by simp)⟩;obtain ⟨hlen,hown⟩:=hown
    have hv: ∀b,cX v'=some b->w.heap.size<=b:=fun b hb'=>by
     rcases hown with ⟨rfl,_⟩|⟨g,cap,cur,rfl,_⟩
     ·cases hb'
     ·simp only [Value.ownBlock] at hvb;simp only [cX,cq] at hb'
      rcases hvb with e1|e1
      ·cases e1
      ·rw [e1] at hb';cases hb';exact WN _
    have hm:=ik (nu:=nu) (o:=o) (ob:=⟨e,z,true,rows2⟩) hb hv
    refine ⟨hm,nL h hb hv ?_, ?_⟩
    ·rcases hown with ⟨rfl,e0⟩|⟨g,cap,cur,rfl,_,hblk,hcap,hcm,hsz,htake⟩
     ·exact .inl ⟨rfl,Xy e0,rfl⟩
     ·have hg:g=w.heap.size:=by simpa [Value.ownBlock] using hvb
      have key: ∀(i j:Nat) row c x,rows2[i]? = some row->row[j]? = some c->cur[i * z+j]? = some x->RA D nu o w c x∧x.oneCell'=true:=by
       intro i j row c x q1 q2 q3;obtain ⟨y,y1,y2⟩:=hN.cell i j row c q1 q2;have hj:=(WT.1 q2).1;rw [hN.row i row q1] at hj
       have q4:news[i * z+j]? = some x:=by
        rw [<-htake,Xq (mO (WT.1 q1).1 hj)];simpa using q3
       rw [q4] at y1;cases y1;exact ⟨y2,hN.one _ (Xw q4)⟩
      refine .inr (.inl ⟨g,cur,hblk,h.up _ (by omega),fun e'=>(by cases e'),fun _=>⟨cap,b6 _ _ _ _,hcap,hcm,hsz⟩,hz0,hN.row,fun i j row c x q1 q2 q3=>(key i j row c x q1 q2 q3).1.mono hm (fun _ _ h=>h),fun i j row c x q1 q2 q3=>(key i j row c x q1 q2 q3).2⟩)
    ·have:=RA.vec (D:=D) (nu:=ju nu o.length v') (o:=o++[some ⟨e,z,true,rows2⟩]) (w:=w') o.length rows2.length ⟨_,WW,fun x hx=>by cases hx;exact WN _⟩ (by
      rw [b6]
      rcases hown with ⟨rfl,_⟩|⟨g,cap,cur,rfl,_⟩<;>rfl)
     rw [b6] at this;exact this
   have hnil:=World.ownsRow_nil w 0 e z
   rcases jP h hz0 hs e2 hp' with ⟨rfl,rfl⟩|⟨g,c,news,rfl,hN,hcell⟩
   ·have hrun:=run_append_owned_none (P:=P) w 0 T ty e i z hu hi _ _ _ hnil;obtain ⟨k1,k2,k3⟩:=fin (.slice none 0 0) w [] (uG z) (by simpa using hnil) ⟨rfl,rfl,rfl,WN _,fun _ _ _=>rfl⟩ (.inl rfl);exact ⟨_,w,_,hrun,k1,k2,k3⟩
   ·obtain ⟨v',w',hrun,hown',hgr,_,hvb⟩:=run_append_own_at (P:=P) w 0 T ty e i zv z bytes hu hi hzv hsize hbytes hzs hz0 _ _ [] hnil g rows2.length c news hN.len hcell hN.one
     (by unfold maxLen;omega) (by simpa using hby) (WZ _)
    obtain ⟨k1,k2,k3⟩:=fin v' w' news hN (by simpa using hown') hgr (by simpa [Value.ownBlock] using hvb);exact ⟨v',w',_,hrun,k1,k2,k3⟩
  ·cases hl
 ·cases hl
def ei (P:Program) (e:TypeId):Option (List AV):=match P.info? e with
 | some i=>match i.zero with
  | some zv=>if zv.cells.toList.all (·.oneCell') then some (zv.cells.toList.map AV.v) else none
  | none=>none
 | none=>none
theorem fK {P:Program} {e:TypeId} {cs:List AV} (h:ei P e=some cs): ∃i zv,P.info? e=some i∧i.zero=some zv∧cs=zv.cells.toList.map AV.v∧ ∀x∈zv.cells.toList,x.oneCell'=true:=by
 unfold ei at h
 split at h
 ·rename_i i hi
  split at h
  ·rename_i zv hz
   split at h
   ·rename_i ha;cases h;exact ⟨i,zv,hi,hz,rfl,fun x hx=>List.all_eq_true.1 ha x hx⟩
   ·cases h
  ·cases h
 ·cases h
theorem zD (zv:Value) (h1: ∀x∈zv.cells.toList,x.oneCell'=true):Mf D nu o w (zv.cells.toList.map AV.v) zv.cells:=
 ⟨⟨by simp,fun i c x hc hx=>by
  rw [Xe] at hc
  have:zv.cells.toList[i]? = some x:=by simpa using hx
  rw [this] at hc;cases hc;exact .v x⟩,fun i x hx=>h1 x (Xw (show zv.cells.toList[i]? = some x by simpa using hx))⟩
def EH (P:Program) (T:TypeId) (o:List (Option ab)) (n c:AV):Option (Prop×AV×List (Option ab)):=
 match P.underlying T,n,c with
 | some (.slice e), .v (.int _ l), .v (.int _ m)=>match lh P T,ei P e with
  | some (_,z,bytes),some zr=>some (0<=l∧l<=m∧m.toNat * bytes<=140737488355328∧m.toNat<=140737488355328, .vec o.length l.toNat,o++[some ⟨e,z,true,List.replicate l.toNat zr⟩])
  | _,_=>none
 | _,_,_=>none
theorem GJ {P:Program} {T:TypeId} (h:RO D nu o w) {n c:AV} {x y:Value} (hx:RA D nu o w n x) (hy:RA D nu o w c y) {p:Prop} {r:AV} {o':List (Option ab)} (hl:EH P T o n c=some (p,r,o')) (hp:p) :
  Good D nu o w ((Instr.makeSlice T x y).run P w) r o':=by
 unfold EH at hl
 split at hl
 ·rename_i e kl l kc m hu
  split at hl
  ·rename_i e2 z bytes zr ht hz;simp only [W7,W8] at hl;obtain ⟨rfl,rfl,rfl⟩:=hl;obtain ⟨h1,h2,h3,h4⟩:=hp;obtain ⟨hu',i,zv,hi,hzv,hzs,hz0,hsize,hbytes⟩:=ew ht;rw [hu] at hu';cases hu';obtain ⟨i',zv',hi',hzv',rfl,hone⟩:=fK hz;rw [hi] at hi';cases hi';rw [hzv] at hzv';cases hzv';cases hx;cases hy
   have hr:=run_make (P:=P) w T e i zv hu hi hzv kl kc l m h1 h2 (by
    have:(i.bytes:Int) * m=((m.toNat * i.bytes:Nat):Int):=by
     rw [Int.natCast_mul,Int.toNat_of_nonneg (by omega),Int.mul_comm]
    rw [this,hbytes];omega) (by omega)
   rw [hr]
   have hmod: ∀i j:Nat,j<z->(i * z+j) % zv.cells.size=j:=fun i j hj=>by rw [hzs];exact sM hj
   have hg:vU D nu o w z (List.replicate l.toNat (zv.cells.toList.map AV.v)) (madeCells zv.cells (m.toNat * i.size)):=by
    refine ⟨fun k row hk=> ?_,fun k j row c hk hj=> ?_⟩
    ·rw [Xz] at hk;split at hk<;>cases hk;simpa using hzs
    ·rw [Xz] at hk
     split at hk
     ·rename_i hlt;cases hk;rw [Xe] at hj
      cases hq:zv.cells.toList[j]? with
      | none=>rw [hq] at hj;cases hj
      | some u=>
       rw [hq] at hj;cases hj
       have hjl:j<zv.cells.size:=by have:=(WT.1 hq).1;simpa using this
       refine ⟨u, ?_, .v u,hone u (Xw hq)⟩
       have hlt2:k * z+j<m.toNat * i.size:=by rw [hsize];exact mO (by omega) (by omega)
       simp only [madeCells,Array.getElem?_map,XA,if_pos hlt2,Xu];rw [hmod k j (by omega)]
       have:zv.cells[j]? = some u:=by simpa using hq
       rw [getElem!_pos zv.cells j hjl,(WR.1 this).2]
     ·cases hk
   have:=mN h e hz0 hg (cap:=m.toNat) (by simp;omega) (by unfold maxLen;omega) (by rw [size_madeCells,hsize])
   simpa using this
  ·cases hl
 ·cases hl
theorem qV (off:Nat): ∀(xs:List Value) (s:Nat) (cells:Array Value) (k:Nat),off+s+xs.length<=cells.size ->
  ((xs.zipIdx s).foldl (fun cs p=>cs.setIfInBounds (off+p.2) p.1) cells)[k]? = if off+s<=k∧k<off+s+xs.length then xs[k - (off+s)]? else cells[k]?
 | [],s,cells,k,_=>by
  rw [if_neg (by simp only [WS];omega)];rfl
 | x :: xs,s,cells,k,h=>by
  simp only [WY] at h;rw [List.zipIdx_cons,List.foldl_cons,qV off xs (s+1) _ k (by simp;omega)];simp only [WY]
  by_cases h1:off+(s+1)<=k∧k<off+(s+1)+xs.length
  ·rw [if_pos h1,if_pos (by omega),show k - (off+s)=(k - (off+(s+1)))+1 by omega,List.getElem?_cons_succ]
  ·rw [if_neg h1]
   by_cases h2:k=off+s
   ·subst h2;rw [if_pos (by omega),Nat.sub_self,Array.getElem?_setIfInBounds_self_of_lt (by omega)];rfl
   ·rw [if_neg (by omega),Array.getElem?_setIfInBounds_ne (Xv h2)]
theorem oR (off:Nat): ∀(xs:List Value) (s:Nat) (cells:Array Value),((xs.zipIdx s).foldl (fun cs p=>cs.setIfInBounds (off+p.2) p.1) cells).size=cells.size
 | [],_,_=>rfl
 | x :: xs,s,cells=>by rw [List.zipIdx_cons,List.foldl_cons,oR off xs];simp
theorem ub (xs:Array Value) (off:Nat) (cells:Array Value):xs.zipIdx.foldl (fun cs (c,j)=>cs.setIfInBounds (off+j) c) cells=(xs.toList.zipIdx 0).foldl (fun cs p=>cs.setIfInBounds (off+p.2) p.1) cells:=by
 rw [<-Array.foldl_toList,Array.toList_zipIdx]
def pt (place:List (Nat×Nat)) (cells:List AV):List (Nat×AV)->Option (List AV)
 | []=>some cells
 | (i,a) :: rest=>match place[i]?,a.cells? with
  | some (off,size),some cs=>if cs.length=size∧off+cs.length<=cells.length then pt place (BU cells off cs) rest else none
  | _,_=>none
theorem Og {row cs:List AV} {off k:Nat} (h:off+cs.length<=row.length):(BU row off cs)[k]? = if off<=k∧k<off+cs.length then cs[k - off]? else row[k]? :=by
 have h1:(row.take off).length=off:=by simp;omega
 unfold BU
 by_cases hk:k<off
 ·rw [if_neg (by omega),Xp,WU (by omega),Xq hk]
 ·rw [Xp,Xr (by omega),h1]
  by_cases h2:k<off+cs.length
  ·rw [if_pos (by omega),WU (by omega)]
  ·rw [if_neg (by omega),Xr (by omega),W9]
   congr 1;omega
theorem qU (place:List (Nat×Nat)): ∀(ps:List (Nat×AV)) (vs:List (Nat×Value)) (cells:List AV) (cur:Array Value),ps.length=vs.length ->
  (∀(k:Nat) p q,ps[k]? = some p->vs[k]? = some q->p.1=q.1∧RA D nu o w p.2 q.2)->Mf D nu o w cells cur-> ∀ {res:List AV},pt place cells ps=some res-> ∃ys,Instr.fill (place.toArray[·]?) cur vs=some ys∧Mf D nu o w res ys
 | [],[],cells,cur,_,_,hc,res,hf=>by
  simp only [pt,W7] at hf;subst hf;exact ⟨cur,rfl,hc⟩
 | (i,a) :: ps,(j,v) :: vs,cells,cur,hl,hall,hc,res,hf=>by
  obtain ⟨he,hr⟩:=hall 0 (i,a) (j,v) rfl rfl;simp only at he hr;subst he;simp only [pt] at hf
  split at hf
  ·rename_i off size cs e1 e2
   split at hf
   ·rename_i hcond;have hcs:=hr.one e2
    have hsz:v.cells.size=size:=by rw [<-hcs.len];exact hcond.1
    have hcl:=hc.len
    have hfit:off+v.cells.size<=cur.size:=by rw [<-hcs.len, <- hcl];exact hcond.2
    have hlen:(BU cells off cs).length=cells.length:=by simp [BU];omega
    have hnew:Mf D nu o w (BU cells off cs) (v.cells.zipIdx.foldl (fun cs (c,j)=>cs.setIfInBounds (off+j) c) cur):=by
     rw [ub];have hget:=fun k=>qV off v.cells.toList 0 cur k (by simpa using hfit);simp only [Xh,Xo] at hget
     refine ⟨⟨by rw [hlen,oR];exact hcl,fun k c x h1 h2=> ?_⟩,fun k x h2=> ?_⟩
     ·rw [Og hcond.2] at h1;rw [hget k] at h2;rw [hcs.len] at h1
      split at h1
      ·rename_i hk;rw [if_pos hk] at h2;exact hcs.at' _ c x h1 (by simpa using h2)
      ·rename_i hk;rw [if_neg hk] at h2;exact hc.at' k c x h1 h2
     ·rw [hget k] at h2
      split at h2
      ·exact hcs.one _ x (by simpa using h2)
      ·exact hc.one k x h2
    obtain ⟨ys,h1,h2⟩:=qU place ps vs _ _ (by simpa using hl) (fun k p q h1 h2=>hall (k+1) p q (by simpa using h1) (by simpa using h2)) hnew hf;refine ⟨ys, ?_,h2⟩
    have e1':place.toArray[i]? = some (off,size):=by simpa using e1
    simp only [Instr.fill,e1'];rw [if_neg (by simp;omega)];exact h1
   ·cases hf
  ·cases hf
 | [],_ :: _,_,_,hl,_,_,_,_=>by simp at hl
 | _ :: _,[],_,_,hl,_,_,_,_=>by simp at hl
def Lo (P:Program) (T:TypeId):Option (List (Nat×Nat)×List AV):=
 match P.underlying T with
 | some (.struct fields)=>match fields.toList.mapM (fun f=>(P.info? f.type).map fun i=>(f.offset,i.size)),ei P T with
  | some pl,some z=>some (pl,z)
  | _,_=>none
 | some (.array n e)=>match P.info? e,ei P T with
  | some ie,some z=>some ((List.range n).map (fun i=>(i * ie.size,ie.size)),z)
  | _,_=>none
 | _=>none
theorem wY {p q:Nat->Option (Nat×Nat)} (h: ∀i x,p i=some x->q i=some x): ∀(vs:List (Nat×Value)) (cur ys:Array Value),Instr.fill p cur vs=some ys->Instr.fill q cur vs=some ys
 | [],cur,ys,hf=>hf
 | (i,v) :: vs,cur,ys,hf=>by
  simp only [Instr.fill] at hf ⊢
  cases hp:p i with
  | none=>rw [hp] at hf;cases hf
  | some x=>
   rw [hp] at hf;rw [h i x hp];simp only at hf ⊢
   split at hf
   ·cases hf
   ·rename_i hc;rw [if_neg hc];exact wY h vs _ ys hf
def oD (P:Program) (T:TypeId) (parts:List (Nat×AV)):Option AV:=match Lo P T with
 | some (pl,z)=>(pt pl z parts).map AV.agg
 | none=>none
theorem Dv {P:Program} {T:TypeId} {ps:List (Nat×AV)} {vs:Array (Nat×Value)} (hl:ps.length=vs.size) (hall: ∀(k:Nat) p q,ps[k]? = some p->vs[k]? = some q->p.1=q.1∧RA D nu o w p.2 q.2) {r:AV} (hb:oD P T ps=some r) :
  ∃v,(Instr.build T vs).run P w = .ok v w∧RA D nu o w r v:=by
 unfold oD at hb
 split at hb
 ·rename_i pl z ht;unfold Lo at ht
  split at ht
  ·rename_i fields hu
   split at ht
   ·rename_i pl' z' h1 h2;simp only [W7,W8] at ht;obtain ⟨rfl,rfl⟩:=ht;obtain ⟨i,zv,hi,hzv,rfl,hone⟩:=fK h2
    cases hf:pt pl' (zv.cells.toList.map AV.v) ps with
    | none=>rw [hf] at hb;cases hb
    | some res=>
     rw [hf] at hb;cases hb;obtain ⟨ys,h3,h4⟩:=qU pl' ps vs.toList _ _ (by simpa using hl) (fun k p q a b=>hall k p q a (by simpa using b)) (zD zv hone) hf;refine ⟨.agg ys,run_build w T vs ys ?_, .agg _ _ h4.len h4.at' h4.one⟩;simp only [Program.built,hi,hu,hzv,h1];exact h3
   ·cases ht
  ·rename_i n e hu
   split at ht
   ·rename_i ie z' h1 h2;simp only [W7,W8] at ht;obtain ⟨rfl,rfl⟩:=ht;obtain ⟨i,zv,hi,hzv,rfl,hone⟩:=fK h2
    cases hf:pt ((List.range n).map (fun i=>(i * ie.size,ie.size))) (zv.cells.toList.map AV.v) ps with
    | none=>rw [hf] at hb;cases hb
    | some res=>
     rw [hf] at hb;cases hb;obtain ⟨ys,h3,h4⟩:=qU _ ps vs.toList _ _ (by simpa using hl) (fun k p q a b=>hall k p q a (by simpa using b)) (zD zv hone) hf;refine ⟨.agg ys,run_build w T vs ys ?_, .agg _ _ h4.len h4.at' h4.one⟩;simp only [Program.built,hi,hu,hzv,h1];refine wY (fun i x hx=> ?_) _ _ _ h3;simp only [Xd,Xe] at hx
     cases hr:(List.range n)[i]? with
     | none=>rw [hr] at hx;cases hx
     | some j=>
      rw [hr] at hx
      have:=(WT.1 hr).2
      rw [List.getElem_range] at this;rw [<-hx,Xu,this]
   ·cases ht
  ·cases ht
 ·cases hb
def wI (z:Nat) (rows:List (List AV)):List (Nat×AV)->Option (List (List AV))
 | []=>some rows
 | (i,a) :: rest=>match a.cells? with
  | some cs=>if cs.length=z∧i<rows.length then wI z (rows.set i cs) rest else none
  | none=>none
theorem xL {z:Nat}: ∀(ps:List (Nat×AV)) (vs:List (Nat×Value)) (rows:List (List AV)) (cur:Array Value),ps.length=vs.length ->
  (∀(k:Nat) p q,ps[k]? = some p->vs[k]? = some q->p.1=q.1∧RA D nu o w p.2 q.2)->vU D nu o w z rows cur->cur.size=rows.length * z-> ∀ {res:List (List AV)},wI z rows ps=some res ->
  ∃ys,Instr.fill (fun i=>some (i * z,z)) cur vs=some ys∧vU D nu o w z res ys∧res.length=rows.length∧ys.size=cur.size
 | [],[],rows,cur,_,_,hc,_,res,hf=>by
  simp only [wI,W7] at hf;subst hf;exact ⟨cur,rfl,hc,rfl,rfl⟩
 | (i,a) :: ps,(j,v) :: vs,rows,cur,hl,hall,hc,hsz,res,hf=>by
  obtain ⟨he,hr⟩:=hall 0 (i,a) (j,v) rfl rfl;simp only at he hr;subst he;simp only [wI] at hf
  split at hf
  ·rename_i cs e2
   split at hf
   ·rename_i hcond;have hcs:=hr.one e2
    have hvs:v.cells.size=z:=by rw [<-hcs.len];exact hcond.1
    have hfit:i * z+z<=cur.size:=by
     rw [hsz];have:(i+1) * z<=rows.length * z:=W4 _ hcond.2;rw [W5,W6] at this;exact this
    have hnew:vU D nu o w z (rows.set i cs) (v.cells.zipIdx.foldl (fun cs (c,j)=>cs.setIfInBounds (i * z+j) c) cur):=by
     rw [ub];have hget:=fun k=>qV (i * z) v.cells.toList 0 cur k (by simp;omega);simp only [Xh,Xo] at hget
     refine ⟨fun k row hk=> ?_,fun k m row c h1 h2=> ?_⟩
     ·by_cases hik:i=k
      ·subst hik;rw [Xj hcond.2] at hk;cases hk;exact hcond.1
      ·rw [Xi hik] at hk;exact hc.row k row hk
     ·by_cases hik:i=k
      ·subst hik;rw [Xj hcond.2] at h1;cases h1;have hm:=(WT.1 h2).1;have hx:v.cells[m]? = some v.cells[m]:=Xa (by omega);refine ⟨v.cells[m], ?_,hcs.at' m c _ h2 hx,hcs.one m _ hx⟩;rw [hget,if_pos (by omega),show i * z+m - i * z=m by omega];simp
      ·rw [Xi hik] at h1;obtain ⟨x,q1,q2⟩:=hc.cell k m row c h1 h2;refine ⟨x, ?_,q2⟩;have hm:=(WT.1 h2).1;rw [hc.row k row h1] at hm;rw [hget,if_neg,q1]
       rcases Nat.lt_or_gt_of_ne hik with hlt|hgt
       ·have:(i+1) * z<=k * z:=W4 _ hlt
        rw [W5,W6] at this;omega
       ·have:(k+1) * z<=i * z:=W4 _ hgt
        rw [W5,W6] at this;omega
    have hsz':(v.cells.zipIdx.foldl (fun cs (c,j)=>cs.setIfInBounds (i * z+j) c) cur).size=cur.size:=by rw [ub,oR]
    obtain ⟨ys,h1,h2,h3,h4⟩:=xL ps vs _ _ (by simpa using hl) (fun k p q h1 h2=>hall (k+1) p q (by simpa using h1) (by simpa using h2)) hnew (by rw [hsz'];simpa using hsz) hf;refine ⟨ys, ?_,h2,by simpa using h3,by rw [h4,hsz']⟩;simp only [Instr.fill];rw [if_neg (by simp;omega)];exact h1
   ·cases hf
  ·cases hf
 | [],_ :: _,_,_,hl,_,_,_,_,_=>by simp at hl
 | _ :: _,[],_,_,hl,_,_,_,_,_=>by simp at hl
def fP (P:Program) (T:TypeId) (len:Nat) (o:List (Option ab)) (parts:List (Nat×AV)):Option (AV×List (Option ab)):=
 match P.underlying T with
 | some (.slice e)=>match lh P T,ei P e with
  | some (_,z,_),some zr=>if len * z<=16777216 then match wI z (List.replicate len zr) parts with
   | some rows=>some (.vec o.length len,o++[some ⟨e,z,true,rows⟩])
   | none=>none
   else none
  | _,_=>none
 | _=>none
theorem K2 {P:Program} {T:TypeId} {len:Nat} {ps:List (Nat×AV)} {vs:Array (Nat×Value)} (hl:ps.length=vs.size) (hall: ∀(k:Nat) p q,ps[k]? = some p->vs[k]? = some q->p.1=q.1∧RA D nu o w p.2 q.2) {o1:List (Option ab)} {r:AV} {o':List (Option ab)} (hb:fP P T len o1 ps=some (r,o')) :
  ∃e z rows ys,r = .vec o1.length len∧o'=o1++[some ⟨e,z,true,rows⟩]∧rows.length=len∧0<z∧len<=16777216∧ys.size=len * z∧vU D nu o w z rows ys∧(Instr.buildSlice T len vs).run P w = .ok (.slice (some ⟨w.heap.size,0,none⟩) len len) (w.alloc (.cells ys e)):=by
 unfold fP at hb
 split at hb
 ·rename_i e hu
  split at hb
  ·rename_i e2 z bytes zr ht hz
   split at hb
   ·rename_i hsmall
    split at hb
    ·rename_i rows hrows;simp only [W7,W8] at hb;obtain ⟨rfl,rfl⟩:=hb;obtain ⟨hu',i,zv,hi,hzv,hzs,hz0,hsize,hbytes⟩:=ew ht;rw [hu] at hu';cases hu';obtain ⟨i',zv',hi',hzv',rfl,hone⟩:=fK hz;rw [hi] at hi';cases hi';rw [hzv] at hzv';cases hzv'
     have hg:vU D nu o w z (List.replicate len (zv.cells.toList.map AV.v)) ((Array.range (len * i.size)).map (zv.cells[· % zv.cells.size]!)):=by
      refine ⟨fun k row hk=> ?_,fun k j row c hk hj=> ?_⟩
      ·rw [Xz] at hk;split at hk<;>cases hk;simpa using hzs
      ·rw [Xz] at hk
       split at hk
       ·rename_i hlt;cases hk;rw [Xe] at hj
        cases hq:zv.cells.toList[j]? with
        | none=>rw [hq] at hj;cases hj
        | some u=>
         rw [hq] at hj;cases hj
         have hjl:j<zv.cells.size:=by have:=(WT.1 hq).1;simpa using this
         refine ⟨u, ?_, .v u,hone u (Xw hq)⟩
         have hlt2:k * z+j<len * i.size:=by rw [hsize];exact mO hlt (by omega)
         simp only [Array.getElem?_map,XA,if_pos hlt2,Xu];rw [show (k * z+j) % zv.cells.size=j by rw [hzs];exact sM (by omega)]
         have:zv.cells[j]? = some u:=by simpa using hq
         rw [getElem!_pos zv.cells j hjl,(WR.1 this).2]
       ·cases hk
     obtain ⟨ys,h1,h2,h3,h4⟩:=xL ps vs.toList _ _ (by simpa using hl) (fun k p q a b=>hall k p q a (by simpa using b)) hg (by simp [hsize]) hrows;simp only [List.length_replicate] at h3
     have hys:ys.size=len * z:=by rw [h4];simp [hsize]
     have hrun:(Instr.buildSlice T len vs).run P w = .ok (.slice (some ⟨w.heap.size,0,none⟩) len len) (w.alloc (.cells ys e)):=by
      rw [<-hsize] at h1
      by_cases h0:len * i.size=0
      ·have hlen0:len=0:=by
        rcases Nat.mul_eq_zero.1 h0 with e1|e1
        ·exact e1
        ·omega
       subst hlen0
       have h0': ¬(0 > 16777216):=by omega
       simp [Array.range_zero'] at h1;simp [Instr.buildSlice,run_underlying hu,sizeOf,typeInfo,hi,newRow,Array.range_zero',h1]
      ·have hs': ¬len * i.size > 2 ^ 24:=by rw [hsize];omega
       simp [Instr.buildSlice,run_underlying hu,sizeOf,typeInfo,zeroValue,hi,hzv,hs',h0,h1,newRow]
     have hlm:len<=16777216:=WO (Nat.le_mul_of_pos_right _ hz0) hsmall;exact ⟨e,z,rows,ys,rfl,rfl,h3,hz0,hlm,hys,h2,hrun⟩
    ·cases hb
   ·cases hb
  ·cases hb
 ·cases hb
theorem sy {P:Program} {T:TypeId} {len:Nat} (h:RO D nu o w) {ps:List (Nat×AV)} {vs:Array (Nat×Value)} (hl:ps.length=vs.size) (hall: ∀(k:Nat) p q,ps[k]? = some p->vs[k]? = some q->p.1=q.1∧RA D nu o w p.2 q.2) {r:AV} {o':List (Option ab)} (hb:fP P T len o ps=some (r,o')) :
  Good D nu o w ((Instr.buildSlice T len vs).run P w) r o':=by
 obtain ⟨e,z,rows,ys,rfl,rfl,h3,hz0,hlm,hys,h2,hrun⟩:=K2 hl hall hb;rw [hrun]
 have:=mN h e hz0 h2 (cap:=len) (by omega) (by unfold maxLen;omega) hys
 rw [h3] at this;exact this
end
end
section
section
variable {D:Nat->Prop} {nu:Nat->Nat->Value} {o:List (Option ab)} {w:World} {P:Program}
theorem c7 (id:Nat):bK nu o w nu (o.set id none) w:=by
 refine ⟨rfl,rfl,rfl,WN _,fun id' len hh=>⟨?_,rfl⟩,fun b _ hno=>⟨rfl, ?_⟩⟩
 ·obtain ⟨x,k1,k2⟩:=hh
  by_cases he:id=id'
  ·subst he;exact ⟨none,Xj (WT.1 k1).1,fun x hx=>by cases hx⟩
  ·exact ⟨x,by rw [Xi he];exact k1,k2⟩
 ·rintro ⟨id',ob'',k1,k2⟩
  by_cases he:id=id'
  ·subst he;rw [Xj (by have:=(WT.1 k1).1;simpa using this)] at k1;cases k1
  ·rw [Xi he] at k1;exact hno ⟨id',ob'',k1,k2⟩
theorem jJ {id id':Nat} {ob:ab} (h:(o.set id none)[id']? = some (some ob)):o[id']? = some (some ob)∧id≠id':=by
 by_cases he:id=id'
 ·subst he;rw [Xj (by have:=(WT.1 h).1;simpa using this)] at h;cases h
 ·rw [Xi he] at h;exact ⟨h,he⟩
theorem lG (h:RO D nu o w) (id:Nat):RO D nu (o.set id none) w:=by
 have hm:=c7 (nu:=nu) (o:=o) (w:=w) id;refine ⟨fun id' ob' k1=> ?_,h.up,fun i1 i2 b1 b2 b k1 k2=>h.sep i1 i2 b1 b2 b (jJ k1).1 (jJ k2).1,h.gl.mono hm (fun _ _ h=>h)⟩
 rcases h.obj id' ob' (jJ k1).1 with e|⟨g,cur,hr⟩|⟨g,es,cl,hmp⟩
 ·exact .inl e
 ·exact .inr (.inl ⟨g,cur,hr.fl,hr.nY,hr.box,hr.vec,hr.z,hr.row,fun i j row c x q1 q2 q3=>(hr.cell i j row c x q1 q2 q3).mono hm (fun _ _ h=>h),hr.one⟩)
 ·exact .inr (.inr ⟨g,es,cl,hmp.tr rfl (fun h=>h) rfl (fun i j row c x _ _ hr=>hr.mono hm (fun _ _ h=>h))⟩)
theorem Nk (h:RO D nu o w) {id:Nat} {ob:ab} (ho:o[id]? = some (some ob)) {g:Nat} {cur:Array Value} (hb:zP D nu o w id ob g cur):Fz D nu (o.set id none) w g:=by
 refine ⟨(WR.1 hb.fl).1, ?_,hb.nY⟩;rintro ⟨id',ob',k1,k2⟩;obtain ⟨k3,k4⟩:=jJ k1;exact h.sep id id' ob ob' g ho k3 k4 hb.bF k2
theorem l5 (h:RO D nu o w) {id:Nat} {ob:ab} (ho:o[id]? = some (some ob)) (hv:ob.gw=true):RA D nu (o.set id none) w (.aB ob.z ob.rows ob.rows.length) (nu id ob.rows.length):=by
 rcases h.obj id ob ho with ⟨e1,e2,e3⟩|⟨g,cur,hb⟩|⟨g,es,cl,hmp⟩
 rotate_left 2
 ·rw [hmp.gw] at hv;cases hv
 ·rw [e2];simp only [WS];rw [e3];exact .bu _
 ·obtain ⟨cap,q1,q2,q3,q4⟩:=hb.vec hv;rw [q1]
  have hget: ∀(i j:Nat) row c,ob.rows[i]? = some row->row[j]? = some c->cur[i * ob.z+j]? = some (cur.getD (i * ob.z+j) Go.undef):=fun i j row c k1 k2=>by
   have:=hb.pI k1 (WT.1 k2).1
   simp [Array.getD,this]
  refine .aB _ _ _ g 0 cap (fun i j=>cur.getD (i * ob.z+j) Go.undef) (WN _) q2 q3 (fun _=>Nk h ho hb) hb.row (fun i j row c k1 k2=> ?_) (fun i j row c k1 k2=> ?_) (fun i j row c k1 k2=> ?_)
  ·rw [<-hget i j row c k1 k2]
   have:=hb.fl
   simp [World.cell?,this]
  ·exact (hb.cell i j row c _ k1 k2 (hget i j row c k1 k2)).mono (c7 id) (fun _ _ h=>h)
  ·exact hb.one i j row c _ k1 k2 (hget i j row c k1 k2)
def IB:Option AV->Nat->Option (Prop×Nat)
 | none,d=>some (True,d)
 | some (.v (.int _ i)),_=>some (0<=i,i.toNat)
 | some _,_=>none
theorem jh {a:Option AV} {d n:Nat} {p:Prop} (h:IB a d=some (p,n)) (hp:p) {x:Option Value} (hx: ∀c,a=some c-> ∃y,x=some y∧RA D nu o w c y) (hn:a=none->x=none) :
  (x=none∧n=d)∨ ∃k,x=some (.int k (n:Int)):=by
 cases a with
 | none=>simp only [IB,W7,W8] at h;exact .inl ⟨hn rfl,h.2.symm⟩
 | some c=>
  cases c with
  | v y=>
   cases y with
   | int k i=>
    simp only [IB,W7,W8] at h;obtain ⟨rfl,rfl⟩:=h;obtain ⟨y,rfl,hy⟩:=hx _ rfl;cases hy;exact .inr ⟨k,by rw [Int.toNat_of_nonneg hp]⟩
   | _=>cases h
  | _=>cases h
theorem fA {b:Bool} {len cap l h m:Nat} {lo hi mx:Option Value} (hl:(lo=none∧l=0)∨ ∃k,lo=some (.int k (l:Int))) (hh:(hi=none∧h=len∧mx=none)∨ ∃k,hi=some (.int k (h:Int)))
  (hm:(mx=none∧m=cap)∨ ∃k,mx=some (.int k (m:Int))) (h1:l<=h) (h2:h<=m) (h3:m<=cap):(Instr.sliceBounds b len cap lo hi mx).run P w = .ok (l,h,m) w:=by
 rcases hm with ⟨rfl,rfl⟩|⟨km,rfl⟩
 ·rcases hh with ⟨rfl,rfl,_⟩|⟨kh,rfl⟩
  ·rcases hl with ⟨rfl,rfl⟩|⟨kl,rfl⟩
   ·simp [Instr.sliceBounds]
   ·simp [Instr.sliceBounds,Instr.sliceBound,asIntOf,h1]
  ·rcases hl with ⟨rfl,rfl⟩|⟨kl,rfl⟩
   ·simp [Instr.sliceBounds,Instr.sliceBound,asIntOf,h2]
   ·simp [Instr.sliceBounds,Instr.sliceBound,asIntOf,h1,h2]
 ·rcases hh with ⟨_,_,e⟩|⟨kh,rfl⟩
  ·cases e
  ·rcases hl with ⟨rfl,rfl⟩|⟨kl,rfl⟩
   ·simp [Instr.sliceBounds,Instr.sliceBound,asIntOf,h2,h3]
   ·simp [Instr.sliceBounds,Instr.sliceBound,asIntOf,h1,h2,h3]
theorem u5 {z len l h m:Nat} {rows:List (List AV)} {x:Value} (hr:RA D nu o w (.aB z rows len) x) (h1:l<=h) (h2:h<=m) (h3:m<=rows.length) :
  ∃a cap,x = .slice a len cap∧rows.length<=cap∧(∀M,m<=M->M<=cap->RA D nu o w (.aB z ((rows.take m).drop l) (h - l)) (.slice (if M=l then a else a.map (·.add (l * z))) (h - l) (M - l))):=by
 cases hr with
 | bu=>
  simp at h3
  obtain rfl:l=0:=by omega
  obtain rfl:h=0:=by omega
  subst h3;refine ⟨none,0,rfl,WN _,fun M hM hM'=> ?_⟩
  obtain rfl:M=0:=by omega
  exact .bu z
 | bL _ a=>
  simp at h3
  obtain rfl:l=0:=by omega
  obtain rfl:h=0:=by omega
  subst h3;refine ⟨some a,0,rfl,WN _,fun M hM hM'=> ?_⟩
  obtain rfl:M=0:=by omega
  exact .bL z a
 | aB _ _ _ b off cap f k1 k2 k3 k4 k5 k6 k7 k8=>
  refine ⟨some ⟨b,off,none⟩,cap,rfl,k2,fun M hM hM'=> ?_⟩
  have hget: ∀(i:Nat) row,((rows.take m).drop l)[i]? = some row->rows[l+i]? = some row:=fun i row hi=>by
   rw [W9,Xc] at hi
   split at hi
   ·exact hi
   ·cases hi
  by_cases hMl:M=l
  ·rw [if_pos hMl]
   have e:(rows.take m).drop l=[]:=by simp;omega
   rw [e];refine .aB z [] (h - l) b off (M - l) f (by simp;omega) (by simp) (by omega) (fun hh=>absurd rfl hh) (fun i row hi=>by simp at hi) (fun i j row c hi=>by simp at hi) (fun i j row c hi=>by simp at hi) (fun i j row c hi=>by simp at hi)
  ·rw [if_neg hMl];simp only [Xu,Addr.add_lit];refine .aB z _ (h - l) b (off+l * z) (M - l) (fun i j=>f (l+i) j) (by simp;omega) (by simp;omega) (by omega) (fun hh=>k4 (fun e=>hh (by rw [e];simp))) (fun i row hi=>k5 _ row (hget i row hi)) (fun i j row c hi hj=> ?_) (fun i j row c hi hj=>k7 _ j row c (hget i row hi) hj) (fun i j row c hi hj=>k8 _ j row c (hget i row hi) hj)
   have:=k6 (l+i) j row c (hget i row hi) hj
   rw [<-this]
   congr 2
   rw [W5];omega
def Rw (P:Program) (T:TypeId):Option Nat:=match P.underlying T with
 | some (.slice e)=>ct P e
 | _=>none
theorem vG {T:TypeId} {z:Nat} (h:Rw P T=some z): ∃e,P.underlying T=some (.slice e)∧ct P e=some z:=by
 unfold Rw at h
 split at h
 ·exact ⟨_, ‹_›,h⟩
 ·cases h
def oE (P:Program) (T:TypeId) (o:List (Option ab)) (a:AV) (lo hi mx:Option AV):Option (Prop×AV×List (Option ab)):=
 match a with
 | .v (.string s)=>match P.underlying T,IB lo 0,IB hi s.size,mx with
  | some .string,some (p,l),some (q,h),none=>some (p∧q∧l<=h∧h<=s.size, .v (.string (s.extract l h)),o)
  | _,_,_,_=>none
 | .aB z rows len=>match Rw P T,IB lo 0,IB hi len,mx with
  | some z',some (p,l),some (q,h),none=>some (p∧q∧l<=h∧h<=rows.length∧z'=z, .aB z (rows.drop l) (h - l),o)
  | some z',some (p,l),some (q,h),some m=>match IB (some m) 0,hi with
   | some (r,m),some _=>some (p∧q∧r∧l<=h∧m=h∧m<=rows.length∧z'=z, .full (.aB z ((rows.take h).drop l) (h - l)),o)
   | _,_=>none
  | _,_,_,_=>none
 | .vec id len=>match o[id]?,Rw P T,IB lo 0,IB hi len,mx with
  | some (some ob),some z',some (p,l),some (q,h),none=>some ((ob.gw=true∧ob.rows.length=len)∧p∧q∧l<=h∧h<=ob.rows.length∧z'=ob.z, .aB ob.z (ob.rows.drop l) (h - l),o.set id none)
  | _,_,_,_,_=>none
 | _=>none
theorem vv {T:TypeId} {a:AV} {x:Value} (hr:RA D nu o w a x) {lo hi mx:Option AV} {vl vh vm:Option Value}
  (hlo:(∀c,lo=some c-> ∃y,vl=some y∧RA D nu o w c y)∧(lo=none->vl=none)) (hhi:(∀c,hi=some c-> ∃y,vh=some y∧RA D nu o w c y)∧(hi=none->vh=none)) (hmx:(∀c,mx=some c-> ∃y,vm=some y∧RA D nu o w c y)∧(mx=none->vm=none))
  {p:Prop} {r:AV} {o':List (Option ab)} (hl:oE P T o a lo hi mx=some (p,r,o')) (hp:p) (hv: ∀id len,a ≠ .vec id len): ∃v,(Instr.sliceAt T x vl vh vm).run P w = .ok v w∧RA D nu o w r v∧o'=o:=by
 unfold oE at hl
 split at hl
 ·
  rename_i s
  split at hl
  ·rename_i p' l q h' hu e1 e2;simp only [W7,W8] at hl;obtain ⟨rfl,rfl,rfl⟩:=hl;obtain ⟨h1,h2,h3,h4⟩:=hp;cases hr;have b1:=jh e1 h1 hlo.1 hlo.2;have b2:=jh e2 h2 hhi.1 hhi.2;have hvm:=hmx.2 rfl;subst hvm;have hb:=fA (P:=P) (w:=w) (b:=false) (len:=s.size) (cap:=s.size) (m:=s.size) (lo:=vl) (hi:=vh) (mx:=none) b1 (b2.imp (fun e=>⟨e.1,e.2,rfl⟩) (fun e=>e)) (.inl ⟨rfl,rfl⟩) h3 h4 (WN _);refine ⟨_, ?_, .v _,rfl⟩;simp [Instr.sliceAt,Instr.slice,run_underlying hu,hb]
  ·cases hl
 ·rename_i z rows len
  split at hl
  ·rename_i z' p' l q h' hu e1 e2;simp only [W7,W8] at hl;obtain ⟨rfl,rfl,rfl⟩:=hl;obtain ⟨h1,h2,h3,h4,rfl⟩:=hp;obtain ⟨e,hu,hsz⟩:=vG hu;have b1:=jh e1 h1 hlo.1 hlo.2;have b2:=jh e2 h2 hhi.1 hhi.2;have hvm:=hmx.2 rfl;subst hvm;obtain ⟨ad,cap,rfl,hcap,hfin⟩:=u5 hr h3 h4 (WN _);have hb:=fA (P:=P) (w:=w) (b:=true) (len:=len) (cap:=cap) (m:=cap) (lo:=vl) (hi:=vh) (mx:=none) b1 (b2.imp (fun e=>⟨e.1,e.2,rfl⟩) (fun e=>e)) (.inl ⟨rfl,rfl⟩) h3 (by omega) (WN _)
   have:=hfin cap hcap (WN _)
   rw [List.take_length] at this;refine ⟨_, ?_,this,rfl⟩;simp [Instr.sliceAt,Instr.slice,run_underlying hu,hb,run_sizeOf hsz]
  ·rename_i z' p' l q h' mm hu e1 e2
   split at hl
   ·rename_i r' m' _ e3;simp only [W7,W8] at hl;obtain ⟨rfl,rfl,rfl⟩:=hl;obtain ⟨h1,h2,h5,h3,rfl,h6,rfl⟩:=hp;have h4:=WN m';obtain ⟨e,hu,hsz⟩:=vG hu;have b1:=jh e1 h1 hlo.1 hlo.2;have b2:=jh e2 h2 hhi.1 hhi.2;have b3:=jh e3 h5 hmx.1 hmx.2
    have hvh: ∃y,vh=some y:=by obtain ⟨y,hy,_⟩:=hhi.1 _ rfl;exact ⟨y,hy⟩
    have hvm: ∃y,vm=some y:=by obtain ⟨y,hy,_⟩:=hmx.1 _ rfl;exact ⟨y,hy⟩
    obtain ⟨ad,cap,rfl,hcap,hfin⟩:=u5 hr h3 h4 h6
    have hb:=fA (P:=P) (w:=w) (b:=true) (len:=len) (cap:=cap) (m:=m') (lo:=vl) (hi:=vh) (mx:=vm) b1 (.inr (b2.resolve_left (fun e=>by obtain ⟨y,hy⟩:=hvh;rw [hy] at e;cases e.1)))
     (.inr (b3.resolve_left (fun e=>by obtain ⟨y,hy⟩:=hvm;rw [hy] at e;cases e.1))) h3 h4 (by omega)
    refine ⟨_, ?_, .full _ _ ⟨_,_,rfl⟩ (hfin m' (WN _) (by omega)),rfl⟩;simp [Instr.sliceAt,Instr.slice,run_underlying hu,hb,run_sizeOf hsz]
   ·cases hl
  ·cases hl
 ·exact absurd rfl (hv _ _)
 ·cases hl
theorem Dz {T:TypeId} (h:RO D nu o w) {a:AV} {x:Value} (hr:RA D nu o w a x) {lo hi mx:Option AV} {vl vh vm:Option Value}
  (hlo:(∀c,lo=some c-> ∃y,vl=some y∧RA D nu o w c y)∧(lo=none->vl=none)) (hhi:(∀c,hi=some c-> ∃y,vh=some y∧RA D nu o w c y)∧(hi=none->vh=none)) (hmx:(∀c,mx=some c-> ∃y,vm=some y∧RA D nu o w c y)∧(mx=none->vm=none))
  {p:Prop} {r:AV} {o':List (Option ab)} (hl:oE P T o a lo hi mx=some (p,r,o')) (hp:p):Good D nu o w ((Instr.sliceAt T x vl vh vm).run P w) r o':=by
 by_cases hvec: ∀id len,a ≠ .vec id len
 ·obtain ⟨v,h1,h2,rfl⟩:=vv hr hlo hhi hmx hl hp hvec;exact Good.pure h h2 h1
 obtain ⟨id,len,rfl⟩: ∃id len,a = .vec id len:=by
  apply Classical.byContradiction
  intro hn;exact hvec (fun id len e=>hn ⟨id,len,e⟩)
 simp only [oE] at hl
 split at hl
 ·rename_i ob z' p' l q h' ho hu e1 e2;simp only [W7,W8] at hl;obtain ⟨rfl,rfl,rfl⟩:=hl;obtain ⟨⟨hv,rfl⟩,h1,h2,h3,h4,rfl⟩:=hp;obtain ⟨e,hu,hsz⟩:=vG hu;have b1:=jh e1 h1 hlo.1 hlo.2;have b2:=jh e2 h2 hhi.1 hhi.2;have hvm:=hmx.2 rfl;subst hvm;cases hr;obtain ⟨ad,cap,hx,hcap,hfin⟩:=u5 (l5 h ho hv) h3 h4 (WN _);rw [hx];have hb:=fA (P:=P) (w:=w) (b:=true) (len:=ob.rows.length) (cap:=cap) (m:=cap) (lo:=vl) (hi:=vh) (mx:=none) b1 (b2.imp (fun e=>⟨e.1,e.2,rfl⟩) (fun e=>e)) (.inl ⟨rfl,rfl⟩) h3 (by omega) (WN _)
  have:=hfin cap hcap (WN _)
  rw [List.take_length] at this;refine ⟨_,w,nu, ?_,c7 id,lG h id,this⟩;simp [Instr.sliceAt,Instr.slice,run_underlying hu,hb,run_sizeOf hsz]
 ·cases hl
def iP (P:Program) (T:TypeId) (f:Nat):Option Nat:=match P.underlying T with
 | some (.struct fs)=>match fs[f]? with
  | some fd=>match ct P fd.type with
   | some n=>if n=0 then none else some fd.offset
   | none=>none
  | none=>none
 | _=>none
def wH:AV->Nat->Option AV
 | .vp cs,k=>some (.vp (cs.drop k))
 | .ptr id len z row off,k=>some (.ptr id len z row (off+k))
 | _,_=>none
theorem xE {a:AV} {x:Value} (hr:RA D nu o w a x) {k:Nat} {r:AV} (h:wH a k=some r): ∃b off,x = .pointer (some ⟨b,off,none⟩)∧RA D nu o w r (.pointer (some ⟨b,off+k,none⟩)):=by
 cases a with
 | vp cs=>
  simp only [wH,W7] at h;subst h
  cases hr with
  | vp _ b off f h1 h2 h3 h4=>
   refine ⟨b,off,rfl, .vp _ b (off+k) (fun j=>f (k+j)) h1 (fun j c hc=> ?_) (fun j c hc=> ?_) (fun j c hc=> ?_)⟩
   ·rw [W9] at hc;rw [show off+k+j=off+(k+j) by omega];exact h2 _ c hc
   ·rw [W9] at hc;exact h3 _ c hc
   ·rw [W9] at hc;exact h4 _ c hc
 | ptr id len z row off=>
  simp only [wH,W7] at h;subst h
  cases hr with
  | ptr _ _ _ _ _ b h1 h2=>
   refine ⟨b,row * z+off,rfl, ?_⟩;rw [show row * z+off+k=row * z+(off+k) by omega];exact .ptr _ _ _ _ _ _ h1 h2
 | _=>cases h
def ln (P:Program) (T:TypeId) (f:Nat) (a:AV):Option AV:=match iP P T f with
 | some k=>wH a k
 | none=>none
theorem uo {T:TypeId} {f:Nat} {a:AV} {x:Value} (hr:RA D nu o w a x) {r:AV} (h:ln P T f a=some r): ∃v,(Instr.fieldAt T x f).run P w = .ok v w∧RA D nu o w r v:=by
 unfold ln at h
 split at h
 ·rename_i k hk;obtain ⟨b,off,rfl,hr'⟩:=xE hr h;unfold iP at hk
  split at hk
  ·rename_i fs hu
   split at hk
   ·rename_i fd hfd
    split at hk
    ·rename_i n hn
     split at hk
     ·cases hk
     ·rename_i hne;simp only [W7] at hk;subst hk;refine ⟨_, ?_,hr'⟩;simp [Instr.fieldAt,run_underlying hu,hfd,Instr.sureAddr,fieldPlace,run_sizeOf hn,hne,Addr.add_lit]
    ·cases hk
   ·cases hk
  ·cases hk
 ·cases h
def Ln (P:Program) (T:TypeId) (f:Nat):Option (Nat×Bool×Nat):=match P.underlying T with
 | some (.struct fs)=>match fs[f]? with
  | some fd=>match ff P fd.type,ct P fd.type with
   | some b,some n=>some (fd.offset,b,n)
   | _,_=>none
  | none=>none
 | _=>none
def ye (P:Program) (T:TypeId) (f:Nat):AV->Option (Prop×AV)
 | .agg cs=>match Ln P T f with
  | some (off,true,n)=>some (off+n<=cs.length, .agg ((cs.drop off).take n))
  | some (off,false,_)=>match cs[off]? with
   | some c=>some (True,c)
   | none=>none
  | none=>none
 | _=>none
theorem Dy {T:TypeId} {f:Nat} {a:AV} {x:Value} (hr:RA D nu o w a x) {p:Prop} {r:AV} (h:ye P T f a=some (p,r)) (hp:p): ∃v,(Instr.field T x f).run P w = .ok v w∧RA D nu o w r v:=by
 cases a with
 | agg cs=>
  cases hr with
  | agg _ xs k1 k2 k3=>
  simp only [ye] at h
  have key: ∀off b n,Ln P T f=some (off,b,n)-> ∃fs fd,P.underlying T=some (.struct fs)∧fs[f]? = some fd∧ff P fd.type=some b∧ct P fd.type=some n∧fd.offset=off:=by
   intro off b n hh;unfold Ln at hh
   split at hh
   ·rename_i fs hu
    split at hh
    ·rename_i fd hfd
     split at hh
     ·rename_i b' n' e1 e2;cases hh;exact ⟨fs,fd,hu,hfd,e1,e2,rfl⟩
     ·cases hh
    ·cases hh
   ·cases hh
  split at h
  ·rename_i off n ht;obtain ⟨fs,fd,hu,hfd,e1,e2,rfl⟩:=key _ _ _ ht;simp only [W7,W8] at h;obtain ⟨rfl,rfl⟩:=h
   refine ⟨.agg (xs.extract fd.offset (fd.offset+n)), ?_, .agg _ _ (by simp;omega) (fun i c y q1 q2=> ?_) (fun i y q2=> ?_)⟩
   ·simp [Instr.field,run_underlying hu,hfd,asAgg,part,ir e1,run_sizeOf e2]
   ·rw [Xc] at q1
    split at q1
    ·rw [W9] at q1;rw [XB] at q2
     split at q2
     ·exact k2 _ c y q1 q2
     ·cases q2
    ·cases q1
   ·rw [XB] at q2
    split at q2
    ·exact k3 _ y q2
    ·cases q2
  ·rename_i off n ht;obtain ⟨fs,fd,hu,hfd,e1,e2,rfl⟩:=key _ _ _ ht
   split at h
   ·rename_i c hc;simp only [W7,W8] at h;obtain ⟨rfl,rfl⟩:=h
    have hlt:fd.offset<xs.size:=by rw [<-k1];exact (WT.1 hc).1
    have hx:xs[fd.offset]? = some xs[fd.offset]:=Xa hlt;refine ⟨xs[fd.offset], ?_,k2 _ c _ hc hx⟩;simp [Instr.field,run_underlying hu,hfd,asAgg,part,ir e1,hx]
   ·cases h
  ·cases h
 | _=>cases h
def lp (P:Program) (T:TypeId) (o:List (Option ab)) (a i:AV):Option (Prop×AV):=match P.underlying T,i with
 | some (.slice e), .v (.int _ i)=>match ct P e,a with
  | some z, .aB z' rows len=>some (z'=z∧0<=i∧i<len, .vp (rows.getD i.toNat []))
  | some z, .vec id len=>match o[id]? with
   | some (some ob)=>some (ob.gw=true∧ob.z=z∧ob.rows.length=len∧0<=i∧i<len, .ptr id len z i.toNat 0)
   | _=>none
  | _,_=>none
 | some (.array n e), .v (.int _ i)=>match ct P e with
  | some z=>match wH a (i.toNat * z) with
   | some r=>some (0<=i∧i<n,r)
   | none=>none
  | none=>none
 | _,_=>none
theorem uq {T:TypeId} (h:RO D nu o w) {a i:AV} {x y:Value} (hr:RA D nu o w a x) (hi:RA D nu o w i y) {p:Prop} {r:AV} (hl:lp P T o a i=some (p,r)) (hp:p): ∃v,(Instr.indexAt T x y).run P w = .ok v w∧RA D nu o w r v:=by
 unfold lp at hl
 split at hl
 ·rename_i e k i' hu;cases hi
  split at hl
  ·rename_i z z' rows len hz;simp only [W7,W8] at hl;obtain ⟨rfl,rfl⟩:=hl;obtain ⟨rfl,h0,h1⟩:=hp
   cases hr with
   | bu=>omega
   | bL=>omega
   | aB _ _ _ b off cap f k1 k2 k3 k4 k5 k6 k7 k8=>
    have hlt:i'.toNat<rows.length:=by omega
    have hrow:rows[i'.toNat]? = some rows[i'.toNat]:=Xb hlt;rw [getD_some hrow];refine ⟨.pointer (some ⟨b,off+i'.toNat * z',none⟩), ?_, .vp _ b _ (fun j=>f i'.toNat j) (k4 (fun e=>by subst e;simp at hlt)) (fun j c hc=>k6 _ j _ c hrow hc) (fun j c hc=>k7 _ j _ c hrow hc) (fun j c hc=>k8 _ j _ c hrow hc)⟩;simp [Instr.indexAt,run_underlying hu,asIntOf,h0,h1,run_sizeOf hz,Addr.add_lit]
  ·rename_i z id len hz
   split at hl
   ·rename_i ob ho;simp only [W7,W8] at hl;obtain ⟨rfl,rfl⟩:=hl;obtain ⟨hv,rfl,rfl,h0,h1⟩:=hp
    cases hr with
    | vec _ _ q1 q2=>
    rcases h.obj id ob ho with ⟨e1,e2,e3⟩|⟨g,cur,hb⟩|⟨g,es,cl,hmp⟩
    rotate_left 2
    ·rw [hmp.gw] at hv;cases hv
    ·rw [e2] at h1;simp at h1;omega
    ·obtain ⟨cap,q3,_⟩:=hb.vec hv;refine ⟨.pointer (some ⟨g,i'.toNat * ob.z+0,none⟩), ?_, .ptr id _ _ _ _ g q1 (by rw [q3];rfl)⟩;rw [q3];simp [Instr.indexAt,run_underlying hu,asIntOf,h0,h1,run_sizeOf hz,Addr.add_lit]
   ·cases hl
  ·cases hl
 ·rename_i n e k i' hu;cases hi
  split at hl
  ·rename_i z hz
   split at hl
   ·rename_i r' hpl;simp only [W7,W8] at hl;obtain ⟨rfl,rfl⟩:=hl;obtain ⟨b,off,rfl,hr'⟩:=xE hr hpl;refine ⟨_, ?_,hr'⟩;simp [Instr.indexAt,run_underlying hu,Instr.sureAddr,asIntOf,hp.1,hp.2,run_sizeOf hz,Addr.add_lit]
   ·cases hl
  ·cases hl
 ·cases hl
end
abbrev AK:=AS->Prop
theorem wA {p q:Prop} (k:q) (h:p:=by omega):p∧q:=⟨h,k⟩
end
section
open Go.RowKit Go.MapKept
def dz:TypeDesc->Value->Bool
 | .int k, .int k' _=>decide (k=k')
 | .string, .string _=>true
 | .bool, .bool _=>true
 | _,_=>false
theorem er {d:TypeDesc} {k:Value} (h:dz d k=true):IsKey d k:=by
 cases d<;>cases k<;>simp_all [dz,IsKey]
theorem Ah {s t:ByteArray} (h:s.toList=t.toList):s=t:=by
 rw [ByteArray.toList_eq,ByteArray.toList_eq] at h;obtain ⟨⟨a⟩⟩:=s;obtain ⟨⟨b⟩⟩:=t;simp at h;rw [h]
def fJ:Value->Value->Bool
 | .int _ a, .int _ b=>a==b
 | .string a, .string b=>a.toList==b.toList
 | .bool a, .bool b=>a==b
 | _,_=>false
theorem ux {d:TypeDesc} {a b:Value} (ha:dz d a=true) (hb:dz d b=true):Instr.sameNow d a b=some (fJ a b)∧(fJ a b=true->b=a):=by
 cases d<;>cases a<;>simp only [dz,Bool.false_eq_true,decide_eq_true_eq] at ha<;>cases b<;>simp only [dz,Bool.false_eq_true,decide_eq_true_eq] at hb
 ·simp only [Instr.sameNow,fJ,true_and,beq_iff_eq];exact fun h=>by rw [h]
 ·subst ha;subst hb;simp only [Instr.sameNow,fJ,if_true,true_and,beq_iff_eq];exact fun h=>by rw [h]
 ·rename_i x y
  have e:(x==y)=(x.toList==y.toList):=by
   rw [Bool.eq_iff_iff,bytes_beq,beq_iff_eq];exact ⟨fun h=>by rw [h],fun h=>Ah h⟩
  simp only [Instr.sameNow,fJ,e,true_and,beq_iff_eq,Value.string.injEq];exact fun h=>(Ah h).symm
theorem RA.plain {D:Nat->Prop} {nu:Nat->Nat->Value} {o:List (Option ab)} {w:World} {x y:Value} (h:RA D nu o w (.v x) y):y=x:=by cases h;rfl
def pw (d:TypeDesc) (k:Value):List (List AV)->Option (Option AV)
 | []=>some none
 | [.v k',x] :: l=>if dz d k' then if fJ k k' then some (some x) else pw d k l else none
 | _=>none
def qI (d:TypeDesc) (k:Value) (x:AV):List (List AV)->Option (List (List AV))
 | []=>some [[.v k,x]]
 | [.v k',y] :: l=>if dz d k' then if fJ k k' then some ([.v k,x] :: l) else (qI d k x l).map ([.v k',y] :: ·) else none
 | _=>none
section
variable {D:Nat->Prop} {nu:Nat->Nat->Value} {o:List (Option ab)} {w:World} {P:Program}
theorem qH {d:TypeDesc} {k:Value} (hk:dz d k=true): ∀(rows:List (List AV)) (es:List MapEntry) (i:Nat) (r:Option AV),es.length=rows.length->(∀(j:Nat) row c e,rows[j]? = some row->row[0]? = some c->es[j]? = some e->RA D nu o w c e.key)->pw d k rows=some r ->
  (r=none∧Instr.findNow d k es i=some none)∨ ∃j c e row,r=some c∧Instr.findNow d k es i=some (some (i+j,e.val))∧rows[j]? = some row∧row[1]? = some c∧es[j]? = some e
 | [],[],i,r,_,_,h=>by
  simp only [pw,W7] at h;exact .inl ⟨h.symm,rfl⟩
 | [],_ :: _,i,r,hl,_,_=>by simp at hl
 | _ :: _,[],i,r,hl,_,_=>by simp at hl
 | row :: l,e :: es,i,r,hl,hr,h=>by
  unfold pw at h
  split at h
  ·cases ‹row :: l=[]›
  ·rename_i k' x l' e1;cases e1
   split at h
   ·rename_i hk';have hkey:e.key=k':=(hr 0 _ (.v k') e rfl rfl rfl).plain;obtain ⟨h1,h2⟩:=ux hk hk'
    split at h
    ·rename_i he;cases h;refine .inr ⟨0,x,e,_,rfl, ?_,rfl,rfl,rfl⟩;simp [Instr.findNow,hkey,h1,he]
    ·rename_i he
     have he':fJ k k'=false:=by simpa using he
     rcases qH hk l es (i+1) r (by simpa using hl) (fun j row c e q1 q2 q3=>hr (j+1) row c e (by simpa using q1) q2 (by simpa using q3)) h with ⟨q1,q2⟩|⟨j,c,e2,row2,q1,q2,q3,q4,q5⟩
     ·exact .inl ⟨q1,by simp [Instr.findNow,hkey,h1,he',q2]⟩
     ·exact .inr ⟨j+1,c,e2,row2,q1,by simp [Instr.findNow,hkey,h1,he',q2];omega,by simpa using q3,q4,by simpa using q5⟩
   ·cases h
  ·cases h
theorem wJ {d:TypeDesc} {k:Value} {x:AV} (hk:dz d k=true): ∀(rows:List (List AV)) (es:List MapEntry) (i:Nat) (rows':List (List AV)),es.length=rows.length->(∀(j:Nat) row c e,rows[j]? = some row->row[0]? = some c->es[j]? = some e->RA D nu o w c e.key)->qI d k x rows=some rows' ->
  (rows'=rows++[[.v k,x]]∧Instr.findNow d k es i=some none)∨ ∃j e,rows'=rows.set j [.v k,x]∧Instr.findNow d k es i=some (some (i+j,e.val))∧es[j]? = some e∧e.key=k
 | [],[],i,r,_,_,h=>by
  simp only [qI,W7] at h;exact .inl ⟨h.symm,rfl⟩
 | [],_ :: _,i,r,hl,_,_=>by simp at hl
 | _ :: _,[],i,r,hl,_,_=>by simp at hl
 | row :: l,e :: es,i,r,hl,hr,h=>by
  unfold qI at h
  split at h
  ·cases ‹row :: l=[]›
  ·rename_i k' y l' e1;cases e1
   split at h
   ·rename_i hk';have hkey:e.key=k':=(hr 0 _ (.v k') e rfl rfl rfl).plain;obtain ⟨h1,h2⟩:=ux hk hk'
    split at h
    ·rename_i he;cases h;refine .inr ⟨0,e,rfl, ?_,rfl,by rw [hkey];exact h2 he⟩;simp [Instr.findNow,hkey,h1,he]
    ·rename_i he
     have he':fJ k k'=false:=by simpa using he
     obtain ⟨r2,hr2,rfl⟩:=XE.1 h
     rcases wJ hk l es (i+1) r2 (by simpa using hl) (fun j row c e q1 q2 q3=>hr (j+1) row c e (by simpa using q1) q2 (by simpa using q3)) hr2 with ⟨q1,q2⟩|⟨j,e2,q1,q2,q3,q4⟩
     ·exact .inl ⟨by rw [q1];rfl,by simp [Instr.findNow,hkey,h1,he',q2]⟩
     ·exact .inr ⟨j+1,e2,by rw [q1];rfl,by simp [Instr.findNow,hkey,h1,he',q2];omega,by simpa using q3,q4⟩
   ·cases h
  ·cases h
def FV (P:Program) (T:TypeId) (o:List (Option ab)):AV->Option (TypeDesc×TypeId×Nat×ab)
 | .vec id 0=>match P.underlying T with
  | some (.map kt et)=>match P.underlying kt,o[id]? with
   | some d,some (some ob)=>some (d,et,id,ob)
   | _,_=>none
  | _=>none
 | _=>none
theorem wC {T:TypeId} {m:AV} {d:TypeDesc} {et:TypeId} {id:Nat} {ob:ab} {v:Value} (h:RO D nu o w) (hm:RA D nu o w m v) (ha:FV P T o m=some (d,et,id,ob)) (hV:ob.gw=false) (hz:ob.z=0) :
  ∃kt g es cl,P.underlying T=some (.map kt et)∧P.underlying kt=some d∧o[id]? = some (some ob)∧v = .map (some g)∧zQ D nu o w id ob g es cl:=by
 unfold FV at ha
 split at ha
 ·split at ha
  ·rename_i kt et' hu
   split at ha
   ·rename_i d' ob' hk ho;cases ha;cases hm
    rcases h.obj id ob ho with ⟨e1,_⟩|⟨g,cur,hr⟩|⟨g,es,cl,hmp⟩
    ·rw [hV] at e1;cases e1
    ·have:=hr.z;omega
    ·exact ⟨kt,g,es,cl,hu,hk,ho,hmp.sI,hmp⟩
   ·cases ha
  ·cases ha
 ·cases ha
theorem yY (h:RO D nu o w) (P:Program) (T:TypeId):Good D nu o w ((Instr.makeMap T none).run P w) (.vec o.length 0) (o++[some ⟨T,0,false,[]⟩]):=by
 have hb:Below w.heap.size w (w.alloc (.map #[] 0)):=(Below.refl _ _).alloc (Nat.le_refl _) _
 have hv: ∀b,cX (Value.map (some w.heap.size))=some b->w.heap.size<=b:=fun b e=>by cases e;exact Nat.le_refl _
 have hm:=ik (nu:=nu) (o:=o) (ob:=⟨T,0,false,[]⟩) hb hv;refine ⟨_,_,ju nu o.length (.map (some w.heap.size)),rfl,hm,nL h hb hv (.inr (.inr ⟨w.heap.size, #[],0,(MapKept.heap_alloc w _).1,h.up _ (Nat.le_refl _),b6 _ _ _ _,rfl,rfl,rfl,fun i row hi=>by simp at hi,fun i row c e hi=>by simp at hi,fun i row c e hi=>by simp at hi,fun i e hi=>by simp at hi,fun i j e e' hi=>by simp at hi⟩)), ?_⟩
 have:=RA.vec (D:=D) (nu:=ju nu o.length (.map (some w.heap.size))) (o:=o++[some ⟨T,0,false,[]⟩]) (w:=w.alloc (.map #[] 0)) o.length 0 ⟨_,List.getElem?_concat_length,fun x hx=>Nat.zero_le _⟩ (by rw [b6];rfl)
 rwa [b6] at this
theorem Oe {w':World} {id:Nat} {ob ob':ab} (h:RO D nu o w) (ho:o[id]? = some (some ob)) (hl:ob'.hl=ob.hl) {g:Nat} (hg:cX (nu id ob.hl)=some g)
  (hm:bK nu o w nu (o.set id (some ob')) w') (h5: ∀b,b≠g->w'.heap[b]? = w.heap[b]?) {es:Array MapEntry} {cl:Nat} (hn:zQ D nu (o.set id (some ob')) w' id ob' g es cl):RO D nu (o.set id (some ob')) w':=by
 have hlt:=(WT.1 ho).1
 refine ⟨?_,fun b hb=>h.up b (Nat.le_trans hm.size hb), ?_,h.gl.mono hm (fun _ _ h=>h)⟩
 ·intro id' ob'' k1
  by_cases he:id=id'
  ·subst he;rw [Xj hlt] at k1;cases k1;exact .inr (.inr ⟨g,es,cl,hn⟩)
  ·rw [Xi he] at k1
   rcases h.obj id' ob'' k1 with e|⟨g',cur',hr⟩|⟨g',es,cl,hmp⟩
   ·exact .inl e
   ·have hne:g'≠g:=fun e=>h.sep id id' ob ob'' g ho k1 he hg (by rw [<-e];exact hr.bF);exact .inr (.inl ⟨g',cur',(h5 g' hne).trans hr.fl,hr.nY,hr.box,hr.vec,hr.z,hr.row,fun i j row c x q1 q2 q3=>(hr.cell i j row c x q1 q2 q3).mono hm (fun _ _ h=>h),hr.one⟩)
   ·have hne:g'≠g:=fun e=>h.sep id id' ob ob'' g ho k1 he hg (by rw [<-e];exact hmp.bF);exact .inr (.inr ⟨g',es,cl,hmp.tr (h5 g' hne) (fun h=>h) rfl (fun i j row c x _ _ hr=>hr.mono hm (fun _ _ h=>h))⟩)
 ·intro i1 i2 b1 b2 b k1 k2 hne k3
  have key: ∀(id':Nat) (ob'':ab),(o.set id (some ob'))[id']? = some (some ob'')-> ∃ob3:ab,o[id']? = some (some ob3)∧ob3.hl=ob''.hl:=fun id' ob'' q=>by
   by_cases he:id=id'
   ·subst he;rw [Xj hlt] at q;cases q;exact ⟨ob,ho,hl.symm⟩
   ·rw [Xi he] at q;exact ⟨ob'',q,rfl⟩
  obtain ⟨o1,m1,n1⟩:=key i1 b1 k1;obtain ⟨o2,m2,n2⟩:=key i2 b2 k2;rw [<-n2];rw [<-n1] at k3;exact h.sep i1 i2 o1 o2 b m1 m2 hne k3
theorem uJ {T:TypeId} {m x:AV} {k v vx:Value} {d:TypeDesc} {et:TypeId} {id:Nat} {ob:ab} {rows':List (List AV)} (h:RO D nu o w) (hm:RA D nu o w m v) (hx:RA D nu o w x vx) (ha:FV P T o m=some (d,et,id,ob)) (hV:ob.gw=false) (hz:ob.z=0) (hk:dz d k=true)
  (hs:qI d k x ob.rows=some rows'): ∃w',(Instr.mapUpdate T v k vx).run P w = .ok () w'∧bK nu o w nu (o.set id (some { ob with rows:=rows' })) w'∧RO D nu (o.set id (some { ob with rows:=rows' })) w':=by
 obtain ⟨kt,g,es,cl,hu,hkd,ho,rfl,hmp⟩:=wC h hm ha hV hz;have hIK:=er hk;have hlt:=(WT.1 ho).1
 have hsz:es.toList.length=ob.rows.length:=by simpa using hmp.sz
 have hl:({ ob with rows:=rows' }:ab).hl=ob.hl:=by simp [ab.hl,hV]
 
 have fin: ∀(es':Array MapEntry) (cl':Nat),es'.size=rows'.length->(∀(i:Nat) row,rows'[i]? = some row->row.length=2)->(∀(i:Nat) row c e,rows'[i]? = some row->row[0]? = some c->es'[i]? = some e->RA D nu o w c e.key)->(∀(i:Nat) row c e,rows'[i]? = some row->row[1]? = some c->es'[i]? = some e->RA D nu o w c e.val) ->
   (∀(i:Nat) e,es'[i]? = some e->e.born<cl')->(∀(i j:Nat) e e',es'[i]? = some e->es'[j]? = some e'->i<j->e.born<e'.born) ->
   bK nu o w nu (o.set id (some { ob with rows:=rows' })) { w with heap:=w.heap.setIfInBounds g (.map es' cl') }∧RO D nu (o.set id (some { ob with rows:=rows' })) { w with heap:=w.heap.setIfInBounds g (.map es' cl') }:=fun es' cl' p1 p2 p3 p4 p5 p6=>by
  have hh:=MapKept.heap_set (w:=w) (o':= .map es' cl') hmp.fl
  have hmono:bK nu o w nu (o.set id (some { ob with rows:=rows' })) { w with heap:=w.heap.setIfInBounds g (.map es' cl') }:=
   lf ho hl hmp.bF rfl rfl rfl (by simp) (fun b hb=>hh.2 b hb)
  refine ⟨hmono,Oe h ho hl hmp.bF hmono (fun b hb=>hh.2 b hb) ⟨hh.1,hmp.nY,hmp.sI,hV,hz,p1,p2,fun i row c e q1 q2 q3=>(p3 i row c e q1 q2 q3).mono hmono (fun _ _ h=>h),fun i row c e q1 q2 q3=>(p4 i row c e q1 q2 q3).mono hmono (fun _ _ h=>h),p5,p6⟩⟩
 rcases wJ hk ob.rows es.toList 0 rows' hsz (fun j row c e q1 q2 q3=>hmp.key j row c e q1 q2 (by simpa using q3)) hs with ⟨rfl,hf⟩|⟨j,e0,rfl,hf,he0,hek⟩
 ·refine ⟨_, ?_,fin (es.push { key:=k,val:=vx,born:=cl }) (cl+1) (by simp [hmp.sz]) (fun i row hi=> ?_) (fun i row c e q1 q2 q3=> ?_) (fun i row c e q1 q2 q3=> ?_) (fun i e hi=> ?_) (fun i j e e' hi hj hij=> ?_)⟩
  ·simp [Instr.mapUpdate,run_underlying hu,MapKept.run_getObj_map hmp.fl,run_checkKey hkd hIK,run_findKey hkd hf,MapKept.run_setObj_map _ hmp.fl,Result.andThen]
  ·rcases WV i ob.rows.length with q|q
   ·rw [WU q] at hi;exact hmp.row i row hi
   ·rw [Xr q] at hi
    have:=Xw hi
    simp at this;subst this;rfl
  ·rcases WV i ob.rows.length with q|q
   ·rw [WU q] at q1;rw [XF (by rw [hmp.sz];exact q)] at q3;exact hmp.key i row c e q1 q2 (by rw [Xa (by rw [hmp.sz];exact q)];exact q3)
   ·rw [Xr q] at q1
    have:=Xw q1
    simp at this;subst this
    have hi:i=es.size:=by
     have:=(WT.1 q1).1
     simp at this;have:=hmp.sz;omega
    subst hi;rw [XG] at q3;cases q3;cases q2;exact .v _
  ·rcases WV i ob.rows.length with q|q
   ·rw [WU q] at q1;rw [XF (by rw [hmp.sz];exact q)] at q3;exact hmp.val i row c e q1 q2 (by rw [Xa (by rw [hmp.sz];exact q)];exact q3)
   ·rw [Xr q] at q1
    have:=Xw q1
    simp at this;subst this
    have hi:i=es.size:=by
     have:=(WT.1 q1).1
     simp at this;have:=hmp.sz;omega
    subst hi;rw [XG] at q3;cases q3;cases q2;exact hx
  ·rw [XH] at hi
   split at hi
   ·cases hi;exact Nat.lt_succ_self _
   ·exact Nat.lt_succ_of_lt (hmp.born i e hi)
  ·rw [XH] at hi hj
   split at hj
   ·cases hj
    split at hi
    ·omega
    ·exact hmp.born i e hi
   ·split at hi
    ·have:=(WR.1 hj).1;omega
    ·exact hmp.wi i j e e' hi hj hij
 ·have hj0:es[j]? = some e0:=by simpa using he0
  have hjl:=(WR.1 hj0).1
  have hmod: ∀i,(es.modify j fun e=>{ e with key:=k,val:=vx })[i]? = if j=i then (es[i]?).map (fun e=>{ e with key:=k,val:=vx }) else es[i]? :=fun i=>by rw [Array.getElem?_modify]
  have hbn: ∀(i:Nat) e,(es.modify j fun e=>{ e with key:=k,val:=vx })[i]? = some e-> ∃e1,es[i]? = some e1∧e1.born=e.born:=fun i e hi=>by
   rw [hmod] at hi
   split at hi
   ·obtain ⟨e1,k1,rfl⟩:=XE.1 hi;exact ⟨e1,k1,rfl⟩
   ·exact ⟨e,hi,rfl⟩
  refine ⟨_, ?_,fin (es.modify j fun e=>{ e with key:=k,val:=vx }) cl (by simp [hmp.sz]) (fun i row hi=> ?_) (fun i row c e q1 q2 q3=> ?_) (fun i row c e q1 q2 q3=> ?_) (fun i e hi=> ?_) (fun i j' e e' hi hj hij=> ?_)⟩
  ·simp [Instr.mapUpdate,run_underlying hu,MapKept.run_getObj_map hmp.fl,run_checkKey hkd hIK,run_findKey hkd hf,hj0,hek,run_keyThatStays hIK,MapKept.run_setObj_map _ hmp.fl,Result.andThen]
  ·by_cases hij:j=i
   ·subst hij;rw [Xj (by rw [<-hmp.sz];exact hjl)] at hi;cases hi;rfl
   ·rw [Xi hij] at hi;exact hmp.row i row hi
  ·rw [hmod] at q3
   by_cases hij:j=i
   ·subst hij;rw [Xj (by rw [<-hmp.sz];exact hjl)] at q1;cases q1;rw [if_pos rfl] at q3;obtain ⟨e1,k1,rfl⟩:=XE.1 q3;cases q2;exact .v _
   ·rw [Xi hij] at q1;rw [if_neg hij] at q3;exact hmp.key i row c e q1 q2 q3
  ·rw [hmod] at q3
   by_cases hij:j=i
   ·subst hij;rw [Xj (by rw [<-hmp.sz];exact hjl)] at q1;cases q1;rw [if_pos rfl] at q3;obtain ⟨e1,k1,rfl⟩:=XE.1 q3;cases q2;exact hx
   ·rw [Xi hij] at q1;rw [if_neg hij] at q3;exact hmp.val i row c e q1 q2 q3
  ·obtain ⟨e1,k1,k2⟩:=hbn i e hi;rw [<-k2];exact hmp.born i e1 k1
  ·obtain ⟨e1,k1,k2⟩:=hbn i e hi;obtain ⟨e2,k3,k4⟩:=hbn j' e' hj;rw [<-k2, <- k4];exact hmp.wi i j' e1 e2 k1 k3 hij
def zX (P:Program) (T:TypeId):Option AV:=match P.info? T with
 | some i=>match i.zero with
  | some (.agg xs)=>if xs.toList.all (·.oneCell') then some (.agg (xs.toList.map AV.v)) else none
  | some zv=>some (.v zv)
  | none=>none
 | none=>none
theorem tq {T:TypeId} {c:AV} (h:zX P T=some c): ∃zv,(zeroValue T).run P w = .ok zv w∧RA D nu o w c zv:=by
 unfold zX at h
 split at h
 ·rename_i i hi
  split at h
  ·rename_i xs hz
   split at h
   ·rename_i hall;cases h
    refine ⟨.agg xs,by simp [zeroValue,typeInfo,hi,hz], .agg _ _ (by simp) (fun i c x q1 q2=> ?_) (fun i x q=> ?_)⟩
    ·rw [List.getElem?_map] at q1
     have:xs.toList[i]? = some x:=by simpa using q2
     rw [this] at q1;cases q1;exact .v _
    ·rw [List.all_eq_true] at hall;exact hall x (Xw (i:=i) (by simpa using q))
   ·cases h
  ·rename_i zv hne hz;cases h;exact ⟨zv,by simp [zeroValue,typeInfo,hi,hz], .v _⟩
  ·cases h
 ·cases h
def yi (P:Program) (T:TypeId) (o:List (Option ab)) (m k:AV) (ok:Bool):Option (Prop×AV):=match FV P T o m,k with
 | some (d,et,_,ob), .v kv=>if dz d kv then match pw d kv ob.rows with
  | some (some c)=>some (ob.gw=false∧ob.z=0,if ok then .cI [c, .v (.bool true)] else c)
  | some none=>match zX P et with
   | some z=>some (ob.gw=false∧ob.z=0,if ok then .cI [z, .v (.bool false)] else z)
   | none=>none
  | none=>none
  else none
 | _,_=>none
theorem RA.pair {c:AV} {x:Value} {b:Bool} (h:RA D nu o w c x):RA D nu o w (.cI [c, .v (.bool b)]) (.tuple #[x, .bool b]):=by
 refine .cI _ _ rfl (fun i a y q1 q2=> ?_)
 match i,q1,q2 with
 | 0,q1,q2=>cases q1;cases q2;exact h
 | 1,q1,q2=>cases q1;cases q2;exact .v _
 | i+2,q1,q2=>simp at q1
theorem zW {T:TypeId} {m k:AV} {vm vk:Value} {ok:Bool} {p:Prop} {r:AV} (h:RO D nu o w) (hm:RA D nu o w m vm) (hk:RA D nu o w k vk) (ha:yi P T o m k ok=some (p,r)) (hp:p): ∃v,(Instr.lookup T vm vk ok).run P w = .ok v w∧RA D nu o w r v:=by
 unfold yi at ha
 split at ha
 ·rename_i d et id ob kv e1;obtain rfl:=hk.plain
  split at ha
  ·rename_i hkb
   have fin:ob.gw=false∧ob.z=0-> ∀q,pw d vk ob.rows=some q-> ∃kt g es cl,P.underlying T=some (.map kt et)∧P.underlying kt=some d∧vm = .map (some g)∧w.heap[g]? = some (.map es cl)∧zQ D nu o w id ob g es cl ∧
     ((q=none∧Instr.findNow d vk es.toList 0=some none)∨ ∃j c e row,q=some c∧Instr.findNow d vk es.toList 0=some (some (0+j,e.val))∧ob.rows[j]? = some row∧row[1]? = some c∧es.toList[j]? = some e):=fun hh q hq=>by
    obtain ⟨kt,g,es,cl,hu,hkd,ho,rfl,hmp⟩:=wC h hm e1 hh.1 hh.2;exact ⟨kt,g,es,cl,hu,hkd,rfl,hmp.fl,hmp,qH hkb ob.rows es.toList 0 q (by simpa using hmp.sz) (fun j row c e q1 q2 q3=>hmp.key j row c e q1 q2 (by simpa using q3)) hq⟩
   split at ha
   ·rename_i c hq;simp only [W7,W8] at ha;obtain ⟨rfl,rfl⟩:=ha;obtain ⟨kt,g,es,cl,hu,hkd,rfl,hb,hmp,hf⟩:=fin hp _ hq
    rcases hf with ⟨q1,_⟩|⟨j,c',e,row,q1,q2,q3,q4,q5⟩
    ·cases q1
    ·cases q1;have hra:RA D nu o w c e.val:=hmp.val j row c e q3 q4 (by simpa using q5)
     cases ok
     ·exact ⟨e.val,by simp [Instr.lookup,run_underlying hu,MapKept.run_getObj_map hb,run_checkKey hkd (er hkb),run_findKey hkd q2,Result.andThen],hra⟩
     ·exact ⟨.tuple #[e.val, .bool true],by simp [Instr.lookup,run_underlying hu,MapKept.run_getObj_map hb,run_checkKey hkd (er hkb),run_findKey hkd q2,Result.andThen],hra.pair⟩
   ·rename_i hq
    split at ha
    ·rename_i z hz;simp only [W7,W8] at ha;obtain ⟨rfl,rfl⟩:=ha;obtain ⟨kt,g,es,cl,hu,hkd,rfl,hb,hmp,hf⟩:=fin hp _ hq
     rcases hf with ⟨_,q2⟩|⟨j,c',e,row,q1,_⟩
     ·obtain ⟨zv,z1,z2⟩:=tq (D:=D) (nu:=nu) (o:=o) (w:=w) hz
      cases ok
      ·exact ⟨zv,by simp [Instr.lookup,run_underlying hu,MapKept.run_getObj_map hb,run_checkKey hkd (er hkb),run_findKey hkd q2,z1,Result.andThen],z2⟩
      ·exact ⟨.tuple #[zv, .bool false],by simp [Instr.lookup,run_underlying hu,MapKept.run_getObj_map hb,run_checkKey hkd (er hkb),run_findKey hkd q2,z1,Result.andThen],z2.pair⟩
     ·cases q1
    ·cases ha
   ·cases ha
  ·cases ha
 ·cases ha
def yh (P:Program) (T:TypeId) (rows:List (List AV)) (k:AV) (ok:Bool):Option (Prop×AV):=match P.underlying T,k with
 | some (.map kt et), .v kv=>match P.underlying kt with
  | some d=>if dz d kv then match pw d kv rows with
   | some (some c)=>some (True,if ok then .cI [c, .v (.bool true)] else c)
   | some none=>match zX P et with
    | some z=>some (True,if ok then .cI [z, .v (.bool false)] else z)
    | none=>none
   | none=>none
   else none
  | none=>none
 | _,_=>none
theorem zV {T:TypeId} {rows:List (List AV)} {k:AV} {vm vk:Value} {ok:Bool} {p:Prop} {r:AV} (hm:RA D nu o w (.mp rows) vm) (hk:RA D nu o w k vk) (ha:yh P T rows k ok=some (p,r)): ∃v,(Instr.lookup T vm vk ok).run P w = .ok v w∧RA D nu o w r v:=by
 unfold yh at ha
 split at ha
 ·rename_i kt et kv hu;obtain rfl:=hk.plain
  split at ha
  ·rename_i d hkd
   split at ha
   ·rename_i hkb
    cases hm with
    | mp _ b es cl h1 hb h3 h4 h5 h6 h7=>
    have fin:=fun q hq=>qH (D:=D) (nu:=nu) (o:=o) (w:=w) hkb rows es.toList 0 q (by simpa using h3) (fun j row c e q1 q2 q3=>h7 j 0 row c e q1 q2 (by simpa using q3)) hq
    split at ha
    ·rename_i c hq;simp only [W7,W8] at ha;obtain ⟨rfl,rfl⟩:=ha
     rcases fin _ hq with ⟨q1,_⟩|⟨j,c',e,row,q1,q2,q3,q4,q5⟩
     ·cases q1
     ·cases q1;have hra:RA D nu o w c e.val:=h7 j 1 row c e q3 q4 (by simpa using q5)
      cases ok
      ·exact ⟨e.val,by simp [Instr.lookup,run_underlying hu,MapKept.run_getObj_map hb,run_checkKey hkd (er hkb),run_findKey hkd q2,Result.andThen],hra⟩
      ·exact ⟨.tuple #[e.val, .bool true],by simp [Instr.lookup,run_underlying hu,MapKept.run_getObj_map hb,run_checkKey hkd (er hkb),run_findKey hkd q2,Result.andThen],hra.pair⟩
    ·rename_i hq
     split at ha
     ·rename_i z hz;simp only [W7,W8] at ha;obtain ⟨rfl,rfl⟩:=ha
      rcases fin _ hq with ⟨_,q2⟩|⟨j,c',e,row,q1,_⟩
      ·obtain ⟨zv,z1,z2⟩:=tq (D:=D) (nu:=nu) (o:=o) (w:=w) hz
       cases ok
       ·exact ⟨zv,by simp [Instr.lookup,run_underlying hu,MapKept.run_getObj_map hb,run_checkKey hkd (er hkb),run_findKey hkd q2,z1,Result.andThen],z2⟩
       ·exact ⟨.tuple #[zv, .bool false],by simp [Instr.lookup,run_underlying hu,MapKept.run_getObj_map hb,run_checkKey hkd (er hkb),run_findKey hkd q2,z1,Result.andThen],z2.pair⟩
      ·cases q1
     ·cases ha
    ·cases ha
   ·cases ha
  ·cases ha
 ·cases ha
def zU (P:Program) (T:TypeId) (o:List (Option ab)) (m k:AV) (ok:Bool):Option (Prop×AV):=match m with
 | .mp rows=>yh P T rows k ok
 | .vec id len=>yi P T o (.vec id len) k ok
 | _=>none
theorem ti {T:TypeId} {m k:AV} {vm vk:Value} {ok:Bool} {p:Prop} {r:AV} (h:RO D nu o w) (hm:RA D nu o w m vm) (hk:RA D nu o w k vk) (ha:zU P T o m k ok=some (p,r)) (hp:p): ∃v,(Instr.lookup T vm vk ok).run P w = .ok v w∧RA D nu o w r v:=by
 unfold zU at ha
 split at ha
 ·exact zV hm hk ha
 ·exact zW h hm hk ha hp
 ·cases ha
def tj (P:Program) (T:TypeId) (o:List (Option ab)) (m k x:AV):Option (Prop×List (Option ab)):=match FV P T o m,k with
 | some (d,_,id,ob), .v kv=>if dz d kv then match qI d kv x ob.rows with
  | some rows=>some (ob.gw=false∧ob.z=0,o.set id (some ⟨ob.T,ob.z,ob.gw,rows⟩))
  | none=>none
  else none
 | _,_=>none
theorem rR {T:TypeId} {m k x:AV} {vm vk vx:Value} {p:Prop} {o':List (Option ab)} (h:RO D nu o w) (hm:RA D nu o w m vm) (hk:RA D nu o w k vk) (hx:RA D nu o w x vx) (ha:tj P T o m k x=some (p,o')) (hp:p) :
  ∃w',(Instr.mapUpdate T vm vk vx).run P w = .ok () w'∧bK nu o w nu o' w'∧RO D nu o' w':=by
 unfold tj at ha
 split at ha
 ·rename_i d et id ob kv e1;obtain rfl:=hk.plain
  split at ha
  ·rename_i hkb
   split at ha
   ·rename_i rows hs;simp only [W7,W8] at ha;obtain ⟨rfl,rfl⟩:=ha;exact uJ h hm hx e1 hp.1 hp.2 hkb hs
   ·cases ha
  ·cases ha
 ·cases ha
end
end
end Go.Proofs.YtfflpdekojlnmaaGreatDoor
