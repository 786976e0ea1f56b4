/- texts of one claim, one behind the other. -/
import Derived.Attr
import Derived.WalkKit
import Derived.Lib.Hide
import Derived.Maps.AppendAt
import Derived.Laws.Tables
import Derived.Laws.StructEq
set_option linter.unusedSimpArgs false
set_option linter.unusedVariables false
set_option maxRecDepth 100000
set_option maxHeartbeats 16000000
open Option.some renaming inj -> aec, injEq -> aep
open Array renaming getElem?_eq_some_iff -> aeh, getElem?_eq_getElem -> aer, getElem?_range -> aeI, length_toList -> aeJ
open List renaming length_nil -> aeg, getElem?_append_left -> aej, getElem?_eq_some_iff -> aek, getElem?_concat_length -> ael, length_append -> aem, getElem?_eq_getElem -> aes, getElem?_toArray -> aet, getElem?_map -> aeu, getElem?_range -> aev, getElem?_set_self -> aew, getElem?_set_ne -> aex, getElem?_of_mem -> aey, getElem?_append_right -> aeA, getElem?_take_of_lt -> aeD, mem_of_getElem? -> aeG, getElem?_replicate -> aeH
open Nat renaming le_refl -> aed, le_trans -> aee, lt_of_lt_of_le -> aef, lt_or_ge -> aei, zero_le -> aen, mul_le_mul_right -> aeo, add_zero -> aez, mul_comm -> aeB, div_lt_of_lt_mul -> aeC
open Ne renaming symm -> aeF
open Option renaming map_some -> aeE
open Prod.mk renaming injEq -> aeq
namespace Go.Proofs.YtlhhccmopfamhaaGreatDoor
abbrev ac:=List Tmp
abbrev N2:=List Bool
abbrev NE:=List (Nat×Nat)
abbrev M2:=List Int
abbrev If:=List (List Nat)
abbrev Id:=List Value
abbrev GT:=Nat->Nat->Bool
abbrev GE:=List Oper
abbrev EQ:=Nat->Nat->Value
abbrev Do:=List Nat
abbrev B0:=List ByteArray
theorem zo {p:Prop}(h:p:=by kernel_rfl):p:=h
theorem zd {p:Prop}(h:p:=by omega):p:=h
theorem b0{p:Prop}[Decidable p](h: p:=by omega):decide p=true:=decide_eq_true h
theorem bi{p:Prop}[Decidable p](h: ¬p:=by omega):decide p=false:=decide_eq_false h
theorem zs {p:Prop}(h:p:=by decide):p:=h
theorem zk {p:Prop}(h:p:=by simp):p:=h
theorem za {p:Prop}(h:p:=by decide+kernel):p:=h
theorem zf {p:Prop}(h:p:=by assumption):p:=h
theorem ahn {p:Prop}(h:p:=by simp;omega):p:=h
open Go.RowKit
attribute [go_sem_proc] Nat.reduceAdd Nat.reduceSub Nat.reduceMul Nat.reduceLeDiff Nat.reduceEqDiff Nat.reduceLT Int.reduceToNat reduceCtorEq Int.reduceLE Int.reduceLT Int.reduceNeg Int.reduceEq Int.reduceBEq Int.reduceBNe
attribute [go_sem_proc ↓] reduceIte
/-- the variables that are laid -/ def AQ (g:Nat):Option (TypeId×Array Value):=
 if g=0 then some (301, #[.int .u8 0,.int .u8 1,.int .u8 28,.int .u8 2,.int .u8 29,.int .u8 14,.int .u8 24,.int .u8 3,.int .u8 30,.int .u8 22,.int .u8 20,.int .u8 15,.int .u8 25,.int .u8 17,.int .u8 4,.int .u8 8,.int .u8 31,.int .u8 27,.int .u8 13,.int .u8 23,.int .u8 21,.int .u8 19,.int .u8 16,.int .u8 7,.int .u8 26,.int .u8 12,.int .u8 18,.int .u8 6,.int .u8 11,.int .u8 5,.int .u8 10,.int .u8 9])else
 if g=1 then some (311, #[.int .u64 1,.int .u64 10,.int .u64 100,.int .u64 1000,.int .u64 10000,.int .u64 100000,.int .u64 1000000,.int .u64 10000000,.int .u64 100000000,.int .u64 1000000000,.int .u64 10000000000,.int .u64 100000000000,.int .u64 1000000000000,.int .u64 10000000000000,.int .u64 100000000000000,.int .u64 1000000000000000,.int .u64 10000000000000000,.int .u64 100000000000000000,.int .u64 1000000000000000000,.int .u64 10000000000000000000])else
 none
theorem Mg(g:Nat)(T:TypeId)(cs:Array Value)(h:AQ g=some (T,cs)):∀(i:Nat)x,cs[i]?=some x->x.oneCell'=true:=by
 intro i x u;have key:∀l:Array Value,cs=l->l.toList.all (λv=>v.oneCell')=true->x.oneCell'=true:=λl e hl=>List.all_eq_true.1 hl x (List.mem_of_getElem? (by subst e;simpa using u))
 by_cases q:g=0
 ·rw[AQ,if_pos q]at h;exact key _ (Prod.mk.inj (aec h)).2.symm (by rfl)
 rw[AQ,if_neg q]at h
 by_cases q:g=1
 ·rw[if_pos q]at h;exact key _ (Prod.mk.inj (aec h)).2.symm (by rfl)
 rw[if_neg q]at h;cases h
inductive AV where
 |undef
 |v (x:Value)
 |agg (cs:List AV)
 |ck (vs:List AV)
 |aA (z:Nat) (rows:List (List AV)) (len:Nat)
 |vp (cs:List AV)
 |ptr (id len z row off:Nat)
 |vec (id len:Nat)
 |fn (g:FuncId) (first caps:List AV)
 |full (a:AV)
 |ju (p:(Nat->Prop)->World->Value->Prop) (a:AV)
 |mp (rows:List (List AV))
abbrev O1:=List (Nat×AV)
abbrev Fd:=List (List AV)
abbrev C5:=List AV
structure aa where
 T:TypeId
 z:Nat
 fc:Bool
 rows:List C5
abbrev AC:=List (Option aa)
def aa.hl(ob:aa):Nat:=if ob.fc then ob.rows.length else 0
inductive kB where
 |no
 |run (l:Nat) (rest:List C5)
 |off
structure AS where
 t:C5
 o:AC
 y:kB
def cW:Value->Option Nat
 | .pointer (some a)=>some a.block
 | .slice (some a) _ _=>some a.block
 |_=>none
def dW:Value->Option Nat
 | .map b=>b
 |v=>cW v
theorem J6{v:Value}{b:Nat}(h:cW v=some b):dW v=some b:=by cases v<;>first|exact h|cases h
def AV.st:AV->AV
 | .full a=>a
 | .ju _ a=>a
 |a=>a
def fg(o:AC)(id len:Nat):Prop:=∃ob,o[id]?=some ob∧∀x,ob=some x->len<=x.hl
def owned(nu:EQ)(o:AC)(b:Nat):Prop:=∃id ob,o[id]?=some (some ob)∧dW (nu id ob.hl)=some b
def Fz(D:Nat->Prop)(nu:EQ)(o:AC)(w:World)(b:Nat):Prop:=b<w.heap.size∧ ¬owned nu o b∧D b
def Vp(e:MapEntry):Nat->Value
 |0=>e.key
 |_=>e.val
inductive RA(D:Nat->Prop)(nu:EQ)(o:AC)(w:World):AV->Value->Prop
 |undef (x:Value):RA D nu o w .undef x
 |v (x:Value):RA D nu o w (.v x) x
 |agg (cs:C5) (xs:Array Value):cs.length=xs.size->(∀(i:Nat)c x,cs[i]?=some c->xs[i]?=some x->RA D nu o w c x)->(∀(i:Nat)x,xs[i]?=some x->x.oneCell'=true)->RA D nu o w (.agg cs) (.agg xs)
 |ck (cs:C5) (xs:Array Value):cs.length=xs.size->(∀(i:Nat)c x,cs[i]?=some c->xs[i]?=some x->RA D nu o w c x)->RA D nu o w (.ck cs) (.tuple xs)
 |b6 (z:Nat):RA D nu o w (.aA z [] 0) (.slice none 0 0)
 |cp (z:Nat) (a:Addr):RA D nu o w (.aA z [] 0) (.slice (some a) 0 0)
 |aA (z:Nat) (rows:List C5) (len b off cap:Nat) (f:EQ):len<=rows.length->rows.length<=cap->cap<=maxLen->(rows≠[]->Fz D nu o w b) ->
   (∀(i:Nat)row,rows[i]?=some row->row.length=z)->(∀(i j:Nat)row c,rows[i]?=some row->row[j]?=some c->w.cell? ⟨b,off+i*z+j,none⟩=some (f i j)) ->
   (∀(i j:Nat)row c,rows[i]?=some row->row[j]?=some c->RA D nu o w c (f i j))->(∀(i j:Nat)row c,rows[i]?=some row->row[j]?=some c->(f i j).oneCell'=true) ->
   RA D nu o w (.aA z rows len) (.slice (some ⟨b,off,none⟩) len cap)
 |vp (cs:C5) (b off:Nat) (f:Nat->Value):Fz D nu o w b->(∀(j:Nat)c,cs[j]?=some c->w.cell? ⟨b,off+j,none⟩=some (f j))->(∀(j:Nat)c,cs[j]?=some c->RA D nu o w c (f j)) ->
   (∀(j:Nat)c,cs[j]?=some c->(f j).oneCell'=true)->RA D nu o w (.vp cs) (.pointer (some ⟨b,off,none⟩))
 |ptr (id len z row off b:Nat):fg o id len->cW (nu id len)=some b->RA D nu o w (.ptr id len z row off) (.pointer (some ⟨b,row*z+off,none⟩))
 |vec (id len:Nat):fg o id len->(nu id len).oneCell'=true->RA D nu o w (.vec id len) (nu id len)
 |fn (g:FuncId) (first caps:C5) (fi ca:Array Value):first.length=fi.size->caps.length=ca.size->(∀(i:Nat)c x,first[i]?=some c->fi[i]?=some x->RA D nu o w c x) ->
   (∀(i:Nat)c x,caps[i]?=some c->ca[i]?=some x->RA D nu o w c x)->RA D nu o w (.fn g first caps) (.func (.func g) fi ca)
 |full (a:AV) (x:Value):(∃ad n,x=.slice ad n n)->RA D nu o w a x->RA D nu o w (.full a) x
 |ju (p:(Nat->Prop)->World->Value->Prop) (a:AV) (x:Value) (S:Nat->Prop):x.oneCell'=true->(∀b,S b->Fz D nu o w b)->(∀b,S b->∃C T k,w.heap[b]?=some (.cells C T k))->(∀w':World,(∀b,S b->w'.heap[b]?=w.heap[b]?)->p S w' x)->RA D nu o w a x->RA D nu o w (.ju p a) x
 |mp (rows:List C5) (b:Nat) (es:Array MapEntry) (cl:Nat):Fz D nu o w b->w.heap[b]?=some (.map es cl)->es.size=rows.length->(∀(i:Nat)row,rows[i]?=some row->row.length=2)->(∀(i:Nat)e,es[i]?=some e->e.born<cl) ->
   (∀(i j:Nat)e e',es[i]?=some e->es[j]?=some e'->i<j->e.born<e'.born)->(∀(i j:Nat)row c e,rows[i]?=some row->row[j]?=some c->es[i]?=some e->RA D nu o w c (Vp e j))->RA D nu o w (.mp rows) (.map (some b))
theorem RA.st{D:Nat->Prop}{nu:EQ}{o:AC}{w:World}{a:AV}{x:Value}(h:RA D nu o w a x):RA D nu o w a.st x:=by
 cases h with
 |full a x u q=>exact q
 |ju p a x S h0 u Y q A=>exact A
 |mp rows b es cl u q A H V U O=>exact .mp rows b es cl u q A H V U O
 |undef=>exact .undef _
 |v=>exact .v _
 |agg cs xs u q A=>exact .agg cs xs u q A
 |ck cs xs u q=>exact .ck cs xs u q
 |b6 z=>exact .b6 z
 |cp z a=>exact .cp z a
 |aA z rows len b off cap f u q A H V U O W=>exact .aA z rows len b off cap f u q A H V U O W
 |vp cs b off f u q A H=>exact .vp cs b off f u q A H
 |ptr id len z row off b u q=>exact .ptr id len z row off b u q
 |vec id len u q=>exact .vec id len u q
 |fn g first caps fi ca u q A H=>exact .fn g first caps fi ca u q A H
structure gy(D:Nat->Prop)(nu:EQ)(o:AC)(w:World)(cs:C5)(xs:Array Value):Prop where
 len:cs.length=xs.size
 at':∀(i:Nat)c x,cs[i]?=some c->xs[i]?=some x->RA D nu o w c x
structure cf(nu:EQ)(o:AC)(w:World)(nu':EQ)(o':AC)(w':World):Prop where
 os:w'.os=w.os
 tape:w'.tape=w.tape
 output:w'.output=w.output
 size:w.heap.size<=w'.heap.size
 wH:∀id len,fg o id len->fg o' id len∧nu' id len=nu id len
 keep:∀b,b<w.heap.size-> ¬owned nu o b->w'.heap[b]?=w.heap[b]? ∧ ¬owned nu' o' b
theorem cf.refl(nu:EQ)(o:AC)(w:World):cf nu o w nu o w:=⟨rfl,rfl,rfl,aed _,λ_ _ h=>⟨h,rfl⟩,λ_ _ h=>⟨rfl,h⟩⟩
theorem cf.trans{nu u q:EQ}{o o1 O:AC}{w H A:World}(h:cf nu o w u o1 H)(k:cf u o1 H q O A):cf nu o w q O A:=
 ⟨k.os.trans h.os,k.tape.trans h.tape,k.output.trans h.output,aee h.size k.size,λid len hh=>by
  obtain⟨W,V⟩:=h.wH id len hh;obtain⟨h3,h4⟩:=k.wH id len W
  grind,λb U Y=>by
  obtain⟨W,V⟩:=h.keep b U Y;obtain⟨h3,h4⟩:=k.keep b (aef U h.size) V
  grind⟩
theorem cf.fz{D D':Nat->Prop}{nu nu':EQ}{o o':AC}{w w':World}(h:cf nu o w nu' o' w')(u:∀b,b<w.heap.size->D b->D' b){b:Nat}(q:Fz D nu o w b):Fz D' nu' o' w' b:=
 ⟨aef q.1 h.size,(h.keep b q.1 q.2.1).2,u b q.1 q.2.2⟩
theorem RA.mono{D D':Nat->Prop}{nu nu':EQ}{o o':AC}{w w':World}(h:cf nu o w nu' o' w')(V:∀b,b<w.heap.size->D b->D' b){a:AV}{x:Value}(hr:RA D nu o w a x):RA D' nu' o' w' a x:=by
 induction hr with
 |undef x=>exact .undef x
 |v x=>exact .v x
 |agg cs xs q _ O ih=>exact .agg cs xs q ih O
 |ck cs xs q _ ih=>exact .ck cs xs q ih
 |b6 z=>exact .b6 z
 |cp z a=>exact .cp z a
 |aA z rows len b off cap f q u O H h5 h6 _ h8 ih=>
  refine .aA z rows len b off cap f q u O (λU=>h.fz V (H U)) h5 (λi j row c hr hc=>?_) ih h8
  have U:rows≠[]:=λe=>by grind
  have hf:=H U;rw[World.cell?_of_block (w:=w) (h.keep b hf.1 hf.2.1).1]
  grind
 |vp cs b off f q u _ H ih=>
  refine .vp cs b off f (h.fz V q) (λj c hc=>?_) ih H;rw[World.cell?_of_block (w:=w) (h.keep b q.1 q.2.1).1]
  grind
 |ptr id len z row off b q u=>
  obtain⟨O,H⟩:=h.wH id len q;exact .ptr id len z row off b O (by grind)
 |vec id len q u=>
  obtain⟨O,H⟩:=h.wH id len q;rw[<-H];exact .vec id len O (by grind)
 |fn g first caps fi ca q u _ _ Y W=>exact .fn g first caps fi ca q u Y W
 |full a x q _ ih=>exact .full a x q ih
 |ju p a x S h0 q hc u _ ih=>exact .ju p a x S h0 (λb A=>h.fz V (q b A)) (λb A=>by rw[(h.keep b (q b A).1 (q b A).2.1).1];exact hc b A) (λw2 hw=>u w2 (λb A=>(hw b A).trans (h.keep b (q b A).1 (q b A).2.1).1)) ih
 |mp rows b es cl q u O H h5 h6 _ ih=>exact .mp rows b es cl (h.fz V q) ((h.keep b q.1 q.2.1).1.trans u) O H h5 h6 ih
theorem gy.mono{D D':Nat->Prop}{nu nu':EQ}{o o':AC}{w w':World}(h:cf nu o w nu' o' w')(u:∀b,b<w.heap.size->D b->D' b){cs:C5}{xs:Array Value}(q:gy D nu o w cs xs):gy D' nu' o' w' cs xs:=
 ⟨q.len,λi c x H A=>(q.at' i c x H A).mono h u⟩
structure B8(D:Nat->Prop)(nu:EQ)(o:AC)(w:World)(id:Nat)(ob:aa)(g:Nat)(cur:Array Value):Prop where
 ez:w.heap[g]?=some (.cells cur ob.T (0,0))
 o4:D g
 box:ob.fc=false->nu id 0=.pointer (some ⟨g,0,none⟩)∧ob.rows.length=1∧cur.size=ob.z
 vec:ob.fc=true->∃cap,nu id ob.rows.length=.slice (some ⟨g,0,none⟩) ob.rows.length cap∧ob.rows.length<=cap∧cap<=maxLen∧cur.size=cap*ob.z
 z:0<ob.z
 row:∀(i:Nat)row,ob.rows[i]?=some row->row.length=ob.z
 cell:∀(i j:Nat)row c x,ob.rows[i]?=some row->row[j]?=some c->cur[i*ob.z+j]?=some x->RA D nu o w c x
 one:∀(i j:Nat)row c x,ob.rows[i]?=some row->row[j]?=some c->cur[i*ob.z+j]?=some x->x.oneCell'=true
structure B9(D:Nat->Prop)(nu:EQ)(o:AC)(w:World)(id:Nat)(ob:aa)(g:Nat)(es:Array MapEntry)(clock:Nat):Prop where
 ez:w.heap[g]?=some (.map es clock)
 o4:D g
 wH:nu id 0=.map (some g)
 fc:ob.fc=false
 z:ob.z=0
 sz:es.size=ob.rows.length
 row:∀(i:Nat)row,ob.rows[i]?=some row->row.length=2
 key:∀(i:Nat)row c e,ob.rows[i]?=some row->row[0]?=some c->es[i]?=some e->RA D nu o w c e.key
 val:∀(i:Nat)row c e,ob.rows[i]?=some row->row[1]?=some c->es[i]?=some e->RA D nu o w c e.val
 born:∀(i:Nat)e,es[i]?=some e->e.born<clock
 qT:∀(i j:Nat)e e',es[i]?=some e->es[j]?=some e'->i<j->e.born<e'.born
def gD(D:Nat->Prop)(nu:EQ)(o:AC)(w:World):Prop:=∀g T cs,AQ g=some (T,cs)->(∃t,w.heap[g]?=some (.cells cs t (0,0)))∧ ¬owned nu o g∧D g
theorem gD.keep{D D':Nat->Prop}{nu nu':EQ}{o o':AC}{w w':World}(h:gD D nu o w)(u:∀b,b<w.heap.size-> ¬owned nu o b->D b->w'.heap[b]?=w.heap[b]? ∧ ¬owned nu' o' b∧D' b):gD D' nu' o' w':=λg T cs q=>by
 obtain⟨⟨t,O⟩,H,A⟩:=h g T cs q
 grind
theorem gD.fz{D D':Nat->Prop}{nu nu':EQ}{o o':AC}{w w':World}(h:gD D nu o w)(H:∀b,Fz D nu o w b->w'.heap[b]?=w.heap[b]? ∧Fz D' nu' o' w' b):gD D' nu' o' w':=
 h.keep λb A q u=>⟨(H b ⟨A,q,u⟩).1,(H b ⟨A,q,u⟩).2.2⟩
theorem y0(nu:EQ)(b:Nat): ¬owned nu [] b:=λ⟨id,ob,h,_⟩=>by simp at h
theorem gD.nil{D D':Nat->Prop}{nu nu':EQ}{o:AC}{w:World}(h:gD D nu o w)(A:∀b,b<w.heap.size->D b->D' b):gD D' nu' [] w:=h.keep λb u _ q=>⟨rfl,y0 _ _,A b u q⟩
theorem gD.mono{D D':Nat->Prop}{nu nu':EQ}{o o':AC}{w w':World}(h:gD D nu o w)(A:cf nu o w nu' o' w')(O:∀b,b<w.heap.size->D b->D' b):gD D' nu' o' w':=
 h.keep λb q u H=>⟨(A.keep b q u).1,(A.keep b q u).2,O b q H⟩
structure RO(D:Nat->Prop)(nu:EQ)(o:AC)(w:World):Prop where
 obj:∀id ob,o[id]?=some (some ob)->(ob.fc=true∧ob.rows=[]∧nu id 0=.slice none 0 0)∨(∃g cur,B8 D nu o w id ob g cur)∨∃g es clock,B9 D nu o w id ob g es clock
 up:∀b,w.heap.size<=b->D b
 sep:∀id id' ob ob' b,o[id]?=some (some ob)->o[id']?=some (some ob')->id≠id'->dW (nu id ob.hl)=some b->dW (nu id' ob'.hl)≠some b
 gl:gD D nu o w
theorem RO.nil(D:Nat->Prop)(nu:EQ)(w:World)(up:∀b,w.heap.size<=b->D b)(gl:gD D nu [] w):RO D nu [] w:=⟨λid ob h=>by simp at h,up,λid q ob ob' b h=>by simp at h,gl⟩
theorem br(nu:EQ)(b:Nat): ¬owned nu [] b:=λ⟨id,ob,h,_⟩=>by simp at h
theorem B8.qq{D:Nat->Prop}{nu:EQ}{o:AC}{w:World}{id:Nat}{ob:aa}{g:Nat}{cur:Array Value}(h:B8 D nu o w id ob g cur):cW (nu id ob.hl)=some g:=by
 cases q:ob.fc
 ·simp only[aa.hl,q,Bool.false_eq_true,if_false];rw[(h.box q).1];rfl
 ·obtain⟨cap,u,_⟩:=h.vec q;simp only[aa.hl,q,if_true];rw[u];rfl
theorem B8.b8{D:Nat->Prop}{nu:EQ}{o:AC}{w:World}{id:Nat}{ob:aa}{g:Nat}{cur:Array Value}(h:B8 D nu o w id ob g cur):dW (nu id ob.hl)=some g:=J6 h.qq
theorem B9.hl{D:Nat->Prop}{nu:EQ}{o:AC}{w:World}{id:Nat}{ob:aa}{g clock:Nat}{es:Array MapEntry}(h:B9 D nu o w id ob g es clock):ob.hl=0:=by simp[aa.hl,h.fc]
theorem B9.b8{D:Nat->Prop}{nu:EQ}{o:AC}{w:World}{id:Nat}{ob:aa}{g clock:Nat}{es:Array MapEntry}(h:B9 D nu o w id ob g es clock):dW (nu id ob.hl)=some g:=by rw[h.hl,h.wH];rfl
theorem B9.Qi{D:Nat->Prop}{nu:EQ}{o:AC}{w:World}{id:Nat}{ob:aa}{g clock:Nat}{es:Array MapEntry}(h:B9 D nu o w id ob g es clock){len:Nat}(hl:len<=ob.hl){b:Nat}:cW (nu id len)≠some b:=by
 have:=h.hl
 obtain rfl:len=0:=zd
 rw[h.wH];exactλe=>by cases e
theorem B9.tr{D D':Nat->Prop}{nu nu':EQ}{o o':AC}{w w':World}{id A:Nat}{ob:aa}{g clock:Nat}{es:Array MapEntry}(h:B9 D nu o w id ob g es clock)(V:w'.heap[g]?=w.heap[g]?)(U:D g->D' g)(hn:nu' A 0=nu id 0)
  (O:∀(i j:Nat)row c x,ob.rows[i]?=some row->row[j]?=some c->RA D nu o w c x->RA D' nu' o' w' c x):B9 D' nu' o' w' A ob g es clock:=
 ⟨V.trans h.ez,U h.o4,hn.trans h.wH,h.fc,h.z,h.sz,h.row,λi row c e u q H=>O i 0 row c _ u q (h.key i row c e u q H),λi row c e u q H=>O i 1 row c _ u q (h.val i row c e u q H),h.born,h.qT⟩
theorem B9.rows{D D':Nat->Prop}{nu nu':EQ}{o o':AC}{w w':World}{id q:Nat}{ob ob':aa}{g clock:Nat}{es:Array MapEntry}(h:B9 D nu o w id ob g es clock)(hb:w'.heap[g]?=w.heap[g]?)(hd:D' g)(hn:nu' q 0=nu id 0)(hV:ob'.fc=ob.fc)(hz:ob'.z=ob.z)(hl:ob'.rows.length=ob.rows.length)
  (hr:∀(i:Nat)row',ob'.rows[i]?=some row'->∃row,ob.rows[i]?=some row∧row'.length=row.length∧∀(j:Nat)c',row'[j]?=some c'->∃c,row[j]?=some c∧∀x,RA D nu o w c x->RA D' nu' o' w' c' x):B9 D' nu' o' w' q ob' g es clock:=by
 refine⟨hb.trans h.ez,hd,hn.trans h.wH,hV.trans h.fc,hz.trans h.z,h.sz.trans hl.symm,λi row hi=>?_,λi row c e H A u=>?_,λi row c e H A u=>?_,h.born,h.qT⟩
 ·grind[row]
 ·obtain⟨row0,W,_,V⟩:=hr i row H;obtain⟨Y,U,O⟩:=V 0 c A;exact O _ (h.key i row0 Y e W U u)
 ·obtain⟨row0,W,_,V⟩:=hr i row H;obtain⟨Y,U,O⟩:=V 1 c A;exact O _ (h.val i row0 Y e W U u)
theorem RO.bL{D:Nat->Prop}{nu:EQ}{o:AC}{w:World}(h:RO D nu o w){b:Nat}(H:owned nu o b):b<w.heap.size:=by
 obtain⟨id,ob,O,q⟩:=H
 rcases h.obj id ob O with⟨W,V,U⟩|⟨g,cur,A⟩|⟨g,es,cl,u⟩
 ·simp only[aa.hl,W,V,if_true,aeg,U,dW,cW]at q;cases q
 ·rw[A.b8]at q;cases q;exact(aeh.1 A.ez).1
 ·rw[u.b8]at q;cases q;exact(aeh.1 u.ez).1
theorem RO.same{D:Nat->Prop}{nu:EQ}{o:AC}{w w':World}(h:RO D nu o w)(A:cf nu o w nu o w')(U:∀b,owned nu o b->w'.heap[b]?=w.heap[b]?):RO D nu o w':=
 ⟨λid ob H=>by
  rcases h.obj id ob H with O|⟨g,cur,q⟩|⟨g,es,cl,u⟩
  ·exact .inl O
  ·exact .inr (.inl ⟨g,cur,(U g ⟨id,ob,H,q.b8⟩).trans q.ez,q.o4,q.box,q.vec,q.z,q.row,λi j row c x O Y W=>(q.cell i j row c x O Y W).mono A (λ_ _ h=>h),q.one⟩)
  ·exact .inr (.inr ⟨g,es,cl,u.tr (U g ⟨id,ob,H,u.b8⟩) (λh=>h) rfl (λi j row c x _ _ q=>q.mono A (λ_ _ h=>h))⟩),λb V=>h.up b (aee A.size V),h.sep,h.gl.mono A (λ_ _ h=>h)⟩
theorem aH{nu:EQ}{o:AC}{w w':World}(q:Below w.heap.size w w'):cf nu o w nu o w':=
 ⟨q.os,q.tape,q.output,q.size,λ_ _ h=>⟨h,rfl⟩,λb u A=>⟨q.block b u,A⟩⟩
theorem RO.below{D:Nat->Prop}{nu:EQ}{o:AC}{w w':World}(h:RO D nu o w)(q:Below w.heap.size w w'):RO D nu o w':=
 h.same (aH q) (λb u=>q.block b (h.bL u))
def AV.cells? :AV->Option C5
 | .undef=>none
 | .ck _=>none
 | .agg cs=>some cs
 | .v x=>if x.oneCell' then some [.v x]else none
 |a=>some [a]
theorem cells_one{x:Value}(h:x.oneCell'=true):x.cells = #[x]:=by cases x<;>first|rfl|cases h
structure Sw(D:Nat->Prop)(nu:EQ)(o:AC)(w:World)(cs:C5)(xs:Array Value):Prop extends gy D nu o w cs xs where
 one:∀(i:Nat)x,xs[i]?=some x->x.oneCell'=true
theorem RA.one{D:Nat->Prop}{nu:EQ}{o:AC}{w:World}{a:AV}{x:Value}(h:RA D nu o w a x){cs:C5}(q:a.cells? = some cs):Sw D nu o w cs x.cells:=by
 have key:x.oneCell'=true->cs=[a]->Sw D nu o w cs x.cells:=λu A=>by
  subst A;rw[cells_one u]
  refine⟨⟨rfl,λi c y hi H=>?_⟩,λi y H=>?_⟩
  ·grind
  grind
 cases h with
 |undef=>cases q
 |ck=>cases q
 |v=>simp only[AV.cells?]at q;grind
 |agg U xs u A O=>cases q;exact⟨⟨u,A⟩,O⟩
 |b6=>cases q;exact key rfl rfl
 |cp=>cases q;exact key rfl rfl
 |aA=>cases q;exact key rfl rfl
 |vp=>cases q;exact key rfl rfl
 |ptr=>cases q;exact key rfl rfl
 |vec id len u A=>cases q;grind
 |fn=>cases q;exact key rfl rfl
 |full b x u A=>cases q;exact key (by obtain⟨ad,n,rfl⟩:=u;rfl) rfl
 |ju p b x S V=>cases q;grind
 |mp=>cases q;exact key rfl rfl
def iB(nu:EQ)(k:Nat)(v:Value):EQ:=λid len=>if id=k then v else nu id len
theorem j9{o:AC}{id len:Nat}(h:fg o id len):id<o.length:=by
 obtain⟨ob,q,_⟩:=h
 grind
theorem cU{nu:EQ}{k id len:Nat}{v:Value}(h:id<k):iB nu k v id len=nu id len:=by
 grind[id,iB]
theorem bX(nu:EQ)(k len:Nat)(v:Value):iB nu k v k len=v:=by simp[iB]
theorem iP{nu:EQ}{o:AC}{w w':World}{v:Value}{ob:aa}(q:Below w.heap.size w w')(U:∀b,dW v=some b->w.heap.size<=b) :
  cf nu o w (iB nu o.length v) (o++[some ob]) w':=by
 refine⟨q.os,q.tape,q.output,q.size,λid len h=>⟨?_,cU (j9 h)⟩,λb A O=>⟨q.block b A,?_⟩⟩
 ·obtain⟨x,H,u⟩:=h;exact⟨x,by grind,u⟩
 ·rintro⟨id,ob',H,u⟩
  rcases aei id o.length with hlt'|hge
  ·rw[aej hlt']at H;rw[cU hlt']at u;exact O ⟨id,ob',H,u⟩
  ·obtain rfl:id=o.length:=by
    grind
   grind[bX]
theorem oD{D:Nat->Prop}{nu:EQ}{o:AC}{w w':World}{v:Value}{ob:aa}(h:RO D nu o w)(hb:Below w.heap.size w w')(hv:∀b,dW v=some b->w.heap.size<=b)
  (hn:(ob.fc=true∧ob.rows=[]∧v=.slice none 0 0)∨(∃g cur,B8 D (iB nu o.length v) (o++[some ob]) w' o.length ob g cur)∨∃g es cl,B9 D (iB nu o.length v) (o++[some ob]) w' o.length ob g es cl):RO D (iB nu o.length v) (o++[some ob]) w':=by
 have hm:=iP (nu:=nu) (o:=o) (ob:=ob) hb hv
 refine⟨?_,λb q=>h.up b (aee hb.size q),?_,h.gl.mono hm (λ_ _ h=>h)⟩
 ·intro id ob' ho
  rcases aei id o.length with q|hge
  ·rw[aej q]at ho
   rcases h.obj id ob' ho with⟨e1,e2,e3⟩|⟨g,cur,A⟩|⟨g,es,cl,Y⟩
   ·grind[cU]
   ·refine .inr (.inl ⟨g,cur,(hb.block g (h.bL ⟨id,ob',ho,A.b8⟩)).trans A.ez,A.o4,λe=>?_,λe=>?_,A.z,A.row,λi j row c x V O H=>(A.cell i j row c x V O H).mono hm (λ_ _ h=>h),A.one⟩)
    ·rw[cU q];exact A.box e
    ·rw[cU q];exact A.vec e
   ·exact .inr (.inr ⟨g,es,cl,Y.tr (hb.block g (h.bL ⟨id,ob',ho,Y.b8⟩)) (λh=>h) (cU q) (λi j row c x _ _ A=>A.mono hm (λ_ _ h=>h))⟩)
  grind[aek,ael,bX]
 ·intro id u W ob2 b V O hne H U;have l1:=(aek.1 V).1;have l2:=(aek.1 O).1;simp only[aem,List.length_cons,aeg]at l1 l2
  rcases aei id o.length with g1|g1
  ·rw[aej g1]at V;rw[cU g1]at H
   rcases aei u o.length with g2|g2
   ·rw[aej g2]at O;rw[cU g2]at U;exact h.sep id u W ob2 b V O hne H U
   ·obtain rfl:u=o.length:=zd
    rw[bX]at U
    have:=hv b U
    have:=h.bL ⟨id,W,V,H⟩
    omega
  ·obtain rfl:id=o.length:=zd
   rw[bX]at H
   have:=hv b H
   rcases aei u o.length with g2|g2
   ·rw[aej g2]at O;rw[cU g2]at U
    have:=h.bL ⟨u,ob2,O,U⟩
    omega
   ·omega
def Good(D:Nat->Prop)(nu:EQ)(o:AC)(w:World)(res:Result Value)(r:AV)(o':AC):Prop:=
 ∃v w' nu',res=.ok v w'∧cf nu o w nu' o' w'∧RO D nu' o' w'∧RA D nu' o' w' r v
theorem Good.pure{D:Nat->Prop}{nu:EQ}{o:AC}{w:World}{r:AV}{v:Value}(h:RO D nu o w)(q:RA D nu o w r v){res:Result Value}(u:res=.ok v w):Good D nu o w res r o:=
 ⟨v,w,nu,u,.refl nu o w,h,q⟩
theorem Pp{D:Nat->Prop}{nu:EQ}{o:AC}{w:World}(h:RO D nu o w)(T:TypeId){cs:C5}{xs:Array Value}(q:Sw D nu o w cs xs)(hz:0<cs.length) :
  Good D nu o w (.ok (.pointer (some ⟨w.heap.size,0,none⟩)) (w.alloc (.cells xs T))) (.ptr o.length 0 cs.length 0 0) (o++[some ⟨T,cs.length,false,[cs]⟩]):=by
 have W:Below w.heap.size w (w.alloc (.cells xs T)):=(Below.refl _ _).alloc (aed _) _
 have U:∀b,dW (Value.pointer (some ⟨w.heap.size,0,none⟩))=some b->w.heap.size<=b:=λb e=>by cases e;grind
 have V:=iP (nu:=nu) (o:=o) (ob:=⟨T,cs.length,false,[cs]⟩) W U
 refine⟨_,_,iB nu o.length (.pointer (some ⟨w.heap.size,0,none⟩)),rfl,V,oD h W U (.inr (.inl ⟨w.heap.size,xs,?_⟩)),?_⟩
 ·have key:∀(i j:Nat)row c x,[cs][i]?=some row->row[j]?=some c->xs[i*cs.length+j]?=some x->cs[j]?=some c∧xs[j]?=some x:=by
   grind
  refine⟨heap_alloc_new w _,h.up _ (aed _),λ_=>⟨bX _ _ _ _,rfl,q.len.symm⟩,λe=>(by cases e),hz,λi row hi=>?_,λi j row c x O H A=>?_,λi j row c x O H A=>?_⟩
  ·grind
  ·obtain⟨Y,u⟩:=key i j row c x O H A;exact(q.at' j c x Y u).mono V (λ_ _ h=>h)
  ·obtain⟨Y,u⟩:=key i j row c x O H A;exact q.one j x u
 ·have:=RA.ptr (D:=D) (nu:=iB nu o.length (.pointer (some ⟨w.heap.size,0,none⟩))) (o:=o++[some ⟨T,cs.length,false,[cs]⟩]) (w:=w.alloc (.cells xs T)) o.length 0 cs.length 0 0 w.heap.size
   ⟨_,ael,λx hx=>aen _⟩ (by rw[bX];rfl)
  grind
def dc(P:Program)(T:TypeId):Option Bool:=(P.underlying T).map fun| .struct _=>true| .array _ _=>true|_=>false
def bR(P:Program)(T:TypeId):Option Nat:=(P.info? T).map (·.size)
theorem iR{P:Program}{T:TypeId}{b:Bool}(h:dc P T=some b)(w:World):(isAgg T).run P w=.ok b w:=by
 unfold dc at h
 cases q:P.underlying T with
 |none=>grind
 |some d=>
  rw[q]at h;unfold isAgg;rw[Sem.run_bind,run_underlying q w];cases d<;>simp_all
theorem run_sizeOf{P:Program}{T:TypeId}{n:Nat}(h:bR P T=some n)(w:World):(sizeOf T).run P w=.ok n w:=by
 unfold bR at h
 cases q:P.info? T with
 |none=>grind
 |some i=>
  rw[q]at h;simp at h;subst h;simp[sizeOf,typeInfo,q]
def pR(o:AC):AV->Option (Prop×C5)
 | .vp cs=>some (True,cs)
 | .ptr id len z row off=>match o[id]? with
  |some (some ob)=>some (ob.hl=len∧ob.z=z,(ob.rows.getD row []).drop off)
  |_=>none
 |_=>none
theorem getD_some{α:Type}{l:List α}{i:Nat}{d x:α}(h:l[i]?=some x):l.getD i d=x:=by grind
section
variable {D:Nat->Prop} {nu:EQ} {o:AC} {w:World}
theorem B8.qZ{id:Nat}{ob:aa}{g:Nat}{cur:Array Value}(h:B8 D nu o w id ob g cur){i j:Nat}{row:C5}(hi:ob.rows[i]?=some row)(U:j<row.length):i*ob.z+j<cur.size:=by
 have O:=h.row i row hi;have A:=(aek.1 hi).1
 have key:∀n,i<n->n*ob.z<=cur.size->i*ob.z+j<cur.size:=λn H u=>by
  have:(i+1)*ob.z<=n*ob.z:=aeo _ H
  grind
 cases q:ob.fc
 ·obtain⟨_,u,W⟩:=h.box q
  grind
 ·obtain⟨cap,_,u,_,V⟩:=h.vec q;exact key cap zd zd
theorem FJ(h:RO D nu o w){a:AV}{x:Value}(Y:RA D nu o w a x){p:Prop}{cs:C5}(hl:pR o a=some (p,cs))(hp:p) :
  ∃(b off:Nat)(f:Nat->Value),x=.pointer (some ⟨b,off,none⟩)∧(∀(j:Nat)c,cs[j]?=some c->w.cell? ⟨b,off+j,none⟩=some (f j)∧RA D nu o w c (f j)∧(f j).oneCell'=true):=by
 cases a with
 |vp cs'=>
  simp only[pR,aep,aeq]at hl;obtain⟨_,rfl⟩:=hl
  cases Y with
  |vp _ b off f h1 O h3 h4=>exact⟨b,off,f,rfl,λj c u=>⟨O j c u,h3 j c u,h4 j c u⟩⟩
 |ptr id len z row off=>
  simp only[pR]at hl
  split at hl
  ·rename_i ob ho;simp only[aep,aeq]at hl;obtain⟨rfl,rfl⟩:=hl;obtain⟨rfl,rfl⟩:=hp
   cases Y with
   |ptr _ _ _ _ _ b h1 O=>
    rcases h.obj id ob ho with⟨e1,e2,e3⟩|⟨g,cur,H⟩|⟨g,es,cl,U⟩
    ·simp_all
    rotate_left 1
    ·exact absurd O (U.Qi (aed _))
    ·rw[H.qq]at O;cases O;refine⟨b,_,λj=>cur.getD (row*ob.z+off+j) Go.undef,rfl,λj c u=>?_⟩
     cases q:ob.rows[row]? with
     |none=>grind
     |some A=>
      rw[getD_some q,List.getElem?_drop]at u;have V:=H.qZ q (aek.1 u).1;have W:cur[row*ob.z+(off+j)]?=some cur[row*ob.z+(off+j)]:=aer V
      have e:cur.getD (row*ob.z+off+j) Go.undef=cur[row*ob.z+(off+j)]:=by
       rw[show row*ob.z+off+j=row*ob.z+(off+j) by omega]
       simp_all
      simp only[e];refine⟨?_,H.cell row (off+j) A c _ q u W,H.one row (off+j) A c _ q u W⟩
      have:=H.ez
      grind[World.cell?]
  ·cases hl
 |_=>cases hl
def En(P:Program)(T:TypeId)(o:AC)(a:AV):Option (Prop×AV):=
 match dc P T,bR P T,pR o a with
 |some true,some n,some (p,cs)=>some (p∧n<=cs.length,.agg (cs.take n))
 |some false,_,some (p,c::_)=>some (p,c)
 |_,_,_=>none
theorem qz{P:Program}{T:TypeId}(h:RO D nu o w){a:AV}{x:Value}(U:RA D nu o w a x){p:Prop}{r:AV}(hl:En P T o a=some (p,r))(V:p) :
  ∃v,(Instr.loadAt T x).run P w=.ok v w∧RA D nu o w r v:=by
 unfold En at hl
 split at hl
 ·rename_i n W cs O e2 H;simp only[aep,aeq]at hl;obtain⟨rfl,rfl⟩:=hl;obtain⟨b,off,f,rfl,u⟩:=FJ h U H V.1
  have hcell:∀j,j<n->w.cell? ((⟨b,off,none⟩:Addr).add j)=some (f j):=λj hj=>by
   rw[Addr.add_lit];exact(u j cs[j] (aes zd)).1
  refine⟨_,by simp only[Instr.loadAt,Instr.sureAddr,loadVar,Sem.run_bind,Sem.run_pure,Result.andThen_ok,iR O,if_true,run_sizeOf e2,run_loadCells w _ n f hcell];rfl,?_⟩
  refine .agg _ _ ahn (λi c x Y q=>?_) (λi x q=>?_)
  ·grind
  ·simp only[aet,aeu]at q
   rcases aei i n with A|hge
   ·rw[aev A]at q;simp at q;subst q;exact(u i cs[i] (aes zd)).2.2
   grind
 ·rename_i W c rest O H;simp only[aep,aeq]at hl;obtain⟨rfl,rfl⟩:=hl;obtain⟨b,off,f,rfl,u⟩:=FJ h U H V;obtain⟨Y,q,_⟩:=u 0 c rfl;refine⟨f 0,?_,q⟩;simp only[Instr.loadAt,Instr.sureAddr,loadVar,Sem.run_bind,Sem.run_pure,Result.andThen_ok,iR O,Bool.false_eq_true,if_false,run_load]
  grind
 ·cases hl
def Gn(row:C5)(off:Nat)(cs:C5):C5:=row.take off++cs++row.drop (off+cs.length)
theorem kp{w':World}{id:Nat}{ob ob':aa}(U:o[id]?=some (some ob))(hl:ob'.hl=ob.hl){g:Nat}(hg:dW (nu id ob.hl)=some g)
  (h1:w'.os=w.os)(h2:w'.tape=w.tape)(h3:w'.output=w.output)(h4:w'.heap.size=w.heap.size)(Y:∀b,b≠g->w'.heap[b]?=w.heap[b]?):cf nu o w nu (o.set id (some ob')) w':=by
 have O:=(aek.1 U).1
 refine⟨h1,h2,h3,zd,λq len W=>⟨?_,rfl⟩,λb hb A=>⟨Y b (λe=>A ⟨id,ob,U,by grind⟩),?_⟩⟩
 ·obtain⟨x,u,H⟩:=W
  by_cases V:id=q
  ·subst V;rw[U]at u;cases u;exact⟨some ob',by simp[O],λx hx=>by grind⟩
  ·exact⟨x,by grind,H⟩
 ·rintro⟨q,ob'',u,H⟩
  by_cases V:id=q
  ·subst V;rw[aew O]at u;cases u;rw[hl]at H;exact A ⟨id,ob,U,H⟩
  ·rw[aex V]at u;exact A ⟨q,ob'',u,H⟩
theorem sg{w':World}{id:Nat}{ob ob':aa}(h:RO D nu o w)(ho:o[id]?=some (some ob))(hl:ob'.hl=ob.hl){g:Nat}(hg:dW (nu id ob.hl)=some g)
  (Y:cf nu o w nu (o.set id (some ob')) w')(h5:∀b,b≠g->w'.heap[b]?=w.heap[b]?){cur:Array Value}(hn:B8 D nu (o.set id (some ob')) w' id ob' g cur):RO D nu (o.set id (some ob')) w':=by
 have hlt:=(aek.1 ho).1
 refine⟨?_,λb hb=>h.up b (aee Y.size hb),?_,h.gl.mono Y (λ_ _ h=>h)⟩
 ·intro u ob'' U
  by_cases he:id=u
  ·grind
  ·rw[aex he]at U
   rcases h.obj u ob'' U with e|⟨O,cur',A⟩|⟨O,es,cl,W⟩
   ·exact .inl e
   ·have H:O≠g:=λe=>h.sep id u ob ob'' g ho U he hg (by rw[<-e];exact A.b8);exact .inr (.inl ⟨O,cur',(h5 O H).trans A.ez,A.o4,A.box,A.vec,A.z,A.row,λi j row c x q1 q2 q3=>(A.cell i j row c x q1 q2 q3).mono Y (λ_ _ h=>h),A.one⟩)
   ·have H:O≠g:=λe=>h.sep id u ob ob'' g ho U he hg (by rw[<-e];exact W.b8);exact .inr (.inr ⟨O,es,cl,W.tr (h5 O H) (λh=>h) rfl (λi j row c x _ _ A=>A.mono Y (λ_ _ h=>h))⟩)
 ·intro i1 i2 b1 b2 b U k2 H k3
  have key:∀(u:Nat)(ob'':aa),(o.set id (some ob'))[u]?=some (some ob'')->∃V:aa,o[u]?=some (some V)∧V.hl=ob''.hl:=λu ob'' q=>by
   grind
  obtain⟨o1,m1,n1⟩:=key i1 b1 U;obtain⟨o2,m2,n2⟩:=key i2 b2 k2;rw[<-n2];rw[<-n1]at k3;exact h.sep i1 i2 o1 o2 b m1 m2 H k3
theorem Iy(P:Program)(h:RO D nu o w){id row off:Nat}{ob:aa}(ho:o[id]?=some (some ob)){q:C5}(A:ob.rows[row]?=some q){cs:C5}{xs:Array Value}(hc:Sw D nu o w cs xs)(hfit:off+cs.length<=q.length)
  {b:Nat}(hb:cW (nu id ob.hl)=some b) :
  ∃w',(storeCells ⟨b,row*ob.z+off,none⟩ xs.toList).run P w=.ok () w'∧cf nu o w nu (o.set id (some {ob with rows:=ob.rows.set row (Gn q off cs)})) w'∧RO D nu (o.set id (some {ob with rows:=ob.rows.set row (Gn q off cs)})) w':=by
 rcases h.obj id ob ho with⟨e1,e2,e3⟩|⟨g,cur,u⟩|⟨g,es,cl,hmp⟩
 rotate_left 2
 ·exact absurd hb (hmp.Qi (aed _))
 ·grind
 ·have hbg:b=g:=by have:=u.qq;grind
  subst hbg;have hz:=u.row row q A;have hlenrow:=(aek.1 A).1
  have hend:row*ob.z+off+cs.length<=cur.size:=by
   rcases Nat.eq_zero_or_pos (off+cs.length)with h0|h0
   ·rcases Nat.eq_zero_or_pos q.length with h1|h1
    ·grind
    ·have:=u.qZ A (j:=0) zd;omega
   ·have:=u.qZ A (j:=off+cs.length-1) zd;omega
  have hst:=run_storeCells_at P b (row*ob.z+off) ob.T xs.toList 0 cur w u.ez (by have:=hc.len;simp;omega) (λv hv=>by
   obtain⟨i,hi⟩:=aey hv
   exact hc.one i v (by grind))
  have hh:ob.hl=({ob with rows:=ob.rows.set row (Gn q off cs)}:aa).hl:=by simp[aa.hl]
  have hne:∀k,k≠b->(w.setRow b (cur.toList.take (row*ob.z+off+0)++xs.toList++cur.toList.drop (row*ob.z+off+0+xs.toList.length)).toArray).heap[k]?=w.heap[k]? :=λk hk=>setRow_other w b k _ hk
  have hsz:(w.setRow b (cur.toList.take (row*ob.z+off+0)++xs.toList++cur.toList.drop (row*ob.z+off+0+xs.toList.length)).toArray).heap.size=w.heap.size:=by simp_all
  have hm:=kp (nu:=nu) (o:=o) (w:=w) (w':=w.setRow b (cur.toList.take (row*ob.z+off+0)++xs.toList++cur.toList.drop (row*ob.z+off+0+xs.toList.length)).toArray) (ob':={ob with rows:=ob.rows.set row (Gn q off cs)}) ho hh.symm u.b8 rfl rfl rfl hsz hne;refine⟨_,hst,hm,sg h ho hh.symm u.b8 hm hne (cur:=(cur.toList.take (row*ob.z+off+0)++xs.toList++cur.toList.drop (row*ob.z+off+0+xs.toList.length)).toArray) ?_⟩
  have hlx:xs.toList.length=cs.length:=by have:=hc.len;simp;omega
  have hspl:(Gn q off cs).length=q.length:=by grind[Gn]
  have hcs:(cur.toList.take (row*ob.z+off+0)++xs.toList++cur.toList.drop (row*ob.z+off+0+xs.toList.length)).toArray.size=cur.size:=by
   grind
  have key:∀(i j:Nat)r c x,(ob.rows.set row (Gn q off cs))[i]?=some r->r[j]?=some c->(cur.toList.take (row*ob.z+off+0)++xs.toList++cur.toList.drop (row*ob.z+off+0+xs.toList.length)).toArray[i*ob.z+j]?=some x ->
    (∃r',ob.rows[i]?=some r'∧r'[j]?=some c∧cur[i*ob.z+j]?=some x)∨(∃k:Nat,cs[k]?=some c∧xs[k]?=some x):=by
   intro i j r c x U H W;rw[aet,List.append_assoc]at W;simp only[aez,hlx]at W
   have hlt1:(cur.toList.take (row*ob.z+off)).length=row*ob.z+off:=by grind
   have outside:(i*ob.z+j<row*ob.z+off∨row*ob.z+off+cs.length<=i*ob.z+j)->cur[i*ob.z+j]?=some x:=by
    grind
   by_cases hi:row=i
   ·subst hi;rw[aew hlenrow]at U;cases U;simp only[Gn,List.append_assoc]at H
    have hlt2:(q.take off).length=off:=ahn
    rcases aei j off with hj|hj
    ·grind
    ·rw[aeA zd,hlt2]at H
     rcases aei (j-off) cs.length with Y|Y
     ·rw[aej Y]at H;rw[aeA zd,hlt1,aej zd]at W
      grind
     ·rw[aeA Y,List.getElem?_drop]at H;rw[show off+cs.length+(j-off-cs.length)=j by omega]at H
      grind
   ·rw[aex hi]at U;refine .inl ⟨r,U,H,outside ?_⟩;have hj:=(aek.1 H).1;have hrz:=u.row i r U
    rcases Nat.lt_or_gt_of_ne hi with hlt|hgt
    ·right
     have:(row+1)*ob.z<=i*ob.z:=aeo _ hlt
     grind
    ·left
     have:(i+1)*ob.z<=row*ob.z:=aeo _ hgt
     grind
  refine⟨setRow_heap w b cur _ ob.T (0,0) u.ez,u.o4,λhv=>?_,λhv=>?_,u.z,λi r hi=>?_,λi j r c x U H W=>?_,λi j r c x U H W=>?_⟩
  ·obtain⟨V,O,q3⟩:=u.box hv
   grind
  ·obtain⟨cap,V,O,q3,q4⟩:=u.vec hv
   grind
  ·by_cases he:row=i
   ·grind
   ·rw[aex he]at hi;exact u.row i r hi
  ·rcases key i j r c x U H W with⟨r',V,O,q3⟩|⟨k,V,O⟩
   ·exact(u.cell i j r' c x V O q3).mono hm (λ_ _ h=>h)
   ·exact(hc.at' k c x V O).mono hm (λ_ _ h=>h)
  ·rcases key i j r c x U H W with⟨r',V,O,q3⟩|⟨k,V,O⟩
   ·exact u.one i j r' c x V O q3
   ·exact hc.one k x O
def Ck(P:Program)(T:TypeId)(o:AC)(a x:AV):Option (Prop×AC):=
 match a,bR P T,x.cells? with
 | .ptr id len z row off,some n,some cs=>match o[id]? with
  |some (some ob)=>some ((ob.hl=len∧ob.z=z∧row<ob.rows.length)∧cs.length=n∧off+cs.length<=(ob.rows.getD row []).length,o.set id (some {ob with rows:=ob.rows.set row (Gn (ob.rows.getD row []) off cs)}))
  |_=>none
 |_,_,_=>none
theorem Iw{P:Program}{T:TypeId}(h:RO D nu o w){a b:AV}{x y:Value}(hr:RA D nu o w a x)(Y:RA D nu o w b y){p:Prop}{o':AC}(hl:Ck P T o a b=some (p,o'))(hp:p) :
  ∃w',(Instr.storeAt T x y).run P w=.ok () w'∧cf nu o w nu o' w'∧RO D nu o' w':=by
 unfold Ck at hl
 split at hl
 ·rename_i id len z row off n cs e1 e2
  split at hl
  ·rename_i ob ho;simp only[aep,aeq]at hl;obtain⟨rfl,rfl⟩:=hl;obtain⟨⟨rfl,rfl,H⟩,rfl,u⟩:=hp;have q:ob.rows[row]?=some ob.rows[row]:=aes H;rw[getD_some q]at u⊢
   cases hr with
   |ptr _ _ _ _ _ bk h1 h2=>
    have O:=Y.one e2;obtain⟨w',W,V,U⟩:=Iy P h ho q O u h2;refine⟨w',?_,V,U⟩;have A:y.cells.size=cs.length:=O.len.symm;simp only[Instr.storeAt,Instr.sureAddr,storeVar,Sem.run_bind,Sem.run_pure,Result.andThen_ok,run_sizeOf e1,A,ne_eq,not_true_eq_false,if_false,W]
  ·cases hl
 ·cases hl
end
section
variable {D:Nat->Prop} {nu:EQ} {o:AC} {w:World}
def jO(P:Program)(T:TypeId):Option (TypeId×Nat×Nat):=
 match P.underlying T with
 |some (.slice e)=>match P.info? e with
  |some i=>match i.zero with
   |some zv=>if zv.cells.size=i.size∧0<i.size then some (e,i.size,i.bytes)else none
   |none=>none
  |none=>none
 |_=>none
theorem gw{P:Program}{T e:TypeId}{z n:Nat}(h:jO P T=some (e,z,n)):P.underlying T=some (.slice e)∧∃i zv,P.info? e=some i∧i.zero=some zv∧zv.cells.size=z∧0<z∧i.size=z∧i.bytes=n:=by
 unfold jO at h
 grind
def rD(o:AC)(z:Nat):AV->Option (Prop×List C5)
 | .aA z' rows len=>some (z'=z,rows.take len)
 | .vec id len=>match o[id]? with
  |some (some ob)=>some (ob.fc=true∧ob.z=z∧ob.rows.length=len,ob.rows)
  |_=>none
 | .v (.slice none 0 0)=>some (True,[])
 |_=>none
structure B4(D:Nat->Prop)(nu:EQ)(o:AC)(w:World)(z:Nat)(rows:List C5)(news:Id):Prop where
 len:news.length=rows.length*z
 one:∀u∈news,u.oneCell'=true
 row:∀(i:Nat)row,rows[i]?=some row->row.length=z
 cell:∀(i j:Nat)row c,rows[i]?=some row->row[j]?=some c->∃x,news[i*z+j]?=some x∧RA D nu o w c x
theorem rQ{i j z n:Nat}(hi:i<n)(q:j<z):i*z+j<n*z:=by
 have:(i+1)*z<=n*z:=aeo _ hi
 grind
theorem Km{i j z:Nat}(q:j<z):(i*z+j) / z=i:=by
 rw[aeB,Nat.mul_add_div zd,Nat.div_eq_of_lt q,aez]
theorem te{i j z:Nat}(q:j<z):(i*z+j) % z=j:=by
 rw[aeB,Nat.mul_add_mod,Nat.mod_eq_of_lt q]
theorem yK(z:Nat):B4 D nu o w z [] []:=⟨zk,zk,zk,zk⟩
theorem B8.Ww{id:Nat}{ob:aa}{g:Nat}{cur:Array Value}(h:B8 D nu o w id ob g cur):B4 D nu o w ob.z ob.rows (cur.toList.take (ob.rows.length*ob.z)):=by
 have hsz:ob.rows.length*ob.z<=cur.size:=by
  cases V:ob.fc
  ·obtain⟨_,A,h3⟩:=h.box V;grind
  ·obtain⟨cap,_,A,_,h4⟩:=h.vec V;rw[h4];exact aeo _ A
 have Y:=h.z
 refine⟨ahn,λu hu=>?_,h.row,λi j row c O A=>?_⟩
 ·obtain⟨k,U⟩:=aey hu;rw[List.getElem?_take]at U
  split at U
  ·rename_i q;have hi:k / ob.z<ob.rows.length:=aeC (by grind);have W:ob.rows[k / ob.z]?=some ob.rows[k / ob.z]:=aes hi
   have H:k % ob.z<ob.rows[k / ob.z].length:=by rw[h.row _ _ W];exact Nat.mod_lt _ Y
   refine h.one (k / ob.z) (k % ob.z) _ _ u W (aes H) ?_
   grind[aeB,Nat.div_add_mod]
  ·cases U
 ·have hi:=(aek.1 O).1;have H:=(aek.1 A).1;have q:=h.qZ O H;rw[h.row i row O]at H;refine⟨cur[i*ob.z+j],?_,h.cell i j row c _ O A (aer q)⟩
  grind[aeD,rQ]
theorem lV(h:RO D nu o w){z:Nat}(hz:0<z){a:AV}{x:Value}(W:RA D nu o w a x){p:Prop}{rows:List C5}(A:rD o z a=some (p,rows))(hp:p) :
  (x=.slice none 0 0∧rows=[])∨∃(g:Addr)(c:Nat)(news:Id),x=.slice (some g) rows.length c∧B4 D nu o w z rows news∧(∀(j:Nat)u,news[j]?=some u->w.cell? (g.add j)=some u):=by
 cases a with
 |aA q rows' len=>
  simp only[rD,aep,aeq]at A;obtain⟨rfl,rfl⟩:=A;subst hp
  cases W with
  |b6=>grind
  |cp _ a=>exact .inr ⟨a,0,[],rfl,yK _,λj u O=>by simp at O⟩
  |aA _ _ _ b off cap f h1 h2 h3 h4 h5 h6 h7 h8=>
   have hl:(rows'.take len).length=len:=ahn
   refine .inr ⟨⟨b,off,none⟩,cap,(List.range (len*q)).map (λk=>f (k / q) (k % q)),by rw[hl],⟨by simp[hl],?_,λi row hi=>?_,λi j row c hi O=>?_⟩,?_⟩
   ·intro u hu;obtain⟨k,U,rfl⟩:=List.mem_map.1 hu;simp only[List.mem_range]at U;have hi:k / q<rows'.length:=aef (aeC (by grind)) h1;have H:rows'[k / q]?=some rows'[k / q]:=aes hi
    have O:k % q<rows'[k / q].length:=by rw[h5 _ _ H];exact Nat.mod_lt _ hz
    simp_all
   ·grind
   ·grind[aek,aev,rQ,Km,te]
   ·intro k u U;rw[aeu]at U
    rcases aei k (len*q)with hlt|hge
    ·rw[aev hlt]at U;simp only[aeE,aep]at U;subst U;have hi:k / q<rows'.length:=aef (aeC (by grind)) h1;have H:rows'[k / q]?=some rows'[k / q]:=aes hi
     have O:k % q<rows'[k / q].length:=by rw[h5 _ _ H];exact Nat.mod_lt _ hz
     have:=h6 _ _ _ _ H (aes O)
     grind[Addr.add_lit,Nat.div_add_mod,aeB]
    grind
 |vec id len=>
  simp only[rD]at A
  split at A
  ·rename_i ob ho;simp only[aep,aeq]at A;obtain⟨rfl,rfl⟩:=A;obtain⟨V,rfl,rfl⟩:=hp;cases W
   rcases h.obj id ob ho with⟨e1,e2,e3⟩|⟨g,cur,hb⟩|⟨g,es,cl,Y⟩
   rotate_left 2
   ·rw[Y.fc]at V;cases V
   ·grind
   ·obtain⟨cap,q1,q2,q3,q4⟩:=hb.vec V;refine .inr ⟨⟨g,0,none⟩,cap,_,q1,hb.Ww,λj u O=>?_⟩;rw[List.getElem?_take]at O
    split at O
    ·have:=hb.ez
     rw[Addr.add_lit,Nat.zero_add]
     grind[World.cell?]
    ·cases O
  ·cases A
 |v x'=>
  cases W;simp only[rD]at A
  grind
 |_=>cases A
def DU(nu:EQ)(k L:Nat)(v:Value):EQ:=λid len=>if id=k∧len=L then v else nu id len
theorem nw(nu:EQ)(k L:Nat)(v:Value):DU nu k L v k L=v:=by simp[DU]
theorem ia{nu:EQ}{k L id len:Nat}{v:Value}(h:id≠k∨len≠L):DU nu k L v id len=nu id len:=by
 have: ¬(id=k∧len=L):=zd
 simp only[DU,if_neg this]
theorem RO.xi(h:RO D nu o w){id:Nat}{ob:aa}(ho:o[id]?=some (some ob))(u:ob.fc=true) :
  ∃xs,w.ownsRow 0 ob.T ob.z (nu id ob.rows.length) ob.rows.length xs∧B4 D nu o w ob.z ob.rows xs∧(nu id ob.rows.length).ownBlock=dW (nu id ob.hl):=by
 have H:ob.hl=ob.rows.length:=by grind[aa.hl]
 rw[H]
 rcases h.obj id ob ho with⟨e1,V,U⟩|⟨g,cur,q⟩|⟨g,es,cl,A⟩
 rotate_left 2
 ·rw[A.fc]at u;cases u
 ·refine⟨[],?_,by grind[yK],?_⟩
  ·rw[V];exact⟨zk,.inl ⟨U,rfl⟩⟩
  ·rw[V];simp only[aeg];rw[U];rfl
 ·obtain⟨cap,O,q2,Y,W⟩:=q.vec u;refine⟨_,⟨q.Ww.len,.inr ⟨g,cap,cur,O,aen _,q.ez,q2,Y,W,rfl⟩⟩,q.Ww,?_⟩;rw[O];rfl
theorem Ml{w':World}(h:RO D nu o w){id:Nat}{ob:aa}(ho:o[id]?=some (some ob))(hv:ob.fc=true)(hz:0<ob.z){rows2:List C5}(hne:rows2≠[]){xs news:Id}(hL:B4 D nu o w ob.z ob.rows xs)(hN:B4 D nu o w ob.z rows2 news)
  {v':Value}(hown:w'.ownsRow 0 ob.T ob.z v' (ob.rows.length+rows2.length) (xs++news))(hg:w.grownBy w' (nu id ob.rows.length).ownBlock)(hvb:v'.ownBlock=(nu id ob.rows.length).ownBlock∨v'.ownBlock=some w.heap.size) :
  cf nu o w (DU nu id (ob.rows.length+rows2.length) v') (o.set id (some {ob with rows:=ob.rows++rows2})) w'∧RO D (DU nu id (ob.rows.length+rows2.length) v') (o.set id (some {ob with rows:=ob.rows++rows2})) w' ∧
   RA D (DU nu id (ob.rows.length+rows2.length) v') (o.set id (some {ob with rows:=ob.rows++rows2})) w' (.vec id (ob.rows.length+rows2.length)) v':=by
 have V:=(aek.1 ho).1;have hm0:0<rows2.length:=List.length_pos_iff.2 hne
 have hhl:ob.hl=ob.rows.length:=by grind[aa.hl]
 have hhl':({ob with rows:=ob.rows++rows2}:aa).hl=ob.rows.length+rows2.length:=by grind[aa.hl]
 obtain⟨_,hrest⟩:=hown
 rcases hrest with⟨_,h0⟩|⟨g,cap,cur,rfl,_,hblk,hcap,hcm,hsz,htake⟩
 ·omega
 obtain⟨xs0,hxs0,_,hob⟩:=h.xi ho hv;have hold:∀b,dW (nu id ob.hl)=some b->b<w.heap.size:=λb hb=>h.bL ⟨id,ob,ho,hb⟩
 have hvb':some g=dW (nu id ob.hl)∨some g=some w.heap.size:=by
  grind[Value.ownBlock]
 rw[hob]at hg
 have hm:cf nu o w (DU nu id (ob.rows.length+rows2.length) (.slice (some ⟨g,0,none⟩) (ob.rows.length+rows2.length) cap)) (o.set id (some {ob with rows:=ob.rows++rows2})) w':=by
  refine⟨hg.os,hg.tape,hg.output,hg.size,λu len hh=>?_,λb hb hno=>⟨hg.block b hb (λe=>hno ⟨id,ob,ho,e.symm⟩),?_⟩⟩
  ·obtain⟨x,A,U⟩:=hh
   by_cases O:id=u
   ·subst O;rw[ho]at A;cases A
    have:=U ob rfl
    exact⟨⟨_,by rw[aew V],λx hx=>by grind⟩,ia zd⟩
   ·exact⟨⟨x,by grind,U⟩,ia (.inl (aeF O))⟩
  ·rintro⟨u,ob'',A,U⟩
   by_cases O:id=u
   ·subst O;rw[aew V]at A;cases A;rw[hhl',nw]at U;simp only[dW,cW,aep]at U;subst U
    rcases hvb' with e|e
    ·exact hno ⟨id,ob,ho,e.symm⟩
    grind
   ·rw[aex O]at A;rw[ia (.inl (aeF O))]at U;exact hno ⟨u,ob'',A,U⟩
 have hcl:cur.toList.take ((ob.rows.length+rows2.length)*ob.z)=xs++news:=htake
 refine⟨hm,⟨λu ob'' A=>?_,λb hb=>h.up b (aee hg.size hb),λi1 i2 b1 b2 b A U hne' k3 k4=>?_,h.gl.mono hm (λ_ _ h=>h)⟩,?_⟩
 ·by_cases O:id=u
  ·subst O;rw[aew V]at A;cases A
   have key:∀(i j:Nat)row c x,(ob.rows++rows2)[i]?=some row->row[j]?=some c->cur[i*ob.z+j]?=some x->RA D nu o w c x∧x.oneCell'=true:=by
    intro i j row c x H W q3;have hj:=(aek.1 W).1;have hi:=(aek.1 H).1;simp only[aem]at hi
    have hjz:j<ob.z:=by
     rcases aei i ob.rows.length with q|q
     ·rw[aej q]at H;rw[<-hL.row i row H];exact hj
     ·rw[aeA q]at H;rw[<-hN.row _ row H];exact hj
    have q4:(xs++news)[i*ob.z+j]?=some x:=by
     grind[aeD,rQ]
    rcases aei i ob.rows.length with q|q
    ·rw[aej q]at H;obtain⟨y,y1,y2⟩:=hL.cell i j row c H W
     have hll:i*ob.z+j<xs.length:=by grind
     rw[aej hll]at q4;rw[q4]at y1;cases y1;exact⟨y2,hL.one _ (aeG q4)⟩
    ·rw[aeA q]at H;obtain⟨y,y1,y2⟩:=hN.cell (i-ob.rows.length) j row c H W
     have hge:xs.length<=i*ob.z+j:=by
      rw[hL.len];have:=aeo ob.z q;omega
     rw[aeA hge,hL.len]at q4
     rw[show i*ob.z+j-ob.rows.length*ob.z=(i-ob.rows.length)*ob.z+j by
      rw[Nat.sub_mul];have:=aeo ob.z q;omega]at q4
     rw[q4]at y1;cases y1;exact⟨y2,hN.one _ (aeG q4)⟩
   refine .inr (.inl ⟨g,cur,hblk,?_,λe=>(by grind),λ_=>⟨cap,by grind[aem,nw],by grind,hcm,hsz⟩,hz,λi row hi=>?_,λi j row c x H W q3=>(key i j row c x H W q3).1.mono hm (λ_ _ h=>h),λi j row c x H W q3=>(key i j row c x H W q3).2⟩)
   ·rcases hvb' with e|e
    ·rcases h.obj id ob ho with⟨e1,e2,e3⟩|⟨g0,cur0,hb⟩|⟨g0,es,cl,hmp⟩
     ·rw[hhl,e2]at e;simp only[aeg]at e;rw[e3]at e;cases e
     ·rw[hb.b8]at e;cases e;exact hb.o4
     ·rw[hmp.fc]at hv;cases hv
    ·cases e;exact h.up _ (aed _)
   ·rcases aei i ob.rows.length with q|q
    ·rw[aej q]at hi;exact hL.row i row hi
    ·rw[aeA q]at hi;exact hN.row _ row hi
  ·rw[aex O]at A
   rcases h.obj u ob'' A with⟨e1,e2,e3⟩|⟨g',cur',Y⟩|⟨g',es,cl,hmp⟩
   ·exact .inl ⟨e1,e2,by rw[ia (.inl (aeF O))];exact e3⟩
   ·refine .inr (.inl ⟨g',cur',(hg.block g' (h.bL ⟨u,ob'',A,Y.b8⟩) (λe=>h.sep id u ob ob'' g' ho A O e.symm Y.b8)).trans Y.ez,Y.o4,λe=>?_,λe=>?_,Y.z,Y.row,λi j row c x H W q3=>(Y.cell i j row c x H W q3).mono hm (λ_ _ h=>h),Y.one⟩)
    ·rw[ia (.inl (aeF O))];exact Y.box e
    ·rw[ia (.inl (aeF O))];exact Y.vec e
   ·exact .inr (.inr ⟨g',es,cl,hmp.tr (hg.block g' (h.bL ⟨u,ob'',A,hmp.b8⟩) (λe=>h.sep id u ob ob'' g' ho A O e.symm hmp.b8)) (λh=>h) (ia (.inl (aeF O))) (λi j row c x _ _ Y=>Y.mono hm (λ_ _ h=>h))⟩)
 ·have new:∀u ob'',id≠u->o[u]?=some (some ob'')->dW (nu u ob''.hl)≠some g:=λu ob'' hne2 H W=>by
   rcases hvb' with e|e
   ·exact h.sep id u ob ob'' g ho H hne2 e.symm W
   ·cases e
    have:=h.bL ⟨u,ob'',H,W⟩
    omega
  by_cases h1:id=i1
  ·subst h1;rw[aew V]at A;cases A;rw[hhl',nw]at k3;cases k3;rw[aex hne']at U;rw[ia (.inl (aeF hne'))]at k4
   grind
  ·rw[aex h1]at A;rw[ia (.inl (aeF h1))]at k3
   by_cases h2:id=i2
   ·subst h2;rw[aew V]at U;cases U;rw[hhl',nw]at k4;cases k4
    grind
   ·rw[aex h2]at U;rw[ia (.inl (aeF h2))]at k4;exact h.sep i1 i2 b1 b2 b A U hne' k3 k4
 ·have:=RA.vec (D:=D) (nu:=DU nu id (ob.rows.length+rows2.length) (.slice (some ⟨g,0,none⟩) (ob.rows.length+rows2.length) cap)) (o:=o.set id (some {ob with rows:=ob.rows++rows2})) (w:=w') id (ob.rows.length+rows2.length)
   ⟨_,aew V,λx hx=>by grind⟩ (by rw[nw];rfl)
  grind[nw]
end
section
variable {D:Nat->Prop} {nu:EQ} {o:AC} {w:World}
structure zR(D:Nat->Prop)(nu:EQ)(o:AC)(w:World)(z:Nat)(rows:List C5)(cur:Array Value):Prop where
 row:∀(i:Nat)row,rows[i]?=some row->row.length=z
 cell:∀(i j:Nat)row c,rows[i]?=some row->row[j]?=some c->∃x,cur[i*z+j]?=some x∧RA D nu o w c x∧x.oneCell'=true
theorem pM(h:RO D nu o w)(e:TypeId){z:Nat}(hz:0<z){rows:List C5}{cur:Array Value}{cap:Nat}(H:zR D nu o w z rows cur)(h1:rows.length<=cap)(h2:cap<=maxLen)(h3:cur.size=cap*z) :
  Good D nu o w (.ok (.slice (some ⟨w.heap.size,0,none⟩) rows.length cap) (w.alloc (.cells cur e))) (.vec o.length rows.length) (o++[some ⟨e,z,true,rows⟩]):=by
 have W:Below w.heap.size w (w.alloc (.cells cur e)):=(Below.refl _ _).alloc (aed _) _
 have U:∀b,dW (Value.slice (some ⟨w.heap.size,0,none⟩) rows.length cap)=some b->w.heap.size<=b:=λb e=>by cases e;grind
 have V:=iP (nu:=nu) (o:=o) (ob:=⟨e,z,true,rows⟩) W U
 refine⟨_,_,iB nu o.length (.slice (some ⟨w.heap.size,0,none⟩) rows.length cap),rfl,V,oD h W U (.inr (.inl ⟨w.heap.size,cur,heap_alloc_new w _,h.up _ (aed _),λe'=>(by cases e'),λ_=>⟨cap,bX _ _ _ _,h1,h2,h3⟩,hz,H.row,λi j row c x A u q=>?_,λi j row c x A u q=>?_⟩)),?_⟩
 ·obtain⟨y,O,Y,_⟩:=H.cell i j row c A u;rw[O]at q;cases q;exact Y.mono V (λ_ _ h=>h)
 ·obtain⟨y,O,_,y3⟩:=H.cell i j row c A u
  grind
 ·have:=RA.vec (D:=D) (nu:=iB nu o.length (.slice (some ⟨w.heap.size,0,none⟩) rows.length cap)) (o:=o++[some ⟨e,z,true,rows⟩]) (w:=w.alloc (.cells cur e)) o.length rows.length
   ⟨_,ael,λx hx=>by cases hx;exact aed _⟩ (by rw[bX];rfl)
  grind[bX]
theorem RA.UR{z len:Nat}{rows:List C5}{x:Value}(q:RA D nu o w (.aA z rows len) x):len<=rows.length:=by
 cases q with
 |b6=>omega
 |cp=>omega
 |aA=>assumption
theorem Gf{P:Program}{T:TypeId}(ty:TypeId){e:TypeId}{z bytes:Nat}(ht:jO P T=some (e,z,bytes))(h:RO D nu o w){rows:List C5}{len:Nat}{b:AV}{x y:Value}(hr:RA D nu o w (.full (.aA z rows len)) x)(hs:RA D nu o w b y){p:Prop}{rows2:List C5}(e2:rD o z b=some (p,rows2))(hp:p)
  (hne:rows2≠[])(hby:(len+rows2.length)*bytes<=70368744177664)(h63:len+rows2.length<=70368744177664) :
  ∃cap cur,(Builtin.append_ #[T,T] ty #[x,y]).run P w=.ok (.slice (some ⟨w.heap.size,0,none⟩) (len+rows2.length) cap) (w.drew.alloc (.cells cur e))∧zR D nu o w z (rows.take len++rows2) cur∧(rows.take len++rows2).length=len+rows2.length∧len+rows2.length<=cap∧cap<=maxLen∧cur.size=cap*z:=by
 obtain⟨hu,i,zv,hi,hzv,hzs,hz0,hsize,hbytes⟩:=gw ht
 cases hr with
 |full _ _ hfull hr=>
 obtain⟨ad,n,rfl⟩:=hfull;have hlen:=hr.UR
 have hL:(rows.take len).length=len:=by grind
 have hpos:0<rows2.length:=List.length_pos_iff.2 hne
 obtain⟨g2,c2,news,rfl,hN,hcell2⟩:∃g c news,y=.slice (some g) rows2.length c∧B4 D nu o w z rows2 news∧(∀(j:Nat)u,news[j]?=some u->w.cell? (g.add j)=some u):=by
  grind[lV]
 have U:i.size=z:=hsize
 have hgrid:∀(olds:Id)(cap:Nat),B4 D nu o w z (rows.take len) olds->zR D nu o w z (rows.take len++rows2) (olds.toArray++news.toArray++Builtin.zeroCells zv.cells (cap-(len+rows2.length))):=by
  intro olds cap O
  have hol:olds.length=len*z:=by rw[O.len,hL]
  refine⟨λk row A=>?_,λk j row c A hj=>?_⟩
  ·rcases aei k (rows.take len).length with q|q
   ·rw[aej q]at A;exact O.row k row A
   ·rw[aeA q]at A;exact hN.row _ row A
  ·rcases aei k (rows.take len).length with q|q
   ·rw[aej q]at A;obtain⟨u,u1,u2⟩:=O.cell k j row c A hj;have hlt:=(aek.1 u1).1;refine⟨u,?_,u2,O.one u (aeG u1)⟩
    grind
   ·rw[aeA q]at A;obtain⟨u,u1,u2⟩:=hN.cell _ j row c A hj;have hlt:=(aek.1 u1).1;refine⟨u,?_,u2,hN.one u (aeG u1)⟩
    have hk2:k*z+j=len*z+((k-(rows.take len).length)*z+j):=by
     rw[hL]at q⊢
     have:k*z=len*z+(k-len)*z:=by rw[<-Nat.add_mul];grind
     omega
    grind
 have Y:∀(olds:Id)(cap:Nat),olds.length=len*z->len+rows2.length<=cap->(olds.toArray++news.toArray++Builtin.zeroCells zv.cells (cap-(len+rows2.length))).size=cap*z:=by
  intro olds cap h1 h2;simp only[Array.size_append,List.size_toArray,size_zeroCells,hzs,h1,hN.len, <- Nat.add_mul]
  grind
 have V:len+rows2.length<=maxLen:=by grind[maxLen]
 have H:∀oy,oy<len+rows2.length->Builtin.nextslicecap (len+rows2.length) oy*i.bytes<=281474976710656:=λoy ho=>by
  have h1:Builtin.nextslicecap (len+rows2.length) oy*i.bytes<=2*(len+rows2.length)*i.bytes:=aeo _ (nextslicecap_le ho)
  grind
 have W:(rows.take len++rows2).length=len+rows2.length:=by grind
 rcases lV (p:=z=z) (rows:=rows.take len) h hz0 hr rfl rfl with⟨e0,e1⟩|⟨g,c,olds,e0,O,hcell⟩
 ·rw[e0]
  have hl0:len=0:=by grind
  subst hl0;simp only[Nat.zero_add]at hby h63 H hgrid Y V W⊢
  refine⟨_,_,run_append_nil (P:=P) w T ty e i zv hu hi hzv g2 rows2.length c2 news (by rw[U];exact hN.len) hcell2 hpos zd (by grind),?_,W,grownCap_ge w _ 0 e,grownCap_le_maxLen w _ 0 e V,?_⟩
  ·have:=hgrid [] (grownCap w rows2.length 0 e) ⟨zk,λu hu=>by simp at hu,λk row A=>by simp at A,λk j row c A=>by simp at A⟩
   grind
  ·have:=Y [] (grownCap w rows2.length 0 e) zk (grownCap_ge w _ 0 e)
   grind
 ·simp only[Value.slice.injEq]at e0;obtain⟨rfl,e3,e4⟩:=e0;rw[hL]at e3;subst e3;refine⟨_,_,run_append_grow (P:=P) w T ty e i zv hu hi hzv g n n olds (by rw[O.len,hL,U]) hcell g2 rows2.length c2 news (by rw[U];exact hN.len) hcell2 zd zd (H n zd),hgrid olds _ O,W,grownCap_ge w _ n e,grownCap_le_maxLen w _ n e V,Y olds _ (by rw[O.len,hL]) (grownCap_ge w _ n e)⟩
def wQ(P:Program)(T:TypeId)(o:AC)(a b:AV):Option (Prop×AV×AC):=
 match jO P T,a with
 |some (e,z,bytes),.vec id len=>match o[id]?,rD o z b with
  |some (some ob),some (p,rows2)=>some ((ob.fc=true∧ob.z=z∧ob.T=e∧ob.rows.length=len)∧p∧(len+rows2.length)*bytes<=140737488355328∧len+rows2.length<=140737488355328,.vec id (len+rows2.length),o.set id (some {ob with rows:=ob.rows++rows2}))
  |_,_=>none
 |some (e,z,bytes),.full (.aA z' rows len)=>match rD o z b with
  |some (p,rows2)=>some ((z'=z∧rows2≠[])∧p∧(len+rows2.length)*bytes<=70368744177664∧len+rows2.length<=70368744177664,.vec o.length (len+rows2.length),o++[some ⟨e,z,true,rows.take len++rows2⟩])
  |none=>none
 |some (e,z,bytes),.v (.slice none 0 0)=>match rD o z b with
  |some (p,rows2)=>some (p∧rows2.length*bytes<=140737488355328∧rows2.length<=140737488355328,.vec o.length rows2.length,o++[some ⟨e,z,true,rows2⟩])
  |none=>none
 |_,_=>none
theorem Fh{P:Program}{T:TypeId}(ty:TypeId)(h:RO D nu o w){a b:AV}{x y:Value}(hr:RA D nu o w a x)(hs:RA D nu o w b y){p:Prop}{r:AV}{o':AC}(hl:wQ P T o a b=some (p,r,o'))(hp:p) :
  Good D nu o w ((Builtin.append_ #[T,T] ty #[x,y]).run P w) r o':=by
 unfold wQ at hl
 split at hl
 ·rename_i e z bytes id len ht
  split at hl
  ·rename_i ob p' rows2 ho e2;simp only[aep,aeq]at hl;obtain⟨rfl,rfl,rfl⟩:=hl;obtain⟨⟨hv,rfl,rfl,rfl⟩,V,hby,h63⟩:=hp;obtain⟨hu,i,zv,hi,hzv,hzs,A,hsize,hbytes⟩:=gw ht;obtain⟨xs,u,hL,hob⟩:=h.xi ho hv;cases hr
   rcases lV h A hs e2 V with⟨rfl,rfl⟩|⟨g,c,news,rfl,U,hcell⟩
   ·have q:=run_append_owned_none (P:=P) w 0 T ty ob.T i ob.z hu hi _ _ _ u
    have e1:({ob with rows:=ob.rows++[]}:aa)=ob:=zk
    have e3:o.set id (some {ob with rows:=ob.rows++[]})=o:=by
     rw[e1]
     apply List.ext_getElem?
     grind
    rw[e3,q];rename_i hh ho1;exact Good.pure h (.vec id _ hh ho1) rfl
   ·by_cases Y:rows2=[]
    ·subst Y;have hn:news=[]:=List.eq_nil_of_length_eq_zero (by simpa using U.len);subst hn
     have e1:({ob with rows:=ob.rows++[]}:aa)=ob:=zk
     have e3:o.set id (some {ob with rows:=ob.rows++[]})=o:=by
      rw[e1]
      apply List.ext_getElem?
      grind
     rw[e3];rename_i hh ho1
     have q:(Builtin.append_ #[T,T] ty #[nu id ob.rows.length,.slice (some g) 0 c]).run P w=.ok (nu id ob.rows.length) w:=by
      rcases u.2 with⟨e4,e5⟩|⟨g',cap,cur,e4,_,_,hnc,_⟩
      ·rw[e4];simp[Builtin.append_,run_underlying hu,sizeOf,typeInfo,hi,Builtin.lenOf,Builtin.firstCells,loadCells,loadCellsFrom]
      ·rw[e4];simp[Builtin.append_,run_underlying hu,sizeOf,typeInfo,hi,Builtin.lenOf,Builtin.firstCells,loadCells,loadCellsFrom,hnc,storeCells]
     exact Good.pure h (.vec id _ hh ho1) q
    ·obtain⟨O,w',q,hown',H,_,W⟩:=run_append_own_at (P:=P) w 0 T ty ob.T i zv ob.z bytes hu hi hzv hsize hbytes hzs A _ _ xs u g rows2.length c news U.len hcell U.one
      (by grind[maxLen]) hby (aen _)
     obtain⟨k1,k2,k3⟩:=Ml h ho hv A Y hL U hown' H W;exact⟨O,w',_,q,k1,k2,k3⟩
  ·cases hl
 ·rename_i e z bytes z' rows len ht
  split at hl
  ·rename_i p' rows2 e2;simp only[aep,aeq]at hl;obtain⟨rfl,rfl,rfl⟩:=hl;obtain⟨⟨rfl,Y⟩,V,hby,h63⟩:=hp;obtain⟨_,_,_,_,_,_,A,_,_⟩:=gw ht;obtain⟨cap,cur,q,hg,hlr,hc1,hc2,hcs⟩:=Gf ty ht h hr hs e2 V Y hby h63;have hb:Below w.heap.size w w.drew:=(Below.refl _ _).drew
   have hg':zR D nu o w.drew z' (rows.take len++rows2) cur:=⟨hg.row,λi j row c h1 h2=>by
    obtain⟨x,x1,x2,x3⟩:=hg.cell i j row c h1 h2
    exact⟨x,x1,x2.mono (aH hb) (λ_ _ h=>h),x3⟩⟩
   have:=pM (h.below hb) e A hg' zd hc2 hcs
   rw[hlr]at this;obtain⟨v,w',nu',k1,k2,k3⟩:=this;exact⟨v,w',nu',q.trans k1,(aH hb).trans k2,k3⟩
  ·cases hl
 ·rename_i e z bytes ht
  split at hl
  ·rename_i p' rows2 e2;simp only[aep,aeq]at hl;obtain⟨rfl,rfl,rfl⟩:=hl;obtain⟨V,hby,h63⟩:=hp;obtain⟨hu,i,zv,hi,hzv,hzs,A,hsize,hbytes⟩:=gw ht;cases hr

   have fin:∀(O:Value)(w':World)(news:Id),B4 D nu o w z rows2 news->w'.ownsRow 0 e z O rows2.length news->w.grownBy w' none->(O.ownBlock=none∨O.ownBlock=some w.heap.size) ->
     cf nu o w (iB nu o.length O) (o++[some ⟨e,z,true,rows2⟩]) w'∧RO D (iB nu o.length O) (o++[some ⟨e,z,true,rows2⟩]) w'∧RA D (iB nu o.length O) (o++[some ⟨e,z,true,rows2⟩]) w' (.vec o.length rows2.length) O:=by
    intro O w' news U u H W;have hb:Below w.heap.size w w':=⟨H.os,H.tape,H.output,H.size,λk hk=>H.block k hk zk⟩;obtain⟨hlen,u⟩:=u
    have hv:∀b,dW O=some b->w.heap.size<=b:=λb hb'=>by
     rcases u with⟨rfl,_⟩|⟨g,cap,cur,rfl,_⟩
     ·cases hb'
     ·simp only[Value.ownBlock]at W;simp only[dW,cW]at hb'
      grind
    have hm:=iP (nu:=nu) (o:=o) (ob:=⟨e,z,true,rows2⟩) hb hv
    refine⟨hm,oD h hb hv ?_,?_⟩
    ·rcases u with⟨rfl,e0⟩|⟨g,cap,cur,rfl,_,hblk,hcap,hcm,hsz,htake⟩
     ·grind
     ·have hg:g=w.heap.size:=by grind[Value.ownBlock]
      have key:∀(i j:Nat)row c x,rows2[i]?=some row->row[j]?=some c->cur[i*z+j]?=some x->RA D nu o w c x∧x.oneCell'=true:=by
       intro i j row c x q1 q2 q3;obtain⟨y,y1,y2⟩:=U.cell i j row c q1 q2;have hj:=(aek.1 q2).1;rw[U.row i row q1]at hj
       have q4:news[i*z+j]?=some x:=by
        grind
       rw[q4]at y1;cases y1;exact⟨y2,U.one _ (aeG q4)⟩
      refine .inr (.inl ⟨g,cur,hblk,h.up _ zd,λe'=>(by cases e'),λ_=>⟨cap,bX _ _ _ _,hcap,hcm,hsz⟩,A,U.row,λi j row c x q1 q2 q3=>(key i j row c x q1 q2 q3).1.mono hm (λ_ _ h=>h),λi j row c x q1 q2 q3=>(key i j row c x q1 q2 q3).2⟩)
    ·have:=RA.vec (D:=D) (nu:=iB nu o.length O) (o:=o++[some ⟨e,z,true,rows2⟩]) (w:=w') o.length rows2.length ⟨_,ael,λx hx=>by cases hx;exact aed _⟩ (by
      rw[bX]
      rcases u with⟨rfl,_⟩|⟨g,cap,cur,rfl,_⟩<;>rfl)
     grind[bX]
   have hnil:=World.ownsRow_nil w 0 e z
   rcases lV h A hs e2 V with⟨rfl,rfl⟩|⟨g,c,news,rfl,U,hcell⟩
   ·have q:=run_append_owned_none (P:=P) w 0 T ty e i z hu hi _ _ _ hnil;obtain⟨k1,k2,k3⟩:=fin (.slice none 0 0) w [] (yK z) zd ⟨rfl,rfl,rfl,aed _,λ_ _ _=>rfl⟩ (.inl rfl);exact⟨_,w,_,q,k1,k2,k3⟩
   ·obtain⟨O,w',q,hown',H,_,W⟩:=run_append_own_at (P:=P) w 0 T ty e i zv z bytes hu hi hzv hsize hbytes hzs A _ _ [] hnil g rows2.length c news U.len hcell U.one
     (by grind[maxLen]) (by grind) (aen _)
    obtain⟨k1,k2,k3⟩:=fin O w' news U (by grind) H (by grind[Value.ownBlock]);exact⟨O,w',_,q,k1,k2,k3⟩
  ·cases hl
 ·cases hl
def de(P:Program)(e:TypeId):Option C5:=match P.info? e with
 |some i=>match i.zero with
  |some zv=>if zv.cells.toList.all (·.oneCell')then some (zv.cells.toList.map AV.v)else none
  |none=>none
 |none=>none
theorem iA{P:Program}{e:TypeId}{cs:C5}(h:de P e=some cs):∃i zv,P.info? e=some i∧i.zero=some zv∧cs=zv.cells.toList.map AV.v∧∀x∈zv.cells.toList,x.oneCell'=true:=by
 unfold de at h
 grind
theorem D6(zv:Value)(A:∀x∈zv.cells.toList,x.oneCell'=true):Sw D nu o w (zv.cells.toList.map AV.v) zv.cells:=
 ⟨⟨zk,λi c x q u=>by
  rw[aeu]at q
  have:zv.cells.toList[i]?=some x:=by grind
  rw[this]at q;cases q;exact .v x⟩,λi x u=>A x (aeG (show zv.cells.toList[i]?=some x by grind))⟩
def JU(P:Program)(T:TypeId)(o:AC)(n c:AV):Option (Prop×AV×AC):=
 match P.underlying T,n,c with
 |some (.slice e),.v (.int _ l),.v (.int _ m)=>match jO P T,de P e with
  |some (_,z,bytes),some zr=>some (0<=l∧l<=m∧m.toNat*bytes<=140737488355328∧m.toNat<=140737488355328,.vec o.length l.toNat,o++[some ⟨e,z,true,List.replicate l.toNat zr⟩])
  |_,_=>none
 |_,_,_=>none
theorem Mi{P:Program}{T:TypeId}(h:RO D nu o w){n c:AV}{x y:Value}(hx:RA D nu o w n x)(hy:RA D nu o w c y){p:Prop}{r:AV}{o':AC}(hl:JU P T o n c=some (p,r,o'))(hp:p) :
  Good D nu o w ((Instr.makeSlice T x y).run P w) r o':=by
 unfold JU at hl
 split at hl
 ·rename_i e kl l kc m hu
  split at hl
  ·rename_i e2 z bytes zr ht hz;simp only[aep,aeq]at hl;obtain⟨rfl,rfl,rfl⟩:=hl;obtain⟨h1,h2,h3,h4⟩:=hp;obtain⟨A,i,zv,hi,q,hzs,Y,hsize,hbytes⟩:=gw ht;rw[hu]at A;cases A;obtain⟨i',zv',V,hzv',rfl,H⟩:=iA hz;rw[hi]at V;cases V;rw[q]at hzv';cases hzv';cases hx;cases hy
   have hr:=run_make (P:=P) w T e i zv hu hi q kl kc l m h1 h2 (by
    grind) zd
   rw[hr]
   have hmod:∀i j:Nat,j<z->(i*z+j) % zv.cells.size=j:=λi j W=>by grind[te]
   have hg:zR D nu o w z (List.replicate l.toNat (zv.cells.toList.map AV.v)) (madeCells zv.cells (m.toNat*i.size)):=by
    refine⟨λk row U=>?_,λk j row c U W=>?_⟩
    ·grind
    ·rw[aeH]at U
     split at U
     ·rename_i hlt;cases U;rw[aeu]at W
      cases hq:zv.cells.toList[j]? with
      |none=>grind
      |some u=>
       rw[hq]at W;cases W
       have hjl:j<zv.cells.size:=by grind
       refine⟨u,?_,.v u,H u (aeG hq)⟩
       have O:k*z+j<m.toNat*i.size:=by rw[hsize];exact rQ zd zd
       simp only[madeCells,Array.getElem?_map,aeI,if_pos O,aeE]
       grind
     ·cases U
   have:=pM h e Y hg (cap:=m.toNat) ahn (by grind[maxLen]) (by grind[size_madeCells])
   grind
  ·cases hl
 ·cases hl
theorem uO(off:Nat):∀(xs:Id)(s:Nat)(cells:Array Value)(k:Nat),off+s+xs.length<=cells.size ->
  ((xs.zipIdx s).foldl (λcs p=>cs.setIfInBounds (off+p.2) p.1) cells)[k]?=if off+s<=k∧k<off+s+xs.length then xs[k-(off+s)]? else cells[k]?
 | [],s,cells,k,_=>by
  rw[if_neg (by grind)];rfl
 |x::xs,s,cells,k,h=>by
  simp only[List.length_cons]at h;rw[List.zipIdx_cons,List.foldl_cons,uO off xs (s+1) _ k ahn]
  grind
theorem rO(off:Nat):∀(xs:Id)(s:Nat)(cells:Array Value),((xs.zipIdx s).foldl (λcs p=>cs.setIfInBounds (off+p.2) p.1) cells).size=cells.size
 | [],_,_=>rfl
 |x::xs,s,cells=>by rw[List.zipIdx_cons,List.foldl_cons,rO off xs];simp
theorem yl(xs:Array Value)(off:Nat)(cells:Array Value):xs.zipIdx.foldl (λcs(c,j)=>cs.setIfInBounds (off+j) c) cells=(xs.toList.zipIdx 0).foldl (λcs p=>cs.setIfInBounds (off+p.2) p.1) cells:=by
 rw[<-Array.foldl_toList,Array.toList_zipIdx]
def sy(place:NE)(cells:C5):O1->Option C5
 | []=>some cells
 |(i,a)::rest=>match place[i]?,a.cells? with
  |some (off,size),some cs=>if cs.length=size∧off+cs.length<=cells.length then sy place (Gn cells off cs) rest else none
  |_,_=>none
theorem US{row cs:C5}{off k:Nat}(h:off+cs.length<=row.length):(Gn row off cs)[k]?=if off<=k∧k<off+cs.length then cs[k-off]? else row[k]? :=by
 have q:(row.take off).length=off:=ahn
 unfold Gn
 grind
theorem uN(place:NE):∀(ps:O1)(vs:List (Nat×Value))(cells:C5)(cur:Array Value),ps.length=vs.length ->
  (∀(k:Nat)p q,ps[k]?=some p->vs[k]?=some q->p.1=q.1∧RA D nu o w p.2 q.2)->Sw D nu o w cells cur->∀{res:C5},sy place cells ps=some res->∃ys,Instr.fill (place.toArray[·]?) cur vs=some ys∧Sw D nu o w res ys
 | [],[],cells,cur,_,_,Y,res,H=>by
  simp only[sy,aep]at H;subst H;exact⟨cur,rfl,Y⟩
 |(i,a)::ps,(j,v)::vs,cells,cur,hl,U,Y,res,H=>by
  obtain⟨he,hr⟩:=U 0 (i,a) (j,v) rfl rfl;simp only at he hr;subst he;simp only[sy]at H
  split at H
  ·rename_i off size cs e1 e2
   split at H
   ·rename_i hcond;have O:=hr.one e2
    have hsz:v.cells.size=size:=by rw[<-O.len];exact hcond.1
    have hcl:=Y.len
    have hfit:off+v.cells.size<=cur.size:=zd
    have hlen:(Gn cells off cs).length=cells.length:=by grind[Gn]
    have W:Sw D nu o w (Gn cells off cs) (v.cells.zipIdx.foldl (λcs(c,j)=>cs.setIfInBounds (off+j) c) cur):=by
     rw[yl];have A:=λk=>uO off v.cells.toList 0 cur k zd;simp only[aez,aeJ]at A
     refine⟨⟨by rw[hlen,rO];exact hcl,λk c x V u=>?_⟩,λk x u=>?_⟩
     ·rw[US hcond.2]at V;rw[A k]at u;rw[O.len]at V
      split at V
      ·rename_i hk;rw[if_pos hk]at u;exact O.at' _ c x V (by grind)
      ·rename_i hk;rw[if_neg hk]at u;exact Y.at' k c x V u
     ·rw[A k]at u
      split at u
      ·exact O.one _ x (by simpa using u)
      ·exact Y.one k x u
    obtain⟨ys,V,u⟩:=uN place ps vs _ _ (by grind) (λk p q V u=>U (k+1) p q (by grind) (by grind)) W H;refine⟨ys,?_,u⟩
    have e1':place.toArray[i]?=some (off,size):=by grind
    simp only[Instr.fill,e1']
    grind
   ·cases H
  ·cases H
 | [],_::_,_,_,hl,_,_,_,_=>by simp at hl
 |_::_,[],_,_,hl,_,_,_,_=>by simp at hl
def zE(P:Program)(T:TypeId):Option (NE×C5):=
 match P.underlying T with
 |some (.struct fields)=>match fields.toList.mapM (λf=>(P.info? f.type).map λi=>(f.offset,i.size)),de P T with
  |some pl,some z=>some (pl,z)
  |_,_=>none
 |some (.array n e)=>match P.info? e,de P T with
  |some ie,some z=>some ((List.range n).map (λi=>(i*ie.size,ie.size)),z)
  |_,_=>none
 |_=>none
theorem AN{p q:Nat->Option (Nat×Nat)}(h:∀i x,p i=some x->q i=some x):∀(vs:List (Nat×Value))(cur ys:Array Value),Instr.fill p cur vs=some ys->Instr.fill q cur vs=some ys
 | [],cur,ys,u=>u
 |(i,v)::vs,cur,ys,u=>by
  simp only[Instr.fill]at u⊢
  cases A:p i with
  |none=>grind
  |some x=>
   rw[A]at u;rw[h i x A];simp only at u⊢
   split at u
   ·cases u
   ·rename_i hc;rw[if_neg hc];exact AN h vs _ ys u
def ru(P:Program)(T:TypeId)(parts:O1):Option AV:=match zE P T with
 |some (pl,z)=>(sy pl z parts).map AV.agg
 |none=>none
theorem Ir{P:Program}{T:TypeId}{ps:O1}{vs:Array (Nat×Value)}(hl:ps.length=vs.size)(A:∀(k:Nat)p q,ps[k]?=some p->vs[k]?=some q->p.1=q.1∧RA D nu o w p.2 q.2){r:AV}(H:ru P T ps=some r) :
  ∃v,(Instr.build T vs).run P w=.ok v w∧RA D nu o w r v:=by
 unfold ru at H
 split at H
 ·rename_i pl z ht;unfold zE at ht
  split at ht
  ·rename_i fields hu
   split at ht
   ·rename_i U Y h1 h2;simp only[aep,aeq]at ht;obtain⟨rfl,rfl⟩:=ht;obtain⟨i,zv,hi,W,rfl,u⟩:=iA h2
    cases V:sy U (zv.cells.toList.map AV.v) ps with
    |none=>grind
    |some res=>
     rw[V]at H;cases H;obtain⟨ys,h3,O⟩:=uN U ps vs.toList _ _ zd (λk p q a b=>A k p q a (by simpa using b)) (D6 zv u) V;refine⟨.agg ys,run_build w T vs ys ?_,.agg _ _ O.len O.at' O.one⟩
     grind[Program.built]
   ·cases ht
  ·rename_i n e hu
   split at ht
   ·rename_i ie Y h1 h2;simp only[aep,aeq]at ht;obtain⟨rfl,rfl⟩:=ht;obtain⟨i,zv,hi,W,rfl,u⟩:=iA h2
    cases V:sy ((List.range n).map (λi=>(i*ie.size,ie.size))) (zv.cells.toList.map AV.v) ps with
    |none=>grind
    |some res=>
     rw[V]at H;cases H;obtain⟨ys,h3,O⟩:=uN _ ps vs.toList _ _ zd (λk p q a b=>A k p q a (by simpa using b)) (D6 zv u) V;refine⟨.agg ys,run_build w T vs ys ?_,.agg _ _ O.len O.at' O.one⟩
     grind[Program.built,AN,List.range,aek]
   ·cases ht
  ·cases ht
 ·cases H
def As(z:Nat)(rows:List C5):O1->Option (List C5)
 | []=>some rows
 |(i,a)::rest=>match a.cells? with
  |some cs=>if cs.length=z∧i<rows.length then As z (rows.set i cs) rest else none
  |none=>none
theorem BA{z:Nat}:∀(ps:O1)(vs:List (Nat×Value))(rows:List C5)(cur:Array Value),ps.length=vs.length ->
  (∀(k:Nat)p q,ps[k]?=some p->vs[k]?=some q->p.1=q.1∧RA D nu o w p.2 q.2)->zR D nu o w z rows cur->cur.size=rows.length*z->∀{res:List C5},As z rows ps=some res ->
  ∃ys,Instr.fill (λi=>some (i*z,z)) cur vs=some ys∧zR D nu o w z res ys∧res.length=rows.length∧ys.size=cur.size
 | [],[],rows,cur,_,_,hc,_,res,A=>by
  simp only[As,aep]at A;subst A;exact⟨cur,rfl,hc,rfl,rfl⟩
 |(i,a)::ps,(j,v)::vs,rows,cur,hl,O,hc,hsz,res,A=>by
  obtain⟨he,hr⟩:=O 0 (i,a) (j,v) rfl rfl;simp only at he hr;subst he;simp only[As]at A
  split at A
  ·rename_i cs e2
   split at A
   ·rename_i hcond;have U:=hr.one e2
    have hvs:v.cells.size=z:=by rw[<-U.len];exact hcond.1
    have hfit:i*z+z<=cur.size:=by
     rw[hsz];have:(i+1)*z<=rows.length*z:=aeo _ hcond.2
     grind
    have Y:zR D nu o w z (rows.set i cs) (v.cells.zipIdx.foldl (λcs(c,j)=>cs.setIfInBounds (i*z+j) c) cur):=by
     rw[yl];have H:=λk=>uO (i*z) v.cells.toList 0 cur k ahn;simp only[aez,aeJ]at H
     refine⟨λk row hk=>?_,λk m row c W V=>?_⟩
     ·by_cases u:i=k
      ·grind
      ·rw[aex u]at hk;exact hc.row k row hk
     ·by_cases u:i=k
      ·subst u;rw[aew hcond.2]at W;cases W;have hm:=(aek.1 V).1;have hx:v.cells[m]?=some v.cells[m]:=aer zd;refine⟨v.cells[m],?_,U.at' m c _ V hx,U.one m _ hx⟩
       grind
      ·rw[aex u]at W;obtain⟨x,q1,q2⟩:=hc.cell k m row c W V;refine⟨x,?_,q2⟩;have hm:=(aek.1 V).1;rw[hc.row k row W]at hm;rw[H,if_neg,q1]
       rcases Nat.lt_or_gt_of_ne u with hlt|hgt
       ·have:(i+1)*z<=k*z:=aeo _ hlt
        grind
       ·have:(k+1)*z<=i*z:=aeo _ hgt
        grind
    have hsz':(v.cells.zipIdx.foldl (λcs(c,j)=>cs.setIfInBounds (i*z+j) c) cur).size=cur.size:=by rw[yl,rO]
    obtain⟨ys,W,V,h3,h4⟩:=BA ps vs _ _ (by grind) (λk p q W V=>O (k+1) p q (by grind) (by grind)) Y (by grind) A;refine⟨ys,?_,V,by grind,by rw[h4,hsz']⟩;simp only[Instr.fill]
    grind
   ·cases A
  ·cases A
 | [],_::_,_,_,hl,_,_,_,_,_=>by simp at hl
 |_::_,[],_,_,hl,_,_,_,_,_=>by simp at hl
def iG(P:Program)(T:TypeId)(len:Nat)(o:AC)(parts:O1):Option (AV×AC):=
 match P.underlying T with
 |some (.slice e)=>match jO P T,de P e with
  |some (_,z,_),some zr=>if len*z<=16777216 then match As z (List.replicate len zr) parts with
   |some rows=>some (.vec o.length len,o++[some ⟨e,z,true,rows⟩])
   |none=>none
   else none
  |_,_=>none
 |_=>none
theorem Q5{P:Program}{T:TypeId}{len:Nat}{ps:O1}{vs:Array (Nat×Value)}(hl:ps.length=vs.size)(hall:∀(k:Nat)p q,ps[k]?=some p->vs[k]?=some q->p.1=q.1∧RA D nu o w p.2 q.2){o1:AC}{r:AV}{o':AC}(A:iG P T len o1 ps=some (r,o')) :
  ∃e z rows ys,r=.vec o1.length len∧o'=o1++[some ⟨e,z,true,rows⟩]∧rows.length=len∧0<z∧len<=16777216∧ys.size=len*z∧zR D nu o w z rows ys∧(Instr.buildSlice T len vs).run P w=.ok (.slice (some ⟨w.heap.size,0,none⟩) len len) (w.alloc (.cells ys e)):=by
 unfold iG at A
 split at A
 ·rename_i e hu
  split at A
  ·rename_i e2 z bytes zr ht hz
   split at A
   ·rename_i hsmall
    split at A
    ·rename_i rows hrows;simp only[aep,aeq]at A;obtain⟨rfl,rfl⟩:=A;obtain⟨O,i,zv,hi,H,hzs,hz0,hsize,hbytes⟩:=gw ht;rw[hu]at O;cases O;obtain⟨i',zv',Y,hzv',rfl,U⟩:=iA hz;rw[hi]at Y;cases Y;rw[H]at hzv';cases hzv'
     have hg:zR D nu o w z (List.replicate len (zv.cells.toList.map AV.v)) ((Array.range (len*i.size)).map (zv.cells[· % zv.cells.size]!)):=by
      refine⟨λk row W=>?_,λk j row c W hj=>?_⟩
      ·grind
      ·rw[aeH]at W
       split at W
       ·rename_i hlt;cases W;rw[aeu]at hj
        cases hq:zv.cells.toList[j]? with
        |none=>grind
        |some u=>
         rw[hq]at hj;cases hj
         have hjl:j<zv.cells.size:=by grind
         refine⟨u,?_,.v u,U u (aeG hq)⟩
         have V:k*z+j<len*i.size:=by rw[hsize];exact rQ hlt zd
         simp only[Array.getElem?_map,aeI,if_pos V,aeE]
         grind[te,aeh]
       ·cases W
     obtain⟨ys,h1,h2,h3,h4⟩:=BA ps vs.toList _ _ zd (λk p q a b=>hall k p q a (by simpa using b)) hg (by simp[hsize]) hrows;simp only[List.length_replicate]at h3
     have hys:ys.size=len*z:=by grind
     have hrun:(Instr.buildSlice T len vs).run P w=.ok (.slice (some ⟨w.heap.size,0,none⟩) len len) (w.alloc (.cells ys e)):=by
      rw[<-hsize]at h1
      by_cases h0:len*i.size=0
      ·have hlen0:len=0:=by
        grind[Nat.mul_eq_zero]
       subst hlen0
       have h0': ¬(0 > 16777216):=zd
       simp[Array.range_zero']at h1;simp[Instr.buildSlice,run_underlying hu,sizeOf,typeInfo,hi,newRow,Array.range_zero',h1]
      ·have hs': ¬len*i.size > 2 ^ 24:=by grind
       simp[Instr.buildSlice,run_underlying hu,sizeOf,typeInfo,zeroValue,hi,H,hs',h0,h1,newRow]
     have hlm:len<=16777216:=aee (Nat.le_mul_of_pos_right _ hz0) hsmall
     grind
    ·cases A
   ·cases A
  ·cases A
 ·cases A
theorem wG{P:Program}{T:TypeId}{len:Nat}(h:RO D nu o w){ps:O1}{vs:Array (Nat×Value)}(hl:ps.length=vs.size)(u:∀(k:Nat)p q,ps[k]?=some p->vs[k]?=some q->p.1=q.1∧RA D nu o w p.2 q.2){r:AV}{o':AC}(V:iG P T len o ps=some (r,o')) :
  Good D nu o w ((Instr.buildSlice T len vs).run P w) r o':=by
 obtain⟨e,z,rows,ys,rfl,rfl,W,H,U,O,Y,A⟩:=Q5 hl u V
 grind[pM,maxLen]
end
section
variable {D:Nat->Prop} {nu:EQ} {o:AC} {w:World} {P:Program}
theorem fh(id:Nat):cf nu o w nu (o.set id none) w:=by
 refine⟨rfl,rfl,rfl,aed _,λq len V=>⟨?_,rfl⟩,λb _ H=>⟨rfl,?_⟩⟩
 ·obtain⟨x,u,A⟩:=V
  by_cases O:id=q
  ·subst O;exact⟨none,aew (aek.1 u).1,λx U=>by cases U⟩
  ·exact⟨x,by grind,A⟩
 ·rintro⟨q,ob'',u,A⟩
  by_cases O:id=q
  ·grind
  ·rw[aex O]at u;exact H ⟨q,ob'',u,A⟩
theorem jf{id q:Nat}{ob:aa}(h:(o.set id none)[q]?=some (some ob)):o[q]?=some (some ob)∧id≠q:=by
 grind
theorem n3(h:RO D nu o w)(id:Nat):RO D nu (o.set id none) w:=by
 have O:=fh (nu:=nu) (o:=o) (w:=w) id;refine⟨λA ob' u=>?_,h.up,λi1 i2 b1 b2 b u Y=>h.sep i1 i2 b1 b2 b (jf u).1 (jf Y).1,h.gl.mono O (λ_ _ h=>h)⟩
 rcases h.obj A ob' (jf u).1 with e|⟨g,cur,q⟩|⟨g,es,cl,H⟩
 ·exact .inl e
 ·exact .inr (.inl ⟨g,cur,q.ez,q.o4,q.box,q.vec,q.z,q.row,λi j row c x W V U=>(q.cell i j row c x W V U).mono O (λ_ _ h=>h),q.one⟩)
 ·exact .inr (.inr ⟨g,es,cl,H.tr rfl (λh=>h) rfl (λi j row c x _ _ q=>q.mono O (λ_ _ h=>h))⟩)
theorem TP(h:RO D nu o w){id:Nat}{ob:aa}(V:o[id]?=some (some ob)){g:Nat}{cur:Array Value}(u:B8 D nu o w id ob g cur):Fz D nu (o.set id none) w g:=by
 refine⟨(aeh.1 u.ez).1,?_,u.o4⟩;rintro⟨q,ob',U,O⟩;obtain⟨H,A⟩:=jf U;exact h.sep id q ob ob' g V H A u.b8 O
theorem my(h:RO D nu o w){id:Nat}{ob:aa}(V:o[id]?=some (some ob))(O:ob.fc=true):RA D nu (o.set id none) w (.aA ob.z ob.rows ob.rows.length) (nu id ob.rows.length):=by
 rcases h.obj id ob V with⟨e1,e2,e3⟩|⟨g,cur,H⟩|⟨g,es,cl,U⟩
 rotate_left 2
 ·rw[U.fc]at O;cases O
 ·rw[e2];simp only[aeg];rw[e3];exact .b6 _
 ·obtain⟨cap,q1,Y,W,q4⟩:=H.vec O;rw[q1]
  have q:∀(i j:Nat)row c,ob.rows[i]?=some row->row[j]?=some c->cur[i*ob.z+j]?=some (cur.getD (i*ob.z+j) Go.undef):=λi j row c A u=>by
   have:=H.qZ A (aek.1 u).1
   simp_all
  refine .aA _ _ _ g 0 cap (λi j=>cur.getD (i*ob.z+j) Go.undef) (aed _) Y W (λ_=>TP h V H) H.row (λi j row c A u=>?_) (λi j row c A u=>?_) (λi j row c A u=>?_)
  ·rw[<-q i j row c A u]
   have:=H.ez
   grind[World.cell?]
  ·exact(H.cell i j row c _ A u (q i j row c A u)).mono (fh id) (λ_ _ h=>h)
  ·exact H.one i j row c _ A u (q i j row c A u)
def NC:Option AV->Nat->Option (Prop×Nat)
 |none,d=>some (True,d)
 |some (.v (.int _ i)),_=>some (0<=i,i.toNat)
 |some _,_=>none
theorem ib{a:Option AV}{d n:Nat}{p:Prop}(h:NC a d=some (p,n))(A:p){x:Option Value}(u:∀c,a=some c->∃y,x=some y∧RA D nu o w c y)(hn:a=none->x=none) :
  (x=none∧n=d)∨∃k,x=some (.int k (n:Int)):=by
 cases a with
 |none=>simp only[NC,aep,aeq]at h;grind
 |some c=>
  cases c with
  |v y=>
   cases y with
   |int k i=>
    simp only[NC,aep,aeq]at h;obtain⟨rfl,rfl⟩:=h;obtain⟨y,rfl,q⟩:=u _ rfl;cases q
    grind
   |_=>cases h
  |_=>cases h
theorem dr{b:Bool}{len cap l h m:Nat}{lo hi mx:Option Value}(hl:(lo=none∧l=0)∨∃k,lo=some (.int k (l:Int)))(A:(hi=none∧h=len∧mx=none)∨∃k,hi=some (.int k (h:Int)))
  (O:(mx=none∧m=cap)∨∃k,mx=some (.int k (m:Int)))(u:l<=h)(q:h<=m)(H:m<=cap):(Instr.sliceBounds b len cap lo hi mx).run P w=.ok (l,h,m) w:=by
 rcases O with⟨rfl,rfl⟩|⟨km,rfl⟩
 ·rcases A with⟨rfl,rfl,_⟩|⟨kh,rfl⟩
  ·rcases hl with⟨rfl,rfl⟩|⟨kl,rfl⟩
   ·simp[Instr.sliceBounds]
   ·simp[Instr.sliceBounds,Instr.sliceBound,asIntOf,u]
  ·rcases hl with⟨rfl,rfl⟩|⟨kl,rfl⟩
   ·simp[Instr.sliceBounds,Instr.sliceBound,asIntOf,q]
   ·simp[Instr.sliceBounds,Instr.sliceBound,asIntOf,u,q]
 ·rcases A with⟨_,_,e⟩|⟨kh,rfl⟩
  ·cases e
  ·rcases hl with⟨rfl,rfl⟩|⟨kl,rfl⟩
   ·simp[Instr.sliceBounds,Instr.sliceBound,asIntOf,q,H]
   ·simp[Instr.sliceBounds,Instr.sliceBound,asIntOf,u,q,H]
theorem tK{z len l h m:Nat}{rows:List C5}{x:Value}(hr:RA D nu o w (.aA z rows len) x)(h1:l<=h)(h2:h<=m)(O:m<=rows.length) :
  ∃a cap,x=.slice a len cap∧rows.length<=cap∧(∀M,m<=M->M<=cap->RA D nu o w (.aA z ((rows.take m).drop l) (h-l)) (.slice (if M=l then a else a.map (·.add (l*z))) (h-l) (M-l))):=by
 cases hr with
 |b6=>
  simp at O
  obtain rfl:l=0:=zd
  obtain rfl:h=0:=zd
  subst O;refine⟨none,0,rfl,aed _,λM V A=>?_⟩
  obtain rfl:M=0:=zd
  exact .b6 z
 |cp _ a=>
  simp at O
  obtain rfl:l=0:=zd
  obtain rfl:h=0:=zd
  subst O;refine⟨some a,0,rfl,aed _,λM V A=>?_⟩
  obtain rfl:M=0:=zd
  exact .cp z a
 |aA _ _ _ b off cap f k1 k2 k3 k4 k5 k6 Y W=>
  refine⟨some ⟨b,off,none⟩,cap,rfl,k2,λM V A=>?_⟩
  have q:∀(i:Nat)row,((rows.take m).drop l)[i]?=some row->rows[l+i]?=some row:=λi row hi=>by
   grind
  by_cases u:M=l
  ·rw[if_pos u]
   have e:(rows.take m).drop l=[]:=ahn
   rw[e];refine .aA z [] (h-l) b off (M-l) f ahn zk zd (λU=>absurd rfl U) (λi row hi=>by simp at hi) (λi j row c hi=>by simp at hi) (λi j row c hi=>by simp at hi) (λi j row c hi=>by simp at hi)
  ·rw[if_neg u];simp only[aeE,Addr.add_lit];refine .aA z _ (h-l) b (off+l*z) (M-l) (λi j=>f (l+i) j) ahn ahn zd (λU=>k4 (λe=>U (by rw[e];simp))) (λi row hi=>k5 _ row (q i row hi)) (λi j row c hi H=>?_) (λi j row c hi H=>Y _ j row c (q i row hi) H) (λi j row c hi H=>W _ j row c (q i row hi) H)
   grind
def Rz(P:Program)(T:TypeId):Option Nat:=match P.underlying T with
 |some (.slice e)=>bR P e
 |_=>none
theorem nt{T:TypeId}{z:Nat}(h:Rz P T=some z):∃e,P.underlying T=some (.slice e)∧bR P e=some z:=by
 grind[Rz]
def rC(P:Program)(T:TypeId)(o:AC)(a:AV)(lo hi mx:Option AV):Option (Prop×AV×AC):=
 match a with
 | .v (.string s)=>match P.underlying T,NC lo 0,NC hi s.size,mx with
  |some .string,some (p,l),some (q,h),none=>some (p∧q∧l<=h∧h<=s.size,.v (.string (s.extract l h)),o)
  |_,_,_,_=>none
 | .aA z rows len=>match Rz P T,NC lo 0,NC hi len,mx with
  |some z',some (p,l),some (q,h),none=>some (p∧q∧l<=h∧h<=rows.length∧z'=z,.aA z (rows.drop l) (h-l),o)
  |some z',some (p,l),some (q,h),some m=>match NC (some m) 0,hi with
   |some (r,m),some _=>some (p∧q∧r∧l<=h∧m=h∧m<=rows.length∧z'=z,.full (.aA z ((rows.take h).drop l) (h-l)),o)
   |_,_=>none
  |_,_,_,_=>none
 | .vec id len=>match o[id]?,Rz P T,NC lo 0,NC hi len,mx with
  |some (some ob),some z',some (p,l),some (q,h),none=>some ((ob.fc=true∧ob.rows.length=len)∧p∧q∧l<=h∧h<=ob.rows.length∧z'=ob.z,.aA ob.z (ob.rows.drop l) (h-l),o.set id none)
  |some (some ob),some z',some (p,l),some (q,h),some m=>match NC (some m) 0,hi with
   |some (r,m),some _=>some ((ob.fc=true∧ob.rows.length=len)∧p∧q∧r∧l=0∧h=0∧m=0∧z'=ob.z,.full (.aA ob.z [] 0),o)
   |_,_=>none
  |_,_,_,_,_=>none
 |_=>none
theorem zB{T:TypeId}{a:AV}{x:Value}(hr:RA D nu o w a x){lo hi mx:Option AV}{vl vh vm:Option Value}
  (u:(∀c,lo=some c->∃y,vl=some y∧RA D nu o w c y)∧(lo=none->vl=none))(A:(∀c,hi=some c->∃y,vh=some y∧RA D nu o w c y)∧(hi=none->vh=none))(V:(∀c,mx=some c->∃y,vm=some y∧RA D nu o w c y)∧(mx=none->vm=none))
  {p:Prop}{r:AV}{o':AC}(hl:rC P T o a lo hi mx=some (p,r,o'))(hp:p)(hv:∀id len,a ≠ .vec id len):∃v,(Instr.sliceAt T x vl vh vm).run P w=.ok v w∧RA D nu o w r v∧o'=o:=by
 unfold rC at hl
 split at hl
 ·
  rename_i s
  split at hl
  ·rename_i p' l q h' U e1 e2;simp only[aep,aeq]at hl;obtain⟨rfl,rfl,rfl⟩:=hl;obtain⟨h1,h2,h3,h4⟩:=hp;cases hr;have b1:=ib e1 h1 u.1 u.2;have b2:=ib e2 h2 A.1 A.2;have O:=V.2 rfl;subst O;have hb:=dr (P:=P) (w:=w) (b:=false) (len:=s.size) (cap:=s.size) (m:=s.size) (lo:=vl) (hi:=vh) (mx:=none) b1 (b2.imp (λe=>⟨e.1,e.2,rfl⟩) (λe=>e)) (.inl ⟨rfl,rfl⟩) h3 h4 (aed _);refine⟨_,?_,.v _,rfl⟩;simp[Instr.sliceAt,Instr.slice,run_underlying U,hb]
  ·cases hl
 ·rename_i z rows len
  split at hl
  ·rename_i z' p' l q h' U e1 e2;simp only[aep,aeq]at hl;obtain⟨rfl,rfl,rfl⟩:=hl;obtain⟨h1,h2,h3,h4,rfl⟩:=hp;obtain⟨e,U,Y⟩:=nt U;have b1:=ib e1 h1 u.1 u.2;have b2:=ib e2 h2 A.1 A.2;have O:=V.2 rfl;subst O;obtain⟨ad,cap,rfl,W,H⟩:=tK hr h3 h4 (aed _);have hb:=dr (P:=P) (w:=w) (b:=true) (len:=len) (cap:=cap) (m:=cap) (lo:=vl) (hi:=vh) (mx:=none) b1 (b2.imp (λe=>⟨e.1,e.2,rfl⟩) (λe=>e)) (.inl ⟨rfl,rfl⟩) h3 zd (aed _)
   have:=H cap W (aed _)
   rw[List.take_length]at this;refine⟨_,?_,this,rfl⟩;simp[Instr.sliceAt,Instr.slice,run_underlying U,hb,run_sizeOf Y]
  ·rename_i z' p' l q h' mm U e1 e2
   split at hl
   ·rename_i r' m' _ e3;simp only[aep,aeq]at hl;obtain⟨rfl,rfl,rfl⟩:=hl;obtain⟨h1,h2,h5,h3,rfl,h6,rfl⟩:=hp;have h4:=aed m';obtain⟨e,U,Y⟩:=nt U;have b1:=ib e1 h1 u.1 u.2;have b2:=ib e2 h2 A.1 A.2;have b3:=ib e3 h5 V.1 V.2
    have hvh:∃y,vh=some y:=by grind
    have O:∃y,vm=some y:=by grind
    obtain⟨ad,cap,rfl,W,H⟩:=tK hr h3 h4 h6
    have hb:=dr (P:=P) (w:=w) (b:=true) (len:=len) (cap:=cap) (m:=m') (lo:=vl) (hi:=vh) (mx:=vm) b1 (.inr (b2.resolve_left (λe=>by grind)))
     (.inr (b3.resolve_left (λe=>by grind))) h3 h4 zd
    refine⟨_,?_,.full _ _ ⟨_,_,rfl⟩ (H m' (aed _) zd),rfl⟩;simp[Instr.sliceAt,Instr.slice,run_underlying U,hb,run_sizeOf Y]
   ·cases hl
  ·cases hl
 ·grind
 ·cases hl
theorem Iv{T:TypeId}(h:RO D nu o w){a:AV}{x:Value}(hr:RA D nu o w a x){lo hi mx:Option AV}{vl vh vm:Option Value}
  (u:(∀c,lo=some c->∃y,vl=some y∧RA D nu o w c y)∧(lo=none->vl=none))(A:(∀c,hi=some c->∃y,vh=some y∧RA D nu o w c y)∧(hi=none->vh=none))(H:(∀c,mx=some c->∃y,vm=some y∧RA D nu o w c y)∧(mx=none->vm=none))
  {p:Prop}{r:AV}{o':AC}(hl:rC P T o a lo hi mx=some (p,r,o'))(hp:p):Good D nu o w ((Instr.sliceAt T x vl vh vm).run P w) r o':=by
 by_cases Y:∀id len,a ≠ .vec id len
 ·obtain⟨v,h1,h2,rfl⟩:=zB hr u A H hl hp Y
  grind[Good.pure]
 obtain⟨id,len,rfl⟩:∃id len,a=.vec id len:=by
  grind
 simp only[rC]at hl
 split at hl
 ·rename_i ob z' p' l q h' ho U e1 e2;simp only[aep,aeq]at hl;obtain⟨rfl,rfl,rfl⟩:=hl;obtain⟨⟨hv,rfl⟩,h1,h2,h3,h4,rfl⟩:=hp;obtain⟨e,U,V⟩:=nt U;have b1:=ib e1 h1 u.1 u.2;have b2:=ib e2 h2 A.1 A.2;have W:=H.2 rfl;subst W;cases hr;obtain⟨ad,cap,hx,O,hfin⟩:=tK (my h ho hv) h3 h4 (aed _);rw[hx];have hb:=dr (P:=P) (w:=w) (b:=true) (len:=ob.rows.length) (cap:=cap) (m:=cap) (lo:=vl) (hi:=vh) (mx:=none) b1 (b2.imp (λe=>⟨e.1,e.2,rfl⟩) (λe=>e)) (.inl ⟨rfl,rfl⟩) h3 zd (aed _)
  have:=hfin cap O (aed _)
  rw[List.take_length]at this;refine⟨_,w,nu,?_,fh id,n3 h id,this⟩;simp[Instr.sliceAt,Instr.slice,run_underlying U,hb,run_sizeOf V]
 ·rename_i ob z' p' l q h' mm ho U e1 e2
  split at hl
  ·rename_i r' m' _ e3;simp only[aep,aeq]at hl;obtain⟨rfl,rfl,rfl⟩:=hl;obtain⟨⟨hv,rfl⟩,h1,h2,h5,rfl,rfl,rfl,rfl⟩:=hp;obtain⟨e,U,V⟩:=nt U;have b1:=ib e1 h1 u.1 u.2;have b2:=ib e2 h2 A.1 A.2;have b3:=ib e3 h5 H.1 H.2
   have hvh:∃y,vh=some y:=by grind
   have W:∃y,vm=some y:=by grind
   cases hr;obtain⟨ad,cap,hx,O,_⟩:=tK (my h ho hv) (aed 0) (aed 0) (aen _);rw[hx]
   have hb:=dr (P:=P) (w:=w) (b:=true) (len:=ob.rows.length) (cap:=cap) (m:=0) (lo:=vl) (hi:=vh) (mx:=vm) b1 (.inr (b2.resolve_left (λe=>by grind)))
    (.inr (b3.resolve_left (λe=>by grind))) (aed 0) (aed 0) (aen _)
   refine Good.pure (v:= .slice ad 0 0) h (.full _ _ ⟨_,_,rfl⟩ ?_) ?_
   ·cases ad with
    |none=>exact .b6 _
    |some a=>exact .cp _ a
   ·simp[Instr.sliceAt,Instr.slice,run_underlying U,hb,run_sizeOf V]
  ·cases hl
 ·cases hl
def cZ(P:Program)(T:TypeId)(f:Nat):Option Nat:=match P.underlying T with
 |some (.struct fs)=>match fs[f]? with
  |some fd=>match bR P fd.type with
   |some n=>if n=0 then none else some fd.offset
   |none=>none
  |none=>none
 |_=>none
def Ar:AV->Nat->Option AV
 | .vp cs,k=>some (.vp (cs.drop k))
 | .ptr id len z row off,k=>some (.ptr id len z row (off+k))
 |_,_=>none
theorem Bn{a:AV}{x:Value}(u:RA D nu o w a x){k:Nat}{r:AV}(h:Ar a k=some r):∃b off,x=.pointer (some ⟨b,off,none⟩)∧RA D nu o w r (.pointer (some ⟨b,off+k,none⟩)):=by
 cases a with
 |vp cs=>
  simp only[Ar,aep]at h;subst h
  cases u with
  |vp _ b off f q H U O=>
   refine⟨b,off,rfl,.vp _ b (off+k) (λj=>f (k+j)) q (λj c A=>?_) (λj c A=>?_) (λj c A=>?_)⟩
   ·grind
   ·grind
   grind
 |ptr id len z row off=>
  simp only[Ar,aep]at h;subst h
  cases u with
  |ptr _ _ _ _ _ b q H=>
   refine⟨b,row*z+off,rfl,?_⟩;rw[show row*z+off+k=row*z+(off+k) by omega];exact .ptr _ _ _ _ _ _ q H
 |_=>cases h
def nC(P:Program)(T:TypeId)(f:Nat)(a:AV):Option AV:=match cZ P T f with
 |some k=>Ar a k
 |none=>none
theorem yu{T:TypeId}{f:Nat}{a:AV}{x:Value}(O:RA D nu o w a x){r:AV}(h:nC P T f a=some r):∃v,(Instr.fieldAt T x f).run P w=.ok v w∧RA D nu o w r v:=by
 unfold nC at h
 split at h
 ·rename_i k hk;obtain⟨b,off,rfl,q⟩:=Bn O h;unfold cZ at hk
  split at hk
  ·rename_i fs H
   split at hk
   ·rename_i fd A
    split at hk
    ·rename_i n hn
     split at hk
     ·cases hk
     ·rename_i u;simp only[aep]at hk;subst hk;refine⟨_,?_,q⟩;simp[Instr.fieldAt,run_underlying H,A,Instr.sureAddr,fieldPlace,run_sizeOf hn,u,Addr.add_lit]
    ·cases hk
   ·cases hk
  ·cases hk
 ·cases h
def Ry(P:Program)(T:TypeId)(f:Nat):Option (Nat×Bool×Nat):=match P.underlying T with
 |some (.struct fs)=>match fs[f]? with
  |some fd=>match dc P fd.type,bR P fd.type with
   |some b,some n=>some (fd.offset,b,n)
   |_,_=>none
  |none=>none
 |_=>none
def Ce(P:Program)(T:TypeId)(f:Nat):AV->Option (Prop×AV)
 | .agg cs=>match Ry P T f with
  |some (off,true,n)=>some (off+n<=cs.length,.agg ((cs.drop off).take n))
  |some (off,false,_)=>match cs[off]? with
   |some c=>some (True,c)
   |none=>none
  |none=>none
 |_=>none
theorem Iu{T:TypeId}{f:Nat}{a:AV}{x:Value}(Y:RA D nu o w a x){p:Prop}{r:AV}(h:Ce P T f a=some (p,r))(hp:p):∃v,(Instr.field T x f).run P w=.ok v w∧RA D nu o w r v:=by
 cases a with
 |agg cs=>
  cases Y with
  |agg _ xs k1 W k3=>
  simp only[Ce]at h
  have key:∀off b n,Ry P T f=some (off,b,n)->∃fs fd,P.underlying T=some (.struct fs)∧fs[f]?=some fd∧dc P fd.type=some b∧bR P fd.type=some n∧fd.offset=off:=by
   intro off b n hh;unfold Ry at hh
   grind
  split at h
  ·rename_i off n ht;obtain⟨fs,fd,u,q,H,U,rfl⟩:=key _ _ _ ht;simp only[aep,aeq]at h;obtain⟨rfl,rfl⟩:=h
   refine⟨.agg (xs.extract fd.offset (fd.offset+n)),?_,.agg _ _ ahn (λi c y q1 V=>?_) (λi y V=>?_)⟩
   ·simp[Instr.field,run_underlying u,q,asAgg,part,iR H,run_sizeOf U]
   ·grind
   grind[Array.getElem?_extract]
  ·rename_i off n ht;obtain⟨fs,fd,u,q,H,U,rfl⟩:=key _ _ _ ht
   split at h
   ·rename_i c hc;simp only[aep,aeq]at h;obtain⟨rfl,rfl⟩:=h
    have A:fd.offset<xs.size:=by grind
    have O:xs[fd.offset]?=some xs[fd.offset]:=aer A;refine⟨xs[fd.offset],?_,W _ c _ hc O⟩;simp[Instr.field,run_underlying u,q,asAgg,part,iR H,O]
   ·cases h
  ·cases h
 |_=>cases h
def nE(P:Program)(T:TypeId)(o:AC)(a i:AV):Option (Prop×AV):=match P.underlying T,i with
 |some (.slice e),.v (.int _ i)=>match bR P e,a with
  |some z,.aA z' rows len=>some (z'=z∧0<=i∧i<len,.vp (rows.getD i.toNat []))
  |some z,.vec id len=>match o[id]? with
   |some (some ob)=>some (ob.fc=true∧ob.z=z∧ob.rows.length=len∧0<=i∧i<len,.ptr id len z i.toNat 0)
   |_=>none
  |_,_=>none
 |some (.array n e),.v (.int _ i)=>match bR P e with
  |some z=>match Ar a (i.toNat*z)with
   |some r=>some (0<=i∧i<n,r)
   |none=>none
  |none=>none
 |_,_=>none
theorem yv{T:TypeId}(h:RO D nu o w){a i:AV}{x y:Value}(Y:RA D nu o w a x)(hi:RA D nu o w i y){p:Prop}{r:AV}(hl:nE P T o a i=some (p,r))(U:p):∃v,(Instr.indexAt T x y).run P w=.ok v w∧RA D nu o w r v:=by
 unfold nE at hl
 split at hl
 ·rename_i e k u O;cases hi
  split at hl
  ·rename_i z z' rows len A;simp only[aep,aeq]at hl;obtain⟨rfl,rfl⟩:=hl;obtain⟨rfl,h0,h1⟩:=U
   cases Y with
   |b6=>omega
   |cp=>omega
   |aA _ _ _ b off cap f k1 k2 k3 k4 k5 k6 k7 k8=>
    have hlt:u.toNat<rows.length:=zd
    have q:rows[u.toNat]?=some rows[u.toNat]:=aes hlt;rw[getD_some q];refine⟨.pointer (some ⟨b,off+u.toNat*z',none⟩),?_,.vp _ b _ (λj=>f u.toNat j) (k4 (λe=>by grind)) (λj c H=>k6 _ j _ c q H) (λj c H=>k7 _ j _ c q H) (λj c H=>k8 _ j _ c q H)⟩;simp[Instr.indexAt,run_underlying O,asIntOf,h0,h1,run_sizeOf A,Addr.add_lit]
  ·rename_i z id len A
   split at hl
   ·rename_i ob ho;simp only[aep,aeq]at hl;obtain⟨rfl,rfl⟩:=hl;obtain⟨V,rfl,rfl,h0,h1⟩:=U
    cases Y with
    |vec _ _ q1 q2=>
    rcases h.obj id ob ho with⟨e1,e2,e3⟩|⟨g,cur,hb⟩|⟨g,es,cl,hmp⟩
    rotate_left 2
    ·rw[hmp.fc]at V;cases V
    ·grind
    ·obtain⟨cap,q3,_⟩:=hb.vec V;refine⟨.pointer (some ⟨g,u.toNat*ob.z+0,none⟩),?_,.ptr id _ _ _ _ g q1 (by rw[q3];rfl)⟩;rw[q3];simp[Instr.indexAt,run_underlying O,asIntOf,h0,h1,run_sizeOf A,Addr.add_lit]
   ·cases hl
  ·cases hl
 ·rename_i n e k u O;cases hi
  split at hl
  ·rename_i z A
   split at hl
   ·rename_i r' hpl;simp only[aep,aeq]at hl;obtain⟨rfl,rfl⟩:=hl;obtain⟨b,off,rfl,W⟩:=Bn Y hpl;refine⟨_,?_,W⟩;simp[Instr.indexAt,run_underlying O,Instr.sureAddr,asIntOf,U.1,U.2,run_sizeOf A,Addr.add_lit]
   ·cases hl
  ·cases hl
 ·cases hl
end
abbrev AK:=AS->Prop
theorem wA{p q:Prop}(k:q)(h:p:=by omega):p∧q:=⟨h,k⟩
end Go.Proofs.YtlhhccmopfamhaaGreatDoor
