/- texts of one claim, one behind the other. -/
import Derived.Test.YtfflpdekojlnmaaGreatDoorYAbsZ
import Derived.Test.YtfflpdekojlnmaaGreatDoorYOnceC
import Derived.Test.YtfflpdekojlnmaaGreatDoorYAbsV
import Derived.Sort.Grow
import Derived.Shelf.Sort.Plain
import Derived.Shelf.Slices.CompactI
import Derived.Shelf.Slices.In.SortNone
import Derived.Shelf.Spec.SlicesGrow
import Derived.Test.YtfflpdekojlnmaaGreatDoorRows
import Derived.LaidMore
import Derived.OpenShut
import Derived.Lib.ItoaNum
import Derived.Shelf.SlIter.Sorted
import Derived.Shelf.SortM.Plain
import Derived.Shelf.SortM.SortNone
set_option linter.unusedSimpArgs false
set_option linter.unusedVariables false
set_option maxRecDepth 100000
set_option maxHeartbeats 16000000
open Array renaming getElem?_eq_some_iff -> WR
open List renaming getElem?_append_right -> Xr, getElem?_map -> Xe, getElem?_eq_some_iff -> WT, mem_of_getElem? -> Xw, getElem?_eq_getElem -> Xb, length_append -> WX, foldl_cons -> Yw, foldl_nil -> Yx, replicate_succ -> YB, replicate_zero -> YC, getElem_mem -> Ym, mem_flatMap -> YD, eq_nil_of_length_eq_zero -> Xy, flatMap_cons -> YE, mem_cons -> Yj, drop_eq_getElem_cons -> X1, mem_cons_self -> XY, mem_cons_of_mem -> XW, all_eq_true -> X7, mem_append_left -> YL, pairwise_iff_getElem -> YM, length_map -> XQ, getElem_map -> YN, mem_range -> X8, mem_singleton -> YO, mem_append -> YP, foldl_append -> YQ, nil_append -> YR, append_assoc -> Xp, findIdx?_eq_none_iff -> Yi, findIdx?_eq_some_iff_getElem -> Yh, map_append -> YT, nodup_append -> YU, length_singleton -> YV, getD_eq_getElem?_getD -> XR, getElem?_append_left -> WU, map_cons -> YW, map_map -> YZ, pairwise_map -> Y0, getElem?_cons_zero -> X2
open Nat renaming lt_or_ge -> WV, le_refl -> WN
open Option.some renaming injEq -> W7, inj -> WL
open Prod.mk renaming injEq -> W8
open BitVec renaming eq_of_toNat_eq -> YG, lt_of_getLsbD -> YH, eq_of_getLsbD_eq -> YI, getLsbD_and -> YJ, getLsbD_neg -> YK
open Bool renaming eq_false_or_eq_true -> YF, and_eq_true -> XK, and_self -> YY
open List.cons renaming injEq -> YS
open Option renaming getD_some -> YX
namespace Go.Proofs.YtfflpdekojlnmaaGreatDoor
open Go.RowKit
section
structure iy where
 d:Tmp
 k:Nat
 e:TypeId
 z:Nat
 n:Nat
 zc:List AV
 bx:Bool:=false
def iy.ob (m:iy):ab:=⟨m.e,m.z, !m.bx,List.replicate m.n m.zc⟩
def iy.av (m:iy) (id:Nat):AV:=if m.bx then .ptr id 0 m.z 0 0 else .vec id m.n
def iy.val (m:iy) (b cap:Nat):Value:=if m.bx then .pointer (some ⟨b,0,none⟩) else .slice (some ⟨b,0,none⟩) m.n cap
theorem iy.Tp (m:iy) (b cap:Nat):cX (m.val b cap)=some b:=by unfold iy.val;split<;>rfl
theorem iy.rM (m:iy) (b cap:Nat):cq (m.val b cap)=some b:=by unfold iy.val;split<;>rfl
def zG (n0:Nat) (m:iy) (v:Value) (w:World):Prop:= ∃b cap cur,v=m.val b cap∧n0<=b∧w.heap[b]? = some (.cells cur m.e (0,0))∧m.n<=cap∧cap<=maxLen∧cur.size=cap * m.z∧0<m.z∧m.zc.length=m.z∧(m.bx=true->m.n=1∧cap=1) ∧
 ∀(i j:Nat) c x,i<m.n->m.zc[j]? = some c->cur[i * m.z+j]? = some x->c = .v x∧x.oneCell'=true
theorem zG.below {n0:Nat} {m:iy} {v:Value} {w w':World} (hb:Below w.heap.size w w') (h:zG n0 m v w):zG n0 m v w':=by
 obtain ⟨b,cap,cur,h1,h2,h3,h4⟩:=h;exact ⟨b,cap,cur,h1,h2,(hb.block b (WR.1 h3).1).trans h3,h4⟩
section
variable {D:Nat->Prop} {nu:Nat->Nat->Value} {o:List (Option ab)} {w:World} {P:Program}
def Ie (nu:Nat->Nat->Value) (N:Nat) (h:Nat->Value):Nat->Nat->Value:=fun id len=>if id<N then nu id len else h (id - N)
theorem jo {N:Nat} {h:Nat->Value} {id len:Nat} (hl:id<N):Ie nu N h id len=nu id len:=by simp [Ie,hl]
theorem jn {N:Nat} {h:Nat->Value} {i len:Nat}:Ie nu N h (N+i) len=h i:=by rw [Ie,if_neg (by omega),Nat.add_sub_cancel_left]
theorem Jf {w0:World} (hro:RO D nu o w0) (hb:Below w0.heap.size w0 w) (ms:List iy) (h:Nat->Value) (hm: ∀i m,ms[i]? = some m->zG w0.heap.size m (h i) w)
  (hne: ∀i j,i<ms.length->j<ms.length->i≠j-> ∀b,cq (h i)=some b->cq (h j)≠some b) :
  bK nu o w0 (Ie nu o.length h) (o++ms.map (fun m=>some m.ob)) w∧RO D (Ie nu o.length h) (o++ms.map (fun m=>some m.ob)) w∧ ∀i m,ms[i]? = some m->RA D (Ie nu o.length h) (o++ms.map (fun m=>some m.ob)) w (m.av (o.length+i)) (h i):=by
 have old: ∀id,id<o.length->(o++ms.map (fun m=>some m.ob))[id]? = o[id]? :=fun id hl=>List.getElem?_append_left hl
 have new: ∀id ob,o.length<=id->(o++ms.map (fun m=>some m.ob))[id]? = some (some ob)-> ∃i m,id=o.length+i∧ms[i]? = some m∧ob=m.ob:=fun id ob hl hh=>by
  rw [Xr hl,Xe] at hh
  cases hi:ms[id - o.length]? with
  | none=>rw [hi] at hh;cases hh
  | some m=>
   rw [hi] at hh;simp only [Option.map_some,W7] at hh;exact ⟨id - o.length,m,by omega,hi,hh.symm⟩
 have fl: ∀i m,ms[i]? = some m-> ∃b,w0.heap.size<=b∧cX (h i)=some b∧cq (h i)=some b:=fun i m hi=>by
  obtain ⟨b,cap,cur,h1,h2,_⟩:=hm i m hi;exact ⟨b,h2,by rw [h1];exact m.Tp b cap,by rw [h1];exact m.rM b cap⟩
 have hmo:bK nu o w0 (Ie nu o.length h) (o++ms.map (fun m=>some m.ob)) w:=by
  refine ⟨hb.os,hb.tape,hb.output,hb.size,fun id len hh=>⟨?_,jo (jI hh)⟩,fun b hlt hno=>⟨hb.block b hlt, ?_⟩⟩
  ·obtain ⟨x,h1,h2⟩:=hh;exact ⟨x,by rw [old id (WT.1 h1).1];exact h1,h2⟩
  ·rintro ⟨id,ob,h1,h2⟩
   rcases WV id o.length with hl|hl
   ·rw [old id hl] at h1;rw [jo hl] at h2;exact hno ⟨id,ob,h1,h2⟩
   ·obtain ⟨i,m,rfl,hi,rfl⟩:=new id ob hl h1;rw [jn] at h2;obtain ⟨b',h3,h4,_⟩:=fl i m hi;rw [h4] at h2;cases h2;omega
 have row: ∀i m,ms[i]? = some m-> ∃g cur,zP D (Ie nu o.length h) (o++ms.map (fun m=>some m.ob)) w (o.length+i) m.ob g cur:=fun i m hi=>by
  obtain ⟨b,cap,cur,h1,h2,h3,h4,h5,h6,h7,h8,h10,h9⟩:=hm i m hi
  have inr: ∀(i':Nat) r,(List.replicate m.n m.zc)[i']? = some r->i'<m.n∧r=m.zc:=fun i' r hr=>by
   rw [List.getElem?_replicate] at hr
   split at hr
   ·cases hr;exact ⟨‹_›,rfl⟩
   ·cases hr
  refine ⟨b,cur,h3,hro.up b h2,fun e=> ?_,fun e=>⟨cap, ?_, ?_,h5,h6⟩,h7,fun i' r hr=> ?_,fun i' j r c x q1 q2 q3=> ?_,fun i' j r c x q1 q2 q3=> ?_⟩
  ·have hb:m.bx=true:=by simpa [iy.ob] using e
   obtain ⟨k1,k2⟩:=h10 hb;refine ⟨by rw [jn,h1,iy.val,if_pos hb],by simp [iy.ob,k1], ?_⟩;rw [h6,k2,Nat.one_mul];rfl
  ·have hb:m.bx=false:=by simpa [iy.ob] using e
   rw [jn,h1,iy.val,hb];simp [iy.ob]
  ·simpa [iy.ob] using h4
  ·obtain ⟨_,rfl⟩:=inr i' r hr;exact h8
  ·obtain ⟨hl,rfl⟩:=inr i' r q1;obtain ⟨rfl,_⟩:=h9 i' j c x hl q2 q3;exact .v _
  ·obtain ⟨hl,rfl⟩:=inr i' r q1;exact (h9 i' j c x hl q2 q3).2
 refine ⟨hmo,⟨fun id ob ho=> ?_,fun b hlt=>hro.up b (Nat.le_trans hb.size hlt),fun id id' ob1 ob2 b h1 h2 hd h3 h4=> ?_,hro.gl.mono hmo (fun _ _ h=>h)⟩,fun i m hi=> ?_⟩
 ·rcases WV id o.length with hl|hl
  ·rw [old id hl] at ho
   rcases hro.obj id ob ho with ⟨e1,e2,e3⟩|⟨g,cur,hr⟩|⟨g,es,cl,hmp⟩
   ·exact .inl ⟨e1,e2,by rw [jo hl];exact e3⟩
   ·refine .inr (.inl ⟨g,cur,(hb.block g (hro.bn ⟨id,ob,ho,hr.bF⟩)).trans hr.fl,hr.nY,fun e=> ?_,fun e=> ?_,hr.z,hr.row,fun i j row c x h1 h2 h3=>(hr.cell i j row c x h1 h2 h3).mono hmo (fun _ _ h=>h),hr.one⟩)
    ·rw [jo hl];exact hr.box e
    ·rw [jo hl];exact hr.vec e
   ·exact .inr (.inr ⟨g,es,cl,hmp.tr (hb.block g (hro.bn ⟨id,ob,ho,hmp.bF⟩)) (fun h=>h) (jo hl) (fun i j row c x _ _ hr=>hr.mono hmo (fun _ _ h=>h))⟩)
  ·obtain ⟨i,m,rfl,hi,rfl⟩:=new id ob hl ho;exact .inr (.inl (row i m hi))
 ·rcases WV id o.length with l1|l1
  ·rw [old id l1] at h1;rw [jo l1] at h3
   rcases WV id' o.length with l2|l2
   ·rw [old id' l2] at h2;rw [jo l2] at h4;exact hro.sep id id' ob1 ob2 b h1 h2 hd h3 h4
   ·obtain ⟨i,m,rfl,hi,rfl⟩:=new id' ob2 l2 h2;rw [jn] at h4;obtain ⟨b',q1,q2,_⟩:=fl i m hi;rw [q2] at h4;cases h4
    have:=hro.bn ⟨id,ob1,h1,h3⟩
    omega
  ·obtain ⟨i,m,rfl,hi,rfl⟩:=new id ob1 l1 h1;rw [jn] at h3;obtain ⟨b',q1,q2,q3⟩:=fl i m hi;rw [q2] at h3;cases h3
   rcases WV id' o.length with l2|l2
   ·rw [old id' l2] at h2;rw [jo l2] at h4
    have:=hro.bn ⟨id',ob2,h2,h4⟩
    omega
   ·obtain ⟨j,m',rfl,hj,rfl⟩:=new id' ob2 l2 h2;rw [jn] at h4;obtain ⟨b2,p1,p2,p3⟩:=fl j m' hj;rw [p2] at h4;cases h4;exact hne i j (WT.1 hi).1 (WT.1 hj).1 (fun e=>hd (by rw [e])) _ q3 p3
 ·obtain ⟨b,cap,cur,h1,_⟩:=hm i m hi
  have hg:(o++ms.map (fun m=>some m.ob))[o.length+i]? = some (some m.ob):=by rw [Xr (by omega),Xe,show o.length+i - o.length=i by omega,hi];rfl
  cases hb:m.bx
  ·have:=RA.vec (D:=D) (nu:=Ie nu o.length h) (o:=o++ms.map (fun m=>some m.ob)) (w:=w) (o.length+i) m.n ⟨some m.ob,hg,fun x hx=>by cases hx;simp [ab.hl,iy.ob,hb]⟩ (by rw [jn,h1,iy.val,hb];rfl)
   rw [jn] at this;rw [iy.av,hb];exact this
  ·have:=RA.ptr (D:=D) (nu:=Ie nu o.length h) (o:=o++ms.map (fun m=>some m.ob)) (w:=w) (o.length+i) 0 m.z 0 0 b ⟨some m.ob,hg,fun x hx=>Nat.zero_le _⟩ (by rw [jn,h1];exact m.rM b cap)
   rw [iy.av,hb,h1,iy.val,hb];simpa using this
def UH:List AV->Nat->List iy->List AV
 | t,_,[]=>t
 | t,N,m :: l=>UH (t.set m.d (m.av N)) (N+1) l
def yZ (s:AS) (ms:List iy):AS:=⟨UH s.t s.o.length ms,s.o++ms.map (fun m=>some m.ob),s.y⟩
def AV.R6:AV->AV
 | .v x=> .v x
 | .ptr a b c d e=> .ptr a b c d e
 | .vec a b=> .vec a b
 | .agg cs=>if AV.flat (.agg cs) then .agg cs else .undef
 | .kF _ (.v x)=> .v x
 | _=> .undef
theorem RA.R6 {D':Nat->Prop} {nu':Nat->Nat->Value} {o':List (Option ab)} {w':World} (hh: ∀id len,dr o id len->dr o' id len∧nu' id len=nu id len) {c:AV} {x:Value} (h:RA D nu o w c x):RA D' nu' o' w' c.R6 x:=by
 cases h with
 | v=>exact .v _
 | ptr id len z row off b h1 h2=>exact .ptr id len z row off b (hh _ _ h1).1 (by rw [(hh _ _ h1).2];exact h2)
 | vec id len h1 h2=>
  rw [<-(hh _ _ h1).2] at h2 ⊢;exact .vec id len (hh _ _ h1).1 h2
 | agg cs xs h1 h2 h3=>
  simp only [AV.R6]
  split
  ·rename_i hf;exact (RA.agg cs xs h1 h2 h3:RA D nu o w _ _).flat hf
  ·exact .undef _
 | kF p a x S h0 h1 hc h2 h3=>
  cases a with
  | v y=>cases h3;exact .v _
  | _=>exact .undef _
 | _=>exact .undef _
def Jd:List Tmp->List AV->List AV
 | [],t=>t
 | d :: ds,t=>Jd ds (t.set d (t.getD d .undef).R6)
def yj (P:Program) (T:TypeId) (n c:AV):Option (Prop×TypeId×Nat×Nat×List AV):=
 match P.underlying T,n,c with
 | some (.slice e), .v (.int _ l), .v (.int _ m)=>match lh P T,ei P e with
  | some (_,z,bytes),some zr=>some (0<=l∧l<=m∧m.toNat * bytes<=140737488355328∧m.toNat<=140737488355328,e,z,l.toNat,zr)
  | _,_=>none
 | _,_,_=>none
theorem wG {T:TypeId} {n c:AV} {x y:Value} (hx:RA D nu o w n x) (hy:RA D nu o w c y) {p:Prop} {e:TypeId} {z l:Nat} {zr:List AV} (hl:yj P T n c=some (p,e,z,l,zr)) (hp:p) (d:Tmp) (k:Nat) :
  ∃v w',(Instr.makeSlice T x y).run P w = .ok v w'∧Below w.heap.size w w'∧zG w.heap.size ⟨d,k,e,z,l,zr,false⟩ v w':=by
 unfold yj at hl
 split at hl
 ·rename_i e0 kl l0 kc m hu
  split at hl
  ·rename_i e2 z0 bytes zr0 ht hz;simp only [W7,W8] at hl;obtain ⟨rfl,rfl,rfl,rfl,rfl⟩:=hl;obtain ⟨h1,h2,h3,h4⟩:=hp;obtain ⟨hu',i,zv,hi,hzv,hzs,hz0,hsize,hbytes⟩:=ew ht;rw [hu] at hu';cases hu';obtain ⟨i',zv',hi',hzv',rfl,hone⟩:=fK hz;rw [hi] at hi';cases hi';rw [hzv] at hzv';cases hzv';cases hx;cases hy
   have hr:=run_make (P:=P) w T e0 i zv hu hi hzv kl kc l0 m h1 h2 (by
    have:(i.bytes:Int) * m=((m.toNat * i.bytes:Nat):Int):=by
     rw [Int.natCast_mul,Int.toNat_of_nonneg (by omega),Int.mul_comm]
    rw [this,hbytes];omega) (by omega)
   rw [hr];refine ⟨_,_,rfl,(Below.refl _ _).alloc (WN _) _,w.heap.size,m.toNat,_,rfl,WN _,heap_alloc_new w _,by show l0.toNat<=_;omega,by unfold maxLen;omega,by rw [size_madeCells,hsize],hz0,by simpa using hzs,fun e=>(by cases e),fun i1 j c x q0 q1 q2=> ?_⟩
   replace q0:i1<l0.toNat:=q0
   replace q1:(zv.cells.toList.map AV.v)[j]? = some c:=q1
   rw [Xe] at q1
   cases hq:zv.cells.toList[j]? with
   | none=>rw [hq] at q1;cases q1
   | some u=>
    rw [hq] at q1;cases q1
    have hjl:j<zv.cells.size:=by have:=(WT.1 hq).1;simpa using this
    have hlt2:i1 * z0+j<m.toNat * i.size:=by rw [hsize];exact mO (by omega) (by omega)
    have hmod:(i1 * z0+j) % zv.cells.size=j:=by rw [hzs];exact sM (by omega)
    replace q2:(madeCells zv.cells (m.toNat * i.size))[i1 * z0+j]? = some x:=q2
    simp only [madeCells,Array.getElem?_map,Array.getElem?_range,if_pos hlt2,Option.map_some,W7] at q2;rw [hmod] at q2
    have hu2:zv.cells[j]? = some u:=by simpa using hq
    rw [getElem!_pos zv.cells j hjl,(WR.1 hu2).2] at q2;subst q2;exact ⟨rfl,hone u (Xw hq)⟩
  ·cases hl
 ·cases hl
def yb (P:Program) (T:TypeId):Option (Prop×TypeId×Nat×Nat×List AV):=
 match ei P T with
 | some zr=>if 0<zr.length then some (True,T,zr.length,1,zr) else none
 | none=>none
theorem FU {T:TypeId} {p:Prop} {e:TypeId} {z l:Nat} {zr:List AV} (hl:yb P T=some (p,e,z,l,zr)) (d:Tmp) (k:Nat) :
  ∃v w',(Instr.alloc T true (.tuple #[])).run P w = .ok v w'∧Below w.heap.size w w'∧zG w.heap.size ⟨d,k,e,z,l,zr,true⟩ v w':=by
 unfold yb at hl
 split at hl
 ·rename_i zr0 hz
  split at hl
  ·rename_i hpos;simp only [W7,W8] at hl;obtain ⟨-, rfl,rfl,rfl,rfl⟩:=hl;obtain ⟨i,zv,hi,hzv,he,hone⟩:=fK hz
   have hzr:(zeroValue T).run P w = .ok zv w:=by simp [zeroValue,typeInfo,hi,hzv]
   have hrun:(Instr.alloc T true (.tuple #[])).run P w = .ok (.pointer (some ⟨w.heap.size,0,none⟩)) (w.alloc (.cells zv.cells T)):=by
    simp [Instr.alloc,newVar,newRow,hzr]
   rw [hrun]
   have hsz:zv.cells.size=zr0.length:=by rw [he];simp
   refine ⟨_,_,rfl,(Below.refl _ _).alloc (WN _) _,w.heap.size,1,zv.cells,rfl,WN _,heap_alloc_new w _,WN _,by unfold maxLen;omega,by rw [hsz,Nat.one_mul],hpos,rfl,fun _=>⟨rfl,rfl⟩,fun i1 j c x q0 q1 q2=> ?_⟩
   replace q0:i1<1:=q0
   obtain rfl:i1=0:=by omega
   replace q1:zr0[j]? = some c:=q1
   rw [he,Xe] at q1
   replace q2:zv.cells[0 * zr0.length+j]? = some x:=q2
   rw [Nat.zero_mul,Nat.zero_add] at q2
   have q3:zv.cells.toList[j]? = some x:=by simpa using q2
   rw [q3] at q1;cases q1;exact ⟨rfl,hone x (Xw q3)⟩
  ·cases hl
 ·cases hl
def Ma (g:Option (Nat×Bool)) (d:Option Tmp) (N:Nat) (x:Option (Prop×TypeId×Nat×Nat×List AV)) (K:Tmp->TypeId->Nat->Nat->List AV->Prop):Prop:=match g,d,x with
 | none,some d,some (p,e,z,n,zc)=>(p∧d<N)∧K d e z n zc
 | _,_,_=>False
theorem Im (d N:Nat) (p:Prop) (e:TypeId) (z n:Nat) (zc:List AV) (K:Tmp->TypeId->Nat->Nat->List AV->Prop):Ma none (some d) N (some (p,e,z,n,zc)) K=((p∧d<N)∧K d e z n zc):=rfl
@[congr] theorem Q6 {g:Option (Nat×Bool)} {d:Option Tmp} {N N':Nat} {x x':Option (Prop×TypeId×Nat×Nat×List AV)} {K:Tmp->TypeId->Nat->Nat->List AV->Prop} (h:N=N') (k:x=x'):Ma g d N x K=Ma g d N' x' K:=by rw [h,k]
def fD (P:Program) (all tail:List Oper):List Oper->Nat->AS->List iy->List Tmp->(AS->Prop)->Prop
 | [],_,s,ms,ds,Q=>dX P all tail (yZ ⟨Jd ds s.t,s.o,s.y⟩ ms) Q
 | oo :: rest,k,s,ms,ds,Q=>match oo.op with
  | .makeSlice T n c=>Ma oo.guard oo.dst s.t.length (yj P T (s.ev n) (s.ev c)) (fun d e z l zc=>fD P all tail rest (k+1) (s.put (some d) .undef s.o) (ms++[⟨d,k,e,z,l,zc,false⟩]) ds Q)
  | .alloc T=>Ma oo.guard oo.dst s.t.length (yb P T) (fun d e z l zc=>fD P all tail rest (k+1) (s.put (some d) .undef s.o) (ms++[⟨d,k,e,z,l,zc,true⟩]) ds Q)
  | _=>match oo.guard with
   | none=>bZ P oo.op s (fun r=>fD P all tail rest (k+1) (s.put oo.dst r s.o) ms (oo.dst.toList++ds) Q)
   | some (j,want)=>vS (jk all s j) want (bZ P oo.op s (fun r=>fD P all tail rest (k+1) (s.put oo.dst r s.o) ms (oo.dst.toList++ds) Q)) (fD P all tail rest (k+1) (s.put oo.dst (.v Go.undef) s.o) ms (oo.dst.toList++ds) Q)
structure V8 (l:List Oper) (s:AS) (a:Act) (k:Nat) (sk:AS) (rs:List (AV×Option iy)) (A:(Nat->Value)->Act) (ms:List iy) (ds:List Tmp):Prop extends FM l s a k sk (rs.map Prod.fst) A where
 row: ∀m,m∈ms->m.k<k∧rs[m.k]? = some (.undef,some m)∧(∃oi,l[m.k]? = some oi∧oi.dst=some m.d)∧ ∀x,(A x).tmps[m.d]? = some (x m.k)
 VA:(ms.map iy.k).Nodup
 Wu: ∀(i:Nat) r m,rs[i]? = some (r,some m)->r = .undef
 dst: ∀(i:Nat) (oi:Oper) d r,i<k->l[i]? = some oi->oi.dst=some d->rs[i]? = some (r,none)->d∈ds
def px:List (Option ab)->List AV->Option (Prop×List AV×List (Option ab))
 | o,[]=>some (True,[],o)
 | o, .vec id len :: l=>match o[id]? with
  | some (some ob)=>match px (o.set id none) l with
   | some (p,m,o')=>some ((ob.gw=true∧ob.rows.length=len∧bj 0 ob.rows=true)∧p, .aB ob.z ob.rows len :: m,o')
   | none=>none
  | _=>none
 | o,a :: l=>match px o l with
  | some (p,m,o')=>some (a.wf 0=true∧p,a :: m,o')
  | none=>none
theorem q8: ∀(args:List AV) {o:List (Option ab)} {p:Prop} {args':List AV} {o':List (Option ab)},px o args=some (p,args',o')->p->RO D nu o w->bK nu o w nu o' w∧RO D nu o' w∧args.length=args'.length ∧
  ∀(i:Nat) a b x,args[i]? = some a->args'[i]? = some b->RA D nu o w a x->RA D nu o' w b x
 | [],o,p,args',o',he,hp,h=>by
  simp only [px,W7,W8] at he;obtain ⟨rfl,rfl,rfl⟩:=he;exact ⟨.refl _ _ _,h,rfl,fun i a b x h=>by simp at h⟩
 | a :: l,o,p,args',o',he,hp,h=>by
  have plain:(match px o l with
   | some (p,m,o')=>some (a.wf 0=true∧p,a :: m,o')
   | none=>none)=some (p,args',o')->bK nu o w nu o' w∧RO D nu o' w∧(a :: l).length=args'.length∧ ∀(i:Nat) c b x,(a :: l)[i]? = some c->args'[i]? = some b->RA D nu o w c x->RA D nu o' w b x:=fun he=>by
   cases hg:px o l with
   | none=>rw [hg] at he;cases he
   | some y=>
    obtain ⟨q,m,o2⟩:=y;rw [hg] at he;simp only [W7,W8] at he;obtain ⟨rfl,rfl,rfl⟩:=he;obtain ⟨k1,k2,k3,k4⟩:=q8 l hg hp.2 h;refine ⟨k1,k2,by simp [k3],fun i c b x q1 q2 hr=> ?_⟩
    cases i with
    | zero=>simp at q1 q2;subst q1;subst q2;exact hr.mono k1 (fun _ _ h=>h)
    | succ i=>exact k4 i c b x (by simpa using q1) (by simpa using q2) hr
  cases a with
  | vec id len=>
   simp only [px] at he
   split at he
   ·rename_i ob ho
    cases hg:px (o.set id none) l with
    | none=>rw [hg] at he;cases he
    | some y=>
     obtain ⟨q,m,o2⟩:=y;rw [hg] at he;simp only [W7,W8] at he;obtain ⟨rfl,rfl,rfl⟩:=he;obtain ⟨⟨hv,rfl,hw⟩,hq⟩:=hp;have hm:=c7 (nu:=nu) (o:=o) (w:=w) id;obtain ⟨k1,k2,k3,k4⟩:=q8 l hg hq (lG h id);refine ⟨hm.trans k1,k2,by simp [k3],fun i c b x q1 q2 hr=> ?_⟩
     cases i with
     | zero=>
      simp at q1 q2;subst q1;subst q2;cases hr;exact (l5 h ho hv).mono k1 (fun _ _ h=>h)
     | succ i=>exact k4 i c b x (by simpa using q1) (by simpa using q2) (hr.mono hm (fun _ _ h=>h))
   ·cases he
  | _=>exact plain he
theorem aa.q7 {f:FuncId} {args args':List AV} {o':List (Option ab)} {r:AV} {p:Prop} {K:AV->List (Option ab)->Prop} (h:aq P f args' r) (hz:px o args=some (p,args',o')) (hp:p) (k:K r o'):aa P f args o K:=by
 refine .inr (.inr ⟨h.2.1,fun D nu w vargs hro hra=> ?_⟩);obtain ⟨k1,k2,k3,k4⟩:=q8 args hz hp hro
 refine (oJ h k2 ⟨by rw [<-k3];exact hra.len,fun i c x q1 q2=> ?_⟩).mono ?_
 ·have hi:i<args.length:=by rw [k3];exact (WT.1 q1).1
  exact k4 i _ c x (Xb hi) q1 (hra.at' i _ x (Xb hi) q2)
 ·rintro e w' ⟨v,rfl,hb,hr⟩;exact ⟨v,nu,o',r,rfl,k1.trans (ay hb),k2.below hb,hr,k⟩
theorem fZ {s:AS} (i id:Nat) {len:Nat} {ob:ab} (hi:s.t[i]? = some (.vec id len)) (ho:s.o[id]? = some (some ob)) (hv:ob.gw=true) (hl:ob.rows.length=len):x8 s (AS.mk (s.t.set i (.aB ob.z ob.rows len)) (s.o.set id none) s.y):=by
 intro f D nu a w hs;have hm:=c7 (nu:=nu) (o:=s.o) (w:=w) id;refine ⟨nu,hm,rfl,lG hs.ro id,⟨by simpa using hs.tm.len,fun j c x h1 h2=> ?_⟩,hs.jj⟩
 by_cases hij:i=j
 ·subst hij;rw [List.getElem?_set_self (WT.1 hi).1] at h1;cases h1;have hr:=hs.tm.at' i _ x hi h2;subst hl;cases hr;exact l5 hs.ro ho hv
 ·rw [List.getElem?_set_ne hij] at h1;exact (hs.tm.at' j c x h1 h2).mono hm (fun _ _ h=>h)
theorem bm {n0 i:Nat} {ops:Array Oper} {d:Bool} {s:AS} {Q:bd->AS->Prop} (h:cm P n0 (.region i ops d) s Q):cm P n0 (.region i ops d) s Q:=h
theorem FX {all tail rest:List Oper} {d:Tmp} {T ty:TypeId} {pos:String} {aft:Array Edge} {k:Nat} {s:AS} {ms:List iy} {ds:List Tmp} {Q:AS->Prop} (h:Ma none (some d) s.t.length (yb P T) (fun d e z l zc=>fD P all tail rest (k+1) (s.put (some d) .undef s.o) (ms++[⟨d,k,e,z,l,zc,true⟩]) ds Q)):fD P all tail (⟨some d, .alloc T,ty,pos,aft,none⟩ :: rest) k s ms ds Q:=h
theorem FY {all tail rest:List Oper} {d:Tmp} {T ty:TypeId} {n c:Operand} {pos:String} {aft:Array Edge} {k:Nat} {s:AS} {ms:List iy} {ds:List Tmp} {Q:AS->Prop} (h:Ma none (some d) s.t.length (yj P T (s.ev n) (s.ev c)) (fun d e z l zc=>fD P all tail rest (k+1) (s.put (some d) .undef s.o) (ms++[⟨d,k,e,z,l,zc,false⟩]) ds Q)):fD P all tail (⟨some d, .makeSlice T n c,ty,pos,aft,none⟩ :: rest) k s ms ds Q:=h
theorem CU {all tail:List Oper} {k:Nat} {s:AS} {ms:List iy} {ds:List Tmp} {Q:AS->Prop} (h:dX P all tail (yZ ⟨Jd ds s.t,s.o,s.y⟩ ms) Q):fD P all tail [] k s ms ds Q:=h
instance {all tail:List Oper} {k:Nat} {s:AS} {ms:List iy} {ds:List Tmp} {Q:AS->Prop}:aw (fD P all tail [] k s ms ds Q) (dX P all tail (yZ ⟨Jd ds s.t,s.o,s.y⟩ ms) Q):=⟨CU⟩
instance {all tail rest:List Oper} {d:Tmp} {T ty:TypeId} {n c:Operand} {pos:String} {aft:Array Edge} {k:Nat} {s:AS} {ms:List iy} {ds:List Tmp} {Q:AS->Prop}:aw (fD P all tail (⟨some d, .makeSlice T n c,ty,pos,aft,none⟩ :: rest) k s ms ds Q)
 (Ma none (some d) s.t.length (yj P T (s.ev n) (s.ev c)) (fun d e z l zc=>fD P all tail rest (k+1) (s.put (some d) .undef s.o) (ms++[⟨d,k,e,z,l,zc,false⟩]) ds Q)):=⟨FY⟩
instance {all tail rest:List Oper} {d:Tmp} {T ty:TypeId} {pos:String} {aft:Array Edge} {k:Nat} {s:AS} {ms:List iy} {ds:List Tmp} {Q:AS->Prop}:aw (fD P all tail (⟨some d, .alloc T,ty,pos,aft,none⟩ :: rest) k s ms ds Q)
 (Ma none (some d) s.t.length (yb P T) (fun d e z l zc=>fD P all tail rest (k+1) (s.put (some d) .undef s.o) (ms++[⟨d,k,e,z,l,zc,true⟩]) ds Q)):=⟨FX⟩
end
attribute [go_sem] Im yb iy.av yj yZ UH Jd AV.R6 AV.flat iy.ob Option.toList_some Option.toList_none
end
section
section
variable {D:Nat->Prop} {nu:Nat->Nat->Value} {o:List (Option ab)} {w:World} {P:Program}
def bI (o:List (Option ab)) (a r:AV):Prop:= ∀(D:Nat->Prop) (nu:Nat->Nat->Value) (w:World) (x:Value),RO D nu o w->RA D nu o w a x->RA D nu [] w r x
def zM (o:List (Option ab)):List AV->List AV->Prop
 | [],[]=>True
 | a :: l,b :: m=>bI o a b∧zM o l m
 | _,_=>False
theorem bI.of {a r:AV} (n:Nat) {p:Prop} (hz:gY o n a=some (p,r)) (hp:p):bI o a r:=fun _ _ _ x hro hra=>(kR hro n).1 a x p r hz hp hra
theorem zM.at': ∀ {l m:List AV},zM o l m->l.length=m.length∧ ∀(i:Nat) a b,l[i]? = some a->m[i]? = some b->bI o a b
 | [],[],_=>⟨rfl,fun i a b h=>by simp at h⟩
 | a :: l,b :: m,h=>by
  obtain ⟨h1,h2⟩:=zM.at' h.2;refine ⟨by simp [h1],fun i x y k1 k2=> ?_⟩
  cases i with
  | zero=>simp at k1 k2;subst k1;subst k2;exact h.1
  | succ i=>exact h2 i x y (by simpa using k1) (by simpa using k2)
def kH (P:Program) (f:FuncId) (args:List AV) (r:AV):Prop:=(aN 0 args=true∧r.wf 0=true)∧e9 P f=true∧ ∀D nu w vargs,RO D nu [] w->gb D nu [] w args vargs->Calls P f vargs w (fun e w'=> ∃v,e = .returned v∧Below w.heap.size w w'∧RA (fun b=>w.heap.size<=b) nu [] w' r v)
theorem kH.QT {f:FuncId} {args:List AV} {r:AV} (h:kH P f args r):aq P f args r:=by
 refine ⟨h.1,h.2.1,fun D nu w vargs hro hra=>(h.2.2 D nu w vargs hro hra).mono ?_⟩;rintro e w' ⟨v,rfl,hb,hx⟩;exact ⟨v,nu,[],r,rfl,ay hb,hro.below hb,hx.wider (fun b hb=>hro.up b hb),rfl,rfl⟩
def pk (o:List (Option ab)) (r0 r:AV):Prop:= ∀(D:Nat->Prop) (nu:Nat->Nat->Value) (w:World) (x:Value),RO D nu o w->RA D nu o w r0 x->RA (owned nu o) nu [] w r x
theorem pk.vec {id len:Nat} {ob:ab} (ho:o[id]? = some (some ob)) (hv:ob.gw=true) (hl:ob.rows.length=len) (hp: ∀row,row∈ob.rows-> ∀c,c∈row-> ∃x,c = .v x):pk o (.vec id len) (.aB ob.z ob.rows len):=fun D nu w x hro hra=>by
 have hx:x=nu id len:=by
  cases hra with
  | vec=>rfl
 subst hx;subst hl;have hown: ∀b,cq (nu id ob.rows.length)=some b->owned nu o b:=fun b hb=>⟨id,ob,ho,by rw [ab.hl,hv,if_pos rfl];exact ER hb⟩;have h:=l5 hro ho hv;generalize hq:nu id ob.rows.length=q at h hown ⊢;generalize ob.rows.length=n at h ⊢;generalize ob.rows=rows at h hp ⊢
 cases h with
 | bu=>exact .bu _
 | bL _ a=>exact .bL _ a
 | aB _ _ _ b off cap f k1 k2 k3 k4 k5 k6 k7 k8=>
  refine .aB _ _ _ b off cap f k1 k2 k3 (fun hne=>⟨(k4 hne).1,bb _ _,hown b rfl⟩) k5 k6 (fun i j row c q1 q2=> ?_) k8;obtain ⟨y,rfl⟩:=hp row (Xw q1) c (Xw q2);rw [(k7 i j row _ q1 q2).c6];exact .v y
theorem xD {α:Type} (f:α->List AV) (h: ∀x, ∀c∈f x, ∃y,c = .v y) (l:List α): ∀row,row∈l.map f-> ∀c,c∈row-> ∃y,c = .v y:=fun row hr=>by
 obtain ⟨x,_,rfl⟩:=List.mem_map.1 hr;exact h x
theorem kH.enter {f:FuncId} {fn:Func} {c:Code} {args:List AV} {r:AV} (hf:P.funcs[f]? = some fn) (hb:fn.body=some c) (hc:e9 P f=true) (hok:bT c=true) (hmx:P.follows .mixedOrders=true)
  (ha:aN 0 args=true) (hr:r.wf 0=true) (h:cm P 0 c ⟨args++List.replicate (fn.ntmps - args.length) .undef,[], .no⟩ (xX P fn.results.toList (fun r0 o=>pk o r0 r))):kH P f args r:=by
 obtain ⟨_,h2⟩:=gT.enter (o:=[]) hf hb hc hok hmx h;refine ⟨⟨ha,hr⟩,hc,fun D nu w vargs hro hra=>(h2 D nu w vargs hro hra).mono ?_⟩;rintro e w' ⟨v,nu',o',r0,rfl,hm,hro',hra',hz⟩;refine ⟨v,rfl,⟨hm.os,hm.tape,hm.output,hm.size,fun b hb=>(hm.keep b hb (bb _ _)).1⟩,(hz _ _ _ _ hro' hra').tr (n:=0) (fun b hf=>⟨hf.1,bb _ _, ?_⟩) (fun id len hlt=>by omega) hr⟩
 rcases Nat.lt_or_ge b w.heap.size with q|q
 ·exact absurd hf.2.2 (hm.keep b q (bb _ _)).2
 ·exact q
def VD {α:Type} (enc:α->Value) (l:List α):List (List AV):=l.map (fun a=>[.v (enc a)])
def FT (f:Nat->Nat) (n:Nat):List AV->List AV->Prop
 | [],[]=>True
 | a :: l,c :: m=>(c = .undef∨(a=c.bg f∧c.wf n=true))∧FT f n l m
 | _,_=>False
theorem zR {f:Nat->Nat} {n:Nat}: ∀ {l m:List AV},FT f n l m->l.length=m.length∧ ∀(i:Nat) c,m[i]? = some c->c = .undef∨(l[i]? = some (c.bg f)∧c.wf n=true)
 | [],[],_=>⟨rfl,fun i c h=>by simp at h⟩
 | a :: l,b :: m,h=>by
  obtain ⟨h1,h2⟩:=zR h.2;refine ⟨by simp [h1],fun i c hc=> ?_⟩
  cases i with
  | zero=>
   simp at hc;subst hc;rcases h.1 with e|⟨e,g⟩
   ·exact .inl e
   ·exact .inr ⟨by simp [e],g⟩
  | succ i=>simpa using h2 i c (by simpa using hc)
theorem IS {s:AS} {c:Code} {Q:bd->AS->Prop} (ids:List Nat) (t0:List AV) (o0:List (Option ab)) (hnd:ids.Nodup) (ho:ids.map (fun i=>s.o[i]?)=o0.map (fun x=>some (x.map (ab.bg (sig ids s.o.length)))))
  (hwo: ∀(k:Nat) ob,o0[k]? = some (some ob)->bj ids.length ob.rows=true) (ht:FT (sig ids s.o.length) ids.length s.t t0) (hok:bT c=true) (h:cm P 0 c ⟨t0,o0,s.y⟩ Q):Cr P 0 c s Q:=fun f m D nu a w hZr hn hm hs hmx R hO hR=>by
 obtain ⟨ro0,own0,fz0,hdr0,_⟩:=uc ids hs.ro hnd ho hwo
 have hlen:o0.length=ids.length:=by have:=congrArg List.length ho;simpa using this.symm
 generalize sig ids s.o.length=σ at *;have hD: ∀b,(D b∧ ¬(b<w.heap.size∧ ∃id ob,id∉ids∧s.o[id]? = some (some ob)∧cX (nu id ob.hl)=some b))->D b:=fun b h=>h.1;have ro1:=ro0.wider hD;obtain ⟨t1,t2⟩:=zR ht
 have hs0:RS f D (fun k len=>nu (σ k) len) ⟨t0,o0,s.y⟩ a w:=⟨ro1,⟨by rw [<-t1];exact hs.tm.len,fun i c x h1 h2=>by
  rcases t2 i c h1 with rfl|⟨e,g⟩
  ·exact .undef x
  ·exact ((hs.tm.at' i _ x e h2).B4 (f:=σ) (n:=ids.length) fz0 hdr0 c g rfl).wider hD⟩,hs.jj⟩
 refine gq hmx m hZr hn c hok _ a w D _ f.Z Q R hO ?_ hs0 h hR
 
 have hoz: ∀b,owned nu s.o b-> ¬f.Z b:=fun b hb hz=>((m.pd hm).1 b hz).2 (hs.ro.lz hb)
 have m1:=m.step (D':=fun b=>D b∧ ¬owned nu s.o b) (nu':=nu) (o':=[]) (Z':=fun b=>f.Z b∨owned nu s.o b) (w':=w) hm hs.ro
  ⟨rfl,rfl,rfl,Nat.le_refl _,fun id len hlt _=>by simp at hlt,fun b _ _ _=>⟨rfl,bb _ _⟩⟩
  (.nil _ _ _ (fun b hb=>⟨hs.ro.up b hb,fun ho=>by have:=hs.ro.bn ho;omega⟩) (hs.ro.gl.keep fun b _ hno hd=>⟨rfl,bb _ _,hd,hno⟩))
  (fun c v hr hc=>hr.tr (n:=0) (fun b hf=>⟨hf.1,bb _ _,hf.2.2,hf.2.1⟩) (fun id len hlt=>by omega) hc)
  (fun b hb=> .inl hb.1) (fun b hb=>by by_cases ho:owned nu s.o b;exact .inr (.inr ho);exact .inl ⟨hb,ho⟩)
  (fun b hb=>by
   rcases hb with hz|ho
   ·exact ⟨((m.pd hm).1 b hz).1,fun hd=>((m.pd hm).1 b hz).2 hd.1, .inl hz⟩
   ·exact ⟨hs.ro.bn ho,fun hd=>hd.2 ho, .inr (.inl ho)⟩) (by simpa using hn)
 exact m.step m1 (.nil _ _ _ (fun b hb=>⟨hs.ro.up b hb,fun ho=>by have:=hs.ro.bn ho;omega⟩) (hs.ro.gl.keep fun b _ hno hd=>⟨rfl,bb _ _,hd,hno⟩))
  ⟨rfl,rfl,rfl,Nat.le_refl _,fun id len _ hh=>by obtain ⟨x,h1,_⟩:=hh;simp at h1,fun b _ _ hz=>⟨rfl,fun ho=>hz (.inr (own0 b ho))⟩⟩ ro1
  (fun c v hr hc=>hr.tr (n:=o0.length) (fun b hf=>⟨hf.1,fun ho=>hf.2.2.2 (own0 b ho),hf.2.2.1⟩) (fun id len hlt hh=>by obtain ⟨x,h1,_⟩:=hh;simp at h1) hc)
  (fun b hb=>by by_cases ho:owned nu s.o b;exact .inr (.inr ho);exact .inl ⟨hb,ho⟩) (fun b hb=> .inl hb.1)
  (fun b hz=>⟨((m.pd hm).1 b hz).1,((m.pd hm).1 b hz).2, .inl (.inl hz)⟩) (Nat.le_trans hn (Nat.zero_le _))
theorem EP {id:Nat} {t:List AV} {o:List (Option ab)} {y:jA} {ops:Array Oper} {d:Bool} {Q:bd->AS->Prop} (ids:List Nat) (t0:List AV) (o0:List (Option ab)) (hnd:ids.Nodup) (ho:ids.map (fun i=>o[i]?)=o0.map (fun x=>some (x.map (ab.bg (sig ids o.length)))))
  (hwo: ∀(k:Nat) ob,o0[k]? = some (some ob)->bj ids.length ob.rows=true) (ht:FT (sig ids o.length) ids.length t t0) (hok:dw ops=true) (h:cm P 0 (.region id ops d) ⟨t0,o0,y⟩ Q):cm P 0 (.region id ops d) ⟨t,o,y⟩ Q:=by
 have:=IS (P:=P) (s:=⟨t,o,y⟩) (c:= .region id ops d) ids t0 o0 hnd ho hwo ht hok h
 cases d
 ·exact .inr this
 ·exact .inr this
end
def Wq (q:FQ) (i:Nat):List (List AV):=((q.conds.drop i).flatMap (fun c=>[c.left,c.right])++q.ret).map (fun o=>[.agg (Jm o)])
def SF (l:List (ByteArray×Int)):List (List AV):=l.map (fun p=>[.v (.string p.1), .v (.int .i64 p.2)])
theorem uF (c:Int):aq Tryz.prog 132 [.v (.int .u8 c)] (.v (.bool (mo c))):=by
 unfold mo;refine gE Tryz.func132 Tryz.ntmps132 Tryz.results132 ?_
 (refine bq ?_;intro K hK K hK)
 refine bD.part (fun h=> ?_) (fun h=> ?_)
 ·(revert K;revert K;exact O9 h)
 ·(revert K;revert K;exact O9 h)
theorem Lb (c:Int):aq Tryz.prog 149 [.v (.int .u8 c)] (.v (.bool (fw c))):=by
 have L:=uF c;refine gE Tryz.func149 Tryz.ntmps149 Tryz.results149 ?_
 (refine bq ?_;intro K hK K hK)
 refine aa.one L ?_
 (revert K;revert K;refine bq ?_;intro K hK K hK)
 refine bD.part (fun h=> ?_) (fun h=> ?_)
 ·(revert K;revert K;refine l9 h ?_)
  rw [fw,h];rfl
 ·(revert K;revert K;refine l9 h ?_;intro K hK K hK)
  refine bD.part (fun h2=> ?_) (fun h2=> ?_)
  ·(revert K;revert K;refine O7 h h2 ?_;intro K hK K hK)
   refine bD.part (fun h3=> ?_) (fun h3=> ?_)
   ·(revert K;revert K;refine O8 h h2 h3 ?_)
    rw [fw,h,h2,h3];simp
   ·(revert K;revert K;refine O8 h h2 h3 ?_)
    rw [fw,h,h2,h3];simp
  ·(revert K;revert K;refine O7 h h2 ?_)
   rw [fw,h,h2];simp
theorem vF (s:ByteArray) (k:Nat) (h:k<s.size):vE s k=s[k].toNat:=by
 unfold vE;rw [List.getD_eq_getElem?_getD,List.getElem?_eq_getElem (by simpa using h)];simp [ByteArray.getElem_eq_getElem_data]
theorem Ek (s:ByteArray) (hs:s.size<=1000000000000000):aq Tryz.prog 131 [.v (.string s)] (.v (.bool (iQ s))):=by
 refine gE Tryz.func131 Tryz.ntmps131 Tryz.results131 ?_
 (refine au ?_;intro K hK)
 refine bE (ι:=Nat) (fun i=>[(0, .v (.string s)),(2, .v (.bool false)),(3, .v (.int .i64 i))]) (fun _=>[]) (fun i=>s.size - i) (fun i=>i<=s.size∧ ∀j (h:j<s.size),j<i->fw s[j].toNat=true) 0 ⟨by omega,fun j _ h=>absurd h (by omega)⟩ ?_ ?_
 ·refine bl ?_ ai
  rfl
 ·rintro i ⟨hi,hP⟩ K hK;simp only [dV,List.foldl_cons,List.foldl_nil,List.replicate_succ,List.replicate_zero,go_sem]
  (revert K;revert K;refine au ?_;intro K hK K hK K hK)
  refine bD.part (fun h=> ?_) (fun h=> ?_)
  ·have hlt:i<s.size:=by replace h:=bG h;omega
   have eW:=ak (k:=i) (by omega);have S:=Lb (vE s i)
   repeat (first|(with_reducible first|refine aw.up ?_|refine fun (K:AK) hK=> ?_|(refine hK _ ?_;clear hK K))|simp only [go_sem]|with_reducible refine wA ?_|clear hK K)
   refine aa.one S ?_
   ((iterate 5 revert K);refine au ?_;intro K hK K hK K hK)
   refine bD.part (fun h2=> ?_) (fun h2=> ?_)
   ·((iterate 3 revert K);refine aP eW ?_)
    exact az.mk (i+1) ⟨by omega,fun j hj h3=>(by
     rcases Nat.lt_or_ge j i with q|q
     ·exact hP j hj q
     ·obtain rfl:j=i:=by omega
      rw [<-vF s j hj];exact h2)⟩ (by omega) (by exact aR ai)
   ·((iterate 3 revert K);refine aP h2 ?_)
    have e:iQ s=false:=by
     rw [<-Bool.not_eq_true,iQ,Bool.and_eq_true,Bool.and_eq_true,jf];intro hh
     have:=hh.1.1 i hlt
     rw [<-vF s i hlt,h2] at this;cases this
    rw [e]
  ·have he:i=s.size:=by replace h:=bG h;omega
   have ea:s.data.toList.all (fun b=>fw b.toNat)=true:=(jf _ _).2 (fun j hj=>hP j hj (by omega))
   ((iterate 3 revert K);refine au ?_;intro K hK K hK)
   refine bD.part (fun h3=> ?_) (fun h3=> ?_)
   ·(revert K;revert K;refine aP h3 ?_)
    have h4:1<=s.size:=by replace h3:=bG h3;omega
    rw [iQ,ea,decide_eq_true h4];simp;omega
   ·(revert K;revert K;refine w9 h3 ?_)
    rw [iQ,ea]
    replace h3:=bG h3
    simp;omega
theorem ib {s w:ByteArray} (hw:w∈words) (h:(s.toList==w.toList)=true):di s=false:=by
 have e:words.any (fun x=>cH s x)=true:=List.any_eq_true.2 ⟨w,hw,h⟩;rw [di,e];simp
theorem Jt (s:ByteArray) (hs:s.size<=1000000000000000):aq Tryz.prog 99 [.v (.string s)] (.v (.bool (di s))):=by
 have V:=Ek s hs;refine gE Tryz.func99 Tryz.ntmps99 Tryz.results99 ?_
 (refine au ?_;intro K hK K hK K hK)
 refine aa.one V ?_
 ((iterate 3 revert K);refine au ?_;intro K hK K hK K hK)
 cases hv:iQ s with
 | false=>
  ((iterate 3 revert K);refine w9 hv ?_)
  rw [di,hv];rfl
 | true=>
  have hz:=vL hv;have L:=uF (vE s 0)
  have e0:oQ s=(vE s 0:Nat):=by rw [vF s 0 hz.1];simp [oQ,hz.1]
  repeat (first|(with_reducible first|refine aw.up ?_|refine fun (K:AK) hK=> ?_|(refine hK _ ?_;clear hK K))|simp only [go_sem,hv]|with_reducible refine wA ?_|clear hK K)
  refine aa.one L ?_
  ((iterate 3 revert K);refine aP hv ?_;intro K hK)
  refine bD.part (fun h1=> ?_) (fun h1=> ?_)
  ·(revert K;refine aP h1 ?_;intro K hK K hK)
   refine bD.part (fun w1=> ?_) (fun w1=> ?_)
   ·(revert K;revert K;refine aP w1 ?_)
    rw [ib (.head _) w1]
   ·(revert K;revert K;refine aP w1 ?_;intro K hK K hK)
    refine bD.part (fun w2=> ?_) (fun w2=> ?_)
    ·(revert K;revert K;refine aP w2 ?_)
     rw [ib (.tail _ (.head _)) w2]
    ·(revert K;revert K;refine aP w2 ?_;intro K hK K hK)
     refine bD.part (fun w3=> ?_) (fun w3=> ?_)
     ·(revert K;revert K;refine aP w3 ?_)
      rw [ib (.tail _ (.tail _ (.head _))) w3]
     ·(revert K;revert K;refine aP w3 ?_;intro K hK K hK)
      refine bD.part (fun w4=> ?_) (fun w4=> ?_)
      ·(revert K;revert K;refine aP w4 ?_)
       rw [ib (.tail _ (.tail _ (.tail _ (.head _)))) w4]
      ·(revert K;revert K;refine aP w4 ?_;intro K hK K hK)
       refine bD.part (fun w5=> ?_) (fun w5=> ?_)
       ·(revert K;revert K;refine aP w5 ?_)
        rw [ib (.tail _ (.tail _ (.tail _ (.tail _ (.head _))))) w5]
       ·(revert K;revert K;refine aP w5 ?_;intro K hK K hK)
        refine bD.part (fun w6=> ?_) (fun w6=> ?_)
        ·(revert K;revert K;refine aP w6 ?_)
         rw [ib (.tail _ (.tail _ (.tail _ (.tail _ (.tail _ (.head _)))))) w6]
        ·(revert K;revert K;refine aP w6 ?_;intro K hK)
         refine bD.part (fun w7=> ?_) (fun w7=> ?_)
         ·(revert K;refine aP w7 ?_)
          rw [ib (.tail _ (.tail _ (.tail _ (.tail _ (.tail _ (.tail _ (.head _))))))) w7]
         ·(revert K;refine aP w7 ?_)
          rw [di,hv,e0,h1];simp only [words,List.any_cons,List.any_nil,cH,w1,w2,w3,w4,w5,w6,w7]
          rfl
  ·(revert K;refine aP h1 ?_)
   rw [di,hv,e0,h1];rfl
end
section
theorem uS (s:ByteArray):(s.toList==(⟨#[]⟩:ByteArray).toList)=nZ s:=by
 rw [Bool.eq_iff_iff,toList_inj];unfold nZ;rw [decide_eq_true_iff]
 constructor
 ·rintro rfl;rfl
 ·intro h;obtain ⟨⟨l⟩⟩:=s
  cases l with
  | nil=>rfl
  | cons x l=>simp [ByteArray.size] at h
@[go_sem] theorem Tt (n:Nat) (l:List (ByteArray×Int)):bj n (SF l)=true:=bw _ (fun _=>rfl) l
def WI:Option (List ByteArray)->AV
 | none=> .cI [.v (.map none), .v (.bool false)]
 | some _=> .cI [.vec 1 0, .v (.bool true)]
section
variable {P:Program}
theorem da.QT {f:FuncId} {args:List AV} {r r':AV} {o':List (Option ab)} (h:da P f args [] r o') (n:Nat) {p:Prop} (hz:gY o' n r=some (p,r')) (hp:p) (hw:aN 0 args=true) (hw':r'.wf 0=true):aq P f args r':=by
 refine ⟨⟨hw,hw'⟩,h.1,fun D nu w vargs hro hra=>(h.2 D nu w vargs hro hra).mono ?_⟩;rintro e w' ⟨v,nu',o'',r'',rfl,hm,hro',hx,rfl,rfl⟩;exact ⟨v,nu',[],r',rfl,⟨hm.os,hm.tape,hm.output,hm.size,fun id len hh=>by obtain ⟨ob,h1,_⟩:=hh;simp at h1,fun b hb hno=>⟨(hm.keep b hb (bb _ _)).1,bb _ _⟩⟩,(.nil _ _ _ hro'.up (hro'.gl.nil (fun _ _ h=>h))),(kR hro' n).1 _ _ _ _ hz hp hx,rfl,rfl⟩
end
def aJ (l:List Nat):List (List AV):=l.map (fun k:Nat=>[.v (.int .i64 (k:Int))])
attribute [go_sem] Value.oneCell'
def Kk (i:Nat):AV:= .v (.int .i64 ((8000024+i:Nat):Int))
def dS (i:Nat):List AV:=[Kk i, .v (.string ⟨#[]⟩), .v (.slice none 0 0)]
def jV (f:Nat->List AV):Nat->List (List AV)
 | 0=>[]
 | n+1=>jV f n++[f n]
@[go_sem] theorem iH (f:Nat->List AV): ∀n,(jV f n).length=n
 | 0=>rfl
 | n+1=>by rw [jV,WX,iH f n];rfl
def marksOf (f:Nat->List AV):List (List AV):=jV f 12
mutual
def cR:Ex->List AV
 | .mk k s l=>[.v (.int .i64 k), .v (.string s), .aB 3 (yV l++marksOf dS) l.length]
def yV:List Ex->List (List AV)
 | []=>[]
 | x :: xs=>cR x :: yV xs
end
theorem rj: ∀l:List Ex,yV l=l.map cR
 | []=>rfl
 | x :: xs=>by rw [yV,rj xs,List.map_cons]
theorem jK (x:Ex):cR x=[.v (.int .i64 x.kind), .v (.string x.label), .aB 3 (x.kids.map cR++marksOf dS) x.kids.length]:=by
 obtain ⟨k,s,l⟩:=x;rw [cR,rj];rfl
theorem gJ (n:Nat) (a b:List (List AV)):bj n (a++b)=(bj n a&&bj n b):=by
 induction a with
 | nil=>simp [bj]
 | cons x a ih=>simp [bj,ih,Bool.and_assoc]
theorem ez (n:Nat) (f:Nat->List AV) (h: ∀i,aN n (f i)=true): ∀k,bj n (jV f k)=true
 | 0=>rfl
 | k+1=>by simp [jV,gJ,ez n f h k,bj,h]
theorem Ce (n:Nat) (f:Nat->List AV) (h: ∀i,aN n (f i)=true):bj n (marksOf f)=true:=ez n f h 12
@[go_sem] theorem Rj (f:Nat->List AV):(marksOf f).length=12:=iH f 12
theorem vN (n:Nat) (i:Nat):aN n (dS i)=true:=rfl
theorem nU (n:Nat) (x:Ex):aN n (cR x)=true:=by
 induction x using Ex.ind with
 | h k s l ih=>
  rw [cR,rj];simp only [aN,AV.wf,Bool.and_true,Bool.true_and,gJ,Ce n _ (vN n)];exact zA (fun r hr=>by obtain ⟨x,hx,rfl⟩:=List.mem_map.1 hr;exact ih x hx)
theorem vM (n:Nat) (l:List Ex):bj n (l.map cR)=true:=bw _ (nU n) l
attribute [go_sem] nU vM gJ
@[go_sem] theorem Uj (n k:Nat):bj n (jV dS k)=true:=ez n _ (vN n) k
@[go_sem] theorem xU (n:Nat):bj n (marksOf dS)=true:=Ce n _ (vN n)
theorem Qn (i:Nat) (hi:i<1000):aq Tryz.prog 106 [.v (.int .i64 1), .v (.int .i64 i)] (Kk i):=by
 unfold Kk;refine gE Tryz.func106 Tryz.ntmps106 Tryz.results106 ?_;refine bq ?_;rw [bH (n:=(1:Int)+7) (by decide) (by decide)];rw [bH (n:=(1000003:Int) * (1+7)) (by decide) (by decide)];rw [bH (by omega) (by omega)]
 congr 2
theorem uK (i:Nat) (hi:i<1000):aq Tryz.prog 72 [.v (.int .i64 1), .v (.int .i64 i)] (.agg (dS i)):=by
 have M:=Qn i hi;simp only [Kk] at M;simp only [dS,Kk];refine gE Tryz.func72 Tryz.ntmps72 Tryz.results72 ?_
 (refine bq ?_;intro K hK K hK)
 refine aa.one M ?_
 (revert K;revert K;refine bq ?_)
 (refine gd.of 40 rfl ?_;simp only [go_sem])
theorem wm {α β:Type} (f:α->β) (l:List α) (k:Nat) (h:k<l.length):(l.take (k+1)).map f=(l.take k).map f++[f l[k]]:=by
 rw [List.take_add_one,List.map_append];simp [h]
theorem yW (l:List Ex) (hl:l.length<=1000000) (H: ∀x,x∈l->aq Tryz.prog 17 [.agg (aM x)] (.agg (cR x))) :
  aq Tryz.prog 44 [.aB 3 (l.map aM) l.length] (.aB 3 (l.map cR++marksOf dS) l.length):=by
 have e1:IntKind.i64.wrap ((l.length:Int)+12)=((l.length+12:Nat):Int):=by rw [bH (by omega) (by omega)];omega
 refine gE Tryz.func44 Tryz.ntmps44 Tryz.results44 ?_
 repeat (first|(with_reducible first|refine aw.up ?_|refine fun (K:AK) hK=> ?_|(refine hK _ ?_;clear hK K))|simp only [go_sem,e1]|with_reducible refine wA ?_|clear hK K)
 refine bE (ι:=Nat) (fun k=>[(0, .aB 3 (l.map aM) l.length),(2, .v (.slice none 0 0)),(3, .vec 0 k),(4, .v (.int .i64 k))]) (fun k=>[some ⟨25,3,true,(l.take k).map cR⟩]) (fun k=>l.length - k) (fun k=>k<=l.length) 0 (by omega) ?_ ?_
 ·refine bl ?_ ai
  rfl
 ·intro k hk K hK;simp only [dV,Yw,Yx,YB,YC,go_sem]
  (revert K;revert K;refine au ?_;intro K hK K hK K hK)
  refine bD.part (fun h=> ?_) (fun h=> ?_)
  ·have hlt:k<l.length:=by replace h:=bG h;omega
   have eG:=getD_map aM l k [] hlt;have eW:=ak (k:=k) (by omega);have HX:=H l[k] (Ym hlt);have eT:(l.take (k+1)).map cR=(l.take k).map cR++[cR l[k]]:=wm cR l k hlt;simp only [aA,jK] at HX eG eT
   repeat (first|(with_reducible first|refine aw.up ?_|refine fun (K:AK) hK=> ?_|(refine hK _ ?_;clear hK K))|simp only [go_sem,eG,eW,aA]|with_reducible refine wA ?_|clear hK K)
   refine aa.one HX ?_
   have eL:(l.take k).length=k:=by rw [List.length_take];omega
   repeat (first|(with_reducible first|refine aw.up ?_|refine fun (K:AK) hK=> ?_|(refine hK _ ?_;clear hK K))|simp only [go_sem,eW,eL]|with_reducible refine wA ?_|clear hK K)
   exact az.mk (k+1) (by omega) (by omega) (by refine mb ?_ ai;exact eT.symm)
  ·have hkl:k=l.length:=by replace h:=bG h;omega
   have eA:List.map cR (List.take k l)=l.map cR:=by rw [hkl,List.take_length]
   ((iterate 3 revert K);refine aP eA ?_;intro K hK)
   refine bE (ι:=Nat) (fun i=>[(0, .aB 3 (l.map aM) l.length),(2, .v (.slice none 0 0)),(3, .vec 0 (l.length+i)),(6, .v (.int .i64 i))]) (fun i=>[some ⟨25,3,true,l.map cR++jV dS i⟩]) (fun i=>12 - i) (fun i=>i<=12) 0 (by omega) ?_ ?_
   ·refine fm ?_ ?_ ai
    ·exact ⟨hkl,rfl⟩
    ·simp [jV]
   ·intro i hi K hK;simp only [dV,Yw,Yx,YB,YC,go_sem]
    (revert K;revert K;refine au ?_;intro K hK K hK K hK)
    refine bD.part (fun h2=> ?_) (fun h2=> ?_)
    ·have hlt:i<12:=by replace h2:=bG h2;omega
     have eW:=ak (k:=i) (by omega);have M:=uK i (by omega);simp only [dS,Kk] at M
     ((iterate 3 revert K);refine aP eW ?_;iterate 4 intro K hK)
     refine aa.one M ?_
     repeat (first|(with_reducible first|refine aw.up ?_|refine fun (K:AK) hK=> ?_|(refine hK _ ?_;clear hK K))|simp only [go_sem,eW]|with_reducible refine wA ?_|clear hK K)
     exact az.mk (i+1) (by omega) (by omega) (by refine fm ?_ ?_ ai<;>rfl)
    ·have h12:i=12:=by replace h2:=bG h2;omega
     have eM:jV dS i=marksOf dS:=by rw [h12];rfl
     repeat (first|(with_reducible first|refine aw.up ?_|refine fun (K:AK) hK=> ?_|(refine hK _ ?_;clear hK K))|simp only [go_sem,eM]|with_reducible refine wA ?_|clear hK K)
     exact gd.aB (by simp only [gJ,vM,xU,Bool.and_self])
def Ex.lens (n:Nat) (x:Ex):Prop:= ∀y,y∈aj x->y.kids.length<=n
theorem DM (x:Ex) (hx:x.lens 1000000):aq Tryz.prog 17 [.agg (aM x)] (.agg (cR x)):=by
 induction x using Ex.ind with
 | h k s l ih=>
  have hk: ∀y,y∈l->y.lens 1000000:=fun y hy z hz=>hx z (by rw [aj,bo];exact List.mem_cons_of_mem _ (YD.2 ⟨y,hy,hz⟩));have C:=yW l (hx (.mk k s l) (by rw [aj];exact List.mem_cons_self)) (fun y hy=>ih y hy (hk y hy));rw [aA,jK];simp only [Ex.kind,Ex.label,Ex.kids];refine gE Tryz.func17 Tryz.ntmps17 Tryz.results17 ?_
  (refine au ?_;intro K hK K hK)
  refine aa.one C ?_
  (revert K;revert K;refine au ?_)
  (refine gd.of 40 rfl ?_;simp only [go_sem])
def Pj (i:Nat):List AV:=[.v (.string ⟨#[]⟩), .v (.string ⟨#[]⟩), .v (.bool false), .v (.string ⟨#[109]⟩), .v (.string ⟨#[]⟩),Kk i, .v (.string ⟨#[]⟩), .v (.slice none 0 0)]
def Pf (i:Nat):List AV:=[Kk i, .v (.int .i64 0), .v (.string ⟨#[]⟩), .v (.string ⟨#[]⟩), .v (.int .i64 0), .v (.int .i64 0), .v (.string ⟨#[]⟩), .v (.int .i64 0), .v (.string ⟨#[]⟩), .v (.string ⟨#[]⟩), .v (.int .i64 0), .v (.int .i64 0), .v (.string ⟨#[]⟩)]
def Ph (i:Nat):List AV:=[.v (.int .i64 0), .v (.string ⟨#[]⟩), .v (.string ⟨#[]⟩), .v (.int .i64 0),Kk i, .v (.string ⟨#[]⟩)]
def Ka (p:om):List AV:=[.v (.string p.dV), .v (.string p.to), .v (.bool p.path), .v (.string p.label), .v (.string p.name), .v (.int .i64 p.expr.kind), .v (.string p.expr.label), .aB 3 (p.expr.kids.map cR++marksOf dS) p.expr.kids.length]
theorem Ia (n:Nat) (p:om):aN n (Ka p)=true:=by simp only [Ka,aN,AV.wf,gJ,vM,xU,Bool.and_true,Bool.and_self]
@[go_sem] theorem Tr (n:Nat) (l:List om):bj n (l.map Ka)=true:=bw _ (Ia n) l
@[go_sem] theorem Um (n k:Nat):bj n (jV Pj k)=true:=ez n _ (fun _=>rfl) k
@[go_sem] theorem RB (n:Nat):bj n (marksOf Pj)=true:=ez n _ (fun _=>rfl) 12
@[go_sem] theorem Ui (n k:Nat):bj n (jV Pf k)=true:=ez n _ (fun _=>rfl) k
@[go_sem] theorem Rx (n:Nat):bj n (marksOf Pf)=true:=ez n _ (fun _=>rfl) 12
@[go_sem] theorem Ul (n k:Nat):bj n (jV Ph k)=true:=ez n _ (fun _=>rfl) k
@[go_sem] theorem Rz (n:Nat):bj n (marksOf Ph)=true:=ez n _ (fun _=>rfl) 12
theorem Q0 {n:Nat} (h:n<=1000000):IntKind.i64.wrap ((n:Int)+12)=((n+12:Nat):Int):=by rw [bH (by omega) (by omega)];omega
def FQ.lens (n:Nat) (q:FQ):Prop:=q.sD.length<=n∧q.conds.length<=n∧q.ret.length<=n∧ ∀p,p∈q.sD->p.expr.lens n
inductive Le:AV->AV->Prop
 | refl (a:AV):Le a a
 | kF (p:(Nat->Prop)->World->Value->Prop) (a b:AV):Le a b->Le (.kF p a) b
 | nil (z:Nat):Le (.v (.slice none 0 0)) (.aB z [] 0)
 | agg (cs ds:List AV):cs.length=ds.length->(∀(i:Nat) c d,cs[i]? = some c->ds[i]? = some d->Le c d)->Le (.agg cs) (.agg ds)
 | aB (z:Nat) (rows rows':List (List AV)) (len:Nat):len<=rows'.length->rows'.length<=rows.length->(∀(i:Nat) r r',rows[i]? = some r->rows'[i]? = some r'->r.length=r'.length) ->
   (∀(i j:Nat) r r' c c',rows[i]? = some r->rows'[i]? = some r'->r[j]? = some c->r'[j]? = some c'->Le c c')->Le (.aB z rows len) (.aB z rows' len)
section
variable {D:Nat->Prop} {nu:Nat->Nat->Value} {o:List (Option ab)} {w:World} {P:Program}
theorem RA.le {a b:AV} (h:Le a b): ∀ {x:Value},RA D nu o w a x->RA D nu o w b x:=by
 induction h with
 | refl a=>exact fun h=>h
 | kF p a b _ ih=>intro x h;cases h with|kF _ _ _ S h0 h1 hc h2 h3=>exact ih h3
 | nil z=>intro x h;obtain rfl:=h.c6;exact .bu z
 | agg cs ds hl _ ih=>
  intro x h
  cases h with
  | agg _ xs h1 h2 h3=>
   refine .agg ds xs (by omega) (fun i d y hd hy=> ?_) h3
   have hi:i<cs.length:=by have:=(WT.1 hd).1;omega
   exact ih i cs[i] d (Xb hi) hd (h2 i _ y (Xb hi) hy)
 | aB z rows rows' len h1 h2 h3 _ ih=>
  intro x h;have up: ∀(i:Nat) r',rows'[i]? = some r'-> ∃r,rows[i]? = some r:=fun i r' hr=>⟨_,Xb (by have:=(WT.1 hr).1;omega)⟩
  have upj: ∀(i j:Nat) r' c',rows'[i]? = some r'->r'[j]? = some c'-> ∃r c,rows[i]? = some r∧r[j]? = some c:=fun i j r' c' hr hc=>by
   obtain ⟨r,hr'⟩:=up i r' hr;exact ⟨r,_,hr',Xb (by have:=h3 i r r' hr' hr;have:=(WT.1 hc).1;omega)⟩
  cases h with
  | bu=>
   have:rows'=[]:=Xy (by simpa using h2)
   subst this;exact .bu z
  | bL _ a=>
   have:rows'=[]:=Xy (by simpa using h2)
   subst this;exact .bL z a
  | aB _ _ _ b off cap f k1 k2 k3 k4 k5 k6 k7 k8=>
   refine .aB z rows' len b off cap f h1 (by omega) k3 (fun hne=>k4 (fun e=>hne (by subst e;exact Xy (by simpa using h2)))) (fun i r' hr=> ?_) (fun i j r' c' hr hc=> ?_) (fun i j r' c' hr hc=> ?_) (fun i j r' c' hr hc=> ?_)
   ·obtain ⟨r,hr'⟩:=up i r' hr;rw [<-h3 i r r' hr' hr];exact k5 i r hr'
   ·obtain ⟨r,c,q1,q2⟩:=upj i j r' c' hr hc;exact k6 i j r c q1 q2
   ·obtain ⟨r,c,q1,q2⟩:=upj i j r' c' hr hc;exact ih i j r r' c c' q1 hr q2 hc (k7 i j r c q1 q2)
   ·obtain ⟨r,c,q1,q2⟩:=upj i j r' c' hr hc;exact k8 i j r c q1 q2
def mi (cs ds:List AV):Prop:=cs.length=ds.length∧ ∀(i:Nat) c d,cs[i]? = some c->ds[i]? = some d->Le c d
theorem mi.nil:mi [] []:=⟨rfl,fun i c d h=>by simp at h⟩
theorem mi.cons {c d:AV} {cs ds:List AV} (h:Le c d) (k:mi cs ds):mi (c :: cs) (d :: ds):=⟨by simp [k.1],fun i x y hx hy=>by
 cases i with
 | zero=>cases hx;cases hy;exact h
 | succ i=>exact k.2 i x y hx hy⟩
theorem mi.refl (cs:List AV):mi cs cs:=⟨rfl,fun i c d h k=>by rw [h] at k;cases k;exact .refl c⟩
theorem mi.agg {cs ds:List AV} (h:mi cs ds):Le (.agg cs) (.agg ds):= .agg cs ds h.1 h.2
theorem Le.rows {α:Type} {z:Nat} {f g:α->List AV} {xs:List α} {more:List (List AV)} (h: ∀x,x∈xs->mi (f x) (g x)):Le (.aB z (xs.map f++more) xs.length) (.aB z (xs.map g) xs.length):=by
 have key: ∀(i:Nat) r r',(xs.map f++more)[i]? = some r->(xs.map g)[i]? = some r'->mi r r':=fun i r r' h1 h2=>by
  have hi:i<xs.length:=by simpa using (WT.1 h2).1
  rw [List.getElem?_append_left (by simpa using hi)] at h1;rw [List.getElem?_map,Xb hi] at h1 h2;cases h1;cases h2;exact h _ (Ym hi)
 exact .aB z _ _ _ (by simp) (by simp) (fun i r r' h1 h2=>(key i r r' h1 h2).1) (fun i j r r' c c' h1 h2 h3 h4=>(key i r r' h1 h2).2 j c c' h3 h4)
theorem gb.le {cs ds:List AV} {xs:Array Value} (h:mi cs ds) (k:gb D nu o w cs xs):gb D nu o w ds xs:=⟨by rw [<-h.1];exact k.len,fun i d x hd hx=>by
 have hi:i<cs.length:=by have:=(WT.1 hd).1;have:=h.1;omega
 exact (k.at' i cs[i] x (Xb hi) hx).le (h.2 i _ d (Xb hi) hd)⟩
theorem aq.le {f:FuncId} {args args':List AV} {r:AV} (h:aq P f args r) (hw:aN 0 args'=true) (hl:mi args' args):aq P f args' r:=h.args hw (fun _ _ _ _ k=>k.le hl)
end
theorem A8 (x:Ex):mi (cR x) (aM x):=by
 induction x using Ex.ind with
 | h k s l ih=>
  rw [jK,aA];exact .cons (.refl _) (.cons (.refl _) (.cons (.rows ih) .nil))
theorem A9 (i:Nat):mi (dS i) (aM (.mk ((8000024+i:Nat):Int) ⟨#[]⟩ [])):=by
 rw [aA];exact .cons (.refl _) (.cons (.refl _) (.cons (.nil 3) .nil))
section
variable {P:Program}
end
def TK:Go.Shelf.Ren:=⟨fun|189=>111|125=>87|257=>136|128=>125|129=>126|294=>151|295=>152|296=>153|297=>154|298=>155|299=>156|216=>157|300=>158|301=>159|328=>169|329=>141|330=>142|331=>170|332=>171|215=>172|343=>177|n=>n,fun|28=>79|3=>3|46=>121|0=>0|51=>95|53=>178|4=>4|183=>170|182=>169|131=>57|5=>5|9=>9|218=>186|222=>190|228=>204|229=>205|n=>n,fun n=>n⟩
def TD:Go.Shelf.Ren:=⟨fun|20=>112|n=>n,fun|22=>79|3=>3|4=>4|0=>0|n=>n,fun n=>n⟩
theorem KV {D:Nat->Prop} {nu:Nat->Nat->Value} {o:List (Option ab)} {w:World} {x:Value} (h:RA D nu o w (.aB 1 [] 0) x): ∃a c,x = .slice a 0 c:=by
 cases h with
 | bu=>exact ⟨_,_,rfl⟩
 | bL _ a=>exact ⟨_,_,rfl⟩
 | aB _ _ _ b off cap f=>exact ⟨_,_,rfl⟩
theorem gL (b:Nat) (l:List Nat):bj b (aJ l)=true:=bw _ (fun _=>rfl) _
attribute [go_sem] gL
theorem AL: ∀(l:List Nat) (n i:Nat),l[i]? = some n->l.idxOf n<=i
 | [],n,i,h=>by simp at h
 | x :: l,n,0,h=>by simp at h;subst h;simp
 | x :: l,n,i+1,h=>by
  have:=AL l n i (by simpa using h)
  rw [List.idxOf_cons];cases x==n<;>simp only [cond_true,cond_false]<;>omega
def TG:Go.Shelf.Ren:=⟨fun|4=>110|n=>n,fun|22=>91|25=>3|3=>3|4=>4|9=>9|20=>20|0=>0|n=>n,fun n=>n⟩
def V7 (w:List ByteArray) (x:Ex):Prop:= ∀fr:List Nat,fr.Pairwise (· < ·)->(∀j,j∈fr->j<=w.length)->aq Tryz.prog 52 [.agg [aS w], .agg (aM x), .aB 1 (aJ fr) fr.length] (.aB 1 (aJ (bh w (Lg x) fr)) (bh w (Lg x) fr).length)
inductive Ct:Ex->Prop
 | lab (s:ByteArray):Ct (.mk 1 s [])
 | many (k:Int) (s:ByteArray) (l:List Ex):(k=2∨k=3)->l.length<=900->(∀x∈l,Ct x)->Ct (.mk k s l)
 | one (k:Int) (s:ByteArray) (x:Ex):(k=4∨k=5∨k=6)->Ct x->Ct (.mk k s [x])
theorem tZ {α β:Type} (f:α->List β) (l:List α) (k:Nat) (h:k<l.length):((l.take (k+1)).flatMap f).length=((l.take k).flatMap f).length+(f l[k]).length:=by
 rw [List.take_add_one,List.flatMap_append,WX,Xb h];simp only [Option.toList_some,YE,List.flatMap_nil,List.append_nil]
theorem yH {α β:Type} (f:α->List β) (l:List α) (k:Nat):((l.take k).flatMap f).length<=(l.flatMap f).length:=by
 conv=>rhs;rw [<-List.take_append_drop k l,List.flatMap_append,WX]
 omega
theorem mK {α β:Type} (f:α->List β): ∀(l:List α) (x:α),x∈l->(f x).length<=(l.flatMap f).length
 | y :: l,x,h=>by
  rw [YE,WX]
  rcases Yj.1 h with rfl|h
  ·omega
  ·have:=mK f l x h;omega
theorem gr (k:Int) (s:ByteArray) (l:List Ex):(aj (.mk k s l)).length=1+(l.flatMap aj).length:=by
 rw [aj,bo,List.length_cons];omega
theorem Av (x:Ex):1<=(aj x).length:=by
 obtain ⟨k,s,l⟩:=x;rw [gr];omega
theorem tY (l:List Ex):l.length<=(l.flatMap aj).length:=by
 induction l with
 | nil=>simp
 | cons x l ih=>rw [YE,WX,List.length_cons];have:=Av x;omega
theorem Lc (x:Ex) (hx:(aj x).length<=1000000):aq Tryz.prog 66 [.agg (aM x)] (.v (.int .i64 ((aj x).length:Nat))):=by
 induction x using Ex.ind with
 | h kd s l ih=>
  rw [gr] at hx ⊢;have hl:=tY l;rw [aA];simp only [Ex.kind,Ex.label,Ex.kids];refine gE Tryz.func66 Tryz.ntmps66 Tryz.results66 ?_
  (refine au ?_;intro K hK)
  refine bE (ι:=Nat) (fun k=>[(1, .ptr 0 0 3 0 0),(2, .v (.int .i64 0)),(3, .v (.int .i64 (1+((l.take k).flatMap aj).length:Nat))),(4, .v (.int .i64 k))]) (fun _=>[some ⟨25,3,false,[[.v (.int .i64 kd), .v (.string s), .aB 3 (l.map aM) l.length]]⟩]) (fun k=>l.length - k) (fun k=>k<=l.length) 0 (by omega) ?_ ?_
  ·refine bl ?_ ai;exact ⟨rfl,rfl⟩
  ·intro k hk K hK;simp only [dV,Yw,Yx,YB,YC,go_sem]
   (revert K;revert K;refine au ?_;intro K hK K hK K hK)
   refine bD.part (fun h=> ?_) (fun h=> ?_)
   ·have hlt:k<l.length:=by replace h:=bG h;omega
    have eW:=ak (k:=k) (by omega);have eG:=getD_map aM l k [] hlt;have h1:=tZ aj l k hlt;have h2:=yH aj l (k+1);have h3:=mK aj l l[k] (Ym hlt);have C:=ih l[k] (Ym hlt) (by omega)
    have eN:IntKind.i64.wrap (((1+((l.take k).flatMap aj).length:Nat):Int)+(((aj l[k]).length:Nat):Int))=((1+((l.take (k+1)).flatMap aj).length:Nat):Int):=by
     rw [bH (by omega) (by omega)];omega
    simp only [aA] at C eG
    repeat (first|(with_reducible first|refine aw.up ?_|refine fun (K:AK) hK=> ?_|(refine hK _ ?_;clear hK K))|simp only [go_sem,eG]|with_reducible refine wA ?_|clear hK K)
    refine aa.one C ?_
    ((iterate 4 revert K);refine rZ eW eN ?_)
    exact az.mk (k+1) (by omega) (by omega) (by exact aR ai)
   ·have he:k=l.length:=by replace h:=bG h;omega
    have eA:l.take k=l:=by rw [he,List.take_length]
    ((iterate 3 revert K);exact E5 eA)
theorem fW (x:Ex): ∀y,y∈aj x->(aj y).length<=(aj x).length:=by
 induction x using Ex.ind with
 | h k s l ih=>
  intro y hy;rw [aj,bo] at hy
  rcases Yj.1 hy with rfl|hy
  ·exact Nat.le_refl _
  ·obtain ⟨z,hz,hy⟩:=YD.1 hy;have h1:=ih z hz y hy;have h2:=mK aj l z hz;rw [gr];omega
theorem j8 (x:Ex):x.kids.length<=(aj x).length:=by
 obtain ⟨k,s,l⟩:=x;rw [gr]
 have:=tY l
 simp only [Ex.kids];omega
theorem MW {x:Ex} {n:Nat} (h:(aj x).length<=n):x.lens n:=fun y hy=>by
 have h1:=fW x y hy;have h2:=j8 y;omega
theorem NW (x:Ex):x.ok-> ∀y,y∈aj x->ph y.label:=by
 induction x using Ex.ind with
 | h k s l ih=>
  intro h y hy;rw [Ex.ok] at h;rw [aj,bo] at hy
  rcases Yj.1 hy with rfl|hy
  ·exact h.1
  ·obtain ⟨z,hz,hy⟩:=YD.1 hy;exact ih z hz (qS.1 h.2 z hz) y hy
end
section
theorem wW (x:Ex) (h:x.ok):aq Tryz.prog 27 [.agg (aM x)] (.v (.bool (aC x))):=
 .za (by kernel_rfl) (by simp only [aN,AV.wf,dL,Bool.and_self]) (fun D nu w vargs hh=>by
  obtain ⟨a,rfl,ha⟩:=kf hh;obtain ⟨ca,rfl,ka⟩:=zd ha
  exact vO x ca w (zj x ca ka) h)
def AM (p:Ex->Bool):List Ex->Nat->Int
 | [],_=> -1
 | x :: xs,i=>if p x then (i:Int) else AM p xs (i+1)
theorem AN (p:Ex->Bool): ∀(l:List Ex) (i:Nat),decide (0<=AM p l i)=l.any p
 | [],i=>rfl
 | x :: xs,i=>by
  rw [AM,List.any_cons]
  cases p x with
  | true=>simp
  | false=>simpa using AN p xs (i+1)
theorem yN {g:FuncId} (p:Ex->Bool) (l:List Ex) (hl:l.length<=1000000) (H: ∀x,x∈l->aq Tryz.prog g [.agg (aM x)] (.v (.bool (p x)))) :
  aq Tryz.prog 137 [.aB 3 (l.map aM) l.length, .fn g [] []] (.v (.int .i64 (AM p l 0))):=by
 refine gE Tryz.func137 Tryz.ntmps137 Tryz.results137 ?_
 (refine au ?_;intro K hK)
 refine bf (ι:=Nat) 8 (fun i=>[(5, .undef),(8, .v (.int .i64 i))]) (fun i=>l.length - i) (fun i=>i<=l.length∧AM p l 0=AM p (l.drop i) i) 0 ⟨Nat.zero_le _,rfl⟩ ?_ ?_
 ·refine bl ?_ ai
  rfl
 rintro i ⟨hi,hx⟩ K hK
 (revert K;revert K;refine au ?_;intro K hK K hK K hK)
 refine bD.part (fun h=> ?_) (fun h=> ?_)
 ·have hlt:i<l.length:=by replace h:=bG h;omega
  have eW:=ak (k:=i) (by omega);have eG:=getD_map aM l i [] hlt;have HX:=H l[i] (List.getElem_mem hlt);rw [X1 hlt,AM] at hx;simp only [aA] at HX eG
  repeat (first|(with_reducible first|refine aw.up ?_|refine fun (K:AK) hK=> ?_|(refine hK _ ?_;clear hK K))|simp only [go_sem,eG,aA]|with_reducible refine wA ?_|clear hK K)
  refine aa.one HX ?_
  rcases YF (p l[i]) with hp|hp
  ·rw [hp,if_pos rfl] at hx
   ((iterate 5 revert K);refine aP hp ?_)
   rw [hx]
  ·rw [hp,if_neg (by decide)] at hx
   ((iterate 5 revert K);refine rZ hp eW ?_)
   exact az.mk (i+1) ⟨by omega,hx⟩ (by omega) (by exact aR ai)
 ·have:i=l.length:=by replace h:=bG h;omega
  rw [this,List.drop_length,AM] at hx
  ((iterate 3 revert K);refine au ?_)
  rw [hx]
theorem l8 {g:FuncId} (p:Ex->Bool) (l:List Ex) (hl:l.length<=1000000) (H: ∀x,x∈l->aq Tryz.prog g [.agg (aM x)] (.v (.bool (p x)))) :
  aq Tryz.prog 113 [.aB 3 (l.map aM) l.length, .fn g [] []] (.v (.bool (l.any p))):=by
 have C:=yN p l hl H;refine gE Tryz.func113 Tryz.ntmps113 Tryz.results113 ?_
 (refine bq ?_;intro K hK K hK)
 refine aa.one C ?_
 (revert K;revert K;refine bq ?_)
 rw [AN]
theorem DS (x:Ex) (H:aq Tryz.prog 82 [.agg (aM x)] (.v (.bool (aH x)))):aq Tryz.prog 114 [.agg (aM x)] (.v (.bool (!aH x))):=by
 simp only [aA] at H ⊢;refine gE Tryz.func114 Tryz.ntmps114 Tryz.results114 ?_
 (refine bq ?_;intro K hK K hK)
 refine aa.one H ?_
 (revert K;revert K;exact pS)
theorem MQ (x:Ex) (hx:x.lens 1000000):aq Tryz.prog 82 [.agg (aM x)] (.v (.bool (aH x))):=by
 induction x using Ex.ind with
 | h k s l ih=>
  have hl:l.length<=1000000:=hx (.mk k s l) (by rw [aj];exact XY);have H:=fun x (h:x∈l)=>ih x h (fun y hy=>hx y (by rw [aj,bo];exact XW _ (YD.2 ⟨x,h,hy⟩)));have C1:=l8 aH l hl H;have C2:=l8 (fun x=> !aH x) l hl (fun x h=>DS x (H x h))
  have e1:l.all aH = !l.any (fun x=> !aH x):=by simp [List.all_eq_not_any_not]
  simp only [aA,Ex.kind,Ex.label,Ex.kids,aH,oM,lD]
  by_cases h4:k=4
  ·subst h4;refine gE Tryz.func82 Tryz.ntmps82 Tryz.results82 ?_;exact pR
  ·by_cases h6:k=6
   ·subst h6;refine gE Tryz.func82 Tryz.ntmps82 Tryz.results82 ?_;exact pR
   ·by_cases h3:k=3
    ·subst h3;refine gE Tryz.func82 Tryz.ntmps82 Tryz.results82 ?_
     (refine au ?_;intro K hK K hK K hK)
     refine aa.one C1 ?_
     ((iterate 3 revert K);exact pR)
    ·by_cases h2:k=2
     ·subst h2;refine gE Tryz.func82 Tryz.ntmps82 Tryz.results82 ?_
      (refine au ?_;intro K hK K hK K hK)
      refine aa.one C2 ?_
      ((iterate 3 revert K);refine au ?_)
      rw [e1]
     ·by_cases h5:k=5
      ·subst h5;refine gE Tryz.func82 Tryz.ntmps82 Tryz.results82 ?_
       (refine au ?_;intro K hK K hK K hK)
       refine aa.one C2 ?_
       ((iterate 3 revert K);refine au ?_)
       rw [e1]
      ·have f4:(k==4)=false:=beq_false_of_ne h4;have f6:(k==6)=false:=beq_false_of_ne h6;have f3:(k==3)=false:=beq_false_of_ne h3;have f2:(k==2)=false:=beq_false_of_ne h2;have f5:(k==5)=false:=beq_false_of_ne h5;simp only [if_neg h4,if_neg h6,if_neg h3,if_neg h2,if_neg h5];refine gE Tryz.func82 Tryz.ntmps82 Tryz.results82 ?_;exact Sh f4 f6 f3 f2 f5
def dy (x:Ex):Bool:=aC x&&aH x
theorem D8 {x:Ex} (h:aC x=true):x.lens 1000000:=fun y hy=>by
 simp only [aC,XK,decide_eq_true_eq] at h;have h1:=fW x y hy;have h2:=j8 y;omega
theorem Ew (x:Ex) (h:x.ok):aq Tryz.prog 53 [.agg (aM x)] (.v (.bool (dy x))):=by
 have R:=wW x h
 rcases YF (aC x) with hr|hr
 ·have E:=MQ x (D8 hr);rw [hr] at R;rw [show dy x=aH x by rw [dy,hr];rfl];simp only [aA] at R E ⊢;refine gE Tryz.func53 Tryz.ntmps53 Tryz.results53 ?_
  (refine bq ?_;intro K hK K hK)
  refine aa.one R ?_
  (revert K;revert K;refine bq ?_;intro K hK K hK)
  refine aa.one E ?_
  (revert K;revert K;exact pS)
 ·rw [hr] at R;rw [show dy x=false by rw [dy,hr];rfl];simp only [aA] at R ⊢;refine gE Tryz.func53 Tryz.ntmps53 Tryz.results53 ?_
  (refine bq ?_;intro K hK K hK)
  refine aa.one R ?_
  (revert K;revert K;exact Pa)
theorem Hk (x:Ex) (h:(aj x).all Ex.part=true) (hn:(aj x).length<=900):Fit x∧Ct x:=by
 induction x using Ex.ind with
 | h k s l ih=>
  have hp:bp k s l.length=true:=X7.1 h (.mk k s l) (by rw [aj];exact XY)
  have hm: ∀x,x∈l->x∈aj (.mk k s l):=fun x hx=>by
   rw [aj,bo];exact XW _ (YD.2 ⟨x,hx,by obtain ⟨k',s',l'⟩:=x;rw [aj];exact XY⟩)
  have H:=fun x (hx:x∈l)=>ih x hx (X7.2 fun y hy=>X7.1 h y (by rw [aj,bo];exact XW _ (YD.2 ⟨x,hx,hy⟩))) (by
   have h1:=fW (.mk k s l) x (hm x hx)
   omega)
  have hl:l.length<=900:=by have:=j8 (.mk k s l);simp only [Ex.kids] at this;omega
  unfold bp at hp
  by_cases h1:k=1
  ·subst h1;simp only [BEq.rfl,if_true,XK,decide_eq_true_eq] at hp;have hl0:l=[]:=List.eq_nil_of_length_eq_zero hp.1;subst hl0;exact ⟨.lab s, .lab s⟩
  ·rw [if_neg (by simpa using h1)] at hp
   by_cases h2:k=2∨k=3
   ·rw [if_pos (by simpa using h2)] at hp;simp only [XK,decide_eq_true_eq] at hp;exact ⟨.many k s l h2 hp.1 (fun x hx=>(H x hx).1), .many k s l h2 hl (fun x hx=>(H x hx).2)⟩
   ·rw [if_neg (by simpa using h2)] at hp
    by_cases h3:k=4∨k=5∨k=6
    ·rw [if_pos (by simpa [or_assoc] using h3)] at hp;simp only [XK,decide_eq_true_eq] at hp
     obtain ⟨x,rfl⟩: ∃x,l=[x]:=by
      match l,hp.1 with
      | [x],_=>exact ⟨x,rfl⟩
     exact ⟨.one k s x h3 (H x (by simp)).1, .one k s x h3 (H x (by simp)).2⟩
    ·rw [if_neg (by simpa [or_assoc] using h3)] at hp;cases hp
theorem dN {x:Ex} (h:aC x=true):Fit x∧Ct x:=by
 simp only [aC,XK,decide_eq_true_eq] at h;exact Hk x h.2 (by omega)
noncomputable def j6 (x:Ex) (w:List ByteArray):Bool:=aC x && @decide (Lg x w) (Classical.propDecidable _)
theorem iC {x:Ex} {w:List ByteArray}:j6 x w=true↔aC x=true∧Lg x w:=by simp [j6]
theorem nw (n:Int):IntKind.u32.wrap n=n % 4294967296:=by simp [IntKind.wrap,IntKind.signed,IntKind.bits]
theorem Ej (m:BitVec 32):IntKind.u32.wrap (m.toNat:Int)=m.toNat:=by
 rw [nw];have:=m.isLt;omega
theorem jC (m:BitVec 32):BitVec.ofInt 32 (m.toNat:Int)=m:=by
 simp
theorem Fc (m:BitVec 32):IntKind.u32.wrap ((m.toNat:Int) - 1)=(m - 1#32).toNat:=by
 rw [nw,BitVec.toNat_sub];have:=m.isLt;simp;omega
theorem NF (m:BitVec 32):IntKind.u32.wrap (0 - (m.toNat:Int))=(-m).toNat:=by
 rw [nw,BitVec.toNat_neg];have:=m.isLt;omega
theorem ND (m:BitVec 32):IntKind.u32.wrap ((m.toNat:Int) * 125613361)=(m * 125613361#32).toNat:=by
 rw [nw,BitVec.toNat_mul];simp
theorem NJ (m:BitVec 32):(m.toNat:Int).fdiv (2 ^ min 27 32)=(m >>> 27).toNat:=by
 show (m.toNat:Int).fdiv (2 ^ 27)=_;rw [BitVec.toNat_ushiftRight,Nat.shiftRight_eq_div_pow];simp [Int.fdiv_eq_ediv_of_nonneg]
theorem NI (p:Nat):IntKind.u32.wrap (1 * 2 ^ p)=(1#32 <<< p).toNat:=by
 rw [nw,BitVec.toNat_shiftLeft,Nat.shiftLeft_eq];simp
theorem NH (m:BitVec 32):decide ((0:Int)<(m.toNat:Int))=(m !=0#32):=by
 by_cases h:m=0#32
 ·subst h;simp
 ·have e:m.toNat≠0:=fun e=>h (YG (by simpa using e));rw [bne_iff_ne.2 h];exact decide_eq_true (by omega)
theorem Km (m:BitVec 32):((m.toNat:Int)==0)=(m==0#32):=by
 by_cases h:m=0#32
 ·subst h;simp
 ·have e:m.toNat≠0:=fun e=>h (YG (by simpa using e));rw [beq_eq_false_iff_ne.2 h];exact beq_eq_false_iff_ne.2 (by omega)
theorem y4 (m n:BitVec 32):JO .u32 m.toNat n.toNat=(m &&& n).toNat:=by
 rw [JO];show IntKind.u32.wrap ((BitVec.ofInt 32 _ &&& BitVec.ofInt 32 _).toNat:Int)=_;rw [jC,jC,Ej]
theorem lJ (m n:BitVec 32):TH .u32 m.toNat n.toNat=(m ||| n).toNat:=by
 rw [TH];show IntKind.u32.wrap ((BitVec.ofInt 32 _ ||| BitVec.ofInt 32 _).toNat:Int)=_;rw [jC,jC,Ej]
theorem NG (m n:BitVec 32):sJ .u32 m.toNat n.toNat=(m &&& ~~~ n).toNat:=by
 rw [sJ];show IntKind.u32.wrap ((BitVec.ofInt 32 _ &&& ~~~ BitVec.ofInt 32 _).toNat:Int)=_;rw [jC,jC,Ej]
def ar (m:BitVec 32):List Nat:=(List.range 32).filter m.getLsbD
theorem ba {m:BitVec 32} {p:Nat}:p∈ar m↔m.getLsbD p=true:=by
 simp only [ar,List.mem_filter,List.mem_range];exact ⟨fun h=>h.2,fun h=>⟨YH h,h⟩⟩
theorem jH (m:BitVec 32):(ar m).Pairwise (· < ·):=List.pairwise_lt_range.filter _
theorem Gi (m:BitVec 32):(ar m).length<=32:=by
 have:=List.length_filter_le m.getLsbD (List.range 32)
 simpa [ar] using this
theorem lv:ar 0#32=[]:=by simp [ar]
theorem qP {m:BitVec 32} (h:ar m=[]):m=0#32:=by
 refine YI fun i hi=> ?_
 cases hb:m.getLsbD i with
 | false=>simp
 | true=>have:=ba.2 hb;rw [h] at this;cases this
theorem pX {m:BitVec 32} {p:Nat} {r:List Nat} (h:ar m=p :: r):m.getLsbD p=true∧p<32∧(∀j,j<p->m.getLsbD j=false)∧ ∀j,j∈r↔(m.getLsbD j=true∧p<j):=by
 have hm:m.getLsbD p=true:=ba.1 (by rw [h];simp);have hr:=jH m;rw [h,List.pairwise_cons] at hr
 refine ⟨hm,YH hm,fun j hj=> ?_,fun j=>⟨fun hj=>⟨ba.1 (by rw [h];exact XW _ hj),hr.1 j hj⟩,fun hj=> ?_⟩⟩
 ·cases hb:m.getLsbD j with
  | false=>rfl
  | true=>
   have:=ba.2 hb
   rw [h,Yj] at this
   rcases this with rfl|hh
   ·omega
   ·have:=hr.1 j hh;omega
 ·have:=ba.2 hj.1
  rw [h,Yj] at this
  rcases this with rfl|hh
  ·omega
  ·exact hh
theorem Nv {m:BitVec 32} {p:Nat} {r:List Nat} (h:ar m=p :: r):m &&& -m=1#32 <<< p:=by
 obtain ⟨h1,h2,h3,h4⟩:=pX h;refine YI fun i hi=> ?_;rw [YJ,YK,BitVec.getLsbD_shiftLeft,BitVec.getLsbD_one]
 rcases Nat.lt_trichotomy i p with q|q|q
 ·simp [h3 i q,q]
 ·subst q
  have: ¬ ∃j,j<i∧m.getLsbD j=true:=fun ⟨j,a,b⟩=>by rw [h3 j a] at b;cases b
  rw [h1,decide_eq_false this];simp [hi]
 ·have: ∃j,j<i∧m.getLsbD j=true:=⟨p,q,h1⟩
  have e:i - p≠0:=by omega
  simp [this,hi,e]
theorem Ke {m:BitVec 32} {p:Nat} {r:List Nat} (h:ar m=p :: r):ar (m &&& (m - 1#32))=r:=by
 obtain ⟨h1,h2,h3,h4⟩:=pX h;have hr:=jH m;rw [h,List.pairwise_cons] at hr
 have key: ∀j,(m &&& (m - 1#32)).getLsbD j=true↔j∈r:=fun j=>by
  rw [h4, <- BitVec.not_neg,YJ,BitVec.getLsbD_not,YK]
  rcases Nat.lt_or_ge p j with q|q
  ·have: ∃k,k<j∧m.getLsbD k=true:=⟨p,q,h1⟩
   by_cases hj:m.getLsbD j=true
   ·have:=YH hj
    simp_all
   ·simp_all
  ·by_cases hj:m.getLsbD j=true
   ·have e:j=p:=by
     rcases Nat.lt_or_ge j p with a|a
     ·rw [h3 j a] at hj;cases hj
     ·omega
    subst e
    have: ¬ ∃k,k<j∧m.getLsbD k=true:=fun ⟨k,a,b⟩=>by rw [h3 k a] at b;cases b
    rw [h1,decide_eq_false this];simp [h2]
   ·simp_all
 exact qg (jH _) hr.2 (fun j=>ba.trans (key j))
def aQ (m:BitVec 32):AV:= .v (.int .u32 m.toNat)
def BW:List Int:=[0,1,28,2,29,14,24,3,30,22,20,15,25,17,4,8,31,27,13,23,21,19,16,7,26,12,18,6,11,5,10,9]
theorem QQ: ∀p:Nat,p<32->BW[((1#32 <<< p * 125613361#32) >>> 27).toNat]? = some (p:Int):=by decide
theorem PX (s:AS):s.ev (.global 0) = .vp (BW.map fun i=> .v (.int .u8 i)):=rfl
theorem MM {l:List Int} {f:Int->AV} {n:Nat} {x:Int} (e:l[n]? = some x): ∃r,(l.map f).drop n=f x :: r:=by
 obtain ⟨h1,h2⟩:=WT.1 e;exact ⟨_,by rw [X1 (by simpa using h1),List.getElem_map,h2]⟩
theorem Lp {p:Nat} (hp:p<32): ∃n r,((1#32 <<< p * 125613361#32) >>> 27).toNat=n∧n<32∧(BW.map fun i=>AV.v (.int .u8 i)).drop n = .v (.int .u8 p) :: r:=by
 have e:=QQ p hp;generalize ((1#32 <<< p * 125613361#32) >>> 27).toNat=n at *;obtain ⟨r,h⟩:=MM (f:=fun i=>AV.v (.int .u8 i)) e;exact ⟨n,r,rfl,(WT.1 e).1,h⟩
theorem QV {m:BitVec 32} {p:Nat} {r:List Nat} (h:ar m=p :: r): ∃(M N1 N2 N3:Int) (n:Nat) (r':List AV),(m.toNat:Int)=M∧(M==0)=false∧IntKind.u32.wrap (0 - M)=N1∧JO .u32 M N1=N2∧IntKind.u32.wrap (N2 * 125613361)=N3 ∧
  N3.fdiv (2 ^ min 27 32)=n∧n<32∧(BW.map fun i=>AV.v (.int .u8 i)).drop (n * 1) = .v (.int .u8 p) :: r':=by
 have hp:=(pX h).2.1
 have hm:m≠0#32:=fun e=>by rw [e,lv] at h;cases h
 obtain ⟨n,r',eN,hn,eI⟩:=Lp hp;refine ⟨_,_,_,_,n,r',rfl,by rw [Km];exact beq_eq_false_iff_ne.2 hm,rfl,rfl,rfl, ?_,hn,by rw [Nat.mul_one];exact eI⟩;rw [NF,y4,Nv h,ND,NJ,eN]
theorem Vj {m:BitVec 32} {p:Nat} {r:List Nat} (h:ar m=p :: r):aq Tryz.prog 139 [aQ m] (.v (.int .i64 p)):=by
 have hp:=(pX h).2.1;obtain ⟨M,N1,N2,N3,n,r',e0,z1,e1,e2,e3,e4,hn,eI⟩:=QV h;simp only [aQ,e0];refine gE Tryz.func139 Tryz.ntmps139 Tryz.results139 ?_
 repeat (first|(with_reducible first|refine aw.up ?_|refine fun (K:AK) hK=> ?_|(refine hK _ ?_;clear hK K))|simp only [go_sem,z1,e1,e2,e3,e4,PX,eI]|with_reducible refine wA ?_|clear hK K)
 have eW:IntKind.i64.wrap (p:Int)=p:=bH (by omega) (by omega);exact E5 eW
def oH (m:BitVec 32):ab:=⟨96,1,false,[[aQ m]]⟩
theorem Gp (p:Nat) (l:List Nat):aJ (p :: l)=[.v (.int .i64 p)] :: aJ l:=rfl
theorem Ms (m:BitVec 32):tg Tryz.prog 138 [.ptr 0 0 1 0 0] [some (oH m)] (aJ (ar m)):=by
 simp only [oH,aQ]
 (refine tg.enter Tryz.func138 rfl (by kernel_rfl) (by kernel_rfl) rfl (fun l=> ?_);simp only [Tryz.ntmps138,Tryz.results138,List.length_cons,List.length_nil,Nat.reduceAdd,Nat.reduceSub,List.replicate_succ,List.replicate_zero,List.cons_append,List.nil_append])
 refine bq ?_
 refine wP (ι:=BitVec 32) 3 (fun i=>[]) (fun i=>[some (oH i)]) (fun i=> .run l (aJ (ar i))) (fun i=>(ar i).length) (fun _=>True) m trivial ?_ ?_
 ·simp only [oH,aQ];exact aR ai
 ·rintro i hi K hK;simp only [oH,aQ]
  repeat (first|(with_reducible first|refine aw.up ?_|refine fun (K:AK) hK=> ?_|(refine hK _ ?_;clear hK K))|simp only [go_sem,NH]|clear hK K)
  refine bD.part (fun h=> ?_) (fun h=> ?_)
  ·cases hb:ar i with
   | nil=>rw [qP hb] at h;simp at h
   | cons p r=>
    have C:=Vj hb;have eY:=Gp p r;have hR:=Ke hb;simp only [aQ] at C
    (revert K;revert K;refine bq ?_;iterate 4 intro K hK)
    refine aa.one C ?_
    repeat' (first|(with_reducible first|refine aw.up ?_|refine fun (K:AK) hK=> ?_|(refine hK _ ?_;clear hK K))|simp only [go_sem,eY,Fc,y4]|clear hK K|(with_reducible refine aa.one (by assumption) ?_)|(with_reducible refine aE.one (by assumption) ?_)|(refine bD.part (fun hb=> ?_) (fun hb=> ?_)<;>simp only [hb,go_sem,eY,Fc,y4])|(refine bD.part (fun hb=> ?_) (fun hb=> ?_))|(with_reducible refine mw.mk ?_ ?_))
    ·refine az.mk (i &&& (i - 1#32)) trivial ?_ ?_
     ·rw [hR,hb];simp
     ·rw [hR];simp only [oH,aQ];exact aR ai
    ·exact .inr trivial
  ·have e1:i=0#32:=by simpa using h
   subst e1;simp only [lv,aJ,List.map_nil]
   (revert K;revert K;refine bq ?_)
   exact .inl trivial
theorem qq (m:BitVec 32):da Tryz.prog 115 [aQ m] [] (.fn 138 [] [.ptr 0 0 1 0 0]) [some (oH m)]:=by
 simp only [oH,aQ];refine gF Tryz.func115 Tryz.ntmps115 Tryz.results115 ?_;refine au ?_
 (refine ⟨?_, ?_, ?_⟩<;>simp only [dv,ku,AV.v.injEq,Value.int.injEq,Value.bool.injEq,Value.string.injEq,AV.vec.injEq,AV.ptr.injEq,true_or,or_true,false_or,or_false,ab.mk.injEq,forall_eq_apply_imp_iff,forall_eq,forall_eq',go_sem])
open Go.ChangeShapes Go.WideShapes Go.ChangeAt Go.RowKit
theorem Kf {P:Program} {w:World} {n:String} {d:DataW Unit}: ∀(laid:List (String×DataW Unit)) (ps:List MemPlace),DataW.LaidVars P w laid ps->(n,d)∈laid ->
  ∃g t cs fuel p,P.globalNamed n=some g∧(P.globals[g]?).map (·.type)=some t∧w.var? P n=some cs∧DataW.trod (fun _=>()) P w 0 (fun _=>true) false fuel t cs.toList=some (d,p)∧ ∀m∈MemPlace.row ⟨g,0,none⟩ cs.size,m∈ps
 | [],ps,h,hm=>by cases hm
 | (n',d') :: r,ps,h,hm=>by
  obtain ⟨g,t,cs,fuel,p,q,h1,h2,h3,h4,h5,rfl⟩:=h
  rcases Yj.1 hm with e|hm
  ·cases e;exact ⟨g,t,cs,fuel,p,h1,h2,h3,h4,fun m hm=>YL _ (YL _ hm)⟩
  ·obtain ⟨g',t',cs',fuel',p',k1,k2,k3,k4,k5⟩:=Kf r q h5 hm;exact ⟨g',t',cs',fuel',p',k1,k2,k3,k4,fun m hm=>List.mem_append_right _ (k5 m hm)⟩
theorem BX {P:Program} {w:World} {n:String} {laid:List (String×DataW Unit)} {d:DataW Unit} {g:Nat} {T E:TypeId} {k:IntKind} {N:Nat} (vals:List Int) (hm:(n,d)∈laid) (hd:d = .agg (vals.map fun i=> .lit (.int k i))) (hG:P.globalNamed n=some g) (hT:(P.globals[g]?).map (·.type)=some T) (uT:P.underlying T=some (.array N E)) (uE:P.underlying E=some (.int k))
  (cE:P.cellsOf E=1) (cT:P.cellsOf T=N) (hN:0<N) (hv:vals.length=N) (h:laidMet P laid w): ∃t,w.heap[g]? = some (.cells (vals.map (fun i=>Value.int k i)).toArray t (0,0)):=by
 obtain ⟨ps,hl,hnd,hc⟩:=h;obtain ⟨g0,t0,cs0,f0,p0,hg0,ht0,hv0,hd0,hps⟩:=Kf _ _ hl hm;obtain rfl:=WL (hG.symm.trans hg0);obtain rfl:=WL (hT.symm.trans ht0);rw [hd] at hd0;obtain ⟨xs,m,rfl,hx,hlen,hn,hel⟩:=DataW.trod_array uT hd0
 have hxs:xs.map (·.1)=vals.map fun i=>(DataW.lit (.int k i):DataW Unit):=by
  simp only [Prod.mk.injEq,DataW.agg.injEq] at hx;exact hx.1.symm
 rw [cT] at hlen;rw [cE] at hel
 have hcs:cs0.toList=vals.map (fun i=>Value.int k i):=by
  refine List.ext_getElem (by rw [hlen,List.length_map,hv]) fun i h1 h2=> ?_
  have hi:i<N:=by omega
  have e1:=hel i hi;rw [Nat.mul_one,X1 h1,List.take_succ_cons,List.take_zero] at e1
  have hix:i<xs.length:=by omega
  rw [Xb hix] at e1;obtain ⟨n,k1,k2,_⟩:=DataW.trod_int uE e1
  have e2:(xs.map (·.1))[i]? = (vals.map fun i=>(DataW.lit (.int k i):DataW Unit))[i]? :=by rw [hxs]
  have hit:i<vals.length:=by omega
  rw [List.getElem?_map,List.getElem?_map,Xb hix,Xb hit,k2] at e2;simp only [Option.map_some,W7,DataW.lit.injEq,Lit.int.injEq,true_and] at e2;rw [List.getElem_map, <- e2];exact (List.cons.inj k1).1
 obtain ⟨⟨c,t,hb⟩,_⟩:=hc g 0 (hps _ (by
  rw [MemPlace.row,List.mem_map];refine ⟨0, ?_,rfl⟩
  rw [List.mem_range, <- Array.length_toList,hlen];exact hN))
 simp only [World.var?,hG,Option.bind_some,hb,W7] at hv0;refine ⟨t, ?_⟩;rw [hb,hv0, <- hcs,Array.toArray_toList]
def Tl:List Int:=[1,10,100,1000,10000,100000,1000000,10000000,100000000,1000000000,10000000000,100000000000,1000000000000,10000000000000,100000000000000,1000000000000000,10000000000000000,100000000000000000,1000000000000000000,10000000000000000000]
theorem GF {w:World} (h:laidMetH Tryz.prog [("math/bits.deBruijn32tab", Rows.laid_math_bits_deBruijn32tab),("math/bits.deBruijn64tab", Rows.laid_math_bits_deBruijn64tab),("internal/strconv.uint64pow10", Rows.laid_internal_strconv_uint64pow10)] w):e8 (fun _=>True) (fun _ _=>Go.undef) [] w:=by
 rw [MakeChecks.laidMetH_plain _ _ _ (by kernel_rfl)] at h
 have h1:=BX (P:=Tryz.prog) (g:=0) (T:=203) (E:=5) (k:= .u8) (N:=32) (n:= "math/bits.deBruijn32tab") BW (XY) rfl (by kernel_rfl) (by kernel_rfl) (by kernel_rfl) (by kernel_rfl) (by kernel_rfl) (by kernel_rfl) (by decide) rfl h
 have h2:=BX (P:=Tryz.prog) (g:=1) (T:=217) (E:=178) (k:= .u64) (N:=20) (n:= "internal/strconv.uint64pow10") Tl (XW _ (XW _ XY)) rfl (by kernel_rfl) (by kernel_rfl) (by kernel_rfl) (by kernel_rfl) (by kernel_rfl) (by kernel_rfl) (by decide) rfl h
 intro g T cs hg;unfold xe at hg;refine ⟨?_,uY _ _,trivial⟩
 split at hg
 ·rename_i e;obtain ⟨-, rfl⟩:=Prod.mk.inj (WL hg);subst e;exact h1
 ·split at hg
  ·rename_i e;obtain ⟨-, rfl⟩:=Prod.mk.inj (WL hg);subst e;exact h2
  ·cases hg
end
section
theorem jd {s t:ByteArray}:cH s t=true↔s=t:=toList_inj
theorem fB {α:Type} {p:List α->Prop} (h0:p []) (h1: ∀l a,p l->p (l++[a])) (l:List α):p l:=by
 rw [<-List.reverse_reverse l]
 induction l.reverse with
 | nil=>exact h0
 | cons a l ih=>rw [List.reverse_cons];exact h1 _ _ ih
theorem JR (n m:Nat) (f:Nat->Nat) (h1: ∀a,a<n->f a<m) (h2: ∀a b,a<n->b<n->f a=f b->a=b):n<=m:=by
 have hn:((List.range n).map f).Nodup:=by
  rw [List.Nodup,YM];intro i j hi hj hij;simp only [XQ,List.length_range] at hi hj;simp only [YN,List.getElem_range];intro e;have:=h2 i j hi hj e;omega
 have hs:((List.range n).map f) ⊆ List.range m:=fun x hx=>by
  obtain ⟨a,ha,rfl⟩:=List.mem_map.1 hx;exact X8.2 (h1 a (X8.1 ha))
 have:=hn.length_le_of_subset hs
 simpa using this
theorem Al (u:Nat): ∀c∈Lib.decDigits u,48<=c.toNat∧c.toNat<=57:=by
 induction u using Nat.strongRecOn with
 | _ u ih=>
  intro c hc;rw [Lib.decDigits] at hc
  split at hc
  ·simp only [YO] at hc;subst hc;simp;omega
  ·rw [YP] at hc
   rcases hc with hc|hc
   ·exact ih (u / 10) (by omega) c hc
   ·simp only [YO] at hc;subst hc;simp;omega
theorem tN (u:Nat) (h:u<1000):(Lib.decDigits u).length<=3:=by
 rw [Lib.decDigits];split
 ·simp
 ·rw [Lib.decDigits];split
  ·simp
  ·rw [Lib.decDigits,dif_pos (by omega)];simp
def Fx (l:List UInt8):Nat:=l.foldl (fun a c=>a * 10+(c.toNat - 48)) 0
theorem vK (u:Nat):Fx (Lib.decDigits u)=u:=by
 induction u using Nat.strongRecOn with
 | _ u ih=>
  rw [Lib.decDigits];split
  ·rename_i h;simp [Fx];omega
  ·rename_i h
   have:=ih (u / 10) (by omega)
   rw [Fx,YQ, <- Fx,this];simp;omega
theorem Ji {u v:Nat} (h:Lib.decDigits u=Lib.decDigits v):u=v:=by rw [<-vK u, <- vK v,h]
theorem pJ {u v:Nat} {r s:List UInt8} (h:Lib.decDigits u++r=Lib.decDigits v++s) (hr:r=[]∨r.head? = some 32) (hs:s=[]∨s.head? = some 32):u=v∧r=s:=by
 have key: ∀(a b r s:List UInt8),a++r=b++s->(∀c∈a,48<=c.toNat∧c.toNat<=57)->(∀c∈b,48<=c.toNat∧c.toNat<=57)->(r=[]∨r.head? = some 32)->(s=[]∨s.head? = some 32)->a=b∧r=s:=by
  intro a
  induction a with
  | nil=>
   intro b r s h ha hb hr hs
   cases b with
   | nil=>exact ⟨rfl,h⟩
   | cons c b=>
    have:=hb c List.mem_cons_self
    rw [YR] at h;subst h
    rcases hr with hr|hr
    ·simp at hr
    ·simp at hr;subst hr;simp at this
  | cons d a ih=>
   intro b r s h ha hb hr hs
   cases b with
   | nil=>
    have:=ha d List.mem_cons_self
    rw [YR] at h;subst h
    rcases hs with hs|hs
    ·simp at hs
    ·simp at hs;subst hs;simp at this
   | cons c b=>
    simp only [List.cons_append,YS] at h;obtain ⟨rfl,h⟩:=h;obtain ⟨h1,h2⟩:=ih b r s h (fun c hc=>ha c (XW _ hc)) (fun c hc=>hb c (XW _ hc)) hr hs;exact ⟨by rw [h1],h2⟩
 obtain ⟨h1,h2⟩:=key _ _ _ _ h (Al u) (Al v) hr hs;exact ⟨Ji h1,h2⟩
def lE (l:List Nat):List UInt8:=l.flatMap (fun n=>Lib.decDigits n++[32])
def gx (l:List Nat):ByteArray:=⟨(lE l).toArray⟩
theorem AW: ∀ {l m:List Nat},lE l=lE m->l=m
 | [],[],_=>rfl
 | [],b :: m,h=>by simp [lE] at h
 | a :: l,[],h=>by simp [lE] at h
 | a :: l,b :: m,h=>by
  simp only [lE,List.flatMap_cons,Xp] at h;obtain ⟨h1,h2⟩:=pJ h (.inr rfl) (.inr rfl);simp only [List.cons_append,YR,YS,true_and] at h2;rw [h1,AW (l:=l) (m:=m) h2]
theorem AU {l m:List Nat} (h:gx l=gx m):l=m:=by
 have:(gx l).data.toList=(gx m).data.toList:=by rw [h]
 exact AW (by simpa [gx] using this)
def pos (l:List ByteArray) (s:ByteArray):Option Nat:=l.findIdx? (fun x=>cH s x)
theorem Bw {l:List ByteArray} {s:ByteArray}:pos l s=none↔s∉l:=by
 rw [pos,Yi]
 constructor
 ·intro h hm;have:=h s hm;rw [jd.2 rfl] at this;cases this
 ·intro h x hx
  cases hh:cH s x
  ·rfl
  ·rw [jd] at hh;subst hh;exact absurd hx h
theorem u7 {l:List ByteArray} {s:ByteArray} {k:Nat} (h:pos l s=some k): ∃hk:k<l.length,l[k]=s:=by
 rw [pos,Yh] at h;obtain ⟨h1,h2,_⟩:=h;exact ⟨h1,(jd.1 h2).symm⟩
theorem QD {l:List ByteArray} {s:ByteArray} {k:Nat} (h:pos l s=some k):k<l.length:=(u7 h).1
abbrev aX:=List (ByteArray×Nat)
structure nA where
 all:List (List Nat)
 rows:List aX
 ends:List Bool
section
variable (stp:List Nat->ByteArray->List Nat) (em:Bool) (la:List Nat)
def Ck (cur:List Nat) (st:List (List Nat)×aX) (lab:ByteArray):List (List Nat)×aX:=
 if stp cur lab=[] then st else match pos (st.1.map gx) (gx (stp cur lab)) with
 | some k=>(st.1,st.2++[(lab,k)])
 | none=>(st.1++[stp cur lab],st.2++[(lab,st.1.length)])
def dD (cur:List Nat) (all:List (List Nat)) (labs:List ByteArray):List (List Nat)×aX:=labs.foldl (Ck stp cur) (all,[])
theorem jE (cur:List Nat) (all:List (List Nat)) (labs:List ByteArray) (l:ByteArray):dD stp cur all (labs++[l])=Ck stp cur (dD stp cur all labs) l:=by rw [dD,YQ];rfl
def bC (st:nA):List Nat:=st.all.getD st.rows.length []
def qm (st:nA):Bool:=(st.rows.length==0&&em)||(bC st).any (fun p=>la.contains p)
def cj (labs:List ByteArray) (st:nA):nA:=⟨(dD stp (bC st) st.all labs).1,st.rows++[(dD stp (bC st) st.all labs).2],st.ends++[qm em la st]⟩
def mZ (labs:List ByteArray):Nat->nA->Option nA
 | 0,st=>some st
 | f+1,st=>if st.rows.length<st.all.length then (if 256<(cj stp em la labs st).all.length then none else mZ labs f (cj stp em la labs st)) else some st
def s0:nA:=⟨[[0]],[],[]⟩
def ox (labs:List ByteArray):Option nA:=mZ stp em la labs 257 s0
structure Cx (labs:List ByteArray) (st:nA):Prop where
 le:st.rows.length<=st.all.length
 max:st.all.length<=256
 nd:(st.all.map gx).Nodup
 ends:st.ends.length=st.rows.length
 row: ∀r∈st.rows,(r.map Prod.fst).Sublist labs∧ ∀p∈r,p.2<st.all.length
theorem QL {cur:List Nat} {a:List (List Nat)×aX} {lab:ByteArray} (hn:(a.1.map gx).Nodup) (hr: ∀p∈a.2,p.2<a.1.length) :
  ((Ck stp cur a lab).1.map gx).Nodup∧(∀p∈(Ck stp cur a lab).2,p.2<(Ck stp cur a lab).1.length)∧a.1.length<=(Ck stp cur a lab).1.length∧(Ck stp cur a lab).1.length<=a.1.length+1 ∧
  ((Ck stp cur a lab).2=a.2∨ ∃k,(Ck stp cur a lab).2=a.2++[(lab,k)])∧ ∃t,(Ck stp cur a lab).1=a.1++t:=by
 unfold Ck
 split
 ·exact ⟨hn,hr,WN _,Nat.le_succ _, .inl rfl,[],by simp⟩
 ·split
  ·rename_i k hk
   have:=QD hk
   rw [XQ] at this;refine ⟨hn,fun p hp=> ?_,WN _,Nat.le_succ _, .inr ⟨_,rfl⟩,[],by simp⟩;simp only [YP,YO] at hp
   rcases hp with hp|rfl
   ·exact hr p hp
   ·exact this
  ·rename_i hk
   refine ⟨?_,fun p hp=> ?_,by simp,by simp, .inr ⟨_,rfl⟩,_,rfl⟩
   ·rw [YT,List.map_singleton,YU];refine ⟨hn,by simp,fun x hx y hy=> ?_⟩;simp only [YO] at hy;subst hy;rintro rfl;exact Bw.1 hk hx
   ·simp only [YP,YO,WX,YV] at hp ⊢
    rcases hp with hp|rfl
    ·have:=hr p hp;omega
    ·simp
theorem s8 {cur:List Nat} {all:List (List Nat)} (hn:(all.map gx).Nodup): ∀(labs:List ByteArray),
  ((dD stp cur all labs).1.map gx).Nodup∧(∀p∈(dD stp cur all labs).2,p.2<(dD stp cur all labs).1.length)∧all.length<=(dD stp cur all labs).1.length∧(dD stp cur all labs).1.length<=all.length+labs.length ∧
  ((dD stp cur all labs).2.map Prod.fst).Sublist labs∧ ∃t,(dD stp cur all labs).1=all++t:=by
 refine fB ⟨hn,by simp [dD],WN _,WN _,by simp [dD],[],by simp [dD]⟩ ?_
 ·rintro labs l ⟨h1,h2,h3,h4,h5,t,h6⟩;obtain ⟨k1,k2,k3,k4,k5,t2,k6⟩:=QL stp (cur:=cur) (lab:=l) h1 h2;rw [<-jE] at k1 k2 k3 k4 k5 k6;refine ⟨k1,k2,by omega,by simp;omega, ?_,t++t2,by rw [k6,h6,Xp]⟩
  rcases k5 with k5|⟨k,k5⟩
  ·rw [k5];exact h5.trans (List.sublist_append_left _ _)
  ·rw [k5,YT];exact h5.append (by simp)
theorem Oc (labs:List ByteArray):Cx labs s0:=⟨by simp [s0],by simp [s0],by simp [s0],rfl,by simp [s0]⟩
theorem qn {labs:List ByteArray} {st:nA} (h:Cx labs st) (h1:st.rows.length<st.all.length) (h2: ¬ 256<(cj stp em la labs st).all.length):Cx labs (cj stp em la labs st):=by
 obtain ⟨k1,k2,k3,k4,k5,t,k6⟩:=s8 stp (cur:=bC st) h.nd labs
 refine ⟨?_,by omega,k1, ?_,fun r hr=> ?_⟩
 ·simp only [cj,WX,YV];omega
 ·simp only [cj,WX,YV,h.ends]
 ·simp only [cj,YP,YO] at hr ⊢
  rcases hr with hr|rfl
  ·obtain ⟨q1,q2⟩:=h.row r hr;exact ⟨q1,fun p hp=>by have:=q2 p hp;omega⟩
  ·exact ⟨k5,k2⟩
theorem Fp {labs:List ByteArray}: ∀(f:Nat) {st st':nA},Cx labs st->257<=f+st.rows.length->mZ stp em la labs f st=some st'->Cx labs st'∧st'.rows.length=st'.all.length
 | 0,st,st',h,hf,e=>by
  simp only [mZ,Option.some.injEq] at e;subst e
  have:=h.le;have:=h.max;omega
 | f+1,st,st',h,hf,e=>by
  rw [mZ] at e
  split at e
  ·rename_i h1
   split at e
   ·cases e
   ·rename_i h2;exact Fp f (qn stp em la h h1 h2) (by simp only [cj,WX,YV];omega) e
  ·cases e;exact ⟨h,by have:=h.le;omega⟩
end
section
variable (rows:List aX)
def uZ (part:List Nat) (p:Nat) (row:aX):List UInt8:=Lib.decDigits p++row.flatMap (fun e=>32 :: (e.1.data.toList++32 :: Lib.decDigits (part.getD e.2 0)))
def b5 (part:List Nat) (p:Nat) (row:aX):ByteArray:=⟨(uZ part p row).toArray⟩
theorem Hh (part:List Nat) (p:Nat) (row:aX) (e:ByteArray×Nat):uZ part p (row++[e])=uZ part p row++32 :: (e.1.data.toList++32 :: Lib.decDigits (part.getD e.2 0)):=by simp [uZ]
def SL (part:List Nat) (st:List ByteArray×List Nat) (s:Nat):List ByteArray×List Nat:=
 match pos st.1 (b5 part (part.getD s 0) (rows.getD s [])) with
 | some k=>(st.1,st.2++[k])
 | none=>(st.1++[b5 part (part.getD s 0) (rows.getD s [])],st.2++[st.1.length])
def dB (part:List Nat) (n:Nat):List ByteArray×List Nat:=(List.range n).foldl (SL rows part) ([],[])
theorem rq (part:List Nat) (n:Nat):dB rows part (n+1)=SL rows part (dB rows part n) n:=by rw [dB,List.range_succ,YQ];rfl
def dT (part:List Nat):List Nat:=(dB rows part rows.length).2
def fu (part:List Nat):Nat:=(dB rows part rows.length).1.length
def oa:Nat->List Nat->Nat->List Nat
 | 0,part,_=>part
 | f+1,part,many=>if fu rows part=many then dT rows part else oa f (dT rows part) (fu rows part)
def p0 (ends:List Bool):List Nat:=ends.map (fun b=>if b then 1 else 0)
def bB (ends:List Bool):List Nat:=oa rows (rows.length+2) (p0 ends) 0
structure RN (part:List Nat) (n:Nat):Prop where
 len:(dB rows part n).2.length=n
 nd:(dB rows part n).1.Nodup
 le:(dB rows part n).1.length<=n
 at': ∀s,s<n-> ∃h:(dB rows part n).2.getD s 0<(dB rows part n).1.length,(dB rows part n).1[(dB rows part n).2.getD s 0]=b5 part (part.getD s 0) (rows.getD s [])
 on: ∀k,k<(dB rows part n).1.length-> ∃s,s<n∧(dB rows part n).2.getD s 0=k
theorem gD (part:List Nat): ∀n,RN rows part n
 | 0=>⟨rfl,by simp [dB],by simp [dB],fun s h=>by omega,fun k h=>by simp [dB] at h⟩
 | n+1=>by
  have ih:=gD part n;have e:=rq rows part n;unfold SL at e
  have hg: ∀(l:List Nat) (x s:Nat),l.length=n->s<n->(l++[x]).getD s 0=l.getD s 0:=fun l x s h1 h2=>by
   rw [XR,WU (by omega),XR]
  have hl: ∀(l:List Nat) (x:Nat),l.length=n->(l++[x]).getD n 0=x:=fun l x h1=>by
   rw [XR,Xr (by omega),h1];simp
  cases hp:pos (dB rows part n).1 (b5 part (part.getD n 0) (rows.getD n [])) with
  | some k=>
   rw [hp] at e;simp only at e;obtain ⟨hk,hk2⟩:=u7 hp
   refine ⟨by rw [e];simp [ih.len],by rw [e];exact ih.nd,by rw [e];have:=ih.le;simp only;omega,fun s hs=> ?_,fun j hj=> ?_⟩
   ·simp only [e]
    rcases WV s n with q|q
    ·simp only [hg _ _ s ih.len q];exact ih.at' s q
    ·obtain rfl:s=n:=by omega
     simp only [hl _ _ ih.len];exact ⟨hk,hk2⟩
   ·simp only [e] at hj ⊢;obtain ⟨s,q1,q2⟩:=ih.on j hj;exact ⟨s,by omega,by rw [hg _ _ s ih.len q1];exact q2⟩
  | none=>
   rw [hp] at e;simp only at e
   refine ⟨by rw [e];simp [ih.len], ?_,by rw [e];have:=ih.le;simp only [WX,YV];omega,fun s hs=> ?_,fun j hj=> ?_⟩
   ·rw [e];simp only;rw [YU];refine ⟨ih.nd,by simp,fun x hx y hy=> ?_⟩;simp only [YO] at hy;subst hy;rintro rfl;exact Bw.1 hp hx
   ·simp only [e]
    rcases WV s n with q|q
    ·obtain ⟨q1,q2⟩:=ih.at' s q;simp only [hg _ _ s ih.len q];exact ⟨by simp only [WX,YV];omega,by rw [List.getElem_append_left q1];exact q2⟩
    ·obtain rfl:s=n:=by omega
     simp only [hl _ _ ih.len];exact ⟨by simp,by rw [List.getElem_append_right (WN _)];simp⟩
   ·simp only [e,WX,YV] at hj ⊢
    rcases WV j (dB rows part n).1.length with q|q
    ·obtain ⟨s,q1,q2⟩:=ih.on j q;exact ⟨s,by omega,by rw [hg _ _ s ih.len q1];exact q2⟩
    ·exact ⟨n,by omega,by rw [hl _ _ ih.len];omega⟩
theorem u0 {part:List Nat} {p q:Nat} {r s:aX} (h:b5 part p r=b5 part q s):p=q:=by
 have e:uZ part p r=uZ part q s:=by
  have:(b5 part p r).data.toList=(b5 part q s).data.toList:=by rw [h]
  simpa [b5] using this
 have hh: ∀t:aX,(t.flatMap (fun e=>32 :: (e.1.data.toList++32 :: Lib.decDigits (part.getD e.2 0))))=[]∨(t.flatMap (fun e=>32 :: (e.1.data.toList++32 :: Lib.decDigits (part.getD e.2 0)))).head? = some 32:=fun t=>by
  cases t with
  | nil=>exact .inl rfl
  | cons a t=>exact .inr rfl
 exact (pJ e (hh r) (hh s)).1
def Ra (part:List Nat) (many:Nat):Prop:=part.length=rows.length∧ ∀k,k<many-> ∃s,s<rows.length∧part.getD s 0=k
theorem mV (part:List Nat):Ra rows (dT rows part) (fu rows part):=⟨(gD rows part _).len,(gD rows part _).on⟩
theorem mU (part:List Nat):fu rows part<=rows.length:=(gD rows part _).le
theorem lM {part:List Nat} {many:Nat} (h:Ra rows part many):many<=fu rows part:=by
 have ok:=gD rows part rows.length
 
 have hch: ∀k, ∃m,k<many->m<fu rows part∧ ∃s,s<rows.length∧part.getD s 0=k∧(dT rows part).getD s 0=m:=fun k=>by
  by_cases hk:k<many
  ·obtain ⟨s,h1,h2⟩:=h.2 k hk;obtain ⟨q1,_⟩:=ok.at' s h1;exact ⟨_,fun _=>⟨q1,s,h1,h2,rfl⟩⟩
  ·exact ⟨0,fun q=>absurd q hk⟩
 obtain ⟨f,hf⟩:=Classical.axiomOfChoice hch
 have inj: ∀a b,a<many->b<many->f a=f b->a=b:=fun a b ha hb e=>by
  obtain ⟨l1,s,k1,k2,k3⟩:=hf a ha;obtain ⟨l2,t,m1,m2,m3⟩:=hf b hb;obtain ⟨q1,q2⟩:=ok.at' s k1;obtain ⟨r1,r2⟩:=ok.at' t m1;have e1:(dB rows part rows.length).2.getD s 0=(dB rows part rows.length).2.getD t 0:=k3.trans (e.trans m3.symm)
  have:b5 part (part.getD s 0) (rows.getD s [])=b5 part (part.getD t 0) (rows.getD t []):=by rw [<-q2, <- r2];simp only [e1]
  rw [<-k2, <- m2];exact u0 this
 exact JR many (fu rows part) f (fun a ha=>(hf a ha).1) inj
end
structure x7 where
 order:List Nat
 rows:List aX
 ends:List Bool
section
variable (rows:List aX) (ends:List Bool) (part:List Nat)
def iW (order:List Nat) (x:Nat):Option Nat:=(order.map (fun s=>part.getD s 0)).findIdx? (fun y=>x==y)
theorem xG {order:List Nat} {x:Nat}:iW part order x=none↔x∉order.map (fun s=>part.getD s 0):=by
 rw [iW,Yi]
 constructor
 ·intro h hm;have:=h x hm;simp at this
 ·intro h y hy
  cases hh:x==y
  ·rfl
  ·rw [beq_iff_eq] at hh;subst hh;exact absurd hy h
theorem xH {order:List Nat} {x k:Nat} (h:iW part order x=some k): ∃hk:k<order.length,part.getD order[k] 0=x:=by
 rw [iW,Yh] at h;obtain ⟨h1,h2,_⟩:=h;rw [XQ] at h1;rw [YN,beq_iff_eq] at h2;exact ⟨h1,h2.symm⟩
def Fi (st:List Nat×aX) (e:ByteArray×Nat):List Nat×aX:=
 match iW part st.1 (part.getD e.2 0) with
 | some n=>(st.1,st.2++[(e.1,n)])
 | none=>(st.1++[e.2],st.2++[(e.1,st.1.length)])
def dR (order:List Nat) (row:aX):List Nat×aX:=row.foldl (Fi part) (order,[])
theorem kZ (order:List Nat) (row:aX) (e:ByteArray×Nat):dR part order (row++[e])=Fi part (dR part order row) e:=by rw [dR,YQ];rfl
def dC (st:x7):Nat:=st.order.getD st.rows.length 0
def eh (st:x7):x7:=⟨(dR part st.order (rows.getD (dC st) [])).1,st.rows++[(dR part st.order (rows.getD (dC st) [])).2],st.ends++[ends.getD (dC st) false]⟩
def mv:Nat->x7->x7
 | 0,st=>st
 | f+1,st=>if st.rows.length<st.order.length then mv f (eh rows ends part st) else st
def q0:x7:=⟨[0],[],[]⟩
def cA:x7:=mv rows ends part (rows.length+1) q0
structure FP (st:x7):Prop where
 le:st.rows.length<=st.order.length
 nd:(st.order.map (fun s=>part.getD s 0)).Nodup
 lt: ∀s∈st.order,s<rows.length
 ends:st.ends.length=st.rows.length
 row: ∀k,k<st.rows.length->(st.rows.getD k []).map Prod.fst=(rows.getD (st.order.getD k 0) []).map Prod.fst∧ ∀p∈st.rows.getD k [],p.2<st.order.length
theorem QE {n:Nat} {a:List Nat×aX} {e:ByteArray×Nat} (he:e.2<n) (hn:(a.1.map (fun s=>part.getD s 0)).Nodup) (hl: ∀s∈a.1,s<n) (hr: ∀p∈a.2,p.2<a.1.length) :
  ((Fi part a e).1.map (fun s=>part.getD s 0)).Nodup∧(∀s∈(Fi part a e).1,s<n)∧(∀p∈(Fi part a e).2,p.2<(Fi part a e).1.length)∧a.1.length<=(Fi part a e).1.length ∧
  (Fi part a e).2.map Prod.fst=a.2.map Prod.fst++[e.1]∧ ∃t,(Fi part a e).1=a.1++t:=by
 unfold Fi
 split
 ·rename_i k hk;obtain ⟨h1,_⟩:=xH part hk;refine ⟨hn,hl,fun p hp=> ?_,WN _,by simp,[],by simp⟩;simp only [YP,YO] at hp
  rcases hp with hp|rfl
  ·exact hr p hp
  ·exact h1
 ·rename_i hk
  refine ⟨?_,fun s hs=> ?_,fun p hp=> ?_,by simp,by simp,_,rfl⟩
  ·rw [YT,List.map_singleton,YU];refine ⟨hn,by simp,fun x hx y hy=> ?_⟩;simp only [YO] at hy;subst hy;rintro rfl;exact (xG part).1 hk hx
  ·simp only [YP,YO] at hs
   rcases hs with hs|rfl
   ·exact hl s hs
   ·exact he
  ·simp only [YP,YO,WX,YV] at hp ⊢
   rcases hp with hp|rfl
   ·have:=hr p hp;omega
   ·simp
theorem sY {n:Nat} {order:List Nat} (hn:(order.map (fun s=>part.getD s 0)).Nodup) (hl: ∀s∈order,s<n): ∀row:aX,(∀p∈row,p.2<n) ->
  ((dR part order row).1.map (fun s=>part.getD s 0)).Nodup∧(∀s∈(dR part order row).1,s<n)∧(∀p∈(dR part order row).2,p.2<(dR part order row).1.length)∧order.length<=(dR part order row).1.length ∧
  (dR part order row).2.map Prod.fst=row.map Prod.fst∧ ∃t,(dR part order row).1=order++t:=by
 refine fB (fun _=>⟨hn,hl,by simp [dR],WN _,by simp [dR],[],by simp [dR]⟩) ?_;intro row e ih hr;obtain ⟨h1,h2,h3,h4,h5,t,h6⟩:=ih (fun p hp=>hr p (List.mem_append_left _ hp));obtain ⟨k1,k2,k3,k4,k5,t2,k6⟩:=QE part (hr e (by simp)) h1 h2 h3;rw [<-kZ] at k1 k2 k3 k4 k5 k6;exact ⟨k1,k2,k3,by omega,by rw [k5,h5,YT];rfl,t++t2,by rw [k6,h6,Xp]⟩
theorem kY {n:Nat} {order:List Nat} (hn:(order.map (fun s=>part.getD s 0)).Nodup) (hl: ∀s∈order,s<n):order.length<=n:=by
 have h1:order.Nodup:=by
  rw [List.Nodup,YM] at hn ⊢;intro i j hi hj hij e
  have:=hn i j (by simpa using hi) (by simpa using hj) hij
  simp only [YN,e] at this;exact this rfl
 have:=h1.length_le_of_subset (l₂:=List.range n) (fun s hs=>X8.2 (hl s hs))
 simpa using this
theorem Fh (h:0<rows.length):FP rows part q0:=⟨by simp [q0],by simp [q0],by simpa [q0] using h,rfl,fun k hk=>by simp [q0] at hk⟩
theorem gv {α:Type} {l:List α} {a d:α} {i:Nat} (h:i<l.length):(l++[a]).getD i d=l.getD i d:=by
 rw [XR,WU h,XR]
theorem ep {α:Type} {l:List α} {a d:α}:(l++[a]).getD l.length d=a:=by
 rw [XR,Xr (WN _)];simp
theorem b7 {α:Type} {l t:List α} {d:α} {i:Nat} (h:i<l.length):(l++t).getD i d=l.getD i d:=by
 rw [XR,WU h,XR]
theorem aW {α:Type} {l:List α} {d:α} {i:Nat} (h:i<l.length):l.getD i d∈l:=by
 rw [XR,List.getElem?_eq_getElem h];exact List.getElem_mem h
theorem qd {st:x7} (hT: ∀r∈rows, ∀p∈r,p.2<rows.length) (h:FP rows part st) (h1:st.rows.length<st.order.length):FP rows part (eh rows ends part st):=by
 have hc:dC st<rows.length:=h.lt _ (aW h1);obtain ⟨k1,k2,k3,k4,k5,t,k6⟩:=sY part (n:=rows.length) h.nd h.lt (rows.getD (dC st) []) (hT _ (aW hc))
 refine ⟨?_,k1,k2, ?_,fun k hk=> ?_⟩
 ·simp only [eh,WX,YV];omega
 ·simp only [eh,WX,YV,h.ends]
 ·simp only [eh,WX,YV] at hk ⊢
  rcases WV k st.rows.length with q|q
  ·obtain ⟨q1,q2⟩:=h.row k q;rw [gv q,k6,b7 (by omega)];exact ⟨q1,fun p hp=>by have:=q2 p hp;simp only [WX];omega⟩
  ·obtain rfl:k=st.rows.length:=by omega
   rw [ep];refine ⟨?_,k3⟩;rw [k5,k6,b7 h1];rfl
theorem Fj (hT: ∀r∈rows, ∀p∈r,p.2<rows.length): ∀(f:Nat) {st:x7},FP rows part st->rows.length+1<=f+st.rows.length->FP rows part (mv rows ends part f st)∧(mv rows ends part f st).rows.length=(mv rows ends part f st).order.length
 | 0,st,h,hf=>by
  have:=kY part h.nd h.lt;have:=h.le;omega
 | f+1,st,h,hf=>by
  rw [mv]
  split
  ·rename_i h1;exact Fj hT f (qd rows ends part hT h h1) (by simp only [eh,WX,YV];omega)
  ·exact ⟨h,by have:=h.le;omega⟩
end
end
section
def look (row:aX) (l:ByteArray):Option Nat:=(row.find? (fun p=>cH l p.1)).map Prod.snd
def uj (rows:List aX) (s:Nat):List ByteArray->Option Nat
 | []=>some s
 | l :: w=>match look (rows.getD s []) l with
  | some t=>uj rows t w
  | none=>none
def bO (rows:List aX) (ends:List Bool) (s:Nat) (w:List ByteArray):Bool:=match uj rows s w with
 | some t=>ends.getD t false
 | none=>false
theorem c8 {row:aX} {l:ByteArray}:look row l=none↔l∉row.map Prod.fst:=by
 rw [look,Option.map_eq_none_iff,List.find?_eq_none]
 constructor
 ·intro h hm;obtain ⟨p,hp,rfl⟩:=List.mem_map.1 hm;exact h p hp (jd.2 rfl)
 ·intro h p hp he;rw [jd] at he;subst he;exact h (List.mem_map_of_mem hp)
theorem dH {row:aX} {l:ByteArray} {t:Nat} (h:look row l=some t):(l,t)∈row:=by
 rw [look,Option.map_eq_some_iff] at h;obtain ⟨p,h1,rfl⟩:=h;have h2:=List.find?_some h1;rw [jd] at h2;subst h2;exact List.mem_of_find?_eq_some h1
theorem iE {row r2:aX} {l:ByteArray}:look (row++r2) l=(look row l).or (look r2 l):=by
 simp only [look,List.find?_append];cases row.find? (fun p=>cH l p.1)<;>rfl
theorem iF {m l:ByteArray} {t:Nat}:look [(m,t)] l=if l=m then some t else none:=by
 by_cases h:l=m
 ·subst h;simp [look,jd.2 rfl]
 ·have:cH l m=false:=by
   cases hh:cH l m
   ·rfl
   ·exact absurd (jd.1 hh) h
  simp [look,this,h]
theorem pW {row:aX} (hn:(row.map Prod.fst).Nodup) {l:ByteArray} {t:Nat} (h:(l,t)∈row):look row l=some t:=by
 induction row with
 | nil=>simp at h
 | cons a row ih=>
  rw [YW,List.nodup_cons] at hn
  rcases List.mem_cons.1 h with rfl|h
  ·simp [look,jd.2 rfl]
  ·have hne:cH l a.1=false:=by
    cases hh:cH l a.1
    ·rfl
    ·rw [jd] at hh;subst hh;exact absurd (List.mem_map_of_mem h) hn.1
   have:=ih hn.2 h
   simpa [look,hne] using this
section
variable (stp:List Nat->ByteArray->List Nat) (em:Bool) (la:List Nat)
def Iz (labs:List ByteArray) (all:List (List Nat)) (cur:List Nat) (row:aX):Prop:=
 ∀l,(l∈labs->stp cur l≠[]-> ∃k,look row l=some k∧all[k]? = some (stp cur l))∧((l∉labs∨stp cur l=[])->look row l=none)
theorem Iz.mono {labs:List ByteArray} {all t:List (List Nat)} {cur:List Nat} {row:aX} (h:Iz stp labs all cur row):Iz stp labs (all++t) cur row:=fun l=>
 ⟨fun h1 h2=>by
  obtain ⟨k,k1,k2⟩:=(h l).1 h1 h2
  exact ⟨k,k1,by rw [WU (WT.1 k2).1];exact k2⟩,(h l).2⟩
theorem K4 (cur:List Nat) {all:List (List Nat)}: ∀labs:List ByteArray,labs.Nodup->Iz stp labs (dD stp cur all labs).1 cur (dD stp cur all labs).2:=by
 refine fB (fun _ l=>⟨fun h=>by simp at h,fun _=>by simp [dD,look]⟩) ?_;intro labs m ih hn l;have hn':=List.nodup_append.1 hn;have ih:=ih hn'.1;have hm:m∉labs:=fun h=>hn'.2.2 m h m (by simp) rfl;rw [jE,Ck]
 by_cases he:stp cur m=[]
 ·rw [if_pos he]
  refine ⟨fun h1 h2=> ?_,fun h1=> ?_⟩
  ·rcases List.mem_append.1 h1 with h1|h1
   ·exact (ih l).1 h1 h2
   ·simp only [YO] at h1;subst h1;exact absurd he h2
  ·by_cases hl:stp cur l=[]
   ·exact (ih l).2 (.inr hl)
   ·rcases h1 with h1|h1
    ·exact (ih l).2 (.inl (fun q=>h1 (List.mem_append_left _ q)))
    ·exact absurd h1 hl
 ·rw [if_neg he]
  have nl:l≠m->(l∈labs++[m]↔l∈labs):=fun h=>by simp [h]
  split
  ·rename_i k hk;obtain ⟨hk1,hk2⟩:=u7 hk;rw [YN] at hk2;have hk3:=AU hk2;rw [XQ] at hk1
   refine ⟨fun h1 h2=> ?_,fun h1=> ?_⟩
   ·rw [iE,iF]
    by_cases hlm:l=m
    ·subst hlm;exact ⟨k,by rw [(ih l).2 (.inl hm),if_pos rfl];rfl,by rw [Xb hk1,hk3]⟩
    ·obtain ⟨j,j1,j2⟩:=(ih l).1 ((nl hlm).1 h1) h2;exact ⟨j,by rw [j1];rfl,j2⟩
   ·rw [iE,iF]
    have hlm:l≠m:=fun e=>by subst e;rcases h1 with h1|h1<;>simp_all
    rw [if_neg hlm,(ih l).2 (h1.imp (fun q r=>q ((nl hlm).2 r)) id)];rfl
  ·refine ⟨fun h1 h2=> ?_,fun h1=> ?_⟩
   ·rw [iE,iF]
    by_cases hlm:l=m
    ·subst hlm;exact ⟨_,by rw [(ih l).2 (.inl hm),if_pos rfl];rfl,by rw [List.getElem?_append_right (Nat.le_refl _)];simp⟩
    ·obtain ⟨j,j1,j2⟩:=(ih l).1 ((nl hlm).1 h1) h2;exact ⟨j,by rw [j1];rfl,by rw [WU (WT.1 j2).1];exact j2⟩
   ·rw [iE,iF]
    have hlm:l≠m:=fun e=>by subst e;rcases h1 with h1|h1<;>simp_all
    rw [if_neg hlm,(ih l).2 (h1.imp (fun q r=>q ((nl hlm).2 r)) id)];rfl
structure SW (labs:List ByteArray) (st:nA):Prop where
 zero:st.all[0]? = some [0]
 row: ∀i,i<st.rows.length->Iz stp labs st.all (st.all.getD i []) (st.rows.getD i [])
 Dk: ∀i,i<st.rows.length->st.ends.getD i false=((i==0&&em)||(st.all.getD i []).any (fun p=>la.contains p))
theorem Ob {labs:List ByteArray} (hn:labs.Nodup) {st:nA} (ho:Cx labs st) (h:SW stp em la labs st) (h1:st.rows.length<st.all.length):SW stp em la labs (cj stp em la labs st):=by
 obtain ⟨_,_,_,_,_,t,k6⟩:=s8 stp (cur:=bC st) ho.nd labs;have hr:=K4 stp (bC st) (all:=st.all) labs hn
 have hg: ∀i,i<st.all.length->(cj stp em la labs st).all.getD i []=st.all.getD i []:=fun i hi=>by simp only [cj,k6];exact b7 hi
 refine ⟨?_,fun i hi=> ?_,fun i hi=> ?_⟩
 ·simp only [cj,k6];rw [WU (by omega)];exact h.zero
 ·have hi':i<st.rows.length+1:=by simpa [cj] using hi
  rw [hg i (by omega)]
  rcases Nat.lt_or_ge i st.rows.length with q|q
  ·simp only [cj,k6,gv q];exact (h.row i q).mono
  ·obtain rfl:i=st.rows.length:=by omega
   simp only [cj,ep];exact hr
 ·have hi':i<st.rows.length+1:=by simpa [cj] using hi
  rw [hg i (by omega)]
  rcases Nat.lt_or_ge i st.rows.length with q|q
  ·simp only [cj];rw [gv (by rw [ho.ends];exact q)];exact h.Dk i q
  ·obtain rfl:i=st.rows.length:=by omega
   simp only [cj];rw [<-ho.ends,ep,qm,bC,ho.ends]
theorem K5 {labs:List ByteArray} (hn:labs.Nodup): ∀(f:Nat) {st st':nA},Cx labs st->SW stp em la labs st->mZ stp em la labs f st=some st'->SW stp em la labs st'
 | 0,st,st',_,h,e=>by simp only [mZ,W7] at e;subst e;exact h
 | f+1,st,st',ho,h,e=>by
  rw [mZ] at e
  split at e
  ·rename_i h1
   split at e
   ·cases e
   ·rename_i h2;exact K5 hn f (qn stp em la ho h1 h2) (Ob stp em la hn ho h h1) e
  ·cases e;exact h
theorem zq {labs:List ByteArray} (hn:labs.Nodup) {st:nA} (h:ox stp em la labs=some st):Cx labs st∧st.rows.length=st.all.length∧SW stp em la labs st:=by
 have ho:=Fp stp em la 257 (Oc labs) (by simp [s0]) h;exact ⟨ho.1,ho.2,K5 stp em la hn 257 (Oc labs) ⟨rfl,fun i hi=>by simp [s0] at hi,fun i hi=>by simp [s0] at hi⟩ h⟩
def Made (a:List Nat):Prop:=a≠[]∧(a=[0]∨ ∃cur l,a=stp cur l)
theorem rF {cur:List Nat} {all:List (List Nat)} (h: ∀a∈all,Made stp a): ∀labs:List ByteArray, ∀a∈(dD stp cur all labs).1,Made stp a:=by
 refine fB h ?_;intro labs l ih;rw [jE,Ck]
 split
 ·exact ih
 ·rename_i hne
  split
  ·exact ih
  ·intro a ha
   rcases List.mem_append.1 ha with ha|ha
   ·exact ih a ha
   ·simp only [YO] at ha;subst ha;exact ⟨hne, .inr ⟨_,_,rfl⟩⟩
theorem xM {labs:List ByteArray}: ∀(f:Nat) {st st':nA},(∀a∈st.all,Made stp a)->mZ stp em la labs f st=some st'-> ∀a∈st'.all,Made stp a
 | 0,st,st',h,e=>by simp only [mZ,W7] at e;subst e;exact h
 | f+1,st,st',h,e=>by
  rw [mZ] at e
  split at e
  ·split at e
   ·cases e
   ·exact xM f (rF stp h labs) e
  ·cases e;exact h
theorem Hx {labs:List ByteArray} {st:nA} (h:ox stp em la labs=some st): ∀a∈st.all,Made stp a:=xM stp em la 257 (fun a ha=>by
 simp only [s0,YO] at ha;subst ha;exact ⟨by simp, .inl rfl⟩) h
variable {stp em la}
theorem AE (ha: ∀l,stp [] l=[]): ∀w:List ByteArray,w.foldl stp []=[]
 | []=>rfl
 | l :: w=>by rw [Yw,ha,AE ha w]
theorem vt {labs:List ByteArray} {st:nA} (hl:st.rows.length=st.all.length) (hw:SW stp em la labs st) (ha: ∀l,stp [] l=[]) (hx: ∀cur l,l∉labs->stp cur l=[]): ∀(w:List ByteArray) (i:Nat) (cur:List Nat),st.all[i]? = some cur->cur≠[] ->
  (w.foldl stp cur=[]->uj st.rows i w=none)∧(w.foldl stp cur≠[]-> ∃k,uj st.rows i w=some k∧st.all[k]? = some (w.foldl stp cur))
 | [],i,cur,hi,hc=>⟨fun h=>absurd h hc,fun _=>⟨i,rfl,hi⟩⟩
 | l :: w,i,cur,hi,hc=>by
  have hlt:=(WT.1 hi).1;have hr:=hw.row i (by omega) l;rw [XR (l:=st.all),hi,YX] at hr;rw [uj,Yw]
  by_cases he:stp cur l=[]
  ·rw [hr.2 (.inr he),he,AE ha];exact ⟨fun _=>rfl,fun h=>absurd rfl h⟩
  ·have hm:l∈labs:=Classical.byContradiction fun h=>he (hx cur l h);obtain ⟨k,k1,k2⟩:=hr.1 hm he;rw [k1];exact vt hl hw ha hx w k _ k2 he
theorem Hw {labs:List ByteArray} {st:nA} (hl:st.rows.length=st.all.length) (hw:SW stp em la labs st) (ha: ∀l,stp [] l=[]) (hx: ∀cur l,l∉labs->stp cur l=[]) (w:List ByteArray) {i:Nat} {cur:List Nat} (hi:st.all[i]? = some cur) (hc:cur≠[]) {q:Nat} (hq:q∈w.foldl stp cur) (hq2:q∈la):bO st.rows st.ends i w=true:=by
 obtain ⟨k,k1,k2⟩:=(vt hl hw ha hx w i cur hi hc).2 (List.ne_nil_of_mem hq);rw [bO,k1];simp only;rw [hw.Dk k (by rw [hl];exact (WT.1 k2).1),XR,k2,YX]
 have:(w.foldl stp cur).any (fun p=>la.contains p)=true:=List.any_eq_true.2 ⟨q,hq,by simpa using hq2⟩
 rw [this,Bool.or_true]
theorem Ef {labs:List ByteArray} {st:nA} (hl:st.rows.length=st.all.length) (hw:SW stp em la labs st) (ha: ∀l,stp [] l=[]) (hx: ∀cur l,l∉labs->stp cur l=[]) (h0: ∀cur l,0∉stp cur l) (hl0:0∉la) (w:List ByteArray) :
  bO st.rows st.ends 0 w=((w.length==0&&em)||(w.foldl stp [0]).any (fun p=>la.contains p)):=by
 obtain ⟨h1,h2⟩:=vt hl hw ha hx w 0 [0] hw.zero (by simp)
 by_cases he:w.foldl stp [0]=[]
 ·rw [bO,h1 he,he]
  cases w with
  | nil=>simp at he
  | cons l w=>rfl
 ·obtain ⟨k,k1,k2⟩:=h2 he;rw [bO,k1];simp only;have hk:=(WT.1 k2).1;rw [hw.Dk k (by omega),XR,k2,YX]
  cases w with
  | nil=>
   simp only [uj,W7] at k1;subst k1
   rfl
  | cons l w=>
   have hne:k≠0:=fun e=>by
    subst e
    have:=hw.zero.symm.trans k2
    simp only [W7] at this
    have hh: ∀(w:List ByteArray) (cur:List Nat),0∉cur->0∉w.foldl stp cur:=fun w=>by
     induction w with
     | nil=>exact fun cur h=>h
     | cons m w ih=>exact fun cur h=>ih _ (h0 _ _)
    exact hh w (stp [0] l) (h0 _ _) (by rw [Yw] at this;rw [<-this];simp)
   have:(k==0)=false:=by simpa using hne
   rw [this];rfl
end
def AZ:Go.Shelf.Ren:=⟨fun|7=>98|10=>130|n=>n,fun|23=>84|26=>9|3=>3|28=>149|0=>0|27=>148|33=>124|4=>4|n=>n,fun n=>n⟩
theorem xn:SlLaysZ.n7 Tryz.prog AZ:={
 mixed:=by kernel_rfl
 f7:=⟨Tryz.f98.name,by decide,Tryz.func98⟩
 f10:=⟨Tryz.f130.name,by decide,Tryz.func130⟩
 t0:=by kernel_rfl
 a0:=fun w=>by kernel_rfl
 z0:=fun w=>by kernel_rfl
 v0:=fun w=>by kernel_rfl
 t4:=by kernel_rfl
 a4:=fun w=>by kernel_rfl
 z4:=fun w=>by kernel_rfl
 v4:=fun w=>by kernel_rfl
 t23:=by kernel_rfl
 a23:=fun w=>by kernel_rfl
 z23:=fun w=>by kernel_rfl
 v23:=fun w=>by kernel_rfl
 t26:=by kernel_rfl
 a26:=fun w=>by kernel_rfl
 z26:=fun w=>by kernel_rfl
 v26:=fun w=>by kernel_rfl
 t27:=by kernel_rfl
 a27:=fun w=>by kernel_rfl
 z27:=fun w=>by kernel_rfl
 v27:=fun w=>by kernel_rfl
 t28:=by kernel_rfl
 a28:=fun w=>by kernel_rfl
 z28:=fun w=>by kernel_rfl
 v28:=fun w=>by kernel_rfl
 t33:=by kernel_rfl
 a33:=fun w=>by kernel_rfl
 z33:=fun w=>by kernel_rfl
 v33:=fun w=>by kernel_rfl }
def vC:Go.Shelf.Ren:=⟨fun|6=>97|8=>129|9=>55|11=>148|13=>87|12=>86|23=>125|24=>126|14=>116|15=>117|16=>118|17=>119|18=>120|19=>121|20=>122|21=>123|22=>124|25=>140|26=>141|27=>142|28=>143|29=>144|30=>145|31=>160|n=>n,fun|26=>9|28=>149|24=>26|0=>0|3=>3|37=>121|48=>95|50=>178|4=>4|40=>170|39=>169|45=>57|5=>5|9=>9|51=>186|55=>190|57=>204|58=>205|33=>124|n=>n,fun n=>n⟩
theorem BT:SlLaysZ.n6 Tryz.prog vC:={
 mixed:=by kernel_rfl
 f6:=⟨Tryz.f97.name,by decide,Tryz.func97⟩
 f8:=⟨Tryz.f129.name,by decide,Tryz.func129⟩
 f11:=⟨Tryz.f148.name,by decide,Tryz.func148⟩
 t0:=by kernel_rfl
 a0:=fun w=>by kernel_rfl
 z0:=fun w=>by kernel_rfl
 v0:=fun w=>by kernel_rfl
 t24:=by kernel_rfl
 a24:=fun w=>by kernel_rfl
 z24:=fun w=>by kernel_rfl
 v24:=fun w=>by kernel_rfl
 t26:=by kernel_rfl
 a26:=fun w=>by kernel_rfl
 z26:=fun w=>by kernel_rfl
 v26:=fun w=>by kernel_rfl
 t28:=by kernel_rfl
 a28:=fun w=>by kernel_rfl
 z28:=fun w=>by kernel_rfl
 v28:=fun w=>by kernel_rfl
 i26:=by kernel_rfl }
def Lf:Go.Shelf.Ren:=⟨fun|6=>55|8=>87|9=>86|19=>125|20=>126|21=>116|22=>117|23=>118|24=>119|25=>120|26=>121|27=>122|28=>123|29=>124|36=>140|31=>141|32=>142|37=>143|38=>144|39=>145|41=>160|n=>n,fun|27=>26|29=>9|3=>3|32=>121|26=>26|0=>0|44=>95|46=>178|4=>4|36=>170|35=>169|41=>57|5=>5|9=>9|53=>186|57=>190|63=>204|64=>205|n=>n,fun n=>n⟩
theorem nR:SlLaysM.n6 Tryz.prog Lf:={
 mixed:=by kernel_rfl
 f6:=⟨Tryz.f55.name,by decide,Tryz.func55⟩
 f8:=Tryz.func87
 f9:=⟨Tryz.f86.name,by decide,Tryz.func86⟩
 f19:=Tryz.func125
 f20:=Tryz.func126
 f21:=⟨Tryz.f116.name,by decide,Tryz.func116⟩
 f22:=⟨Tryz.f117.name,by decide,Tryz.func117⟩
 f23:=⟨Tryz.f118.name,by decide,Tryz.func118⟩
 f24:=⟨Tryz.f119.name,by decide,Tryz.func119⟩
 f25:=⟨Tryz.f120.name,by decide,Tryz.func120⟩
 f26:=⟨Tryz.f121.name,by decide,Tryz.func121⟩
 f27:=⟨Tryz.f122.name,by decide,Tryz.func122⟩
 f28:=⟨Tryz.f123.name,by decide,Tryz.func123⟩
 f29:=⟨Tryz.f124.name,by decide,Tryz.func124⟩
 f31:=Tryz.func141
 f32:=Tryz.func142
 f36:=⟨Tryz.f140.name,by decide,Tryz.func140⟩
 f37:=⟨Tryz.f143.name,by decide,Tryz.func143⟩
 f38:=⟨Tryz.f144.name,by decide,Tryz.func144⟩
 f39:=⟨Tryz.f145.name,by decide,Tryz.func145⟩
 f41:=⟨Tryz.f160.name,by decide,Tryz.func160⟩
 t0:=by kernel_rfl
 a0:=fun w=>by kernel_rfl
 z0:=fun w=>by kernel_rfl
 v0:=fun w=>by kernel_rfl
 t3:=by kernel_rfl
 a3:=fun w=>by kernel_rfl
 z3:=fun w=>by kernel_rfl
 v3:=fun w=>by kernel_rfl
 t4:=by kernel_rfl
 a4:=fun w=>by kernel_rfl
 z4:=fun w=>by kernel_rfl
 v4:=fun w=>by kernel_rfl
 t5:=by kernel_rfl
 a5:=fun w=>by kernel_rfl
 z5:=fun w=>by kernel_rfl
 v5:=fun w=>by kernel_rfl
 t9:=by kernel_rfl
 a9:=fun w=>by kernel_rfl
 z9:=fun w=>by kernel_rfl
 v9:=fun w=>by kernel_rfl
 t26:=by kernel_rfl
 a26:=fun w=>by kernel_rfl
 z26:=fun w=>by kernel_rfl
 v26:=fun w=>by kernel_rfl
 t27:=by kernel_rfl
 a27:=fun w=>by kernel_rfl
 z27:=fun w=>by kernel_rfl
 v27:=fun w=>by kernel_rfl
 t29:=by kernel_rfl
 a29:=fun w=>by kernel_rfl
 z29:=fun w=>by kernel_rfl
 v29:=fun w=>by kernel_rfl
 t32:=by kernel_rfl
 a32:=fun w=>by kernel_rfl
 z32:=fun w=>by kernel_rfl
 v32:=fun w=>by kernel_rfl
 t35:=by kernel_rfl
 a35:=fun w=>by kernel_rfl
 z35:=fun w=>by kernel_rfl
 v35:=fun w=>by kernel_rfl
 t36:=by kernel_rfl
 a36:=fun w=>by kernel_rfl
 z36:=fun w=>by kernel_rfl
 v36:=fun w=>by kernel_rfl
 t41:=by kernel_rfl
 a41:=fun w=>by kernel_rfl
 z41:=fun w=>by kernel_rfl
 v41:=fun w=>by kernel_rfl
 t44:=by kernel_rfl
 a44:=fun w=>by kernel_rfl
 z44:=fun w=>by kernel_rfl
 v44:=fun w=>by kernel_rfl
 t46:=by kernel_rfl
 a46:=fun w=>by kernel_rfl
 z46:=fun w=>by kernel_rfl
 v46:=fun w=>by kernel_rfl
 t53:=by kernel_rfl
 a53:=fun w=>by kernel_rfl
 z53:=fun w=>by kernel_rfl
 v53:=fun w=>by kernel_rfl
 t57:=by kernel_rfl
 a57:=fun w=>by kernel_rfl
 z57:=fun w=>by kernel_rfl
 v57:=fun w=>by kernel_rfl
 t63:=by kernel_rfl
 a63:=fun w=>by kernel_rfl
 z63:=fun w=>by kernel_rfl
 v63:=fun w=>by kernel_rfl
 t64:=by kernel_rfl
 a64:=fun w=>by kernel_rfl
 z64:=fun w=>by kernel_rfl
 v64:=fun w=>by kernel_rfl }
def b9 (r:aX):List (List AV):=r.map (fun p=>[.v (.string p.1), .v (.int .i64 (p.2:Nat))])
theorem Bf (r:aX):(b9 r).length=r.length:=by simp [b9]
@[go_sem] theorem qv (n:Nat) (r:aX):bj n (b9 r)=true:=bw _ (fun p=>rfl) _
theorem yf (s:ByteArray): ∀r:aX,pw .string (.string s) (b9 r)=some ((look r s).map (fun n=> .v (.int .i64 (n:Nat))))
 | []=>rfl
 | p :: l=>by
  have ih:=yf s l;simp only [b9,YW,pw];rw [if_pos (show dz .string (.string p.1)=true from rfl)]
  by_cases h:fJ (.string s) (.string p.1)=true
  ·have h':cH s p.1=true:=h;rw [if_pos h];simp [look,h']
  ·have h':cH s p.1=false:=by
    cases hh:cH s p.1
    ·rfl
    ·exact absurd hh h
   rw [if_neg h];simp only [b9] at ih;rw [ih];simp [look,h']
theorem qJ (s:ByteArray) (n:Nat): ∀r:aX,look r s=none->qI .string (.string s) (.v (.int .i64 (n:Nat))) (b9 r)=some (b9 (r++[(s,n)]))
 | [],_=>rfl
 | p :: l,hn=>by
  simp only [b9,YW,qI,List.cons_append];rw [if_pos (show dz .string (.string p.1)=true from rfl)]
  by_cases h:fJ (.string s) (.string p.1)=true
  ·have h':cH s p.1=true:=h;simp [look,h'] at hn
  ·have h':cH s p.1=false:=by
    cases hh:cH s p.1
    ·rfl
    ·exact absurd hh h
   have ih:=qJ s n l (by simpa [look,h'] using hn);rw [if_neg h];simp only [b9] at ih;rw [ih];rfl
@[go_sem] theorem qu (n:Nat) (rows:List aX):bj n (rows.map (fun r=>[AV.mp (b9 r)]))=true:=bw _ (fun r=>by simp only [aN,AV.wf,qv,YY]) _
@[go_sem] theorem qt (n:Nat) (ends:List Bool):bj n (ends.map (fun b=>[AV.v (.bool b)]))=true:=bw _ (fun r=>rfl) _
def gV (rows:List aX) (ends:List Bool):List AV:=[.aB 1 (rows.map (fun r=>[.mp (b9 r)])) rows.length, .aB 1 (ends.map (fun b=>[.v (.bool b)])) ends.length]
section
open Go.Maps Go.Sort Go.WideElems
theorem Lw:Tryz.prog.underlying 9=some .string:=by kernel_rfl
def IN (_:Value):Option (DataW Unit×List MemPlace):=some (.lit (.bool true),[])
def r9 (r:aX):List (List UInt8):=r.map (fun p=>p.1.data.toList)
theorem QG {e:MapEntry} {s:ByteArray} (hk:e.key = .string s) (hs:s.size<=maxLen):rd Tryz.prog 9 IN e=some (.string s.data.toList, .lit (.bool true)):=by
 unfold WideElems.rd;rw [hk,Go.WideMaps.keyOf_string_mk Lw hs];rfl
theorem Nz {D:Nat->Prop} {nu:Nat->Nat->Value} {o:List (Option ab)} {w:World} {r:aX} {x:Value} (h:RA D nu o w (.mp (b9 r)) x) (hs: ∀p∈r,p.1.size<=maxLen) (hn:(r.map Prod.fst).Nodup) (hl:r.length<=1000000) :
  ∃b D0,x = .map (some b)∧b<w.heap.size∧w.ownsMap Tryz.prog 9 IN b r.length D0∧(strKeys D0).Perm (r9 r)∧Maps.size D0=r.length:=by
 cases h with
 | mp _ b es cl h1 h2 h3 h4 h5 h6 h7=>
 have hlen:es.size=r.length:=by rw [h3,Bf]
 have hget: ∀(i:Nat) (hi:i<es.toList.length),es[i]? = some es.toList[i]:=fun i hi=>by rw [<-Array.getElem?_toList];exact Xb hi
 have hk: ∀(i:Nat) (hi:i<es.toList.length) (hi':i<r.length),(es.toList[i]).key=Value.string r[i].1:=fun i hi hi'=>by
  have hrow:(b9 r)[i]? = some [.v (.string r[i].1), .v (.int .i64 (r[i].2:Nat))]:=by rw [b9,Xe,Xb hi'];rfl
  exact (h7 i 0 _ _ _ hrow rfl (hget i hi)).plain
 have hkeys:es.toList.map (fun e=>e.key)=r.map (fun p=>Value.string p.1):=List.ext_getElem (by simp [hlen]) fun i k1 k2=>by
  rw [YN,YN];exact hk i (by simpa using k1) (by simpa using k2)
 have hrd: ∀(i:Nat) (hi:i<es.toList.length) (hi':i<r.length),rd Tryz.prog 9 IN es.toList[i]=some (.string r[i].1.data.toList, .lit (.bool true)):=fun i hi hi'=>QG (hk i hi hi') (hs _ (List.getElem_mem hi'))
 refine ⟨b,_,rfl,h1.1,⟨es,cl,h2,⟨by unfold maxLen;omega,⟨?_, ?_, ?_⟩, ?_⟩,by omega,rfl⟩, ?_, ?_⟩
 ·intro e he;obtain ⟨i,hi,rfl⟩:=List.getElem_of_mem he;exact h5 i _ (hget i hi)
 ·rw [List.Nodup,List.pairwise_iff_getElem];intro i j hi hj hij;rw [YN,YN]
  have:=h6 i j _ _ (hget i (by simpa using hi)) (hget j (by simpa using hj)) hij
  omega
 ·have e:es.toList.map (fun x=>x.key)=(r.map Prod.fst).map Value.string:=by rw [hkeys,YZ];rfl
  rw [e,List.Nodup,Y0];exact hn.imp fun hne e=>hne (by cases e;rfl)
 ·intro e he;obtain ⟨i,hi,rfl⟩:=List.getElem_of_mem he;exact ⟨_,hrd i hi (by simpa [hlen] using hi)⟩
 ·rw [strKeys];refine ((WideShapes.sorted_perm _).map _).trans (List.Perm.of_eq ?_);rw [YZ];refine List.ext_getElem (by simp [r9,hlen]) fun i k1 k2=> ?_
  have hi:i<es.toList.length:=by simpa using k1
  simp only [r9,YN,Function.comp];rw [rg_of (hrd i hi (by simpa [hlen] using hi))];rfl
 ·show (List.foldr DataW.insert [] _).length=_;rw [(WideShapes.sorted_perm _).length_eq,XQ];simp [hlen]
def iR (l:List ByteArray):Prop:=l.Pairwise (fun a b=>a.data.toList<b.data.toList)
theorem GS {r:aX} (h:iR (r.map Prod.fst)):(r9 r).mergeSort (fun x y=>decide (x<=y))=r9 r:=by
 refine List.mergeSort_of_pairwise ?_;rw [r9,Y0];rw [iR,Y0] at h;exact h.imp fun hh=>decide_eq_true (List.le_of_lt hh)
theorem lX {l:List ByteArray} (h:iR l):l.Nodup:=h.imp fun {a b} hh e=>by subst e;exact absurd hh (List.lt_irrefl _)
end
def SN (_:Nat->Prop) (_:World) (x:Value):Prop:= ∃b,x = .pointer (some ⟨b,0,none⟩)
def AX (r:aX):AV:= .fn 130 [] [.kF SN (.vp [.mp (b9 r)])]
@[go_sem] theorem Cd (n:Nat) (r:aX):(AX r).wf n=true:=by simp only [AX,AV.wf,aN,qv,YY]
theorem Nj (r:aX):aq Tryz.prog 98 [.mp (b9 r)] (AX r):=by
 refine ⟨⟨by simp only [aN,AV.wf,qv,YY],Cd 0 r⟩,by kernel_rfl,fun D nu w vargs hro hra=> ?_⟩;obtain ⟨x,rfl,hx⟩:=kf hra
 obtain ⟨b,rfl⟩: ∃b,x = .map (some b):=by cases hx;exact ⟨_,rfl⟩
 refine ((callsIn_wide (n:=5)).1 (AnyZ.keys_in xn Fence.wide 5 trivial rfl (some b) w)).mono ?_;rintro e w' ⟨rfl,rfl⟩;have hb:Below w.heap.size w (w.alloc (.cells #[.map (some b)] 84)):=(Below.refl _ _).alloc (Nat.le_refl _) _;have hz:Fz D nu [] (w.alloc (.cells #[.map (some b)] 84)) w.heap.size:=⟨by simp,bb _ _,hro.up _ (Nat.le_refl _)⟩;refine ⟨_,nu,[],AX r,rfl,ay hb,hro.below hb, ?_,rfl,rfl⟩;refine .fn _ _ _ _ _ rfl rfl (fun i c x h=>by simp at h) (fun i c y h1 h2=> ?_)
 cases i with
 | succ i=>simp at h1
 | zero=>
  simp only [X2,W7] at h1;simp at h2;subst h1;subst h2
  refine .kF _ _ _ (fun _=>False) rfl (fun b h=>h.elim) (fun b h=>h.elim) (fun w' _=>⟨_,rfl⟩) (.vp _ _ 0 (fun _=> .map (some b)) hz (fun j c hc=> ?_) (fun j c hc=> ?_) (fun j c hc=>rfl))
  ·cases j with
   | succ j=>simp at hc
   | zero=>
    have h:=fp w (.cells #[.map (some b)] 84);exact (tK h 0).trans rfl
  ·cases j with
   | succ j=>simp at hc
   | zero=>
    simp only [X2,W7] at hc;subst hc;exact hx.mono (ay hb) (fun _ _ h=>h)
theorem QN (m:Nat):AnyZ.SortsIn Tryz.prog vC Fence.wide m:=
 ⟨fun fl off cap ss W hH hblk hsz=>callsIn_wide.2 (AnyM.slices_Sort_string nR fl off cap ss W hH hblk hsz),
  fun p cap W=>callsIn_wide.2 (AnyM.slices_Sort_string_none nR p cap W)⟩
theorem Hy (r:aX) (hs: ∀p∈r,p.1.size<=maxLen) (hr:iR (r.map Prod.fst)) (hl:r.length<=1000000):aq Tryz.prog 97 [AX r] (aS (r.map Prod.fst)):=
 .Fe (by kernel_rfl) (by simp only [aN,Cd,YY]) (fun D nu w vargs hra=>by
  obtain ⟨x,rfl,hx⟩:=kf hra
  cases hx with
  | fn _ _ _ fi ca h1 h2 h3 h4=>
  obtain ⟨y,rfl,hy⟩:=kf (D:=D) (nu:=nu) (o:=[]) (w:=w) ⟨h2,h4⟩;obtain rfl:fi = #[]:=Array.eq_empty_of_size_eq_zero (by simpa using h1.symm)
  cases hy with
  | kF _ _ _ S k0 k1 k2 k3 k4=>
  obtain ⟨Bm,rfl⟩:=k3 w (fun _ _=>rfl)
  cases k4 with
  | vp _ _ _ f q1 q2 q3 q4=>
  have hm:=q2 0 _ rfl;have hmap:=q3 0 _ rfl;obtain ⟨b,D0,e0,hb,hown,hperm,hsize⟩:=Nz hmap hs (lX hr) hl;rw [e0] at hm;simp only [Nat.add_zero] at hm;have hseq:=AnyZ.keys_gives (ρ:=AZ) { xn with } Fence.wide 2 trivial rfl (by omega) Bm b r.length D0 w q1.1 hm hown;have cS:=AnyZ.sorted_in BT Fence.wide 5 trivial trivial trivial trivial rfl (by omega) (QN _) (enters_of Tryz.func55 (by kernel_rfl) rfl) 130 #[.pointer (some ⟨Bm,0,none⟩)] trivial (enters_of Tryz.func130 (by kernel_rfl) rfl) _ _ (by rw [hsize];unfold maxLen;omega) (by rw [hsize];omega) w hseq;refine ((callsIn_wide (n:=5)).1 cS).mono ?_;rintro e w' ⟨v,ss,rfl,hS,hrow,hnil,hbl⟩
  have hlen:ss.length=(r.map Prod.fst).length:=by rw [hS.length_eq,hperm.length_eq,r9,XQ,XQ]
  have hk:(ss.mergeSort (fun x y=>decide (x<=y))).map encStr=(r.map Prod.fst).map Value.string:=by
   rw [Go.mergeSort_of_perm (hS.trans hperm),GS hr,r9,YZ,YZ];refine List.map_congr_left fun p _=> ?_;simp [encStr]
  rw [hlen,hk] at hrow
  exact ⟨v,rfl,D5 hrow,hbl,Hg hrow⟩)
theorem Nx {r:aX} {i:Nat} (h:i<r.length):b9 (r.drop i)=[.v (.string r[i].1), .v (.int .i64 (r[i].2:Nat))] :: b9 (r.drop (i+1)):=by
 rw [b9,List.drop_eq_getElem_cons h];rfl
theorem Qm {r:aX} (hr:iR (r.map Prod.fst)) {i:Nat} (h:i<r.length):look r r[i].1=some r[i].2:=pW (lX hr) (List.getElem_mem h)
theorem xQ (rows:List aX) (ends:List Bool) (s:Nat) (hs:s<rows.length) (hN:rows.length<=1000000) (hz: ∀p∈rows[s],p.1.size<=maxLen) (hr:iR (rows[s].map Prod.fst)) (hl:rows[s].length<=1000000) :
  tg Tryz.prog 96 [.vp [.vp (gV rows ends)], .vp [.v (.int .i64 (s:Nat))]] [] (b9 rows[s]):=by
 have CK:=Nj rows[s];have CS:=Hy rows[s] hz hr hl
 have e0:b9 rows[s]=b9 (rows[s].drop 0):=by rw [List.drop_zero]
 have eR:(rows.map (fun r=>[AV.mp (b9 r)])).getD s []=[.mp (b9 rows[s])]:=by
  rw [XR,Xe,Xb hs];rfl
 rw [show tg Tryz.prog 96 [.vp [.vp (gV rows ends)], .vp [.v (.int .i64 (s:Nat))]] [] (b9 rows[s])=tg Tryz.prog 96 [.vp [.vp (gV rows ends)], .vp [.v (.int .i64 (s:Nat))]] [] (b9 (rows[s].drop 0)) by rw [<-e0]];simp only [gV,aS,XQ] at *
 (refine tg.enter Tryz.func96 rfl (by kernel_rfl) (by kernel_rfl) rfl (fun l=> ?_);simp only [Tryz.ntmps96,Tryz.results96,List.length_cons,List.length_nil,Nat.reduceAdd,Nat.reduceSub,List.replicate_succ,List.replicate_zero,List.cons_append,List.nil_append])
 (refine ug eR ?_;intro K hK)
 refine bA [] [] (by decide+kernel) (by kernel_rfl) ?_
 repeat (first|(with_reducible first|refine aw.up ?_|refine fun (K:AK) hK=> ?_|refine ae (by decide) ?_|(refine hK _ ?_;clear hK K))|simp only [go_sem,eR]|with_reducible refine wA ?_|clear hK K)
 refine aE.one CK ?_
 (revert K;revert K;refine ug eR ?_;intro K hK K hK)
 refine aE.one CS ?_
 (revert K;revert K;refine ug eR ?_)
 refine wP (ι:=Nat) 17 (fun i=>[(16, .v (.int .i64 i)),(5, .undef)]) (fun i=>[]) (fun i=> .run l (b9 (rows[s].drop i))) (fun i=>rows[s].length - i) (fun i=>i<=rows[s].length) 0 (by omega) ?_ ?_
 ·refine bl ?_ ai
  rfl
 ·rintro i hi K hK
  (revert K;refine Dt ?_;intro K hK K hK)
  refine bD.part (fun h=> ?_) (fun h=> ?_)
  ·have hlt:i<rows[s].length:=by replace h:=bG h;omega
   have eW:=ak (k:=i) (by omega)
   have eG:(List.map encS (List.map Prod.fst rows[s])).getD i []=[.v (.string rows[s][i].1)]:=by
    rw [XR,Xe,Xe,Xb hlt];rfl
   have eY:=Nx hlt;have eA:=yf rows[s][i].1 rows[s];rw [Qm hr hlt] at eA;simp only [Option.map_some] at eA
   repeat (first|(with_reducible first|refine aw.up ?_|refine fun (K:AK) hK=> ?_|refine ae (by decide) ?_|(refine hK _ ?_;clear hK K))|simp only [go_sem,eG,h]|with_reducible refine wA ?_|clear hK K)
   (refine Gc 11 (by decide+kernel) (by kernel_rfl) ?_;simp only [List.drop_succ_cons,List.drop_zero,List.take_succ_cons,List.take_zero])
   repeat' (first|(with_reducible first|refine aw.up ?_|refine fun (K:AK) hK=> ?_|refine ae (by decide) ?_|(refine hK _ ?_;clear hK K))|simp only [go_sem,eR,eA,eY,eW,Go.undef]|with_reducible refine wA ?_|clear hK K|(with_reducible refine aa.one (by assumption) ?_)|(with_reducible refine aE.one (by assumption) ?_)|(refine bD.part (fun hb=> ?_) (fun hb=> ?_)<;>simp only [hb,go_sem,eR,eA,eY,eW,Go.undef])|(refine bD.part (fun hb=> ?_) (fun hb=> ?_))|(with_reducible refine mw.mk ?_ ?_))
   ·exact az.mk (i+1) (by omega) (by omega) (by exact aR ai)
   ·exact .inr trivial
  ·have e1:rows[s].drop i=[]:=List.drop_eq_nil_of_le (by replace h:=bG h;omega);simp only [e1,b9,List.map_nil]
   (revert K;revert K;refine Dt ?_)
   exact .inl trivial
theorem Fv (rows:List aX) (ends:List Bool) (s:Nat):aq Tryz.prog 65 [.vp (gV rows ends), .v (.int .i64 (s:Nat))] (.fn 96 [] [.vp [.vp (gV rows ends)], .vp [.v (.int .i64 (s:Nat))]]):=by
 simp only [gV] at *;refine gE Tryz.func65 Tryz.ntmps65 Tryz.results65 ?_
 repeat' (first|(with_reducible first|refine aw.up ?_|refine fun (K:AK) hK=> ?_|(refine hK _ ?_;clear hK K))|simp only [go_sem]|clear hK K|(with_reducible refine aa.one (by assumption) ?_)|(with_reducible refine aE.one (by assumption) ?_)|(refine bD.part (fun hb=> ?_) (fun hb=> ?_)<;>simp only [hb,go_sem])|(refine bD.part (fun hb=> ?_) (fun hb=> ?_))|(with_reducible refine mw.mk ?_ ?_))
 (refine gd.of 40 rfl ?_;simp only [go_sem])
end
end Go.Proofs.YtfflpdekojlnmaaGreatDoor
