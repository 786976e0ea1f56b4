/- A region that draws its order, makes rows, in whatever order, and then goes on one behind the other. No program is named here. -/
import Derived.Test.YtldnlbcibmmbbaaGreatWAbsZ
set_option linter.unusedSimpArgs false
set_option linter.unusedVariables false
open Array renaming getElem?_eq_some_iff → IY
open Bool renaming and_eq_true → JL
open List renaming getElem?_append_left → I1, getElem?_append_right → Jt, getElem?_map → Jh, getElem?_eq_some_iff → I0, getElem?_set_self → Jm, getElem?_set_ne → Jl, getElem?_eq_getElem → Je, mem_cons → KX, mem_of_getElem? → Jz, getD_eq_getElem?_getD → JR, getElem?_cons_zero → Kd, size_toArray → Jo, getElem?_toArray → Jg, getElem_mem → KA, mem_append_right → K6, append_assoc → Jr, singleton_append → JY
open Nat renaming lt_or_ge → I2, le_trans → IW, le_refl → IV
open Option renaming map_some → Jw, getD_some → J6
open Option.some renaming injEq → Ja
open Prod.mk renaming injEq → Jb
namespace Go.Proofs.YtldnlbcibmmbbaaGreat
open Go.RowKit
structure dL where
 d:Tmp
 k:Nat
 e:TypeId
 z:Nat
 n:Nat
 zc:List AV
 bx:Bool:=false
def dL.ob (m:dL):ab:=⟨m.e,m.z, !m.bx,List.replicate m.n m.zc⟩
def dL.av (m:dL) (id:Nat):AV:=if m.bx then .ptr id 0 m.z 0 0 else .vec id m.n
def dL.val (m:dL) (b cap:Nat):Value:=if m.bx then .pointer (some ⟨b,0,none⟩) else .slice (some ⟨b,0,none⟩) m.n cap
theorem dL.EC (m:dL) (b cap:Nat):cG (m.val b cap)=some b:=by unfold dL.val;split<;>rfl
theorem dL.oM (m:dL) (b cap:Nat):cw (m.val b cap)=some b:=by unfold dL.val;split<;>rfl
def Dp (n0:Nat) (m:dL) (v:Value) (w:World):Prop:= ∃b cap cur,v=m.val b cap∧n0≤b∧w.heap[b]? = some (.cells cur m.e (0,0))∧m.n≤cap∧cap≤maxLen∧cur.size=cap * m.z∧0<m.z∧m.zc.length=m.z∧(m.bx=true→m.n=1∧cap=1) ∧
 ∀(i j:Nat) c x,i<m.n→m.zc[j]? = some c→cur[i * m.z+j]? = some x→c = .v x∧x.oneCell'=true
theorem Dp.below {n0:Nat} {m:dL} {v:Value} {w w':World} (hb:Below w.heap.size w w') (h:Dp n0 m v w):Dp n0 m v w':=by
 obtain ⟨b,cap,cur,h1,h2,h3,h4⟩:=h
 exact ⟨b,cap,cur,h1,h2,(hb.block b (IY.1 h3).1).trans h3,h4⟩
section
variable {D:Nat→Prop} {nu:Nat→Nat→Value} {o:List (Option ab)} {w:World} {P:Program}
def zK (nu:Nat→Nat→Value) (N:Nat) (h:Nat→Value):Nat→Nat→Value:=fun id len=>if id<N then nu id len else h (id - N)
theorem gk {N:Nat} {h:Nat→Value} {id len:Nat} (hl:id<N):zK nu N h id len=nu id len:=by simp [zK,hl]
theorem gv {N:Nat} {h:Nat→Value} {i len:Nat}:zK nu N h (N+i) len=h i:=by rw [zK,if_neg (by omega),Nat.add_sub_cancel_left]
theorem Bp {w0:World} (hro:RO D nu o w0) (hb:Below w0.heap.size w0 w) (ms:List dL) (h:Nat→Value) (hm: ∀i m,ms[i]? = some m→Dp w0.heap.size m (h i) w)
  (hne: ∀i j,i<ms.length→j<ms.length→i≠j→ ∀b,cw (h i)=some b→cw (h j)≠some b) :
  bp nu o w0 (zK nu o.length h) (o++ms.map (fun m=>some m.ob)) w∧RO D (zK nu o.length h) (o++ms.map (fun m=>some m.ob)) w∧ ∀i m,ms[i]? = some m→RA D (zK nu o.length h) (o++ms.map (fun m=>some m.ob)) w (m.av (o.length+i)) (h i):=by
 have old: ∀id,id<o.length→(o++ms.map (fun m=>some m.ob))[id]? = o[id]? :=fun id hl=>I1 hl
 have new: ∀id ob,o.length≤id→(o++ms.map (fun m=>some m.ob))[id]? = some (some ob)→ ∃i m,id=o.length+i∧ms[i]? = some m∧ob=m.ob:=fun id ob hl hh=>by
  rw [Jt hl,Jh] at hh
  cases hi:ms[id - o.length]? with
  | none=>rw [hi] at hh;cases hh
  | some m=>
   rw [hi] at hh
   simp only [Jw,Ja] at hh
   exact ⟨id - o.length,m,by omega,hi,hh.symm⟩
 have b7: ∀i m,ms[i]? = some m→ ∃b,w0.heap.size≤b∧cG (h i)=some b∧cw (h i)=some b:=fun i m hi=>by
  obtain ⟨b,cap,cur,h1,h2,_⟩:=hm i m hi
  exact ⟨b,h2,by rw [h1];exact m.EC b cap,by rw [h1];exact m.oM b cap⟩
 have hmo:bp nu o w0 (zK nu o.length h) (o++ms.map (fun m=>some m.ob)) w:=by
  refine ⟨hb.os,hb.tape,hb.output,hb.size,fun id len hh=>⟨?_,gk (eK hh)⟩,fun b hlt hno=>⟨hb.block b hlt, ?_⟩⟩
  ·obtain ⟨x,h1,h2⟩:=hh
   exact ⟨x,by rw [old id (I0.1 h1).1];exact h1,h2⟩
  ·rintro ⟨id,ob,h1,h2⟩
   rcases I2 id o.length with hl|hl
   ·rw [old id hl] at h1
    rw [gk hl] at h2
    exact hno ⟨id,ob,h1,h2⟩
   ·obtain ⟨i,m,rfl,hi,rfl⟩:=new id ob hl h1
    rw [gv] at h2
    obtain ⟨b',h3,h4,_⟩:=b7 i m hi
    rw [h4] at h2;cases h2;omega
 have row: ∀i m,ms[i]? = some m→ ∃g cur,uc D (zK nu o.length h) (o++ms.map (fun m=>some m.ob)) w (o.length+i) m.ob g cur:=fun i m hi=>by
  obtain ⟨b,cap,cur,h1,h2,h3,h4,h5,h6,h7,h8,h10,h9⟩:=hm i m hi
  have inr: ∀(i':Nat) r,(List.replicate m.n m.zc)[i']? = some r→i'<m.n∧r=m.zc:=fun i' r hr=>by
   rw [List.getElem?_replicate] at hr
   split at hr
   ·cases hr;exact ⟨‹_›,rfl⟩
   ·cases hr
  refine ⟨b,cur,h3,hro.up b h2,fun e=> ?_,fun e=>⟨cap, ?_, ?_,h5,h6⟩,h7,fun i' r hr=> ?_,fun i' j r c x q1 q2 q3=> ?_,fun i' j r c x q1 q2 q3=> ?_⟩
  ·have hb:m.bx=true:=by simpa [dL.ob] using e
   obtain ⟨k1,k2⟩:=h10 hb
   refine ⟨by rw [gv,h1,dL.val,if_pos hb],by simp [dL.ob,k1], ?_⟩
   rw [h6,k2,Nat.one_mul];rfl
  ·have hb:m.bx=false:=by simpa [dL.ob] using e
   rw [gv,h1,dL.val,hb];simp [dL.ob]
  ·simpa [dL.ob] using h4
  ·obtain ⟨_,rfl⟩:=inr i' r hr;exact h8
  ·obtain ⟨hl,rfl⟩:=inr i' r q1
   obtain ⟨rfl,_⟩:=h9 i' j c x hl q2 q3
   exact .v _
  ·obtain ⟨hl,rfl⟩:=inr i' r q1
   exact (h9 i' j c x hl q2 q3).2
 refine ⟨hmo,⟨fun id ob ho=> ?_,fun b hlt=>hro.up b (IW hb.size hlt),fun id id' ob1 ob2 b h1 h2 hd h3 h4=> ?_,hro.gl.mono hmo (fun _ _ h=>h)⟩,fun i m hi=> ?_⟩
 ·rcases I2 id o.length with hl|hl
  ·rw [old id hl] at ho
   rcases hro.obj id ob ho with ⟨e1,e2,e3⟩|⟨g,cur,hr⟩|⟨g,es,cl,hmp⟩
   ·exact .inl ⟨e1,e2,by rw [gk hl];exact e3⟩
   ·refine .inr (.inl ⟨g,cur,(hb.block g (hro.aF ⟨id,ob,ho,hr.bq⟩)).trans hr.b7,hr.ke,fun e=> ?_,fun e=> ?_,hr.z,hr.row,fun i j row c x h1 h2 h3=>(hr.cell i j row c x h1 h2 h3).mono hmo (fun _ _ h=>h),hr.one⟩)
    ·rw [gk hl];exact hr.box e
    ·rw [gk hl];exact hr.vec e
   ·exact .inr (.inr ⟨g,es,cl,hmp.tr (hb.block g (hro.aF ⟨id,ob,ho,hmp.bq⟩)) (fun h=>h) (gk hl) (fun i j row c x _ _ hr=>hr.mono hmo (fun _ _ h=>h))⟩)
  ·obtain ⟨i,m,rfl,hi,rfl⟩:=new id ob hl ho
   exact .inr (.inl (row i m hi))
 ·rcases I2 id o.length with l1|l1
  ·rw [old id l1] at h1
   rw [gk l1] at h3
   rcases I2 id' o.length with l2|l2
   ·rw [old id' l2] at h2
    rw [gk l2] at h4
    exact hro.sep id id' ob1 ob2 b h1 h2 hd h3 h4
   ·obtain ⟨i,m,rfl,hi,rfl⟩:=new id' ob2 l2 h2
    rw [gv] at h4
    obtain ⟨b',q1,q2,_⟩:=b7 i m hi
    rw [q2] at h4;cases h4
    have:=hro.aF ⟨id,ob1,h1,h3⟩
    omega
  ·obtain ⟨i,m,rfl,hi,rfl⟩:=new id ob1 l1 h1
   rw [gv] at h3
   obtain ⟨b',q1,q2,q3⟩:=b7 i m hi
   rw [q2] at h3;cases h3
   rcases I2 id' o.length with l2|l2
   ·rw [old id' l2] at h2
    rw [gk l2] at h4
    have:=hro.aF ⟨id',ob2,h2,h4⟩
    omega
   ·obtain ⟨j,m',rfl,hj,rfl⟩:=new id' ob2 l2 h2
    rw [gv] at h4
    obtain ⟨b2,p1,p2,p3⟩:=b7 j m' hj
    rw [p2] at h4;cases h4
    exact hne i j (I0.1 hi).1 (I0.1 hj).1 (fun e=>hd (by rw [e])) _ q3 p3
 ·obtain ⟨b,cap,cur,h1,_⟩:=hm i m hi
  have hg:(o++ms.map (fun m=>some m.ob))[o.length+i]? = some (some m.ob):=by rw [Jt (by omega),Jh,show o.length+i - o.length=i by omega,hi];rfl
  cases hb:m.bx
  ·have:=RA.vec (D:=D) (nu:=zK nu o.length h) (o:=o++ms.map (fun m=>some m.ob)) (w:=w) (o.length+i) m.n ⟨some m.ob,hg,fun x hx=>by cases hx;simp [ab.hl,dL.ob,hb]⟩ (by rw [gv,h1,dL.val,hb];rfl)
   rw [gv] at this
   rw [dL.av,hb]
   exact this
  ·have:=RA.ptr (D:=D) (nu:=zK nu o.length h) (o:=o++ms.map (fun m=>some m.ob)) (w:=w) (o.length+i) 0 m.z 0 0 b ⟨some m.ob,hg,fun x hx=>Nat.zero_le _⟩ (by rw [gv,h1];exact m.oM b cap)
   rw [dL.av,hb,h1,dL.val,hb]
   simpa using this
/-! ### the rule -/
def EA:List AV→Nat→List dL→List AV
 | t,_,[]=>t
 | t,N,m :: l=>EA (t.set m.d (m.av N)) (N+1) l
def ji (s:AS) (ms:List dL):AS:=⟨EA s.t s.o.length ms,s.o++ms.map (fun m=>some m.ob),s.y⟩
theorem xp: ∀(ms:List dL) (t:List AV) (N j:Nat) (c:AV),(EA t N ms)[j]? = some c→t[j]? = some c∨ ∃(i:Nat) (m:dL),ms[i]? = some m∧m.d=j∧c=m.av (N+i)
 | [],t,N,j,c,h=> .inl h
 | m :: l,t,N,j,c,h=>by
  rcases xp l _ (N+1) j c h with h1|⟨i,m',h1,h2,h3⟩
  ·by_cases hd:m.d=j
   ·subst hd
    rw [Jm (by have:=(I0.1 h1).1;simpa using this)] at h1
    cases h1
    exact .inr ⟨0,m,rfl,rfl,rfl⟩
   ·rw [Jl hd] at h1
    exact .inl h1
  ·exact .inr ⟨i+1,m',h1,h2,by rw [h3];congr 1;omega⟩
theorem xv: ∀(ms:List dL) (t:List AV) (N:Nat),(EA t N ms).length=t.length
 | [],_,_=>rfl
 | m :: l,t,N=>by rw [EA,xv l];simp
def AV.y8:AV→AV
 | .v x=> .v x
 | .ptr a b c d e=> .ptr a b c d e
 | .vec a b=> .vec a b
 | .agg cs=>if AV.flat (.agg cs) then .agg cs else .undef
 | .aV _ (.v x)=> .v x
 | _=> .undef
theorem RA.y8 {D':Nat→Prop} {nu':Nat→Nat→Value} {o':List (Option ab)} {w':World} (hh: ∀id len,bG o id len→bG o' id len∧nu' id len=nu id len) {c:AV} {x:Value} (h:RA D nu o w c x):RA D' nu' o' w' c.y8 x:=by
 cases h with
 | v=>exact .v _
 | ptr id len z row off b h1 h2=>exact .ptr id len z row off b (hh _ _ h1).1 (by rw [(hh _ _ h1).2];exact h2)
 | vec id len h1 h2=>
  rw [←(hh _ _ h1).2] at h2 ⊢
  exact .vec id len (hh _ _ h1).1 h2
 | agg cs xs h1 h2 h3=>
  simp only [AV.y8]
  split
  ·rename_i hf
   exact (RA.agg cs xs h1 h2 h3:RA D nu o w _ _).flat hf
  ·exact .undef _
 | aV p a x S h0 h1 hc h2 h3=>
  cases a with
  | v y=>cases h3;exact .v _
  | _=>exact .undef _
 | _=>exact .undef _
theorem AV.BM (c:AV):c.y8.y8=c.y8:=by
 cases c with
 | agg cs=>
  by_cases h:AV.flat (.agg cs)=true
  ·simp only [AV.y8,if_pos h]
  ·simp only [AV.y8,if_neg h]
 | aV p a=>cases a<;>rfl
 | _=>rfl
def rX:List Tmp→List AV→List AV
 | [],t=>t
 | d :: ds,t=>rX ds (t.set d (t.getD d .undef).y8)
theorem uJ: ∀(ds:List Tmp) (t:List AV),(rX ds t).length=t.length
 | [],_=>rfl
 | d :: ds,t=>by rw [rX,uJ ds];simp
theorem tV: ∀(ds:List Tmp) (t:List AV) (j:Nat) (c:AV),(rX ds t)[j]? = some c→ ∃c0,t[j]? = some c0∧((j∉ds∧c=c0)∨c=c0.y8)
 | [],t,j,c,h=>⟨c,h, .inl ⟨by simp,rfl⟩⟩
 | d :: ds,t,j,c,h=>by
  obtain ⟨c1,h1,h2⟩:=tV ds _ j c h
  by_cases hd:d=j
  ·subst hd
   have hlt:=(I0.1 h1).1
   simp only [List.length_set] at hlt
   rw [Jm hlt] at h1
   cases h1
   have e:t[d]? = some t[d]:=Je hlt
   rw [getD_some e] at h2
   refine ⟨t[d],e, .inr ?_⟩
   rcases h2 with ⟨_,rfl⟩|rfl
   ·rfl
   ·exact AV.BM _
  ·rw [Jl hd] at h1
   refine ⟨c1,h1,h2.imp (fun k=>⟨fun hm=> ?_,k.2⟩) id⟩
   rcases KX.1 hm with e|hm
   ·exact hd e.symm
   ·exact k.1 hm
def zH (P:Program) (T:TypeId) (n c:AV):Option (Prop×TypeId×Nat×Nat×List AV):=
 match P.underlying T,n,c with
 | some (.slice e), .v (.int _ l), .v (.int _ m)=>match iW P T,dj P e with
  | some (_,z,bytes),some zr=>some (0≤l∧l≤m∧m.toNat * bytes≤140737488355328∧m.toNat≤140737488355328,e,z,l.toNat,zr)
  | _,_=>none
 | _,_,_=>none
theorem yB {T:TypeId} {n c:AV} {x y:Value} (hx:RA D nu o w n x) (hy:RA D nu o w c y) {p:Prop} {e:TypeId} {z l:Nat} {zr:List AV} (hl:zH P T n c=some (p,e,z,l,zr)) (hp:p) (d:Tmp) (k:Nat) :
  ∃v w',(Instr.makeSlice T x y).run P w = .ok v w'∧Below w.heap.size w w'∧Dp w.heap.size ⟨d,k,e,z,l,zr,false⟩ v w':=by
 unfold zH at hl
 split at hl
 ·rename_i e0 kl l0 kc m hu
  split at hl
  ·rename_i e2 z0 bytes zr0 ht hz
   simp only [Ja,Jb] at hl
   obtain ⟨rfl,rfl,rfl,rfl,rfl⟩:=hl
   obtain ⟨h1,h2,h3,h4⟩:=hp
   obtain ⟨hu',i,zv,hi,hzv,hzs,hz0,hsize,hbytes⟩:=dp ht
   rw [hu] at hu';cases hu'
   obtain ⟨i',zv',hi',hzv',rfl,hone⟩:=dh hz
   rw [hi] at hi';cases hi'
   rw [hzv] at hzv';cases hzv'
   cases hx;cases hy
   have hr:=run_make (P:=P) w T e0 i zv hu hi hzv kl kc l0 m h1 h2 (by
    have:(i.bytes:Int) * m=((m.toNat * i.bytes:Nat):Int):=by
     rw [Int.natCast_mul,Int.toNat_of_nonneg (by omega),Int.mul_comm]
    rw [this,hbytes];omega) (by omega)
   rw [hr]
   refine ⟨_,_,rfl,(Below.refl _ _).alloc (IV _) _,w.heap.size,m.toNat,_,rfl,IV _,heap_alloc_new w _,by show l0.toNat≤_;omega,by unfold maxLen;omega,by rw [size_madeCells,hsize],hz0,by simpa using hzs,fun e=>(by cases e),fun i1 j c x q0 q1 q2=> ?_⟩
   replace q0:i1<l0.toNat:=q0
   replace q1:(zv.cells.toList.map AV.v)[j]? = some c:=q1
   rw [Jh] at q1
   cases hq:zv.cells.toList[j]? with
   | none=>rw [hq] at q1;cases q1
   | some u=>
    rw [hq] at q1;cases q1
    have hjl:j<zv.cells.size:=by have:=(I0.1 hq).1;simpa using this
    have hlt2:i1 * z0+j<m.toNat * i.size:=by rw [hsize];exact jE (by omega) (by omega)
    have hmod:(i1 * z0+j) % zv.cells.size=j:=by rw [hzs];exact nT (by omega)
    replace q2:(madeCells zv.cells (m.toNat * i.size))[i1 * z0+j]? = some x:=q2
    simp only [madeCells,Array.getElem?_map,Array.getElem?_range,if_pos hlt2,Jw,Ja] at q2
    rw [hmod] at q2
    have hu2:zv.cells[j]? = some u:=by simpa using hq
    rw [getElem!_pos zv.cells j hjl,(IY.1 hu2).2] at q2
    subst q2
    exact ⟨rfl,hone u (Jz hq)⟩
  ·cases hl
 ·cases hl
def zs (P:Program) (T:TypeId):Option (Prop×TypeId×Nat×Nat×List AV):=
 match dj P T with
 | some zr=>if 0<zr.length then some (True,T,zr.length,1,zr) else none
 | none=>none
theorem yQ {T:TypeId} {p:Prop} {e:TypeId} {z l:Nat} {zr:List AV} (hl:zs P T=some (p,e,z,l,zr)) (d:Tmp) (k:Nat) :
  ∃v w',(Instr.alloc T true (.tuple #[])).run P w = .ok v w'∧Below w.heap.size w w'∧Dp w.heap.size ⟨d,k,e,z,l,zr,true⟩ v w':=by
 unfold zs at hl
 split at hl
 ·rename_i zr0 hz
  split at hl
  ·rename_i hpos
   simp only [Ja,Jb] at hl
   obtain ⟨-, rfl,rfl,rfl,rfl⟩:=hl
   obtain ⟨i,zv,hi,hzv,he,hone⟩:=dh hz
   have hzr:(zeroValue T).run P w = .ok zv w:=by simp [zeroValue,typeInfo,hi,hzv]
   have hrun:(Instr.alloc T true (.tuple #[])).run P w = .ok (.pointer (some ⟨w.heap.size,0,none⟩)) (w.alloc (.cells zv.cells T)):=by
    simp [Instr.alloc,newVar,newRow,hzr]
   rw [hrun]
   have hsz:zv.cells.size=zr0.length:=by rw [he];simp
   refine ⟨_,_,rfl,(Below.refl _ _).alloc (IV _) _,w.heap.size,1,zv.cells,rfl,IV _,heap_alloc_new w _,IV _,by unfold maxLen;omega,by rw [hsz,Nat.one_mul],hpos,rfl,fun _=>⟨rfl,rfl⟩,fun i1 j c x q0 q1 q2=> ?_⟩
   replace q0:i1<1:=q0
   obtain rfl:i1=0:=by omega
   replace q1:zr0[j]? = some c:=q1
   rw [he,Jh] at q1
   replace q2:zv.cells[0 * zr0.length+j]? = some x:=q2
   rw [Nat.zero_mul,Nat.zero_add] at q2
   have q3:zv.cells.toList[j]? = some x:=by simpa using q2
   rw [q3] at q1
   cases q1
   exact ⟨rfl,hone x (Jz q3)⟩
  ·cases hl
 ·cases hl
def z3 (g:Option (Nat×Bool)) (d:Option Tmp) (N:Nat) (x:Option (Prop×TypeId×Nat×Nat×List AV)) (K:Tmp→TypeId→Nat→Nat→List AV→Prop):Prop:=match g,d,x with
 | none,some d,some (p,e,z,n,zc)=>(p∧d<N)∧K d e z n zc
 | _,_,_=>False
theorem zU (d N:Nat) (p:Prop) (e:TypeId) (z n:Nat) (zc:List AV) (K:Tmp→TypeId→Nat→Nat→List AV→Prop):z3 none (some d) N (some (p,e,z,n,zc)) K=((p∧d<N)∧K d e z n zc):=rfl
@[congr] theorem Et {g:Option (Nat×Bool)} {d:Option Tmp} {N N':Nat} {x x':Option (Prop×TypeId×Nat×Nat×List AV)} {K:Tmp→TypeId→Nat→Nat→List AV→Prop} (h:N=N') (k:x=x'):z3 g d N x K=z3 g d N' x' K:=by rw [h,k]
def bS (P:Program) (all tail:List Oper):List Oper→Nat→AS→List dL→List Tmp→(AS→Prop)→Prop
 | [],_,s,ms,ds,Q=>er P all tail (ji ⟨rX ds s.t,s.o,s.y⟩ ms) Q
 | oo :: rest,k,s,ms,ds,Q=>match oo.op with
  | .makeSlice T n c=>z3 oo.guard oo.dst s.t.length (zH P T (s.ev n) (s.ev c)) (fun d e z l zc=>bS P all tail rest (k+1) (s.put (some d) .undef s.o) (ms++[⟨d,k,e,z,l,zc,false⟩]) ds Q)
  | .alloc T=>z3 oo.guard oo.dst s.t.length (zs P T) (fun d e z l zc=>bS P all tail rest (k+1) (s.put (some d) .undef s.o) (ms++[⟨d,k,e,z,l,zc,true⟩]) ds Q)
  | _=>match oo.guard with
   | none=>cK P oo.op s (fun r=>bS P all tail rest (k+1) (s.put oo.dst r s.o) ms (oo.dst.toList++ds) Q)
   | some (j,want)=>nU (gz all s j) want (cK P oo.op s (fun r=>bS P all tail rest (k+1) (s.put oo.dst r s.o) ms (oo.dst.toList++ds) Q)) (bS P all tail rest (k+1) (s.put oo.dst (.v Go.undef) s.o) ms (oo.dst.toList++ds) Q)
def fH (D:Nat→Prop) (nu:Nat→Nat→Value) (o:List (Option ab)) (n0:Nat) (r:AV×Option dL):Spec:=
 ⟨fun v w=>(bV D nu o r.1).p v w∧ ∀m,r.2=some m→Dp n0 m v w,fun v w w' hb h=>⟨(bV D nu o r.1).st v w w' hb h.1,fun m hm=>(h.2 m hm).below hb⟩⟩
theorem jL {n0:Nat} {rs rs':List (AV×Option dL)} {i:Nat} {r:AV×Option dL} (h:rs[i]? = some r):bA ((rs++rs').map (fH D nu o n0)) i=fH D nu o n0 r:=by
 have hlt:=(I0.1 h).1
 unfold bA
 rw [JR,Jh,I1 hlt,h]
 rfl
def BD (rs:List (AV×Option dL)) (i:Nat):Bool:=match rs[i]? with
 | some r=>r.2.isSome
 | none=>false
structure vN (l:List Oper) (s:AS) (a:Act) (k:Nat) (sk:AS) (rs:List (AV×Option dL)) (A:(Nat→Value)→Act) (ms:List dL) (ds:List Tmp):Prop extends DInv l s a k sk (rs.map Prod.fst) A where
 row: ∀m,m∈ms→m.k<k∧rs[m.k]? = some (.undef,some m)∧(∃oi,l[m.k]? = some oi∧oi.dst=some m.d)∧ ∀x,(A x).tmps[m.d]? = some (x m.k)
 zP:(ms.map dL.k).Nodup
 z5: ∀(i:Nat) r m,rs[i]? = some (r,some m)→r = .undef
 dst: ∀(i:Nat) (oi:Oper) d r,i<k→l[i]? = some oi→oi.dst=some d→rs[i]? = some (r,none)→d∈ds
theorem vN.step {l:List Oper} {s:AS} {a:Act} {k:Nat} {sk:AS} {rs:List (AV×Option dL)} {A:(Nat→Value)→Act} {ms:List dL} {ds:List Tmp} (hA:dV l) (h:vN l s a k sk rs A ms ds) {oo:Oper} (ho:l[k]? = some oo) (r:AV) (q:Option dL) (hq: ∀m,q=some m→r = .undef) (ds':List Tmp) (hd1: ∀d,d∈ds→d∈ds') (hd2:q=none→ ∀d,oo.dst=some d→d∈ds') :
  vN l s a (k+1) (sk.put oo.dst r s.o) (rs++[(r,q)]) (fun x=>(A x).put oo.dst (x k)) ms ds':=by
 have hd:=h.toDInv.step ho r
 have hlen:rs.length=k:=by have:=h.len;simpa using this
 refine { (by simpa using hd:DInv l s a (k+1) (sk.put oo.dst r s.o) ((rs++[(r,q)]).map Prod.fst) (fun x=>(A x).put oo.dst (x k))) with row:=fun m hm=> ?_,zP:=h.zP,z5:=fun i r' m q4=> ?_,dst:=fun i oi d r' q1 q2 q3 q4=> ?_ }
 ·obtain ⟨q1,q2,⟨oi,q3,q4⟩,q5⟩:=h.row m hm
  refine ⟨by omega,by rw [I1 (I0.1 q2).1];exact q2,⟨oi,q3,q4⟩,fun x=> ?_⟩
  cases hdd:oo.dst with
  | none=>exact q5 x
  | some d=>
   have hne:d≠m.d:=fun e=>hA k m.k oo oi ho q3 (by omega) d hdd (by rw [e];exact q4)
   simp only [Act.put]
   rw [Array.getElem?_setIfInBounds_ne hne]
   exact q5 x
 ·rcases I2 i rs.length with hlt|hge
  ·rw [I1 hlt] at q4
   exact h.z5 i r' m q4
  ·rw [Jt hge] at q4
   cases hi:i - rs.length with
   | zero=>
    rw [hi] at q4
    simp only [Kd,Ja,Jb] at q4
    rw [←q4.1];exact hq m q4.2
   | succ n=>rw [hi] at q4;simp at q4
 ·rcases I2 i k with hlt|hge
  ·rw [I1 (by omega)] at q4
   exact hd1 d (h.dst i oi d r' hlt q2 q3 q4)
  ·obtain rfl:i=k:=by omega
   rw [ho] at q2;cases q2
   rw [←hlen,Jt (IV _),Nat.sub_self] at q4
   simp only [Kd,Ja,Jb] at q4
   exact hd2 q4.2 d q3
theorem vN.made {l:List Oper} {s:AS} {a:Act} {k:Nat} {sk:AS} {rs:List (AV×Option dL)} {A:(Nat→Value)→Act} {ms:List dL} {ds:List Tmp} (hA:dV l) (h:vN l s a k sk rs A ms ds) {oo:Oper} (ho:l[k]? = some oo) {m:dL} (hk:m.k=k) (hd:oo.dst=some m.d) (hlt:m.d<sk.t.length) :
  vN l s a (k+1) (sk.put oo.dst .undef s.o) (rs++[(.undef,some m)]) (fun x=>(A x).put oo.dst (x k)) (ms++[m]) ds:=by
 have h1:=h.step hA ho .undef (some m) (fun _ _=>rfl) ds (fun _ h=>h) (fun e=>by cases e)
 have hlen:rs.length=k:=by have:=h.len;simpa using this
 refine { h1.toDInv with row:=fun m' hm=> ?_,zP:= ?_,z5:=h1.z5,dst:=h1.dst }
 ·rcases List.mem_append.1 hm with hm|hm
  ·exact h1.row m' hm
  ·simp only [KX,List.not_mem_nil,or_false] at hm
   subst hm
   have hlt':=hlt
   refine ⟨by omega,by rw [hk, ← hlen,Jt (IV _),Nat.sub_self];rfl,⟨oo,by rw [hk];exact ho,hd⟩,fun x=> ?_⟩
   simp only [hd,Act.put,hk]
   exact Array.getElem?_setIfInBounds_self_of_lt (by rw [←h.size x];exact hlt)
 ·rw [List.map_append,List.nodup_append]
  refine ⟨h.zP,by simp,fun a ha b hb=> ?_⟩
  simp only [List.map_cons,List.map_nil,KX,List.not_mem_nil,or_false] at hb
  obtain ⟨m',hm',rfl⟩:=List.mem_map.1 ha
  have:=(h.row m' hm').1
  omega
theorem uR {l:List Oper} {m0:Nat} (hB:fj l.toArray m0=true):dV l:=by
 simp only [fj,JL,List.all_eq_true,List.mem_range,Jo] at hB
 have key: ∀(i j:Nat) (oi oj:Oper),i<j→l[i]? = some oi→l[j]? = some oj→ ∀e,oi.dst=some e→oj.dst≠some e:=fun i j oi oj hij hi hj e he=>by
  have:=(hB.1.2 j (I0.1 hj).1).1 i hij
  simp only [tQ,Jg,hi,hj,JL] at this
  have h3:=this.1.2
  rw [he] at h3
  simpa using h3
 intro i j oi oj hi hj hij e he
 rcases Nat.lt_or_gt_of_ne hij with h|h
 ·exact key i j oi oj h hi hj e he
 ·intro h2
  exact key j i oj oi h hj hi e h2 he
theorem wh {l:List Oper} {m0:Nat} (hB:fj l.toArray m0=true) {k:Nat} {oo:Oper} (ho:l[k]? = some oo) (hk:k<m0): ∀i,ay l.toArray k i=true→i<k:=by
 intro i hi
 simp only [fj,JL,List.all_eq_true,List.mem_range,Jo,Bool.not_eq_true'] at hB
 have hkn:=(I0.1 ho).1
 have hself:=(hB.1.2 k hkn).2.1
 have hfar:=(hB.1.2 k hkn).2.2
 have hil:i<l.length:=by
  simp only [ay,Jg,ho,JL,beq_iff_eq,Array.any_eq_true'] at hi
  obtain ⟨e,he,_,rfl⟩:=hi
  simp only [qH,Jg,ho,Array.all_eq_true_iff_forall_mem] at hfar
  simpa using hfar e he
 rcases Nat.lt_trichotomy i k with h|h|h
 ·exact h
 ·subst h;rw [hself] at hi;cases hi
 ·have:=(hB.1.2 i hil).1 k h
  simp only [tQ,Jg,ho,Je hil,JL,Bool.not_eq_true'] at this
  rw [this.1.1.2] at hi;cases hi
theorem fQ {f:Fr} {l:List Oper} {m0:Nat} (hm0:m0≤l.length) (hB:fj l.toArray m0=true) {s:AS} {a:Act} {w0:World} {Q:AS→Prop} {R:Exit→Act→World→Prop} (hs:RS f D nu s a w0)
  (hR: ∀s' a' w' nu',bp nu s.o w0 nu' s'.o w'→s'.y=s.y→RS f D nu' s' a' w'→Q s'→R .normal a' w') :
  ∀(rest:List Oper) (k:Nat) (sk:AS) (rs:List (AV×Option dL)) (A:(Nat→Value)→Act) (ms:List dL) (ds:List Tmp),(l.take m0).drop k=rest→k≤m0→vN l s a k sk rs A ms ds→bS P l (l.drop m0) rest k sk ms ds Q →
   ∃rs',gn P l.toArray ((rs++rs').map (fH D nu s.o w0.heap.size)) (BD (rs++rs')) w0 (lO P l.toArray R) rest k A
 | [],k,sk,rs,A,ms,ds,hl,hk,hI,h=>by
  have hkm:k=m0:=by have:=congrArg List.length hl;simp at this;omega
  subst hkm
  refine ⟨[],fun x wr hE hD hP=> ?_⟩
  have hms: ∀i m,ms[i]? = some m→Dp w0.heap.size m (x m.k) wr:=fun i m hi=>by
   obtain ⟨q1,q2,_⟩:=hI.row m (Jz hi)
   have:=hD m.k q1
   rw [jL q2] at this
   exact this.2 m rfl
  have hfr: ∀m,m∈ms→BD (rs++[]) m.k=true:=fun m hm=>by
   obtain ⟨q1,q2,_⟩:=hI.row m hm
   simp only [BD,List.append_nil,q2,Option.isSome_some]
  obtain ⟨hmo,hro,hra⟩:=Bp hs.ro hE ms (fun i=>(ms[i]?.map (fun m=>x m.k)).getD Go.undef) (fun i m hi=>by simp only [hi,Jw,J6];exact hms i m hi) (fun i j hi hj hij b hb=>by
   simp only [Je hi,Je hj,Jw,J6] at hb ⊢
   have m1:=hI.row _ (KA hi)
   have m2:=hI.row _ (KA hj)
   refine hP _ _ m1.1 m2.1 (fun e=>hij ?_) (hfr _ (KA hi)) (hfr _ (KA hj)) b hb
   have:=hI.zP
   exact (List.getElem_inj (h₀:=by simpa using hi) (h₁:=by simpa using hj) this).1 (by simpa using e))
  have hsk:RS f D (zK nu s.o.length (fun i=>(ms[i]?.map (fun m=>x m.k)).getD Go.undef)) (ji ⟨rX ds sk.t,sk.o,sk.y⟩ ms) (A x) wr:=by
   refine ⟨by simp only [ji,hI.o];exact hro,⟨?_,fun t c v h1 h2=> ?_⟩,by rw [hI.fR x];exact hs.fR.mono hs.ro (ax hE)⟩
   ·simp only [ji,xv,uJ];exact hI.size x
   ·simp only [ji,hI.o] at h1 ⊢
    rcases xp ms _ _ t c h1 with h1|⟨i,m,g1,rfl,rfl⟩
    ·obtain ⟨c0,g1,g2⟩:=tV ds _ t c h1
     rcases hI.val x t c0 v g1 h2 with ⟨h3,h4⟩|⟨i,q1,⟨oi,q2,q5⟩,q3,q4⟩
     ·rcases g2 with ⟨_,rfl⟩|rfl
      ·exact (hs.tm.bA t _ v h3 h4).mono hmo (fun _ _ h=>h)
      ·exact (hs.tm.bA t _ v h3 h4).y8 hmo.kz
     ·rw [Jh] at q3
      cases hq:rs[i]? with
      | none=>rw [hq] at q3;cases q3
      | some r=>
       rw [hq] at q3
       simp only [Jw,Ja] at q3
       subst q3
       have hsp:=hD i q1
       rw [jL hq] at hsp
       rw [q4]
       obtain ⟨r1,r2⟩:=r
       cases r2 with
       | none=>
        have hmem:=hI.dst i oi t r1 q1 q2 q5 hq
        rcases g2 with ⟨k1,_⟩|rfl
        ·exact absurd hmem k1
        ·exact hsp.1.2.y8 hmo.kz
       | some m=>
        have hu:=hI.z5 i r1 m hq
        subst hu
        rcases g2 with ⟨_,rfl⟩|rfl
        ·exact .undef _
        ·exact .undef _
    ·have h4:=(hI.row m (Jz g1)).2.2.2 x
     rw [h2] at h4
     simp only [Ja] at h4
     have:=hra i m g1
     simp only [g1,Jw,J6] at this
     rw [h4];exact this
  exact iZ (P:=P) (f:=f) (l:=l) (R:=R) (l.drop k) k _ (A x) wr _ rfl hm0 hsk h (fun s' a' w' nu' q1 q2 q3 q4=>hR s' a' w' nu' ((by simp only [ji,hI.o] at q1;exact hmo.trans q1)) (q2.trans hI.y) q3 q4)
 | oo :: rest,k,sk,rs,A,ms,ds,hl,hk,hI,h=>by
  have hkm:k<m0:=by have:=congrArg List.length hl;simp at this;omega
  have hok:l[k]? = some oo:=by
   have:=congrArg (fun m=>m[0]?) hl
   simp only [List.getElem?_drop,Nat.add_zero,Kd] at this
   rwa [List.getElem?_take_of_lt hkm] at this
  have hl':(l.take m0).drop (k+1)=rest:=by have:=congrArg List.tail hl;simpa using this
  have hA:=uR hB
  have hlen:rs.length=k:=by have:=hI.len;simpa using this
  have hdep:=wh hB hok hkm
  
  have hlook: ∀x wr,Below w0.heap.size w0 wr→(∀rs' i,ay l.toArray k i=true→(bA ((rs++rs').map (fH D nu s.o w0.heap.size)) i).p (x i) wr)→ ∀(t:Nat) c v,t∈oo.looksAt l.toArray→sk.t[t]? = some c→(A x).tmps[t]? = some v→RA D nu s.o wr c v:=by
   intro x wr hE hD t c v ht h1 h2
   rcases hI.val x t c v h1 h2 with ⟨h3,h4⟩|⟨i,q1,⟨oi,q2,q5⟩,q3,q4⟩
   ·exact (hs.tm.bA t c v h3 h4).mono (ax hE) (fun _ _ h=>h)
   ·rw [Jh] at q3
    cases hq:rs[i]? with
    | none=>rw [hq] at q3;cases q3
    | some r=>
     rw [hq] at q3
     simp only [Jw,Ja] at q3
     subst q3
     rcases qg hB q1 q2 hok hkm with h5|h5
     ·have:=hD [] i h5
      rw [jL hq] at this
      rw [q4];exact this.1.2
     ·exact absurd ht (h5 t q5)
  have hevs: ∀x wr,Below w0.heap.size w0 wr→(∀rs' i,ay l.toArray k i=true→(bA ((rs++rs').map (fH D nu s.o w0.heap.size)) i).p (x i) wr)→zJ D nu s.o wr sk.ev (A x).eval oo.op:=by
   intro x wr hE hD y hy
   cases y with
   | tmp t=>
    simp only [AS.ev,Act.eval]
    rcases I2 t sk.t.length with hlt|hge
    ·have e1:sk.t[t]? = some sk.t[t]:=Je hlt
     have hlt':t<(A x).tmps.size:=by rw [←hI.size x];exact hlt
     have hx:(A x).tmps[t]? = some (A x).tmps[t]:=Array.getElem?_eq_getElem hlt'
     rw [getD_some e1]
     have:(A x).tmps.getD t Go.undef=(A x).tmps[t]:=by simp [Array.getD,hlt']
     rw [this]
     exact hlook x wr hE hD t _ _ (List.mem_append_left _ (List.mem_filterMap.2 ⟨.tmp t,hy,rfl⟩)) e1 hx
    ·rw [JR,List.getElem?_eq_none hge]
     exact .undef _
   | const v=>exact .v v
   | global gi=>exact (j2 hs.ro sk gi).mono (ax hE) (fun _ _ h=>h)
   | func f=>exact .fn f [] [] #[] #[] rfl rfl (fun i c x h=>by simp at h) (fun i c x h=>by simp at h)
  
  have hall: ∀(r:AV×Option dL) (rs':List (AV×Option dL)) (x:Nat→Value) (wr:World),(∀i,ay l.toArray k i=true→(bA ((rs++r :: rs').map (fH D nu s.o w0.heap.size)) i).p (x i) wr)→ ∀rs'' i,ay l.toArray k i=true→(bA ((rs++rs'').map (fH D nu s.o w0.heap.size)) i).p (x i) wr:=by
   intro r rs' x wr hD rs'' i h1
   have h3:=hD i h1
   have h5:i<rs.length:=by rw [hlen];exact hdep i h1
   have h4:rs[i]? = some rs[i]:=Je h5
   rw [jL h4] at h3 ⊢
   exact h3
  have enew: ∀(r:AV×Option dL) rs',bA ((rs++r :: rs').map (fH D nu s.o w0.heap.size)) k=fH D nu s.o w0.heap.size r:=fun r rs'=>by
   unfold bA
   rw [JR,Jh,Jt (by omega),show k - rs.length=0 by omega]
   rfl
  have efr: ∀(r:AV×Option dL) rs',BD (rs++r :: rs') k=r.2.isSome:=fun r rs'=>by
   unfold BD
   rw [Jt (by omega),show k - rs.length=0 by omega]
   rfl
  
  have hdo:cK P oo.op sk (fun r=>bS P l (l.drop m0) rest (k+1) (sk.put oo.dst r sk.o) ms (oo.dst.toList++ds) Q)→(∀x wr,Below w0.heap.size w0 wr→(∀rs' i,ay l.toArray k i=true→(bA ((rs++rs').map (fH D nu s.o w0.heap.size)) i).p (x i) wr)→Region.wanted oo (yielded l.toArray (A x).tmps)=true) →
    ∃rs',gn P l.toArray ((rs++rs').map (fH D nu s.o w0.heap.size)) (BD (rs++rs')) w0 (lO P l.toArray R) (oo :: rest) k A:=by
   intro hd hw
   obtain ⟨r,hk',hr⟩:=gd hd
   rw [hI.o] at hk'
   obtain ⟨rs',hrel⟩:=fQ hm0 hB hs hR rest (k+1) _ (rs++[(r,none)]) _ ms (oo.dst.toList++ds) hl' hkm (hI.step hA hok r none (fun m h=>by cases h) _ (fun d h=>K6 _ h) (fun _ d h=>by rw [h];simp)) hk'
   rw [Jr,JY] at hrel
   refine ⟨(r,none) :: rs',(fun x wr hE hD _=> ?_),hrel⟩
   have hD':=hall _ _ x wr hD
   obtain ⟨r',rfl,hout⟩:=iE (P:=P) (nu:=nu) (D:=D) (w:=wr) (rho:=(A x).eval) (by rw [hI.o];exact hs.ro.below hE) (by rw [hI.o];exact hevs x wr hE hD') hr
   rw [enew,efr]
   refine gT.Dv (.inl ⟨hw x wr hE hD', ?_⟩)
   rw [hI.o] at hout
   revert hout
   generalize (execOp (A x).eval oo).run P wr=res
   intro hout
   cases res with
   | halt _ _=>exact hout.elim
   | ok n w'=>
    cases n<;>first|exact hout.elim|skip
    case value u=>exact ⟨⟨hout.1,fun m h=>by cases h⟩,hout.2⟩
    case skip=>exact ⟨⟨hout.1,fun m h=>by cases h⟩,hout.2⟩
    case enter f args=>
     refine Calls.mono hout fun e w'' he=> ?_
     obtain ⟨v,rfl,hv,hb⟩:=he
     exact ⟨v,rfl,⟨hv,fun m h=>by cases h⟩,hb⟩
  have hplain:(match oo.guard with
   | none=>cK P oo.op sk (fun r=>bS P l (l.drop m0) rest (k+1) (sk.put oo.dst r sk.o) ms (oo.dst.toList++ds) Q)
   | some (j,want)=>nU (gz l sk j) want (cK P oo.op sk (fun r=>bS P l (l.drop m0) rest (k+1) (sk.put oo.dst r sk.o) ms (oo.dst.toList++ds) Q)) (bS P l (l.drop m0) rest (k+1) (sk.put oo.dst (.v Go.undef) sk.o) ms (oo.dst.toList++ds) Q)) →
   ∃rs',gn P l.toArray ((rs++rs').map (fH D nu s.o w0.heap.size)) (BD (rs++rs')) w0 (lO P l.toArray R) (oo :: rest) k A:=by
   intro h
   split at h
   ·rename_i hg
    exact hdo h (fun x wr hE hD=>by simp [Region.wanted,hg])
   ·rename_i j want hg
    have hyv: ∀g,gz l sk j=some g→ ∀x wr,Below w0.heap.size w0 wr→(∀rs' i,ay l.toArray k i=true→(bA ((rs++rs').map (fH D nu s.o w0.heap.size)) i).p (x i) wr)→yielded l.toArray (A x).tmps j=g:=fun g hgv x wr hE hD=>
     ej (D:=D) (nu:=nu) (w:=wr) (fun d c v hd h1 h2=>by
      rw [hI.o]
      refine hlook x wr hE hD d c v ?_ h1 h2
      obtain ⟨og,q1,q2⟩:=hd
      refine K6 _ ?_
      simp only [hg,Jg,q1,Option.bind_some,q2]
      simp) (hI.size x) hgv
    have hskip:bS P l (l.drop m0) rest (k+1) (sk.put oo.dst (.v Go.undef) sk.o) ms (oo.dst.toList++ds) Q→(∀x wr,Below w0.heap.size w0 wr→(∀rs' i,ay l.toArray k i=true→(bA ((rs++rs').map (fH D nu s.o w0.heap.size)) i).p (x i) wr)→Region.wanted oo (yielded l.toArray (A x).tmps)=false) →
      ∃rs',gn P l.toArray ((rs++rs').map (fH D nu s.o w0.heap.size)) (BD (rs++rs')) w0 (lO P l.toArray R) (oo :: rest) k A:=by
     intro hk' hw
     rw [hI.o] at hk'
     obtain ⟨rs',hrel⟩:=fQ hm0 hB hs hR rest (k+1) _ (rs++[(.v Go.undef,none)]) _ ms (oo.dst.toList++ds) hl' hkm (hI.step hA hok (.v Go.undef) none (fun m h=>by cases h) _ (fun d h=>K6 _ h) (fun _ d h=>by rw [h];simp)) hk'
     rw [Jr,JY] at hrel
     refine ⟨(.v Go.undef,none) :: rs',(fun x wr hE hD _=> ?_),hrel⟩
     have hD':=hall _ _ x wr hD
     rw [enew,efr]
     refine gT.Dv (.inr ⟨hw x wr hE hD',⟨hs.ro.below hE, .v _⟩,fun m h=>by cases h⟩)
    unfold nU at h
    split at h
    ·rename_i b e
     cases hb:b==want
     ·rw [hb] at h
      exact hskip h (fun x wr hE hD=>by simp only [Region.wanted,hg,hyv _ e x wr hE hD];simpa using hb)
     ·rw [hb] at h
      exact hdo h (fun x wr hE hD=>by simp only [Region.wanted,hg,hyv _ e x wr hE hD];simpa using hb)
    ·rename_i e
     exact hskip h (fun x wr hE hD=>by simp only [Region.wanted,hg,hyv _ e x wr hE hD];rfl)
    ·exact h.elim
  simp only [bS] at h
  split at h
  ·rename_i T n c hop
   unfold z3 at h
   split at h
   ·rename_i d p e z nn zc hg hd haM
    obtain ⟨⟨hp,hlt⟩,h⟩:=h
    rw [hI.o] at h
    have hms:=hI.made hA hok (m:=⟨d,k,e,z,nn,zc,false⟩) rfl hd hlt
    rw [hd] at hms
    obtain ⟨rs',hrel⟩:=fQ hm0 hB hs hR rest (k+1) _ (rs++[(.undef,some ⟨d,k,e,z,nn,zc,false⟩)]) _ (ms++[⟨d,k,e,z,nn,zc,false⟩]) ds hl' hkm hms h
    rw [Jr,JY] at hrel
    refine ⟨(.undef,some ⟨d,k,e,z,nn,zc,false⟩) :: rs',(fun x wr hE hD _=> ?_),(by rw [hd];exact hrel)⟩
    have hD':=hall _ _ x wr hD
    have hev:=hevs x wr hE hD'
    rw [enew,efr]
    obtain ⟨v,w',h1,h2,h3⟩:=yB (P:=P) (w:=wr) (hev n (by rw [hop];simp [Op.operands])) (hev c (by rw [hop];simp [Op.operands])) haM hp d k
    refine .inl ⟨by simp [Region.wanted,hg], ?_⟩
    have hrun:(execOp (A x).eval oo).run P wr = .ok (.value v) w':=by
     simp only [execOp,hop,Sem.run_bind,h1,Result.andThen_ok,Sem.run_pure]
    rw [hrun]
    refine ⟨⟨⟨⟨(hs.ro.below hE).below h2, .undef _⟩,fun m hm=> ?_⟩,fun _ b hb=> ?_⟩,h2⟩
    ·cases hm
     obtain ⟨b,cap,cur,k1,k2,k3⟩:=h3
     exact ⟨b,cap,cur,k1,IW hE.size k2,k3⟩
    ·obtain ⟨b',cap,cur,k1,k2,k3⟩:=h3
     rw [k1,dL.oM] at hb;cases hb;exact k2
   ·exact h.elim
  ·rename_i T hop
   unfold z3 at h
   split at h
   ·rename_i d p e z nn zc hg hd haM
    obtain ⟨⟨hp,hlt⟩,h⟩:=h
    rw [hI.o] at h
    have hms:=hI.made hA hok (m:=⟨d,k,e,z,nn,zc,true⟩) rfl hd hlt
    rw [hd] at hms
    obtain ⟨rs',hrel⟩:=fQ hm0 hB hs hR rest (k+1) _ (rs++[(.undef,some ⟨d,k,e,z,nn,zc,true⟩)]) _ (ms++[⟨d,k,e,z,nn,zc,true⟩]) ds hl' hkm hms h
    rw [Jr,JY] at hrel
    refine ⟨(.undef,some ⟨d,k,e,z,nn,zc,true⟩) :: rs',(fun x wr hE hD _=> ?_),(by rw [hd];exact hrel)⟩
    have hD':=hall _ _ x wr hD
    have hev:=hevs x wr hE hD'
    rw [enew,efr]
    obtain ⟨v,w',h1,h2,h3⟩:=yQ (P:=P) (w:=wr) haM d k
    refine .inl ⟨by simp [Region.wanted,hg], ?_⟩
    have hrun:(execOp (A x).eval oo).run P wr = .ok (.value v) w':=by
     simp only [execOp,hop,Sem.run_bind,h1,Result.andThen_ok,Sem.run_pure]
    rw [hrun]
    refine ⟨⟨⟨⟨(hs.ro.below hE).below h2, .undef _⟩,fun m hm=> ?_⟩,fun _ b hb=> ?_⟩,h2⟩
    ·cases hm
     obtain ⟨b,cap,cur,k1,k2,k3⟩:=h3
     exact ⟨b,cap,cur,k1,IW hE.size k2,k3⟩
    ·obtain ⟨b',cap,cur,k1,k2,k3⟩:=h3
     rw [k1,dL.oM] at hb;cases hb;exact k2
   ·exact h.elim
  ·exact hplain h
theorem zB {n0 id:Nat} {s:AS} {l:List Oper} {Q:aH→AS→Prop} (m0:Nat) (hB:fj l.toArray m0=true) (hC:gO l.toArray=true) (h:bS P l (l.drop m0) (l.take m0) 0 s [] [] (Q .normal)):bZ P n0 (.region id l.toArray true) s Q:=by
 refine .inr (fun f m D nu a w hZr hn hm hs hmx R hO hR=> ?_)
 have hm0:m0≤l.length:=by
  simp only [fj,JL,decide_eq_true_eq,Jo] at hB
  exact Nat.le_of_lt hB.1.1.2
 obtain ⟨rs,hrel⟩:=fQ (P:=P) (R:=R) hm0 hB hs.drew (fun s' a' w' nu' h1 hy h2 h3=>hR .normal D f.Z s' a' w' nu' (by rw [hy];exact m.own hm hs.ro ((ax (b6 w)).trans h1) h2.ro) h2 h3) (l.take m0) 0 s [] (fun _=>a) [] [] (by simp) (Nat.zero_le _)
  ⟨⟨rfl,rfl,rfl,fun _=>rfl,fun _=>hs.tm.len,fun x t c v h1 h2=> .inl ⟨h1,h2⟩⟩,fun m hm=>by simp at hm,by simp,fun i r m hi=>by simp at hi,fun i oi d r hi=>by omega⟩ h
 refine jR hmx hC hO (iF _ _ (fun i v w1 hf hp b hb=> ?_) m0 hB hrel)
 simp only [List.nil_append] at hf hp
 unfold BD at hf
 split at hf
 ·rename_i r hr
  have hat:bA (rs.map (fH D nu s.o w.drew.heap.size)) i=fH D nu s.o w.drew.heap.size r:=by
   have:=jL (D:=D) (nu:=nu) (o:=s.o) (n0:=w.drew.heap.size) (rs:=rs) (rs':=[]) hr
   simpa using this
  rw [hat] at hp
  cases hr2:r.2 with
  | none=>rw [hr2] at hf;cases hf
  | some m=>
   obtain ⟨b',cap,cur,k1,k2,k3,k4⟩:=hp.2 m hr2
   rw [k1,dL.oM] at hb;cases hb
   exact (IY.1 k3).1
 ·cases hf
/-! ### a call that is given own rows: they are let go, and stay -/
theorem yL {s:AS} (i id:Nat) {len:Nat} {ob:ab} (hi:s.t[i]? = some (.vec id len)) (ho:s.o[id]? = some (some ob)) (hv:ob.eu=true) (hl:ob.rows.length=len):yx s (AS.mk (s.t.set i (.an ob.z ob.rows len)) (s.o.set id none) s.y):=by
 intro f D nu a w hs
 have hm:=iu (nu:=nu) (o:=s.o) (w:=w) id
 refine ⟨nu,hm,rfl,sQ hs.ro id,⟨by simpa using hs.tm.len,fun j c x h1 h2=> ?_⟩,hs.fR⟩
 by_cases hij:i=j
 ·subst hij
  rw [Jm (I0.1 hi).1] at h1
  cases h1
  have hr:=hs.tm.bA i _ x hi h2
  subst hl
  cases hr
  exact ly hs.ro ho hv
 ·rw [Jl hij] at h1
  exact (hs.tm.bA j c x h1 h2).mono hm (fun _ _ h=>h)
theorem oS {n0 i:Nat} {ops:Array Oper} {d:Bool} {s:AS} {Q:aH→AS→Prop} (h:bZ P n0 (.region i ops d) s Q):bZ P n0 (.region i ops d) s Q:=h
/-! ### its rules for the walk -/
theorem aK {all tail rest:List Oper} {oo:Oper} {k:Nat} {s:AS} {ms:List dL} {ds:List Tmp} {Q:AS→Prop} (he:(match oo.op with| .makeSlice .. =>false| .alloc .. =>false|_=>true)=true) (h: ∀K:AS→Prop,(∀s',bS P all tail rest (k+1) s' ms (oo.dst.toList++ds) Q→K s')→db P all oo s K):bS P all tail (oo :: rest) k s ms ds Q:=by
 have:=h _ (fun _ h=>h)
 unfold bS
 split
 ·rename_i heq;rw [heq] at he;cases he
 ·rename_i heq;rw [heq] at he;cases he
 ·exact this
theorem yW {all tail rest:List Oper} {d:Tmp} {T ty:TypeId} {pos:String} {aft:Array Edge} {k:Nat} {s:AS} {ms:List dL} {ds:List Tmp} {Q:AS→Prop} (h:z3 none (some d) s.t.length (zs P T) (fun d e z l zc=>bS P all tail rest (k+1) (s.put (some d) .undef s.o) (ms++[⟨d,k,e,z,l,zc,true⟩]) ds Q)):bS P all tail (⟨some d, .alloc T,ty,pos,aft,none⟩ :: rest) k s ms ds Q:=h
theorem zf {all tail rest:List Oper} {d:Tmp} {T ty:TypeId} {n c:Operand} {pos:String} {aft:Array Edge} {k:Nat} {s:AS} {ms:List dL} {ds:List Tmp} {Q:AS→Prop} (h:z3 none (some d) s.t.length (zH P T (s.ev n) (s.ev c)) (fun d e z l zc=>bS P all tail rest (k+1) (s.put (some d) .undef s.o) (ms++[⟨d,k,e,z,l,zc,false⟩]) ds Q)):bS P all tail (⟨some d, .makeSlice T n c,ty,pos,aft,none⟩ :: rest) k s ms ds Q:=h
theorem wO {all tail:List Oper} {k:Nat} {s:AS} {ms:List dL} {ds:List Tmp} {Q:AS→Prop} (h:er P all tail (ji ⟨rX ds s.t,s.o,s.y⟩ ms) Q):bS P all tail [] k s ms ds Q:=h
instance {all tail:List Oper} {k:Nat} {s:AS} {ms:List dL} {ds:List Tmp} {Q:AS→Prop}:ah (bS P all tail [] k s ms ds Q) (er P all tail (ji ⟨rX ds s.t,s.o,s.y⟩ ms) Q):=⟨wO⟩
instance {all tail rest:List Oper} {d:Tmp} {T ty:TypeId} {n c:Operand} {pos:String} {aft:Array Edge} {k:Nat} {s:AS} {ms:List dL} {ds:List Tmp} {Q:AS→Prop}:ah (bS P all tail (⟨some d, .makeSlice T n c,ty,pos,aft,none⟩ :: rest) k s ms ds Q)
 (z3 none (some d) s.t.length (zH P T (s.ev n) (s.ev c)) (fun d e z l zc=>bS P all tail rest (k+1) (s.put (some d) .undef s.o) (ms++[⟨d,k,e,z,l,zc,false⟩]) ds Q)):=⟨zf⟩
instance {all tail rest:List Oper} {d:Tmp} {T ty:TypeId} {pos:String} {aft:Array Edge} {k:Nat} {s:AS} {ms:List dL} {ds:List Tmp} {Q:AS→Prop}:ah (bS P all tail (⟨some d, .alloc T,ty,pos,aft,none⟩ :: rest) k s ms ds Q)
 (z3 none (some d) s.t.length (zs P T) (fun d e z l zc=>bS P all tail rest (k+1) (s.put (some d) .undef s.o) (ms++[⟨d,k,e,z,l,zc,true⟩]) ds Q)):=⟨yW⟩
end
attribute [go_sem] zU zs dL.av zH ji EA rX AV.y8 AV.flat dL.ob Option.toList_some Option.toList_none
end Go.Proofs.YtldnlbcibmmbbaaGreat
