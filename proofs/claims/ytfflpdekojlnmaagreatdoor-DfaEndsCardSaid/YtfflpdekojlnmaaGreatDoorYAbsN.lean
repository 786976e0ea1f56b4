/- texts of one claim, one behind the other. -/
import Derived.Test.YtfflpdekojlnmaaGreatDoorYAbsG
set_option linter.unusedSimpArgs false
set_option linter.unusedVariables false
set_option maxRecDepth 100000
set_option maxHeartbeats 16000000
open Array renaming getElem?_eq_some_iff -> WR, getElem?_append_left -> Xx, getElem?_append_right -> XV
open Bool renaming and_eq_true -> XK
open List renaming getElem?_map -> Xe, mem_of_getElem? -> Xw, getElem?_eq_some_iff -> WT, getElem?_eq_getElem -> Xb, getElem?_drop -> W9, append_assoc -> Xp, getElem?_append_left -> WU, getElem?_append_right -> Xr, getD_eq_getElem?_getD -> XR, getElem?_set_self -> Xj, getElem?_set_ne -> Xi, getElem?_toArray -> Xd, singleton_append -> XX, length_eq_one_iff -> XN, mem_cons_of_mem -> XW, length_cons -> WY, mem_cons_self -> XY, nodup_cons -> XZ, getElem?_of_mem -> Xk
open Nat renaming le_refl -> WN, zero_add -> XJ, lt_or_ge -> WV, le_trans -> WO
open Option.some renaming inj -> WL, injEq -> W7
open Prod.mk renaming injEq -> W8
open Option renaming map_some -> Xu, map_eq_some_iff -> XE
namespace Go.Proofs.YtfflpdekojlnmaaGreatDoor
open Go.RowKit
section
def ED (P:Program) (T:TypeId) (o:List (Option ab)) (a b:AV):Option (Prop×AV):=
 match lh P T,a with
 | some (_,z,bytes), .full (.aB z' rows len)=>match oF o z b with
  | some (p,rows2)=>some (z'=z∧p∧(len+rows2.length) * bytes<=70368744177664∧len+rows2.length<=70368744177664, .aB z (rows.take len++rows2) (len+rows2.length))
  | none=>none
 | some (_,z,bytes), .v (.slice none 0 0)=>match oF o z b with
  | some (p,rows2)=>some (p∧rows2.length * bytes<=70368744177664∧rows2.length<=70368744177664, .aB z rows2 rows2.length)
  | none=>none
 | _,_=>none
def Cy (P:Program) (ev:Operand->AV) (o:List (Option ab)):List Operand->List TypeId->Option (Prop×AV)
 | [x,y],[T,T']=>if T=T' then ED P T o (ev x) (ev y).st else none
 | _,_=>none
def CY (P:Program) (ev:Operand->AV) (o:List (Option ab)) (op:Op):Option (Prop×AV):=match op with
 | .buildSlice T len parts=>match fP P T len [] (parts.toList.map fun p=>(p.1,ev p.2)) with
  | some (_,[some ob])=>some (True, .aB ob.z ob.rows len)
  | _=>none
 | .box _ x=>match (ev x).cells? with
  | some cs=>some (True, .vp cs)
  | none=>none
 | .slice T x lo hi mx=>match (ev x).st with
  | .vec _ _=>none
  | a=>match oE P T o a (lo.map ev) (hi.map ev) (mx.map ev) with
   | some (p,r,_)=>some (p,r)
   | none=>none
 | .call c=>match c.callee with
  | .builtin .append=>Cy P ev o c.args.toList c.argTypes.toList
  | _=>yq P ev o (.call c)
 | op=>yq P ev o op
section
variable {D:Nat->Prop} {nu:Nat->Nat->Value} {o:List (Option ab)} {w:World} {P:Program}
theorem Dq (h:RO D nu o w) (ob:Obj):Fz D nu o (w.alloc ob) w.heap.size:=⟨by simp,fun ho=>by have:=h.bn ho;omega,h.up _ (WN _)⟩
theorem ji (w:World) (ob:Obj):Below w.heap.size w (w.alloc ob):=(Below.refl _ _).alloc (WN _) _
theorem RA.Ux {z len:Nat} {rows:List (List AV)} {v:Value} (h:RA D nu o w (.aB z rows len) v):RA D nu o w (.aB z (rows.take len) len) v:=by
 cases h with
 | bu=>simpa using RA.bu z
 | bL _ a=>simpa using RA.bL z a
 | aB _ _ _ b off cap f h1 h2 h3 h4 h5 h6 h7 h8=>
  have hg: ∀(i:Nat) row,(rows.take len)[i]? = some row->rows[i]? = some row:=fun i row hi=>by
   rw [List.getElem?_take] at hi
   split at hi
   ·exact hi
   ·cases hi
  exact .aB z _ len b off cap f (by simp;omega) (by simp;omega) h3 (fun hne=>h4 (fun e=>hne (by rw [e];simp))) (fun i row hi=>h5 i row (hg i row hi)) (fun i j row c hi=>h6 i j row c (hg i row hi)) (fun i j row c hi=>h7 i j row c (hg i row hi)) (fun i j row c hi=>h8 i j row c (hg i row hi))
theorem Cz {T:TypeId} (ty:TypeId) (h:RO D nu o w) {a b:AV} {x y:Value} (hr:RA D nu o w a x) (hs:RA D nu o w b y) {p:Prop} {r:AV} (hl:ED P T o a b=some (p,r)) (hp:p) :
  ∃v w',(Builtin.append_ #[T,T] ty #[x,y]).run P w = .ok v w'∧Below w.heap.size w w'∧RA D nu o w' r v:=by
 have main: ∀(e:TypeId) (z bytes:Nat) (rows:List (List AV)) (len:Nat) (p':Prop) (rows2:List (List AV)),lh P T=some (e,z,bytes)->RA D nu o w (.full (.aB z rows len)) x->oF o z b=some (p',rows2)->p'->(len+rows2.length) * bytes<=70368744177664->len+rows2.length<=70368744177664 ->
   ∃v w',(Builtin.append_ #[T,T] ty #[x,y]).run P w = .ok v w'∧Below w.heap.size w w'∧RA D nu o w' (.aB z (rows.take len++rows2) (len+rows2.length)) v:=by
  intro e z bytes rows len p' rows2 ht hr e2 hp' hby h63;obtain ⟨hu,i,zv,hi,_,_,hz0,_,_⟩:=ew ht
  by_cases hne:rows2=[]
  ·subst hne
   have hx:RA D nu o w (.aB z (rows.take len++[]) (len+([]:List (List AV)).length)) x:=by
    simp only [List.append_nil,List.length_nil,Nat.add_zero]
    cases hr with
    | full _ _ _ h2=>exact h2.Ux
   refine ⟨x,w, ?_, .refl _ _,hx⟩
   cases hr with
   | full _ _ h1 h2=>
   obtain ⟨ad,n,rfl⟩:=h1
   have hy: ∃q c,y = .slice q 0 c:=by
    rcases jP h hz0 hs e2 hp' with ⟨rfl,_⟩|⟨g,c,news,rfl,_⟩
    ·exact ⟨_,_,rfl⟩
    ·exact ⟨_,_,rfl⟩
   obtain ⟨q,c,rfl⟩:=hy;cases ad<;>cases q<;>simp [Builtin.append_,run_underlying hu,sizeOf,typeInfo,hi,Builtin.lenOf,Builtin.firstCells,loadCells,loadCellsFrom,storeCells]
  ·obtain ⟨cap,cur,hrun,hg,hlr,hc1,hc2,hcs⟩:=BM ty ht h hr hs e2 hp' hne hby h63;refine ⟨_,_,hrun,((Below.refl _ w).drew).alloc (WN _) _, ?_⟩;have hb:Below w.heap.size w w.drew:=(Below.refl _ _).drew;have hb':Below w.heap.size w (w.drew.alloc (.cells cur e)):=hb.alloc (WN _) _
   have hget: ∀(i j:Nat) row c,(rows.take len++rows2)[i]? = some row->row[j]? = some c->cur[i * z+j]? = some (cur.getD (i * z+j) Go.undef):=fun i j row c k1 k2=>by
    obtain ⟨x,q1,_⟩:=hg.cell i j row c k1 k2
    have:=(WR.1 q1).1
    simp [Array.getD,this]
   have hfz:Fz D nu o (w.drew.alloc (.cells cur e)) w.heap.size:=Dq (h.below hb) _
   refine .aB z _ _ _ 0 cap (fun i j=>cur.getD (i * z+j) Go.undef) (by omega) (by omega) hc2 (fun _=>hfz) hg.row (fun i j row c k1 k2=> ?_) (fun i j row c k1 k2=> ?_) (fun i j row c k1 k2=> ?_)
   ·rw [<-hget i j row c k1 k2,XJ];exact cell_of_row _ _ _ _ _ _ (heap_alloc_new w.drew _)
   ·obtain ⟨x,q1,q2,_⟩:=hg.cell i j row c k1 k2
    have:=hget i j row c k1 k2
    rw [q1] at this;rw [<-WL this];exact q2.mono (ay hb') (fun _ _ h=>h)
   ·obtain ⟨x,q1,_,q3⟩:=hg.cell i j row c k1 k2
    have:=hget i j row c k1 k2
    rw [q1] at this;rw [<-WL this];exact q3
 unfold ED at hl
 split at hl
 ·rename_i e z bytes z' rows len ht
  split at hl
  ·rename_i p' rows2 e2;cases hl;obtain ⟨rfl,hp',hby,h63⟩:=hp;exact main e z' bytes rows len p' rows2 ht hr e2 hp' hby h63
  ·cases hl
 ·rename_i e z bytes ht
  split at hl
  ·rename_i p' rows2 e2;cases hl;obtain ⟨hp',hby,h63⟩:=hp
   have hr':RA D nu o w (.full (.aB z [] 0)) x:=by
    obtain rfl:=hr.c6;exact .full _ _ ⟨_,_,rfl⟩ (.bu z)
   have:=main e z bytes [] 0 p' rows2 ht hr' e2 hp' (by simpa using hby) (by simpa using h63)
   simpa using this
  ·cases hl
 ·cases hl
theorem F0 {ev:Operand->AV} {rho:Operand->Value} {oo:Oper} (h:RO D nu o w) (hev:Ir D nu o w ev rho oo.op) {p:Prop} {r:AV} (ha:CY P ev o oo.op=some (p,r)) (hp:p) :
  ∃v w',(execOp rho oo).run P w = .ok (.value v) w'∧Below w.heap.size w w'∧RA D nu o w' r v:=by
 unfold CY at ha
 split at ha
 ·rename_i T len parts hop
  split at ha
  ·rename_i r' ob hb;cases ha
   obtain ⟨e,z,rows,ys,_,h2,h3,hz0,hlm,hys,hg,hrun⟩:=K2 (D:=D) (nu:=nu) (o:=o) (w:=w) (P:=P) (vs:=parts.map fun (i,x)=>(i,rho x)) (by simp) (fun k p q a b=>by
    rw [Xe] at a;rw [Array.getElem?_map] at b
    have e:parts.toList[k]? = parts[k]? :=by simp
    rw [e] at a
    cases hk:parts[k]? with
    | none=>rw [hk] at a;cases a
    | some pr=>
     rw [hk] at a b;cases a;cases b
     exact ⟨rfl,hev pr.2 (by
      rw [hop];simp only [Op.operands]
      have:pr∈parts.toList:=Xw (by rw [e];exact hk)
      simpa using ⟨pr.1,by simpa using this⟩)⟩) hb
   simp only [List.nil_append,List.cons.injEq,W7,and_true] at h2;subst h2
   have hrun':((do pure (Next.value (<-Instr.buildSlice T len (parts.map fun (i,x)=>(i,rho x)))):Sem Next)).run P w = .ok (.value (.slice (some ⟨w.heap.size,0,none⟩) len len)) (w.alloc (.cells ys e)):=by rw [Sem.run_bind,hrun];rfl
   refine ⟨_,_,by simpa only [execOp,hop] using hrun',ji _ _, ?_⟩
   have hget: ∀(i j:Nat) row c,rows[i]? = some row->row[j]? = some c->ys[i * z+j]? = some (ys.getD (i * z+j) Go.undef):=fun i j row c k1 k2=>by
    obtain ⟨x,q1,_⟩:=hg.cell i j row c k1 k2
    have:=(WR.1 q1).1
    simp [Array.getD,this]
   refine .aB z rows len _ 0 len (fun i j=>ys.getD (i * z+j) Go.undef) (by omega) (by omega) (by unfold maxLen;omega) (fun _=>Dq h _) hg.row (fun i j row c k1 k2=> ?_) (fun i j row c k1 k2=> ?_) (fun i j row c k1 k2=> ?_)
   ·rw [<-hget i j row c k1 k2,XJ];exact cell_of_row _ _ _ _ _ _ (heap_alloc_new w _)
   ·obtain ⟨x,q1,q2,_⟩:=hg.cell i j row c k1 k2
    have:=hget i j row c k1 k2
    rw [q1] at this;rw [<-WL this];exact q2.mono (ay (ji w _)) (fun _ _ h=>h)
   ·obtain ⟨x,q1,_,q3⟩:=hg.cell i j row c k1 k2
    have:=hget i j row c k1 k2
    rw [q1] at this;rw [<-WL this];exact q3
  ·cases ha
 ·rename_i T x hop;have hx:=hev x (by rw [hop];simp [Op.operands])
  split at ha
  ·rename_i cs hc;cases ha;have hcs:=hx.one hc;refine ⟨.pointer (some ⟨w.heap.size,0,none⟩),w.alloc (.cells (rho x).cells T),by simp [execOp,hop,Instr.box,newVar,newRow],ji _ _, ?_⟩
   have hget: ∀(j:Nat) c,cs[j]? = some c->(rho x).cells[j]? = some ((rho x).cells.getD j Go.undef):=fun j c k=>by
    have:=(WT.1 k).1
    have hl:=hcs.len;simp [Array.getD,show j<(rho x).cells.size by omega]
   refine .vp cs _ 0 (fun j=>(rho x).cells.getD j Go.undef) (Dq h _) (fun j c k=> ?_) (fun j c k=> ?_) (fun j c k=> ?_)
   ·rw [<-hget j c k,XJ];exact cell_of_row _ _ _ _ _ _ (heap_alloc_new w _)
   ·exact (hcs.at' j c _ k (hget j c k)).mono (ay (ji w _)) (fun _ _ h=>h)
   ·exact hcs.one j _ (hget j c k)
  ·cases ha
 ·rename_i T x lo hi mx hop
  split at ha
  ·cases ha
  ·rename_i hne
   split at ha
   ·rename_i p' r' o' hb;cases ha;obtain ⟨v,h1,h2,_⟩:=vv (P:=P) (hev x (by rw [hop];simp [Op.operands])).st (kX (rho:=rho) (fun y hy=>hev y (by rw [hop,hy];simp [Op.operands]))) (kX (rho:=rho) (fun y hy=>hev y (by rw [hop,hy];simp [Op.operands]))) (kX (rho:=rho) (fun y hy=>hev y (by rw [hop,hy];simp [Op.operands]))) hb hp (fun id len e=>hne id len e);refine ⟨v,w, ?_, .refl _ _,h2⟩;simp only [execOp,hop,Sem.run_bind,h1,Result.andThen_ok,Sem.run_pure]
   ·cases ha
 ·rename_i c hop
  split at ha
  ·rename_i hc;have hops: ∀x,x∈c.args.toList->RA D nu o w (ev x) (rho x):=fun x hx=>hev x (by rw [hop];simp only [Op.operands,Call.operands,hc];simpa using hx);obtain ⟨callee,args,argTypes⟩:=c;simp only at hc ha hops;subst hc;obtain ⟨args⟩:=args;obtain ⟨argTypes⟩:=argTypes;simp only at ha hops;unfold Cy at ha
   split at ha
   ·rename_i x y T T'
    split at ha
    ·rename_i hT;subst hT;obtain ⟨v,w',h1,h2,h3⟩:=Cz (P:=P) oo.type h (hops x (by simp)) (hops y (by simp)).st ha hp;exact ⟨v,w',by simp [execOp,hop,resolve,invoke,builtin,h1],h2,h3⟩
    ·cases ha
   ·cases ha
  ·obtain ⟨v,h1,h2⟩:=kK (P:=P) h hev (by rw [hop];exact ha) hp;exact ⟨v,w,h1, .refl _ _,h2⟩
 ·obtain ⟨v,h1,h2⟩:=kK (P:=P) h hev ha hp;exact ⟨v,w,h1, .refl _ _,h2⟩
def Et (x:Option (Prop×AV)) (K:AV->Prop):Prop:=match x with
 | some (p,r)=>p∧K r
 | none=>False
@[congr] theorem Q7 {x y:Option (Prop×AV)} {K:AV->Prop} (h:x=y):Et x K=Et y K:=by rw [h]
theorem Io (p:Prop) (r:AV) (K:AV->Prop):Et (some (p,r)) K=(p∧K r):=rfl
theorem Ip (r:AV) (K:AV->Prop):Et (some (True,r)) K=K r:=by simp [Et]
mutual
def gY (o:List (Option ab)):Nat->AV->Option (Prop×AV)
 | 0,_=>none
 | _+1, .vec id len=>match o[id]? with
  | some (some ob)=>some (ob.gw=true∧ob.rows.length=len∧bj 0 ob.rows=true, .aB ob.z ob.rows len)
  | _=>none
 | n+1, .ptr id len z row off=>match o[id]? with
  | some (some ob)=>match gk o n (ob.rows.getD row []) with
   | some (p,cs)=>some (p∧ob.hl=len∧ob.z=z∧row<ob.rows.length, .vp (cs.drop off))
   | none=>none
  | _=>none
 | n+1, .agg cs=>match gk o n cs with
  | some (p,cs')=>some (p, .agg cs')
  | none=>none
 | n+1, .fn g fi ca=>match gk o n fi,gk o n ca with
  | some (p,fi'),some (q,ca')=>some (p∧q, .fn g fi' ca')
  | _,_=>none
 | n+1, .cI cs=>match gk o n cs with
  | some (p,cs')=>some (p, .cI cs')
  | none=>none
 | n+1, .full b=>match gY o n b with
  | some (p,b')=>some (p, .full b')
  | none=>none
 | n+1, .kF q b=>match gY o n b with
  | some (p,b')=>some (p, .kF q b')
  | none=>none
 | _+1,a=>some (a.wf 0=true,a)
def gk (o:List (Option ab)):Nat->List AV->Option (Prop×List AV)
 | 0,_=>none
 | _+1,[]=>some (True,[])
 | n+1,a :: l=>match gY o n a,gk o n l with
  | some (p,b),some (q,m)=>some (p∧q,b :: m)
  | _,_=>none
end
theorem kR (h:RO D nu o w): ∀(n:Nat),(∀(a:AV) (x:Value) (p:Prop) (r:AV),gY o n a=some (p,r)->p->RA D nu o w a x->RA D nu [] w r x) ∧
  (∀(l:List AV) (p:Prop) (m:List AV),gk o n l=some (p,m)->p->l.length=m.length∧ ∀(i:Nat) a b x,l[i]? = some a->m[i]? = some b->RA D nu o w a x->RA D nu [] w b x)
 | 0=>⟨fun a x p r he=>by simp [gY] at he,fun l p m he=>by simp [gk] at he⟩
 | n+1=>by
  have hF: ∀id ob g cur,o[id]? = some (some ob)->zP D nu o w id ob g cur->Fz D nu [] w g:=fun id ob g cur _ hb=>⟨(WR.1 hb.fl).1,bb _ _,hb.nY⟩;have hFz: ∀b,Fz D nu o w b->Fz D nu [] w b:=fun b hb=>⟨hb.1,bb _ _,hb.2.2⟩;obtain ⟨ih1,ih2⟩:=kR h n;have cl: ∀(a:AV) (x:Value),a.wf 0=true->RA D nu o w a x->RA D nu [] w a x:=fun a x ha hr=>hr.tr (n:=0) hFz (fun id len hlt=>by omega) ha
  constructor
  ·intro a x p r he hp hr
   cases a with
   | vec id len=>
    simp only [gY] at he
    split at he
    ·rename_i ob ho;cases he;obtain ⟨hv,rfl,hw⟩:=hp;cases hr;exact (l5 h ho hv).tr (n:=0) (fun b hb=>⟨hb.1,bb _ _,hb.2.2⟩) (fun id len hlt=>by omega) (by simpa only [AV.wf] using hw)
    ·cases he
   | ptr id len z row off=>
    simp only [gY] at he
    split at he
    ·rename_i ob ho
     split at he
     ·rename_i q cs e;cases he;obtain ⟨hq,rfl,rfl,hlt⟩:=hp;obtain ⟨hl,hall⟩:=ih2 _ _ _ e hq
      cases hr with
      | ptr _ _ _ _ _ b h1 h2=>
      rcases h.obj id ob ho with ⟨e1,e2,e3⟩|⟨g,cur,hb⟩|⟨g,es,cl,hmp⟩
      rotate_left 2
      ·exact absurd h2 (hmp.Kt (WN _))
      ·rw [e2] at hlt;simp at hlt
      ·rw [hb.pE] at h2;cases h2;have hrow:ob.rows[row]? = some ob.rows[row]:=Xb hlt;rw [getD_some hrow] at hl hall
       have hget: ∀(j:Nat) c,cs[j]? = some c-> ∃c0,ob.rows[row][j]? = some c0∧cur[row * ob.z+j]? = some (cur.getD (row * ob.z+j) Go.undef):=fun j c hc=>by
        have hj:j<ob.rows[row].length:=by rw [hl];exact (WT.1 hc).1
        have:=hb.pI hrow hj
        exact ⟨_,Xb hj,by simp [Array.getD,this]⟩
       refine .vp _ b _ (fun j=>cur.getD (row * ob.z+(off+j)) Go.undef) (hF id ob b cur ho hb) (fun j c hc=> ?_) (fun j c hc=> ?_) (fun j c hc=> ?_)
       ·rw [W9] at hc;obtain ⟨c0,k1,k2⟩:=hget _ c hc;rw [<-k2,show row * ob.z+off+j=row * ob.z+(off+j) by omega];exact cell_of_row _ _ _ _ _ _ hb.fl
       ·rw [W9] at hc;obtain ⟨c0,k1,k2⟩:=hget _ c hc;exact hall _ c0 c _ k1 hc (hb.cell row _ _ c0 _ hrow k1 k2)
       ·rw [W9] at hc;obtain ⟨c0,k1,k2⟩:=hget _ c hc;exact hb.one row _ _ c0 _ hrow k1 k2
     ·cases he
    ·cases he
   | agg cs=>
    simp only [gY] at he
    split at he
    ·rename_i q cs' e;cases he;obtain ⟨hl,hall⟩:=ih2 _ _ _ e hp
     cases hr with
     | agg _ xs h1 h2 h3=>
      refine .agg _ _ (by omega) (fun i c x q1 q2=> ?_) h3
      have hi:i<cs.length:=by rw [hl];exact (WT.1 q1).1
      exact hall i _ c x (Xb hi) q1 (h2 i _ x (Xb hi) q2)
    ·cases he
   | cI cs=>
    simp only [gY] at he
    split at he
    ·rename_i q cs' e;cases he;obtain ⟨hl,hall⟩:=ih2 _ _ _ e hp
     cases hr with
     | cI _ xs h1 h2=>
      refine .cI _ _ (by omega) (fun i c x q1 q2=> ?_)
      have hi:i<cs.length:=by rw [hl];exact (WT.1 q1).1
      exact hall i _ c x (Xb hi) q1 (h2 i _ x (Xb hi) q2)
    ·cases he
   | full b=>
    simp only [gY] at he
    split at he
    ·rename_i q b' e;cases he
     cases hr with
     | full _ _ h1 h2=>exact .full _ _ h1 (ih1 _ _ _ _ e hp h2)
    ·cases he
   | kF q b=>
    simp only [gY] at he
    split at he
    ·rename_i q' b' e;cases he
     cases hr with
     | kF _ _ _ S h0 h1 hc h2 h3=>exact .kF _ _ _ S h0 (fun b hb=>hFz b (h1 b hb)) hc h2 (ih1 _ _ _ _ e hp h3)
    ·cases he
   | fn g fi ca=>
    simp only [gY] at he
    split at he
    ·rename_i q fi' q' ca' e1 e2;cases he;obtain ⟨hl1,hall1⟩:=ih2 _ _ _ e1 hp.1;obtain ⟨hl2,hall2⟩:=ih2 _ _ _ e2 hp.2
     cases hr with
     | fn _ _ _ xf xc h1 h2 h3 h4=>
      refine .fn _ _ _ _ _ (by omega) (by omega) (fun i c x q1 q2=> ?_) (fun i c x q1 q2=> ?_)
      ·have hi:i<fi.length:=by rw [hl1];exact (WT.1 q1).1
       exact hall1 i _ c x (Xb hi) q1 (h3 i _ x (Xb hi) q2)
      ·have hi:i<ca.length:=by rw [hl2];exact (WT.1 q1).1
       exact hall2 i _ c x (Xb hi) q1 (h4 i _ x (Xb hi) q2)
    ·cases he
   | _=>simp only [gY,W7,W8] at he;obtain ⟨rfl,rfl⟩:=he;exact cl _ x hp hr
  ·intro l p m he hp
   cases l with
   | nil=>
    simp only [gk,W7,W8] at he;obtain ⟨rfl,rfl⟩:=he;exact ⟨rfl,fun i a b x h=>by simp at h⟩
   | cons a l=>
    simp only [gk] at he
    split at he
    ·rename_i q b q' m' e1 e2;cases he;obtain ⟨h1,h2⟩:=ih2 _ _ _ e2 hp.2;refine ⟨by simp [h1],fun i a' b' x k1 k2 hr=> ?_⟩
     cases i with
     | zero=>simp at k1 k2;subst k1;subst k2;exact ih1 _ x _ _ e1 hp.1 hr
     | succ i=>exact h2 i a' b' x (by simpa using k1) (by simpa using k2) hr
    ·cases he
theorem De {f:FuncId} {args args':List AV} {r:AV} {vargs:Array Value} (hc:aq P f args' r) {n:Nat} {p:Prop} (hz:gk o n args=some (p,args')) (hp:p) (hf:r.flat=true) (h:RO D nu o w) (ha:gb D nu o w args vargs) :
  Calls P f vargs w (fun e w'=> ∃v,e = .returned v∧Below w.heap.size w w'∧RA D nu o w' r v):=by
 obtain ⟨hl,hall⟩:=(kR h n).2 _ _ _ hz hp
 refine (hc.2.2 (fun _=>True) nu w vargs (.nil _ _ _ (fun _ _=>trivial) (h.gl.nil (fun _ _ _=>trivial))) ⟨by rw [<-hl];exact ha.len,fun i c x q1 q2=> ?_⟩).mono ?_
 ·have hi:i<args.length:=by rw [hl];exact (WT.1 q1).1
  exact (hall i _ c x (Xb hi) q1 (ha.at' i _ x (Xb hi) q2)).mono (.refl _ _ _) (fun _ _ _=>trivial)
 ·rintro e w' ⟨v,nu',o',r',rfl,hm,hro,hra,rfl,rfl⟩;exact ⟨v,rfl,gC hm,hra.flat hf⟩
def RJ (P:Program) (f:FuncId) (args:List AV) (o:List (Option ab)) (r:AV):Prop:=e9 P f=true∧ ∀D nu w vargs,RO D nu o w->gb D nu o w args vargs->Calls P f vargs w (fun e w'=> ∃v,e = .returned v∧Below w.heap.size w w'∧RA D nu o w' r v)
def aE (P:Program) (f:FuncId) (args:List AV) (o:List (Option ab)) (K:AV->Prop):Prop:= ∃r,RJ P f args o r∧K r
@[congr] theorem L6 {f:FuncId} {args args':List AV} {K:AV->Prop} (h:args=args'):aE P f args o K=aE P f args' o K:=by rw [h]
theorem aE.one {f:FuncId} {args:List AV} {r:AV} {K:AV->Prop} (h:aq P f args r) (k:K r):aE P f args o K:=⟨r,⟨h.2.1,fun _ _ _ _ h1 h2=>oJ h h1 h2⟩,k⟩
theorem aE.GD {f:FuncId} {args args':List AV} {r:AV} {K:AV->Prop} (h:aq P f args' r) (n:Nat) {p:Prop} (hz:gk o n args=some (p,args')) (hp:p) (hf:r.flat=true) (k:K r):aE P f args o K:=⟨r,⟨h.2.1,fun _ _ _ _ h1 h2=>De h hz hp hf h1 h2⟩,k⟩
def Cq (P:Program) (f:AV) (args:List AV) (o:List (Option ab)) (K:AV->Prop):Prop:=match f with
 | .fn g first caps=>aE P g (first++args++caps) o K
 | _=>False
@[congr] theorem Py {f f':AV} {args args':List AV} {K:AV->Prop} (h:f=f') (k:args=args'):Cq P f args o K=Cq P f' args' o K:=by rw [h,k]
theorem L9 (g:FuncId) (first caps args:List AV) (K:AV->Prop):Cq P (.fn g first caps) args o K=aE P g (first++args++caps) o K:=rfl
def bZ (P:Program) (op:Op) (s:AS) (K:AV->Prop):Prop:=match op with
 | .pick c a b=>match s.ev c with
  | .v (.bool t)=>bD t (K (s.ev a)) (K (s.ev b))
  | _=>False
 | .call c=>match c.callee with
  | .value f=>Cq P (s.ev f) (c.args.toList.map s.ev) s.o K
  | _=>Et (CY P s.ev s.o (.call c)) K
 | op=>Et (CY P s.ev s.o op) K
theorem fQ {s:AS} {rho:Operand->Value} {oo:Oper} {K:AV->Prop} (h:RO D nu s.o w) (hev:Ir D nu s.o w s.ev rho oo.op) (hd:bZ P oo.op s K) :
  ∃r,K r∧vV P ⟨fun v w=>RO D nu s.o w∧RA D nu s.o w r v,fun _ _ _ hb hh=>⟨hh.1.below hb,hh.2.mono (ay hb) (fun _ _ h=>h)⟩⟩ w ((execOp rho oo).run P w):=by
 have hop: ∀op,oo.op=op->Et (CY P s.ev s.o op) K-> ∃r,K r∧vV P ⟨fun v w=>RO D nu s.o w∧RA D nu s.o w r v,fun _ _ _ hb hh=>⟨hh.1.below hb,hh.2.mono (ay hb) (fun _ _ h=>h)⟩⟩ w ((execOp rho oo).run P w):=by
  intro op ho hh;subst ho;unfold Et at hh
  split at hh
  ·rename_i p r e;obtain ⟨v,w',h1,h2,h3⟩:=F0 (P:=P) h hev e hh.1;rw [h1];exact ⟨r,hh.2,⟨h.below h2,h3⟩,h2⟩
  ·exact hh.elim
 unfold bZ at hd
 split at hd
 ·rename_i c x y ho;have hc:=hev c (by rw [ho];simp [Op.operands])
  split at hd
  ·rename_i t e;rw [e] at hc;have hcv:=hc.c6
   have hrun:(execOp rho oo).run P w = .ok (.value (if t then rho x else rho y)) w:=by simp [execOp,ho,hcv,asBool]
   rw [hrun]
   cases t
   ·exact ⟨_,hd,⟨h,hev y (by rw [ho];simp [Op.operands])⟩, .refl _ _⟩
   ·exact ⟨_,hd,⟨h,hev x (by rw [ho];simp [Op.operands])⟩, .refl _ _⟩
  ·exact hd.elim
 ·rename_i c ho
  split at hd
  ·rename_i f hc;unfold Cq at hd
   split at hd
   ·rename_i g first caps e
    obtain ⟨r,hcall,hk⟩:=hd
    
    have key: ∀(K':AV->List (Option ab)->Prop),aa P g (first++c.args.toList.map s.ev++caps) s.o K'->zJ P oo.op s K':=fun K' hh=>by
     unfold zJ;rw [ho];simp only [hc,Pw,e];exact hh
    have hf:=hev f (by rw [ho];simp [Op.operands,Call.operands,hc]);rw [e] at hf;generalize hq:rho f=vf at hf
    cases hf with
    | fn _ _ _ fi ca q1 q2 q3 q4=>
    have hargs: ∀x,x∈c.args.toList->RA D nu s.o w (s.ev x) (rho x):=fun x hx=>hev x (by rw [ho];simp only [Op.operands,Call.operands,hc];simp;exact .inr (by simpa using hx))
    have hra:gb D nu s.o w (first++c.args.toList.map s.ev++caps) (fi++c.args.map rho++ca):=by
     refine ⟨by simp [q1,q2],fun i cc x k1 k2=> ?_⟩;rw [Xp] at k1;rw [Array.append_assoc] at k2
     rcases WV i first.length with l1|l1
     ·rw [WU l1] at k1;rw [Xx (by omega)] at k2;exact q3 i cc x k1 k2
     ·rw [Xr l1] at k1;rw [XV (by omega)] at k2;rw [q1] at k1
      rcases WV (i - fi.size) c.args.size with l2|l2
      ·rw [WU (by simpa using l2),Xe] at k1;rw [Xx (by simpa using l2),Array.getElem?_map] at k2
       have e2:c.args.toList[i - fi.size]? = c.args[i - fi.size]? :=by simp
       rw [e2] at k1
       cases hk2:c.args[i - fi.size]? with
       | none=>rw [hk2] at k1;cases k1
       | some y=>
        rw [hk2] at k1 k2;cases k1;cases k2;exact hargs y (Xw (by rw [e2];exact hk2))
      ·rw [Xr (by simpa using l2)] at k1;rw [XV (by simpa using l2)] at k2;simp only [List.length_map,Array.length_toList,Array.size_map] at k1 k2;exact q4 _ cc x k1 k2
    have fin: ∀(hok:e9 P g=true) (hcalls:Calls P g (fi++c.args.map rho++ca) w (fun e w'=> ∃v,e = .returned v∧Below w.heap.size w w'∧RA D nu s.o w' r v)), ∃r,K r∧vV P ⟨fun v w=>RO D nu s.o w∧RA D nu s.o w r v,fun _ _ _ hb hh=>⟨hh.1.below hb,hh.2.mono (ay hb) (fun _ _ h=>h)⟩⟩ w ((execOp rho oo).run P w):=by
     intro hok hcalls
     have hrun:(execOp rho oo).run P w = .ok (.enter g (fi++c.args.map rho++ca)) w:=by
      simp only [execOp,ho,resolve,hc,hq,Deferred.ofValue,Sem.run_bind,Sem.run_pure,Result.andThen_ok,invoke];exact jq hok _ w
     rw [hrun];refine ⟨r,hk,hcalls.mono ?_⟩;rintro e w' ⟨v,rfl,hb,hr⟩;exact ⟨v,rfl,⟨h.below hb,hr⟩,hb⟩
    exact fin hcall.1 (hcall.2 D nu w _ h hra)
   ·exact hd.elim
  ·exact hop _ ho hd
 ·exact hop _ rfl hd
theorem gm {s:AS} {op:Op} {K:AV->Prop} (h:bZ P op s K): ∃r,K r∧bZ P op s (fun r'=>r'=r):=by
 have one: ∀x:Option (Prop×AV),Et x K-> ∃r,K r∧Et x (fun r'=>r'=r):=fun x hx=>by
  unfold Et at hx
  split at hx
  ·rename_i p r;exact ⟨r,hx.2,hx.1,rfl⟩
  ·exact hx.elim
 unfold bZ at h ⊢
 split at h
 ·rename_i c a b
  split at h
  ·rename_i t e
   cases t
   ·exact ⟨_,h,rfl⟩
   ·exact ⟨_,h,rfl⟩
  ·exact h.elim
 ·rename_i c
  split at h
  ·rename_i f hc;unfold Cq at h ⊢
   split at h
   ·rename_i g first caps e
    obtain ⟨r,h1,h2⟩:=h;exact ⟨r,h2,r,h1,rfl⟩
   ·exact h.elim
  ·exact one _ h
 ·exact one _ h
def fj (P:Program) (all:List Oper):List Oper->AS->(AS->Prop)->Prop
 | [],_,_=>False
 | [oo],s,Q=>match oo.guard with
  | none=>zJ P oo.op s (fun r o'=>Q (s.put oo.dst r o'))
  | some _=>False
 | oo :: rest,s,Q=>match oo.guard with
  | none=>bZ P oo.op s (fun r=>fj P all rest (s.put oo.dst r s.o) Q)
  | some (j,want)=>vS (jk all s j) want (bZ P oo.op s (fun r=>fj P all rest (s.put oo.dst r s.o) Q)) (fj P all rest (s.put oo.dst (.v Go.undef) s.o) Q)
@[congr] theorem OJ {all ops:List Oper} {s s':AS} {Q:AS->Prop} (h:s=s'):fj P all ops s Q=fj P all ops s' Q:=by rw [h]
def cN (D:Nat->Prop) (nu:Nat->Nat->Value) (o:List (Option ab)) (r:AV):Spec:=⟨fun v w=>RO D nu o w∧RA D nu o w r v,fun _ _ _ hb hh=>⟨hh.1.below hb,hh.2.mono (ay hb) (fun _ _ h=>h)⟩⟩
theorem jY {rs rs':List AV} {i:Nat} {r:AV} (h:rs[i]? = some r):at' ((rs++rs').map (cN D nu o)) i=cN D nu o r:=by
 have hlt:=(WT.1 h).1;unfold at';rw [XR,Xe,WU hlt,h]
 rfl
theorem jZ {rs rs':List AV} {r:AV}:at' ((rs++r :: rs').map (cN D nu o)) rs.length=cN D nu o r:=by
 unfold at';rw [XR,Xe,Xr (WN _),Nat.sub_self]
 rfl
structure FM (l:List Oper) (s:AS) (a:Act) (k:Nat) (sk:AS) (rs:List AV) (A:(Nat->Value)->Act):Prop where
 o:sk.o=s.o
 y:sk.y=s.y
 len:rs.length=k
 jj: ∀x,(A x).defers=a.defers
 size: ∀x,sk.t.length=(A x).tmps.size
 val: ∀x (t:Nat) c v,sk.t[t]? = some c->(A x).tmps[t]? = some v->(s.t[t]? = some c∧a.tmps[t]? = some v)∨ ∃i,i<k∧(∃oi,l[i]? = some oi∧oi.dst=some t)∧rs[i]? = some c∧v=x i
theorem FM.step {l:List Oper} {s:AS} {a:Act} {k:Nat} {sk:AS} {rs:List AV} {A:(Nat->Value)->Act} (h:FM l s a k sk rs A) {oo:Oper} (ho:l[k]? = some oo) (r:AV) :
  FM l s a (k+1) (sk.put oo.dst r s.o) (rs++[r]) (fun x=>(A x).put oo.dst (x k)):=by
 refine ⟨rfl,h.y,by simp [h.len],fun x=> ?_,fun x=> ?_,fun x t c v h1 h2=> ?_⟩
 ·have:=h.jj x;cases oo.dst<;>simpa [Act.put] using this
 ·have:=h.size x;cases oo.dst<;>simpa [Act.put,AS.put] using this
 ·have old:sk.t[t]? = some c->(A x).tmps[t]? = some v->(s.t[t]? = some c∧a.tmps[t]? = some v)∨ ∃i,i<k+1∧(∃oi,l[i]? = some oi∧oi.dst=some t)∧(rs++[r])[i]? = some c∧v=x i:=by
   intro h1 h2
   rcases h.val x t c v h1 h2 with h3|⟨i,q1,q2,q3,q4⟩
   ·exact .inl h3
   ·exact .inr ⟨i,by omega,q2,by rw [WU (by rw [h.len];exact q1)];exact q3,q4⟩
  cases hd:oo.dst with
  | none=>rw [hd] at h1 h2;exact old h1 h2
  | some d=>
   rw [hd] at h1 h2;simp only [AS.put,Act.put] at h1 h2
   by_cases hdt:d=t
   ·subst hdt;have hlt:=(WT.1 h1).1;simp only [List.length_set] at hlt;rw [Xj hlt] at h1;rw [Array.getElem?_setIfInBounds_self_of_lt (by have:=h.size x;omega)] at h2;cases h1;cases h2;exact .inr ⟨k,by omega,⟨oo,ho,hd⟩,by rw [Xr (by rw [h.len];exact WN _),h.len,Nat.sub_self];rfl,rfl⟩
   ·rw [Xi hdt] at h1;rw [Array.getElem?_setIfInBounds_ne hdt] at h2;exact old h1 h2
theorem Ho {l:List Oper} (hB:BB l.toArray=true) {i j:Nat} {oi oj:Oper} (hij:i<j) (hi:l[i]? = some oi) (hj:l[j]? = some oj):aG l.toArray j i=true∨ ∀d,oi.dst=some d->d∉oj.looksAt l.toArray:=by
 simp only [BB,XK,List.all_eq_true,List.mem_range,List.size_toArray] at hB
 have:=(hB.2 j (WT.1 hj).1).1.1 i hij
 simp only [KB,Xd,hi,hj,XK,Bool.or_eq_true] at this
 rcases this.1.1.1 with h|h
 ·exact .inl h
 ·exact .inr (fun d hd=>(Oper.apart_spec h).1 d hd)
theorem oG {f:Fr} {l:List Oper} (hB:BB l.toArray=true) {s:AS} {a:Act} {w0:World} {Q:AS->Prop} {R:Exit->Act->World->Prop} (hs:RS f D nu s a w0)
  (hR: ∀s' a' w' nu',bK nu s.o w0 nu' s'.o w'->s'.y=s.y->RS f D nu' s' a' w'->Q s'->R .normal a' w') :
  ∀(rest:List Oper) (k:Nat) (sk:AS) (rs:List AV) (A:(Nat->Value)->Act),l.drop k=rest->FM l s a k sk rs A->fj P l rest sk Q-> ∃rs',lS P l.toArray ((rs++rs').map (cN D nu s.o)) w0 R rest k A
 | [],_,_,_,_,_,_,h=>h.elim
 | [oo],k,sk,rs,A,hl,hI,h=>by
  refine ⟨[],BC (fun x wr hE hD=> ?_)⟩
  have hg:oo.guard=none:=by
   simp only [fj] at h
   split at h
   ·assumption
   ·exact h.elim
  simp only [fj,hg] at h;have hro:RO D nu s.o wr:=hs.ro.below hE
  have hsk:RS f D nu sk (A x) wr:=by
   refine ⟨by rw [hI.o];exact hro,⟨hI.size x,fun t c v h1 h2=> ?_⟩,by rw [hI.jj x];exact hs.jj.mono hs.ro (ay hE)⟩;rw [hI.o]
   rcases hI.val x t c v h1 h2 with ⟨h3,h4⟩|⟨i,q1,q2,q3,q4⟩
   ·exact (hs.tm.at' t c v h3 h4).mono (ay hE) (fun _ _ h=>h)
   ·have:=hD i q1
    rw [jY q3] at this;rw [q4];exact this.2
  refine ⟨by simp [Region.wanted,hg],tu (P:=P) hsk.ro (fun y _=>hsk.ev y) h (fun v w' nu' r o' m1 m2 m3 m4=>hR (sk.put oo.dst r o') _ w' nu' ?_ hI.y (hsk.put m1 m2 m3 oo.dst) m4)⟩
  have:bK nu s.o w0 nu sk.o wr:=by rw [hI.o];exact ay hE
  simpa only [AS.put] using this.trans m1
 | oo :: o2 :: rest,k,sk,rs,A,hl,hI,h=>by
  have hok:l[k]? = some oo:=by have:=congrArg (fun m=>m[0]?) hl;simpa using this
  have hl':l.drop (k+1)=o2 :: rest:=by have:=congrArg List.tail hl;simpa using this
  
  have hlook: ∀x wr,Below w0.heap.size w0 wr->(∀rs' i,aG l.toArray k i=true->i<k->(at' ((rs++rs').map (cN D nu s.o)) i).p (x i) wr)-> ∀(t:Nat) c v,t∈oo.looksAt l.toArray->sk.t[t]? = some c->(A x).tmps[t]? = some v->RA D nu s.o wr c v:=by
   intro x wr hE hD t c v ht h1 h2
   rcases hI.val x t c v h1 h2 with ⟨h3,h4⟩|⟨i,q1,⟨oi,q2,q5⟩,q3,q4⟩
   ·exact (hs.tm.at' t c v h3 h4).mono (ay hE) (fun _ _ h=>h)
   ·rcases Ho hB q1 q2 hok with h5|h5
    ·have:=hD [] i h5 q1
     rw [jY q3] at this;rw [q4];exact this.2
    ·exact absurd ht (h5 t q5)
  have hevs: ∀x wr,Below w0.heap.size w0 wr->(∀rs' i,aG l.toArray k i=true->i<k->(at' ((rs++rs').map (cN D nu s.o)) i).p (x i) wr)->Ir D nu s.o wr sk.ev (A x).eval oo.op:=by
   intro x wr hE hD y hy
   cases y with
   | tmp t=>
    simp only [AS.ev,Act.eval]
    rcases WV t sk.t.length with hlt|hge
    ·have e1:sk.t[t]? = some sk.t[t]:=Xb hlt
     have hlt':t<(A x).tmps.size:=by rw [<-hI.size x];exact hlt
     have hx:(A x).tmps[t]? = some (A x).tmps[t]:=Array.getElem?_eq_getElem hlt';rw [getD_some e1]
     have:(A x).tmps.getD t Go.undef=(A x).tmps[t]:=by simp [Array.getD,hlt']
     rw [this];exact hlook x wr hE hD t _ _ (List.mem_append_left _ (List.mem_filterMap.2 ⟨.tmp t,hy,rfl⟩)) e1 hx
    ·rw [XR,List.getElem?_eq_none hge];exact .undef _
   | const v=>exact .v v
   | global gi=>exact (nE hs.ro sk gi).mono (ay hE) (fun _ _ h=>h)
   | func f=>exact .fn f [] [] #[] #[] rfl rfl (fun i c x h=>by simp at h) (fun i c x h=>by simp at h)
  
  have hdo:bZ P oo.op sk (fun r=>fj P l (o2 :: rest) (sk.put oo.dst r sk.o) Q)->(∀x wr,Below w0.heap.size w0 wr->(∀rs' i,aG l.toArray k i=true->i<k->(at' ((rs++rs').map (cN D nu s.o)) i).p (x i) wr)->Region.wanted oo (yielded l.toArray (A x).tmps)=true) ->
    ∃rs',lS P l.toArray ((rs++rs').map (cN D nu s.o)) w0 R (oo :: o2 :: rest) k A:=by
   intro hd hw;obtain ⟨r,hk,hr⟩:=gm hd;rw [hI.o] at hk;obtain ⟨rs',hrel⟩:=oG hB hs hR (o2 :: rest) (k+1) _ (rs++[r]) _ hl' (hI.step hok r) hk;rw [Xp,XX] at hrel;refine ⟨r :: rs',si (fun x wr hE hD=> ?_) hrel⟩
   have hD': ∀rs'' i,aG l.toArray k i=true->i<k->(at' ((rs++rs'').map (cN D nu s.o)) i).p (x i) wr:=fun rs'' i h1 h2=>by
    have h3:=hD i h1
    have h5:i<rs.length:=by rw [hI.len];exact h2
    have h4:rs[i]? = some rs[i]:=Xb h5;rw [jY h4] at h3 ⊢;exact h3
   obtain ⟨r',rfl,hout⟩:=fQ (P:=P) (nu:=nu) (D:=D) (w:=wr) (rho:=(A x).eval) (by rw [hI.o];exact hs.ro.below hE) (by rw [hI.o];exact hevs x wr hE hD') hr;have e:=jZ (D:=D) (nu:=nu) (o:=s.o) (rs:=rs) (rs':=rs') (r:=r');rw [hI.len] at e;refine .inl ⟨hw x wr hE hD', ?_⟩;rw [e];rw [hI.o] at hout;exact hout
  simp only [fj] at h
  split at h
  ·rename_i hg;exact hdo h (fun x wr hE hD=>by simp [Region.wanted,hg])
  ·rename_i j want hg
   have hyv: ∀g,jk l sk j=some g-> ∀x wr,Below w0.heap.size w0 wr->(∀rs' i,aG l.toArray k i=true->i<k->(at' ((rs++rs').map (cN D nu s.o)) i).p (x i) wr)->yielded l.toArray (A x).tmps j=g:=fun g hgv x wr hE hD=>
    ig (D:=D) (nu:=nu) (w:=wr) (fun d c v hd h1 h2=>by
     rw [hI.o];refine hlook x wr hE hD d c v ?_ h1 h2;obtain ⟨og,q1,q2⟩:=hd;refine List.mem_append_right _ ?_;simp only [hg,Xd,q1,Option.bind_some,q2]
     simp) (hI.size x) hgv
   have hskip:fj P l (o2 :: rest) (sk.put oo.dst (.v Go.undef) sk.o) Q->(∀x wr,Below w0.heap.size w0 wr->(∀rs' i,aG l.toArray k i=true->i<k->(at' ((rs++rs').map (cN D nu s.o)) i).p (x i) wr)->Region.wanted oo (yielded l.toArray (A x).tmps)=false) ->
     ∃rs',lS P l.toArray ((rs++rs').map (cN D nu s.o)) w0 R (oo :: o2 :: rest) k A:=by
    intro hk hw;rw [hI.o] at hk;obtain ⟨rs',hrel⟩:=oG hB hs hR (o2 :: rest) (k+1) _ (rs++[.v Go.undef]) _ hl' (hI.step hok (.v Go.undef)) hk;rw [Xp,XX] at hrel;refine ⟨.v Go.undef :: rs',si (fun x wr hE hD=> ?_) hrel⟩
    have hD': ∀rs'' i,aG l.toArray k i=true->i<k->(at' ((rs++rs'').map (cN D nu s.o)) i).p (x i) wr:=fun rs'' i h1 h2=>by
     have h3:=hD i h1
     have h5:i<rs.length:=by rw [hI.len];exact h2
     have h4:rs[i]? = some rs[i]:=Xb h5;rw [jY h4] at h3 ⊢;exact h3
    have e:=jZ (D:=D) (nu:=nu) (o:=s.o) (rs:=rs) (rs':=rs') (r:= .v Go.undef);rw [hI.len] at e;refine .inr ⟨hw x wr hE hD', ?_⟩;rw [e];exact ⟨hs.ro.below hE, .v _⟩
   unfold vS at h
   split at h
   ·rename_i b e
    cases hb:b==want
    ·rw [hb] at h;exact hskip h (fun x wr hE hD=>by simp only [Region.wanted,hg,hyv _ e x wr hE hD];simpa using hb)
    ·rw [hb] at h;exact hdo h (fun x wr hE hD=>by simp only [Region.wanted,hg,hyv _ e x wr hE hD];simpa using hb)
   ·rename_i e;exact hskip h (fun x wr hE hD=>by simp only [Region.wanted,hg,hyv _ e x wr hE hD];rfl)
   ·exact h.elim
end
end
section
inductive bd where
 | normal
 | exit (id:Nat)
 | goto (l:Nat)
 | ret
def bd.real:bd->Exit
 | .normal=> .normal
 | .exit id=> .exit id
 | .goto l=> .goto l
 | .ret=> .ret
def dv (n:Nat):List AV->List AV->Prop
 | [],[]=>True
 | a :: l,c :: m=>(c = .undef∨(a=c∧c.wf n=true))∧dv n l m
 | _,_=>False
def ku (n:Nat):List (Option ab)->List (Option ab)->Prop
 | _,[]=>True
 | x :: l,y :: m=>(y=none∨(x=y∧ ∀ob,y=some ob->bj n ob.rows=true))∧ku n l m
 | [],_ :: _=>False
structure Wk (n0:Nat) (s s':AS):Prop where
 t:dv s'.o.length s.t s'.t
 o:ku s'.o.length s.o s'.o
 n:n0<=s'.o.length
 y:s.y=s'.y
theorem ya {n:Nat}: ∀ {l m:List AV},dv n l m->l.length=m.length∧ ∀(i:Nat) c,m[i]? = some c->c = .undef∨(l[i]? = some c∧c.wf n=true)
 | [],[],_=>⟨rfl,fun i c h=>by simp at h⟩
 | a :: l,b :: m,h=>by
  obtain ⟨h1,h2⟩:=ya h.2;refine ⟨by simp [h1],fun i c hc=> ?_⟩
  cases i with
  | zero=>simp at hc;subst hc;exact h.1.imp id (fun q=>⟨by simp [q.1],q.2⟩)
  | succ i=>simpa using h2 i c (by simpa using hc)
 | [],_ :: _,h=>h.elim
 | _ :: _,[],h=>h.elim
theorem x9 {n:Nat}: ∀ {l m:List (Option ab)},ku n l m->m.length<=l.length∧ ∀(i:Nat) c,m[i]? = some c->c=none∨(l[i]? = some c∧ ∀ob,c=some ob->bj n ob.rows=true)
 | l,[],_=>⟨by simp,fun i c h=>by simp at h⟩
 | a :: l,b :: m,h=>by
  obtain ⟨h1,h2⟩:=x9 h.2;refine ⟨by simp [h1],fun i c hc=> ?_⟩
  cases i with
  | zero=>simp at hc;subst hc;exact h.1.imp id (fun q=>⟨by simp [q.1],q.2⟩)
  | succ i=>simpa using h2 i c (by simpa using hc)
 | [],_ :: _,h=>h.elim
section
variable {D:Nat->Prop} {nu:Nat->Nat->Value} {o:List (Option ab)} {w:World} {P:Program}
theorem ll {n0:Nat} {s s':AS} (h:Wk n0 s s'):n0<=s'.o.length∧(∀(id:Nat) ob,s'.o[id]? = some (some ob)->s.o[id]? = some (some ob))∧(∀id len,id<s'.o.length->dr s.o id len->dr s'.o id len):=by
 obtain ⟨o1,o2⟩:=x9 h.o
 have alive: ∀(id:Nat) ob,s'.o[id]? = some (some ob)->s.o[id]? = some (some ob):=fun id ob hh=>by
  rcases o2 id _ hh with e|⟨e,f⟩
  ·cases e
  ·exact e
 refine ⟨h.n,alive,fun id len hlt hh=> ?_⟩;obtain ⟨ob,k1,k2⟩:=hh;have e:s'.o[id]? = some s'.o[id]:=Xb hlt;refine ⟨_,e,fun x hx=> ?_⟩;rw [hx] at e;have e1:=alive id x e;rw [e1] at k1;cases k1;exact k2 x rfl
theorem Cg {f:Fr} {n0:Nat} {s s':AS} {a:Act} {D':Nat->Prop} (h:Wk n0 s s') (hs:RS f D nu s a w) (hd1: ∀b,Fz D nu s.o w b->D' b) (hd2: ∀b,owned nu s'.o b->D' b) (hd3: ∀b,w.heap.size<=b->D' b):RS f D' nu s' a w:=by
 obtain ⟨t1,t2⟩:=ya h.t;obtain ⟨o1,o2⟩:=x9 h.o;obtain ⟨_,al,hd⟩:=ll h
 have alive: ∀(id:Nat) ob,s'.o[id]? = some (some ob)->s.o[id]? = some (some ob)∧bj s'.o.length ob.rows=true:=fun id ob hh=>by
  rcases o2 id _ hh with e|⟨e,f⟩
  ·cases e
  ·exact ⟨e,f ob rfl⟩
 have hown: ∀b,owned nu s'.o b->owned nu s.o b:=fun b ⟨id,ob,h1,h2⟩=>⟨id,ob,(alive id ob h1).1,h2⟩;have hF: ∀b,Fz D nu s.o w b->Fz D' nu s'.o w b:=fun b hb=>⟨hb.1,fun ho=>hb.2.1 (hown b ho),hd1 b hb⟩;have hH: ∀id len,id<s'.o.length->dr s.o id len->dr s'.o id len∧nu id len=nu id len:=fun id len hlt hh=>⟨hd id len hlt hh,rfl⟩
 refine ⟨⟨fun id ob ho=> ?_,hd3,fun i1 i2 b1 b2 b k1 k2=>hs.ro.sep i1 i2 b1 b2 b (alive _ _ k1).1 (alive _ _ k2).1,hs.ro.gl.fz (fun b hf=>⟨rfl,hF b hf⟩)⟩,⟨?_,fun i c x h1 h2=> ?_⟩,hs.jj⟩
 ·obtain ⟨e1,e2⟩:=alive id ob ho
  rcases hs.ro.obj id ob e1 with e|⟨g,cur,hr⟩|⟨g,es,cl,hmp⟩
  ·exact .inl e
  ·exact .inr (.inl ⟨g,cur,hr.fl,hd2 g ⟨id,ob,ho,hr.bF⟩,hr.box,hr.vec,hr.z,hr.row,fun i j row c x q1 q2 q3=>(hr.cell i j row c x q1 q2 q3).tr hF hH (bX (jv e2 q1) q2),hr.one⟩)
  ·exact .inr (.inr ⟨g,es,cl,hmp.tr rfl (fun _=>hd2 g ⟨id,ob,ho,hmp.bF⟩) rfl (fun i j row c x q1 q2 hr=>hr.tr hF hH (bX (jv e2 q1) q2))⟩)
 ·rw [<-t1];exact hs.tm.len
 ·rcases t2 i c h1 with rfl|⟨e,f⟩
  ·exact .undef x
  ·exact (hs.tm.at' i c x e h2).tr hF hH f
theorem jy {f:Fr} {n0:Nat} {s s':AS} {a:Act} (h:Wk n0 s s') (hs:RS f D nu s a w):RS f D nu s' a w:=
 Cg h hs (fun b hb=>hb.2.2) (fun b ⟨id,ob,h1,h2⟩=>hs.ro.lz ⟨id,ob,(ll h).2.1 id ob h1,h2⟩) hs.ro.up
theorem Wk.VC {D':Nat->Prop} {n0:Nat} {s s':AS} (h:Wk n0 s s') (hd: ∀b,Fz D nu s.o w b->D' b) {c:AV} {v:Value} (hr:RA D nu s.o w c v) (hc:c.wf s'.o.length=true):RA D' nu s'.o w c v:=by
 obtain ⟨_,h2,h3⟩:=ll h;exact hr.tr (fun b hb=>⟨hb.1,fun ⟨id,ob,k1,k2⟩=>hb.2.1 ⟨id,ob,h2 id ob k1,k2⟩,hd b hb⟩) (fun id len hlt hh=>⟨h3 id len hlt hh,rfl⟩) hc
theorem Wk.ra {n0:Nat} {s s':AS} (h:Wk n0 s s') {c:AV} {v:Value} (hr:RA D nu s.o w c v) (hc:c.wf s'.o.length=true):RA D nu s'.o w c v:=h.VC (fun b hb=>hb.2.2) hr hc
theorem Wk.uM {n0:Nat} {s s':AS} {Z:Nat->Prop} (h:Wk n0 s s'):EC Z nu s.o w nu s'.o w:=by
 obtain ⟨h1,h2,h3⟩:=ll h;exact ⟨rfl,rfl,rfl,WN _,fun id len hlt hh=>⟨h3 id len hlt hh,rfl⟩,fun b hb hno _=>⟨rfl,fun ⟨id,ob,k1,k2⟩=>hno ⟨id,ob,h2 id ob k1,k2⟩⟩⟩
theorem Wk.mono {n0:Nat} {s s':AS} (h:Wk n0 s s') {nu0:Nat->Nat->Value} {o0:List (Option ab)} {w0:World} (hn:o0.length<=n0) (hm:bK nu0 o0 w0 nu s.o w):bK nu0 o0 w0 nu s'.o w:=by
 obtain ⟨h1,h2,h3⟩:=ll h
 refine ⟨hm.os,hm.tape,hm.output,hm.size,fun id len hh=> ?_,fun b hb hno=> ?_⟩
 ·obtain ⟨q1,q2⟩:=hm.sI id len hh;have hlt:=jI hh;exact ⟨h3 id len (by omega) q1,q2⟩
 ·obtain ⟨q1,q2⟩:=hm.keep b hb hno;exact ⟨q1,fun ⟨id,ob,k1,k2⟩=>q2 ⟨id,ob,h2 id ob k1,k2⟩⟩
inductive Gs (s:AS):AS->Prop
 | refl:Gs s s
 | step (i:Nat) (T:TypeId) (z:Nat) (s1:AS):Gs s s1->s1.t[i]? = some (.v (.slice none 0 0))->0<z->Gs s ⟨s1.t.set i (.vec s1.o.length 0),s1.o++[some ⟨T,z,true,[]⟩],s1.y⟩
theorem Nc {f:Fr} {s s':AS} {a:Act} (h:Gs s s') (hs:RS f D nu s a w): ∃nu',bK nu s.o w nu' s'.o w∧s'.y=s.y∧RS f D nu' s' a w:=by
 induction h with
 | refl=>exact ⟨nu, .refl _ _ _,rfl,hs⟩
 | step i T z s1 _ hi hz ih=>
  obtain ⟨nu1,hm1,hy1,hs1⟩:=ih
  have hv: ∀b,cX (Value.slice none 0 0)=some b->w.heap.size<=b:=fun b e=>by cases e
  have hp:=ik (nu:=nu1) (o:=s1.o) (ob:=⟨T,z,true,[]⟩) (Below.refl w.heap.size w) hv;refine ⟨ju nu1 s1.o.length (.slice none 0 0),hm1.trans hp,hy1,⟨nL hs1.ro (Below.refl _ _) hv (.inl ⟨rfl,rfl,rfl⟩), ?_,hs1.jj⟩⟩;have ht:=hs1.tm.mono hp (fun _ _ h=>h);refine ⟨by simpa using ht.len,fun j c x h1 h2=> ?_⟩
  by_cases hij:i=j
  ·subst hij;rw [Xj (WT.1 hi).1] at h1;cases h1
   have:=(ht.at' i _ x hi h2).c6
   subst this
   have:=RA.vec (D:=D) (nu:=ju nu1 s1.o.length (.slice none 0 0)) (o:=s1.o++[some ⟨T,z,true,[]⟩]) (w:=w) s1.o.length 0 ⟨_,List.getElem?_concat_length,fun x hx=>Nat.zero_le _⟩ (by rw [b6];rfl)
   rw [b6] at this;exact this
  ·rw [Xi hij] at h1;exact ht.at' j c x h1 h2
def Cn (c:AV) (A B:Prop):Prop:=match c with
 | .v (.bool t)=>bD t A B
 | _=>False
@[congr] theorem Pt {c c':AV} {A B:Prop} (h:c=c'):Cn c A B=Cn c' A B:=by rw [h]
theorem FG (t:Bool) (A B:Prop):Cn (.v (.bool t)) A B=bD t A B:=rfl
def Es (n0:Nat) (step:AS->(bd->AS->Prop)->Prop) (s:AS) (Q:bd->AS->Prop):Prop:=
 ∃I:Nat->AS->Prop,(∃m s1 s2,Gs s s1∧Wk n0 s1 s2∧I m s2) ∧
  ∀m s1,I m s1->step s1 (fun e s2=>match e with
   | .normal=> ∃m' s3,Wk n0 s2 s3∧I m' s3∧m'<m
   | e=>Q e s2)
@[congr] theorem OL {n0:Nat} {step:AS->(bd->AS->Prop)->Prop} {s s':AS} {Q:bd->AS->Prop} (h:s=s'):Es n0 step s Q=Es n0 step s' Q:=by rw [h]
def Cr (P:Program) (n0:Nat) (c:Code) (s:AS) (Q:bd->AS->Prop):Prop:=
 ∀(f:Fr) (m:WM P) (D:Nat->Prop) (nu:Nat->Nat->Value) (a:Act) (w:World),(∀l,f.r=some l->m.fix l)->m.n0<=n0->m.M D nu s.o f.Z s.y w->RS f D nu s a w->P.follows .mixedOrders=true-> ∀R:Exit->Act->World->Prop,(∀a w, ¬R .outgrown a w) ->
  (∀e D' Z' s' a' w' nu',m.M D' nu' s'.o Z' s'.y w'->RS (f.wz Z') D' nu' s' a' w'->Q e s'->R e.real a' w')->c.wpIn (WF f.r) 9 P R a w
def cm (P:Program) (n0:Nat):Code->AS->(bd->AS->Prop)->Prop
 | .skip,s,Q=>Q .normal s
 | .region i ops d,s,Q=>if d then (BB ops=true∧fj P ops.toList ops.toList s (Q .normal))∨Cr P n0 (.region i ops d) s Q else kG P ops.toList ops.toList s (Q .normal)∨Cr P n0 (.region i ops d) s Q
 | .seq a b,s,Q=>cm P n0 a s (fun e s'=>match e with
  | .normal=>cm P n0 b s' Q
  | e=>Q e s')∨Cr P n0 (.seq a b) s Q
 | .cond c a b,s,Q=>Cn (s.ev c) (cm P n0 a s Q) (cm P n0 b s Q)
 | .block id c,s,Q=>cm P n0 c s (fun e s'=>match e with
  | .exit i=>if i=id then Q .normal s' else Q (.exit i) s'
  | e=>Q e s')
 | .loop c,s,Q=>Es n0 (cm P n0 c) s Q
 | .rangeFunc g ps x y,s,Q=>Cr P n0 (.rangeFunc g ps x y) s Q
 | .exit id,s,Q=>Q (.exit id) s
 | .scope c,s,Q=>cm P n0 c s (fun e s'=>match e with
  | .goto _=>False
  | e=>Q e s')
 | .label _,s,Q=>Q .normal s
 | .goto l,s,Q=>Q (.goto l) s
 | .ret,s,Q=>Q .ret s
 | .refuse _,_,_=>False
@[congr] theorem Q8 {n0:Nat} {c:Code} {s s':AS} {Q:bd->AS->Prop} (h:s=s'):cm P n0 c s Q=cm P n0 c s' Q:=by rw [h]
def bT:Code->Bool
 | .region _ ops d=>dw ops
 | .seq a b=>bT a&&bT b
 | .cond _ a b=>bT a&&bT b
 | .block _ c=>bT c
 | .loop c=>bT c
 | .scope c=>bT c
 | .rangeFunc .. =>true
 | .refuse _=>false
 | _=>true
theorem RS.drew {f:Fr} {s:AS} {a:Act} (h:RS f D nu s a w):RS f D nu s a w.drew:=⟨h.ro.below (cC w),h.tm.mono (ay (cC w)) (fun _ _ h=>h),h.jj.mono h.ro (ay (cC w))⟩
theorem Je {ops:Array Oper} (h:dw ops=true): ∀oo,oo∈ops.toList-> ∀c,oo.op ≠ .defer c:=fun oo ho c e=>by
 unfold dw at h;rw [Array.all_eq_true_iff_forall_mem] at h
 have:=h oo (by simpa using ho)
 rw [e] at this;cases this
theorem gq (hmx:P.follows .mixedOrders=true) {f:Fr} (m:WM P) (hZr: ∀l,f.r=some l->m.fix l) {n0:Nat} (hn:m.n0<=n0): ∀(c:Code),bT c=true-> ∀(s:AS) (a:Act) (w:World) (D:Nat->Prop) (nu:Nat->Nat->Value) (Z:Nat->Prop) (Q:bd->AS->Prop) (R:Exit->Act->World->Prop),
  (∀a w, ¬R .outgrown a w)->m.M D nu s.o Z s.y w->RS (f.wz Z) D nu s a w->cm P n0 c s Q->(∀e D' Z' s' a' w' nu',m.M D' nu' s'.o Z' s'.y w'->RS (f.wz Z') D' nu' s' a' w'->Q e s'->R e.real a' w')->c.wpIn (WF f.r) 9 P R a w:=by
 intro c
 induction c with
 | skip=>exact fun _ s a w D nu Z Q R _ hm hs hq hR=>wpIn_skip (hR .normal D Z s a w nu hm hs hq)
 | region id ops d=>
  intro hok s a w D nu Z Q R hO hm hs hq hR
  cases d
  ·simp only [cm,Bool.false_eq_true,if_false] at hq
   rcases hq with hq|hq
   case inr=>exact hq (f.wz Z) m D nu a w hZr hn hm hs hmx R hO hR
   exact wpIn_region_list (by
    have:=kL (f:=f.wz Z) m hZr (all:=ops.toList) ops.toList s a w D nu (Je hok) hm hs hq (fun D' s' a' w' nu' h1 h2 h3=>hR .normal D' Z s' a' w' nu' h1 h2 h3)
    simpa [Fr.wz] using this)
  ·obtain ⟨l⟩:=ops;simp only [cm,if_true] at hq
   rcases hq with ⟨hB,hq⟩|hq
   case inr=>exact hq (f.wz Z) m D nu a w hZr hn hm hs hmx R hO hR
   obtain ⟨rs,hrel⟩:=oG (P:=P) (R:=R) hB hs.drew (fun s' a' w' nu' h1 hy h2 h3=>hR .normal D Z s' a' w' nu' (by rw [hy];exact m.own hm hs.ro ((ay (cC w)).trans h1) h2.ro) h2 h3) l 0 s [] (fun _=>a) (by simp) ⟨rfl,rfl,rfl,fun _=>rfl,fun _=>hs.tm.len,fun x t c v h1 h2=> .inl ⟨h1,h2⟩⟩ hq;exact nt hmx hok hO (tx _ hB hrel)
 | seq x y ihx ihy=>
  intro hok s a w D nu Z Q R hO hm hs hq hR
  rcases hq with hq|hq
  case inr=>exact hq (f.wz Z) m D nu a w hZr hn hm hs hmx R hO hR
  simp only [bT,XK] at hok;refine wpIn_seq (ihx hok.1 s a w D nu Z _ _ (fun a w h=>hO a w h) hm hs hq (fun e D' Z' s' a' w' nu' h1 h2 h3=> ?_))
  cases e with
  | normal=>exact ihy hok.2 s' a' w' D' nu' Z' Q R hO h1 h2 h3 hR
  | exit i=>exact hR (.exit i) D' Z' s' a' w' nu' h1 h2 h3
  | goto i=>exact hR (.goto i) D' Z' s' a' w' nu' h1 h2 h3
  | ret=>exact hR .ret D' Z' s' a' w' nu' h1 h2 h3
 | cond c x y ihx ihy=>
  intro hok s a w D nu Z Q R hO hm hs hq hR;simp only [bT,XK] at hok;simp only [cm,Cn] at hq
  split at hq
  ·rename_i t e;have hc:=hs.ev c;rw [e] at hc;refine wpIn_cond hc.c6 ?_
   cases t
   ·exact ihy hok.2 s a w D nu Z Q R hO hm hs hq hR
   ·exact ihx hok.1 s a w D nu Z Q R hO hm hs hq hR
  ·exact hq.elim
 | block id c ih=>
  intro hok s a w D nu Z Q R hO hm hs hq hR;refine wpIn_block (ih hok s a w D nu Z _ _ (fun a w h=>hO a w h) hm hs hq (fun e D' Z' s' a' w' nu' h1 h2 h3=> ?_))
  cases e with
  | normal=>exact hR .normal D' Z' s' a' w' nu' h1 h2 h3
  | exit i=>
   simp only [bd.real,Exit.inBlock];simp only at h3
   split
   ·rename_i hi;rw [if_pos hi] at h3;exact hR .normal D' Z' s' a' w' nu' h1 h2 h3
   ·rename_i hi;rw [if_neg hi] at h3;exact hR (.exit i) D' Z' s' a' w' nu' h1 h2 h3
  | goto i=>exact hR (.goto i) D' Z' s' a' w' nu' h1 h2 h3
  | ret=>exact hR .ret D' Z' s' a' w' nu' h1 h2 h3
 | loop c ih=>
  intro hok s a w D nu Z Q R hO hm hs hq hR;obtain ⟨I,⟨k,s1,s2,hg,hw,hI⟩,hround⟩:=hq;obtain ⟨nu1,hm1,hy1,hs1⟩:=Nc hg hs;have hs2:=jy hw hs1
  have Ox: ∀ {D nu Z s3 s4 a w},Wk n0 s3 s4->m.M D nu s3.o Z s3.y w->RS (f.wz Z) D nu s3 a w->m.M D nu s4.o Z s4.y w:=fun {D nu Z s3 s4 a w} hk hm hs=>by
   rw [<-hk.y];exact m.step hm hs.ro hk.uM (jy hk hs).ro (fun c v hr hc=>hk.ra hr hc) (fun _ h=> .inl h) (fun _ h=> .inl h) (fun b hb=>⟨((m.pd hm).1 b hb).1,((m.pd hm).1 b hb).2, .inl hb⟩) (WO hn hk.n)
  have hM1:m.M D nu1 s1.o Z s1.y w:=by rw [hy1];exact m.own hm hs.ro hm1 hs1.ro
  refine wo (fun k a w=> ∃s D nu Z,I k s∧m.M D nu s.o Z s.y w∧RS (f.wz Z) D nu s a w) (m:=k) ⟨s2,D,nu1,Z,hI,Ox hw hM1 hs1,hs2⟩ ?_;rintro k a w ⟨s,D,nu,Z,hI,hm,hs⟩;refine ih hok s a w D nu Z _ _ (fun a w h=>hO a w h) hm hs (hround k s hI) (fun e D' Z' s' a' w' nu' h1 h2 h3=> ?_)
  cases e with
  | normal=>
   obtain ⟨m',s3,k1,k2,k3⟩:=h3;exact ⟨m',⟨s3,D',nu',Z',k2,Ox k1 h1 h2,jy k1 h2⟩,k3⟩
  | exit i=>exact hR (.exit i) D' Z' s' a' w' nu' h1 h2 h3
  | goto i=>exact hR (.goto i) D' Z' s' a' w' nu' h1 h2 h3
  | ret=>exact hR .ret D' Z' s' a' w' nu' h1 h2 h3
 | rangeFunc g ps x y _ _=>exact fun _ s a w D nu Z Q R hO hm hs hq hR=>hq (f.wz Z) m D nu a w hZr hn hm hs hmx R hO hR
 | exit id=>exact fun _ s a w D nu Z Q R _ hm hs hq hR=>wpIn_exit (hR (.exit id) D Z s a w nu hm hs hq)
 | scope c ih=>
  intro hok s a w D nu Z Q R hO hm hs hq hR;refine Ep (ih hok s a w D nu Z _ _ (fun a w h=>hO a w h) hm hs hq (fun e D' Z' s' a' w' nu' h1 h2 h3=> ?_))
  cases e with
  | normal=>exact hR .normal D' Z' s' a' w' nu' h1 h2 h3
  | exit i=>exact hR (.exit i) D' Z' s' a' w' nu' h1 h2 h3
  | goto i=>exact h3.elim
  | ret=>exact hR .ret D' Z' s' a' w' nu' h1 h2 h3
 | label l=>exact fun _ s a w D nu Z Q R _ hm hs hq hR=>wpIn_label (hR .normal D Z s a w nu hm hs hq)
 | goto l=>exact fun _ s a w D nu Z Q R _ hm hs hq hR=>wpIn_goto (hR (.goto l) D Z s a w nu hm hs hq)
 | ret=>exact fun _ s a w D nu Z Q R _ hm hs hq hR=>wpIn_ret (hR .ret D Z s a w nu hm hs hq)
 | refuse why=>intro hok;cases hok
end
end
section
section
variable {D:Nat->Prop} {nu:Nat->Nat->Value} {o:List (Option ab)} {w:World} {P:Program}
def mA (P:Program) (s:AS):List ResultVar->Option (Prop×List AV)
 | []=>some (True,[])
 | .tmp t :: l=>match mA P s l with
  | some (p,vs)=>some (p,s.ev (.tmp t) :: vs)
  | none=>none
 | .cell a T :: l=>match zT P T s.o (s.ev (.tmp a)),mA P s l with
  | some (q,v),some (p,vs)=>some (q∧p,v :: vs)
  | _,_=>none
def nV (x:Option (Prop×List AV)) (o:List (Option ab)) (Q:AV->List (Option ab)->Prop):Prop:=match x with
 | some (p,[v])=>p∧Q v o
 | some (p,vs)=>p∧Q (.cI vs) o
 | none=>False
@[congr] theorem Pv {x y:Option (Prop×List AV)} {o o':List (Option ab)} {Q:AV->List (Option ab)->Prop} (h:x=y) (k:o=o'):nV x o Q=nV y o' Q:=by rw [h,k]
theorem Ii (p:Prop) (v:AV) (Q:AV->List (Option ab)->Prop):nV (some (p,[v])) o Q=(p∧Q v o):=rfl
theorem FJ (p:Prop) (Q:AV->List (Option ab)->Prop):nV (some (p,[])) o Q=(p∧Q (.cI []) o):=rfl
theorem Ij (p:Prop) (v u:AV) (l:List AV) (Q:AV->List (Option ab)->Prop):nV (some (p,v :: u :: l)) o Q=(p∧Q (.cI (v :: u :: l)) o):=rfl
def xX (P:Program) (rs:List ResultVar) (Q:AV->List (Option ab)->Prop) (e:bd) (s:AS):Prop:=match e with
 | .ret=>nV (mA P s rs) s.o Q
 | .normal=>nV (mA P s rs) s.o Q
 | _=>False
@[congr] theorem Pu {rs:List ResultVar} {Q:AV->List (Option ab)->Prop} {e e':bd} {s s':AS} (h:e=e') (k:s=s'):xX P rs Q e s=xX P rs Q e' s':=by rw [h,k]
theorem Ih (rs:List ResultVar) (Q:AV->List (Option ab)->Prop) (s:AS):xX P rs Q .ret s=nV (mA P s rs) s.o Q:=rfl
theorem zK (rs:List ResultVar) (Q:AV->List (Option ab)->Prop) (s:AS):xX P rs Q .normal s=nV (mA P s rs) s.o Q:=rfl
def mW (tmps:Array Value):ResultVar->Sem Value
 | .tmp t=>pure (tmps.getD t Go.undef)
 | .cell a t=>do loadVar t (<-asAddr (tmps.getD a Go.undef))
theorem ve {f:Fr} {s:AS} {a:Act} (h:RS f D nu s a w): ∀(l:List ResultVar) {p:Prop} {vs:List AV},mA P s l=some (p,vs)->p-> ∃xs:List Value,(l.mapM (mW a.tmps)).run P w = .ok xs w∧vs.length=xs.length∧ ∀(i:Nat) c x,vs[i]? = some c->xs[i]? = some x->RA D nu s.o w c x
 | [],p,vs,hr,hp=>by
  cases hr;exact ⟨[],by simp,rfl,fun i c x h=>by simp at h⟩
 | rv :: l,p,vs,hr,hp=>by
  have step: ∀(v:AV) (q:Prop) (vs':List AV),(∃x,(mW a.tmps rv).run P w = .ok x w∧RA D nu s.o w v x)->mA P s l=some (q,vs')->q->vs=v :: vs'-> ∃xs:List Value,((rv :: l).mapM (mW a.tmps)).run P w = .ok xs w∧vs.length=xs.length∧ ∀(i:Nat) c x,vs[i]? = some c->xs[i]? = some x->RA D nu s.o w c x:=by
   rintro v q vs' ⟨x,hx1,hx2⟩ hl hq rfl;obtain ⟨xs,h1,h2,h3⟩:=ve h l hl hq;refine ⟨x :: xs,by simp [List.mapM_cons,hx1,h1],by simp [h2],fun i c y q1 q2=> ?_⟩
   cases i with
   | zero=>simp at q1 q2;subst q1;subst q2;exact hx2
   | succ i=>exact h3 i c y (by simpa using q1) (by simpa using q2)
  cases rv with
  | tmp t=>
   simp only [mA] at hr
   split at hr
   ·rename_i q vs' e;cases hr;exact step _ _ _ ⟨a.eval (.tmp t),rfl,h.ev (.tmp t)⟩ e hp rfl
   ·cases hr
  | cell ad T=>
   simp only [mA] at hr
   split at hr
   ·rename_i q v q' vs' e1 e2;cases hr;obtain ⟨x,hx1,hx2⟩:=xg (P:=P) h.ro (h.ev (.tmp ad)) e1 hp.1;refine step _ _ _ ⟨x, ?_,hx2⟩ e2 hp.2 rfl;simp only [Act.eval] at hx1;simp only [mW]
    cases hq:a.tmps.getD ad Go.undef with
    | pointer pa=>
     cases pa with
     | none=>rw [hq] at hx1;simp [Instr.loadAt,Instr.sureAddr] at hx1
     | some pa=>
      rw [hq] at hx1;simpa [Instr.loadAt,Instr.sureAddr,asAddr] using hx1
    | _=>rw [hq] at hx1;simp [Instr.loadAt,Instr.sureAddr] at hx1
   ·cases hr
theorem BF {f:Fr} {fn:Func} {s:AS} {a:Act} {Q:AV->List (Option ab)->Prop} (h:RS f D nu s a w) (hf:nV (mA P s fn.results.toList) s.o Q): ∃v r,(results fn a.tmps).run P w = .ok v w∧RA D nu s.o w r v∧Q r s.o:=by
 have hmap: ∀xs:List Value,(fn.results.toList.mapM (mW a.tmps)).run P w = .ok xs w->(results fn a.tmps).run P w = .ok (if h:xs.toArray.size=1 then xs.toArray[0] else .tuple xs.toArray) w:=by
  intro xs hx
  have e:fn.results.mapM (mW a.tmps)=(List.toArray <$> fn.results.toList.mapM (mW a.tmps)):=by
   rw [Array.mapM_eq_mapM_toList]
  have:results fn a.tmps=(do let vs <-fn.results.mapM (mW a.tmps);pure (if h:vs.size=1 then vs[0] else .tuple vs)):=by
   unfold results
   congr 1
  rw [this,e];simp [hx]
 unfold nV at hf
 split at hf
 ·rename_i p v e;obtain ⟨xs,h1,h2,h3⟩:=ve h _ e hf.1;obtain ⟨x,rfl⟩:=XN.1 h2.symm;exact ⟨x,v,by rw [hmap _ h1];simp,h3 0 v x rfl rfl,hf.2⟩
 ·rename_i p vs hne e;obtain ⟨xs,h1,h2,h3⟩:=ve h _ e hf.1
  have hl: ¬xs.toArray.size=1:=fun e1=>by
   have:vs.length=1:=by rw [h2];simpa using e1
   obtain ⟨v,rfl⟩:=XN.1 this;exact hne v rfl
  refine ⟨.tuple xs.toArray, .cI vs,by rw [hmap _ h1,dif_neg hl], .cI _ _ (by simpa using h2) (fun i c x q1 q2=>h3 i c x q1 (by simpa using q2)),hf.2⟩
 ·exact hf.elim
structure vW (B:Nat) (w w':World):Prop where
 os:w'.os=w.os
 tape:w'.tape=w.tape
 output:w'.output=w.output
 size:w'.heap.size=w.heap.size
 low: ∀b,b<B->w'.heap[b]? = w.heap[b]?
 cells: ∀(b:Nat) ob,w.heap[b]? = some ob->uu ob=false->w'.heap[b]? = some ob
theorem vW.refl (B:Nat) (w:World):vW B w w:=⟨rfl,rfl,rfl,rfl,fun _ _=>rfl,fun _ _ h _=>h⟩
theorem vW.cell {B:Nat} {w w':World} (h:vW B w w') {b o:Nat} {v:Value} (hv:w.cell? ⟨b,o,none⟩=some v):w'.cell? ⟨b,o,none⟩=some v:=by
 unfold World.cell? at hv ⊢
 cases hw:w.heap[b]? with
 | none=>simp [hw] at hv
 | some ob=>
  cases ob with
  | cells C T fz=>rw [h.cells b _ hw rfl];simpa [hw] using hv
  | _=>simp [hw] at hv
theorem vW.ra {B:Nat} {w w':World} (h:vW B w w') {a:AV} {x:Value} (hr:RA D nu o w a x):RA D nu o w' a x:=by
 have hF: ∀b,Fz D nu o w b->Fz D nu o w' b:=fun b hf=>⟨by rw [h.size];exact hf.1,hf.2.1,hf.2.2⟩
 induction hr with
 | undef x=>exact .undef x
 | v x=>exact .v x
 | agg cs xs h1 _ h3 ih=>exact .agg cs xs h1 ih h3
 | cI cs xs h1 _ ih=>exact .cI cs xs h1 ih
 | bu z=>exact .bu z
 | bL z a=>exact .bL z a
 | aB z rows len b off cap f h1 h2 h3 h4 h5 h6 _ h8 ih=>exact .aB z rows len b off cap f h1 h2 h3 (fun hne=>hF b (h4 hne)) h5 (fun i j row c hr hc=>h.cell (h6 i j row c hr hc)) ih h8
 | vp cs b off f h1 h2 _ h4 ih=>exact .vp cs b off f (hF b h1) (fun j c hc=>h.cell (h2 j c hc)) ih h4
 | ptr id len z row off b h1 h2=>exact .ptr id len z row off b h1 h2
 | vec id len h1 h2=>exact .vec id len h1 h2
 | fn g first caps fi ca h1 h2 _ _ ih1 ih2=>exact .fn g first caps fi ca h1 h2 ih1 ih2
 | full a x h1 _ ih=>exact .full a x h1 ih
 | kF p a x S h0 h1 hc h2 _ ih=>
  have hsame: ∀b,S b->w'.heap[b]? = w.heap[b]? :=fun b hb=>by
   obtain ⟨C,T,k,e⟩:=hc b hb;rw [e];exact h.cells b _ e rfl
  exact .kF p a x S h0 (fun b hb=>hF b (h1 b hb)) (fun b hb=>by rw [hsame b hb];exact hc b hb) (fun w2 hw=>h2 w2 (fun b hb=>(hw b hb).trans (hsame b hb))) ih
 | mp rows b es cl h1 h2 h3 h4 h5 h6 _ ih=>exact .mp rows b es cl (hF b h1) (h.cells b _ h2 rfl) h3 h4 h5 h6 ih
theorem vW.ro {B:Nat} {w w':World} (h:vW B w w') (hr:RO D nu o w):RO D nu o w':=
 ⟨fun id ob hid=>by
  rcases hr.obj id ob hid with e|⟨g,cur,hb⟩|⟨g,es,cl,hmp⟩
  ·exact .inl e
  ·exact .inr (.inl ⟨g,cur,h.cells g _ hb.fl rfl,hb.nY,hb.box,hb.vec,hb.z,hb.row,fun i j row c x q1 q2 q3=>h.ra (hb.cell i j row c x q1 q2 q3),hb.one⟩)
  ·exact .inr (.inr ⟨g,es,cl,hmp.tr ((h.cells g _ hmp.fl rfl).trans hmp.fl.symm) (fun h=>h) rfl (fun i j row c x _ _ hr=>h.ra hr)⟩),fun b hb=>hr.up b (by rw [<-h.size];exact hb),hr.sep,fun g T cs hg=>by
  obtain ⟨⟨t,h1⟩,h2,h3⟩:=hr.gl g T cs hg
  exact ⟨⟨t,h.cells g _ h1 rfl⟩,h2,h3⟩⟩
theorem lH {fn:Func} {tmps:Array Value} {R:Ending->World->Prop} {B:Nat}: ∀(rs:List Nat) (w:World),rs.Nodup->(∀x,x∈rs->B<=x∧w.heap[x]? = some (.deferred (some []))) ->
  (∀w',vW B w w'->(∀b,b∉rs->w'.heap[b]? = w.heap[b]?)-> ∃v,(results fn tmps).run P w' = .ok v w'∧R (.returned v) w')->LeavesInM (WF none) 9 P fn tmps R (rs.map DO) .returning w
 | [],w,_,_,h=>h w (.refl B w) (fun _ _=>rfl)
 | x :: rs,w,hn,hm,h=>by
  obtain ⟨h1,h2⟩:=hm x List.mem_cons_self;have hx:=(List.nodup_cons.1 hn).1;refine ⟨by simp, .inl ⟨x,w.putObj x (.deferred none),rfl,run_takeDeferred h2, ?_⟩⟩;have hs:vW B w (w.putObj x (.deferred none)):=⟨rfl,rfl,rfl,by simp,fun b hb=>World.putObj_heap_other (by omega),fun b ob hb hc=>(World.putObj_heap_other (fun e=>by rw [e,h2] at hb;cases hb;cases hc)).trans hb⟩;refine lH rs _ (List.nodup_cons.1 hn).2 (fun y hy=> ?_) (fun w' hs' hb'=>h w' ⟨hs'.os.trans hs.os,hs'.tape.trans hs.tape,hs'.output.trans hs.output,hs'.size.trans hs.size,fun b hb=>(hs'.low b hb).trans (hs.low b hb),fun b ob hb hc=>hs'.cells b ob (hs.cells b ob hb hc) hc⟩ (fun b hb=>(hb' b (fun h=>hb (XW _ h))).trans (World.putObj_heap_other (fun e=>hb (by rw [<-e];exact List.mem_cons_self)))));obtain ⟨q1,q2⟩:=hm y (XW _ hy);exact ⟨q1,(World.putObj_heap_other (fun e=>hx (by rw [<-e];exact hy))).trans q2⟩
def KM (P:Program) (n0:Nat) (D0:Nat->Prop) (nu0:Nat->Nat->Value) (o0:List (Option ab)) (w0:World) (hn:o0.length<=n0):WM P where
 n0:=n0
 fix:=fun _=>False
 M:=fun D nu o Z y w=>(y = .no∧(∀b,D b->D0 b)∧(∀b,Z b->b<w.heap.size∧D0 b∧ ¬D b)∧n0<=o.length∧ ∀b,w0.heap.size<=b->D0 b)∧bK nu0 o0 w0 nu o w∧ ∀b,b<w0.heap.size-> ¬owned nu0 o0 b-> ¬Z b
 step:=fun {D D' nu o Z Z' y w nu' o' w'} h hro hm hro' _ hD _ hZ hn'=>by
  obtain ⟨⟨h1,h2,h3,h4,hup⟩,h5,h6⟩:=h
  refine ⟨⟨h1,fun b hb=> ?_,fun b hb=>⟨(hZ b hb).1, ?_,(hZ b hb).2.1⟩,hn',hup⟩,⟨hm.os.trans h5.os,hm.tape.trans h5.tape,hm.output.trans h5.output,WO h5.size hm.size,fun id len hh=> ?_,fun b hb hno=> ?_⟩,fun b hb hno hz=> ?_⟩
  ·rcases hD b hb with q|q
   ·exact h2 b q
   ·exact (h3 b q).2.1
  ·rcases (hZ b hb).2.2 with q|q|q
   ·exact (h3 b q).2.1
   ·exact h2 b (hro.lz q)
   ·exact hup b (WO h5.size q)
  ·obtain ⟨q1,q2⟩:=h5.sI id len hh;have hlt:=jI hh;obtain ⟨q3,q4⟩:=hm.sI id len (by omega) q1;exact ⟨q3,q4.trans q2⟩
  ·obtain ⟨q1,q2⟩:=h5.keep b hb hno;obtain ⟨q3,q4⟩:=hm.keep b (Nat.lt_of_lt_of_le hb h5.size) q2 (h6 b hb hno);exact ⟨q3.trans q1,q4⟩
  ·rcases (hZ b hz).2.2 with q|q|q
   ·exact h6 b hb hno q
   ·exact (h5.keep b hb hno).2 q
   ·have:=h5.size;omega
 pd:=fun h=>⟨fun b hb=>⟨(h.1.2.2.1 b hb).1,(h.1.2.2.1 b hb).2.2⟩,h.1.2.2.2.1,fun b hb=>hb.elim⟩
 yield:=fun h _ _ _=>by cases h.1.1
theorem RA.wider {D D':Nat->Prop} (hD: ∀b,D' b->D b) {a:AV} {x:Value} (h:RA D' nu o w a x):RA D nu o w a x:=by
 induction h with
 | undef x=>exact .undef x
 | v x=>exact .v x
 | agg cs xs h1 _ h3 ih=>exact .agg cs xs h1 ih h3
 | cI cs xs h1 _ ih=>exact .cI cs xs h1 ih
 | bu z=>exact .bu z
 | bL z a=>exact .bL z a
 | aB z rows len b off cap f h1 h2 h3 h4 h5 h6 _ h8 ih=>exact .aB z rows len b off cap f h1 h2 h3 (fun hne=>⟨(h4 hne).1,(h4 hne).2.1,hD b (h4 hne).2.2⟩) h5 h6 ih h8
 | vp cs b off f h1 h2 _ h4 ih=>exact .vp cs b off f ⟨h1.1,h1.2.1,hD b h1.2.2⟩ h2 ih h4
 | ptr id len z row off b h1 h2=>exact .ptr id len z row off b h1 h2
 | vec id len h1 h2=>exact .vec id len h1 h2
 | fn g first caps fi ca h1 h2 _ _ ih1 ih2=>exact .fn g first caps fi ca h1 h2 ih1 ih2
 | full a x h1 _ ih=>exact .full a x h1 ih
 | kF p a x S h0 h1 hc h2 _ ih=>exact .kF p a x S h0 (fun b hb=>⟨(h1 b hb).1,(h1 b hb).2.1,hD b (h1 b hb).2.2⟩) hc h2 ih
 | mp rows b es cl h1 h2 h3 h4 h5 h6 _ ih=>exact .mp rows b es cl ⟨h1.1,h1.2.1,hD b h1.2.2⟩ h2 h3 h4 h5 h6 ih
theorem RO.wider {D D':Nat->Prop} (h:RO D' nu o w) (hD: ∀b,D' b->D b):RO D nu o w:=
 ⟨fun id ob hid=>by
  rcases h.obj id ob hid with e|⟨g,cur,hb⟩|⟨g,es,cl,hmp⟩
  ·exact .inl e
  ·exact .inr (.inl ⟨g,cur,hb.fl,hD g hb.nY,hb.box,hb.vec,hb.z,hb.row,fun i j row c x q1 q2 q3=>(hb.cell i j row c x q1 q2 q3).wider hD,hb.one⟩)
  ·exact .inr (.inr ⟨g,es,cl,hmp.tr rfl (hD g) rfl (fun i j row c x _ _ hr=>hr.wider hD)⟩),fun b hb=>hD b (h.up b hb),h.sep,fun g T cs hg=>by
  obtain ⟨⟨t,h1⟩,h2,h3⟩:=h.gl g T cs hg
  exact ⟨⟨t,h1⟩,h2,hD g h3⟩⟩
theorem Ar {f:Fr} {D:Nat->Prop} {nu:Nat->Nat->Value} {o:List (Option ab)} {w:World} {args:List AV} {vargs:Array Value} {n:Nat} {y:jA} (hf:f.r=none) (hB:f.B<=w.heap.size) (hro:RO D nu o w) (ha:gb D nu o w args vargs) :
  RS f D nu ⟨args++List.replicate (n - args.length) .undef,o,y⟩ { tmps:=vargs++Array.replicate (n - vargs.size) Go.undef,defers:=[] } w:=by
 have hl:=ha.len;refine ⟨hro,⟨by simp [hl],fun i cc x h1 h2=> ?_⟩,⟨hB,⟨[],List.nodup_nil,rfl,fun x hx=>(by cases hx)⟩,fun l hl=>by rw [hf] at hl;cases hl⟩⟩;simp only at h1 h2
 rcases WV i args.length with hlt|hge
 ·rw [WU hlt] at h1;rw [Xx (by omega)] at h2;exact ha.at' i cc x h1 h2
 ·rw [Xr hge,List.getElem?_replicate] at h1
  split at h1
  ·cases h1;exact .undef x
  ·cases h1
theorem gT.enter {f:FuncId} {fn:Func} {c:Code} {args:List AV} {Q:AV->List (Option ab)->Prop} (hf:P.funcs[f]? = some fn) (hb:fn.body=some c) (hc:e9 P f=true) (hok:bT c=true) (hmx:P.follows .mixedOrders=true)
  (h:cm P o.length c ⟨args++List.replicate (fn.ntmps - args.length) .undef,o, .no⟩ (xX P fn.results.toList Q)):gT P f args o Q:=by
 refine ⟨hc,fun D nu w vargs hro ha=>Ai (n:=9) (callsIn_of_wp_marks hf hb trivial ?_ rfl)⟩;have hs:RS ⟨w.heap.size,none,fun _=>False⟩ D nu ⟨args++List.replicate (fn.ntmps - args.length) .undef,o, .no⟩ { tmps:=vargs++Array.replicate (fn.ntmps - vargs.size) Go.undef,defers:=[] } w:=Ar rfl (WN _) hro ha
 have fin: ∀(D' Z':Nat->Prop) (s':AS) (a':Act) (w':World) (nu':Nat->Nat->Value),(KM P o.length D nu o w (WN _)).M D' nu' s'.o Z' s'.y w'->RS ⟨w.heap.size,none,Z'⟩ D' nu' s' a' w'->nV (mA P s' fn.results.toList) s'.o Q->LeavesInM (WF none) 9 P fn a'.tmps (Is D nu o w Q) a'.defers .returning w':=fun D' Z' s' a' w' nu' h1 h2 h3=>by
  obtain ⟨rs,k1,k2,k3⟩:=h2.jj.marks;rw [k2];refine lH (B:=w.heap.size) rs w' k1 (fun x hx=>⟨(k3 x hx).1,(k3 x hx).2.2⟩) (fun w2 hs2 _=> ?_);obtain ⟨⟨_,hD,_,_⟩,hm,_⟩:=h1;have hF: ∀b,Fz D' nu' s'.o w2 b->Fz D nu' s'.o w2 b:=fun b hb=>⟨hb.1,hb.2.1,hD b hb.2.2⟩;have h2':RS ⟨w.heap.size,none,Z'⟩ D' nu' s' { tmps:=a'.tmps,defers:=[] } w2:=⟨hs2.ro h2.ro,⟨h2.tm.len,fun i c x q1 q2=>hs2.ra (h2.tm.at' i c x q1 q2)⟩,⟨by rw [hs2.size];exact h2.jj.base,⟨[],List.nodup_nil,rfl,fun x hx=>(by cases hx)⟩,fun l hl=>by cases hl⟩⟩;obtain ⟨v,r,q1,q2,q3⟩:=BF h2' h3;exact ⟨v,q1,v,nu',s'.o,r,rfl,⟨hs2.os.trans hm.os,hs2.tape.trans hm.tape,hs2.output.trans hm.output,by rw [hs2.size];exact hm.size,hm.sI,fun b hb hno=>⟨(hs2.low b hb).trans (hm.keep b hb hno).1,(hm.keep b hb hno).2⟩⟩,RO.wider h2'.ro hD,q2.wider hD,q3⟩
 refine wpIn_mono (gq (P:=P) hmx (f:=⟨w.heap.size,none,fun _=>False⟩) (KM P o.length D nu o w (WN _)) (fun l hl=>by cases hl) (WN _) c hok _ _ w D nu (fun _=>False) _ (fun (e:Exit) a' w'=>e ≠ .outgrown∧bodyPostM (WF none) 9 P fn (Is D nu o w Q) e a' w') (fun a w hh=>hh.1 rfl) ⟨⟨rfl,fun _ h=>h,fun _ h=>h.elim,WN _,hro.up⟩, .refl nu o w,fun _ _ _ h=>h⟩ hs h (fun e D' Z' s' a' w' nu' h1 h2 h3=> ?_)) (fun e a w hh=>hh.2)
 cases e with
 | ret=>exact ⟨by simp [bd.real],fin D' Z' s' a' w' nu' h1 h2 h3⟩
 | normal=>exact ⟨by simp [bd.real],fin D' Z' s' a' w' nu' h1 h2 h3⟩
 | exit id=>exact h3.elim
 | goto l=>exact h3.elim
def gd (o:List (Option ab)) (r0 r:AV):Prop:= ∃n p,gY o n r0=some (p,r)∧p
theorem RD (x y:Value):gd o (.v x) (.v y)=(x=y):=by
 apply propext
 constructor
 ·rintro ⟨n,p,h1,_⟩
  cases n with
  | zero=>simp [gY] at h1
  | succ n=>simp only [gY,W7,W8,AV.v.injEq] at h1;exact h1.2
 ·rintro rfl;exact ⟨1,_,rfl,rfl⟩
theorem gd.of {r0 r:AV} (n:Nat) {p:Prop} (h:gY o n r0=some (p,r)) (hp:p):gd o r0 r:=⟨n,p,h,hp⟩
theorem gd.vec {id len:Nat} {ob:ab} (h:o[id]? = some (some ob)) (hv:ob.gw=true) (hl:ob.rows.length=len) (hw:bj 0 ob.rows=true):gd o (.vec id len) (.aB ob.z ob.rows len):=gd.of (p:=ob.gw=true∧ob.rows.length=len∧bj 0 ob.rows=true) 1 (by simp only [gY,h]) ⟨hv,hl,hw⟩
theorem gd.aB {z len:Nat} {rows:List (List AV)} (hw:bj 0 rows=true):gd o (.aB z rows len) (.aB z rows len):=⟨1,_,rfl,hw⟩
theorem aq.enter {f:FuncId} {fn:Func} {c:Code} {args:List AV} {r:AV} (hf:P.funcs[f]? = some fn) (hb:fn.body=some c) (hc:e9 P f=true) (hok:bT c=true) (hmx:P.follows .mixedOrders=true)
  (ha:aN 0 args=true) (hr:r.wf 0=true) (h:cm P 0 c ⟨args++List.replicate (fn.ntmps - args.length) .undef,[], .no⟩ (xX P fn.results.toList (fun r0 o=>gd o r0 r))):aq P f args r:=by
 obtain ⟨_,h2⟩:=gT.enter (o:=[]) hf hb hc hok hmx h;refine ⟨⟨ha,hr⟩,hc,fun D nu w vargs hro hra=>(h2 D nu w vargs hro hra).mono ?_⟩;rintro e w' ⟨v,nu',o',r0,rfl,hm,hro',hra',n,p,hz,hp⟩;have hm':bK nu [] w nu' [] w':=⟨hm.os,hm.tape,hm.output,hm.size,fun id len hh=>by obtain ⟨x,k,_⟩:=hh;simp at k,fun b hb ho=>⟨(hm.keep b hb ho).1,bb _ _⟩⟩;exact ⟨v,nu',[],r,rfl,hm',(.nil _ _ _ hro'.up (hro'.gl.nil (fun _ _ h=>h))),(kR hro' n).1 r0 v p r hz hp hra',rfl,rfl⟩
end
end
section
section
variable {P:Program} {all:List Oper} {n0:Nat} {s:AS} {Q:bd->AS->Prop}
@[go_sem] theorem Uz (t:List AV) (o:List (Option ab)) (y:jA) (k:Nat):(AS.mk t o y).ev (.tmp k)=t.getD k .undef:=rfl
@[go_sem] theorem Se (s:AS) (v:Value):s.ev (.const v) = .v v:=rfl
@[go_sem] theorem TF (s:AS) (f:FuncId):s.ev (.func f) = .fn f [] []:=rfl
@[go_sem] theorem SP (t:List AV) (o o':List (Option ab)) (y:jA) (d:Nat) (r:AV):(AS.mk t o y).put (some d) r o'=⟨t.set d r,o',y⟩:=rfl
@[go_sem] theorem SO (t:List AV) (o o':List (Option ab)) (y:jA) (r:AV):(AS.mk t o y).put none r o'=⟨t,o',y⟩:=rfl
@[go_sem] theorem OQ (dst:Option Tmp) (op:Op) (ty:TypeId) (pos:String) (aft:Array Edge) (s:AS) (K:AS->Prop) :
  wu P all ⟨dst,op,ty,pos,aft,none⟩ s K=AY P op dst s K:=rfl
@[go_sem] theorem OP (dst:Option Tmp) (op:Op) (ty:TypeId) (pos:String) (aft:Array Edge) (j:Nat) (want:Bool) (s:AS) (K:AS->Prop) :
  wu P all ⟨dst,op,ty,pos,aft,some (j,want)⟩ s K=vS (jk all s j) want (AY P op dst s K) (K (s.put dst (.v Go.undef) s.o)):=rfl
attribute [go_sem] AY PC RG Cs
def dQ (P:Program) (all:List Oper) (oo:Oper) (s:AS) (K:AS->Prop):Prop:=match oo.guard with
 | none=>bZ P oo.op s (fun r=>K (s.put oo.dst r s.o))
 | some (j,want)=>vS (jk all s j) want (bZ P oo.op s (fun r=>K (s.put oo.dst r s.o))) (K (s.put oo.dst (.v Go.undef) s.o))
@[go_sem] theorem MA (dst:Option Tmp) (op:Op) (ty:TypeId) (pos:String) (aft:Array Edge) (s:AS) (K:AS->Prop) :
  dQ P all ⟨dst,op,ty,pos,aft,none⟩ s K=bZ P op s (fun r=>K (s.put dst r s.o)):=rfl
@[go_sem] theorem Mz (dst:Option Tmp) (op:Op) (ty:TypeId) (pos:String) (aft:Array Edge) (j:Nat) (want:Bool) (s:AS) (K:AS->Prop) :
  dQ P all ⟨dst,op,ty,pos,aft,some (j,want)⟩ s K=vS (jk all s j) want (bZ P op s (fun r=>K (s.put dst r s.o))) (K (s.put dst (.v Go.undef) s.o)):=rfl
theorem IP {Q:AS->Prop} (h:Q s):kG P all [] s Q:=h
theorem PO {oo:Oper} {rest:List Oper} {Q:AS->Prop} (h: ∀K:AS->Prop,(∀s',kG P all rest s' Q->K s')->wu P all oo s K):kG P all (oo :: rest) s Q:=h _ (fun _ h=>h)
theorem CX {dst:Option Tmp} {op:Op} {ty:TypeId} {pos:String} {aft:Array Edge} {Q:AS->Prop} (h: ∀K:AS->Prop,(∀s',Q s'->K s')->zJ P op s (fun r o'=>K (s.put dst r o'))):fj P all [⟨dst,op,ty,pos,aft,none⟩] s Q:=h _ (fun _ h=>h)
theorem Mr {oo o2:Oper} {rest:List Oper} {Q:AS->Prop} (h: ∀K:AS->Prop,(∀s',fj P all (o2 :: rest) s' Q->K s')->dQ P all oo s K):fj P all (oo :: o2 :: rest) s Q:=by
 have:=h _ (fun _ h=>h)
 unfold dQ at this;simp only [fj]
 split at this<;>simp_all
def my (K:AS->Prop) (Q:bd->AS->Prop):bd->AS->Prop
 | .normal,s=>K s
 | e,s=>Q e s
def xW (id:Nat) (Q:bd->AS->Prop):bd->AS->Prop
 | .exit i,s=>if i=id then Q .normal s else Q (.exit i) s
 | e,s=>Q e s
def zL (Q:bd->AS->Prop):bd->AS->Prop
 | .goto _,_=>False
 | e,s=>Q e s
theorem z8 {K:AS->Prop} (h:K s):my K Q .normal s:=h
theorem F4 {K:AS->Prop} {i:Nat} (h:Q (.exit i) s):my K Q (.exit i) s:=h
theorem IT {K:AS->Prop} (h:Q .ret s):my K Q .ret s:=h
theorem F5 {K:AS->Prop} {i:Nat} (h:Q (.goto i) s):my K Q (.goto i) s:=h
theorem zY {i:Nat} (h:Q .normal s):xW i Q .normal s:=h
theorem IJ {i:Nat} (h:Q .ret s):xW i Q .ret s:=h
theorem FW {i j:Nat} (h:Q (.goto j) s):xW i Q (.goto j) s:=h
theorem z7 (h:Q .normal s):zL Q .normal s:=h
theorem IQ (h:Q .ret s):zL Q .ret s:=h
theorem F2 {i:Nat} (h:Q (.exit i) s):zL Q (.exit i) s:=h
theorem Da {id:Nat} {l:List Oper} (h:kG P l l s (Q .normal)):cm P n0 (.region id l.toArray false) s Q:= .inl h
def yR:List Oper->Bool
 | []=>true
 | [_]=>true
 | o :: l=>(match o.op with| .alloc _=>false| .store .. =>false|_=>true)&&yR l
theorem IX {id:Nat} {l:List Oper} (hB:BB l.toArray=true) (_hL:yR l=true) (h:fj P l l s (Q .normal)):cm P n0 (.region id l.toArray true) s Q:= .inl ⟨hB,h⟩
theorem I0 (h:Q .normal s):cm P n0 .skip s Q:=h
theorem ME {a b:Code} (h: ∀K:AS->Prop,(∀s',cm P n0 b s' Q->K s')->cm P n0 a s (my K Q)):cm P n0 (.seq a b) s Q:=by
 have:=h _ (fun _ h=>h)
 simp only [cm];refine .inl ?_;exact (congrArg (cm P n0 a s) (by funext e s';cases e<;>rfl)).mpr this
theorem IW {c:Operand} {a b:Code} (h:Cn (s.ev c) (cm P n0 a s Q) (cm P n0 b s Q)):cm P n0 (.cond c a b) s Q:=h
theorem F8 {id:Nat} {c:Code} (h:cm P n0 c s (xW id Q)):cm P n0 (.block id c) s Q:=by
 simp only [cm];exact (congrArg (cm P n0 c s) (by funext e s';cases e<;>rfl)).mpr h
theorem Gg {c:Code} (h:cm P n0 c s (zL Q)):cm P n0 (.scope c) s Q:=by
 simp only [cm];exact (congrArg (cm P n0 c s) (by funext e s';cases e<;>rfl)).mpr h
theorem IY {id:Nat} (h:Q (.exit id) s):cm P n0 (.exit id) s Q:=h
theorem MD (h:Q .ret s):cm P n0 .ret s Q:=h
theorem Gd {l:Nat} (h:Q .normal s):cm P n0 (.label l) s Q:=h
theorem IZ {l:Nat} (h:Q (.goto l) s):cm P n0 (.goto l) s Q:=h
attribute [go_sem] Mc Mb Ip Io FG tc qA Il Ik Pz L9 Ii FJ Ij Ih zK RD
attribute [go_sem] AV.st bytesOf yc ED Cy zJ bZ Mu yq CY qG th CD EE zT yk mQ wH ln ye lp yg Mk Ml mB Mn sn kv TC zS oD pt fP wI EH oE IB EG ID sE oF pq
 AV.cells? BU jk ab.hl mA AV.wf aN bj uv AP FV tj zU yi yh dz
@[go_sem] theorem R0 (d:TypeDesc) (k:Value) (x:AV):qI d k x []=some [[.v k,x]]:=rfl
@[go_sem] theorem RZ (d:TypeDesc) (k:Value):pw d k []=some none:=rfl
@[go_sem] theorem Tv (b:Bool) (A B:Prop):bD (!b) A B=bD b B A:=by cases b<;>rfl
def az {ι:Type} (n0:Nat) (S:ι->AS) (mu:ι->Nat) (ok:ι->Prop) (m:Nat) (s2:AS):Prop:= ∃m' s3,Wk n0 s2 s3∧(∃j,ok j∧mu j=m'∧s3=S j)∧m'<m
theorem az.mk {ι:Type} {S:ι->AS} {mu:ι->Nat} {ok:ι->Prop} {m:Nat} {s2:AS} (j:ι) (h1:ok j) (h2:mu j<m) (h3:Wk n0 s2 (S j)):az n0 S mu ok m s2:=⟨mu j,S j,h3,⟨j,h1,rfl,rfl⟩,h2⟩
theorem kM {ι:Type} {c:Code} (S:ι->AS) (mu:ι->Nat) (ok:ι->Prop) (i0:ι) (s1:AS) (h1:Gs s s1) (h2:Wk n0 s1 (S i0)) (h3:ok i0)
  (h: ∀i,ok i-> ∀K:AS->Prop,(∀s2,az n0 S mu ok (mu i) s2->K s2)->cm P n0 c (S i) (my K Q)):cm P n0 (.loop c) s Q:=by
 show Es n0 (cm P n0 c) s Q;refine ⟨fun m s'=> ∃i,ok i∧mu i=m∧s'=S i,⟨mu i0,s1,S i0,h1,h2,i0,h3,rfl,rfl⟩, ?_⟩;rintro m s' ⟨i,hi,rfl,rfl⟩
 have:=h i hi _ (fun _ h=>h)
 exact (congrArg (cm P n0 c (S i)) (by funext e s2;cases e<;>rfl)).mpr this
def dV (n:Nat) (l:List (Nat×AV)):List AV:=l.foldl (fun t p=>t.set p.1 p.2) (List.replicate n .undef)
theorem bE {ι:Type} {c:Code} {t:List AV} {o:List (Option ab)} {y:jA} (live:ι->List (Nat×AV)) (ob:ι->List (Option ab)) (mu:ι->Nat) (ok:ι->Prop) (i0:ι) (h3:ok i0) (h2:Wk n0 ⟨t,o,y⟩ ⟨dV t.length (live i0),ob i0,y⟩)
  (h: ∀i,ok i-> ∀K:AS->Prop,(∀s2,az n0 (fun i=>⟨dV t.length (live i),ob i,y⟩) mu ok (mu i) s2->K s2)->cm P n0 c ⟨dV t.length (live i),ob i,y⟩ (my K Q)):cm P n0 (.loop c) ⟨t,o,y⟩ Q:=
 kM (fun i=>⟨dV t.length (live i),ob i,y⟩) mu ok i0 _ .refl h2 h3 h
theorem ai {s s':AS} (h1:dv s'.o.length s.t s'.t) (h2:ku s'.o.length s.o s'.o) (h3:n0<=s'.o.length) (h4:s.y=s'.y:=by rfl):Wk n0 s s':=⟨h1,h2,h3,h4⟩
theorem ak {k:Nat} (h:k<9223372036854775807):IntKind.i64.wrap ((k:Int)+1)=((k+1:Nat):Int):=by
 rw [IntKind.wrap_i64];omega
theorem bH {n:Int} (h1: -9223372036854775808<=n) (h2:n<=9223372036854775807):IntKind.i64.wrap n=n:=by
 rw [IntKind.wrap_i64];omega
end
attribute [go_sem] List.getD_cons_zero List.getD_cons_succ List.set_cons_zero List.set_cons_succ List.getElem?_cons_zero List.getElem?_cons_succ List.length_cons List.length_nil List.length_map Option.map_some Option.map_none List.drop_zero List.drop_succ_cons List.take_succ_cons List.take_zero List.map_cons List.map_nil List.cons_append List.nil_append List.append_nil Xp true_and and_true Int.toNat_natCast if_true if_false BEq.rfl Bool.true_beq Bool.false_beq beq_true beq_false Bool.not_true Bool.not_false Bool.and_true Bool.true_and Bool.and_false Bool.false_and XJ WN List.length_replicate Nat.zero_mul W7 implies_true Bool.false_eq_true List.length_append decide_true decide_false beq_self_eq_true bne_self_eq_false Bool.not_not and_self Nat.lt_irrefl List.replicate_succ List.replicate_zero Nat.sub_zero
theorem wD {P:Program} {n0 id:Nat} {l:List Oper} {s:AS} {Q:bd->AS->Prop} (h:fj P l l s (Q .normal)) (hB:BB l.toArray=true:=by kernel_rfl) (hL:yR l=true:=by decide):cm P n0 (.region id l.toArray true) s Q:=IX hB hL h
end
section
mutual
def AV.bg (f:Nat->Nat):AV->AV
 | .undef=> .undef
 | .v x=> .v x
 | .agg cs=> .agg (bP f cs)
 | .cI vs=> .cI (bP f vs)
 | .aB z rows len=> .aB z (cG f rows) len
 | .vp cs=> .vp (bP f cs)
 | .ptr id len z row off=> .ptr (f id) len z row off
 | .vec id len=> .vec (f id) len
 | .fn g fi ca=> .fn g (bP f fi) (bP f ca)
 | .full a=> .full (a.bg f)
 | .kF p a=> .kF p (a.bg f)
 | .mp rows=> .mp (cG f rows)
def bP (f:Nat->Nat):List AV->List AV
 | []=>[]
 | a :: l=>a.bg f :: bP f l
def cG (f:Nat->Nat):List (List AV)->List (List AV)
 | []=>[]
 | r :: l=>bP f r :: cG f l
end
theorem cf (f:Nat->Nat): ∀l:List AV,(bP f l).length=l.length
 | []=>rfl
 | a :: l=>by rw [bP,WY,WY,cf f l]
theorem dt (f:Nat->Nat): ∀l:List (List AV),(cG f l).length=l.length
 | []=>rfl
 | a :: l=>by rw [cG,WY,WY,dt f l]
theorem bQ (f:Nat->Nat): ∀(l:List AV) (i:Nat),(bP f l)[i]? = (l[i]?).map (AV.bg f)
 | [],i=>by simp [bP]
 | a :: l,0=>by simp [bP]
 | a :: l,i+1=>by simpa [bP] using bQ f l i
theorem dI (f:Nat->Nat): ∀(l:List (List AV)) (i:Nat),(cG f l)[i]? = (l[i]?).map (bP f)
 | [],i=>by simp [cG]
 | a :: l,0=>by simp [cG]
 | a :: l,i+1=>by simpa [cG] using dI f l i
def ab.bg (f:Nat->Nat) (ob:ab):ab:=⟨ob.T,ob.z,ob.gw,cG f ob.rows⟩
theorem ab.fe (f:Nat->Nat) (ob:ab):(ob.bg f).hl=ob.hl:=by simp [ab.hl,ab.bg,dt]
theorem cg {α β:Type} {g:α->β} {x:Option α} {y:β} (h:x.map g=some y): ∃a,x=some a∧y=g a:=by
 cases x with
 | none=>cases h
 | some a=>exact ⟨a,rfl,(WL h).symm⟩
section
variable {D D':Nat->Prop} {nu nu':Nat->Nat->Value} {o o':List (Option ab)} {w:World} {P:Program}
theorem RA.bg {f:Nat->Nat} (hF: ∀b,Fz D nu o w b->Fz D' nu' o' w b) (hH: ∀id len,dr o id len->dr o' (f id) len∧nu' (f id) len=nu id len) {a:AV} {x:Value} (hr:RA D nu o w a x):RA D' nu' o' w (a.bg f) x:=by
 induction hr with
 | undef x=>exact .undef x
 | v x=>exact .v x
 | agg cs xs h1 _ h3 ih=>
  exact .agg _ xs (by rw [cf];exact h1) (fun i c x hc hx=>by
   rw [bQ] at hc;obtain ⟨c0,hc0,rfl⟩:=cg hc
   exact ih i c0 x hc0 hx) h3
 | cI cs xs h1 _ ih=>
  exact .cI _ xs (by rw [cf];exact h1) (fun i c x hc hx=>by
   rw [bQ] at hc;obtain ⟨c0,hc0,rfl⟩:=cg hc
   exact ih i c0 x hc0 hx)
 | bu z=>exact .bu z
 | bL z a=>exact .bL z a
 | aB z rows len b off cap g h1 h2 h3 h4 h5 h6 _ h8 ih=>
  have key: ∀(i j:Nat) row c,(cG f rows)[i]? = some row->row[j]? = some c-> ∃row0 c0,rows[i]? = some row0∧row0[j]? = some c0∧c=c0.bg f:=fun i j row c hi hj=>by
   rw [dI] at hi;obtain ⟨row0,hr0,rfl⟩:=cg hi;rw [bQ] at hj;obtain ⟨c0,hc0,rfl⟩:=cg hj;exact ⟨row0,c0,hr0,hc0,rfl⟩
  refine .aB z _ len b off cap g (by rw [dt];exact h1) (by rw [dt];exact h2) h3 (fun hne=>hF b (h4 (fun e=>hne (by rw [e];rfl)))) (fun i row hi=> ?_) (fun i j row c hi hj=> ?_) (fun i j row c hi hj=> ?_) (fun i j row c hi hj=> ?_)
  ·rw [dI] at hi;obtain ⟨row0,hr0,rfl⟩:=cg hi;rw [cf];exact h5 i row0 hr0
  ·obtain ⟨row0,c0,q1,q2,rfl⟩:=key i j row c hi hj;exact h6 i j row0 c0 q1 q2
  ·obtain ⟨row0,c0,q1,q2,rfl⟩:=key i j row c hi hj;exact ih i j row0 c0 q1 q2
  ·obtain ⟨row0,c0,q1,q2,rfl⟩:=key i j row c hi hj;exact h8 i j row0 c0 q1 q2
 | vp cs b off g h1 h2 _ h4 ih=>
  have key: ∀(j:Nat) c,(bP f cs)[j]? = some c-> ∃c0,cs[j]? = some c0∧c=c0.bg f:=fun j c hj=>by
   rw [bQ] at hj;obtain ⟨c0,hc0,rfl⟩:=cg hj;exact ⟨c0,hc0,rfl⟩
  refine .vp _ b off g (hF b h1) (fun j c hc=> ?_) (fun j c hc=> ?_) (fun j c hc=> ?_)
  ·obtain ⟨c0,q,rfl⟩:=key j c hc;exact h2 j c0 q
  ·obtain ⟨c0,q,rfl⟩:=key j c hc;exact ih j c0 q
  ·obtain ⟨c0,q,rfl⟩:=key j c hc;exact h4 j c0 q
 | ptr id len z row off b h1 h2=>
  obtain ⟨h3,h4⟩:=hH id len h1;exact .ptr (f id) len z row off b h3 (by rw [h4];exact h2)
 | vec id len h1 h2=>
  obtain ⟨h3,h4⟩:=hH id len h1
  have:=RA.vec (D:=D') (nu:=nu') (o:=o') (w:=w) (f id) len h3 (by rw [h4];exact h2)
  rw [h4] at this;exact this
 | fn g first caps fi ca h1 h2 _ _ ih1 ih2=>
  exact .fn g _ _ fi ca (by rw [cf];exact h1) (by rw [cf];exact h2) (fun i c x hc hx=>by
   rw [bQ] at hc;obtain ⟨c0,hc0,rfl⟩:=cg hc
   exact ih1 i c0 x hc0 hx) (fun i c x hc hx=>by
   rw [bQ] at hc;obtain ⟨c0,hc0,rfl⟩:=cg hc
   exact ih2 i c0 x hc0 hx)
 | full a x h1 _ ih=>exact .full _ x h1 ih
 | kF p a x S h0 h1 hc h2 _ ih=>exact .kF p _ x S h0 (fun b hb=>hF b (h1 b hb)) hc h2 ih
 | mp rows b es cl h1 h2 h3 h4 h5 h6 _ ih=>
  refine .mp _ b es cl (hF b h1) h2 (by rw [dt];exact h3) (fun i row hi=> ?_) h5 h6 (fun i j row c e hi hj he=> ?_)
  ·rw [dI] at hi;obtain ⟨row0,hr0,rfl⟩:=cg hi;rw [cf];exact h4 i row0 hr0
  ·rw [dI] at hi;obtain ⟨row0,hr0,rfl⟩:=cg hi;rw [bQ] at hj;obtain ⟨c0,hc0,rfl⟩:=cg hj;exact ih i j row0 c0 e hr0 hc0 he
theorem RA.B4 {f:Nat->Nat} {n:Nat} (hF: ∀b,Fz D nu o w b->Fz D' nu' o' w b) (hH: ∀id len,id<n->dr o (f id) len->dr o' id len∧nu' id len=nu (f id) len) {a':AV} {x:Value} (hr:RA D nu o w a' x) :
  ∀a:AV,a.wf n=true->a'=a.bg f->RA D' nu' o' w a x:=by
 induction hr with
 | undef x=>intro a _ e;cases a<;>simp only [AV.bg,reduceCtorEq] at e;exact .undef x
 | v x=>
  intro a _ e;cases a<;>simp only [AV.bg,reduceCtorEq,AV.v.injEq] at e;subst e;exact .v x
 | agg cs xs h1 _ h3 ih=>
  intro a ha e;cases a<;>simp only [AV.bg,reduceCtorEq,AV.agg.injEq] at e;rename_i ds;subst e;rw [cf] at h1;refine .agg ds xs h1 (fun i c x hc hx=>ih i (c.bg f) x (by rw [bQ,hc];rfl) hx c ?_ rfl) h3;simp only [AV.wf] at ha;exact bX ha hc
 | cI cs xs h1 _ ih=>
  intro a ha e;cases a<;>simp only [AV.bg,reduceCtorEq,AV.cI.injEq] at e;rename_i ds;subst e;rw [cf] at h1;refine .cI ds xs h1 (fun i c x hc hx=>ih i (c.bg f) x (by rw [bQ,hc];rfl) hx c ?_ rfl);simp only [AV.wf] at ha;exact bX ha hc
 | bu z=>
  intro a _ e
  cases a with
  | aB z' rows' len'=>
   simp only [AV.bg,AV.aB.injEq] at e;obtain ⟨rfl,e,rfl⟩:=e
   cases rows' with
   | nil=>exact .bu _
   | cons r l=>simp [cG] at e
  | _=>simp [AV.bg] at e
 | bL z ad=>
  intro a _ e
  cases a with
  | aB z' rows' len'=>
   simp only [AV.bg,AV.aB.injEq] at e;obtain ⟨rfl,e,rfl⟩:=e
   cases rows' with
   | nil=>exact .bL _ _
   | cons r l=>simp [cG] at e
  | _=>simp [AV.bg] at e
 | aB z rows len b off cap g h1 h2 h3 h4 h5 h6 _ h8 ih=>
  intro a ha e;cases a<;>simp only [AV.bg,reduceCtorEq,AV.aB.injEq] at e;rename_i z' rows' len';obtain ⟨rfl,rfl,rfl⟩:=e;rw [dt] at h1 h2;simp only [AV.wf] at ha
  have up: ∀(i:Nat) row,rows'[i]? = some row->(cG f rows')[i]? = some (bP f row):=fun i row h=>by rw [dI,h];rfl
  have upj: ∀(row:List AV) (j:Nat) c,row[j]? = some c->(bP f row)[j]? = some (c.bg f):=fun row j c h=>by rw [bQ,h];rfl
  refine .aB _ rows' _ b off cap g h1 h2 h3 (fun hne=>hF b (h4 (fun e=>hne ?_))) (fun i row hi=> ?_) (fun i j row c hi hj=>h6 i j _ _ (up i row hi) (upj row j c hj)) (fun i j row c hi hj=>ih i j _ _ (up i row hi) (upj row j c hj) c (bX (jv ha hi) hj) rfl) (fun i j row c hi hj=>h8 i j _ _ (up i row hi) (upj row j c hj))
  ·cases rows' with
   | nil=>rfl
   | cons r l=>simp [cG] at e
  ·have:=h5 i _ (up i row hi);rw [cf] at this;exact this
 | vp cs b off g h1 h2 _ h4 ih=>
  intro a ha e;cases a<;>simp only [AV.bg,reduceCtorEq,AV.vp.injEq] at e;rename_i ds;subst e;simp only [AV.wf] at ha
  have up: ∀(j:Nat) c,ds[j]? = some c->(bP f ds)[j]? = some (c.bg f):=fun j c h=>by rw [bQ,h];rfl
  exact .vp ds b off g (hF b h1) (fun j c hc=>h2 j _ (up j c hc)) (fun j c hc=>ih j _ (up j c hc) c (bX ha hc) rfl) (fun j c hc=>h4 j _ (up j c hc))
 | ptr id len z row off b h1 h2=>
  intro a ha e;cases a<;>simp only [AV.bg,reduceCtorEq,AV.ptr.injEq] at e;rename_i id' len' z' row' off';obtain ⟨rfl,rfl,rfl,rfl,rfl⟩:=e;simp only [AV.wf,decide_eq_true_eq] at ha;obtain ⟨h3,h4⟩:=hH id' _ ha h1;exact .ptr id' _ _ _ _ b h3 (by rw [h4];exact h2)
 | vec id len h1 h2=>
  intro a ha e;cases a<;>simp only [AV.bg,reduceCtorEq,AV.vec.injEq] at e;rename_i id' len';obtain ⟨rfl,rfl⟩:=e;simp only [AV.wf,decide_eq_true_eq] at ha;obtain ⟨h3,h4⟩:=hH id' _ ha h1
  have:=RA.vec (D:=D') (nu:=nu') (o:=o') (w:=w) id' len h3 (by rw [h4];exact h2)
  rw [h4] at this;exact this
 | fn g first caps fi ca h1 h2 _ _ ih1 ih2=>
  intro a ha e;cases a<;>simp only [AV.bg,reduceCtorEq,AV.fn.injEq] at e;rename_i g' fi' ca';obtain ⟨rfl,rfl,rfl⟩:=e;rw [cf] at h1 h2;simp only [AV.wf,XK] at ha;exact .fn _ fi' ca' fi ca h1 h2 (fun i c x hc hx=>ih1 i (c.bg f) x (by rw [bQ,hc];rfl) hx c (bX ha.1 hc) rfl) (fun i c x hc hx=>ih2 i (c.bg f) x (by rw [bQ,hc];rfl) hx c (bX ha.2 hc) rfl)
 | full b x h1 _ ih=>
  intro a ha e;cases a<;>simp only [AV.bg,reduceCtorEq,AV.full.injEq] at e;rename_i b';simp only [AV.wf] at ha;exact .full b' x h1 (ih b' ha e)
 | kF p b x S h0 h1 hc h2 _ ih=>
  intro a ha e;cases a<;>simp only [AV.bg,reduceCtorEq,AV.kF.injEq] at e;rename_i p' b';obtain ⟨rfl,e⟩:=e;simp only [AV.wf] at ha;exact .kF _ b' x S h0 (fun b hb=>hF b (h1 b hb)) hc h2 (ih b' ha e)
 | mp rows b es cl h1 h2 h3 h4 h5 h6 _ ih=>
  intro a ha e;cases a<;>simp only [AV.bg,reduceCtorEq,AV.mp.injEq] at e;rename_i rows';subst e;rw [dt] at h3;simp only [AV.wf] at ha
  have up: ∀(i:Nat) row,rows'[i]? = some row->(cG f rows')[i]? = some (bP f row):=fun i row h=>by rw [dI,h];rfl
  have upj: ∀(row:List AV) (j:Nat) c,row[j]? = some c->(bP f row)[j]? = some (c.bg f):=fun row j c h=>by rw [bQ,h];rfl
  exact .mp rows' b es cl (hF b h1) h2 h3 (fun i row hi=>by have:=h4 i _ (up i row hi);rw [cf] at this;exact this) h5 h6 (fun i j row c e hi hj he=>ih i j _ _ e (up i row hi) (upj row j c hj) he c (bX (jv ha hi) hj) rfl)
def sig (ids:List Nat) (n k:Nat):Nat:=if k<ids.length then ids.getD k 0 else n+(k - ids.length)
def eu (f:Nat->Nat):List Nat->List (Option ab)->List (Option ab)->List (Option ab)
 | i :: ids,x :: l,o=>eu f ids l (o.set i (x.map (ab.bg f)))
 | [],l,o=>o++l.map (Option.map (ab.bg f))
 | _ :: _,[],o=>o
theorem lQ (f:Nat->Nat): ∀(ids:List Nat) (l o:List (Option ab)) (j:Nat),j∉ids->j<o.length->(eu f ids l o)[j]? = o[j]?
 | [],l,o,j,_,hj=>by rw [eu,List.getElem?_append_left hj]
 | i :: ids,x :: l,o,j,hn,hj=>by
  rw [eu,lQ f ids l _ j (fun h=>hn (XW _ h)) (by simpa using hj),List.getElem?_set_ne (fun e=>hn (by rw [e];exact XY))]
 | _ :: _,[],_,_,_,_=>by rw [eu]
theorem zb (f:Nat->Nat): ∀(ids:List Nat) (l o:List (Option ab)),ids.Nodup->(∀i∈ids,i<o.length)-> ∀(k i:Nat) (x:Option ab),ids[k]? = some i->l[k]? = some x->(eu f ids l o)[i]? = some (x.map (ab.bg f))
 | [],l,o,_,_,k,i,x,h,_=>by simp at h
 | j :: ids,[],o,_,_,k,i,x,_,h=>by simp at h
 | j :: ids,y :: l,o,hn,hb,0,i,x,h1,h2=>by
  simp at h1 h2;subst h1;subst h2;rw [eu,lQ f ids l _ j (XZ.1 hn).1 (by simpa using hb j XY),List.getElem?_set_self (hb j XY)]
 | j :: ids,y :: l,o,hn,hb,k+1,i,x,h1,h2=>by
  rw [eu];exact zb f ids l _ (XZ.1 hn).2 (fun a ha=>by simpa using hb a (XW _ ha)) k i x (by simpa using h1) (by simpa using h2)
theorem va (f:Nat->Nat): ∀(ids:List Nat) (l o:List (Option ab)) (j:Nat),ids.length<=l.length->(eu f ids l o)[o.length+j]? = (l[ids.length+j]?).map (Option.map (ab.bg f))
 | [],l,o,j,_=>by rw [eu,List.getElem?_append_right (by omega)];simp
 | i :: ids,x :: l,o,j,h=>by
  have:=va f ids l (o.set i (x.map (ab.bg f))) j (by simpa using h)
  rw [eu];rw [List.length_set] at this;rw [this]
  congr 1
  rw [WY,show ids.length+1+j=(ids.length+j)+1 by omega,List.getElem?_cons_succ]
 | _ :: _,[],_,_,h=>by simp at h
theorem nF: ∀(ids:List Nat),ids.Nodup-> ∀(k i:Nat),ids[k]? = some i->ids.idxOf i=k
 | [],_,k,i,h=>by simp at h
 | j :: ids,hn,0,i,h=>by simp at h;subst h;simp
 | j :: ids,hn,k+1,i,h=>by
  have h':ids[k]? = some i:=by simpa using h
  have hne:j≠i:=fun e=>(XZ.1 hn).1 (by rw [e];exact Xw h');rw [List.idxOf_cons,nF ids (XZ.1 hn).2 k i h',beq_eq_false_iff_ne.2 hne];rfl
theorem uc {o0:List (Option ab)} (ids:List Nat) (hro:RO D nu o w) (hnd:ids.Nodup) (ho:ids.map (fun i=>o[i]?)=o0.map (fun x=>some (x.map (ab.bg (sig ids o.length)))))
  (hwo: ∀(k:Nat) ob,o0[k]? = some (some ob)->bj ids.length ob.rows=true) :
  RO (fun b=>D b∧ ¬(b<w.heap.size∧ ∃id ob,id∉ids∧o[id]? = some (some ob)∧cX (nu id ob.hl)=some b)) (fun k len=>nu (sig ids o.length k) len) o0 w∧(∀b,owned (fun k len=>nu (sig ids o.length k) len) o0 b->owned nu o b) ∧
   (∀b,Fz D nu o w b->Fz (fun b=>D b∧ ¬(b<w.heap.size∧ ∃id ob,id∉ids∧o[id]? = some (some ob)∧cX (nu id ob.hl)=some b)) (fun k len=>nu (sig ids o.length k) len) o0 w b) ∧
   (∀id len,id<ids.length->dr o (sig ids o.length id) len->dr o0 id len∧nu (sig ids o.length id) len=nu (sig ids o.length id) len) ∧
   ∀(k:Nat) ob,o0[k]? = some (some ob)-> ∃i,ids[k]? = some i∧sig ids o.length k=i∧o[i]? = some (some (ob.bg (sig ids o.length))):=by
 have hlen:o0.length=ids.length:=by have:=congrArg List.length ho;simpa using this.symm
 have hget: ∀(k i:Nat),ids[k]? = some i-> ∃x,o0[k]? = some x∧o[i]? = some (x.map (ab.bg (sig ids o.length))):=fun k i hk=>by
  have h1:=congrArg (fun l=>l[k]?) ho;simp only [List.getElem?_map,hk,Xu] at h1
  have hlt:k<o0.length:=by rw [hlen];exact (WT.1 hk).1
  rw [Xb hlt,Xu] at h1;exact ⟨_,Xb hlt,WL h1⟩
 have hb: ∀i∈ids,i<o.length:=fun i hi=>by
  obtain ⟨k,hk⟩:=Xk hi;obtain ⟨x,_,hx⟩:=hget k i hk;exact (WT.1 hx).1
 have sigk: ∀(k i:Nat),ids[k]? = some i->sig ids o.length k=i:=fun k i hk=>by
  have hlt:=(WT.1 hk).1;rw [sig,if_pos hlt,getD_some hk]
 generalize hs:sig ids o.length=σ at *
 let out:Nat->Prop:=fun b=>b<w.heap.size∧ ∃id ob,id∉ids∧o[id]? = some (some ob)∧cX (nu id ob.hl)=some b
 let D0:Nat->Prop:=fun b=>D b∧ ¬out b
 let nu0:Nat->Nat->Value:=fun k len=>nu (σ k) len
 have obj0: ∀(k:Nat) ob,o0[k]? = some (some ob)-> ∃i,ids[k]? = some i∧σ k=i∧o[i]? = some (some (ob.bg σ)):=fun k ob hk=>by
  have hlt:k<ids.length:=by rw [<-hlen];exact (WT.1 hk).1
  have e:=Xb hlt;obtain ⟨x,q1,q2⟩:=hget k _ e;rw [hk] at q1;cases q1;exact ⟨_,e,sigk k _ e,q2⟩
 have own0: ∀b,owned nu0 o0 b->owned nu o b:=fun b ⟨k,ob,h1,h2⟩=>by
  obtain ⟨i,q1,q2,q3⟩:=obj0 k ob h1;refine ⟨i,_,q3, ?_⟩;rw [ab.fe, <- q2];exact h2
 have own0_out: ∀b,owned nu0 o0 b-> ¬out b:=fun b ⟨k,ob,h1,h2⟩ ⟨hlt,id,ob',hn,h3,h4⟩=>by
  obtain ⟨i,q1,q2,q3⟩:=obj0 k ob h1;have hne:i≠id:=fun e=>hn (by rw [<-e];exact Xw q1);refine hro.sep i id _ _ b q3 h3 hne ?_ h4;rw [ab.fe, <- q2];exact h2
 have fz0: ∀b,Fz D nu o w b->Fz D0 nu0 o0 w b:=fun b hf=>⟨hf.1,fun ho=>hf.2.1 (own0 b ho),hf.2.2,fun ⟨_,id,ob,_,h3,h4⟩=>hf.2.1 ⟨id,ob,h3,h4⟩⟩
 have hdr0: ∀id len,id<ids.length->dr o (σ id) len->dr o0 id len∧nu0 id len=nu (σ id) len:=fun k len hk hh=>by
  refine ⟨?_,rfl⟩;have e:=Xb hk;obtain ⟨x,q1,q2⟩:=hget k _ e;obtain ⟨y,r1,r2⟩:=hh;rw [sigk k _ e,q2] at r1;cases r1;refine ⟨x,q1,fun ob hx=> ?_⟩;subst hx
  have:=r2 _ rfl
  rwa [ab.fe] at this
 have ro0:RO D0 nu0 o0 w:=by
  refine ⟨fun k ob hk=> ?_,fun b hlt=>⟨hro.up b hlt,fun ho=>by have:=ho.1;omega⟩,fun k k' ob ob' b h1 h2 hne h3 h4=> ?_,hro.gl.fz (fun b hf=>⟨rfl,fz0 b hf⟩)⟩
  ·obtain ⟨i,q1,q2,q3⟩:=obj0 k ob hk
   rcases hro.obj i _ q3 with ⟨e1,e2,e3⟩|⟨g,cur,hr⟩|⟨g,es,cl,hmp⟩
   ·refine .inl ⟨e1, ?_, ?_⟩
    ·have:(cG σ ob.rows).length=0:=by rw [show cG σ ob.rows=[] from e2];rfl
     rw [dt] at this;exact List.eq_nil_of_length_eq_zero this
    ·show nu (σ k) 0=_;rw [q2];exact e3
   ·have hbk:cX (nu i (ob.bg σ).hl)=some g:=hr.bF;have hg:D0 g:=⟨hr.nY,own0_out g ⟨k,ob,hk,by show cX (nu (σ k) _)=_;rw [q2, <- ab.fe σ];exact hbk⟩⟩
    have hup: ∀(j:Nat) row,ob.rows[j]? = some row->(ob.bg σ).rows[j]? = some (bP σ row):=fun j row hj=>by show (cG σ ob.rows)[j]? = _;rw [dI,hj];rfl
    have hupc: ∀(row:List AV) (j:Nat) c,row[j]? = some c->(bP σ row)[j]? = some (c.bg σ):=fun row j c hj=>by rw [bQ,hj];rfl
    refine .inr (.inl ⟨g,cur,hr.fl,hg,fun e=> ?_,fun e=> ?_,hr.z,fun j row hj=> ?_,fun j j' row c x h1 h2 h3=> ?_,fun j j' row c x h1 h2 h3=>hr.one j j' _ _ x (hup j row h1) (hupc row j' c h2) h3⟩)
    ·obtain ⟨p1,p2,p3⟩:=hr.box e
     refine ⟨?_, ?_,p3⟩
     ·show nu (σ k) 0=_;rw [q2];exact p1
     ·have:(cG σ ob.rows).length=1:=p2
      rwa [dt] at this
    ·obtain ⟨cap,p1,p2,p3,p4⟩:=hr.vec e;have el:(ob.bg σ).rows.length=ob.rows.length:=dt σ ob.rows;rw [el] at p1 p2;refine ⟨cap, ?_,p2,p3,p4⟩;show nu (σ k) _=_;rw [q2];exact p1
    ·have:=hr.row j _ (hup j row hj)
     rw [cf] at this;exact this
    ·exact (hr.cell j j' _ _ x (hup j row h1) (hupc row j' c h2) h3).B4 (f:=σ) (n:=ids.length) fz0 hdr0 c (bX (jv (hwo k ob hk) h1) h2) rfl
   ·have hbk:cX (nu i (ob.bg σ).hl)=some g:=hmp.bF;have hg:D0 g:=⟨hmp.nY,own0_out g ⟨k,ob,hk,by show cX (nu (σ k) _)=_;rw [q2, <- ab.fe σ];exact hbk⟩⟩;refine .inr (.inr ⟨g,es,cl,hmp.rows rfl hg (by show nu (σ k) 0=_;rw [q2]) rfl rfl (dt σ ob.rows).symm (fun j row hj=>⟨bP σ row,by show (cG σ ob.rows)[j]? = _;rw [dI,hj];rfl,(cf σ row).symm,fun j' c hc=>⟨c.bg σ,by rw [bQ,hc];rfl,fun x hx=>hx.B4 (f:=σ) (n:=ids.length) fz0 hdr0 c (bX (jv (hwo k ob hk) hj) hc) rfl⟩⟩)⟩)
  ·obtain ⟨i,q1,q2,q3⟩:=obj0 k ob h1;obtain ⟨i',q1',q2',q3'⟩:=obj0 k' ob' h2;have hii:i≠i':=fun e=>hne (by rw [<-nF ids hnd k i q1, <- nF ids hnd k' i' q1',e])
   refine hro.sep i i' _ _ b q3 q3' hii ?_ ?_
   ·rw [ab.fe, <- q2];exact h3
   ·rw [ab.fe, <- q2'];exact h4
 exact ⟨ro0,own0,fz0,hdr0,obj0⟩
theorem gT.frame {f:FuncId} {args0 args:List AV} {o0:List (Option ab)} {Q:AV->List (Option ab)->Prop} (ids:List Nat) (h:gT P f args0 o0 Q) (hnd:ids.Nodup)
  (ho:ids.map (fun i=>o[i]?)=o0.map (fun x=>some (x.map (ab.bg (sig ids o.length)))))
  (hargs:args=bP (sig ids o.length) args0) (hwa:aN ids.length args0=true) (hwo: ∀(k:Nat) ob,o0[k]? = some (some ob)->bj ids.length ob.rows=true) :
  gT P f args o (fun r o'=> ∃r0 o1,Q r0 o1∧r=r0.bg (sig ids o.length)∧o'=eu (sig ids o.length) ids o1 o):=by
 obtain ⟨hc,hq⟩:=h;refine ⟨hc,fun D nu w vargs hro hra=> ?_⟩;subst hargs;obtain ⟨ro0,own0,fz0,hdr0,obj0⟩:=uc ids hro hnd ho hwo
 have hlen:o0.length=ids.length:=by have:=congrArg List.length ho;simpa using this.symm
 have hget: ∀(k i:Nat),ids[k]? = some i-> ∃x,o0[k]? = some x∧o[i]? = some (x.map (ab.bg (sig ids o.length))):=fun k i hk=>by
  have h1:=congrArg (fun l=>l[k]?) ho;simp only [List.getElem?_map,hk,Xu] at h1
  have hlt:k<o0.length:=by rw [hlen];exact (WT.1 hk).1
  rw [Xb hlt,Xu] at h1;exact ⟨_,Xb hlt,WL h1⟩
 have hb: ∀i∈ids,i<o.length:=fun i hi=>by
  obtain ⟨k,hk⟩:=Xk hi;obtain ⟨x,_,hx⟩:=hget k i hk;exact (WT.1 hx).1
 have sigk: ∀(k i:Nat),ids[k]? = some i->sig ids o.length k=i:=fun k i hk=>by
  have hlt:=(WT.1 hk).1;rw [sig,if_pos hlt,getD_some hk]
 have sign: ∀k,ids.length<=k->sig ids o.length k=o.length+(k - ids.length):=fun k hk=>by rw [sig,if_neg (by omega)]
 generalize hs:sig ids o.length=σ at *
 let out:Nat->Prop:=fun b=>b<w.heap.size∧ ∃id ob,id∉ids∧o[id]? = some (some ob)∧cX (nu id ob.hl)=some b
 let D0:Nat->Prop:=fun b=>D b∧ ¬out b
 let nu0:Nat->Nat->Value:=fun k len=>nu (σ k) len
 have own0_out: ∀b,owned nu0 o0 b-> ¬out b:=fun b ⟨k,ob,h1,h2⟩ ⟨hlt,id,ob',hn,h3,h4⟩=>by
  obtain ⟨i,q1,q2,q3⟩:=obj0 k ob h1;have hne:i≠id:=fun e=>hn (by rw [<-e];exact Xw q1);refine hro.sep i id _ _ b q3 h3 hne ?_ h4;rw [ab.fe, <- q2];exact h2
 have ra0:gb D0 nu0 o0 w args0 vargs:=⟨by have:=hra.len;rwa [cf] at this,fun i c x hi hx=>
  (hra.at' i (c.bg σ) x (by rw [bQ,hi];rfl) hx).B4 (f:=σ) (n:=ids.length) fz0 hdr0 c (bX hwa hi) rfl⟩
 refine (hq D0 nu0 w vargs ro0 ra0).mono ?_;rintro e w' ⟨v,nu1,o1,r0,rfl,hm,ro1,ra1,hQ⟩
 have hle:ids.length<=o1.length:=by
  rcases Nat.eq_zero_or_pos ids.length with q|q
  ·omega
  ·have e:=Xb (show ids.length - 1<o0.length by omega);obtain ⟨h1,_⟩:=hm.sI (ids.length - 1) 0 ⟨_,e,fun _ _=>Nat.zero_le _⟩
   have:=jI h1
   omega
 let nu':Nat->Nat->Value:=fun id len=>if id∈ids then nu1 (ids.idxOf id) len else if id<o.length then nu id len else nu1 (ids.length+(id - o.length)) len
 have nu_id: ∀(k i:Nat) len,ids[k]? = some i->nu' i len=nu1 k len:=fun k i len hk=>by
  show (if _ then _ else _)=_;rw [if_pos (Xw hk),nF ids hnd k i hk]
 have nu_old: ∀id len,id∉ids->id<o.length->nu' id len=nu id len:=fun id len h1 h2=>by
  show (if _ then _ else _)=_;rw [if_neg h1,if_pos h2]
 have nu_sig: ∀k len,nu' (σ k) len=nu1 k len:=fun k len=>by
  rcases WV k ids.length with q|q
  ·have e:=Xb q;rw [sigk k _ e];exact nu_id k _ len e
  ·rw [sign k q];show (if _ then _ else _)=_;rw [if_neg (fun hmem=>by have:=hb _ hmem;omega),if_neg (by omega)]
   congr 1;omega
 have o_sig: ∀k x,o1[k]? = some x->(eu σ ids o1 o)[σ k]? = some (x.map (ab.bg σ)):=fun k x hk=>by
  rcases WV k ids.length with q|q
  ·have e:=Xb q;rw [sigk k _ e];exact zb σ ids o1 o hnd hb k _ x e hk
  ·rw [sign k q,va σ ids o1 o _ hle,show ids.length+(k - ids.length)=k by omega,hk];rfl
 
 have parts: ∀id x,(eu σ ids o1 o)[id]? = some x->(∃k y,id=σ k∧o1[k]? = some y∧x=y.map (ab.bg σ))∨(id∉ids∧id<o.length∧o[id]? = some x):=fun id x hx=>by
  rcases WV id o.length with q|q
  ·by_cases hmem:id∈ids
   ·obtain ⟨k,hk⟩:=Xk hmem
    have hk1:k<o1.length:=by have:=(WT.1 hk).1;omega
    have:=zb σ ids o1 o hnd hb k id _ hk (Xb hk1)
    rw [this] at hx;exact .inl ⟨k,_,(sigk k id hk).symm,Xb hk1,(WL hx).symm⟩
   ·rw [lQ σ ids o1 o id hmem q] at hx;exact .inr ⟨hmem,q,hx⟩
  ·obtain ⟨j,rfl⟩: ∃j,id=o.length+j:=⟨id - o.length,by omega⟩;rw [va σ ids o1 o j hle] at hx;obtain ⟨y,hy,rfl⟩:=cg hx;exact .inl ⟨ids.length+j,y,by rw [sign _ (by omega)];omega,hy,rfl⟩
 have hF1: ∀b,Fz D0 nu1 o1 w' b->Fz D nu' (eu σ ids o1 o) w' b:=fun b hf=>⟨hf.1,fun ⟨id,ob,h1,h2⟩=>by
  rcases parts id _ h1 with ⟨k,y,rfl,hy,e⟩|⟨h3,h4,h5⟩
  ·obtain ⟨ob0,rfl,rfl⟩:=cg (XE.2 (by obtain ⟨a,ha1,ha2⟩:=XE.1 e.symm;exact ⟨a,ha1,ha2⟩));rw [ab.fe,nu_sig] at h2;exact hf.2.1 ⟨k,ob0,hy,h2⟩
  ·rw [nu_old id _ h3 h4] at h2
   exact hf.2.2.2 ⟨hro.bn ⟨id,ob,h5,h2⟩,id,ob,h3,h5,h2⟩,hf.2.2.1⟩
 have hH1: ∀id len,dr o1 id len->dr (eu σ ids o1 o) (σ id) len∧nu' (σ id) len=nu1 id len:=fun k len ⟨x,h1,h2⟩=>by
  refine ⟨⟨_,o_sig k x h1,fun y hy=> ?_⟩,nu_sig k len⟩;obtain ⟨z,rfl,rfl⟩:=XE.1 hy;rw [ab.fe];exact h2 z rfl
 have hmono:bK nu o w nu' (eu σ ids o1 o) w':=by
  refine ⟨hm.os,hm.tape,hm.output,hm.size,fun id len hh=> ?_,fun b hlt hno=> ?_⟩
  ·have hlt:=jI hh
   by_cases hmem:id∈ids
   ·obtain ⟨k,hk⟩:=Xk hmem;have hkl:=(WT.1 hk).1;obtain ⟨g1,_⟩:=hdr0 k len hkl (by rw [sigk k id hk];exact hh);obtain ⟨g3,g4⟩:=hm.sI k len g1;obtain ⟨g5,g6⟩:=hH1 k len g3;rw [sigk k id hk] at g5 g6;exact ⟨g5,by rw [g6,g4];show nu (σ k) len=_;rw [sigk k id hk]⟩
   ·refine ⟨?_,nu_old id len hmem hlt⟩;obtain ⟨x,h1,h2⟩:=hh;exact ⟨x,by rw [lQ σ ids o1 o id hmem hlt];exact h1,h2⟩
  ·have hno0: ¬owned nu0 o0 b:=fun ho=>hno (own0 b ho);obtain ⟨g1,g2⟩:=hm.keep b hlt hno0;refine ⟨g1,fun ⟨id,ob,h1,h2⟩=> ?_⟩
   rcases parts id _ h1 with ⟨k,y,rfl,hy,e⟩|⟨h3,h4,h5⟩
   ·obtain ⟨ob0,rfl,rfl⟩:=XE.1 e.symm;rw [ab.fe,nu_sig] at h2;exact g2 ⟨k,ob0,hy,h2⟩
   ·rw [nu_old id _ h3 h4] at h2;exact hno ⟨id,ob,h5,h2⟩
 refine ⟨v,nu',eu σ ids o1 o,r0.bg σ,rfl,hmono, ?_,ra1.bg hF1 hH1,r0,o1,hQ,rfl,rfl⟩
 refine ⟨fun id ob hid=> ?_,fun b hlt=>hro.up b (Nat.le_trans hm.size hlt),fun id id' ob ob' b h1 h2 hne h3 h4=> ?_,hro.gl.mono hmono (fun _ _ h=>h)⟩
 ·rcases parts id _ hid with ⟨k,y,rfl,hy,e⟩|⟨h3,h4,h5⟩
  ·obtain ⟨ob0,rfl,rfl⟩:=XE.1 e.symm
   rcases ro1.obj k ob0 hy with ⟨e1,e2,e3⟩|⟨g,cur,hr⟩|⟨g,es,cl,hmp⟩
   ·exact .inl ⟨e1,by show cG σ ob0.rows=[];rw [e2];rfl,by rw [nu_sig];exact e3⟩
   ·have el:(ob0.bg σ).rows.length=ob0.rows.length:=dt σ ob0.rows
    have key: ∀(i j:Nat) row c,(ob0.bg σ).rows[i]? = some row->row[j]? = some c-> ∃row0 c0,ob0.rows[i]? = some row0∧row0[j]? = some c0∧c=c0.bg σ:=fun i j row c hi hj=>by
     have hi':(cG σ ob0.rows)[i]? = some row:=hi;rw [dI] at hi';obtain ⟨row0,hr0,rfl⟩:=cg hi';rw [bQ] at hj;obtain ⟨c0,hc0,rfl⟩:=cg hj;exact ⟨row0,c0,hr0,hc0,rfl⟩
    refine .inr (.inl ⟨g,cur,hr.fl,hr.nY.1,fun e=> ?_,fun e=> ?_,hr.z,fun i row hi=> ?_,fun i j row c x g1 g2 g3=> ?_,fun i j row c x g1 g2 g3=> ?_⟩)
    ·obtain ⟨p1,p2,p3⟩:=hr.box e;exact ⟨by rw [nu_sig];exact p1,by rw [el];exact p2,p3⟩
    ·obtain ⟨cap,p1,p2,p3,p4⟩:=hr.vec e;exact ⟨cap,by rw [nu_sig,el];exact p1,by rw [el];exact p2,p3,p4⟩
    ·have hi':(cG σ ob0.rows)[i]? = some row:=hi;rw [dI] at hi';obtain ⟨row0,hr0,rfl⟩:=cg hi';rw [cf];exact hr.row i row0 hr0
    ·obtain ⟨row0,c0,q1,q2,rfl⟩:=key i j row c g1 g2;exact (hr.cell i j row0 c0 x q1 q2 g3).bg hF1 hH1
    ·obtain ⟨row0,c0,q1,q2,rfl⟩:=key i j row c g1 g2;exact hr.one i j row0 c0 x q1 q2 g3
   ·refine .inr (.inr ⟨g,es,cl,hmp.rows rfl hmp.nY.1 (nu_sig k 0) rfl rfl (dt σ ob0.rows) (fun i row hi=> ?_)⟩);have hi':(cG σ ob0.rows)[i]? = some row:=hi;rw [dI] at hi';obtain ⟨row0,hr0,rfl⟩:=cg hi';refine ⟨row0,hr0,cf σ row0,fun j c hc=> ?_⟩;rw [bQ] at hc;obtain ⟨c0,hc0,rfl⟩:=cg hc;exact ⟨c0,hc0,fun x hx=>hx.bg hF1 hH1⟩
  ·rcases hro.obj id ob h5 with ⟨e1,e2,e3⟩|⟨g,cur,hr⟩|⟨g,es,cl,hmp⟩
   ·exact .inl ⟨e1,e2,by rw [nu_old id _ h3 h4];exact e3⟩
   ·have hbk:=hr.bF;have hlt:g<w.heap.size:=(WR.1 hr.fl).1;have hno0: ¬owned nu0 o0 g:=fun ho=>own0_out g ho ⟨hlt,id,ob,h3,h5,hbk⟩;have hsame:=(hm.keep g hlt hno0).1
    refine .inr (.inl ⟨g,cur,hsame.trans hr.fl,hr.nY,fun e=> ?_,fun e=> ?_,hr.z,hr.row,fun i j row c x g1 g2 g3=>(hr.cell i j row c x g1 g2 g3).mono hmono (fun _ _ h=>h),hr.one⟩)
    ·rw [nu_old id _ h3 h4];exact hr.box e
    ·rw [nu_old id _ h3 h4];exact hr.vec e
   ·have hbk:=hmp.bF;have hlt:g<w.heap.size:=(WR.1 hmp.fl).1;have hno0: ¬owned nu0 o0 g:=fun ho=>own0_out g ho ⟨hlt,id,ob,h3,h5,hbk⟩;exact .inr (.inr ⟨g,es,cl,hmp.tr (hm.keep g hlt hno0).1 (fun h=>h) (nu_old id _ h3 h4) (fun i j row c x _ _ hr=>hr.mono hmono (fun _ _ h=>h))⟩)
 ·have cross: ∀(k id:Nat) (ob0 ob:ab) (b:Nat),o1[k]? = some (some ob0)->cX (nu1 k ob0.hl)=some b->id∉ids->o[id]? = some (some ob)->cX (nu id ob.hl)=some b->False:=fun k id ob0 ob b g1 g2 g3 g4 g5=>by
   rcases ro1.obj k ob0 g1 with ⟨e1,e2,e3⟩|⟨g,cur,hr⟩|⟨g,es,cl,hmp⟩
   ·simp only [ab.hl,e1,e2,if_true,List.length_nil,e3,cX,cq] at g2;cases g2
   ·have hbk:=hr.bF;rw [hbk] at g2;cases g2;exact hr.nY.2 ⟨hro.bn ⟨id,ob,g4,g5⟩,id,ob,g3,g4,g5⟩
   ·have hbk:=hmp.bF;rw [hbk] at g2;cases g2;exact hmp.nY.2 ⟨hro.bn ⟨id,ob,g4,g5⟩,id,ob,g3,g4,g5⟩
  rcases parts id _ h1 with ⟨k,y,rfl,hy,e⟩|⟨p3,p4,p5⟩
  ·obtain ⟨ob0,rfl,rfl⟩:=XE.1 e.symm;rw [ab.fe,nu_sig] at h3
   rcases parts id' _ h2 with ⟨k',y',rfl,hy',e'⟩|⟨p3',p4',p5'⟩
   ·obtain ⟨ob0',rfl,rfl⟩:=XE.1 e'.symm;rw [ab.fe,nu_sig] at h4;exact ro1.sep k k' ob0 ob0' b hy hy' (fun e=>hne (by rw [e])) h3 h4
   ·rw [nu_old id' _ p3' p4'] at h4;exact cross k id' ob0 ob' b hy h3 p3' p5' h4
  ·rw [nu_old id _ p3 p4] at h3
   rcases parts id' _ h2 with ⟨k',y',rfl,hy',e'⟩|⟨p3',p4',p5'⟩
   ·obtain ⟨ob0',rfl,rfl⟩:=XE.1 e'.symm;rw [ab.fe,nu_sig] at h4;exact cross k' id ob0' ob b hy' h4 p3 p5 h3
   ·rw [nu_old id' _ p3' p4'] at h4;exact hro.sep id id' ob ob' b p5 p5' hne h3 h4
def da (P:Program) (f:FuncId) (args:List AV) (o:List (Option ab)) (r:AV) (o':List (Option ab)):Prop:=gT P f args o (fun r' o''=>r'=r∧o''=o')
theorem aa.fr {f:FuncId} {args args0:List AV} {o0 o1:List (Option ab)} {r0:AV} {K:AV->List (Option ab)->Prop} (ids:List Nat) (h:da P f args0 o0 r0 o1) (hnd:ids.Nodup)
  (ho:ids.map (fun i=>o[i]?)=o0.map (fun x=>some (x.map (ab.bg (sig ids o.length)))))
  (hargs:args=bP (sig ids o.length) args0) (hwa:aN ids.length args0=true) (hwo: ∀(k:Nat) ob,o0[k]? = some (some ob)->bj ids.length ob.rows=true)
  (k:K (r0.bg (sig ids o.length)) (eu (sig ids o.length) ids o1 o)):aa P f args o K:=
 .two (gT.frame ids h hnd ho hargs hwa hwo) (fun r o' hh=>by
  obtain ⟨r1,o2,⟨rfl,rfl⟩,rfl,rfl⟩:=hh
  exact k)
def Vs (n:Nat) (o2:List (Option ab)) (r0 r:AV) (o':List (Option ab)):Prop:=dv o'.length [r0] [r]∧ku o'.length o2 o'∧n<=o'.length
theorem da.enter {f:FuncId} {fn:Func} {c:Code} {args:List AV} {r:AV} {o':List (Option ab)} (hf:P.funcs[f]? = some fn) (hb:fn.body=some c) (hc:e9 P f=true) (hok:bT c=true) (hmx:P.follows .mixedOrders=true)
  (h:cm P o.length c ⟨args++List.replicate (fn.ntmps - args.length) .undef,o, .no⟩ (xX P fn.results.toList (fun r0 o2=>Vs o.length o2 r0 r o'))):da P f args o r o':=by
 obtain ⟨hc',h2⟩:=gT.enter hf hb hc hok hmx h;refine ⟨hc',fun D nu w vargs hro hra=>(h2 D nu w vargs hro hra).mono ?_⟩;rintro e w' ⟨v,nu',o2,r0,rfl,hm,hro',hra',hw⟩
 have hs:RS ⟨0,none,fun _=>False⟩ D nu' ⟨[r0],o2, .no⟩ { tmps:= #[v],defers:=[] } w':=⟨hro',⟨rfl,fun i c x h1 h2=>by
  match i,h1,h2 with
  | 0,h1,h2=>cases h1;cases h2;exact hra'
  | i+1,h1,h2=>simp at h1⟩,⟨Nat.zero_le _,⟨[],List.nodup_nil,rfl,fun x hx=>(by cases hx)⟩,fun l hl=>by cases hl⟩⟩
 have hk:Wk o.length ⟨[r0],o2, .no⟩ ⟨[r],o', .no⟩:=⟨hw.1,hw.2.1,hw.2.2,rfl⟩;have k2:=jy hk hs;exact ⟨v,nu',o',r,rfl,hk.mono (Nat.le_refl _) hm,k2.ro,k2.tm.at' 0 r v rfl rfl,rfl,rfl⟩
mutual
theorem zi (f:Nat->Nat): ∀a:AV,a.wf 0=true->a.bg f=a
 | .undef,_=>rfl
 | .v _,_=>rfl
 | .agg cs,h=>by rw [AV.bg,gH f cs h]
 | .cI cs,h=>by rw [AV.bg,gH f cs h]
 | .aB z rows len,h=>by rw [AV.bg,dJ f rows h]
 | .vp cs,h=>by rw [AV.bg,gH f cs h]
 | .ptr id _ _ _ _,h=>by simp [AV.wf] at h
 | .vec id _,h=>by simp [AV.wf] at h
 | .fn g a b,h=>by
  simp only [AV.wf,XK] at h;rw [AV.bg,gH f a h.1,gH f b h.2]
 | .full a,h=>by rw [AV.bg,zi f a h]
 | .kF p a,h=>by rw [AV.bg,zi f a h]
 | .mp rows,h=>by rw [AV.bg,dJ f rows h]
theorem gH (f:Nat->Nat): ∀l:List AV,aN 0 l=true->bP f l=l
 | [],_=>rfl
 | a :: l,h=>by
  simp only [aN,XK] at h;rw [bP,zi f a h.1,gH f l h.2]
theorem dJ (f:Nat->Nat): ∀l:List (List AV),bj 0 l=true->cG f l=l
 | [],_=>rfl
 | a :: l,h=>by
  simp only [bj,XK] at h;rw [cG,gH f a h.1,dJ f l h.2]
end
def cQ (m:Nat) (t:List AV):List AV:=t.take m++List.replicate (t.length - m) .undef
def kD (t:List AV) (l:List (Nat×AV)):List AV:=l.foldl (fun t p=>t.set p.1 p.2) t
theorem bf {n0:Nat} {Q:bd->AS->Prop} {ι:Type} {c:Code} {t:List AV} {o:List (Option ab)} {y:jA} (m:Nat) (upd:ι->List (Nat×AV)) (mu:ι->Nat) (ok:ι->Prop) (i0:ι) (h3:ok i0) (h2:Wk n0 ⟨t,o,y⟩ ⟨kD (cQ m t) (upd i0),o,y⟩)
  (h: ∀i,ok i-> ∀K:AS->Prop,(∀s2,az n0 (fun i=>⟨kD (cQ m t) (upd i),o,y⟩) mu ok (mu i) s2->K s2)->cm P n0 c ⟨kD (cQ m t) (upd i),o,y⟩ (my K Q)):cm P n0 (.loop c) ⟨t,o,y⟩ Q:=
 kM (fun i=>⟨kD (cQ m t) (upd i),o,y⟩) mu ok i0 _ .refl h2 h3 h
theorem aV {n0:Nat} {Q:bd->AS->Prop} {ι:Type} {c:Code} {t:List AV} {o:List (Option ab)} {y:jA} (m:Nat) (upd:ι->List (Nat×AV)) (ob:ι->List (Option ab)) (mu:ι->Nat) (ok:ι->Prop) (i0:ι) (h3:ok i0) (h2:Wk n0 ⟨t,o,y⟩ ⟨kD (cQ m t) (upd i0),ob i0,y⟩)
  (h: ∀i,ok i-> ∀K:AS->Prop,(∀s2,az n0 (fun i=>⟨kD (cQ m t) (upd i),ob i,y⟩) mu ok (mu i) s2->K s2)->cm P n0 c ⟨kD (cQ m t) (upd i),ob i,y⟩ (my K Q)):cm P n0 (.loop c) ⟨t,o,y⟩ Q:=
 kM (fun i=>⟨kD (cQ m t) (upd i),ob i,y⟩) mu ok i0 _ .refl h2 h3 h
theorem nB {n0:Nat} {Q:bd->AS->Prop} {ι:Type} {c:Code} {t:List AV} {o:List (Option ab)} {y:jA} (d:Nat) (T:TypeId) (z:Nat) (hd:t[d]? = some (.v (.slice none 0 0))) (hz:0<z) (m:Nat) (upd:ι->List (Nat×AV)) (ob:ι->List (Option ab)) (mu:ι->Nat) (ok:ι->Prop) (i0:ι) (h3:ok i0)
  (h2:Wk n0 ⟨t.set d (.vec o.length 0),o++[some ⟨T,z,true,[]⟩],y⟩ ⟨kD (cQ m t) (upd i0),ob i0,y⟩)
  (h: ∀i,ok i-> ∀K:AS->Prop,(∀s2,az n0 (fun i=>⟨kD (cQ m t) (upd i),ob i,y⟩) mu ok (mu i) s2->K s2)->cm P n0 c ⟨kD (cQ m t) (upd i),ob i,y⟩ (my K Q)):cm P n0 (.loop c) ⟨t,o,y⟩ Q:=
 kM (fun i=>⟨kD (cQ m t) (upd i),ob i,y⟩) mu ok i0 _ (.step d T z ⟨t,o,y⟩ .refl hd hz) h2 h3 h
end
attribute [go_sem] Value.oneCell' bP cG AV.bg ab.bg sig eu dJ cQ kD List.foldl_cons List.foldl_nil
end
section
structure rQ where
 G:Type
 wd:G->World
 R:G->G->Prop
 UL: ∀g,R g g
 trans': ∀a b c,R a b->R b c->R a c
 pre:Nat->G->Prop
structure jX (N:rQ) where
 p:Value->N.G->Prop
 st: ∀v g g',N.R g g'->p v g->p v g'
def jX.any {N:rQ}:jX N:=⟨fun _ _=>True,fun _ _ _ _ _=>trivial⟩
def vR {N:rQ} (L:List (jX N)) (i:Nat):jX N:=L.getD i jX.any
section
variable {P:Program} {ops:Array Oper} {N:rQ}
def Ur (P:Program) (S:jX N) (j:Nat) (g:N.G):Result Next->Prop
 | .ok (.value u) w'=> ∃g',N.wd g'=w'∧N.R g g'∧(∀i,i≠j->N.pre i g->N.pre i g')∧S.p u g'
 | .ok .skip w'=> ∃g',N.wd g'=w'∧N.R g g'∧(∀i,i≠j->N.pre i g->N.pre i g')∧S.p undef g'
 | .ok (.enter f args) w'=>Calls P f args w' (fun e w''=> ∃v g',e = .returned v∧N.wd g'=w''∧N.R g g'∧(∀i,i≠j->N.pre i g->N.pre i g')∧S.p v g')
 | _=>False
end
end
section
mutual
theorem D7: ∀a:AV,a.bg (fun x=>x)=a
 | .undef=>rfl
 | .v _=>rfl
 | .agg cs=>by rw [AV.bg,lV cs]
 | .cI cs=>by rw [AV.bg,lV cs]
 | .aB z rows len=>by rw [AV.bg,zf rows]
 | .vp cs=>by rw [AV.bg,lV cs]
 | .ptr id _ _ _ _=>rfl
 | .vec id _=>rfl
 | .fn g a b=>by rw [AV.bg,lV a,lV b]
 | .full a=>by rw [AV.bg,D7 a]
 | .kF p a=>by rw [AV.bg,D7 a]
 | .mp rows=>by rw [AV.bg,zf rows]
theorem lV: ∀l:List AV,bP (fun x=>x) l=l
 | []=>rfl
 | a :: l=>by rw [bP,D7 a,lV l]
theorem zf: ∀l:List (List AV),cG (fun x=>x) l=l
 | []=>rfl
 | a :: l=>by rw [cG,lV a,zf l]
end
section
variable {D D':Nat->Prop} {nu nu':Nat->Nat->Value} {o o':List (Option ab)} {w w':World} {P:Program}
end
structure BG (w0:World) (tz:Nat->TypeId×Nat) where
 w:World
 n:Nat->Option (Nat×Option (Array Value))
 base:Below w0.heap.size w0 w
 lay: ∀i b c,n i=some (b,c)->w0.heap.size<=b∧ ∃C:Array Value,w.heap[b]? = some (.cells C (tz i).1 (0,0))∧C.size=(tz i).2∧(∀x∈C.toList,x.oneCell'=true)∧ ∀C',c=some C'->C=C'
 inj: ∀i j b c c',n i=some (b,c)->n j=some (b,c')->i=j
def BG.box {w0:World} {tz:Nat->TypeId×Nat} (g:BG w0 tz) (b:Nat):Prop:= ∃i c,g.n i=some (b,c)
def BG.Wp {w0:World} {tz:Nat->TypeId×Nat} (g:BG w0 tz) (b:Nat):Prop:= ∃i,g.n i=some (b,none)
structure BR {w0:World} {tz:Nat->TypeId×Nat} (g g':BG w0 tz):Prop where
 size:g.w.heap.size<=g'.w.heap.size
 same: ∀b,b<g.w.heap.size-> ¬g.Wp b->g'.w.heap[b]? = g.w.heap[b]?
 up: ∀i b c,g.n i=some (b,c)-> ∃c',g'.n i=some (b,c')∧ ∀C,c=some C->c'=some C
 new: ∀i b c,g'.n i=some (b,c)->b<g.w.heap.size-> ∃c',g.n i=some (b,c')
def Vx (l:List Oper) (j i:Nat):Prop:= ∃T d x oj oi U,l[j]? = some oj∧oj.op = .store T (.tmp d) x∧l[i]? = some oi∧oi.op = .alloc U∧oi.dst=some d
def Dx {w0:World} {tz:Nat->TypeId×Nat} (D:Nat->Prop) (g:BG w0 tz) (b:Nat):Prop:=D b∧ ¬g.box b
section
variable {w0:World} {tz:Nat->TypeId×Nat} {l:List Oper} {D:Nat->Prop} {nu:Nat->Nat->Value} {o:List (Option ab)} {P:Program}
inductive BE where
 | val (r:AV)
 | al
 | st (i:Nat) (row:List AV)
def BG.next (g:BG w0 tz) (w':World) (h:Below g.w.heap.size g.w w'):BG w0 tz:=⟨w',g.n,cp g.base h,fun i b c hi=>by
 obtain ⟨h1,C,h2,h3⟩:=g.lay i b c hi
 exact ⟨h1,C,(h.block b (WR.1 h2).1).trans h2,h3⟩,g.inj⟩
structure Bx where
 d:Tmp
 k:Nat
 T:TypeId
 z:Nat
 row:Option (List AV)
def Db (d:Tmp):List Bx->Option Bx
 | []=>none
 | b :: l=>if b.d=d then some b else Db d l
def Jc (d:Tmp) (r:List AV):List Bx->List Bx
 | []=>[]
 | b :: l=>if b.d=d then { b with row:=some r } :: l else b :: Jc d r l
def tJ:AS->List Bx->AS
 | s,[]=>s
 | s,b :: l=>tJ ⟨s.t.set b.d (.ptr s.o.length 0 b.z 0 0),s.o++[some ⟨b.T,b.z,false,[b.row.getD []]⟩],s.y⟩ l
def LZ:Option (Nat×Bool)->Option Tmp->Option (List AV)->Nat->(Tmp->Nat->Prop)->Prop
 | none,some d,some cs,n,K=>(0<cs.length∧d<n)∧K d cs.length
 | _,_,_,_,_=>False
def L0:Option (Nat×Bool)->Option Tmp->Option Bx->Option (List AV)->Option Nat->(List AV->Prop)->Prop
 | none,none,some b,some cs,some n,K=>(cs.length=n∧n=b.z∧b.row.isNone=true∧aN 0 cs=true)∧K cs
 | _,_,_,_,_,_=>False
def Cm (P:Program) (all:List Oper):List Oper->Nat->AS->List Bx->(AS->Prop)->Prop
 | [],_,s,bx,Q=>bx.all (fun b=>b.row.isSome)=true∧Q (tJ s bx)
 | oo :: rest,k,s,bx,Q=>match oo.op with
  | .alloc T=>LZ oo.guard oo.dst (ei P T) s.t.length (fun d z=>Cm P all rest (k+1) (s.put (some d) .undef s.o) (bx++[⟨d,k,T,z,none⟩]) Q)
  | .store T (.tmp d) x=>L0 oo.guard oo.dst (Db d bx) (s.ev x).cells? (ct P T) (fun cs=>Cm P all rest (k+1) (s.put oo.dst .undef s.o) (Jc d cs bx) Q)
  | _=>match oo.guard with
   | none=>bZ P oo.op s (fun r=>Cm P all rest (k+1) (s.put oo.dst r s.o) bx Q)
   | some (j,want)=>vS (jk all s j) want (bZ P oo.op s (fun r=>Cm P all rest (k+1) (s.put oo.dst r s.o) bx Q)) (Cm P all rest (k+1) (s.put oo.dst (.v Go.undef) s.o) bx Q)
def Pn (o:Oper):Option Tmp:=match o.op with
 | .store _ (.tmp d) _=>some d
 | _=>none
def R2 (o:Oper):Option Tmp:=match o.op with
 | .alloc _=>o.dst
 | _=>none
def Wf (ops:Array Oper):Bool:=(List.range ops.size).all fun j=>(List.range ops.size).all fun i=>match ops[j]?,ops[i]? with
 | some oj,some oi=>match Pn oj with
  | some d=>(i==j||Pn oi !=some d)&&(R2 oi !=some d||aG ops j i)
  | none=>true
 | _,_=>true
structure V6 (l:List Oper) (tz:Nat->TypeId×Nat) (s:AS) (a:Act) (k:Nat) (sk:AS) (rs:List BE) (A:(Nat->Value)->Act) (bx:List Bx):Prop where
 o:sk.o=s.o
 y:sk.y=s.y
 len:rs.length=k
 jj: ∀x,(A x).defers=a.defers
 size: ∀x,sk.t.length=(A x).tmps.size
 val: ∀x (t:Nat) c v,sk.t[t]? = some c->(A x).tmps[t]? = some v->c = .undef∨(s.t[t]? = some c∧a.tmps[t]? = some v)∨ ∃i,i<k∧(∃oi,l[i]? = some oi∧oi.dst=some t)∧rs[i]? = some (.val c)∧v=x i
 box: ∀b,b∈bx->b.k<k∧rs[b.k]? = some .al∧(∃oi,l[b.k]? = some oi∧oi.op = .alloc b.T∧oi.dst=some b.d)∧tz b.k=(b.T,b.z)∧0<b.z∧(∀x,(A x).tmps[b.d]? = some (x b.k))∧(∀r,b.row=some r->r.length=b.z∧ ∃j,j<k∧rs[j]? = some (.st b.k r))
 VA:(bx.map Bx.k).Nodup
end
end
section
section
variable {w0:World} {tz:Nat->TypeId×Nat} {l:List Oper} {D:Nat->Prop} {nu:Nat->Nat->Value} {o:List (Option ab)} {P:Program}
end
end
section
section
variable {l:List Oper} {D:Nat->Prop} {nu:Nat->Nat->Value} {o:List (Option ab)} {P:Program}
theorem IK {all:List Oper} {k:Nat} {s:AS} {bx:List Bx} {Q:AS->Prop} (h:bx.all (fun b=>b.row.isSome)=true∧Q (tJ s bx)):Cm P all [] k s bx Q:=h
end
@[go_sem] theorem Q1 (d:Tmp) (cs:List AV) (n:Nat) (K:Tmp->Nat->Prop):LZ none (some d) (some cs) n K=((0<cs.length∧d<n)∧K d cs.length):=rfl
@[go_sem] theorem Q2 (b:Bx) (cs:List AV) (n:Nat) (K:List AV->Prop):L0 none none (some b) (some cs) (some n) K=((cs.length=n∧n=b.z∧b.row.isNone=true∧aN 0 cs=true)∧K cs):=rfl
@[congr] theorem Pr {g:Option (Nat×Bool)} {d:Option Tmp} {x y:Option (List AV)} {n m:Nat} {K:Tmp->Nat->Prop} (h:x=y) (k:n=m):LZ g d x n K=LZ g d y m K:=by rw [h,k]
@[congr] theorem Ps {g:Option (Nat×Bool)} {d:Option Tmp} {b b':Option Bx} {x y:Option (List AV)} {n m:Option Nat} {K:List AV->Prop} (h1:b=b') (h:x=y) (k:n=m):L0 g d b x n K=L0 g d b' y m K:=by rw [h1,h,k]
attribute [go_sem] List.all_cons List.all_nil Db Jc tJ Option.isNone_none Option.isSome_some Option.getD_some
@[go_sem] theorem RF (t:List AV) (o:List (Option ab)) (y:jA):(AS.mk t o y).t=t:=rfl
end
end Go.Proofs.YtfflpdekojlnmaaGreatDoor
