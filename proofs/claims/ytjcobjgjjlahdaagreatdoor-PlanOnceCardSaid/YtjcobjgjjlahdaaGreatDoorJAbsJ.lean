/- texts of one claim, one behind the other. -/
import Derived.Test.YtjcobjgjjlahdaaGreatDoorJAbsG
import Derived.Test.YtjcobjgjjlahdaaGreatDoorJFen
set_option linter.unusedSimpArgs false
set_option linter.unusedVariables false
set_option maxRecDepth 100000
set_option maxHeartbeats 16000000
open Array renaming getElem?_eq_some_iff -> Q8, getElem?_append_left -> RL, getElem?_append_right -> Sa
open Bool renaming and_eq_true -> RY
open List renaming getElem?_map -> Rs, mem_of_getElem? -> RK, getElem?_eq_some_iff -> Ra, getElem?_eq_getElem -> Rp, getElem?_drop -> Rn, append_assoc -> RD, getElem?_append_left -> Rb, getElem?_append_right -> RF, getD_eq_getElem?_getD -> R6, getElem?_set_self -> Rx, getElem?_set_ne -> Rw, getElem?_toArray -> Rr, singleton_append -> Sc, length_eq_one_iff -> R0, mem_cons_of_mem -> Sb
open Nat renaming le_refl -> Q5, zero_add -> RX, lt_or_ge -> Rc, le_trans -> Q6
open Option.some renaming inj -> Q4, injEq -> Rl
open Prod.mk renaming injEq -> Rm
namespace Go.Proofs.YtjcobjgjjlahdaaGreatDoor
open Go.RowKit
section
def z6 (P:Program) (T:TypeId) (o:List (Option aa)) (a b:AV):Option (Prop×AV):=
 match iP P T,a with
 | some (_,z,bytes), .full (.aC z' rows len)=>match lB o z b with
  | some (p,rows2)=>some (z'=z∧p∧(len+rows2.length) * bytes<=70368744177664∧len+rows2.length<=70368744177664, .aC z (rows.take len++rows2) (len+rows2.length))
  | none=>none
 | some (_,z,bytes), .v (.slice none 0 0)=>match lB o z b with
  | some (p,rows2)=>some (p∧rows2.length * bytes<=70368744177664∧rows2.length<=70368744177664, .aC z rows2 rows2.length)
  | none=>none
 | _,_=>none
def yl (P:Program) (ev:Operand->AV) (o:List (Option aa)):List Operand->List TypeId->Option (Prop×AV)
 | [x,y],[T,T']=>if T=T' then z6 P T o (ev x) (ev y).st else none
 | _,_=>none
def Bu (P:Program) (ev:Operand->AV) (o:List (Option aa)) (op:Op):Option (Prop×AV):=match op with
 | .buildSlice T len parts=>match fh P T len [] (parts.toList.map fun p=>(p.1,ev p.2)) with
  | some (_,[some ob])=>some (True, .aC ob.z ob.rows len)
  | _=>none
 | .box _ x=>match (ev x).cells? with
  | some cs=>some (True, .vp cs)
  | none=>none
 | .slice T x lo hi mx=>match (ev x).st with
  | .vec _ _=>none
  | a=>match lA P T o a (lo.map ev) (hi.map ev) (mx.map ev) with
   | some (p,r,_)=>some (p,r)
   | none=>none
 | .call c=>match c.callee with
  | .builtin .append=>yl P ev o c.args.toList c.argTypes.toList
  | _=>vJ P ev o (.call c)
 | op=>vJ P ev o op
section
variable {D:Nat->Prop} {nu:Nat->Nat->Value} {o:List (Option aa)} {w:World} {P:Program}
theorem yS (h:RO D nu o w) (ob:Obj):Fz D nu o (w.alloc ob) w.heap.size:=⟨by simp,fun ho=>by have:=h.aU ho;omega,h.up _ (Q5 _)⟩
theorem dX (w:World) (ob:Obj):Below w.heap.size w (w.alloc ob):=(Below.refl _ _).alloc (Q5 _) _
theorem RA.Ot {z len:Nat} {rows:List (List AV)} {v:Value} (h:RA D nu o w (.aC z rows len) v):RA D nu o w (.aC z (rows.take len) len) v:=by
 cases h with
 | bf=>simpa using RA.bf z
 | bC _ a=>simpa using RA.bC z a
 | aC _ _ _ b off cap f h1 h2 h3 h4 h5 h6 h7 h8=>
  have hg: ∀(i:Nat) row,(rows.take len)[i]? = some row->rows[i]? = some row:=fun i row hi=>by
   rw [List.getElem?_take] at hi
   split at hi
   ·exact hi
   ·cases hi
  exact .aC z _ len b off cap f (by simp;omega) (by simp;omega) h3 (fun hne=>h4 (fun e=>hne (by rw [e];simp))) (fun i row hi=>h5 i row (hg i row hi)) (fun i j row c hi=>h6 i j row c (hg i row hi)) (fun i j row c hi=>h7 i j row c (hg i row hi)) (fun i j row c hi=>h8 i j row c (hg i row hi))
theorem ym {T:TypeId} (ty:TypeId) (h:RO D nu o w) {a b:AV} {x y:Value} (hr:RA D nu o w a x) (hs:RA D nu o w b y) {p:Prop} {r:AV} (hl:z6 P T o a b=some (p,r)) (hp:p) :
  ∃v w',(Builtin.append_ #[T,T] ty #[x,y]).run P w = .ok v w'∧Below w.heap.size w w'∧RA D nu o w' r v:=by
 have main: ∀(e:TypeId) (z bytes:Nat) (rows:List (List AV)) (len:Nat) (p':Prop) (rows2:List (List AV)),iP P T=some (e,z,bytes)->RA D nu o w (.full (.aC z rows len)) x->lB o z b=some (p',rows2)->p'->(len+rows2.length) * bytes<=70368744177664->len+rows2.length<=70368744177664 ->
   ∃v w',(Builtin.append_ #[T,T] ty #[x,y]).run P w = .ok v w'∧Below w.heap.size w w'∧RA D nu o w' (.aC z (rows.take len++rows2) (len+rows2.length)) v:=by
  intro e z bytes rows len p' rows2 ht hr e2 hp' hby h63;obtain ⟨hu,i,zv,hi,_,_,hz0,_,_⟩:=fu ht
  by_cases hne:rows2=[]
  ·subst hne
   have hx:RA D nu o w (.aC z (rows.take len++[]) (len+([]:List (List AV)).length)) x:=by
    simp only [List.append_nil,List.length_nil,Nat.add_zero]
    cases hr with
    | full _ _ _ h2=>exact h2.Ot
   refine ⟨x,w, ?_, .refl _ _,hx⟩
   cases hr with
   | full _ _ h1 h2=>
   obtain ⟨ad,n,rfl⟩:=h1
   have hy: ∃q c,y = .slice q 0 c:=by
    rcases iu h hz0 hs e2 hp' with ⟨rfl,_⟩|⟨g,c,news,rfl,_⟩
    ·exact ⟨_,_,rfl⟩
    ·exact ⟨_,_,rfl⟩
   obtain ⟨q,c,rfl⟩:=hy;cases ad<;>cases q<;>simp [Builtin.append_,run_underlying hu,sizeOf,typeInfo,hi,Builtin.lenOf,Builtin.firstCells,loadCells,loadCellsFrom,storeCells]
  ·obtain ⟨cap,cur,hrun,hg,hlr,hc1,hc2,hcs⟩:=xC ty ht h hr hs e2 hp' hne hby h63;refine ⟨_,_,hrun,((Below.refl _ w).drew).alloc (Q5 _) _, ?_⟩;have hb:Below w.heap.size w w.drew:=(Below.refl _ _).drew;have hb':Below w.heap.size w (w.drew.alloc (.cells cur e)):=hb.alloc (Q5 _) _
   have hget: ∀(i j:Nat) row c,(rows.take len++rows2)[i]? = some row->row[j]? = some c->cur[i * z+j]? = some (cur.getD (i * z+j) Go.undef):=fun i j row c k1 k2=>by
    obtain ⟨x,q1,_⟩:=hg.cell i j row c k1 k2
    have:=(Q8.1 q1).1
    simp [Array.getD,this]
   have hfz:Fz D nu o (w.drew.alloc (.cells cur e)) w.heap.size:=yS (h.below hb) _
   refine .aC z _ _ _ 0 cap (fun i j=>cur.getD (i * z+j) Go.undef) (by omega) (by omega) hc2 (fun _=>hfz) hg.row (fun i j row c k1 k2=> ?_) (fun i j row c k1 k2=> ?_) (fun i j row c k1 k2=> ?_)
   ·rw [<-hget i j row c k1 k2,RX];exact cell_of_row _ _ _ _ _ _ (heap_alloc_new w.drew _)
   ·obtain ⟨x,q1,q2,_⟩:=hg.cell i j row c k1 k2
    have:=hget i j row c k1 k2
    rw [q1] at this;rw [<-Q4 this];exact q2.mono (aw hb') (fun _ _ h=>h)
   ·obtain ⟨x,q1,_,q3⟩:=hg.cell i j row c k1 k2
    have:=hget i j row c k1 k2
    rw [q1] at this;rw [<-Q4 this];exact q3
 unfold z6 at hl
 split at hl
 ·rename_i e z bytes z' rows len ht
  split at hl
  ·rename_i p' rows2 e2;cases hl;obtain ⟨rfl,hp',hby,h63⟩:=hp;exact main e z' bytes rows len p' rows2 ht hr e2 hp' hby h63
  ·cases hl
 ·rename_i e z bytes ht
  split at hl
  ·rename_i p' rows2 e2;cases hl;obtain ⟨hp',hby,h63⟩:=hp
   have hr':RA D nu o w (.full (.aC z [] 0)) x:=by
    obtain rfl:=hr.cj;exact .full _ _ ⟨_,_,rfl⟩ (.bf z)
   have:=main e z bytes [] 0 p' rows2 ht hr' e2 hp' (by simpa using hby) (by simpa using h63)
   simpa using this
  ·cases hl
 ·cases hl
theorem Bv {ev:Operand->AV} {rho:Operand->Value} {oo:Oper} (h:RO D nu o w) (hev:DF D nu o w ev rho oo.op) {p:Prop} {r:AV} (ha:Bu P ev o oo.op=some (p,r)) (hp:p) :
  ∃v w',(execOp rho oo).run P w = .ok (.value v) w'∧Below w.heap.size w w'∧RA D nu o w' r v:=by
 unfold Bu at ha
 split at ha
 ·rename_i T len parts hop
  split at ha
  ·rename_i r' ob hb;cases ha
   obtain ⟨e,z,rows,ys,_,h2,h3,hz0,hlm,hys,hg,hrun⟩:=FV (D:=D) (nu:=nu) (o:=o) (w:=w) (P:=P) (vs:=parts.map fun (i,x)=>(i,rho x)) (by simp) (fun k p q a b=>by
    rw [Rs] at a;rw [Array.getElem?_map] at b
    have e:parts.toList[k]? = parts[k]? :=by simp
    rw [e] at a
    cases hk:parts[k]? with
    | none=>rw [hk] at a;cases a
    | some pr=>
     rw [hk] at a b;cases a;cases b
     exact ⟨rfl,hev pr.2 (by
      rw [hop];simp only [Op.operands]
      have:pr∈parts.toList:=RK (by rw [e];exact hk)
      simpa using ⟨pr.1,by simpa using this⟩)⟩) hb
   simp only [List.nil_append,List.cons.injEq,Rl,and_true] at h2;subst h2
   have hrun':((do pure (Next.value (<-Instr.buildSlice T len (parts.map fun (i,x)=>(i,rho x)))):Sem Next)).run P w = .ok (.value (.slice (some ⟨w.heap.size,0,none⟩) len len)) (w.alloc (.cells ys e)):=by rw [Sem.run_bind,hrun];rfl
   refine ⟨_,_,by simpa only [execOp,hop] using hrun',dX _ _, ?_⟩
   have hget: ∀(i j:Nat) row c,rows[i]? = some row->row[j]? = some c->ys[i * z+j]? = some (ys.getD (i * z+j) Go.undef):=fun i j row c k1 k2=>by
    obtain ⟨x,q1,_⟩:=hg.cell i j row c k1 k2
    have:=(Q8.1 q1).1
    simp [Array.getD,this]
   refine .aC z rows len _ 0 len (fun i j=>ys.getD (i * z+j) Go.undef) (by omega) (by omega) (by unfold maxLen;omega) (fun _=>yS h _) hg.row (fun i j row c k1 k2=> ?_) (fun i j row c k1 k2=> ?_) (fun i j row c k1 k2=> ?_)
   ·rw [<-hget i j row c k1 k2,RX];exact cell_of_row _ _ _ _ _ _ (heap_alloc_new w _)
   ·obtain ⟨x,q1,q2,_⟩:=hg.cell i j row c k1 k2
    have:=hget i j row c k1 k2
    rw [q1] at this;rw [<-Q4 this];exact q2.mono (aw (dX w _)) (fun _ _ h=>h)
   ·obtain ⟨x,q1,_,q3⟩:=hg.cell i j row c k1 k2
    have:=hget i j row c k1 k2
    rw [q1] at this;rw [<-Q4 this];exact q3
  ·cases ha
 ·rename_i T x hop;have hx:=hev x (by rw [hop];simp [Op.operands])
  split at ha
  ·rename_i cs hc;cases ha;have hcs:=hx.one hc;refine ⟨.pointer (some ⟨w.heap.size,0,none⟩),w.alloc (.cells (rho x).cells T),by simp [execOp,hop,Instr.box,newVar,newRow],dX _ _, ?_⟩
   have hget: ∀(j:Nat) c,cs[j]? = some c->(rho x).cells[j]? = some ((rho x).cells.getD j Go.undef):=fun j c k=>by
    have:=(Ra.1 k).1
    have hl:=hcs.len;simp [Array.getD,show j<(rho x).cells.size by omega]
   refine .vp cs _ 0 (fun j=>(rho x).cells.getD j Go.undef) (yS h _) (fun j c k=> ?_) (fun j c k=> ?_) (fun j c k=> ?_)
   ·rw [<-hget j c k,RX];exact cell_of_row _ _ _ _ _ _ (heap_alloc_new w _)
   ·exact (hcs.at' j c _ k (hget j c k)).mono (aw (dX w _)) (fun _ _ h=>h)
   ·exact hcs.one j _ (hget j c k)
  ·cases ha
 ·rename_i T x lo hi mx hop
  split at ha
  ·cases ha
  ·rename_i hne
   split at ha
   ·rename_i p' r' o' hb;cases ha;obtain ⟨v,h1,h2,_⟩:=qU (P:=P) (hev x (by rw [hop];simp [Op.operands])).st (jd (rho:=rho) (fun y hy=>hev y (by rw [hop,hy];simp [Op.operands]))) (jd (rho:=rho) (fun y hy=>hev y (by rw [hop,hy];simp [Op.operands]))) (jd (rho:=rho) (fun y hy=>hev y (by rw [hop,hy];simp [Op.operands]))) hb hp (fun id len e=>hne id len e);refine ⟨v,w, ?_, .refl _ _,h2⟩;simp only [execOp,hop,Sem.run_bind,h1,Result.andThen_ok,Sem.run_pure]
   ·cases ha
 ·rename_i c hop
  split at ha
  ·rename_i hc;have hops: ∀x,x∈c.args.toList->RA D nu o w (ev x) (rho x):=fun x hx=>hev x (by rw [hop];simp only [Op.operands,Call.operands,hc];simpa using hx);obtain ⟨callee,args,argTypes⟩:=c;simp only at hc ha hops;subst hc;obtain ⟨args⟩:=args;obtain ⟨argTypes⟩:=argTypes;simp only at ha hops;unfold yl at ha
   split at ha
   ·rename_i x y T T'
    split at ha
    ·rename_i hT;subst hT;obtain ⟨v,w',h1,h2,h3⟩:=ym (P:=P) oo.type h (hops x (by simp)) (hops y (by simp)).st ha hp;exact ⟨v,w',by simp [execOp,hop,resolve,invoke,builtin,h1],h2,h3⟩
    ·cases ha
   ·cases ha
  ·obtain ⟨v,h1,h2⟩:=iU (P:=P) h hev (by rw [hop];exact ha) hp;exact ⟨v,w,h1, .refl _ _,h2⟩
 ·obtain ⟨v,h1,h2⟩:=iU (P:=P) h hev ha hp;exact ⟨v,w,h1, .refl _ _,h2⟩
def zV (x:Option (Prop×AV)) (K:AV->Prop):Prop:=match x with
 | some (p,r)=>p∧K r
 | none=>False
@[congr] theorem KO {x y:Option (Prop×AV)} {K:AV->Prop} (h:x=y):zV x K=zV y K:=by rw [h]
theorem DB (p:Prop) (r:AV) (K:AV->Prop):zV (some (p,r)) K=(p∧K r):=rfl
theorem DD (r:AV) (K:AV->Prop):zV (some (True,r)) K=K r:=by simp [zV]
mutual
def gk (o:List (Option aa)):Nat->AV->Option (Prop×AV)
 | 0,_=>none
 | _+1, .vec id len=>match o[id]? with
  | some (some ob)=>some (ob.fw=true∧ob.rows.length=len∧dA 0 ob.rows=true, .aC ob.z ob.rows len)
  | _=>none
 | n+1, .ptr id len z row off=>match o[id]? with
  | some (some ob)=>match fx o n (ob.rows.getD row []) with
   | some (p,cs)=>some (p∧ob.hl=len∧ob.z=z∧row<ob.rows.length, .vp (cs.drop off))
   | none=>none
  | _=>none
 | n+1, .agg cs=>match fx o n cs with
  | some (p,cs')=>some (p, .agg cs')
  | none=>none
 | n+1, .fn g fi ca=>match fx o n fi,fx o n ca with
  | some (p,fi'),some (q,ca')=>some (p∧q, .fn g fi' ca')
  | _,_=>none
 | n+1, .dC cs=>match fx o n cs with
  | some (p,cs')=>some (p, .dC cs')
  | none=>none
 | n+1, .full b=>match gk o n b with
  | some (p,b')=>some (p, .full b')
  | none=>none
 | n+1, .iR q b=>match gk o n b with
  | some (p,b')=>some (p, .iR q b')
  | none=>none
 | _+1,a=>some (a.wf 0=true,a)
def fx (o:List (Option aa)):Nat->List AV->Option (Prop×List AV)
 | 0,_=>none
 | _+1,[]=>some (True,[])
 | n+1,a :: l=>match gk o n a,fx o n l with
  | some (p,b),some (q,m)=>some (p∧q,b :: m)
  | _,_=>none
end
theorem iZ (h:RO D nu o w): ∀(n:Nat),(∀(a:AV) (x:Value) (p:Prop) (r:AV),gk o n a=some (p,r)->p->RA D nu o w a x->RA D nu [] w r x) ∧
  (∀(l:List AV) (p:Prop) (m:List AV),fx o n l=some (p,m)->p->l.length=m.length∧ ∀(i:Nat) a b x,l[i]? = some a->m[i]? = some b->RA D nu o w a x->RA D nu [] w b x)
 | 0=>⟨fun a x p r he=>by simp [gk] at he,fun l p m he=>by simp [fx] at he⟩
 | n+1=>by
  have hF: ∀id ob g cur,o[id]? = some (some ob)->rR D nu o w id ob g cur->Fz D nu [] w g:=fun id ob g cur _ hb=>⟨(Q8.1 hb.blk).1,ba _ _,hb.kJ⟩;have hFz: ∀b,Fz D nu o w b->Fz D nu [] w b:=fun b hb=>⟨hb.1,ba _ _,hb.2.2⟩;obtain ⟨ih1,ih2⟩:=iZ h n;have cl: ∀(a:AV) (x:Value),a.wf 0=true->RA D nu o w a x->RA D nu [] w a x:=fun a x ha hr=>hr.tr (n:=0) hFz (fun id len hlt=>by omega) ha
  constructor
  ·intro a x p r he hp hr
   cases a with
   | vec id len=>
    simp only [gk] at he
    split at he
    ·rename_i ob ho;cases he;obtain ⟨hv,rfl,hw⟩:=hp;cases hr;exact (jL h ho hv).tr (n:=0) (fun b hb=>⟨hb.1,ba _ _,hb.2.2⟩) (fun id len hlt=>by omega) (by simpa only [AV.wf] using hw)
    ·cases he
   | ptr id len z row off=>
    simp only [gk] at he
    split at he
    ·rename_i ob ho
     split at he
     ·rename_i q cs e;cases he;obtain ⟨hq,rfl,rfl,hlt⟩:=hp;obtain ⟨hl,hall⟩:=ih2 _ _ _ e hq
      cases hr with
      | ptr _ _ _ _ _ b h1 h2=>
      rcases h.obj id ob ho with ⟨e1,e2,e3⟩|⟨g,cur,hb⟩|⟨g,es,cl,hmp⟩
      rotate_left 2
      ·exact absurd h2 (hmp.Fh (Q5 _))
      ·rw [e2] at hlt;simp at hlt
      ·rw [hb.kI] at h2;cases h2;have hrow:ob.rows[row]? = some ob.rows[row]:=Rp hlt;rw [getD_some hrow] at hl hall
       have hget: ∀(j:Nat) c,cs[j]? = some c-> ∃c0,ob.rows[row][j]? = some c0∧cur[row * ob.z+j]? = some (cur.getD (row * ob.z+j) Go.undef):=fun j c hc=>by
        have hj:j<ob.rows[row].length:=by rw [hl];exact (Ra.1 hc).1
        have:=hb.mg hrow hj
        exact ⟨_,Rp hj,by simp [Array.getD,this]⟩
       refine .vp _ b _ (fun j=>cur.getD (row * ob.z+(off+j)) Go.undef) (hF id ob b cur ho hb) (fun j c hc=> ?_) (fun j c hc=> ?_) (fun j c hc=> ?_)
       ·rw [Rn] at hc;obtain ⟨c0,k1,k2⟩:=hget _ c hc;rw [<-k2,show row * ob.z+off+j=row * ob.z+(off+j) by omega];exact cell_of_row _ _ _ _ _ _ hb.blk
       ·rw [Rn] at hc;obtain ⟨c0,k1,k2⟩:=hget _ c hc;exact hall _ c0 c _ k1 hc (hb.cell row _ _ c0 _ hrow k1 k2)
       ·rw [Rn] at hc;obtain ⟨c0,k1,k2⟩:=hget _ c hc;exact hb.one row _ _ c0 _ hrow k1 k2
     ·cases he
    ·cases he
   | agg cs=>
    simp only [gk] at he
    split at he
    ·rename_i q cs' e;cases he;obtain ⟨hl,hall⟩:=ih2 _ _ _ e hp
     cases hr with
     | agg _ xs h1 h2 h3=>
      refine .agg _ _ (by omega) (fun i c x q1 q2=> ?_) h3
      have hi:i<cs.length:=by rw [hl];exact (Ra.1 q1).1
      exact hall i _ c x (Rp hi) q1 (h2 i _ x (Rp hi) q2)
    ·cases he
   | dC cs=>
    simp only [gk] at he
    split at he
    ·rename_i q cs' e;cases he;obtain ⟨hl,hall⟩:=ih2 _ _ _ e hp
     cases hr with
     | dC _ xs h1 h2=>
      refine .dC _ _ (by omega) (fun i c x q1 q2=> ?_)
      have hi:i<cs.length:=by rw [hl];exact (Ra.1 q1).1
      exact hall i _ c x (Rp hi) q1 (h2 i _ x (Rp hi) q2)
    ·cases he
   | full b=>
    simp only [gk] at he
    split at he
    ·rename_i q b' e;cases he
     cases hr with
     | full _ _ h1 h2=>exact .full _ _ h1 (ih1 _ _ _ _ e hp h2)
    ·cases he
   | iR q b=>
    simp only [gk] at he
    split at he
    ·rename_i q' b' e;cases he
     cases hr with
     | iR _ _ _ S h0 h1 hc h2 h3=>exact .iR _ _ _ S h0 (fun b hb=>hFz b (h1 b hb)) hc h2 (ih1 _ _ _ _ e hp h3)
    ·cases he
   | fn g fi ca=>
    simp only [gk] at he
    split at he
    ·rename_i q fi' q' ca' e1 e2;cases he;obtain ⟨hl1,hall1⟩:=ih2 _ _ _ e1 hp.1;obtain ⟨hl2,hall2⟩:=ih2 _ _ _ e2 hp.2
     cases hr with
     | fn _ _ _ xf xc h1 h2 h3 h4=>
      refine .fn _ _ _ _ _ (by omega) (by omega) (fun i c x q1 q2=> ?_) (fun i c x q1 q2=> ?_)
      ·have hi:i<fi.length:=by rw [hl1];exact (Ra.1 q1).1
       exact hall1 i _ c x (Rp hi) q1 (h3 i _ x (Rp hi) q2)
      ·have hi:i<ca.length:=by rw [hl2];exact (Ra.1 q1).1
       exact hall2 i _ c x (Rp hi) q1 (h4 i _ x (Rp hi) q2)
    ·cases he
   | _=>simp only [gk,Rl,Rm] at he;obtain ⟨rfl,rfl⟩:=he;exact cl _ x hp hr
  ·intro l p m he hp
   cases l with
   | nil=>
    simp only [fx,Rl,Rm] at he;obtain ⟨rfl,rfl⟩:=he;exact ⟨rfl,fun i a b x h=>by simp at h⟩
   | cons a l=>
    simp only [fx] at he
    split at he
    ·rename_i q b q' m' e1 e2;cases he;obtain ⟨h1,h2⟩:=ih2 _ _ _ e2 hp.2;refine ⟨by simp [h1],fun i a' b' x k1 k2 hr=> ?_⟩
     cases i with
     | zero=>simp at k1 k2;subst k1;subst k2;exact ih1 _ x _ _ e1 hp.1 hr
     | succ i=>exact h2 i a' b' x (by simpa using k1) (by simpa using k2) hr
    ·cases he
theorem yF {f:FuncId} {args args':List AV} {r:AV} {vargs:Array Value} (hc:ag P f args' r) {n:Nat} {p:Prop} (hz:fx o n args=some (p,args')) (hp:p) (hf:r.flat=true) (h:RO D nu o w) (ha:fX D nu o w args vargs) :
  Calls P f vargs w (fun e w'=> ∃v,e = .returned v∧Below w.heap.size w w'∧RA D nu o w' r v):=by
 obtain ⟨hl,hall⟩:=(iZ h n).2 _ _ _ hz hp
 refine (hc.2.2 (fun _=>True) nu w vargs (.nil _ _ _ (fun _ _=>trivial) (h.gl.nil (fun _ _ _=>trivial))) ⟨by rw [<-hl];exact ha.len,fun i c x q1 q2=> ?_⟩).mono ?_
 ·have hi:i<args.length:=by rw [hl];exact (Ra.1 q1).1
  exact (hall i _ c x (Rp hi) q1 (ha.at' i _ x (Rp hi) q2)).mono (.refl _ _ _) (fun _ _ _=>trivial)
 ·rintro e w' ⟨v,nu',o',r',rfl,hm,hro,hra,rfl,rfl⟩;exact ⟨v,rfl,fD hm,hra.flat hf⟩
def o9 (P:Program) (f:FuncId) (args:List AV) (o:List (Option aa)) (r:AV):Prop:=dO P f=true∧ ∀D nu w vargs,RO D nu o w->fX D nu o w args vargs->Calls P f vargs w (fun e w'=> ∃v,e = .returned v∧Below w.heap.size w w'∧RA D nu o w' r v)
def aQ (P:Program) (f:FuncId) (args:List AV) (o:List (Option aa)) (K:AV->Prop):Prop:= ∃r,o9 P f args o r∧K r
@[congr] theorem Gq {f:FuncId} {args args':List AV} {K:AV->Prop} (h:args=args'):aQ P f args o K=aQ P f args' o K:=by rw [h]
theorem aQ.s {f:FuncId} {args:List AV} {r:AV} {K:AV->Prop} (h:o9 P f args o r) (k:K r):aQ P f args o K:=⟨r,h,k⟩
theorem aQ.one {f:FuncId} {args:List AV} {r:AV} {K:AV->Prop} (h:ag P f args r) (k:K r):aQ P f args o K:=⟨r,⟨h.2.1,fun _ _ _ _ h1 h2=>pB h h1 h2⟩,k⟩
theorem aQ.x5 {f:FuncId} {args args':List AV} {r:AV} {K:AV->Prop} (h:ag P f args' r) (n:Nat) {p:Prop} (hz:fx o n args=some (p,args')) (hp:p) (hf:r.flat=true) (k:K r):aQ P f args o K:=⟨r,⟨h.2.1,fun _ _ _ _ h1 h2=>yF h hz hp hf h1 h2⟩,k⟩
def yb (P:Program) (f:AV) (args:List AV) (o:List (Option aa)) (K:AV->Prop):Prop:=match f with
 | .fn g first caps=>aQ P g (first++args++caps) o K
 | _=>False
@[congr] theorem JC {f f':AV} {args args':List AV} {K:AV->Prop} (h:f=f') (k:args=args'):yb P f args o K=yb P f' args' o K:=by rw [h,k]
theorem Gu (g:FuncId) (first caps args:List AV) (K:AV->Prop):yb P (.fn g first caps) args o K=aQ P g (first++args++caps) o K:=rfl
def dr (P:Program) (op:Op) (s:AS) (K:AV->Prop):Prop:=match op with
 | .pick c a b=>match s.ev c with
  | .v (.bool t)=>cL t (K (s.ev a)) (K (s.ev b))
  | _=>False
 | .call c=>match c.callee with
  | .value f=>yb P (s.ev f) (c.args.toList.map s.ev) s.o K
  | _=>zV (Bu P s.ev s.o (.call c)) K
 | op=>zV (Bu P s.ev s.o op) K
theorem kH {s:AS} {rho:Operand->Value} {oo:Oper} {K:AV->Prop} (h:RO D nu s.o w) (hev:DF D nu s.o w s.ev rho oo.op) (hd:dr P oo.op s K) :
  ∃r,K r∧Bi P ⟨fun v w=>RO D nu s.o w∧RA D nu s.o w r v,fun _ _ _ hb hh=>⟨hh.1.below hb,hh.2.mono (aw hb) (fun _ _ h=>h)⟩⟩ w ((execOp rho oo).run P w):=by
 have hop: ∀op,oo.op=op->zV (Bu P s.ev s.o op) K-> ∃r,K r∧Bi P ⟨fun v w=>RO D nu s.o w∧RA D nu s.o w r v,fun _ _ _ hb hh=>⟨hh.1.below hb,hh.2.mono (aw hb) (fun _ _ h=>h)⟩⟩ w ((execOp rho oo).run P w):=by
  intro op ho hh;subst ho;unfold zV at hh
  split at hh
  ·rename_i p r e;obtain ⟨v,w',h1,h2,h3⟩:=Bv (P:=P) h hev e hh.1;rw [h1];exact ⟨r,hh.2,⟨h.below h2,h3⟩,h2⟩
  ·exact hh.elim
 unfold dr at hd
 split at hd
 ·rename_i c x y ho;have hc:=hev c (by rw [ho];simp [Op.operands])
  split at hd
  ·rename_i t e;rw [e] at hc;have hcv:=hc.cj
   have hrun:(execOp rho oo).run P w = .ok (.value (if t then rho x else rho y)) w:=by simp [execOp,ho,hcv,asBool]
   rw [hrun]
   cases t
   ·exact ⟨_,hd,⟨h,hev y (by rw [ho];simp [Op.operands])⟩, .refl _ _⟩
   ·exact ⟨_,hd,⟨h,hev x (by rw [ho];simp [Op.operands])⟩, .refl _ _⟩
  ·exact hd.elim
 ·rename_i c ho
  split at hd
  ·rename_i f hc;unfold yb at hd
   split at hd
   ·rename_i g first caps e
    obtain ⟨r,hcall,hk⟩:=hd
    
    have key: ∀(K':AV->List (Option aa)->Prop),ab P g (first++c.args.toList.map s.ev++caps) s.o K'->vq P oo.op s K':=fun K' hh=>by
     unfold vq;rw [ho];simp only [hc,JA,e];exact hh
    have hf:=hev f (by rw [ho];simp [Op.operands,Call.operands,hc]);rw [e] at hf;generalize hq:rho f=vf at hf
    cases hf with
    | fn _ _ _ fi ca q1 q2 q3 q4=>
    have hargs: ∀x,x∈c.args.toList->RA D nu s.o w (s.ev x) (rho x):=fun x hx=>hev x (by rw [ho];simp only [Op.operands,Call.operands,hc];simp;exact .inr (by simpa using hx))
    have hra:fX D nu s.o w (first++c.args.toList.map s.ev++caps) (fi++c.args.map rho++ca):=by
     refine ⟨by simp [q1,q2],fun i cc x k1 k2=> ?_⟩;rw [RD] at k1;rw [Array.append_assoc] at k2
     rcases Rc i first.length with l1|l1
     ·rw [Rb l1] at k1;rw [RL (by omega)] at k2;exact q3 i cc x k1 k2
     ·rw [RF l1] at k1;rw [Sa (by omega)] at k2;rw [q1] at k1
      rcases Rc (i - fi.size) c.args.size with l2|l2
      ·rw [Rb (by simpa using l2),Rs] at k1;rw [RL (by simpa using l2),Array.getElem?_map] at k2
       have e2:c.args.toList[i - fi.size]? = c.args[i - fi.size]? :=by simp
       rw [e2] at k1
       cases hk2:c.args[i - fi.size]? with
       | none=>rw [hk2] at k1;cases k1
       | some y=>
        rw [hk2] at k1 k2;cases k1;cases k2;exact hargs y (RK (by rw [e2];exact hk2))
      ·rw [RF (by simpa using l2)] at k1;rw [Sa (by simpa using l2)] at k2;simp only [List.length_map,Array.length_toList,Array.size_map] at k1 k2;exact q4 _ cc x k1 k2
    have fin: ∀(hok:dO P g=true) (hcalls:Calls P g (fi++c.args.map rho++ca) w (fun e w'=> ∃v,e = .returned v∧Below w.heap.size w w'∧RA D nu s.o w' r v)), ∃r,K r∧Bi P ⟨fun v w=>RO D nu s.o w∧RA D nu s.o w r v,fun _ _ _ hb hh=>⟨hh.1.below hb,hh.2.mono (aw hb) (fun _ _ h=>h)⟩⟩ w ((execOp rho oo).run P w):=by
     intro hok hcalls
     have hrun:(execOp rho oo).run P w = .ok (.enter g (fi++c.args.map rho++ca)) w:=by
      simp only [execOp,ho,resolve,hc,hq,Deferred.ofValue,Sem.run_bind,Sem.run_pure,Result.andThen_ok,invoke];exact gO hok _ w
     rw [hrun];refine ⟨r,hk,hcalls.mono ?_⟩;rintro e w' ⟨v,rfl,hb,hr⟩;exact ⟨v,rfl,⟨h.below hb,hr⟩,hb⟩
    exact fin hcall.1 (hcall.2 D nu w _ h hra)
   ·exact hd.elim
  ·exact hop _ ho hd
 ·exact hop _ rfl hd
theorem ix {s:AS} {op:Op} {K:AV->Prop} (h:dr P op s K): ∃r,K r∧dr P op s (fun r'=>r'=r):=by
 have one: ∀x:Option (Prop×AV),zV x K-> ∃r,K r∧zV x (fun r'=>r'=r):=fun x hx=>by
  unfold zV at hx
  split at hx
  ·rename_i p r;exact ⟨r,hx.2,hx.1,rfl⟩
  ·exact hx.elim
 unfold dr at h ⊢
 split at h
 ·rename_i c a b
  split at h
  ·rename_i t e
   cases t
   ·exact ⟨_,h,rfl⟩
   ·exact ⟨_,h,rfl⟩
  ·exact h.elim
 ·rename_i c
  split at h
  ·rename_i f hc;unfold yb at h ⊢
   split at h
   ·rename_i g first caps e
    obtain ⟨r,h1,h2⟩:=h;exact ⟨r,h2,r,h1,rfl⟩
   ·exact h.elim
  ·exact one _ h
 ·exact one _ h
def er (P:Program) (all:List Oper):List Oper->AS->(AS->Prop)->Prop
 | [],_,_=>False
 | [oo],s,Q=>match oo.guard with
  | none=>vq P oo.op s (fun r o'=>Q (s.put oo.dst r o'))
  | some _=>False
 | oo :: rest,s,Q=>match oo.guard with
  | none=>dr P oo.op s (fun r=>er P all rest (s.put oo.dst r s.o) Q)
  | some (j,want)=>ri (iw all s j) want (dr P oo.op s (fun r=>er P all rest (s.put oo.dst r s.o) Q)) (er P all rest (s.put oo.dst (.v Go.undef) s.o) Q)
@[congr] theorem I3 {all ops:List Oper} {s s':AS} {Q:AS->Prop} (h:s=s'):er P all ops s Q=er P all ops s' Q:=by rw [h]
def cQ (D:Nat->Prop) (nu:Nat->Nat->Value) (o:List (Option aa)) (r:AV):Spec:=⟨fun v w=>RO D nu o w∧RA D nu o w r v,fun _ _ _ hb hh=>⟨hh.1.below hb,hh.2.mono (aw hb) (fun _ _ h=>h)⟩⟩
theorem iy {rs rs':List AV} {i:Nat} {r:AV} (h:rs[i]? = some r):at' ((rs++rs').map (cQ D nu o)) i=cQ D nu o r:=by
 have hlt:=(Ra.1 h).1;unfold at';rw [R6,Rs,Rb hlt,h]
 rfl
theorem iz {rs rs':List AV} {r:AV}:at' ((rs++r :: rs').map (cQ D nu o)) rs.length=cQ D nu o r:=by
 unfold at';rw [R6,Rs,RF (Q5 _),Nat.sub_self]
 rfl
structure Bc (l:List Oper) (s:AS) (a:Act) (k:Nat) (sk:AS) (rs:List AV) (A:(Nat->Value)->Act):Prop where
 o:sk.o=s.o
 y:sk.y=s.y
 len:rs.length=k
 gG: ∀x,(A x).defers=a.defers
 size: ∀x,sk.t.length=(A x).tmps.size
 val: ∀x (t:Nat) c v,sk.t[t]? = some c->(A x).tmps[t]? = some v->(s.t[t]? = some c∧a.tmps[t]? = some v)∨ ∃i,i<k∧(∃oi,l[i]? = some oi∧oi.dst=some t)∧rs[i]? = some c∧v=x i
theorem Bc.step {l:List Oper} {s:AS} {a:Act} {k:Nat} {sk:AS} {rs:List AV} {A:(Nat->Value)->Act} (h:Bc l s a k sk rs A) {oo:Oper} (ho:l[k]? = some oo) (r:AV) :
  Bc l s a (k+1) (sk.put oo.dst r s.o) (rs++[r]) (fun x=>(A x).put oo.dst (x k)):=by
 refine ⟨rfl,h.y,by simp [h.len],fun x=> ?_,fun x=> ?_,fun x t c v h1 h2=> ?_⟩
 ·have:=h.gG x;cases oo.dst<;>simpa [Act.put] using this
 ·have:=h.size x;cases oo.dst<;>simpa [Act.put,AS.put] using this
 ·have old:sk.t[t]? = some c->(A x).tmps[t]? = some v->(s.t[t]? = some c∧a.tmps[t]? = some v)∨ ∃i,i<k+1∧(∃oi,l[i]? = some oi∧oi.dst=some t)∧(rs++[r])[i]? = some c∧v=x i:=by
   intro h1 h2
   rcases h.val x t c v h1 h2 with h3|⟨i,q1,q2,q3,q4⟩
   ·exact .inl h3
   ·exact .inr ⟨i,by omega,q2,by rw [Rb (by rw [h.len];exact q1)];exact q3,q4⟩
  cases hd:oo.dst with
  | none=>rw [hd] at h1 h2;exact old h1 h2
  | some d=>
   rw [hd] at h1 h2;simp only [AS.put,Act.put] at h1 h2
   by_cases hdt:d=t
   ·subst hdt;have hlt:=(Ra.1 h1).1;simp only [List.length_set] at hlt;rw [Rx hlt] at h1;rw [Array.getElem?_setIfInBounds_self_of_lt (by have:=h.size x;omega)] at h2;cases h1;cases h2;exact .inr ⟨k,by omega,⟨oo,ho,hd⟩,by rw [RF (by rw [h.len];exact Q5 _),h.len,Nat.sub_self];rfl,rfl⟩
   ·rw [Rw hdt] at h1;rw [Array.getElem?_setIfInBounds_ne hdt] at h2;exact old h1 h2
theorem C8 {l:List Oper} (hB:xw l.toArray=true) {i j:Nat} {oi oj:Oper} (hij:i<j) (hi:l[i]? = some oi) (hj:l[j]? = some oj):aE l.toArray j i=true∨ ∀d,oi.dst=some d->d∉oj.looksAt l.toArray:=by
 simp only [xw,RY,List.all_eq_true,List.mem_range,List.size_toArray] at hB
 have:=(hB.2 j (Ra.1 hj).1).1.1 i hij
 simp only [qH,Rr,hi,hj,RY,Bool.or_eq_true] at this
 rcases this.1.1.1 with h|h
 ·exact .inl h
 ·exact .inr (fun d hd=>(Oper.apart_spec h).1 d hd)
theorem lC {f:Fr} {l:List Oper} (hB:xw l.toArray=true) {s:AS} {a:Act} {w0:World} {Q:AS->Prop} {R:Exit->Act->World->Prop} (hs:RS f D nu s a w0)
  (hR: ∀s' a' w' nu',b7 nu s.o w0 nu' s'.o w'->s'.y=s.y->RS f D nu' s' a' w'->Q s'->R .normal a' w') :
  ∀(rest:List Oper) (k:Nat) (sk:AS) (rs:List AV) (A:(Nat->Value)->Act),l.drop k=rest->Bc l s a k sk rs A->er P l rest sk Q-> ∃rs',jF P l.toArray ((rs++rs').map (cQ D nu s.o)) w0 R rest k A
 | [],_,_,_,_,_,_,h=>h.elim
 | [oo],k,sk,rs,A,hl,hI,h=>by
  refine ⟨[],xy (fun x wr hE hD=> ?_)⟩
  have hg:oo.guard=none:=by
   simp only [er] at h
   split at h
   ·assumption
   ·exact h.elim
  simp only [er,hg] at h;have hro:RO D nu s.o wr:=hs.ro.below hE
  have hsk:RS f D nu sk (A x) wr:=by
   refine ⟨by rw [hI.o];exact hro,⟨hI.size x,fun t c v h1 h2=> ?_⟩,by rw [hI.gG x];exact hs.gG.mono hs.ro (aw hE)⟩;rw [hI.o]
   rcases hI.val x t c v h1 h2 with ⟨h3,h4⟩|⟨i,q1,q2,q3,q4⟩
   ·exact (hs.tm.at' t c v h3 h4).mono (aw hE) (fun _ _ h=>h)
   ·have:=hD i q1
    rw [iy q3] at this;rw [q4];exact this.2
  refine ⟨by simp [Region.wanted,hg],pk (P:=P) hsk.ro (fun y _=>hsk.ev y) h (fun v w' nu' r o' m1 m2 m3 m4=>hR (sk.put oo.dst r o') _ w' nu' ?_ hI.y (hsk.put m1 m2 m3 oo.dst) m4)⟩
  have:b7 nu s.o w0 nu sk.o wr:=by rw [hI.o];exact aw hE
  simpa only [AS.put] using this.trans m1
 | oo :: o2 :: rest,k,sk,rs,A,hl,hI,h=>by
  have hok:l[k]? = some oo:=by have:=congrArg (fun m=>m[0]?) hl;simpa using this
  have hl':l.drop (k+1)=o2 :: rest:=by have:=congrArg List.tail hl;simpa using this
  
  have hlook: ∀x wr,Below w0.heap.size w0 wr->(∀rs' i,aE l.toArray k i=true->i<k->(at' ((rs++rs').map (cQ D nu s.o)) i).p (x i) wr)-> ∀(t:Nat) c v,t∈oo.looksAt l.toArray->sk.t[t]? = some c->(A x).tmps[t]? = some v->RA D nu s.o wr c v:=by
   intro x wr hE hD t c v ht h1 h2
   rcases hI.val x t c v h1 h2 with ⟨h3,h4⟩|⟨i,q1,⟨oi,q2,q5⟩,q3,q4⟩
   ·exact (hs.tm.at' t c v h3 h4).mono (aw hE) (fun _ _ h=>h)
   ·rcases C8 hB q1 q2 hok with h5|h5
    ·have:=hD [] i h5 q1
     rw [iy q3] at this;rw [q4];exact this.2
    ·exact absurd ht (h5 t q5)
  have hevs: ∀x wr,Below w0.heap.size w0 wr->(∀rs' i,aE l.toArray k i=true->i<k->(at' ((rs++rs').map (cQ D nu s.o)) i).p (x i) wr)->DF D nu s.o wr sk.ev (A x).eval oo.op:=by
   intro x wr hE hD y hy
   cases y with
   | tmp t=>
    simp only [AS.ev,Act.eval]
    rcases Rc t sk.t.length with hlt|hge
    ·have e1:sk.t[t]? = some sk.t[t]:=Rp hlt
     have hlt':t<(A x).tmps.size:=by rw [<-hI.size x];exact hlt
     have hx:(A x).tmps[t]? = some (A x).tmps[t]:=Array.getElem?_eq_getElem hlt';rw [getD_some e1]
     have:(A x).tmps.getD t Go.undef=(A x).tmps[t]:=by simp [Array.getD,hlt']
     rw [this];exact hlook x wr hE hD t _ _ (List.mem_append_left _ (List.mem_filterMap.2 ⟨.tmp t,hy,rfl⟩)) e1 hx
    ·rw [R6,List.getElem?_eq_none hge];exact .undef _
   | const v=>exact .v v
   | global gi=>exact (ml hs.ro sk gi).mono (aw hE) (fun _ _ h=>h)
   | func f=>exact .fn f [] [] #[] #[] rfl rfl (fun i c x h=>by simp at h) (fun i c x h=>by simp at h)
  
  have hdo:dr P oo.op sk (fun r=>er P l (o2 :: rest) (sk.put oo.dst r sk.o) Q)->(∀x wr,Below w0.heap.size w0 wr->(∀rs' i,aE l.toArray k i=true->i<k->(at' ((rs++rs').map (cQ D nu s.o)) i).p (x i) wr)->Region.wanted oo (yielded l.toArray (A x).tmps)=true) ->
    ∃rs',jF P l.toArray ((rs++rs').map (cQ D nu s.o)) w0 R (oo :: o2 :: rest) k A:=by
   intro hd hw;obtain ⟨r,hk,hr⟩:=ix hd;rw [hI.o] at hk;obtain ⟨rs',hrel⟩:=lC hB hs hR (o2 :: rest) (k+1) _ (rs++[r]) _ hl' (hI.step hok r) hk;rw [RD,Sc] at hrel;refine ⟨r :: rs',oy (fun x wr hE hD=> ?_) hrel⟩
   have hD': ∀rs'' i,aE l.toArray k i=true->i<k->(at' ((rs++rs'').map (cQ D nu s.o)) i).p (x i) wr:=fun rs'' i h1 h2=>by
    have h3:=hD i h1
    have h5:i<rs.length:=by rw [hI.len];exact h2
    have h4:rs[i]? = some rs[i]:=Rp h5;rw [iy h4] at h3 ⊢;exact h3
   obtain ⟨r',rfl,hout⟩:=kH (P:=P) (nu:=nu) (D:=D) (w:=wr) (rho:=(A x).eval) (by rw [hI.o];exact hs.ro.below hE) (by rw [hI.o];exact hevs x wr hE hD') hr;have e:=iz (D:=D) (nu:=nu) (o:=s.o) (rs:=rs) (rs':=rs') (r:=r');rw [hI.len] at e;refine .inl ⟨hw x wr hE hD', ?_⟩;rw [e];rw [hI.o] at hout;exact hout
  simp only [er] at h
  split at h
  ·rename_i hg;exact hdo h (fun x wr hE hD=>by simp [Region.wanted,hg])
  ·rename_i j want hg
   have hyv: ∀g,iw l sk j=some g-> ∀x wr,Below w0.heap.size w0 wr->(∀rs' i,aE l.toArray k i=true->i<k->(at' ((rs++rs').map (cQ D nu s.o)) i).p (x i) wr)->yielded l.toArray (A x).tmps j=g:=fun g hgv x wr hE hD=>
    fS (D:=D) (nu:=nu) (w:=wr) (fun d c v hd h1 h2=>by
     rw [hI.o];refine hlook x wr hE hD d c v ?_ h1 h2;obtain ⟨og,q1,q2⟩:=hd;refine List.mem_append_right _ ?_;simp only [hg,Rr,q1,Option.bind_some,q2]
     simp) (hI.size x) hgv
   have hskip:er P l (o2 :: rest) (sk.put oo.dst (.v Go.undef) sk.o) Q->(∀x wr,Below w0.heap.size w0 wr->(∀rs' i,aE l.toArray k i=true->i<k->(at' ((rs++rs').map (cQ D nu s.o)) i).p (x i) wr)->Region.wanted oo (yielded l.toArray (A x).tmps)=false) ->
     ∃rs',jF P l.toArray ((rs++rs').map (cQ D nu s.o)) w0 R (oo :: o2 :: rest) k A:=by
    intro hk hw;rw [hI.o] at hk;obtain ⟨rs',hrel⟩:=lC hB hs hR (o2 :: rest) (k+1) _ (rs++[.v Go.undef]) _ hl' (hI.step hok (.v Go.undef)) hk;rw [RD,Sc] at hrel;refine ⟨.v Go.undef :: rs',oy (fun x wr hE hD=> ?_) hrel⟩
    have hD': ∀rs'' i,aE l.toArray k i=true->i<k->(at' ((rs++rs'').map (cQ D nu s.o)) i).p (x i) wr:=fun rs'' i h1 h2=>by
     have h3:=hD i h1
     have h5:i<rs.length:=by rw [hI.len];exact h2
     have h4:rs[i]? = some rs[i]:=Rp h5;rw [iy h4] at h3 ⊢;exact h3
    have e:=iz (D:=D) (nu:=nu) (o:=s.o) (rs:=rs) (rs':=rs') (r:= .v Go.undef);rw [hI.len] at e;refine .inr ⟨hw x wr hE hD', ?_⟩;rw [e];exact ⟨hs.ro.below hE, .v _⟩
   unfold ri at h
   split at h
   ·rename_i b e
    cases hb:b==want
    ·rw [hb] at h;exact hskip h (fun x wr hE hD=>by simp only [Region.wanted,hg,hyv _ e x wr hE hD];simpa using hb)
    ·rw [hb] at h;exact hdo h (fun x wr hE hD=>by simp only [Region.wanted,hg,hyv _ e x wr hE hD];simpa using hb)
   ·rename_i e;exact hskip h (fun x wr hE hD=>by simp only [Region.wanted,hg,hyv _ e x wr hE hD];rfl)
   ·exact h.elim
end
end
section
inductive aZ where
 | normal
 | exit (id:Nat)
 | goto (l:Nat)
 | ret
def aZ.real:aZ->Exit
 | .normal=> .normal
 | .exit id=> .exit id
 | .goto l=> .goto l
 | .ret=> .ret
def aX (n:Nat):List AV->List AV->Prop
 | [],[]=>True
 | a :: l,c :: m=>(c = .undef∨(a=c∧c.wf n=true))∧aX n l m
 | _,_=>False
def aW (n:Nat):List (Option aa)->List (Option aa)->Prop
 | _,[]=>True
 | x :: l,y :: m=>(y=none∨(x=y∧ ∀ob,y=some ob->dA n ob.rows=true))∧aW n l m
 | [],_ :: _=>False
structure Wk (n0:Nat) (s s':AS):Prop where
 t:aX s'.o.length s.t s'.t
 o:aW s'.o.length s.o s'.o
 n:n0<=s'.o.length
 y:s.y=s'.y
theorem tC {n:Nat}: ∀ {l m:List AV},aX n l m->l.length=m.length∧ ∀(i:Nat) c,m[i]? = some c->c = .undef∨(l[i]? = some c∧c.wf n=true)
 | [],[],_=>⟨rfl,fun i c h=>by simp at h⟩
 | a :: l,b :: m,h=>by
  obtain ⟨h1,h2⟩:=tC h.2;refine ⟨by simp [h1],fun i c hc=> ?_⟩
  cases i with
  | zero=>simp at hc;subst hc;exact h.1.imp id (fun q=>⟨by simp [q.1],q.2⟩)
  | succ i=>simpa using h2 i c (by simpa using hc)
 | [],_ :: _,h=>h.elim
 | _ :: _,[],h=>h.elim
theorem tB {n:Nat}: ∀ {l m:List (Option aa)},aW n l m->m.length<=l.length∧ ∀(i:Nat) c,m[i]? = some c->c=none∨(l[i]? = some c∧ ∀ob,c=some ob->dA n ob.rows=true)
 | l,[],_=>⟨by simp,fun i c h=>by simp at h⟩
 | a :: l,b :: m,h=>by
  obtain ⟨h1,h2⟩:=tB h.2;refine ⟨by simp [h1],fun i c hc=> ?_⟩
  cases i with
  | zero=>simp at hc;subst hc;exact h.1.imp id (fun q=>⟨by simp [q.1],q.2⟩)
  | succ i=>simpa using h2 i c (by simpa using hc)
 | [],_ :: _,h=>h.elim
section
variable {D:Nat->Prop} {nu:Nat->Nat->Value} {o:List (Option aa)} {w:World} {P:Program}
theorem ji {n0:Nat} {s s':AS} (h:Wk n0 s s'):n0<=s'.o.length∧(∀(id:Nat) ob,s'.o[id]? = some (some ob)->s.o[id]? = some (some ob))∧(∀id len,id<s'.o.length->cw s.o id len->cw s'.o id len):=by
 obtain ⟨o1,o2⟩:=tB h.o
 have alive: ∀(id:Nat) ob,s'.o[id]? = some (some ob)->s.o[id]? = some (some ob):=fun id ob hh=>by
  rcases o2 id _ hh with e|⟨e,f⟩
  ·cases e
  ·exact e
 refine ⟨h.n,alive,fun id len hlt hh=> ?_⟩;obtain ⟨ob,k1,k2⟩:=hh;have e:s'.o[id]? = some s'.o[id]:=Rp hlt;refine ⟨_,e,fun x hx=> ?_⟩;rw [hx] at e;have e1:=alive id x e;rw [e1] at k1;cases k1;exact k2 x rfl
theorem x0 {f:Fr} {n0:Nat} {s s':AS} {a:Act} {D':Nat->Prop} (h:Wk n0 s s') (hs:RS f D nu s a w) (hd1: ∀b,Fz D nu s.o w b->D' b) (hd2: ∀b,owned nu s'.o b->D' b) (hd3: ∀b,w.heap.size<=b->D' b):RS f D' nu s' a w:=by
 obtain ⟨t1,t2⟩:=tC h.t;obtain ⟨o1,o2⟩:=tB h.o;obtain ⟨_,al,hd⟩:=ji h
 have alive: ∀(id:Nat) ob,s'.o[id]? = some (some ob)->s.o[id]? = some (some ob)∧dA s'.o.length ob.rows=true:=fun id ob hh=>by
  rcases o2 id _ hh with e|⟨e,f⟩
  ·cases e
  ·exact ⟨e,f ob rfl⟩
 have hown: ∀b,owned nu s'.o b->owned nu s.o b:=fun b ⟨id,ob,h1,h2⟩=>⟨id,ob,(alive id ob h1).1,h2⟩;have hF: ∀b,Fz D nu s.o w b->Fz D' nu s'.o w b:=fun b hb=>⟨hb.1,fun ho=>hb.2.1 (hown b ho),hd1 b hb⟩;have hH: ∀id len,id<s'.o.length->cw s.o id len->cw s'.o id len∧nu id len=nu id len:=fun id len hlt hh=>⟨hd id len hlt hh,rfl⟩
 refine ⟨⟨fun id ob ho=> ?_,hd3,fun i1 i2 b1 b2 b k1 k2=>hs.ro.sep i1 i2 b1 b2 b (alive _ _ k1).1 (alive _ _ k2).1,hs.ro.gl.fz (fun b hf=>⟨rfl,hF b hf⟩)⟩,⟨?_,fun i c x h1 h2=> ?_⟩,hs.gG⟩
 ·obtain ⟨e1,e2⟩:=alive id ob ho
  rcases hs.ro.obj id ob e1 with e|⟨g,cur,hr⟩|⟨g,es,cl,hmp⟩
  ·exact .inl e
  ·exact .inr (.inl ⟨g,cur,hr.blk,hd2 g ⟨id,ob,ho,hr.bJ⟩,hr.box,hr.vec,hr.z,hr.row,fun i j row c x q1 q2 q3=>(hr.cell i j row c x q1 q2 q3).tr hF hH (bU (gP e2 q1) q2),hr.one⟩)
  ·exact .inr (.inr ⟨g,es,cl,hmp.tr rfl (fun _=>hd2 g ⟨id,ob,ho,hmp.bJ⟩) rfl (fun i j row c x q1 q2 hr=>hr.tr hF hH (bU (gP e2 q1) q2))⟩)
 ·rw [<-t1];exact hs.tm.len
 ·rcases t2 i c h1 with rfl|⟨e,f⟩
  ·exact .undef x
  ·exact (hs.tm.at' i c x e h2).tr hF hH f
theorem jN {f:Fr} {n0:Nat} {s s':AS} {a:Act} (h:Wk n0 s s') (hs:RS f D nu s a w):RS f D nu s' a w:=
 x0 h hs (fun b hb=>hb.2.2) (fun b ⟨id,ob,h1,h2⟩=>hs.ro.fB ⟨id,ob,(ji h).2.1 id ob h1,h2⟩) hs.ro.up
theorem Wk.PX {D':Nat->Prop} {n0:Nat} {s s':AS} (h:Wk n0 s s') (hd: ∀b,Fz D nu s.o w b->D' b) {c:AV} {v:Value} (hr:RA D nu s.o w c v) (hc:c.wf s'.o.length=true):RA D' nu s'.o w c v:=by
 obtain ⟨_,h2,h3⟩:=ji h;exact hr.tr (fun b hb=>⟨hb.1,fun ⟨id,ob,k1,k2⟩=>hb.2.1 ⟨id,ob,h2 id ob k1,k2⟩,hd b hb⟩) (fun id len hlt hh=>⟨h3 id len hlt hh,rfl⟩) hc
theorem Wk.ra {n0:Nat} {s s':AS} (h:Wk n0 s s') {c:AV} {v:Value} (hr:RA D nu s.o w c v) (hc:c.wf s'.o.length=true):RA D nu s'.o w c v:=h.PX (fun b hb=>hb.2.2) hr hc
theorem Wk.sH {n0:Nat} {s s':AS} {Z:Nat->Prop} (h:Wk n0 s s'):zY Z nu s.o w nu s'.o w:=by
 obtain ⟨h1,h2,h3⟩:=ji h;exact ⟨rfl,rfl,rfl,Q5 _,fun id len hlt hh=>⟨h3 id len hlt hh,rfl⟩,fun b hb hno _=>⟨rfl,fun ⟨id,ob,k1,k2⟩=>hno ⟨id,ob,h2 id ob k1,k2⟩⟩⟩
theorem Wk.mono {n0:Nat} {s s':AS} (h:Wk n0 s s') {nu0:Nat->Nat->Value} {o0:List (Option aa)} {w0:World} (hn:o0.length<=n0) (hm:b7 nu0 o0 w0 nu s.o w):b7 nu0 o0 w0 nu s'.o w:=by
 obtain ⟨h1,h2,h3⟩:=ji h
 refine ⟨hm.os,hm.tape,hm.output,hm.size,fun id len hh=> ?_,fun b hb hno=> ?_⟩
 ·obtain ⟨q1,q2⟩:=hm.p9 id len hh;have hlt:=gr hh;exact ⟨h3 id len (by omega) q1,q2⟩
 ·obtain ⟨q1,q2⟩:=hm.keep b hb hno;exact ⟨q1,fun ⟨id,ob,k1,k2⟩=>q2 ⟨id,ob,h2 id ob k1,k2⟩⟩
inductive Gs (s:AS):AS->Prop
 | refl:Gs s s
 | step (i:Nat) (T:TypeId) (z:Nat) (s1:AS):Gs s s1->s1.t[i]? = some (.v (.slice none 0 0))->0<z->Gs s ⟨s1.t.set i (.vec s1.o.length 0),s1.o++[some ⟨T,z,true,[]⟩],s1.y⟩
theorem Hp {f:Fr} {s s':AS} {a:Act} (h:Gs s s') (hs:RS f D nu s a w): ∃nu',b7 nu s.o w nu' s'.o w∧s'.y=s.y∧RS f D nu' s' a w:=by
 induction h with
 | refl=>exact ⟨nu, .refl _ _ _,rfl,hs⟩
 | step i T z s1 _ hi hz ih=>
  obtain ⟨nu1,hm1,hy1,hs1⟩:=ih
  have hv: ∀b,cW (Value.slice none 0 0)=some b->w.heap.size<=b:=fun b e=>by cases e
  have hp:=fq (nu:=nu1) (o:=s1.o) (ob:=⟨T,z,true,[]⟩) (Below.refl w.heap.size w) hv;refine ⟨dx nu1 s1.o.length (.slice none 0 0),hm1.trans hp,hy1,⟨jC hs1.ro (Below.refl _ _) hv (.inl ⟨rfl,rfl,rfl⟩), ?_,hs1.gG⟩⟩;have ht:=hs1.tm.mono hp (fun _ _ h=>h);refine ⟨by simpa using ht.len,fun j c x h1 h2=> ?_⟩
  by_cases hij:i=j
  ·subst hij;rw [Rx (Ra.1 hi).1] at h1;cases h1
   have:=(ht.at' i _ x hi h2).cj
   subst this
   have:=RA.vec (D:=D) (nu:=dx nu1 s1.o.length (.slice none 0 0)) (o:=s1.o++[some ⟨T,z,true,[]⟩]) (w:=w) s1.o.length 0 ⟨_,List.getElem?_concat_length,fun x hx=>Nat.zero_le _⟩ (by rw [aY];rfl)
   rw [aY] at this;exact this
  ·rw [Rw hij] at h1;exact ht.at' j c x h1 h2
def x8 (c:AV) (A B:Prop):Prop:=match c with
 | .v (.bool t)=>cL t A B
 | _=>False
@[congr] theorem Jw {c c':AV} {A B:Prop} (h:c=c'):x8 c A B=x8 c' A B:=by rw [h]
theorem A6 (t:Bool) (A B:Prop):x8 (.v (.bool t)) A B=cL t A B:=rfl
def zU (n0:Nat) (step:AS->(aZ->AS->Prop)->Prop) (s:AS) (Q:aZ->AS->Prop):Prop:=
 ∃I:Nat->AS->Prop,(∃m s1 s2,Gs s s1∧Wk n0 s1 s2∧I m s2) ∧
  ∀m s1,I m s1->step s1 (fun e s2=>match e with
   | .normal=> ∃m' s3,Wk n0 s2 s3∧I m' s3∧m'<m
   | e=>Q e s2)
@[congr] theorem I4 {n0:Nat} {step:AS->(aZ->AS->Prop)->Prop} {s s':AS} {Q:aZ->AS->Prop} (h:s=s'):zU n0 step s Q=zU n0 step s' Q:=by rw [h]
def yc (P:Program) (n0:Nat) (c:Code) (s:AS) (Q:aZ->AS->Prop):Prop:=
 ∀(f:Fr) (m:WM P) (D:Nat->Prop) (nu:Nat->Nat->Value) (a:Act) (w:World),(∀l,f.r=some l->m.fix l)->m.n0<=n0->m.M D nu s.o f.Z s.y w->RS f D nu s a w->P.follows .mixedOrders=true-> ∀R:Exit->Act->World->Prop,(∀a w, ¬R .outgrown a w) ->
  (∀e D' Z' s' a' w' nu',m.M D' nu' s'.o Z' s'.y w'->RS (f.wz Z') D' nu' s' a' w'->Q e s'->R e.real a' w')->c.wpIn (WF f.r) 9 P R a w
def cF (P:Program) (n0:Nat):Code->AS->(aZ->AS->Prop)->Prop
 | .skip,s,Q=>Q .normal s
 | .region i ops d,s,Q=>if d then (xw ops=true∧er P ops.toList ops.toList s (Q .normal))∨yc P n0 (.region i ops d) s Q else iS P ops.toList ops.toList s (Q .normal)∨yc P n0 (.region i ops d) s Q
 | .seq a b,s,Q=>cF P n0 a s (fun e s'=>match e with
  | .normal=>cF P n0 b s' Q
  | e=>Q e s')∨yc P n0 (.seq a b) s Q
 | .cond c a b,s,Q=>x8 (s.ev c) (cF P n0 a s Q) (cF P n0 b s Q)
 | .block id c,s,Q=>cF P n0 c s (fun e s'=>match e with
  | .exit i=>if i=id then Q .normal s' else Q (.exit i) s'
  | e=>Q e s')
 | .loop c,s,Q=>zU n0 (cF P n0 c) s Q
 | .rangeFunc g ps x y,s,Q=>yc P n0 (.rangeFunc g ps x y) s Q
 | .exit id,s,Q=>Q (.exit id) s
 | .scope c,s,Q=>cF P n0 c s (fun e s'=>match e with
  | .goto _=>False
  | e=>Q e s')
 | .label _,s,Q=>Q .normal s
 | .goto l,s,Q=>Q (.goto l) s
 | .ret,s,Q=>Q .ret s
 | .refuse _,_,_=>False
@[congr] theorem KP {n0:Nat} {c:Code} {s s':AS} {Q:aZ->AS->Prop} (h:s=s'):cF P n0 c s Q=cF P n0 c s' Q:=by rw [h]
def b6:Code->Bool
 | .region _ ops d=>dP ops
 | .seq a b=>b6 a&&b6 b
 | .cond _ a b=>b6 a&&b6 b
 | .block _ c=>b6 c
 | .loop c=>b6 c
 | .scope c=>b6 c
 | .rangeFunc .. =>true
 | .refuse _=>false
 | _=>true
theorem RS.drew {f:Fr} {s:AS} {a:Act} (h:RS f D nu s a w):RS f D nu s a w.drew:=⟨h.ro.below (cX w),h.tm.mono (aw (cX w)) (fun _ _ h=>h),h.gG.mono h.ro (aw (cX w))⟩
theorem El {ops:Array Oper} (h:dP ops=true): ∀oo,oo∈ops.toList-> ∀c,oo.op ≠ .defer c:=fun oo ho c e=>by
 unfold dP at h;rw [Array.all_eq_true_iff_forall_mem] at h
 have:=h oo (by simpa using ho)
 rw [e] at this;cases this
theorem ib (hmx:P.follows .mixedOrders=true) {f:Fr} (m:WM P) (hZr: ∀l,f.r=some l->m.fix l) {n0:Nat} (hn:m.n0<=n0): ∀(c:Code),b6 c=true-> ∀(s:AS) (a:Act) (w:World) (D:Nat->Prop) (nu:Nat->Nat->Value) (Z:Nat->Prop) (Q:aZ->AS->Prop) (R:Exit->Act->World->Prop),
  (∀a w, ¬R .outgrown a w)->m.M D nu s.o Z s.y w->RS (f.wz Z) D nu s a w->cF P n0 c s Q->(∀e D' Z' s' a' w' nu',m.M D' nu' s'.o Z' s'.y w'->RS (f.wz Z') D' nu' s' a' w'->Q e s'->R e.real a' w')->c.wpIn (WF f.r) 9 P R a w:=by
 intro c
 induction c with
 | skip=>exact fun _ s a w D nu Z Q R _ hm hs hq hR=>wpIn_skip (hR .normal D Z s a w nu hm hs hq)
 | region id ops d=>
  intro hok s a w D nu Z Q R hO hm hs hq hR
  cases d
  ·simp only [cF,Bool.false_eq_true,if_false] at hq
   rcases hq with hq|hq
   case inr=>exact hq (f.wz Z) m D nu a w hZr hn hm hs hmx R hO hR
   exact wpIn_region_list (by
    have:=iV (f:=f.wz Z) m hZr (all:=ops.toList) ops.toList s a w D nu (El hok) hm hs hq (fun D' s' a' w' nu' h1 h2 h3=>hR .normal D' Z s' a' w' nu' h1 h2 h3)
    simpa [Fr.wz] using this)
  ·obtain ⟨l⟩:=ops;simp only [cF,if_true] at hq
   rcases hq with ⟨hB,hq⟩|hq
   case inr=>exact hq (f.wz Z) m D nu a w hZr hn hm hs hmx R hO hR
   obtain ⟨rs,hrel⟩:=lC (P:=P) (R:=R) hB hs.drew (fun s' a' w' nu' h1 hy h2 h3=>hR .normal D Z s' a' w' nu' (by rw [hy];exact m.own hm hs.ro ((aw (cX w)).trans h1) h2.ro) h2 h3) l 0 s [] (fun _=>a) (by simp) ⟨rfl,rfl,rfl,fun _=>rfl,fun _=>hs.tm.len,fun x t c v h1 h2=> .inl ⟨h1,h2⟩⟩ hq;exact mR hmx hok hO (pt _ hB hrel)
 | seq x y ihx ihy=>
  intro hok s a w D nu Z Q R hO hm hs hq hR
  rcases hq with hq|hq
  case inr=>exact hq (f.wz Z) m D nu a w hZr hn hm hs hmx R hO hR
  simp only [b6,RY] at hok;refine wpIn_seq (ihx hok.1 s a w D nu Z _ _ (fun a w h=>hO a w h) hm hs hq (fun e D' Z' s' a' w' nu' h1 h2 h3=> ?_))
  cases e with
  | normal=>exact ihy hok.2 s' a' w' D' nu' Z' Q R hO h1 h2 h3 hR
  | exit i=>exact hR (.exit i) D' Z' s' a' w' nu' h1 h2 h3
  | goto i=>exact hR (.goto i) D' Z' s' a' w' nu' h1 h2 h3
  | ret=>exact hR .ret D' Z' s' a' w' nu' h1 h2 h3
 | cond c x y ihx ihy=>
  intro hok s a w D nu Z Q R hO hm hs hq hR;simp only [b6,RY] at hok;simp only [cF,x8] at hq
  split at hq
  ·rename_i t e;have hc:=hs.ev c;rw [e] at hc;refine wpIn_cond hc.cj ?_
   cases t
   ·exact ihy hok.2 s a w D nu Z Q R hO hm hs hq hR
   ·exact ihx hok.1 s a w D nu Z Q R hO hm hs hq hR
  ·exact hq.elim
 | block id c ih=>
  intro hok s a w D nu Z Q R hO hm hs hq hR;refine wpIn_block (ih hok s a w D nu Z _ _ (fun a w h=>hO a w h) hm hs hq (fun e D' Z' s' a' w' nu' h1 h2 h3=> ?_))
  cases e with
  | normal=>exact hR .normal D' Z' s' a' w' nu' h1 h2 h3
  | exit i=>
   simp only [aZ.real,Exit.inBlock];simp only at h3
   split
   ·rename_i hi;rw [if_pos hi] at h3;exact hR .normal D' Z' s' a' w' nu' h1 h2 h3
   ·rename_i hi;rw [if_neg hi] at h3;exact hR (.exit i) D' Z' s' a' w' nu' h1 h2 h3
  | goto i=>exact hR (.goto i) D' Z' s' a' w' nu' h1 h2 h3
  | ret=>exact hR .ret D' Z' s' a' w' nu' h1 h2 h3
 | loop c ih=>
  intro hok s a w D nu Z Q R hO hm hs hq hR;obtain ⟨I,⟨k,s1,s2,hg,hw,hI⟩,hround⟩:=hq;obtain ⟨nu1,hm1,hy1,hs1⟩:=Hp hg hs;have hs2:=jN hw hs1
  have I1: ∀ {D nu Z s3 s4 a w},Wk n0 s3 s4->m.M D nu s3.o Z s3.y w->RS (f.wz Z) D nu s3 a w->m.M D nu s4.o Z s4.y w:=fun {D nu Z s3 s4 a w} hk hm hs=>by
   rw [<-hk.y];exact m.step hm hs.ro hk.sH (jN hk hs).ro (fun c v hr hc=>hk.ra hr hc) (fun _ h=> .inl h) (fun _ h=> .inl h) (fun b hb=>⟨((m.mS hm).1 b hb).1,((m.mS hm).1 b hb).2, .inl hb⟩) (Q6 hn hk.n)
  have hM1:m.M D nu1 s1.o Z s1.y w:=by rw [hy1];exact m.own hm hs.ro hm1 hs1.ro
  refine rM (fun k a w=> ∃s D nu Z,I k s∧m.M D nu s.o Z s.y w∧RS (f.wz Z) D nu s a w) (m:=k) ⟨s2,D,nu1,Z,hI,I1 hw hM1 hs1,hs2⟩ ?_;rintro k a w ⟨s,D,nu,Z,hI,hm,hs⟩;refine ih hok s a w D nu Z _ _ (fun a w h=>hO a w h) hm hs (hround k s hI) (fun e D' Z' s' a' w' nu' h1 h2 h3=> ?_)
  cases e with
  | normal=>
   obtain ⟨m',s3,k1,k2,k3⟩:=h3;exact ⟨m',⟨s3,D',nu',Z',k2,I1 k1 h1 h2,jN k1 h2⟩,k3⟩
  | exit i=>exact hR (.exit i) D' Z' s' a' w' nu' h1 h2 h3
  | goto i=>exact hR (.goto i) D' Z' s' a' w' nu' h1 h2 h3
  | ret=>exact hR .ret D' Z' s' a' w' nu' h1 h2 h3
 | rangeFunc g ps x y _ _=>exact fun _ s a w D nu Z Q R hO hm hs hq hR=>hq (f.wz Z) m D nu a w hZr hn hm hs hmx R hO hR
 | exit id=>exact fun _ s a w D nu Z Q R _ hm hs hq hR=>wpIn_exit (hR (.exit id) D Z s a w nu hm hs hq)
 | scope c ih=>
  intro hok s a w D nu Z Q R hO hm hs hq hR;refine zS (ih hok s a w D nu Z _ _ (fun a w h=>hO a w h) hm hs hq (fun e D' Z' s' a' w' nu' h1 h2 h3=> ?_))
  cases e with
  | normal=>exact hR .normal D' Z' s' a' w' nu' h1 h2 h3
  | exit i=>exact hR (.exit i) D' Z' s' a' w' nu' h1 h2 h3
  | goto i=>exact h3.elim
  | ret=>exact hR .ret D' Z' s' a' w' nu' h1 h2 h3
 | label l=>exact fun _ s a w D nu Z Q R _ hm hs hq hR=>wpIn_label (hR .normal D Z s a w nu hm hs hq)
 | goto l=>exact fun _ s a w D nu Z Q R _ hm hs hq hR=>wpIn_goto (hR (.goto l) D Z s a w nu hm hs hq)
 | ret=>exact fun _ s a w D nu Z Q R _ hm hs hq hR=>wpIn_ret (hR .ret D Z s a w nu hm hs hq)
 | refuse why=>intro hok;cases hok
end
end
section
section
variable {D:Nat->Prop} {nu:Nat->Nat->Value} {o:List (Option aa)} {w:World} {P:Program}
def jX (P:Program) (s:AS):List ResultVar->Option (Prop×List AV)
 | []=>some (True,[])
 | .tmp t :: l=>match jX P s l with
  | some (p,vs)=>some (p,s.ev (.tmp t) :: vs)
  | none=>none
 | .cell a T :: l=>match vC P T s.o (s.ev (.tmp a)),jX P s l with
  | some (q,v),some (p,vs)=>some (q∧p,v :: vs)
  | _,_=>none
def kX (x:Option (Prop×List AV)) (o:List (Option aa)) (Q:AV->List (Option aa)->Prop):Prop:=match x with
 | some (p,[v])=>p∧Q v o
 | some (p,vs)=>p∧Q (.dC vs) o
 | none=>False
@[congr] theorem Jz {x y:Option (Prop×List AV)} {o o':List (Option aa)} {Q:AV->List (Option aa)->Prop} (h:x=y) (k:o=o'):kX x o Q=kX y o' Q:=by rw [h,k]
theorem Dv (p:Prop) (v:AV) (Q:AV->List (Option aa)->Prop):kX (some (p,[v])) o Q=(p∧Q v o):=rfl
theorem A9 (p:Prop) (Q:AV->List (Option aa)->Prop):kX (some (p,[])) o Q=(p∧Q (.dC []) o):=rfl
theorem Dw (p:Prop) (v u:AV) (l:List AV) (Q:AV->List (Option aa)->Prop):kX (some (p,v :: u :: l)) o Q=(p∧Q (.dC (v :: u :: l)) o):=rfl
def tu (P:Program) (rs:List ResultVar) (Q:AV->List (Option aa)->Prop) (e:aZ) (s:AS):Prop:=match e with
 | .ret=>kX (jX P s rs) s.o Q
 | .normal=>kX (jX P s rs) s.o Q
 | _=>False
@[congr] theorem Jy {rs:List ResultVar} {Q:AV->List (Option aa)->Prop} {e e':aZ} {s s':AS} (h:e=e') (k:s=s'):tu P rs Q e s=tu P rs Q e' s':=by rw [h,k]
theorem Du (rs:List ResultVar) (Q:AV->List (Option aa)->Prop) (s:AS):tu P rs Q .ret s=kX (jX P s rs) s.o Q:=rfl
theorem vr (rs:List ResultVar) (Q:AV->List (Option aa)->Prop) (s:AS):tu P rs Q .normal s=kX (jX P s rs) s.o Q:=rfl
def kp (tmps:Array Value):ResultVar->Sem Value
 | .tmp t=>pure (tmps.getD t Go.undef)
 | .cell a t=>do loadVar t (<-asAddr (tmps.getD a Go.undef))
theorem qO {f:Fr} {s:AS} {a:Act} (h:RS f D nu s a w): ∀(l:List ResultVar) {p:Prop} {vs:List AV},jX P s l=some (p,vs)->p-> ∃xs:List Value,(l.mapM (kp a.tmps)).run P w = .ok xs w∧vs.length=xs.length∧ ∀(i:Nat) c x,vs[i]? = some c->xs[i]? = some x->RA D nu s.o w c x
 | [],p,vs,hr,hp=>by
  cases hr;exact ⟨[],by simp,rfl,fun i c x h=>by simp at h⟩
 | rv :: l,p,vs,hr,hp=>by
  have step: ∀(v:AV) (q:Prop) (vs':List AV),(∃x,(kp a.tmps rv).run P w = .ok x w∧RA D nu s.o w v x)->jX P s l=some (q,vs')->q->vs=v :: vs'-> ∃xs:List Value,((rv :: l).mapM (kp a.tmps)).run P w = .ok xs w∧vs.length=xs.length∧ ∀(i:Nat) c x,vs[i]? = some c->xs[i]? = some x->RA D nu s.o w c x:=by
   rintro v q vs' ⟨x,hx1,hx2⟩ hl hq rfl;obtain ⟨xs,h1,h2,h3⟩:=qO h l hl hq;refine ⟨x :: xs,by simp [List.mapM_cons,hx1,h1],by simp [h2],fun i c y q1 q2=> ?_⟩
   cases i with
   | zero=>simp at q1 q2;subst q1;subst q2;exact hx2
   | succ i=>exact h3 i c y (by simpa using q1) (by simpa using q2)
  cases rv with
  | tmp t=>
   simp only [jX] at hr
   split at hr
   ·rename_i q vs' e;cases hr;exact step _ _ _ ⟨a.eval (.tmp t),rfl,h.ev (.tmp t)⟩ e hp rfl
   ·cases hr
  | cell ad T=>
   simp only [jX] at hr
   split at hr
   ·rename_i q v q' vs' e1 e2;cases hr;obtain ⟨x,hx1,hx2⟩:=so (P:=P) h.ro (h.ev (.tmp ad)) e1 hp.1;refine step _ _ _ ⟨x, ?_,hx2⟩ e2 hp.2 rfl;simp only [Act.eval] at hx1;simp only [kp]
    cases hq:a.tmps.getD ad Go.undef with
    | pointer pa=>
     cases pa with
     | none=>rw [hq] at hx1;simp [Instr.loadAt,Instr.sureAddr] at hx1
     | some pa=>
      rw [hq] at hx1;simpa [Instr.loadAt,Instr.sureAddr,asAddr] using hx1
    | _=>rw [hq] at hx1;simp [Instr.loadAt,Instr.sureAddr] at hx1
   ·cases hr
theorem xA {f:Fr} {fn:Func} {s:AS} {a:Act} {Q:AV->List (Option aa)->Prop} (h:RS f D nu s a w) (hf:kX (jX P s fn.results.toList) s.o Q): ∃v r,(results fn a.tmps).run P w = .ok v w∧RA D nu s.o w r v∧Q r s.o:=by
 have hmap: ∀xs:List Value,(fn.results.toList.mapM (kp a.tmps)).run P w = .ok xs w->(results fn a.tmps).run P w = .ok (if h:xs.toArray.size=1 then xs.toArray[0] else .tuple xs.toArray) w:=by
  intro xs hx
  have e:fn.results.mapM (kp a.tmps)=(List.toArray <$> fn.results.toList.mapM (kp a.tmps)):=by
   rw [Array.mapM_eq_mapM_toList]
  have:results fn a.tmps=(do let vs <-fn.results.mapM (kp a.tmps);pure (if h:vs.size=1 then vs[0] else .tuple vs)):=by
   unfold results
   congr 1
  rw [this,e];simp [hx]
 unfold kX at hf
 split at hf
 ·rename_i p v e;obtain ⟨xs,h1,h2,h3⟩:=qO h _ e hf.1;obtain ⟨x,rfl⟩:=R0.1 h2.symm;exact ⟨x,v,by rw [hmap _ h1];simp,h3 0 v x rfl rfl,hf.2⟩
 ·rename_i p vs hne e;obtain ⟨xs,h1,h2,h3⟩:=qO h _ e hf.1
  have hl: ¬xs.toArray.size=1:=fun e1=>by
   have:vs.length=1:=by rw [h2];simpa using e1
   obtain ⟨v,rfl⟩:=R0.1 this;exact hne v rfl
  refine ⟨.tuple xs.toArray, .dC vs,by rw [hmap _ h1,dif_neg hl], .dC _ _ (by simpa using h2) (fun i c x q1 q2=>h3 i c x q1 (by simpa using q2)),hf.2⟩
 ·exact hf.elim
structure rn (B:Nat) (w w':World):Prop where
 os:w'.os=w.os
 tape:w'.tape=w.tape
 output:w'.output=w.output
 size:w'.heap.size=w.heap.size
 low: ∀b,b<B->w'.heap[b]? = w.heap[b]?
 cells: ∀(b:Nat) ob,w.heap[b]? = some ob->qd ob=false->w'.heap[b]? = some ob
theorem rn.refl (B:Nat) (w:World):rn B w w:=⟨rfl,rfl,rfl,rfl,fun _ _=>rfl,fun _ _ h _=>h⟩
theorem rn.cell {B:Nat} {w w':World} (h:rn B w w') {b o:Nat} {v:Value} (hv:w.cell? ⟨b,o,none⟩=some v):w'.cell? ⟨b,o,none⟩=some v:=by
 unfold World.cell? at hv ⊢
 cases hw:w.heap[b]? with
 | none=>simp [hw] at hv
 | some ob=>
  cases ob with
  | cells C T fz=>rw [h.cells b _ hw rfl];simpa [hw] using hv
  | _=>simp [hw] at hv
theorem rn.ra {B:Nat} {w w':World} (h:rn B w w') {a:AV} {x:Value} (hr:RA D nu o w a x):RA D nu o w' a x:=by
 have hF: ∀b,Fz D nu o w b->Fz D nu o w' b:=fun b hf=>⟨by rw [h.size];exact hf.1,hf.2.1,hf.2.2⟩
 induction hr with
 | undef x=>exact .undef x
 | v x=>exact .v x
 | agg cs xs h1 _ h3 ih=>exact .agg cs xs h1 ih h3
 | dC cs xs h1 _ ih=>exact .dC cs xs h1 ih
 | bf z=>exact .bf z
 | bC z a=>exact .bC z a
 | aC z rows len b off cap f h1 h2 h3 h4 h5 h6 _ h8 ih=>exact .aC z rows len b off cap f h1 h2 h3 (fun hne=>hF b (h4 hne)) h5 (fun i j row c hr hc=>h.cell (h6 i j row c hr hc)) ih h8
 | vp cs b off f h1 h2 _ h4 ih=>exact .vp cs b off f (hF b h1) (fun j c hc=>h.cell (h2 j c hc)) ih h4
 | ptr id len z row off b h1 h2=>exact .ptr id len z row off b h1 h2
 | vec id len h1 h2=>exact .vec id len h1 h2
 | fn g first caps fi ca h1 h2 _ _ ih1 ih2=>exact .fn g first caps fi ca h1 h2 ih1 ih2
 | full a x h1 _ ih=>exact .full a x h1 ih
 | iR p a x S h0 h1 hc h2 _ ih=>
  have hsame: ∀b,S b->w'.heap[b]? = w.heap[b]? :=fun b hb=>by
   obtain ⟨C,T,k,e⟩:=hc b hb;rw [e];exact h.cells b _ e rfl
  exact .iR p a x S h0 (fun b hb=>hF b (h1 b hb)) (fun b hb=>by rw [hsame b hb];exact hc b hb) (fun w2 hw=>h2 w2 (fun b hb=>(hw b hb).trans (hsame b hb))) ih
 | mp rows b es cl h1 h2 h3 h4 h5 h6 _ ih=>exact .mp rows b es cl (hF b h1) (h.cells b _ h2 rfl) h3 h4 h5 h6 ih
theorem rn.ro {B:Nat} {w w':World} (h:rn B w w') (hr:RO D nu o w):RO D nu o w':=
 ⟨fun id ob hid=>by
  rcases hr.obj id ob hid with e|⟨g,cur,hb⟩|⟨g,es,cl,hmp⟩
  ·exact .inl e
  ·exact .inr (.inl ⟨g,cur,h.cells g _ hb.blk rfl,hb.kJ,hb.box,hb.vec,hb.z,hb.row,fun i j row c x q1 q2 q3=>h.ra (hb.cell i j row c x q1 q2 q3),hb.one⟩)
  ·exact .inr (.inr ⟨g,es,cl,hmp.tr ((h.cells g _ hmp.blk rfl).trans hmp.blk.symm) (fun h=>h) rfl (fun i j row c x _ _ hr=>h.ra hr)⟩),fun b hb=>hr.up b (by rw [<-h.size];exact hb),hr.sep,fun g T cs hg=>by
  obtain ⟨⟨t,h1⟩,h2,h3⟩:=hr.gl g T cs hg
  exact ⟨⟨t,h.cells g _ h1 rfl⟩,h2,h3⟩⟩
theorem jy {fn:Func} {tmps:Array Value} {R:Ending->World->Prop} {B:Nat}: ∀(rs:List Nat) (w:World),rs.Nodup->(∀x,x∈rs->B<=x∧w.heap[x]? = some (.deferred (some []))) ->
  (∀w',rn B w w'->(∀b,b∉rs->w'.heap[b]? = w.heap[b]?)-> ∃v,(results fn tmps).run P w' = .ok v w'∧R (.returned v) w')->LeavesInM (WF none) 9 P fn tmps R (rs.map za) .returning w
 | [],w,_,_,h=>h w (.refl B w) (fun _ _=>rfl)
 | x :: rs,w,hn,hm,h=>by
  obtain ⟨h1,h2⟩:=hm x List.mem_cons_self;have hx:=(List.nodup_cons.1 hn).1;refine ⟨by simp, .inl ⟨x,w.putObj x (.deferred none),rfl,run_takeDeferred h2, ?_⟩⟩;have hs:rn B w (w.putObj x (.deferred none)):=⟨rfl,rfl,rfl,by simp,fun b hb=>World.putObj_heap_other (by omega),fun b ob hb hc=>(World.putObj_heap_other (fun e=>by rw [e,h2] at hb;cases hb;cases hc)).trans hb⟩;refine jy rs _ (List.nodup_cons.1 hn).2 (fun y hy=> ?_) (fun w' hs' hb'=>h w' ⟨hs'.os.trans hs.os,hs'.tape.trans hs.tape,hs'.output.trans hs.output,hs'.size.trans hs.size,fun b hb=>(hs'.low b hb).trans (hs.low b hb),fun b ob hb hc=>hs'.cells b ob (hs.cells b ob hb hc) hc⟩ (fun b hb=>(hb' b (fun h=>hb (Sb _ h))).trans (World.putObj_heap_other (fun e=>hb (by rw [<-e];exact List.mem_cons_self)))));obtain ⟨q1,q2⟩:=hm y (Sb _ hy);exact ⟨q1,(World.putObj_heap_other (fun e=>hx (by rw [<-e];exact hy))).trans q2⟩
def FD (P:Program) (n0:Nat) (D0:Nat->Prop) (nu0:Nat->Nat->Value) (o0:List (Option aa)) (w0:World) (hn:o0.length<=n0):WM P where
 n0:=n0
 fix:=fun _=>False
 M:=fun D nu o Z y w=>(y = .no∧(∀b,D b->D0 b)∧(∀b,Z b->b<w.heap.size∧D0 b∧ ¬D b)∧n0<=o.length∧ ∀b,w0.heap.size<=b->D0 b)∧b7 nu0 o0 w0 nu o w∧ ∀b,b<w0.heap.size-> ¬owned nu0 o0 b-> ¬Z b
 step:=fun {D D' nu o Z Z' y w nu' o' w'} h hro hm hro' _ hD _ hZ hn'=>by
  obtain ⟨⟨h1,h2,h3,h4,hup⟩,h5,h6⟩:=h
  refine ⟨⟨h1,fun b hb=> ?_,fun b hb=>⟨(hZ b hb).1, ?_,(hZ b hb).2.1⟩,hn',hup⟩,⟨hm.os.trans h5.os,hm.tape.trans h5.tape,hm.output.trans h5.output,Q6 h5.size hm.size,fun id len hh=> ?_,fun b hb hno=> ?_⟩,fun b hb hno hz=> ?_⟩
  ·rcases hD b hb with q|q
   ·exact h2 b q
   ·exact (h3 b q).2.1
  ·rcases (hZ b hb).2.2 with q|q|q
   ·exact (h3 b q).2.1
   ·exact h2 b (hro.fB q)
   ·exact hup b (Q6 h5.size q)
  ·obtain ⟨q1,q2⟩:=h5.p9 id len hh;have hlt:=gr hh;obtain ⟨q3,q4⟩:=hm.p9 id len (by omega) q1;exact ⟨q3,q4.trans q2⟩
  ·obtain ⟨q1,q2⟩:=h5.keep b hb hno;obtain ⟨q3,q4⟩:=hm.keep b (Nat.lt_of_lt_of_le hb h5.size) q2 (h6 b hb hno);exact ⟨q3.trans q1,q4⟩
  ·rcases (hZ b hz).2.2 with q|q|q
   ·exact h6 b hb hno q
   ·exact (h5.keep b hb hno).2 q
   ·have:=h5.size;omega
 mS:=fun h=>⟨fun b hb=>⟨(h.1.2.2.1 b hb).1,(h.1.2.2.1 b hb).2.2⟩,h.1.2.2.2.1,fun b hb=>hb.elim⟩
 yield:=fun h _ _ _=>by cases h.1.1
theorem RA.wider {D D':Nat->Prop} (hD: ∀b,D' b->D b) {a:AV} {x:Value} (h:RA D' nu o w a x):RA D nu o w a x:=by
 induction h with
 | undef x=>exact .undef x
 | v x=>exact .v x
 | agg cs xs h1 _ h3 ih=>exact .agg cs xs h1 ih h3
 | dC cs xs h1 _ ih=>exact .dC cs xs h1 ih
 | bf z=>exact .bf z
 | bC z a=>exact .bC z a
 | aC z rows len b off cap f h1 h2 h3 h4 h5 h6 _ h8 ih=>exact .aC z rows len b off cap f h1 h2 h3 (fun hne=>⟨(h4 hne).1,(h4 hne).2.1,hD b (h4 hne).2.2⟩) h5 h6 ih h8
 | vp cs b off f h1 h2 _ h4 ih=>exact .vp cs b off f ⟨h1.1,h1.2.1,hD b h1.2.2⟩ h2 ih h4
 | ptr id len z row off b h1 h2=>exact .ptr id len z row off b h1 h2
 | vec id len h1 h2=>exact .vec id len h1 h2
 | fn g first caps fi ca h1 h2 _ _ ih1 ih2=>exact .fn g first caps fi ca h1 h2 ih1 ih2
 | full a x h1 _ ih=>exact .full a x h1 ih
 | iR p a x S h0 h1 hc h2 _ ih=>exact .iR p a x S h0 (fun b hb=>⟨(h1 b hb).1,(h1 b hb).2.1,hD b (h1 b hb).2.2⟩) hc h2 ih
 | mp rows b es cl h1 h2 h3 h4 h5 h6 _ ih=>exact .mp rows b es cl ⟨h1.1,h1.2.1,hD b h1.2.2⟩ h2 h3 h4 h5 h6 ih
theorem RO.wider {D D':Nat->Prop} (h:RO D' nu o w) (hD: ∀b,D' b->D b):RO D nu o w:=
 ⟨fun id ob hid=>by
  rcases h.obj id ob hid with e|⟨g,cur,hb⟩|⟨g,es,cl,hmp⟩
  ·exact .inl e
  ·exact .inr (.inl ⟨g,cur,hb.blk,hD g hb.kJ,hb.box,hb.vec,hb.z,hb.row,fun i j row c x q1 q2 q3=>(hb.cell i j row c x q1 q2 q3).wider hD,hb.one⟩)
  ·exact .inr (.inr ⟨g,es,cl,hmp.tr rfl (hD g) rfl (fun i j row c x _ _ hr=>hr.wider hD)⟩),fun b hb=>hD b (h.up b hb),h.sep,fun g T cs hg=>by
  obtain ⟨⟨t,h1⟩,h2,h3⟩:=h.gl g T cs hg
  exact ⟨⟨t,h1⟩,h2,hD g h3⟩⟩
theorem wa {f:Fr} {D:Nat->Prop} {nu:Nat->Nat->Value} {o:List (Option aa)} {w:World} {args:List AV} {vargs:Array Value} {n:Nat} {y:iQ} (hf:f.r=none) (hB:f.B<=w.heap.size) (hro:RO D nu o w) (ha:fX D nu o w args vargs) :
  RS f D nu ⟨args++List.replicate (n - args.length) .undef,o,y⟩ { tmps:=vargs++Array.replicate (n - vargs.size) Go.undef,defers:=[] } w:=by
 have hl:=ha.len;refine ⟨hro,⟨by simp [hl],fun i cc x h1 h2=> ?_⟩,⟨hB,⟨[],List.nodup_nil,rfl,fun x hx=>(by cases hx)⟩,fun l hl=>by rw [hf] at hl;cases hl⟩⟩;simp only at h1 h2
 rcases Rc i args.length with hlt|hge
 ·rw [Rb hlt] at h1;rw [RL (by omega)] at h2;exact ha.at' i cc x h1 h2
 ·rw [RF hge,List.getElem?_replicate] at h1
  split at h1
  ·cases h1;exact .undef x
  ·cases h1
theorem gj.enter {f:FuncId} {fn:Func} {c:Code} {args:List AV} {Q:AV->List (Option aa)->Prop} (hf:P.funcs[f]? = some fn) (hb:fn.body=some c) (hc:dO P f=true) (hok:b6 c=true) (hmx:P.follows .mixedOrders=true)
  (h:cF P o.length c ⟨args++List.replicate (fn.ntmps - args.length) .undef,o, .no⟩ (tu P fn.results.toList Q)):gj P f args o Q:=by
 refine ⟨hc,fun D nu w vargs hro ha=>vU (n:=9) (callsIn_of_wp_marks hf hb trivial ?_ rfl)⟩;have hs:RS ⟨w.heap.size,none,fun _=>False⟩ D nu ⟨args++List.replicate (fn.ntmps - args.length) .undef,o, .no⟩ { tmps:=vargs++Array.replicate (fn.ntmps - vargs.size) Go.undef,defers:=[] } w:=wa rfl (Q5 _) hro ha
 have fin: ∀(D' Z':Nat->Prop) (s':AS) (a':Act) (w':World) (nu':Nat->Nat->Value),(FD P o.length D nu o w (Q5 _)).M D' nu' s'.o Z' s'.y w'->RS ⟨w.heap.size,none,Z'⟩ D' nu' s' a' w'->kX (jX P s' fn.results.toList) s'.o Q->LeavesInM (WF none) 9 P fn a'.tmps (DG D nu o w Q) a'.defers .returning w':=fun D' Z' s' a' w' nu' h1 h2 h3=>by
  obtain ⟨rs,k1,k2,k3⟩:=h2.gG.marks;rw [k2];refine jy (B:=w.heap.size) rs w' k1 (fun x hx=>⟨(k3 x hx).1,(k3 x hx).2.2⟩) (fun w2 hs2 _=> ?_);obtain ⟨⟨_,hD,_,_⟩,hm,_⟩:=h1;have hF: ∀b,Fz D' nu' s'.o w2 b->Fz D nu' s'.o w2 b:=fun b hb=>⟨hb.1,hb.2.1,hD b hb.2.2⟩;have h2':RS ⟨w.heap.size,none,Z'⟩ D' nu' s' { tmps:=a'.tmps,defers:=[] } w2:=⟨hs2.ro h2.ro,⟨h2.tm.len,fun i c x q1 q2=>hs2.ra (h2.tm.at' i c x q1 q2)⟩,⟨by rw [hs2.size];exact h2.gG.base,⟨[],List.nodup_nil,rfl,fun x hx=>(by cases hx)⟩,fun l hl=>by cases hl⟩⟩;obtain ⟨v,r,q1,q2,q3⟩:=xA h2' h3;exact ⟨v,q1,v,nu',s'.o,r,rfl,⟨hs2.os.trans hm.os,hs2.tape.trans hm.tape,hs2.output.trans hm.output,by rw [hs2.size];exact hm.size,hm.p9,fun b hb hno=>⟨(hs2.low b hb).trans (hm.keep b hb hno).1,(hm.keep b hb hno).2⟩⟩,RO.wider h2'.ro hD,q2.wider hD,q3⟩
 refine wpIn_mono (ib (P:=P) hmx (f:=⟨w.heap.size,none,fun _=>False⟩) (FD P o.length D nu o w (Q5 _)) (fun l hl=>by cases hl) (Q5 _) c hok _ _ w D nu (fun _=>False) _ (fun (e:Exit) a' w'=>e ≠ .outgrown∧bodyPostM (WF none) 9 P fn (DG D nu o w Q) e a' w') (fun a w hh=>hh.1 rfl) ⟨⟨rfl,fun _ h=>h,fun _ h=>h.elim,Q5 _,hro.up⟩, .refl nu o w,fun _ _ _ h=>h⟩ hs h (fun e D' Z' s' a' w' nu' h1 h2 h3=> ?_)) (fun e a w hh=>hh.2)
 cases e with
 | ret=>exact ⟨by simp [aZ.real],fin D' Z' s' a' w' nu' h1 h2 h3⟩
 | normal=>exact ⟨by simp [aZ.real],fin D' Z' s' a' w' nu' h1 h2 h3⟩
 | exit id=>exact h3.elim
 | goto l=>exact h3.elim
def kY (o:List (Option aa)) (r0 r:AV):Prop:= ∃n p,gk o n r0=some (p,r)∧p
theorem Lb (x y:Value):kY o (.v x) (.v y)=(x=y):=by
 apply propext
 constructor
 ·rintro ⟨n,p,h1,_⟩
  cases n with
  | zero=>simp [gk] at h1
  | succ n=>simp only [gk,Rl,Rm,AV.v.injEq] at h1;exact h1.2
 ·rintro rfl;exact ⟨1,_,rfl,rfl⟩
theorem kY.of {r0 r:AV} (n:Nat) {p:Prop} (h:gk o n r0=some (p,r)) (hp:p):kY o r0 r:=⟨n,p,h,hp⟩
theorem ag.enter {f:FuncId} {fn:Func} {c:Code} {args:List AV} {r:AV} (hf:P.funcs[f]? = some fn) (hb:fn.body=some c) (hc:dO P f=true) (hok:b6 c=true) (hmx:P.follows .mixedOrders=true)
  (ha:bn 0 args=true) (hr:r.wf 0=true) (h:cF P 0 c ⟨args++List.replicate (fn.ntmps - args.length) .undef,[], .no⟩ (tu P fn.results.toList (fun r0 o=>kY o r0 r))):ag P f args r:=by
 obtain ⟨_,h2⟩:=gj.enter (o:=[]) hf hb hc hok hmx h;refine ⟨⟨ha,hr⟩,hc,fun D nu w vargs hro hra=>(h2 D nu w vargs hro hra).mono ?_⟩;rintro e w' ⟨v,nu',o',r0,rfl,hm,hro',hra',n,p,hz,hp⟩;have hm':b7 nu [] w nu' [] w':=⟨hm.os,hm.tape,hm.output,hm.size,fun id len hh=>by obtain ⟨x,k,_⟩:=hh;simp at k,fun b hb ho=>⟨(hm.keep b hb ho).1,ba _ _⟩⟩;exact ⟨v,nu',[],r,rfl,hm',(.nil _ _ _ hro'.up (hro'.gl.nil (fun _ _ h=>h))),(iZ hro' n).1 r0 v p r hz hp hra',rfl,rfl⟩
end
end
section
section
variable {P:Program} {all:List Oper} {n0:Nat} {s:AS} {Q:aZ->AS->Prop}
@[go_sem] theorem Ow (t:List AV) (o:List (Option aa)) (y:iQ) (k:Nat):(AS.mk t o y).ev (.tmp k)=t.getD k .undef:=rfl
@[go_sem] theorem LM (s:AS) (v:Value):s.ev (.const v) = .v v:=rfl
@[go_sem] theorem Ng (s:AS) (f:FuncId):s.ev (.func f) = .fn f [] []:=rfl
@[go_sem] theorem L4 (t:List AV) (o o':List (Option aa)) (y:iQ) (d:Nat) (r:AV):(AS.mk t o y).put (some d) r o'=⟨t.set d r,o',y⟩:=rfl
@[go_sem] theorem L2 (t:List AV) (o o':List (Option aa)) (y:iQ) (r:AV):(AS.mk t o y).put none r o'=⟨t,o',y⟩:=rfl
@[go_sem] theorem Jg (dst:Option Tmp) (op:Op) (ty:TypeId) (pos:String) (aft:Array Edge) (s:AS) (K:AS->Prop) :
  rP P all ⟨dst,op,ty,pos,aft,none⟩ s K=AY P op dst s K:=rfl
@[go_sem] theorem Jf (dst:Option Tmp) (op:Op) (ty:TypeId) (pos:String) (aft:Array Edge) (j:Nat) (want:Bool) (s:AS) (K:AS->Prop) :
  rP P all ⟨dst,op,ty,pos,aft,some (j,want)⟩ s K=ri (iw all s j) want (AY P op dst s K) (K (s.put dst (.v Go.undef) s.o)):=rfl
attribute [go_sem] AY JG Lf yd
def dN (P:Program) (all:List Oper) (oo:Oper) (s:AS) (K:AS->Prop):Prop:=match oo.guard with
 | none=>dr P oo.op s (fun r=>K (s.put oo.dst r s.o))
 | some (j,want)=>ri (iw all s j) want (dr P oo.op s (fun r=>K (s.put oo.dst r s.o))) (K (s.put oo.dst (.v Go.undef) s.o))
@[go_sem] theorem GU (dst:Option Tmp) (op:Op) (ty:TypeId) (pos:String) (aft:Array Edge) (s:AS) (K:AS->Prop) :
  dN P all ⟨dst,op,ty,pos,aft,none⟩ s K=dr P op s (fun r=>K (s.put dst r s.o)):=rfl
@[go_sem] theorem GS (dst:Option Tmp) (op:Op) (ty:TypeId) (pos:String) (aft:Array Edge) (j:Nat) (want:Bool) (s:AS) (K:AS->Prop) :
  dN P all ⟨dst,op,ty,pos,aft,some (j,want)⟩ s K=ri (iw all s j) want (dr P op s (fun r=>K (s.put dst r s.o))) (K (s.put dst (.v Go.undef) s.o)):=rfl
theorem D4 {Q:AS->Prop} (h:Q s):iS P all [] s Q:=h
theorem JQ {oo:Oper} {rest:List Oper} {Q:AS->Prop} (h: ∀K:AS->Prop,(∀s',iS P all rest s' Q->K s')->rP P all oo s K):iS P all (oo :: rest) s Q:=h _ (fun _ h=>h)
theorem yz {dst:Option Tmp} {op:Op} {ty:TypeId} {pos:String} {aft:Array Edge} {Q:AS->Prop} (h: ∀K:AS->Prop,(∀s',Q s'->K s')->vq P op s (fun r o'=>K (s.put dst r o'))):er P all [⟨dst,op,ty,pos,aft,none⟩] s Q:=h _ (fun _ h=>h)
theorem GN {oo o2:Oper} {rest:List Oper} {Q:AS->Prop} (h: ∀K:AS->Prop,(∀s',er P all (o2 :: rest) s' Q->K s')->dN P all oo s K):er P all (oo :: o2 :: rest) s Q:=by
 have:=h _ (fun _ h=>h)
 unfold dN at this;simp only [er]
 split at this<;>simp_all
def kZ (K:AS->Prop) (Q:aZ->AS->Prop):aZ->AS->Prop
 | .normal,s=>K s
 | e,s=>Q e s
def tq (id:Nat) (Q:aZ->AS->Prop):aZ->AS->Prop
 | .exit i,s=>if i=id then Q .normal s else Q (.exit i) s
 | e,s=>Q e s
def vu (Q:aZ->AS->Prop):aZ->AS->Prop
 | .goto _,_=>False
 | e,s=>Q e s
theorem vM {K:AS->Prop} (h:K s):kZ K Q .normal s:=h
theorem Bz {K:AS->Prop} {i:Nat} (h:Q (.exit i) s):kZ K Q (.exit i) s:=h
theorem D7 {K:AS->Prop} (h:Q .ret s):kZ K Q .ret s:=h
theorem BA {K:AS->Prop} {i:Nat} (h:Q (.goto i) s):kZ K Q (.goto i) s:=h
theorem vG {i:Nat} (h:Q .normal s):tq i Q .normal s:=h
theorem DU {i:Nat} (h:Q .ret s):tq i Q .ret s:=h
theorem Bn {i j:Nat} (h:Q (.goto j) s):tq i Q (.goto j) s:=h
theorem vL (h:Q .normal s):vu Q .normal s:=h
theorem D5 (h:Q .ret s):vu Q .ret s:=h
theorem Bw {i:Nat} (h:Q (.exit i) s):vu Q (.exit i) s:=h
theorem yC {id:Nat} {l:List Oper} (h:iS P l l s (Q .normal)):cF P n0 (.region id l.toArray false) s Q:= .inl h
def uj:List Oper->Bool
 | []=>true
 | [_]=>true
 | o :: l=>(match o.op with| .alloc _=>false| .store .. =>false|_=>true)&&uj l
theorem Ea {id:Nat} {l:List Oper} (hB:xw l.toArray=true) (_hL:uj l=true) (h:er P l l s (Q .normal)):cF P n0 (.region id l.toArray true) s Q:= .inl ⟨hB,h⟩
theorem Ed (h:Q .normal s):cF P n0 .skip s Q:=h
theorem G5 {a b:Code} (h: ∀K:AS->Prop,(∀s',cF P n0 b s' Q->K s')->cF P n0 a s (kZ K Q)):cF P n0 (.seq a b) s Q:=by
 have:=h _ (fun _ h=>h)
 simp only [cF];refine .inl ?_;exact (congrArg (cF P n0 a s) (by funext e s';cases e<;>rfl)).mpr this
theorem D9 {c:Operand} {a b:Code} (h:x8 (s.ev c) (cF P n0 a s Q) (cF P n0 b s Q)):cF P n0 (.cond c a b) s Q:=h
theorem BD {id:Nat} {c:Code} (h:cF P n0 c s (tq id Q)):cF P n0 (.block id c) s Q:=by
 simp only [cF];exact (congrArg (cF P n0 c s) (by funext e s';cases e<;>rfl)).mpr h
theorem BK {c:Code} (h:cF P n0 c s (vu Q)):cF P n0 (.scope c) s Q:=by
 simp only [cF];exact (congrArg (cF P n0 c s) (by funext e s';cases e<;>rfl)).mpr h
theorem Eb {id:Nat} (h:Q (.exit id) s):cF P n0 (.exit id) s Q:=h
theorem GY (h:Q .ret s):cF P n0 .ret s Q:=h
theorem BJ {l:Nat} (h:Q .normal s):cF P n0 (.label l) s Q:=h
theorem Ec {l:Nat} (h:Q (.goto l) s):cF P n0 (.goto l) s Q:=h
attribute [go_sem] Gy Gx DD DB A6 vt rO Dz Dy JD Gu Dv A9 Dw Du vr Lb
attribute [go_sem] AV.st bytesOf tE z6 yl vq dr GP oP vJ Bu mW pf yn z7 vC tJ ke rW jl tF jm tG GI GJ jY GL oD kv Nd vB tD nR fh rY Ab lA Dr Aa DS oO lB l8
 AV.cells? vn iw aa.hl jX AV.wf bn dA qe sw Bk ph vD tI tH dj
@[go_sem] theorem Lt (d:TypeDesc) (k:Value) (x:AV):lz d k x []=some [[.v k,x]]:=rfl
@[go_sem] theorem Ls (d:TypeDesc) (k:Value):k9 d k []=some none:=rfl
@[go_sem] theorem M9 (b:Bool) (A B:Prop):cL (!b) A B=cL b B A:=by cases b<;>rfl
def aM {ι:Type} (n0:Nat) (S:ι->AS) (mu:ι->Nat) (ok:ι->Prop) (m:Nat) (s2:AS):Prop:= ∃m' s3,Wk n0 s2 s3∧(∃j,ok j∧mu j=m'∧s3=S j)∧m'<m
theorem aM.mk {ι:Type} {S:ι->AS} {mu:ι->Nat} {ok:ι->Prop} {m:Nat} {s2:AS} (j:ι) (h1:ok j) (h2:mu j<m) (h3:Wk n0 s2 (S j)):aM n0 S mu ok m s2:=⟨mu j,S j,h3,⟨j,h1,rfl,rfl⟩,h2⟩
theorem j3 {ι:Type} {c:Code} (S:ι->AS) (mu:ι->Nat) (ok:ι->Prop) (i0:ι) (s1:AS) (h1:Gs s s1) (h2:Wk n0 s1 (S i0)) (h3:ok i0)
  (h: ∀i,ok i-> ∀K:AS->Prop,(∀s2,aM n0 S mu ok (mu i) s2->K s2)->cF P n0 c (S i) (kZ K Q)):cF P n0 (.loop c) s Q:=by
 show zU n0 (cF P n0 c) s Q;refine ⟨fun m s'=> ∃i,ok i∧mu i=m∧s'=S i,⟨mu i0,s1,S i0,h1,h2,i0,h3,rfl,rfl⟩, ?_⟩;rintro m s' ⟨i,hi,rfl,rfl⟩
 have:=h i hi _ (fun _ h=>h)
 exact (congrArg (cF P n0 c (S i)) (by funext e s2;cases e<;>rfl)).mpr this
def aR (n:Nat) (l:List (Nat×AV)):List AV:=l.foldl (fun t p=>t.set p.1 p.2) (List.replicate n .undef)
theorem ni {ι:Type} {c:Code} {t:List AV} {o:List (Option aa)} {y:iQ} (live:ι->List (Nat×AV)) (ob:ι->List (Option aa)) (mu:ι->Nat) (ok:ι->Prop) (i0:ι) (h3:ok i0) (h2:Wk n0 ⟨t,o,y⟩ ⟨aR t.length (live i0),ob i0,y⟩)
  (h: ∀i,ok i-> ∀K:AS->Prop,(∀s2,aM n0 (fun i=>⟨aR t.length (live i),ob i,y⟩) mu ok (mu i) s2->K s2)->cF P n0 c ⟨aR t.length (live i),ob i,y⟩ (kZ K Q)):cF P n0 (.loop c) ⟨t,o,y⟩ Q:=
 j3 (fun i=>⟨aR t.length (live i),ob i,y⟩) mu ok i0 _ .refl h2 h3 h
theorem ak {s s':AS} (h1:aX s'.o.length s.t s'.t) (h2:aW s'.o.length s.o s'.o) (h3:n0<=s'.o.length) (h4:s.y=s'.y:=by rfl):Wk n0 s s':=⟨h1,h2,h3,h4⟩
theorem aD {k:Nat} (h:k<9223372036854775807):IntKind.i64.wrap ((k:Int)+1)=((k+1:Nat):Int):=by
 rw [IntKind.wrap_i64];omega
theorem fK {n:Int} (h1: -9223372036854775808<=n) (h2:n<=9223372036854775807):IntKind.i64.wrap n=n:=by
 rw [IntKind.wrap_i64];omega
end
attribute [go_sem] List.getD_cons_zero List.getD_cons_succ List.set_cons_zero List.set_cons_succ List.getElem?_cons_zero List.getElem?_cons_succ List.length_cons List.length_nil List.length_map Option.map_some Option.map_none List.drop_zero List.drop_succ_cons List.take_succ_cons List.take_zero List.map_cons List.map_nil List.cons_append List.nil_append List.append_nil RD true_and and_true Int.toNat_natCast if_true if_false BEq.rfl Bool.true_beq Bool.false_beq beq_true beq_false Bool.not_true Bool.not_false Bool.and_true Bool.true_and Bool.and_false Bool.false_and RX Q5 List.length_replicate Nat.zero_mul Rl implies_true Bool.false_eq_true List.length_append decide_true decide_false beq_self_eq_true bne_self_eq_false Bool.not_not and_self Nat.lt_irrefl List.replicate_succ List.replicate_zero Nat.sub_zero
theorem wD {P:Program} {n0 id:Nat} {l:List Oper} {s:AS} {Q:aZ->AS->Prop} (h:er P l l s (Q .normal)) (hB:xw l.toArray=true:=by kernel_rfl) (hL:uj l=true:=by decide):cF P n0 (.region id l.toArray true) s Q:=Ea hB hL h
end
end Go.Proofs.YtjcobjgjjlahdaaGreatDoor
