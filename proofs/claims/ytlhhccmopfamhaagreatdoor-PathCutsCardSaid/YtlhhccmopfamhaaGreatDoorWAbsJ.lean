/- texts of one claim, one behind the other. -/
import Derived.Test.YtlhhccmopfamhaaGreatDoorWAbsG
set_option linter.unusedSimpArgs false
set_option linter.unusedVariables false
set_option maxRecDepth 100000
set_option maxHeartbeats 16000000
open Array renaming getElem?_eq_some_iff -> S5, getElem?_append_left -> TJ, getElem?_append_right -> T7
open Bool renaming and_eq_true -> TY
open List renaming getElem?_map -> Tq, mem_of_getElem? -> TI, getElem?_eq_some_iff -> S7, getElem?_eq_getElem -> Tn, getElem?_drop -> Tl, append_assoc -> TB, getElem?_append_left -> S8, getElem?_append_right -> TD, getD_eq_getElem?_getD -> T3, getElem?_set_self -> Tw, getElem?_set_ne -> Tv, getElem?_toArray -> Tp, singleton_append -> T9, length_eq_one_iff -> TP, mem_cons_of_mem -> T8
open Nat renaming le_refl -> SY, zero_add -> TX, lt_or_ge -> S9, le_trans -> S3
open Option.some renaming inj -> SX, injEq -> Ti
open Prod.mk renaming injEq -> Tj
namespace Go.Proofs.YtlhhccmopfamhaaGreatDoor
open Go.RowKit
section
def AD (P:Program) (T:TypeId) (o:List (Option aa)) (a b:AV):Option (Prop×AV):=
 match gR P T,a with
 | some (_,z,bytes), .full (.aI z' rows len)=>match lP o z b with
  | some (p,rows2)=>some (z'=z∧p∧(len+rows2.length) * bytes<=70368744177664∧len+rows2.length<=70368744177664, .aI z (rows.take len++rows2) (len+rows2.length))
  | none=>none
 | some (_,z,bytes), .v (.slice none 0 0)=>match lP o z b with
  | some (p,rows2)=>some (p∧rows2.length * bytes<=70368744177664∧rows2.length<=70368744177664, .aI z rows2 rows2.length)
  | none=>none
 | _,_=>none
def yM (P:Program) (ev:Operand->AV) (o:List (Option aa)):List Operand->List TypeId->Option (Prop×AV)
 | [x,y],[T,T']=>if T=T' then AD P T o (ev x) (ev y).st else none
 | _,_=>none
def B4 (P:Program) (ev:Operand->AV) (o:List (Option aa)) (op:Op):Option (Prop×AV):=match op with
 | .buildSlice T len parts=>match ee P T len [] (parts.toList.map fun p=>(p.1,ev p.2)) with
  | some (_,[some ob])=>some (True, .aI ob.z ob.rows len)
  | _=>none
 | .box _ x=>match (ev x).cells? with
  | some cs=>some (True, .vp cs)
  | none=>none
 | .slice T x lo hi mx=>match (ev x).st with
  | .vec _ _=>none
  | a=>match lO P T o a (lo.map ev) (hi.map ev) (mx.map ev) with
   | some (p,r,_)=>some (p,r)
   | none=>none
 | .call c=>match c.callee with
  | .builtin .append=>yM P ev o c.args.toList c.argTypes.toList
  | _=>wa P ev o (.call c)
 | op=>wa P ev o op
section
variable {D:Nat->Prop} {nu:Nat->Nat->Value} {o:List (Option aa)} {w:World} {P:Program}
theorem zm (h:RO D nu o w) (ob:Obj):Fz D nu o (w.alloc ob) w.heap.size:=⟨by simp,fun ho=>by have:=h.aU ho;omega,h.up _ (SY _)⟩
theorem gv (w:World) (ob:Obj):Below w.heap.size w (w.alloc ob):=(Below.refl _ _).alloc (SY _) _
theorem RA.P7 {z len:Nat} {rows:List (List AV)} {v:Value} (h:RA D nu o w (.aI z rows len) v):RA D nu o w (.aI z (rows.take len) len) v:=by
 cases h with
 | bf=>simpa using RA.bf z
 | bA _ a=>simpa using RA.bA z a
 | aI _ _ _ b off cap f h1 h2 h3 h4 h5 h6 h7 h8=>
  have hg: ∀(i:Nat) row,(rows.take len)[i]? = some row->rows[i]? = some row:=fun i row hi=>by
   rw [List.getElem?_take] at hi
   split at hi
   ·exact hi
   ·cases hi
  exact .aI z _ len b off cap f (by simp;omega) (by simp;omega) h3 (fun hne=>h4 (fun e=>hne (by rw [e];simp))) (fun i row hi=>h5 i row (hg i row hi)) (fun i j row c hi=>h6 i j row c (hg i row hi)) (fun i j row c hi=>h7 i j row c (hg i row hi)) (fun i j row c hi=>h8 i j row c (hg i row hi))
theorem yN {T:TypeId} (ty:TypeId) (h:RO D nu o w) {a b:AV} {x y:Value} (hr:RA D nu o w a x) (hs:RA D nu o w b y) {p:Prop} {r:AV} (hl:AD P T o a b=some (p,r)) (hp:p) :
  ∃v w',(Builtin.append_ #[T,T] ty #[x,y]).run P w = .ok v w'∧Below w.heap.size w w'∧RA D nu o w' r v:=by
 have main: ∀(e:TypeId) (z bytes:Nat) (rows:List (List AV)) (len:Nat) (p':Prop) (rows2:List (List AV)),gR P T=some (e,z,bytes)->RA D nu o w (.full (.aI z rows len)) x->lP o z b=some (p',rows2)->p'->(len+rows2.length) * bytes<=70368744177664->len+rows2.length<=70368744177664 ->
   ∃v w',(Builtin.append_ #[T,T] ty #[x,y]).run P w = .ok v w'∧Below w.heap.size w w'∧RA D nu o w' (.aI z (rows.take len++rows2) (len+rows2.length)) v:=by
  intro e z bytes rows len p' rows2 ht hr e2 hp' hby h63;obtain ⟨hu,i,zv,hi,_,_,hz0,_,_⟩:=eH ht
  by_cases hne:rows2=[]
  ·subst hne
   have hx:RA D nu o w (.aI z (rows.take len++[]) (len+([]:List (List AV)).length)) x:=by
    simp only [List.append_nil,List.length_nil,Nat.add_zero]
    cases hr with
    | full _ _ _ h2=>exact h2.P7
   refine ⟨x,w, ?_, .refl _ _,hx⟩
   cases hr with
   | full _ _ h1 h2=>
   obtain ⟨ad,n,rfl⟩:=h1
   have hy: ∃q c,y = .slice q 0 c:=by
    rcases gP h hz0 hs e2 hp' with ⟨rfl,_⟩|⟨g,c,news,rfl,_⟩
    ·exact ⟨_,_,rfl⟩
    ·exact ⟨_,_,rfl⟩
   obtain ⟨q,c,rfl⟩:=hy;cases ad<;>cases q<;>simp [Builtin.append_,run_underlying hu,sizeOf,typeInfo,hi,Builtin.lenOf,Builtin.firstCells,loadCells,loadCellsFrom,storeCells]
  ·obtain ⟨cap,cur,hrun,hg,hlr,hc1,hc2,hcs⟩:=xO ty ht h hr hs e2 hp' hne hby h63;refine ⟨_,_,hrun,((Below.refl _ w).drew).alloc (SY _) _, ?_⟩;have hb:Below w.heap.size w w.drew:=(Below.refl _ _).drew;have hb':Below w.heap.size w (w.drew.alloc (.cells cur e)):=hb.alloc (SY _) _
   have hget: ∀(i j:Nat) row c,(rows.take len++rows2)[i]? = some row->row[j]? = some c->cur[i * z+j]? = some (cur.getD (i * z+j) Go.undef):=fun i j row c k1 k2=>by
    obtain ⟨x,q1,_⟩:=hg.cell i j row c k1 k2
    have:=(S5.1 q1).1
    simp [Array.getD,this]
   have hfz:Fz D nu o (w.drew.alloc (.cells cur e)) w.heap.size:=zm (h.below hb) _
   refine .aI z _ _ _ 0 cap (fun i j=>cur.getD (i * z+j) Go.undef) (by omega) (by omega) hc2 (fun _=>hfz) hg.row (fun i j row c k1 k2=> ?_) (fun i j row c k1 k2=> ?_) (fun i j row c k1 k2=> ?_)
   ·rw [<-hget i j row c k1 k2,TX];exact cell_of_row _ _ _ _ _ _ (heap_alloc_new w.drew _)
   ·obtain ⟨x,q1,q2,_⟩:=hg.cell i j row c k1 k2
    have:=hget i j row c k1 k2
    rw [q1] at this;rw [<-SX this];exact q2.mono (ak hb') (fun _ _ h=>h)
   ·obtain ⟨x,q1,_,q3⟩:=hg.cell i j row c k1 k2
    have:=hget i j row c k1 k2
    rw [q1] at this;rw [<-SX this];exact q3
 unfold AD at hl
 split at hl
 ·rename_i e z bytes z' rows len ht
  split at hl
  ·rename_i p' rows2 e2;cases hl;obtain ⟨rfl,hp',hby,h63⟩:=hp;exact main e z' bytes rows len p' rows2 ht hr e2 hp' hby h63
  ·cases hl
 ·rename_i e z bytes ht
  split at hl
  ·rename_i p' rows2 e2;cases hl;obtain ⟨hp',hby,h63⟩:=hp
   have hr':RA D nu o w (.full (.aI z [] 0)) x:=by
    obtain rfl:=hr.bZ;exact .full _ _ ⟨_,_,rfl⟩ (.bf z)
   have:=main e z bytes [] 0 p' rows2 ht hr' e2 hp' (by simpa using hby) (by simpa using h63)
   simpa using this
  ·cases hl
 ·cases hl
theorem B5 {ev:Operand->AV} {rho:Operand->Value} {oo:Oper} (h:RO D nu o w) (hev:G8 D nu o w ev rho oo.op) {p:Prop} {r:AV} (ha:B4 P ev o oo.op=some (p,r)) (hp:p) :
  ∃v w',(execOp rho oo).run P w = .ok (.value v) w'∧Below w.heap.size w w'∧RA D nu o w' r v:=by
 unfold B4 at ha
 split at ha
 ·rename_i T len parts hop
  split at ha
  ·rename_i r' ob hb;cases ha
   obtain ⟨e,z,rows,ys,_,h2,h3,hz0,hlm,hys,hg,hrun⟩:=Gt (D:=D) (nu:=nu) (o:=o) (w:=w) (P:=P) (vs:=parts.map fun (i,x)=>(i,rho x)) (by simp) (fun k p q a b=>by
    rw [Tq] at a;rw [Array.getElem?_map] at b
    have e:parts.toList[k]? = parts[k]? :=by simp
    rw [e] at a
    cases hk:parts[k]? with
    | none=>rw [hk] at a;cases a
    | some pr=>
     rw [hk] at a b;cases a;cases b
     exact ⟨rfl,hev pr.2 (by
      rw [hop];simp only [Op.operands]
      have:pr∈parts.toList:=TI (by rw [e];exact hk)
      simpa using ⟨pr.1,by simpa using this⟩)⟩) hb
   simp only [List.nil_append,List.cons.injEq,Ti,and_true] at h2;subst h2
   have hrun':((do pure (Next.value (<-Instr.buildSlice T len (parts.map fun (i,x)=>(i,rho x)))):Sem Next)).run P w = .ok (.value (.slice (some ⟨w.heap.size,0,none⟩) len len)) (w.alloc (.cells ys e)):=by rw [Sem.run_bind,hrun];rfl
   refine ⟨_,_,by simpa only [execOp,hop] using hrun',gv _ _, ?_⟩
   have hget: ∀(i j:Nat) row c,rows[i]? = some row->row[j]? = some c->ys[i * z+j]? = some (ys.getD (i * z+j) Go.undef):=fun i j row c k1 k2=>by
    obtain ⟨x,q1,_⟩:=hg.cell i j row c k1 k2
    have:=(S5.1 q1).1
    simp [Array.getD,this]
   refine .aI z rows len _ 0 len (fun i j=>ys.getD (i * z+j) Go.undef) (by omega) (by omega) (by unfold maxLen;omega) (fun _=>zm h _) hg.row (fun i j row c k1 k2=> ?_) (fun i j row c k1 k2=> ?_) (fun i j row c k1 k2=> ?_)
   ·rw [<-hget i j row c k1 k2,TX];exact cell_of_row _ _ _ _ _ _ (heap_alloc_new w _)
   ·obtain ⟨x,q1,q2,_⟩:=hg.cell i j row c k1 k2
    have:=hget i j row c k1 k2
    rw [q1] at this;rw [<-SX this];exact q2.mono (ak (gv w _)) (fun _ _ h=>h)
   ·obtain ⟨x,q1,_,q3⟩:=hg.cell i j row c k1 k2
    have:=hget i j row c k1 k2
    rw [q1] at this;rw [<-SX this];exact q3
  ·cases ha
 ·rename_i T x hop;have hx:=hev x (by rw [hop];simp [Op.operands])
  split at ha
  ·rename_i cs hc;cases ha;have hcs:=hx.one hc;refine ⟨.pointer (some ⟨w.heap.size,0,none⟩),w.alloc (.cells (rho x).cells T),by simp [execOp,hop,Instr.box,newVar,newRow],gv _ _, ?_⟩
   have hget: ∀(j:Nat) c,cs[j]? = some c->(rho x).cells[j]? = some ((rho x).cells.getD j Go.undef):=fun j c k=>by
    have:=(S7.1 k).1
    have hl:=hcs.len;simp [Array.getD,show j<(rho x).cells.size by omega]
   refine .vp cs _ 0 (fun j=>(rho x).cells.getD j Go.undef) (zm h _) (fun j c k=> ?_) (fun j c k=> ?_) (fun j c k=> ?_)
   ·rw [<-hget j c k,TX];exact cell_of_row _ _ _ _ _ _ (heap_alloc_new w _)
   ·exact (hcs.at' j c _ k (hget j c k)).mono (ak (gv w _)) (fun _ _ h=>h)
   ·exact hcs.one j _ (hget j c k)
  ·cases ha
 ·rename_i T x lo hi mx hop
  split at ha
  ·cases ha
  ·rename_i hne
   split at ha
   ·rename_i p' r' o' hb;cases ha;obtain ⟨v,h1,h2,_⟩:=rB (P:=P) (hev x (by rw [hop];simp [Op.operands])).st (iN (rho:=rho) (fun y hy=>hev y (by rw [hop,hy];simp [Op.operands]))) (iN (rho:=rho) (fun y hy=>hev y (by rw [hop,hy];simp [Op.operands]))) (iN (rho:=rho) (fun y hy=>hev y (by rw [hop,hy];simp [Op.operands]))) hb hp (fun id len e=>hne id len e);refine ⟨v,w, ?_, .refl _ _,h2⟩;simp only [execOp,hop,Sem.run_bind,h1,Result.andThen_ok,Sem.run_pure]
   ·cases ha
 ·rename_i c hop
  split at ha
  ·rename_i hc;have hops: ∀x,x∈c.args.toList->RA D nu o w (ev x) (rho x):=fun x hx=>hev x (by rw [hop];simp only [Op.operands,Call.operands,hc];simpa using hx);obtain ⟨callee,args,argTypes⟩:=c;simp only at hc ha hops;subst hc;obtain ⟨args⟩:=args;obtain ⟨argTypes⟩:=argTypes;simp only at ha hops;unfold yM at ha
   split at ha
   ·rename_i x y T T'
    split at ha
    ·rename_i hT;subst hT;obtain ⟨v,w',h1,h2,h3⟩:=yN (P:=P) oo.type h (hops x (by simp)) (hops y (by simp)).st ha hp;exact ⟨v,w',by simp [execOp,hop,resolve,invoke,builtin,h1],h2,h3⟩
    ·cases ha
   ·cases ha
  ·obtain ⟨v,h1,h2⟩:=iG (P:=P) h hev (by rw [hop];exact ha) hp;exact ⟨v,w,h1, .refl _ _,h2⟩
 ·obtain ⟨v,h1,h2⟩:=iG (P:=P) h hev ha hp;exact ⟨v,w,h1, .refl _ _,h2⟩
def Av (x:Option (Prop×AV)) (K:AV->Prop):Prop:=match x with
 | some (p,r)=>p∧K r
 | none=>False
@[congr] theorem LX {x y:Option (Prop×AV)} {K:AV->Prop} (h:x=y):Av x K=Av y K:=by rw [h]
theorem D6 (p:Prop) (r:AV) (K:AV->Prop):Av (some (p,r)) K=(p∧K r):=rfl
theorem D7 (r:AV) (K:AV->Prop):Av (some (True,r)) K=K r:=by simp [Av]
mutual
def fJ (o:List (Option aa)):Nat->AV->Option (Prop×AV)
 | 0,_=>none
 | _+1, .vec id len=>match o[id]? with
  | some (some ob)=>some (ob.dj=true∧ob.rows.length=len∧bQ 0 ob.rows=true, .aI ob.z ob.rows len)
  | _=>none
 | n+1, .ptr id len z row off=>match o[id]? with
  | some (some ob)=>match eU o n (ob.rows.getD row []) with
   | some (p,cs)=>some (p∧ob.hl=len∧ob.z=z∧row<ob.rows.length, .vp (cs.drop off))
   | none=>none
  | _=>none
 | n+1, .agg cs=>match eU o n cs with
  | some (p,cs')=>some (p, .agg cs')
  | none=>none
 | n+1, .fn g fi ca=>match eU o n fi,eU o n ca with
  | some (p,fi'),some (q,ca')=>some (p∧q, .fn g fi' ca')
  | _,_=>none
 | n+1, .ct cs=>match eU o n cs with
  | some (p,cs')=>some (p, .ct cs')
  | none=>none
 | n+1, .full b=>match fJ o n b with
  | some (p,b')=>some (p, .full b')
  | none=>none
 | n+1, .fp q b=>match fJ o n b with
  | some (p,b')=>some (p, .fp q b')
  | none=>none
 | _+1,a=>some (a.wf 0=true,a)
def eU (o:List (Option aa)):Nat->List AV->Option (Prop×List AV)
 | 0,_=>none
 | _+1,[]=>some (True,[])
 | n+1,a :: l=>match fJ o n a,eU o n l with
  | some (p,b),some (q,m)=>some (p∧q,b :: m)
  | _,_=>none
end
theorem kf (h:RO D nu o w): ∀(n:Nat),(∀(a:AV) (x:Value) (p:Prop) (r:AV),fJ o n a=some (p,r)->p->RA D nu o w a x->RA D nu [] w r x) ∧
  (∀(l:List AV) (p:Prop) (m:List AV),eU o n l=some (p,m)->p->l.length=m.length∧ ∀(i:Nat) a b x,l[i]? = some a->m[i]? = some b->RA D nu o w a x->RA D nu [] w b x)
 | 0=>⟨fun a x p r he=>by simp [fJ] at he,fun l p m he=>by simp [eU] at he⟩
 | n+1=>by
  have hF: ∀id ob g cur,o[id]? = some (some ob)->vH D nu o w id ob g cur->Fz D nu [] w g:=fun id ob g cur _ hb=>⟨(S5.1 hb.cZ).1,bb _ _,hb.j9⟩;have hFz: ∀b,Fz D nu o w b->Fz D nu [] w b:=fun b hb=>⟨hb.1,bb _ _,hb.2.2⟩;obtain ⟨ih1,ih2⟩:=kf h n;have cl: ∀(a:AV) (x:Value),a.wf 0=true->RA D nu o w a x->RA D nu [] w a x:=fun a x ha hr=>hr.tr (n:=0) hFz (fun id len hlt=>by omega) ha
  constructor
  ·intro a x p r he hp hr
   cases a with
   | vec id len=>
    simp only [fJ] at he
    split at he
    ·rename_i ob ho;cases he;obtain ⟨hv,rfl,hw⟩:=hp;cases hr;exact (ln h ho hv).tr (n:=0) (fun b hb=>⟨hb.1,bb _ _,hb.2.2⟩) (fun id len hlt=>by omega) (by simpa only [AV.wf] using hw)
    ·cases he
   | ptr id len z row off=>
    simp only [fJ] at he
    split at he
    ·rename_i ob ho
     split at he
     ·rename_i q cs e;cases he;obtain ⟨hq,rfl,rfl,hlt⟩:=hp;obtain ⟨hl,hall⟩:=ih2 _ _ _ e hq
      cases hr with
      | ptr _ _ _ _ _ b h1 h2=>
      rcases h.obj id ob ho with ⟨e1,e2,e3⟩|⟨g,cur,hb⟩|⟨g,es,cl,hmp⟩
      rotate_left 2
      ·exact absurd h2 (hmp.FU (SY _))
      ·rw [e2] at hlt;simp at hlt
      ·rw [hb.mz] at h2;cases h2;have hrow:ob.rows[row]? = some ob.rows[row]:=Tn hlt;rw [getD_some hrow] at hl hall
       have hget: ∀(j:Nat) c,cs[j]? = some c-> ∃c0,ob.rows[row][j]? = some c0∧cur[row * ob.z+j]? = some (cur.getD (row * ob.z+j) Go.undef):=fun j c hc=>by
        have hj:j<ob.rows[row].length:=by rw [hl];exact (S7.1 hc).1
        have:=hb.oN hrow hj
        exact ⟨_,Tn hj,by simp [Array.getD,this]⟩
       refine .vp _ b _ (fun j=>cur.getD (row * ob.z+(off+j)) Go.undef) (hF id ob b cur ho hb) (fun j c hc=> ?_) (fun j c hc=> ?_) (fun j c hc=> ?_)
       ·rw [Tl] at hc;obtain ⟨c0,k1,k2⟩:=hget _ c hc;rw [<-k2,show row * ob.z+off+j=row * ob.z+(off+j) by omega];exact cell_of_row _ _ _ _ _ _ hb.cZ
       ·rw [Tl] at hc;obtain ⟨c0,k1,k2⟩:=hget _ c hc;exact hall _ c0 c _ k1 hc (hb.cell row _ _ c0 _ hrow k1 k2)
       ·rw [Tl] at hc;obtain ⟨c0,k1,k2⟩:=hget _ c hc;exact hb.one row _ _ c0 _ hrow k1 k2
     ·cases he
    ·cases he
   | agg cs=>
    simp only [fJ] at he
    split at he
    ·rename_i q cs' e;cases he;obtain ⟨hl,hall⟩:=ih2 _ _ _ e hp
     cases hr with
     | agg _ xs h1 h2 h3=>
      refine .agg _ _ (by omega) (fun i c x q1 q2=> ?_) h3
      have hi:i<cs.length:=by rw [hl];exact (S7.1 q1).1
      exact hall i _ c x (Tn hi) q1 (h2 i _ x (Tn hi) q2)
    ·cases he
   | ct cs=>
    simp only [fJ] at he
    split at he
    ·rename_i q cs' e;cases he;obtain ⟨hl,hall⟩:=ih2 _ _ _ e hp
     cases hr with
     | ct _ xs h1 h2=>
      refine .ct _ _ (by omega) (fun i c x q1 q2=> ?_)
      have hi:i<cs.length:=by rw [hl];exact (S7.1 q1).1
      exact hall i _ c x (Tn hi) q1 (h2 i _ x (Tn hi) q2)
    ·cases he
   | full b=>
    simp only [fJ] at he
    split at he
    ·rename_i q b' e;cases he
     cases hr with
     | full _ _ h1 h2=>exact .full _ _ h1 (ih1 _ _ _ _ e hp h2)
    ·cases he
   | fp q b=>
    simp only [fJ] at he
    split at he
    ·rename_i q' b' e;cases he
     cases hr with
     | fp _ _ _ S h0 h1 hc h2 h3=>exact .fp _ _ _ S h0 (fun b hb=>hFz b (h1 b hb)) hc h2 (ih1 _ _ _ _ e hp h3)
    ·cases he
   | fn g fi ca=>
    simp only [fJ] at he
    split at he
    ·rename_i q fi' q' ca' e1 e2;cases he;obtain ⟨hl1,hall1⟩:=ih2 _ _ _ e1 hp.1;obtain ⟨hl2,hall2⟩:=ih2 _ _ _ e2 hp.2
     cases hr with
     | fn _ _ _ xf xc h1 h2 h3 h4=>
      refine .fn _ _ _ _ _ (by omega) (by omega) (fun i c x q1 q2=> ?_) (fun i c x q1 q2=> ?_)
      ·have hi:i<fi.length:=by rw [hl1];exact (S7.1 q1).1
       exact hall1 i _ c x (Tn hi) q1 (h3 i _ x (Tn hi) q2)
      ·have hi:i<ca.length:=by rw [hl2];exact (S7.1 q1).1
       exact hall2 i _ c x (Tn hi) q1 (h4 i _ x (Tn hi) q2)
    ·cases he
   | _=>simp only [fJ,Ti,Tj] at he;obtain ⟨rfl,rfl⟩:=he;exact cl _ x hp hr
  ·intro l p m he hp
   cases l with
   | nil=>
    simp only [eU,Ti,Tj] at he;obtain ⟨rfl,rfl⟩:=he;exact ⟨rfl,fun i a b x h=>by simp at h⟩
   | cons a l=>
    simp only [eU] at he
    split at he
    ·rename_i q b q' m' e1 e2;cases he;obtain ⟨h1,h2⟩:=ih2 _ _ _ e2 hp.2;refine ⟨by simp [h1],fun i a' b' x k1 k2 hr=> ?_⟩
     cases i with
     | zero=>simp at k1 k2;subst k1;subst k2;exact ih1 _ x _ _ e1 hp.1 hr
     | succ i=>exact h2 i a' b' x (by simpa using k1) (by simpa using k2) hr
    ·cases he
theorem y7 {f:FuncId} {args args':List AV} {r:AV} {vargs:Array Value} (hc:af P f args' r) {n:Nat} {p:Prop} (hz:eU o n args=some (p,args')) (hp:p) (hf:r.flat=true) (h:RO D nu o w) (ha:gk D nu o w args vargs) :
  Calls P f vargs w (fun e w'=> ∃v,e = .returned v∧Below w.heap.size w w'∧RA D nu o w' r v):=by
 obtain ⟨hl,hall⟩:=(kf h n).2 _ _ _ hz hp
 refine (hc.2.2 (fun _=>True) nu w vargs (.nil _ _ _ (fun _ _=>trivial) (h.gl.nil (fun _ _ _=>trivial))) ⟨by rw [<-hl];exact ha.len,fun i c x q1 q2=> ?_⟩).mono ?_
 ·have hi:i<args.length:=by rw [hl];exact (S7.1 q1).1
  exact (hall i _ c x (Tn hi) q1 (ha.at' i _ x (Tn hi) q2)).mono (.refl _ _ _) (fun _ _ _=>trivial)
 ·rintro e w' ⟨v,nu',o',r',rfl,hm,hro,hra,rfl,rfl⟩;exact ⟨v,rfl,fa hm,hra.flat hf⟩
def Mw (P:Program) (f:FuncId) (args:List AV) (o:List (Option aa)) (r:AV):Prop:=df P f=true∧ ∀D nu w vargs,RO D nu o w->gk D nu o w args vargs->Calls P f vargs w (fun e w'=> ∃v,e = .returned v∧Below w.heap.size w w'∧RA D nu o w' r v)
def bt (P:Program) (f:FuncId) (args:List AV) (o:List (Option aa)) (K:AV->Prop):Prop:= ∃r,Mw P f args o r∧K r
@[congr] theorem Hd {f:FuncId} {args args':List AV} {K:AV->Prop} (h:args=args'):bt P f args o K=bt P f args' o K:=by rw [h]
theorem bt.one {f:FuncId} {args:List AV} {r:AV} {K:AV->Prop} (h:af P f args r) (k:K r):bt P f args o K:=⟨r,⟨h.2.1,fun _ _ _ _ h1 h2=>lW h h1 h2⟩,k⟩
theorem bt.E9 {f:FuncId} {args args':List AV} {r:AV} {K:AV->Prop} (h:af P f args' r) (n:Nat) {p:Prop} (hz:eU o n args=some (p,args')) (hp:p) (hf:r.flat=true) (k:K r):bt P f args o K:=⟨r,⟨h.2.1,fun _ _ _ _ h1 h2=>y7 h hz hp hf h1 h2⟩,k⟩
def yC (P:Program) (f:AV) (args:List AV) (o:List (Option aa)) (K:AV->Prop):Prop:=match f with
 | .fn g first caps=>bt P g (first++args++caps) o K
 | _=>False
@[congr] theorem Kr {f f':AV} {args args':List AV} {K:AV->Prop} (h:f=f') (k:args=args'):yC P f args o K=yC P f' args' o K:=by rw [h,k]
theorem Hg (g:FuncId) (first caps args:List AV) (K:AV->Prop):yC P (.fn g first caps) args o K=bt P g (first++args++caps) o K:=rfl
def cO (P:Program) (op:Op) (s:AS) (K:AV->Prop):Prop:=match op with
 | .pick c a b=>match s.ev c with
  | .v (.bool t)=>fU t (K (s.ev a)) (K (s.ev b))
  | _=>False
 | .call c=>match c.callee with
  | .value f=>yC P (s.ev f) (c.args.toList.map s.ev) s.o K
  | _=>Av (B4 P s.ev s.o (.call c)) K
 | op=>Av (B4 P s.ev s.o op) K
theorem nF {s:AS} {rho:Operand->Value} {oo:Oper} {K:AV->Prop} (h:RO D nu s.o w) (hev:G8 D nu s.o w s.ev rho oo.op) (hd:cO P oo.op s K) :
  ∃r,K r∧Hm P ⟨fun v w=>RO D nu s.o w∧RA D nu s.o w r v,fun _ _ _ hb hh=>⟨hh.1.below hb,hh.2.mono (ak hb) (fun _ _ h=>h)⟩⟩ w ((execOp rho oo).run P w):=by
 have hop: ∀op,oo.op=op->Av (B4 P s.ev s.o op) K-> ∃r,K r∧Hm P ⟨fun v w=>RO D nu s.o w∧RA D nu s.o w r v,fun _ _ _ hb hh=>⟨hh.1.below hb,hh.2.mono (ak hb) (fun _ _ h=>h)⟩⟩ w ((execOp rho oo).run P w):=by
  intro op ho hh;subst ho;unfold Av at hh
  split at hh
  ·rename_i p r e;obtain ⟨v,w',h1,h2,h3⟩:=B5 (P:=P) h hev e hh.1;rw [h1];exact ⟨r,hh.2,⟨h.below h2,h3⟩,h2⟩
  ·exact hh.elim
 unfold cO at hd
 split at hd
 ·rename_i c x y ho;have hc:=hev c (by rw [ho];simp [Op.operands])
  split at hd
  ·rename_i t e;rw [e] at hc;have hcv:=hc.bZ
   have hrun:(execOp rho oo).run P w = .ok (.value (if t then rho x else rho y)) w:=by simp [execOp,ho,hcv,asBool]
   rw [hrun]
   cases t
   ·exact ⟨_,hd,⟨h,hev y (by rw [ho];simp [Op.operands])⟩, .refl _ _⟩
   ·exact ⟨_,hd,⟨h,hev x (by rw [ho];simp [Op.operands])⟩, .refl _ _⟩
  ·exact hd.elim
 ·rename_i c ho
  split at hd
  ·rename_i f hc;unfold yC at hd
   split at hd
   ·rename_i g first caps e
    obtain ⟨r,hcall,hk⟩:=hd
    
    have key: ∀(K':AV->List (Option aa)->Prop),ab P g (first++c.args.toList.map s.ev++caps) s.o K'->vN P oo.op s K':=fun K' hh=>by
     unfold vN;rw [ho];simp only [hc,Ko,e];exact hh
    have hf:=hev f (by rw [ho];simp [Op.operands,Call.operands,hc]);rw [e] at hf;generalize hq:rho f=vf at hf
    cases hf with
    | fn _ _ _ fi ca q1 q2 q3 q4=>
    have hargs: ∀x,x∈c.args.toList->RA D nu s.o w (s.ev x) (rho x):=fun x hx=>hev x (by rw [ho];simp only [Op.operands,Call.operands,hc];simp;exact .inr (by simpa using hx))
    have hra:gk D nu s.o w (first++c.args.toList.map s.ev++caps) (fi++c.args.map rho++ca):=by
     refine ⟨by simp [q1,q2],fun i cc x k1 k2=> ?_⟩;rw [TB] at k1;rw [Array.append_assoc] at k2
     rcases S9 i first.length with l1|l1
     ·rw [S8 l1] at k1;rw [TJ (by omega)] at k2;exact q3 i cc x k1 k2
     ·rw [TD l1] at k1;rw [T7 (by omega)] at k2;rw [q1] at k1
      rcases S9 (i - fi.size) c.args.size with l2|l2
      ·rw [S8 (by simpa using l2),Tq] at k1;rw [TJ (by simpa using l2),Array.getElem?_map] at k2
       have e2:c.args.toList[i - fi.size]? = c.args[i - fi.size]? :=by simp
       rw [e2] at k1
       cases hk2:c.args[i - fi.size]? with
       | none=>rw [hk2] at k1;cases k1
       | some y=>
        rw [hk2] at k1 k2;cases k1;cases k2;exact hargs y (TI (by rw [e2];exact hk2))
      ·rw [TD (by simpa using l2)] at k1;rw [T7 (by simpa using l2)] at k2;simp only [List.length_map,Array.length_toList,Array.size_map] at k1 k2;exact q4 _ cc x k1 k2
    have fin: ∀(hok:df P g=true) (hcalls:Calls P g (fi++c.args.map rho++ca) w (fun e w'=> ∃v,e = .returned v∧Below w.heap.size w w'∧RA D nu s.o w' r v)), ∃r,K r∧Hm P ⟨fun v w=>RO D nu s.o w∧RA D nu s.o w r v,fun _ _ _ hb hh=>⟨hh.1.below hb,hh.2.mono (ak hb) (fun _ _ h=>h)⟩⟩ w ((execOp rho oo).run P w):=by
     intro hok hcalls
     have hrun:(execOp rho oo).run P w = .ok (.enter g (fi++c.args.map rho++ca)) w:=by
      simp only [execOp,ho,resolve,hc,hq,Deferred.ofValue,Sem.run_bind,Sem.run_pure,Result.andThen_ok,invoke];exact gx hok _ w
     rw [hrun];refine ⟨r,hk,hcalls.mono ?_⟩;rintro e w' ⟨v,rfl,hb,hr⟩;exact ⟨v,rfl,⟨h.below hb,hr⟩,hb⟩
    exact fin hcall.1 (hcall.2 D nu w _ h hra)
   ·exact hd.elim
  ·exact hop _ ho hd
 ·exact hop _ rfl hd
theorem jh {s:AS} {op:Op} {K:AV->Prop} (h:cO P op s K): ∃r,K r∧cO P op s (fun r'=>r'=r):=by
 have one: ∀x:Option (Prop×AV),Av x K-> ∃r,K r∧Av x (fun r'=>r'=r):=fun x hx=>by
  unfold Av at hx
  split at hx
  ·rename_i p r;exact ⟨r,hx.2,hx.1,rfl⟩
  ·exact hx.elim
 unfold cO at h ⊢
 split at h
 ·rename_i c a b
  split at h
  ·rename_i t e
   cases t
   ·exact ⟨_,h,rfl⟩
   ·exact ⟨_,h,rfl⟩
  ·exact h.elim
 ·rename_i c
  split at h
  ·rename_i f hc;unfold yC at h ⊢
   split at h
   ·rename_i g first caps e
    obtain ⟨r,h1,h2⟩:=h;exact ⟨r,h2,r,h1,rfl⟩
   ·exact h.elim
  ·exact one _ h
 ·exact one _ h
def dH (P:Program) (all:List Oper):List Oper->AS->(AS->Prop)->Prop
 | [],_,_=>False
 | [oo],s,Q=>match oo.guard with
  | none=>vN P oo.op s (fun r o'=>Q (s.put oo.dst r o'))
  | some _=>False
 | oo :: rest,s,Q=>match oo.guard with
  | none=>cO P oo.op s (fun r=>dH P all rest (s.put oo.dst r s.o) Q)
  | some (j,want)=>rP (iJ all s j) want (cO P oo.op s (fun r=>dH P all rest (s.put oo.dst r s.o) Q)) (dH P all rest (s.put oo.dst (.v Go.undef) s.o) Q)
@[congr] theorem JT {all ops:List Oper} {s s':AS} {Q:AS->Prop} (h:s=s'):dH P all ops s Q=dH P all ops s' Q:=by rw [h]
def cb (D:Nat->Prop) (nu:Nat->Nat->Value) (o:List (Option aa)) (r:AV):Spec:=⟨fun v w=>RO D nu o w∧RA D nu o w r v,fun _ _ _ hb hh=>⟨hh.1.below hb,hh.2.mono (ak hb) (fun _ _ h=>h)⟩⟩
theorem gX {rs rs':List AV} {i:Nat} {r:AV} (h:rs[i]? = some r):at' ((rs++rs').map (cb D nu o)) i=cb D nu o r:=by
 have hlt:=(S7.1 h).1;unfold at';rw [T3,Tq,S8 hlt,h]
 rfl
theorem gY {rs rs':List AV} {r:AV}:at' ((rs++r :: rs').map (cb D nu o)) rs.length=cb D nu o r:=by
 unfold at';rw [T3,Tq,TD (SY _),Nat.sub_self]
 rfl
structure BO (l:List Oper) (s:AS) (a:Act) (k:Nat) (sk:AS) (rs:List AV) (A:(Nat->Value)->Act):Prop where
 o:sk.o=s.o
 y:sk.y=s.y
 len:rs.length=k
 ig: ∀x,(A x).defers=a.defers
 size: ∀x,sk.t.length=(A x).tmps.size
 val: ∀x (t:Nat) c v,sk.t[t]? = some c->(A x).tmps[t]? = some v->(s.t[t]? = some c∧a.tmps[t]? = some v)∨ ∃i,i<k∧(∃oi,l[i]? = some oi∧oi.dst=some t)∧rs[i]? = some c∧v=x i
theorem BO.step {l:List Oper} {s:AS} {a:Act} {k:Nat} {sk:AS} {rs:List AV} {A:(Nat->Value)->Act} (h:BO l s a k sk rs A) {oo:Oper} (ho:l[k]? = some oo) (r:AV) :
  BO l s a (k+1) (sk.put oo.dst r s.o) (rs++[r]) (fun x=>(A x).put oo.dst (x k)):=by
 refine ⟨rfl,h.y,by simp [h.len],fun x=> ?_,fun x=> ?_,fun x t c v h1 h2=> ?_⟩
 ·have:=h.ig x;cases oo.dst<;>simpa [Act.put] using this
 ·have:=h.size x;cases oo.dst<;>simpa [Act.put,AS.put] using this
 ·have jP:sk.t[t]? = some c->(A x).tmps[t]? = some v->(s.t[t]? = some c∧a.tmps[t]? = some v)∨ ∃i,i<k+1∧(∃oi,l[i]? = some oi∧oi.dst=some t)∧(rs++[r])[i]? = some c∧v=x i:=by
   intro h1 h2
   rcases h.val x t c v h1 h2 with h3|⟨i,q1,q2,q3,q4⟩
   ·exact .inl h3
   ·exact .inr ⟨i,by omega,q2,by rw [S8 (by rw [h.len];exact q1)];exact q3,q4⟩
  cases hd:oo.dst with
  | none=>rw [hd] at h1 h2;exact jP h1 h2
  | some d=>
   rw [hd] at h1 h2;simp only [AS.put,Act.put] at h1 h2
   by_cases hdt:d=t
   ·subst hdt;have hlt:=(S7.1 h1).1;simp only [List.length_set] at hlt;rw [Tw hlt] at h1;rw [Array.getElem?_setIfInBounds_self_of_lt (by have:=h.size x;omega)] at h2;cases h1;cases h2;exact .inr ⟨k,by omega,⟨oo,ho,hd⟩,by rw [TD (by rw [h.len];exact SY _),h.len,Nat.sub_self];rfl,rfl⟩
   ·rw [Tv hdt] at h1;rw [Array.getElem?_setIfInBounds_ne hdt] at h2;exact jP h1 h2
theorem Dz {l:List Oper} (hB:xJ l.toArray=true) {i j:Nat} {oi oj:Oper} (hij:i<j) (hi:l[i]? = some oi) (hj:l[j]? = some oj):az l.toArray j i=true∨ ∀d,oi.dst=some d->d∉oj.looksAt l.toArray:=by
 simp only [xJ,TY,List.all_eq_true,List.mem_range,List.size_toArray] at hB
 have:=(hB.2 j (S7.1 hj).1).1.1 i hij
 simp only [FY,Tp,hi,hj,TY,Bool.or_eq_true] at this
 rcases this.1.1.1 with h|h
 ·exact .inl h
 ·exact .inr (fun d hd=>(Oper.apart_spec h).1 d hd)
theorem lQ {f:Fr} {l:List Oper} (hB:xJ l.toArray=true) {s:AS} {a:Act} {w0:World} {Q:AS->Prop} {R:Exit->Act->World->Prop} (hs:RS f D nu s a w0)
  (hR: ∀s' a' w' nu',bl nu s.o w0 nu' s'.o w'->s'.y=s.y->RS f D nu' s' a' w'->Q s'->R .normal a' w') :
  ∀(rest:List Oper) (k:Nat) (sk:AS) (rs:List AV) (A:(Nat->Value)->Act),l.drop k=rest->BO l s a k sk rs A->dH P l rest sk Q-> ∃rs',jB P l.toArray ((rs++rs').map (cb D nu s.o)) w0 R rest k A
 | [],_,_,_,_,_,_,h=>h.elim
 | [oo],k,sk,rs,A,hl,hI,h=>by
  refine ⟨[],xK (fun x wr hE hD=> ?_)⟩
  have hg:oo.guard=none:=by
   simp only [dH] at h
   split at h
   ·assumption
   ·exact h.elim
  simp only [dH,hg] at h;have hro:RO D nu s.o wr:=hs.ro.below hE
  have hsk:RS f D nu sk (A x) wr:=by
   refine ⟨by rw [hI.o];exact hro,⟨hI.size x,fun t c v h1 h2=> ?_⟩,by rw [hI.ig x];exact hs.ig.mono hs.ro (ak hE)⟩;rw [hI.o]
   rcases hI.val x t c v h1 h2 with ⟨h3,h4⟩|⟨i,q1,q2,q3,q4⟩
   ·exact (hs.tm.at' t c v h3 h4).mono (ak hE) (fun _ _ h=>h)
   ·have:=hD i q1
    rw [gX q3] at this;rw [q4];exact this.2
  refine ⟨by simp [Region.wanted,hg],pY (P:=P) hsk.ro (fun y _=>hsk.ev y) h (fun v w' nu' r o' m1 m2 m3 m4=>hR (sk.put oo.dst r o') _ w' nu' ?_ hI.y (hsk.put m1 m2 m3 oo.dst) m4)⟩
  have:bl nu s.o w0 nu sk.o wr:=by rw [hI.o];exact ak hE
  simpa only [AS.put] using this.trans m1
 | oo :: o2 :: rest,k,sk,rs,A,hl,hI,h=>by
  have hok:l[k]? = some oo:=by have:=congrArg (fun m=>m[0]?) hl;simpa using this
  have hl':l.drop (k+1)=o2 :: rest:=by have:=congrArg List.tail hl;simpa using this
  
  have hlook: ∀x wr,Below w0.heap.size w0 wr->(∀rs' i,az l.toArray k i=true->i<k->(at' ((rs++rs').map (cb D nu s.o)) i).p (x i) wr)-> ∀(t:Nat) c v,t∈oo.looksAt l.toArray->sk.t[t]? = some c->(A x).tmps[t]? = some v->RA D nu s.o wr c v:=by
   intro x wr hE hD t c v ht h1 h2
   rcases hI.val x t c v h1 h2 with ⟨h3,h4⟩|⟨i,q1,⟨oi,q2,q5⟩,q3,q4⟩
   ·exact (hs.tm.at' t c v h3 h4).mono (ak hE) (fun _ _ h=>h)
   ·rcases Dz hB q1 q2 hok with h5|h5
    ·have:=hD [] i h5 q1
     rw [gX q3] at this;rw [q4];exact this.2
    ·exact absurd ht (h5 t q5)
  have hevs: ∀x wr,Below w0.heap.size w0 wr->(∀rs' i,az l.toArray k i=true->i<k->(at' ((rs++rs').map (cb D nu s.o)) i).p (x i) wr)->G8 D nu s.o wr sk.ev (A x).eval oo.op:=by
   intro x wr hE hD y hy
   cases y with
   | tmp t=>
    simp only [AS.ev,Act.eval]
    rcases S9 t sk.t.length with hlt|hge
    ·have e1:sk.t[t]? = some sk.t[t]:=Tn hlt
     have hlt':t<(A x).tmps.size:=by rw [<-hI.size x];exact hlt
     have hx:(A x).tmps[t]? = some (A x).tmps[t]:=Array.getElem?_eq_getElem hlt';rw [getD_some e1]
     have:(A x).tmps.getD t Go.undef=(A x).tmps[t]:=by simp [Array.getD,hlt']
     rw [this];exact hlook x wr hE hD t _ _ (List.mem_append_left _ (List.mem_filterMap.2 ⟨.tmp t,hy,rfl⟩)) e1 hx
    ·rw [T3,List.getElem?_eq_none hge];exact .undef _
   | const v=>exact .v v
   | global gi=>exact (pF hs.ro sk gi).mono (ak hE) (fun _ _ h=>h)
   | func f=>exact .fn f [] [] #[] #[] rfl rfl (fun i c x h=>by simp at h) (fun i c x h=>by simp at h)
  
  have hdo:cO P oo.op sk (fun r=>dH P l (o2 :: rest) (sk.put oo.dst r sk.o) Q)->(∀x wr,Below w0.heap.size w0 wr->(∀rs' i,az l.toArray k i=true->i<k->(at' ((rs++rs').map (cb D nu s.o)) i).p (x i) wr)->Region.wanted oo (yielded l.toArray (A x).tmps)=true) ->
    ∃rs',jB P l.toArray ((rs++rs').map (cb D nu s.o)) w0 R (oo :: o2 :: rest) k A:=by
   intro hd hw;obtain ⟨r,hk,hr⟩:=jh hd;rw [hI.o] at hk;obtain ⟨rs',hrel⟩:=lQ hB hs hR (o2 :: rest) (k+1) _ (rs++[r]) _ hl' (hI.step hok r) hk;rw [TB,T9] at hrel;refine ⟨r :: rs',pc (fun x wr hE hD=> ?_) hrel⟩
   have hD': ∀rs'' i,az l.toArray k i=true->i<k->(at' ((rs++rs'').map (cb D nu s.o)) i).p (x i) wr:=fun rs'' i h1 h2=>by
    have h3:=hD i h1
    have h5:i<rs.length:=by rw [hI.len];exact h2
    have h4:rs[i]? = some rs[i]:=Tn h5;rw [gX h4] at h3 ⊢;exact h3
   obtain ⟨r',rfl,hout⟩:=nF (P:=P) (nu:=nu) (D:=D) (w:=wr) (rho:=(A x).eval) (by rw [hI.o];exact hs.ro.below hE) (by rw [hI.o];exact hevs x wr hE hD') hr;have e:=gY (D:=D) (nu:=nu) (o:=s.o) (rs:=rs) (rs':=rs') (r:=r');rw [hI.len] at e;refine .inl ⟨hw x wr hE hD', ?_⟩;rw [e];rw [hI.o] at hout;exact hout
  simp only [dH] at h
  split at h
  ·rename_i hg;exact hdo h (fun x wr hE hD=>by simp [Region.wanted,hg])
  ·rename_i j want hg
   have hyv: ∀g,iJ l sk j=some g-> ∀x wr,Below w0.heap.size w0 wr->(∀rs' i,az l.toArray k i=true->i<k->(at' ((rs++rs').map (cb D nu s.o)) i).p (x i) wr)->yielded l.toArray (A x).tmps j=g:=fun g hgv x wr hE hD=>
    ek (D:=D) (nu:=nu) (w:=wr) (fun d c v hd h1 h2=>by
     rw [hI.o];refine hlook x wr hE hD d c v ?_ h1 h2;obtain ⟨og,q1,q2⟩:=hd;refine List.mem_append_right _ ?_;simp only [hg,Tp,q1,Option.bind_some,q2]
     simp) (hI.size x) hgv
   have hskip:dH P l (o2 :: rest) (sk.put oo.dst (.v Go.undef) sk.o) Q->(∀x wr,Below w0.heap.size w0 wr->(∀rs' i,az l.toArray k i=true->i<k->(at' ((rs++rs').map (cb D nu s.o)) i).p (x i) wr)->Region.wanted oo (yielded l.toArray (A x).tmps)=false) ->
     ∃rs',jB P l.toArray ((rs++rs').map (cb D nu s.o)) w0 R (oo :: o2 :: rest) k A:=by
    intro hk hw;rw [hI.o] at hk;obtain ⟨rs',hrel⟩:=lQ hB hs hR (o2 :: rest) (k+1) _ (rs++[.v Go.undef]) _ hl' (hI.step hok (.v Go.undef)) hk;rw [TB,T9] at hrel;refine ⟨.v Go.undef :: rs',pc (fun x wr hE hD=> ?_) hrel⟩
    have hD': ∀rs'' i,az l.toArray k i=true->i<k->(at' ((rs++rs'').map (cb D nu s.o)) i).p (x i) wr:=fun rs'' i h1 h2=>by
     have h3:=hD i h1
     have h5:i<rs.length:=by rw [hI.len];exact h2
     have h4:rs[i]? = some rs[i]:=Tn h5;rw [gX h4] at h3 ⊢;exact h3
    have e:=gY (D:=D) (nu:=nu) (o:=s.o) (rs:=rs) (rs':=rs') (r:= .v Go.undef);rw [hI.len] at e;refine .inr ⟨hw x wr hE hD', ?_⟩;rw [e];exact ⟨hs.ro.below hE, .v _⟩
   unfold rP at h
   split at h
   ·rename_i b e
    cases hb:b==want
    ·rw [hb] at h;exact hskip h (fun x wr hE hD=>by simp only [Region.wanted,hg,hyv _ e x wr hE hD];simpa using hb)
    ·rw [hb] at h;exact hdo h (fun x wr hE hD=>by simp only [Region.wanted,hg,hyv _ e x wr hE hD];simpa using hb)
   ·rename_i e;exact hskip h (fun x wr hE hD=>by simp only [Region.wanted,hg,hyv _ e x wr hE hD];rfl)
   ·exact h.elim
end
end
section
inductive aJ where
 | normal
 | exit (id:Nat)
 | goto (l:Nat)
 | ret
def aJ.real:aJ->Exit
 | .normal=> .normal
 | .exit id=> .exit id
 | .goto l=> .goto l
 | .ret=> .ret
def bd (n:Nat):List AV->List AV->Prop
 | [],[]=>True
 | a :: l,c :: m=>(c = .undef∨(a=c∧c.wf n=true))∧bd n l m
 | _,_=>False
def bj (n:Nat):List (Option aa)->List (Option aa)->Prop
 | _,[]=>True
 | x :: l,y :: m=>(y=none∨(x=y∧ ∀ob,y=some ob->bQ n ob.rows=true))∧bj n l m
 | [],_ :: _=>False
structure Wk (n0:Nat) (s s':AS):Prop where
 t:bd s'.o.length s.t s'.t
 o:bj s'.o.length s.o s'.o
 n:n0<=s'.o.length
 y:s.y=s'.y
theorem uc {n:Nat}: ∀ {l m:List AV},bd n l m->l.length=m.length∧ ∀(i:Nat) c,m[i]? = some c->c = .undef∨(l[i]? = some c∧c.wf n=true)
 | [],[],_=>⟨rfl,fun i c h=>by simp at h⟩
 | a :: l,b :: m,h=>by
  obtain ⟨h1,h2⟩:=uc h.2;refine ⟨by simp [h1],fun i c hc=> ?_⟩
  cases i with
  | zero=>simp at hc;subst hc;exact h.1.imp id (fun q=>⟨by simp [q.1],q.2⟩)
  | succ i=>simpa using h2 i c (by simpa using hc)
 | [],_ :: _,h=>h.elim
 | _ :: _,[],h=>h.elim
theorem ub {n:Nat}: ∀ {l m:List (Option aa)},bj n l m->m.length<=l.length∧ ∀(i:Nat) c,m[i]? = some c->c=none∨(l[i]? = some c∧ ∀ob,c=some ob->bQ n ob.rows=true)
 | l,[],_=>⟨by simp,fun i c h=>by simp at h⟩
 | a :: l,b :: m,h=>by
  obtain ⟨h1,h2⟩:=ub h.2;refine ⟨by simp [h1],fun i c hc=> ?_⟩
  cases i with
  | zero=>simp at hc;subst hc;exact h.1.imp id (fun q=>⟨by simp [q.1],q.2⟩)
  | succ i=>simpa using h2 i c (by simpa using hc)
 | [],_ :: _,h=>h.elim
section
variable {D:Nat->Prop} {nu:Nat->Nat->Value} {o:List (Option aa)} {w:World} {P:Program}
theorem iZ {n0:Nat} {s s':AS} (h:Wk n0 s s'):n0<=s'.o.length∧(∀(id:Nat) ob,s'.o[id]? = some (some ob)->s.o[id]? = some (some ob))∧(∀id len,id<s'.o.length->cK s.o id len->cK s'.o id len):=by
 obtain ⟨o1,o2⟩:=ub h.o
 have alive: ∀(id:Nat) ob,s'.o[id]? = some (some ob)->s.o[id]? = some (some ob):=fun id ob hh=>by
  rcases o2 id _ hh with e|⟨e,f⟩
  ·cases e
  ·exact e
 refine ⟨h.n,alive,fun id len hlt hh=> ?_⟩;obtain ⟨ob,k1,k2⟩:=hh;have e:s'.o[id]? = some s'.o[id]:=Tn hlt;refine ⟨_,e,fun x hx=> ?_⟩;rw [hx] at e;have e1:=alive id x e;rw [e1] at k1;cases k1;exact k2 x rfl
theorem yr {f:Fr} {n0:Nat} {s s':AS} {a:Act} {D':Nat->Prop} (h:Wk n0 s s') (hs:RS f D nu s a w) (hd1: ∀b,Fz D nu s.o w b->D' b) (hd2: ∀b,owned nu s'.o b->D' b) (hd3: ∀b,w.heap.size<=b->D' b):RS f D' nu s' a w:=by
 obtain ⟨t1,t2⟩:=uc h.t;obtain ⟨o1,o2⟩:=ub h.o;obtain ⟨_,al,hd⟩:=iZ h
 have alive: ∀(id:Nat) ob,s'.o[id]? = some (some ob)->s.o[id]? = some (some ob)∧bQ s'.o.length ob.rows=true:=fun id ob hh=>by
  rcases o2 id _ hh with e|⟨e,f⟩
  ·cases e
  ·exact ⟨e,f ob rfl⟩
 have hown: ∀b,owned nu s'.o b->owned nu s.o b:=fun b ⟨id,ob,h1,h2⟩=>⟨id,ob,(alive id ob h1).1,h2⟩;have hF: ∀b,Fz D nu s.o w b->Fz D' nu s'.o w b:=fun b hb=>⟨hb.1,fun ho=>hb.2.1 (hown b ho),hd1 b hb⟩;have hH: ∀id len,id<s'.o.length->cK s.o id len->cK s'.o id len∧nu id len=nu id len:=fun id len hlt hh=>⟨hd id len hlt hh,rfl⟩
 refine ⟨⟨fun id ob ho=> ?_,hd3,fun i1 i2 b1 b2 b k1 k2=>hs.ro.sep i1 i2 b1 b2 b (alive _ _ k1).1 (alive _ _ k2).1,hs.ro.gl.fz (fun b hf=>⟨rfl,hF b hf⟩)⟩,⟨?_,fun i c x h1 h2=> ?_⟩,hs.ig⟩
 ·obtain ⟨e1,e2⟩:=alive id ob ho
  rcases hs.ro.obj id ob e1 with e|⟨g,cur,hr⟩|⟨g,es,cl,hmp⟩
  ·exact .inl e
  ·exact .inr (.inl ⟨g,cur,hr.cZ,hd2 g ⟨id,ob,ho,hr.bn⟩,hr.box,hr.vec,hr.z,hr.row,fun i j row c x q1 q2 q3=>(hr.cell i j row c x q1 q2 q3).tr hF hH (bF (gy e2 q1) q2),hr.one⟩)
  ·exact .inr (.inr ⟨g,es,cl,hmp.tr rfl (fun _=>hd2 g ⟨id,ob,ho,hmp.bn⟩) rfl (fun i j row c x q1 q2 hr=>hr.tr hF hH (bF (gy e2 q1) q2))⟩)
 ·rw [<-t1];exact hs.tm.len
 ·rcases t2 i c h1 with rfl|⟨e,f⟩
  ·exact .undef x
  ·exact (hs.tm.at' i c x e h2).tr hF hH f
theorem gB {f:Fr} {n0:Nat} {s s':AS} {a:Act} (h:Wk n0 s s') (hs:RS f D nu s a w):RS f D nu s' a w:=
 yr h hs (fun b hb=>hb.2.2) (fun b ⟨id,ob,h1,h2⟩=>hs.ro.jl ⟨id,ob,(iZ h).2.1 id ob h1,h2⟩) hs.ro.up
theorem Wk.Ru {D':Nat->Prop} {n0:Nat} {s s':AS} (h:Wk n0 s s') (hd: ∀b,Fz D nu s.o w b->D' b) {c:AV} {v:Value} (hr:RA D nu s.o w c v) (hc:c.wf s'.o.length=true):RA D' nu s'.o w c v:=by
 obtain ⟨_,h2,h3⟩:=iZ h;exact hr.tr (fun b hb=>⟨hb.1,fun ⟨id,ob,k1,k2⟩=>hb.2.1 ⟨id,ob,h2 id ob k1,k2⟩,hd b hb⟩) (fun id len hlt hh=>⟨h3 id len hlt hh,rfl⟩) hc
theorem Wk.ra {n0:Nat} {s s':AS} (h:Wk n0 s s') {c:AV} {v:Value} (hr:RA D nu s.o w c v) (hc:c.wf s'.o.length=true):RA D nu s'.o w c v:=h.Ru (fun b hb=>hb.2.2) hr hc
theorem Wk.qQ {n0:Nat} {s s':AS} {Z:Nat->Prop} (h:Wk n0 s s'):Az Z nu s.o w nu s'.o w:=by
 obtain ⟨h1,h2,h3⟩:=iZ h;exact ⟨rfl,rfl,rfl,SY _,fun id len hlt hh=>⟨h3 id len hlt hh,rfl⟩,fun b hb hno _=>⟨rfl,fun ⟨id,ob,k1,k2⟩=>hno ⟨id,ob,h2 id ob k1,k2⟩⟩⟩
theorem Wk.mono {n0:Nat} {s s':AS} (h:Wk n0 s s') {nu0:Nat->Nat->Value} {o0:List (Option aa)} {w0:World} (hn:o0.length<=n0) (hm:bl nu0 o0 w0 nu s.o w):bl nu0 o0 w0 nu s'.o w:=by
 obtain ⟨h1,h2,h3⟩:=iZ h
 refine ⟨hm.os,hm.tape,hm.output,hm.size,fun id len hh=> ?_,fun b hb hno=> ?_⟩
 ·obtain ⟨q1,q2⟩:=hm.pq id len hh;have hlt:=gI hh;exact ⟨h3 id len (by omega) q1,q2⟩
 ·obtain ⟨q1,q2⟩:=hm.keep b hb hno;exact ⟨q1,fun ⟨id,ob,k1,k2⟩=>q2 ⟨id,ob,h2 id ob k1,k2⟩⟩
inductive Gs (s:AS):AS->Prop
 | refl:Gs s s
 | step (i:Nat) (T:TypeId) (z:Nat) (s1:AS):Gs s s1->s1.t[i]? = some (.v (.slice none 0 0))->0<z->Gs s ⟨s1.t.set i (.vec s1.o.length 0),s1.o++[some ⟨T,z,true,[]⟩],s1.y⟩
theorem IL {f:Fr} {s s':AS} {a:Act} (h:Gs s s') (hs:RS f D nu s a w): ∃nu',bl nu s.o w nu' s'.o w∧s'.y=s.y∧RS f D nu' s' a w:=by
 induction h with
 | refl=>exact ⟨nu, .refl _ _ _,rfl,hs⟩
 | step i T z s1 _ hi hz ih=>
  obtain ⟨nu1,hm1,hy1,hs1⟩:=ih
  have hv: ∀b,cr (Value.slice none 0 0)=some b->w.heap.size<=b:=fun b e=>by cases e
  have hp:=eo (nu:=nu1) (o:=s1.o) (ob:=⟨T,z,true,[]⟩) (Below.refl w.heap.size w) hv;refine ⟨eO nu1 s1.o.length (.slice none 0 0),hm1.trans hp,hy1,⟨jz hs1.ro (Below.refl _ _) hv (.inl ⟨rfl,rfl,rfl⟩), ?_,hs1.ig⟩⟩;have ht:=hs1.tm.mono hp (fun _ _ h=>h);refine ⟨by simpa using ht.len,fun j c x h1 h2=> ?_⟩
  by_cases hij:i=j
  ·subst hij;rw [Tw (S7.1 hi).1] at h1;cases h1
   have:=(ht.at' i _ x hi h2).bZ
   subst this
   have:=RA.vec (D:=D) (nu:=eO nu1 s1.o.length (.slice none 0 0)) (o:=s1.o++[some ⟨T,z,true,[]⟩]) (w:=w) s1.o.length 0 ⟨_,List.getElem?_concat_length,fun x hx=>Nat.zero_le _⟩ (by rw [a6];rfl)
   rw [a6] at this;exact this
  ·rw [Tv hij] at h1;exact ht.at' j c x h1 h2
def yz (c:AV) (A B:Prop):Prop:=match c with
 | .v (.bool t)=>fU t A B
 | _=>False
@[congr] theorem Kl {c c':AV} {A B:Prop} (h:c=c'):yz c A B=yz c' A B:=by rw [h]
theorem BJ (t:Bool) (A B:Prop):yz (.v (.bool t)) A B=fU t A B:=rfl
def Au (n0:Nat) (step:AS->(aJ->AS->Prop)->Prop) (s:AS) (Q:aJ->AS->Prop):Prop:=
 ∃I:Nat->AS->Prop,(∃m s1 s2,Gs s s1∧Wk n0 s1 s2∧I m s2) ∧
  ∀m s1,I m s1->step s1 (fun e s2=>match e with
   | .normal=> ∃m' s3,Wk n0 s2 s3∧I m' s3∧m'<m
   | e=>Q e s2)
@[congr] theorem JV {n0:Nat} {step:AS->(aJ->AS->Prop)->Prop} {s s':AS} {Q:aJ->AS->Prop} (h:s=s'):Au n0 step s Q=Au n0 step s' Q:=by rw [h]
def yD (P:Program) (n0:Nat) (c:Code) (s:AS) (Q:aJ->AS->Prop):Prop:=
 ∀(f:Fr) (m:WM P) (D:Nat->Prop) (nu:Nat->Nat->Value) (a:Act) (w:World),(∀l,f.r=some l->m.fix l)->m.n0<=n0->m.M D nu s.o f.Z s.y w->RS f D nu s a w->P.follows .mixedOrders=true-> ∀R:Exit->Act->World->Prop,(∀a w, ¬R .outgrown a w) ->
  (∀e D' Z' s' a' w' nu',m.M D' nu' s'.o Z' s'.y w'->RS (f.wz Z') D' nu' s' a' w'->Q e s'->R e.real a' w')->c.wpIn (WF f.r) 9 P R a w
def bK (P:Program) (n0:Nat):Code->AS->(aJ->AS->Prop)->Prop
 | .skip,s,Q=>Q .normal s
 | .region i ops d,s,Q=>if d then (xJ ops=true∧dH P ops.toList ops.toList s (Q .normal))∨yD P n0 (.region i ops d) s Q else gq P ops.toList ops.toList s (Q .normal)∨yD P n0 (.region i ops d) s Q
 | .seq a b,s,Q=>bK P n0 a s (fun e s'=>match e with
  | .normal=>bK P n0 b s' Q
  | e=>Q e s')∨yD P n0 (.seq a b) s Q
 | .cond c a b,s,Q=>yz (s.ev c) (bK P n0 a s Q) (bK P n0 b s Q)
 | .block id c,s,Q=>bK P n0 c s (fun e s'=>match e with
  | .exit i=>if i=id then Q .normal s' else Q (.exit i) s'
  | e=>Q e s')
 | .loop c,s,Q=>Au n0 (bK P n0 c) s Q
 | .rangeFunc g ps x y,s,Q=>yD P n0 (.rangeFunc g ps x y) s Q
 | .exit id,s,Q=>Q (.exit id) s
 | .scope c,s,Q=>bK P n0 c s (fun e s'=>match e with
  | .goto _=>False
  | e=>Q e s')
 | .label _,s,Q=>Q .normal s
 | .goto l,s,Q=>Q (.goto l) s
 | .ret,s,Q=>Q .ret s
 | .refuse _,_,_=>False
@[congr] theorem LY {n0:Nat} {c:Code} {s s':AS} {Q:aJ->AS->Prop} (h:s=s'):bK P n0 c s Q=bK P n0 c s' Q:=by rw [h]
def a8:Code->Bool
 | .region _ ops d=>c9 ops
 | .seq a b=>a8 a&&a8 b
 | .cond _ a b=>a8 a&&a8 b
 | .block _ c=>a8 c
 | .loop c=>a8 c
 | .scope c=>a8 c
 | .rangeFunc .. =>true
 | .refuse _=>false
 | _=>true
theorem RS.drew {f:Fr} {s:AS} {a:Act} (h:RS f D nu s a w):RS f D nu s a w.drew:=⟨h.ro.below (cQ w),h.tm.mono (ak (cQ w)) (fun _ _ h=>h),h.ig.mono h.ro (ak (cQ w))⟩
theorem wu {ops:Array Oper} (h:c9 ops=true): ∀oo,oo∈ops.toList-> ∀c,oo.op ≠ .defer c:=fun oo ho c e=>by
 unfold c9 at h;rw [Array.all_eq_true_iff_forall_mem] at h
 have:=h oo (by simpa using ho)
 rw [e] at this;cases this
theorem eV (hmx:P.follows .mixedOrders=true) {f:Fr} (m:WM P) (hZr: ∀l,f.r=some l->m.fix l) {n0:Nat} (hn:m.n0<=n0): ∀(c:Code),a8 c=true-> ∀(s:AS) (a:Act) (w:World) (D:Nat->Prop) (nu:Nat->Nat->Value) (Z:Nat->Prop) (Q:aJ->AS->Prop) (R:Exit->Act->World->Prop),
  (∀a w, ¬R .outgrown a w)->m.M D nu s.o Z s.y w->RS (f.wz Z) D nu s a w->bK P n0 c s Q->(∀e D' Z' s' a' w' nu',m.M D' nu' s'.o Z' s'.y w'->RS (f.wz Z') D' nu' s' a' w'->Q e s'->R e.real a' w')->c.wpIn (WF f.r) 9 P R a w:=by
 intro c
 induction c with
 | skip=>exact fun _ s a w D nu Z Q R _ hm hs hq hR=>wpIn_skip (hR .normal D Z s a w nu hm hs hq)
 | region id ops d=>
  intro hok s a w D nu Z Q R hO hm hs hq hR
  cases d
  ·simp only [bK,Bool.false_eq_true,if_false] at hq
   rcases hq with hq|hq
   case inr=>exact hq (f.wz Z) m D nu a w hZr hn hm hs hmx R hO hR
   exact wpIn_region_list (by
    have:=iH (f:=f.wz Z) m hZr (all:=ops.toList) ops.toList s a w D nu (wu hok) hm hs hq (fun D' s' a' w' nu' h1 h2 h3=>hR .normal D' Z s' a' w' nu' h1 h2 h3)
    simpa [Fr.wz] using this)
  ·obtain ⟨l⟩:=ops;simp only [bK,if_true] at hq
   rcases hq with ⟨hB,hq⟩|hq
   case inr=>exact hq (f.wz Z) m D nu a w hZr hn hm hs hmx R hO hR
   obtain ⟨rs,hrel⟩:=lQ (P:=P) (R:=R) hB hs.drew (fun s' a' w' nu' h1 hy h2 h3=>hR .normal D Z s' a' w' nu' (by rw [hy];exact m.own hm hs.ro ((ak (cQ w)).trans h1) h2.ro) h2 h3) l 0 s [] (fun _=>a) (by simp) ⟨rfl,rfl,rfl,fun _=>rfl,fun _=>hs.tm.len,fun x t c v h1 h2=> .inl ⟨h1,h2⟩⟩ hq;exact np hmx hok hO (p7 _ hB hrel)
 | seq x y ihx ihy=>
  intro hok s a w D nu Z Q R hO hm hs hq hR
  rcases hq with hq|hq
  case inr=>exact hq (f.wz Z) m D nu a w hZr hn hm hs hmx R hO hR
  simp only [a8,TY] at hok;refine wpIn_seq (ihx hok.1 s a w D nu Z _ _ (fun a w h=>hO a w h) hm hs hq (fun e D' Z' s' a' w' nu' h1 h2 h3=> ?_))
  cases e with
  | normal=>exact ihy hok.2 s' a' w' D' nu' Z' Q R hO h1 h2 h3 hR
  | exit i=>exact hR (.exit i) D' Z' s' a' w' nu' h1 h2 h3
  | goto i=>exact hR (.goto i) D' Z' s' a' w' nu' h1 h2 h3
  | ret=>exact hR .ret D' Z' s' a' w' nu' h1 h2 h3
 | cond c x y ihx ihy=>
  intro hok s a w D nu Z Q R hO hm hs hq hR;simp only [a8,TY] at hok;simp only [bK,yz] at hq
  split at hq
  ·rename_i t e;have hc:=hs.ev c;rw [e] at hc;refine wpIn_cond hc.bZ ?_
   cases t
   ·exact ihy hok.2 s a w D nu Z Q R hO hm hs hq hR
   ·exact ihx hok.1 s a w D nu Z Q R hO hm hs hq hR
  ·exact hq.elim
 | block id c ih=>
  intro hok s a w D nu Z Q R hO hm hs hq hR;refine wpIn_block (ih hok s a w D nu Z _ _ (fun a w h=>hO a w h) hm hs hq (fun e D' Z' s' a' w' nu' h1 h2 h3=> ?_))
  cases e with
  | normal=>exact hR .normal D' Z' s' a' w' nu' h1 h2 h3
  | exit i=>
   simp only [aJ.real,Exit.inBlock];simp only at h3
   split
   ·rename_i hi;rw [if_pos hi] at h3;exact hR .normal D' Z' s' a' w' nu' h1 h2 h3
   ·rename_i hi;rw [if_neg hi] at h3;exact hR (.exit i) D' Z' s' a' w' nu' h1 h2 h3
  | goto i=>exact hR (.goto i) D' Z' s' a' w' nu' h1 h2 h3
  | ret=>exact hR .ret D' Z' s' a' w' nu' h1 h2 h3
 | loop c ih=>
  intro hok s a w D nu Z Q R hO hm hs hq hR;obtain ⟨I,⟨k,s1,s2,hg,hw,hI⟩,hround⟩:=hq;obtain ⟨nu1,hm1,hy1,hs1⟩:=IL hg hs;have hs2:=gB hw hs1
  have JP: ∀ {D nu Z s3 s4 a w},Wk n0 s3 s4->m.M D nu s3.o Z s3.y w->RS (f.wz Z) D nu s3 a w->m.M D nu s4.o Z s4.y w:=fun {D nu Z s3 s4 a w} hk hm hs=>by
   rw [<-hk.y];exact m.step hm hs.ro hk.qQ (gB hk hs).ro (fun c v hr hc=>hk.ra hr hc) (fun _ h=> .inl h) (fun _ h=> .inl h) (fun b hb=>⟨((m.mi hm).1 b hb).1,((m.mi hm).1 b hb).2, .inl hb⟩) (S3 hn hk.n)
  have hM1:m.M D nu1 s1.o Z s1.y w:=by rw [hy1];exact m.own hm hs.ro hm1 hs1.ro
  refine si (fun k a w=> ∃s D nu Z,I k s∧m.M D nu s.o Z s.y w∧RS (f.wz Z) D nu s a w) (m:=k) ⟨s2,D,nu1,Z,hI,JP hw hM1 hs1,hs2⟩ ?_;rintro k a w ⟨s,D,nu,Z,hI,hm,hs⟩;refine ih hok s a w D nu Z _ _ (fun a w h=>hO a w h) hm hs (hround k s hI) (fun e D' Z' s' a' w' nu' h1 h2 h3=> ?_)
  cases e with
  | normal=>
   obtain ⟨m',s3,k1,k2,k3⟩:=h3;exact ⟨m',⟨s3,D',nu',Z',k2,JP k1 h1 h2,gB k1 h2⟩,k3⟩
  | exit i=>exact hR (.exit i) D' Z' s' a' w' nu' h1 h2 h3
  | goto i=>exact hR (.goto i) D' Z' s' a' w' nu' h1 h2 h3
  | ret=>exact hR .ret D' Z' s' a' w' nu' h1 h2 h3
 | rangeFunc g ps x y _ _=>exact fun _ s a w D nu Z Q R hO hm hs hq hR=>hq (f.wz Z) m D nu a w hZr hn hm hs hmx R hO hR
 | exit id=>exact fun _ s a w D nu Z Q R _ hm hs hq hR=>wpIn_exit (hR (.exit id) D Z s a w nu hm hs hq)
 | scope c ih=>
  intro hok s a w D nu Z Q R hO hm hs hq hR;refine Ar (ih hok s a w D nu Z _ _ (fun a w h=>hO a w h) hm hs hq (fun e D' Z' s' a' w' nu' h1 h2 h3=> ?_))
  cases e with
  | normal=>exact hR .normal D' Z' s' a' w' nu' h1 h2 h3
  | exit i=>exact hR (.exit i) D' Z' s' a' w' nu' h1 h2 h3
  | goto i=>exact h3.elim
  | ret=>exact hR .ret D' Z' s' a' w' nu' h1 h2 h3
 | label l=>exact fun _ s a w D nu Z Q R _ hm hs hq hR=>wpIn_label (hR .normal D Z s a w nu hm hs hq)
 | goto l=>exact fun _ s a w D nu Z Q R _ hm hs hq hR=>wpIn_goto (hR (.goto l) D Z s a w nu hm hs hq)
 | ret=>exact fun _ s a w D nu Z Q R _ hm hs hq hR=>wpIn_ret (hR .ret D Z s a w nu hm hs hq)
 | refuse why=>intro hok;cases hok
end
end
section
section
variable {D:Nat->Prop} {nu:Nat->Nat->Value} {o:List (Option aa)} {w:World} {P:Program}
def jZ (P:Program) (s:AS):List ResultVar->Option (Prop×List AV)
 | []=>some (True,[])
 | .tmp t :: l=>match jZ P s l with
  | some (p,vs)=>some (p,s.ev (.tmp t) :: vs)
  | none=>none
 | .cell a T :: l=>match vX P T s.o (s.ev (.tmp a)),jZ P s l with
  | some (q,v),some (p,vs)=>some (q∧p,v :: vs)
  | _,_=>none
def lp (x:Option (Prop×List AV)) (o:List (Option aa)) (Q:AV->List (Option aa)->Prop):Prop:=match x with
 | some (p,[v])=>p∧Q v o
 | some (p,vs)=>p∧Q (.ct vs) o
 | none=>False
@[congr] theorem Kn {x y:Option (Prop×List AV)} {o o':List (Option aa)} {Q:AV->List (Option aa)->Prop} (h:x=y) (k:o=o'):lp x o Q=lp y o' Q:=by rw [h,k]
theorem DW (p:Prop) (v:AV) (Q:AV->List (Option aa)->Prop):lp (some (p,[v])) o Q=(p∧Q v o):=rfl
theorem BM (p:Prop) (Q:AV->List (Option aa)->Prop):lp (some (p,[])) o Q=(p∧Q (.ct []) o):=rfl
theorem DY (p:Prop) (v u:AV) (l:List AV) (Q:AV->List (Option aa)->Prop):lp (some (p,v :: u :: l)) o Q=(p∧Q (.ct (v :: u :: l)) o):=rfl
def vO (P:Program) (rs:List ResultVar) (Q:AV->List (Option aa)->Prop) (e:aJ) (s:AS):Prop:=match e with
 | .ret=>lp (jZ P s rs) s.o Q
 | .normal=>lp (jZ P s rs) s.o Q
 | _=>False
@[congr] theorem Km {rs:List ResultVar} {Q:AV->List (Option aa)->Prop} {e e':aJ} {s s':AS} (h:e=e') (k:s=s'):vO P rs Q e s=vO P rs Q e' s':=by rw [h,k]
theorem DV (rs:List ResultVar) (Q:AV->List (Option aa)->Prop) (s:AS):vO P rs Q .ret s=lp (jZ P s rs) s.o Q:=rfl
theorem vP (rs:List ResultVar) (Q:AV->List (Option aa)->Prop) (s:AS):vO P rs Q .normal s=lp (jZ P s rs) s.o Q:=rfl
def kC (tmps:Array Value):ResultVar->Sem Value
 | .tmp t=>pure (tmps.getD t Go.undef)
 | .cell a t=>do loadVar t (<-asAddr (tmps.getD a Go.undef))
theorem rp {f:Fr} {s:AS} {a:Act} (h:RS f D nu s a w): ∀(l:List ResultVar) {p:Prop} {vs:List AV},jZ P s l=some (p,vs)->p-> ∃xs:List Value,(l.mapM (kC a.tmps)).run P w = .ok xs w∧vs.length=xs.length∧ ∀(i:Nat) c x,vs[i]? = some c->xs[i]? = some x->RA D nu s.o w c x
 | [],p,vs,hr,hp=>by
  cases hr;exact ⟨[],by simp,rfl,fun i c x h=>by simp at h⟩
 | rv :: l,p,vs,hr,hp=>by
  have step: ∀(v:AV) (q:Prop) (vs':List AV),(∃x,(kC a.tmps rv).run P w = .ok x w∧RA D nu s.o w v x)->jZ P s l=some (q,vs')->q->vs=v :: vs'-> ∃xs:List Value,((rv :: l).mapM (kC a.tmps)).run P w = .ok xs w∧vs.length=xs.length∧ ∀(i:Nat) c x,vs[i]? = some c->xs[i]? = some x->RA D nu s.o w c x:=by
   rintro v q vs' ⟨x,hx1,hx2⟩ hl hq rfl;obtain ⟨xs,h1,h2,h3⟩:=rp h l hl hq;refine ⟨x :: xs,by simp [List.mapM_cons,hx1,h1],by simp [h2],fun i c y q1 q2=> ?_⟩
   cases i with
   | zero=>simp at q1 q2;subst q1;subst q2;exact hx2
   | succ i=>exact h3 i c y (by simpa using q1) (by simpa using q2)
  cases rv with
  | tmp t=>
   simp only [jZ] at hr
   split at hr
   ·rename_i q vs' e;cases hr;exact step _ _ _ ⟨a.eval (.tmp t),rfl,h.ev (.tmp t)⟩ e hp rfl
   ·cases hr
  | cell ad T=>
   simp only [jZ] at hr
   split at hr
   ·rename_i q v q' vs' e1 e2;cases hr;obtain ⟨x,hx1,hx2⟩:=kT (P:=P) h.ro (h.ev (.tmp ad)) e1 hp.1;refine step _ _ _ ⟨x, ?_,hx2⟩ e2 hp.2 rfl;simp only [Act.eval] at hx1;simp only [kC]
    cases hq:a.tmps.getD ad Go.undef with
    | pointer pa=>
     cases pa with
     | none=>rw [hq] at hx1;simp [Instr.loadAt,Instr.sureAddr] at hx1
     | some pa=>
      rw [hq] at hx1;simpa [Instr.loadAt,Instr.sureAddr,asAddr] using hx1
    | _=>rw [hq] at hx1;simp [Instr.loadAt,Instr.sureAddr] at hx1
   ·cases hr
theorem xL {f:Fr} {fn:Func} {s:AS} {a:Act} {Q:AV->List (Option aa)->Prop} (h:RS f D nu s a w) (hf:lp (jZ P s fn.results.toList) s.o Q): ∃v r,(results fn a.tmps).run P w = .ok v w∧RA D nu s.o w r v∧Q r s.o:=by
 have hmap: ∀xs:List Value,(fn.results.toList.mapM (kC a.tmps)).run P w = .ok xs w->(results fn a.tmps).run P w = .ok (if h:xs.toArray.size=1 then xs.toArray[0] else .tuple xs.toArray) w:=by
  intro xs hx
  have e:fn.results.mapM (kC a.tmps)=(List.toArray <$> fn.results.toList.mapM (kC a.tmps)):=by
   rw [Array.mapM_eq_mapM_toList]
  have:results fn a.tmps=(do let vs <-fn.results.mapM (kC a.tmps);pure (if h:vs.size=1 then vs[0] else .tuple vs)):=by
   unfold results
   congr 1
  rw [this,e];simp [hx]
 unfold lp at hf
 split at hf
 ·rename_i p v e;obtain ⟨xs,h1,h2,h3⟩:=rp h _ e hf.1;obtain ⟨x,rfl⟩:=TP.1 h2.symm;exact ⟨x,v,by rw [hmap _ h1];simp,h3 0 v x rfl rfl,hf.2⟩
 ·rename_i p vs hne e;obtain ⟨xs,h1,h2,h3⟩:=rp h _ e hf.1
  have hl: ¬xs.toArray.size=1:=fun e1=>by
   have:vs.length=1:=by rw [h2];simpa using e1
   obtain ⟨v,rfl⟩:=TP.1 this;exact hne v rfl
  refine ⟨.tuple xs.toArray, .ct vs,by rw [hmap _ h1,dif_neg hl], .ct _ _ (by simpa using h2) (fun i c x q1 q2=>h3 i c x q1 (by simpa using q2)),hf.2⟩
 ·exact hf.elim
structure rW (B:Nat) (w w':World):Prop where
 os:w'.os=w.os
 tape:w'.tape=w.tape
 output:w'.output=w.output
 size:w'.heap.size=w.heap.size
 low: ∀b,b<B->w'.heap[b]? = w.heap[b]?
 cells: ∀(b:Nat) ob,w.heap[b]? = some ob->qG ob=false->w'.heap[b]? = some ob
theorem rW.refl (B:Nat) (w:World):rW B w w:=⟨rfl,rfl,rfl,rfl,fun _ _=>rfl,fun _ _ h _=>h⟩
theorem rW.cell {B:Nat} {w w':World} (h:rW B w w') {b o:Nat} {v:Value} (hv:w.cell? ⟨b,o,none⟩=some v):w'.cell? ⟨b,o,none⟩=some v:=by
 unfold World.cell? at hv ⊢
 cases hw:w.heap[b]? with
 | none=>simp [hw] at hv
 | some ob=>
  cases ob with
  | cells C T fz=>rw [h.cells b _ hw rfl];simpa [hw] using hv
  | _=>simp [hw] at hv
theorem rW.ra {B:Nat} {w w':World} (h:rW B w w') {a:AV} {x:Value} (hr:RA D nu o w a x):RA D nu o w' a x:=by
 have hF: ∀b,Fz D nu o w b->Fz D nu o w' b:=fun b hf=>⟨by rw [h.size];exact hf.1,hf.2.1,hf.2.2⟩
 induction hr with
 | undef x=>exact .undef x
 | v x=>exact .v x
 | agg cs xs h1 _ h3 ih=>exact .agg cs xs h1 ih h3
 | ct cs xs h1 _ ih=>exact .ct cs xs h1 ih
 | bf z=>exact .bf z
 | bA z a=>exact .bA z a
 | aI z rows len b off cap f h1 h2 h3 h4 h5 h6 _ h8 ih=>exact .aI z rows len b off cap f h1 h2 h3 (fun hne=>hF b (h4 hne)) h5 (fun i j row c hr hc=>h.cell (h6 i j row c hr hc)) ih h8
 | vp cs b off f h1 h2 _ h4 ih=>exact .vp cs b off f (hF b h1) (fun j c hc=>h.cell (h2 j c hc)) ih h4
 | ptr id len z row off b h1 h2=>exact .ptr id len z row off b h1 h2
 | vec id len h1 h2=>exact .vec id len h1 h2
 | fn g first caps fi ca h1 h2 _ _ ih1 ih2=>exact .fn g first caps fi ca h1 h2 ih1 ih2
 | full a x h1 _ ih=>exact .full a x h1 ih
 | fp p a x S h0 h1 hc h2 _ ih=>
  have hsame: ∀b,S b->w'.heap[b]? = w.heap[b]? :=fun b hb=>by
   obtain ⟨C,T,k,e⟩:=hc b hb;rw [e];exact h.cells b _ e rfl
  exact .fp p a x S h0 (fun b hb=>hF b (h1 b hb)) (fun b hb=>by rw [hsame b hb];exact hc b hb) (fun w2 hw=>h2 w2 (fun b hb=>(hw b hb).trans (hsame b hb))) ih
 | mp rows b es cl h1 h2 h3 h4 h5 h6 _ ih=>exact .mp rows b es cl (hF b h1) (h.cells b _ h2 rfl) h3 h4 h5 h6 ih
theorem rW.ro {B:Nat} {w w':World} (h:rW B w w') (hr:RO D nu o w):RO D nu o w':=
 ⟨fun id ob hid=>by
  rcases hr.obj id ob hid with e|⟨g,cur,hb⟩|⟨g,es,cl,hmp⟩
  ·exact .inl e
  ·exact .inr (.inl ⟨g,cur,h.cells g _ hb.cZ rfl,hb.j9,hb.box,hb.vec,hb.z,hb.row,fun i j row c x q1 q2 q3=>h.ra (hb.cell i j row c x q1 q2 q3),hb.one⟩)
  ·exact .inr (.inr ⟨g,es,cl,hmp.tr ((h.cells g _ hmp.cZ rfl).trans hmp.cZ.symm) (fun h=>h) rfl (fun i j row c x _ _ hr=>h.ra hr)⟩),fun b hb=>hr.up b (by rw [<-h.size];exact hb),hr.sep,fun g T cs hg=>by
  obtain ⟨⟨t,h1⟩,h2,h3⟩:=hr.gl g T cs hg
  exact ⟨⟨t,h.cells g _ h1 rfl⟩,h2,h3⟩⟩
theorem jt {fn:Func} {tmps:Array Value} {R:Ending->World->Prop} {B:Nat}: ∀(rs:List Nat) (w:World),rs.Nodup->(∀x,x∈rs->B<=x∧w.heap[x]? = some (.deferred (some []))) ->
  (∀w',rW B w w'->(∀b,b∉rs->w'.heap[b]? = w.heap[b]?)-> ∃v,(results fn tmps).run P w' = .ok v w'∧R (.returned v) w')->LeavesInM (WF none) 9 P fn tmps R (rs.map zL) .returning w
 | [],w,_,_,h=>h w (.refl B w) (fun _ _=>rfl)
 | x :: rs,w,hn,hm,h=>by
  obtain ⟨h1,h2⟩:=hm x List.mem_cons_self;have hx:=(List.nodup_cons.1 hn).1;refine ⟨by simp, .inl ⟨x,w.putObj x (.deferred none),rfl,run_takeDeferred h2, ?_⟩⟩;have hs:rW B w (w.putObj x (.deferred none)):=⟨rfl,rfl,rfl,by simp,fun b hb=>World.putObj_heap_other (by omega),fun b ob hb hc=>(World.putObj_heap_other (fun e=>by rw [e,h2] at hb;cases hb;cases hc)).trans hb⟩;refine jt rs _ (List.nodup_cons.1 hn).2 (fun y hy=> ?_) (fun w' hs' hb'=>h w' ⟨hs'.os.trans hs.os,hs'.tape.trans hs.tape,hs'.output.trans hs.output,hs'.size.trans hs.size,fun b hb=>(hs'.low b hb).trans (hs.low b hb),fun b ob hb hc=>hs'.cells b ob (hs.cells b ob hb hc) hc⟩ (fun b hb=>(hb' b (fun h=>hb (T8 _ h))).trans (World.putObj_heap_other (fun e=>hb (by rw [<-e];exact List.mem_cons_self)))));obtain ⟨q1,q2⟩:=hm y (T8 _ hy);exact ⟨q1,(World.putObj_heap_other (fun e=>hx (by rw [<-e];exact hy))).trans q2⟩
def F7 (P:Program) (n0:Nat) (D0:Nat->Prop) (nu0:Nat->Nat->Value) (o0:List (Option aa)) (w0:World) (hn:o0.length<=n0):WM P where
 n0:=n0
 fix:=fun _=>False
 M:=fun D nu o Z y w=>(y = .no∧(∀b,D b->D0 b)∧(∀b,Z b->b<w.heap.size∧D0 b∧ ¬D b)∧n0<=o.length∧ ∀b,w0.heap.size<=b->D0 b)∧bl nu0 o0 w0 nu o w∧ ∀b,b<w0.heap.size-> ¬owned nu0 o0 b-> ¬Z b
 step:=fun {D D' nu o Z Z' y w nu' o' w'} h hro hm hro' _ hD _ hZ hn'=>by
  obtain ⟨⟨h1,h2,h3,h4,hup⟩,h5,h6⟩:=h
  refine ⟨⟨h1,fun b hb=> ?_,fun b hb=>⟨(hZ b hb).1, ?_,(hZ b hb).2.1⟩,hn',hup⟩,⟨hm.os.trans h5.os,hm.tape.trans h5.tape,hm.output.trans h5.output,S3 h5.size hm.size,fun id len hh=> ?_,fun b hb hno=> ?_⟩,fun b hb hno hz=> ?_⟩
  ·rcases hD b hb with q|q
   ·exact h2 b q
   ·exact (h3 b q).2.1
  ·rcases (hZ b hb).2.2 with q|q|q
   ·exact (h3 b q).2.1
   ·exact h2 b (hro.jl q)
   ·exact hup b (S3 h5.size q)
  ·obtain ⟨q1,q2⟩:=h5.pq id len hh;have hlt:=gI hh;obtain ⟨q3,q4⟩:=hm.pq id len (by omega) q1;exact ⟨q3,q4.trans q2⟩
  ·obtain ⟨q1,q2⟩:=h5.keep b hb hno;obtain ⟨q3,q4⟩:=hm.keep b (Nat.lt_of_lt_of_le hb h5.size) q2 (h6 b hb hno);exact ⟨q3.trans q1,q4⟩
  ·rcases (hZ b hz).2.2 with q|q|q
   ·exact h6 b hb hno q
   ·exact (h5.keep b hb hno).2 q
   ·have:=h5.size;omega
 mi:=fun h=>⟨fun b hb=>⟨(h.1.2.2.1 b hb).1,(h.1.2.2.1 b hb).2.2⟩,h.1.2.2.2.1,fun b hb=>hb.elim⟩
 yield:=fun h _ _ _=>by cases h.1.1
theorem RA.wider {D D':Nat->Prop} (hD: ∀b,D' b->D b) {a:AV} {x:Value} (h:RA D' nu o w a x):RA D nu o w a x:=by
 induction h with
 | undef x=>exact .undef x
 | v x=>exact .v x
 | agg cs xs h1 _ h3 ih=>exact .agg cs xs h1 ih h3
 | ct cs xs h1 _ ih=>exact .ct cs xs h1 ih
 | bf z=>exact .bf z
 | bA z a=>exact .bA z a
 | aI z rows len b off cap f h1 h2 h3 h4 h5 h6 _ h8 ih=>exact .aI z rows len b off cap f h1 h2 h3 (fun hne=>⟨(h4 hne).1,(h4 hne).2.1,hD b (h4 hne).2.2⟩) h5 h6 ih h8
 | vp cs b off f h1 h2 _ h4 ih=>exact .vp cs b off f ⟨h1.1,h1.2.1,hD b h1.2.2⟩ h2 ih h4
 | ptr id len z row off b h1 h2=>exact .ptr id len z row off b h1 h2
 | vec id len h1 h2=>exact .vec id len h1 h2
 | fn g first caps fi ca h1 h2 _ _ ih1 ih2=>exact .fn g first caps fi ca h1 h2 ih1 ih2
 | full a x h1 _ ih=>exact .full a x h1 ih
 | fp p a x S h0 h1 hc h2 _ ih=>exact .fp p a x S h0 (fun b hb=>⟨(h1 b hb).1,(h1 b hb).2.1,hD b (h1 b hb).2.2⟩) hc h2 ih
 | mp rows b es cl h1 h2 h3 h4 h5 h6 _ ih=>exact .mp rows b es cl ⟨h1.1,h1.2.1,hD b h1.2.2⟩ h2 h3 h4 h5 h6 ih
theorem RO.wider {D D':Nat->Prop} (h:RO D' nu o w) (hD: ∀b,D' b->D b):RO D nu o w:=
 ⟨fun id ob hid=>by
  rcases h.obj id ob hid with e|⟨g,cur,hb⟩|⟨g,es,cl,hmp⟩
  ·exact .inl e
  ·exact .inr (.inl ⟨g,cur,hb.cZ,hD g hb.j9,hb.box,hb.vec,hb.z,hb.row,fun i j row c x q1 q2 q3=>(hb.cell i j row c x q1 q2 q3).wider hD,hb.one⟩)
  ·exact .inr (.inr ⟨g,es,cl,hmp.tr rfl (hD g) rfl (fun i j row c x _ _ hr=>hr.wider hD)⟩),fun b hb=>hD b (h.up b hb),h.sep,fun g T cs hg=>by
  obtain ⟨⟨t,h1⟩,h2,h3⟩:=h.gl g T cs hg
  exact ⟨⟨t,h1⟩,h2,hD g h3⟩⟩
theorem wN {f:Fr} {D:Nat->Prop} {nu:Nat->Nat->Value} {o:List (Option aa)} {w:World} {args:List AV} {vargs:Array Value} {n:Nat} {y:iz} (hf:f.r=none) (hB:f.B<=w.heap.size) (hro:RO D nu o w) (ha:gk D nu o w args vargs) :
  RS f D nu ⟨args++List.replicate (n - args.length) .undef,o,y⟩ { tmps:=vargs++Array.replicate (n - vargs.size) Go.undef,defers:=[] } w:=by
 have hl:=ha.len;refine ⟨hro,⟨by simp [hl],fun i cc x h1 h2=> ?_⟩,⟨hB,⟨[],List.nodup_nil,rfl,fun x hx=>(by cases hx)⟩,fun l hl=>by rw [hf] at hl;cases hl⟩⟩;simp only at h1 h2
 rcases S9 i args.length with hlt|hge
 ·rw [S8 hlt] at h1;rw [TJ (by omega)] at h2;exact ha.at' i cc x h1 h2
 ·rw [TD hge,List.getElem?_replicate] at h1
  split at h1
  ·cases h1;exact .undef x
  ·cases h1
theorem ea.enter {f:FuncId} {fn:Func} {c:Code} {args:List AV} {Q:AV->List (Option aa)->Prop} (hf:P.funcs[f]? = some fn) (hb:fn.body=some c) (hc:df P f=true) (hok:a8 c=true) (hmx:P.follows .mixedOrders=true)
  (h:bK P o.length c ⟨args++List.replicate (fn.ntmps - args.length) .undef,o, .no⟩ (vO P fn.results.toList Q)):ea P f args o Q:=by
 refine ⟨hc,fun D nu w vargs hro ha=>qf (n:=9) (callsIn_of_wp_marks hf hb trivial ?_ rfl)⟩;have hs:RS ⟨w.heap.size,none,fun _=>False⟩ D nu ⟨args++List.replicate (fn.ntmps - args.length) .undef,o, .no⟩ { tmps:=vargs++Array.replicate (fn.ntmps - vargs.size) Go.undef,defers:=[] } w:=wN rfl (SY _) hro ha
 have fin: ∀(D' Z':Nat->Prop) (s':AS) (a':Act) (w':World) (nu':Nat->Nat->Value),(F7 P o.length D nu o w (SY _)).M D' nu' s'.o Z' s'.y w'->RS ⟨w.heap.size,none,Z'⟩ D' nu' s' a' w'->lp (jZ P s' fn.results.toList) s'.o Q->LeavesInM (WF none) 9 P fn a'.tmps (D9 D nu o w Q) a'.defers .returning w':=fun D' Z' s' a' w' nu' h1 h2 h3=>by
  obtain ⟨rs,k1,k2,k3⟩:=h2.ig.marks;rw [k2];refine jt (B:=w.heap.size) rs w' k1 (fun x hx=>⟨(k3 x hx).1,(k3 x hx).2.2⟩) (fun w2 hs2 _=> ?_);obtain ⟨⟨_,hD,_,_⟩,hm,_⟩:=h1;have hF: ∀b,Fz D' nu' s'.o w2 b->Fz D nu' s'.o w2 b:=fun b hb=>⟨hb.1,hb.2.1,hD b hb.2.2⟩;have h2':RS ⟨w.heap.size,none,Z'⟩ D' nu' s' { tmps:=a'.tmps,defers:=[] } w2:=⟨hs2.ro h2.ro,⟨h2.tm.len,fun i c x q1 q2=>hs2.ra (h2.tm.at' i c x q1 q2)⟩,⟨by rw [hs2.size];exact h2.ig.base,⟨[],List.nodup_nil,rfl,fun x hx=>(by cases hx)⟩,fun l hl=>by cases hl⟩⟩;obtain ⟨v,r,q1,q2,q3⟩:=xL h2' h3;exact ⟨v,q1,v,nu',s'.o,r,rfl,⟨hs2.os.trans hm.os,hs2.tape.trans hm.tape,hs2.output.trans hm.output,by rw [hs2.size];exact hm.size,hm.pq,fun b hb hno=>⟨(hs2.low b hb).trans (hm.keep b hb hno).1,(hm.keep b hb hno).2⟩⟩,RO.wider h2'.ro hD,q2.wider hD,q3⟩
 refine wpIn_mono (eV (P:=P) hmx (f:=⟨w.heap.size,none,fun _=>False⟩) (F7 P o.length D nu o w (SY _)) (fun l hl=>by cases hl) (SY _) c hok _ _ w D nu (fun _=>False) _ (fun (e:Exit) a' w'=>e ≠ .outgrown∧bodyPostM (WF none) 9 P fn (D9 D nu o w Q) e a' w') (fun a w hh=>hh.1 rfl) ⟨⟨rfl,fun _ h=>h,fun _ h=>h.elim,SY _,hro.up⟩, .refl nu o w,fun _ _ _ h=>h⟩ hs h (fun e D' Z' s' a' w' nu' h1 h2 h3=> ?_)) (fun e a w hh=>hh.2)
 cases e with
 | ret=>exact ⟨by simp [aJ.real],fin D' Z' s' a' w' nu' h1 h2 h3⟩
 | normal=>exact ⟨by simp [aJ.real],fin D' Z' s' a' w' nu' h1 h2 h3⟩
 | exit id=>exact h3.elim
 | goto l=>exact h3.elim
def nq (o:List (Option aa)) (r0 r:AV):Prop:= ∃n p,fJ o n r0=some (p,r)∧p
theorem Mr (x y:Value):nq o (.v x) (.v y)=(x=y):=by
 apply propext
 constructor
 ·rintro ⟨n,p,h1,_⟩
  cases n with
  | zero=>simp [fJ] at h1
  | succ n=>simp only [fJ,Ti,Tj,AV.v.injEq] at h1;exact h1.2
 ·rintro rfl;exact ⟨1,_,rfl,rfl⟩
theorem nq.of {r0 r:AV} (n:Nat) {p:Prop} (h:fJ o n r0=some (p,r)) (hp:p):nq o r0 r:=⟨n,p,h,hp⟩
theorem af.enter {f:FuncId} {fn:Func} {c:Code} {args:List AV} {r:AV} (hf:P.funcs[f]? = some fn) (hb:fn.body=some c) (hc:df P f=true) (hok:a8 c=true) (hmx:P.follows .mixedOrders=true)
  (ha:ba 0 args=true) (hr:r.wf 0=true) (h:bK P 0 c ⟨args++List.replicate (fn.ntmps - args.length) .undef,[], .no⟩ (vO P fn.results.toList (fun r0 o=>nq o r0 r))):af P f args r:=by
 obtain ⟨_,h2⟩:=ea.enter (o:=[]) hf hb hc hok hmx h;refine ⟨⟨ha,hr⟩,hc,fun D nu w vargs hro hra=>(h2 D nu w vargs hro hra).mono ?_⟩;rintro e w' ⟨v,nu',o',r0,rfl,hm,hro',hra',n,p,hz,hp⟩;have hm':bl nu [] w nu' [] w':=⟨hm.os,hm.tape,hm.output,hm.size,fun id len hh=>by obtain ⟨x,k,_⟩:=hh;simp at k,fun b hb ho=>⟨(hm.keep b hb ho).1,bb _ _⟩⟩;exact ⟨v,nu',[],r,rfl,hm',(.nil _ _ _ hro'.up (hro'.gl.nil (fun _ _ h=>h))),(kf hro' n).1 r0 v p r hz hp hra',rfl,rfl⟩
end
end
section
section
variable {P:Program} {all:List Oper} {n0:Nat} {s:AS} {Q:aJ->AS->Prop}
@[go_sem] theorem Qa (t:List AV) (o:List (Option aa)) (y:iz) (k:Nat):(AS.mk t o y).ev (.tmp k)=t.getD k .undef:=rfl
@[go_sem] theorem MZ (s:AS) (v:Value):s.ev (.const v) = .v v:=rfl
@[go_sem] theorem OO (s:AS) (f:FuncId):s.ev (.func f) = .fn f [] []:=rfl
@[go_sem] theorem Nq (t:List AV) (o o':List (Option aa)) (y:iz) (d:Nat) (r:AV):(AS.mk t o y).put (some d) r o'=⟨t.set d r,o',y⟩:=rfl
@[go_sem] theorem Np (t:List AV) (o o':List (Option aa)) (y:iz) (r:AV):(AS.mk t o y).put none r o'=⟨t,o',y⟩:=rfl
@[go_sem] theorem J1 (dst:Option Tmp) (op:Op) (ty:TypeId) (pos:String) (aft:Array Edge) (s:AS) (K:AS->Prop) :
  oF P all ⟨dst,op,ty,pos,aft,none⟩ s K=AY P op dst s K:=rfl
@[go_sem] theorem J0 (dst:Option Tmp) (op:Op) (ty:TypeId) (pos:String) (aft:Array Edge) (j:Nat) (want:Bool) (s:AS) (K:AS->Prop) :
  oF P all ⟨dst,op,ty,pos,aft,some (j,want)⟩ s K=rP (iJ all s j) want (AY P op dst s K) (K (s.put dst (.v Go.undef) s.o)):=rfl
attribute [go_sem] AY Kw Mu yE
def dT (P:Program) (all:List Oper) (oo:Oper) (s:AS) (K:AS->Prop):Prop:=match oo.guard with
 | none=>cO P oo.op s (fun r=>K (s.put oo.dst r s.o))
 | some (j,want)=>rP (iJ all s j) want (cO P oo.op s (fun r=>K (s.put oo.dst r s.o))) (K (s.put oo.dst (.v Go.undef) s.o))
@[go_sem] theorem H6 (dst:Option Tmp) (op:Op) (ty:TypeId) (pos:String) (aft:Array Edge) (s:AS) (K:AS->Prop) :
  dT P all ⟨dst,op,ty,pos,aft,none⟩ s K=cO P op s (fun r=>K (s.put dst r s.o)):=rfl
@[go_sem] theorem H5 (dst:Option Tmp) (op:Op) (ty:TypeId) (pos:String) (aft:Array Edge) (j:Nat) (want:Bool) (s:AS) (K:AS->Prop) :
  dT P all ⟨dst,op,ty,pos,aft,some (j,want)⟩ s K=rP (iJ all s j) want (cO P op s (fun r=>K (s.put dst r s.o))) (K (s.put dst (.v Go.undef) s.o)):=rfl
theorem Es {Q:AS->Prop} (h:Q s):gq P all [] s Q:=h
theorem KL {oo:Oper} {rest:List Oper} {Q:AS->Prop} (h: ∀K:AS->Prop,(∀s',gq P all rest s' Q->K s')->oF P all oo s K):gq P all (oo :: rest) s Q:=h _ (fun _ h=>h)
theorem yV {dst:Option Tmp} {op:Op} {ty:TypeId} {pos:String} {aft:Array Edge} {Q:AS->Prop} (h: ∀K:AS->Prop,(∀s',Q s'->K s')->vN P op s (fun r o'=>K (s.put dst r o'))):dH P all [⟨dst,op,ty,pos,aft,none⟩] s Q:=h _ (fun _ h=>h)
theorem Hy {oo o2:Oper} {rest:List Oper} {Q:AS->Prop} (h: ∀K:AS->Prop,(∀s',dH P all (o2 :: rest) s' Q->K s')->dT P all oo s K):dH P all (oo :: o2 :: rest) s Q:=by
 have:=h _ (fun _ h=>h)
 unfold dT at this;simp only [dH]
 split at this<;>simp_all
def lq (K:AS->Prop) (Q:aJ->AS->Prop):aJ->AS->Prop
 | .normal,s=>K s
 | e,s=>Q e s
def tR (id:Nat) (Q:aJ->AS->Prop):aJ->AS->Prop
 | .exit i,s=>if i=id then Q .normal s else Q (.exit i) s
 | e,s=>Q e s
def vR (Q:aJ->AS->Prop):aJ->AS->Prop
 | .goto _,_=>False
 | e,s=>Q e s
theorem wg {K:AS->Prop} (h:K s):lq K Q .normal s:=h
theorem B8 {K:AS->Prop} {i:Nat} (h:Q (.exit i) s):lq K Q (.exit i) s:=h
theorem Eu {K:AS->Prop} (h:Q .ret s):lq K Q .ret s:=h
theorem B9 {K:AS->Prop} {i:Nat} (h:Q (.goto i) s):lq K Q (.goto i) s:=h
theorem v8 {i:Nat} (h:Q .normal s):tR i Q .normal s:=h
theorem Em {i:Nat} (h:Q .ret s):tR i Q .ret s:=h
theorem BY {i j:Nat} (h:Q (.goto j) s):tR i Q (.goto j) s:=h
theorem wc (h:Q .normal s):vR Q .normal s:=h
theorem Et (h:Q .ret s):vR Q .ret s:=h
theorem B6 {i:Nat} (h:Q (.exit i) s):vR Q (.exit i) s:=h
theorem yZ {id:Nat} {l:List Oper} (h:gq P l l s (Q .normal)):bK P n0 (.region id l.toArray false) s Q:= .inl h
def uO:List Oper->Bool
 | []=>true
 | [_]=>true
 | o :: l=>(match o.op with| .alloc _=>false| .store .. =>false|_=>true)&&uO l
theorem Ey {id:Nat} {l:List Oper} (hB:xJ l.toArray=true) (_hL:uO l=true) (h:dH P l l s (Q .normal)):bK P n0 (.region id l.toArray true) s Q:= .inl ⟨hB,h⟩
theorem EC (h:Q .normal s):bK P n0 .skip s Q:=h
theorem Ig {a b:Code} (h: ∀K:AS->Prop,(∀s',bK P n0 b s' Q->K s')->bK P n0 a s (lq K Q)):bK P n0 (.seq a b) s Q:=by
 have:=h _ (fun _ h=>h)
 simp only [bK];refine .inl ?_;exact (congrArg (bK P n0 a s) (by funext e s';cases e<;>rfl)).mpr this
theorem Ew {c:Operand} {a b:Code} (h:yz (s.ev c) (bK P n0 a s Q) (bK P n0 b s Q)):bK P n0 (.cond c a b) s Q:=h
theorem Cd {id:Nat} {c:Code} (h:bK P n0 c s (tR id Q)):bK P n0 (.block id c) s Q:=by
 simp only [bK];exact (congrArg (bK P n0 c s) (by funext e s';cases e<;>rfl)).mpr h
theorem Cj {c:Code} (h:bK P n0 c s (vR Q)):bK P n0 (.scope c) s Q:=by
 simp only [bK];exact (congrArg (bK P n0 c s) (by funext e s';cases e<;>rfl)).mpr h
theorem Ez {id:Nat} (h:Q (.exit id) s):bK P n0 (.exit id) s Q:=h
theorem Ic (h:Q .ret s):bK P n0 .ret s Q:=h
theorem Ch {l:Nat} (h:Q .normal s):bK P n0 (.label l) s Q:=h
theorem EA {l:Nat} (h:Q (.goto l) s):bK P n0 (.goto l) s Q:=h
attribute [go_sem] Hj Hi D7 D6 BJ vQ sl D4 DZ Ks Hg DW BM DY DV vP Mr
attribute [go_sem] AV.st bytesOf ue AD yM vN cO H2 pz wa B4 nA pT yO AE vX uk kr sw jd uf je uh Ht Hu j0 Hw fX kv OK vW ud oH ee sx AH lO DQ AG Ej py lP mo
 AV.cells? yv iJ aa.hl jZ AV.wf ba bQ qH sV BW pW vY uj ui mr nC iA cm
@[go_sem] theorem MM (d:TypeDesc) (k:Value) (x:AV):jf d k x []=some [[.v k,x]]:=rfl
@[go_sem] theorem ML (d:TypeDesc) (k:Value):jQ d k []=some none:=rfl
@[go_sem] theorem L2 (ks:List FK) (k:List AV) (x:AV):gW ks k x []=some [[.agg k,x]]:=rfl
@[go_sem] theorem L0 (ks:List FK) (k:List AV):fK ks k []=some none:=rfl
@[go_sem] theorem OE (b:Bool) (A B:Prop):fU (!b) A B=fU b B A:=by cases b<;>rfl
def aP {ι:Type} (n0:Nat) (S:ι->AS) (mu:ι->Nat) (ok:ι->Prop) (m:Nat) (s2:AS):Prop:= ∃m' s3,Wk n0 s2 s3∧(∃j,ok j∧mu j=m'∧s3=S j)∧m'<m
theorem aP.mk {ι:Type} {S:ι->AS} {mu:ι->Nat} {ok:ι->Prop} {m:Nat} {s2:AS} (j:ι) (h1:ok j) (h2:mu j<m) (h3:Wk n0 s2 (S j)):aP n0 S mu ok m s2:=⟨mu j,S j,h3,⟨j,h1,rfl,rfl⟩,h2⟩
theorem j6 {ι:Type} {c:Code} (S:ι->AS) (mu:ι->Nat) (ok:ι->Prop) (i0:ι) (s1:AS) (h1:Gs s s1) (h2:Wk n0 s1 (S i0)) (h3:ok i0)
  (h: ∀i,ok i-> ∀K:AS->Prop,(∀s2,aP n0 S mu ok (mu i) s2->K s2)->bK P n0 c (S i) (lq K Q)):bK P n0 (.loop c) s Q:=by
 show Au n0 (bK P n0 c) s Q;refine ⟨fun m s'=> ∃i,ok i∧mu i=m∧s'=S i,⟨mu i0,s1,S i0,h1,h2,i0,h3,rfl,rfl⟩, ?_⟩;rintro m s' ⟨i,hi,rfl,rfl⟩
 have:=h i hi _ (fun _ h=>h)
 exact (congrArg (bK P n0 c (S i)) (by funext e s2;cases e<;>rfl)).mpr this
def aG (n:Nat) (l:List (Nat×AV)):List AV:=l.foldl (fun t p=>t.set p.1 p.2) (List.replicate n .undef)
theorem kP {ι:Type} {c:Code} {t:List AV} {o:List (Option aa)} {y:iz} (live:ι->List (Nat×AV)) (ob:ι->List (Option aa)) (mu:ι->Nat) (ok:ι->Prop) (i0:ι) (h3:ok i0) (h2:Wk n0 ⟨t,o,y⟩ ⟨aG t.length (live i0),ob i0,y⟩)
  (h: ∀i,ok i-> ∀K:AS->Prop,(∀s2,aP n0 (fun i=>⟨aG t.length (live i),ob i,y⟩) mu ok (mu i) s2->K s2)->bK P n0 c ⟨aG t.length (live i),ob i,y⟩ (lq K Q)):bK P n0 (.loop c) ⟨t,o,y⟩ Q:=
 j6 (fun i=>⟨aG t.length (live i),ob i,y⟩) mu ok i0 _ .refl h2 h3 h
theorem aq {s s':AS} (h1:bd s'.o.length s.t s'.t) (h2:bj s'.o.length s.o s'.o) (h3:n0<=s'.o.length) (h4:s.y=s'.y:=by rfl):Wk n0 s s':=⟨h1,h2,h3,h4⟩
theorem aD {k:Nat} (h:k<9223372036854775807):IntKind.i64.wrap ((k:Int)+1)=((k+1:Nat):Int):=by
 rw [IntKind.wrap_i64];omega
theorem dQ {n:Int} (h1: -9223372036854775808<=n) (h2:n<=9223372036854775807):IntKind.i64.wrap n=n:=by
 rw [IntKind.wrap_i64];omega
end
attribute [go_sem] List.getD_cons_zero List.getD_cons_succ List.set_cons_zero List.set_cons_succ List.getElem?_cons_zero List.getElem?_cons_succ List.length_cons List.length_nil List.length_map Option.map_some Option.map_none List.drop_zero List.drop_succ_cons List.take_succ_cons List.take_zero List.map_cons List.map_nil List.cons_append List.nil_append List.append_nil TB true_and and_true Int.toNat_natCast if_true if_false BEq.rfl Bool.true_beq Bool.false_beq beq_true beq_false Bool.not_true Bool.not_false Bool.and_true Bool.true_and Bool.and_false Bool.false_and TX SY List.length_replicate Nat.zero_mul Ti implies_true Bool.false_eq_true List.length_append decide_true decide_false beq_self_eq_true bne_self_eq_false Bool.not_not and_self Nat.lt_irrefl List.replicate_succ List.replicate_zero Nat.sub_zero
theorem wD {P:Program} {n0 id:Nat} {l:List Oper} {s:AS} {Q:aJ->AS->Prop} (h:dH P l l s (Q .normal)) (hB:xJ l.toArray=true:=by kernel_rfl) (hL:uO l=true:=by decide):bK P n0 (.region id l.toArray true) s Q:=Ey hB hL h
end
end Go.Proofs.YtlhhccmopfamhaaGreatDoor
