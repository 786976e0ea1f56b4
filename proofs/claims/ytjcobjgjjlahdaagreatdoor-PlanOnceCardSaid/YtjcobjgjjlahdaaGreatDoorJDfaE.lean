/- texts of one claim, one behind the other. -/
import Derived.Test.YtjcobjgjjlahdaaGreatDoorJChk3
import Derived.Test.YtjcobjgjjlahdaaGreatDoorJEvery
import Derived.Test.YtjcobjgjjlahdaaGreatDoorJVerts
import Derived.Test.YtjcobjgjjlahdaaGreatDoorJAbsZ
import Derived.Test.YtjcobjgjjlahdaaGreatDoorJDfaB
set_option linter.unusedSimpArgs false
set_option linter.unusedVariables false
set_option maxRecDepth 100000
set_option maxHeartbeats 16000000
open Array renaming getElem?_eq_getElem -> Ro, getElem?_eq_some_iff -> Q8
open Bool renaming and_eq_true -> RY, and_self -> Tg, not_eq_eq_eq_not -> Tn, eq_false_or_eq_true -> Tu
open List renaming getElem?_set_ne -> Rw, getElem?_eq_some_iff -> Ra, getElem?_set_self -> Rx, getElem?_eq_getElem -> Rp, getElem?_toArray -> Rr, size_toArray -> Rz, length_cons -> Rg, length_nil -> Q9, replicate_succ -> Ti, replicate_zero -> Tj, cons_append -> Tl, nil_append -> Tm, set_cons_zero -> SP, set_cons_succ -> SN, foldl_cons -> SI, foldl_nil -> SL, take_zero -> TE, getD_eq_getElem?_getD -> R6, length_map -> R5, map_append -> TL, map_cons -> TN, map_nil -> TT, length_append -> Rf, push_toArray -> TW, drop_succ_cons -> TX, drop_zero -> TY, take_succ_cons -> TF, getElem?_map -> Rs, length_replicate -> TZ, take_succ_eq_append_getElem -> SR, getElem_mem -> S9, length_singleton -> S4
open Option renaming map_some -> RI
open Int renaming natCast_inj -> To, ofNat_lt -> Tp, ofNat_le -> Tq
open Nat renaming lt_add_one -> TC, zero_lt_one -> TD, zero_le -> Rh, zero_lt_succ -> T0
namespace Go.Proofs.YtjcobjgjjlahdaaGreatDoor
open Go.RowKit
section
mutual
theorem zB {f:Nat->Nat} {m:Nat} (hf: ∀k,k<m->f k=k): ∀a:AV,a.wf m=true->a.bc f=a
 | .undef,_=>rfl
 | .v _,_=>rfl
 | .agg cs,h=>by rw [AV.bc,jJ hf cs h]
 | .dC cs,h=>by rw [AV.bc,jJ hf cs h]
 | .aC z rows len,h=>by rw [AV.bc,uS hf rows h]
 | .vp cs,h=>by rw [AV.bc,jJ hf cs h]
 | .ptr id _ _ _ _,h=>by simp [AV.wf] at h;rw [AV.bc,hf id h]
 | .vec id _,h=>by simp [AV.wf] at h;rw [AV.bc,hf id h]
 | .fn g a b,h=>by
  simp only [AV.wf,RY] at h;rw [AV.bc,jJ hf a h.1,jJ hf b h.2]
 | .full a,h=>by rw [AV.bc,zB hf a h]
 | .iR p a,h=>by rw [AV.bc,zB hf a h]
 | .mp rows,h=>by rw [AV.bc,uS hf rows h]
theorem jJ {f:Nat->Nat} {m:Nat} (hf: ∀k,k<m->f k=k): ∀l:List AV,bn m l=true->bV f l=l
 | [],_=>rfl
 | a :: l,h=>by
  simp only [bn,RY] at h;rw [bV,zB hf a h.1,jJ hf l h.2]
theorem uS {f:Nat->Nat} {m:Nat} (hf: ∀k,k<m->f k=k): ∀l:List (List AV),dA m l=true->bW f l=l
 | [],_=>rfl
 | a :: l,h=>by
  simp only [dA,RY] at h;rw [bW,jJ hf a h.1,uS hf l h.2]
end
section
variable {D:Nat->Prop} {nu:Nat->Nat->Value} {o:List (Option aa)} {w:World} {P:Program}
theorem cA {s:AS} {k i j id len:Nat} {ob ob2:aa} {row:List AV} (hne:id≠k) (hk:s.o[k]? = some (some ob)) (hz:0<ob.z) (hr:ob.rows[i]? = some row) (hj:row[j]? = some (.vec id len)) (ho:s.o[id]? = some (some ob2)) (hv:ob2.fw=true) (hl:ob2.rows.length=len) :
  vA s (AS.mk s.t ((s.o.set id none).set k (some { ob with rows:=ob.rows.set i (row.set j (.aC ob2.z ob2.rows len)) })) s.y):=by
 intro f D nu a w hs;have hp:=dH (nu:=nu) (o:=s.o) (w:=w) id;have hro:=kL hs.ro id
 have hk':(s.o.set id none)[k]? = some (some ob):=by rw [Rw hne];exact hk
 have hh:ob.hl=({ ob with rows:=ob.rows.set i (row.set j (.aC ob2.z ob2.rows len)) }:aa).hl:=by simp [aa.hl]
 obtain ⟨g,cur,hb⟩: ∃g cur,rR D nu (s.o.set id none) w k ob g cur:=by
  rcases hro.obj k ob hk' with ⟨_,e,_⟩|h|⟨g,es,cl,hm⟩
  ·rw [e] at hr;simp at hr
  ·exact h
  ·have:=hm.z;omega
 have hm:=jf (nu:=nu) (o:=s.o.set id none) (w:=w) (w':=w) (ob':={ ob with rows:=ob.rows.set i (row.set j (.aC ob2.z ob2.rows len)) }) hk' hh.symm hb.bJ rfl rfl rfl rfl (fun _ _=>rfl);refine ⟨nu,hp.trans hm,rfl, ?_,(hs.tm.mono hp (fun _ _ h=>h)).mono hm (fun _ _ h=>h),hs.gG⟩;have hil:=(Ra.1 hr).1;have hjl:=(Ra.1 hj).1;have hsl:=jL hs.ro ho hv;rw [hl] at hsl
 have key: ∀(i' j':Nat) r c,(ob.rows.set i (row.set j (.aC ob2.z ob2.rows len)))[i']? = some r->r[j']? = some c-> ∃r0 c0,ob.rows[i']? = some r0∧r0[j']? = some c0∧(c=c0∨(c = .aC ob2.z ob2.rows len∧c0 = .vec id len)):=by
  intro i' j' r c h1 h2
  by_cases hi:i=i'
  ·subst hi;rw [Rx hil] at h1;cases h1
   by_cases hj':j=j'
   ·subst hj';rw [Rx hjl] at h2;cases h2;exact ⟨row,_,hr,hj, .inr ⟨rfl,rfl⟩⟩
   ·rw [Rw hj'] at h2;exact ⟨row,c,hr,h2, .inl rfl⟩
  ·rw [Rw hi] at h1;exact ⟨r,c,h1,h2, .inl rfl⟩
 refine qT hro hk' hh.symm hb.bJ hm (fun _ _=>rfl) (cur:=cur) ⟨hb.blk,hb.kJ,fun hv'=> ?_,fun hv'=> ?_,hb.z,fun i' r hi'=> ?_,fun i' j' r c x h1 h2 h3=> ?_,fun i' j' r c x h1 h2 h3=> ?_⟩
 ·obtain ⟨q1,q2,q3⟩:=hb.box hv';exact ⟨q1,by simpa using q2,q3⟩
 ·obtain ⟨cap,q1,q2,q3,q4⟩:=hb.vec hv';exact ⟨cap,by simpa using q1,by simpa using q2,q3,q4⟩
 ·by_cases hi:i=i'
  ·subst hi;rw [Rx hil] at hi';cases hi';rw [List.length_set];exact hb.row i row hr
  ·rw [Rw hi] at hi';exact hb.row i' r hi'
 ·obtain ⟨r0,c0,k1,k2,e⟩:=key i' j' r c h1 h2;have h0:=hb.cell i' j' r0 c0 x k1 k2 h3
  rcases e with rfl|⟨rfl,rfl⟩
  ·exact h0.mono hm (fun _ _ h=>h)
  ·have hx:x=nu id len:=by
    cases h0 with
    | vec=>rfl
   rw [hx];exact hsl.mono hm (fun _ _ h=>h)
 ·obtain ⟨r0,c0,k1,k2,_⟩:=key i' j' r c h1 h2;exact hb.one i' j' r0 c0 x k1 k2 h3
end
section
variable {o:List (Option aa)}
end
def L7 (N:Nat) (g:Nat->Bool):List (List AV):=(List.range N).map (fun j=>[.v (.bool (g j))])
def OD (N:Nat) (f:Nat->Nat->Bool):List (List AV):=(List.range N).map (fun i=>[.aC 1 (L7 N (f i)) N])
def QI (k i:Nat):Nat:=k+1+2 * i
def uF (k N m:Nat):List (List AV):=(List.range m).map (fun i=>[.vec (QI k i) N])
def OG (N:Nat) (g:Nat->Bool):Option aa:=some ⟨4,1,true,L7 N g⟩
def LS (N:Nat) (f:Nat->Nat->Bool) (m:Nat):List (Option aa):=(List.range m).flatMap (fun i=>[OG N (f i),none])
def QE (k N m:Nat) (f:Nat->Nat->Bool):List (Option aa):=some ⟨160,1,true,uF k N m⟩ :: LS N f m
theorem II (N:Nat) (g:Nat->Bool):(L7 N g).length=N:=by simp [L7]
theorem Ii (N:Nat) (f:Nat->Nat->Bool):(OD N f).length=N:=by simp [OD]
theorem xb (k N m:Nat):(uF k N m).length=m:=by simp [uF]
def QV (f:Nat->Nat->Bool) (i j:Nat) (v:Bool):Nat->Nat->Bool:=fun p q=>if p=i∧q=j then v else f p q
theorem Gh (n N:Nat) (g:Nat->Bool):dA n (L7 N g)=true:=bE _ (fun _=>rfl) _
theorem KH (n N:Nat) (f:Nat->Nat->Bool):dA n (OD N f)=true:=bE _ (fun i=>by simp only [bn,AV.wf,Gh,Bool.and_self]) _
attribute [go_sem] Gh KH II Ii xb
section
variable {o:List (Option aa)} {P:Program}
theorem eu.v (x:Value):eu o (.v x) (.v x):=fun D nu w y hro hra=>by rw [hra.cj];exact .v x
theorem eu.dC {l m:List AV} (h:oC o l m):eu o (.dC l) (.dC m):=fun D nu w x hro hra=>by
 obtain ⟨h1,h2⟩:=h.at'
 cases hra with
 | dC _ xs k1 k2=>
  refine .dC _ _ (by omega) fun i c y q1 q2=> ?_
  have hi:i<l.length:=by rw [h1];exact (Ra.1 q1).1
  exact h2 i _ c (Rp hi) q1 D nu w y hro (k2 i _ y (Rp hi) q2)
theorem eu.ptr {id z:Nat} {ob:aa} {row cs:List AV} (ho:o[id]? = some (some ob)) (hv:ob.fw=false) (hr:ob.rows=[row]) (hz:ob.z≠0) (h:oC o row cs):eu o (.ptr id 0 z 0 0) (.vp cs):=fun D nu w x hro hra=>by
 obtain ⟨hl,hall⟩:=h.at'
 cases hra with
 | ptr _ _ _ _ _ b h1 h2=>
 rcases hro.obj id ob ho with ⟨e1,e2,e3⟩|⟨g,cur,hb⟩|⟨g,es,cl,hmp⟩
 ·rw [e2] at hr;cases hr
 ·have hb0:=hb.kI;rw [aa.hl,hv,if_neg (by decide)] at hb0;rw [hb0] at h2;cases h2
  have hrow:ob.rows[0]? = some row:=by rw [hr];rfl
  have hget: ∀(j:Nat) c,cs[j]? = some c-> ∃c0,row[j]? = some c0∧cur[0 * ob.z+j]? = some (cur.getD (0 * ob.z+j) Go.undef):=fun j c hc=>by
   have hj:j<row.length:=by rw [hl];exact (Ra.1 hc).1
   have:=hb.mg hrow hj
   refine ⟨_,Rp hj, ?_⟩;rw [Ro this,Array.getD,dif_pos this]
   rfl
  refine .vp _ b _ (fun j=>cur.getD (0 * ob.z+j) Go.undef) ⟨(Q8.1 hb.blk).1,ba _ _,hb.kJ⟩ (fun j c hc=> ?_) (fun j c hc=> ?_) (fun j c hc=> ?_)
  all_goals obtain ⟨c0,k1,k2⟩:=hget j c hc
  ·have hblk:=hb.blk;simp only [Nat.zero_mul,Nat.zero_add] at k2 ⊢;rw [<-k2];simp [World.cell?,hblk]
  ·exact hall j c0 c k1 hc D nu w _ hro (hb.cell 0 j row c0 _ hrow k1 k2)
  ·exact hb.one 0 j row c0 _ hrow k1 k2
 ·exact absurd hmp.z hz
theorem ag.yM {f:FuncId} {fn:Func} {c:Code} {args:List AV} {r:AV} (hf:P.funcs[f]? = some fn) (hb:fn.body=some c) (hc:dO P f=true) (hok:b6 c=true) (hmx:P.follows .mixedOrders=true)
  (ha:bn 0 args=true) (hr:r.wf 0=true) (h:cF P 0 c ⟨args++List.replicate (fn.ntmps - args.length) .undef,[], .no⟩ (tu P fn.results.toList (fun r0 o=>eu o r0 r))):ag P f args r:=by
 obtain ⟨_,h2⟩:=gj.enter (o:=[]) hf hb hc hok hmx h;refine ⟨⟨ha,hr⟩,hc,fun D nu w vargs hro hra=>(h2 D nu w vargs hro hra).mono ?_⟩;rintro e w' ⟨v,nu',o',r0,rfl,hm,hro',hra',hz⟩;have hm':b7 nu [] w nu' [] w':=⟨hm.os,hm.tape,hm.output,hm.size,fun id len hh=>by obtain ⟨x,k,_⟩:=hh;simp at k,fun b hb ho=>⟨(hm.keep b hb ho).1,ba _ _⟩⟩;exact ⟨v,nu',[],r,rfl,hm',(.nil _ _ _ hro'.up (hro'.gl.nil (fun _ _ h=>h))),hz _ _ _ _ hro' hra',rfl,rfl⟩
end
mutual
theorem zA {f g:Nat->Nat} {m:Nat} (hf: ∀k,k<m->f k=g k): ∀a:AV,a.wf m=true->a.bc f=a.bc g
 | .undef,_=>rfl
 | .v _,_=>rfl
 | .agg cs,h=>by rw [AV.bc,AV.bc,jH hf cs h]
 | .dC cs,h=>by rw [AV.bc,AV.bc,jH hf cs h]
 | .aC z rows len,h=>by rw [AV.bc,AV.bc,uQ hf rows h]
 | .vp cs,h=>by rw [AV.bc,AV.bc,jH hf cs h]
 | .ptr id _ _ _ _,h=>by simp [AV.wf] at h;rw [AV.bc,AV.bc,hf id h]
 | .vec id _,h=>by simp [AV.wf] at h;rw [AV.bc,AV.bc,hf id h]
 | .fn g a b,h=>by
  simp only [AV.wf,RY] at h;rw [AV.bc,AV.bc,jH hf a h.1,jH hf b h.2]
 | .full a,h=>by rw [AV.bc,AV.bc,zA hf a h]
 | .iR p a,h=>by rw [AV.bc,AV.bc,zA hf a h]
 | .mp rows,h=>by rw [AV.bc,AV.bc,uQ hf rows h]
theorem jH {f g:Nat->Nat} {m:Nat} (hf: ∀k,k<m->f k=g k): ∀l:List AV,bn m l=true->bV f l=bV g l
 | [],_=>rfl
 | a :: l,h=>by
  simp only [bn,RY] at h;rw [bV,bV,zA hf a h.1,jH hf l h.2]
theorem uQ {f g:Nat->Nat} {m:Nat} (hf: ∀k,k<m->f k=g k): ∀l:List (List AV),dA m l=true->bW f l=bW g l
 | [],_=>rfl
 | a :: l,h=>by
  simp only [dA,RY] at h;rw [bW,bW,jH hf a h.1,uQ hf l h.2]
end
theorem eu.OL {o:List (Option aa)} {z len:Nat} {rows:List (List AV)} (h:dA 0 rows=true):eu o (.aC z rows len) (.aC z rows len):=eu.of 1 (p:=(AV.aC z rows len).wf 0=true) (by rw [gk]<;>simp) (by rw [AV.wf];exact h)
theorem eu.M5 {o:List (Option aa)} {id len:Nat} {ob:aa} (ho:o[id]? = some (some ob)) (hv:ob.fw=true) (hl:ob.rows.length=len) (hw:dA 0 ob.rows=true):eu o (.vec id len) (.aC ob.z ob.rows len):=eu.of 1 (p:=ob.fw=true∧ob.rows.length=len∧dA 0 ob.rows=true) (by rw [gk,ho]) ⟨hv,hl,hw⟩
section
variable {P:Program}
theorem By {n0:Nat} {c:Code} {s:AS} {Q:aZ->AS->Prop} (s0:AS) (hok:b6 c=true) (h:cF P n0 c s (fun e s'=>e = .normal∧Wk n0 s' s0)) (k:Q .normal s0):yc P n0 c s Q:=fun f m D nu a w hZr hn hm hs hmx R hO hR=>by
 refine ib hmx m hZr hn c hok s a w D nu f.Z _ R hO hm hs h ?_;rintro e D' Z' s' a' w' nu' h1 h2 ⟨rfl,hk⟩;refine hR .normal D' Z' s0 a' w' nu' ?_ (jN hk h2) k;rw [<-hk.y];exact m.step h1 h2.ro hk.sH (jN hk h2).ro (fun c v hr hc=>hk.ra hr hc) (fun _ h=> .inl h) (fun _ h=> .inl h) (fun b hb=>⟨((m.mS h1).1 b hb).1,((m.mS h1).1 b hb).2, .inl hb⟩) (Nat.le_trans hn hk.n)
theorem pw {n0 id:Nat} {s:AS} {ops:Array Oper} {d:Bool} {Q:aZ->AS->Prop} (s0:AS) (hok:dP ops=true) (h:cF P n0 (.region id ops d) s (fun e s'=>e = .normal∧Wk n0 s' s0)) (k:Q .normal s0):cF P n0 (.region id ops d) s Q:=by
 have:=By (c:= .region id ops d) s0 hok h k
 cases d
 ·exact .inr this
 ·exact .inr this
end
section
variable {P:Program} {ops:Array Oper}
def gq:List Oper->List Oper
 | []=>[]
 | o :: l=>o :: l.map (fun p=>{ p with after:=p.after.push ⟨0, .data⟩ })
theorem pI (l:List Oper):(gq l).length=l.length:=by cases l<;>simp [gq]
theorem mi (l:List Oper) (i:Nat):(gq l)[i]? = (l[i]?).map (fun p=>if i=0 then p else { p with after:=p.after.push ⟨0, .data⟩ }):=by
 cases l with
 | nil=>simp [gq]
 | cons o l=>
  cases i with
  | zero=>simp [gq]
  | succ i=>simp [gq]
theorem yL (l:List Oper) (t:Array Value):yielded (gq l).toArray t=yielded l.toArray t:=by
 funext j
 simp only [yielded,Rr,mi]
 cases l[j]? with
 | none=>rfl
 | some o=>by_cases h:j=0<;>simp only [RI,Option.bind_some,h,if_true,if_false]
theorem He {F:Fence} {n:Nat} {Q:Exit->Act->World->Prop} {l:List Oper} {i:Nat} {K:Act->World->Prop} {a:Act} {w:World} (h:wpOpIn F n P (gq l).toArray Q i K a w):wpOpIn F n P l.toArray Q i K a w:=by
 unfold wpOpIn at h ⊢;simp only [Rr,mi,yL] at h ⊢
 cases ho:l[i]? with
 | none=>simpa [ho] using h
 | some o=>
  simp only [ho,RI] at h ⊢
  split at h<;>exact h
theorem Ah {F:Fence} {n:Nat} {Q:Exit->Act->World->Prop} {l:List Oper} {ops:Array Oper} {E:Act->World->Prop}: ∀(fuel:Nat) (listed:Array Bool) (a:Act) (w:World),ld (wpOpIn F n P (gq l).toArray Q) ops E fuel listed a w->ld (wpOpIn F n P l.toArray Q) ops E fuel listed a w
 | 0,_,_,_,h=>h
 | fuel+1,_,_,_,h=>⟨h.1,fun i hi=>He (wpOpIn_mono (fun _ _=>Ah fuel _ _ _) (h.2 i hi))⟩
theorem pJ {l:List Oper} {listed:Array Bool} (h0:listed.getD 0 false=true):Region.ready .any (gq l).toArray listed=Region.ready .any l.toArray listed:=by
 unfold Region.ready;simp only [Rz,pI,Rr,mi];refine List.filter_congr fun i _=> ?_
 congr 1
 cases l[i]? with
 | none=>rfl
 | some o=>
  simp only [RI,Option.getD_some]
  split
  ·rfl
  ·simp;intro _;right;simpa using h0
theorem vZ {st:Nat->(Act->World->Prop)->Act->World->Prop} (hst: ∀(i:Nat) (K K':Act->World->Prop) (a:Act) (w:World),(∀a w,K a w->K' a w)->st i K a w->st i K' a w) {l:List Oper} {E:Act->World->Prop}: ∀(fuel:Nat) (listed:Array Bool) (a:Act) (w:World),listed.getD 0 false=true->ld st (gq l).toArray E fuel listed a w->ld st l.toArray E fuel listed a w
 | 0,listed,a,w,h0,h=>by
  rw [ld,pJ h0] at h;exact h
 | fuel+1,listed,a,w,h0,h=>by
  rw [ld,pJ h0] at h;refine ⟨h.1,fun i hi=>hst _ _ _ _ _ (fun a w=>vZ hst fuel _ a w ?_) (h.2 i hi)⟩
  by_cases hi0:i=0
  ·subst hi0
   have:0<listed.size:=by
    rcases Nat.eq_zero_or_pos listed.size with q|q
    ·simp [q] at h0
    ·exact q
   simp [this]
  ·rw [getD_set_ne false hi0];exact h0
theorem B6 {r:Option Nat} {n i:Nat} {o:Oper} {Q:Exit->Act->World->Prop} (hC:dP ops=true) (hns:Region.noSelect ops=true) (hP: ∀c a w, ¬Q (.panic c) a w) (ho:ops[i]? = some o) {d t:Tmp} {v:Value} {a:Act} {w:World} {K:Act->World->Prop} (hd:d∉o.looksAt ops) (hod:o.dst≠some d) (hot:o.dst≠some t) (h:wpOpIn (WF r) n P ops Q i K (a.put (some d) v) w) :
  wpOpIn (WF r) n P ops Q i (fun a' w'=>K (a'.put (some d) v) w'∧a'.eval (.tmp t)=a.eval (.tmp t)) a w:=by
 have hsel:=fun cs b=>Region.noSelect_spec hns i o cs b ho;have hput: ∀(a:Act) (u:Value),(a.put (some d) v).put o.dst u=(a.put o.dst u).put (some d) v:=fun a u=>Act.put_comm a v u (fun e he q=>hod (by rw [q,he]))
 have hev: ∀(a:Act) (u:Value),(a.put o.dst u).eval (.tmp t)=a.eval (.tmp t):=fun a u=>Act.eval_put fun e he hx=>hot (by
  rw [he];injection hx with hx;rw [hx])
 unfold wpOpIn at h ⊢;simp only [ho] at h ⊢;rw [wanted_put o a (some d) v (fun e he=>by injection he with he;exact he ▸ hd)] at h
 split at h
 ·rename_i hw;rw [if_pos hw];refine ⟨fun f _=>trivial, ?_⟩;have h:=h.2;rw [j5 hC ho,execOp_put o hsel a (some d) v (fun e he=>by injection he with he;exact he ▸ hd)] at h;rw [j5 hC ho];generalize (execOp a.eval o).run P w=res at h ⊢
  cases res with
  | ok x w'=>
   cases x<;>simp only [Oper.uponIn] at h ⊢
   case value=>exact ⟨hput _ _ ▸ h,hev _ _⟩
   case skip=>exact ⟨hput _ _ ▸ h,hev _ _⟩
   case enter=>
    refine ⟨h.1,CallsIn.mono h.2 fun e w'' he=> ?_⟩;cases e
    case returned=>exact ⟨hput _ _ ▸ he,hev _ _⟩
    case panicked=>exact absurd he (hP _ _ _)
    case outgrown=>exact he
   case defer q=>exact ⟨hput { a with defers:=q :: a.defers } undef ▸ h,hev { a with defers:=q :: a.defers } undef⟩
   case row=>exact ⟨h.1,RowsIn.mono h.2 fun _ _ he=>⟨hput _ _ ▸ he,hev _ _⟩⟩
   case round=>
    refine ⟨h.1,RoundIn.mono h.2 fun e w'' he=> ?_⟩;cases e
    case returned=>exact ⟨hput _ _ ▸ he,hev _ _⟩
    case panicked=>exact absurd he (hP _ _ _)
    case outgrown=>exact he
  | halt x w'=>
   cases x<;>simp only [Oper.uponIn] at h ⊢
   all_goals first|exact h|exact absurd h (hP _ _ _)
 ·rename_i hw;rw [if_neg hw];exact ⟨fun f _=>trivial,hput _ _ ▸ h.2,hev _ _⟩
def sB (ops:Array Oper) (d t:Tmp):Bool:=
 Region.noSelect ops&&dP ops&&(d !=t)&&(match ops[0]? with|some o=>(o.dst==some d)&&(match o.op with| .move (.tmp u)=>u==t|_=>false)&&o.guard.isNone&&(o.after.size==0)|none=>false) &&
 (List.range ops.size).all (fun j=>j==0||match ops[j]? with|some o=>(o.dst !=some d)&&(o.dst !=some t)&&(aE ops j 0 || !(o.looksAt ops).contains d)|none=>true)
theorem wN {r:Option Nat} {n:Nat} {Q:Exit->Act->World->Prop} {d t:Tmp} (hL:sB ops d t=true):0<ops.size∧(∀(l:List Oper) (listed:Array Bool),l.toArray=ops->listed.getD 0 true=false->0∈Region.ready .any (gq l).toArray listed)∧(∀(listed:Array Bool),listed.getD 0 true=false->0∈Region.ready .any ops listed)∧ ∀(K:Act->World->Prop) a w,wpOpIn (WF r) n P ops Q 0 K a w↔K (a.put (some d) (a.eval (.tmp t))) w:=by
 simp only [sB,RY,List.all_eq_true,List.mem_range,bne_iff_ne] at hL;obtain ⟨⟨⟨⟨hns,hC⟩,hdt⟩,h0⟩,hall⟩:=hL
 obtain ⟨o0,ho0,hdst,hop,hg,haf⟩: ∃o0:Oper,ops[0]? = some o0∧o0.dst=some d∧o0.op = .move (.tmp t)∧o0.guard=none∧o0.after = #[]:=by
  cases ho:ops[0]? with
  | none=>simp [ho] at h0
  | some o=>
   simp only [ho,RY,beq_iff_eq] at h0;refine ⟨o,rfl,h0.1.1.1, ?_,by simpa using h0.1.2,by simpa using h0.2⟩
   have:=h0.1.1.2
   split at this
   ·rename_i u hu;rw [hu];simp at this;rw [this]
   ·cases this
 have h0s:0<ops.size:=by
  rcases Nat.eq_zero_or_pos ops.size with q|q
  ·rw [Array.getElem?_eq_none (by omega)] at ho0;cases ho0
  ·exact q
 refine ⟨h0s,fun l listed hl' hl=>mem_ready.2 ⟨hl,o0,by subst hl';simp only [Rr] at ho0;simp [mi,ho0],fun e he _=>by rw [haf] at he;simp at he⟩,fun listed hl=>mem_ready.2 ⟨hl,o0,ho0,fun e he _=>by rw [haf] at he;simp at he⟩, ?_⟩
 ·intro K a w;unfold wpOpIn;simp only [ho0];rw [if_pos (by simp [Region.wanted,hg])];unfold Oper.wpIn;rw [j5 hC ho0]
  have:(execOp a.eval o0).run P w = .ok (.value (a.eval (.tmp t))) w:=by unfold execOp;rw [hop];rfl
  rw [this];simp only [Oper.uponIn,hdst];exact ⟨fun h=>h.2,fun h=>⟨fun f _=>trivial,h⟩⟩
theorem y7 {r:Option Nat} {n:Nat} {Q:Exit->Act->World->Prop} {E:Act->World->Prop} {d t:Tmp} (hL:sB ops d t=true) (hP: ∀c a w, ¬Q (.panic c) a w): ∀(fuel:Nat) (listed:Array Bool) (a:Act) (w:World),listed.size=ops.size->listed.getD 0 true=false->ld (wpOpIn (WF r) n P ops Q) ops E fuel (listed.setIfInBounds 0 true) (a.put (some d) (a.eval (.tmp t))) w->ld (wpOpIn (WF r) n P ops Q) ops E (fuel+1) listed a w:=by
 obtain ⟨h0s, -,hread,hrun⟩:=wN (P:=P) (Q:=Q) (r:=r) (n:=n) hL;simp only [sB,RY,List.all_eq_true,List.mem_range,bne_iff_ne] at hL;obtain ⟨⟨⟨⟨hns,hC⟩,hdt⟩,h0⟩,hall⟩:=hL
 have hstep: ∀(listed:Array Bool),listed.size=ops.size->listed.getD 0 true=false-> ∀i∈Region.ready .any ops listed,i≠0->i∈Region.ready .any ops (listed.setIfInBounds 0 true)∧ ∀(K:Act->World->Prop) v a w,wpOpIn (WF r) n P ops Q i K (a.put (some d) v) w->wpOpIn (WF r) n P ops Q i (fun a' w'=>K (a'.put (some d) v) w'∧a'.eval (.tmp t)=a.eval (.tmp t)) a w:=by
  intro listed hs hl i hi hi0;obtain ⟨g1,o,g2,g3⟩:=mem_ready.1 hi;have hil:i<ops.size:=(Q8.1 g2).1
  refine ⟨mem_ready.2 ⟨by rw [getD_set_ne true (Ne.symm hi0)];exact g1,o,g2,fun e he hb=> ?_⟩, ?_⟩
  ·by_cases he0:e.on=0
   ·rw [he0];simp [hs,h0s]
   ·rw [getD_set_ne false (Ne.symm he0)];exact g3 e he hb
  ·have ha:=hall i hil;simp only [g2,Bool.or_eq_true,beq_iff_eq,hi0,false_or,RY,bne_iff_ne] at ha;intro K v a w h;refine B6 hC hns hP g2 ?_ ha.1.1 ha.1.2 h
   rcases ha.2 with hdep|hlook
   ·exfalso;simp only [aE,g2,RY,beq_iff_eq,Array.any_eq_true'] at hdep;obtain ⟨e,he,hb,h00⟩:=hdep
    have:=g3 e he hb
    rw [h00] at this;simp only [Array.getD_eq_getD_getElem?] at this hl;rw [Ro (by omega)] at this hl;simp at this hl;rw [this] at hl;cases hl
   ·intro hm;rw [List.contains_iff_mem.2 hm] at hlook;cases hlook
 intro fuel
 induction fuel with
 | zero=>
  intro listed a w hs hl h
  refine ⟨fun he=> ?_,fun i hi=> ?_⟩
  ·have:=hread listed hl;rw [he] at this;cases this
  ·by_cases hi0:i=0
   ·subst hi0;exact (hrun _ _ _).2 h
   ·have:=(hstep listed hs hl i hi hi0).1
    rw [h.1] at this;cases this
 | succ fuel ih=>
  intro listed a w hs hl h
  refine ⟨fun he=> ?_,fun i hi=> ?_⟩
  ·have:=hread listed hl;rw [he] at this;cases this
  ·by_cases hi0:i=0
   ·subst hi0;exact (hrun _ _ _).2 h
   ·obtain ⟨q1,q2⟩:=hstep listed hs hl i hi hi0;refine wpOpIn_mono (fun a' w' hk=> ?_) (q2 _ _ _ _ (h.2 i q1));have e:(listed.setIfInBounds 0 true).setIfInBounds i true=(listed.setIfInBounds i true).setIfInBounds 0 true:=Array.setIfInBounds_comm _ _ (Ne.symm hi0)
    refine ih _ a' w' (by simpa using hs) ?_ ?_
    ·rw [getD_set_ne true hi0];exact hl
    ·rw [<-e,hk.2];exact hk.1
theorem nh {n0 id:Nat} {s:AS} {l:List Oper} {Q:aZ->AS->Prop} (m0 d t:Nat) (hL:sB l.toArray d t=true) (hB:gI (gq l).toArray m0=true) (hC:dP (gq l).toArray=true) (h:dI P (gq l) (fun s=>iS P (gq l) ((gq l).drop m0) s (Q .normal)) ((gq l).take m0) s):cF P n0 (.region id l.toArray true) s Q:=by
 refine .inr (fun f m D nu a w hZr hn hm hs hmx R hO hR=> ?_)
 have hCl:dP l.toArray=true:=by
  simp only [sB,RY] at hL;exact hL.1.1.1.2
 have hm0:m0<=(gq l).length:=by
  simp only [gI,RY,decide_eq_true_eq,Rz] at hB;exact Nat.le_of_lt hB.1.1.2
 have hcalm: ∀oo,oo∈(gq l).drop m0-> ∀c,oo.op ≠ .defer c:=fun oo ho c e=>by
  unfold dP at hC;rw [Array.all_eq_true_iff_forall_mem] at hC;have h2:=hC oo (by simpa using List.mem_of_mem_drop ho);rw [e] at h2;cases h2
 obtain ⟨R',hR'⟩: ∃R':Exit->Act->World->Prop,R'=fun e a w=>(match e with| .panic _=>False|_=>True)∧R e a w:=⟨_,rfl⟩
 have hP: ∀c a w, ¬R' (.panic c) a w:=fun c a w q=>by rw [hR'] at q;exact q.1
 have hN: ∀a w,R .normal a w->R' .normal a w:=fun a w q=>by rw [hR'];exact ⟨trivial,q⟩
 obtain ⟨rs,hrel⟩:=gm (P:=P) (T:=fun k=>mI (wpOpIn (WF f.r) 9 P (gq l).toArray R') (R' .normal) (List.range' k ((gq l).length - k))) hm0 hB hs.drew (fun sk a' wr hE ho hy hsk hB'=>mo _ _ _ _ (by omega) (iV m hZr _ sk a' wr D nu hcalm (by
  rw [ho,hy];exact m.own hm hs.ro ((aw (cX w)).trans (aw hE)) (ho ▸ hsk.ro)) hsk hB' (fun D' s' a2 w2 nu' q1 q2 q3=>hN _ _ (hR .normal D' f.Z s' a2 w2 nu' q1 q2 q3)))) ((gq l).take m0) 0 s [] (fun _=>a) (by simp) (Nat.zero_le _) ⟨rfl,rfl,rfl,fun _=>rfl,fun _=>hs.tm.len,fun x t c v h1 h2=> .inl ⟨h1,h2⟩⟩ h
 have hX:=fN _ (fun _=>false) (fun i v w h=>by cases h) m0 (AO hC R') hB (jG _ _ _ hrel);have hX:=Ah _ _ _ _ hX
 have hlen:0<l.length:=by
  rw [<-pI];simp only [gI,RY,decide_eq_true_eq,Rz] at hB
  have:=hB.1.1.2;omega
 obtain ⟨fuel,hf⟩: ∃fuel,l.length=fuel+1:=⟨l.length - 1,by omega⟩
 have hX2:ld (wpOpIn (WF f.r) 9 P l.toArray R') l.toArray (R' .normal) (fuel+1) (Array.replicate (fuel+1) false) a w.drew:=by
  rw [Rz,pI,hf] at hX;refine y7 hL hP fuel _ a _ (by simp [hf]) (by simp) ?_;obtain ⟨-, he, -,hrun⟩:=wN (P:=P) (Q:=R') (r:=f.r) (n:=9) hL;exact vZ (st:=wpOpIn (WF f.r) 9 P l.toArray R') (fun i K K' a w h k=>wpOpIn_mono h k) fuel ((Array.replicate (fuel+1) false).setIfInBounds 0 true) _ _ (by simp) ((hrun _ _ _).1 (hX.2 0 (he l _ rfl (by simp))))
 refine Code.wpIn_mono (Q:=R') (fun e a w q=>by rw [hR'] at q;exact q.2) (wpIn_region_any hmx (tL _ _ _ _ ?_));rw [Rz,hf];exact hX2
end
end
theorem uw {l:List ByteArray} (hn:l.Nodup) {i:Nat} (h:i<l.length):l[i]∉l.take i:=fun q=>by
 obtain ⟨j,hj,e⟩:=List.mem_take_iff_getElem.1 q;exact List.pairwise_iff_getElem.1 hn j i (by omega) h (by omega) e
theorem E7:cZ []=[]:=rfl
def Bl (a:List Nat):List AV:=[.aC 1 (au a) a.length]
theorem ve (n:Nat) (a:List Nat):bn n (Bl a)=true:=by simp only [Bl,bn,AV.wf,jh,Tg]
@[go_sem] theorem M6 (n:Nat) (l:List (List Nat)):dA n (l.map Bl)=true:=bE _ (ve n) _
def oz:Option oN->AV
 | some st=> .dC [.vp (gV st.rows st.ends), .v (.bool true)]
 | none=> .dC [.v (.pointer none), .v (.bool false)]
theorem Gi (o:Option oN):(oz o).wf 0=true:=by
 cases o with
 | none=>rfl
 | some st=>simp only [oz,AV.wf,bn,gV,mQ,mP,Tg]
theorem lH (m:BitVec 32):(∀n∈ay m,n<100)∧(ay m).length<=1000:=by
 refine ⟨fun n hn=> ?_, ?_⟩
 ·rw [ay,List.mem_filter,List.mem_range] at hn;omega
 ·have:=List.length_filter_le m.getLsbD (List.range 32)
  rw [List.length_range] at this;rw [ay];omega
theorem y9 {s:ck} {a:List Nat} (h:Made (c6 s) a):(∀n∈a,n<100)∧a.length<=1000:=by
 rcases h.2 with rfl|⟨cur,l,rfl⟩
 ·simp
 ·exact lH _
def gw (s:ck) (st:oN):List (Option aa):=[some ⟨75,1,false,[[.aC 1 (au (ay s.la)) (ay s.la).length]]⟩,some ⟨192,0,false,Ds (st.all.map iN)⟩,none,none,some ⟨75,1,true,st.all.map Bl⟩,some ⟨162,2,false,[[.vec 6 st.rows.length, .vec 7 st.rows.length]]⟩,some ⟨193,1,true,st.rows.map (fun r=>[.mp (cZ r)])⟩,some ⟨4,1,true,st.ends.map (fun b=>[.v (.bool b)])⟩]
theorem Kr {s:ck} (ok:JK s) (ai:List ByteArray) (hn:ai.Nodup) (hl:ai.length<=1000) (hb:(ay s.la).length<=1000):ag Tryz.prog 114 [.vp (gu s),aK ai] (oz (tf (c6 s) s.em (ay s.la) ai)):=by
 have CL:=Ij s ok.len;have CE:=Fb s ok.len;have CK0:=Jk [0] (by simp) (by simp);have e0:au [0]=[[.v (.int .i64 0)]]:=rfl;rw [e0] at CK0;simp only [Rg,Q9,Nat.reduceAdd] at CK0
 have hA:bn 0 [AV.vp (gu s),aK ai]=true:=by simp only [aK,bn,AV.wf,vi,aA,Tg]
 have hF:=Gi (tf (c6 s) s.em (ay s.la) ai);generalize hrv:oz (tf (c6 s) s.em (ay s.la) ai)=rv at hF ⊢
 (refine ag.yM Tryz.func114 rfl (by kernel_rfl) (by kernel_rfl) rfl hA hF ?_;simp only [Tryz.ntmps114,Tryz.results114,Rg,Q9,Nat.reduceAdd,Nat.reduceSub,Ti,Tj,Tl,Tm])
 repeat (first|(with_reducible first|refine af.up ?_|refine fun (K:AK) hK=> ?_|(refine hK _ ?_;clear hK K))|simp only [go_sem]|with_reducible refine wA ?_|clear hK K)
 refine ab.one CL ?_
 repeat (first|(with_reducible first|refine af.up ?_|refine fun (K:AK) hK=> ?_|(refine hK _ ?_;clear hK K))|simp only [go_sem]|with_reducible refine wA ?_|clear hK K)
 refine ab.x5 CK0 8 rfl (by simp only [go_sem,Nat.reduceLT,Nat.reduceLeDiff,Nat.reduceEqDiff,TC,TD,and_self]) rfl ?_
 repeat ((fail_if_success (with_reducible refine bD (i:=5) ?_));first|(with_reducible first|refine af.up ?_|refine fun (K:AK) hK=> ?_|(refine hK _ ?_;clear hK K))|simp only [go_sem]|with_reducible refine wA ?_|clear hK K)
 refine aJ (cA (k:=4) (i:=0) (j:=0) (by decide) rfl (Nat.zero_lt_succ _) rfl rfl rfl rfl rfl) (by kernel_rfl) ?_;simp only [SP,SN,Rg,Q9,Nat.reduceAdd,Tl,Tm];refine aJ (bY (k:=5) (i:=0) (j:=0) 193 1 (by decide) rfl (by decide) rfl rfl) (by kernel_rfl) ?_;simp only [SP,SN,Rg,Q9,Nat.reduceAdd,Tl,Tm];refine aJ (bY (k:=5) (i:=0) (j:=1) 4 1 (by decide) rfl (by decide) rfl rfl) (by kernel_rfl) ?_;simp only [SP,SN,Rg,Q9,Nat.reduceAdd,Tl,Tm]
 repeat (first|(with_reducible first|refine af.up ?_|refine fun (K:AK) hK=> ?_|(refine hK _ ?_;clear hK K))|simp only [go_sem]|with_reducible refine wA ?_|clear hK K)
 refine cV (ι:=oN) 10 (fun st=>[(8, .vec 4 st.all.length),(10, .v (.int .i64 st.rows.length))]) (gw s) (fun st=>257 - st.rows.length) (fun st=>Bj ai st∧(∀a∈st.all,Made (c6 s) a)∧oz (qR (c6 s) s.em (ay s.la) ai (257 - st.rows.length) st)=rv) s0
  ⟨Kq ai,fun a ha=>by simp only [s0,List.mem_singleton] at ha;subst ha;exact ⟨by simp, .inl rfl⟩,hrv⟩ ?_ ?_
 ·simp only [gw,s0]
  (refine ak ?_ ?_ ?_<;>simp only [aR,SI,SL,Ti,Tj,aX,aW,AV.v.injEq,Value.int.injEq,Value.bool.injEq,Value.string.injEq,AV.vec.injEq,AV.ptr.injEq,true_or,or_true,false_or,or_false,aa.mk.injEq,forall_eq_apply_imp_iff,forall_eq,forall_eq',go_sem])
  ·rfl
  ·exact ⟨rfl,rfl,ve _ _⟩
 ·rintro st ⟨hok,hmade,hrun⟩ K hK;have h257:=hok.max;have hel:=hok.ends;simp only [gw]
  repeat (first|(with_reducible first|refine af.up ?_|refine fun (K:AK) hK=> ?_|(refine hK _ ?_;clear hK K))|simp only [go_sem]|with_reducible refine wA ?_|clear hK K)
  refine cL.part (fun h=> ?_) (fun h=> ?_)
  ·have hlt:st.rows.length<st.all.length:=by (try simp only [bne_iff_ne,ne_eq,bne_eq_false_iff_eq,beq_iff_eq,beq_eq_false_iff_ne,decide_eq_true_eq,decide_eq_false_iff_not,Tn,To,Tp,Tq] at h);omega
   rw [show 257 - st.rows.length=(256 - st.rows.length)+1 by have:=hok.le;omega,qR,if_pos hlt] at hrun
   repeat (first|(with_reducible first|refine af.up ?_|refine fun (K:AK) hK=> ?_|(refine hK _ ?_;clear hK K))|simp only [go_sem,h]|with_reducible refine wA ?_|clear hK K)
   obtain ⟨hcm,hcl⟩:=y9 (hmade _ (ij (d:=[]) hlt));rw [<-ez] at hcm hcl
   refine cV (ι:=Nat) 38 (fun i=>[(8, .vec 4 (gE (c6 s) (ez st) st.all (ai.take i)).1.length),(13, .undef),(14, .undef),(15, .undef),(16, .undef),(37, .v (.int .i64 i))]) (fun i=>gw s { st with all:=(gE (c6 s) (ez st) st.all (ai.take i)).1 }++[some ⟨193,0,false,cZ (gE (c6 s) (ez st) st.all (ai.take i)).2⟩]) (fun i=>ai.length - i) (fun i=>i<=ai.length) 0 (Nat.zero_le _) ?_ ?_
   ·simp only [gw,TE,gE,SL,E7,Tl,Tm]
    (refine ak ?_ ?_ ?_<;>simp only [aR,SI,SL,Ti,Tj,aX,aW,AV.v.injEq,Value.int.injEq,Value.bool.injEq,Value.string.injEq,AV.vec.injEq,AV.ptr.injEq,true_or,or_true,false_or,or_false,aa.mk.injEq,forall_eq_apply_imp_iff,forall_eq,forall_eq',go_sem])
    all_goals rfl
   ·intro i hi K hK;obtain ⟨k1,k2,k3,k4,k5,t,k6⟩:=uZ (c6 s) (cur:=ez st) hok.nd (ai.take i);have hmd:=Da (c6 s) hmade (cur:=ez st) (ai.take i);have hlk: ∀l,l∉ai.take i->look (gE (c6 s) (ez st) st.all (ai.take i)).2 l=none:=fun l hl=>sE.2 fun q=>hl (k5.subset q)
    rcases hRi:gE (c6 s) (ez st) st.all (ai.take i) with ⟨al,ro⟩
    rw [hRi] at k1 k2 k3 k4 k5 k6 hmd hlk;simp only at k1 k2 k3 k4 k5 k6 hmd hlk
    have hal:al.length<=2000:=by rw [List.length_take] at k4;omega
    simp only [gw,Tl,Tm]
    repeat (first|(with_reducible first|refine af.up ?_|refine fun (K:AK) hK=> ?_|(refine hK _ ?_;clear hK K))|simp only [go_sem]|with_reducible refine wA ?_|clear hK K)
    refine cL.part (fun h2=> ?_) (fun h2=> ?_)
    ·have hli:i<ai.length:=by (try simp only [bne_iff_ne,ne_eq,bne_eq_false_iff_eq,beq_iff_eq,beq_eq_false_iff_ne,decide_eq_true_eq,decide_eq_false_iff_not,Tn,To,Tp,Tq] at h2);omega
     have eW:=aD (k:=i) (by omega);have eG:=getD_map encS ai i [] hli
     have eC:(al.map Bl).getD st.rows.length []=[.aC 1 (au (ez st)) (ez st).length]:=by
      have hx:al.getD st.rows.length []=ez st:=by rw [k6,fm hlt];rfl
      rw [R6,List.getElem?_map,Rp (by omega)];rw [R6,Rp (by omega)] at hx;simp only [RI,Option.getD_some] at hx ⊢;rw [hx];rfl
     have hN:=kR (c6 s) (ez st) st.all (ai.take i) ai[i];rw [<-List.take_succ_eq_append_getElem hli,hRi,AJ] at hN;have CS:=IT ok (ez st) ai[i] (by omega);obtain ⟨ts,tl⟩:=lH (lu s (jR s (qb (ez st))) ai[i]);have CKy:=Jk (c6 s (ez st) ai[i]) ts (by have:(c6 s (ez st) ai[i]).length<=1000:=tl;omega);have tl':(c6 s (ez st) ai[i]).length<=1000:=tl;generalize hto:c6 s (ez st) ai[i]=to at *;simp only [encS] at eG
     repeat (first|(with_reducible first|refine af.up ?_|refine fun (K:AK) hK=> ?_|(refine hK _ ?_;clear hK K))|simp only [go_sem,eG,eC,h2]|with_reducible refine wA ?_|clear hK K)
     refine ab.one CS ?_
     repeat (first|(with_reducible first|refine af.up ?_|refine fun (K:AK) hK=> ?_|(refine hK _ ?_;clear hK K))|simp only [go_sem]|with_reducible refine wA ?_|clear hK K)
     refine cL.part (fun h3=> ?_) (fun h3=> ?_)
     ·have hz:to=[]:=List.eq_nil_of_length_eq_zero (by (try simp only [bne_iff_ne,ne_eq,bne_eq_false_iff_eq,beq_iff_eq,beq_eq_false_iff_ne,decide_eq_true_eq,decide_eq_false_iff_not,Tn,To,Tp,Tq] at h3);omega);rw [if_pos hz] at hN
      repeat (first|(with_reducible first|refine af.up ?_|refine fun (K:AK) hK=> ?_|(refine hK _ ?_;clear hK K))|simp only [go_sem,eW]|with_reducible refine wA ?_|clear hK K)
      refine aM.mk (i+1) (by omega) (by omega) ?_;rw [hN];simp only [gw,Tl,Tm]
      (refine ak ?_ ?_ ?_<;>simp only [aR,SI,SL,Ti,Tj,aX,aW,AV.v.injEq,Value.int.injEq,Value.bool.injEq,Value.string.injEq,AV.vec.injEq,AV.ptr.injEq,true_or,or_true,false_or,or_false,aa.mk.injEq,forall_eq_apply_imp_iff,forall_eq,forall_eq',go_sem])
     ·have hz: ¬to=[]:=fun e=>by subst e;simp at h3
      rw [if_neg hz] at hN;have eA:=DR (iN to) (al.map iN)
      repeat (first|(with_reducible first|refine af.up ?_|refine fun (K:AK) hK=> ?_|(refine hK _ ?_;clear hK K))|simp only [go_sem]|with_reducible refine wA ?_|clear hK K)
      refine ab.one CKy ?_
      cases hp:pos (al.map iN) (iN to) with
      | some k=>
       rw [hp] at hN eA;simp only [RI] at eA hN;have eS:=mY ai[i] k ro (hlk _ (uw hn hli))
       repeat (first|(with_reducible first|refine af.up ?_|refine fun (K:AK) hK=> ?_|(refine hK _ ?_;clear hK K))|simp only [go_sem,eA,eS,eW]|with_reducible refine wA ?_|clear hK K)
       refine aM.mk (i+1) (by omega) (by omega) ?_;rw [hN];simp only [gw,Tl,Tm]
       (refine ak ?_ ?_ ?_<;>simp only [aR,SI,SL,Ti,Tj,aX,aW,AV.v.injEq,Value.int.injEq,Value.bool.injEq,Value.string.injEq,AV.vec.injEq,AV.ptr.injEq,true_or,or_true,false_or,or_false,aa.mk.injEq,forall_eq_apply_imp_iff,forall_eq,forall_eq',go_sem])
      | none=>
       rw [hp] at hN eA;simp only [Option.map_none] at eA hN;have eS:=mY ai[i] al.length ro (hlk _ (uw hn hli));have eK:=DT (iN to) (al.map iN) hp;rw [R5] at eK
       repeat (first|(with_reducible first|refine af.up ?_|refine fun (K:AK) hK=> ?_|(refine hK _ ?_;clear hK K))|simp only [go_sem,eA,eS,eW]|with_reducible refine wA ?_|clear hK K)
       refine ab.one CKy ?_
       repeat (first|(with_reducible first|refine af.up ?_|refine fun (K:AK) hK=> ?_|(refine hK _ ?_;clear hK K))|simp only [go_sem,eK,eS,eW]|with_reducible refine wA ?_|clear hK K)
       refine aM.mk (i+1) (by omega) (by omega) ?_;rw [hN];simp only [gw,Tl,Tm,TL,TN,TT,Rf,Rg,Q9]
       (refine ak ?_ ?_ ?_<;>simp only [aR,SI,SL,Ti,Tj,aX,aW,AV.v.injEq,Value.int.injEq,Value.bool.injEq,Value.string.injEq,AV.vec.injEq,AV.ptr.injEq,true_or,or_true,false_or,or_false,aa.mk.injEq,forall_eq_apply_imp_iff,forall_eq,forall_eq',go_sem])
       all_goals exact ⟨rfl,ve _ _⟩
    ·have hil:i=ai.length:=by (try simp only [bne_iff_ne,ne_eq,bne_eq_false_iff_eq,beq_iff_eq,beq_eq_false_iff_ne,decide_eq_true_eq,decide_eq_false_iff_not,Tn,To,Tp,Tq] at h2);omega
     rw [hil,List.take_length] at hRi
     have hall:(dw (c6 s) s.em (ay s.la) ai st).all=al:=by rw [dw,hRi]
     have hrow:(dw (c6 s) s.em (ay s.la) ai st).rows=st.rows++[ro]:=by rw [dw,hRi]
     rw [hall] at hrun
     repeat (first|(with_reducible first|refine af.up ?_|refine fun (K:AK) hK=> ?_|(refine hK _ ?_;clear hK K))|simp only [go_sem]|with_reducible refine wA ?_|clear hK K)
     refine cL.part (fun h3=> ?_) (fun h3=> ?_)
     ·rw [if_pos (by (try simp only [bne_iff_ne,ne_eq,bne_eq_false_iff_eq,beq_iff_eq,beq_eq_false_iff_ne,decide_eq_true_eq,decide_eq_false_iff_not,Tn,To,Tp,Tq] at h3);omega)] at hrun
      repeat (first|(with_reducible first|refine af.up ?_|refine fun (K:AK) hK=> ?_|(refine hK _ ?_;clear hK K))|simp only [go_sem]|with_reducible refine wA ?_|clear hK K)
      rw [<-hrun];exact eu.dC ⟨eu.v _,eu.v _,trivial⟩
     ·have h256: ¬ 256<al.length:=by (try simp only [bne_iff_ne,ne_eq,bne_eq_false_iff_eq,beq_iff_eq,beq_eq_false_iff_ne,decide_eq_true_eq,decide_eq_false_iff_not,Tn,To,Tp,Tq] at h3);omega
      rw [if_neg h256] at hrun
      repeat ((fail_if_success (with_reducible refine bD (i:=24) ?_));first|(with_reducible first|refine af.up ?_|refine fun (K:AK) hK=> ?_|(refine hK _ ?_;clear hK K))|simp only [go_sem]|with_reducible refine wA ?_|clear hK K)
      refine aJ (zM 11 8 rfl rfl rfl rfl) (by kernel_rfl) ?_;simp only [SP,SN]
      repeat ((fail_if_success (with_reducible refine bD (i:=25) ?_));first|(with_reducible first|refine af.up ?_|refine fun (K:AK) hK=> ?_|(refine hK _ ?_;clear hK K))|simp only [go_sem]|with_reducible refine wA ?_|clear hK K)
      have CF:=oG (g:=153) [.vp [.aC 1 (au (ay s.la)) (ay s.la).length]] (by simp only [bn,AV.wf,jh,Tg]) (fun n=>(ay s.la).contains n) (ez st) (by omega) (fun n=>EM (ay s.la) n (by omega))
      have eC:(al.map Bl).getD st.rows.length []=[.aC 1 (au (ez st)) (ez st).length]:=by
       have hx:al.getD st.rows.length []=ez st:=by rw [k6,fm hlt];rfl
       rw [R6,List.getElem?_map,Rp (by omega)];rw [R6,Rp (by omega)] at hx;simp only [RI,Option.getD_some] at hx ⊢;rw [hx];rfl
      have hE:xD s.em (ay s.la) st=(((st.rows.length:Int)==0&&s.em)||(ez st).any (fun n=>(ay s.la).contains n)):=by
       rw [xD];congr 2;rw [Bool.eq_iff_iff,beq_iff_eq,beq_iff_eq];omega
      refine pw ⟨aR 112 [(0, .vp (gu s)),(1, .aC 1 (ai.map encS) ai.length),(4, .v (.pointer none)),(5, .v (.bool false)),(6, .ptr 0 0 1 0 0),(7, .vec 1 0),(8, .vec 4 al.length),(9, .ptr 5 0 2 0 0),(10, .v (.int .i64 st.rows.length))],gw s (dw (c6 s) s.em (ay s.la) ai st), .no⟩ (by kernel_rfl) ?_ ?_
      ·have hO:gw s (dw (c6 s) s.em (ay s.la) ai st)=gw s ⟨al,st.rows++[ro],st.ends++[xD s.em (ay s.la) st]⟩:=by rw [dw,hRi]
       rw [hO]
       rcases (Tu ((st.rows.length:Int)==0)).symm with hZ|hZ
       ·have hE2:xD s.em (ay s.la) st=(ez st).any (fun n=>(ay s.la).contains n):=by rw [hE,hZ,Bool.false_and,Bool.false_or]
        simp only [gw,TL,TN,TT,Rf,Rg,Q9,hE2]
        (refine nh 20 88 9 (by kernel_rfl) (by decide+kernel) (by kernel_rfl) ?_;simp only [gq,TN,TT,TW,Tl,Tm,TX,TY,TF,TE])
        repeat (first|(with_reducible first|refine af.up ?_|refine fun (K:AK) hK=> ?_|(refine hK _ ?_;clear hK K))|simp only [go_sem,eC,hZ]|with_reducible refine wA ?_|clear hK K)
        refine aQ.x5 CF 20 rfl (by simp only [go_sem,Nat.reduceLT,Nat.reduceLeDiff,Nat.reduceEqDiff,TC,TD,and_self]) rfl ?_
        repeat (first|(with_reducible first|refine af.up ?_|refine fun (K:AK) hK=> ?_|(refine hK _ ?_;clear hK K))|simp only [go_sem,eC,hZ]|with_reducible refine wA ?_|clear hK K)
        (refine ak ?_ ?_ ?_<;>simp only [aR,SI,SL,Ti,Tj,aX,aW,AV.v.injEq,Value.int.injEq,Value.bool.injEq,Value.string.injEq,AV.vec.injEq,AV.ptr.injEq,true_or,or_true,false_or,or_false,aa.mk.injEq,forall_eq_apply_imp_iff,forall_eq,forall_eq',go_sem])
       ·rcases (Tu s.em).symm with hem|hem
        ·have hE2:xD s.em (ay s.la) st=(ez st).any (fun n=>(ay s.la).contains n):=by rw [hE,hZ,hem];simp
         simp only [gw,TL,TN,TT,Rf,Rg,Q9,hE2]
         (refine nh 20 88 9 (by kernel_rfl) (by decide+kernel) (by kernel_rfl) ?_;simp only [gq,TN,TT,TW,Tl,Tm,TX,TY,TF,TE])
         repeat (first|(with_reducible first|refine af.up ?_|refine fun (K:AK) hK=> ?_|(refine hK _ ?_;clear hK K))|simp only [go_sem,eC,hZ]|with_reducible refine wA ?_|clear hK K)
         refine aQ.one CE ?_
         repeat (first|(with_reducible first|refine af.up ?_|refine fun (K:AK) hK=> ?_|(refine hK _ ?_;clear hK K))|simp only [go_sem,eC,hem]|with_reducible refine wA ?_|clear hK K)
         refine aQ.x5 CF 20 rfl (by simp only [go_sem,Nat.reduceLT,Nat.reduceLeDiff,Nat.reduceEqDiff,TC,TD,and_self]) rfl ?_
         repeat (first|(with_reducible first|refine af.up ?_|refine fun (K:AK) hK=> ?_|(refine hK _ ?_;clear hK K))|simp only [go_sem,eC,hem]|with_reducible refine wA ?_|clear hK K)
         (refine ak ?_ ?_ ?_<;>simp only [aR,SI,SL,Ti,Tj,aX,aW,AV.v.injEq,Value.int.injEq,Value.bool.injEq,Value.string.injEq,AV.vec.injEq,AV.ptr.injEq,true_or,or_true,false_or,or_false,aa.mk.injEq,forall_eq_apply_imp_iff,forall_eq,forall_eq',go_sem])
        ·have hE2:xD s.em (ay s.la) st=true:=by rw [hE,hZ,hem];simp
         simp only [gw,TL,TN,TT,Rf,Rg,Q9,hE2]
         (refine nh 20 88 9 (by kernel_rfl) (by decide+kernel) (by kernel_rfl) ?_;simp only [gq,TN,TT,TW,Tl,Tm,TX,TY,TF,TE])
         repeat (first|(with_reducible first|refine af.up ?_|refine fun (K:AK) hK=> ?_|(refine hK _ ?_;clear hK K))|simp only [go_sem,eC,hZ]|with_reducible refine wA ?_|clear hK K)
         refine aQ.one CE ?_
         repeat (first|(with_reducible first|refine af.up ?_|refine fun (K:AK) hK=> ?_|(refine hK _ ?_;clear hK K))|simp only [go_sem,eC,hem]|with_reducible refine wA ?_|clear hK K)
         (refine ak ?_ ?_ ?_<;>simp only [aR,SI,SL,Ti,Tj,aX,aW,AV.v.injEq,Value.int.injEq,Value.bool.injEq,Value.string.injEq,AV.vec.injEq,AV.ptr.injEq,true_or,or_true,false_or,or_false,aa.mk.injEq,forall_eq_apply_imp_iff,forall_eq,forall_eq',go_sem])
      ·have hlen:(dw (c6 s) s.em (ay s.la) ai st).rows.length=st.rows.length+1:=by rw [hrow,Rf,List.length_singleton]
       have eW:=aD (k:=st.rows.length) (by omega);obtain ⟨nx,hnx⟩: ∃nx,nx=dw (c6 s) s.em (ay s.la) ai st:=⟨_,rfl⟩;have hnok:Bj ai nx:=hnx ▸ qQ (c6 s) s.em (ay s.la) hok hlt (by rw [hall];exact h256);rw [<-hnx] at hrun hlen hall ⊢;simp only [gw];simp only [aR,SI,SL,Ti,Tj,go_sem]
       repeat (first|(with_reducible first|refine af.up ?_|refine fun (K:AK) hK=> ?_|(refine hK _ ?_;clear hK K))|simp only [go_sem,eW]|with_reducible refine wA ?_|clear hK K)
       refine aM.mk nx ⟨hnok,by rw [hall];exact hmd,by rw [hlen,show 257 - (st.rows.length+1)=256 - st.rows.length by omega];exact hrun⟩ (by rw [hlen];have:=hok.le;omega) ?_;simp only [gw,hall,hlen]
       (refine ak ?_ ?_ ?_<;>simp only [aR,SI,SL,Ti,Tj,aX,aW,AV.v.injEq,Value.int.injEq,Value.bool.injEq,Value.string.injEq,AV.vec.injEq,AV.ptr.injEq,true_or,or_true,false_or,or_false,aa.mk.injEq,forall_eq_apply_imp_iff,forall_eq,forall_eq',go_sem])
  ·have hge:st.rows.length=st.all.length:=by have:=hok.le;(try simp only [bne_iff_ne,ne_eq,bne_eq_false_iff_eq,beq_iff_eq,beq_eq_false_iff_ne,decide_eq_true_eq,decide_eq_false_iff_not,Tn,To,Tp,Tq] at h);omega
   rw [show 257 - st.rows.length=(256 - st.rows.length)+1 by omega,qR,if_neg (by omega)] at hrun;have hel:=hok.ends
   repeat (first|(with_reducible first|refine af.up ?_|refine fun (K:AK) hK=> ?_|(refine hK _ ?_;clear hK K))|simp only [go_sem]|with_reducible refine wA ?_|clear hK K)
   rw [<-hrun];simp only [oz,gV,hel];exact eu.dC ⟨eu.ptr (ob:=⟨162,2,false,[[.vec 6 st.rows.length, .vec 7 st.rows.length]]⟩) rfl rfl rfl (Nat.succ_ne_zero 1) ⟨eu.M5 (ob:=⟨193,1,true,st.rows.map (fun r=>[.mp (cZ r)])⟩) rfl rfl (R5 _) (mQ _ _),eu.M5 (ob:=⟨4,1,true,st.ends.map (fun b=>[.v (.bool b)])⟩) rfl rfl ((R5 _).trans hel) (mP _ _),trivial⟩,eu.v _,trivial⟩
structure Of (rows:List bP) (ends:List Bool):Prop where
 n:rows.length<=256
 e:ends.length=rows.length
 rH: ∀r∈rows,l7 (r.map Prod.fst)
 len: ∀r∈rows,r.length<=1000
 lab: ∀r∈rows, ∀p∈r,p.1.size<=1000∧p.2<rows.length
theorem mf (a b:ByteArray):(a++b).size=a.size+b.size:=ByteArray.size_append
theorem tP (u:Nat) (h:u<1000):(⟨(Lib.decDigits u).toArray⟩:ByteArray).size<=3:=by
 have:=pH u h
 simpa [ByteArray.size] using this
theorem sQ (part:List Nat) (p:Nat):df part p []=⟨(Lib.decDigits p).toArray⟩:=by simp [df,uG]
theorem qD (part:List Nat) (p:Nat) (r:bP) (e:ByteArray×Nat):df part p (r++[e])=df part p r++(((⟨#[32]⟩++e.1)++⟨#[32]⟩)++⟨(Lib.decDigits (part.getD e.2 0)).toArray⟩):=by
 apply ByteArray.ext
 rw [df,CB];simp [df,ByteArray.data_append]
theorem zj (part:List Nat) (p:Nat) (hp:p<1000) (hq: ∀s,part.getD s 0<1000): ∀r:bP,(∀e∈r,e.1.size<=1000)->(df part p r).size<=3+1005 * r.length:=by
 refine mL ?_ ?_
 ·intro _;rw [sQ];have:=tP p hp;simpa using this
 ·intro r e ih h;have h1:=ih fun x hx=>h x (List.mem_append_left _ hx);have h2:=h e (by simp);have h3:=tP _ (hq e.2);have h4:(⟨#[32]⟩:ByteArray).size=1:=rfl;rw [qD,mf,mf,mf,mf,h4,Rf,List.length_singleton];omega
theorem oU {l:List Nat} {b:Nat} (hb:0<b) (h: ∀v∈l,v<b) (s:Nat):l.getD s 0<b:=by
 rw [R6]
 cases hs:l[s]? with
 | none=>simpa using hb
 | some v=>exact h v (List.mem_of_getElem? hs)
theorem LY (ends:List Bool): ∀v∈p0 ends,v<1000:=fun v hv=>by
 rw [p0,List.mem_map] at hv;obtain ⟨b,_,rfl⟩:=hv
 split<;>omega
theorem Iy (rows:List bP) (part:List Nat) (n:Nat) (v:Nat) (hv:v∈(eb rows part n).2):v<(eb rows part n).1.length:=by
 have ok:=gb rows part n;obtain ⟨s,hs,rfl⟩:=List.mem_iff_getElem.1 hv
 have:=(ok.at' s (by have:=ok.len;omega)).1
 rw [R6,Rp hs] at this;exact this
theorem Ka {rows:List bP} (hn:rows.length<=256) (part:List Nat): ∀v∈ee rows part,v<1000:=fun v hv=>by
 have:=Iy rows part rows.length v hv
 have:=(gb rows part rows.length).le
 omega
theorem AN (A:List Nat) (n i v:Nat) (hA:A.length=i) (h:i<n):(au (A++List.replicate (n - i) 0)).set i [.v (.int .i64 (v:Nat))]=au ((A++[v])++List.replicate (n - (i+1)) 0):=by
 rw [show n - i=(n - (i+1))+1 by omega,Ti,au,au,TL,TL,TL,List.set_append,if_neg (by simp [hA])];simp [hA]
theorem LP (A:List Nat) (n i:Nat) (hA:A.length=i) (h:i<n):(au (A++List.replicate (n - i) 0)).getD i []=[.v (.int .i64 0)]:=by
 rw [show n - i=(n - (i+1))+1 by omega,Ti,au,TL,R6,List.getElem?_append_right (by simp [hA])];simp [hA]
theorem L9 (A:List Nat) (n i:Nat) (h:i<n):A++List.replicate (n - i) 0=(A++[0])++List.replicate (n - (i+1)) 0:=by
 rw [show n - i=(n - (i+1))+1 by omega,Ti];simp
def FE (ends:List Bool) (i:Nat):List (Option aa):=[some ⟨3,1,true,au (p0 (ends.take i)++List.replicate (ends.length - i) 0)⟩,some ⟨75,1,false,[[.vec 0 ends.length]]⟩]
def nG (n:Nat) (part:List Nat):List (Option aa):=[none,some ⟨75,1,false,[[.aC 1 (au part) n]]⟩]
def rG (rows:List bP) (part:List Nat) (s:Nat):List (Option aa):=nG rows.length part++[some ⟨192,0,false,Ds (eb rows part s).1⟩,some ⟨3,1,true,au ((eb rows part s).2++List.replicate (rows.length - s) 0)⟩]
theorem Iz {rows:List bP} {ends:List Bool} (ok:Of rows ends):ag Tryz.prog 157 [.vp (gV rows ends)] (.aC 1 (au (fG rows ends)) rows.length):=by
 have hN:=ok.n;have hE:=ok.e
 have hA:bn 0 [AV.vp (gV rows ends)]=true:=by simp only [gV,bn,AV.wf,mQ,mP,Bool.and_self]
 have hF:(AV.aC 1 (au (fG rows ends)) rows.length).wf 0=true:=by simp only [AV.wf,jh]
 generalize hrv:AV.aC 1 (au (fG rows ends)) rows.length=rv at hF ⊢
 (refine ag.yM Tryz.func157 rfl (by kernel_rfl) (by kernel_rfl) rfl hA hF ?_;simp only [Tryz.ntmps157,Tryz.results157,List.length_cons,List.length_nil,Nat.reduceAdd,Nat.reduceSub,Ti,Tj,Tl,Tm])
 simp only [gV]
 repeat (first|(with_reducible first|refine af.up ?_|refine fun (K:AK) hK=> ?_|refine wE ?_|refine wK ?_|refine wF ?_|(refine hK _ ?_;clear hK K))|simp only [go_sem]|with_reducible refine wA ?_|clear hK K)
 refine cV (ι:=Nat) 27 (fun i=>[(4, .undef),(5, .undef),(26, .v (.int .i64 i))]) (FE ends) (fun i=>ends.length - i) (fun i=>i<=ends.length) 0 (Rh _) ?_ ?_
 ·have e0:au (p0 (ends.take 0)++List.replicate (ends.length - 0) 0)=List.replicate rows.length [AV.v (.int .i64 0)]:=by
   rw [hE];simp [p0,au]
  simp only [FE,e0,hE]
  (refine ak ?_ ?_ ?_<;>simp only [aR,SI,SL,Ti,Tj,aX,aW,AV.v.injEq,Value.int.injEq,Value.bool.injEq,Value.string.injEq,AV.vec.injEq,AV.ptr.injEq,true_or,or_true,false_or,or_false,aa.mk.injEq,forall_eq_apply_imp_iff,forall_eq,forall_eq',go_sem])
  all_goals first|rfl|simp [p0,au]
 ·intro i hi K hK;simp only [FE]
  repeat (first|(with_reducible first|refine af.up ?_|refine fun (K:AK) hK=> ?_|refine wE ?_|refine wK ?_|refine wF ?_|(refine hK _ ?_;clear hK K))|simp only [go_sem]|with_reducible refine wA ?_|clear hK K)
  refine cL.part (fun h=> ?_) (fun h=> ?_)
  ·have hlt:i<ends.length:=by (try simp only [bne_iff_ne,ne_eq,bne_eq_false_iff_eq,beq_iff_eq,beq_eq_false_iff_ne,decide_eq_true_eq,decide_eq_false_iff_not,Tn,To,Tp,Tq] at h);omega
   have eW:=aD (k:=i) (by omega)
   have eG:(ends.map (fun b=>[AV.v (.bool b)])).getD i []=[.v (.bool ends[i])]:=by
    rw [R6,Rs,Rp hlt];rfl
   have hl0:(p0 (ends.take i)).length=i:=by rw [p0,R5,List.length_take];omega
   have eL:(au (p0 (ends.take i)++List.replicate (ends.length - i) 0)).length=ends.length:=by rw [au,R5,Rf,hl0,TZ];omega
   have eN:p0 (ends.take (i+1))=p0 (ends.take i)++[if ends[i] then 1 else 0]:=by rw [p0,p0,SR hlt,TL];rfl
   rcases (Bool.eq_false_or_eq_true ends[i]).symm with hb|hb
   ·rw [hb] at eG eN;rw [if_neg (by decide)] at eN
    repeat (first|(with_reducible first|refine af.up ?_|refine fun (K:AK) hK=> ?_|refine wE ?_|refine wK ?_|refine wF ?_|(refine hK _ ?_;clear hK K))|simp only [go_sem,eG,h]|with_reducible refine wA ?_|clear hK K)
    repeat (first|(with_reducible first|refine af.up ?_|refine fun (K:AK) hK=> ?_|refine wE ?_|refine wK ?_|refine wF ?_|(refine hK _ ?_;clear hK K))|simp only [go_sem,eW]|with_reducible refine wA ?_|clear hK K)
    refine aM.mk (i+1) (by omega) (by omega) ?_;simp only [FE,eN, <- L9 _ _ _ hlt]
    (refine ak ?_ ?_ ?_<;>simp only [aR,SI,SL,Ti,Tj,aX,aW,AV.v.injEq,Value.int.injEq,Value.bool.injEq,Value.string.injEq,AV.vec.injEq,AV.ptr.injEq,true_or,or_true,false_or,or_false,aa.mk.injEq,forall_eq_apply_imp_iff,forall_eq,forall_eq',go_sem])
   ·rw [hb] at eG eN;rw [if_pos rfl] at eN;have eS:=AN (p0 (ends.take i)) ends.length i 1 hl0 hlt;have eS:=AN (p0 (ends.take i)) ends.length i 1 hl0 hlt;have eQ:=LP (p0 (ends.take i)) ends.length i hl0 hlt;have c1:((1:Nat):Int)=1:=rfl;rw [c1] at eS
    repeat (first|(with_reducible first|refine af.up ?_|refine fun (K:AK) hK=> ?_|refine wE ?_|refine wK ?_|refine wF ?_|(refine hK _ ?_;clear hK K))|simp only [go_sem,eG,h,eL,eQ,TX,TY,eS]|with_reducible refine wA ?_|clear hK K)
    repeat (first|(with_reducible first|refine af.up ?_|refine fun (K:AK) hK=> ?_|refine wE ?_|refine wK ?_|refine wF ?_|(refine hK _ ?_;clear hK K))|simp only [go_sem,eW]|with_reducible refine wA ?_|clear hK K)
    refine aM.mk (i+1) (by omega) (by omega) ?_;simp only [FE,eN]
    (refine ak ?_ ?_ ?_<;>simp only [aR,SI,SL,Ti,Tj,aX,aW,AV.v.injEq,Value.int.injEq,Value.bool.injEq,Value.string.injEq,AV.vec.injEq,AV.ptr.injEq,true_or,or_true,false_or,or_false,aa.mk.injEq,forall_eq_apply_imp_iff,forall_eq,forall_eq',go_sem])
    all_goals trace_state
  ·have h16:i=ends.length:=by (try simp only [bne_iff_ne,ne_eq,bne_eq_false_iff_eq,beq_iff_eq,beq_eq_false_iff_ne,decide_eq_true_eq,decide_eq_false_iff_not,Tn,To,Tp,Tq] at h);omega
   have e1:au (p0 (ends.take i)++List.replicate (ends.length - i) 0)=au (p0 ends):=by rw [h16,List.take_length,Nat.sub_self];simp
   have l0:(au (p0 ends)).length=ends.length:=by simp [au,p0]
   have l1:(p0 ends).length=rows.length:=by simp [p0,hE]
   simp only [e1]
   repeat ((fail_if_success (with_reducible refine bD (i:=8) ?_));first|(with_reducible first|refine af.up ?_|refine fun (K:AK) hK=> ?_|refine wK ?_|refine wF ?_|(refine hK _ ?_;clear hK K))|simp only [go_sem]|with_reducible refine wA ?_|clear hK K)
   refine aJ (cA (k:=1) (i:=0) (j:=0) (by decide) rfl (Nat.zero_lt_succ _) rfl rfl rfl rfl l0) (by kernel_rfl) ?_;simp only [List.set_cons_zero,List.set_cons_succ,hE];clear hi h h16 e1 l0;have hs0: ∃f,rows.length+2<=f+0∧AV.aC 1 (au (uI rows f (p0 ends) 0)) rows.length=rv:=⟨rows.length+2,Nat.le_refl _,hrv⟩;clear hrv
   repeat (first|(with_reducible first|refine af.up ?_|refine fun (K:AK) hK=> ?_|refine wE ?_|refine wK ?_|refine wF ?_|(refine hK _ ?_;clear hK K))|simp only [go_sem]|with_reducible refine wA ?_|clear hK K)
   refine cV (ι:=List Nat×Nat) 7 (fun x=>[(4, .undef),(5, .undef),(6, .v (.int .i64 x.2))]) (fun x=>nG rows.length x.1) (fun x=>rows.length+1 - x.2) (fun x=>(∀v∈x.1,v<1000)∧x.2<=rows.length∧Lm rows x.1 x.2∧ ∃f,rows.length+2<=f+x.2∧AV.aC 1 (au (uI rows f x.1 x.2)) rows.length=rv) (p0 ends,0) ⟨LY ends,Rh _,⟨l1,fun k hk=>absurd hk (Nat.not_lt_zero k)⟩,hs0⟩ ?_ ?_
   ·simp only [nG]
    (refine ak ?_ ?_ ?_<;>simp only [aR,SI,SL,Ti,Tj,aX,aW,AV.v.injEq,Value.int.injEq,Value.bool.injEq,Value.string.injEq,AV.vec.injEq,AV.ptr.injEq,true_or,or_true,false_or,or_false,aa.mk.injEq,forall_eq_apply_imp_iff,forall_eq,forall_eq',go_sem])
    all_goals rfl
   ·rintro ⟨part,many⟩ ⟨hpl,hml,hpo,f,hf,hfr⟩ K hK;simp only at hpl hml hpo hf hfr;have hpn:=hpo.1;simp only [nG]
    repeat (first|(with_reducible first|refine af.up ?_|refine fun (K:AK) hK=> ?_|refine wE ?_|refine wK ?_|refine wF ?_|(refine hK _ ?_;clear hK K))|simp only [go_sem]|with_reducible refine wA ?_|clear hK K)
    have z0:List.replicate rows.length [AV.v (.int .i64 0)]=au (List.replicate rows.length 0):=by simp [au]
    refine cV (ι:=Nat) 46 (fun s=>[(9, .undef),(10, .undef),(11, .undef),(12, .undef),(13, .undef),(14, .undef),(45, .v (.int .i64 s))]) (rG rows part) (fun s=>rows.length - s) (fun s=>s<=rows.length) 0 (Rh _) ?_ ?_
    ·simp only [rG,nG,Tl,Tm]
     (refine ak ?_ ?_ ?_<;>simp only [aR,SI,SL,Ti,Tj,aX,aW,AV.v.injEq,Value.int.injEq,Value.bool.injEq,Value.string.injEq,AV.vec.injEq,AV.ptr.injEq,true_or,or_true,false_or,or_false,aa.mk.injEq,forall_eq_apply_imp_iff,forall_eq,forall_eq',go_sem])
     all_goals first|rfl|exact ⟨rfl,z0⟩|trace_state
    ·intro s hs K hK;have pok:=gb rows part s;simp only [rG,nG,Tl,Tm]
     repeat (first|(with_reducible first|refine af.up ?_|refine fun (K:AK) hK=> ?_|refine wE ?_|refine wK ?_|refine wF ?_|(refine hK _ ?_;clear hK K))|simp only [go_sem]|with_reducible refine wA ?_|clear hK K)
     refine cL.part (fun h=> ?_) (fun h=> ?_)
     ·have hlt:s<rows.length:=by (try simp only [bne_iff_ne,ne_eq,bne_eq_false_iff_eq,beq_iff_eq,beq_eq_false_iff_ne,decide_eq_true_eq,decide_eq_false_iff_not,Tn,To,Tp,Tq] at h);omega
      have eW:=aD (k:=s) (by omega)
      have eG:(au part).getD s []=[.v (.int .i64 ((part.getD s 0:Nat):Int))]:=by
       rw [au,R6,Rs,Rp (by omega),R6,Rp (by omega)];rfl
      have CI:=EO (part.getD s 0) (by have:=oU (by omega) hpl s;omega);have CS:=AQ rows ends s;have hlr:=ok.lab _ (S9 hlt);have hln:=ok.len _ (S9 hlt);have hseq:=th rows ends s hlt (by omega) (fun p hp=>Nat.le_trans (hlr p hp).1 (by decide)) (ok.rH _ (S9 hlt)) (by omega);simp only [gV,hE] at CS hseq;obtain ⟨row,hrow⟩: ∃row,row=rows[s]:=⟨_,rfl⟩;rw [<-hrow] at hlr hln hseq;have hq1:part.getD s 0<1000:=oU (by omega) hpl s
      repeat (first|(with_reducible first|refine af.up ?_|refine fun (K:AK) hK=> ?_|refine wE ?_|refine wK ?_|refine wF ?_|(refine hK _ ?_;clear hK K))|simp only [go_sem,eG,h]|with_reducible refine wA ?_|clear hK K)
      refine ab.one CI ?_
      repeat (first|(with_reducible first|refine af.up ?_|refine fun (K:AK) hK=> ?_|refine wE ?_|refine wK ?_|refine wF ?_|(refine hK _ ?_;clear hK K))|simp only [go_sem]|with_reducible refine wA ?_|clear hK K)
      refine ab.one CS ?_
      repeat (first|(with_reducible first|refine af.up ?_|refine fun (K:AK) hK=> ?_|refine wE ?_|refine wK ?_|refine wF ?_|(refine hK _ ?_;clear hK K))|simp only [go_sem]|with_reducible refine wA ?_|clear hK K)
      refine fP hseq 58 (fun k=>rG rows part s++[some ⟨9,1,false,[[.v (.string (df part (part.getD s 0) (row.take k)))]]⟩]) (fun k=>k<=row.length) (Rh _) ?_ ?_ ?_ (by kernel_rfl) (by kernel_rfl) ?_ ?_ ?_
      ·repeat (first|(with_reducible first|refine af.up ?_|refine fun (K:AK) hK=> ?_|refine wE ?_|refine wK ?_|refine wF ?_|(refine hK _ ?_;clear hK K))|simp only [go_sem]|with_reducible refine wA ?_|clear hK K)
      ·simp only [bn,AV.wf,mQ,mP,Bool.and_self]
      ·simp only [rG,nG,Tl,Tm,List.take_zero,sQ]
       (refine ak ?_ ?_ ?_<;>simp only [aR,SI,SL,Ti,Tj,aX,aW,AV.v.injEq,Value.int.injEq,Value.bool.injEq,Value.string.injEq,AV.vec.injEq,AV.ptr.injEq,true_or,or_true,false_or,or_false,aa.mk.injEq,forall_eq_apply_imp_iff,forall_eq,forall_eq',go_sem])
       all_goals trace_state
      ·intro x hx;obtain ⟨o,_,rfl⟩:=List.mem_map.1 hx
       rfl
      ·intro k x hk hx
       obtain ⟨hkl,hx⟩: ∃h:k<row.length,x=[.v (.string row[k].1), .v (.int .i64 (row[k].2:Nat))]:=by
        obtain ⟨h1,h2⟩:=List.getElem?_eq_some_iff.1 hx;simp only [cZ,R5] at h1;exact ⟨h1,by rw [<-h2];simp [cZ]⟩
       subst hx;obtain ⟨hz1,hz2⟩:=hlr _ (S9 hkl)
       have eT:(au part).getD row[k].2 []=[.v (.int .i64 ((part.getD row[k].2 0:Nat):Int))]:=by
        rw [au,R6,Rs,Rp (by omega),R6,Rp (by omega)];rfl
       have hq2:part.getD row[k].2 0<1000:=oU (by omega) hpl _;have CJ:=EO (part.getD row[k].2 0) (by omega);have hS:=qD part (part.getD s 0) (row.take k) row[k];rw [<-SR hkl] at hS;simp only [rG,nG,Tl,Tm];have h32:(⟨#[32]⟩:ByteArray).size=1:=rfl;have hd1:=tP _ hq2;have hd2:=zj part (part.getD s 0) hq1 (oU (by omega) hpl) (row.take k) (fun e he=>(hlr _ (List.mem_of_mem_take he)).1);rw [List.length_take] at hd2;have b1:(#[32]:Array UInt8).size=1:=rfl;have b2:(Lib.decDigits (part.getD row[k].2 0)).toArray.size<=3:=hd1
       repeat (first|(with_reducible first|refine af.up ?_|refine fun (K:AK) hK=> ?_|refine wE ?_|refine wK ?_|refine wF ?_|(refine hK _ ?_;clear hK K))|simp only [go_sem,eT]|with_reducible refine wA ?_|clear hK K)
       refine aQ.one CJ ?_
       repeat (first|(with_reducible first|refine af.up ?_|refine fun (K:AK) hK=> ?_|refine wE ?_|refine wK ?_|refine wF ?_|(refine hK _ ?_;clear hK K))|simp only [go_sem,eT]|with_reducible refine wA ?_|clear hK K)
       simp only [rG,nG,Tl,Tm,hS]
       (refine ak ?_ ?_ ?_<;>simp only [aR,SI,SL,Ti,Tj,aX,aW,AV.v.injEq,Value.int.injEq,Value.bool.injEq,Value.string.injEq,AV.vec.injEq,AV.ptr.injEq,true_or,or_true,false_or,or_false,aa.mk.injEq,forall_eq_apply_imp_iff,forall_eq,forall_eq',go_sem])
      ·intro _
       have hmr:(cZ row).length=row.length:=by simp [cZ]
       simp only [hmr,List.take_length,rG,nG,Tl,Tm];have eA:=DR (df part (part.getD s 0) row) (eb rows part s).1;have hI:=sP rows part s
       have hg:rows.getD s []=row:=by rw [hrow,R6,Rp hlt];rfl
       rw [Nl,hg] at hI;have l2:=pok.len;have l3:=pok.le
       rcases hps:eb rows part s with ⟨ks,ns⟩
       rw [hps] at hI eA l2 l3;simp only at hI eA l2 l3
       have eL:(au (ns++List.replicate (rows.length - s) 0)).length=rows.length:=by rw [au,R5,Rf,l2,TZ];omega
       have eQ:=LP ns rows.length s l2 hlt
       cases hp:pos ks (df part (part.getD s 0) row) with
       | some k=>
        rw [hp] at hI eA;simp only [Option.map_some] at eA hI;have eS:=AN ns rows.length s k l2 hlt
        repeat (first|(with_reducible first|refine af.up ?_|refine fun (K:AK) hK=> ?_|refine wE ?_|refine wK ?_|refine wF ?_|(refine hK _ ?_;clear hK K))|simp only [go_sem,eA,eL,eQ,TX,TY,eS]|with_reducible refine wA ?_|clear hK K)
        repeat (first|(with_reducible first|refine af.up ?_|refine fun (K:AK) hK=> ?_|refine wE ?_|refine wK ?_|refine wF ?_|(refine hK _ ?_;clear hK K))|simp only [go_sem,eW]|with_reducible refine wA ?_|clear hK K)
        refine aM.mk (s+1) (by omega) (by omega) ?_;simp only [rG,nG,Tl,Tm,hI]
        (refine ak ?_ ?_ ?_<;>simp only [aR,SI,SL,Ti,Tj,aX,aW,AV.v.injEq,Value.int.injEq,Value.bool.injEq,Value.string.injEq,AV.vec.injEq,AV.ptr.injEq,true_or,or_true,false_or,or_false,aa.mk.injEq,forall_eq_apply_imp_iff,forall_eq,forall_eq',go_sem])
       | none=>
        rw [hp] at hI eA;simp only [Option.map_none] at eA hI;have eS:=AN ns rows.length s ks.length l2 hlt;have eK:=DT (df part (part.getD s 0) row) ks hp;have eM:=Ap ks
        repeat (first|(with_reducible first|refine af.up ?_|refine fun (K:AK) hK=> ?_|refine wE ?_|refine wK ?_|refine wF ?_|(refine hK _ ?_;clear hK K))|simp only [go_sem,eA,eL,eQ,TX,TY,eS,eK,eM]|with_reducible refine wA ?_|clear hK K)
        repeat (first|(with_reducible first|refine af.up ?_|refine fun (K:AK) hK=> ?_|refine wE ?_|refine wK ?_|refine wF ?_|(refine hK _ ?_;clear hK K))|simp only [go_sem,eW]|with_reducible refine wA ?_|clear hK K)
        refine aM.mk (s+1) (by omega) (by omega) ?_;simp only [rG,nG,Tl,Tm,hI]
        (refine ak ?_ ?_ ?_<;>simp only [aR,SI,SL,Ti,Tj,aX,aW,AV.v.injEq,Value.int.injEq,Value.bool.injEq,Value.string.injEq,AV.vec.injEq,AV.ptr.injEq,true_or,or_true,false_or,or_false,aa.mk.injEq,forall_eq_apply_imp_iff,forall_eq,forall_eq',go_sem])
     ·have hss:s=rows.length:=by (try simp only [bne_iff_ne,ne_eq,bne_eq_false_iff_eq,beq_iff_eq,beq_eq_false_iff_ne,decide_eq_true_eq,decide_eq_false_iff_not,Tn,To,Tp,Tq] at h);omega
      subst hss;have l2:=pok.len
      have e1:(eb rows part rows.length).2++List.replicate (rows.length - rows.length) 0=ee rows part:=by rw [Nat.sub_self];simp [ee]
      have e2:=Ap (eb rows part rows.length).1;have e3:(eb rows part rows.length).1.length=gv rows part:=rfl;rw [e3] at e2
      have eL:(au (ee rows part)).length=rows.length:=by rw [au,R5];exact l2
      simp only [e1];have hme:=xg rows part;have hmo:=qE rows hpo
      repeat ((fail_if_success (with_reducible refine bD (i:=26) ?_));first|(with_reducible first|refine af.up ?_|refine fun (K:AK) hK=> ?_|refine wK ?_|refine wF ?_|(refine hK _ ?_;clear hK K))|simp only [go_sem]|with_reducible refine wA ?_|clear hK K)
      clear hK;clear hK;clear K;clear K
      repeat ((fail_if_success (with_reducible refine bD (i:=26) ?_));first|(with_reducible first|refine af.up ?_|refine fun (K:AK) hK=> ?_|refine wK ?_|refine wF ?_|(refine hK _ ?_;clear hK K))|simp only [go_sem]|with_reducible refine wA ?_|clear hK K)
      refine aJ (cA (k:=1) (i:=0) (j:=0) (by decide) rfl (Nat.zero_lt_succ _) rfl rfl rfl rfl eL) (by kernel_rfl) ?_;simp only [List.set_cons_zero,List.set_cons_succ]
      repeat (first|(with_reducible first|refine af.up ?_|refine fun (K:AK) hK=> ?_|refine wE ?_|refine wK ?_|refine wF ?_|(refine hK _ ?_;clear hK K))|simp only [go_sem,e2]|with_reducible refine wA ?_|clear hK K)
      refine cL.part (fun h2=> ?_) (fun h2=> ?_)
      ·have hm:gv rows part=many:=by (try simp only [bne_iff_ne,ne_eq,bne_eq_false_iff_eq,beq_iff_eq,beq_eq_false_iff_ne,decide_eq_true_eq,decide_eq_false_iff_not,Tn,To,Tp,Tq] at h2);omega
       obtain ⟨f',rfl⟩: ∃f',f=f'+1:=⟨f - 1,by omega⟩;rw [uI,if_pos hm] at hfr
       repeat (first|(with_reducible first|refine af.up ?_|refine fun (K:AK) hK=> ?_|refine wE ?_|refine wK ?_|refine wF ?_|(refine hK _ ?_;clear hK K))|simp only [go_sem]|with_reducible refine wA ?_|clear hK K)
       rw [<-hfr];exact eu.OL (jh _ _)
      ·have hm:gv rows part≠many:=by (try simp only [bne_iff_ne,ne_eq,bne_eq_false_iff_eq,beq_iff_eq,beq_eq_false_iff_ne,decide_eq_true_eq,decide_eq_false_iff_not,Tn,To,Tp,Tq] at h2);omega
       obtain ⟨f',rfl⟩: ∃f',f=f'+1:=⟨f - 1,by omega⟩;rw [uI,if_neg hm] at hfr
       repeat (first|(with_reducible first|refine af.up ?_|refine fun (K:AK) hK=> ?_|refine wE ?_|refine wK ?_|refine wF ?_|(refine hK _ ?_;clear hK K))|simp only [go_sem,e2]|with_reducible refine wA ?_|clear hK K)
       refine aM.mk (ee rows part,gv rows part) ⟨Ka hN part,hme,qF rows part,f', ?_,hfr⟩ ?_ ?_
       ·show rows.length+2<=f'+gv rows part;omega
       ·show rows.length+1 - gv rows part<rows.length+1 - many;omega
       ·simp only [nG]
        (refine ak ?_ ?_ ?_<;>simp only [aR,SI,SL,Ti,Tj,aX,aW,AV.v.injEq,Value.int.injEq,Value.bool.injEq,Value.string.injEq,AV.vec.injEq,AV.ptr.injEq,true_or,or_true,false_or,or_false,aa.mk.injEq,forall_eq_apply_imp_iff,forall_eq,forall_eq',go_sem])
section
section
variable {D:Nat->Prop} {nu:Nat->Nat->Value} {o:List (Option aa)} {w:World} {P:Program}
theorem IY {s:AS} {k i j id len:Nat} {ob:aa} {row:List AV} (x':AV) (hto: ∀(D:Nat->Prop) (nu:Nat->Nat->Value) (w:World),RO D nu s.o w->RA D nu (s.o.set id none) w x' (nu id len)) (hne:id≠k) (hk:s.o[k]? = some (some ob)) (hz:0<ob.z) (hr:ob.rows[i]? = some row) (hj:row[j]? = some (.vec id len)) :
  vA s (AS.mk s.t ((s.o.set id none).set k (some { ob with rows:=ob.rows.set i (row.set j x') })) s.y):=by
 intro f D nu a w hs;have hp:=dH (nu:=nu) (o:=s.o) (w:=w) id;have hro:=kL hs.ro id
 have hk':(s.o.set id none)[k]? = some (some ob):=by rw [Rw hne];exact hk
 have hh:ob.hl=({ ob with rows:=ob.rows.set i (row.set j x') }:aa).hl:=by simp [aa.hl]
 obtain ⟨g,cur,hb⟩: ∃g cur,rR D nu (s.o.set id none) w k ob g cur:=by
  rcases hro.obj k ob hk' with ⟨_,e,_⟩|h|⟨g,es,cl,hm⟩
  ·rw [e] at hr;simp at hr
  ·exact h
  ·have:=hm.z;omega
 have hm:=jf (nu:=nu) (o:=s.o.set id none) (w:=w) (w':=w) (ob':={ ob with rows:=ob.rows.set i (row.set j x') }) hk' hh.symm hb.bJ rfl rfl rfl rfl (fun _ _=>rfl);refine ⟨nu,hp.trans hm,rfl, ?_,(hs.tm.mono hp (fun _ _ h=>h)).mono hm (fun _ _ h=>h),hs.gG⟩;have hil:=(Ra.1 hr).1;have hjl:=(Ra.1 hj).1;have hsl:=hto D nu w hs.ro
 have key: ∀(i' j':Nat) r c,(ob.rows.set i (row.set j x'))[i']? = some r->r[j']? = some c-> ∃r0 c0,ob.rows[i']? = some r0∧r0[j']? = some c0∧(c=c0∨(c=x'∧c0 = .vec id len)):=by
  intro i' j' r c h1 h2
  by_cases hi:i=i'
  ·subst hi;rw [Rx hil] at h1;cases h1
   by_cases hj':j=j'
   ·subst hj';rw [Rx hjl] at h2;cases h2;exact ⟨row,_,hr,hj, .inr ⟨rfl,rfl⟩⟩
   ·rw [Rw hj'] at h2;exact ⟨row,c,hr,h2, .inl rfl⟩
  ·rw [Rw hi] at h1;exact ⟨r,c,h1,h2, .inl rfl⟩
 refine qT hro hk' hh.symm hb.bJ hm (fun _ _=>rfl) (cur:=cur) ⟨hb.blk,hb.kJ,fun hv'=> ?_,fun hv'=> ?_,hb.z,fun i' r hi'=> ?_,fun i' j' r c x h1 h2 h3=> ?_,fun i' j' r c x h1 h2 h3=> ?_⟩
 ·obtain ⟨q1,q2,q3⟩:=hb.box hv';exact ⟨q1,by simpa using q2,q3⟩
 ·obtain ⟨cap,q1,q2,q3,q4⟩:=hb.vec hv';exact ⟨cap,by simpa using q1,by simpa using q2,q3,q4⟩
 ·by_cases hi:i=i'
  ·subst hi;rw [Rx hil] at hi';cases hi';rw [List.length_set];exact hb.row i row hr
  ·rw [Rw hi] at hi';exact hb.row i' r hi'
 ·obtain ⟨r0,c0,k1,k2,e⟩:=key i' j' r c h1 h2;have h0:=hb.cell i' j' r0 c0 x k1 k2 h3
  rcases e with rfl|⟨rfl,rfl⟩
  ·exact h0.mono hm (fun _ _ h=>h)
  ·have hx:x=nu id len:=by
    cases h0 with
    | vec=>rfl
   rw [hx];exact hsl.mono hm (fun _ _ h=>h)
 ·obtain ⟨r0,c0,k1,k2,_⟩:=key i' j' r c h1 h2;exact hb.one i' j' r0 c0 x k1 k2 h3
theorem Dh {s:AS} {k i j id:Nat} {ob ob2:aa} {row:List AV} (hne:id≠k) (hk:s.o[k]? = some (some ob)) (hz:0<ob.z) (hr:ob.rows[i]? = some row) (hj:row[j]? = some (.vec id 0)) (ho:s.o[id]? = some (some ob2)) (hv:ob2.fw=false) (hz2:ob2.z=0) :
  vA s (AS.mk s.t ((s.o.set id none).set k (some { ob with rows:=ob.rows.set i (row.set j (.mp ob2.rows)) })) s.y):=IY (.mp ob2.rows) (fun D nu w h=>E9 h ho hv hz2) hne hk hz hr hj
end
def iM (l:List Nat):List (List AV):=l.zipIdx.map (fun p=>[.v (.int .i64 (p.1:Nat)), .v (.int .i64 (p.2:Nat))])
@[go_sem] theorem Qs (n:Nat) (l:List Nat):dA n (iM l)=true:=bE _ (fun p=>rfl) _
theorem z8 (x:Nat): ∀(l:List Nat) (k:Nat),k9 (.int .i64) (.int .i64 (x:Nat)) ((l.zipIdx k).map (fun p=>[.v (.int .i64 (p.1:Nat)), .v (.int .i64 (p.2:Nat))]))=some ((l.findIdx? (fun y=>x==y)).map (fun n=> .v (.int .i64 ((n+k:Nat):Int))))
 | [],k=>rfl
 | a :: l,k=>by
  have ih:=z8 x l (k+1);rw [List.zipIdx_cons,TN,k9,if_pos (show dj (.int .i64) (.int .i64 (a:Nat))=true from rfl)]
  have e:dT (.int .i64 (x:Nat)) (.int .i64 (a:Nat))=(x==a):=by
   rw [dT,Bool.eq_iff_iff,beq_iff_eq,beq_iff_eq];omega
  rw [e,List.findIdx?_cons]
  cases h:x==a
  ·simp only [Bool.false_eq_true,if_false];rw [ih,Option.map_map]
   congr 2;funext i;simp;omega
  ·simp
theorem JN (x:Nat) (l:List Nat):k9 (.int .i64) (.int .i64 (x:Nat)) (iM l)=some ((l.findIdx? (fun y=>x==y)).map (fun n=> .v (.int .i64 (n:Nat)))):=z8 x l 0
theorem Ac (x:Nat) (v:AV): ∀(l:List Nat) (k:Nat),l.findIdx? (fun y=>x==y)=none->lz (.int .i64) (.int .i64 (x:Nat)) v ((l.zipIdx k).map (fun p=>[.v (.int .i64 (p.1:Nat)), .v (.int .i64 (p.2:Nat))]))=some ((l.zipIdx k).map (fun p=>[.v (.int .i64 (p.1:Nat)), .v (.int .i64 (p.2:Nat))])++[[.v (.int .i64 (x:Nat)),v]])
 | [],k,_=>rfl
 | a :: l,k,h=>by
  rw [List.findIdx?_cons] at h
  have e:dT (.int .i64 (x:Nat)) (.int .i64 (a:Nat))=(x==a):=by
   rw [dT,Bool.eq_iff_iff,beq_iff_eq,beq_iff_eq];omega
  cases hh:x==a
  ·rw [hh] at h;simp only [Bool.false_eq_true,if_false,Option.map_eq_none_iff] at h;have ih:=Ac x v l (k+1) h;rw [List.zipIdx_cons,TN,lz,if_pos (show dj (.int .i64) (.int .i64 (a:Nat))=true from rfl),e,hh,if_neg (by decide),ih];rfl
  ·rw [hh] at h;simp at h
theorem JO (x:Nat) (l:List Nat) (h:l.findIdx? (fun y=>x==y)=none):lz (.int .i64) (.int .i64 (x:Nat)) (.v (.int .i64 (l.length:Nat))) (iM l)=some (iM (l++[x])):=by
 rw [iM,Ac x _ l 0 h,iM,List.zipIdx_append];simp
theorem Hn {o:List (Option aa)} {z1 l1 z2 l2:Nat} {r1 r2:List (List AV)} (h1:dA 0 r1=true) (h2:dA 0 r2=true):eu o (.agg [.aC z1 r1 l1, .aC z2 r2 l2]) (.agg [.aC z1 r1 l1, .aC z2 r2 l2]):=
 eu.of 5 (p:=(AV.aC z1 r1 l1).wf 0=true∧(AV.aC z2 r2 l2).wf 0=true∧True) (by simp only [gk,fx]) ⟨by rw [AV.wf];exact h1,by rw [AV.wf];exact h2,trivial⟩
def gA (rows:List bP) (ends:List Bool):AV:= .agg (gV rows ends)
def rA (n:Nat) (part:List Nat) (order:List Nat) (rows:List bP) (ends:List Bool):List (Option aa):=[some ⟨162,2,false,[[.vec 6 rows.length, .vec 7 rows.length]]⟩,some ⟨75,1,false,[[.aC 1 (au part) n]]⟩,some ⟨198,0,false,iM (order.map (fun s=>part.getD s 0))⟩,some ⟨198,1,false,[[.vec 2 0]]⟩,some ⟨3,1,true,au order⟩,some ⟨75,1,false,[[.vec 4 order.length]]⟩,some ⟨193,1,true,rows.map (fun r=>[.mp (cZ r)])⟩,some ⟨4,1,true,ends.map (fun b=>[.v (.bool b)])⟩]
theorem HM {rows:List bP} {ends:List Bool} (ok:Of rows ends) (h0:0<rows.length) (hpt:(fG rows ends).length=rows.length):ag Tryz.prog 115 [.vp (gV rows ends)] (gA (iO rows ends (fG rows ends)).rows (iO rows ends (fG rows ends)).ends):=by
 have hN:=ok.n;have hE:=ok.e;have CP:=Iz ok;generalize hpart:fG rows ends=part at CP hpt
 have hA:bn 0 [AV.vp (gV rows ends)]=true:=by simp only [gV,bn,AV.wf,mQ,mP,Tg]
 have hF:(gA (iO rows ends part).rows (iO rows ends part).ends).wf 0=true:=by simp only [gA,gV,bn,AV.wf,mQ,mP,Tg]
 generalize hrv:gA (iO rows ends part).rows (iO rows ends part).ends=rv at hF ⊢
 (refine ag.yM Tryz.func115 rfl (by kernel_rfl) (by kernel_rfl) rfl hA hF ?_;simp only [Tryz.ntmps115,Tryz.results115,Rg,Q9,Nat.reduceAdd,Nat.reduceSub,Ti,Tj,Tl,Tm])
 simp only [gV,hE] at CP hA ⊢
 have eP:(au part).getD 0 []=[.v (.int .i64 ((part.getD 0 0:Nat):Int))]:=by
  rw [au,R6,Rs,Rp (by omega),R6,Rp (by omega)];rfl
 repeat (first|(with_reducible first|refine af.up ?_|refine fun (K:AK) hK=> ?_|refine wE ?_|refine wD ?_|refine wK ?_|refine wF ?_|(refine hK _ ?_;clear hK K))|simp only [go_sem]|with_reducible refine wA ?_|clear hK K)
 refine ab.one CP ?_
 repeat ((fail_if_success (with_reducible refine bD (i:=4) ?_));first|(with_reducible first|refine af.up ?_|refine fun (K:AK) hK=> ?_|refine wK ?_|refine wF ?_|(refine hK _ ?_;clear hK K))|simp only [go_sem,eP]|with_reducible refine wA ?_|clear hK K)
 refine aJ (bY (k:=0) (i:=0) (j:=0) 193 1 (by decide) rfl (by decide) rfl rfl) (by kernel_rfl) ?_;simp only [SP,SN,Rg,Q9,Nat.reduceAdd,Tl,Tm];refine aJ (bY (k:=0) (i:=0) (j:=1) 4 1 (by decide) rfl (by decide) rfl rfl) (by kernel_rfl) ?_;simp only [SP,SN,Rg,Q9,Nat.reduceAdd,Tl,Tm]
 repeat (first|(with_reducible first|refine af.up ?_|refine fun (K:AK) hK=> ?_|refine wE ?_|refine wD ?_|refine wK ?_|refine wF ?_|(refine hK _ ?_;clear hK K))|simp only [go_sem]|with_reducible refine wA ?_|clear hK K)
 refine cV (ι:=Dq) 7 (fun st=>[(6, .v (.int .i64 st.rows.length))]) (fun st=>rA rows.length part st.order st.rows st.ends) (fun st=>rows.length+1 - st.rows.length) (fun st=>Ln rows part st∧gA (CY rows ends part (rows.length+1 - st.rows.length) st).rows (CY rows ends part (rows.length+1 - st.rows.length) st).ends=rv) q0
  ⟨L5 rows part h0,hrv⟩ ?_ ?_
 ·simp only [rA,q0]
  (refine ak ?_ ?_ ?_<;>simp only [aR,SI,SL,Ti,Tj,aX,aW,AV.v.injEq,Value.int.injEq,Value.bool.injEq,Value.string.injEq,AV.vec.injEq,AV.ptr.injEq,true_or,or_true,false_or,or_false,aa.mk.injEq,forall_eq_apply_imp_iff,forall_eq,forall_eq',go_sem])
  all_goals first|rfl|exact ⟨rfl,rfl⟩|exact ⟨rfl,rfl,rfl⟩|exact ⟨⟨rfl,rfl⟩,rfl⟩|trace_state
 ·rintro st ⟨hok,hrun⟩ K hK;have hol:=qz part hok.nd hok.lt;have hle:=hok.le;have hel:=hok.ends
  have eL: ∀l:List Nat,(au l).length=l.length:=fun l=>by simp [au]
  simp only [rA]
  repeat (first|(with_reducible first|refine af.up ?_|refine fun (K:AK) hK=> ?_|refine wE ?_|refine wD ?_|refine wK ?_|refine wF ?_|(refine hK _ ?_;clear hK K))|simp only [go_sem,eL]|with_reducible refine wA ?_|clear hK K)
  refine cL.part (fun h=> ?_) (fun h=> ?_)
  ·have hlt:st.rows.length<st.order.length:=by (try simp only [bne_iff_ne,ne_eq,bne_eq_false_iff_eq,beq_iff_eq,beq_eq_false_iff_ne,decide_eq_true_eq,decide_eq_false_iff_not,Tn,Int.natCast_inj,Int.ofNat_lt,Int.ofNat_le] at h);omega
   have hcu:je st<rows.length:=hok.lt _ (ij hlt);have eW:=aD (k:=st.rows.length) (by omega)
   have eG:(au st.order).getD st.rows.length []=[.v (.int .i64 ((je st:Nat):Int))]:=by
    rw [je,au,R6,Rs,Rp hlt,R6,Rp hlt];rfl
   have CS:=AQ rows ends (je st);have hlr:=ok.lab _ (S9 hcu);have hln:=ok.len _ (S9 hcu);have hseq:=th rows ends (je st) hcu (by omega) (fun p hp=>Nat.le_trans (hlr p hp).1 (by decide)) (ok.rH _ (S9 hcu)) (by omega);simp only [gV,hE] at CS hseq;have hri:=ok.rH _ (S9 hcu)
   have hg:rows.getD (je st) []=rows[je st]:=by rw [R6,Rp hcu];rfl
   have hnx:ou rows ends part st=⟨(ir part st.order rows[je st]).1,st.rows++[(ir part st.order rows[je st]).2],st.ends++[ends.getD (je st) false]⟩:=by rw [ou,hg]
   generalize rows[je st]=row at hlr hln hseq hnx hri hg;rw [show rows.length+1 - st.rows.length=(rows.length - st.rows.length)+1 by omega,CY,if_pos hlt] at hrun
   repeat (first|(with_reducible first|refine af.up ?_|refine fun (K:AK) hK=> ?_|refine wE ?_|refine wD ?_|refine wK ?_|refine wF ?_|(refine hK _ ?_;clear hK K))|simp only [go_sem,eG,eL,h]|with_reducible refine wA ?_|clear hK K)
   refine ab.one CS ?_
   repeat (first|(with_reducible first|refine af.up ?_|refine fun (K:AK) hK=> ?_|refine wE ?_|refine wD ?_|refine wK ?_|refine wF ?_|(refine hK _ ?_;clear hK K))|simp only [go_sem]|with_reducible refine wA ?_|clear hK K)
   refine fP hseq 35 (fun k=>rA rows.length part (ir part st.order (row.take k)).1 st.rows st.ends++[some ⟨193,0,false,cZ (ir part st.order (row.take k)).2⟩,some ⟨193,1,false,[[.vec 8 0]]⟩]) (fun k=>k<=row.length) (Nat.zero_le _) ?_ ?_ ?_ (by kernel_rfl) (by kernel_rfl) ?_ ?_ ?_
   ·repeat (first|(with_reducible first|refine af.up ?_|refine fun (K:AK) hK=> ?_|refine wE ?_|refine wD ?_|refine wK ?_|refine wF ?_|(refine hK _ ?_;clear hK K))|simp only [go_sem]|with_reducible refine wA ?_|clear hK K)
   ·simp only [bn,AV.wf,mQ,mP,Tg]
   ·simp only [rA,Tl,Tm,List.take_zero,ir,SL]
    (refine ak ?_ ?_ ?_<;>simp only [aR,SI,SL,Ti,Tj,aX,aW,AV.v.injEq,Value.int.injEq,Value.bool.injEq,Value.string.injEq,AV.vec.injEq,AV.ptr.injEq,true_or,or_true,false_or,or_false,aa.mk.injEq,forall_eq_apply_imp_iff,forall_eq,forall_eq',go_sem])
    all_goals rfl
   ·intro x hx;obtain ⟨o,_,rfl⟩:=List.mem_map.1 hx
    rfl
   ·intro k x hk hx
    obtain ⟨hkl,hx⟩: ∃h:k<row.length,x=[.v (.string row[k].1), .v (.int .i64 (row[k].2:Nat))]:=by
     obtain ⟨h1,h2⟩:=Ra.1 hx;simp only [cZ,R5] at h1;exact ⟨h1,by rw [<-h2];simp [cZ]⟩
    subst hx;obtain ⟨hz1,hz2⟩:=hlr _ (S9 hkl)
    have eT:(au part).getD row[k].2 []=[.v (.int .i64 ((part.getD row[k].2 0:Nat):Int))]:=by
     rw [au,R6,Rs,Rp (by omega),R6,Rp (by omega)];rfl
    have hI:=sY part st.order (row.take k) row[k];rw [<-List.take_succ_eq_append_getElem hkl,FH] at hI;obtain ⟨k1,k2,k3,k4,k5,_⟩:=uM part (n:=rows.length) hok.nd hok.lt (row.take k) (fun p hp=>(hlr _ (List.mem_of_mem_take hp)).2);have hdl:=qz part k1 k2
    have hnl:look (ir part st.order (row.take k)).2 row[k].1=none:=sE.2 fun q=>by
     rw [k5] at q;exact uw (l:=row.map Prod.fst) (oY hri) (i:=k) (by simpa using hkl) (by simpa [List.map_take] using q)
    rcases hqs:ir part st.order (row.take k) with ⟨od,ow⟩
    rw [hqs] at hI k1 k2 k3 k4 k5 hdl hnl;simp only at hI k1 k2 k3 k4 k5 hdl hnl;have eA:=JN (part.getD row[k].2 0) (od.map (fun s=>part.getD s 0));have hqp:(od.map (fun s=>part.getD s 0)).findIdx? (fun y=>part.getD row[k].2 0==y)=zp part od (part.getD row[k].2 0):=rfl;simp only [rA,Tl,Tm]
    cases hp:zp part od (part.getD row[k].2 0) with
    | some n=>
     rw [hqp,hp] at eA;rw [hp] at hI;simp only [Option.map_some] at eA hI;have eS:=mY row[k].1 n ow hnl
     repeat (first|(with_reducible first|refine af.up ?_|refine fun (K:AK) hK=> ?_|refine wE ?_|refine wD ?_|refine wK ?_|refine wF ?_|(refine hK _ ?_;clear hK K))|simp only [go_sem,eT,eA,eS]|with_reducible refine wA ?_|clear hK K)
     simp only [rA,Tl,Tm,hI]
     (refine ak ?_ ?_ ?_<;>simp only [aR,SI,SL,Ti,Tj,aX,aW,AV.v.injEq,Value.int.injEq,Value.bool.injEq,Value.string.injEq,AV.vec.injEq,AV.ptr.injEq,true_or,or_true,false_or,or_false,aa.mk.injEq,forall_eq_apply_imp_iff,forall_eq,forall_eq',go_sem])
    | none=>
     rw [hqp,hp] at eA;rw [hp] at hI;simp only [Option.map_none] at eA hI;have eS:=mY row[k].1 od.length ow hnl;have eK:=JO (part.getD row[k].2 0) (od.map (fun s=>part.getD s 0)) (hqp.trans hp);rw [R5] at eK
     repeat (first|(with_reducible first|refine af.up ?_|refine fun (K:AK) hK=> ?_|refine wE ?_|refine wD ?_|refine wK ?_|refine wF ?_|(refine hK _ ?_;clear hK K))|simp only [go_sem,eT,eA,eS,eK,eL]|with_reducible refine wA ?_|clear hK K)
     simp only [rA,Tl,Tm,hI]
     (refine ak ?_ ?_ ?_<;>simp only [aR,SI,SL,Ti,Tj,aX,aW,AV.v.injEq,Value.int.injEq,Value.bool.injEq,Value.string.injEq,AV.vec.injEq,AV.ptr.injEq,true_or,or_true,false_or,or_false,aa.mk.injEq,forall_eq_apply_imp_iff,forall_eq,forall_eq',go_sem])
     exact ⟨by rw [TL];rfl,by simp [au]⟩
   ·intro _
    have hmr:(cZ row).length=row.length:=by simp [cZ]
    simp only [hmr,List.take_length];obtain ⟨k1,k2,k3,k4,k5,t,k6⟩:=uM part (n:=rows.length) hok.nd hok.lt row (fun p hp=>(hlr _ hp).2);have hdl:=qz part k1 k2
    rcases hqs:ir part st.order row with ⟨od,ow⟩
    rw [hqs] at k1 k2 k3 k4 k5 k6 hdl hnx;simp only at k1 k2 k3 k4 k5 k6 hdl hnx
    have eG2:(au od).getD st.rows.length []=[.v (.int .i64 ((je st:Nat):Int))]:=by
     rw [k6,au,TL,fm (by rw [R5];exact hlt)];exact eG
    have eE:(ends.map (fun b=>[AV.v (.bool b)])).getD (je st) []=[.v (.bool (ends.getD (je st) false))]:=by
     rw [R6,Rs,Rp (by omega),R6,Rp (by omega)];rfl
    generalize ends.getD (je st) false=be at eE hnx;simp only [rA,Tl,Tm]
    repeat ((fail_if_success (with_reducible refine bD (i:=17) ?_));first|(with_reducible first|refine af.up ?_|refine fun (K:AK) hK=> ?_|refine wK ?_|refine wF ?_|(refine hK _ ?_;clear hK K))|simp only [go_sem]|with_reducible refine wA ?_|clear hK K)
    refine aJ (Dh (k:=9) (i:=0) (j:=0) (by decide) rfl (T0 _) rfl rfl rfl rfl rfl) (by kernel_rfl) ?_;simp only [SP,SN]
    repeat (first|(with_reducible first|refine af.up ?_|refine fun (K:AK) hK=> ?_|refine wE ?_|refine wD ?_|refine wK ?_|refine wF ?_|(refine hK _ ?_;clear hK K))|simp only [go_sem,eG2,eE,eL,eW]|with_reducible refine wA ?_|clear hK K)
    have hnok:Ln rows part (ou rows ends part st):=FI rows ends part (fun r hr p hp=>(ok.lab r hr p hp).2) hok hlt;rw [hnx] at hnok hrun
    refine aM.mk ⟨od,st.rows++[ow],st.ends++[be]⟩ ⟨hnok, ?_⟩ ?_ ?_
    ·rw [show rows.length+1 - (Dq.rows ⟨od,st.rows++[ow],st.ends++[be]⟩).length=rows.length - st.rows.length by simp only [Rf,S4];omega];exact hrun
    ·show rows.length+1 - (st.rows++[ow]).length<rows.length+1 - st.rows.length;rw [Rf,S4];omega
    ·simp only [rA,Rf,S4,TL,TN,List.map_nil]
     (refine ak ?_ ?_ ?_<;>simp only [aR,SI,SL,Ti,Tj,aX,aW,AV.v.injEq,Value.int.injEq,Value.bool.injEq,Value.string.injEq,AV.vec.injEq,AV.ptr.injEq,true_or,or_true,false_or,or_false,aa.mk.injEq,forall_eq_apply_imp_iff,forall_eq,forall_eq',go_sem])
     all_goals trace_state
  ·have hge:st.rows.length=st.order.length:=by (try simp only [bne_iff_ne,ne_eq,bne_eq_false_iff_eq,beq_iff_eq,beq_eq_false_iff_ne,decide_eq_true_eq,decide_eq_false_iff_not,Tn,Int.natCast_inj,Int.ofNat_lt,Int.ofNat_le] at h);omega
   rw [show rows.length+1 - st.rows.length=(rows.length - st.rows.length)+1 by omega,CY,if_neg (by omega)] at hrun;clear h
   repeat ((fail_if_success (with_reducible refine bD (i:=19) ?_));first|(with_reducible first|refine af.up ?_|refine fun (K:AK) hK=> ?_|refine wK ?_|refine wF ?_|(refine hK _ ?_;clear hK K))|simp only [go_sem]|with_reducible refine wA ?_|clear hK K)
   refine aJ (cA (k:=0) (i:=0) (j:=0) (by decide) rfl (T0 _) rfl rfl rfl rfl (R5 _)) (by kernel_rfl) ?_;simp only [SP,SN];refine aJ (cA (k:=0) (i:=0) (j:=1) (by decide) rfl (T0 _) rfl rfl rfl rfl ((R5 _).trans hel)) (by kernel_rfl) ?_;simp only [SP,SN]
   repeat (first|(with_reducible first|refine af.up ?_|refine fun (K:AK) hK=> ?_|refine wE ?_|refine wD ?_|refine wK ?_|refine wF ?_|(refine hK _ ?_;clear hK K))|simp only [go_sem]|with_reducible refine wA ?_|clear hK K)
   rw [<-hrun];simp only [gA,gV,hel];exact Hn (mQ _ _) (mP _ _)
end
end Go.Proofs.YtjcobjgjjlahdaaGreatDoor
