/- texts of one claim, one behind the other. -/
import Derived.Test.YtfflpdekojlnmaaGreatDoorYMat
import Derived.Test.YtfflpdekojlnmaaGreatDoorYDfaA
import Derived.Test.YtfflpdekojlnmaaGreatDoorYAbsZ
import Derived.Test.YtfflpdekojlnmaaGreatDoorYOnceC
import Derived.Test.YtfflpdekojlnmaaGreatDoorYAbsV
import Derived.Shelf.Slices.CompactS
import Derived.Lib.RowBridge
import Derived.Shelf.SlMaps.Equal
set_option linter.unusedSimpArgs false
set_option linter.unusedVariables false
set_option maxRecDepth 100000
set_option maxHeartbeats 16000000
open Array renaming getElem?_eq_getElem -> Xa, getElem?_eq_some_iff -> WR
open Bool renaming and_eq_true -> XK, and_self -> YY, eq_false_or_eq_true -> YF, true_and -> Yg
open List renaming getElem?_eq_some_iff -> WT, getElem?_eq_getElem -> Xb, map_cons -> YW, mem_cons_of_mem -> XW, getElem?_toArray -> Xd, size_toArray -> Xl, length_cons -> WY, length_nil -> WS, cons_append -> Y1, nil_append -> YR, set_cons_zero -> YA, set_cons_succ -> Yz, take_zero -> Zk, getD_eq_getElem?_getD -> XR, length_map -> XQ, map_append -> YT, map_nil -> Y5, length_append -> WX, push_toArray -> Zl, drop_succ_cons -> Zm, drop_zero -> Zn, take_succ_cons -> Zo, replicate_succ -> YB, getElem?_map -> Xe, length_replicate -> Zp, take_succ_eq_append_getElem -> Y3, getElem_mem -> Ym, getElem?_set_ne -> Xi, getElem?_set_self -> Xj, foldl_nil -> Yx, length_singleton -> YV, getElem?_cons_zero -> X2, getElem?_cons_succ -> Yq, zip_cons_cons -> Yu, zip_nil_left -> Yv, foldl_cons -> Yw, setIfInBounds_toArray -> Yy, mem_cons -> Yj, not_mem_nil -> Zs, append_nil -> Yd, mem_map -> Zt, filter_cons_of_neg -> Zu, getElem_map -> YN, pairwise_map -> Y0, all_eq_true -> X7, mem_map_of_mem -> Zy
open Option renaming map_some -> Xu, getD_none -> Zv, isSome_none -> Zw, isSome_some -> Zx
open Nat renaming lt_add_one -> Zi, zero_lt_one -> Zj, zero_le -> WZ, le_trans -> WO, zero_lt_succ -> Zq, le_refl -> WN, le_succ -> Zr, lt_or_ge -> WV
open Classical renaming byContradiction -> Y2
namespace Go.Proofs.YtfflpdekojlnmaaGreatDoor
open Go.RowKit
section
section
variable {o:List (Option ab)} {P:Program}
theorem bI.v (x:Value):bI o (.v x) (.v x):=fun D nu w y hro hra=>by rw [hra.c6];exact .v x
theorem bI.cI {l m:List AV} (h:zM o l m):bI o (.cI l) (.cI m):=fun D nu w x hro hra=>by
 obtain ⟨h1,h2⟩:=h.at'
 cases hra with
 | cI _ xs k1 k2=>
  refine .cI _ _ (by omega) fun i c y q1 q2=> ?_
  have hi:i<l.length:=by rw [h1];exact (WT.1 q1).1
  exact h2 i _ c (Xb hi) q1 D nu w y hro (k2 i _ y (Xb hi) q2)
theorem bI.ptr {id z:Nat} {ob:ab} {row cs:List AV} (ho:o[id]? = some (some ob)) (hv:ob.gw=false) (hr:ob.rows=[row]) (hz:ob.z≠0) (h:zM o row cs):bI o (.ptr id 0 z 0 0) (.vp cs):=fun D nu w x hro hra=>by
 obtain ⟨hl,hall⟩:=h.at'
 cases hra with
 | ptr _ _ _ _ _ b h1 h2=>
 rcases hro.obj id ob ho with ⟨e1,e2,e3⟩|⟨g,cur,hb⟩|⟨g,es,cl,hmp⟩
 ·rw [e2] at hr;cases hr
 ·have hb0:=hb.pE;rw [ab.hl,hv,if_neg (by decide)] at hb0;rw [hb0] at h2;cases h2
  have hrow:ob.rows[0]? = some row:=by rw [hr];rfl
  have hget: ∀(j:Nat) c,cs[j]? = some c-> ∃c0,row[j]? = some c0∧cur[0 * ob.z+j]? = some (cur.getD (0 * ob.z+j) Go.undef):=fun j c hc=>by
   have hj:j<row.length:=by rw [hl];exact (WT.1 hc).1
   have:=hb.pI hrow hj
   refine ⟨_,Xb hj, ?_⟩;rw [Xa this,Array.getD,dif_pos this]
   rfl
  refine .vp _ b _ (fun j=>cur.getD (0 * ob.z+j) Go.undef) ⟨(WR.1 hb.fl).1,bb _ _,hb.nY⟩ (fun j c hc=> ?_) (fun j c hc=> ?_) (fun j c hc=> ?_)
  all_goals obtain ⟨c0,k1,k2⟩:=hget j c hc
  ·have hblk:=hb.fl;simp only [Nat.zero_mul,Nat.zero_add] at k2 ⊢;rw [<-k2];simp [World.cell?,hblk]
  ·exact hall j c0 c k1 hc D nu w _ hro (hb.cell 0 j row c0 _ hrow k1 k2)
  ·exact hb.one 0 j row c0 _ hrow k1 k2
 ·exact absurd hmp.z hz
theorem bI.Ov {id len:Nat} {ob:ab} (ho:o[id]? = some (some ob)) (hv:ob.gw=true) (hl:ob.rows.length=len) {rows':List (List AV)} (hlen:rows'.length=ob.rows.length)
  (hr: ∀(i:Nat) row row',ob.rows[i]? = some row->rows'[i]? = some row'->zM o row row'):bI o (.vec id len) (.aB ob.z rows' len):=fun D nu w x hro hra=>by
 have hx:x=nu id len:=by
  cases hra with
  | vec=>rfl
 subst hx;subst hl
 have get: ∀(i:Nat) row',rows'[i]? = some row'-> ∃row,ob.rows[i]? = some row∧row'.length=row.length∧ ∀(j:Nat) c',row'[j]? = some c'-> ∃c,row[j]? = some c∧bI o c c':=fun i row' h=>by
  have hi:i<ob.rows.length:=by rw [<-hlen];exact (WT.1 h).1
  obtain ⟨h1,h2⟩:=(hr i _ row' (Xb hi) h).at';refine ⟨_,Xb hi,h1.symm,fun j c' hc=> ?_⟩
  have hj:j<ob.rows[i].length:=by rw [h1];exact (WT.1 hc).1
  exact ⟨_,Xb hj,h2 j _ c' (Xb hj) hc⟩
 rcases hro.obj id ob ho with ⟨e1,e2,e3⟩|⟨g,cur,hb⟩|⟨g,es,cl,hmp⟩
 rotate_left 2
 ·rw [hmp.gw] at hv;cases hv
 ·rw [e2] at hlen ⊢;obtain rfl:=List.eq_nil_of_length_eq_zero hlen;simp only [List.length_nil];rw [e3];exact .bu _
 ·obtain ⟨cap,q1,q2,q3,q4⟩:=hb.vec hv;rw [q1]
  have hget: ∀(i j:Nat) row c,ob.rows[i]? = some row->row[j]? = some c->cur[i * ob.z+j]? = some (cur.getD (i * ob.z+j) Go.undef):=fun i j row c k1 k2=>by
   have:=hb.pI k1 (WT.1 k2).1
   simp [Array.getD,this]
  refine .aB _ _ _ g 0 cap (fun i j=>cur.getD (i * ob.z+j) Go.undef) (by omega) (by omega) q3 (fun _=>⟨(WR.1 hb.fl).1,bb _ _,hb.nY⟩) (fun i row' k1=> ?_) (fun i j row' c' k1 k2=> ?_) (fun i j row' c' k1 k2=> ?_) (fun i j row' c' k1 k2=> ?_)
  ·obtain ⟨row,r1,r2,_⟩:=get i row' k1;rw [r2];exact hb.row i row r1
  all_goals
   obtain ⟨row,r1,r2,r3⟩:=get i row' k1;obtain ⟨c,r4,r5⟩:=r3 j c' k2
  ·rw [<-hget i j row c r1 r4]
   have:=hb.fl
   simp [World.cell?,this]
  ·exact r5 D nu w _ hro (hb.cell i j row c _ r1 r4 (hget i j row c r1 r4))
  ·exact hb.one i j row c _ r1 r4 (hget i j row c r1 r4)
theorem aq.lC {f:FuncId} {fn:Func} {c:Code} {args:List AV} {r:AV} (hf:P.funcs[f]? = some fn) (hb:fn.body=some c) (hc:e9 P f=true) (hok:bT c=true) (hmx:P.follows .mixedOrders=true)
  (ha:aN 0 args=true) (hr:r.wf 0=true) (h:cm P 0 c ⟨args++List.replicate (fn.ntmps - args.length) .undef,[], .no⟩ (xX P fn.results.toList (fun r0 o=>bI o r0 r))):aq P f args r:=by
 obtain ⟨_,h2⟩:=gT.enter (o:=[]) hf hb hc hok hmx h;refine ⟨⟨ha,hr⟩,hc,fun D nu w vargs hro hra=>(h2 D nu w vargs hro hra).mono ?_⟩;rintro e w' ⟨v,nu',o',r0,rfl,hm,hro',hra',hz⟩;have hm':bK nu [] w nu' [] w':=⟨hm.os,hm.tape,hm.output,hm.size,fun id len hh=>by obtain ⟨x,k,_⟩:=hh;simp at k,fun b hb ho=>⟨(hm.keep b hb ho).1,bb _ _⟩⟩;exact ⟨v,nu',[],r,rfl,hm',(.nil _ _ _ hro'.up (hro'.gl.nil (fun _ _ h=>h))),hz _ _ _ _ hro' hra',rfl,rfl⟩
end
mutual
theorem zg {f g:Nat->Nat} {m:Nat} (hf: ∀k,k<m->f k=g k): ∀a:AV,a.wf m=true->a.bg f=a.bg g
 | .undef,_=>rfl
 | .v _,_=>rfl
 | .agg cs,h=>by rw [AV.bg,AV.bg,kg hf cs h]
 | .cI cs,h=>by rw [AV.bg,AV.bg,kg hf cs h]
 | .aB z rows len,h=>by rw [AV.bg,AV.bg,sZ hf rows h]
 | .vp cs,h=>by rw [AV.bg,AV.bg,kg hf cs h]
 | .ptr id _ _ _ _,h=>by simp [AV.wf] at h;rw [AV.bg,AV.bg,hf id h]
 | .vec id _,h=>by simp [AV.wf] at h;rw [AV.bg,AV.bg,hf id h]
 | .fn g a b,h=>by
  simp only [AV.wf,XK] at h;rw [AV.bg,AV.bg,kg hf a h.1,kg hf b h.2]
 | .full a,h=>by rw [AV.bg,AV.bg,zg hf a h]
 | .kF p a,h=>by rw [AV.bg,AV.bg,zg hf a h]
 | .mp rows,h=>by rw [AV.bg,AV.bg,sZ hf rows h]
theorem kg {f g:Nat->Nat} {m:Nat} (hf: ∀k,k<m->f k=g k): ∀l:List AV,aN m l=true->bP f l=bP g l
 | [],_=>rfl
 | a :: l,h=>by
  simp only [aN,XK] at h;rw [bP,bP,zg hf a h.1,kg hf l h.2]
theorem sZ {f g:Nat->Nat} {m:Nat} (hf: ∀k,k<m->f k=g k): ∀l:List (List AV),bj m l=true->cG f l=cG g l
 | [],_=>rfl
 | a :: l,h=>by
  simp only [bj,XK] at h;rw [cG,cG,kg hf a h.1,sZ hf l h.2]
end
theorem y9 {f g:Nat->Nat} {m:Nat} (hf: ∀k,k<m->f k=g k): ∀l:List (Option ab),(∀ob,some ob∈l->bj m ob.rows=true)->l.map (Option.map (ab.bg f))=l.map (Option.map (ab.bg g))
 | [],_=>rfl
 | none :: l,h=>by rw [YW,YW,y9 hf l (fun ob hb=>h ob (XW _ hb))];rfl
 | some ob :: l,h=>by
  rw [YW,YW,y9 hf l (fun ob hb=>h ob (XW _ hb)),Xu,Xu,ab.bg,ab.bg,sZ hf _ (h ob List.mem_cons_self)]
theorem aa.UN {P:Program} {f:FuncId} {args0:List AV} {pre o0 o1 post:List (Option ab)} {r0:AV} {K:AV->List (Option ab)->Prop} (h:da P f args0 o0 r0 o1) (hl:o1.length=o0.length)
  (hwa:aN o0.length args0=true) (hw0: ∀ob,some ob∈o0->bj o0.length ob.rows=true) (hw1: ∀ob,some ob∈o1->bj o0.length ob.rows=true) (hr:r0.wf o0.length=true)
  (k:K (r0.bg (fun j=>pre.length+j)) (pre++o1.map (Option.map (ab.bg (fun j=>pre.length+j)))++post)):aa P f (bP (fun j=>pre.length+j) args0) (pre++o0.map (Option.map (ab.bg (fun j=>pre.length+j)))++post) K:=by
 have hs: ∀j,j<o0.length->sig (List.range' pre.length o0.length) (pre++o0.map (Option.map (ab.bg (fun j=>pre.length+j)))++post).length j=pre.length+j:=fun j hj=>by
  rw [sig,if_pos (by simpa using hj),List.getD_eq_getElem?_getD,List.getElem?_range' hj];simp
 refine aa.fr (List.range' pre.length o0.length) h List.nodup_range' ?_ (kg hs _ hwa).symm (by rw [List.length_range'];exact hwa) (fun j ob hj=>by rw [List.length_range'];exact hw0 ob (List.mem_of_getElem? hj)) ?_
 ·have e2:=y9 hs o0 hw0
  have e3: ∀L:List (Option ab),pre++o0.map (Option.map (ab.bg (fun j=>pre.length+j)))++post=L->(List.range' pre.length o0.length).map (fun i=>L[i]?)=(o0.map (Option.map (ab.bg (fun j=>pre.length+j)))).map some:=by
   rintro L rfl;refine List.ext_getElem (by simp) fun j h1 h2=> ?_
   have hj:j<o0.length:=by simpa using h2
   simp only [List.getElem_map,List.getElem_range',Nat.one_mul];rw [List.append_assoc,List.getElem?_append_right (by omega),Nat.add_sub_cancel_left,List.getElem?_append_left (by simpa using hj),List.getElem?_map,Xb hj,Xu]
  rw [e3 _ rfl];refine (congrArg (List.map some) e2.symm).trans ?_;rw [List.map_map]
  rfl
 ·have e:=qc (sig (List.range' pre.length o0.length) (pre++o0.map (Option.map (ab.bg (fun j=>pre.length+j)))++post).length) o1 (o0.map (Option.map (ab.bg (fun j=>pre.length+j)))) pre post (by simpa using hl);rw [hl] at e;rw [e,zg hs r0 hr,y9 hs o1 hw1];exact k
theorem bI.wk {o:List (Option ab)} {z len:Nat} {rows:List (List AV)} (h:bj 0 rows=true):bI o (.aB z rows len) (.aB z rows len):=bI.of 1 (p:=(AV.aB z rows len).wf 0=true) (by rw [gY]<;>simp) (by rw [AV.wf];exact h)
theorem bI.B7 {o:List (Option ab)} {id len:Nat} {ob:ab} (ho:o[id]? = some (some ob)) (hv:ob.gw=true) (hl:ob.rows.length=len) (hw:bj 0 ob.rows=true):bI o (.vec id len) (.aB ob.z ob.rows len):=bI.of 1 (p:=ob.gw=true∧ob.rows.length=len∧bj 0 ob.rows=true) (by rw [gY,ho]) ⟨hv,hl,hw⟩
section
variable {P:Program}
theorem F3 {n0:Nat} {c:Code} {s:AS} {Q:bd->AS->Prop} (s0:AS) (hok:bT c=true) (h:cm P n0 c s (fun e s'=>e = .normal∧Wk n0 s' s0)) (k:Q .normal s0):Cr P n0 c s Q:=fun f m D nu a w hZr hn hm hs hmx R hO hR=>by
 refine gq hmx m hZr hn c hok s a w D nu f.Z _ R hO hm hs h ?_;rintro e D' Z' s' a' w' nu' h1 h2 ⟨rfl,hk⟩;refine hR .normal D' Z' s0 a' w' nu' ?_ (jy hk h2) k;rw [<-hk.y];exact m.step h1 h2.ro hk.uM (jy hk h2).ro (fun c v hr hc=>hk.ra hr hc) (fun _ h=> .inl h) (fun _ h=> .inl h) (fun b hb=>⟨((m.pd h1).1 b hb).1,((m.pd h1).1 b hb).2, .inl hb⟩) (Nat.le_trans hn hk.n)
theorem Ab {n0 id:Nat} {s:AS} {ops:Array Oper} {d:Bool} {Q:bd->AS->Prop} (s0:AS) (hok:dw ops=true) (h:cm P n0 (.region id ops d) s (fun e s'=>e = .normal∧Wk n0 s' s0)) (k:Q .normal s0):cm P n0 (.region id ops d) s Q:=by
 have:=F3 (c:= .region id ops d) s0 hok h k
 cases d
 ·exact .inr this
 ·exact .inr this
theorem Ac {n0:Nat} {x y:Code} {s:AS} {Q:bd->AS->Prop} (s0:AS) (hx:bT x=true) (hy:bT y=true) (h:cm P n0 x s (fun e s'=>e = .normal∧Wk n0 s' s0)) (k:cm P n0 y s0 Q):cm P n0 (.seq x y) s Q:= .inr (fun f m D nu a w hZr hn hm hs hmx R hO hR=>by
 refine wpIn_seq (gq hmx (f:=f) m hZr hn x hx s a w D nu f.Z _ _ (fun a w h=>hO a w h) hm hs h ?_);rintro e D' Z' s' a' w' nu' h1 h2 ⟨rfl,hk⟩;refine gq hmx (f:=f) m hZr hn y hy s0 a' w' D' nu' Z' Q R hO ?_ (jy hk h2) k hR;rw [<-hk.y]
 exact m.step h1 h2.ro hk.uM (jy hk h2).ro (fun c v hr hc=>hk.ra hr hc) (fun _ h=> .inl h) (fun _ h=> .inl h) (fun b hb=>⟨((m.pd h1).1 b hb).1,((m.pd h1).1 b hb).2, .inl hb⟩) (Nat.le_trans hn hk.n))
theorem SR {n0 i:Nat} {ops:Array Oper} {d:Bool} {a b:Code} {s:AS} {Q:bd->AS->Prop} (h:cm P n0 (.seq (.seq (.region i ops d) a) b) s Q):cm P n0 (.seq (.seq (.region i ops d) a) b) s Q:=h
end
section
variable {P:Program} {ops:Array Oper}
def iB:List Oper->List Oper
 | []=>[]
 | o :: l=>o :: l.map (fun p=>{ p with after:=p.after.push ⟨0, .data⟩ })
theorem tO (l:List Oper):(iB l).length=l.length:=by cases l<;>simp [iB]
theorem pM (l:List Oper) (i:Nat):(iB l)[i]? = (l[i]?).map (fun p=>if i=0 then p else { p with after:=p.after.push ⟨0, .data⟩ }):=by
 cases l with
 | nil=>simp [iB]
 | cons o l=>
  cases i with
  | zero=>simp [iB]
  | succ i=>simp [iB]
theorem Dj (l:List Oper) (t:Array Value):yielded (iB l).toArray t=yielded l.toArray t:=by
 funext j
 simp only [yielded,Xd,pM]
 cases l[j]? with
 | none=>rfl
 | some o=>by_cases h:j=0<;>simp only [Xu,Option.bind_some,h,if_true,if_false]
theorem MP {F:Fence} {n:Nat} {Q:Exit->Act->World->Prop} {l:List Oper} {i:Nat} {K:Act->World->Prop} {a:Act} {w:World} (h:wpOpIn F n P (iB l).toArray Q i K a w):wpOpIn F n P l.toArray Q i K a w:=by
 unfold wpOpIn at h ⊢;simp only [Xd,pM,Dj] at h ⊢
 cases ho:l[i]? with
 | none=>simpa [ho] using h
 | some o=>
  simp only [ho,Xu] at h ⊢
  split at h<;>exact h
theorem ET {F:Fence} {n:Nat} {Q:Exit->Act->World->Prop} {l:List Oper} {ops:Array Oper} {E:Act->World->Prop}: ∀(fuel:Nat) (listed:Array Bool) (a:Act) (w:World),nW (wpOpIn F n P (iB l).toArray Q) ops E fuel listed a w->nW (wpOpIn F n P l.toArray Q) ops E fuel listed a w
 | 0,_,_,_,h=>h
 | fuel+1,_,_,_,h=>⟨h.1,fun i hi=>MP (wpOpIn_mono (fun _ _=>ET fuel _ _ _) (h.2 i hi))⟩
theorem tP {l:List Oper} {listed:Array Bool} (h0:listed.getD 0 false=true):Region.ready .any (iB l).toArray listed=Region.ready .any l.toArray listed:=by
 unfold Region.ready;simp only [Xl,tO,Xd,pM];refine List.filter_congr fun i _=> ?_
 congr 1
 cases l[i]? with
 | none=>rfl
 | some o=>
  simp only [Xu,Option.getD_some]
  split
  ·rfl
  ·simp;intro _;right;simpa using h0
theorem An {st:Nat->(Act->World->Prop)->Act->World->Prop} (hst: ∀(i:Nat) (K K':Act->World->Prop) (a:Act) (w:World),(∀a w,K a w->K' a w)->st i K a w->st i K' a w) {l:List Oper} {E:Act->World->Prop}: ∀(fuel:Nat) (listed:Array Bool) (a:Act) (w:World),listed.getD 0 false=true->nW st (iB l).toArray E fuel listed a w->nW st l.toArray E fuel listed a w
 | 0,listed,a,w,h0,h=>by
  rw [nW,tP h0] at h;exact h
 | fuel+1,listed,a,w,h0,h=>by
  rw [nW,tP h0] at h;refine ⟨h.1,fun i hi=>hst _ _ _ _ _ (fun a w=>An hst fuel _ a w ?_) (h.2 i hi)⟩
  by_cases hi0:i=0
  ·subst hi0
   have:0<listed.size:=by
    rcases Nat.eq_zero_or_pos listed.size with q|q
    ·simp [q] at h0
    ·exact q
   simp [this]
  ·rw [getD_set_ne false hi0];exact h0
theorem GB {r:Option Nat} {n i:Nat} {o:Oper} {Q:Exit->Act->World->Prop} (hC:dw ops=true) (hns:Region.noSelect ops=true) (hP: ∀c a w, ¬Q (.panic c) a w) (ho:ops[i]? = some o) {d t:Tmp} {v:Value} {a:Act} {w:World} {K:Act->World->Prop} (hd:d∉o.looksAt ops) (hod:o.dst≠some d) (hot:o.dst≠some t) (h:wpOpIn (WF r) n P ops Q i K (a.put (some d) v) w) :
  wpOpIn (WF r) n P ops Q i (fun a' w'=>K (a'.put (some d) v) w'∧a'.eval (.tmp t)=a.eval (.tmp t)) a w:=by
 have hsel:=fun cs b=>Region.noSelect_spec hns i o cs b ho;have hput: ∀(a:Act) (u:Value),(a.put (some d) v).put o.dst u=(a.put o.dst u).put (some d) v:=fun a u=>Act.put_comm a v u (fun e he q=>hod (by rw [q,he]))
 have hev: ∀(a:Act) (u:Value),(a.put o.dst u).eval (.tmp t)=a.eval (.tmp t):=fun a u=>Act.eval_put fun e he hx=>hot (by
  rw [he];injection hx with hx;rw [hx])
 unfold wpOpIn at h ⊢;simp only [ho] at h ⊢;rw [wanted_put o a (some d) v (fun e he=>by injection he with he;exact he ▸ hd)] at h
 split at h
 ·rename_i hw;rw [if_pos hw];refine ⟨fun f _=>trivial, ?_⟩;have h:=h.2;rw [mG hC ho,execOp_put o hsel a (some d) v (fun e he=>by injection he with he;exact he ▸ hd)] at h;rw [mG hC ho];generalize (execOp a.eval o).run P w=res at h ⊢
  cases res with
  | ok x w'=>
   cases x<;>simp only [Oper.uponIn] at h ⊢
   case value=>exact ⟨hput _ _ ▸ h,hev _ _⟩
   case skip=>exact ⟨hput _ _ ▸ h,hev _ _⟩
   case enter=>
    refine ⟨h.1,CallsIn.mono h.2 fun e w'' he=> ?_⟩;cases e
    case returned=>exact ⟨hput _ _ ▸ he,hev _ _⟩
    case panicked=>exact absurd he (hP _ _ _)
    case outgrown=>exact he
   case defer q=>exact ⟨hput { a with defers:=q :: a.defers } undef ▸ h,hev { a with defers:=q :: a.defers } undef⟩
   case row=>exact ⟨h.1,RowsIn.mono h.2 fun _ _ he=>⟨hput _ _ ▸ he,hev _ _⟩⟩
   case round=>
    refine ⟨h.1,RoundIn.mono h.2 fun e w'' he=> ?_⟩;cases e
    case returned=>exact ⟨hput _ _ ▸ he,hev _ _⟩
    case panicked=>exact absurd he (hP _ _ _)
    case outgrown=>exact he
  | halt x w'=>
   cases x<;>simp only [Oper.uponIn] at h ⊢
   all_goals first|exact h|exact absurd h (hP _ _ _)
 ·rename_i hw;rw [if_neg hw];exact ⟨fun f _=>trivial,hput _ _ ▸ h.2,hev _ _⟩
def xo (ops:Array Oper) (d t:Tmp):Bool:=
 Region.noSelect ops&&dw ops&&(d !=t)&&(match ops[0]? with|some o=>(o.dst==some d)&&(match o.op with| .move (.tmp u)=>u==t|_=>false)&&o.guard.isNone&&(o.after.size==0)|none=>false) &&
 (List.range ops.size).all (fun j=>j==0||match ops[j]? with|some o=>(o.dst !=some d)&&(o.dst !=some t)&&(aG ops j 0 || !(o.looksAt ops).contains d)|none=>true)
theorem A5 {r:Option Nat} {n:Nat} {Q:Exit->Act->World->Prop} {d t:Tmp} (hL:xo ops d t=true):0<ops.size∧(∀(l:List Oper) (listed:Array Bool),l.toArray=ops->listed.getD 0 true=false->0∈Region.ready .any (iB l).toArray listed)∧(∀(listed:Array Bool),listed.getD 0 true=false->0∈Region.ready .any ops listed)∧ ∀(K:Act->World->Prop) a w,wpOpIn (WF r) n P ops Q 0 K a w↔K (a.put (some d) (a.eval (.tmp t))) w:=by
 simp only [xo,XK,List.all_eq_true,List.mem_range,bne_iff_ne] at hL;obtain ⟨⟨⟨⟨hns,hC⟩,hdt⟩,h0⟩,hall⟩:=hL
 obtain ⟨o0,ho0,hdst,hop,hg,haf⟩: ∃o0:Oper,ops[0]? = some o0∧o0.dst=some d∧o0.op = .move (.tmp t)∧o0.guard=none∧o0.after = #[]:=by
  cases ho:ops[0]? with
  | none=>simp [ho] at h0
  | some o=>
   simp only [ho,XK,beq_iff_eq] at h0;refine ⟨o,rfl,h0.1.1.1, ?_,by simpa using h0.1.2,by simpa using h0.2⟩
   have:=h0.1.1.2
   split at this
   ·rename_i u hu;rw [hu];simp at this;rw [this]
   ·cases this
 have h0s:0<ops.size:=by
  rcases Nat.eq_zero_or_pos ops.size with q|q
  ·rw [Array.getElem?_eq_none (by omega)] at ho0;cases ho0
  ·exact q
 refine ⟨h0s,fun l listed hl' hl=>mem_ready.2 ⟨hl,o0,by subst hl';simp only [Xd] at ho0;simp [pM,ho0],fun e he _=>by rw [haf] at he;simp at he⟩,fun listed hl=>mem_ready.2 ⟨hl,o0,ho0,fun e he _=>by rw [haf] at he;simp at he⟩, ?_⟩
 ·intro K a w;unfold wpOpIn;simp only [ho0];rw [if_pos (by simp [Region.wanted,hg])];unfold Oper.wpIn;rw [mG hC ho0]
  have:(execOp a.eval o0).run P w = .ok (.value (a.eval (.tmp t))) w:=by unfold execOp;rw [hop];rfl
  rw [this];simp only [Oper.uponIn,hdst];exact ⟨fun h=>h.2,fun h=>⟨fun f _=>trivial,h⟩⟩
theorem DL {r:Option Nat} {n:Nat} {Q:Exit->Act->World->Prop} {E:Act->World->Prop} {d t:Tmp} (hL:xo ops d t=true) (hP: ∀c a w, ¬Q (.panic c) a w): ∀(fuel:Nat) (listed:Array Bool) (a:Act) (w:World),listed.size=ops.size->listed.getD 0 true=false->nW (wpOpIn (WF r) n P ops Q) ops E fuel (listed.setIfInBounds 0 true) (a.put (some d) (a.eval (.tmp t))) w->nW (wpOpIn (WF r) n P ops Q) ops E (fuel+1) listed a w:=by
 obtain ⟨h0s, -,hread,hrun⟩:=A5 (P:=P) (Q:=Q) (r:=r) (n:=n) hL;simp only [xo,XK,List.all_eq_true,List.mem_range,bne_iff_ne] at hL;obtain ⟨⟨⟨⟨hns,hC⟩,hdt⟩,h0⟩,hall⟩:=hL
 have hstep: ∀(listed:Array Bool),listed.size=ops.size->listed.getD 0 true=false-> ∀i∈Region.ready .any ops listed,i≠0->i∈Region.ready .any ops (listed.setIfInBounds 0 true)∧ ∀(K:Act->World->Prop) v a w,wpOpIn (WF r) n P ops Q i K (a.put (some d) v) w->wpOpIn (WF r) n P ops Q i (fun a' w'=>K (a'.put (some d) v) w'∧a'.eval (.tmp t)=a.eval (.tmp t)) a w:=by
  intro listed hs hl i hi hi0;obtain ⟨g1,o,g2,g3⟩:=mem_ready.1 hi;have hil:i<ops.size:=(WR.1 g2).1
  refine ⟨mem_ready.2 ⟨by rw [getD_set_ne true (Ne.symm hi0)];exact g1,o,g2,fun e he hb=> ?_⟩, ?_⟩
  ·by_cases he0:e.on=0
   ·rw [he0];simp [hs,h0s]
   ·rw [getD_set_ne false (Ne.symm he0)];exact g3 e he hb
  ·have ha:=hall i hil;simp only [g2,Bool.or_eq_true,beq_iff_eq,hi0,false_or,XK,bne_iff_ne] at ha;intro K v a w h;refine GB hC hns hP g2 ?_ ha.1.1 ha.1.2 h
   rcases ha.2 with hdep|hlook
   ·exfalso;simp only [aG,g2,XK,beq_iff_eq,Array.any_eq_true'] at hdep;obtain ⟨e,he,hb,h00⟩:=hdep
    have:=g3 e he hb
    rw [h00] at this;simp only [Array.getD_eq_getD_getElem?] at this hl;rw [Xa (by omega)] at this hl;simp at this hl;rw [this] at hl;cases hl
   ·intro hm;rw [List.contains_iff_mem.2 hm] at hlook;cases hlook
 intro fuel
 induction fuel with
 | zero=>
  intro listed a w hs hl h
  refine ⟨fun he=> ?_,fun i hi=> ?_⟩
  ·have:=hread listed hl;rw [he] at this;cases this
  ·by_cases hi0:i=0
   ·subst hi0;exact (hrun _ _ _).2 h
   ·have:=(hstep listed hs hl i hi hi0).1
    rw [h.1] at this;cases this
 | succ fuel ih=>
  intro listed a w hs hl h
  refine ⟨fun he=> ?_,fun i hi=> ?_⟩
  ·have:=hread listed hl;rw [he] at this;cases this
  ·by_cases hi0:i=0
   ·subst hi0;exact (hrun _ _ _).2 h
   ·obtain ⟨q1,q2⟩:=hstep listed hs hl i hi hi0;refine wpOpIn_mono (fun a' w' hk=> ?_) (q2 _ _ _ _ (h.2 i q1));have e:(listed.setIfInBounds 0 true).setIfInBounds i true=(listed.setIfInBounds i true).setIfInBounds 0 true:=Array.setIfInBounds_comm _ _ (Ne.symm hi0)
    refine ih _ a' w' (by simpa using hs) ?_ ?_
    ·rw [getD_set_ne true hi0];exact hl
    ·rw [<-e,hk.2];exact hk.1
theorem qN {n0 id:Nat} {s:AS} {l:List Oper} {Q:bd->AS->Prop} (m0 d t:Nat) (hL:xo l.toArray d t=true) (hB:gG (iB l).toArray m0=true) (hC:dw (iB l).toArray=true) (h:dP P (iB l) (fun s=>kG P (iB l) ((iB l).drop m0) s (Q .normal)) ((iB l).take m0) s):cm P n0 (.region id l.toArray true) s Q:=by
 refine .inr (fun f m D nu a w hZr hn hm hs hmx R hO hR=> ?_)
 have hCl:dw l.toArray=true:=by
  simp only [xo,XK] at hL;exact hL.1.1.1.2
 have hm0:m0<=(iB l).length:=by
  simp only [gG,XK,decide_eq_true_eq,Xl] at hB;exact Nat.le_of_lt hB.1.1.2
 have hcalm: ∀oo,oo∈(iB l).drop m0-> ∀c,oo.op ≠ .defer c:=fun oo ho c e=>by
  unfold dw at hC;rw [Array.all_eq_true_iff_forall_mem] at hC;have h2:=hC oo (by simpa using List.mem_of_mem_drop ho);rw [e] at h2;cases h2
 obtain ⟨R',hR'⟩: ∃R':Exit->Act->World->Prop,R'=fun e a w=>(match e with| .panic _=>False|_=>True)∧R e a w:=⟨_,rfl⟩
 have hP: ∀c a w, ¬R' (.panic c) a w:=fun c a w q=>by rw [hR'] at q;exact q.1
 have hN: ∀a w,R .normal a w->R' .normal a w:=fun a w q=>by rw [hR'];exact ⟨trivial,q⟩
 obtain ⟨rs,hrel⟩:=iA (P:=P) (T:=fun k=>qp (wpOpIn (WF f.r) 9 P (iB l).toArray R') (R' .normal) (List.range' k ((iB l).length - k))) hm0 hB hs.drew (fun sk a' wr hE ho hy hsk hB'=>pU _ _ _ _ (by omega) (kL m hZr _ sk a' wr D nu hcalm (by
  rw [ho,hy];exact m.own hm hs.ro ((ay (cC w)).trans (ay hE)) (ho ▸ hsk.ro)) hsk hB' (fun D' s' a2 w2 nu' q1 q2 q3=>hN _ _ (hR .normal D' f.Z s' a2 w2 nu' q1 q2 q3)))) ((iB l).take m0) 0 s [] (fun _=>a) (by simp) (Nat.zero_le _) ⟨rfl,rfl,rfl,fun _=>rfl,fun _=>hs.tm.len,fun x t c v h1 h2=> .inl ⟨h1,h2⟩⟩ h
 have hX:=ia _ (fun _=>false) (fun i v w h=>by cases h) m0 (Fu hC R') hB (lU _ _ _ hrel);have hX:=ET _ _ _ _ hX
 have hlen:0<l.length:=by
  rw [<-tO];simp only [gG,XK,decide_eq_true_eq,Xl] at hB
  have:=hB.1.1.2;omega
 obtain ⟨fuel,hf⟩: ∃fuel,l.length=fuel+1:=⟨l.length - 1,by omega⟩
 have hX2:nW (wpOpIn (WF f.r) 9 P l.toArray R') l.toArray (R' .normal) (fuel+1) (Array.replicate (fuel+1) false) a w.drew:=by
  rw [Xl,tO,hf] at hX;refine DL hL hP fuel _ a _ (by simp [hf]) (by simp) ?_;obtain ⟨-, he, -,hrun⟩:=A5 (P:=P) (Q:=R') (r:=f.r) (n:=9) hL;exact An (st:=wpOpIn (WF f.r) 9 P l.toArray R') (fun i K K' a w h k=>wpOpIn_mono h k) fuel ((Array.replicate (fuel+1) false).setIfInBounds 0 true) _ _ (by simp) ((hrun _ _ _).1 (hX.2 0 (he l _ rfl (by simp))))
 refine Code.wpIn_mono (Q:=R') (fun e a w q=>by rw [hR'] at q;exact q.2) (wpIn_region_any hmx (yo _ _ _ _ ?_));rw [Xl,hf];exact hX2
end
end
theorem y6 {l:List ByteArray} (hn:l.Nodup) {i:Nat} (h:i<l.length):l[i]∉l.take i:=fun q=>by
 obtain ⟨j,hj,e⟩:=List.mem_take_iff_getElem.1 q;exact List.pairwise_iff_getElem.1 hn j i (by omega) h (by omega) e
theorem Kg:b9 []=[]:=rfl
def py (a:List Nat):List AV:=[.aB 1 (aJ a) a.length]
theorem nT (n:Nat) (a:List Nat):aN n (py a)=true:=by simp only [py,aN,AV.wf,gL,YY]
@[go_sem] theorem Tq (n:Nat) (l:List (List Nat)):bj n (l.map py)=true:=bw _ (nT n) _
def sl:Option nA->AV
 | some st=> .cI [.vp (gV st.rows st.ends), .v (.bool true)]
 | none=> .cI [.v (.pointer none), .v (.bool false)]
theorem LI (o:Option nA):(sl o).wf 0=true:=by
 cases o with
 | none=>rfl
 | some st=>simp only [sl,AV.wf,aN,gV,qu,qt,YY]
theorem lx (m:BitVec 32):(∀n∈ar m,n<100)∧(ar m).length<=1000:=by
 refine ⟨fun n hn=> ?_, ?_⟩
 ·rw [ar,List.mem_filter,List.mem_range] at hn;omega
 ·have:=List.length_filter_le m.getLsbD (List.range 32)
  rw [List.length_range] at this;rw [ar];omega
theorem oX {s:bW} {a:List Nat} (h:Made (aU s) a):(∀n∈a,n<100)∧a.length<=1000:=by
 rcases h.2 with rfl|⟨cur,l,rfl⟩
 ·simp
 ·exact lx _
def iN (s:bW) (st:nA):List (Option ab):=[some ⟨79,1,false,[[.aB 1 (aJ (ar s.la)) (ar s.la).length]]⟩,some ⟨83,0,false,Ic (st.all.map gx)⟩,none,none,some ⟨79,1,true,st.all.map py⟩,some ⟨70,2,false,[[.vec 6 st.rows.length, .vec 7 st.rows.length]]⟩,some ⟨84,1,true,st.rows.map (fun r=>[.mp (b9 r)])⟩,some ⟨4,1,true,st.ends.map (fun b=>[.v (.bool b)])⟩]
theorem QM {s:bW} (ok:zN s) (labs:List ByteArray) (hn:labs.Nodup) (hl:labs.length<=1000) (hb:(ar s.la).length<=1000):aq Tryz.prog 34 [.vp (iJ s),aS labs] (sl (ox (aU s) s.em (ar s.la) labs)):=by
 have CL:=NL s ok.len;have CE:=Ko s ok.len;have CK0:=Pc [0] (by simp) (by simp);have e0:aJ [0]=[[.v (.int .i64 0)]]:=rfl;rw [e0] at CK0;simp only [WY,WS,Nat.reduceAdd] at CK0
 have hA:aN 0 [AV.vp (iJ s),aS labs]=true:=by simp only [aS,aN,AV.wf,zB,aO,YY]
 have hF:=LI (ox (aU s) s.em (ar s.la) labs);generalize hrv:sl (ox (aU s) s.em (ar s.la) labs)=rv at hF ⊢
 (refine aq.lC Tryz.func34 rfl (by kernel_rfl) (by kernel_rfl) rfl hA hF ?_;simp only [Tryz.ntmps34,Tryz.results34,WY,WS,Nat.reduceAdd,Nat.reduceSub,List.replicate_succ,List.replicate_zero,Y1,YR])
 (refine au ?_;intro K hK K hK)
 refine aa.one CL ?_
 (revert K;revert K;refine au ?_;intro K hK K hK)
 refine aa.GD CK0 8 rfl (by simp only [go_sem,Nat.reduceLT,Nat.reduceLeDiff,Nat.reduceEqDiff,Zi,Zj,and_self]) rfl ?_
 repeat ((fail_if_success (with_reducible refine bm (i:=5) ?_));first|(with_reducible first|refine aw.up ?_|refine fun (K:AK) hK=> ?_|(refine hK _ ?_;clear hK K))|simp only [go_sem]|with_reducible refine wA ?_|clear hK K)
 refine a7 (dK (k:=4) (i:=0) (j:=0) (by decide) rfl (Nat.zero_lt_succ _) rfl rfl rfl rfl rfl) (by kernel_rfl) ?_;simp only [YA,Yz,WY,WS,Nat.reduceAdd,Y1,YR];refine a7 (c9 (k:=5) (i:=0) (j:=0) 84 1 (by decide) rfl (by decide) rfl rfl) (by kernel_rfl) ?_;simp only [YA,Yz,WY,WS,Nat.reduceAdd,Y1,YR];refine a7 (c9 (k:=5) (i:=0) (j:=1) 4 1 (by decide) rfl (by decide) rfl rfl) (by kernel_rfl) ?_;simp only [YA,Yz,WY,WS,Nat.reduceAdd,Y1,YR]
 (revert K;revert K;refine au ?_;intro K hK)
 refine aV (ι:=nA) 10 (fun st=>[(8, .vec 4 st.all.length),(10, .v (.int .i64 st.rows.length))]) (iN s) (fun st=>257 - st.rows.length) (fun st=>Cx labs st∧(∀a∈st.all,Made (aU s) a)∧sl (mZ (aU s) s.em (ar s.la) labs (257 - st.rows.length) st)=rv) s0
  ⟨Oc labs,fun a ha=>by simp only [s0,List.mem_singleton] at ha;subst ha;exact ⟨by simp, .inl rfl⟩,hrv⟩ ?_ ?_
 ·simp only [iN,s0]
  refine fm ?_ ?_ ai
  ·rfl
  ·exact ⟨rfl,rfl,nT _ _⟩
 ·rintro st ⟨hok,hmade,hrun⟩ K hK;have h257:=hok.max;have hel:=hok.ends;simp only [iN]
  (revert K;revert K;refine au ?_;intro K hK K hK K hK)
  refine bD.part (fun h=> ?_) (fun h=> ?_)
  ·have hlt:st.rows.length<st.all.length:=by replace h:=bG h;omega
   rw [show 257 - st.rows.length=(256 - st.rows.length)+1 by have:=hok.le;omega,mZ,if_pos hlt] at hrun
   ((iterate 3 revert K);refine aP h ?_;iterate 4 intro K hK)
   obtain ⟨hcm,hcl⟩:=oX (hmade _ (aW (d:=[]) hlt));rw [<-bC] at hcm hcl
   refine aV (ι:=Nat) 38 (fun i=>[(8, .vec 4 (dD (aU s) (bC st) st.all (labs.take i)).1.length),(13, .undef),(14, .undef),(15, .undef),(16, .undef),(37, .v (.int .i64 i))]) (fun i=>iN s { st with all:=(dD (aU s) (bC st) st.all (labs.take i)).1 }++[some ⟨84,0,false,b9 (dD (aU s) (bC st) st.all (labs.take i)).2⟩]) (fun i=>labs.length - i) (fun i=>i<=labs.length) 0 (Nat.zero_le _) ?_ ?_
   ·simp only [iN,Zk,dD,List.foldl_nil,Kg,Y1,YR];refine bl ?_ ai
    all_goals rfl
   ·intro i hi K hK;obtain ⟨k1,k2,k3,k4,k5,t,k6⟩:=s8 (aU s) (cur:=bC st) hok.nd (labs.take i);have hmd:=rF (aU s) hmade (cur:=bC st) (labs.take i);have hlk: ∀l,l∉labs.take i->look (dD (aU s) (bC st) st.all (labs.take i)).2 l=none:=fun l hl=>c8.2 fun q=>hl (k5.subset q)
    rcases hRi:dD (aU s) (bC st) st.all (labs.take i) with ⟨al,ro⟩
    rw [hRi] at k1 k2 k3 k4 k5 k6 hmd hlk;simp only at k1 k2 k3 k4 k5 k6 hmd hlk
    have hal:al.length<=2000:=by rw [List.length_take] at k4;omega
    simp only [iN,Y1,YR]
    ((iterate 5 revert K);refine au ?_;iterate 6 intro K hK)
    refine bD.part (fun h2=> ?_) (fun h2=> ?_)
    ·have hli:i<labs.length:=by replace h2:=bG h2;omega
     have eW:=ak (k:=i) (by omega);have eG:=getD_map encS labs i [] hli
     have eC:(al.map py).getD st.rows.length []=[.aB 1 (aJ (bC st)) (bC st).length]:=by
      have hx:al.getD st.rows.length []=bC st:=by rw [k6,b7 hlt];rfl
      rw [XR,List.getElem?_map,Xb (by omega)];rw [XR,Xb (by omega)] at hx;simp only [Xu,Option.getD_some] at hx ⊢;rw [hx];rfl
     have hN:=jE (aU s) (bC st) st.all (labs.take i) labs[i];rw [<-List.take_succ_eq_append_getElem hli,hRi,Ck] at hN;have CS:=Oj ok (bC st) labs[i] (by omega);obtain ⟨ts,tl⟩:=lx (iO s (fU s (bz (bC st))) labs[i]);have CKy:=Pc (aU s (bC st) labs[i]) ts (by have:(aU s (bC st) labs[i]).length<=1000:=tl;omega);have tl':(aU s (bC st) labs[i]).length<=1000:=tl;generalize hto:aU s (bC st) labs[i]=to at *;simp only [encS] at eG
     repeat (first|(with_reducible first|refine aw.up ?_|refine fun (K:AK) hK=> ?_|(refine hK _ ?_;clear hK K))|simp only [go_sem,eG,eC,h2]|with_reducible refine wA ?_|clear hK K)
     refine aa.one CS ?_
     ((iterate 8 revert K);refine au ?_;iterate 7 intro K hK)
     refine bD.part (fun h3=> ?_) (fun h3=> ?_)
     ·have hz:to=[]:=List.eq_nil_of_length_eq_zero (by replace h3:=bG h3;omega);rw [if_pos hz] at hN
      ((iterate 7 revert K);refine aP eW ?_)
      refine az.mk (i+1) (by omega) (by omega) ?_;rw [hN];simp only [iN,Y1,YR];exact aR ai
     ·have hz: ¬to=[]:=fun e=>by subst e;simp at h3
      rw [if_neg hz] at hN;have eA:=IC (gx to) (al.map gx)
      ((iterate 7 revert K);refine au ?_;iterate 8 intro K hK)
      refine aa.one CKy ?_
      cases hp:pos (al.map gx) (gx to) with
      | some k=>
       rw [hp] at hN eA;simp only [Xu] at eA hN;have eS:=qJ labs[i] k ro (hlk _ (y6 hn hli))
       ((iterate 8 revert K);refine Sf eA eS eW ?_)
       refine az.mk (i+1) (by omega) (by omega) ?_;rw [hN];simp only [iN,Y1,YR];exact aR ai
      | none=>
       rw [hp] at hN eA;simp only [Option.map_none] at eA hN;have eS:=qJ labs[i] al.length ro (hlk _ (y6 hn hli));have eK:=IE (gx to) (al.map gx) hp;rw [XQ] at eK
       repeat (first|(with_reducible first|refine aw.up ?_|refine fun (K:AK) hK=> ?_|(refine hK _ ?_;clear hK K))|simp only [go_sem,eA,eS,eW]|with_reducible refine wA ?_|clear hK K)
       refine aa.one CKy ?_
       repeat (first|(with_reducible first|refine aw.up ?_|refine fun (K:AK) hK=> ?_|(refine hK _ ?_;clear hK K))|simp only [go_sem,eK,eS,eW]|with_reducible refine wA ?_|clear hK K)
       refine az.mk (i+1) (by omega) (by omega) ?_;rw [hN];simp only [iN,Y1,YR,YT,YW,Y5,WX,WY,WS];refine mb ?_ ai
       all_goals exact ⟨rfl,nT _ _⟩
    ·have hil:i=labs.length:=by replace h2:=bG h2;omega
     rw [hil,List.take_length] at hRi
     have hall:(cj (aU s) s.em (ar s.la) labs st).all=al:=by rw [cj,hRi]
     have hrow:(cj (aU s) s.em (ar s.la) labs st).rows=st.rows++[ro]:=by rw [cj,hRi]
     rw [hall] at hrun
     ((iterate 6 revert K);refine au ?_;iterate 4 intro K hK)
     refine bD.part (fun h3=> ?_) (fun h3=> ?_)
     ·rw [if_pos (by replace h3:=bG h3;omega)] at hrun
      ((iterate 4 revert K);refine au ?_)
      rw [<-hrun];exact bI.cI ⟨bI.v _,bI.v _,trivial⟩
     ·have h256: ¬ 256<al.length:=by replace h3:=bG h3;omega
      rw [if_neg h256] at hrun
      repeat ((fail_if_success (with_reducible refine bm (i:=24) ?_));first|(with_reducible first|refine aw.up ?_|refine fun (K:AK) hK=> ?_|(refine hK _ ?_;clear hK K))|simp only [go_sem]|with_reducible refine wA ?_|clear hK K)
      refine a7 (Ei 11 8 rfl rfl rfl rfl) (by kernel_rfl) ?_;simp only [YA,Yz]
      repeat ((fail_if_success (with_reducible refine bm (i:=25) ?_));first|(with_reducible first|refine aw.up ?_|refine fun (K:AK) hK=> ?_|(refine hK _ ?_;clear hK K))|simp only [go_sem]|with_reducible refine wA ?_|clear hK K)
      have CF:=sr (g:=60) [.vp [.aB 1 (aJ (ar s.la)) (ar s.la).length]] (by simp only [aN,AV.wf,gL,YY]) (fun n=>(ar s.la).contains n) (bC st) (by omega) (fun n=>JS (ar s.la) n (by omega))
      have eC:(al.map py).getD st.rows.length []=[.aB 1 (aJ (bC st)) (bC st).length]:=by
       have hx:al.getD st.rows.length []=bC st:=by rw [k6,b7 hlt];rfl
       rw [XR,List.getElem?_map,Xb (by omega)];rw [XR,Xb (by omega)] at hx;simp only [Xu,Option.getD_some] at hx ⊢;rw [hx];rfl
      have hE:qm s.em (ar s.la) st=(((st.rows.length:Int)==0&&s.em)||(bC st).any (fun n=>(ar s.la).contains n)):=by
       rw [qm];congr 2;rw [Bool.eq_iff_iff,beq_iff_eq,beq_iff_eq];omega
      refine Ab ⟨dV 112 [(0, .vp (iJ s)),(1, .aB 1 (labs.map encS) labs.length),(4, .v (.pointer none)),(5, .v (.bool false)),(6, .ptr 0 0 1 0 0),(7, .vec 1 0),(8, .vec 4 al.length),(9, .ptr 5 0 2 0 0),(10, .v (.int .i64 st.rows.length))],iN s (cj (aU s) s.em (ar s.la) labs st), .no⟩ (by kernel_rfl) ?_ ?_
      ·have hO:iN s (cj (aU s) s.em (ar s.la) labs st)=iN s ⟨al,st.rows++[ro],st.ends++[qm s.em (ar s.la) st]⟩:=by rw [cj,hRi]
       rw [hO]
       rcases (YF ((st.rows.length:Int)==0)).symm with hZ|hZ
       ·have hE2:qm s.em (ar s.la) st=(bC st).any (fun n=>(ar s.la).contains n):=by rw [hE,hZ,Bool.false_and,Bool.false_or]
        simp only [iN,YT,YW,Y5,WX,WY,WS,hE2]
        (refine qN 20 88 9 (by kernel_rfl) (by decide+kernel) (by kernel_rfl) ?_;simp only [iB,YW,Y5,Zl,Y1,YR,Zm,Zn,Zo,Zk])
        repeat (first|(with_reducible first|refine aw.up ?_|refine fun (K:AK) hK=> ?_|(refine hK _ ?_;clear hK K))|simp only [go_sem,eC,hZ]|with_reducible refine wA ?_|clear hK K)
        refine aE.GD CF 20 rfl (by simp only [go_sem,Nat.reduceLT,Nat.reduceLeDiff,Nat.reduceEqDiff,Zi,Zj,and_self]) rfl ?_
        repeat (first|(with_reducible first|refine aw.up ?_|refine fun (K:AK) hK=> ?_|(refine hK _ ?_;clear hK K))|simp only [go_sem,eC,hZ]|with_reducible refine wA ?_|clear hK K)
        exact aR ai
       ·rcases (YF s.em).symm with hem|hem
        ·have hE2:qm s.em (ar s.la) st=(bC st).any (fun n=>(ar s.la).contains n):=by rw [hE,hZ,hem];simp
         simp only [iN,YT,YW,Y5,WX,WY,WS,hE2]
         (refine qN 20 88 9 (by kernel_rfl) (by decide+kernel) (by kernel_rfl) ?_;simp only [iB,YW,Y5,Zl,Y1,YR,Zm,Zn,Zo,Zk])
         ((iterate 3 revert K);refine rZ eC hZ ?_;iterate 4 intro K hK)
         refine aE.one CE ?_
         repeat (first|(with_reducible first|refine aw.up ?_|refine fun (K:AK) hK=> ?_|(refine hK _ ?_;clear hK K))|simp only [go_sem,eC,hem]|with_reducible refine wA ?_|clear hK K)
         refine aE.GD CF 20 rfl (by simp only [go_sem,Nat.reduceLT,Nat.reduceLeDiff,Nat.reduceEqDiff,Zi,Zj,and_self]) rfl ?_
         repeat (first|(with_reducible first|refine aw.up ?_|refine fun (K:AK) hK=> ?_|(refine hK _ ?_;clear hK K))|simp only [go_sem,eC,hem]|with_reducible refine wA ?_|clear hK K)
         exact aR ai
        ·have hE2:qm s.em (ar s.la) st=true:=by rw [hE,hZ,hem];simp
         simp only [iN,YT,YW,Y5,WX,WY,WS,hE2]
         (refine qN 20 88 9 (by kernel_rfl) (by decide+kernel) (by kernel_rfl) ?_;simp only [iB,YW,Y5,Zl,Y1,YR,Zm,Zn,Zo,Zk])
         ((iterate 3 revert K);refine rZ eC hZ ?_;iterate 4 intro K hK)
         refine aE.one CE ?_
         repeat (first|(with_reducible first|refine aw.up ?_|refine fun (K:AK) hK=> ?_|(refine hK _ ?_;clear hK K))|simp only [go_sem,eC,hem]|with_reducible refine wA ?_|clear hK K)
         exact aR ai
      ·have hlen:(cj (aU s) s.em (ar s.la) labs st).rows.length=st.rows.length+1:=by rw [hrow,WX,List.length_singleton]
       have eW:=ak (k:=st.rows.length) (by omega);obtain ⟨nx,hnx⟩: ∃nx,nx=cj (aU s) s.em (ar s.la) labs st:=⟨_,rfl⟩;have hnok:Cx labs nx:=hnx ▸ qn (aU s) s.em (ar s.la) hok hlt (by rw [hall];exact h256);rw [<-hnx] at hrun hlen hall ⊢;simp only [iN];simp only [dV,List.foldl_cons,List.foldl_nil,List.replicate_succ,List.replicate_zero,go_sem]
       ((iterate 3 revert K);refine aP eW ?_)
       refine az.mk nx ⟨hnok,by rw [hall];exact hmd,by rw [hlen,show 257 - (st.rows.length+1)=256 - st.rows.length by omega];exact hrun⟩ (by rw [hlen];have:=hok.le;omega) ?_;simp only [iN,hall,hlen];exact aR ai
  ·have hge:st.rows.length=st.all.length:=by have:=hok.le;replace h:=bG h;omega
   rw [show 257 - st.rows.length=(256 - st.rows.length)+1 by omega,mZ,if_neg (by omega)] at hrun;have hel:=hok.ends
   ((iterate 3 revert K);refine au ?_)
   rw [<-hrun];simp only [sl,gV,hel];exact bI.cI ⟨bI.ptr (ob:=⟨70,2,false,[[.vec 6 st.rows.length, .vec 7 st.rows.length]]⟩) rfl rfl rfl (Nat.succ_ne_zero 1) ⟨bI.B7 (ob:=⟨84,1,true,st.rows.map (fun r=>[.mp (b9 r)])⟩) rfl rfl (XQ _) (qu _ _),bI.B7 (ob:=⟨4,1,true,st.ends.map (fun b=>[.v (.bool b)])⟩) rfl rfl ((XQ _).trans hel) (qt _ _),trivial⟩,bI.v _,trivial⟩
structure Uq (rows:List aX) (ends:List Bool):Prop where
 n:rows.length<=256
 e:ends.length=rows.length
 wi: ∀r∈rows,iR (r.map Prod.fst)
 len: ∀r∈rows,r.length<=1000
 lab: ∀r∈rows, ∀p∈r,p.1.size<=1000∧p.2<rows.length
theorem pH (a b:ByteArray):(a++b).size=a.size+b.size:=ByteArray.size_append
theorem yx (u:Nat) (h:u<1000):(⟨(Lib.decDigits u).toArray⟩:ByteArray).size<=3:=by
 have:=tN u h
 simpa [ByteArray.size] using this
theorem xA (part:List Nat) (p:Nat):b5 part p []=⟨(Lib.decDigits p).toArray⟩:=by simp [b5,uZ]
theorem u4 (part:List Nat) (p:Nat) (r:aX) (e:ByteArray×Nat):b5 part p (r++[e])=b5 part p r++(((⟨#[32]⟩++e.1)++⟨#[32]⟩)++⟨(Lib.decDigits (part.getD e.2 0)).toArray⟩):=by
 apply ByteArray.ext
 rw [b5,Hh];simp [b5,ByteArray.data_append]
theorem DU (part:List Nat) (p:Nat) (hp:p<1000) (hq: ∀s,part.getD s 0<1000): ∀r:aX,(∀e∈r,e.1.size<=1000)->(b5 part p r).size<=3+1005 * r.length:=by
 refine fB ?_ ?_
 ·intro _;rw [xA];have:=yx p hp;simpa using this
 ·intro r e ih h;have h1:=ih fun x hx=>h x (List.mem_append_left _ hx);have h2:=h e (by simp);have h3:=yx _ (hq e.2);have h4:(⟨#[32]⟩:ByteArray).size=1:=rfl;rw [u4,pH,pH,pH,pH,h4,WX,List.length_singleton];omega
theorem sH {l:List Nat} {b:Nat} (hb:0<b) (h: ∀v∈l,v<b) (s:Nat):l.getD s 0<b:=by
 rw [XR]
 cases hs:l[s]? with
 | none=>simpa using hb
 | some v=>exact h v (List.mem_of_getElem? hs)
theorem SK (ends:List Bool): ∀v∈p0 ends,v<1000:=fun v hv=>by
 rw [p0,List.mem_map] at hv;obtain ⟨b,_,rfl⟩:=hv
 split<;>omega
theorem NV (rows:List aX) (part:List Nat) (n:Nat) (v:Nat) (hv:v∈(dB rows part n).2):v<(dB rows part n).1.length:=by
 have ok:=gD rows part n;obtain ⟨s,hs,rfl⟩:=List.mem_iff_getElem.1 hv
 have:=(ok.at' s (by have:=ok.len;omega)).1
 rw [XR,Xb hs] at this;exact this
theorem Qy {rows:List aX} (hn:rows.length<=256) (part:List Nat): ∀v∈dT rows part,v<1000:=fun v hv=>by
 have:=NV rows part rows.length v hv
 have:=(gD rows part rows.length).le
 omega
theorem Fs (A:List Nat) (n i v:Nat) (hA:A.length=i) (h:i<n):(aJ (A++List.replicate (n - i) 0)).set i [.v (.int .i64 (v:Nat))]=aJ ((A++[v])++List.replicate (n - (i+1)) 0):=by
 rw [show n - i=(n - (i+1))+1 by omega,YB,aJ,aJ,YT,YT,YT,List.set_append,if_neg (by simp [hA])];simp [hA]
theorem Sq (A:List Nat) (n i:Nat) (hA:A.length=i) (h:i<n):(aJ (A++List.replicate (n - i) 0)).getD i []=[.v (.int .i64 0)]:=by
 rw [show n - i=(n - (i+1))+1 by omega,YB,aJ,YT,XR,List.getElem?_append_right (by simp [hA])];simp [hA]
theorem SQ (A:List Nat) (n i:Nat) (h:i<n):A++List.replicate (n - i) 0=(A++[0])++List.replicate (n - (i+1)) 0:=by
 rw [show n - i=(n - (i+1))+1 by omega,YB];simp
def KO (ends:List Bool) (i:Nat):List (Option ab):=[some ⟨3,1,true,aJ (p0 (ends.take i)++List.replicate (ends.length - i) 0)⟩,some ⟨79,1,false,[[.vec 0 ends.length]]⟩]
def ru (n:Nat) (part:List Nat):List (Option ab):=[none,some ⟨79,1,false,[[.aB 1 (aJ part) n]]⟩]
def wh (rows:List aX) (part:List Nat) (s:Nat):List (Option ab):=ru rows.length part++[some ⟨83,0,false,Ic (dB rows part s).1⟩,some ⟨3,1,true,aJ ((dB rows part s).2++List.replicate (rows.length - s) 0)⟩]
theorem NZ {rows:List aX} {ends:List Bool} (ok:Uq rows ends):aq Tryz.prog 64 [.vp (gV rows ends)] (.aB 1 (aJ (bB rows ends)) rows.length):=by
 have hN:=ok.n;have hE:=ok.e
 have hA:aN 0 [AV.vp (gV rows ends)]=true:=by simp only [gV,aN,AV.wf,qu,qt,Bool.and_self]
 have hF:(AV.aB 1 (aJ (bB rows ends)) rows.length).wf 0=true:=by simp only [AV.wf,gL]
 generalize hrv:AV.aB 1 (aJ (bB rows ends)) rows.length=rv at hF ⊢
 (refine aq.lC Tryz.func64 rfl (by kernel_rfl) (by kernel_rfl) rfl hA hF ?_;simp only [Tryz.ntmps64,Tryz.results64,List.length_cons,List.length_nil,Nat.reduceAdd,Nat.reduceSub,YB,List.replicate_zero,Y1,YR])
 simp only [gV]
 repeat (first|(with_reducible first|refine aw.up ?_|refine fun (K:AK) hK=> ?_|refine wE ?_|refine wK ?_|refine wF ?_|(refine hK _ ?_;clear hK K))|simp only [go_sem]|with_reducible refine wA ?_|clear hK K)
 refine aV (ι:=Nat) 27 (fun i=>[(4, .undef),(5, .undef),(26, .v (.int .i64 i))]) (KO ends) (fun i=>ends.length - i) (fun i=>i<=ends.length) 0 (WZ _) ?_ ?_
 ·have e0:aJ (p0 (ends.take 0)++List.replicate (ends.length - 0) 0)=List.replicate rows.length [AV.v (.int .i64 0)]:=by
   rw [hE];simp [p0,aJ]
  simp only [KO,e0,hE];refine fm ?_ ?_ ai
  all_goals first|rfl|simp [p0,aJ]
 ·intro i hi K hK;simp only [KO]
  (revert K;revert K;refine dZ ?_;intro K hK K hK K hK)
  refine bD.part (fun h=> ?_) (fun h=> ?_)
  ·have hlt:i<ends.length:=by replace h:=bG h;omega
   have eW:=ak (k:=i) (by omega)
   have eG:(ends.map (fun b=>[AV.v (.bool b)])).getD i []=[.v (.bool ends[i])]:=by
    rw [XR,Xe,Xb hlt];rfl
   have hl0:(p0 (ends.take i)).length=i:=by rw [p0,XQ,List.length_take];omega
   have eL:(aJ (p0 (ends.take i)++List.replicate (ends.length - i) 0)).length=ends.length:=by rw [aJ,XQ,WX,hl0,Zp];omega
   have eN:p0 (ends.take (i+1))=p0 (ends.take i)++[if ends[i] then 1 else 0]:=by rw [p0,p0,Y3 hlt,YT];rfl
   rcases (Bool.eq_false_or_eq_true ends[i]).symm with hb|hb
   ·rw [hb] at eG eN;rw [if_neg (by decide)] at eN
    repeat (first|(with_reducible first|refine aw.up ?_|refine fun (K:AK) hK=> ?_|refine wE ?_|refine wK ?_|refine wF ?_|(refine hK _ ?_;clear hK K))|simp only [go_sem,eG,h]|with_reducible refine wA ?_|clear hK K)
    refine kS eW ?_;refine az.mk (i+1) (by omega) (by omega) ?_;simp only [KO,eN, <- SQ _ _ _ hlt];exact aR ai
   ·rw [hb] at eG eN;rw [if_pos rfl] at eN;have eS:=Fs (p0 (ends.take i)) ends.length i 1 hl0 hlt;have eS:=Fs (p0 (ends.take i)) ends.length i 1 hl0 hlt;have eQ:=Sq (p0 (ends.take i)) ends.length i hl0 hlt;have c1:((1:Nat):Int)=1:=rfl;rw [c1] at eS
    repeat (first|(with_reducible first|refine aw.up ?_|refine fun (K:AK) hK=> ?_|refine wE ?_|refine wK ?_|refine wF ?_|(refine hK _ ?_;clear hK K))|simp only [go_sem,eG,h,eL,eQ,Zm,Zn,eS]|with_reducible refine wA ?_|clear hK K)
    refine kS eW ?_;refine az.mk (i+1) (by omega) (by omega) ?_;simp only [KO,eN];exact aR ai
    all_goals trace_state
  ·have h16:i=ends.length:=by replace h:=bG h;omega
   have e1:aJ (p0 (ends.take i)++List.replicate (ends.length - i) 0)=aJ (p0 ends):=by rw [h16,List.take_length,Nat.sub_self];simp
   have l0:(aJ (p0 ends)).length=ends.length:=by simp [aJ,p0]
   have l1:(p0 ends).length=rows.length:=by simp [p0,hE]
   simp only [e1]
   repeat ((fail_if_success (with_reducible refine bm (i:=8) ?_));first|(with_reducible first|refine aw.up ?_|refine fun (K:AK) hK=> ?_|refine wK ?_|refine wF ?_|(refine hK _ ?_;clear hK K))|simp only [go_sem]|with_reducible refine wA ?_|clear hK K)
   refine a7 (dK (k:=1) (i:=0) (j:=0) (by decide) rfl (Nat.zero_lt_succ _) rfl rfl rfl rfl l0) (by kernel_rfl) ?_;simp only [List.set_cons_zero,List.set_cons_succ,hE];clear hi h h16 e1 l0;have hs0: ∃f,rows.length+2<=f+0∧AV.aB 1 (aJ (oa rows f (p0 ends) 0)) rows.length=rv:=⟨rows.length+2,Nat.le_refl _,hrv⟩;clear hrv
   (revert K;refine dZ ?_;intro K hK)
   refine aV (ι:=List Nat×Nat) 7 (fun x=>[(4, .undef),(5, .undef),(6, .v (.int .i64 x.2))]) (fun x=>ru rows.length x.1) (fun x=>rows.length+1 - x.2) (fun x=>(∀v∈x.1,v<1000)∧x.2<=rows.length∧Ra rows x.1 x.2∧ ∃f,rows.length+2<=f+x.2∧AV.aB 1 (aJ (oa rows f x.1 x.2)) rows.length=rv) (p0 ends,0) ⟨SK ends,WZ _,⟨l1,fun k hk=>absurd hk (Nat.not_lt_zero k)⟩,hs0⟩ ?_ ?_
   ·simp only [ru];refine bl ?_ ai
    all_goals rfl
   ·rintro ⟨part,many⟩ ⟨hpl,hml,hpo,f,hf,hfr⟩ K hK;simp only at hpl hml hpo hf hfr;have hpn:=hpo.1;simp only [ru]
    repeat (first|(with_reducible first|refine aw.up ?_|refine fun (K:AK) hK=> ?_|refine wE ?_|refine wK ?_|refine wF ?_|(refine hK _ ?_;clear hK K))|simp only [go_sem]|with_reducible refine wA ?_|clear hK K)
    have z0:List.replicate rows.length [AV.v (.int .i64 0)]=aJ (List.replicate rows.length 0):=by simp [aJ]
    refine aV (ι:=Nat) 46 (fun s=>[(9, .undef),(10, .undef),(11, .undef),(12, .undef),(13, .undef),(14, .undef),(45, .v (.int .i64 s))]) (wh rows part) (fun s=>rows.length - s) (fun s=>s<=rows.length) 0 (WZ _) ?_ ?_
    ·simp only [wh,ru,Y1,YR];refine fm ?_ ?_ ai
     all_goals first|rfl|exact ⟨rfl,z0⟩|trace_state
    ·intro s hs K hK;have pok:=gD rows part s;simp only [wh,ru,Y1,YR]
     ((iterate 4 revert K);refine dZ ?_;iterate 5 intro K hK)
     refine bD.part (fun h=> ?_) (fun h=> ?_)
     ·have hlt:s<rows.length:=by replace h:=bG h;omega
      have eW:=ak (k:=s) (by omega)
      have eG:(aJ part).getD s []=[.v (.int .i64 ((part.getD s 0:Nat):Int))]:=by
       rw [aJ,XR,Xe,Xb (by omega),XR,Xb (by omega)];rfl
      have CI:=JU (part.getD s 0) (by have:=sH (by omega) hpl s;omega);have CS:=Fv rows ends s;have hlr:=ok.lab _ (Ym hlt);have hln:=ok.len _ (Ym hlt);have hseq:=xQ rows ends s hlt (by omega) (fun p hp=>Nat.le_trans (hlr p hp).1 (by decide)) (ok.wi _ (Ym hlt)) (by omega);simp only [gV,hE] at CS hseq;obtain ⟨row,hrow⟩: ∃row,row=rows[s]:=⟨_,rfl⟩;rw [<-hrow] at hlr hln hseq;have hq1:part.getD s 0<1000:=sH (by omega) hpl s
      repeat (first|(with_reducible first|refine aw.up ?_|refine fun (K:AK) hK=> ?_|refine wE ?_|refine wK ?_|refine wF ?_|(refine hK _ ?_;clear hK K))|simp only [go_sem,eG,h]|with_reducible refine wA ?_|clear hK K)
      refine aa.one CI ?_
      ((iterate 7 revert K);refine dZ ?_;iterate 8 intro K hK)
      refine aa.one CS ?_
      ((iterate 8 revert K);refine dZ ?_;iterate 6 intro K hK)
      refine tG hseq 58 (fun k=>wh rows part s++[some ⟨9,1,false,[[.v (.string (b5 part (part.getD s 0) (row.take k)))]]⟩]) (fun k=>k<=row.length) (WZ _) ?_ ?_ ?_ (by kernel_rfl) (by kernel_rfl) ?_ ?_ ?_
      ·((iterate 6 revert K);exact Si)
      ·simp only [aN,AV.wf,qu,qt,Bool.and_self]
      ·simp only [wh,ru,Y1,YR,List.take_zero,xA];exact aR ai
       all_goals trace_state
      ·intro x hx;obtain ⟨o,_,rfl⟩:=List.mem_map.1 hx
       rfl
      ·intro k x hk hx
       obtain ⟨hkl,hx⟩: ∃h:k<row.length,x=[.v (.string row[k].1), .v (.int .i64 (row[k].2:Nat))]:=by
        obtain ⟨h1,h2⟩:=List.getElem?_eq_some_iff.1 hx;simp only [b9,XQ] at h1;exact ⟨h1,by rw [<-h2];simp [b9]⟩
       subst hx;obtain ⟨hz1,hz2⟩:=hlr _ (Ym hkl)
       have eT:(aJ part).getD row[k].2 []=[.v (.int .i64 ((part.getD row[k].2 0:Nat):Int))]:=by
        rw [aJ,XR,Xe,Xb (by omega),XR,Xb (by omega)];rfl
       have hq2:part.getD row[k].2 0<1000:=sH (by omega) hpl _;have CJ:=JU (part.getD row[k].2 0) (by omega);have hS:=u4 part (part.getD s 0) (row.take k) row[k];rw [<-Y3 hkl] at hS;simp only [wh,ru,Y1,YR];have h32:(⟨#[32]⟩:ByteArray).size=1:=rfl;have hd1:=yx _ hq2;have hd2:=DU part (part.getD s 0) hq1 (sH (by omega) hpl) (row.take k) (fun e he=>(hlr _ (List.mem_of_mem_take he)).1);rw [List.length_take] at hd2;have b1:(#[32]:Array UInt8).size=1:=rfl;have b2:(Lib.decDigits (part.getD row[k].2 0)).toArray.size<=3:=hd1
       repeat (first|(with_reducible first|refine aw.up ?_|refine fun (K:AK) hK=> ?_|refine wE ?_|refine wK ?_|refine wF ?_|(refine hK _ ?_;clear hK K))|simp only [go_sem,eT]|with_reducible refine wA ?_|clear hK K)
       refine aE.one CJ ?_
       repeat (first|(with_reducible first|refine aw.up ?_|refine fun (K:AK) hK=> ?_|refine wE ?_|refine wK ?_|refine wF ?_|(refine hK _ ?_;clear hK K))|simp only [go_sem,eT]|with_reducible refine wA ?_|clear hK K)
       simp only [wh,ru,Y1,YR,hS];exact aR ai
      ·intro _
       have hmr:(b9 row).length=row.length:=by simp [b9]
       simp only [hmr,List.take_length,wh,ru,Y1,YR];have eA:=IC (b5 part (part.getD s 0) row) (dB rows part s).1;have hI:=rq rows part s
       have hg:rows.getD s []=row:=by rw [hrow,XR,Xb hlt];rfl
       rw [SL,hg] at hI;have l2:=pok.len;have l3:=pok.le
       rcases hps:dB rows part s with ⟨ks,ns⟩
       rw [hps] at hI eA l2 l3;simp only at hI eA l2 l3
       have eL:(aJ (ns++List.replicate (rows.length - s) 0)).length=rows.length:=by rw [aJ,XQ,WX,l2,Zp];omega
       have eQ:=Sq ns rows.length s l2 hlt
       cases hp:pos ks (b5 part (part.getD s 0) row) with
       | some k=>
        rw [hp] at hI eA;simp only [Option.map_some] at eA hI;have eS:=Fs ns rows.length s k l2 hlt
        repeat (first|(with_reducible first|refine aw.up ?_|refine fun (K:AK) hK=> ?_|refine wE ?_|refine wK ?_|refine wF ?_|(refine hK _ ?_;clear hK K))|simp only [go_sem,eA,eL,eQ,Zm,Zn,eS]|with_reducible refine wA ?_|clear hK K)
        refine kS eW ?_;refine az.mk (s+1) (by omega) (by omega) ?_;simp only [wh,ru,Y1,YR,hI];exact aR ai
       | none=>
        rw [hp] at hI eA;simp only [Option.map_none] at eA hI;have eS:=Fs ns rows.length s ks.length l2 hlt;have eK:=IE (b5 part (part.getD s 0) row) ks hp;have eM:=E8 ks
        repeat (first|(with_reducible first|refine aw.up ?_|refine fun (K:AK) hK=> ?_|refine wE ?_|refine wK ?_|refine wF ?_|(refine hK _ ?_;clear hK K))|simp only [go_sem,eA,eL,eQ,Zm,Zn,eS,eK,eM]|with_reducible refine wA ?_|clear hK K)
        refine kS eW ?_;refine az.mk (s+1) (by omega) (by omega) ?_;simp only [wh,ru,Y1,YR,hI];exact aR ai
     ·have hss:s=rows.length:=by replace h:=bG h;omega
      subst hss;have l2:=pok.len
      have e1:(dB rows part rows.length).2++List.replicate (rows.length - rows.length) 0=dT rows part:=by rw [Nat.sub_self];simp [dT]
      have e2:=E8 (dB rows part rows.length).1;have e3:(dB rows part rows.length).1.length=fu rows part:=rfl;rw [e3] at e2
      have eL:(aJ (dT rows part)).length=rows.length:=by rw [aJ,XQ];exact l2
      simp only [e1];have hme:=mU rows part;have hmo:=lM rows hpo
      repeat ((fail_if_success (with_reducible refine bm (i:=26) ?_));first|(with_reducible first|refine aw.up ?_|refine fun (K:AK) hK=> ?_|refine wK ?_|refine wF ?_|(refine hK _ ?_;clear hK K))|simp only [go_sem]|with_reducible refine wA ?_|clear hK K)
      clear hK;clear hK;clear K;clear K
      repeat ((fail_if_success (with_reducible refine bm (i:=26) ?_));first|(with_reducible first|refine aw.up ?_|refine fun (K:AK) hK=> ?_|refine wK ?_|refine wF ?_|(refine hK _ ?_;clear hK K))|simp only [go_sem]|with_reducible refine wA ?_|clear hK K)
      refine a7 (dK (k:=1) (i:=0) (j:=0) (by decide) rfl (Nat.zero_lt_succ _) rfl rfl rfl rfl eL) (by kernel_rfl) ?_;simp only [List.set_cons_zero,List.set_cons_succ]
      ((iterate 4 revert K);refine kS e2 ?_;intro K hK K hK K hK)
      refine bD.part (fun h2=> ?_) (fun h2=> ?_)
      ·have hm:fu rows part=many:=by replace h2:=bG h2;omega
       obtain ⟨f',rfl⟩: ∃f',f=f'+1:=⟨f - 1,by omega⟩;rw [oa,if_pos hm] at hfr
       ((iterate 3 revert K);refine dZ ?_)
       rw [<-hfr];exact bI.wk (gL _ _)
      ·have hm:fu rows part≠many:=by replace h2:=bG h2;omega
       obtain ⟨f',rfl⟩: ∃f',f=f'+1:=⟨f - 1,by omega⟩;rw [oa,if_neg hm] at hfr
       ((iterate 3 revert K);refine kS e2 ?_)
       refine az.mk (dT rows part,fu rows part) ⟨Qy hN part,hme,mV rows part,f', ?_,hfr⟩ ?_ ?_
       ·show rows.length+2<=f'+fu rows part;omega
       ·show rows.length+1 - fu rows part<rows.length+1 - many;omega
       ·simp only [ru];exact aR ai
section
section
variable {D:Nat->Prop} {nu:Nat->Nat->Value} {o:List (Option ab)} {w:World} {P:Program}
theorem Oq {s:AS} {k i j id len:Nat} {ob:ab} {row:List AV} (x':AV) (hto: ∀(D:Nat->Prop) (nu:Nat->Nat->Value) (w:World),RO D nu s.o w->RA D nu (s.o.set id none) w x' (nu id len)) (hne:id≠k) (hk:s.o[k]? = some (some ob)) (hz:0<ob.z) (hr:ob.rows[i]? = some row) (hj:row[j]? = some (.vec id len)) :
  x8 s (AS.mk s.t ((s.o.set id none).set k (some { ob with rows:=ob.rows.set i (row.set j x') })) s.y):=by
 intro f D nu a w hs;have hp:=c7 (nu:=nu) (o:=s.o) (w:=w) id;have hro:=lG hs.ro id
 have hk':(s.o.set id none)[k]? = some (some ob):=by rw [Xi hne];exact hk
 have hh:ob.hl=({ ob with rows:=ob.rows.set i (row.set j x') }:ab).hl:=by simp [ab.hl]
 obtain ⟨g,cur,hb⟩: ∃g cur,zP D nu (s.o.set id none) w k ob g cur:=by
  rcases hro.obj k ob hk' with ⟨_,e,_⟩|h|⟨g,es,cl,hm⟩
  ·rw [e] at hr;simp at hr
  ·exact h
  ·have:=hm.z;omega
 have hm:=lf (nu:=nu) (o:=s.o.set id none) (w:=w) (w':=w) (ob':={ ob with rows:=ob.rows.set i (row.set j x') }) hk' hh.symm hb.bF rfl rfl rfl rfl (fun _ _=>rfl);refine ⟨nu,hp.trans hm,rfl, ?_,(hs.tm.mono hp (fun _ _ h=>h)).mono hm (fun _ _ h=>h),hs.jj⟩;have hil:=(WT.1 hr).1;have hjl:=(WT.1 hj).1;have hsl:=hto D nu w hs.ro
 have key: ∀(i' j':Nat) r c,(ob.rows.set i (row.set j x'))[i']? = some r->r[j']? = some c-> ∃r0 c0,ob.rows[i']? = some r0∧r0[j']? = some c0∧(c=c0∨(c=x'∧c0 = .vec id len)):=by
  intro i' j' r c h1 h2
  by_cases hi:i=i'
  ·subst hi;rw [Xj hil] at h1;cases h1
   by_cases hj':j=j'
   ·subst hj';rw [Xj hjl] at h2;cases h2;exact ⟨row,_,hr,hj, .inr ⟨rfl,rfl⟩⟩
   ·rw [Xi hj'] at h2;exact ⟨row,c,hr,h2, .inl rfl⟩
  ·rw [Xi hi] at h1;exact ⟨r,c,h1,h2, .inl rfl⟩
 refine vr hro hk' hh.symm hb.bF hm (fun _ _=>rfl) (cur:=cur) ⟨hb.fl,hb.nY,fun hv'=> ?_,fun hv'=> ?_,hb.z,fun i' r hi'=> ?_,fun i' j' r c x h1 h2 h3=> ?_,fun i' j' r c x h1 h2 h3=> ?_⟩
 ·obtain ⟨q1,q2,q3⟩:=hb.box hv';exact ⟨q1,by simpa using q2,q3⟩
 ·obtain ⟨cap,q1,q2,q3,q4⟩:=hb.vec hv';exact ⟨cap,by simpa using q1,by simpa using q2,q3,q4⟩
 ·by_cases hi:i=i'
  ·subst hi;rw [Xj hil] at hi';cases hi';rw [List.length_set];exact hb.row i row hr
  ·rw [Xi hi] at hi';exact hb.row i' r hi'
 ·obtain ⟨r0,c0,k1,k2,e⟩:=key i' j' r c h1 h2;have h0:=hb.cell i' j' r0 c0 x k1 k2 h3
  rcases e with rfl|⟨rfl,rfl⟩
  ·exact h0.mono hm (fun _ _ h=>h)
  ·have hx:x=nu id len:=by
    cases h0 with
    | vec=>rfl
   rw [hx];exact hsl.mono hm (fun _ _ h=>h)
 ·obtain ⟨r0,c0,k1,k2,_⟩:=key i' j' r c h1 h2;exact hb.one i' j' r0 c0 x k1 k2 h3
theorem H7 {s:AS} {k i j id:Nat} {ob ob2:ab} {row:List AV} (hne:id≠k) (hk:s.o[k]? = some (some ob)) (hz:0<ob.z) (hr:ob.rows[i]? = some row) (hj:row[j]? = some (.vec id 0)) (ho:s.o[id]? = some (some ob2)) (hv:ob2.gw=false) (hz2:ob2.z=0) :
  x8 s (AS.mk s.t ((s.o.set id none).set k (some { ob with rows:=ob.rows.set i (row.set j (.mp ob2.rows)) })) s.y):=Oq (.mp ob2.rows) (fun D nu w h=>Kj h ho hv hz2) hne hk hz hr hj
end
def iM (l:List Nat):List (List AV):=l.zipIdx.map (fun p=>[.v (.int .i64 (p.1:Nat)), .v (.int .i64 (p.2:Nat))])
@[go_sem] theorem V5 (n:Nat) (l:List Nat):bj n (iM l)=true:=bw _ (fun p=>rfl) _
theorem EF (x:Nat): ∀(l:List Nat) (k:Nat),pw (.int .i64) (.int .i64 (x:Nat)) ((l.zipIdx k).map (fun p=>[.v (.int .i64 (p.1:Nat)), .v (.int .i64 (p.2:Nat))]))=some ((l.findIdx? (fun y=>x==y)).map (fun n=> .v (.int .i64 ((n+k:Nat):Int))))
 | [],k=>rfl
 | a :: l,k=>by
  have ih:=EF x l (k+1);rw [List.zipIdx_cons,YW,pw,if_pos (show dz (.int .i64) (.int .i64 (a:Nat))=true from rfl)]
  have e:fJ (.int .i64 (x:Nat)) (.int .i64 (a:Nat))=(x==a):=by
   rw [fJ,Bool.eq_iff_iff,beq_iff_eq,beq_iff_eq];omega
  rw [e,List.findIdx?_cons]
  cases h:x==a
  ·simp only [Bool.false_eq_true,if_false];rw [ih,Option.map_map]
   congr 2;funext i;simp;omega
  ·simp
theorem PK (x:Nat) (l:List Nat):pw (.int .i64) (.int .i64 (x:Nat)) (iM l)=some ((l.findIdx? (fun y=>x==y)).map (fun n=> .v (.int .i64 (n:Nat)))):=EF x l 0
theorem EI (x:Nat) (v:AV): ∀(l:List Nat) (k:Nat),l.findIdx? (fun y=>x==y)=none->qI (.int .i64) (.int .i64 (x:Nat)) v ((l.zipIdx k).map (fun p=>[.v (.int .i64 (p.1:Nat)), .v (.int .i64 (p.2:Nat))]))=some ((l.zipIdx k).map (fun p=>[.v (.int .i64 (p.1:Nat)), .v (.int .i64 (p.2:Nat))])++[[.v (.int .i64 (x:Nat)),v]])
 | [],k,_=>rfl
 | a :: l,k,h=>by
  rw [List.findIdx?_cons] at h
  have e:fJ (.int .i64 (x:Nat)) (.int .i64 (a:Nat))=(x==a):=by
   rw [fJ,Bool.eq_iff_iff,beq_iff_eq,beq_iff_eq];omega
  cases hh:x==a
  ·rw [hh] at h;simp only [Bool.false_eq_true,if_false,Option.map_eq_none_iff] at h;have ih:=EI x v l (k+1) h;rw [List.zipIdx_cons,YW,qI,if_pos (show dz (.int .i64) (.int .i64 (a:Nat))=true from rfl),e,hh,if_neg (by decide),ih];rfl
  ·rw [hh] at h;simp at h
theorem PL (x:Nat) (l:List Nat) (h:l.findIdx? (fun y=>x==y)=none):qI (.int .i64) (.int .i64 (x:Nat)) (.v (.int .i64 (l.length:Nat))) (iM l)=some (iM (l++[x])):=by
 rw [iM,EI x _ l 0 h,iM,List.zipIdx_append];simp
theorem M8 {o:List (Option ab)} {z1 l1 z2 l2:Nat} {r1 r2:List (List AV)} (h1:bj 0 r1=true) (h2:bj 0 r2=true):bI o (.agg [.aB z1 r1 l1, .aB z2 r2 l2]) (.agg [.aB z1 r1 l1, .aB z2 r2 l2]):=
 bI.of 5 (p:=(AV.aB z1 r1 l1).wf 0=true∧(AV.aB z2 r2 l2).wf 0=true∧True) (by simp only [gY,gk]) ⟨by rw [AV.wf];exact h1,by rw [AV.wf];exact h2,trivial⟩
def gA (rows:List aX) (ends:List Bool):AV:= .agg (gV rows ends)
def we (n:Nat) (part:List Nat) (order:List Nat) (rows:List aX) (ends:List Bool):List (Option ab):=[some ⟨70,2,false,[[.vec 6 rows.length, .vec 7 rows.length]]⟩,some ⟨79,1,false,[[.aB 1 (aJ part) n]]⟩,some ⟨108,0,false,iM (order.map (fun s=>part.getD s 0))⟩,some ⟨108,1,false,[[.vec 2 0]]⟩,some ⟨3,1,true,aJ order⟩,some ⟨79,1,false,[[.vec 4 order.length]]⟩,some ⟨84,1,true,rows.map (fun r=>[.mp (b9 r)])⟩,some ⟨4,1,true,ends.map (fun b=>[.v (.bool b)])⟩]
theorem Ns {rows:List aX} {ends:List Bool} (ok:Uq rows ends) (h0:0<rows.length) (hpt:(bB rows ends).length=rows.length):aq Tryz.prog 35 [.vp (gV rows ends)] (gA (cA rows ends (bB rows ends)).rows (cA rows ends (bB rows ends)).ends):=by
 have hN:=ok.n;have hE:=ok.e;have CP:=NZ ok;generalize hpart:bB rows ends=part at CP hpt
 have hA:aN 0 [AV.vp (gV rows ends)]=true:=by simp only [gV,aN,AV.wf,qu,qt,YY]
 have hF:(gA (cA rows ends part).rows (cA rows ends part).ends).wf 0=true:=by simp only [gA,gV,aN,AV.wf,qu,qt,YY]
 generalize hrv:gA (cA rows ends part).rows (cA rows ends part).ends=rv at hF ⊢
 (refine aq.lC Tryz.func35 rfl (by kernel_rfl) (by kernel_rfl) rfl hA hF ?_;simp only [Tryz.ntmps35,Tryz.results35,WY,WS,Nat.reduceAdd,Nat.reduceSub,List.replicate_succ,List.replicate_zero,Y1,YR])
 simp only [gV,hE] at CP hA ⊢
 have eP:(aJ part).getD 0 []=[.v (.int .i64 ((part.getD 0 0:Nat):Int))]:=by
  rw [aJ,XR,Xe,Xb (by omega),XR,Xb (by omega)];rfl
 (refine yJ ?_;intro K hK K hK)
 refine aa.one CP ?_
 repeat ((fail_if_success (with_reducible refine bm (i:=4) ?_));first|(with_reducible first|refine aw.up ?_|refine fun (K:AK) hK=> ?_|refine wK ?_|refine wF ?_|(refine hK _ ?_;clear hK K))|simp only [go_sem,eP]|with_reducible refine wA ?_|clear hK K)
 refine a7 (c9 (k:=0) (i:=0) (j:=0) 84 1 (by decide) rfl (by decide) rfl rfl) (by kernel_rfl) ?_;simp only [YA,Yz,WY,WS,Nat.reduceAdd,Y1,YR];refine a7 (c9 (k:=0) (i:=0) (j:=1) 4 1 (by decide) rfl (by decide) rfl rfl) (by kernel_rfl) ?_;simp only [YA,Yz,WY,WS,Nat.reduceAdd,Y1,YR]
 (revert K;revert K;refine yJ ?_;intro K hK)
 refine aV (ι:=x7) 7 (fun st=>[(6, .v (.int .i64 st.rows.length))]) (fun st=>we rows.length part st.order st.rows st.ends) (fun st=>rows.length+1 - st.rows.length) (fun st=>FP rows part st∧gA (mv rows ends part (rows.length+1 - st.rows.length) st).rows (mv rows ends part (rows.length+1 - st.rows.length) st).ends=rv) q0
  ⟨Fh rows part h0,hrv⟩ ?_ ?_
 ·simp only [we,q0];refine fm ?_ ?_ ai
  all_goals first|rfl|exact ⟨rfl,rfl⟩|exact ⟨rfl,rfl,rfl⟩|exact ⟨⟨rfl,rfl⟩,rfl⟩|trace_state
 ·rintro st ⟨hok,hrun⟩ K hK;have hol:=kY part hok.nd hok.lt;have hle:=hok.le;have hel:=hok.ends
  have eL: ∀l:List Nat,(aJ l).length=l.length:=fun l=>by simp [aJ]
  simp only [we]
  (revert K;revert K;refine P6 eL ?_;intro K hK K hK K hK)
  refine bD.part (fun h=> ?_) (fun h=> ?_)
  ·have hlt:st.rows.length<st.order.length:=by replace h:=bG h;omega
   have hcu:dC st<rows.length:=hok.lt _ (aW hlt);have eW:=ak (k:=st.rows.length) (by omega)
   have eG:(aJ st.order).getD st.rows.length []=[.v (.int .i64 ((dC st:Nat):Int))]:=by
    rw [dC,aJ,XR,Xe,Xb hlt,XR,Xb hlt];rfl
   have CS:=Fv rows ends (dC st);have hlr:=ok.lab _ (Ym hcu);have hln:=ok.len _ (Ym hcu);have hseq:=xQ rows ends (dC st) hcu (by omega) (fun p hp=>WO (hlr p hp).1 (by decide)) (ok.wi _ (Ym hcu)) (by omega);simp only [gV,hE] at CS hseq;have hri:=ok.wi _ (Ym hcu)
   have hg:rows.getD (dC st) []=rows[dC st]:=by rw [XR,Xb hcu];rfl
   have hnx:eh rows ends part st=⟨(dR part st.order rows[dC st]).1,st.rows++[(dR part st.order rows[dC st]).2],st.ends++[ends.getD (dC st) false]⟩:=by rw [eh,hg]
   generalize rows[dC st]=row at hlr hln hseq hnx hri hg;rw [show rows.length+1 - st.rows.length=(rows.length - st.rows.length)+1 by omega,mv,if_pos hlt] at hrun
   repeat (first|(with_reducible first|refine aw.up ?_|refine fun (K:AK) hK=> ?_|refine wE ?_|refine wD ?_|refine wK ?_|refine wF ?_|(refine hK _ ?_;clear hK K))|simp only [go_sem,eG,eL,h]|with_reducible refine wA ?_|clear hK K)
   refine aa.one CS ?_
   ((iterate 6 revert K);refine yJ ?_;iterate 4 intro K hK)
   refine tG hseq 35 (fun k=>we rows.length part (dR part st.order (row.take k)).1 st.rows st.ends++[some ⟨84,0,false,b9 (dR part st.order (row.take k)).2⟩,some ⟨84,1,false,[[.vec 8 0]]⟩]) (fun k=>k<=row.length) (Nat.zero_le _) ?_ ?_ ?_ (by kernel_rfl) (by kernel_rfl) ?_ ?_ ?_
   ·((iterate 4 revert K);exact Qh)
   ·simp only [aN,AV.wf,qu,qt,YY]
   ·simp only [we,Y1,YR,List.take_zero,dR,Yx];refine mb ?_ ai
    all_goals rfl
   ·intro x hx;obtain ⟨o,_,rfl⟩:=List.mem_map.1 hx
    rfl
   ·intro k x hk hx
    obtain ⟨hkl,hx⟩: ∃h:k<row.length,x=[.v (.string row[k].1), .v (.int .i64 (row[k].2:Nat))]:=by
     obtain ⟨h1,h2⟩:=WT.1 hx;simp only [b9,XQ] at h1;exact ⟨h1,by rw [<-h2];simp [b9]⟩
    subst hx;obtain ⟨hz1,hz2⟩:=hlr _ (Ym hkl)
    have eT:(aJ part).getD row[k].2 []=[.v (.int .i64 ((part.getD row[k].2 0:Nat):Int))]:=by
     rw [aJ,XR,Xe,Xb (by omega),XR,Xb (by omega)];rfl
    have hI:=kZ part st.order (row.take k) row[k];rw [<-List.take_succ_eq_append_getElem hkl,Fi] at hI;obtain ⟨k1,k2,k3,k4,k5,_⟩:=sY part (n:=rows.length) hok.nd hok.lt (row.take k) (fun p hp=>(hlr _ (List.mem_of_mem_take hp)).2);have hdl:=kY part k1 k2
    have hnl:look (dR part st.order (row.take k)).2 row[k].1=none:=c8.2 fun q=>by
     rw [k5] at q;exact y6 (l:=row.map Prod.fst) (lX hri) (i:=k) (by simpa using hkl) (by simpa [List.map_take] using q)
    rcases hqs:dR part st.order (row.take k) with ⟨od,ow⟩
    rw [hqs] at hI k1 k2 k3 k4 k5 hdl hnl;simp only at hI k1 k2 k3 k4 k5 hdl hnl;have eA:=PK (part.getD row[k].2 0) (od.map (fun s=>part.getD s 0));have hqp:(od.map (fun s=>part.getD s 0)).findIdx? (fun y=>part.getD row[k].2 0==y)=iW part od (part.getD row[k].2 0):=rfl;simp only [we,Y1,YR]
    cases hp:iW part od (part.getD row[k].2 0) with
    | some n=>
     rw [hqp,hp] at eA;rw [hp] at hI;simp only [Option.map_some] at eA hI;have eS:=qJ row[k].1 n ow hnl
     repeat (first|(with_reducible first|refine aw.up ?_|refine fun (K:AK) hK=> ?_|refine wE ?_|refine wD ?_|refine wK ?_|refine wF ?_|(refine hK _ ?_;clear hK K))|simp only [go_sem,eT,eA,eS]|with_reducible refine wA ?_|clear hK K)
     simp only [we,Y1,YR,hI];exact aR ai
    | none=>
     rw [hqp,hp] at eA;rw [hp] at hI;simp only [Option.map_none] at eA hI;have eS:=qJ row[k].1 od.length ow hnl;have eK:=PL (part.getD row[k].2 0) (od.map (fun s=>part.getD s 0)) (hqp.trans hp);rw [XQ] at eK
     repeat (first|(with_reducible first|refine aw.up ?_|refine fun (K:AK) hK=> ?_|refine wE ?_|refine wD ?_|refine wK ?_|refine wF ?_|(refine hK _ ?_;clear hK K))|simp only [go_sem,eT,eA,eS,eK,eL]|with_reducible refine wA ?_|clear hK K)
     simp only [we,Y1,YR,hI];refine mb ?_ ai;exact ⟨by rw [YT];rfl,by simp [aJ]⟩
   ·intro _
    have hmr:(b9 row).length=row.length:=by simp [b9]
    simp only [hmr,List.take_length];obtain ⟨k1,k2,k3,k4,k5,t,k6⟩:=sY part (n:=rows.length) hok.nd hok.lt row (fun p hp=>(hlr _ hp).2);have hdl:=kY part k1 k2
    rcases hqs:dR part st.order row with ⟨od,ow⟩
    rw [hqs] at k1 k2 k3 k4 k5 k6 hdl hnx;simp only at k1 k2 k3 k4 k5 k6 hdl hnx
    have eG2:(aJ od).getD st.rows.length []=[.v (.int .i64 ((dC st:Nat):Int))]:=by
     rw [k6,aJ,YT,b7 (by rw [XQ];exact hlt)];exact eG
    have eE:(ends.map (fun b=>[AV.v (.bool b)])).getD (dC st) []=[.v (.bool (ends.getD (dC st) false))]:=by
     rw [XR,Xe,Xb (by omega),XR,Xb (by omega)];rfl
    generalize ends.getD (dC st) false=be at eE hnx;simp only [we,Y1,YR]
    repeat ((fail_if_success (with_reducible refine bm (i:=17) ?_));first|(with_reducible first|refine aw.up ?_|refine fun (K:AK) hK=> ?_|refine wK ?_|refine wF ?_|(refine hK _ ?_;clear hK K))|simp only [go_sem]|with_reducible refine wA ?_|clear hK K)
    refine a7 (H7 (k:=9) (i:=0) (j:=0) (by decide) rfl (Zq _) rfl rfl rfl rfl rfl) (by kernel_rfl) ?_;simp only [YA,Yz]
    repeat (first|(with_reducible first|refine aw.up ?_|refine fun (K:AK) hK=> ?_|refine wE ?_|refine wD ?_|refine wK ?_|refine wF ?_|(refine hK _ ?_;clear hK K))|simp only [go_sem,eG2,eE,eL,eW]|with_reducible refine wA ?_|clear hK K)
    have hnok:FP rows part (eh rows ends part st):=qd rows ends part (fun r hr p hp=>(ok.lab r hr p hp).2) hok hlt;rw [hnx] at hnok hrun
    refine az.mk ⟨od,st.rows++[ow],st.ends++[be]⟩ ⟨hnok, ?_⟩ ?_ ?_
    ·rw [show rows.length+1 - (x7.rows ⟨od,st.rows++[ow],st.ends++[be]⟩).length=rows.length - st.rows.length by simp only [WX,YV];omega];exact hrun
    ·show rows.length+1 - (st.rows++[ow]).length<rows.length+1 - st.rows.length;rw [WX,YV];omega
    ·simp only [we,WX,YV,YT,YW,List.map_nil];exact aR ai
     all_goals trace_state
  ·have hge:st.rows.length=st.order.length:=by replace h:=bG h;omega
   rw [show rows.length+1 - st.rows.length=(rows.length - st.rows.length)+1 by omega,mv,if_neg (by omega)] at hrun;clear h
   repeat ((fail_if_success (with_reducible refine bm (i:=19) ?_));first|(with_reducible first|refine aw.up ?_|refine fun (K:AK) hK=> ?_|refine wK ?_|refine wF ?_|(refine hK _ ?_;clear hK K))|simp only [go_sem]|with_reducible refine wA ?_|clear hK K)
   refine a7 (dK (k:=0) (i:=0) (j:=0) (by decide) rfl (Zq _) rfl rfl rfl rfl (XQ _)) (by kernel_rfl) ?_;simp only [YA,Yz];refine a7 (dK (k:=0) (i:=0) (j:=1) (by decide) rfl (Zq _) rfl rfl rfl rfl ((XQ _).trans hel)) (by kernel_rfl) ?_;simp only [YA,Yz]
   (revert K;refine yJ ?_)
   rw [<-hrun];simp only [gA,gV,hel];exact M8 (qu _ _) (qt _ _)
open Go.RowKit Go.Shelf
def ML:Go.Shelf.Ren:=⟨fun|194=>56|n=>n,fun|31=>26|9=>9|3=>3|4=>4|0=>0|n=>n,fun n=>n⟩
theorem Aj:Lays.n194 Tryz.prog ML:={
 mixed:=by kernel_rfl
 f194:=Tryz.func56
 t0:=by kernel_rfl
 a0:=fun w=>by kernel_rfl
 z0:=fun w=>by kernel_rfl
 v0:=fun w=>by kernel_rfl
 t3:=by kernel_rfl
 a3:=fun w=>by kernel_rfl
 z3:=fun w=>by kernel_rfl
 v3:=fun w=>by kernel_rfl
 t4:=by kernel_rfl
 a4:=fun w=>by kernel_rfl
 z4:=fun w=>by kernel_rfl
 v4:=fun w=>by kernel_rfl
 t9:=by kernel_rfl
 a9:=fun w=>by kernel_rfl
 z9:=fun w=>by kernel_rfl
 v9:=fun w=>by kernel_rfl
 t31:=by kernel_rfl
 a31:=fun w=>by kernel_rfl
 z31:=fun w=>by kernel_rfl
 v31:=fun w=>by kernel_rfl }
attribute [local go_sem] Oper.semAt_some
def oV (l:List XC):List ByteArray:=(l.filter (fun c=>c.kind==1)).map (fun c=>c.label)
theorem GX (l:List XC) (c:XC):oV (l++[c])=if c.kind=1 then oV l++[c.label] else oV l:=by
 by_cases h:c.kind=1<;>simp [oV,h]
theorem A3 (l:List XC):(oV l).length<=l.length:=by
 rw [oV,XQ];exact List.length_filter_le _ _
def rh (x:Ex):List (List UInt8):=Go.Lib.compact (((aD x).map (fun s=>s.data.toList)).mergeSort (fun x y=>decide (x<=y)))
def bR (x:Ex):List ByteArray:=(rh x).map (fun l=>⟨l.toArray⟩)
open Go.Sort in
theorem DK (x:Ex) (cx:List Value) (w:World) (hx:fG w x cx) (hok:x.ok) (hR:aC x=true) (hN:(aj x).length<=1000000) (hE: ∀L:List XC,L.map XC.sig=(aj x).map Ex.sig->oV L=aD x) :
  Calls Tryz.prog 33 #[.agg cx.toArray] w fun e w'=> ∃v,e = .returned v∧kr w' (bR x) v∧Below w.heap.size w w'∧ ∀b off n c,v = .slice (some ⟨b,off,none⟩) n c->w.heap.size<=b:=by
 have HRt:=Lib.hid (fun W hb=>hR ▸ vO x cx W (hx.below hb) hok);obtain ⟨k,s,kids⟩:=x;have hx':=hx;rw [fG] at hx;obtain ⟨sv,rfl,hr⟩:=hx;obtain ⟨p,c,rfl, -, -⟩:=hr.shape;refine (callsIn_wide (n:=9)).1 ?_;have HX:=Lib.hid hx';have HO:=Lib.hid hok;have HN:=Lib.hid hN;have HE:=Lib.hid hE;clear hx' hok hN hr hE;obtain ⟨i0,hi,hz0,hz1,hz2⟩:=info_parts Ng;have HI:=Lib.hid (show _∧_∧_∧_ from ⟨hi,hz0,hz1,hz2⟩);clear hi hz0 hz1 hz2;refine callsIn_of_wp_marks Tryz.func33 rfl trivial ?_ rfl;simp only [Tryz.ntmps33,List.size_toArray,WY,WS,Nat.reduceAdd,Nat.reduceSub,Array.replicate_succ,Array.replicate_zero,List.push_toArray,List.append_toArray,YR,Y1]
 gi_wp2_with fail
 refine ⟨trivial,(callsIn_wide.2 (HRt.out _ (((Below.refl w.heap.size w).alloc (WN _) _).alloc (by simp) _))).mono ?_⟩;rintro e w1 ⟨rfl,hb1⟩;have HB1:=Lib.hid hb1;clear hb1;have hxb:w1.heap[w.heap.size]? = some (.cells #[.int .i64 k, .string s, .slice p kids.length c] 25 (0,0)):=(HB1.out.block w.heap.size (by simp;omega)).trans (j0 (fp w (.cells #[.int .i64 k, .string s, .slice p kids.length c] 25)) _);have hob:w1.heap[w.heap.size+1]? = some (.cells #[.slice none 0 0] 26 (0,0)):=(HB1.out.block (w.heap.size+1) (by simp)).trans (by have:=fp (w.alloc (.cells #[.int .i64 k, .string s, .slice p kids.length c] 25)) (.cells #[.slice none 0 0] 26);simpa using this);have hx0:=aI hxb 0;have hx1:=aI hxb 1;have hx2:=aI hxb 2;simp only [Xd,X2,Yq] at hx0 hx1 hx2
 gi_wp2_with fail
 refine ⟨trivial, ?_⟩;refine (callsIn_wide.2 (xC _ _ _ _ _ _)).mono ?_;rintro e w' ⟨rfl,rfl⟩
 gi_wp2_with fail
 have hn1:w.heap.size+2<=w1.heap.size:=by simpa using HB1.out.size
 obtain ⟨W0,hW0⟩: ∃W0,w1.alloc (.cells #[.int .i64 k, .string s, .slice p kids.length c] 25)=W0:=⟨_,rfl⟩
 have hs0:W0.heap.size=w1.heap.size+1:=by rw [<-hW0];simp
 have hb01:Below w1.heap.size w1 W0:=by rw [<-hW0];exact (Below.refl _ _).alloc (WN _) _
 have hb0:Below w.heap.size w W0:=cp (cp (((Below.refl w.heap.size w).alloc (WN _) _).alloc (by simp) _) HB1.out) hb01;have hbo:W0.heap[w.heap.size+1]? = some (.cells #[.slice none 0 0] 26 (0,0)):=(hb01.block _ (by omega)).trans hob
 have hbp:W0.heap[w1.heap.size]? = some (.cells #[.int .i64 k, .string s, .slice p kids.length c] 25 (0,0)):=by rw [<-hW0];exact fp w1 _
 have hseq:=sg Fence.wide (fun _=>trivial) rfl rfl 8 w.heap.size (w.heap.size+2) w1.heap.size 9 (by decide) _ _ w W0 (WN _) (by omega) HX.out HO.out (.of hb0) hbp;rw [hW0];clear hxb hob hx0 hx1 hx2 hbp
 refine KZ (lb:= #[.pointer (some ⟨w1.heap.size,0,none⟩)]) (gf:=74) rfl (enters_of Tryz.func74 (by kernel_rfl) rfl) hseq (Below.refl _ _) (fun _=>rfl)
  (fun pre W=>(∃v,Boxed W (w.heap.size+1) 26 v∧W.ownsRow w.heap.size 9 1 v (oV pre).length ((oV pre).map Value.string)∧True)∧(Below w.heap.size w W∧W0.heap.size<=W.heap.size)) (fun _ _ _=>False)
  (((holdsRow_own w.heap.size (w.heap.size+1) 26 9 1 (fun pre:List XC=>(oV pre).length) (fun pre=>(oV pre).map Value.string) (fun _ _=>True)).from _).and ((ownFrom_below (WN _) (by omega)).and (fun _ _ _ _ hs hg _=>WO hs hg.size)))
  (fun _ _ _ _ _ hs _ _=>hs) ⟨⟨_,hbo,World.ownsRow_nil _ _ _ _,trivial⟩,hb0,WN _⟩ 3 (fun c=> #[.int .i64 c.kind, .string c.label, .slice c.ptr c.len c.cap]) 25 (fun _ _ h=>h.2.2) ?assign ?body ?done ?stop
 case assign=>
  intro l x W K hK;simp only [handed,XC.val,Yu,Yv,Yw,Yx,Yy,Yz,YA];simp only [handed,XC.val,Act.o7,Yu,Yv,Yw,Yx,Yy,Yz,YA] at hK
  gi_wp2
  exact hK
 case body=>
  rintro l pre x B W hl hrec ⟨⟨v,hv,hrow, -⟩,hB,hsz⟩ hBB hbB hlen;have hvc:=hv.cell;have hvf:=hv.frozen;have hle:=A3 pre;have hNN:=HN.out;have hp0:=aI hbB 0;have hp1:=aI hbB 1;simp only [Xd,X2,Yq] at hp0 hp1;have HS:=Lib.hid (GX pre x);have hxl:=x.hl;simp only [handed,Act.o7,Yu,Yv,Yw,Yx,Yy,Yz,YA]
  by_cases hh:x.kind=1
  ·have HH:=Lib.hid hh;have HV:=Lib.hid hv;have HR:=Lib.hid hrow;have HB:=Lib.hid hB;have HZ:=Lib.hid hsz;clear hv hrow hB hsz
   gi_wp2_with (gi_at_builtin;refine wpListIn_append_own _ rfl _ _ 26 rfl w.heap.size 9 i0 (.string ⟨#[]⟩) 1 16 Tryz.underlying26 HI.out.1 HI.out.2.1 HI.out.2.2.1 HI.out.2.2.2 rfl (by decide) _ _ _ rfl (HR.out.alloc _) ⟨W.heap.size,0,none⟩ 1 1 [.string x.label] rfl rfl (cell_one_new _ _ _) (by simp [Value.oneCell']) (by unfold maxLen;omega) (by omega) (by have:=HB.out.size;simp;omega) ?_;intro v' w1' hown' hgrow _;obtain ⟨g',cap',rfl⟩:=ownsRow_succ hown';obtain ⟨hv1,hv2,hr2,hk2,hb2⟩:=HV.out.appended (by decide) HR.out HB.out.size (Zr _) hown' hgrow;have HKP:=Lib.hid (v7 (hi:=w.heap.size+2) HR.out hgrow (Zr _) (Nat.lt_succ_self _) (.slice (some ⟨g',0,none⟩) ((oV pre).length+1) cap'));have hc1:=hv1.cell;have hf1:=hv1.frozen;have HV2:=Lib.hid hv2;have HR2:=Lib.hid hr2;have HK2:=Lib.hid hk2;have HB2:=Lib.hid hb2;clear hv1 hv2 hr2 hk2 hb2 hown' hgrow)
   refine ⟨HK2.out.from _,HKP.out,⟨_,HV2.out, ?_,trivial⟩,HB.out.trans HB2.out,WO HZ.out HK2.out.size⟩;rw [HS.out,if_pos HH.out];simpa using HR2.out
  ·have HH:=Lib.hid hh;have HV:=Lib.hid hv;have HR:=Lib.hid hrow;have HB:=Lib.hid hB;have HZ:=Lib.hid hsz;clear hv hrow hB hsz
   gi_wp2
   refine ⟨KeepsFrom.refl _ _,Kept.refl _ _ _ _,⟨v,HV.out, ?_,trivial⟩,HB.out,HZ.out⟩;rw [HS.out,if_neg HH.out];exact HR.out
 case done=>
  rintro D xs W hD hS ⟨⟨v,hv,hrow, -⟩,hB,hsz⟩ hK;rw [HE.out xs hS] at hrow
  have hne: ¬w.heap.size+1=D:=by omega
  have hvc:=hv.cell;have hvf:=hv.frozen;have hob:W.heap[w.heap.size+1]? = some (.cells #[v] 26 (0,0)):=hv
  have hlen:(aD (.mk k s kids)).length<=1000000:=by
   rw [<-HE.out xs hS];have h1:=A3 xs;have h2:=HN.out
   have h3:xs.length=(aj (.mk k s kids)).length:=by simpa using congrArg List.length hS
   omega
  have HBw:=Lib.hid hB;have HKw:=Lib.hid hK
  have hD2:w1.heap.size+1<=D:=by omega
  clear hB hK hS hsz hs0 hb01 hb0 hbo hseq
  rcases hrow.2 with ⟨rfl,hz⟩|⟨g,cap,cur,rfl,hgb,hgh,r1,r2,r3,r4⟩
  ·have hnil:aD (.mk k s kids)=[]:=List.eq_nil_of_length_eq_zero hz;have HNil:=Lib.hid hnil;have HOb:=Lib.hid hob;clear hrow hv hob hnil hz
   gi_wp2_with fail
   refine ⟨trivial,(callsIn_wide.2 (AnyM.slices_Sort_string_none nR none 0 _)).mono ?_⟩;rintro e w2 ⟨rfl,rfl⟩
   gi_wp2_with fail
   refine ⟨trivial,(callsIn_wide.2 (Any.slices_Compact_string_empty Aj none 0 _)).mono ?_⟩;rintro e w2 ⟨rfl,rfl⟩
   gi_wp2_with fail
   have hKs:=dG HKw.out (b:=w.heap.size+1) (o:=0) (.slice none 0 0) (by omega);refine ⟨by simp, .inl ⟨_,_,rfl,run_takeDeferred hKs, ?_⟩⟩;have hbx:=dF (jB HOb.out (.slice none 0 0)) (.deferred none) (D:=D) hne;have hcf:=aI hbx 0;simp only [Xd,X2] at hcf
   refine ⟨.slice none 0 0, ?_,_,rfl, ?_, ?_,fun b off n c e=>by cases e⟩
   ·simp [results,Tryz.results33,go_sem,hcf]
   ·have:bR (.mk k s kids)=[]:=by rw [bR,rh,HNil.out,List.map_nil,List.mergeSort_nil];rfl
    rw [this];exact .inl ⟨.inl rfl,rfl⟩
   ·exact lu (HBw.out.setCell (p:=⟨w.heap.size+1,0,none⟩) (Zr _) _) (by omega) _ hKs
  ·obtain ⟨nm,hnm⟩: ∃nm:List (List UInt8),(aD (.mk k s kids)).map (fun s=>s.data.toList)=nm:=⟨_,rfl⟩
   have hl1:(aD (.mk k s kids)).length=nm.length:=by rw [<-hnm,XQ]
   have hen:(aD (.mk k s kids)).map Value.string=nm.map encStr:=by
    rw [<-hnm,List.map_map];exact List.map_congr_left fun p _=>by simp [encStr]
   have hU:rh (.mk k s kids)=Go.Lib.compact (nm.mergeSort (fun x y=>decide (x<=y))):=by rw [rh,hnm]
   rw [hl1] at hlen;simp only [hl1,hen] at r1 r4 hvc hv hob hrow;rw [Nat.mul_one] at r4;have hgl:g<W.heap.size:=(WR.1 hgh).1
   have hgo:w.heap.size+1≠g:=fun e=>by
    subst e;rw [hob] at hgh;cases hgh
   have hgD:D≠g:=fun e=>by
    subst e;have:=HKw.out;rw [this] at hgh;cases hgh
   have hH:=holds_of_block hgh r4;have CS:=Lib.hid (AnyM.slices_Sort_string nR g 0 cap nm W hH hgl (by omega));have HOb:=Lib.hid hob;have HG:=Lib.hid hgh;have HR:=Lib.hid (show _∧_∧_ from ⟨r1,r2,r3⟩);have HU:=Lib.hid hU;clear hrow hv hob hH r4 hnm hen hU r1 r2 r3 hgh;simp only [hl1];clear hl1
   gi_wp2_with fail
   refine ⟨trivial,(callsIn_wide.2 CS.out).mono ?_⟩;rintro e w2 ⟨rfl,kk,os,rfl⟩;obtain ⟨r1,r2,r3⟩:=HR.out;have hg2:=heap_sorted (n:=kk) (os:=os) (nm.mergeSort (fun x y=>decide (x<=y))).toArray HG.out;have hgr2:=grownBy_sorted (w:=W) (g:=g) (n:=kk) (os:=os) (nm.mergeSort (fun x y=>decide (x<=y))).toArray;have hls:(nm.mergeSort (fun x y=>decide (x<=y))).length=nm.length:=List.length_mergeSort _;have htk:=take_putCells cur (nm.mergeSort (fun x y=>decide (x<=y))) (by rw [hls,r3];omega)
   have hsz2:(putCells encStr 0 (nm.mergeSort (fun x y=>decide (x<=y))).toArray cur).size=cap:=by simp [putCells,r3]
   have hDl:D<W.heap.size:=(WR.1 HKw.out).1;generalize hW2:Go.Sort.grow (putRow encStr (Go.Sort.ahead W kk) g 0 (nm.mergeSort (fun x y=>decide (x<=y))).toArray) os=W2 at *;have hob2:W2.heap[w.heap.size+1]? = some (.cells #[.slice (some ⟨g,0,none⟩) nm.length cap] 26 (0,0)):=(hgr2.block _ (WR.1 HOb.out).1 (by simpa using hgo)).trans HOb.out;have hD3:W2.heap[D]? = some (.deferred (some [])):=(hgr2.block _ hDl (by simpa using hgD)).trans HKw.out;have hB2:Below w.heap.size w W2:=HBw.out.grown hgr2 HBw.out.size (fun j e=>by cases e;exact hgb);have hc2:=aI hob2 0;have hf2:=cD hob2 0;simp only [Xd,X2] at hc2;have hH2:=holds_of_block hg2 htk;have CC:=Lib.hid (Any.slices_Compact_string Aj g 0 cap (nm.mergeSort (fun x y=>decide (x<=y))) W2 hH2 (by omega) (by omega));rw [hls] at CC;have HG2:=Lib.hid hg2;have HOb2:=Lib.hid hob2;have HD3:=Lib.hid hD3;have HB2:=Lib.hid hB2;have HS2:=Lib.hid hsz2;clear hg2 hgr2 htk hsz2 hW2 hob2 hD3 hB2 hH2 HOb HG HKw HBw CS hvc hvf
   gi_wp2_with fail
   refine ⟨trivial,(callsIn_wide.2 CC.out).mono ?_⟩;rintro e w3 ⟨rfl,q,rfl⟩
   have hcl:(rh (.mk k s kids)).length<=nm.length:=by rw [HU.out, <- hls];exact Go.Lib.compact_length_le _
   rw [<-HU.out];generalize hZ:(rh (.mk k s kids)++List.replicate (nm.length - (rh (.mk k s kids)).length) ([]:List UInt8))=Z
   have hZl:Z.length=nm.length:=by rw [<-hZ,WX,List.length_replicate];omega
   have hg3:=heap_sorted (n:=q) (os:= #[]) Z.toArray HG2.out;have hgr3:=grownBy_sorted (w:=W2) (g:=g) (n:=q) (os:= #[]) Z.toArray;have htk:=take_putCells (putCells encStr 0 (nm.mergeSort (fun x y=>decide (x<=y))).toArray cur) Z (by rw [hZl,HS2.out];omega);rw [grow_empty] at hg3 hgr3;have hDl:D<W2.heap.size:=(WR.1 HD3.out).1;generalize putRow encStr (Go.Sort.ahead W2 q) g 0 Z.toArray=W3 at *;have hob3:W3.heap[w.heap.size+1]? = some (.cells #[.slice (some ⟨g,0,none⟩) nm.length cap] 26 (0,0)):=(hgr3.block _ (WR.1 HOb2.out).1 (by simpa using hgo)).trans HOb2.out;have hD4:W3.heap[D]? = some (.deferred (some [])):=(hgr3.block _ hDl (by simpa using hgD)).trans HD3.out;have hB3:Below w.heap.size w W3:=HB2.out.grown hgr3 HB2.out.size (fun j e=>by cases e;exact hgb);have hc3:=aI hob3 0;have hf3:=cD hob3 0;simp only [Xd,X2] at hc3;have HG3:=Lib.hid hg3;have HOb3:=Lib.hid hob3;have HD4:=Lib.hid hD4;have HB3:=Lib.hid hB3;have HT:=Lib.hid htk;have HZ:=Lib.hid hZ;have HZl:=Lib.hid hZl;clear hg3 hgr3 htk hob3 hD4 hB3 hZ hZl hc2 hf2
   gi_wp2_with fail
   have hKs:=dG HD4.out (b:=w.heap.size+1) (o:=0) (.slice (some ⟨g,0,none⟩) (rh (.mk k s kids)).length cap) (by omega);refine ⟨by simp, .inl ⟨_,_,rfl,run_takeDeferred hKs, ?_⟩⟩;have hbx:=dF (jB HOb3.out (.slice (some ⟨g,0,none⟩) (rh (.mk k s kids)).length cap)) (.deferred none) (D:=D) hne;have hcf:=aI hbx 0;simp only [Xd,X2] at hcf
   refine ⟨.slice (some ⟨g,0,none⟩) (rh (.mk k s kids)).length cap, ?_,_,rfl, ?_, ?_,fun b off n c e=>by cases e;exact hgb⟩
   ·simp [results,Tryz.results33,go_sem,hcf]
   ·have hg4:=dF (dG HG3.out (b:=w.heap.size+1) (o:=0) (.slice (some ⟨g,0,none⟩) (rh (.mk k s kids)).length cap) hgo.symm) (.deferred none) (D:=D) hgD.symm;refine .inr ⟨g,0,cap,by rw [bR,XQ],by rw [bR,XQ];omega,r2,fun i x hx=>⟨[.string x],rfl, ?_,trivial⟩⟩;rw [aI hg4]
    have hi:i<(rh (.mk k s kids)).length:=by simpa [bR] using (WT.1 hx).1
    have e1:=congrArg (fun l:List Value=>l[i]?) HT.out
    have hZi:Z[i]? = some (rh (.mk k s kids))[i]:=by rw [<-HZ.out,List.getElem?_append_left hi,Xb hi]
    rw [HZl.out,List.getElem?_take_of_lt (by omega),Array.getElem?_toList,Xe,hZi] at e1;rw [Nat.zero_add,Nat.mul_one,e1];rw [bR,Xe,Xb hi] at hx;simp only [Option.map_some,Option.some.injEq] at hx;simp [encStr, <- hx]
   ·exact lu (HB3.out.setCell (p:=⟨w.heap.size+1,0,none⟩) (Zr _) _) (by omega) _ hKs
 case stop=>
  rintro D c pre W _ _ h _;exact h.elim
end
section
section
open Go.Lib
theorem R8 {α:Type} [Inhabited α] [DecidableEq α] {le:α->α->Prop} (tr: ∀a b c,le a b->le b c->le a c) (an: ∀a b,le a b->le b a->a=b) (rf: ∀a,le a a) (d:Array α) (hs: ∀i j,i<=j->j<d.size->le d[i]! d[j]!) :
  ∀m,m<=d.size->(compactUpTo d m).Pairwise (fun a b=>le a b∧a≠b)∧(∀x,x∈compactUpTo d m ↔ ∃j,j<m∧x=d[j]!)∧ ∀x,x∈compactUpTo d m->le x d[m - 1]!
 | 0,_=>⟨by simp [compactUpTo],fun x=>by simp [compactUpTo],fun x h=>by simp [compactUpTo] at h⟩
 | m+1,hm=>by
  obtain ⟨h1,h2,h3⟩:=R8 tr an rf d hs m (by omega);rw [compactUpTo_succ]
  have hle: ∀x,x∈compactUpTo d m->le x d[m]! :=fun x hx=>by
   rcases Nat.eq_zero_or_pos m with e|e
   ·subst e;simp [compactUpTo] at hx
   ·exact tr _ _ _ (h3 x hx) (hs (m - 1) m (by omega) (by omega))
  by_cases hk:keeps d m=true
  ·rw [if_pos hk]
   refine ⟨?_,fun x=> ?_,fun x hx=> ?_⟩
   ·rw [List.pairwise_append];refine ⟨h1,by simp,fun a ha b hb=> ?_⟩;simp only [Yj,Zs,or_false] at hb;subst hb;refine ⟨hle a ha,fun e=> ?_⟩
    rcases Nat.eq_zero_or_pos m with q|q
    ·subst q;simp [compactUpTo] at ha
    ·have hne:d[m]! ≠ d[m - 1]! :=by
      simp only [keeps,decide_eq_true_eq] at hk
      rcases hk with hk|hk
      ·omega
      ·exact hk
     have h4:=h3 a ha;have h5:=hs (m - 1) m (by omega) (by omega);rw [e] at h4;exact hne (an _ _ h4 h5)
   ·simp only [List.mem_append,Yj,Zs,or_false,h2 x]
    constructor
    ·rintro (⟨j,hj,rfl⟩|rfl)
     ·exact ⟨j,by omega,rfl⟩
     ·exact ⟨m,by omega,rfl⟩
    ·rintro ⟨j,hj,rfl⟩
     rcases WV j m with q|q
     ·exact .inl ⟨j,q,rfl⟩
     ·obtain rfl:j=m:=by omega
      exact .inr rfl
   ·rw [Nat.add_sub_cancel];simp only [List.mem_append,Yj,Zs,or_false] at hx
    rcases hx with hx|rfl
    ·exact hle x hx
    ·exact rf _
  ·rw [if_neg hk,Yd]
   have hm0:m≠0∧d[m]! = d[m - 1]! :=by
    simp only [keeps,decide_eq_true_eq] at hk;exact ⟨fun e=>hk (.inl e),Y2 fun e=>hk (.inr e)⟩
   refine ⟨h1,fun x=> ?_,fun x hx=>by rw [Nat.add_sub_cancel];exact hle x hx⟩;rw [h2 x]
   constructor
   ·rintro ⟨j,hj,rfl⟩;exact ⟨j,by omega,rfl⟩
   ·rintro ⟨j,hj,rfl⟩
    rcases WV j m with q|q
    ·exact ⟨j,q,rfl⟩
    ·obtain rfl:j=m:=by omega
     exact ⟨j - 1,by omega,hm0.2⟩
theorem kN (l:List (List UInt8)):(Go.Lib.compact (l.mergeSort (fun x y=>decide (x<=y)))).Pairwise (fun a b=>a<b)∧ ∀x,x∈Go.Lib.compact (l.mergeSort (fun x y=>decide (x<=y)))↔x∈l:=by
 have hsort:(l.mergeSort (fun x y=>decide (x<=y))).Pairwise (fun x y=>decide (x<=y)=true):=List.pairwise_mergeSort (fun a b c h1 h2=>by simp only [decide_eq_true_eq] at *; exact List.le_trans h1 h2) (fun a b=>by simp only [Bool.or_eq_true,decide_eq_true_eq];exact List.le_total a b) _;have hperm:=List.mergeSort_perm l (fun x y=>decide (x<=y));generalize l.mergeSort (fun x y=>decide (x<=y))=s at hsort hperm
 have hs: ∀i j,i<=j->j<s.toArray.size->s.toArray[i]! <= s.toArray[j]! :=fun i j hij hj=>by
  have hj':j<s.length:=by simpa using hj
  have hi':i<s.length:=by omega
  rw [getElem!_pos s.toArray i (by simpa using hi'),getElem!_pos s.toArray j hj];simp only [List.getElem_toArray]
  rcases WV i j with q|q
  ·have:=List.pairwise_iff_getElem.1 hsort i j hi' hj' q
   simpa using this
  ·obtain rfl:i=j:=by omega
   exact List.le_refl _
 obtain ⟨h1,h2,_⟩:=R8 (le:=fun a b:List UInt8=>a<=b) (fun _ _ _=>List.le_trans) (fun _ _=>List.le_antisymm) (fun _=>List.le_refl _) s.toArray hs s.length (by simp)
 refine ⟨?_,fun x=> ?_⟩
 ·show (compactUpTo s.toArray s.length).Pairwise _;refine h1.imp fun {a b} ⟨q1,q2⟩=> ?_;exact Y2 fun h=>q2 (List.le_antisymm q1 (List.not_lt.1 h))
 ·show x∈compactUpTo s.toArray s.length↔_;rw [h2 x, <- hperm.mem_iff]
  constructor
  ·rintro ⟨j,hj,rfl⟩;rw [getElem!_pos s.toArray j (by simpa using hj)];simp
  ·intro hx;obtain ⟨j,hj,rfl⟩:=List.getElem_of_mem hx;exact ⟨j,hj,by rw [getElem!_pos s.toArray j (by simpa using hj)];simp⟩
end
theorem nJ (x:Ex):iR (bR x):=by
 rw [iR,bR,List.pairwise_map]
 exact (kN _).1.imp fun h=>by simpa using h
theorem kV {x:Ex} {s:ByteArray}:s∈bR x↔s∈aD x:=by
 rw [bR,Zt]
 constructor
 ·rintro ⟨l,h,rfl⟩
  have:=((kN _).2 l).1 h
  obtain ⟨t,h1,rfl⟩:=Zt.1 this;simpa using h1
 ·intro h;exact ⟨s.data.toList,((kN _).2 _).2 (List.mem_map_of_mem h),by simp⟩
theorem jl (x:Ex):(bR x).Nodup:=lX (nJ x)
theorem J3 (x:Ex):(bR x).length<=(aD x).length:=(jl x).length_le_of_subset fun _ h=>kV.1 h
theorem uy {x:Ex} (h:Fit x):((aj x).filter (fun y=>y.kind==1)).map Ex.label=aD x:=by
 induction h with
 | lab s=>simp [aj,bo,aD,Ex.kind,Ex.label]
 | many k s l hk hl hf ih=>
  have hk1: ¬k=1:=by rcases hk with rfl|rfl<;>decide
  rw [aj,bo,cW hk1,Zu (by simpa [Ex.kind] using hk1)];clear hl hf
  induction l with
  | nil=>rfl
  | cons a l ih2=>
   rw [List.flatMap_cons,List.filter_append,List.map_append,aK,ih a (by simp),ih2 (fun y hy=>ih y (by simp [hy]))]
 | one k s x hk hf ih=>
  have hk1: ¬k=1:=by rcases hk with rfl|rfl|rfl<;>decide
  rw [aj,bo,cW hk1,Zu (by simpa [Ex.kind] using hk1),List.flatMap_cons,List.flatMap_nil,Yd,ih,aK,aK,Yd]
theorem DI {x:Ex} (h:Fit x) (L:List XC) (e:L.map XC.sig=(aj x).map Ex.sig):oV L=aD x:=by
 rw [<-uy h]
 have h1:oV L=((L.map XC.sig).filter (fun c=>c.1==1)).map (fun c=>c.2.1):=by
  rw [oV,List.filter_map,List.map_map];rfl
 have h2:((aj x).filter (fun y=>y.kind==1)).map Ex.label=(((aj x).map Ex.sig).filter (fun c=>c.1==1)).map (fun c=>c.2.1):=by
  have e1:((fun c:Int×ByteArray×Nat=>c.1==1) ∘ Ex.sig)=fun y=>y.kind==1:=by funext y;cases y;rfl
  have e2:((fun c:Int×ByteArray×Nat=>c.2.1) ∘ Ex.sig)=Ex.label:=by funext y;cases y;rfl
  rw [List.filter_map,List.map_map,e1,e2]
 rw [h1,h2,e]
theorem J4 (x:Ex) (h:x.ok) (hr:aC x=true):aq Tryz.prog 33 [.agg (aM x)] (aS (bR x)):=
 .Fe (by kernel_rfl) (by simp only [aN,AV.wf,dL,YY]) (fun D nu w vargs hh=>by
  obtain ⟨a,rfl,ha⟩:=kf hh;obtain ⟨ca,rfl,ka⟩:=zd ha
  have hp:(aj x).length<=1000000:=by
   have:=hr
   simp only [aC,XK,decide_eq_true_eq] at this;omega
  exact DK x ca w (zj x ca ka) h hr hp (DI (dN hr).1))
theorem A4 {x:Ex} (hr:aC x=true) {l:ByteArray} (h:l∈aD x):di l=true:=by
 rw [<-uy (dN hr).1,Zt] at h;obtain ⟨y,hy,rfl⟩:=h;rw [List.mem_filter] at hy
 have hp:y.part=true:=by
  simp only [aC,XK,List.all_eq_true] at hr;exact hr.2 y hy.1
 obtain ⟨k,s,kids⟩:=y
 have hk:k=1:=by simpa [Ex.kind] using hy.2
 subst hk;simp only [Ex.part,bp,BEq.rfl,if_true,XK] at hp;exact hp.2
theorem GC {s:ByteArray} (h:di s=true):s.size<=20:=by
 simp only [di,iQ,XK,decide_eq_true_eq] at h;exact h.1.1.2
theorem M7 {s:ByteArray} (h:di s=true):32∉s.data.toList:=fun hm=>by
 simp only [di,iQ,XK,List.all_eq_true] at h
 have:=h.1.1.1.1 32 hm
 revert this;decide
theorem yQ {x:Ex} (hr:aC x=true): ∀l∈bR x,32∉l.data.toList:=fun l hl=>M7 (A4 hr (kV.1 hl))
theorem E9 {x:Ex} (hr:aC x=true): ∀l∈bR x,l.size<=20:=fun l hl=>GC (A4 hr (kV.1 hl))
theorem yP {x:Ex} (hr:aC x=true):(bR x).length<=24:=by
 have N:=iI hr
 have:=J3 x
 have:=N.ok.n
 rw [N.labs] at this;omega
theorem La {x:Ex} (hr:aC x=true) {st:nA} (h:ng x (bR x)=some st):Uq st.rows st.ends∧0<st.rows.length∧(bB st.rows st.ends).length=st.rows.length:=by
 obtain ⟨ho,hl,hw⟩:=zq (aU (aT x)) (aT x).em (ar (aT x).la) (jl x) h;have hz0:(st.all)[0]? = some [0]:=hw.zero
 have hpos:0<st.rows.length:=by rw [hl];exact (List.getElem?_eq_some_iff.1 hz0).1
 have hT:=rI ho hl;obtain ⟨_,hpl⟩:=u6 st.rows st.ends (rH (yQ hr) ho) hT hpos ho.ends
 refine ⟨⟨by have:=ho.max;omega,ho.ends,fun r hr'=>(nJ x).sublist (ho.row r hr').1,fun r hr'=> ?_,fun r hr' p hp=>⟨?_,hT r hr' p hp⟩⟩,hpos,hpl⟩
 ·have:=(ho.row r hr').1.length_le
  have:=yP hr
  simp only [List.length_map] at *; omega
 ·have:=E9 hr _ ((ho.row r hr').1.subset (List.mem_map_of_mem hp));omega
def b4 (A:oe):List AV:=gV A.rows A.ends++[aS A.labs]
theorem gK (n:Nat) (A:oe):aN n (b4 A)=true:=by simp only [b4,gV,aS,Y1,YR,aN,AV.wf,qu,qt,aO,YY]
theorem mH (A:oe):aq Tryz.prog 28 [.vp (b4 A)] (.v (.int .i64 A.rows.length)):=by
 simp only [b4,gV,aS,Y1,YR];refine gE Tryz.func28 Tryz.ntmps28 Tryz.results28 ?_;exact pS
theorem j5:aq Tryz.prog 28 [.v (.pointer none)] (.v (.int .i64 0)):=by
 refine gE Tryz.func28 Tryz.ntmps28 Tryz.results28 ?_;exact pS
noncomputable def uR (x:Ex):AV:=match gU x (bR x) with
 | .inl A=> .cI [.vp (b4 A), .v (.int .i64 0)]
 | .inr e=> .cI [.v (.pointer none), .v (.int .i64 e)]
theorem OD (x:Ex):(uR x).wf 0=true:=by
 unfold uR
 split
 ·simp only [AV.wf,aN,gK,YY]
 ·rfl
theorem oK (x:Ex) (ho:x.ok):aq Tryz.prog 9 [.agg (aM x)] (uR x):=by
 have CN:=SH x ho;have hF:=OD x
 have hu:uR x=(if aC x then (match ng x (bR x) with
  | some st=>if 32<(gy (bR x) st).rows.length then .cI [.v (.pointer none), .v (.int .i64 11)] else .cI [.vp (b4 (gy (bR x) st)), .v (.int .i64 0)]
  | none=> .cI [.v (.pointer none), .v (.int .i64 11)]) else .cI [.v (.pointer none), .v (.int .i64 2)]):=by
  unfold uR gU
  cases aC x
  ·rfl
  ·simp only [if_true]
   cases ng x (bR x) with
   | none=>rfl
   | some st=>
    by_cases h32:32<(gy (bR x) st).rows.length
    ·simp only [if_pos h32]
    ·simp only [if_neg h32]
 rw [hu] at hF ⊢;clear hu
 cases hr:aC x
 ·rw [hr] at CN hF;simp only [Bool.false_eq_true,if_false] at CN hF ⊢;simp only [aA] at *;refine gE Tryz.func9 Tryz.ntmps9 Tryz.results9 ?_
  (refine bq ?_;intro K hK K hK)
  refine aa.one CN ?_
  (revert K;revert K;refine bq ?_)
  (refine gd.of 40 rfl ?_;simp only [go_sem])
 ·have CL:=J4 x ho hr;rw [hr] at CN hF;simp only [if_true] at CN hF ⊢;have ok:=(iI hr).ok;have hln:=yP hr;have CS:=QM ok (bR x) (jl x) (by omega) (lx _).2;have hS:ox (aU (aT x)) (aT x).em (ar (aT x).la) (bR x)=ng x (bR x):=rfl;rw [hS] at CS
  cases hst:ng x (bR x) with
  | none=>
   rw [hst] at CS hF;simp only [sl] at CS;simp only [aA,aS] at *;refine gE Tryz.func9 Tryz.ntmps9 Tryz.results9 ?_
   (refine bq ?_;intro K hK K hK)
   refine aa.one CN ?_
   (revert K;revert K;refine bq ?_;intro K hK K hK)
   refine aa.one CL ?_
   (revert K;revert K;refine bq ?_;intro K hK K hK)
   refine aa.one CS ?_
   (revert K;revert K;refine bq ?_)
   (refine gd.of 40 rfl ?_;simp only [go_sem])
  | some st=>
   rw [hst] at CS hF;obtain ⟨g1,g2,g3⟩:=La hr hst;have CQ:=Ns g1 g2 g3;have CZ:=mH (gy (bR x) st);simp only [sl] at CS
   by_cases h32:32<(gy (bR x) st).rows.length
   ·simp only [if_pos h32] at hF ⊢;simp only [aA,aS,b4,gA,gy,gV,Y1,YR] at *;clear hF g1 g2 g3 hS hst;generalize cA st.rows st.ends (bB st.rows st.ends)=L at CQ CZ h32 ⊢;refine gE Tryz.func9 Tryz.ntmps9 Tryz.results9 ?_
    (refine bq ?_;intro K hK K hK)
    refine aa.one CN ?_
    (revert K;revert K;refine bq ?_;intro K hK K hK)
    refine aa.one CL ?_
    (revert K;revert K;refine bq ?_;intro K hK K hK)
    refine aa.one CS ?_
    (revert K;revert K;refine bq ?_;intro K hK K hK)
    refine aa.one CQ ?_
    (revert K;revert K;refine bq ?_;intro K hK K hK K hK)
    refine aa.GD CZ 20 rfl (by simp only [go_sem,Nat.reduceLT,Nat.reduceLeDiff,Nat.reduceEqDiff,Nat.lt_add_one,Nat.zero_lt_one,and_self]) rfl ?_
    ((iterate 3 revert K);refine bq ?_;intro K hK)
    refine bD.part (fun h=> ?_) (fun h=> ?_)
    ·(revert K;refine bq ?_)
     (refine gd.of 40 rfl ?_;simp only [go_sem])
    ·exfalso;replace h:=bG h;omega
   ·simp only [if_neg h32] at hF ⊢;simp only [aA,aS,b4,gA,gy,gV,Y1,YR] at *;clear hF g1 g2 g3 hS hst;generalize cA st.rows st.ends (bB st.rows st.ends)=L at CQ CZ h32 ⊢;refine gE Tryz.func9 Tryz.ntmps9 Tryz.results9 ?_
    (refine bq ?_;intro K hK K hK)
    refine aa.one CN ?_
    (revert K;revert K;refine bq ?_;intro K hK K hK)
    refine aa.one CL ?_
    (revert K;revert K;refine bq ?_;intro K hK K hK)
    refine aa.one CS ?_
    (revert K;revert K;refine bq ?_;intro K hK K hK)
    refine aa.one CQ ?_
    (revert K;revert K;refine bq ?_;intro K hK K hK K hK)
    refine aa.GD CZ 20 rfl (by simp only [go_sem,Nat.reduceLT,Nat.reduceLeDiff,Nat.reduceEqDiff,Nat.lt_add_one,Nat.zero_lt_one,and_self]) rfl ?_
    ((iterate 3 revert K);refine bq ?_;intro K hK)
    refine bD.part (fun h=> ?_) (fun h=> ?_)
    ·exfalso;replace h:=bG h;omega
    ·(revert K;refine bq ?_)
     (refine gd.of 40 rfl ?_;simp only [go_sem])
def du (A:oe) (s:Int):Bool:=decide (0<=s)&&decide (s<A.rows.length)&&A.ends.getD s.toNat false
def ck (A:oe) (s:Int) (l:ByteArray):Option Nat:=if 0<=s∧s<A.rows.length then look (A.rows.getD s.toNat []) l else none
def stepT (o:Option Nat):AV:= .cI [.v (.int .i64 ((o.getD 0:Nat):Int)), .v (.bool o.isSome)]
theorem LJ (o:Option Nat):(stepT o).wf 0=true:=rfl
theorem pL (A:oe) (hE:A.ends.length=A.rows.length) (s:Int):aq Tryz.prog 29 [.vp (b4 A), .v (.int .i64 s)] (.v (.bool (du A s))):=by
 have CZ:=mH A;simp only [b4,gV,aS,Y1,YR,hE] at CZ ⊢
 by_cases h0:0<=s
 ·obtain ⟨k,rfl⟩: ∃k:Nat,s=k:=⟨s.toNat,by omega⟩;have e1:decide (0<=(k:Int))=true:=decide_eq_true h0
  by_cases h1:k<A.rows.length
  ·have e2:decide ((k:Int)<(A.rows.length:Int))=true:=decide_eq_true (by omega)
   have e3:du A k=A.ends.getD k false:=by rw [du,e1,e2];rfl
   have eG:(A.ends.map (fun b=>[AV.v (.bool b)])).getD k []=[.v (.bool (A.ends.getD k false))]:=by
    rw [XR,List.getElem?_map,Xb (by omega),XR,Xb (by omega)];rfl
   rw [e3];refine gE Tryz.func29 Tryz.ntmps29 Tryz.results29 ?_
   (refine aP e1 ?_;intro K hK K hK)
   refine aa.one CZ ?_
   (revert K;revert K;exact JJ e2 eG)
  ·have e2:decide ((k:Int)<(A.rows.length:Int))=false:=decide_eq_false (by omega)
   have e3:du A k=false:=by rw [du,e2];simp
   rw [e3];refine gE Tryz.func29 Tryz.ntmps29 Tryz.results29 ?_
   (refine aP e1 ?_;intro K hK K hK)
   refine aa.one CZ ?_
   (revert K;revert K;exact E5 e2)
 ·have e1:decide (0<=s)=false:=decide_eq_false h0
  have e3:du A s=false:=by rw [du,e1];rfl
  rw [e3];refine gE Tryz.func29 Tryz.ntmps29 Tryz.results29 ?_;exact E5 e1
theorem pK (A:oe) (s:Int) (l:ByteArray):aq Tryz.prog 30 [.vp (b4 A), .v (.int .i64 s), .v (.string l)] (stepT (ck A s l)):=by
 have CZ:=mH A;simp only [b4,gV,aS,Y1,YR] at *
 by_cases h0:0<=s
 ·obtain ⟨k,rfl⟩: ∃k:Nat,s=k:=⟨s.toNat,by omega⟩;have e1:decide (0<=(k:Int))=true:=decide_eq_true h0
  by_cases h1:k<A.rows.length
  ·have e2:decide ((k:Int)<(A.rows.length:Int))=true:=decide_eq_true (by omega)
   have e3:ck A k l=look A.rows[k] l:=by
    rw [ck,if_pos ⟨h0,by omega⟩,Int.toNat_natCast,XR,Xb h1];rfl
   have eG:(A.rows.map (fun r=>[AV.mp (b9 r)])).getD k []=[.mp (b9 A.rows[k])]:=by
    rw [XR,List.getElem?_map,Xb h1];rfl
   have eA:=yf l A.rows[k];rw [e3]
   cases hl:look A.rows[k] l with
   | none=>
    rw [hl] at eA;simp only [Option.map_none,stepT,Zv,Zw] at eA ⊢;refine gE Tryz.func30 Tryz.ntmps30 Tryz.results30 ?_
    (refine aP e1 ?_;intro K hK K hK K hK)
    refine aa.one CZ ?_
    repeat (first|(with_reducible first|refine aw.up ?_|refine fun (K:AK) hK=> ?_|(refine hK _ ?_;clear hK K))|simp only [go_sem,e2,eG,eA]|with_reducible refine wA ?_|clear hK K)
    (refine gd.of 40 rfl ?_;simp only [go_sem])
   | some t=>
    rw [hl] at eA;simp only [Option.map_some,stepT,Option.getD_some,Zx] at eA ⊢;refine gE Tryz.func30 Tryz.ntmps30 Tryz.results30 ?_
    (refine aP e1 ?_;intro K hK K hK K hK)
    refine aa.one CZ ?_
    repeat (first|(with_reducible first|refine aw.up ?_|refine fun (K:AK) hK=> ?_|(refine hK _ ?_;clear hK K))|simp only [go_sem,e2,eG,eA]|with_reducible refine wA ?_|clear hK K)
    (refine gd.of 40 rfl ?_;simp only [go_sem])
  ·have e2:decide ((k:Int)<(A.rows.length:Int))=false:=decide_eq_false (by omega)
   have e3:ck A k l=none:=by rw [ck,if_neg (by omega)]
   rw [e3];simp only [stepT,Zv,Zw];refine gE Tryz.func30 Tryz.ntmps30 Tryz.results30 ?_
   (refine aP e1 ?_;intro K hK K hK K hK)
   refine aa.one CZ ?_
   ((iterate 3 revert K);refine aP e2 ?_)
   (refine gd.of 40 rfl ?_;simp only [go_sem])
 ·have e1:decide (0<=s)=false:=decide_eq_false h0
  have e3:ck A s l=none:=by rw [ck,if_neg (by omega)]
  rw [e3];simp only [stepT,Zv,Zw];refine gE Tryz.func30 Tryz.ntmps30 Tryz.results30 ?_;refine aP e1 ?_
  (refine gd.of 40 rfl ?_;simp only [go_sem])
theorem r7 (rows:List aX) (ends:List Bool) (s:Nat) (l:ByteArray) (w:List ByteArray):bO rows ends s (l :: w)=match look (rows.getD s []) l with
 | some t=>bO rows ends t w
 | none=>false:=by
 rw [bO,uj];cases look (rows.getD s []) l<;>rfl
theorem MO (A:oe) (ok:AOk A) (w:List ByteArray) (hw:w.length<=1000000):aq Tryz.prog 12 [.vp (b4 A),aS w] (.v (.bool (bO A.rows A.ends 0 w))):=by
 have CS:=fun (s:Int) l=>pK A s l;have CT:=fun (s:Int)=>pL A ok.ends s;simp only [b4,gV,aS,Y1,YR] at *;refine gE Tryz.func12 Tryz.ntmps12 Tryz.results12 ?_
 (refine au ?_;intro K hK)
 refine bf (ι:=Nat×Nat) 12 (fun x=>[(5, .v (.int .i64 x.2)),(6, .v (.bool true)),(8, .undef),(11, .v (.int .i64 x.1))]) (fun x=>w.length - x.1) (fun x=>x.1<=w.length∧x.2<A.rows.length∧bO A.rows A.ends 0 w=bO A.rows A.ends x.2 (w.drop x.1)) (0,0) ⟨Nat.zero_le _,ok.pos,by rw [List.drop_zero]⟩ ?_ ?_
 ·refine bl ?_ ai
  all_goals rfl
 ·rintro ⟨k,s⟩ ⟨hk,hs,hg⟩ K hK;simp only at hk hs hg
  (revert K;revert K;refine au ?_;intro K hK K hK K hK)
  refine bD.part (fun h=> ?_) (fun h=> ?_)
  ·have hlt:k<w.length:=by replace h:=bG h;omega
   have eW:=ak (k:=k) (by omega);have eG:=getD_map encS w k [] hlt;rw [List.drop_eq_getElem_cons hlt,r7] at hg;have CK:=CS (s:Int) w[k]
   have e3:ck A s w[k]=look (A.rows.getD s []) w[k]:=by
    rw [ck,if_pos ⟨by omega,by omega⟩,Int.toNat_natCast]
   rw [e3] at CK;simp only [encS] at eG
   cases hl:look (A.rows.getD s []) w[k] with
   | none=>
    rw [hl] at CK hg;simp only [stepT,Zv,Zw] at CK hg
    repeat (first|(with_reducible first|refine aw.up ?_|refine fun (K:AK) hK=> ?_|(refine hK _ ?_;clear hK K))|simp only [go_sem,eG,h]|with_reducible refine wA ?_|clear hK K)
    refine aa.one CK ?_
    ((iterate 5 revert K);refine au ?_)
    rw [hg]
   | some t=>
    rw [hl] at CK hg;simp only [stepT,Option.getD_some,Zx] at CK hg;have ht:t<A.rows.length:=(ok.row _ (aW hs)).2 _ (dH hl)
    repeat (first|(with_reducible first|refine aw.up ?_|refine fun (K:AK) hK=> ?_|(refine hK _ ?_;clear hK K))|simp only [go_sem,eG,h]|with_reducible refine wA ?_|clear hK K)
    refine aa.one CK ?_
    ((iterate 5 revert K);refine aP eW ?_)
    refine az.mk (k+1,t) ⟨hlt,ht,hg⟩ (by show w.length - (k+1)<w.length - k;omega) ?_;exact aR ai
  ·have hkw:k=w.length:=by replace h:=bG h;omega
   have hg2:bO A.rows A.ends 0 w=du A s:=by
    rw [hg,hkw,List.drop_length,du,decide_eq_true (by omega),decide_eq_true (by omega)];rfl
   ((iterate 3 revert K);refine au ?_;intro K hK K hK)
   refine aa.one (CT s) ?_
   (revert K;revert K;refine au ?_)
   rw [hg2]
end
section
theorem OU (l:List ByteArray) (hl:l.length<=1000000) (hne:l≠[]):da Tryz.prog 47 [.aB 1 (l.map encS) l.length] [] (.vec 0 l.length) [some ⟨9,1,true,l.map encS⟩]:=by
 have hpos:0<l.length:=by cases l<;>simp_all
 have eL:(l.map encS).length=l.length:=by simp
 refine gF Tryz.func47 Tryz.ntmps47 Tryz.results47 ?_
 repeat (first|(with_reducible first|refine aw.up ?_|refine fun (K:AK) hK=> ?_|(refine hK _ ?_;clear hK K))|simp only [go_sem,eL]|with_reducible refine wA ?_|clear hK K)
 refine ⟨fun e=>hne (by simpa using e), ?_⟩;have eT:(l.map encS).take l.length=l.map encS:=List.take_of_length_le (by omega)
 repeat (first|(with_reducible first|refine aw.up ?_|refine fun (K:AK) hK=> ?_|(refine hK _ ?_;clear hK K))|simp only [go_sem,eL,eT]|with_reducible refine wA ?_|clear hK K)
 (refine ⟨?_, ?_, ?_⟩<;>simp only [dv,ku,AV.v.injEq,Value.int.injEq,Value.bool.injEq,Value.string.injEq,AV.vec.injEq,AV.ptr.injEq,true_or,or_true,false_or,or_false,ab.mk.injEq,forall_eq_apply_imp_iff,forall_eq,forall_eq',go_sem])
theorem OT:aq Tryz.prog 47 [.aB 1 [] 0] (.aB 1 [] 0):=by
 refine ⟨⟨rfl,rfl⟩,by kernel_rfl,fun D nu w vargs hro hra=> ?_⟩;obtain ⟨x,rfl,hx⟩:=kf hra;obtain ⟨a,c,rfl⟩:=KV hx
 have key:Calls Tryz.prog 47 #[.slice a 0 c] w (fun e w'=> ∃b,e = .returned (.slice b 0 0)∧Below w.heap.size w w'):=by
  have hq: ∀w,(binOp .eql 26 (.slice a 0 c) (.slice none 0 0)).run Tryz.prog w = .ok (.bool a.isNone) w:=fun w=>(vu (by kernel_rfl)).1;have HB:=Lib.hid (fun ob=>((Below.refl w.heap.size w).alloc (Nat.le_refl _) ob))
  cases a with
  | none=>
   clear hx hra hro
   go_enter Tryz.func47,Tryz.ntmps47
   go_wp2
   go_ret
   exact ⟨none,rfl, .refl _ _⟩
  | some a=>
   clear hx hra hro
   go_enter Tryz.func47,Tryz.ntmps47
   go_wp2
   go_ret
   exact ⟨some _,rfl,HB.out _⟩
 refine key.mono ?_;rintro e w' ⟨b,rfl,hb⟩;refine ⟨_,nu,[], .aB 1 [] 0,rfl,ay hb,hro.below hb, ?_,rfl,rfl⟩
 cases b with
 | none=>exact .bu 1
 | some b=>exact .bL 1 b
theorem R7 (l:List ByteArray) (hl:l.length<=1000000):aq Tryz.prog 47 [aS l] (aS l):=by
 by_cases h:l=[]
 ·subst h;exact OT
 ·exact (OU l hl h).QT 8 rfl ⟨by simp,by simp,aO _ _⟩ (by simp only [go_sem]) (aO _ _)
theorem Gm (A:oe) (hl:A.labs.length<=1000000):aq Tryz.prog 19 [.vp (b4 A)] (aS A.labs):=by
 have CC:=R7 A.labs hl;simp only [b4,gV,aS,Y1,YR] at *;refine gE Tryz.func19 Tryz.ntmps19 Tryz.results19 ?_
 (refine bq ?_;intro K hK K hK)
 refine aa.one CC ?_
 (revert K;revert K;refine bq ?_)
 (refine gd.of 40 rfl ?_;simp only [go_sem])
open Go.RowKit Go.Shelf
def Gu:Go.Shelf.Ren:=⟨fun|6=>43|n=>n,fun|23=>84|24=>84|26=>9|27=>3|4=>4|3=>3|0=>0|36=>57|n=>n,fun|n=>n⟩
theorem Dl:SlLaysEq.n6 Tryz.prog Gu:={
 mixed:=by kernel_rfl
 f6:=⟨Tryz.f43.name,by decide,Tryz.func43⟩
 t0:=by kernel_rfl
 a0:=fun w=>by kernel_rfl
 z0:=fun w=>by kernel_rfl
 v0:=fun w=>by kernel_rfl
 t3:=by kernel_rfl
 a3:=fun w=>by kernel_rfl
 z3:=fun w=>by kernel_rfl
 v3:=fun w=>by kernel_rfl
 t4:=by kernel_rfl
 a4:=fun w=>by kernel_rfl
 z4:=fun w=>by kernel_rfl
 v4:=fun w=>by kernel_rfl
 t23:=by kernel_rfl
 a23:=fun w=>by kernel_rfl
 z23:=fun w=>by kernel_rfl
 v23:=fun w=>by kernel_rfl
 t24:=by kernel_rfl
 a24:=fun w=>by kernel_rfl
 z24:=fun w=>by kernel_rfl
 v24:=fun w=>by kernel_rfl
 a26:=fun w=>by kernel_rfl
 z26:=fun w=>by kernel_rfl
 a27:=fun w=>by kernel_rfl
 z27:=fun w=>by kernel_rfl
 t36:=by kernel_rfl
 a36:=fun w=>by kernel_rfl
 z36:=fun w=>by kernel_rfl }
section
open Go.Maps Go.Sort Go.WideElems
theorem Lv:Tryz.prog.underlying 3=some (.int .i64):=by kernel_rfl
theorem UD:Keyed Tryz.prog 9:=string_keyed Lw
def vi {H:Type}:DataW H->DataW H->Bool
 | .lit (.int _ x), .lit (.int _ y)=>x==y
 | _,_=>false
theorem Kq {H:Type} {P:Program} {e:TypeId} (he:P.underlying e=some (.int .i64)) (W:World) (x y:Value) (xd yd:DataW H) (xp yp:List MemPlace) (hx:plainElem P e x=some (xd,xp)) (hy:plainElem P e y=some (yd,yp)) :
  (binOp .neq e x y).run P W = .ok (.bool (!vi xd yd)) W∧ ∀(a b:Operand),(eqGuard .neq e a b x y).run P W = .ok () W:=by
 obtain ⟨a,rfl,h1,_⟩:=plainElem_int_inv he hx;obtain ⟨b,rfl,h2,_⟩:=plainElem_int_inv he hy
 obtain rfl:xd = .lit (.int .i64 a):=by simpa using (congrArg Prod.fst h1)
 obtain rfl:yd = .lit (.int .i64 b):=by simpa using (congrArg Prod.fst h2)
 refine ⟨?_,fun _ _=>by rw [eqGuard_at_int];rfl⟩;simp [go_sem,vi,binOp]
 rfl
def tT (r:aX):List (Lit×DataW Unit):=r.map (fun p=>(.string p.1.data.toList, .lit (.int .i64 (p.2:Nat))))
theorem QH {e:MapEntry} {s:ByteArray} {n:Nat} (hk:e.key = .string s) (hv:e.val = .int .i64 (n:Nat)) (hs:s.size<=maxLen) (hn:n<1000000):rd Tryz.prog 9 (plainElem (H:=Unit) Tryz.prog 3) e=some (.string s.data.toList, .lit (.int .i64 (n:Nat))):=by
 unfold WideElems.rd;rw [hk,Go.WideMaps.keyOf_string_mk Lw hs,hv,plainElem_int Lv (by simp only [Lit.wf,XK,decide_eq_true_eq];exact ⟨by show (-9223372036854775808:Int)<=_;omega,by show _<=(9223372036854775807:Int);omega⟩)];rfl
theorem Bh {D:Nat->Prop} {nu:Nat->Nat->Value} {o:List (Option ab)} {w:World} {r:aX} {x:Value} (h:RA D nu o w (.mp (b9 r)) x) (hs: ∀p∈r,p.1.size<=maxLen∧p.2<1000000) (hn:(r.map Prod.fst).Nodup) (hl:r.length<=1000000) :
  ∃b E,x = .map (some b)∧w.ownsMap Tryz.prog 9 (plainElem Tryz.prog 3) b r.length (.map E)∧E.Perm (tT r):=by
 cases h with
 | mp _ b es cl h1 h2 h3 h4 h5 h6 h7=>
 have hlen:es.size=r.length:=by rw [h3,Bf]
 have hget: ∀(i:Nat) (hi:i<es.toList.length),es[i]? = some es.toList[i]:=fun i hi=>by rw [<-Array.getElem?_toList];exact Xb hi
 have hrow: ∀(i:Nat) (hi':i<r.length),(b9 r)[i]? = some [.v (.string r[i].1), .v (.int .i64 (r[i].2:Nat))]:=fun i hi'=>by rw [b9,Xe,Xb hi'];rfl
 have hk: ∀(i:Nat) (hi:i<es.toList.length) (hi':i<r.length),(es.toList[i]).key=Value.string r[i].1:=fun i hi hi'=>(h7 i 0 _ _ _ (hrow i hi') rfl (hget i hi)).plain;have hv: ∀(i:Nat) (hi:i<es.toList.length) (hi':i<r.length),(es.toList[i]).val=Value.int .i64 (r[i].2:Nat):=fun i hi hi'=>(h7 i 1 _ _ _ (hrow i hi') rfl (hget i hi)).plain
 have hkeys:es.toList.map (fun e=>e.key)=r.map (fun p=>Value.string p.1):=List.ext_getElem (by simp [hlen]) fun i k1 k2=>by
  rw [YN,YN];exact hk i (by simpa using k1) (by simpa using k2)
 have hrd: ∀(i:Nat) (hi:i<es.toList.length) (hi':i<r.length),rd Tryz.prog 9 (plainElem (H:=Unit) Tryz.prog 3) es.toList[i]=some (.string r[i].1.data.toList, .lit (.int .i64 (r[i].2:Nat))):=fun i hi hi'=>QH (hk i hi hi') (hv i hi hi') (hs _ (List.getElem_mem hi')).1 (hs _ (List.getElem_mem hi')).2
 refine ⟨b,_,rfl,⟨es,cl,h2,⟨by unfold maxLen;omega,⟨?_, ?_, ?_⟩, ?_⟩,by omega,rfl⟩, ?_⟩
 ·intro e he;obtain ⟨i,hi,rfl⟩:=List.getElem_of_mem he;exact h5 i _ (hget i hi)
 ·rw [List.Nodup,List.pairwise_iff_getElem];intro i j hi hj hij;rw [YN,YN]
  have:=h6 i j _ _ (hget i (by simpa using hi)) (hget j (by simpa using hj)) hij
  omega
 ·have e:es.toList.map (fun x=>x.key)=(r.map Prod.fst).map Value.string:=by rw [hkeys,List.map_map];rfl
  rw [e,List.Nodup,Y0];exact hn.imp fun hne e=>hne (by cases e;rfl)
 ·intro e he;obtain ⟨i,hi,rfl⟩:=List.getElem_of_mem he;exact ⟨_,hrd i hi (by simpa [hlen] using hi)⟩
 ·refine (WideShapes.sorted_perm _).trans (List.Perm.of_eq ?_);refine List.ext_getElem (by simp [tT,hlen]) fun i k1 k2=> ?_
  have hi:i<es.toList.length:=by simpa using k1
  simp only [tT,YN];rw [rg_of (hrd i hi (by simpa [hlen] using hi))]
def mX (r s:aX):Bool:=decide (r.length=s.length)&&r.all (fun p=>look s p.1==some p.2)
theorem PW {r:aX} (hn:(r.map Prod.fst).Nodup) {E:List (Lit×DataW Unit)} (h:E.Perm (tT r)):E.Pairwise (fun p q=>p.1≠q.1):=by
 refine (h.pairwise_iff (fun {a b} (q:a.1≠b.1)=>Ne.symm q)).2 ?_;rw [tT,Y0];rw [List.Nodup,Y0] at hn;refine hn.imp fun {a b} hne e=>hne ?_
 injection e with e
 exact ByteArray.ext (Array.toList_inj.1 e)
theorem MU {r s:aX} (h1:(r.map Prod.fst).Nodup) (h2:(s.map Prod.fst).Nodup) {E1 E2:List (Lit×DataW Unit)} (p1:E1.Perm (tT r)) (p2:E2.Perm (tT s)):Lib.equalFuncD vi (.map E1) (.map E2)=mX r s:=by
 have hap:=PW h2 p2;rw [Lib.equalFuncD,mX,Bool.eq_iff_iff,XK,XK,decide_eq_true_eq,decide_eq_true_eq,X7,X7]
 have e1:Maps.size (DataW.map E1)=r.length:=by show E1.length=_;rw [p1.length_eq,tT,XQ]
 have e2:Maps.size (DataW.map E2)=s.length:=by show E2.length=_;rw [p2.length_eq,tT,XQ]
 rw [e1,e2]
 have key: ∀p∈r,(Lib.goodD vi (.map E2) (.string p.1.data.toList, .lit (.int .i64 (p.2:Nat)))=true↔look s p.1=some p.2):=fun p hp=>by
  have hs:Maps.has (DataW.map E2) (.string p.1.data.toList)=true↔p.1∈s.map Prod.fst:=by
   rw [Maps.has,List.any_eq_true]
   constructor
   ·rintro ⟨q,hq,hk⟩;have hq':=(p2.mem_iff).1 hq;rw [tT,Zt] at hq';obtain ⟨t,ht,rfl⟩:=hq'
    have:=WideAt.sameKey_eq hk
    injection this with this
    have e:t.1=p.1:=ByteArray.ext (Array.toList_inj.1 this);exact e ▸ Zy ht
   ·intro hm;obtain ⟨t,ht,e⟩:=Zt.1 hm;refine ⟨(.string t.1.data.toList, .lit (.int .i64 (t.2:Nat))),(p2.mem_iff).2 (Zy ht), ?_⟩;rw [e];exact WideAt.sameKey_self trivial
  rw [Lib.goodD,XK,hs]
  constructor
  ·rintro ⟨hm,he⟩;obtain ⟨t,ht,e⟩:=Zt.1 hm;have hat:(DataW.map E2).atKey (.string p.1.data.toList) .nil = .lit (.int .i64 (t.2:Nat)):=WideAt.atKey_mem .nil trivial hap ((p2.mem_iff).2 (by rw [<-e];exact Zy (f:=fun p=>(Lit.string p.1.data.toList,DataW.lit (Lit.int .i64 (p.2:Nat)))) ht));rw [hat] at he
   have:(p.2:Int)=t.2:=by simpa [vi] using he
   have e2:t.2=p.2:=by omega
   rw [<-e2, <- e];exact pW h2 ht
  ·intro hk;have hm:=dH hk;refine ⟨Zy (f:=Prod.fst) hm, ?_⟩;have hat:(DataW.map E2).atKey (.string p.1.data.toList) .nil = .lit (.int .i64 (p.2:Nat)):=WideAt.atKey_mem .nil trivial hap ((p2.mem_iff).2 (Zy (f:=fun p=>(Lit.string p.1.data.toList,DataW.lit (Lit.int .i64 (p.2:Nat)))) hm));rw [hat];simp [vi]
 constructor
 ·rintro ⟨h,k⟩;refine ⟨h,fun p hp=> ?_⟩;rw [beq_iff_eq];exact (key p hp).1 (k _ ((p1.mem_iff).2 (Zy (f:=fun p=>(Lit.string p.1.data.toList,DataW.lit (Lit.int .i64 (p.2:Nat)))) hp)))
 ·rintro ⟨h,k⟩;refine ⟨h,fun q hq=> ?_⟩;have hq':=(p1.mem_iff).1 hq;rw [tT,Zt] at hq';obtain ⟨p,hp,rfl⟩:=hq';exact (key p hp).2 (by simpa using k p hp)
theorem MV (r s:aX) (hr: ∀p∈r,p.1.size<=maxLen∧p.2<1000000) (hs: ∀p∈s,p.1.size<=maxLen∧p.2<1000000) (nr:(r.map Prod.fst).Nodup) (ns:(s.map Prod.fst).Nodup) (lr:r.length<=1000000) (ls:s.length<=1000000) :
  aq Tryz.prog 43 [.mp (b9 r), .mp (b9 s)] (.v (.bool (mX r s))):=by
 refine ⟨⟨by simp only [aN,AV.wf,qv,YY],rfl⟩,by kernel_rfl,fun D nu w vargs hro hra=> ?_⟩;obtain ⟨x,y,rfl,hx,hy⟩:=ze hra;obtain ⟨b1,E1,rfl,o1,p1⟩:=Bh hx hr nr lr;obtain ⟨b2,E2,rfl,o2,p2⟩:=Bh hy hs ns ls;refine (AnyEq.maps_Equal Dl UD (plainElem Tryz.prog 3) (plainElem Tryz.prog 3) vi b1 b2 r.length s.length (.map E1) (.map E2) w o1 o2 (.int .i64 0) (fun w=>by kernel_rfl) (.lit (.int .i64 0)) [] (plainElem_int Lv (by decide)) (Kq Lv)).mono ?_;rintro e w' ⟨rfl,hg⟩;rw [MU nr ns p1 p2];have hbw:Below w.heap.size w w':=⟨hg.os,hg.tape,hg.output,hg.size,fun k hk=>hg.block k hk (by simp)⟩;exact ⟨_,nu,[],_,rfl,ay hbw,hro.below hbw, .v _,rfl,rfl⟩
end
structure FN (A:oe):Prop extends AOk A where
 nd:A.labs.Nodup
 sz: ∀l∈A.labs,l.size<=20
 PZ:A.labs.length<=24
theorem FN.VE {A:oe} (h:FN A) {r:aX} (hr:r∈A.rows):(∀p∈r,p.1.size<=maxLen∧p.2<1000000)∧(r.map Prod.fst).Nodup∧r.length<=1000000:=by
 obtain ⟨h1,h2⟩:=h.row r hr
 refine ⟨fun p hp=>⟨?_, ?_⟩,h1.nodup h.nd, ?_⟩
 ·have:=h.sz _ (h1.subset (Zy hp));unfold maxLen;omega
 ·have:=h2 p hp;have:=h.max;omega
 ·have:=h1.length_le;have:=h.PZ;rw [XQ] at *; omega
def sameAt (A B:oe) (s:Nat):Bool:=(A.ends.getD s false==B.ends.getD s false)&&mX (A.rows.getD s []) (B.rows.getD s [])
def nc (A B:oe):Bool:=decide (A.rows.length=B.rows.length)&&(List.range A.rows.length).all (sameAt A B)
theorem yz {A B:oe} (ha:FN A) (hb:FN B):aq Tryz.prog 14 [.vp (b4 A), .vp (b4 B)] (.v (.bool (nc A B))):=by
 have CA:=mH A;have CB:=mH B;have ea:=ha.ends;have am:=ha.max;have eb:=hb.ends
 have CQ: ∀s,s<A.rows.length->s<B.rows.length->aq Tryz.prog 43 [.mp (b9 (A.rows.getD s [])), .mp (b9 (B.rows.getD s []))] (.v (.bool (mX (A.rows.getD s []) (B.rows.getD s [])))):=fun s h1 h2=>by
  obtain ⟨q1,q2,q3⟩:=ha.VE (aW (d:=[]) h1);obtain ⟨k1,k2,k3⟩:=hb.VE (aW (d:=[]) h2);exact MV _ _ q1 k1 q2 k2 q3 k3
 have gE: ∀(l:List Bool) (s:Nat),s<l.length->(l.map (fun b=>[AV.v (.bool b)])).getD s []=[.v (.bool (l.getD s false))]:=fun l s h=>by
  rw [XR,Xe,Xb h,XR,Xb h];rfl
 have gR: ∀(l:List aX) (s:Nat),s<l.length->(l.map (fun r=>[AV.mp (b9 r)])).getD s []=[.mp (b9 (l.getD s []))]:=fun l s h=>by
  rw [XR,Xe,Xb h,XR,Xb h];rfl
 simp only [b4,gV,aS,Y1,YR,ea,eb] at CA CB ⊢;generalize hrv:nc A B=rv
 (refine aq.enter Tryz.func14 rfl (by kernel_rfl) (by kernel_rfl) rfl (by first|rfl|(simp only [go_sem,YY,Bool.and_true,Yg])) (by first|rfl|(simp only [go_sem,YY,Bool.and_true,Yg])) ?_;simp only [Tryz.ntmps14,Tryz.results14,List.length_cons,List.length_nil,Nat.reduceAdd,Nat.reduceSub,List.replicate_succ,List.replicate_zero,Y1,YR])
 (refine bU ?_;intro K hK K hK K hK)
 refine aa.one CA ?_
 ((iterate 3 revert K);refine bU ?_;intro K hK K hK K hK)
 refine aa.one CB ?_
 ((iterate 3 revert K);refine bU ?_;intro K hK)
 refine bD.part (fun h=> ?_) (fun h=> ?_)
 ·have hne:A.rows.length≠B.rows.length:=by replace h:=bG h;omega
  have hf:rv=false:=by rw [<-hrv,nc,decide_eq_false hne];rfl
  (revert K;refine bU ?_)
  rw [hf]
 ·have heq:A.rows.length=B.rows.length:=by replace h:=bG h;omega
  have hf:(List.range A.rows.length).all (sameAt A B)=rv:=by rw [<-hrv,nc,decide_eq_true heq];rfl
  (revert K;refine bU ?_;intro K hK K hK K hK)
  refine aa.one CA ?_
  ((iterate 3 revert K);refine bU ?_;intro K hK)
  refine bf (ι:=Nat) 14 (fun s=>[(5, .undef),(13, .v (.int .i64 s))]) (fun s=>A.rows.length - s) (fun s=>s<=A.rows.length∧ ∀t,t<s->sameAt A B t=true) 0 ⟨Nat.zero_le _,fun t h=>absurd h (Nat.not_lt_zero t)⟩ ?_ ?_
  ·refine bl ?_ ai
   all_goals rfl
  ·rintro s ⟨hs,hd⟩ K hK
   (revert K;revert K;refine bU ?_;intro K hK K hK K hK)
   refine bD.part (fun h2=> ?_) (fun h2=> ?_)
   ·have hlt:s<A.rows.length:=by replace h2:=bG h2;omega
    have eW:=ak (k:=s) (by omega);have g1:=gE A.ends s (by omega);have g2:=gE B.ends s (by omega);have g3:=gR A.rows s hlt;have g4:=gR B.rows s (by omega);have C:=CQ s hlt (by omega);have hsm:sameAt A B s=((A.ends.getD s false==B.ends.getD s false)&&mX (A.rows.getD s []) (B.rows.getD s [])):=rfl;generalize A.ends.getD s false=e1 at *;generalize B.ends.getD s false=e2 at *
    have hin:sameAt A B s=false->rv=false:=fun hx=>by
     rw [<-hf, <- Bool.not_eq_true,X7];intro hall
     have:=hall s (List.mem_range.2 hlt)
     rw [hx] at this;cases this
    repeat (first|(with_reducible first|refine aw.up ?_|refine fun (K:AK) hK=> ?_|refine wD ?_|(refine hK _ ?_;clear hK K))|simp only [go_sem,g1,g2,g3,g4,h2]|with_reducible refine wA ?_|clear hK K)
    refine bD.part (fun h3=> ?_) (fun h3=> ?_)
    ·rw [h3,Yg] at hsm;generalize mX (A.rows.getD s []) (B.rows.getD s [])=e3 at *
     repeat (first|(with_reducible first|refine aw.up ?_|refine fun (K:AK) hK=> ?_|refine wD ?_|(refine hK _ ?_;clear hK K))|simp only [go_sem,g1,g2,g3,g4,h3]|with_reducible refine wA ?_|clear hK K)
     refine aE.one C ?_
     ((iterate 5 revert K);refine OX g1 g2 g3 g4 h3 ?_;intro K hK K hK K hK)
     refine bD.part (fun h4=> ?_) (fun h4=> ?_)
     ·rw [h4] at hsm
      ((iterate 3 revert K);refine w8 eW ?_)
      refine az.mk (s+1) ⟨hlt,fun t ht=> ?_⟩ (by omega) (by exact aR ai)
      rcases Nat.lt_succ_iff_lt_or_eq.1 ht with q|rfl
      ·exact hd t q
      ·exact hsm
     ·rw [h4] at hsm
      ((iterate 3 revert K);refine bU ?_)
      rw [hin hsm]
    ·rw [h3,Bool.false_and] at hsm
     ((iterate 5 revert K);refine OX g1 g2 g3 g4 h3 ?_)
     rw [hin hsm]
   ·have hs':s=A.rows.length:=by replace h2:=bG h2;omega
    have hf2:rv=true:=by
     rw [<-hf,X7];intro t ht;exact hd t (by rw [List.mem_range] at ht;omega)
    ((iterate 3 revert K);refine bU ?_)
    rw [hf2]
theorem k9: ∀ {l m:List ByteArray},iR l->iR m->(∀s,s∈l↔s∈m)->l=m
 | [],[],_,_,_=>rfl
 | [],b :: m,_,_,h=>absurd ((h b).2 (by simp)) (by simp)
 | a :: l,[],_,_,h=>absurd ((h a).1 (by simp)) (by simp)
 | a :: l,b :: m,h1,h2,h=>by
  rw [iR,List.pairwise_cons] at h1 h2;have irr: ∀x:List UInt8, ¬x<x:=fun x=>List.lt_irrefl _
  have hab:a=b:=by
   rcases Yj.1 ((h a).1 (by simp)) with e|ha
   ·exact e
   ·rcases Yj.1 ((h b).2 (by simp)) with e|hb
    ·exact e.symm
    ·exact absurd (List.lt_trans (h1.1 b hb) (h2.1 a ha)) (irr _)
  subst hab
  refine congrArg _ (k9 h1.2 h2.2 fun s=>⟨fun hs=> ?_,fun hs=> ?_⟩)
  ·rcases Yj.1 ((h s).1 (XW _ hs)) with e|q
   ·subst e;exact absurd (h1.1 _ hs) (irr _)
   ·exact q
  ·rcases Yj.1 ((h s).2 (XW _ hs)) with e|q
   ·subst e;exact absurd (h2.1 _ hs) (irr _)
   ·exact q
theorem sO {x:Ex} {l:List ByteArray} (h:iR l) (hm: ∀s,s∈aD x↔s∈l):bR x=l:=k9 (nJ x) h fun s=>kV.trans (hm s)
def ta:ByteArray:=⟨#[97]⟩
def tb:ByteArray:=⟨#[98]⟩
def oq (s:ByteArray):Ex:= .mk 1 s []
def LU:Ex:= .mk 4 ⟨#[]⟩ [.mk 2 ⟨#[]⟩ [oq ta,oq tb]]
def LV:Ex:= .mk 3 ⟨#[]⟩ [oq ta, .mk 2 ⟨#[]⟩ [oq ta, .mk 4 ⟨#[]⟩ [oq ta]]]
def LW:Ex:= .mk 5 ⟨#[]⟩ [oq ta]
def Ch:oe:=⟨[[(ta,1)],[(tb,0)]],[true,false],[ta,tb]⟩
def PS:oe:=⟨[[(ta,1)],[(ta,1)]],[false,true],[ta]⟩
theorem Sx:bR LU=[ta,tb]:=sO (by simp [iR,ta,tb];decide) (fun s=>by rw [show aD LU=[ta,tb] by kernel_rfl])
theorem Sy:bR LV=[ta]:=sO (by simp [iR]) (fun s=>by rw [show aD LV=[ta,ta,ta] by kernel_rfl];simp)
theorem Sz:bR LW=[ta]:=sO (by simp [iR]) (fun s=>by rw [show aD LW=[ta] by kernel_rfl])
theorem R4:gU LU (bR LU) = .inl Ch:=by rw [Sx];kernel_rfl
theorem R5:gU LV (bR LV) = .inl PS:=by rw [Sy];kernel_rfl
theorem Uv:gU LW (bR LW) = .inl PS:=by rw [Sz];kernel_rfl
theorem JX {part:List Nat}: ∀ {r s:aX},r.map Prod.fst=s.map Prod.fst->ry part r=ry part s->r.flatMap (fun e=>32 :: (e.1.data.toList++32 :: Lib.decDigits (part.getD e.2 0)))=s.flatMap (fun e=>32 :: (e.1.data.toList++32 :: Lib.decDigits (part.getD e.2 0)))
 | [],[],_,_=>rfl
 | [],b :: s,h,_=>by simp at h
 | a :: r,[],h,_=>by simp at h
 | a :: r,b :: s,h,k=>by
  simp only [List.map_cons,List.cons.injEq,ry] at h k;rw [List.flatMap_cons,List.flatMap_cons,JX (r:=r) (s:=s) h.2 k.2,h.1,k.1]
theorem KA {part:List Nat} {p:Nat} {r s:aX} (h:r.map Prod.fst=s.map Prod.fst) (k:ry part r=ry part s):b5 part p r=b5 part p s:=by
 rw [b5,b5,uZ,uZ,JX h k]
def Wa (rows:List aX) (ends:List Bool) (part:List Nat):Prop:= ∀s t,s<rows.length->t<rows.length->part.getD s 0≠part.getD t 0-> ∃w,bO rows ends s w≠bO rows ends t w
end
end Go.Proofs.YtfflpdekojlnmaaGreatDoor
