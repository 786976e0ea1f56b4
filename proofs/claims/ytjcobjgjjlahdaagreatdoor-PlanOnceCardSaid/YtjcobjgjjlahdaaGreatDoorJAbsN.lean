/- texts of one claim, one behind the other. -/
import Derived.Test.YtjcobjgjjlahdaaGreatDoorJAbsJ
import Derived.Test.YtjcobjgjjlahdaaGreatDoorJFen
set_option linter.unusedSimpArgs false
set_option linter.unusedVariables false
set_option maxRecDepth 100000
set_option maxHeartbeats 16000000
open Array renaming getElem?_eq_some_iff -> Q8, getD_eq_getD_getElem? -> RZ, getElem?_eq_getElem -> Ro, getElem?_setIfInBounds_self_of_lt -> Sl, getElem?_setIfInBounds_ne -> Sn
open Bool renaming and_eq_true -> RY, or_eq_true -> Si
open List renaming length_cons -> Rg, getElem?_append_left -> Rb, mem_cons_of_mem -> Sb, getElem?_set_ne -> Rw, mem_cons_self -> Sd, nodup_cons -> Se, getElem?_set_self -> Rx, getElem?_append_right -> RF, length_set -> Sf, mem_of_getElem? -> RK, getElem?_map -> Rs, getElem?_eq_some_iff -> Ra, getElem?_eq_getElem -> Rp, getElem?_of_mem -> Ry, all_eq_true -> Sg, mem_range -> Sh, size_toArray -> Rz, getElem?_toArray -> Rr, getElem?_concat_length -> Re, getD_eq_getElem?_getD -> R6, getElem?_mapIdx -> Sq, append_assoc -> RD, singleton_append -> Sc
open Nat renaming zero_le -> Rh, lt_or_ge -> Rc, le_trans -> Q6, le_refl -> Q5, lt_or_gt_of_ne -> Sj, lt_of_lt_of_le -> Q7, sub_self -> Sm
open Option renaming map_some -> RI, map_eq_some_iff -> RR, getD_some -> Sk
open Option.some renaming inj -> Q4, injEq -> Rl
namespace Go.Proofs.YtjcobjgjjlahdaaGreatDoor
open Go.RowKit
section
mutual
def AV.bc (f:Nat->Nat):AV->AV
 | .undef=> .undef
 | .v x=> .v x
 | .agg cs=> .agg (bV f cs)
 | .dC vs=> .dC (bV f vs)
 | .aC z rows len=> .aC z (bW f rows) len
 | .vp cs=> .vp (bV f cs)
 | .ptr id len z row off=> .ptr (f id) len z row off
 | .vec id len=> .vec (f id) len
 | .fn g fi ca=> .fn g (bV f fi) (bV f ca)
 | .full a=> .full (a.bc f)
 | .iR p a=> .iR p (a.bc f)
 | .mp rows=> .mp (bW f rows)
def bV (f:Nat->Nat):List AV->List AV
 | []=>[]
 | a :: l=>a.bc f :: bV f l
def bW (f:Nat->Nat):List (List AV)->List (List AV)
 | []=>[]
 | r :: l=>bV f r :: bW f l
end
theorem cp (f:Nat->Nat): ∀l:List AV,(bV f l).length=l.length
 | []=>rfl
 | a :: l=>by rw [bV,Rg,Rg,cp f l]
theorem dv (f:Nat->Nat): ∀l:List (List AV),(bW f l).length=l.length
 | []=>rfl
 | a :: l=>by rw [bW,Rg,Rg,dv f l]
theorem bZ (f:Nat->Nat): ∀(l:List AV) (i:Nat),(bV f l)[i]? = (l[i]?).map (AV.bc f)
 | [],i=>by simp [bV]
 | a :: l,0=>by simp [bV]
 | a :: l,i+1=>by simpa [bV] using bZ f l i
theorem dE (f:Nat->Nat): ∀(l:List (List AV)) (i:Nat),(bW f l)[i]? = (l[i]?).map (bV f)
 | [],i=>by simp [bW]
 | a :: l,0=>by simp [bW]
 | a :: l,i+1=>by simpa [bW] using dE f l i
def aa.bc (f:Nat->Nat) (ob:aa):aa:=⟨ob.T,ob.z,ob.fw,bW f ob.rows⟩
theorem aa.ep (f:Nat->Nat) (ob:aa):(ob.bc f).hl=ob.hl:=by simp [aa.hl,aa.bc,dv]
theorem cq {α β:Type} {g:α->β} {x:Option α} {y:β} (h:x.map g=some y): ∃a,x=some a∧y=g a:=by
 cases x with
 | none=>cases h
 | some a=>exact ⟨a,rfl,(Q4 h).symm⟩
section
variable {D D':Nat->Prop} {nu nu':Nat->Nat->Value} {o o':List (Option aa)} {w:World} {P:Program}
theorem RA.bc {f:Nat->Nat} (hF: ∀b,Fz D nu o w b->Fz D' nu' o' w b) (hH: ∀id len,cw o id len->cw o' (f id) len∧nu' (f id) len=nu id len) {a:AV} {x:Value} (hr:RA D nu o w a x):RA D' nu' o' w (a.bc f) x:=by
 induction hr with
 | undef x=>exact .undef x
 | v x=>exact .v x
 | agg cs xs h1 _ h3 ih=>
  exact .agg _ xs (by rw [cp];exact h1) (fun i c x hc hx=>by
   rw [bZ] at hc;obtain ⟨c0,hc0,rfl⟩:=cq hc
   exact ih i c0 x hc0 hx) h3
 | dC cs xs h1 _ ih=>
  exact .dC _ xs (by rw [cp];exact h1) (fun i c x hc hx=>by
   rw [bZ] at hc;obtain ⟨c0,hc0,rfl⟩:=cq hc
   exact ih i c0 x hc0 hx)
 | bf z=>exact .bf z
 | bC z a=>exact .bC z a
 | aC z rows len b off cap g h1 h2 h3 h4 h5 h6 _ h8 ih=>
  have key: ∀(i j:Nat) row c,(bW f rows)[i]? = some row->row[j]? = some c-> ∃row0 c0,rows[i]? = some row0∧row0[j]? = some c0∧c=c0.bc f:=fun i j row c hi hj=>by
   rw [dE] at hi;obtain ⟨row0,hr0,rfl⟩:=cq hi;rw [bZ] at hj;obtain ⟨c0,hc0,rfl⟩:=cq hj;exact ⟨row0,c0,hr0,hc0,rfl⟩
  refine .aC z _ len b off cap g (by rw [dv];exact h1) (by rw [dv];exact h2) h3 (fun hne=>hF b (h4 (fun e=>hne (by rw [e];rfl)))) (fun i row hi=> ?_) (fun i j row c hi hj=> ?_) (fun i j row c hi hj=> ?_) (fun i j row c hi hj=> ?_)
  ·rw [dE] at hi;obtain ⟨row0,hr0,rfl⟩:=cq hi;rw [cp];exact h5 i row0 hr0
  ·obtain ⟨row0,c0,q1,q2,rfl⟩:=key i j row c hi hj;exact h6 i j row0 c0 q1 q2
  ·obtain ⟨row0,c0,q1,q2,rfl⟩:=key i j row c hi hj;exact ih i j row0 c0 q1 q2
  ·obtain ⟨row0,c0,q1,q2,rfl⟩:=key i j row c hi hj;exact h8 i j row0 c0 q1 q2
 | vp cs b off g h1 h2 _ h4 ih=>
  have key: ∀(j:Nat) c,(bV f cs)[j]? = some c-> ∃c0,cs[j]? = some c0∧c=c0.bc f:=fun j c hj=>by
   rw [bZ] at hj;obtain ⟨c0,hc0,rfl⟩:=cq hj;exact ⟨c0,hc0,rfl⟩
  refine .vp _ b off g (hF b h1) (fun j c hc=> ?_) (fun j c hc=> ?_) (fun j c hc=> ?_)
  ·obtain ⟨c0,q,rfl⟩:=key j c hc;exact h2 j c0 q
  ·obtain ⟨c0,q,rfl⟩:=key j c hc;exact ih j c0 q
  ·obtain ⟨c0,q,rfl⟩:=key j c hc;exact h4 j c0 q
 | ptr id len z row off b h1 h2=>
  obtain ⟨h3,h4⟩:=hH id len h1;exact .ptr (f id) len z row off b h3 (by rw [h4];exact h2)
 | vec id len h1 h2=>
  obtain ⟨h3,h4⟩:=hH id len h1
  have:=RA.vec (D:=D') (nu:=nu') (o:=o') (w:=w) (f id) len h3 (by rw [h4];exact h2)
  rw [h4] at this;exact this
 | fn g first caps fi ca h1 h2 _ _ ih1 ih2=>
  exact .fn g _ _ fi ca (by rw [cp];exact h1) (by rw [cp];exact h2) (fun i c x hc hx=>by
   rw [bZ] at hc;obtain ⟨c0,hc0,rfl⟩:=cq hc
   exact ih1 i c0 x hc0 hx) (fun i c x hc hx=>by
   rw [bZ] at hc;obtain ⟨c0,hc0,rfl⟩:=cq hc
   exact ih2 i c0 x hc0 hx)
 | full a x h1 _ ih=>exact .full _ x h1 ih
 | iR p a x S h0 h1 hc h2 _ ih=>exact .iR p _ x S h0 (fun b hb=>hF b (h1 b hb)) hc h2 ih
 | mp rows b es cl h1 h2 h3 h4 h5 h6 _ ih=>
  refine .mp _ b es cl (hF b h1) h2 (by rw [dv];exact h3) (fun i row hi=> ?_) h5 h6 (fun i j row c e hi hj he=> ?_)
  ·rw [dE] at hi;obtain ⟨row0,hr0,rfl⟩:=cq hi;rw [cp];exact h4 i row0 hr0
  ·rw [dE] at hi;obtain ⟨row0,hr0,rfl⟩:=cq hi;rw [bZ] at hj;obtain ⟨c0,hc0,rfl⟩:=cq hj;exact ih i j row0 c0 e hr0 hc0 he
theorem RA.xP {f:Nat->Nat} {n:Nat} (hF: ∀b,Fz D nu o w b->Fz D' nu' o' w b) (hH: ∀id len,id<n->cw o (f id) len->cw o' id len∧nu' id len=nu (f id) len) {a':AV} {x:Value} (hr:RA D nu o w a' x) :
  ∀a:AV,a.wf n=true->a'=a.bc f->RA D' nu' o' w a x:=by
 induction hr with
 | undef x=>intro a _ e;cases a<;>simp only [AV.bc,reduceCtorEq] at e;exact .undef x
 | v x=>
  intro a _ e;cases a<;>simp only [AV.bc,reduceCtorEq,AV.v.injEq] at e;subst e;exact .v x
 | agg cs xs h1 _ h3 ih=>
  intro a ha e;cases a<;>simp only [AV.bc,reduceCtorEq,AV.agg.injEq] at e;rename_i ds;subst e;rw [cp] at h1;refine .agg ds xs h1 (fun i c x hc hx=>ih i (c.bc f) x (by rw [bZ,hc];rfl) hx c ?_ rfl) h3;simp only [AV.wf] at ha;exact bU ha hc
 | dC cs xs h1 _ ih=>
  intro a ha e;cases a<;>simp only [AV.bc,reduceCtorEq,AV.dC.injEq] at e;rename_i ds;subst e;rw [cp] at h1;refine .dC ds xs h1 (fun i c x hc hx=>ih i (c.bc f) x (by rw [bZ,hc];rfl) hx c ?_ rfl);simp only [AV.wf] at ha;exact bU ha hc
 | bf z=>
  intro a _ e
  cases a with
  | aC z' rows' len'=>
   simp only [AV.bc,AV.aC.injEq] at e;obtain ⟨rfl,e,rfl⟩:=e
   cases rows' with
   | nil=>exact .bf _
   | cons r l=>simp [bW] at e
  | _=>simp [AV.bc] at e
 | bC z ad=>
  intro a _ e
  cases a with
  | aC z' rows' len'=>
   simp only [AV.bc,AV.aC.injEq] at e;obtain ⟨rfl,e,rfl⟩:=e
   cases rows' with
   | nil=>exact .bC _ _
   | cons r l=>simp [bW] at e
  | _=>simp [AV.bc] at e
 | aC z rows len b off cap g h1 h2 h3 h4 h5 h6 _ h8 ih=>
  intro a ha e;cases a<;>simp only [AV.bc,reduceCtorEq,AV.aC.injEq] at e;rename_i z' rows' len';obtain ⟨rfl,rfl,rfl⟩:=e;rw [dv] at h1 h2;simp only [AV.wf] at ha
  have up: ∀(i:Nat) row,rows'[i]? = some row->(bW f rows')[i]? = some (bV f row):=fun i row h=>by rw [dE,h];rfl
  have upj: ∀(row:List AV) (j:Nat) c,row[j]? = some c->(bV f row)[j]? = some (c.bc f):=fun row j c h=>by rw [bZ,h];rfl
  refine .aC _ rows' _ b off cap g h1 h2 h3 (fun hne=>hF b (h4 (fun e=>hne ?_))) (fun i row hi=> ?_) (fun i j row c hi hj=>h6 i j _ _ (up i row hi) (upj row j c hj)) (fun i j row c hi hj=>ih i j _ _ (up i row hi) (upj row j c hj) c (bU (gP ha hi) hj) rfl) (fun i j row c hi hj=>h8 i j _ _ (up i row hi) (upj row j c hj))
  ·cases rows' with
   | nil=>rfl
   | cons r l=>simp [bW] at e
  ·have:=h5 i _ (up i row hi);rw [cp] at this;exact this
 | vp cs b off g h1 h2 _ h4 ih=>
  intro a ha e;cases a<;>simp only [AV.bc,reduceCtorEq,AV.vp.injEq] at e;rename_i ds;subst e;simp only [AV.wf] at ha
  have up: ∀(j:Nat) c,ds[j]? = some c->(bV f ds)[j]? = some (c.bc f):=fun j c h=>by rw [bZ,h];rfl
  exact .vp ds b off g (hF b h1) (fun j c hc=>h2 j _ (up j c hc)) (fun j c hc=>ih j _ (up j c hc) c (bU ha hc) rfl) (fun j c hc=>h4 j _ (up j c hc))
 | ptr id len z row off b h1 h2=>
  intro a ha e;cases a<;>simp only [AV.bc,reduceCtorEq,AV.ptr.injEq] at e;rename_i id' len' z' row' off';obtain ⟨rfl,rfl,rfl,rfl,rfl⟩:=e;simp only [AV.wf,decide_eq_true_eq] at ha;obtain ⟨h3,h4⟩:=hH id' _ ha h1;exact .ptr id' _ _ _ _ b h3 (by rw [h4];exact h2)
 | vec id len h1 h2=>
  intro a ha e;cases a<;>simp only [AV.bc,reduceCtorEq,AV.vec.injEq] at e;rename_i id' len';obtain ⟨rfl,rfl⟩:=e;simp only [AV.wf,decide_eq_true_eq] at ha;obtain ⟨h3,h4⟩:=hH id' _ ha h1
  have:=RA.vec (D:=D') (nu:=nu') (o:=o') (w:=w) id' len h3 (by rw [h4];exact h2)
  rw [h4] at this;exact this
 | fn g first caps fi ca h1 h2 _ _ ih1 ih2=>
  intro a ha e;cases a<;>simp only [AV.bc,reduceCtorEq,AV.fn.injEq] at e;rename_i g' fi' ca';obtain ⟨rfl,rfl,rfl⟩:=e;rw [cp] at h1 h2;simp only [AV.wf,RY] at ha;exact .fn _ fi' ca' fi ca h1 h2 (fun i c x hc hx=>ih1 i (c.bc f) x (by rw [bZ,hc];rfl) hx c (bU ha.1 hc) rfl) (fun i c x hc hx=>ih2 i (c.bc f) x (by rw [bZ,hc];rfl) hx c (bU ha.2 hc) rfl)
 | full b x h1 _ ih=>
  intro a ha e;cases a<;>simp only [AV.bc,reduceCtorEq,AV.full.injEq] at e;rename_i b';simp only [AV.wf] at ha;exact .full b' x h1 (ih b' ha e)
 | iR p b x S h0 h1 hc h2 _ ih=>
  intro a ha e;cases a<;>simp only [AV.bc,reduceCtorEq,AV.iR.injEq] at e;rename_i p' b';obtain ⟨rfl,e⟩:=e;simp only [AV.wf] at ha;exact .iR _ b' x S h0 (fun b hb=>hF b (h1 b hb)) hc h2 (ih b' ha e)
 | mp rows b es cl h1 h2 h3 h4 h5 h6 _ ih=>
  intro a ha e;cases a<;>simp only [AV.bc,reduceCtorEq,AV.mp.injEq] at e;rename_i rows';subst e;rw [dv] at h3;simp only [AV.wf] at ha
  have up: ∀(i:Nat) row,rows'[i]? = some row->(bW f rows')[i]? = some (bV f row):=fun i row h=>by rw [dE,h];rfl
  have upj: ∀(row:List AV) (j:Nat) c,row[j]? = some c->(bV f row)[j]? = some (c.bc f):=fun row j c h=>by rw [bZ,h];rfl
  exact .mp rows' b es cl (hF b h1) h2 h3 (fun i row hi=>by have:=h4 i _ (up i row hi);rw [cp] at this;exact this) h5 h6 (fun i j row c e hi hj he=>ih i j _ _ e (up i row hi) (upj row j c hj) he c (bU (gP ha hi) hj) rfl)
def sig (ids:List Nat) (n k:Nat):Nat:=if k<ids.length then ids.getD k 0 else n+(k - ids.length)
def iq (f:Nat->Nat):List Nat->List (Option aa)->List (Option aa)->List (Option aa)
 | i :: ids,x :: l,o=>iq f ids l (o.set i (x.map (aa.bc f)))
 | [],l,o=>o++l.map (Option.map (aa.bc f))
 | _ :: _,[],o=>o
theorem jD (f:Nat->Nat): ∀(ids:List Nat) (l o:List (Option aa)) (j:Nat),j∉ids->j<o.length->(iq f ids l o)[j]? = o[j]?
 | [],l,o,j,_,hj=>by rw [iq,Rb hj]
 | i :: ids,x :: l,o,j,hn,hj=>by
  rw [iq,jD f ids l _ j (fun h=>hn (Sb _ h)) (by simpa using hj),Rw (fun e=>hn (by rw [e];exact Sd))]
 | _ :: _,[],_,_,_,_=>by rw [iq]
theorem uL (f:Nat->Nat): ∀(ids:List Nat) (l o:List (Option aa)),ids.Nodup->(∀i∈ids,i<o.length)-> ∀(k i:Nat) (x:Option aa),ids[k]? = some i->l[k]? = some x->(iq f ids l o)[i]? = some (x.map (aa.bc f))
 | [],l,o,_,_,k,i,x,h,_=>by simp at h
 | j :: ids,[],o,_,_,k,i,x,_,h=>by simp at h
 | j :: ids,y :: l,o,hn,hb,0,i,x,h1,h2=>by
  simp at h1 h2;subst h1;subst h2;rw [iq,jD f ids l _ j (Se.1 hn).1 (by simpa using hb j Sd),Rx (hb j Sd)]
 | j :: ids,y :: l,o,hn,hb,k+1,i,x,h1,h2=>by
  rw [iq];exact uL f ids l _ (Se.1 hn).2 (fun a ha=>by simpa using hb a (Sb _ ha)) k i x (by simpa using h1) (by simpa using h2)
theorem qL (f:Nat->Nat): ∀(ids:List Nat) (l o:List (Option aa)) (j:Nat),ids.length<=l.length->(iq f ids l o)[o.length+j]? = (l[ids.length+j]?).map (Option.map (aa.bc f))
 | [],l,o,j,_=>by rw [iq,RF (by omega)];simp
 | i :: ids,x :: l,o,j,h=>by
  have:=qL f ids l (o.set i (x.map (aa.bc f))) j (by simpa using h)
  rw [iq];rw [Sf] at this;rw [this]
  congr 1
  rw [Rg,show ids.length+1+j=(ids.length+j)+1 by omega,List.getElem?_cons_succ]
 | _ :: _,[],_,_,h=>by simp at h
theorem gR: ∀(ids:List Nat),ids.Nodup-> ∀(k i:Nat),ids[k]? = some i->ids.idxOf i=k
 | [],_,k,i,h=>by simp at h
 | j :: ids,hn,0,i,h=>by simp at h;subst h;simp
 | j :: ids,hn,k+1,i,h=>by
  have h':ids[k]? = some i:=by simpa using h
  have hne:j≠i:=fun e=>(Se.1 hn).1 (by rw [e];exact RK h');rw [List.idxOf_cons,gR ids (Se.1 hn).2 k i h',beq_eq_false_iff_ne.2 hne];rfl
theorem pW {o0:List (Option aa)} (ids:List Nat) (hro:RO D nu o w) (hnd:ids.Nodup) (ho:ids.map (fun i=>o[i]?)=o0.map (fun x=>some (x.map (aa.bc (sig ids o.length)))))
  (hwo: ∀(k:Nat) ob,o0[k]? = some (some ob)->dA ids.length ob.rows=true) :
  RO (fun b=>D b∧ ¬(b<w.heap.size∧ ∃id ob,id∉ids∧o[id]? = some (some ob)∧cW (nu id ob.hl)=some b)) (fun k len=>nu (sig ids o.length k) len) o0 w∧(∀b,owned (fun k len=>nu (sig ids o.length k) len) o0 b->owned nu o b) ∧
   (∀b,Fz D nu o w b->Fz (fun b=>D b∧ ¬(b<w.heap.size∧ ∃id ob,id∉ids∧o[id]? = some (some ob)∧cW (nu id ob.hl)=some b)) (fun k len=>nu (sig ids o.length k) len) o0 w b) ∧
   (∀id len,id<ids.length->cw o (sig ids o.length id) len->cw o0 id len∧nu (sig ids o.length id) len=nu (sig ids o.length id) len) ∧
   ∀(k:Nat) ob,o0[k]? = some (some ob)-> ∃i,ids[k]? = some i∧sig ids o.length k=i∧o[i]? = some (some (ob.bc (sig ids o.length))):=by
 have hlen:o0.length=ids.length:=by have:=congrArg List.length ho;simpa using this.symm
 have hget: ∀(k i:Nat),ids[k]? = some i-> ∃x,o0[k]? = some x∧o[i]? = some (x.map (aa.bc (sig ids o.length))):=fun k i hk=>by
  have h1:=congrArg (fun l=>l[k]?) ho;simp only [Rs,hk,RI] at h1
  have hlt:k<o0.length:=by rw [hlen];exact (Ra.1 hk).1
  rw [Rp hlt,RI] at h1;exact ⟨_,Rp hlt,Q4 h1⟩
 have hb: ∀i∈ids,i<o.length:=fun i hi=>by
  obtain ⟨k,hk⟩:=Ry hi;obtain ⟨x,_,hx⟩:=hget k i hk;exact (Ra.1 hx).1
 have sigk: ∀(k i:Nat),ids[k]? = some i->sig ids o.length k=i:=fun k i hk=>by
  have hlt:=(Ra.1 hk).1;rw [sig,if_pos hlt,getD_some hk]
 generalize hs:sig ids o.length=σ at *
 let out:Nat->Prop:=fun b=>b<w.heap.size∧ ∃id ob,id∉ids∧o[id]? = some (some ob)∧cW (nu id ob.hl)=some b
 let D0:Nat->Prop:=fun b=>D b∧ ¬out b
 let nu0:Nat->Nat->Value:=fun k len=>nu (σ k) len
 have obj0: ∀(k:Nat) ob,o0[k]? = some (some ob)-> ∃i,ids[k]? = some i∧σ k=i∧o[i]? = some (some (ob.bc σ)):=fun k ob hk=>by
  have hlt:k<ids.length:=by rw [<-hlen];exact (Ra.1 hk).1
  have e:=Rp hlt;obtain ⟨x,q1,q2⟩:=hget k _ e;rw [hk] at q1;cases q1;exact ⟨_,e,sigk k _ e,q2⟩
 have own0: ∀b,owned nu0 o0 b->owned nu o b:=fun b ⟨k,ob,h1,h2⟩=>by
  obtain ⟨i,q1,q2,q3⟩:=obj0 k ob h1;refine ⟨i,_,q3, ?_⟩;rw [aa.ep, <- q2];exact h2
 have own0_out: ∀b,owned nu0 o0 b-> ¬out b:=fun b ⟨k,ob,h1,h2⟩ ⟨hlt,id,ob',hn,h3,h4⟩=>by
  obtain ⟨i,q1,q2,q3⟩:=obj0 k ob h1;have hne:i≠id:=fun e=>hn (by rw [<-e];exact RK q1);refine hro.sep i id _ _ b q3 h3 hne ?_ h4;rw [aa.ep, <- q2];exact h2
 have fz0: ∀b,Fz D nu o w b->Fz D0 nu0 o0 w b:=fun b hf=>⟨hf.1,fun ho=>hf.2.1 (own0 b ho),hf.2.2,fun ⟨_,id,ob,_,h3,h4⟩=>hf.2.1 ⟨id,ob,h3,h4⟩⟩
 have hdr0: ∀id len,id<ids.length->cw o (σ id) len->cw o0 id len∧nu0 id len=nu (σ id) len:=fun k len hk hh=>by
  refine ⟨?_,rfl⟩;have e:=Rp hk;obtain ⟨x,q1,q2⟩:=hget k _ e;obtain ⟨y,r1,r2⟩:=hh;rw [sigk k _ e,q2] at r1;cases r1;refine ⟨x,q1,fun ob hx=> ?_⟩;subst hx
  have:=r2 _ rfl
  rwa [aa.ep] at this
 have ro0:RO D0 nu0 o0 w:=by
  refine ⟨fun k ob hk=> ?_,fun b hlt=>⟨hro.up b hlt,fun ho=>by have:=ho.1;omega⟩,fun k k' ob ob' b h1 h2 hne h3 h4=> ?_,hro.gl.fz (fun b hf=>⟨rfl,fz0 b hf⟩)⟩
  ·obtain ⟨i,q1,q2,q3⟩:=obj0 k ob hk
   rcases hro.obj i _ q3 with ⟨e1,e2,e3⟩|⟨g,cur,hr⟩|⟨g,es,cl,hmp⟩
   ·refine .inl ⟨e1, ?_, ?_⟩
    ·have:(bW σ ob.rows).length=0:=by rw [show bW σ ob.rows=[] from e2];rfl
     rw [dv] at this;exact List.eq_nil_of_length_eq_zero this
    ·show nu (σ k) 0=_;rw [q2];exact e3
   ·have hbk:cW (nu i (ob.bc σ).hl)=some g:=hr.bJ;have hg:D0 g:=⟨hr.kJ,own0_out g ⟨k,ob,hk,by show cW (nu (σ k) _)=_;rw [q2, <- aa.ep σ];exact hbk⟩⟩
    have hup: ∀(j:Nat) row,ob.rows[j]? = some row->(ob.bc σ).rows[j]? = some (bV σ row):=fun j row hj=>by show (bW σ ob.rows)[j]? = _;rw [dE,hj];rfl
    have hupc: ∀(row:List AV) (j:Nat) c,row[j]? = some c->(bV σ row)[j]? = some (c.bc σ):=fun row j c hj=>by rw [bZ,hj];rfl
    refine .inr (.inl ⟨g,cur,hr.blk,hg,fun e=> ?_,fun e=> ?_,hr.z,fun j row hj=> ?_,fun j j' row c x h1 h2 h3=> ?_,fun j j' row c x h1 h2 h3=>hr.one j j' _ _ x (hup j row h1) (hupc row j' c h2) h3⟩)
    ·obtain ⟨p1,p2,p3⟩:=hr.box e
     refine ⟨?_, ?_,p3⟩
     ·show nu (σ k) 0=_;rw [q2];exact p1
     ·have:(bW σ ob.rows).length=1:=p2
      rwa [dv] at this
    ·obtain ⟨cap,p1,p2,p3,p4⟩:=hr.vec e;have el:(ob.bc σ).rows.length=ob.rows.length:=dv σ ob.rows;rw [el] at p1 p2;refine ⟨cap, ?_,p2,p3,p4⟩;show nu (σ k) _=_;rw [q2];exact p1
    ·have:=hr.row j _ (hup j row hj)
     rw [cp] at this;exact this
    ·exact (hr.cell j j' _ _ x (hup j row h1) (hupc row j' c h2) h3).xP (f:=σ) (n:=ids.length) fz0 hdr0 c (bU (gP (hwo k ob hk) h1) h2) rfl
   ·have hbk:cW (nu i (ob.bc σ).hl)=some g:=hmp.bJ;have hg:D0 g:=⟨hmp.kJ,own0_out g ⟨k,ob,hk,by show cW (nu (σ k) _)=_;rw [q2, <- aa.ep σ];exact hbk⟩⟩;refine .inr (.inr ⟨g,es,cl,hmp.rows rfl hg (by show nu (σ k) 0=_;rw [q2]) rfl rfl (dv σ ob.rows).symm (fun j row hj=>⟨bV σ row,by show (bW σ ob.rows)[j]? = _;rw [dE,hj];rfl,(cp σ row).symm,fun j' c hc=>⟨c.bc σ,by rw [bZ,hc];rfl,fun x hx=>hx.xP (f:=σ) (n:=ids.length) fz0 hdr0 c (bU (gP (hwo k ob hk) hj) hc) rfl⟩⟩)⟩)
  ·obtain ⟨i,q1,q2,q3⟩:=obj0 k ob h1;obtain ⟨i',q1',q2',q3'⟩:=obj0 k' ob' h2;have hii:i≠i':=fun e=>hne (by rw [<-gR ids hnd k i q1, <- gR ids hnd k' i' q1',e])
   refine hro.sep i i' _ _ b q3 q3' hii ?_ ?_
   ·rw [aa.ep, <- q2];exact h3
   ·rw [aa.ep, <- q2'];exact h4
 exact ⟨ro0,own0,fz0,hdr0,obj0⟩
theorem gj.frame {f:FuncId} {args0 args:List AV} {o0:List (Option aa)} {Q:AV->List (Option aa)->Prop} (ids:List Nat) (h:gj P f args0 o0 Q) (hnd:ids.Nodup)
  (ho:ids.map (fun i=>o[i]?)=o0.map (fun x=>some (x.map (aa.bc (sig ids o.length)))))
  (hargs:args=bV (sig ids o.length) args0) (hwa:bn ids.length args0=true) (hwo: ∀(k:Nat) ob,o0[k]? = some (some ob)->dA ids.length ob.rows=true) :
  gj P f args o (fun r o'=> ∃r0 o1,Q r0 o1∧r=r0.bc (sig ids o.length)∧o'=iq (sig ids o.length) ids o1 o):=by
 obtain ⟨hc,hq⟩:=h;refine ⟨hc,fun D nu w vargs hro hra=> ?_⟩;subst hargs;obtain ⟨ro0,own0,fz0,hdr0,obj0⟩:=pW ids hro hnd ho hwo
 have hlen:o0.length=ids.length:=by have:=congrArg List.length ho;simpa using this.symm
 have hget: ∀(k i:Nat),ids[k]? = some i-> ∃x,o0[k]? = some x∧o[i]? = some (x.map (aa.bc (sig ids o.length))):=fun k i hk=>by
  have h1:=congrArg (fun l=>l[k]?) ho;simp only [Rs,hk,RI] at h1
  have hlt:k<o0.length:=by rw [hlen];exact (Ra.1 hk).1
  rw [Rp hlt,RI] at h1;exact ⟨_,Rp hlt,Q4 h1⟩
 have hb: ∀i∈ids,i<o.length:=fun i hi=>by
  obtain ⟨k,hk⟩:=Ry hi;obtain ⟨x,_,hx⟩:=hget k i hk;exact (Ra.1 hx).1
 have sigk: ∀(k i:Nat),ids[k]? = some i->sig ids o.length k=i:=fun k i hk=>by
  have hlt:=(Ra.1 hk).1;rw [sig,if_pos hlt,getD_some hk]
 have sign: ∀k,ids.length<=k->sig ids o.length k=o.length+(k - ids.length):=fun k hk=>by rw [sig,if_neg (by omega)]
 generalize hs:sig ids o.length=σ at *
 let out:Nat->Prop:=fun b=>b<w.heap.size∧ ∃id ob,id∉ids∧o[id]? = some (some ob)∧cW (nu id ob.hl)=some b
 let D0:Nat->Prop:=fun b=>D b∧ ¬out b
 let nu0:Nat->Nat->Value:=fun k len=>nu (σ k) len
 have own0_out: ∀b,owned nu0 o0 b-> ¬out b:=fun b ⟨k,ob,h1,h2⟩ ⟨hlt,id,ob',hn,h3,h4⟩=>by
  obtain ⟨i,q1,q2,q3⟩:=obj0 k ob h1;have hne:i≠id:=fun e=>hn (by rw [<-e];exact RK q1);refine hro.sep i id _ _ b q3 h3 hne ?_ h4;rw [aa.ep, <- q2];exact h2
 have ra0:fX D0 nu0 o0 w args0 vargs:=⟨by have:=hra.len;rwa [cp] at this,fun i c x hi hx=>
  (hra.at' i (c.bc σ) x (by rw [bZ,hi];rfl) hx).xP (f:=σ) (n:=ids.length) fz0 hdr0 c (bU hwa hi) rfl⟩
 refine (hq D0 nu0 w vargs ro0 ra0).mono ?_;rintro e w' ⟨v,nu1,o1,r0,rfl,hm,ro1,ra1,hQ⟩
 have hle:ids.length<=o1.length:=by
  rcases Nat.eq_zero_or_pos ids.length with q|q
  ·omega
  ·have e:=Rp (show ids.length - 1<o0.length by omega);obtain ⟨h1,_⟩:=hm.p9 (ids.length - 1) 0 ⟨_,e,fun _ _=>Rh _⟩
   have:=gr h1
   omega
 let nu':Nat->Nat->Value:=fun id len=>if id∈ids then nu1 (ids.idxOf id) len else if id<o.length then nu id len else nu1 (ids.length+(id - o.length)) len
 have nu_id: ∀(k i:Nat) len,ids[k]? = some i->nu' i len=nu1 k len:=fun k i len hk=>by
  show (if _ then _ else _)=_;rw [if_pos (RK hk),gR ids hnd k i hk]
 have nu_old: ∀id len,id∉ids->id<o.length->nu' id len=nu id len:=fun id len h1 h2=>by
  show (if _ then _ else _)=_;rw [if_neg h1,if_pos h2]
 have nu_sig: ∀k len,nu' (σ k) len=nu1 k len:=fun k len=>by
  rcases Rc k ids.length with q|q
  ·have e:=Rp q;rw [sigk k _ e];exact nu_id k _ len e
  ·rw [sign k q];show (if _ then _ else _)=_;rw [if_neg (fun hmem=>by have:=hb _ hmem;omega),if_neg (by omega)]
   congr 1;omega
 have o_sig: ∀k x,o1[k]? = some x->(iq σ ids o1 o)[σ k]? = some (x.map (aa.bc σ)):=fun k x hk=>by
  rcases Rc k ids.length with q|q
  ·have e:=Rp q;rw [sigk k _ e];exact uL σ ids o1 o hnd hb k _ x e hk
  ·rw [sign k q,qL σ ids o1 o _ hle,show ids.length+(k - ids.length)=k by omega,hk];rfl
 
 have parts: ∀id x,(iq σ ids o1 o)[id]? = some x->(∃k y,id=σ k∧o1[k]? = some y∧x=y.map (aa.bc σ))∨(id∉ids∧id<o.length∧o[id]? = some x):=fun id x hx=>by
  rcases Rc id o.length with q|q
  ·by_cases hmem:id∈ids
   ·obtain ⟨k,hk⟩:=Ry hmem
    have hk1:k<o1.length:=by have:=(Ra.1 hk).1;omega
    have:=uL σ ids o1 o hnd hb k id _ hk (Rp hk1)
    rw [this] at hx;exact .inl ⟨k,_,(sigk k id hk).symm,Rp hk1,(Q4 hx).symm⟩
   ·rw [jD σ ids o1 o id hmem q] at hx;exact .inr ⟨hmem,q,hx⟩
  ·obtain ⟨j,rfl⟩: ∃j,id=o.length+j:=⟨id - o.length,by omega⟩;rw [qL σ ids o1 o j hle] at hx;obtain ⟨y,hy,rfl⟩:=cq hx;exact .inl ⟨ids.length+j,y,by rw [sign _ (by omega)];omega,hy,rfl⟩
 have hF1: ∀b,Fz D0 nu1 o1 w' b->Fz D nu' (iq σ ids o1 o) w' b:=fun b hf=>⟨hf.1,fun ⟨id,ob,h1,h2⟩=>by
  rcases parts id _ h1 with ⟨k,y,rfl,hy,e⟩|⟨h3,h4,h5⟩
  ·obtain ⟨ob0,rfl,rfl⟩:=cq (RR.2 (by obtain ⟨a,ha1,ha2⟩:=RR.1 e.symm;exact ⟨a,ha1,ha2⟩));rw [aa.ep,nu_sig] at h2;exact hf.2.1 ⟨k,ob0,hy,h2⟩
  ·rw [nu_old id _ h3 h4] at h2
   exact hf.2.2.2 ⟨hro.aU ⟨id,ob,h5,h2⟩,id,ob,h3,h5,h2⟩,hf.2.2.1⟩
 have hH1: ∀id len,cw o1 id len->cw (iq σ ids o1 o) (σ id) len∧nu' (σ id) len=nu1 id len:=fun k len ⟨x,h1,h2⟩=>by
  refine ⟨⟨_,o_sig k x h1,fun y hy=> ?_⟩,nu_sig k len⟩;obtain ⟨z,rfl,rfl⟩:=RR.1 hy;rw [aa.ep];exact h2 z rfl
 have hmono:b7 nu o w nu' (iq σ ids o1 o) w':=by
  refine ⟨hm.os,hm.tape,hm.output,hm.size,fun id len hh=> ?_,fun b hlt hno=> ?_⟩
  ·have hlt:=gr hh
   by_cases hmem:id∈ids
   ·obtain ⟨k,hk⟩:=Ry hmem;have hkl:=(Ra.1 hk).1;obtain ⟨g1,_⟩:=hdr0 k len hkl (by rw [sigk k id hk];exact hh);obtain ⟨g3,g4⟩:=hm.p9 k len g1;obtain ⟨g5,g6⟩:=hH1 k len g3;rw [sigk k id hk] at g5 g6;exact ⟨g5,by rw [g6,g4];show nu (σ k) len=_;rw [sigk k id hk]⟩
   ·refine ⟨?_,nu_old id len hmem hlt⟩;obtain ⟨x,h1,h2⟩:=hh;exact ⟨x,by rw [jD σ ids o1 o id hmem hlt];exact h1,h2⟩
  ·have hno0: ¬owned nu0 o0 b:=fun ho=>hno (own0 b ho);obtain ⟨g1,g2⟩:=hm.keep b hlt hno0;refine ⟨g1,fun ⟨id,ob,h1,h2⟩=> ?_⟩
   rcases parts id _ h1 with ⟨k,y,rfl,hy,e⟩|⟨h3,h4,h5⟩
   ·obtain ⟨ob0,rfl,rfl⟩:=RR.1 e.symm;rw [aa.ep,nu_sig] at h2;exact g2 ⟨k,ob0,hy,h2⟩
   ·rw [nu_old id _ h3 h4] at h2;exact hno ⟨id,ob,h5,h2⟩
 refine ⟨v,nu',iq σ ids o1 o,r0.bc σ,rfl,hmono, ?_,ra1.bc hF1 hH1,r0,o1,hQ,rfl,rfl⟩
 refine ⟨fun id ob hid=> ?_,fun b hlt=>hro.up b (Q6 hm.size hlt),fun id id' ob ob' b h1 h2 hne h3 h4=> ?_,hro.gl.mono hmono (fun _ _ h=>h)⟩
 ·rcases parts id _ hid with ⟨k,y,rfl,hy,e⟩|⟨h3,h4,h5⟩
  ·obtain ⟨ob0,rfl,rfl⟩:=RR.1 e.symm
   rcases ro1.obj k ob0 hy with ⟨e1,e2,e3⟩|⟨g,cur,hr⟩|⟨g,es,cl,hmp⟩
   ·exact .inl ⟨e1,by show bW σ ob0.rows=[];rw [e2];rfl,by rw [nu_sig];exact e3⟩
   ·have el:(ob0.bc σ).rows.length=ob0.rows.length:=dv σ ob0.rows
    have key: ∀(i j:Nat) row c,(ob0.bc σ).rows[i]? = some row->row[j]? = some c-> ∃row0 c0,ob0.rows[i]? = some row0∧row0[j]? = some c0∧c=c0.bc σ:=fun i j row c hi hj=>by
     have hi':(bW σ ob0.rows)[i]? = some row:=hi;rw [dE] at hi';obtain ⟨row0,hr0,rfl⟩:=cq hi';rw [bZ] at hj;obtain ⟨c0,hc0,rfl⟩:=cq hj;exact ⟨row0,c0,hr0,hc0,rfl⟩
    refine .inr (.inl ⟨g,cur,hr.blk,hr.kJ.1,fun e=> ?_,fun e=> ?_,hr.z,fun i row hi=> ?_,fun i j row c x g1 g2 g3=> ?_,fun i j row c x g1 g2 g3=> ?_⟩)
    ·obtain ⟨p1,p2,p3⟩:=hr.box e;exact ⟨by rw [nu_sig];exact p1,by rw [el];exact p2,p3⟩
    ·obtain ⟨cap,p1,p2,p3,p4⟩:=hr.vec e;exact ⟨cap,by rw [nu_sig,el];exact p1,by rw [el];exact p2,p3,p4⟩
    ·have hi':(bW σ ob0.rows)[i]? = some row:=hi;rw [dE] at hi';obtain ⟨row0,hr0,rfl⟩:=cq hi';rw [cp];exact hr.row i row0 hr0
    ·obtain ⟨row0,c0,q1,q2,rfl⟩:=key i j row c g1 g2;exact (hr.cell i j row0 c0 x q1 q2 g3).bc hF1 hH1
    ·obtain ⟨row0,c0,q1,q2,rfl⟩:=key i j row c g1 g2;exact hr.one i j row0 c0 x q1 q2 g3
   ·refine .inr (.inr ⟨g,es,cl,hmp.rows rfl hmp.kJ.1 (nu_sig k 0) rfl rfl (dv σ ob0.rows) (fun i row hi=> ?_)⟩);have hi':(bW σ ob0.rows)[i]? = some row:=hi;rw [dE] at hi';obtain ⟨row0,hr0,rfl⟩:=cq hi';refine ⟨row0,hr0,cp σ row0,fun j c hc=> ?_⟩;rw [bZ] at hc;obtain ⟨c0,hc0,rfl⟩:=cq hc;exact ⟨c0,hc0,fun x hx=>hx.bc hF1 hH1⟩
  ·rcases hro.obj id ob h5 with ⟨e1,e2,e3⟩|⟨g,cur,hr⟩|⟨g,es,cl,hmp⟩
   ·exact .inl ⟨e1,e2,by rw [nu_old id _ h3 h4];exact e3⟩
   ·have hbk:=hr.bJ;have hlt:g<w.heap.size:=(Q8.1 hr.blk).1;have hno0: ¬owned nu0 o0 g:=fun ho=>own0_out g ho ⟨hlt,id,ob,h3,h5,hbk⟩;have hsame:=(hm.keep g hlt hno0).1
    refine .inr (.inl ⟨g,cur,hsame.trans hr.blk,hr.kJ,fun e=> ?_,fun e=> ?_,hr.z,hr.row,fun i j row c x g1 g2 g3=>(hr.cell i j row c x g1 g2 g3).mono hmono (fun _ _ h=>h),hr.one⟩)
    ·rw [nu_old id _ h3 h4];exact hr.box e
    ·rw [nu_old id _ h3 h4];exact hr.vec e
   ·have hbk:=hmp.bJ;have hlt:g<w.heap.size:=(Q8.1 hmp.blk).1;have hno0: ¬owned nu0 o0 g:=fun ho=>own0_out g ho ⟨hlt,id,ob,h3,h5,hbk⟩;exact .inr (.inr ⟨g,es,cl,hmp.tr (hm.keep g hlt hno0).1 (fun h=>h) (nu_old id _ h3 h4) (fun i j row c x _ _ hr=>hr.mono hmono (fun _ _ h=>h))⟩)
 ·have cross: ∀(k id:Nat) (ob0 ob:aa) (b:Nat),o1[k]? = some (some ob0)->cW (nu1 k ob0.hl)=some b->id∉ids->o[id]? = some (some ob)->cW (nu id ob.hl)=some b->False:=fun k id ob0 ob b g1 g2 g3 g4 g5=>by
   rcases ro1.obj k ob0 g1 with ⟨e1,e2,e3⟩|⟨g,cur,hr⟩|⟨g,es,cl,hmp⟩
   ·simp only [aa.hl,e1,e2,if_true,List.length_nil,e3,cW,dn] at g2;cases g2
   ·have hbk:=hr.bJ;rw [hbk] at g2;cases g2;exact hr.kJ.2 ⟨hro.aU ⟨id,ob,g4,g5⟩,id,ob,g3,g4,g5⟩
   ·have hbk:=hmp.bJ;rw [hbk] at g2;cases g2;exact hmp.kJ.2 ⟨hro.aU ⟨id,ob,g4,g5⟩,id,ob,g3,g4,g5⟩
  rcases parts id _ h1 with ⟨k,y,rfl,hy,e⟩|⟨p3,p4,p5⟩
  ·obtain ⟨ob0,rfl,rfl⟩:=RR.1 e.symm;rw [aa.ep,nu_sig] at h3
   rcases parts id' _ h2 with ⟨k',y',rfl,hy',e'⟩|⟨p3',p4',p5'⟩
   ·obtain ⟨ob0',rfl,rfl⟩:=RR.1 e'.symm;rw [aa.ep,nu_sig] at h4;exact ro1.sep k k' ob0 ob0' b hy hy' (fun e=>hne (by rw [e])) h3 h4
   ·rw [nu_old id' _ p3' p4'] at h4;exact cross k id' ob0 ob' b hy h3 p3' p5' h4
  ·rw [nu_old id _ p3 p4] at h3
   rcases parts id' _ h2 with ⟨k',y',rfl,hy',e'⟩|⟨p3',p4',p5'⟩
   ·obtain ⟨ob0',rfl,rfl⟩:=RR.1 e'.symm;rw [aa.ep,nu_sig] at h4;exact cross k' id ob0' ob b hy' h4 p3 p5 h3
   ·rw [nu_old id' _ p3' p4'] at h4;exact hro.sep id id' ob ob' b p5 p5' hne h3 h4
def bK (P:Program) (f:FuncId) (args:List AV) (o:List (Option aa)) (r:AV) (o':List (Option aa)):Prop:=gj P f args o (fun r' o''=>r'=r∧o''=o')
theorem ab.fr {f:FuncId} {args args0:List AV} {o0 o1:List (Option aa)} {r0:AV} {K:AV->List (Option aa)->Prop} (ids:List Nat) (h:bK P f args0 o0 r0 o1) (hnd:ids.Nodup)
  (ho:ids.map (fun i=>o[i]?)=o0.map (fun x=>some (x.map (aa.bc (sig ids o.length)))))
  (hargs:args=bV (sig ids o.length) args0) (hwa:bn ids.length args0=true) (hwo: ∀(k:Nat) ob,o0[k]? = some (some ob)->dA ids.length ob.rows=true)
  (k:K (r0.bc (sig ids o.length)) (iq (sig ids o.length) ids o1 o)):ab P f args o K:=
 .two (gj.frame ids h hnd ho hargs hwa hwo) (fun r o' hh=>by
  obtain ⟨r1,o2,⟨rfl,rfl⟩,rfl,rfl⟩:=hh
  exact k)
def Qt (n:Nat) (o2:List (Option aa)) (r0 r:AV) (o':List (Option aa)):Prop:=aX o'.length [r0] [r]∧aW o'.length o2 o'∧n<=o'.length
theorem bK.enter {f:FuncId} {fn:Func} {c:Code} {args:List AV} {r:AV} {o':List (Option aa)} (hf:P.funcs[f]? = some fn) (hb:fn.body=some c) (hc:dO P f=true) (hok:b6 c=true) (hmx:P.follows .mixedOrders=true)
  (h:cF P o.length c ⟨args++List.replicate (fn.ntmps - args.length) .undef,o, .no⟩ (tu P fn.results.toList (fun r0 o2=>Qt o.length o2 r0 r o'))):bK P f args o r o':=by
 obtain ⟨hc',h2⟩:=gj.enter hf hb hc hok hmx h;refine ⟨hc',fun D nu w vargs hro hra=>(h2 D nu w vargs hro hra).mono ?_⟩;rintro e w' ⟨v,nu',o2,r0,rfl,hm,hro',hra',hw⟩
 have hs:RS ⟨0,none,fun _=>False⟩ D nu' ⟨[r0],o2, .no⟩ { tmps:= #[v],defers:=[] } w':=⟨hro',⟨rfl,fun i c x h1 h2=>by
  match i,h1,h2 with
  | 0,h1,h2=>cases h1;cases h2;exact hra'
  | i+1,h1,h2=>simp at h1⟩,⟨Rh _,⟨[],List.nodup_nil,rfl,fun x hx=>(by cases hx)⟩,fun l hl=>by cases hl⟩⟩
 have hk:Wk o.length ⟨[r0],o2, .no⟩ ⟨[r],o', .no⟩:=⟨hw.1,hw.2.1,hw.2.2,rfl⟩;have k2:=jN hk hs;exact ⟨v,nu',o',r,rfl,hk.mono (Q5 _) hm,k2.ro,k2.tm.at' 0 r v rfl rfl,rfl,rfl⟩
mutual
theorem uW (f:Nat->Nat): ∀a:AV,a.wf 0=true->a.bc f=a
 | .undef,_=>rfl
 | .v _,_=>rfl
 | .agg cs,h=>by rw [AV.bc,dU f cs h]
 | .dC cs,h=>by rw [AV.bc,dU f cs h]
 | .aC z rows len,h=>by rw [AV.bc,bS f rows h]
 | .vp cs,h=>by rw [AV.bc,dU f cs h]
 | .ptr id _ _ _ _,h=>by simp [AV.wf] at h
 | .vec id _,h=>by simp [AV.wf] at h
 | .fn g a b,h=>by
  simp only [AV.wf,RY] at h;rw [AV.bc,dU f a h.1,dU f b h.2]
 | .full a,h=>by rw [AV.bc,uW f a h]
 | .iR p a,h=>by rw [AV.bc,uW f a h]
 | .mp rows,h=>by rw [AV.bc,bS f rows h]
theorem dU (f:Nat->Nat): ∀l:List AV,bn 0 l=true->bV f l=l
 | [],_=>rfl
 | a :: l,h=>by
  simp only [bn,RY] at h;rw [bV,uW f a h.1,dU f l h.2]
theorem bS (f:Nat->Nat): ∀l:List (List AV),dA 0 l=true->bW f l=l
 | [],_=>rfl
 | a :: l,h=>by
  simp only [dA,RY] at h;rw [bW,dU f a h.1,bS f l h.2]
end
def cR (m:Nat) (t:List AV):List AV:=t.take m++List.replicate (t.length - m) .undef
def kB (t:List AV) (l:List (Nat×AV)):List AV:=l.foldl (fun t p=>t.set p.1 p.2) t
theorem ct {n0:Nat} {Q:aZ->AS->Prop} {ι:Type} {c:Code} {t:List AV} {o:List (Option aa)} {y:iQ} (m:Nat) (upd:ι->List (Nat×AV)) (mu:ι->Nat) (ok:ι->Prop) (i0:ι) (h3:ok i0) (h2:Wk n0 ⟨t,o,y⟩ ⟨kB (cR m t) (upd i0),o,y⟩)
  (h: ∀i,ok i-> ∀K:AS->Prop,(∀s2,aM n0 (fun i=>⟨kB (cR m t) (upd i),o,y⟩) mu ok (mu i) s2->K s2)->cF P n0 c ⟨kB (cR m t) (upd i),o,y⟩ (kZ K Q)):cF P n0 (.loop c) ⟨t,o,y⟩ Q:=
 j3 (fun i=>⟨kB (cR m t) (upd i),o,y⟩) mu ok i0 _ .refl h2 h3 h
theorem cV {n0:Nat} {Q:aZ->AS->Prop} {ι:Type} {c:Code} {t:List AV} {o:List (Option aa)} {y:iQ} (m:Nat) (upd:ι->List (Nat×AV)) (ob:ι->List (Option aa)) (mu:ι->Nat) (ok:ι->Prop) (i0:ι) (h3:ok i0) (h2:Wk n0 ⟨t,o,y⟩ ⟨kB (cR m t) (upd i0),ob i0,y⟩)
  (h: ∀i,ok i-> ∀K:AS->Prop,(∀s2,aM n0 (fun i=>⟨kB (cR m t) (upd i),ob i,y⟩) mu ok (mu i) s2->K s2)->cF P n0 c ⟨kB (cR m t) (upd i),ob i,y⟩ (kZ K Q)):cF P n0 (.loop c) ⟨t,o,y⟩ Q:=
 j3 (fun i=>⟨kB (cR m t) (upd i),ob i,y⟩) mu ok i0 _ .refl h2 h3 h
theorem dG {n0:Nat} {Q:aZ->AS->Prop} {ι:Type} {c:Code} {t:List AV} {o:List (Option aa)} {y:iQ} (d:Nat) (T:TypeId) (z:Nat) (hd:t[d]? = some (.v (.slice none 0 0))) (hz:0<z) (m:Nat) (upd:ι->List (Nat×AV)) (ob:ι->List (Option aa)) (mu:ι->Nat) (ok:ι->Prop) (i0:ι) (h3:ok i0)
  (h2:Wk n0 ⟨t.set d (.vec o.length 0),o++[some ⟨T,z,true,[]⟩],y⟩ ⟨kB (cR m t) (upd i0),ob i0,y⟩)
  (h: ∀i,ok i-> ∀K:AS->Prop,(∀s2,aM n0 (fun i=>⟨kB (cR m t) (upd i),ob i,y⟩) mu ok (mu i) s2->K s2)->cF P n0 c ⟨kB (cR m t) (upd i),ob i,y⟩ (kZ K Q)):cF P n0 (.loop c) ⟨t,o,y⟩ Q:=
 j3 (fun i=>⟨kB (cR m t) (upd i),ob i,y⟩) mu ok i0 _ (.step d T z ⟨t,o,y⟩ .refl hd hz) h2 h3 h
end
attribute [go_sem] Value.oneCell' bV bW AV.bc aa.bc sig iq bS cR kB List.foldl_cons List.foldl_nil
end
section
structure jV where
 G:Type
 wd:G->World
 R:G->G->Prop
 Kl: ∀g,R g g
 trans': ∀a b c,R a b->R b c->R a c
 pre:Nat->G->Prop
structure ec (N:jV) where
 p:Value->N.G->Prop
 st: ∀v g g',N.R g g'->p v g->p v g'
def ec.any {N:jV}:ec N:=⟨fun _ _=>True,fun _ _ _ _ _=>trivial⟩
def lE {N:jV} (L:List (ec N)) (i:Nat):ec N:=L.getD i ec.any
section
variable {P:Program} {ops:Array Oper} {N:jV}
def Bh (P:Program) (S:ec N) (j:Nat) (g:N.G):Result Next->Prop
 | .ok (.value u) w'=> ∃g',N.wd g'=w'∧N.R g g'∧(∀i,i≠j->N.pre i g->N.pre i g')∧S.p u g'
 | .ok .skip w'=> ∃g',N.wd g'=w'∧N.R g g'∧(∀i,i≠j->N.pre i g->N.pre i g')∧S.p undef g'
 | .ok (.enter f args) w'=>Calls P f args w' (fun e w''=> ∃v g',e = .returned v∧N.wd g'=w''∧N.R g g'∧(∀i,i≠j->N.pre i g->N.pre i g')∧S.p v g')
 | _=>False
def DP (P:Program) (ops:Array Oper) (S:ec N) (j:Nat) (o:Oper) (a:Act) (g:N.G):Prop:=
 (Region.wanted o (yielded ops a.tmps)=true∧Bh P S j g ((execOp a.eval o).run P (N.wd g)))∨(Region.wanted o (yielded ops a.tmps)=false∧S.p undef g)
def zg (P:Program) (ops:Array Oper) (L:List (ec N)) (g0:N.G) (Q:Act->World->Prop):List Oper->Nat->((Nat->Value)->Act)->Prop
 | [],k,A=> ∀x g,N.R g0 g->(∀i,i<k->(lE L i).p (x i) g)->Q (A x) (N.wd g)
 | o :: l,k,A=>(∀x g,N.R g0 g->(∀i,aE ops k i=true->(lE L i).p (x i) g)->N.pre k g->DP P ops (lE L k) k o (A x) g)∧zg P ops L g0 Q l (k+1) (fun x=>(A x).put o.dst (x k))
def ov (ops:Array Oper):Bool:=
 Region.noSelect ops&&(List.range ops.size).all (fun j=>(List.range j).all (fun i=>qH ops i j)&&(!aE ops j j&&tX ops j))
def GF (P:Program) (l:List Oper) (L:List (ec N)) (g0:N.G) (a0:Act) (j:Nat) (o:Oper):Prop:=
 ∀x g,N.R g0 g->(∀i,aE l.toArray j i=true->(lE L i).p (x i) g)->N.pre j g->DP P l.toArray (lE L j) j o (cC (fun i=>decide (i<j)) x l 0 a0) g
theorem w7 {l:List Oper} {L:List (ec N)} {g0:N.G} {Q:Act->World->Prop} {a0:Act} (hA:gx l): ∀(l':List Oper) (k:Nat) (A:(Nat->Value)->Act),l.drop k=l'->(A=fun x=>cC (fun i=>decide (i<k)) x l 0 a0)->k<=l.length ->
  zg P l.toArray L g0 Q l' k A->(∀j o,k<=j->l[j]? = some o->GF P l L g0 a0 j o)∧(∀x g,N.R g0 g->(∀i,i<l.length->(lE L i).p (x i) g)->Q (cC (fun i=>decide (i<l.length)) x l 0 a0) (N.wd g))
 | [],k,A,hl,hAx,hk,h=>by
  have h1:l.length=k:=by have:=congrArg List.length hl;simp at this;omega
  subst hAx
  refine ⟨fun j o hj ho=> ?_,fun x g hg hs=> ?_⟩
  ·have:=(Ra.1 ho).1;omega
  ·rw [h1] at hs ⊢; exact h x g hg hs
 | o :: l',k,A,hl,hAx,hk,h=>by
  have h1:l.length=k+(l'.length+1):=by have:=congrArg List.length hl;simp at this;omega
  have h2:l[k]? = some o:=by have:=congrArg (fun m=>m[0]?) hl;simpa using this
  subst hAx
  have rcr:=w7 hA l' (k+1) _ (by have:=congrArg List.tail hl;simpa using this) (by
    funext x
    have hi:=gd (s:=fun i=>decide (i<k)) (x:=x) (v:=x k) l 0 k a0 hA h2 (by simp);rw [Nat.zero_add] at hi;rw [<-hi];refine bu l 0 a0 (fun i _ _=> ?_)
    by_cases hik:i=k
    ·subst hik;simp [bN,fJ]
    ·have:(i<k+1)=(i<k):=by apply propext;omega
     simp [bN,fJ,hik,this]) (by omega) h.2
  refine ⟨fun j o' hj ho=> ?_,rcr.2⟩
  by_cases hjk:j=k
  ·subst hjk;rw [h2] at ho;cases ho;exact h.1
  ·exact rcr.1 j o' (by omega) ho
theorem nf {Q:Exit->Act->World->Prop} {a:Act} {w:World} {l:List Oper} (L:List (ec N)) (hB:ov l.toArray=true) (g0:N.G) (hg0:N.wd g0=w.drew) (hp0: ∀j,N.pre j g0)
  (h:zg P l.toArray L g0 (Q .normal) l 0 (fun _=>a)):wpAny P .any l.toArray Q l.toArray.size (Array.replicate l.toArray.size false) a w.drew:=by
 simp only [ov,RY,Sg,Sh,Rz] at hB;obtain ⟨hns,hall⟩:=hB;have hsel:=Region.noSelect_spec hns
 have hpair: ∀i j oi oj,i<j->l[i]? = some oi->l[j]? = some oj->(aE l.toArray j i=true∨oi.apart l.toArray oj=true)∧aE l.toArray i j=false∧(∀e,oi.dst=some e->oj.dst≠some e)∧(∀e,oj.dst=some e->e∉oi.looksAt l.toArray):=by
  intro i j oi oj hij hi hj;have hjn:=(Ra.1 hj).1
  have:=(hall j hjn).1 i hij
  simp only [qH,Rr,hi,hj,RY,Si,Bool.not_eq_true'] at this
  refine ⟨this.1.1.1,this.1.1.2,fun e he=> ?_,fun e he=> ?_⟩
  ·have h3:=this.1.2;rw [he] at h3;simpa using h3
  ·have h3:=this.2;rw [he] at h3;simpa using h3
 have hself: ∀j,j<l.length->aE l.toArray j j=false:=fun j hj=>by simpa using (hall j hj).2.1
 have hfar: ∀(j:Nat) (o:Oper),l[j]? = some o-> ∀e∈o.after,e.on<l.length:=fun j o hj e he=>by
  have:=(hall j (Ra.1 hj).1).2.2
  simp only [tX,Rr,hj,Array.all_eq_true_iff_forall_mem] at this;simpa using this e he
 have hA:gx l:=fun i j oi oj hi hj hij e he=>by
  rcases Sj hij with h|h
  ·exact (hpair i j oi oj h hi hj).2.2.1 e he
  ·intro h2;exact (hpair j i oj oi h hj hi).2.2.1 e h2 he
 obtain ⟨hO,hfin⟩:=w7 (P:=P) (L:=L) (g0:=g0) (Q:=Q .normal) (a0:=a) hA l 0 (fun _=>a) (by simp) (by
  funext x
  exact (show a=cC (fun _=>false) x l 0 a from by
   have: ∀(l:List Oper) k,a=cC (fun _=>false) x l k a:=by
    intro l
    induction l with
    | nil=>intro k;rfl
    | cons o l ih=>intro k;rw [cC];exact ih (k+1)
   exact this l 0).trans (bu l 0 a (fun i _ _=>by simp))) (Rh _) h
 
 have hloose: ∀i j oi oj,l[i]? = some oi->l[j]? = some oj->i≠j->aE l.toArray j i=false-> ∀d,oi.dst=some d->d∉oj.looksAt l.toArray:=by
  intro i j oi oj hi hj hij hd
  rcases Sj hij with h|h
  ·rcases (hpair i j oi oj h hi hj).1 with h1|h1
   ·rw [hd] at h1;cases h1
   ·exact (Oper.apart_spec h1).1
  ·exact (hpair j i oj oi h hj hi).2.2.2
 
 have hsee: ∀(s s':Nat->Bool) x j oj,l[j]? = some oj->s j=false->s' j=false->(∀i,i<l.length->aE l.toArray j i=true->s i=true∧s' i=true) ->
   execOp (cC s x l 0 a).eval oj=execOp (cC s' x l 0 a).eval oj∧Region.wanted oj (yielded l.toArray (cC s x l 0 a).tmps)=Region.wanted oj (yielded l.toArray (cC s' x l 0 a).tmps):=by
  intro s s' x j oj hj h1 h2 hd
  have one:=fun (s:Nat->Bool) (hs:s j=false)=>kS (ops:=l.toArray) (s:=s) (keep:=aE l.toArray j) (x:=x) (a:=a) hA (fun cs b=>hsel j oj cs b (by simpa using hj))
   (fun i oi hi hsi hk=>hloose i j oi oj hi hj (by intro e;subst e;rw [hsi] at hs;cases hs) hk)
  obtain ⟨a1,a2⟩:=one s h1;obtain ⟨b1,b2⟩:=one s' h2
  have e:cC (fun i=>s i&&aE l.toArray j i) x l 0 a=cC (fun i=>s' i&&aE l.toArray j i) x l 0 a:=bu l 0 a (fun i _ hi=>by
   refine ⟨?_,fun _=>rfl⟩
   cases hk:aE l.toArray j i
   ·simp
   ·obtain ⟨c1,c2⟩:=hd i (by omega) hk
    simp [c1,c2])
  exact ⟨by rw [a1,b1,e],by rw [a2,b2,e]⟩
 have full: ∀(listed:Array Bool),listed.size=l.length->(∀i,i<l.length->listed.getD i false=true)->Region.ready .any l.toArray listed=[]∧ ∀x,cC (fun i=>listed.getD i false) x l 0 a=cC (fun i=>decide (i<l.length)) x l 0 a:=fun listed hsz hall'=>by
  refine ⟨List.eq_nil_iff_forall_not_mem.2 (fun i hi=> ?_),fun x=>bu l 0 a (fun i _ hi=>⟨?_,fun _=>rfl⟩)⟩
  ·obtain ⟨g1,o,g2, -⟩:=mem_ready.1 hi;have hil:i<l.length:=(Ra.1 (show l[i]? = some o by simpa using g2)).1;have g3:=hall' i hil
   have his:i<listed.size:=by omega
   simp only [RZ,Ro his,Sk] at g1 g3;rw [g3] at g1;cases g1
  ·have:i<l.length:=by omega
   rw [hall' i this];simp [this]
 have main: ∀fuel (listed:Array Bool) x g1,listed.size=l.length->N.R g0 g1->(∀i,listed.getD i false=true->(lE L i).p (x i) g1) ->
   (∀j i,listed.getD j false=true->aE l.toArray j i=true->listed.getD i false=true)->(∀j,listed.getD j false=false->N.pre j g1)->vo (fun i=>listed.getD i false) l.length<=fuel ->
   wpAny P .any l.toArray Q fuel listed (cC (fun i=>listed.getD i false) x l 0 a) (N.wd g1):=by
  intro fuel
  induction fuel with
  | zero=>
   intro listed x g1 hsz hE hF hcl hpre hu
   have hall': ∀i,i<l.length->listed.getD i false=true:=fun i hi=>by
    cases hc:listed.getD i false
    ·have:=oZ (s:=fun i=>listed.getD i false) l.length hi hc
     omega
    ·rfl
   exact wpAny_done (full listed hsz hall').1 (by rw [(full listed hsz hall').2 x];exact hfin x g1 hE (fun i hi=>hF i (hall' i hi))) 0
  | succ fuel ih=>
   intro listed x g1 hsz hE hF hcl hpre hu
   have hmemR: ∀j,j∈Region.ready .any l.toArray listed-> ∃oj,l[j]? = some oj∧listed.getD j false=false∧ ∀i,aE l.toArray j i=true->listed.getD i false=true:=by
    intro j hj;obtain ⟨h1,o,ho,h3⟩:=mem_ready.1 hj
    refine ⟨o,by simpa using ho, ?_,fun i hi=> ?_⟩
    ·rcases Rc j listed.size with h'|h'
     ·simp [h'] at h1 ⊢; exact h1
     ·simp [Array.getElem?_eq_none h']
    ·simp only [aE,ho,RY,beq_iff_eq,Array.any_eq_true'] at hi;obtain ⟨e,he,hb,rfl⟩:=hi;exact h3 e he hb
   refine ⟨fun h0=> ?_,fun j hj=> ?_⟩
   ·
    have hex:(∀i,i<l.length->listed.getD i false=true)∨ ∃m,m<l.length∧listed.getD m false=false∧ ∀i,i<m->listed.getD i false=true:=by
     have: ∀k,k<=l.length->(∀i,i<k->listed.getD i false=true)∨ ∃m,m<l.length∧listed.getD m false=false∧ ∀i,i<m->listed.getD i false=true:=by
      intro k
      induction k with
      | zero=>exact fun _=> .inl (fun i hi=>by omega)
      | succ k ihk=>
       intro hk
       rcases ihk (by omega) with h|h
       ·cases hc:listed.getD k false
        ·exact .inr ⟨k,by omega,hc,h⟩
        ·exact .inl (fun i hi=>by
          by_cases e:i=k
          ·subst e;exact hc
          ·exact h i (by omega))
       ·exact .inr h
     exact this l.length (Q5 _)
    rcases hex with hall'|hex
    ·rw [(full listed hsz hall').2 x];exact hfin x g1 hE (fun i hi=>hF i (hall' i hi))
    exfalso;obtain ⟨m,hm1,hm2,hm3⟩:=hex
    have hmem:m∈Region.ready .any l.toArray listed:=by
     refine mem_ready.2 ⟨?_,l[m],by simp [hm1],fun e he hb=> ?_⟩
     ·have hms:m<listed.size:=by omega
      simp [hms] at hm2 ⊢; exact hm2
     ·have hd:aE l.toArray m e.on=true:=by
       have:l.toArray[m]? = some l[m]:=by simp [hm1]
       simp only [aE,this];simp only [Array.any_eq_true',RY,beq_iff_eq];exact ⟨e,he,hb,rfl⟩
      rcases Nat.lt_trichotomy e.on m with h|h|h
      ·exact hm3 _ h
      ·rw [h,hself m hm1] at hd;cases hd
      ·by_cases hl:e.on<l.length
       ·have:=(hpair m e.on l[m] l[e.on] h (by simp [hm1]) (by simp [hl])).2.1
        rw [hd] at this;cases this
       ·exact absurd (hfar m l[m] (by simp [hm1]) e he) hl
    rw [h0] at hmem;cases hmem
   ·obtain ⟨oj,hoj,hun,hdeps⟩:=hmemR j hj;have hjl:=(Ra.1 hoj).1
    have hsj:(listed.setIfInBounds j true).size=l.length:=by simpa using hsz
    have hgd: ∀i,(listed.setIfInBounds j true).getD i false=bN (fun i=>listed.getD i false) j i:=by
     intro i
     by_cases hij:i=j
     ·subst hij
      have:i<listed.size:=by omega
      simp [bN,this]
     ·simp only [bN,if_neg hij];exact getD_set_ne false (Ne.symm hij)
    have hO:=hO j oj (Rh _) hoj;unfold wpOp;simp only [Rr,hoj];have hst:=hO x g1 hE (fun i hi=>hF i (hdeps i hi)) (hpre j hun)
    obtain ⟨c1,c2⟩:=hsee (fun i=>listed.getD i false) (fun i=>decide (i<j)) x j oj hoj hun (by simp) (fun i hi hd=>⟨hdeps i hd,by
      rcases Nat.lt_trichotomy i j with h|h|h
      ·simpa using h
      ·rw [h,hself j hjl] at hd;cases hd
      ·have:=(hpair j i oj l[i] h hoj (by simp [hi])).2.1
       rw [hd] at this;cases this⟩)
    have next: ∀v g2,N.R g1 g2->(∀i,i≠j->N.pre i g1->N.pre i g2)->(lE L j).p v g2->wpAny P .any l.toArray Q fuel (listed.setIfInBounds j true) ((cC (fun i=>listed.getD i false) x l 0 a).put oj.dst v) (N.wd g2):=by
     intro v g2 hb hpp hv;have hi:=gd (s:=fun i=>listed.getD i false) (x:=x) (v:=v) l 0 j a hA hoj (by simpa using hun);rw [Nat.zero_add] at hi;rw [<-hi, <- show (fun i=>(listed.setIfInBounds j true).getD i false)=bN (fun i=>listed.getD i false) j from funext hgd]
     refine ih _ _ g2 hsj (N.trans' _ _ _ hE hb) (fun i hi'=> ?_) (fun j' i hj' hd=> ?_) (fun j' hj'=> ?_) ?_
     ·rw [hgd] at hi'
      by_cases hij:i=j
      ·subst hij;simpa [fJ] using hv
      ·simp only [bN,if_neg hij] at hi';simp only [fJ,if_neg hij];exact (lE L i).st _ _ _ hb (hF i hi')
     ·rw [hgd] at hj' ⊢
      by_cases hij:i=j
      ·simp [bN,hij]
      ·simp only [bN,if_neg hij]
       by_cases hj2:j'=j
       ·subst hj2;exact hdeps i hd
       ·simp only [bN,if_neg hj2] at hj';exact hcl j' i hj' hd
     ·rw [hgd] at hj'
      by_cases hj2:j'=j
      ·simp [bN,hj2] at hj'
      ·simp only [bN,if_neg hj2] at hj';exact hpp j' hj2 (hpre j' hj')
     ·rw [gW (s':=bN (fun i=>listed.getD i false) j) l.length (fun i _=>hgd i)]
      have:=kW (s:=fun i=>listed.getD i false) (i:=j) l.length hjl hun
      omega
    unfold DP at hst;rw [<-c1, <- c2] at hst
    rcases hst with ⟨h1,h2⟩|⟨h1,h2⟩
    ·rw [if_pos h1];refine .inl ?_;unfold Oper.wp;generalize (execOp (cC (fun i=>listed.getD i false) x l 0 a).eval oj).run P (N.wd g1)=r at h2
     cases r with
     | halt _ _=>exact h2.elim
     | ok n w'=>
      cases n<;>first|exact h2.elim|skip
      case value u=>obtain ⟨g2,rfl,k1,k3,k2⟩:=h2;exact next _ _ k1 k3 k2
      case skip=>obtain ⟨g2,rfl,k1,k3,k2⟩:=h2;exact next _ _ k1 k3 k2
      case enter f args=>
       refine Calls.mono h2 fun e w'' he=> ?_;obtain ⟨v,g2,rfl,rfl,k1,k3,k2⟩:=he
       exact next _ _ k1 k3 k2
    ·rw [if_neg (by rw [h1];decide)]
     exact next _ _ (N.Kl _) (fun _ _ h=>h) h2
 have hrep: ∀i,(Array.replicate l.toArray.size false).getD i false=false:=fun i=>by
  simp only [RZ,Array.getElem?_replicate];split<;>rfl
 have h0:=main l.toArray.size (Array.replicate l.toArray.size false) (fun _=>undef) g0 (by simp) (N.Kl _)
  (fun i hi=>by rw [hrep] at hi;cases hi) (fun j i hj=>by rw [hrep] at hj;cases hj) (fun j _=>hp0 j) (qY _)
 have e:cC (fun i=>(Array.replicate l.toArray.size false).getD i false) (fun _=>undef) l 0 a=a:=by
  have: ∀(l':List Oper) k,cC (fun i=>(Array.replicate l.toArray.size false).getD i false) (fun _=>undef) l' k a=a:=by
   intro l'
   induction l' with
   | nil=>intro k;rfl
   | cons o l' ih=>intro k;rw [cC,hrep];exact ih (k+1)
  exact this l 0
 rw [e,hg0] at h0;exact h0
end
end
section
mutual
theorem uU: ∀a:AV,a.bc (fun x=>x)=a
 | .undef=>rfl
 | .v _=>rfl
 | .agg cs=>by rw [AV.bc,jI cs]
 | .dC cs=>by rw [AV.bc,jI cs]
 | .aC z rows len=>by rw [AV.bc,uR rows]
 | .vp cs=>by rw [AV.bc,jI cs]
 | .ptr id _ _ _ _=>rfl
 | .vec id _=>rfl
 | .fn g a b=>by rw [AV.bc,jI a,jI b]
 | .full a=>by rw [AV.bc,uU a]
 | .iR p a=>by rw [AV.bc,uU a]
 | .mp rows=>by rw [AV.bc,uR rows]
theorem jI: ∀l:List AV,bV (fun x=>x) l=l
 | []=>rfl
 | a :: l=>by rw [bV,uU a,jI l]
theorem uR: ∀l:List (List AV),bW (fun x=>x) l=l
 | []=>rfl
 | a :: l=>by rw [bW,jI a,uR l]
end
section
variable {D D':Nat->Prop} {nu nu':Nat->Nat->Value} {o o':List (Option aa)} {w w':World} {P:Program}
theorem RA.Qh (hF: ∀b,Fz D nu o w b->Fz D' nu' o' w b) (hH: ∀id len,cw o id len->cw o' id len∧nu' id len=nu id len) {a:AV} {x:Value} (hr:RA D nu o w a x):RA D' nu' o' w a x:=by
 have:=RA.bc (f:=fun x=>x) hF hH hr
 rwa [uU] at this
theorem RO.insert (h:RO D nu o w) {T:TypeId} {row:List AV} {b:Nat} {C:Array Value} (hD: ∀b',D b'->D' b') (hb: ¬D b) (hb':D' b) (hblk:w.heap[b]? = some (.cells C T (0,0))) (hz:0<row.length) (hsz:C.size=row.length)
  (hone: ∀x∈C.toList,x.oneCell'=true) (hrow:fX D nu o w row C) :
  RO D' (dx nu o.length (.pointer (some ⟨b,0,none⟩))) (o++[some ⟨T,row.length,false,[row]⟩]) w ∧
  (∀b',owned (dx nu o.length (.pointer (some ⟨b,0,none⟩))) (o++[some ⟨T,row.length,false,[row]⟩]) b'->owned nu o b'∨b'=b) ∧
  (∀a x,RA D nu o w a x->RA D' (dx nu o.length (.pointer (some ⟨b,0,none⟩))) (o++[some ⟨T,row.length,false,[row]⟩]) w a x) ∧
  (∀id len,cw o id len->cw (o++[some ⟨T,row.length,false,[row]⟩]) id len∧dx nu o.length (.pointer (some ⟨b,0,none⟩)) id len=nu id len):=by
 have hlt:b<w.heap.size:=(Q8.1 hblk).1
 have own2: ∀b',owned (dx nu o.length (.pointer (some ⟨b,0,none⟩))) (o++[some ⟨T,row.length,false,[row]⟩]) b'->owned nu o b'∨b'=b:=fun b' ⟨id,ob,h1,h2⟩=>by
  rcases Rc id o.length with q|q
  ·rw [Rb q] at h1;rw [bm q] at h2;exact .inl ⟨id,ob,h1,h2⟩
  ·obtain rfl:id=o.length:=by
    have:=(Ra.1 h1).1
    simp at this;omega
   rw [aY] at h2;cases h2;exact .inr rfl
 have hF: ∀b',Fz D nu o w b'->Fz D' (dx nu o.length (.pointer (some ⟨b,0,none⟩))) (o++[some ⟨T,row.length,false,[row]⟩]) w b':=fun b' hf=>
  ⟨hf.1,fun ho=>by
   rcases own2 b' ho with q|rfl
   ·exact hf.2.1 q
   ·exact hb hf.2.2,hD b' hf.2.2⟩
 have hH: ∀id len,cw o id len->cw (o++[some ⟨T,row.length,false,[row]⟩]) id len∧dx nu o.length (.pointer (some ⟨b,0,none⟩)) id len=nu id len:=fun id len hh=>by
  have q:=gr hh;obtain ⟨x,h1,h2⟩:=hh;exact ⟨⟨x,by rw [Rb q];exact h1,h2⟩,bm q⟩
 have hR: ∀a x,RA D nu o w a x->RA D' (dx nu o.length (.pointer (some ⟨b,0,none⟩))) (o++[some ⟨T,row.length,false,[row]⟩]) w a x:=fun a x hr=>hr.Qh hF hH
 refine ⟨⟨fun id ob hid=> ?_,fun b' hlt'=>hD b' (h.up b' hlt'),fun id id' ob ob' b' h1 h2 hne h3 h4=> ?_,h.gl.fz (fun b' hf=>⟨rfl,hF b' hf⟩)⟩,own2,hR,hH⟩
 ·rcases Rc id o.length with q|q
  ·rw [Rb q] at hid
   rcases h.obj id ob hid with ⟨e1,e2,e3⟩|⟨g,cur,hr⟩|⟨g,es,cl,hmp⟩
   ·exact .inl ⟨e1,e2,by rw [bm q];exact e3⟩
   ·exact .inr (.inl ⟨g,cur,hr.blk,hD g hr.kJ,fun e=>by rw [bm q];exact hr.box e,fun e=>by rw [bm q];exact hr.vec e,hr.z,hr.row,fun i j row c x q1 q2 q3=>hR _ _ (hr.cell i j row c x q1 q2 q3),hr.one⟩)
   ·exact .inr (.inr ⟨g,es,cl,hmp.tr rfl (hD g) (bm q) (fun i j row c x _ _ hr=>hR _ _ hr)⟩)
  ·obtain rfl:id=o.length:=by
    have:=(Ra.1 hid).1
    simp at this;omega
   rw [Re] at hid;cases hid
   have key: ∀(i j:Nat) r c x,[row][i]? = some r->r[j]? = some c->C[i * row.length+j]? = some x->row[j]? = some c∧C[j]? = some x:=by
    intro i j r c x h1 h2 h3
    cases i with
    | zero=>simp at h1 h3;subst h1;exact ⟨h2,h3⟩
    | succ i=>simp at h1
   refine .inr (.inl ⟨b,C,hblk,hb',fun _=>⟨aY _ _ _ _,rfl,hsz⟩,fun e=>(by cases e),hz,fun i r hi=> ?_,fun i j r c x q1 q2 q3=> ?_,fun i j r c x q1 q2 q3=> ?_⟩)
   ·cases i with
    | zero=>simp at hi;subst hi;rfl
    | succ i=>simp at hi
   ·obtain ⟨k1,k2⟩:=key i j r c x q1 q2 q3;exact hR _ _ (hrow.at' j c x k1 k2)
   ·obtain ⟨k1,k2⟩:=key i j r c x q1 q2 q3;exact hone x (RK (show C.toList[j]? = some x by simpa using k2))
 ·have l1:=(Ra.1 h1).1;have l2:=(Ra.1 h2).1;simp only [List.length_append,Rg,List.length_nil] at l1 l2
  rcases Rc id o.length with g1|g1
  ·rw [Rb g1] at h1;rw [bm g1] at h3
   rcases Rc id' o.length with g2|g2
   ·rw [Rb g2] at h2;rw [bm g2] at h4;exact h.sep id id' ob ob' b' h1 h2 hne h3 h4
   ·obtain rfl:id'=o.length:=by omega
    rw [aY] at h4;cases h4;exact hb (h.fB ⟨id,ob,h1,h3⟩)
  ·obtain rfl:id=o.length:=by omega
   rw [aY] at h3;cases h3
   rcases Rc id' o.length with g2|g2
   ·rw [Rb g2] at h2;rw [bm g2] at h4;exact hb (h.fB ⟨id',ob',h2,h4⟩)
   ·omega
end
structure BG (w0:World) (tz:Nat->TypeId×Nat) where
 w:World
 n:Nat->Option (Nat×Option (Array Value))
 base:Below w0.heap.size w0 w
 lay: ∀i b c,n i=some (b,c)->w0.heap.size<=b∧ ∃C:Array Value,w.heap[b]? = some (.cells C (tz i).1 (0,0))∧C.size=(tz i).2∧(∀x∈C.toList,x.oneCell'=true)∧ ∀C',c=some C'->C=C'
 inj: ∀i j b c c',n i=some (b,c)->n j=some (b,c')->i=j
def BG.box {w0:World} {tz:Nat->TypeId×Nat} (g:BG w0 tz) (b:Nat):Prop:= ∃i c,g.n i=some (b,c)
def BG.PV {w0:World} {tz:Nat->TypeId×Nat} (g:BG w0 tz) (b:Nat):Prop:= ∃i,g.n i=some (b,none)
structure BR {w0:World} {tz:Nat->TypeId×Nat} (g g':BG w0 tz):Prop where
 size:g.w.heap.size<=g'.w.heap.size
 same: ∀b,b<g.w.heap.size-> ¬g.PV b->g'.w.heap[b]? = g.w.heap[b]?
 up: ∀i b c,g.n i=some (b,c)-> ∃c',g'.n i=some (b,c')∧ ∀C,c=some C->c'=some C
 new: ∀i b c,g'.n i=some (b,c)->b<g.w.heap.size-> ∃c',g.n i=some (b,c')
theorem BR.refl {w0:World} {tz:Nat->TypeId×Nat} (g:BG w0 tz):BR g g:=⟨Q5 _,fun _ _ _=>rfl,fun i b c h=>⟨c,h,fun _ h=>h⟩,fun i b c h _=>⟨c,h⟩⟩
theorem BR.trans {w0:World} {tz:Nat->TypeId×Nat} {g g1 g2:BG w0 tz} (h:BR g g1) (k:BR g1 g2):BR g g2:=by
 refine ⟨Q6 h.size k.size,fun b hb ho=> ?_,fun i b c hi=> ?_,fun i b c hi hb=> ?_⟩
 ·rw [k.same b (Q7 hb h.size) (fun ⟨i,hi⟩=> ?_)]
  ·exact h.same b hb ho
  ·obtain ⟨c,hc⟩:=h.new i b none hi hb;obtain ⟨c',h1,h2⟩:=h.up i b c hc;rw [hi] at h1;cases h1
   cases c with
   | none=>exact ho ⟨i,hc⟩
   | some C=>have:=h2 C rfl;cases this
 ·obtain ⟨c1,h1,h2⟩:=h.up i b c hi;obtain ⟨c2,h3,h4⟩:=k.up i b c1 h1;exact ⟨c2,h3,fun C hC=>h4 C (h2 C hC)⟩
 ·obtain ⟨c1,h1⟩:=k.new i b c hi (Q7 hb h.size);exact h.new i b c1 h1 hb
def pR (l:List Oper) (j i:Nat):Prop:= ∃T d x oj oi U,l[j]? = some oj∧oj.op = .store T (.tmp d) x∧l[i]? = some oi∧oi.op = .alloc U∧oi.dst=some d
def Ox (l:List Oper) (j:Nat):Prop:= ∃oj U,l[j]? = some oj∧oj.op = .alloc U
def nk (w0:World) (tz:Nat->TypeId×Nat) (l:List Oper):jV:=⟨BG w0 tz,BG.w,BR,BR.refl,fun _ _ _=>BR.trans,fun j g=>(∀i b C,pR l j i->g.n i≠some (b,some C))∧(Ox l j->g.n j=none)⟩
def Dx {w0:World} {tz:Nat->TypeId×Nat} (D:Nat->Prop) (g:BG w0 tz) (b:Nat):Prop:=D b∧ ¬g.box b
section
variable {w0:World} {tz:Nat->TypeId×Nat} {l:List Oper} {D:Nat->Prop} {nu:Nat->Nat->Value} {o:List (Option aa)} {P:Program}
theorem BG.yD {g:BG w0 tz} {b:Nat} (h:g.box b):b<g.w.heap.size:=by
 obtain ⟨i,c,hi⟩:=h;obtain ⟨_,C,hC,_⟩:=g.lay i b c hi;exact (Q8.1 hC).1
theorem BG.AB {g:BG w0 tz} {b:Nat} (h:g.PV b):g.box b:=by obtain ⟨i,hi⟩:=h;exact ⟨i,none,hi⟩
theorem BR.fz {g g':BG w0 tz} (h:BR g g') {b:Nat} (hf:Fz (Dx D g) nu o g.w b):g'.w.heap[b]? = g.w.heap[b]? ∧Fz (Dx D g') nu o g'.w b:=
 ⟨h.same b hf.1 (fun ho=>hf.2.2.2 (BG.AB ho)),Q7 hf.1 h.size,hf.2.1,hf.2.2.1,fun ⟨i,c,hi⟩=>by
  obtain ⟨c',hc⟩:=h.new i b c hi hf.1
  exact hf.2.2.2 ⟨i,c',hc⟩⟩
theorem BR.ro {g g':BG w0 tz} (h:BR g g') (hr:RO (Dx D g) nu o g.w) (hu: ∀b,w0.heap.size<=b->D b):RO (Dx D g') nu o g'.w:=by
 refine hr.keep (fun b hb=> ?_) (fun b hb=>⟨hu b (Q6 g'.base.size hb),fun hx=>by have:=BG.yD hx;omega⟩) (fun b hf=>h.fz hf);have hd:=hr.fB hb;have hlt:=hr.aU hb
 exact ⟨h.same b hlt (fun ho=>hd.2 (BG.AB ho)),hd.1,fun ⟨i,c,hi⟩=>by
  obtain ⟨c',hc⟩:=h.new i b c hi hlt
  exact hd.2 ⟨i,c',hc⟩⟩
theorem BR.ra {g g':BG w0 tz} (h:BR g g') {a:AV} {x:Value} (hr:RA (Dx D g) nu o g.w a x):RA (Dx D g') nu o g'.w a x:=hr.keep (fun b hf=>h.fz hf)
inductive BE where
 | val (r:AV)
 | al
 | st (i:Nat) (row:List AV)
def fI (w0:World) (tz:Nat->TypeId×Nat) (l:List Oper) (D:Nat->Prop) (nu:Nat->Nat->Value) (o:List (Option aa)) (hu: ∀b,w0.heap.size<=b->D b) (k:Nat):BE->ec (nk w0 tz l)
 | .val r=>⟨fun v g=>RO (Dx D g) nu o g.w∧RA (Dx D g) nu o g.w r v,fun v g g' hR hh=>⟨BR.ro hR hh.1 hu,BR.ra hR hh.2⟩⟩
 | .al=>⟨fun v g=>RO (Dx D g) nu o g.w∧ ∃b c,v = .pointer (some ⟨b,0,none⟩)∧g.n k=some (b,c),fun v g g' hR hh=>⟨BR.ro hR hh.1 hu,by
   obtain ⟨b,c,rfl,h2⟩:=hh.2;obtain ⟨c',h3,_⟩:=BR.up hR k b c h2
   exact ⟨b,c',rfl,h3⟩⟩⟩
 | .st i row=>⟨fun v g=>RO (Dx D g) nu o g.w∧v=Go.undef∧ ∃b C,g.n i=some (b,some C)∧fX (Dx D g) nu o g.w row C,fun v g g' hR hh=>⟨BR.ro hR hh.1 hu,hh.2.1,by
   obtain ⟨b,C,h2,h3⟩:=hh.2.2;obtain ⟨c',h4,h5⟩:=BR.up hR i b _ h2;rw [h5 C rfl] at h4
   exact ⟨b,C,h4,h3.len,fun j c x q1 q2=>BR.ra hR (h3.at' j c x q1 q2)⟩⟩⟩
def BG.next (g:BG w0 tz) (w':World) (h:Below g.w.heap.size g.w w'):BG w0 tz:=⟨w',g.n,ae g.base h,fun i b c hi=>by
 obtain ⟨h1,C,h2,h3⟩:=g.lay i b c hi
 exact ⟨h1,C,(h.block b (Q8.1 h2).1).trans h2,h3⟩,g.inj⟩
theorem BG.qq (g:BG w0 tz) (w':World) (h:Below g.w.heap.size g.w w'):BR g (g.next w' h):=⟨h.size,fun b hb _=>h.block b hb,fun i b c hi=>⟨c,hi,fun _ h=>h⟩,fun i b c hi _=>⟨c,hi⟩⟩
structure Bx where
 d:Tmp
 k:Nat
 T:TypeId
 z:Nat
 row:Option (List AV)
def iL (d:Tmp):List Bx->Option Bx
 | []=>none
 | b :: l=>if b.d=d then some b else iL d l
def mc (d:Tmp) (r:List AV):List Bx->List Bx
 | []=>[]
 | b :: l=>if b.d=d then { b with row:=some r } :: l else b :: mc d r l
def fA:AS->List Bx->AS
 | s,[]=>s
 | s,b :: l=>fA ⟨s.t.set b.d (.ptr s.o.length 0 b.z 0 0),s.o++[some ⟨b.T,b.z,false,[b.row.getD []]⟩],s.y⟩ l
theorem vS: ∀(l:List Bx) (s:AS),(fA s l).y=s.y
 | [],_=>rfl
 | b :: l,s=>by rw [fA];exact vS l _
def A4:Option (Nat×Bool)->Option Tmp->Option (List AV)->Nat->(Tmp->Nat->Prop)->Prop
 | none,some d,some cs,n,K=>(0<cs.length∧d<n)∧K d cs.length
 | _,_,_,_,_=>False
def A5:Option (Nat×Bool)->Option Tmp->Option Bx->Option (List AV)->Option Nat->(List AV->Prop)->Prop
 | none,none,some b,some cs,some n,K=>(cs.length=n∧n=b.z∧b.row.isNone=true∧bn 0 cs=true)∧K cs
 | _,_,_,_,_,_=>False
def gX (P:Program) (all:List Oper):List Oper->Nat->AS->List Bx->(AS->Prop)->Prop
 | [],_,s,bx,Q=>bx.all (fun b=>b.row.isSome)=true∧Q (fA s bx)
 | oo :: rest,k,s,bx,Q=>match oo.op with
  | .alloc T=>A4 oo.guard oo.dst (cJ P T) s.t.length (fun d z=>gX P all rest (k+1) (s.put (some d) .undef s.o) (bx++[⟨d,k,T,z,none⟩]) Q)
  | .store T (.tmp d) x=>A5 oo.guard oo.dst (iL d bx) (s.ev x).cells? (bG P T) (fun cs=>gX P all rest (k+1) (s.put oo.dst .undef s.o) (mc d cs bx) Q)
  | _=>match oo.guard with
   | none=>dr P oo.op s (fun r=>gX P all rest (k+1) (s.put oo.dst r s.o) bx Q)
   | some (j,want)=>ri (iw all s j) want (dr P oo.op s (fun r=>gX P all rest (k+1) (s.put oo.dst r s.o) bx Q)) (gX P all rest (k+1) (s.put oo.dst (.v Go.undef) s.o) bx Q)
def AP (o:Oper):Option Tmp:=match o.op with
 | .store _ (.tmp d) _=>some d
 | _=>none
def Je (o:Oper):Option Tmp:=match o.op with
 | .alloc _=>o.dst
 | _=>none
def BQ (ops:Array Oper):Bool:=(List.range ops.size).all fun j=>(List.range ops.size).all fun i=>match ops[j]?,ops[i]? with
 | some oj,some oi=>match AP oj with
  | some d=>(i==j||AP oi !=some d)&&(Je oi !=some d||aE ops j i)
  | none=>true
 | _,_=>true
theorem BS {l:List Oper} (h:BQ l.toArray=true) {j j' i:Nat} (h1:pR l j i) (h2:pR l j' i):j'=j:=by
 obtain ⟨T,d,x,oj,oi,U,a1,a2,a3,a4,a5⟩:=h1;obtain ⟨T',d',x',oj',oi',U',b1,b2,b3,b4,b5⟩:=h2;rw [a3] at b3;cases b3;rw [a5] at b5;cases b5;simp only [BQ,Sg,Sh,Rz,Rr] at h
 have:=h j (Ra.1 a1).1 j' (Ra.1 b1).1
 simp only [a1,b1,AP,a2,b2,RY,Si,beq_iff_eq,bne_self_eq_false] at this
 rcases this.1 with q|q
 ·exact q
 ·cases q
theorem Eh {l:List Oper} (h:BQ l.toArray=true) {j i:Nat} (h1:pR l j i):aE l.toArray j i=true:=by
 obtain ⟨T,d,x,oj,oi,U,a1,a2,a3,a4,a5⟩:=h1;simp only [BQ,Sg,Sh,Rz,Rr] at h
 have:=h j (Ra.1 a1).1 i (Ra.1 a3).1
 simp only [a1,a3,AP,Je,a2,a4,a5,RY,Si,bne_self_eq_false] at this
 rcases this.2 with q|q
 ·cases q
 ·exact q
theorem pA {d:Tmp} {b:Bx}: ∀ {bx:List Bx},iL d bx=some b->b∈bx∧b.d=d
 | [],h=>by simp [iL] at h
 | c :: bx,h=>by
  rw [iL] at h
  split at h
  ·cases h;exact ⟨Sd, ‹_›⟩
  ·obtain ⟨h1,h2⟩:=pA h;exact ⟨Sb _ h1,h2⟩
theorem r9 {d:Tmp} {r:List AV} {b b':Bx}: ∀ {bx:List Bx},iL d bx=some b->b'∈mc d r bx->b'={ b with row:=some r }∨b'∈bx
 | [],h,_=>by simp [iL] at h
 | c :: bx,h,hm=>by
  rw [iL] at h;rw [mc] at hm
  split at h
  ·cases h;rw [if_pos ‹_›] at hm
   rcases List.mem_cons.1 hm with rfl|hm
   ·exact .inl rfl
   ·exact .inr (Sb _ hm)
  ·rw [if_neg ‹_›] at hm
   rcases List.mem_cons.1 hm with rfl|hm
   ·exact .inr Sd
   ·rcases r9 h hm with e|e
    ·exact .inl e
    ·exact .inr (Sb _ e)
theorem Ag {d:Tmp} {r:List AV}: ∀(bx:List Bx),(mc d r bx).map Bx.k=bx.map Bx.k
 | []=>rfl
 | c :: bx=>by rw [mc];split<;>simp [Ag bx]
structure Bb (l:List Oper) (tz:Nat->TypeId×Nat) (s:AS) (a:Act) (k:Nat) (sk:AS) (rs:List BE) (A:(Nat->Value)->Act) (bx:List Bx):Prop where
 o:sk.o=s.o
 y:sk.y=s.y
 len:rs.length=k
 gG: ∀x,(A x).defers=a.defers
 size: ∀x,sk.t.length=(A x).tmps.size
 val: ∀x (t:Nat) c v,sk.t[t]? = some c->(A x).tmps[t]? = some v->c = .undef∨(s.t[t]? = some c∧a.tmps[t]? = some v)∨ ∃i,i<k∧(∃oi,l[i]? = some oi∧oi.dst=some t)∧rs[i]? = some (.val c)∧v=x i
 box: ∀b,b∈bx->b.k<k∧rs[b.k]? = some .al∧(∃oi,l[b.k]? = some oi∧oi.op = .alloc b.T∧oi.dst=some b.d)∧tz b.k=(b.T,b.z)∧0<b.z∧(∀x,(A x).tmps[b.d]? = some (x b.k))∧(∀r,b.row=some r->r.length=b.z∧ ∃j,j<k∧rs[j]? = some (.st b.k r))
 Jp:(bx.map Bx.k).Nodup
theorem Bb.step {s:AS} {a:Act} {k:Nat} {sk:AS} {rs:List BE} {A:(Nat->Value)->Act} {bx:List Bx} (hA:gx l) (h:Bb l tz s a k sk rs A bx) {oo:Oper} (ho:l[k]? = some oo) (r:AV) (e:BE) (he:r = .undef∨e = .val r) :
  Bb l tz s a (k+1) (sk.put oo.dst r s.o) (rs++[e]) (fun x=>(A x).put oo.dst (x k)) bx:=by
 have up: ∀i y,rs[i]? = some y->(rs++[e])[i]? = some y:=fun i y hi=>by rw [Rb (Ra.1 hi).1];exact hi
 refine ⟨rfl,h.y,by simp [h.len],fun x=> ?_,fun x=> ?_,fun x t c v h1 h2=> ?_,fun b hb=> ?_,h.Jp⟩
 ·have:=h.gG x;cases oo.dst<;>simpa [Act.put] using this
 ·have:=h.size x;cases oo.dst<;>simpa [Act.put,AS.put] using this
 ·have old:sk.t[t]? = some c->(A x).tmps[t]? = some v->c = .undef∨(s.t[t]? = some c∧a.tmps[t]? = some v)∨ ∃i,i<k+1∧(∃oi,l[i]? = some oi∧oi.dst=some t)∧(rs++[e])[i]? = some (.val c)∧v=x i:=by
   intro h1 h2
   rcases h.val x t c v h1 h2 with h3|h3|⟨i,q1,q2,q3,q4⟩
   ·exact .inl h3
   ·exact .inr (.inl h3)
   ·exact .inr (.inr ⟨i,by omega,q2,up i _ q3,q4⟩)
  cases hd:oo.dst with
  | none=>rw [hd] at h1 h2;exact old h1 h2
  | some d=>
   rw [hd] at h1 h2;simp only [AS.put,Act.put] at h1 h2
   by_cases hdt:d=t
   ·subst hdt;have hlt:=(Ra.1 h1).1;simp only [Sf] at hlt;rw [Rx hlt] at h1;rw [Sl (by have:=h.size x;omega)] at h2;cases h1;cases h2
    rcases he with rfl|rfl
    ·exact .inl rfl
    ·exact .inr (.inr ⟨k,by omega,⟨oo,ho,hd⟩,by rw [RF (by rw [h.len];exact Q5 _),h.len,Sm];rfl,rfl⟩)
   ·rw [Rw hdt] at h1;rw [Sn hdt] at h2;exact old h1 h2
 ·obtain ⟨q1,q2,⟨oi,q3,q4,q5⟩,q6,q7,q8,q9⟩:=h.box b hb
  refine ⟨by omega,up _ _ q2,⟨oi,q3,q4,q5⟩,q6,q7,fun x=> ?_,fun r' hr=> ?_⟩
  ·cases hd:oo.dst with
   | none=>exact q8 x
   | some d=>
    have hne:d≠b.d:=fun e=>hA k b.k oo oi ho q3 (by omega) d hd (by rw [e];exact q5);simp only [Act.put];rw [Sn hne];exact q8 x
  ·obtain ⟨m1,j,m2,m3⟩:=q9 r' hr;exact ⟨m1,j,by omega,up _ _ m3⟩
end
end
section
section
variable {w0:World} {tz:Nat->TypeId×Nat} {l:List Oper} {D:Nat->Prop} {nu:Nat->Nat->Value} {o:List (Option aa)} {P:Program}
theorem nV: ∀(bx:List Bx) (s:AS) (D1:Nat->Prop) (nu:Nat->Nat->Value) (a:Act) (w:World),RO D1 nu s.o w->(s.t.length=a.tmps.size∧ ∀(t:Nat) c v,s.t[t]? = some c->a.tmps[t]? = some v->RA D1 nu s.o w c v)->(∀b,D1 b->D b) ->
  (∀b,b∈bx-> ∃blk C row,b.row=some row∧a.tmps[b.d]? = some (.pointer (some ⟨blk,0,none⟩))∧w.heap[blk]? = some (.cells C b.T (0,0))∧C.size=b.z∧0<b.z∧row.length=b.z∧(∀x∈C.toList,x.oneCell'=true)∧fX D1 nu s.o w row C∧ ¬D1 blk∧D blk) ->
  (∀(i j:Nat) b b' blk,bx[i]? = some b->bx[j]? = some b'->i≠j->a.tmps[b.d]? = some (.pointer (some ⟨blk,0,none⟩))->a.tmps[b'.d]? ≠ some (.pointer (some ⟨blk,0,none⟩))) ->
  ∃nu',(∀id len,cw s.o id len->cw (fA s bx).o id len∧nu' id len=nu id len)∧(∀b,owned nu' (fA s bx).o b->owned nu s.o b∨ ∃b0,b0∈bx∧a.tmps[b0.d]? = some (.pointer (some ⟨b,0,none⟩)))∧RO D nu' (fA s bx).o w∧fX D nu' (fA s bx).o w (fA s bx).t a.tmps
 | [],s,D1,nu,a,w,hro,ht,hD,_,_=>by
  have hF: ∀b,Fz D1 nu s.o w b->Fz D nu s.o w b:=fun b hf=>⟨hf.1,hf.2.1,hD b hf.2.2⟩;have hR: ∀c x,RA D1 nu s.o w c x->RA D nu s.o w c x:=fun c x h=>h.Qh hF (fun id len h=>⟨h,rfl⟩);refine ⟨nu,fun id len h=>⟨h,rfl⟩,fun b h=> .inl h,⟨fun id ob hid=> ?_,fun b hb=>hD b (hro.up b hb),hro.sep,hro.gl.fz (fun b hf=>⟨rfl,hF b hf⟩)⟩,ht.1,fun t c v h1 h2=>hR _ _ (ht.2 t c v h1 h2)⟩
  rcases hro.obj id ob hid with e|⟨g,cur,hr⟩|⟨g,es,cl,hmp⟩
  ·exact .inl e
  ·exact .inr (.inl ⟨g,cur,hr.blk,hD g hr.kJ,hr.box,hr.vec,hr.z,hr.row,fun i j row c x q1 q2 q3=>hR _ _ (hr.cell i j row c x q1 q2 q3),hr.one⟩)
  ·exact .inr (.inr ⟨g,es,cl,hmp.tr rfl (hD g) rfl (fun i j row c x _ _ hr=>hR _ _ hr)⟩)
 | b :: bx,s,D1,nu,a,w,hro,ht,hD,hbx,hap=>by
  obtain ⟨blk,C,row,e1,e2,e3,e4,e5,e6,e7,e8,e9,e10⟩:=hbx b Sd
  have hz:0<row.length:=by omega
  obtain ⟨k1,k2,k3,k4⟩:=hro.insert (D':=fun b'=>D1 b'∨b'=blk) (T:=b.T) (row:=row) (b:=blk) (C:=C) (fun b' h=> .inl h) e9 (.inr rfl) e3 hz (by omega) e7 e8
  have eo:(⟨s.t.set b.d (.ptr s.o.length 0 b.z 0 0),s.o++[some ⟨b.T,b.z,false,[b.row.getD []]⟩],s.y⟩:AS).o=s.o++[some ⟨b.T,row.length,false,[row]⟩]:=by
   simp only [e1,Sk,e6]
  obtain ⟨nu',m1,m2,m3,m4⟩:=nV bx ⟨s.t.set b.d (.ptr s.o.length 0 b.z 0 0),s.o++[some ⟨b.T,b.z,false,[b.row.getD []]⟩],s.y⟩ (fun b'=>D1 b'∨b'=blk) (dx nu s.o.length (.pointer (some ⟨blk,0,none⟩))) a w
   (by rw [eo];exact k1) ⟨by simpa using ht.1,fun t c v h1 h2=>by
    rw [eo];simp only at h1
    by_cases hbt:b.d=t
    ·subst hbt;rw [e2] at h2;cases h2;have hlt:=(Ra.1 h1).1;simp only [Sf] at hlt;rw [Rx hlt] at h1;cases h1
     have:=RA.ptr (D:=fun b'=>D1 b'∨b'=blk) (nu:=dx nu s.o.length (.pointer (some ⟨blk,0,none⟩))) (o:=s.o++[some ⟨b.T,row.length,false,[row]⟩]) (w:=w) s.o.length 0 b.z 0 0 blk
      ⟨_,Re,fun x hx=>Rh _⟩ (by rw [aY];rfl)
     simpa using this
    ·rw [Rw hbt] at h1
     exact k3 _ _ (ht.2 t c v h1 h2)⟩
   (fun b' h=>by
    rcases h with h|rfl
    ·exact hD b' h
    ·exact e10)
   (fun b' hb'=>by
    obtain ⟨blk',C',row',f1,f2,f3,f4,f5,f6,f7,f8,f9,f10⟩:=hbx b' (Sb _ hb')
    refine ⟨blk',C',row',f1,f2,f3,f4,f5,f6,f7, ?_,fun h=> ?_,f10⟩
    ·rw [eo];exact ⟨f8.len,fun i c x q1 q2=>k3 _ _ (f8.at' i c x q1 q2)⟩
    ·rcases h with h|rfl
     ·exact f9 h
     ·obtain ⟨j,hj⟩:=Ry hb'
      exact hap 0 (j+1) b b' blk' rfl (by simpa using hj) (by omega) e2 f2)
   (fun i j b1 b2 blk' q1 q2 hij=>hap (i+1) (j+1) b1 b2 blk' (by simpa using q1) (by simpa using q2) (by omega))
  refine ⟨nu',fun id len hh=> ?_,fun b' hb'=> ?_,m3,m4⟩
  ·obtain ⟨h1,h2⟩:=k4 id len hh;obtain ⟨h3,h4⟩:=m1 id len (by rw [eo];exact h1);exact ⟨h3,by rw [h4,h2]⟩
  ·rcases m2 b' hb' with h|h
   ·rw [eo] at h
    rcases k2 b' h with h|rfl
    ·exact .inl h
    ·exact .inr ⟨b,Sd,e2⟩
   ·obtain ⟨b0,q1,q2⟩:=h;exact .inr ⟨b0,Sb _ q1,q2⟩
theorem Ad {N:jV} {f:Nat->BE->ec N} {rs rs':List BE} {i:Nat} {e:BE} (h:rs[i]? = some e):lE ((rs++rs').mapIdx f) i=f i e:=by
 have hlt:=(Ra.1 h).1;unfold lE;rw [R6,Sq,Rb hlt,h]
 rfl
theorem oR {N:jV} {f:Nat->BE->ec N} {rs rs':List BE} {e:BE}:lE ((rs++e :: rs').mapIdx f) rs.length=f rs.length e:=by
 unfold lE;rw [R6,Sq,RF (Q5 _),Sm]
 rfl
theorem Iw {hu: ∀b,w0.heap.size<=b->D b} {r:AV} {k:Nat} {g:BG w0 tz} {res:Result Next}
  (h:Bi P ⟨fun v w=>RO (Dx D g) nu o w∧RA (Dx D g) nu o w r v,fun _ _ _ hb hh=>⟨hh.1.below hb,hh.2.mono (aw hb) (fun _ _ h=>h)⟩⟩ g.w res) :
  Bh (N:=nk w0 tz l) P (fI w0 tz l D nu o hu k (.val r)) k g res:=by
 unfold Bi at h;unfold Bh
 split at h
 ·rename_i u w';exact ⟨g.next w' h.2,rfl,g.qq w' h.2,fun i _ hp=>hp,h.1⟩
 ·rename_i w';exact ⟨g.next w' h.2,rfl,g.qq w' h.2,fun i _ hp=>hp,h.1⟩
 ·refine Calls.mono h (fun e w'' he=> ?_);obtain ⟨v,rfl,h1,h2⟩:=he;rename_i w' _ _;exact ⟨v,g.next w'' h2,rfl,rfl,g.qq w'' h2,fun i _ hp=>hp,h1⟩
 ·exact h.elim
theorem J8 {hu: ∀b,w0.heap.size<=b->D b} {oo:Oper} {T:TypeId} {cs:List AV} {k:Nat} {g:BG w0 tz} {rho:Operand->Value} (hop:oo.op = .alloc T) (hz:cJ P T=some cs) (htz:tz k=(T,cs.length)) (hn:g.n k=none) (hro:RO (Dx D g) nu o g.w) (hl:l[k]? = some oo) :
  Bh (N:=nk w0 tz l) P (fI w0 tz l D nu o hu k .al) k g ((execOp rho oo).run P g.w):=by
 obtain ⟨i,zv,hi,hzv,he,hone⟩:=fV hz
 have hzr: ∀w:World,(zeroValue T).run P w = .ok zv w:=fun w=>by simp [zeroValue,typeInfo,hi,hzv]
 have e:(execOp rho oo).run P g.w = .ok (.value (.pointer (some ⟨g.w.heap.size,0,none⟩))) (g.w.alloc (.cells zv.cells T)):=by
  simp [execOp,hop,Instr.alloc,newVar,newRow,hzr]
 rw [e];have hb:Below g.w.heap.size g.w (g.w.alloc (.cells zv.cells T)):=dX _ _;have hbl: ∀b,g.box b->b<g.w.heap.size:=fun b h=>BG.yD h
 refine ⟨⟨g.w.alloc (.cells zv.cells T),fun j=>if j=k then some (g.w.heap.size,none) else g.n j,ae g.base hb,fun j b c hj=> ?_,fun j j' b c c' hj hj'=> ?_⟩,rfl,⟨hb.size,fun b hlt _=>hb.block b hlt,fun j b c hj=> ?_,fun j b c hj hlt=> ?_⟩,fun j hjk hp=> ?_, ?_, ?_⟩
 ·split at hj
  ·rename_i hjk;cases hj;subst hjk
   refine ⟨g.base.size,zv.cells, ?_, ?_,hone,fun C' h=>by cases h⟩
   ·rw [htz];exact heap_alloc_new _ _
   ·rw [htz,he];simp
  ·obtain ⟨h1,C,h2,h3⟩:=g.lay j b c hj;exact ⟨h1,C,(hb.block b (Q8.1 h2).1).trans h2,h3⟩
 ·split at hj
  ·split at hj'
   ·omega
   ·cases hj
    have:=hbl _ ⟨j',c',hj'⟩;omega
  ·split at hj'
   ·cases hj'
    have:=hbl _ ⟨j,c,hj⟩;omega
   ·exact g.inj j j' b c c' hj hj'
 ·have hne:j≠k:=fun e=>by rw [e,hn] at hj;cases hj
  exact ⟨c,by simp only [hne,if_false];exact hj,fun _ h=>h⟩
 ·simp only at hj
  split at hj
  ·cases hj;omega
  ·exact ⟨c,hj⟩
 ·obtain ⟨p1,p2⟩:=hp
  refine ⟨fun i' b C hf=> ?_,fun ha=> ?_⟩
  ·show (if i'=k then _ else _)≠_
   split
   ·intro h;cases h
   ·exact p1 i' b C hf
  ·show (if j=k then _ else _)=_;rw [if_neg hjk];exact p2 ha
 ·refine hro.keep (fun b hbo=> ?_) (fun b hlt=>⟨hu b (Q6 (ae g.base hb).size hlt),fun ⟨j,c,hj⟩=> ?_⟩) (fun b hf=>⟨hb.block b hf.1,Q7 hf.1 hb.size,hf.2.1,hf.2.2.1,fun ⟨j,c,hj⟩=> ?_⟩)
  ·have hlt:=hro.aU hbo;have hd:=hro.fB hbo;refine ⟨hb.block b hlt,hd.1,fun ⟨j,c,hj⟩=> ?_⟩;simp only at hj
   split at hj
   ·cases hj;omega
   ·exact hd.2 ⟨j,c,hj⟩
  ·simp only at hj hlt
   have hsz:g.w.heap.size<(g.w.alloc (.cells zv.cells T)).heap.size:=by simp
   split at hj
   ·cases hj;omega
   ·have:=hbl b ⟨j,c,hj⟩;omega
  ·simp only at hj
   split at hj
   ·cases hj;have:=hf.1;omega
   ·exact hf.2.2.2 ⟨j,c,hj⟩
 ·exact ⟨_,none,rfl,by simp⟩
theorem J9 {hu: ∀b,w0.heap.size<=b->D b} {oo:Oper} {T:TypeId} {d:Tmp} {x:Operand} {cs:List AV} {k i:Nat} {U:TypeId} {z blk:Nat} {c:Option (Array Value)} {g:BG w0 tz} {rho:Operand->Value} {av:AV}
  (hop:oo.op = .store T (.tmp d) x) (hz:bG P T=some cs.length) (htz:tz i=(U,cs.length)) (hz0:0<cs.length) (hn:g.n i=some (blk,c)) (hpre: ∀C,g.n i≠some (blk,some C)) (hro:RO (Dx D g) nu o g.w) (hl:l[k]? = some oo)
  (had:rho (.tmp d) = .pointer (some ⟨blk,0,none⟩)) (hx:RA (Dx D g) nu o g.w av (rho x)) (hcs:av.cells? = some cs) (hw:bn 0 cs=true) (hfill:pR l k i) (honly: ∀j,pR l j i->j=k) :
  Bh (N:=nk w0 tz l) P (fI w0 tz l D nu o hu k (.st i cs)) k g ((execOp rho oo).run P g.w):=by
 obtain rfl:c=none:=by
  cases c with
  | none=>rfl
  | some C=>exact absurd hn (hpre C)
 obtain ⟨hb0,C0,hblk,hsz,hone,_⟩:=g.lay i blk none hn;rw [htz] at hblk hsz;simp only at hblk hsz;have hlt:blk<g.w.heap.size:=(Q8.1 hblk).1;have hbox:g.box blk:=⟨i,none,hn⟩;have hcx:=hx.one hcs
 
 let D1:Nat->Prop:=fun b=>b=blk∨Fz (Dx D g) nu o g.w b∨g.w.heap.size<=b
 let nu1:Nat->Nat->Value:=fun _ _=> .pointer (some ⟨blk,0,none⟩)
 let o1:List (Option aa):=[some ⟨U,cs.length,false,[List.replicate cs.length .undef]⟩]
 have own1: ∀(o1:List (Option aa)) b,owned nu1 o1 b->b=blk:=fun o1 b ⟨id,ob,_,h2⟩=>by cases h2;rfl
 have hF: ∀b,Fz (Dx D g) nu o g.w b->Fz D1 nu1 o1 g.w b:=fun b hf=>⟨hf.1,fun ho=>hf.2.2.2 (by rw [own1 _ b ho];exact hbox), .inr (.inl hf)⟩
 have hro1:RO D1 nu1 o1 g.w:=by
  refine ⟨fun id ob hid=> ?_,fun b hb=> .inr (.inr hb),fun id id' ob ob' b h1 h2 hne _ _=> ?_,hro.gl.fz (fun b hf=>⟨rfl,hF b hf⟩)⟩
  ·cases id with
   | succ id=>simp [o1] at hid
   | zero=>
    simp only [o1,List.getElem?_cons_zero,Rl] at hid;subst hid
    refine .inr (.inl ⟨blk,C0,hblk, .inl rfl,fun _=>⟨rfl,rfl,hsz⟩,fun e=>(by cases e),hz0,fun j row hj=> ?_,fun j j' row cc y h1 h2 h3=> ?_,fun j j' row cc y h1 h2 h3=> ?_⟩)
    ·cases j with
     | zero=>simp at hj;subst hj;simp
     | succ j=>simp at hj
    ·cases j with
     | zero=>
      simp at h1;subst h1
      have:=RK h2
      rw [List.mem_replicate] at this;rw [this.2];exact .undef y
     | succ j=>simp at h1
    ·exact hone y (RK (show C0.toList[j * cs.length+j']? = some y by simpa using h3))
  ·cases id with
   | succ id=>simp [o1] at h1
   | zero=>cases id' with
    | succ id'=>simp [o1] at h2
    | zero=>exact absurd rfl hne
 have hra1:Gl D1 nu1 o1 g.w cs (rho x).cells:=⟨⟨hcx.len,fun j cc y h1 h2=>(hcx.at' j cc y h1 h2).tr (n:=0) hF (fun id len hlt=>by omega) (bU hw h1)⟩,hcx.one⟩;have hrow:(⟨U,cs.length,false,[List.replicate cs.length .undef]⟩:aa).rows[0]? = some (List.replicate cs.length .undef):=rfl;obtain ⟨w2,k1,k2,k3⟩:=p8 P (off:=0) hro1 (id:=0) (row:=0) (ob:=⟨U,cs.length,false,[List.replicate cs.length .undef]⟩) rfl hrow hra1 (by simp) rfl
 have espl:vn (List.replicate cs.length .undef) 0 cs=cs:=by simp [vn]
 simp only [espl,Nat.zero_mul,Nat.add_zero] at k1 k2 k3
 have hrun:(execOp rho oo).run P g.w = .ok .skip w2:=by
  have hs2:(rho x).cells.size=cs.length:=hcx.len.symm;simp only [execOp,hop,had,Instr.storeAt,Instr.sureAddr,storeVar,Sem.run_bind,Sem.run_pure,Result.andThen_ok,run_sizeOf hz,hs2,ne_eq,not_true_eq_false,if_false,k1]
 rw [hrun]
 
 have hsame: ∀b,b<g.w.heap.size->b≠blk->w2.heap[b]? = g.w.heap[b]? :=fun b hb hne=>(k2.keep b hb (fun ho=>hne (own1 _ b ho))).1
 obtain ⟨g3,C,hr3⟩: ∃g3 C,rR D1 nu1 ([some ⟨U,cs.length,false,[cs]⟩]) w2 0 ⟨U,cs.length,false,[cs]⟩ g3 C:=by
  rcases k3.obj 0 ⟨U,cs.length,false,[cs]⟩ rfl with ⟨e,_⟩|h|⟨_,_,_,h⟩
  ·cases e
  ·exact h
  ·exact absurd h.z (by simp only;omega)
 obtain ⟨b1,b2,b3⟩:=hr3.box rfl
 obtain rfl:g3=blk:=by have:=b1;simp only [nu1,Value.pointer.injEq,Rl,Addr.mk.injEq] at this;exact this.1.symm
 have hCone: ∀y∈C.toList,y.oneCell'=true:=fun y hy=>by
  obtain ⟨j,hj⟩:=Ry hy
  have hjl:j<cs.length:=by
   have:=(Ra.1 hj).1
   simp only [Array.length_toList] at this;simp only at b3;omega
  exact hr3.one 0 j cs _ y rfl (Rp hjl) (by simpa using hj)
 let n2:Nat->Option (Nat×Option (Array Value)):=fun j=>if j=i then some (g3,some C) else g.n j
 have hbelow:Below w0.heap.size w0 w2:=by
  have h1:Below w0.heap.size g.w w2:=⟨k2.os,k2.tape,k2.output,k2.size,fun b hb=>hsame b (Q7 hb g.base.size) (by omega)⟩;exact g.base.trans h1
 have hlay: ∀j b c,n2 j=some (b,c)->w0.heap.size<=b∧ ∃C':Array Value,w2.heap[b]? = some (.cells C' (tz j).1 (0,0))∧C'.size=(tz j).2∧(∀y∈C'.toList,y.oneCell'=true)∧ ∀C'',c=some C''->C'=C'':=fun j b c hj=>by
  simp only [n2] at hj
  split at hj
  ·rename_i hji;cases hj;subst hji;rw [htz];exact ⟨hb0,C,hr3.blk,by simp only at b3;exact b3,hCone,fun C'' h=>by cases h;rfl⟩
  ·rename_i hji;obtain ⟨h1,C',h2,h3⟩:=g.lay j b c hj;exact ⟨h1,C',(hsame b (Q8.1 h2).1 (fun e=>hji (by subst e;exact g.inj j i _ _ _ hj hn))).trans h2,h3⟩
 have hinj: ∀j j' b c c',n2 j=some (b,c)->n2 j'=some (b,c')->j=j':=fun j j' b c c' hj hj'=>by
  simp only [n2] at hj hj'
  split at hj
  ·rename_i e1
   split at hj'
   ·rename_i e2;omega
   ·cases hj;have:=g.inj _ _ _ _ _ hn hj';omega
  ·split at hj'
   ·cases hj';have:=g.inj _ _ _ _ _ hn hj;omega
   ·exact g.inj _ _ _ _ _ hj hj'
 have hR:BR g ⟨w2,n2,hbelow,hlay,hinj⟩:=by
  refine ⟨k2.size,fun b hb ho=>hsame b hb (fun e=>ho ⟨i,by rw [e];exact hn⟩),fun j b c hj=> ?_,fun j b c hj hb=> ?_⟩
  ·simp only [n2]
   split
   ·rename_i e;subst e;rw [hn] at hj;cases hj;exact ⟨_,rfl,fun _ h=>by cases h⟩
   ·exact ⟨c,hj,fun _ h=>h⟩
  ·simp only [n2] at hj
   split at hj
   ·rename_i e;subst e;cases hj;exact ⟨_,hn⟩
   ·exact ⟨c,hj⟩
 refine ⟨⟨w2,n2,hbelow,hlay,hinj⟩,rfl,hR,fun j hjk hp=> ?_,hR.ro hro hu,rfl,g3,C,by simp [n2], ?_⟩
 ·obtain ⟨p1,p2⟩:=hp
  refine ⟨fun i' b C' hf=> ?_,fun ha=> ?_⟩
  ·simp only [n2]
   split
   ·rename_i e;subst e;exact absurd (honly j hf) hjk
   ·exact p1 i' b C' hf
  ·simp only [n2]
   split
   ·rename_i e;subst e;have:=p2 ha;rw [hn] at this;cases this
   ·exact p2 ha
 ·refine ⟨by simp only at b3;exact b3.symm,fun j cc y h1 h2=> ?_⟩;have hk:=hr3.cell 0 j cs cc y rfl h1 (by simpa using h2);refine hk.tr (n:=0) (fun b hf=> ?_) (fun id len hlt=>by omega) (bU hw h1);have hnb:b≠g3:=fun e=>hf.2.1 ⟨0,_,rfl,by simp only [nu1];rw [e];rfl⟩
  rcases hf.2.2 with e|h3|h3
  ·exact absurd e hnb
  ·exact (hR.fz h3).2
  ·have hup:=(hR.ro hro hu).up
   refine ⟨hf.1,fun ho=> ?_,hu b (Q6 g.base.size h3),fun ⟨j',c',hj'⟩=> ?_⟩
   ·have:=hro.aU ho;omega
   ·simp only [n2] at hj'
    split at hj'
    ·cases hj';exact hnb rfl
    ·have:=BG.yD (g:=g) ⟨j',c',hj'⟩;omega
end
end
section
section
variable {l:List Oper} {D:Nat->Prop} {nu:Nat->Nat->Value} {o:List (Option aa)} {P:Program}
theorem zx (hB:ov l.toArray=true) {i j:Nat} {oi oj:Oper} (hij:i<j) (hi:l[i]? = some oi) (hj:l[j]? = some oj):aE l.toArray j i=true∨ ∀d,oi.dst=some d->d∉oj.looksAt l.toArray:=by
 simp only [ov,RY,Sg,Sh,Rz] at hB
 have:=(hB.2 j (Ra.1 hj).1).1 i hij
 simp only [qH,Rr,hi,hj,RY,Si] at this
 rcases this.1.1.1 with h|h
 ·exact .inl h
 ·exact .inr (fun d hd=>(Oper.apart_spec h).1 d hd)
theorem xx (hB:ov l.toArray=true):gx l:=by
 have key: ∀(i j:Nat) (oi oj:Oper),i<j->l[i]? = some oi->l[j]? = some oj-> ∀e,oi.dst=some e->oj.dst≠some e:=fun i j oi oj hij hi hj e he=>by
  simp only [ov,RY,Sg,Sh,Rz] at hB
  have:=(hB.2 j (Ra.1 hj).1).1 i hij
  simp only [qH,Rr,hi,hj,RY] at this;have h3:=this.1.2;rw [he] at h3;simpa using h3
 intro i j oi oj hi hj hij e he
 rcases Sj hij with h|h
 ·exact key i j oi oj h hi hj e he
 ·exact fun h2=>key j i oj oi h hj hi e h2 he
def cD (P:Program) (l:List Oper) (i:Nat):TypeId×Nat:=match l[i]? with
 | some oo=>(match oo.op with
  | .alloc T=>(T,((cJ P T).getD []).length)
  | _=>(0,0))
 | none=>(0,0)
def x6 (w0:World) (tz:Nat->TypeId×Nat):BG w0 tz:=⟨w0,fun _=>none, .refl _ _,fun i b c h=>(by cases h),fun i j b c c' h=>(by cases h)⟩
theorem oT (w0:World) (tz:Nat->TypeId×Nat) (b:Nat): ¬(x6 w0 tz).box b:=fun ⟨i,c,h⟩=>by cases h
theorem Bo {f:Fr} (hB:ov l.toArray=true) (hX:BQ l.toArray=true) {s:AS} {a:Act} {w0:World} {Q:AS->Prop} {R:Exit->Act->World->Prop} (hs:RS f D nu s a w0) (hu: ∀b,w0.heap.size<=b->D b)
  (hR: ∀s' a' w' nu',b7 nu s.o w0 nu' s'.o w'->s'.y=s.y->RS f D nu' s' a' w'->Q s'->R .normal a' w') :
  ∀(rest:List Oper) (k:Nat) (sk:AS) (rs:List BE) (A:(Nat->Value)->Act) (bx:List Bx),l.drop k=rest->Bb l (cD P l) s a k sk rs A bx->gX P l rest k sk bx Q ->
   ∃rs',zg (N:=nk w0 (cD P l) l) P l.toArray ((rs++rs').mapIdx (fun k e=>fI w0 (cD P l) l D nu s.o hu k e)) (x6 w0 (cD P l)) (R .normal) rest k A:=by
 have hA:=xx hB;have hro0:RO (Dx D (x6 w0 (cD P l))) nu s.o (x6 w0 (cD P l)).w:=hs.ro.keep (fun b hb=>⟨rfl,hs.ro.fB hb,oT _ _ b⟩) (fun b hb=>⟨hu b hb,oT _ _ b⟩) (fun b hf=>⟨rfl,hf.1,hf.2.1,hf.2.2,oT _ _ b⟩);have hra0: ∀c x,RA D nu s.o w0 c x->RA (Dx D (x6 w0 (cD P l))) nu s.o (x6 w0 (cD P l)).w c x:=fun c x h=>h.keep (fun b hf=>⟨rfl,hf.1,hf.2.1,hf.2.2,oT _ _ b⟩);have hro: ∀g:BG w0 (cD P l),BR (x6 w0 (cD P l)) g->RO (Dx D g) nu s.o g.w:=fun g h=>h.ro hro0 hu;intro rest
 induction rest with
 | nil=>
  intro k sk rs A bx hl hI h;refine ⟨[],fun x g hg hsp=> ?_⟩;simp only [gX] at h;obtain ⟨hall,hQ⟩:=h
  have hkl:l.length<=k:=by have:=congrArg List.length hl;simp at this;omega
  have hrs: ∀i e,rs[i]? = some e->(fI w0 (cD P l) l D nu s.o hu i e).p (x i) g:=fun i e hi=>by
   have hik:i<k:=by rw [<-hI.len];exact (Ra.1 hi).1
   have:=hsp i hik
   rwa [Ad hi] at this
  have boxOf: ∀b,b∈bx-> ∃blk C row,b.row=some row∧(A x).tmps[b.d]? = some (.pointer (some ⟨blk,0,none⟩))∧g.n b.k=some (blk,some C)∧w0.heap.size<=blk∧g.w.heap[blk]? = some (.cells C b.T (0,0))∧C.size=b.z∧0<b.z∧row.length=b.z∧(∀y∈C.toList,y.oneCell'=true)∧fX (Dx D g) nu s.o g.w row C:=fun b hb=>by
   obtain ⟨q1,q2,_,q6,q7,q8,q9⟩:=hI.box b hb;have hsome:=Sg.1 hall b hb;obtain ⟨row,hrow⟩:=Option.isSome_iff_exists.1 hsome;obtain ⟨m1,j,m2,m3⟩:=q9 row hrow;obtain ⟨_,blk,c,e1,e2⟩:=hrs b.k _ q2;obtain ⟨_,_,blk',C,e3,e4⟩:=hrs j _ m3;rw [e2] at e3;cases e3;obtain ⟨h1,C',h2,h3,h4,h5⟩:=g.lay b.k blk _ e2;obtain rfl:=h5 C rfl;rw [q6] at h2 h3;exact ⟨blk,C',row,hrow,by rw [q8 x,e1],e2,h1,h2,h3,q7,m1,h4,e4⟩
  obtain ⟨nu',m1,m2,m3,m4⟩:=nV (D:=D) bx sk (Dx D g) nu (A x) g.w (by rw [hI.o];exact hro g hg)
   ⟨hI.size x,fun t c v h1 h2=>by
    rw [hI.o]
    rcases hI.val x t c v h1 h2 with rfl|⟨h3,h4⟩|⟨i,q1,q2,q3,q4⟩
    ·exact .undef v
    ·exact BR.ra hg (hra0 _ _ (hs.tm.at' t c v h3 h4))
    ·have:=(hrs i _ q3).2
     rw [q4];exact this⟩ (fun b h=>h.1)
   (fun b hb=>by
    obtain ⟨blk,C,row,e1,e2,e3,e4,e5,e6,e7,e8,e9,e10⟩:=boxOf b hb
    exact ⟨blk,C,row,e1,e2,e5,e6,e7,e8,e9,by rw [hI.o];exact e10,fun h=>h.2 ⟨_,_,e3⟩,hu blk e4⟩)
   (fun i j b b' blk h1 h2 hij h3 h4=>by
    obtain ⟨blk1,C1,row1,_,e2,e3,_⟩:=boxOf b (RK h1);obtain ⟨blk2,C2,row2,_,f2,f3,_⟩:=boxOf b' (RK h2);rw [e2] at h3;cases h3;rw [f2] at h4;cases h4
    have:=g.inj _ _ _ _ _ e3 f3
    have n1:(bx.map Bx.k)[i]? = some b.k:=by rw [Rs,h1];rfl
    have n2:(bx.map Bx.k)[j]? = some b'.k:=by rw [Rs,h2];rfl
    have:=gR _ hI.Jp i b.k n1
    have:=gR _ hI.Jp j b'.k n2
    simp_all)
  have hmono:b7 nu s.o w0 nu' (fA sk bx).o g.w:=by
   refine ⟨g.base.os,g.base.tape,g.base.output,g.base.size,fun id len hh=>m1 id len (by rw [hI.o];exact hh),fun b hb hno=>⟨g.base.block b hb,fun ho=> ?_⟩⟩
   rcases m2 b ho with h|⟨b0,h1,h2⟩
   ·rw [hI.o] at h;exact hno h
   ·obtain ⟨blk,C,row,_,e2,_,e4,_⟩:=boxOf b0 h1;rw [e2] at h2;cases h2;omega
  exact hR (fA sk bx) (A x) g.w nu' hmono (by rw [vS,hI.y]) ⟨m3,m4,by rw [hI.gG x];exact hs.gG.mono hs.ro hmono⟩ hQ
 | cons oo rest ih=>
  intro k sk rs A bx hl hI h
  have hok:l[k]? = some oo:=by have:=congrArg (fun m=>m[0]?) hl;simpa using this
  have hl':l.drop (k+1)=rest:=by have:=congrArg List.tail hl;simpa using this
  have hkl:k<l.length:=(Ra.1 hok).1
  
  have deps: ∀(rs':List BE) (x:Nat->Value) (g:BG w0 (cD P l)),(∀i,aE l.toArray k i=true->(lE ((rs++rs').mapIdx (fun k e=>fI w0 (cD P l) l D nu s.o hu k e)) i).p (x i) g)-> ∀i e,rs[i]? = some e->aE l.toArray k i=true->(fI w0 (cD P l) l D nu s.o hu i e).p (x i) g:=fun rs' x g hsp i e hi hd=>by
   have:=hsp i hd
   rwa [Ad hi] at this
  have hlook: ∀(x:Nat->Value) (g:BG w0 (cD P l)),BR (x6 w0 (cD P l)) g->(∀i e,rs[i]? = some e->aE l.toArray k i=true->(fI w0 (cD P l) l D nu s.o hu i e).p (x i) g)-> ∀(t:Nat) c v,t∈oo.looksAt l.toArray->sk.t[t]? = some c->(A x).tmps[t]? = some v->RA (Dx D g) nu s.o g.w c v:=by
   intro x g hg hD t c v ht h1 h2
   rcases hI.val x t c v h1 h2 with rfl|⟨h3,h4⟩|⟨i,q1,⟨oi,q2,q5⟩,q3,q4⟩
   ·exact .undef v
   ·exact BR.ra hg (hra0 _ _ (hs.tm.at' t c v h3 h4))
   ·rcases zx hB q1 q2 hok with h5|h5
    ·have:=(hD i _ q3 h5).2
     rw [q4];exact this
    ·exact absurd ht (h5 t q5)
  have hevs: ∀(x:Nat->Value) (g:BG w0 (cD P l)),BR (x6 w0 (cD P l)) g->(∀i e,rs[i]? = some e->aE l.toArray k i=true->(fI w0 (cD P l) l D nu s.o hu i e).p (x i) g)->DF (Dx D g) nu s.o g.w sk.ev (A x).eval oo.op:=by
   intro x g hg hD y hy
   cases y with
   | tmp t=>
    simp only [AS.ev,Act.eval]
    rcases Rc t sk.t.length with hlt|hge
    ·have e1:sk.t[t]? = some sk.t[t]:=Rp hlt
     have hlt':t<(A x).tmps.size:=by rw [<-hI.size x];exact hlt
     have hx:(A x).tmps[t]? = some (A x).tmps[t]:=Ro hlt';rw [getD_some e1]
     have:(A x).tmps.getD t Go.undef=(A x).tmps[t]:=by simp [Array.getD,hlt']
     rw [this];exact hlook x g hg hD t _ _ (List.mem_append_left _ (List.mem_filterMap.2 ⟨.tmp t,hy,rfl⟩)) e1 hx
    ·rw [R6,List.getElem?_eq_none hge];exact .undef _
   | const v=>exact .v v
   | global gi=>exact BR.ra hg (hra0 _ _ (ml hs.ro sk gi))
   | func f=>exact .fn f [] [] #[] #[] rfl rfl (fun i c x h=>by simp at h) (fun i c x h=>by simp at h)
  
  have hdo:dr P oo.op sk (fun r=>gX P l rest (k+1) (sk.put oo.dst r sk.o) bx Q)->(∀x (g:BG w0 (cD P l)),BR (x6 w0 (cD P l)) g->(∀i e,rs[i]? = some e->aE l.toArray k i=true->(fI w0 (cD P l) l D nu s.o hu i e).p (x i) g)->Region.wanted oo (yielded l.toArray (A x).tmps)=true) ->
    ∃rs',zg (N:=nk w0 (cD P l) l) P l.toArray ((rs++rs').mapIdx (fun k e=>fI w0 (cD P l) l D nu s.o hu k e)) (x6 w0 (cD P l)) (R .normal) (oo :: rest) k A:=by
   intro hd hw;obtain ⟨r,hk,hr⟩:=ix hd;rw [hI.o] at hk;obtain ⟨rs',hrel⟩:=ih (k+1) _ (rs++[.val r]) _ bx hl' (hI.step hA hok r (.val r) (.inr rfl)) hk;rw [RD,Sc] at hrel;refine ⟨.val r :: rs',⟨fun x g hg hsp hpre=> ?_,hrel⟩⟩;have hD:=deps _ x g hsp;have e:=oR (N:=nk w0 (cD P l) l) (f:=fun k e=>fI w0 (cD P l) l D nu s.o hu k e) (rs:=rs) (rs':=rs') (e:= .val r);rw [hI.len] at e;rw [e];obtain ⟨r',rfl,hout⟩:=kH (P:=P) (nu:=nu) (D:=Dx D g) (w:=g.w) (rho:=(A x).eval) (s:=sk) (by rw [hI.o];exact hro g hg) (by rw [hI.o];exact hevs x g hg hD) hr;rw [hI.o] at hout;exact .inl ⟨hw x g hg hD,Iw hout⟩
  have plain:(match oo.guard with
   | none=>dr P oo.op sk (fun r=>gX P l rest (k+1) (sk.put oo.dst r sk.o) bx Q)
   | some (j,want)=>ri (iw l sk j) want (dr P oo.op sk (fun r=>gX P l rest (k+1) (sk.put oo.dst r sk.o) bx Q)) (gX P l rest (k+1) (sk.put oo.dst (.v Go.undef) sk.o) bx Q)) ->
    ∃rs',zg (N:=nk w0 (cD P l) l) P l.toArray ((rs++rs').mapIdx (fun k e=>fI w0 (cD P l) l D nu s.o hu k e)) (x6 w0 (cD P l)) (R .normal) (oo :: rest) k A:=by
   intro h
   split at h
   ·rename_i hg;exact hdo h (fun x g _ _=>by simp [Region.wanted,hg])
   ·rename_i j want hg
    have hyv: ∀v,iw l sk j=some v-> ∀x (g:BG w0 (cD P l)),BR (x6 w0 (cD P l)) g->(∀i e,rs[i]? = some e->aE l.toArray k i=true->(fI w0 (cD P l) l D nu s.o hu i e).p (x i) g)->yielded l.toArray (A x).tmps j=v:=fun v hgv x g hgg hD=>
     fS (D:=Dx D g) (nu:=nu) (w:=g.w) (fun d c v hd h1 h2=>by
      rw [hI.o];refine hlook x g hgg hD d c v ?_ h1 h2;obtain ⟨og,q1,q2⟩:=hd;refine List.mem_append_right _ ?_;simp only [hg,Rr,q1,Option.bind_some,q2]
      simp) (hI.size x) hgv
    have hskip:gX P l rest (k+1) (sk.put oo.dst (.v Go.undef) sk.o) bx Q->(∀x (g:BG w0 (cD P l)),BR (x6 w0 (cD P l)) g->(∀i e,rs[i]? = some e->aE l.toArray k i=true->(fI w0 (cD P l) l D nu s.o hu i e).p (x i) g)->Region.wanted oo (yielded l.toArray (A x).tmps)=false) ->
      ∃rs',zg (N:=nk w0 (cD P l) l) P l.toArray ((rs++rs').mapIdx (fun k e=>fI w0 (cD P l) l D nu s.o hu k e)) (x6 w0 (cD P l)) (R .normal) (oo :: rest) k A:=by
     intro hk hw;rw [hI.o] at hk;obtain ⟨rs',hrel⟩:=ih (k+1) _ (rs++[.val (.v Go.undef)]) _ bx hl' (hI.step hA hok (.v Go.undef) _ (.inr rfl)) hk;rw [RD,Sc] at hrel;refine ⟨.val (.v Go.undef) :: rs',⟨fun x g hg hsp hpre=> ?_,hrel⟩⟩;have hD:=deps _ x g hsp;have e:=oR (N:=nk w0 (cD P l) l) (f:=fun k e=>fI w0 (cD P l) l D nu s.o hu k e) (rs:=rs) (rs':=rs') (e:= .val (.v Go.undef));rw [hI.len] at e;rw [e];exact .inr ⟨hw x g hg hD,hro g hg, .v _⟩
    unfold ri at h
    split at h
    ·rename_i b e
     cases hb:b==want
     ·rw [hb] at h;exact hskip h (fun x g hgg hD=>by simp only [Region.wanted,hg,hyv _ e x g hgg hD];simpa using hb)
     ·rw [hb] at h;exact hdo h (fun x g hgg hD=>by simp only [Region.wanted,hg,hyv _ e x g hgg hD];simpa using hb)
    ·rename_i e;exact hskip h (fun x g hgg hD=>by simp only [Region.wanted,hg,hyv _ e x g hgg hD];rfl)
    ·exact h.elim
  rw [gX] at h
  split at h
  ·rename_i T hop;unfold A4 at h
   split at h
   ·rename_i d cs hg hd hz;obtain ⟨⟨h0,hdl⟩,hk⟩:=h;rw [hI.o] at hk;have hst:=hI.step hA hok .undef .al (.inl rfl);rw [hd] at hst
    have hbx:Bb l (cD P l) s a (k+1) (sk.put (some d) .undef s.o) (rs++[.al]) (fun x=>(A x).put (some d) (x k)) (bx++[⟨d,k,T,cs.length,none⟩]):=by
     refine ⟨hst.o,hst.y,hst.len,hst.gG,hst.size,hst.val,fun b hb=> ?_, ?_⟩
     ·rcases List.mem_append.1 hb with hb|hb
      ·exact hst.box b hb
      ·obtain rfl:=List.mem_singleton.1 hb;refine ⟨by simp,by rw [RF (by rw [hI.len];exact Q5 _),hI.len,Sm];rfl,⟨oo,hok,hop,hd⟩,by simp [cD,hok,hop,hz],h0,fun x=> ?_,fun r hr=>by cases hr⟩;simp only [Act.put];exact Sl (by rw [<-hI.size x];exact hdl)
     ·rw [List.map_append,List.map_cons,List.map_nil];refine List.nodup_append.2 ⟨hst.Jp,by simp,fun a ha b hb=> ?_⟩;obtain rfl:=List.mem_singleton.1 hb;obtain ⟨b',hb',rfl⟩:=List.mem_map.1 ha
      have:=(hI.box b' hb').1
      omega
    obtain ⟨rs',hrel⟩:=ih (k+1) _ (rs++[.al]) _ _ hl' hbx hk;rw [RD,Sc] at hrel;refine ⟨.al :: rs',⟨fun x g hgg hsp hpre=> ?_,by rw [hd];exact hrel⟩⟩;have e:=oR (N:=nk w0 (cD P l) l) (f:=fun k e=>fI w0 (cD P l) l D nu s.o hu k e) (rs:=rs) (rs':=rs') (e:= .al);rw [hI.len] at e;rw [e];refine .inl ⟨by simp [Region.wanted,hg],J8 hop hz (by simp [cD,hok,hop,hz]) (hpre.2 ⟨oo,T,hok,hop⟩) (hro g hgg) hok⟩
   ·exact h.elim
  ·rename_i T d xo hop;unfold A5 at h
   split at h
   ·rename_i b cs n hg hd hb hcs hz;obtain ⟨⟨e1,e2,e3,e4⟩,hk⟩:=h;rw [hI.o] at hk;obtain ⟨hbm,rfl⟩:=pA hb;obtain ⟨q1,q2,⟨oi,q3,q4,q5⟩,q6,q7,q8,q9⟩:=hI.box b hbm;have hfill:pR l k b.k:=⟨T,b.d,xo,oo,oi,b.T,hok,hop,q3,q4,q5⟩;have hst:=hI.step hA hok .undef (.st b.k cs) (.inl rfl)
    have hbx:Bb l (cD P l) s a (k+1) (sk.put oo.dst .undef s.o) (rs++[.st b.k cs]) (fun x=>(A x).put oo.dst (x k)) (mc b.d cs bx):=by
     refine ⟨hst.o,hst.y,hst.len,hst.gG,hst.size,hst.val,fun b' hb'=> ?_,by rw [Ag];exact hst.Jp⟩
     rcases r9 hb hb' with rfl|hb'
     ·obtain ⟨p1,p2,p3,p4,p5,p6,_⟩:=hst.box b hbm;refine ⟨p1,p2,p3,p4,p5,p6,fun r hr=> ?_⟩;cases hr;exact ⟨by simp only;omega,k,by omega,by rw [RF (by rw [hI.len];exact Q5 _),hI.len,Sm];rfl⟩
     ·exact hst.box b' hb'
    obtain ⟨rs',hrel⟩:=ih (k+1) _ (rs++[.st b.k cs]) _ _ hl' hbx hk;rw [RD,Sc] at hrel;refine ⟨.st b.k cs :: rs',⟨fun x g hgg hsp hpre=> ?_,hrel⟩⟩;have hD:=deps _ x g hsp;have e:=oR (N:=nk w0 (cD P l) l) (f:=fun k e=>fI w0 (cD P l) l D nu s.o hu k e) (rs:=rs) (rs':=rs') (e:= .st b.k cs);rw [hI.len] at e;rw [e];obtain ⟨_,blk,c,e5,e6⟩:=hD b.k _ q2 (Eh hX hfill);have hev:=hevs x g hgg hD xo (by rw [hop];simp [Op.operands])
    have had:(A x).eval (.tmp b.d) = .pointer (some ⟨blk,0,none⟩):=by
     have:=q8 x
     simp only [Act.eval];rw [e5] at this;have hlt:=(Q8.1 this).1;simp only [Array.getD,hlt,dite_true];exact (Q8.1 this).2
    exact .inl ⟨by simp [Region.wanted,hg],J9 (U:=b.T) (z:=b.z) (c:=c) (av:=sk.ev xo) hop (by rw [hz,e1]) (by rw [q6,e1,e2]) (by omega) e6 (fun C=>hpre.1 b.k blk C hfill) (hro g hgg) hok had hev hcs e4 hfill (fun j hj=>BS hX hfill hj)⟩
   ·exact h.elim
  ·exact plain h
theorem bX {n0 id:Nat} {s:AS} {Q:aZ->AS->Prop} (hB:ov l.toArray=true) (hX:BQ l.toArray=true) (hC:dP l.toArray=true) (h:gX P l l 0 s [] (Q .normal)):cF P n0 (.region id l.toArray true) s Q:=by
 refine .inr (fun f m D nu a w hZr hn hm hs hmx R hO hR=> ?_);have hs':=hs.drew
 obtain ⟨rs',hrel⟩:=Bo (R:=R) hB hX hs' hs'.ro.up (fun s' a' w' nu' h1 hy h2 h3=>hR .normal D f.Z s' a' w' nu' (by rw [hy];exact m.own hm hs.ro ((aw (cX w)).trans h1) h2.ro) h2 h3) l 0 s [] (fun _=>a) [] (by simp)
  ⟨rfl,rfl,rfl,fun _=>rfl,fun _=>hs.tm.len,fun x t c v h1 h2=> .inr (.inl ⟨h1,h2⟩),fun b hb=>(by cases hb),List.nodup_nil⟩ h
 exact mR hmx hC hO (nf (N:=nk w.drew (cD P l) l) _ hB (x6 w.drew (cD P l)) rfl (fun j=>⟨fun i b C _ h=>(by cases h),fun _=>rfl⟩) hrel)
def ID:Op->Bool
 | .alloc _=>false
 | .store _ (.tmp _) _=>false
 | _=>true
theorem DV {all:List Oper} {k:Nat} {s:AS} {bx:List Bx} {Q:AS->Prop} (h:bx.all (fun b=>b.row.isSome)=true∧Q (fA s bx)):gX P all [] k s bx Q:=h
theorem bw {all rest:List Oper} {oo:Oper} {k:Nat} {s:AS} {bx:List Bx} {Q:AS->Prop} (hop:ID oo.op=true) (h: ∀K:AS->Prop,(∀s',gX P all rest (k+1) s' bx Q->K s')->dN P all oo s K):gX P all (oo :: rest) k s bx Q:=by
 have h':=h _ (fun _ h=>h);unfold dN at h';rw [gX]
 split
 ·rename_i e;rw [e] at hop;cases hop
 ·rename_i e;rw [e] at hop;cases hop
 ·split<;>rename_i hg<;>rw [hg] at h'<;>exact h'
theorem cN {all rest:List Oper} {d:Option Tmp} {T:TypeId} {ty:TypeId} {pos:String} {aft:Array Edge} {g:Option (Nat×Bool)} {k:Nat} {s:AS} {bx:List Bx} {Q:AS->Prop}
  (h:A4 g d (cJ P T) s.t.length (fun d z=>gX P all rest (k+1) (s.put (some d) .undef s.o) (bx++[⟨d,k,T,z,none⟩]) Q)):gX P all (⟨d, .alloc T,ty,pos,aft,g⟩ :: rest) k s bx Q:=h
theorem cO {all rest:List Oper} {dst:Option Tmp} {T:TypeId} {d:Tmp} {x:Operand} {ty:TypeId} {pos:String} {aft:Array Edge} {g:Option (Nat×Bool)} {k:Nat} {s:AS} {bx:List Bx} {Q:AS->Prop}
  (h:A5 g dst (iL d bx) (s.ev x).cells? (bG P T) (fun cs=>gX P all rest (k+1) (s.put dst .undef s.o) (mc d cs bx) Q)):gX P all (⟨dst, .store T (.tmp d) x,ty,pos,aft,g⟩ :: rest) k s bx Q:=h
end
@[go_sem] theorem KI (d:Tmp) (cs:List AV) (n:Nat) (K:Tmp->Nat->Prop):A4 none (some d) (some cs) n K=((0<cs.length∧d<n)∧K d cs.length):=rfl
@[go_sem] theorem KJ (b:Bx) (cs:List AV) (n:Nat) (K:List AV->Prop):A5 none none (some b) (some cs) (some n) K=((cs.length=n∧n=b.z∧b.row.isNone=true∧bn 0 cs=true)∧K cs):=rfl
@[congr] theorem Ju {g:Option (Nat×Bool)} {d:Option Tmp} {x y:Option (List AV)} {n m:Nat} {K:Tmp->Nat->Prop} (h:x=y) (k:n=m):A4 g d x n K=A4 g d y m K:=by rw [h,k]
@[congr] theorem Jv {g:Option (Nat×Bool)} {d:Option Tmp} {b b':Option Bx} {x y:Option (List AV)} {n m:Option Nat} {K:List AV->Prop} (h1:b=b') (h:x=y) (k:n=m):A5 g d b x n K=A5 g d b' y m K:=by rw [h1,h,k]
attribute [go_sem] List.all_cons List.all_nil iL mc fA Option.isNone_none Option.isSome_some Sk
@[go_sem] theorem Ld (t:List AV) (o:List (Option aa)) (y:iQ):(AS.mk t o y).t=t:=rfl
end
end Go.Proofs.YtjcobjgjjlahdaaGreatDoor
