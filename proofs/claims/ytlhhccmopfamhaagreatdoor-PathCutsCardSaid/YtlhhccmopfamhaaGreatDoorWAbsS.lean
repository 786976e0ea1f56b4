/- texts of one claim, one behind the other. -/
import Derived.Test.YtlhhccmopfamhaaGreatDoorWAbsJ
import Derived.Test.YtlhhccmopfamhaaGreatDoorWAbsG
set_option linter.unusedSimpArgs false
set_option linter.unusedVariables false
set_option maxRecDepth 100000
set_option maxHeartbeats 16000000
open Array renaming getElem?_eq_some_iff -> S5
open Bool renaming and_eq_true -> TY
open List renaming length_cons -> Tc, mem_cons_of_mem -> T8, mem_cons_self -> Ua, nodup_cons -> Ub, mem_of_getElem? -> TI, getElem?_eq_some_iff -> S7, getElem?_eq_getElem -> Tn, getElem?_of_mem -> Tx, nodup_nil -> Uc
open Nat renaming lt_or_ge -> S9, lt_of_lt_of_le -> S4, le_refl -> SY, le_trans -> S3
open Option renaming map_some -> TG, map_eq_some_iff -> TS
open Option.some renaming inj -> SX
namespace Go.Proofs.YtlhhccmopfamhaaGreatDoor
open Go.RowKit
section
mutual
def AV.aO (f:Nat->Nat):AV->AV
 | .undef=> .undef
 | .v x=> .v x
 | .agg cs=> .agg (bo f cs)
 | .ct vs=> .ct (bo f vs)
 | .aI z rows len=> .aI z (bI f rows) len
 | .vp cs=> .vp (bo f cs)
 | .ptr id len z row off=> .ptr (f id) len z row off
 | .vec id len=> .vec (f id) len
 | .fn g fi ca=> .fn g (bo f fi) (bo f ca)
 | .full a=> .full (a.aO f)
 | .fp p a=> .fp p (a.aO f)
 | .mp rows=> .mp (bI f rows)
def bo (f:Nat->Nat):List AV->List AV
 | []=>[]
 | a :: l=>a.aO f :: bo f l
def bI (f:Nat->Nat):List (List AV)->List (List AV)
 | []=>[]
 | r :: l=>bo f r :: bI f l
end
theorem bN (f:Nat->Nat): ∀l:List AV,(bo f l).length=l.length
 | []=>rfl
 | a :: l=>by rw [bo,Tc,Tc,bN f l]
theorem cM (f:Nat->Nat): ∀l:List (List AV),(bI f l).length=l.length
 | []=>rfl
 | a :: l=>by rw [bI,Tc,Tc,cM f l]
theorem bw (f:Nat->Nat): ∀(l:List AV) (i:Nat),(bo f l)[i]? = (l[i]?).map (AV.aO f)
 | [],i=>by simp [bo]
 | a :: l,0=>by simp [bo]
 | a :: l,i+1=>by simpa [bo] using bw f l i
theorem cX (f:Nat->Nat): ∀(l:List (List AV)) (i:Nat),(bI f l)[i]? = (l[i]?).map (bo f)
 | [],i=>by simp [bI]
 | a :: l,0=>by simp [bI]
 | a :: l,i+1=>by simpa [bI] using cX f l i
def aa.aO (f:Nat->Nat) (ob:aa):aa:=⟨ob.T,ob.z,ob.dj,bI f ob.rows⟩
theorem aa.dF (f:Nat->Nat) (ob:aa):(ob.aO f).hl=ob.hl:=by simp [aa.hl,aa.aO,cM]
theorem bO {α β:Type} {g:α->β} {x:Option α} {y:β} (h:x.map g=some y): ∃a,x=some a∧y=g a:=by
 cases x with
 | none=>cases h
 | some a=>exact ⟨a,rfl,(SX h).symm⟩
section
variable {D D':Nat->Prop} {nu nu':Nat->Nat->Value} {o o':List (Option aa)} {w:World} {P:Program}
theorem RA.aO {f:Nat->Nat} (hF: ∀b,Fz D nu o w b->Fz D' nu' o' w b) (hH: ∀id len,cK o id len->cK o' (f id) len∧nu' (f id) len=nu id len) {a:AV} {x:Value} (hr:RA D nu o w a x):RA D' nu' o' w (a.aO f) x:=by
 induction hr with
 | undef x=>exact .undef x
 | v x=>exact .v x
 | agg cs xs h1 _ h3 ih=>
  exact .agg _ xs (by rw [bN];exact h1) (fun i c x hc hx=>by
   rw [bw] at hc;obtain ⟨c0,hc0,rfl⟩:=bO hc
   exact ih i c0 x hc0 hx) h3
 | ct cs xs h1 _ ih=>
  exact .ct _ xs (by rw [bN];exact h1) (fun i c x hc hx=>by
   rw [bw] at hc;obtain ⟨c0,hc0,rfl⟩:=bO hc
   exact ih i c0 x hc0 hx)
 | bf z=>exact .bf z
 | bA z a=>exact .bA z a
 | aI z rows len b off cap g h1 h2 h3 h4 h5 h6 _ h8 ih=>
  have key: ∀(i j:Nat) row c,(bI f rows)[i]? = some row->row[j]? = some c-> ∃row0 c0,rows[i]? = some row0∧row0[j]? = some c0∧c=c0.aO f:=fun i j row c hi hj=>by
   rw [cX] at hi;obtain ⟨row0,hr0,rfl⟩:=bO hi;rw [bw] at hj;obtain ⟨c0,hc0,rfl⟩:=bO hj;exact ⟨row0,c0,hr0,hc0,rfl⟩
  refine .aI z _ len b off cap g (by rw [cM];exact h1) (by rw [cM];exact h2) h3 (fun hne=>hF b (h4 (fun e=>hne (by rw [e];rfl)))) (fun i row hi=> ?_) (fun i j row c hi hj=> ?_) (fun i j row c hi hj=> ?_) (fun i j row c hi hj=> ?_)
  ·rw [cX] at hi;obtain ⟨row0,hr0,rfl⟩:=bO hi;rw [bN];exact h5 i row0 hr0
  ·obtain ⟨row0,c0,q1,q2,rfl⟩:=key i j row c hi hj;exact h6 i j row0 c0 q1 q2
  ·obtain ⟨row0,c0,q1,q2,rfl⟩:=key i j row c hi hj;exact ih i j row0 c0 q1 q2
  ·obtain ⟨row0,c0,q1,q2,rfl⟩:=key i j row c hi hj;exact h8 i j row0 c0 q1 q2
 | vp cs b off g h1 h2 _ h4 ih=>
  have key: ∀(j:Nat) c,(bo f cs)[j]? = some c-> ∃c0,cs[j]? = some c0∧c=c0.aO f:=fun j c hj=>by
   rw [bw] at hj;obtain ⟨c0,hc0,rfl⟩:=bO hj;exact ⟨c0,hc0,rfl⟩
  refine .vp _ b off g (hF b h1) (fun j c hc=> ?_) (fun j c hc=> ?_) (fun j c hc=> ?_)
  ·obtain ⟨c0,q,rfl⟩:=key j c hc;exact h2 j c0 q
  ·obtain ⟨c0,q,rfl⟩:=key j c hc;exact ih j c0 q
  ·obtain ⟨c0,q,rfl⟩:=key j c hc;exact h4 j c0 q
 | ptr id len z row off b h1 h2=>
  obtain ⟨h3,h4⟩:=hH id len h1;exact .ptr (f id) len z row off b h3 (by rw [h4];exact h2)
 | vec id len h1 h2=>
  obtain ⟨h3,h4⟩:=hH id len h1
  have:=RA.vec (D:=D') (nu:=nu') (o:=o') (w:=w) (f id) len h3 (by rw [h4];exact h2)
  rw [h4] at this;exact this
 | fn g first caps fi ca h1 h2 _ _ ih1 ih2=>
  exact .fn g _ _ fi ca (by rw [bN];exact h1) (by rw [bN];exact h2) (fun i c x hc hx=>by
   rw [bw] at hc;obtain ⟨c0,hc0,rfl⟩:=bO hc
   exact ih1 i c0 x hc0 hx) (fun i c x hc hx=>by
   rw [bw] at hc;obtain ⟨c0,hc0,rfl⟩:=bO hc
   exact ih2 i c0 x hc0 hx)
 | full a x h1 _ ih=>exact .full _ x h1 ih
 | fp p a x S h0 h1 hc h2 _ ih=>exact .fp p _ x S h0 (fun b hb=>hF b (h1 b hb)) hc h2 ih
 | mp rows b es cl h1 h2 h3 h4 h5 h6 _ ih=>
  refine .mp _ b es cl (hF b h1) h2 (by rw [cM];exact h3) (fun i row hi=> ?_) h5 h6 (fun i j row c e hi hj he=> ?_)
  ·rw [cX] at hi;obtain ⟨row0,hr0,rfl⟩:=bO hi;rw [bN];exact h4 i row0 hr0
  ·rw [cX] at hi;obtain ⟨row0,hr0,rfl⟩:=bO hi;rw [bw] at hj;obtain ⟨c0,hc0,rfl⟩:=bO hj;exact ih i j row0 c0 e hr0 hc0 he
theorem RA.yh {f:Nat->Nat} {n:Nat} (hF: ∀b,Fz D nu o w b->Fz D' nu' o' w b) (hH: ∀id len,id<n->cK o (f id) len->cK o' id len∧nu' id len=nu (f id) len) {a':AV} {x:Value} (hr:RA D nu o w a' x) :
  ∀a:AV,a.wf n=true->a'=a.aO f->RA D' nu' o' w a x:=by
 induction hr with
 | undef x=>intro a _ e;cases a<;>simp only [AV.aO,reduceCtorEq] at e;exact .undef x
 | v x=>
  intro a _ e;cases a<;>simp only [AV.aO,reduceCtorEq,AV.v.injEq] at e;subst e;exact .v x
 | agg cs xs h1 _ h3 ih=>
  intro a ha e;cases a<;>simp only [AV.aO,reduceCtorEq,AV.agg.injEq] at e;rename_i ds;subst e;rw [bN] at h1;refine .agg ds xs h1 (fun i c x hc hx=>ih i (c.aO f) x (by rw [bw,hc];rfl) hx c ?_ rfl) h3;simp only [AV.wf] at ha;exact bF ha hc
 | ct cs xs h1 _ ih=>
  intro a ha e;cases a<;>simp only [AV.aO,reduceCtorEq,AV.ct.injEq] at e;rename_i ds;subst e;rw [bN] at h1;refine .ct ds xs h1 (fun i c x hc hx=>ih i (c.aO f) x (by rw [bw,hc];rfl) hx c ?_ rfl);simp only [AV.wf] at ha;exact bF ha hc
 | bf z=>
  intro a _ e
  cases a with
  | aI z' rows' len'=>
   simp only [AV.aO,AV.aI.injEq] at e;obtain ⟨rfl,e,rfl⟩:=e
   cases rows' with
   | nil=>exact .bf _
   | cons r l=>simp [bI] at e
  | _=>simp [AV.aO] at e
 | bA z ad=>
  intro a _ e
  cases a with
  | aI z' rows' len'=>
   simp only [AV.aO,AV.aI.injEq] at e;obtain ⟨rfl,e,rfl⟩:=e
   cases rows' with
   | nil=>exact .bA _ _
   | cons r l=>simp [bI] at e
  | _=>simp [AV.aO] at e
 | aI z rows len b off cap g h1 h2 h3 h4 h5 h6 _ h8 ih=>
  intro a ha e;cases a<;>simp only [AV.aO,reduceCtorEq,AV.aI.injEq] at e;rename_i z' rows' len';obtain ⟨rfl,rfl,rfl⟩:=e;rw [cM] at h1 h2;simp only [AV.wf] at ha
  have up: ∀(i:Nat) row,rows'[i]? = some row->(bI f rows')[i]? = some (bo f row):=fun i row h=>by rw [cX,h];rfl
  have upj: ∀(row:List AV) (j:Nat) c,row[j]? = some c->(bo f row)[j]? = some (c.aO f):=fun row j c h=>by rw [bw,h];rfl
  refine .aI _ rows' _ b off cap g h1 h2 h3 (fun hne=>hF b (h4 (fun e=>hne ?_))) (fun i row hi=> ?_) (fun i j row c hi hj=>h6 i j _ _ (up i row hi) (upj row j c hj)) (fun i j row c hi hj=>ih i j _ _ (up i row hi) (upj row j c hj) c (bF (gy ha hi) hj) rfl) (fun i j row c hi hj=>h8 i j _ _ (up i row hi) (upj row j c hj))
  ·cases rows' with
   | nil=>rfl
   | cons r l=>simp [bI] at e
  ·have:=h5 i _ (up i row hi);rw [bN] at this;exact this
 | vp cs b off g h1 h2 _ h4 ih=>
  intro a ha e;cases a<;>simp only [AV.aO,reduceCtorEq,AV.vp.injEq] at e;rename_i ds;subst e;simp only [AV.wf] at ha
  have up: ∀(j:Nat) c,ds[j]? = some c->(bo f ds)[j]? = some (c.aO f):=fun j c h=>by rw [bw,h];rfl
  exact .vp ds b off g (hF b h1) (fun j c hc=>h2 j _ (up j c hc)) (fun j c hc=>ih j _ (up j c hc) c (bF ha hc) rfl) (fun j c hc=>h4 j _ (up j c hc))
 | ptr id len z row off b h1 h2=>
  intro a ha e;cases a<;>simp only [AV.aO,reduceCtorEq,AV.ptr.injEq] at e;rename_i id' len' z' row' off';obtain ⟨rfl,rfl,rfl,rfl,rfl⟩:=e;simp only [AV.wf,decide_eq_true_eq] at ha;obtain ⟨h3,h4⟩:=hH id' _ ha h1;exact .ptr id' _ _ _ _ b h3 (by rw [h4];exact h2)
 | vec id len h1 h2=>
  intro a ha e;cases a<;>simp only [AV.aO,reduceCtorEq,AV.vec.injEq] at e;rename_i id' len';obtain ⟨rfl,rfl⟩:=e;simp only [AV.wf,decide_eq_true_eq] at ha;obtain ⟨h3,h4⟩:=hH id' _ ha h1
  have:=RA.vec (D:=D') (nu:=nu') (o:=o') (w:=w) id' len h3 (by rw [h4];exact h2)
  rw [h4] at this;exact this
 | fn g first caps fi ca h1 h2 _ _ ih1 ih2=>
  intro a ha e;cases a<;>simp only [AV.aO,reduceCtorEq,AV.fn.injEq] at e;rename_i g' fi' ca';obtain ⟨rfl,rfl,rfl⟩:=e;rw [bN] at h1 h2;simp only [AV.wf,TY] at ha;exact .fn _ fi' ca' fi ca h1 h2 (fun i c x hc hx=>ih1 i (c.aO f) x (by rw [bw,hc];rfl) hx c (bF ha.1 hc) rfl) (fun i c x hc hx=>ih2 i (c.aO f) x (by rw [bw,hc];rfl) hx c (bF ha.2 hc) rfl)
 | full b x h1 _ ih=>
  intro a ha e;cases a<;>simp only [AV.aO,reduceCtorEq,AV.full.injEq] at e;rename_i b';simp only [AV.wf] at ha;exact .full b' x h1 (ih b' ha e)
 | fp p b x S h0 h1 hc h2 _ ih=>
  intro a ha e;cases a<;>simp only [AV.aO,reduceCtorEq,AV.fp.injEq] at e;rename_i p' b';obtain ⟨rfl,e⟩:=e;simp only [AV.wf] at ha;exact .fp _ b' x S h0 (fun b hb=>hF b (h1 b hb)) hc h2 (ih b' ha e)
 | mp rows b es cl h1 h2 h3 h4 h5 h6 _ ih=>
  intro a ha e;cases a<;>simp only [AV.aO,reduceCtorEq,AV.mp.injEq] at e;rename_i rows';subst e;rw [cM] at h3;simp only [AV.wf] at ha
  have up: ∀(i:Nat) row,rows'[i]? = some row->(bI f rows')[i]? = some (bo f row):=fun i row h=>by rw [cX,h];rfl
  have upj: ∀(row:List AV) (j:Nat) c,row[j]? = some c->(bo f row)[j]? = some (c.aO f):=fun row j c h=>by rw [bw,h];rfl
  exact .mp rows' b es cl (hF b h1) h2 h3 (fun i row hi=>by have:=h4 i _ (up i row hi);rw [bN] at this;exact this) h5 h6 (fun i j row c e hi hj he=>ih i j _ _ e (up i row hi) (upj row j c hj) he c (bF (gy ha hi) hj) rfl)
def sig (ids:List Nat) (n k:Nat):Nat:=if k<ids.length then ids.getD k 0 else n+(k - ids.length)
def dE (f:Nat->Nat):List Nat->List (Option aa)->List (Option aa)->List (Option aa)
 | i :: ids,x :: l,o=>dE f ids l (o.set i (x.map (aa.aO f)))
 | [],l,o=>o++l.map (Option.map (aa.aO f))
 | _ :: _,[],o=>o
theorem jA (f:Nat->Nat): ∀(ids:List Nat) (l o:List (Option aa)) (j:Nat),j∉ids->j<o.length->(dE f ids l o)[j]? = o[j]?
 | [],l,o,j,_,hj=>by rw [dE,List.getElem?_append_left hj]
 | i :: ids,x :: l,o,j,hn,hj=>by
  rw [dE,jA f ids l _ j (fun h=>hn (T8 _ h)) (by simpa using hj),List.getElem?_set_ne (fun e=>hn (by rw [e];exact Ua))]
 | _ :: _,[],_,_,_,_=>by rw [dE]
theorem vb (f:Nat->Nat): ∀(ids:List Nat) (l o:List (Option aa)),ids.Nodup->(∀i∈ids,i<o.length)-> ∀(k i:Nat) (x:Option aa),ids[k]? = some i->l[k]? = some x->(dE f ids l o)[i]? = some (x.map (aa.aO f))
 | [],l,o,_,_,k,i,x,h,_=>by simp at h
 | j :: ids,[],o,_,_,k,i,x,_,h=>by simp at h
 | j :: ids,y :: l,o,hn,hb,0,i,x,h1,h2=>by
  simp at h1 h2;subst h1;subst h2;rw [dE,jA f ids l _ j (Ub.1 hn).1 (by simpa using hb j Ua),List.getElem?_set_self (hb j Ua)]
 | j :: ids,y :: l,o,hn,hb,k+1,i,x,h1,h2=>by
  rw [dE];exact vb f ids l _ (Ub.1 hn).2 (fun a ha=>by simpa using hb a (T8 _ ha)) k i x (by simpa using h1) (by simpa using h2)
theorem rl (f:Nat->Nat): ∀(ids:List Nat) (l o:List (Option aa)) (j:Nat),ids.length<=l.length->(dE f ids l o)[o.length+j]? = (l[ids.length+j]?).map (Option.map (aa.aO f))
 | [],l,o,j,_=>by rw [dE,List.getElem?_append_right (by omega)];simp
 | i :: ids,x :: l,o,j,h=>by
  have:=rl f ids l (o.set i (x.map (aa.aO f))) j (by simpa using h)
  rw [dE];rw [List.length_set] at this;rw [this]
  congr 1
  rw [Tc,show ids.length+1+j=(ids.length+j)+1 by omega,List.getElem?_cons_succ]
 | _ :: _,[],_,_,h=>by simp at h
theorem kU: ∀(ids:List Nat),ids.Nodup-> ∀(k i:Nat),ids[k]? = some i->ids.idxOf i=k
 | [],_,k,i,h=>by simp at h
 | j :: ids,hn,0,i,h=>by simp at h;subst h;simp
 | j :: ids,hn,k+1,i,h=>by
  have h':ids[k]? = some i:=by simpa using h
  have hne:j≠i:=fun e=>(Ub.1 hn).1 (by rw [e];exact TI h');rw [List.idxOf_cons,kU ids (Ub.1 hn).2 k i h',beq_eq_false_iff_ne.2 hne];rfl
theorem qA {o0:List (Option aa)} (ids:List Nat) (hro:RO D nu o w) (hnd:ids.Nodup) (ho:ids.map (fun i=>o[i]?)=o0.map (fun x=>some (x.map (aa.aO (sig ids o.length)))))
  (hwo: ∀(k:Nat) ob,o0[k]? = some (some ob)->bQ ids.length ob.rows=true) :
  RO (fun b=>D b∧ ¬(b<w.heap.size∧ ∃id ob,id∉ids∧o[id]? = some (some ob)∧cr (nu id ob.hl)=some b)) (fun k len=>nu (sig ids o.length k) len) o0 w∧(∀b,owned (fun k len=>nu (sig ids o.length k) len) o0 b->owned nu o b) ∧
   (∀b,Fz D nu o w b->Fz (fun b=>D b∧ ¬(b<w.heap.size∧ ∃id ob,id∉ids∧o[id]? = some (some ob)∧cr (nu id ob.hl)=some b)) (fun k len=>nu (sig ids o.length k) len) o0 w b) ∧
   (∀id len,id<ids.length->cK o (sig ids o.length id) len->cK o0 id len∧nu (sig ids o.length id) len=nu (sig ids o.length id) len) ∧
   ∀(k:Nat) ob,o0[k]? = some (some ob)-> ∃i,ids[k]? = some i∧sig ids o.length k=i∧o[i]? = some (some (ob.aO (sig ids o.length))):=by
 have hlen:o0.length=ids.length:=by have:=congrArg List.length ho;simpa using this.symm
 have hget: ∀(k i:Nat),ids[k]? = some i-> ∃x,o0[k]? = some x∧o[i]? = some (x.map (aa.aO (sig ids o.length))):=fun k i hk=>by
  have h1:=congrArg (fun l=>l[k]?) ho;simp only [List.getElem?_map,hk,TG] at h1
  have hlt:k<o0.length:=by rw [hlen];exact (S7.1 hk).1
  rw [Tn hlt,TG] at h1;exact ⟨_,Tn hlt,SX h1⟩
 have hb: ∀i∈ids,i<o.length:=fun i hi=>by
  obtain ⟨k,hk⟩:=Tx hi;obtain ⟨x,_,hx⟩:=hget k i hk;exact (S7.1 hx).1
 have sigk: ∀(k i:Nat),ids[k]? = some i->sig ids o.length k=i:=fun k i hk=>by
  have hlt:=(S7.1 hk).1;rw [sig,if_pos hlt,getD_some hk]
 generalize hs:sig ids o.length=σ at *
 let out:Nat->Prop:=fun b=>b<w.heap.size∧ ∃id ob,id∉ids∧o[id]? = some (some ob)∧cr (nu id ob.hl)=some b
 let D0:Nat->Prop:=fun b=>D b∧ ¬out b
 let nu0:Nat->Nat->Value:=fun k len=>nu (σ k) len
 have obj0: ∀(k:Nat) ob,o0[k]? = some (some ob)-> ∃i,ids[k]? = some i∧σ k=i∧o[i]? = some (some (ob.aO σ)):=fun k ob hk=>by
  have hlt:k<ids.length:=by rw [<-hlen];exact (S7.1 hk).1
  have e:=Tn hlt;obtain ⟨x,q1,q2⟩:=hget k _ e;rw [hk] at q1;cases q1;exact ⟨_,e,sigk k _ e,q2⟩
 have own0: ∀b,owned nu0 o0 b->owned nu o b:=fun b ⟨k,ob,h1,h2⟩=>by
  obtain ⟨i,q1,q2,q3⟩:=obj0 k ob h1;refine ⟨i,_,q3, ?_⟩;rw [aa.dF, <- q2];exact h2
 have own0_out: ∀b,owned nu0 o0 b-> ¬out b:=fun b ⟨k,ob,h1,h2⟩ ⟨hlt,id,ob',hn,h3,h4⟩=>by
  obtain ⟨i,q1,q2,q3⟩:=obj0 k ob h1;have hne:i≠id:=fun e=>hn (by rw [<-e];exact TI q1);refine hro.sep i id _ _ b q3 h3 hne ?_ h4;rw [aa.dF, <- q2];exact h2
 have fz0: ∀b,Fz D nu o w b->Fz D0 nu0 o0 w b:=fun b hf=>⟨hf.1,fun ho=>hf.2.1 (own0 b ho),hf.2.2,fun ⟨_,id,ob,_,h3,h4⟩=>hf.2.1 ⟨id,ob,h3,h4⟩⟩
 have hdr0: ∀id len,id<ids.length->cK o (σ id) len->cK o0 id len∧nu0 id len=nu (σ id) len:=fun k len hk hh=>by
  refine ⟨?_,rfl⟩;have e:=Tn hk;obtain ⟨x,q1,q2⟩:=hget k _ e;obtain ⟨y,r1,r2⟩:=hh;rw [sigk k _ e,q2] at r1;cases r1;refine ⟨x,q1,fun ob hx=> ?_⟩;subst hx
  have:=r2 _ rfl
  rwa [aa.dF] at this
 have ro0:RO D0 nu0 o0 w:=by
  refine ⟨fun k ob hk=> ?_,fun b hlt=>⟨hro.up b hlt,fun ho=>by have:=ho.1;omega⟩,fun k k' ob ob' b h1 h2 hne h3 h4=> ?_,hro.gl.fz (fun b hf=>⟨rfl,fz0 b hf⟩)⟩
  ·obtain ⟨i,q1,q2,q3⟩:=obj0 k ob hk
   rcases hro.obj i _ q3 with ⟨e1,e2,e3⟩|⟨g,cur,hr⟩|⟨g,es,cl,hmp⟩
   ·refine .inl ⟨e1, ?_, ?_⟩
    ·have:(bI σ ob.rows).length=0:=by rw [show bI σ ob.rows=[] from e2];rfl
     rw [cM] at this;exact List.eq_nil_of_length_eq_zero this
    ·show nu (σ k) 0=_;rw [q2];exact e3
   ·have hbk:cr (nu i (ob.aO σ).hl)=some g:=hr.bn;have hg:D0 g:=⟨hr.j9,own0_out g ⟨k,ob,hk,by show cr (nu (σ k) _)=_;rw [q2, <- aa.dF σ];exact hbk⟩⟩
    have hup: ∀(j:Nat) row,ob.rows[j]? = some row->(ob.aO σ).rows[j]? = some (bo σ row):=fun j row hj=>by show (bI σ ob.rows)[j]? = _;rw [cX,hj];rfl
    have hupc: ∀(row:List AV) (j:Nat) c,row[j]? = some c->(bo σ row)[j]? = some (c.aO σ):=fun row j c hj=>by rw [bw,hj];rfl
    refine .inr (.inl ⟨g,cur,hr.cZ,hg,fun e=> ?_,fun e=> ?_,hr.z,fun j row hj=> ?_,fun j j' row c x h1 h2 h3=> ?_,fun j j' row c x h1 h2 h3=>hr.one j j' _ _ x (hup j row h1) (hupc row j' c h2) h3⟩)
    ·obtain ⟨p1,p2,p3⟩:=hr.box e
     refine ⟨?_, ?_,p3⟩
     ·show nu (σ k) 0=_;rw [q2];exact p1
     ·have:(bI σ ob.rows).length=1:=p2
      rwa [cM] at this
    ·obtain ⟨cap,p1,p2,p3,p4⟩:=hr.vec e;have el:(ob.aO σ).rows.length=ob.rows.length:=cM σ ob.rows;rw [el] at p1 p2;refine ⟨cap, ?_,p2,p3,p4⟩;show nu (σ k) _=_;rw [q2];exact p1
    ·have:=hr.row j _ (hup j row hj)
     rw [bN] at this;exact this
    ·exact (hr.cell j j' _ _ x (hup j row h1) (hupc row j' c h2) h3).yh (f:=σ) (n:=ids.length) fz0 hdr0 c (bF (gy (hwo k ob hk) h1) h2) rfl
   ·have hbk:cr (nu i (ob.aO σ).hl)=some g:=hmp.bn;have hg:D0 g:=⟨hmp.j9,own0_out g ⟨k,ob,hk,by show cr (nu (σ k) _)=_;rw [q2, <- aa.dF σ];exact hbk⟩⟩;refine .inr (.inr ⟨g,es,cl,hmp.rows rfl hg (by show nu (σ k) 0=_;rw [q2]) rfl rfl (cM σ ob.rows).symm (fun j row hj=>⟨bo σ row,by show (bI σ ob.rows)[j]? = _;rw [cX,hj];rfl,(bN σ row).symm,fun j' c hc=>⟨c.aO σ,by rw [bw,hc];rfl,fun x hx=>hx.yh (f:=σ) (n:=ids.length) fz0 hdr0 c (bF (gy (hwo k ob hk) hj) hc) rfl⟩⟩)⟩)
  ·obtain ⟨i,q1,q2,q3⟩:=obj0 k ob h1;obtain ⟨i',q1',q2',q3'⟩:=obj0 k' ob' h2;have hii:i≠i':=fun e=>hne (by rw [<-kU ids hnd k i q1, <- kU ids hnd k' i' q1',e])
   refine hro.sep i i' _ _ b q3 q3' hii ?_ ?_
   ·rw [aa.dF, <- q2];exact h3
   ·rw [aa.dF, <- q2'];exact h4
 exact ⟨ro0,own0,fz0,hdr0,obj0⟩
theorem ea.frame {f:FuncId} {args0 args:List AV} {o0:List (Option aa)} {Q:AV->List (Option aa)->Prop} (ids:List Nat) (h:ea P f args0 o0 Q) (hnd:ids.Nodup)
  (ho:ids.map (fun i=>o[i]?)=o0.map (fun x=>some (x.map (aa.aO (sig ids o.length)))))
  (hargs:args=bo (sig ids o.length) args0) (hwa:ba ids.length args0=true) (hwo: ∀(k:Nat) ob,o0[k]? = some (some ob)->bQ ids.length ob.rows=true) :
  ea P f args o (fun r o'=> ∃r0 o1,Q r0 o1∧r=r0.aO (sig ids o.length)∧o'=dE (sig ids o.length) ids o1 o):=by
 obtain ⟨hc,hq⟩:=h;refine ⟨hc,fun D nu w vargs hro hra=> ?_⟩;subst hargs;obtain ⟨ro0,own0,fz0,hdr0,obj0⟩:=qA ids hro hnd ho hwo
 have hlen:o0.length=ids.length:=by have:=congrArg List.length ho;simpa using this.symm
 have hget: ∀(k i:Nat),ids[k]? = some i-> ∃x,o0[k]? = some x∧o[i]? = some (x.map (aa.aO (sig ids o.length))):=fun k i hk=>by
  have h1:=congrArg (fun l=>l[k]?) ho;simp only [List.getElem?_map,hk,TG] at h1
  have hlt:k<o0.length:=by rw [hlen];exact (S7.1 hk).1
  rw [Tn hlt,TG] at h1;exact ⟨_,Tn hlt,SX h1⟩
 have hb: ∀i∈ids,i<o.length:=fun i hi=>by
  obtain ⟨k,hk⟩:=Tx hi;obtain ⟨x,_,hx⟩:=hget k i hk;exact (S7.1 hx).1
 have sigk: ∀(k i:Nat),ids[k]? = some i->sig ids o.length k=i:=fun k i hk=>by
  have hlt:=(S7.1 hk).1;rw [sig,if_pos hlt,getD_some hk]
 have sign: ∀k,ids.length<=k->sig ids o.length k=o.length+(k - ids.length):=fun k hk=>by rw [sig,if_neg (by omega)]
 generalize hs:sig ids o.length=σ at *
 let out:Nat->Prop:=fun b=>b<w.heap.size∧ ∃id ob,id∉ids∧o[id]? = some (some ob)∧cr (nu id ob.hl)=some b
 let D0:Nat->Prop:=fun b=>D b∧ ¬out b
 let nu0:Nat->Nat->Value:=fun k len=>nu (σ k) len
 have own0_out: ∀b,owned nu0 o0 b-> ¬out b:=fun b ⟨k,ob,h1,h2⟩ ⟨hlt,id,ob',hn,h3,h4⟩=>by
  obtain ⟨i,q1,q2,q3⟩:=obj0 k ob h1;have hne:i≠id:=fun e=>hn (by rw [<-e];exact TI q1);refine hro.sep i id _ _ b q3 h3 hne ?_ h4;rw [aa.dF, <- q2];exact h2
 have ra0:gk D0 nu0 o0 w args0 vargs:=⟨by have:=hra.len;rwa [bN] at this,fun i c x hi hx=>
  (hra.at' i (c.aO σ) x (by rw [bw,hi];rfl) hx).yh (f:=σ) (n:=ids.length) fz0 hdr0 c (bF hwa hi) rfl⟩
 refine (hq D0 nu0 w vargs ro0 ra0).mono ?_;rintro e w' ⟨v,nu1,o1,r0,rfl,hm,ro1,ra1,hQ⟩
 have hle:ids.length<=o1.length:=by
  rcases Nat.eq_zero_or_pos ids.length with q|q
  ·omega
  ·have e:=Tn (show ids.length - 1<o0.length by omega);obtain ⟨h1,_⟩:=hm.pq (ids.length - 1) 0 ⟨_,e,fun _ _=>Nat.zero_le _⟩
   have:=gI h1
   omega
 let nu':Nat->Nat->Value:=fun id len=>if id∈ids then nu1 (ids.idxOf id) len else if id<o.length then nu id len else nu1 (ids.length+(id - o.length)) len
 have nu_id: ∀(k i:Nat) len,ids[k]? = some i->nu' i len=nu1 k len:=fun k i len hk=>by
  show (if _ then _ else _)=_;rw [if_pos (TI hk),kU ids hnd k i hk]
 have nu_old: ∀id len,id∉ids->id<o.length->nu' id len=nu id len:=fun id len h1 h2=>by
  show (if _ then _ else _)=_;rw [if_neg h1,if_pos h2]
 have nu_sig: ∀k len,nu' (σ k) len=nu1 k len:=fun k len=>by
  rcases S9 k ids.length with q|q
  ·have e:=Tn q;rw [sigk k _ e];exact nu_id k _ len e
  ·rw [sign k q];show (if _ then _ else _)=_;rw [if_neg (fun hmem=>by have:=hb _ hmem;omega),if_neg (by omega)]
   congr 1;omega
 have o_sig: ∀k x,o1[k]? = some x->(dE σ ids o1 o)[σ k]? = some (x.map (aa.aO σ)):=fun k x hk=>by
  rcases S9 k ids.length with q|q
  ·have e:=Tn q;rw [sigk k _ e];exact vb σ ids o1 o hnd hb k _ x e hk
  ·rw [sign k q,rl σ ids o1 o _ hle,show ids.length+(k - ids.length)=k by omega,hk];rfl
 
 have parts: ∀id x,(dE σ ids o1 o)[id]? = some x->(∃k y,id=σ k∧o1[k]? = some y∧x=y.map (aa.aO σ))∨(id∉ids∧id<o.length∧o[id]? = some x):=fun id x hx=>by
  rcases S9 id o.length with q|q
  ·by_cases hmem:id∈ids
   ·obtain ⟨k,hk⟩:=Tx hmem
    have hk1:k<o1.length:=by have:=(S7.1 hk).1;omega
    have:=vb σ ids o1 o hnd hb k id _ hk (Tn hk1)
    rw [this] at hx;exact .inl ⟨k,_,(sigk k id hk).symm,Tn hk1,(SX hx).symm⟩
   ·rw [jA σ ids o1 o id hmem q] at hx;exact .inr ⟨hmem,q,hx⟩
  ·obtain ⟨j,rfl⟩: ∃j,id=o.length+j:=⟨id - o.length,by omega⟩;rw [rl σ ids o1 o j hle] at hx;obtain ⟨y,hy,rfl⟩:=bO hx;exact .inl ⟨ids.length+j,y,by rw [sign _ (by omega)];omega,hy,rfl⟩
 have hF1: ∀b,Fz D0 nu1 o1 w' b->Fz D nu' (dE σ ids o1 o) w' b:=fun b hf=>⟨hf.1,fun ⟨id,ob,h1,h2⟩=>by
  rcases parts id _ h1 with ⟨k,y,rfl,hy,e⟩|⟨h3,h4,h5⟩
  ·obtain ⟨ob0,rfl,rfl⟩:=bO (TS.2 (by obtain ⟨a,ha1,ha2⟩:=TS.1 e.symm;exact ⟨a,ha1,ha2⟩));rw [aa.dF,nu_sig] at h2;exact hf.2.1 ⟨k,ob0,hy,h2⟩
  ·rw [nu_old id _ h3 h4] at h2
   exact hf.2.2.2 ⟨hro.aU ⟨id,ob,h5,h2⟩,id,ob,h3,h5,h2⟩,hf.2.2.1⟩
 have hH1: ∀id len,cK o1 id len->cK (dE σ ids o1 o) (σ id) len∧nu' (σ id) len=nu1 id len:=fun k len ⟨x,h1,h2⟩=>by
  refine ⟨⟨_,o_sig k x h1,fun y hy=> ?_⟩,nu_sig k len⟩;obtain ⟨z,rfl,rfl⟩:=TS.1 hy;rw [aa.dF];exact h2 z rfl
 have hmono:bl nu o w nu' (dE σ ids o1 o) w':=by
  refine ⟨hm.os,hm.tape,hm.output,hm.size,fun id len hh=> ?_,fun b hlt hno=> ?_⟩
  ·have hlt:=gI hh
   by_cases hmem:id∈ids
   ·obtain ⟨k,hk⟩:=Tx hmem;have hkl:=(S7.1 hk).1;obtain ⟨g1,_⟩:=hdr0 k len hkl (by rw [sigk k id hk];exact hh);obtain ⟨g3,g4⟩:=hm.pq k len g1;obtain ⟨g5,g6⟩:=hH1 k len g3;rw [sigk k id hk] at g5 g6;exact ⟨g5,by rw [g6,g4];show nu (σ k) len=_;rw [sigk k id hk]⟩
   ·refine ⟨?_,nu_old id len hmem hlt⟩;obtain ⟨x,h1,h2⟩:=hh;exact ⟨x,by rw [jA σ ids o1 o id hmem hlt];exact h1,h2⟩
  ·have hno0: ¬owned nu0 o0 b:=fun ho=>hno (own0 b ho);obtain ⟨g1,g2⟩:=hm.keep b hlt hno0;refine ⟨g1,fun ⟨id,ob,h1,h2⟩=> ?_⟩
   rcases parts id _ h1 with ⟨k,y,rfl,hy,e⟩|⟨h3,h4,h5⟩
   ·obtain ⟨ob0,rfl,rfl⟩:=TS.1 e.symm;rw [aa.dF,nu_sig] at h2;exact g2 ⟨k,ob0,hy,h2⟩
   ·rw [nu_old id _ h3 h4] at h2;exact hno ⟨id,ob,h5,h2⟩
 refine ⟨v,nu',dE σ ids o1 o,r0.aO σ,rfl,hmono, ?_,ra1.aO hF1 hH1,r0,o1,hQ,rfl,rfl⟩
 refine ⟨fun id ob hid=> ?_,fun b hlt=>hro.up b (Nat.le_trans hm.size hlt),fun id id' ob ob' b h1 h2 hne h3 h4=> ?_,hro.gl.mono hmono (fun _ _ h=>h)⟩
 ·rcases parts id _ hid with ⟨k,y,rfl,hy,e⟩|⟨h3,h4,h5⟩
  ·obtain ⟨ob0,rfl,rfl⟩:=TS.1 e.symm
   rcases ro1.obj k ob0 hy with ⟨e1,e2,e3⟩|⟨g,cur,hr⟩|⟨g,es,cl,hmp⟩
   ·exact .inl ⟨e1,by show bI σ ob0.rows=[];rw [e2];rfl,by rw [nu_sig];exact e3⟩
   ·have el:(ob0.aO σ).rows.length=ob0.rows.length:=cM σ ob0.rows
    have key: ∀(i j:Nat) row c,(ob0.aO σ).rows[i]? = some row->row[j]? = some c-> ∃row0 c0,ob0.rows[i]? = some row0∧row0[j]? = some c0∧c=c0.aO σ:=fun i j row c hi hj=>by
     have hi':(bI σ ob0.rows)[i]? = some row:=hi;rw [cX] at hi';obtain ⟨row0,hr0,rfl⟩:=bO hi';rw [bw] at hj;obtain ⟨c0,hc0,rfl⟩:=bO hj;exact ⟨row0,c0,hr0,hc0,rfl⟩
    refine .inr (.inl ⟨g,cur,hr.cZ,hr.j9.1,fun e=> ?_,fun e=> ?_,hr.z,fun i row hi=> ?_,fun i j row c x g1 g2 g3=> ?_,fun i j row c x g1 g2 g3=> ?_⟩)
    ·obtain ⟨p1,p2,p3⟩:=hr.box e;exact ⟨by rw [nu_sig];exact p1,by rw [el];exact p2,p3⟩
    ·obtain ⟨cap,p1,p2,p3,p4⟩:=hr.vec e;exact ⟨cap,by rw [nu_sig,el];exact p1,by rw [el];exact p2,p3,p4⟩
    ·have hi':(bI σ ob0.rows)[i]? = some row:=hi;rw [cX] at hi';obtain ⟨row0,hr0,rfl⟩:=bO hi';rw [bN];exact hr.row i row0 hr0
    ·obtain ⟨row0,c0,q1,q2,rfl⟩:=key i j row c g1 g2;exact (hr.cell i j row0 c0 x q1 q2 g3).aO hF1 hH1
    ·obtain ⟨row0,c0,q1,q2,rfl⟩:=key i j row c g1 g2;exact hr.one i j row0 c0 x q1 q2 g3
   ·refine .inr (.inr ⟨g,es,cl,hmp.rows rfl hmp.j9.1 (nu_sig k 0) rfl rfl (cM σ ob0.rows) (fun i row hi=> ?_)⟩);have hi':(bI σ ob0.rows)[i]? = some row:=hi;rw [cX] at hi';obtain ⟨row0,hr0,rfl⟩:=bO hi';refine ⟨row0,hr0,bN σ row0,fun j c hc=> ?_⟩;rw [bw] at hc;obtain ⟨c0,hc0,rfl⟩:=bO hc;exact ⟨c0,hc0,fun x hx=>hx.aO hF1 hH1⟩
  ·rcases hro.obj id ob h5 with ⟨e1,e2,e3⟩|⟨g,cur,hr⟩|⟨g,es,cl,hmp⟩
   ·exact .inl ⟨e1,e2,by rw [nu_old id _ h3 h4];exact e3⟩
   ·have hbk:=hr.bn;have hlt:g<w.heap.size:=(S5.1 hr.cZ).1;have hno0: ¬owned nu0 o0 g:=fun ho=>own0_out g ho ⟨hlt,id,ob,h3,h5,hbk⟩;have hsame:=(hm.keep g hlt hno0).1
    refine .inr (.inl ⟨g,cur,hsame.trans hr.cZ,hr.j9,fun e=> ?_,fun e=> ?_,hr.z,hr.row,fun i j row c x g1 g2 g3=>(hr.cell i j row c x g1 g2 g3).mono hmono (fun _ _ h=>h),hr.one⟩)
    ·rw [nu_old id _ h3 h4];exact hr.box e
    ·rw [nu_old id _ h3 h4];exact hr.vec e
   ·have hbk:=hmp.bn;have hlt:g<w.heap.size:=(S5.1 hmp.cZ).1;have hno0: ¬owned nu0 o0 g:=fun ho=>own0_out g ho ⟨hlt,id,ob,h3,h5,hbk⟩;exact .inr (.inr ⟨g,es,cl,hmp.tr (hm.keep g hlt hno0).1 (fun h=>h) (nu_old id _ h3 h4) (fun i j row c x _ _ hr=>hr.mono hmono (fun _ _ h=>h))⟩)
 ·have cross: ∀(k id:Nat) (ob0 ob:aa) (b:Nat),o1[k]? = some (some ob0)->cr (nu1 k ob0.hl)=some b->id∉ids->o[id]? = some (some ob)->cr (nu id ob.hl)=some b->False:=fun k id ob0 ob b g1 g2 g3 g4 g5=>by
   rcases ro1.obj k ob0 g1 with ⟨e1,e2,e3⟩|⟨g,cur,hr⟩|⟨g,es,cl,hmp⟩
   ·simp only [aa.hl,e1,e2,if_true,List.length_nil,e3,cr,cP] at g2;cases g2
   ·have hbk:=hr.bn;rw [hbk] at g2;cases g2;exact hr.j9.2 ⟨hro.aU ⟨id,ob,g4,g5⟩,id,ob,g3,g4,g5⟩
   ·have hbk:=hmp.bn;rw [hbk] at g2;cases g2;exact hmp.j9.2 ⟨hro.aU ⟨id,ob,g4,g5⟩,id,ob,g3,g4,g5⟩
  rcases parts id _ h1 with ⟨k,y,rfl,hy,e⟩|⟨p3,p4,p5⟩
  ·obtain ⟨ob0,rfl,rfl⟩:=TS.1 e.symm;rw [aa.dF,nu_sig] at h3
   rcases parts id' _ h2 with ⟨k',y',rfl,hy',e'⟩|⟨p3',p4',p5'⟩
   ·obtain ⟨ob0',rfl,rfl⟩:=TS.1 e'.symm;rw [aa.dF,nu_sig] at h4;exact ro1.sep k k' ob0 ob0' b hy hy' (fun e=>hne (by rw [e])) h3 h4
   ·rw [nu_old id' _ p3' p4'] at h4;exact cross k id' ob0 ob' b hy h3 p3' p5' h4
  ·rw [nu_old id _ p3 p4] at h3
   rcases parts id' _ h2 with ⟨k',y',rfl,hy',e'⟩|⟨p3',p4',p5'⟩
   ·obtain ⟨ob0',rfl,rfl⟩:=TS.1 e'.symm;rw [aa.dF,nu_sig] at h4;exact cross k' id ob0' ob b hy' h4 p3 p5 h3
   ·rw [nu_old id' _ p3' p4'] at h4;exact hro.sep id id' ob ob' b p5 p5' hne h3 h4
def aR (P:Program) (f:FuncId) (args:List AV) (o:List (Option aa)) (r:AV) (o':List (Option aa)):Prop:=ea P f args o (fun r' o''=>r'=r∧o''=o')
theorem ab.fr {f:FuncId} {args args0:List AV} {o0 o1:List (Option aa)} {r0:AV} {K:AV->List (Option aa)->Prop} (ids:List Nat) (h:aR P f args0 o0 r0 o1) (hnd:ids.Nodup)
  (ho:ids.map (fun i=>o[i]?)=o0.map (fun x=>some (x.map (aa.aO (sig ids o.length)))))
  (hargs:args=bo (sig ids o.length) args0) (hwa:ba ids.length args0=true) (hwo: ∀(k:Nat) ob,o0[k]? = some (some ob)->bQ ids.length ob.rows=true)
  (k:K (r0.aO (sig ids o.length)) (dE (sig ids o.length) ids o1 o)):ab P f args o K:=
 .two (ea.frame ids h hnd ho hargs hwa hwo) (fun r o' hh=>by
  obtain ⟨r1,o2,⟨rfl,rfl⟩,rfl,rfl⟩:=hh
  exact k)
def R3 (n:Nat) (o2:List (Option aa)) (r0 r:AV) (o':List (Option aa)):Prop:=bd o'.length [r0] [r]∧bj o'.length o2 o'∧n<=o'.length
theorem aR.enter {f:FuncId} {fn:Func} {c:Code} {args:List AV} {r:AV} {o':List (Option aa)} (hf:P.funcs[f]? = some fn) (hb:fn.body=some c) (hc:df P f=true) (hok:a8 c=true) (hmx:P.follows .mixedOrders=true)
  (h:bK P o.length c ⟨args++List.replicate (fn.ntmps - args.length) .undef,o, .no⟩ (vO P fn.results.toList (fun r0 o2=>R3 o.length o2 r0 r o'))):aR P f args o r o':=by
 obtain ⟨hc',h2⟩:=ea.enter hf hb hc hok hmx h;refine ⟨hc',fun D nu w vargs hro hra=>(h2 D nu w vargs hro hra).mono ?_⟩;rintro e w' ⟨v,nu',o2,r0,rfl,hm,hro',hra',hw⟩
 have hs:RS ⟨0,none,fun _=>False⟩ D nu' ⟨[r0],o2, .no⟩ { tmps:= #[v],defers:=[] } w':=⟨hro',⟨rfl,fun i c x h1 h2=>by
  match i,h1,h2 with
  | 0,h1,h2=>cases h1;cases h2;exact hra'
  | i+1,h1,h2=>simp at h1⟩,⟨Nat.zero_le _,⟨[],List.nodup_nil,rfl,fun x hx=>(by cases hx)⟩,fun l hl=>by cases hl⟩⟩
 have hk:Wk o.length ⟨[r0],o2, .no⟩ ⟨[r],o', .no⟩:=⟨hw.1,hw.2.1,hw.2.2,rfl⟩;have k2:=gB hk hs;exact ⟨v,nu',o',r,rfl,hk.mono (Nat.le_refl _) hm,k2.ro,k2.tm.at' 0 r v rfl rfl,rfl,rfl⟩
mutual
theorem vi (f:Nat->Nat): ∀a:AV,a.wf 0=true->a.aO f=a
 | .undef,_=>rfl
 | .v _,_=>rfl
 | .agg cs,h=>by rw [AV.aO,dK f cs h]
 | .ct cs,h=>by rw [AV.aO,dK f cs h]
 | .aI z rows len,h=>by rw [AV.aO,bc f rows h]
 | .vp cs,h=>by rw [AV.aO,dK f cs h]
 | .ptr id _ _ _ _,h=>by simp [AV.wf] at h
 | .vec id _,h=>by simp [AV.wf] at h
 | .fn g a b,h=>by
  simp only [AV.wf,TY] at h;rw [AV.aO,dK f a h.1,dK f b h.2]
 | .full a,h=>by rw [AV.aO,vi f a h]
 | .fp p a,h=>by rw [AV.aO,vi f a h]
 | .mp rows,h=>by rw [AV.aO,bc f rows h]
theorem dK (f:Nat->Nat): ∀l:List AV,ba 0 l=true->bo f l=l
 | [],_=>rfl
 | a :: l,h=>by
  simp only [ba,TY] at h;rw [bo,vi f a h.1,dK f l h.2]
theorem bc (f:Nat->Nat): ∀l:List (List AV),bQ 0 l=true->bI f l=l
 | [],_=>rfl
 | a :: l,h=>by
  simp only [bQ,TY] at h;rw [bI,dK f a h.1,bc f l h.2]
end
def bX (m:Nat) (t:List AV):List AV:=t.take m++List.replicate (t.length - m) .undef
def jG (t:List AV) (l:List (Nat×AV)):List AV:=l.foldl (fun t p=>t.set p.1 p.2) t
theorem cI {n0:Nat} {Q:aJ->AS->Prop} {ι:Type} {c:Code} {t:List AV} {o:List (Option aa)} {y:iz} (m:Nat) (upd:ι->List (Nat×AV)) (mu:ι->Nat) (ok:ι->Prop) (i0:ι) (h3:ok i0) (h2:Wk n0 ⟨t,o,y⟩ ⟨jG (bX m t) (upd i0),o,y⟩)
  (h: ∀i,ok i-> ∀K:AS->Prop,(∀s2,aP n0 (fun i=>⟨jG (bX m t) (upd i),o,y⟩) mu ok (mu i) s2->K s2)->bK P n0 c ⟨jG (bX m t) (upd i),o,y⟩ (lq K Q)):bK P n0 (.loop c) ⟨t,o,y⟩ Q:=
 j6 (fun i=>⟨jG (bX m t) (upd i),o,y⟩) mu ok i0 _ .refl h2 h3 h
theorem bW {n0:Nat} {Q:aJ->AS->Prop} {ι:Type} {c:Code} {t:List AV} {o:List (Option aa)} {y:iz} (m:Nat) (upd:ι->List (Nat×AV)) (ob:ι->List (Option aa)) (mu:ι->Nat) (ok:ι->Prop) (i0:ι) (h3:ok i0) (h2:Wk n0 ⟨t,o,y⟩ ⟨jG (bX m t) (upd i0),ob i0,y⟩)
  (h: ∀i,ok i-> ∀K:AS->Prop,(∀s2,aP n0 (fun i=>⟨jG (bX m t) (upd i),ob i,y⟩) mu ok (mu i) s2->K s2)->bK P n0 c ⟨jG (bX m t) (upd i),ob i,y⟩ (lq K Q)):bK P n0 (.loop c) ⟨t,o,y⟩ Q:=
 j6 (fun i=>⟨jG (bX m t) (upd i),ob i,y⟩) mu ok i0 _ .refl h2 h3 h
theorem sC {n0:Nat} {Q:aJ->AS->Prop} {ι:Type} {c:Code} {t:List AV} {o:List (Option aa)} {y:iz} (d:Nat) (T:TypeId) (z:Nat) (hd:t[d]? = some (.v (.slice none 0 0))) (hz:0<z) (m:Nat) (upd:ι->List (Nat×AV)) (ob:ι->List (Option aa)) (mu:ι->Nat) (ok:ι->Prop) (i0:ι) (h3:ok i0)
  (h2:Wk n0 ⟨t.set d (.vec o.length 0),o++[some ⟨T,z,true,[]⟩],y⟩ ⟨jG (bX m t) (upd i0),ob i0,y⟩)
  (h: ∀i,ok i-> ∀K:AS->Prop,(∀s2,aP n0 (fun i=>⟨jG (bX m t) (upd i),ob i,y⟩) mu ok (mu i) s2->K s2)->bK P n0 c ⟨jG (bX m t) (upd i),ob i,y⟩ (lq K Q)):bK P n0 (.loop c) ⟨t,o,y⟩ Q:=
 j6 (fun i=>⟨jG (bX m t) (upd i),ob i,y⟩) mu ok i0 _ (.step d T z ⟨t,o,y⟩ .refl hd hz) h2 h3 h
end
attribute [go_sem] Value.oneCell' bo bI AV.aO aa.aO sig dE bc bX jG List.foldl_cons List.foldl_nil
end
section
structure jW where
 G:Type
 wd:G->World
 R:G->G->Prop
 Qj: ∀g,R g g
 trans': ∀a b c,R a b->R b c->R a c
 pre:Nat->G->Prop
structure fI (N:jW) where
 p:Value->N.G->Prop
 st: ∀v g g',N.R g g'->p v g->p v g'
def fI.any {N:jW}:fI N:=⟨fun _ _=>True,fun _ _ _ _ _=>trivial⟩
def uq {N:jW} (L:List (fI N)) (i:Nat):fI N:=L.getD i fI.any
section
variable {P:Program} {ops:Array Oper} {N:jW}
def PW (P:Program) (S:fI N) (j:Nat) (g:N.G):Result Next->Prop
 | .ok (.value u) w'=> ∃g',N.wd g'=w'∧N.R g g'∧(∀i,i≠j->N.pre i g->N.pre i g')∧S.p u g'
 | .ok .skip w'=> ∃g',N.wd g'=w'∧N.R g g'∧(∀i,i≠j->N.pre i g->N.pre i g')∧S.p undef g'
 | .ok (.enter f args) w'=>Calls P f args w' (fun e w''=> ∃v g',e = .returned v∧N.wd g'=w''∧N.R g g'∧(∀i,i≠j->N.pre i g->N.pre i g')∧S.p v g')
 | _=>False
end
end
section
mutual
theorem Ab: ∀a:AV,a.aO (fun x=>x)=a
 | .undef=>rfl
 | .v _=>rfl
 | .agg cs=>by rw [AV.aO,jE cs]
 | .ct cs=>by rw [AV.aO,jE cs]
 | .aI z rows len=>by rw [AV.aO,vd rows]
 | .vp cs=>by rw [AV.aO,jE cs]
 | .ptr id _ _ _ _=>rfl
 | .vec id _=>rfl
 | .fn g a b=>by rw [AV.aO,jE a,jE b]
 | .full a=>by rw [AV.aO,Ab a]
 | .fp p a=>by rw [AV.aO,Ab a]
 | .mp rows=>by rw [AV.aO,vd rows]
theorem jE: ∀l:List AV,bo (fun x=>x) l=l
 | []=>rfl
 | a :: l=>by rw [bo,Ab a,jE l]
theorem vd: ∀l:List (List AV),bI (fun x=>x) l=l
 | []=>rfl
 | a :: l=>by rw [bI,jE a,vd l]
end
section
variable {D D':Nat->Prop} {nu nu':Nat->Nat->Value} {o o':List (Option aa)} {w w':World} {P:Program}
end
structure BG (w0:World) (tz:Nat->TypeId×Nat) where
 w:World
 n:Nat->Option (Nat×Option (Array Value))
 base:Below w0.heap.size w0 w
 lay: ∀i b c,n i=some (b,c)->w0.heap.size<=b∧ ∃C:Array Value,w.heap[b]? = some (.cells C (tz i).1 (0,0))∧C.size=(tz i).2∧(∀x∈C.toList,x.oneCell'=true)∧ ∀C',c=some C'->C=C'
 inj: ∀i j b c c',n i=some (b,c)->n j=some (b,c')->i=j
def BG.box {w0:World} {tz:Nat->TypeId×Nat} (g:BG w0 tz) (b:Nat):Prop:= ∃i c,g.n i=some (b,c)
def BG.Sv {w0:World} {tz:Nat->TypeId×Nat} (g:BG w0 tz) (b:Nat):Prop:= ∃i,g.n i=some (b,none)
structure BR {w0:World} {tz:Nat->TypeId×Nat} (g g':BG w0 tz):Prop where
 size:g.w.heap.size<=g'.w.heap.size
 same: ∀b,b<g.w.heap.size-> ¬g.Sv b->g'.w.heap[b]? = g.w.heap[b]?
 up: ∀i b c,g.n i=some (b,c)-> ∃c',g'.n i=some (b,c')∧ ∀C,c=some C->c'=some C
 new: ∀i b c,g'.n i=some (b,c)->b<g.w.heap.size-> ∃c',g.n i=some (b,c')
def Rp (l:List Oper) (j i:Nat):Prop:= ∃T d x oj oi U,l[j]? = some oj∧oj.op = .store T (.tmp d) x∧l[i]? = some oi∧oi.op = .alloc U∧oi.dst=some d
def Dx {w0:World} {tz:Nat->TypeId×Nat} (D:Nat->Prop) (g:BG w0 tz) (b:Nat):Prop:=D b∧ ¬g.box b
section
variable {w0:World} {tz:Nat->TypeId×Nat} {l:List Oper} {D:Nat->Prop} {nu:Nat->Nat->Value} {o:List (Option aa)} {P:Program}
inductive BE where
 | val (r:AV)
 | al
 | st (i:Nat) (row:List AV)
def BG.next (g:BG w0 tz) (w':World) (h:Below g.w.heap.size g.w w'):BG w0 tz:=⟨w',g.n,cB g.base h,fun i b c hi=>by
 obtain ⟨h1,C,h2,h3⟩:=g.lay i b c hi
 exact ⟨h1,C,(h.block b (S5.1 h2).1).trans h2,h3⟩,g.inj⟩
structure Bx where
 d:Tmp
 k:Nat
 T:TypeId
 z:Nat
 row:Option (List AV)
def y5 (d:Tmp):List Bx->Option Bx
 | []=>none
 | b :: l=>if b.d=d then some b else y5 d l
def EJ (d:Tmp) (r:List AV):List Bx->List Bx
 | []=>[]
 | b :: l=>if b.d=d then { b with row:=some r } :: l else b :: EJ d r l
def qe:AS->List Bx->AS
 | s,[]=>s
 | s,b :: l=>qe ⟨s.t.set b.d (.ptr s.o.length 0 b.z 0 0),s.o++[some ⟨b.T,b.z,false,[b.row.getD []]⟩],s.y⟩ l
def Ha:Option (Nat×Bool)->Option Tmp->Option (List AV)->Nat->(Tmp->Nat->Prop)->Prop
 | none,some d,some cs,n,K=>(0<cs.length∧d<n)∧K d cs.length
 | _,_,_,_,_=>False
def Hb:Option (Nat×Bool)->Option Tmp->Option Bx->Option (List AV)->Option Nat->(List AV->Prop)->Prop
 | none,none,some b,some cs,some n,K=>(cs.length=n∧n=b.z∧b.row.isNone=true∧ba 0 cs=true)∧K cs
 | _,_,_,_,_,_=>False
def yx (P:Program) (all:List Oper):List Oper->Nat->AS->List Bx->(AS->Prop)->Prop
 | [],_,s,bx,Q=>bx.all (fun b=>b.row.isSome)=true∧Q (qe s bx)
 | oo :: rest,k,s,bx,Q=>match oo.op with
  | .alloc T=>Ha oo.guard oo.dst (b6 P T) s.t.length (fun d z=>yx P all rest (k+1) (s.put (some d) .undef s.o) (bx++[⟨d,k,T,z,none⟩]) Q)
  | .store T (.tmp d) x=>Hb oo.guard oo.dst (y5 d bx) (s.ev x).cells? (aY P T) (fun cs=>yx P all rest (k+1) (s.put oo.dst .undef s.o) (EJ d cs bx) Q)
  | _=>match oo.guard with
   | none=>cO P oo.op s (fun r=>yx P all rest (k+1) (s.put oo.dst r s.o) bx Q)
   | some (j,want)=>rP (iJ all s j) want (cO P oo.op s (fun r=>yx P all rest (k+1) (s.put oo.dst r s.o) bx Q)) (yx P all rest (k+1) (s.put oo.dst (.v Go.undef) s.o) bx Q)
def Kc (o:Oper):Option Tmp:=match o.op with
 | .store _ (.tmp d) _=>some d
 | _=>none
def MN (o:Oper):Option Tmp:=match o.op with
 | .alloc _=>o.dst
 | _=>none
def Se (ops:Array Oper):Bool:=(List.range ops.size).all fun j=>(List.range ops.size).all fun i=>match ops[j]?,ops[i]? with
 | some oj,some oi=>match Kc oj with
  | some d=>(i==j||Kc oi !=some d)&&(MN oi !=some d||az ops j i)
  | none=>true
 | _,_=>true
structure R5 (l:List Oper) (tz:Nat->TypeId×Nat) (s:AS) (a:Act) (k:Nat) (sk:AS) (rs:List BE) (A:(Nat->Value)->Act) (bx:List Bx):Prop where
 o:sk.o=s.o
 y:sk.y=s.y
 len:rs.length=k
 ig: ∀x,(A x).defers=a.defers
 size: ∀x,sk.t.length=(A x).tmps.size
 val: ∀x (t:Nat) c v,sk.t[t]? = some c->(A x).tmps[t]? = some v->c = .undef∨(s.t[t]? = some c∧a.tmps[t]? = some v)∨ ∃i,i<k∧(∃oi,l[i]? = some oi∧oi.dst=some t)∧rs[i]? = some (.val c)∧v=x i
 box: ∀b,b∈bx->b.k<k∧rs[b.k]? = some .al∧(∃oi,l[b.k]? = some oi∧oi.op = .alloc b.T∧oi.dst=some b.d)∧tz b.k=(b.T,b.z)∧0<b.z∧(∀x,(A x).tmps[b.d]? = some (x b.k))∧(∀r,b.row=some r->r.length=b.z∧ ∃j,j<k∧rs[j]? = some (.st b.k r))
 Rr:(bx.map Bx.k).Nodup
end
end
section
section
variable {w0:World} {tz:Nat->TypeId×Nat} {l:List Oper} {D:Nat->Prop} {nu:Nat->Nat->Value} {o:List (Option aa)} {P:Program}
end
end
section
section
variable {l:List Oper} {D:Nat->Prop} {nu:Nat->Nat->Value} {o:List (Option aa)} {P:Program}
theorem En {all:List Oper} {k:Nat} {s:AS} {bx:List Bx} {Q:AS->Prop} (h:bx.all (fun b=>b.row.isSome)=true∧Q (qe s bx)):yx P all [] k s bx Q:=h
end
@[go_sem] theorem LQ (d:Tmp) (cs:List AV) (n:Nat) (K:Tmp->Nat->Prop):Ha none (some d) (some cs) n K=((0<cs.length∧d<n)∧K d cs.length):=rfl
@[go_sem] theorem LR (b:Bx) (cs:List AV) (n:Nat) (K:List AV->Prop):Hb none none (some b) (some cs) (some n) K=((cs.length=n∧n=b.z∧b.row.isNone=true∧ba 0 cs=true)∧K cs):=rfl
@[congr] theorem Kj {g:Option (Nat×Bool)} {d:Option Tmp} {x y:Option (List AV)} {n m:Nat} {K:Tmp->Nat->Prop} (h:x=y) (k:n=m):Ha g d x n K=Ha g d y m K:=by rw [h,k]
@[congr] theorem Kk {g:Option (Nat×Bool)} {d:Option Tmp} {b b':Option Bx} {x y:Option (List AV)} {n m:Option Nat} {K:List AV->Prop} (h1:b=b') (h:x=y) (k:n=m):Hb g d b x n K=Hb g d b' y m K:=by rw [h1,h,k]
attribute [go_sem] List.all_cons List.all_nil y5 EJ qe Option.isNone_none Option.isSome_some Option.getD_some
@[go_sem] theorem Mt (t:List AV) (o:List (Option aa)) (y:iz):(AS.mk t o y).t=t:=rfl
end
section
structure yF (X:Nat->Prop) (w w':World):Prop where
 os:w'.os=w.os
 tape:w'.tape=w.tape
 output:w'.output=w.output
 size:w.heap.size<=w'.heap.size
 same: ∀b,b<w.heap.size-> ¬X b->w'.heap[b]? = w.heap[b]?
structure Ea (T:Nat->Prop) (w w':World):Prop where
 os:w'.os=w.os
 tape:w'.tape=w.tape
 output:w'.output=w.output
 size:w.heap.size<=w'.heap.size
 same: ∀b,b<w.heap.size->T b->w'.heap[b]? = w.heap[b]?
structure sq (P:Program) (l:Nat) where
 J:List (List AV)->(Nat->Prop)->(Nat->Prop)->World->Prop
 Jx:(Nat->Prop)->(Nat->Prop)->World->Prop
 St:Nat->Prop
 lB: ∀ {rest X T X' w w'},J rest X T w->yF X w w'->(∀b,X' b->b<w'.heap.size∧(X b∨w.heap.size<=b))->J rest X' (fun b=>T b∨(w.heap.size<=b∧b<w'.heap.size)) w'
 yP: ∀ {X T X' w w'},Jx X T w->yF X w w'->(∀b,X' b->b<w'.heap.size∧(X b∨w.heap.size<=b))->Jx X' (fun b=>T b∨(w.heap.size<=b∧b<w'.heap.size)) w'
 round: ∀ {x rest X T w D nu} {vals:Array Value},J (x :: rest) X T w->gk D nu [] w x vals->ba 0 x=true->(∀b,b<w.heap.size->D b->(T b∨St b)∧ ¬X b) ->
  YieldAt (WF none) 8 P l vals w (fun e w'=>Ea (fun b=>T b∨St b) w w'∧((e = .returned (.bool true)∧J rest X T w')∨(e = .returned (.bool false)∧Jx X T w')))
section
variable {D:Nat->Prop} {nu:Nat->Nat->Value} {o:List (Option aa)} {w:World} {P:Program}
def Mq {l:Nat} (pr:sq P l) (X T:Nat->Prop) (w:World):iz->Prop
 | .no=>False
 | .run l' rest=>l'=l∧pr.J rest X T w
 | .off=>pr.Jx X T w
theorem Mq.lB {l:Nat} {pr:sq P l} {X T X':Nat->Prop} {w w':World} {y:iz} (h:Mq pr X T w y) (ha:yF X w w') (hx: ∀b,X' b->b<w'.heap.size∧(X b∨w.heap.size<=b)):Mq pr X' (fun b=>T b∨(w.heap.size<=b∧b<w'.heap.size)) w' y:=by
 cases y with
 | no=>exact h.elim
 | run l' rest=>exact ⟨h.1,pr.lB h.2 ha hx⟩
 | off=>exact pr.yP h ha hx
def zT (P:Program) (n0:Nat) {l:Nat} (pr:sq P l):WM P where
 n0:=n0
 fix:=fun _=>False
 M:=fun D nu o Z y w=> ∃X T,(∀b,owned nu o b->X b)∧(∀b,Z b->X b)∧(∀b,X b->T b)∧(∀b,T b->b<w.heap.size)∧(∀b,X b->owned nu o b∨ ¬D b)∧(∀b,Z b-> ¬D b)∧(∀b,b<w.heap.size->D b->T b∨pr.St b)∧n0<=o.length∧Mq pr X T w y
 step:=fun {D D' nu o Z Z' y w nu' o' w'} h hro hm hro' _ hD hDZ hZ hn=>by
  obtain ⟨X,T,h1,h2,h3,h4,h5,h5',h6,h7,h8⟩:=h
  have hX: ∀b,(owned nu' o' b∨Z' b∨(X b∧ ¬D' b))->b<w'.heap.size∧(X b∨w.heap.size<=b):=fun b hb=>by
   rcases hb with q|q|q
   ·refine ⟨hro'.aU q, ?_⟩
    rcases S9 b w.heap.size with hlt|hge
    ·by_cases ho:owned nu o b
     ·exact .inl (h1 b ho)
     ·by_cases hz:Z b
      ·exact .inl (h2 b hz)
      ·exact absurd q (hm.keep b hlt ho hz).2
    ·exact .inr hge
   ·refine ⟨(hZ b q).1, ?_⟩
    rcases (hZ b q).2.2 with r|r|r
    ·exact .inl (h2 b r)
    ·exact .inl (h1 b r)
    ·exact .inr r
   ·exact ⟨S4 (h4 b (h3 b q.1)) hm.size, .inl q.1⟩
  refine ⟨fun b=>owned nu' o' b∨Z' b∨(X b∧ ¬D' b),fun b=>T b∨(w.heap.size<=b∧b<w'.heap.size),fun b h=> .inl h,fun b h=> .inr (.inl h),fun b hb=> ?_,fun b hb=> ?_,fun b hb=> ?_,fun b hb=>(hZ b hb).2.1,fun b hlt hd=> ?_,hn, ?_⟩
  ·obtain ⟨q1,q2⟩:=hX b hb
   rcases q2 with q2|q2
   ·exact .inl (h3 b q2)
   ·exact .inr ⟨q2,q1⟩
  ·rcases hb with q|q
   ·exact S4 (h4 b q) hm.size
   ·exact q.2
  ·rcases hb with q|q|q
   ·exact .inl q
   ·exact .inr (hZ b q).2.1
   ·exact .inr q.2
  ·rcases S9 b w.heap.size with hb|hb
   ·rcases hD b hd with q|q
    ·rcases h6 b hb q with q|q
     ·exact .inl (.inl q)
     ·exact .inr q
    ·exact .inl (.inl (h3 b (h2 b q)))
   ·exact .inl (.inr ⟨hb,hlt⟩)
  ·exact h8.lB ⟨hm.os,hm.tape,hm.output,hm.size,fun b hb hx=>(hm.keep b hb (fun ho=>hx (h1 b ho)) (fun hz=>hx (h2 b hz))).1⟩ hX
 mi:=fun h=>by
  obtain ⟨X,T,h1,h2,h3,h4,h5,h5',h6,h7,h8⟩:=h;exact ⟨fun b hb=>⟨h4 b (h3 b (h2 b hb)),h5' b hb⟩,h7,fun b hb=>hb.elim⟩
 yield:=fun {D nu o Z l' x rest w vals} h hro hra hw=>by
  obtain ⟨X,T,h1,h2,h3,h4,h5,h5',h6,h7,rfl,h8⟩:=h
  have hF: ∀b,Fz D nu o w b->Fz (fun b=>D b∧ ¬X b) nu [] w b:=fun b hf=>⟨hf.1,bb _ _,hf.2.2,fun hx=>by
   rcases h5 b hx with q|q
   ·exact hf.2.1 q
   ·exact q hf.2.2⟩
  have hra':gk (fun b=>D b∧ ¬X b) nu [] w x vals:=⟨hra.len,fun i c v q1 q2=>(hra.at' i c v q1 q2).tr (n:=0) hF (fun id len hlt=>by omega) (bF hw q1)⟩;obtain ⟨fn,tmps,assign,body,hrun,hround⟩:=pr.round h8 hra' hw (fun b hb hd=>⟨h6 b hb hd.1,hd.2⟩);refine ⟨fn,tmps,assign,body,hrun,hround.mono fun e w' he=> ?_⟩;obtain ⟨hk,he⟩:=he
  have hM: ∀y,Mq pr X T w' y-> ∃X T,(∀b,owned nu o b->X b)∧(∀b,Z b->X b)∧(∀b,X b->T b)∧(∀b,T b->b<w'.heap.size)∧(∀b,X b->owned nu o b∨ ¬(D b∧ ¬(w.heap.size<=b∧b<w'.heap.size)))∧(∀b,Z b-> ¬(D b∧ ¬(w.heap.size<=b∧b<w'.heap.size))) ∧
    (∀b,b<w'.heap.size->(D b∧ ¬(w.heap.size<=b∧b<w'.heap.size))->T b∨pr.St b)∧n0<=o.length∧Mq pr X T w' y:=fun y hy=>by
   refine ⟨X,T,h1,h2,h3,fun b hb=>S4 (h4 b hb) hk.size,fun b hb=> ?_,fun b hb hd=>h5' b hb hd.1,fun b hlt hd=> ?_,h7,hy⟩
   ·rcases h5 b hb with q|q
    ·exact .inl q
    ·exact .inr (fun hd=>q hd.1)
   ·exact h6 b (by have:=hd.2;omega) hd.1
  refine ⟨⟨hk.os,hk.tape,hk.output,hk.size,fun b hb hh=>hk.same b hb ?_⟩, ?_⟩
  ·rcases hh with q|q|q|q
   ·exact h6 b hb q
   ·exact .inl (h3 b (h2 b q))
   ·exact .inl (h3 b (h1 b q))
   ·exact q.elim
  ·rcases he with ⟨rfl,hj⟩|⟨rfl,hj⟩
   ·exact .inl ⟨rfl,hM _ ⟨rfl,hj⟩⟩
   ·exact .inr ⟨rfl,hM _ hj⟩
def nz (P:Program) (gf:FuncId) (caps:List AV) (oI:List (Option aa)) (L:List (List AV)):Prop:=
 df P gf=true∧ ∀(l:Nat) (pr:sq P l) (D:Nat->Prop) (nu:Nat->Nat->Value) (w:World) (vargs:Array Value) (X:Nat->Prop),RO D nu oI w->gk D nu oI w caps vargs->(∀b,owned nu oI b->X b)->(∀b,X b->owned nu oI b)->(∀b,b<w.heap.size->D b->X b∨pr.St b)->(∀b,pr.St b->b<w.heap.size)->pr.J L X X w ->
  Calls P gf (#[.func (.yield l) #[] #[]]++vargs) w (fun e w'=>(∃v,e = .returned v)∧ ∃X' T',pr.J [] X' T' w'∨pr.Jx X' T' w')
def yJ (c:Bool) (P:Program) (gf:FuncId) (caps:List AV) (oI:List (Option aa)) (L:List (List AV)):Prop:=
 df P gf=true∧ ∀(l:Nat) (pr:sq P l),(c=true-> ∀rest rest' X T w,rest.Perm rest'->pr.J rest X T w->pr.J rest' X T w)-> ∀(D:Nat->Prop) (nu:Nat->Nat->Value) (w:World) (vargs:Array Value) (X:Nat->Prop),RO D nu oI w->gk D nu oI w caps vargs->(∀b,owned nu oI b->X b)->(∀b,X b->owned nu oI b)->(∀b,b<w.heap.size->D b->X b∨pr.St b)->(∀b,pr.St b->b<w.heap.size)->pr.J L X X w ->
  Calls P gf (#[.func (.yield l) #[] #[]]++vargs) w (fun e w'=>(∃v,e = .returned v)∧ ∃X' T',pr.J [] X' T' w'∨pr.Jx X' T' w')
def DU (P:Program) (rs:List ResultVar) (l:Nat) (e:aJ) (s:AS):Prop:=match e with
 | .ret| .normal=>lp (jZ P s rs) s.o (fun _ _=>s.y = .run l []∨s.y = .off)
 | _=>False
theorem nz.enter {gf:FuncId} {fn:Func} {c:Code} {caps:List AV} {oI:List (Option aa)} {L:List (List AV)} (hf:P.funcs[gf]? = some fn) (hb:fn.body=some c) (hc:df P gf=true) (hok:a8 c=true) (hmx:P.follows .mixedOrders=true)
  (h: ∀l,bK P oI.length c ⟨(.v (.func (.yield l) #[] #[]) :: caps)++List.replicate (fn.ntmps - (AV.v (.func (.yield l) #[] #[]) :: caps).length) .undef,oI, .run l L⟩ (DU P fn.results.toList l)):nz P gf caps oI L:=by
 refine ⟨hc,fun l pr D nu w vargs X hro ha hx hx' hD hSt hJ=>qf (n:=9) (callsIn_of_wp_marks hf hb trivial ?_ rfl)⟩
 have ha':gk D nu oI w (.v (.func (.yield l) #[] #[]) :: caps) (#[.func (.yield l) #[] #[]]++vargs):=by
  refine ⟨by simp [ha.len];omega,fun i c v h1 h2=> ?_⟩
  cases i with
  | zero=>
   rw [Array.getElem?_append_left (by simp)] at h2;simp at h1 h2;subst h1;subst h2;exact .v _
  | succ i=>
   refine ha.at' i c v (by simpa using h1) ?_;rw [Array.getElem?_append_right (by simp)] at h2;simpa using h2
 have hs:RS ⟨w.heap.size,none,fun _=>False⟩ D nu ⟨(.v (.func (.yield l) #[] #[]) :: caps)++List.replicate (fn.ntmps - (AV.v (.func (.yield l) #[] #[]) :: caps).length) .undef,oI, .run l L⟩ { tmps:=(#[Value.func (.yield l) #[] #[]]++vargs)++Array.replicate (fn.ntmps - (#[Value.func (.yield l) #[] #[]]++vargs).size) Go.undef,defers:=[] } w:=wN rfl (SY _) hro ha';have hX: ∀b,X b->b<w.heap.size:=fun b hb=>hro.aU (hx' b hb);have hM:(zT P oI.length pr).M D nu oI (fun _=>False) (.run l L) w:=⟨X,X,hx,fun b hb=>hb.elim,fun b hb=>hb,hX,fun b hb=> .inl (hx' b hb),fun b hb=>hb.elim,hD,SY _,rfl,hJ⟩
 have fin: ∀(D' Z':Nat->Prop) (s':AS) (a':Act) (w':World) (nu':Nat->Nat->Value),(zT P oI.length pr).M D' nu' s'.o Z' s'.y w'->RS ⟨w.heap.size,none,Z'⟩ D' nu' s' a' w'->lp (jZ P s' fn.results.toList) s'.o (fun _ _=>s'.y = .run l []∨s'.y = .off) ->
   LeavesInM (WF none) 9 P fn a'.tmps (fun e w'=>(∃v,e = .returned v)∧ ∃X' T',pr.J [] X' T' w'∨pr.Jx X' T' w') a'.defers .returning w':=fun D' Z' s' a' w' nu' h1 h2 h3=>by
  obtain ⟨rs,k1,k2,k3⟩:=h2.ig.marks;rw [k2];refine jt (B:=w.heap.size) rs w' k1 (fun x hx=>⟨(k3 x hx).1,(k3 x hx).2.2⟩) (fun w2 hs2 hoth=> ?_);obtain ⟨X',T',g1,g2,g3,g4,g5,g5',g6,g7,g8⟩:=h1;have h2':RS ⟨w.heap.size,none,Z'⟩ D' nu' s' { tmps:=a'.tmps,defers:=[] } w2:=⟨hs2.ro h2.ro,⟨h2.tm.len,fun i c x q1 q2=>hs2.ra (h2.tm.at' i c x q1 q2)⟩,⟨by rw [hs2.size];exact h2.ig.base,⟨[],Uc,rfl,fun x hx=>(by cases hx)⟩,fun l hl=>by cases hl⟩⟩;obtain ⟨v,r,q1,q2,q3⟩:=xL h2' h3;have ha2:yF X' w' w2:=⟨hs2.os,hs2.tape,hs2.output,Nat.le_of_eq hs2.size.symm,fun b _ hb=>hoth b (fun hbr=>hb (g2 b (k3 b hbr).2.1))⟩;have hx2: ∀b,X' b->b<w2.heap.size∧(X' b∨w'.heap.size<=b):=fun b hb=>⟨by rw [hs2.size];exact g4 b (g3 b hb), .inl hb⟩;refine ⟨v,q1,⟨v,rfl⟩,X',(fun b=>T' b∨(w'.heap.size<=b∧b<w2.heap.size)), ?_⟩
  rcases q3 with e|e
  ·rw [e] at g8;exact .inl (pr.lB g8.2 ha2 hx2)
  ·rw [e] at g8;exact .inr (pr.yP g8 ha2 hx2)
 refine wpIn_mono (eV (P:=P) hmx (f:=⟨w.heap.size,none,fun _=>False⟩) (zT P oI.length pr) (fun l hl=>by cases hl) (SY _) c hok _ _ w D nu (fun _=>False) _ (fun (e:Exit) a' w'=>e ≠ .outgrown∧bodyPostM (WF none) 9 P fn (fun e w'=>(∃v,e = .returned v)∧ ∃X' T',pr.J [] X' T' w'∨pr.Jx X' T' w') e a' w') (fun a w hh=>hh.1 rfl) hM hs (h l) (fun e D' Z' s' a' w' nu' h1 h2 h3=> ?_)) (fun e a w hh=>hh.2)
 cases e with
 | ret=>exact ⟨by simp [aJ.real],fin D' Z' s' a' w' nu' h1 h2 h3⟩
 | normal=>exact ⟨by simp [aJ.real],fin D' Z' s' a' w' nu' h1 h2 h3⟩
 | exit id=>exact h3.elim
 | goto l=>exact h3.elim
end
end
section
mutual
theorem AV.BD {n m:Nat} (h:n<=m): ∀a:AV,a.wf n=true->a.wf m=true
 | .undef,_=>rfl
 | .v _,_=>rfl
 | .agg cs,ha=>by simp only [AV.wf] at ha ⊢; exact jH h cs ha
 | .ct cs,ha=>by simp only [AV.wf] at ha ⊢; exact jH h cs ha
 | .aI _ rows _,ha=>by simp only [AV.wf] at ha ⊢; exact rK h rows ha
 | .vp cs,ha=>by simp only [AV.wf] at ha ⊢; exact jH h cs ha
 | .ptr id _ _ _ _,ha=>by simp only [AV.wf,decide_eq_true_eq] at ha ⊢; omega
 | .vec id _,ha=>by simp only [AV.wf,decide_eq_true_eq] at ha ⊢; omega
 | .fn _ f c,ha=>by
  simp only [AV.wf,TY] at ha ⊢;exact ⟨jH h f ha.1,jH h c ha.2⟩
 | .full a,ha=>by simp only [AV.wf] at ha ⊢; exact AV.BD h a ha
 | .fp p a,ha=>by simp only [AV.wf] at ha ⊢; exact AV.BD h a ha
 | .mp rows,ha=>by simp only [AV.wf] at ha ⊢; exact rK h rows ha
theorem jH {n m:Nat} (h:n<=m): ∀l:List AV,ba n l=true->ba m l=true
 | [],_=>rfl
 | a :: l,ha=>by
  simp only [ba,TY] at ha ⊢;exact ⟨AV.BD h a ha.1,jH h l ha.2⟩
theorem rK {n m:Nat} (h:n<=m): ∀l:List (List AV),bQ n l=true->bQ m l=true
 | [],_=>rfl
 | a :: l,ha=>by
  simp only [bQ,TY] at ha ⊢;exact ⟨jH h a ha.1,rK h l ha.2⟩
end
section
variable {D D':Nat->Prop} {nu:Nat->Nat->Value} {o:List (Option aa)} {w w':World} {P:Program}
theorem DI (m:WM P) {f:Fr} {t:List AV} {a:Act} {C Z Z':Nat->Prop} {y:iz} (h:m.M D nu o Z y w) (hs:RS f D nu ⟨t,o,y⟩ a w) (e1:w'.os=w.os) (e2:w'.tape=w.tape) (e3:w'.output=w.output) (hsz:w.heap.size<=w'.heap.size)
  (same: ∀b,b<w.heap.size-> ¬C b->w'.heap[b]? = w.heap[b]?) (hC: ∀b,C b->Z b∧ ¬f.Z b∧f.r≠some b) (hDn: ∀b,b<w.heap.size->D b->D' b) (hup: ∀b,w'.heap.size<=b->D' b) (hD1: ∀b,D' b->D b∨Z b)
  (hD2: ∀b,w.heap.size<=b->b<w'.heap.size->D' b∨Z' b) (hZ': ∀b,Z' b->b<w'.heap.size∧ ¬D' b∧(Z b∨w.heap.size<=b)):m.M D' nu o Z' y w'∧RS f D' nu ⟨t,o,y⟩ a w':=by
 have hz:=m.mi h;have DC: ∀b,D b-> ¬C b:=fun b d c=>(hz.1 b (hC b c).1).2 d;have hF: ∀b,Fz D nu o w b->w'.heap[b]? = w.heap[b]? ∧Fz D' nu o w' b:=fun b hf=>⟨same b hf.1 (DC b hf.2.2),S4 hf.1 hsz,hf.2.1,hDn b hf.1 hf.2.2⟩;have hro':RO D' nu o w':=hs.ro.keep (fun b hb=>⟨same b (hs.ro.aU hb) (DC b (hs.ro.jl hb)),hDn b (hs.ro.aU hb) (hs.ro.jl hb)⟩) hup hF
 refine ⟨m.step h hs.ro ⟨e1,e2,e3,hsz,fun id len _ hh=>⟨hh,rfl⟩,fun b hb hno hnz=>⟨same b hb (fun c=>hnz (hC b c).1),hno⟩⟩ hro' (fun c v hr _=>hr.keep hF) hD1 (fun b hb=> ?_) (fun b hb=>⟨(hZ' b hb).1,(hZ' b hb).2.1,(hZ' b hb).2.2.elim .inl (fun q=> .inr (.inr q))⟩) hz.2.1,hro',⟨hs.tm.len,fun i c x q1 q2=>(hs.tm.at' i c x q1 q2).keep hF⟩,
  hs.ig.keep hsz (fun b ob hb hob _=>(same b (S5.1 hob).1 (fun c=> ?_)).trans hob)⟩
 ·rcases S9 b w.heap.size with q|q
  ·exact .inl (hDn b q hb)
  ·rcases S9 b w'.heap.size with q'|q'
   ·exact hD2 b q q'
   ·exact .inl (hup b q')
 ·rcases hb with q|q
  ·exact (hC b c).2.1 q
  ·exact (hC b c).2.2 q
structure Core (m:WM P) (f:Fr) (N l:Nat) (t0:List AV) (a:Act) (St:Nat->Prop) (q:Loop) (D:Nat->Prop) (nu:Nat->Nat->Value) (o:List (Option aa)) (y:iz) (X T:Nat->Prop) (w:World):Prop where
 mm:m.M D nu o (fun b=>f.Z b∨X b∨b=l) y w
 rs:RS f D nu ⟨t0,o,y⟩ a w
 xz: ∀b,X b-> ¬f.Z b∧b≠l
 xt: ∀b,X b->T b
 tl: ∀b,T b->b<w.heap.size
 td: ∀b,T b-> ¬X b->D b
 to: ∀b,T b-> ¬owned nu o b
 st: ∀b,St b->D b∧ ¬owned nu o b∧b<w.heap.size
 ku:w.heap[l]? = some (.loop q)
 n:N<=o.length
variable {m:WM P} {f:Fr} {N l:Nat} {t0:List AV} {a:Act} {St:Nat->Prop} {q:Loop} {y:iz} {X T:Nat->Prop}
theorem Core.K7 (h:Core m f N l t0 a St q D nu o y X T w) (hZr: ∀l,f.r=some l->m.fix l) {b:Nat} (hb:X b∨b=l):f.r≠some b:=fun e=>
 ((m.mi h.mm).2.2 b (hZr b e)).2.1 (.inr hb)
theorem Core.lB (h:Core m f N l t0 a St q D nu o y X T w) (hZr: ∀l,f.r=some l->m.fix l) {X':Nat->Prop} (ha:yF X w w') (hx: ∀b,X' b->b<w'.heap.size∧(X b∨w.heap.size<=b)) :
  Core m f N l t0 a St q (fun b=>(D b∨X b)∧ ¬X' b) nu o y X' (fun b=>T b∨(w.heap.size<=b∧b<w'.heap.size)) w':=by
 have hz:=m.mi h.mm;have DX: ∀b,D b-> ¬X b:=fun b d x=>(hz.1 b (.inr (.inl x))).2 d;have hll:l<w.heap.size:=(S5.1 h.ku).1;have hup:=h.rs.ro.up
 have key:=DI (C:=X) (D':=fun b=>(D b∨X b)∧ ¬X' b) (Z':=fun b=>f.Z b∨X' b∨b=l) m h.mm h.rs ha.os ha.tape ha.output ha.size ha.same (fun b hb=>⟨.inr (.inl hb),(h.xz b hb).1,h.K7 hZr (.inl hb)⟩)
  (fun b hb hd=>⟨.inl hd,fun hx'=>(hx b hx').2.elim (DX b hd) (by omega)⟩) (fun b hb=>⟨.inl (hup b (S3 ha.size hb)),fun hx'=>by have:=(hx b hx').1;omega⟩)
  (fun b hd=>hd.1.elim .inl (fun x=> .inr (.inr (.inl x)))) (fun b hb _=>by
   by_cases hx':X' b
   ·exact .inr (.inr (.inl hx'))
   ·exact .inl ⟨.inl (hup b hb),hx'⟩)
  (fun b hb=>by
   rcases hb with hb|hb|hb
   ·have:=hz.1 b (.inl hb)
    refine ⟨S4 this.1 ha.size,fun hd=> ?_, .inl (.inl hb)⟩
    rcases hd.1 with q|q
    ·exact this.2 q
    ·exact (h.xz b q).1 hb
   ·refine ⟨(hx b hb).1,fun hd=>hd.2 hb, ?_⟩
    rcases (hx b hb).2 with q|q
    ·exact .inl (.inr (.inl q))
    ·exact .inr q
   ·have:=hz.1 b (.inr (.inr hb))
    refine ⟨S4 this.1 ha.size,fun hd=> ?_, .inl (.inr (.inr hb))⟩
    rcases hd.1 with q|q
    ·exact this.2 q
    ·exact (h.xz b q).2 hb)
 refine ⟨key.1,key.2,fun b hb=> ?_,fun b hb=> ?_,fun b hb=> ?_,fun b hb hnx=> ?_,fun b hb=> ?_,fun b hb=> ?_,(ha.same l hll (fun x=>(h.xz l x).2 rfl)).trans h.ku,h.n⟩
 ·rcases (hx b hb).2 with q|q
  ·exact h.xz b q
  ·exact ⟨fun hf=>by have:=(hz.1 b (.inl hf)).1;omega,by omega⟩
 ·rcases (hx b hb).2 with q|q
  ·exact .inl (h.xt b q)
  ·exact .inr ⟨q,(hx b hb).1⟩
 ·rcases hb with q|q
  ·exact S4 (h.tl b q) ha.size
  ·exact q.2
 ·refine ⟨?_,hnx⟩
  rcases hb with q|q
  ·by_cases hxb:X b
   ·exact .inr hxb
   ·exact .inl (h.td b q hxb)
  ·exact .inl (hup b q.1)
 ·rcases hb with q|q
  ·exact h.to b q
  ·exact fun ho=>by have:=h.rs.ro.aU ho;omega
 ·obtain ⟨q1,q2,q3⟩:=h.st b hb;exact ⟨⟨.inl q1,fun hx'=>(hx b hx').2.elim (DX b q1) (by omega)⟩,q2,S4 q3 ha.size⟩
theorem Core.put (h:Core m f N l t0 a St q D nu o y X T w) (hZr: ∀l,f.r=some l->m.fix l) (hl: ¬f.Z l) (q':Loop):Core m f N l t0 a St q' D nu o y X T (w.putObj l (.loop q')):=by
 have hz:=m.mi h.mm;have hll:l<w.heap.size:=(S5.1 h.ku).1
 have key:=DI (C:=fun b=>b=l) (D':=D) (Z':=fun b=>f.Z b∨X b∨b=l) (w':=w.putObj l (.loop q')) m h.mm h.rs rfl rfl rfl (by simp) (fun b hb hne=>World.putObj_heap_other hne) (fun b hb=>⟨.inr (.inr hb),by rw [hb];exact hl,h.K7 hZr (.inr hb)⟩)
  (fun b hb hd=>hd) (fun b hb=>h.rs.ro.up b (by simpa using hb)) (fun b hd=> .inl hd) (fun b hb hb'=>absurd hb' (by simp;omega)) (fun b hb=>⟨by simpa using (hz.1 b hb).1,(hz.1 b hb).2, .inl hb⟩)
 exact ⟨key.1,key.2,h.xz,h.xt,fun b hb=>by simpa using h.tl b hb,h.td,h.to,fun b hb=>⟨(h.st b hb).1,(h.st b hb).2.1,by simpa using (h.st b hb).2.2⟩,World.putObj_heap_same hll,h.n⟩
theorem Core.JP (h:Core m f N l t0 a St q D nu o y X T w) (hmn:m.n0<=N) {o':List (Option aa)} {y':iz} (hk:Wk N ⟨t0,o,y⟩ ⟨t0,o',y'⟩):Core m f N l t0 a St q D nu o' y' X T w:=by
 have hz:=m.mi h.mm;have hy:y=y':=hk.y;subst hy;have hs2:=gB hk h.rs;have hno: ∀b,b<w.heap.size-> ¬owned nu o b-> ¬owned nu o' b:=fun b hb hn=>((hk.qQ (nu:=nu) (w:=w) (Z:=fun _=>False)).keep b hb hn (fun h=>h)).2;exact ⟨m.step h.mm h.rs.ro hk.qQ hs2.ro (fun c v hr hc=>hk.ra hr hc) (fun _ h=> .inl h) (fun _ h=> .inl h) (fun b hb=>⟨(hz.1 b hb).1,(hz.1 b hb).2, .inl hb⟩) (S3 hmn hk.n),hs2,h.xz,h.xt,h.tl,h.td,fun b hb=>hno b (h.tl b hb) (h.to b hb),fun b hb=>⟨(h.st b hb).1,hno b (h.st b hb).2.2 (h.st b hb).2.1,(h.st b hb).2.2⟩,h.ku,hk.n⟩
theorem Core.done (h:Core m f N l t0 a St q D nu o y X T w) (hZr: ∀l,f.r=some l->m.fix l) (hl: ¬f.Z l) (q':Loop):m.M (fun b=>D b∨X b∨b=l) nu o f.Z y (w.putObj l (.loop q'))∧RS f (fun b=>D b∨X b∨b=l) nu ⟨t0,o,y⟩ a (w.putObj l (.loop q')):=by
 have hz:=m.mi h.mm
 refine DI (C:=fun b=>b=l) m h.mm h.rs rfl rfl rfl (by simp) (fun b hb hne=>World.putObj_heap_other hne) (fun b hb=>⟨.inr (.inr hb),by rw [hb];exact hl,h.K7 hZr (.inr hb)⟩)
  (fun b hb hd=> .inl hd) (fun b hb=> .inl (h.rs.ro.up b (by simpa using hb))) (fun b hd=>hd.elim .inl (fun q=> .inr (.inr q))) (fun b hb hb'=>absurd hb' (by simp;omega)) (fun b hb=>⟨by simpa using (hz.1 b (.inl hb)).1,fun hd=> ?_, .inl (.inl hb)⟩)
 rcases hd with q|q|q
 ·exact (hz.1 b (.inl hb)).2 q
 ·exact (h.xz b q).1 hb
 ·rw [q] at hb;exact hl hb
structure ft (m:WM P) (f:Fr) (N l:Nat) (t0:List AV) (a:Act) (St X T:Nat->Prop) (w0:World) (q:Loop) (D:Nat->Prop) (nu:Nat->Nat->Value) (o:List (Option aa)) (Z:Nat->Prop) (y:iz) (w:World):Prop where
 mm:m.M D nu o (fun b=>Z b∨(f.Z b∨X b∨b=l)) y w
 zz: ∀b,f.Z b∨X b∨b=l-> ¬Z b
 tm:gk D nu o w t0 a.tmps
 ig:FR f a.defers w
 ku:w.heap[l]? = some (.loop q)
 os:w.os=w0.os
 tape:w.tape=w0.tape
 output:w.output=w0.output
 size:w0.heap.size<=w.heap.size
 same: ∀b,T b∨St b->w.heap[b]? = w0.heap[b]?
 xz: ∀b,X b-> ¬f.Z b∧b≠l
 xt: ∀b,X b->T b
 tl: ∀b,T b->b<w0.heap.size
 td: ∀b,T b-> ¬X b->D b
 to: ∀b,T b-> ¬owned nu o b
 st: ∀b,St b->D b∧ ¬owned nu o b∧b<w0.heap.size
 n:N<=o.length
theorem Core.round (h:Core m f N l t0 a St q D nu o y X T w):ft m f N l t0 a St X T w q D nu o (fun _=>False) y w:=by
 have e:(fun b=>False∨(f.Z b∨X b∨b=l))=(fun b=>f.Z b∨X b∨b=l):=by funext b;simp
 exact ⟨by rw [e];exact h.mm,fun _ _ h=>h,h.rs.tm,h.rs.ig,h.ku,rfl,rfl,rfl,SY _,fun _ _=>rfl,h.xz,h.xt,h.tl,h.td,h.to,h.st,h.n⟩
variable {w0:World} {Z:Nat->Prop}
theorem ft.step (hmn:m.n0<=N) (hZr: ∀l,f.r=some l->m.fix l) (ht0: ∀(i:Nat) c,t0[i]? = some c->c.wf N=true) {nu':Nat->Nat->Value} {o':List (Option aa)} {Z':Nat->Prop}
  (h:ft m f N l t0 a St X T w0 q D nu o Z y w) (hro:RO D nu o w) (hm:Az Z nu o w nu' o' w') (hro':RO D' nu' o' w') (hra: ∀c v,RA D nu o w c v->c.wf o'.length=true->RA D' nu' o' w' c v) (hD1: ∀b,D' b->D b∨Z b) (hD2: ∀b,D b->D' b∨Z' b)
  (hZ: ∀b,Z' b->b<w'.heap.size∧ ¬D' b∧(Z b∨owned nu o b∨w.heap.size<=b)) (hn:N<=o'.length):ft m f N l t0 a St X T w0 q D' nu' o' Z' y w':=by
 have hz:=m.mi h.mm;have nD: ∀b,f.Z b∨X b∨b=l->b<w.heap.size∧ ¬D b:=fun b hb=>hz.1 b (.inr hb);have nO: ∀b,f.Z b∨X b∨b=l-> ¬owned nu o b:=fun b hb ho=>(nD b hb).2 (hro.jl ho)
 have nZ': ∀b,f.Z b∨X b∨b=l-> ¬Z' b:=fun b hb hz'=>by
  rcases (hZ b hz').2.2 with q|q|q
  ·exact h.zz b hb q
  ·exact nO b hb q
  ·have:=(nD b hb).1;omega
 have nD': ∀b,f.Z b∨X b∨b=l-> ¬D' b:=fun b hb hd=>by
  rcases hD1 b hd with q|q
  ·exact (nD b hb).2 q
  ·exact h.zz b hb q
 have keepF: ∀b,f.Z b∨X b∨b=l->w'.heap[b]? = w.heap[b]? ∧ ¬owned nu' o' b:=fun b hb=>hm.keep b (nD b hb).1 (nO b hb) (h.zz b hb)
 have stay: ∀b,b<w.heap.size->D b-> ¬owned nu o b->(w'.heap[b]? = w.heap[b]? ∧ ¬owned nu' o' b)∧D' b:=fun b hb hd hno=>by
  have hnz: ¬Z b:=fun hz'=>(hz.1 b (.inl hz')).2 hd;refine ⟨hm.keep b hb hno hnz, ?_⟩
  rcases hD2 b hd with q|q
  ·exact q
  ·rcases (hZ b q).2.2 with r|r|r
   ·exact absurd r hnz
   ·exact absurd r hno
   ·omega
 have hTS: ∀b,T b∨St b->(w'.heap[b]? = w.heap[b]? ∧ ¬owned nu' o' b)∧(D b->D' b):=fun b hb=>by
  have hs0:=h.size
  rcases hb with q|q
  ·have hlt:=h.tl b q
   by_cases hx:X b
   ·exact ⟨keepF b (.inr (.inl hx)),fun hd=>absurd hd (nD b (.inr (.inl hx))).2⟩
   ·obtain ⟨r1,r2⟩:=stay b (by omega) (h.td b q hx) (h.to b q);exact ⟨r1,fun _=>r2⟩
  ·obtain ⟨k1,k2,k3⟩:=h.st b q;obtain ⟨r1,r2⟩:=stay b (by omega) k1 k2;exact ⟨r1,fun _=>r2⟩
 refine ⟨m.step h.mm hro ⟨hm.os,hm.tape,hm.output,hm.size,hm.pq,fun b h1 h2 h3=>hm.keep b h1 h2 (fun hz'=>h3 (.inl hz'))⟩ hro' hra (fun b hd=>(hD1 b hd).elim .inl (fun q=> .inr (.inl q))) (fun b hd=>(hD2 b hd).elim .inl (fun q=> .inr (.inl q))) (fun b hb=> ?_) (S3 hmn hn),nZ',⟨h.tm.len,fun i c x q1 q2=>hra c x (h.tm.at' i c x q1 q2) (AV.BD hn c (ht0 i c q1))⟩,
  h.ig.keep hm.size (fun b ob hb hob _=> ?_),(keepF l (.inr (.inr rfl))).1.trans h.ku,hm.os.trans h.os,hm.tape.trans h.tape,hm.output.trans h.output,S3 h.size hm.size,fun b hb=>(hTS b hb).1.1.trans (h.same b hb),h.xz,h.xt,h.tl,fun b hb hx=>(hTS b (.inl hb)).2 (h.td b hb hx),fun b hb=>(hTS b (.inl hb)).1.2,fun b hb=>⟨(hTS b (.inr hb)).2 (h.st b hb).1,(hTS b (.inr hb)).1.2,(h.st b hb).2.2⟩,hn⟩
 ·rcases hb with q|q
  ·obtain ⟨r1,r2,r3⟩:=hZ b q;exact ⟨r1,r2,r3.elim (fun r=> .inl (.inl r)) .inr⟩
  ·exact ⟨S4 (nD b q).1 hm.size,nD' b q, .inl (.inr q)⟩
 ·rcases hb with q|q
  ·exact (keepF b (.inl q)).1.trans hob
  ·obtain ⟨k1,k2,k3⟩:=hz.2.2 b (hZr b q);exact (hm.keep b k1 (jw hro hob (by assumption)) (fun hz'=>k2 (.inl hz'))).1.trans hob
theorem ft.others (hZr: ∀l,f.r=some l->m.fix l) {y':iz} (h:ft m f N l t0 a St X T w0 q D nu o Z y w) (hro:RO D nu o w) (e1:w'.os=w.os) (e2:w'.tape=w.tape) (e3:w'.output=w.output) (hsz:w.heap.size<=w'.heap.size)
  (hk: ∀b,b<w.heap.size->D b∨(Z b∨(f.Z b∨X b∨b=l))∨owned nu o b∨m.fix b->w'.heap[b]? = w.heap[b]?) (hM:m.M (fun b=>D b∧ ¬(w.heap.size<=b∧b<w'.heap.size)) nu o (fun b=>Z b∨(f.Z b∨X b∨b=l)) y' w') :
  ft m f N l t0 a St X T w0 q (fun b=>D b∧ ¬(w.heap.size<=b∧b<w'.heap.size)) nu o Z y' w':=by
 have hz:=m.mi h.mm;have hs0:=h.size;have hF: ∀b,Fz D nu o w b->w'.heap[b]? = w.heap[b]? ∧Fz (fun b=>D b∧ ¬(w.heap.size<=b∧b<w'.heap.size)) nu o w' b:=fun b hf=>⟨hk b hf.1 (.inl hf.2.2),S4 hf.1 hsz,hf.2.1,hf.2.2,fun hh=>by have:=hf.1;omega⟩
 refine ⟨hM,h.zz,⟨h.tm.len,fun i c x q1 q2=>(h.tm.at' i c x q1 q2).keep hF⟩,h.ig.keep hsz (fun b ob hb hob _=>(hk b (S5.1 hob).1 ?_).trans hob),(hk l (hz.1 l (.inr (.inr (.inr rfl)))).1 (.inr (.inl (.inr (.inr (.inr rfl)))))).trans h.ku,e1.trans h.os,e2.trans h.tape,e3.trans h.output,S3 h.size hsz,fun b hb=> ?_,h.xz,h.xt,h.tl,
  fun b hb hx=>⟨h.td b hb hx,fun hh=>by have:=h.tl b hb;omega⟩,h.to,fun b hb=>⟨⟨(h.st b hb).1,fun hh=>by have:=(h.st b hb).2.2;omega⟩,(h.st b hb).2⟩,h.n⟩
 ·rcases hb with q|q
  ·exact .inr (.inl (.inr (.inl q)))
  ·exact .inr (.inr (.inr (hZr b q)))
 ·refine (hk b ?_ ?_).trans (h.same b hb)
  ·rcases hb with q|q
   ·have:=h.tl b q;omega
   ·have:=(h.st b q).2.2;omega
  ·rcases hb with q|q
   ·by_cases hx:X b
    ·exact .inr (.inl (.inr (.inr (.inl hx))))
    ·exact .inl (h.td b q hx)
   ·exact .inl (h.st b q).1
def Gr (P:Program) (m:WM P) (f:Fr) (N l:Nat) (t0:List AV) (a:Act) (St X T:Nat->Prop) (w0:World) (q:Loop) (hmn:m.n0<=N) (hZr: ∀l,f.r=some l->m.fix l) (ht0: ∀(i:Nat) c,t0[i]? = some c->c.wf N=true):WM P where
 n0:=N
 fix:=fun b=>m.fix b∨f.Z b∨X b∨b=l
 M:=ft m f N l t0 a St X T w0 q
 step:=fun h hro hm hro' hra hD1 hD2 hZ hn=>h.step hmn hZr ht0 hro hm hro' hra hD1 hD2 hZ hn
 mi:=fun h=>by
  have hz:=m.mi h.mm;refine ⟨fun b hb=>hz.1 b (.inl hb),h.n,fun b hb=> ?_⟩
  rcases hb with q|q
  ·obtain ⟨k1,k2,k3⟩:=hz.2.2 b q;exact ⟨k1,fun hh=>k2 (.inl hh),k3⟩
  ·exact ⟨(hz.1 b (.inr q)).1,h.zz b q,(hz.1 b (.inr q)).2⟩
 yield:=fun {D nu o Z l' x rest w vals} h hro hra hw=>by
  obtain ⟨fn,tmps,assign,body,hrun,hround⟩:=m.yield h.mm hro hra hw;refine ⟨fn,tmps,assign,body,hrun,hround.mono fun e w' he=> ?_⟩;obtain ⟨⟨e1,e2,e3,hsz,hk⟩,he⟩:=he
  refine ⟨⟨e1,e2,e3,hsz,fun b hb hh=>hk b hb ?_⟩, ?_⟩
  ·rcases hh with q|q|q|q|q
   ·exact .inl q
   ·exact .inr (.inl (.inl q))
   ·exact .inr (.inr (.inl q))
   ·exact .inr (.inr (.inr q))
   ·exact .inr (.inl (.inr q))
  ·rcases he with ⟨rfl,hM⟩|⟨rfl,hM⟩
   ·exact .inl ⟨rfl,h.others hZr hro e1 e2 e3 hsz hk hM⟩
   ·exact .inr ⟨rfl,h.others hZr hro e1 e2 e3 hsz hk hM⟩
theorem ft.close (h:ft m f N l t0 a St X T w0 q D nu o Z y w) (hro:RO D nu o w):Core m f N l t0 a St q (fun b=>D b∨Z b) nu o y X T w:=by
 have hz:=m.mi h.mm;have hs0:=h.size
 have key:=DI (C:=fun _=>False) (D':=fun b=>D b∨Z b) (Z':=fun b=>f.Z b∨X b∨b=l) (w':=w) (t:=t0) (a:=a) (f:=f) m h.mm ⟨hro,h.tm,h.ig⟩ rfl rfl rfl (SY _) (fun b hb _=>rfl) (fun b hb=>hb.elim) (fun b hb hd=> .inl hd) (fun b hb=> .inl (hro.up b hb)) (fun b hd=>hd.elim .inl (fun q=> .inr (.inl q)))
  (fun b h1 h2=>by omega) (fun b hb=>⟨(hz.1 b (.inr hb)).1,fun hd=>hd.elim (hz.1 b (.inr hb)).2 (h.zz b hb), .inl (.inr hb)⟩)
 exact ⟨key.1,key.2,h.xz,h.xt,fun b hb=>by have:=h.tl b hb;omega,fun b hb hx=> .inl (h.td b hb hx),h.to,fun b hb=>⟨.inl (h.st b hb).1,(h.st b hb).2.1,by have:=(h.st b hb).2.2;omega⟩,h.ku,h.n⟩
theorem ft.put (hZr: ∀l,f.r=some l->m.fix l) (hl: ¬f.Z l) {f':Fr} {t:List AV} {a':Act} (hf':f'.r=some l∧f'.B=0∧f'.Z=Z) (h:ft m f N l t0 a St X T w0 q D nu o Z y w) (hs:RS f' D nu ⟨t,o,y⟩ a' w) (q':Loop) (hT: ∀b,T b∨St b->b≠l) :
  ft m f N l t0 a St X T w0 q' D nu o Z y (w.putObj l (.loop q'))∧RS f' D nu ⟨t,o,y⟩ a' (w.putObj l (.loop q')):=by
 have hz:=m.mi h.mm;have hll:l<w.heap.size:=(S5.1 h.ku).1;have hrl:f.r≠some l:=fun e=>(hz.2.2 l (hZr l e)).2.1 (.inr (.inr (.inr rfl)))
 have hsz:(w.putObj l (.loop q')).heap.size=w.heap.size:=by simp
 have key:=DI (C:=fun b=>b=l) (D':=D) (Z':=fun b=>Z b∨(f.Z b∨X b∨b=l)) (w':=w.putObj l (.loop q')) (t:=t0) (a:=a) (f:=f) m h.mm ⟨hs.ro,h.tm,h.ig⟩ rfl rfl rfl (by simp) (fun b hb hne=>World.putObj_heap_other hne) (fun b hb=>⟨.inr (.inr (.inr hb)),by rw [hb];exact hl,by rw [hb];exact hrl⟩)
  (fun b hb hd=>hd) (fun b hb=>hs.ro.up b (by simpa using hb)) (fun b hd=> .inl hd) (fun b hb hb'=>absurd hb' (by simp;omega)) (fun b hb=>⟨by simpa using (hz.1 b hb).1,(hz.1 b hb).2, .inl hb⟩)
 have hF: ∀b,Fz D nu o w b->(w.putObj l (.loop q')).heap[b]? = w.heap[b]? ∧Fz D nu o (w.putObj l (.loop q')) b:=fun b hf=>⟨World.putObj_heap_other (fun e=>by rw [e] at hf;exact (hz.1 l (.inr (.inr (.inr rfl)))).2 hf.2.2),by rw [hsz];exact hf.1,hf.2⟩;refine ⟨⟨key.1,h.zz,key.2.tm,key.2.ig,World.putObj_heap_same hll,h.os,h.tape,h.output,by rw [hsz];exact h.size,fun b hb=>(World.putObj_heap_other (hT b hb)).trans (h.same b hb),h.xz,h.xt,h.tl,h.td,h.to,h.st,h.n⟩,key.2.ro,⟨hs.tm.len,fun i c x q1 q2=>(hs.tm.at' i c x q1 q2).keep hF⟩, ?_⟩;obtain ⟨rs,k1,k2,k3⟩:=hs.ig.marks
 refine ⟨by rw [hf'.2.1];exact Nat.zero_le _,⟨rs,k1,k2,fun x hx=>⟨(k3 x hx).1,(k3 x hx).2.1,(World.putObj_heap_other (fun e=> ?_)).trans (k3 x hx).2.2⟩⟩,fun l' hl'=> ?_⟩
 ·have:=(k3 x hx).2.1
  rw [hf'.2.2,e] at this;exact h.zz l (.inr (.inr rfl)) this
 ·rw [hf'.1] at hl';cases hl';exact ⟨q',World.putObj_heap_same hll⟩
def dY (ps:List Nat) (x t:List AV):List AV:=(ps.zip x).foldl (fun t pv=>t.set pv.1 pv.2) t
theorem ry: ∀(ps:List Nat) (x t:List AV) (vs:List Value) (tmps:Array Value),gk D nu o w t tmps->x.length=vs.length->(∀(i:Nat) c v,x[i]? = some c->vs[i]? = some v->RA D nu o w c v)->gk D nu o w (dY ps x t) ((ps.zip vs).foldl (fun tmps p=>tmps.setIfInBounds p.1 p.2) tmps)
 | [],x,t,vs,tmps,h,_,_=>by simpa [dY] using h
 | p :: ps,[],t,[],tmps,h,_,_=>by simpa [dY] using h
 | p :: ps,c :: x,t,v :: vs,tmps,h,hl,hx=>by
  have h1:gk D nu o w (t.set p c) (tmps.setIfInBounds p v):=by
   refine ⟨by simpa using h.len,fun i c' v' q1 q2=> ?_⟩
   by_cases hd:p=i
   ·subst hd;have hlt:=(S7.1 q1).1;simp only [List.length_set] at hlt;rw [List.getElem?_set_self hlt] at q1;rw [Array.getElem?_setIfInBounds_self_of_lt (by have:=h.len;omega)] at q2;cases q1;cases q2;exact hx 0 c v rfl rfl
   ·rw [List.getElem?_set_ne hd] at q1;rw [Array.getElem?_setIfInBounds_ne hd] at q2;exact h.at' i c' v' q1 q2
  exact ry ps x _ vs _ h1 (by simpa using hl) (fun i c' v' q1 q2=>hx (i+1) c' v' (by simpa using q1) (by simpa using q2))
 | p :: ps,[],t,v :: vs,tmps,_,hl,_=>by simp at hl
 | p :: ps,c :: x,t,[],tmps,_,hl,_=>by simp at hl
def aJ.code:aJ->Code
 | .normal=> .skip
 | .exit id=> .exit id
 | .goto l=> .goto l
 | .ret=> .ret
def jJ (N:Nat) (t0:List AV) (p:Prop) (o':List (Option aa)) (y':iz) (Q:aJ->AS->Prop) (e:aJ) (s:AS):Prop:=match e with
 | .normal=>p∧Wk N ⟨t0,s.o,s.y⟩ ⟨t0,o',y'⟩
 | e=>Q e ⟨t0,s.o,s.y⟩
def jb (P:Program) (N:Nat) (body:Code) (R:aJ->AS->Prop) (e:aJ) (s:AS):Prop:=match e with
 | .normal=>bK P N body s R
 | _=>False
def zY {ι:Type} (At:ι->List (List AV)->Prop) (nx:ι->List AV->ι) (hmx:P.follows .mixedOrders=true) (m:WM P) (f:Fr) (N l:Nat) (t0:List AV) (a:Act) (St:Nat->Prop) (q:Loop) (O:ι->List (Option aa)) (Y:ι->iz) (ok:ι->Prop) (Q:aJ->AS->Prop) (hmn:m.n0<=N) (hZr: ∀l,f.r=some l->m.fix l) (hl: ¬f.Z l) (ht0: ∀(i:Nat) c,t0[i]? = some c->c.wf N=true)
  (hq:q.state = .ready∧q.pending=none∧q.tmps=a.tmps) (hA:a8 q.assign=true) (hB:a8 q.body=true) (har: ∀k x rest,At k (x :: rest)->x.length=q.params.size) (hnx: ∀k x rest,At k (x :: rest)->At (nx k x) rest)
  (hround: ∀k x rest,ok k->At k (x :: rest)->bK P N q.assign ⟨dY q.params.toList x t0,O k,Y k⟩ (jb P N q.body (jJ N t0 (ok (nx k x)) (O (nx k x)) (Y (nx k x)) Q))):sq P l where
 J:=fun rest X T w=> ∃k D nu,At k rest∧ok k∧Core m f N l t0 a St q D nu (O k) (Y k) X T w
 Jx:=fun X T w=> ∃e D nu o y,e ≠ .normal∧Q e ⟨t0,o,y⟩∧Core m f N l t0 a St { q with state:= .done,pending:=some e.code } D nu o y X T w
 St:=St
 lB:=fun h ha hx=>by
  obtain ⟨k,D,nu,h1,h2,h3⟩:=h;exact ⟨k,_,nu,h1,h2,h3.lB hZr ha hx⟩
 yP:=fun h ha hx=>by
  obtain ⟨e,D,nu,o,y,h1,h2,h3⟩:=h;exact ⟨e,_,nu,o,y,h1,h2,h3.lB hZr ha hx⟩
 round:=fun {x rest X T w D nu vals} hJ hra hw hD=>by
  obtain ⟨k,Dc,nuc,hat,hok,hc⟩:=hJ;have hz:=m.mi hc.mm
  have hra':gk Dc nuc (O k) w x vals:=⟨hra.len,fun i c v q1 q2=>(hra.at' i c v q1 q2).tr (n:=0) (fun b hf=>by
   obtain ⟨h1,h2⟩:=hD b hf.1 hf.2.2
   rcases h1 with h1|h1
   ·exact ⟨hf.1,hc.to b h1,hc.td b h1 h2⟩
   ·exact ⟨hf.1,(hc.st b h1).2.1,(hc.st b h1).1⟩) (fun id len hlt=>by omega) (bF hw q1)⟩
  have hTl: ∀b,T b∨St b->b≠l:=fun b hb e=>by
   have hnl: ¬Dc l:=(hz.1 l (.inr (.inr rfl))).2
   rcases hb with h|h
   ·by_cases hxb:X b
    ·exact (hc.xz b hxb).2 e
    ·exact hnl (e ▸ hc.td b h hxb)
   ·exact hnl (e ▸ (hc.st b h).1)
  have hlen:vals.size=q.params.size:=by rw [<-hra.len,har k x rest hat]
  refine ⟨q.fn,_,q.assign,q.body,run_yield hc.ku hlen,roundIn_of_wpIn trivial ?_⟩
  have htm:gk Dc nuc (O k) w (dY q.params.toList x t0) ((q.params.zip vals).foldl (fun tmps (t,a)=>tmps.setIfInBounds t a) q.tmps):=by
   have:=ry q.params.toList x t0 vals.toList a.tmps hc.rs.tm (by simpa using hra.len) (fun i c v q1 q2=>hra'.at' i c v q1 (by simpa using q2))
   rw [<-hq.2.2] at this;rw [<-Array.toList_zip,Array.foldl_toList] at this;exact this
  have hs:RS ⟨0,some l,fun _=>False⟩ Dc nuc ⟨dY q.params.toList x t0,O k,Y k⟩ { tmps:=(q.params.zip vals).foldl (fun tmps (t,a)=>tmps.setIfInBounds t a) q.tmps,defers:=[] } w:=
   ⟨hc.rs.ro,htm,⟨Nat.zero_le _,⟨[],Uc,rfl,fun x hx=>(by cases hx)⟩,fun l' hl'=>by cases hl';exact ⟨q,hc.ku⟩⟩⟩
  refine G6 (n:=9) (eV (f:=⟨0,some l,fun _=>False⟩) hmx (Gr P m f N l t0 a St X T w q hmn hZr ht0) (fun l' hl'=>by cases hl';exact .inr (.inr (.inr rfl))) (SY N) q.assign hA ⟨dY q.params.toList x t0,O k,Y k⟩ _ w Dc nuc (fun _=>False) _ _ (fun a w h=>h) hc.round hs (hround k x rest hok hat) (fun e D1 Z1 s1 a1 w1 nu1 h1 h2 h3=> ?_))
  cases e with
  | exit i=>exact h3.elim
  | goto i=>exact h3.elim
  | ret=>exact h3.elim
  | normal=>
   refine ⟨_,run_beginRound h1.ku hq.1, ?_⟩;obtain ⟨h4,h5⟩:=h1.put hZr hl (f':=(Fr.mk 0 (some l) (fun _=>False)).wz Z1) ⟨rfl,rfl,rfl⟩ h2 { q with state:= .busy } hTl;refine G6 (n:=9) (eV (f:=⟨0,some l,fun _=>False⟩) hmx (Gr P m f N l t0 a St X T w { q with state:= .busy } hmn hZr ht0) (fun l' hl'=>by cases hl';exact .inr (.inr (.inr rfl))) (SY N) q.body hB s1 a1 _ D1 nu1 Z1 _ _ (fun a w h=>h) h4 h5 h3 (fun e D2 Z2 s2 a2 w2 nu2 k1 k2 k3=> ?_));have hcl:=k1.close k2.ro;have hkept: ∀q',Ea (fun b=>T b∨St b) w (w2.putObj l (.loop q')):=fun q'=>⟨k1.os,k1.tape,k1.output,by simpa using k1.size,fun b _ hb=>(World.putObj_heap_other (hTl b hb)).trans (k1.same b hb)⟩
   have jump: ∀e,e ≠ .normal->Q e ⟨t0,s2.o,s2.y⟩-> ∃v w',(Instr.endRound l (some e.code)).run P w2 = .ok v w'∧(Ea (fun b=>T b∨St b) w w'∧((Ending.returned v = .returned (.bool true)∧ ∃k D nu,At k rest∧ok k∧Core m f N l t0 a St q D nu (O k) (Y k) X T w')∨(Ending.returned v = .returned (.bool false)∧ ∃e D nu o y,e ≠ .normal∧Q e ⟨t0,o,y⟩∧Core m f N l t0 a St { q with state:= .done,pending:=some e.code } D nu o y X T w'))):=fun e he hQ=>by
    refine ⟨_,_,run_endRound (some e.code) k1.ku,hkept _, .inr ⟨rfl,e,(fun b=>D2 b∨Z2 b),nu2,s2.o,s2.y,he,hQ, ?_⟩⟩;exact hcl.put hZr hl _
   cases e with
   | normal=>
    refine ⟨_,_,run_endRound none k1.ku,hkept _, .inl ⟨rfl,nx k x,(fun b=>D2 b∨Z2 b),nu2,hnx k x rest hat,k3.1, ?_⟩⟩
    have:=(hcl.put hZr hl { q with state:= .ready,pending:=none }).JP hmn k3.2
    have e:({ q with state:= .ready,pending:=none }:Loop)=q:=by
     obtain ⟨e1,e2,_⟩:=hq;cases q;simp only at e1 e2;subst e1;subst e2;rfl
    rw [e] at this;simp only [Option.isNone_none,if_true];have e':({ { q with state:= .busy } with state:= .ready,pending:=none }:Loop)=q:=e;rw [e'];exact this
   | exit i=>exact jump (.exit i) (by simp) k3
   | goto i=>exact jump (.goto i) (by simp) k3
   | ret=>exact jump .ret (by simp) k3
theorem zZ (m:WM P) {f:Fr} {t:List AV} {a:Act} {o:List (Option aa)} {y:iz} (hm:m.M D nu o f.Z y w) (hs:RS f D nu ⟨t,o,y⟩ a w) (fn:FuncId) (ps:Array Tmp) (assign body:Code) :
  ∃l mk w1 Z1 q D1,(Instr.enterLoop fn a.tmps ps assign body f.r).run P w = .ok (l,mk) w1∧(q.state = .ready∧q.pending=none∧q.tmps=a.tmps)∧(q.params=ps∧q.assign=assign∧q.body=body)∧ ¬Z1 l∧w1.heap[l]? = some (.loop q)∧Below w.heap.size w w1 ∧
   m.M D1 nu o (fun b=>Z1 b∨b=l) y w1∧RS (f.wz Z1) D1 nu ⟨t,o,y⟩ { a with defers:=mk++a.defers } w1∧(∀b,b<w.heap.size->D b->D1 b)∧(∀b,D1 b->D b)∧ ∀b,f.Z b->Z1 b:=by
 have hz:=m.mi hm
 have gen: ∀(w1:World) (Z1:Nat->Prop) (l:Nat),Below w.heap.size w w1->(∀b,f.Z b->Z1 b)->(∀b,Z1 b->f.Z b∨(w.heap.size<=b∧b<w1.heap.size))->w.heap.size<=l->l<w1.heap.size ->
   m.M (fun b=>D b∧ ¬(Z1 b∨b=l)) nu o (fun b=>Z1 b∨b=l) y w1∧RS f (fun b=>D b∧ ¬(Z1 b∨b=l)) nu ⟨t,o,y⟩ a w1:=fun w1 Z1 l hb h1 h2 h3 h4=>by
  refine DI (C:=fun _=>False) m hm hs hb.os hb.tape hb.output hb.size (fun b hlt _=>hb.block b hlt) (fun b h=>h.elim) (fun b hlt hd=>⟨hd,fun hh=> ?_⟩) (fun b hge=>⟨hs.ro.up b (S3 hb.size hge),fun hh=> ?_⟩) (fun b hd=> .inl hd.1) (fun b hge hlt=> ?_) (fun b hh=>⟨?_,fun hd=>hd.2 hh, ?_⟩)
  ·rcases hh with q|q
   ·rcases h2 b q with r|r
    ·exact (hz.1 b r).2 hd
    ·omega
   ·omega
  ·rcases hh with q|q
   ·rcases h2 b q with r|r
    ·have:=(hz.1 b r).1;have:=hb.size;omega
    ·omega
   ·omega
  ·by_cases hh:Z1 b∨b=l
   ·exact .inr hh
   ·exact .inl ⟨hs.ro.up b hge,hh⟩
  ·rcases hh with q|q
   ·rcases h2 b q with r|r
    ·exact S4 (hz.1 b r).1 hb.size
    ·exact r.2
   ·omega
  ·rcases hh with q|q
   ·rcases h2 b q with r|r
    ·exact .inl r
    ·exact .inr r.1
   ·exact .inr (by omega)
 cases hr:f.r with
 | none=>
  obtain ⟨q,hq⟩: ∃q:Loop,q={ state:= .ready,pending:=none,fn,tmps:=a.tmps,params:=ps,assign,body,defers:=w.heap.size }:=⟨_,rfl⟩;obtain ⟨w1,hw1⟩: ∃w1,w1=(w.alloc (.deferred (some []))).alloc (.loop q):=⟨_,rfl⟩
  have hb:Below w.heap.size w w1:=by rw [hw1];exact ((Below.refl _ w).alloc (SY _) _).alloc (by simp) _
  have hsz:w1.heap.size=w.heap.size+2:=by rw [hw1];simp
  have hL:w1.heap[w.heap.size+1]? = some (.loop q):=by
   rw [hw1];have:=World.alloc_heap_new (w.alloc (.deferred (some []))) (.loop q);rwa [World.size_alloc] at this
  have hK:w1.heap[w.heap.size]? = some (.deferred (some [])):=by
   rw [hw1];exact (Below.heap_alloc _ _ _ (by simp)).trans (World.alloc_heap_new w _)
  obtain ⟨g1,g2⟩:=gen w1 (fun b=>f.Z b∨b=w.heap.size) (w.heap.size+1) hb (fun b h=> .inl h) (fun b h=>h.elim .inl (fun e=> .inr (by omega))) (by omega) (by omega)
  refine ⟨w.heap.size+1,[zL w.heap.size],w1,(fun b=>f.Z b∨b=w.heap.size),q,_, ?_,by rw [hq];exact ⟨rfl,rfl,rfl⟩,by rw [hq];exact ⟨rfl,rfl,rfl⟩, ?_,hL,hb,g1,⟨g2.ro,g2.tm, ?_⟩, ?_,fun b hd=>hd.1,fun b h=> .inl h⟩
  ·rw [hw1,hq];exact run_enterLoop_outer _ _ _ _ _
  ·rintro (h|h)
   ·have:=(hz.1 _ h).1;omega
   ·omega
  ·obtain ⟨rs,k1,k2,k3⟩:=g2.ig.marks
   refine ⟨g2.ig.base,⟨w.heap.size :: rs,List.nodup_cons.2 ⟨fun hm=> ?_,k1⟩,by simp only [List.map_cons,List.singleton_append];rw [k2],fun x hx=> ?_⟩,g2.ig.loop⟩
   ·have:=(hz.1 _ (k3 _ hm).2.1).1;omega
   ·rcases List.mem_cons.1 hx with e|e
    ·subst e;exact ⟨hs.ig.base, .inr rfl,hK⟩
    ·exact ⟨(k3 x e).1, .inl (k3 x e).2.1,(k3 x e).2.2⟩
  ·refine fun b hlt hd=>⟨hd,fun hh=> ?_⟩
   rcases hh with (q|q)|q
   ·exact (hz.1 b q).2 hd
   ·omega
   ·omega
 | some l0=>
  obtain ⟨q0,hq0⟩:=hs.ig.loop l0 hr;obtain ⟨q,hq⟩: ∃q:Loop,q={ state:= .ready,pending:=none,fn,tmps:=a.tmps,params:=ps,assign,body,defers:=q0.defers }:=⟨_,rfl⟩;obtain ⟨w1,hw1⟩: ∃w1,w1=w.alloc (.loop q):=⟨_,rfl⟩
  have hb:Below w.heap.size w w1:=by rw [hw1];exact (Below.refl _ w).alloc (SY _) _
  have hsz:w1.heap.size=w.heap.size+1:=by rw [hw1];simp
  have hL:w1.heap[w.heap.size]? = some (.loop q):=by rw [hw1];exact World.alloc_heap_new w _
  obtain ⟨g1,g2⟩:=gen w1 f.Z w.heap.size hb (fun b h=>h) (fun b h=> .inl h) (by omega) (by omega)
  refine ⟨w.heap.size,[],w1,f.Z,q,_, ?_,by rw [hq];exact ⟨rfl,rfl,rfl⟩,by rw [hq];exact ⟨rfl,rfl,rfl⟩, ?_,hL,hb,g1,⟨g2.ro,g2.tm, ?_⟩, ?_,fun b hd=>hd.1,fun b h=>h⟩
  ·rw [hw1,hq];exact run_enterLoop_inner hq0 _ _ _ _ _
  ·intro h;have:=(hz.1 _ h).1;omega
  ·exact g2.ig.Kh (fun b h=>h)
  ·refine fun b hlt hd=>⟨hd,fun hh=> ?_⟩
   rcases hh with q|q
   ·exact (hz.1 b q).2 hd
   ·omega
theorem p8 {n0:Nat} {s:AS} {Q:aJ->AS->Prop} {g:Operand} {ps:Array Tmp} {assign body:Code} {gf:FuncId} {caps0:List AV} {oI:List (Option aa)} {L:List (List AV)} {c:Bool} (hseq:yJ c P gf caps0 oI L) {ι:Type} (At:ι->List (List AV)->Prop) (nx:ι->List AV->ι) (i0:ι) (hat0:At i0 L) (hnx: ∀k x rest,At k (x :: rest)->At (nx k x) rest) (hpm:c=true-> ∀k rest rest',rest.Perm rest'->At k rest->At k rest') (ids:List Nat) (hnd:ids.Nodup)
  (hids:ids.map (fun i=>s.o[i]?)=oI.map (fun x=>some (x.map (aa.aO (sig ids s.o.length))))) (hwo: ∀(k:Nat) ob,oI[k]? = some (some ob)->bQ ids.length ob.rows=true) (O:ι->List (Option aa)) (Y:ι->iz) (ok:ι->Prop) (h0:ok i0) (t0:List AV)
  (hg:s.ev g = .fn gf [] (bo (sig ids s.o.length) caps0)) (hcaps:ba ids.length caps0=true) (hdead: ∀i,i∈ids-> ∀ob,(O i0)[i]? ≠ some (some ob)) (hwk:Wk n0 s ⟨t0,O i0,Y i0⟩) (hA:a8 assign=true) (hB:a8 body=true) (har: ∀k x rest,At k (x :: rest)->x.length=ps.size)
  (hround: ∀k x rest,ok k->At k (x :: rest)->bK P (O i0).length assign ⟨dY ps.toList x t0,O k,Y k⟩ (jb P (O i0).length body (jJ (O i0).length t0 (ok (nx k x)) (O (nx k x)) (Y (nx k x)) Q)))
  (hfin: ∀k,At k []->ok k->Q .normal ⟨t0,O k,Y k⟩):bK P n0 (.rangeFunc g ps assign body) s Q:=by
 intro f m D nu a w hZr hn hm hs hmx R hO hR;have hgv:=hs.ev g;rw [hg] at hgv
 obtain ⟨ca,hgv',hca⟩: ∃ca,a.eval g = .func (.func gf) #[] ca∧gk D nu s.o w (bo (sig ids s.o.length) caps0) ca:=by
  revert hgv
  generalize a.eval g=v;intro hgv
  cases hgv with
  | fn _ _ _ fi ca h1 h2 _ h4=>
   obtain rfl:fi = #[]:=Array.eq_empty_of_size_eq_zero (by simpa using h1.symm);exact ⟨ca,rfl,h2,h4⟩
 have hz:=m.mi hm;obtain ⟨ro0,own0,fz0,hdr0,obj0⟩:=qA ids hs.ro hnd hids hwo;obtain ⟨X,hX⟩: ∃X:Nat->Prop,X=owned (fun k len=>nu (sig ids s.o.length k) len) oI:=⟨_,rfl⟩;rw [<-hX] at own0;obtain ⟨_,al,_⟩:=iZ hwk
 have Xn: ∀b,X b-> ¬owned nu (O i0) b:=fun b hb ⟨id,ob,h1,h2⟩=>by
  rw [hX] at hb;obtain ⟨k,ob',h3,h4⟩:=hb;obtain ⟨i,q1,q2,q3⟩:=obj0 k ob' h3;have hne:i≠id:=fun e=>hdead i (TI q1) ob (by rw [e];exact h1);refine hs.ro.sep i id _ _ b q3 (al id ob h1) hne ?_ h2;rw [aa.dF, <- q2];exact h4
 have XD: ∀b,X b->D b∧b<w.heap.size:=fun b hb=>⟨hs.ro.jl (own0 b hb),hs.ro.aU (own0 b hb)⟩
 
 have hFX: ∀b,Fz D nu s.o w b->D b∧ ¬X b:=fun b hf=>⟨hf.2.2,fun hx=>hf.2.1 (own0 b hx)⟩
 have hs2:RS (f.wz (fun b=>f.Z b∨X b)) (fun b=>D b∧ ¬X b) nu ⟨t0,O i0,Y i0⟩ a w:=by
  have:=yr (D':=fun b=>D b∧ ¬X b) hwk hs hFX (fun b ho=>⟨hs.ro.jl (by obtain ⟨id,ob,h1,h2⟩:=ho;exact ⟨id,ob,al id ob h1,h2⟩),fun hx=>Xn b hx ho⟩) (fun b hb=>⟨hs.ro.up b hb,fun hx=>by have:=(XD b hx).2;omega⟩)
  exact ⟨this.ro,this.tm,this.ig.Kh (fun b h=> .inl h)⟩
 have hm2:m.M (fun b=>D b∧ ¬X b) nu (O i0) (fun b=>f.Z b∨X b) (Y i0) w:=by
  have hy:s.y=Y i0:=hwk.y;rw [<-hy];exact m.step hm hs.ro hwk.qQ hs2.ro (fun c v hr hc=>hwk.Ru hFX hr hc) (fun _ h=> .inl h.1) (fun b h=>(Classical.em (X b)).elim (fun q=> .inr (.inr q)) (fun q=> .inl ⟨h,q⟩)) (fun b hb=>hb.elim (fun q=>⟨(hz.1 b q).1,fun hd=>(hz.1 b q).2 hd.1, .inl q⟩) (fun q=>⟨(XD b q).2,fun hd=>hd.2 q, .inr (.inl (own0 b q))⟩)) (S3 hn hwk.n)
 have hmn:m.n0<=(O i0).length:=S3 hn hwk.n
 have ht0: ∀(i:Nat) c,t0[i]? = some c->c.wf (O i0).length=true:=fun i c hc=>by
  rcases (uc hwk.t).2 i c hc with e|e
  ·rw [e];rfl
  ·exact e.2
 refine wpIn_rangeFunc (F:=WF f.r) (n:=9) (fun fn _=> ?_);obtain ⟨l,mk,w1,Z1,q,D1,hent,hq,⟨rfl,rfl,rfl⟩,hl,hL,hb,hM1,hS1,hDD,hDD',hZZ⟩:=zZ (f:=f.wz (fun b=>f.Z b∨X b)) m hm2 hs2 fn ps assign body;obtain ⟨St,hSt⟩: ∃St:Nat->Prop,St=fun b=>b<w.heap.size∧D b∧ ¬owned nu s.o b:=⟨_,rfl⟩;have hno: ∀b,b<w.heap.size-> ¬owned nu s.o b-> ¬owned nu (O i0) b:=fun b h1 h2=>((hwk.qQ (nu:=nu) (w:=w) (Z:=fun _=>False)).keep b h1 h2 (fun h=>h)).2;have hXZ: ∀b,X b->Z1 b:=fun b hx=>hZZ b (.inr hx);have hXl: ∀b,X b->b≠l:=fun b hx e=>hl (e ▸ hXZ b hx);have hl': ¬(fun b=>Z1 b∧ ¬X b) l:=fun h=>hl h.1;have hZr': ∀l,(f.wz (fun b=>Z1 b∧ ¬X b)).r=some l->m.fix l:=hZr
 have hXnote: ∀b,X b-> ∀ob,w1.heap[b]? = some ob->qG ob=false:=fun b hx ob hob=>by
  rw [hb.block b (XD b hx).2] at hob
  cases hn:qG ob with
  | false=>rfl
  | true=>exact absurd (own0 b hx) (jw hs.ro hob hn)
 have hcore:Core m (f.wz (fun b=>Z1 b∧ ¬X b)) (O i0).length l t0 { a with defers:=mk++a.defers } St q D1 nu (O i0) (Y i0) X X w1:=by
  have e:(fun b=>(f.wz (fun b=>Z1 b∧ ¬X b)).Z b∨X b∨b=l)=(fun b=>Z1 b∨b=l):=funext fun b=>propext ⟨fun h=>h.elim (fun q=> .inl q.1) (fun q=>q.elim (fun q=> .inl (hXZ b q)) .inr),fun h=>h.elim (fun q=>(Classical.em (X b)).elim (fun hx=> .inr (.inl hx)) (fun hx=> .inl ⟨q,hx⟩)) (fun q=> .inr (.inr q))⟩
  refine ⟨by rw [e];exact hM1,⟨hS1.ro,hS1.tm,hS1.ig.base, ?_,hS1.ig.loop⟩,fun b h=>⟨fun hh=>hh.2 h,hXl b h⟩,fun b h=>h,fun b h=>S4 (XD b h).2 hb.size,fun b h h'=>absurd h h',Xn,fun b h=> ?_,hL,SY _⟩
  ·obtain ⟨rs,k1,k2,k3⟩:=hS1.ig.marks;exact ⟨rs,k1,k2,fun x hx=>⟨(k3 x hx).1,⟨(k3 x hx).2.1,fun hxx=>by have:=hXnote x hxx _ (k3 x hx).2.2;cases this⟩,(k3 x hx).2.2⟩⟩
  ·rw [hSt] at h;exact ⟨hDD b h.1 ⟨h.2.1,fun hx=>h.2.2 (own0 b hx)⟩,hno b h.1 h.2.2,S4 h.1 hb.size⟩
 let pr:=zY (P:=P) At nx hmx m (f.wz (fun b=>Z1 b∧ ¬X b)) (O i0).length l t0 { a with defers:=mk++a.defers } St q O Y ok Q hmn hZr' hl' ht0 hq hA hB har hnx hround
 have hFI: ∀b,Fz (fun b=>D b∧ ¬(b<w.heap.size∧ ∃id ob,id∉ids∧s.o[id]? = some (some ob)∧cr (nu id ob.hl)=some b)) (fun k len=>nu (sig ids s.o.length k) len) oI w b->w1.heap[b]? = w.heap[b]? ∧Fz (fun b=>St b∨X b∨w1.heap.size<=b) (fun k len=>nu (sig ids s.o.length k) len) oI w1 b:=fun b hf=>by
  refine ⟨hb.block b hf.1,S4 hf.1 hb.size,hf.2.1, .inl ?_⟩;rw [hSt];refine ⟨hf.1,hf.2.2.1,fun ⟨id,ob,h1,h2⟩=> ?_⟩
  by_cases hmem:id∈ids
  ·obtain ⟨k,hk⟩:=List.getElem?_of_mem hmem;have e:=congrArg (fun l=>l[k]?) hids;simp only [List.getElem?_map,hk,Option.map_some,h1] at e
   cases hy:oI[k]? with
   | none=>rw [hy] at e;cases e
   | some y=>
    rw [hy] at e;simp only [Option.map_some,Option.some.injEq] at e;obtain ⟨ob0,rfl,rfl⟩:=Option.map_eq_some_iff.1 e.symm;refine hf.2.1 ⟨k,ob0,hy, ?_⟩;obtain ⟨i,q1,q2,_⟩:=obj0 k ob0 hy;rw [hk] at q1;cases q1;rw [aa.dF] at h2;show cr (nu (sig ids s.o.length k) _)=_;rw [q2];exact h2
  ·exact hf.2.2.2 ⟨hf.1,id,ob,hmem,h1,h2⟩
 have hcalls:=hseq.2 l pr (fun hc rest rest' X T w hp hJ=>by
  obtain ⟨k,D,nu,h1,h2⟩:=hJ
  exact ⟨k,D,nu,hpm hc k rest rest' hp h1,h2⟩) (fun b=>St b∨X b∨w1.heap.size<=b) (fun k len=>nu (sig ids s.o.length k) len) w1 ca X (ro0.keep (fun b ho=>⟨hb.block b (ro0.aU ho), .inr (.inl (by rw [hX];exact ho))⟩) (fun b h=> .inr (.inr h)) hFI)
  ⟨by rw [<-hca.len,bN],fun i c v q1 q2=>((hca.at' i (c.aO (sig ids s.o.length)) v (by rw [bw,q1];rfl) q2).yh (f:=sig ids s.o.length) (n:=ids.length) fz0 hdr0 c (bF hcaps q1) rfl).keep hFI⟩
  (fun b hb=>by rw [hX];exact hb) (fun b h=>by rw [hX] at h;exact h) (fun b hlt hd=>hd.elim .inr (fun h=>h.elim .inl (fun h=>by omega))) (fun b h=>(hcore.st b h).2.2) ⟨i0,D1,nu,hat0,h0,hcore⟩
 refine ⟨l,mk,w1,{ target:= .fn (.func gf) ca,args:= #[.func (.yield l) #[] #[]] },w1,gf, #[.func (.yield l) #[] #[]]++ca,w1,hent, ?_,fun f' _=>trivial, ?_,fun h=>by simp, ?_⟩
 ·simp only [resolve,hgv'];simp [go_sem]
 ·simp [invoke,go_sem,gx hseq.1]
 ·refine jk (hcalls.mono fun e w3 he=> ?_);obtain ⟨⟨v,rfl⟩,X',T',he⟩:=he
  rcases he with ⟨k,D3,nu3,h1,hok,h3⟩|⟨e,D3,nu3,o3,y3,h1,h2,h3⟩
  ·obtain ⟨k1,k2⟩:=h3.done hZr' hl' { q with state:= .exhausted };have hend:=run_endLoop (P:=P) h3.ku (by rw [hq.1];simp);rw [hq.2.1] at hend;rw [show ({ q with state:= .exhausted }:Loop)={ q with state:= .exhausted } from rfl] at k1
   have k0:({ q with state:= .exhausted,pending:=none }:Loop)={ q with state:= .exhausted }:=by
    obtain ⟨e1,e2,_⟩:=hq;cases q;simp only at e2;subst e2;rfl
   refine ⟨none,_,hend, ?_⟩
   first
    | exact hR .normal _ (fun b=>Z1 b∧ ¬X b) ⟨t0,O k,Y k⟩ _ _ nu3 k1 k2 (hfin k h1 hok)
    | (rw [<-k0] at k1 k2;exact hR .normal _ (fun b=>Z1 b∧ ¬X b) ⟨t0,O k,Y k⟩ _ _ nu3 k1 k2 (hfin k h1 hok))
  ·refine ⟨some e.code,_,run_endLoop (P:=P) h3.ku (by simp), ?_⟩;obtain ⟨k1,k2⟩:=h3.done hZr' hl' { ({ q with state:= .done,pending:=some e.code }:Loop) with state:= .exhausted };have hh:=hR e _ (fun b=>Z1 b∧ ¬X b) ⟨t0,o3,y3⟩ _ _ nu3 k1 k2 h2
   cases e with
   | normal=>exact absurd rfl h1
   | exit i=>exact wpIn_exit hh
   | goto i=>exact wpIn_goto hh
   | ret=>exact wpIn_ret hh
theorem p9 {n0:Nat} {s:AS} {Q:aJ->AS->Prop} {g:Operand} {ps:Array Tmp} {assign body:Code} {gf:FuncId} {caps0:List AV} {oI:List (Option aa)} {L:List (List AV)} (hseq:nz P gf caps0 oI L) (ids:List Nat) (hnd:ids.Nodup)
  (hids:ids.map (fun i=>s.o[i]?)=oI.map (fun x=>some (x.map (aa.aO (sig ids s.o.length))))) (hwo: ∀(k:Nat) ob,oI[k]? = some (some ob)->bQ ids.length ob.rows=true) (O:Nat->List (Option aa)) (Y:Nat->iz) (ok:Nat->Prop) (h0:ok 0) (t0:List AV)
  (hg:s.ev g = .fn gf [] (bo (sig ids s.o.length) caps0)) (hcaps:ba ids.length caps0=true) (hdead: ∀i,i∈ids-> ∀ob,(O 0)[i]? ≠ some (some ob)) (hwk:Wk n0 s ⟨t0,O 0,Y 0⟩) (hA:a8 assign=true) (hB:a8 body=true) (har: ∀x,x∈L->x.length=ps.size)
  (hround: ∀k x,ok k->L[k]? = some x->bK P (O 0).length assign ⟨dY ps.toList x t0,O k,Y k⟩ (jb P (O 0).length body (jJ (O 0).length t0 (ok (k+1)) (O (k+1)) (Y (k+1)) Q)))
  (hfin:ok L.length->Q .normal ⟨t0,O L.length,Y L.length⟩):bK P n0 (.rangeFunc g ps assign body) s Q:=by
 have key: ∀(k:Nat) x rest,L.drop k=x :: rest->L[k]? = some x∧L.drop (k+1)=rest∧k<L.length:=fun k x rest h=>by
  have hlt:k<L.length:=by
   rcases S9 k L.length with q|q
   ·exact q
   ·rw [List.drop_eq_nil_of_le q] at h;cases h
  rw [List.drop_eq_getElem_cons hlt] at h;obtain ⟨h1,h2⟩:=List.cons.inj h;exact ⟨by rw [<-h1];exact Tn hlt,h2,hlt⟩
 refine p8 (c:=false) ⟨hseq.1,fun l pr _=>hseq.2 l pr⟩ (fun (k:Nat) rest=>L.drop k=rest∧k<=L.length) (fun k _=>k+1) 0 ⟨rfl,Nat.zero_le _⟩ (fun k x rest h=>⟨(key k x rest h.1).2.1,(key k x rest h.1).2.2⟩) (fun h=>by cases h) ids hnd hids hwo O Y ok h0 t0 hg hcaps hdead hwk hA hB (fun k x rest h=>har x (TI (key k x rest h.1).1)) (fun k x rest hok h=>hround k x hok (key k x rest h.1).1) (fun k h hok=> ?_)
 have hk:k=L.length:=by
  have:=List.drop_eq_nil_iff.1 h.1
  have:=h.2
  omega
 subst hk;exact hfin hok
theorem yX {n0:Nat} {s:AS} {Q:aJ->AS->Prop} {g:Operand} {ps:Array Tmp} {assign body:Code} {gf:FuncId} {caps:List AV} {L:List (List AV)} (hseq:yJ true P gf caps [] L) (O:List (List AV)->List (Option aa)) (ok:List (List AV)->Prop) (h0:ok []) (t0:List AV)
  (hg:s.ev g = .fn gf [] caps) (hcaps:ba 0 caps=true) (hwk:Wk n0 s ⟨t0,O [],s.y⟩) (hA:a8 assign=true) (hB:a8 body=true) (har: ∀x,x∈L->x.length=ps.size)
  (hround: ∀vis x rest,ok vis->(vis++x :: rest).Perm L->bK P (O []).length assign ⟨dY ps.toList x t0,O vis,s.y⟩ (jb P (O []).length body (jJ (O []).length t0 (ok (vis++[x])) (O (vis++[x])) s.y Q)))
  (hfin: ∀vis,vis.Perm L->ok vis->Q .normal ⟨t0,O vis,s.y⟩):bK P n0 (.rangeFunc g ps assign body) s Q:=
 p8 (c:=true) hseq (fun vis rest=>(vis++rest).Perm L) (fun vis x=>vis++[x]) [] (.refl _) (fun k x rest h=>by simpa using h) (fun _ k rest rest' hp h=>(hp.symm.append_left k).trans h) [] Uc rfl (fun k ob h=>by simp at h) O (fun _=>s.y) ok h0 t0 (by rw [dK _ _ hcaps];exact hg) hcaps (fun i h=>by simp at h) hwk hA hB
  (fun k x rest h=>har x (h.mem_iff.1 (List.mem_append_right _ List.mem_cons_self))) hround (fun k h hok=>hfin k (by simpa using h) hok)
theorem Ci {n0:Nat} {s:AS} {Q:aJ->AS->Prop} {g:Operand} {ps:Array Tmp} {assign body:Code} {gf:FuncId} {caps:List AV} {L:List (List AV)} (hseq:nz P gf caps [] L) (O:Nat->List (Option aa)) (Y:Nat->iz) (ok:Nat->Prop) (h0:ok 0) (t0:List AV)
  (hg:s.ev g = .fn gf [] caps) (hcaps:ba 0 caps=true) (hwk:Wk n0 s ⟨t0,O 0,Y 0⟩) (hA:a8 assign=true) (hB:a8 body=true) (har: ∀x,x∈L->x.length=ps.size)
  (hround: ∀k x,ok k->L[k]? = some x->bK P (O 0).length assign ⟨dY ps.toList x t0,O k,Y k⟩ (jb P (O 0).length body (jJ (O 0).length t0 (ok (k+1)) (O (k+1)) (Y (k+1)) Q)))
  (hfin:ok L.length->Q .normal ⟨t0,O L.length,Y L.length⟩):bK P n0 (.rangeFunc g ps assign body) s Q:=
 p9 hseq [] Uc rfl (fun k ob h=>by simp at h) O Y ok h0 t0 (by rw [dK _ _ hcaps];exact hg) hcaps (fun i h=>by simp at h) hwk hA hB har hround hfin
theorem BL (P:Program) (rs:List ResultVar) (l:Nat) (s:AS):DU P rs l .ret s=lp (jZ P s rs) s.o (fun _ _=>s.y = .run l []∨s.y = .off):=rfl
theorem tU (P:Program) (rs:List ResultVar) (l:Nat) (s:AS):DU P rs l .normal s=lp (jZ P s rs) s.o (fun _ _=>s.y = .run l []∨s.y = .off):=rfl
theorem yA (N:Nat) (t0:List AV) (p:Prop) (o':List (Option aa)) (y':iz) (Q:aJ->AS->Prop) (i:Nat) (s:AS):jJ N t0 p o' y' Q (.exit i) s=Q (.exit i) ⟨t0,s.o,s.y⟩:=rfl
theorem yB (N:Nat) (t0:List AV) (p:Prop) (o':List (Option aa)) (y':iz) (Q:aJ->AS->Prop) (i:Nat) (s:AS):jJ N t0 p o' y' Q (.goto i) s=Q (.goto i) ⟨t0,s.o,s.y⟩:=rfl
theorem BK (N:Nat) (t0:List AV) (p:Prop) (o':List (Option aa)) (y':iz) (Q:aJ->AS->Prop) (s:AS):jJ N t0 p o' y' Q .ret s=Q .ret ⟨t0,s.o,s.y⟩:=rfl
theorem tT (N:Nat) (t0:List AV) (p:Prop) (o':List (Option aa)) (y':iz) (Q:aJ->AS->Prop) (s:AS):jJ N t0 p o' y' Q .normal s=(p∧Wk N ⟨t0,s.o,s.y⟩ ⟨t0,o',y'⟩):=rfl
theorem rQ (P:Program) (N:Nat) (body:Code) (R:aJ->AS->Prop) (s:AS):jb P N body R .normal s=bK P N body s R:=rfl
attribute [go_sem] BL tU yA yB BK tT rQ dY
theorem nI {n0:Nat} {Q:aJ->AS->Prop} {ι:Type} {c:Code} {t:List AV} {o:List (Option aa)} {y:iz} (m:Nat) (upd:ι->List (Nat×AV)) (ob:ι->List (Option aa)) (yy:ι->iz) (mu:ι->Nat) (ok:ι->Prop) (i0:ι) (h3:ok i0) (h2:Wk n0 ⟨t,o,y⟩ ⟨jG (bX m t) (upd i0),ob i0,yy i0⟩)
  (h: ∀i,ok i-> ∀K:AS->Prop,(∀s2,aP n0 (fun i=>⟨jG (bX m t) (upd i),ob i,yy i⟩) mu ok (mu i) s2->K s2)->bK P n0 c ⟨jG (bX m t) (upd i),ob i,yy i⟩ (lq K Q)):bK P n0 (.loop c) ⟨t,o,y⟩ Q:=
 j6 (fun i=>⟨jG (bX m t) (upd i),ob i,yy i⟩) mu ok i0 _ .refl h2 h3 h
end
end
section
section
variable {P:Program}
theorem lS {n0:Nat} {Q:aJ->AS->Prop} {t:List AV} {o:List (Option aa)} {y:iz} {g:Operand} {ps:Array Tmp} {assign body:Code} {gf:FuncId} {caps:List AV} {L:List (List AV)} (hseq:nz P gf caps [] L) (m:Nat) (O:Nat->List (Option aa)) (ok:Nat->Prop) (h0:ok 0)
  (hg:(AS.mk t o y).ev g = .fn gf [] caps) (hcaps:ba 0 caps=true) (hwk:Wk n0 ⟨t,o,y⟩ ⟨bX m t,O 0,y⟩) (hA:a8 assign=true) (hB:a8 body=true) (har: ∀x,x∈L->x.length=ps.size)
  (hround: ∀k x,ok k->L[k]? = some x->bK P (O 0).length assign ⟨dY ps.toList x (bX m t),O k,y⟩ (jb P (O 0).length body (jJ (O 0).length (bX m t) (ok (k+1)) (O (k+1)) y Q)))
  (hfin:ok L.length->Q .normal ⟨bX m t,O L.length,y⟩):bK P n0 (.rangeFunc g ps assign body) ⟨t,o,y⟩ Q:=
 Ci hseq O (fun _=>y) ok h0 (bX m t) hg hcaps hwk hA hB har hround hfin
def yK (s s':AS):Prop:= ∀(f:Fr) (D:Nat->Prop) (nu:Nat->Nat->Value) (a:Act) (w:World),RS f D nu s a w-> ∃nu',bl nu s.o w nu' s'.o w∧s'.y=s.y∧RS f D nu' s' a w
theorem nH {n0:Nat} {s s':AS} {c:Code} {Q:aJ->AS->Prop} (ht:yK s s') (hok:a8 c=true) (h:bK P n0 c s' Q):yD P n0 c s Q:=fun f m D nu a w hZr hn hm hs hmx R hO hR=>by
 obtain ⟨nu',h1,hy,h2⟩:=ht f D nu a w hs;exact eV hmx m hZr hn c hok s' a w D nu' f.Z Q R hO (by rw [hy];exact m.own hm hs.ro h1 h2.ro) h2 h hR
theorem ck {n0 id:Nat} {s s':AS} {ops:Array Oper} {d:Bool} {Q:aJ->AS->Prop} (ht:yK s s') (hok:c9 ops=true) (h:bK P n0 (.region id ops d) s' Q):bK P n0 (.region id ops d) s Q:=by
 have:=nH (P:=P) (n0:=n0) (c:= .region id ops d) (Q:=Q) ht hok h
 cases d
 ·exact .inr this
 ·exact .inr this
theorem ab.E9 {f:FuncId} {args args':List AV} {o:List (Option aa)} {r:AV} {K:AV->List (Option aa)->Prop} (h:af P f args' r) (n:Nat) {p:Prop} (hz:eU o n args=some (p,args')) (hp:p) (hf:r.flat=true) (k:K r o):ab P f args o K:=by
 refine .inr (.inr ⟨h.2.1,fun D nu w vargs hro hra=> ?_⟩);obtain ⟨hl,hall⟩:=(kf hro n).2 _ _ _ hz hp
 have hra':gk (Ax D nu [] w) nu [] w args' vargs:=⟨by rw [<-hl];exact hra.len,fun i c x q1 q2=>by
  have hi:i<args.length:=by rw [hl];exact (S7.1 q1).1
  exact (hall i _ c x (Tn hi) q1 (hra.at' i _ x (Tn hi) q2)).mono (.refl _ _ _) (fun b _ hb=>fun hlt=>⟨hlt,bb _ _,hb⟩)⟩
 refine (h.2.2 (fun _=>True) nu w vargs (.nil _ _ _ (fun _ _=>trivial) (hro.gl.nil (fun _ _ _=>trivial))) ⟨hra'.len,fun i c x q1 q2=>(hra'.at' i c x q1 q2).mono (.refl _ _ _) (fun _ _ _=>trivial)⟩).mono ?_;rintro e w' ⟨v,nu',o',r',rfl,hm,_,hx,rfl,rfl⟩;have hb:=fa hm;exact ⟨_,nu,o,_,rfl,ak hb,hro.below hb,hx.flat hf,k⟩
end
attribute [go_sem] List.zip_cons_cons List.zip_nil_left List.zip_nil_right
end
end Go.Proofs.YtlhhccmopfamhaaGreatDoor
