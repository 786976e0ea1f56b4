/- texts of one claim, one behind the other. -/
import Derived.Test.YtlhhccmopfamhaaGreatDoorVAbsJ
import Derived.Test.YtlhhccmopfamhaaGreatDoorVFen
import Derived.OrdersIn
set_option linter.unusedSimpArgs false
set_option linter.unusedVariables false
set_option maxRecDepth 100000
set_option maxHeartbeats 16000000
open Array renaming getElem?_eq_some_iff -> aeh, getD_eq_getD_getElem? -> ae3, getElem?_eq_getElem -> aer, any_eq_true' -> ae4, all_eq_true_iff_forall_mem -> afb
open Bool renaming and_eq_true -> aeW, or_eq_true -> afa
open List renaming length_cons -> ae0, mem_cons_of_mem -> aeX, getElem?_of_mem -> aey, getElem?_eq_some_iff -> aek, getElem?_eq_getElem -> aes, nodup_nil -> ae1, mem_of_getElem? -> aeG, range'_succ -> ae6, all_eq_true -> ae7, mem_range -> ae8, size_toArray -> ae9, getElem?_toArray -> aet, singleton_append -> afd
open Option renaming map_eq_some_iff -> aeN
open Nat renaming lt_of_lt_of_le -> aef, le_refl -> aed, le_trans -> aee, lt_or_ge -> aei, sub_self -> ae2, lt_trichotomy -> ae5, zero_le -> aen, le_of_lt -> afc
namespace Go.Proofs.YtlhhccmopfamhaaGreatDoor
open Go.RowKit
mutual
def AV.bb(f:Nat->Nat):AV->AV
 | .undef=> .undef
 | .v x=> .v x
 | .agg cs=> .agg (bW f cs)
 | .ck vs=> .ck (bW f vs)
 | .aA z rows len=> .aA z (cm f rows) len
 | .vp cs=> .vp (bW f cs)
 | .ptr id len z row off=> .ptr (f id) len z row off
 | .vec id len=> .vec (f id) len
 | .fn g fi ca=> .fn g (bW f fi) (bW f ca)
 | .full a=> .full (a.bb f)
 | .ju p a=> .ju p (a.bb f)
 | .mp rows=> .mp (cm f rows)
def bW(f:Nat->Nat):C5->C5
 | []=>[]
 |a::l=>a.bb f::bW f l
def cm(f:Nat->Nat):List C5->List C5
 | []=>[]
 |r::l=>bW f r::cm f l
end
theorem cQ(f:Nat->Nat):∀l:C5,(bW f l).length=l.length
 | []=>rfl
 |a::l=>by rw[bW,ae0,ae0,cQ f l]
theorem fl(f:Nat->Nat):∀l:List C5,(cm f l).length=l.length
 | []=>rfl
 |a::l=>by rw[cm,ae0,ae0,fl f l]
theorem cr(f:Nat->Nat):∀(l:C5)(i:Nat),(bW f l)[i]?=(l[i]?).map (AV.bb f)
 | [],i=>by simp[bW]
 |a::l,0=>by simp[bW]
 |a::l,i+1=>by simpa [bW]using cr f l i
theorem fJ(f:Nat->Nat):∀(l:List C5)(i:Nat),(cm f l)[i]?=(l[i]?).map (bW f)
 | [],i=>by simp[cm]
 |a::l,0=>by simp[cm]
 |a::l,i+1=>by simpa [cm]using fJ f l i
def aa.bb(f:Nat->Nat)(ob:aa):aa:=⟨ob.T,ob.z,ob.fc,cm f ob.rows⟩
theorem aa.gH(f:Nat->Nat)(ob:aa):(ob.bb f).hl=ob.hl:=by simp[aa.hl,aa.bb,fl]
theorem dJ{α β:Type}{g:α->β}{x:Option α}{y:β}(h:x.map g=some y):∃a,x=some a∧y=g a:=by
 cases x with
 |none=>cases h
 |some a=>grind
section
variable {D D':Nat->Prop} {nu nu':EQ} {o o':AC} {w:World} {P:Program}
theorem RA.bb{f:Nat->Nat}(W:∀b,Fz D nu o w b->Fz D' nu' o' w b)(hH:∀id len,fg o id len->fg o' (f id) len∧nu' (f id) len=nu id len){a:AV}{x:Value}(hr:RA D nu o w a x):RA D' nu' o' w (a.bb f) x:=by
 induction hr with
 |undef x=>exact .undef x
 |v x=>exact .v x
 |agg cs xs q _ A ih=>
  exact .agg _ xs (by grind[cQ]) (λi c x u Y=>by
   grind[cr,dJ]) A
 |ck cs xs q _ ih=>
  exact .ck _ xs (by grind[cQ]) (λi c x u Y=>by
   grind[cr,dJ])
 |b6 z=>exact .b6 z
 |cp z a=>exact .cp z a
 |aA z rows len b off cap g q H A O h5 h6 _ h8 ih=>
  have key:∀(i j:Nat)row c,(cm f rows)[i]?=some row->row[j]?=some c->∃row0 V,rows[i]?=some row0∧row0[j]?=some V∧c=V.bb f:=λi j row c hi U=>by
   grind[fJ,dJ,cr]
  refine .aA z _ len b off cap g (by grind[fl]) (by grind[fl]) A (λhne=>W b (O (λe=>hne (by rw[e];rfl)))) (λi row hi=>?_) (λi j row c hi U=>?_) (λi j row c hi U=>?_) (λi j row c hi U=>?_)
  ·grind[fJ,dJ,cQ]
  ·grind
  ·grind
  grind
 |vp cs b off g q H _ O ih=>
  have key:∀(j:Nat)c,(bW f cs)[j]?=some c->∃V,cs[j]?=some V∧c=V.bb f:=λj c U=>by
   grind[cr,dJ]
  refine .vp _ b off g (W b q) (λj c u=>?_) (λj c u=>?_) (λj c u=>?_)
  ·grind
  ·grind
  grind
 |ptr id len z row off b q H=>
  obtain⟨A,O⟩:=hH id len q;exact .ptr (f id) len z row off b A (by grind)
 |vec id len q H=>
  obtain⟨A,O⟩:=hH id len q
  have:=RA.vec (D:=D') (nu:=nu') (o:=o') (w:=w) (f id) len A (by grind)
  rw[O]at this;exact this
 |fn g first caps fi ca q H _ _ ih1 ih2=>
  exact .fn g _ _ fi ca (by grind[cQ]) (by grind[cQ]) (λi c x u Y=>by
   grind[cr,dJ]) (λi c x u Y=>by
   grind[cr,dJ])
 |full a x q _ ih=>exact .full _ x q ih
 |ju p a x S h0 q u H _ ih=>exact .ju p _ x S h0 (λb hb=>W b (q b hb)) u H ih
 |mp rows b es cl q H A O h5 h6 _ ih=>
  refine .mp _ b es cl (W b q) H (by grind[fl]) (λi row hi=>?_) h5 h6 (λi j row c e hi U he=>?_)
  ·grind[fJ,dJ,cQ]
  grind[fJ,dJ,cr]
theorem RA.GB{f:Nat->Nat}{n:Nat}(hF:∀b,Fz D nu o w b->Fz D' nu' o' w b)(hH:∀id len,id<n->fg o (f id) len->fg o' id len∧nu' id len=nu (f id) len){a':AV}{x:Value}(hr:RA D nu o w a' x) :
  ∀a:AV,a.wf n=true->a'=a.bb f->RA D' nu' o' w a x:=by
 induction hr with
 |undef x=>intro a _ e;cases a<;>simp only[AV.bb,reduceCtorEq]at e;exact .undef x
 |v x=>
  intro a _ e;cases a<;>simp only[AV.bb,reduceCtorEq,AV.v.injEq]at e;subst e;exact .v x
 |agg cs xs u _ U ih=>
  intro a q e;cases a<;>simp only[AV.bb,reduceCtorEq,AV.agg.injEq]at e;rename_i ds;subst e;rw[cQ]at u;refine .agg ds xs u (λi c x A W=>ih i (c.bb f) x (by grind[cr]) W c ?_ rfl) U
  grind[AV.wf,cG]
 |ck cs xs u _ ih=>
  intro a q e;cases a<;>simp only[AV.bb,reduceCtorEq,AV.ck.injEq]at e;rename_i ds;subst e;rw[cQ]at u;refine .ck ds xs u (λi c x A W=>ih i (c.bb f) x (by grind[cr]) W c ?_ rfl)
  grind[AV.wf,cG]
 |b6 z=>
  intro a _ e
  cases a with
  |aA z' rows' len'=>
   simp only[AV.bb,AV.aA.injEq]at e;obtain⟨rfl,e,rfl⟩:=e
   cases rows' with
   |nil=>exact .b6 _
   |cons r l=>grind[cm]
  |_=>grind[AV.bb]
 |cp z ad=>
  intro a _ e
  cases a with
  |aA z' rows' len'=>
   simp only[AV.bb,AV.aA.injEq]at e;obtain⟨rfl,e,rfl⟩:=e
   cases rows' with
   |nil=>exact .cp _ _
   |cons r l=>grind[cm]
  |_=>grind[AV.bb]
 |aA z rows len b off cap g u H U Y h5 h6 _ h8 ih=>
  intro a q e;cases a<;>simp only[AV.bb,reduceCtorEq,AV.aA.injEq]at e;rename_i z' rows' len';obtain⟨rfl,rfl,rfl⟩:=e;rw[fl]at u H;simp only[AV.wf]at q
  have up:∀(i:Nat)row,rows'[i]?=some row->(cm f rows')[i]?=some (bW f row):=λi row h=>by grind[fJ]
  have upj:∀(row:C5)(j:Nat)c,row[j]?=some c->(bW f row)[j]?=some (c.bb f):=λrow j c h=>by grind[cr]
  refine .aA _ rows' _ b off cap g u H U (λhne=>hF b (Y (λe=>hne ?_))) (λi row hi=>?_) (λi j row c hi V=>h6 i j _ _ (up i row hi) (upj row j c V)) (λi j row c hi V=>ih i j _ _ (up i row hi) (upj row j c V) c (cG (lh q hi) V) rfl) (λi j row c hi V=>h8 i j _ _ (up i row hi) (upj row j c V))
  ·cases rows' with
   |nil=>rfl
   |cons r l=>grind[cm]
  grind[cQ]
 |vp cs b off g u H _ Y ih=>
  intro a q e;cases a<;>simp only[AV.bb,reduceCtorEq,AV.vp.injEq]at e;rename_i ds;subst e;simp only[AV.wf]at q
  have up:∀(j:Nat)c,ds[j]?=some c->(bW f ds)[j]?=some (c.bb f):=λj c h=>by grind[cr]
  exact .vp ds b off g (hF b u) (λj c A=>H j _ (up j c A)) (λj c A=>ih j _ (up j c A) c (cG q A) rfl) (λj c A=>Y j _ (up j c A))
 |ptr id len z row off b u H=>
  intro a q e;cases a<;>simp only[AV.bb,reduceCtorEq,AV.ptr.injEq]at e;rename_i O len' z' row' off';obtain⟨rfl,rfl,rfl,rfl,rfl⟩:=e;simp only[AV.wf,decide_eq_true_eq]at q;obtain⟨U,Y⟩:=hH O _ q u;exact .ptr O _ _ _ _ b U (by grind)
 |vec id len u H=>
  intro a q e;cases a<;>simp only[AV.bb,reduceCtorEq,AV.vec.injEq]at e;rename_i O len';obtain⟨rfl,rfl⟩:=e;simp only[AV.wf,decide_eq_true_eq]at q;obtain⟨U,Y⟩:=hH O _ q u
  have:=RA.vec (D:=D') (nu:=nu') (o:=o') (w:=w) O len U (by grind)
  grind
 |fn g first caps fi ca u H _ _ ih1 ih2=>
  intro a q e;cases a<;>simp only[AV.bb,reduceCtorEq,AV.fn.injEq]at e;rename_i g' fi' ca';obtain⟨rfl,rfl,rfl⟩:=e;rw[cQ]at u H;simp only[AV.wf,aeW]at q;exact .fn _ fi' ca' fi ca u H (λi c x A W=>ih1 i (c.bb f) x (by grind[cr]) W c (cG q.1 A) rfl) (λi c x A W=>ih2 i (c.bb f) x (by grind[cr]) W c (cG q.2 A) rfl)
 |full b x u _ ih=>
  intro a q e;cases a<;>simp only[AV.bb,reduceCtorEq,AV.full.injEq]at e;rename_i b';simp only[AV.wf]at q;exact .full b' x u (ih b' q e)
 |ju p b x S h0 u A H _ ih=>
  intro a q e;cases a<;>simp only[AV.bb,reduceCtorEq,AV.ju.injEq]at e;rename_i p' b';obtain⟨rfl,e⟩:=e;simp only[AV.wf]at q;exact .ju _ b' x S h0 (λb hb=>hF b (u b hb)) A H (ih b' q e)
 |mp rows b es cl u H U Y h5 h6 _ ih=>
  intro a q e;cases a<;>simp only[AV.bb,reduceCtorEq,AV.mp.injEq]at e;rename_i rows';subst e;rw[fl]at U;simp only[AV.wf]at q
  have up:∀(i:Nat)row,rows'[i]?=some row->(cm f rows')[i]?=some (bW f row):=λi row h=>by grind[fJ]
  have upj:∀(row:C5)(j:Nat)c,row[j]?=some c->(bW f row)[j]?=some (c.bb f):=λrow j c h=>by grind[cr]
  exact .mp rows' b es cl (hF b u) H U (λi row hi=>by grind[cQ]) h5 h6 (λi j row c e hi V he=>ih i j _ _ e (up i row hi) (upj row j c V) he c (cG (lh q hi) V) rfl)
def sig(ids:Do)(n k:Nat):Nat:=if k<ids.length then ids.getD k 0 else n+(k-ids.length)
def fj(f:Nat->Nat):Do->AC->AC->AC
 |i::ids,x::l,o=>fj f ids l (o.set i (x.map (aa.bb f)))
 | [],l,o=>o++l.map (Option.map (aa.bb f))
 |_::_,[],o=>o
theorem oF(f:Nat->Nat):∀(ids:Do)(l o:AC)(j:Nat),j∉ids->j<o.length->(fj f ids l o)[j]?=o[j]?
 | [],l,o,j,_,q=>by rw[fj,List.getElem?_append_left q]
 |i::ids,x::l,o,j,hn,q=>by
  rw[fj,oF f ids l _ j (λh=>hn (aeX _ h)) (by simpa using q),List.getElem?_set_ne (λe=>hn (by rw[e];exact List.mem_cons_self))]
 |_::_,[],_,_,_,_=>by rw[fj]
theorem KJ(f:Nat->Nat):∀(ids:Do)(l o:AC),ids.Nodup->(∀i∈ids,i<o.length)->∀(k i:Nat)(x:Option aa),ids[k]?=some i->l[k]?=some x->(fj f ids l o)[i]?=some (x.map (aa.bb f))
 | [],l,o,_,_,k,i,x,h,_=>by simp at h
 |j::ids,[],o,_,_,k,i,x,_,h=>by simp at h
 |j::ids,y::l,o,hn,q,0,i,x,A,u=>by
  grind[fj,oF,List.nodup_cons,List.mem_cons_self,List.getElem?_set_self]
 |j::ids,y::l,o,hn,q,k+1,i,x,A,u=>by
  rw[fj];exact KJ f ids l _ (List.nodup_cons.1 hn).2 (λa H=>by simpa using q a (aeX _ H)) k i x (by simpa using A) (by simpa using u)
theorem zj(f:Nat->Nat):∀(ids:Do)(l o:AC)(j:Nat),ids.length<=l.length->(fj f ids l o)[o.length+j]?=(l[ids.length+j]?).map (Option.map (aa.bb f))
 | [],l,o,j,_=>by grind[fj,List.getElem?_append_right]
 |i::ids,x::l,o,j,h=>by
  have:=zj f ids l (o.set i (x.map (aa.bb f))) j (by simpa using h)
  rw[fj];rw[List.length_set]at this;rw[this]
  congr 1
  rw[ae0,show ids.length+1+j=(ids.length+j)+1 by omega,List.getElem?_cons_succ]
 |_::_,[],_,_,h=>by simp at h
theorem AX:∀(ids:Do),ids.Nodup->∀(k i:Nat),ids[k]?=some i->ids.idxOf i=k
 | [],_,k,i,h=>by simp at h
 |j::ids,hn,0,i,h=>by grind
 |j::ids,hn,k+1,i,h=>by
  grind
theorem yn{o0:AC}(ids:Do)(A:RO D nu o w)(hnd:ids.Nodup)(ho:ids.map (λi=>o[i]?)=o0.map (λx=>some (x.map (aa.bb (sig ids o.length)))))
  (hwo:∀(k:Nat)ob,o0[k]?=some (some ob)->bE ids.length ob.rows=true) :
  RO (λb=>D b∧ ¬(b<w.heap.size∧∃id ob,id∉ids∧o[id]?=some (some ob)∧dW (nu id ob.hl)=some b)) (λk len=>nu (sig ids o.length k) len) o0 w∧(∀b,owned (λk len=>nu (sig ids o.length k) len) o0 b->owned nu o b) ∧
   (∀b,Fz D nu o w b->Fz (λb=>D b∧ ¬(b<w.heap.size∧∃id ob,id∉ids∧o[id]?=some (some ob)∧dW (nu id ob.hl)=some b)) (λk len=>nu (sig ids o.length k) len) o0 w b) ∧
   (∀id len,id<ids.length->fg o (sig ids o.length id) len->fg o0 id len∧nu (sig ids o.length id) len=nu (sig ids o.length id) len) ∧
   ∀(k:Nat)ob,o0[k]?=some (some ob)->∃i,ids[k]?=some i∧sig ids o.length k=i∧o[i]?=some (some (ob.bb (sig ids o.length))):=by
 have hlen:o0.length=ids.length:=by have:=congrArg List.length ho;grind
 have hget:∀(k i:Nat),ids[k]?=some i->∃x,o0[k]?=some x∧o[i]?=some (x.map (aa.bb (sig ids o.length))):=λk i q=>by
  have H:=congrArg (λl=>l[k]?) ho
  grind
 have hb:∀i∈ids,i<o.length:=λi hi=>by
  grind[aey,aek]
 have sigk:∀(k i:Nat),ids[k]?=some i->sig ids o.length k=i:=λk i q=>by
  have U:=(aek.1 q).1;rw[sig,if_pos U,getD_some q]
 generalize hs:sig ids o.length=σ at *
 let out:Nat->Prop:=λb=>b<w.heap.size∧∃id ob,id∉ids∧o[id]?=some (some ob)∧dW (nu id ob.hl)=some b
 let D0:Nat->Prop:=λb=>D b∧ ¬out b
 let u:EQ:=λk len=>nu (σ k) len
 have obj0:∀(k:Nat)ob,o0[k]?=some (some ob)->∃i,ids[k]?=some i∧σ k=i∧o[i]?=some (some (ob.bb σ)):=λk ob q=>by
  grind
 have own0:∀b,owned u o0 b->owned nu o b:=λb⟨k,ob,H,h2⟩=>by
  obtain⟨i,q1,q2,q3⟩:=obj0 k ob H;refine⟨i,_,q3,?_⟩
  grind[aa.gH]
 have own0_out:∀b,owned u o0 b-> ¬out b:=λb⟨k,ob,H,h2⟩⟨U,id,ob',hn,Y,h4⟩=>by
  obtain⟨i,q1,q2,q3⟩:=obj0 k ob H;have hne:i≠id:=λe=>hn (by grind);refine A.sep i id _ _ b q3 Y hne ?_ h4
  grind[aa.gH]
 have fz0:∀b,Fz D nu o w b->Fz D0 u o0 w b:=λb hf=>⟨hf.1,λho=>hf.2.1 (own0 b ho),hf.2.2,λ⟨_,id,ob,_,Y,h4⟩=>hf.2.1 ⟨id,ob,Y,h4⟩⟩
 have W:∀id len,id<ids.length->fg o (σ id) len->fg o0 id len∧u id len=nu (σ id) len:=λk len q hh=>by
  refine⟨?_,rfl⟩;have e:=aes q;obtain⟨x,q1,q2⟩:=hget k _ e;obtain⟨y,r1,r2⟩:=hh;rw[sigk k _ e,q2]at r1;cases r1;refine⟨x,q1,λob hx=>?_⟩
  grind[aa.gH]
 have ro0:RO D0 u o0 w:=by
  refine⟨λk ob q=>?_,λb U=>⟨A.up b U,λho=>zd⟩,λk k' ob ob' b H h2 hne Y h4=>?_,A.gl.fz (λb hf=>⟨rfl,fz0 b hf⟩)⟩
  ·obtain⟨i,q1,q2,q3⟩:=obj0 k ob q
   rcases A.obj i _ q3 with⟨e1,e2,e3⟩|⟨g,cur,O⟩|⟨g,es,cl,hmp⟩
   ·refine .inl ⟨e1,?_,?_⟩
    ·have:(cm σ ob.rows).length=0:=by rw[show cm σ ob.rows=[]from e2];rfl
     grind[fl,List.eq_nil_of_length_eq_zero]
    grind
   ·have hbk:dW (nu i (ob.bb σ).hl)=some g:=O.b8;have hg:D0 g:=⟨O.o4,own0_out g ⟨k,ob,q,by grind[aa.gH]⟩⟩
    have hup:∀(j:Nat)row,ob.rows[j]?=some row->(ob.bb σ).rows[j]?=some (bW σ row):=λj row hj=>by show(cm σ ob.rows)[j]? = _;grind[fJ]
    have V:∀(row:C5)(j:Nat)c,row[j]?=some c->(bW σ row)[j]?=some (c.bb σ):=λrow j c hj=>by grind[cr]
    refine .inr (.inl ⟨g,cur,O.ez,hg,λe=>?_,λe=>?_,O.z,λj row hj=>?_,λj j' row c x H h2 Y=>?_,λj j' row c x H h2 Y=>O.one j j' _ _ x (hup j row H) (V row j' c h2) Y⟩)
    ·obtain⟨p1,p2,p3⟩:=O.box e
     refine⟨?_,?_,p3⟩
     ·grind
     ·have:(cm σ ob.rows).length=1:=p2
      grind[fl]
    ·obtain⟨cap,p1,p2,p3,p4⟩:=O.vec e;have el:(ob.bb σ).rows.length=ob.rows.length:=fl σ ob.rows;rw[el]at p1 p2;refine⟨cap,?_,p2,p3,p4⟩
     grind
    ·have:=O.row j _ (hup j row hj)
     rw[cQ]at this;exact this
    ·exact(O.cell j j' _ _ x (hup j row H) (V row j' c h2) Y).GB (f:=σ) (n:=ids.length) fz0 W c (cG (lh (hwo k ob q) H) h2) rfl
   ·have hbk:dW (nu i (ob.bb σ).hl)=some g:=hmp.b8;have hg:D0 g:=⟨hmp.o4,own0_out g ⟨k,ob,q,by grind[aa.gH]⟩⟩;refine .inr (.inr ⟨g,es,cl,hmp.rows rfl hg (by grind) rfl rfl (fl σ ob.rows).symm (λj row hj=>⟨bW σ row,by show(cm σ ob.rows)[j]? = _;grind[fJ],(cQ σ row).symm,λj' c hc=>⟨c.bb σ,by grind[cr],λx hx=>hx.GB (f:=σ) (n:=ids.length) fz0 W c (cG (lh (hwo k ob q) hj) hc) rfl⟩⟩)⟩)
  ·obtain⟨i,q1,q2,q3⟩:=obj0 k ob H;obtain⟨i',q1',q2',q3'⟩:=obj0 k' ob' h2;have hii:i≠i':=λe=>hne (by rw[<-AX ids hnd k i q1, <- AX ids hnd k' i' q1',e])
   refine A.sep i i' _ _ b q3 q3' hii ?_ ?_
   ·grind[aa.gH]
   grind[aa.gH]
 grind
theorem ft.frame{f:FuncId}{args0 args:C5}{o0:AC}{Q:AV->AC->Prop}(ids:Do)(h:ft P f args0 o0 Q)(hnd:ids.Nodup)
  (ho:ids.map (λi=>o[i]?)=o0.map (λx=>some (x.map (aa.bb (sig ids o.length)))))
  (hargs:args=bW (sig ids o.length) args0)(hwa:aQ ids.length args0=true)(hwo:∀(k:Nat)ob,o0[k]?=some (some ob)->bE ids.length ob.rows=true) :
  ft P f args o (λr o'=>∃r0 o1,Q r0 o1∧r=r0.bb (sig ids o.length)∧o'=fj (sig ids o.length) ids o1 o):=by
 obtain⟨hc,hq⟩:=h;refine⟨hc,λD nu w vargs O hra=>?_⟩;subst hargs;obtain⟨ro0,own0,fz0,hdr0,obj0⟩:=yn ids O hnd ho hwo
 have hlen:o0.length=ids.length:=by have:=congrArg List.length ho;grind
 have hget:∀(k i:Nat),ids[k]?=some i->∃x,o0[k]?=some x∧o[i]?=some (x.map (aa.bb (sig ids o.length))):=λk i hk=>by
  have h1:=congrArg (λl=>l[k]?) ho
  grind
 have hb:∀i∈ids,i<o.length:=λi hi=>by
  grind[aey,aek]
 have sigk:∀(k i:Nat),ids[k]?=some i->sig ids o.length k=i:=λk i hk=>by
  have A:=(aek.1 hk).1;rw[sig,if_pos A,getD_some hk]
 have sign:∀k,ids.length<=k->sig ids o.length k=o.length+(k-ids.length):=λk hk=>by rw[sig,if_neg zd]
 generalize hs:sig ids o.length=σ at *
 let out:Nat->Prop:=λb=>b<w.heap.size∧∃id ob,id∉ids∧o[id]?=some (some ob)∧dW (nu id ob.hl)=some b
 let D0:Nat->Prop:=λb=>D b∧ ¬out b
 let nu0:EQ:=λk len=>nu (σ k) len
 have own0_out:∀b,owned nu0 o0 b-> ¬out b:=λb⟨k,ob,h1,V⟩⟨A,id,ob',hn,h3,h4⟩=>by
  obtain⟨i,q1,q2,q3⟩:=obj0 k ob h1;have hne:i≠id:=λe=>hn (by grind);refine O.sep i id _ _ b q3 h3 hne ?_ h4
  grind[aa.gH]
 have ra0:gy D0 nu0 o0 w args0 vargs:=⟨by have:=hra.len;grind[cQ],λi c x hi hx=>
  (hra.at' i (c.bb σ) x (by grind[cr]) hx).GB (f:=σ) (n:=ids.length) fz0 hdr0 c (cG hwa hi) rfl⟩
 refine(hq D0 nu0 w vargs ro0 ra0).mono ?_;rintro e w' ⟨v,nu1,o1,r0,rfl,hm,ro1,ra1,hQ⟩
 have hle:ids.length<=o1.length:=by
  rcases Nat.eq_zero_or_pos ids.length with q|q
  ·omega
  ·have e:=aes (show ids.length-1<o0.length by omega);obtain⟨h1,_⟩:=hm.wH (ids.length-1) 0 ⟨_,e,λ_ _=>Nat.zero_le _⟩
   have:=j9 h1
   omega
 let nu':EQ:=λid len=>if id∈ids then nu1 (ids.idxOf id) len else if id<o.length then nu id len else nu1 (ids.length+(id-o.length)) len
 have nu_id:∀(k i:Nat)len,ids[k]?=some i->nu' i len=nu1 k len:=λk i len hk=>by
  grind
 have nu_old:∀id len,id∉ids->id<o.length->nu' id len=nu id len:=λid len h1 V=>by
  grind
 have nu_sig:∀k len,nu' (σ k) len=nu1 k len:=λk len=>by
  grind
 have o_sig:∀k x,o1[k]?=some x->(fj σ ids o1 o)[σ k]?=some (x.map (aa.bb σ)):=λk x hk=>by
  rcases Nat.lt_or_ge k ids.length with q|q
  ·have e:=aes q
   grind[KJ]
  ·rw[sign k q,zj σ ids o1 o _ hle,show ids.length+(k-ids.length)=k by omega,hk];rfl

 have parts:∀id x,(fj σ ids o1 o)[id]?=some x->(∃k y,id=σ k∧o1[k]?=some y∧x=y.map (aa.bb σ))∨(id∉ids∧id<o.length∧o[id]?=some x):=λid x hx=>by
  rcases Nat.lt_or_ge id o.length with q|q
  ·by_cases hmem:id∈ids
   ·obtain⟨k,hk⟩:=aey hmem
    grind
   grind[oF]
  ·obtain⟨j,rfl⟩:∃j,id=o.length+j:=⟨id-o.length,zd⟩
   grind[zj,dJ]
 have hF1:∀b,Fz D0 nu1 o1 w' b->Fz D nu' (fj σ ids o1 o) w' b:=λb hf=>⟨hf.1,λ⟨id,ob,h1,V⟩=>by
  rcases parts id _ h1 with⟨k,y,rfl,hy,e⟩|⟨h3,h4,h5⟩
  ·obtain⟨u,rfl,rfl⟩:=dJ (aeN.2 (by obtain⟨a,ha1,ha2⟩:=aeN.1 e.symm;exact⟨a,ha1,ha2⟩));rw[aa.gH,nu_sig]at V;exact hf.2.1 ⟨k,u,hy,V⟩
  ·rw[nu_old id _ h3 h4]at V
   exact hf.2.2.2 ⟨O.bL ⟨id,ob,h5,V⟩,id,ob,h3,h5,V⟩,hf.2.2.1⟩
 have hH1:∀id len,fg o1 id len->fg (fj σ ids o1 o) (σ id) len∧nu' (σ id) len=nu1 id len:=λk len⟨x,h1,V⟩=>by
  refine⟨⟨_,o_sig k x h1,λy hy=>?_⟩,nu_sig k len⟩
  grind[aeN,aa.gH]
 have hmono:cf nu o w nu' (fj σ ids o1 o) w':=by
  refine⟨hm.os,hm.tape,hm.output,hm.size,λid len hh=>?_,λb A hno=>?_⟩
  ·have A:=j9 hh
   by_cases hmem:id∈ids
   ·obtain⟨k,hk⟩:=aey hmem;have hkl:=(aek.1 hk).1;obtain⟨g1,_⟩:=hdr0 k len hkl (by grind);obtain⟨g3,g4⟩:=hm.wH k len g1
    grind
   ·refine⟨?_,nu_old id len hmem A⟩;obtain⟨x,h1,V⟩:=hh;exact⟨x,by grind[oF],V⟩
  ·have W: ¬owned nu0 o0 b:=λho=>hno (own0 b ho);obtain⟨g1,g2⟩:=hm.keep b A W;refine⟨g1,λ⟨id,ob,h1,V⟩=>?_⟩
   rcases parts id _ h1 with⟨k,y,rfl,hy,e⟩|⟨h3,h4,h5⟩
   ·obtain⟨u,rfl,rfl⟩:=aeN.1 e.symm;rw[aa.gH,nu_sig]at V;exact g2 ⟨k,u,hy,V⟩
   ·rw[nu_old id _ h3 h4]at V;exact hno ⟨id,ob,h5,V⟩
 refine⟨v,nu',fj σ ids o1 o,r0.bb σ,rfl,hmono,?_,ra1.bb hF1 hH1,r0,o1,hQ,rfl,rfl⟩
 refine⟨λid ob hid=>?_,λb A=>O.up b (Nat.le_trans hm.size A),λid id' ob ob' b h1 V hne h3 h4=>?_,O.gl.mono hmono (λ_ _ h=>h)⟩
 ·rcases parts id _ hid with⟨k,y,rfl,hy,e⟩|⟨h3,h4,h5⟩
  ·obtain⟨u,rfl,rfl⟩:=aeN.1 e.symm
   rcases ro1.obj k u hy with⟨e1,e2,e3⟩|⟨g,cur,H⟩|⟨g,es,cl,U⟩
   ·exact .inl ⟨e1,by show cm σ u.rows=[];rw[e2];rfl,by grind⟩
   ·have el:(u.bb σ).rows.length=u.rows.length:=fl σ u.rows
    have key:∀(i j:Nat)row c,(u.bb σ).rows[i]?=some row->row[j]?=some c->∃row0 c0,u.rows[i]?=some row0∧row0[j]?=some c0∧c=c0.bb σ:=λi j row c hi hj=>by
     have Y:(cm σ u.rows)[i]?=some row:=hi;rw[fJ]at Y;obtain⟨row0,hr0,rfl⟩:=dJ Y;rw[cr]at hj
     grind
    refine .inr (.inl ⟨g,cur,H.ez,H.o4.1,λe=>?_,λe=>?_,H.z,λi row hi=>?_,λi j row c x g1 g2 g3=>?_,λi j row c x g1 g2 g3=>?_⟩)
    ·obtain⟨p1,p2,p3⟩:=H.box e;exact⟨by grind,zd,p3⟩
    ·obtain⟨cap,p1,p2,p3,p4⟩:=H.vec e;exact⟨cap,by grind,zd,p3,p4⟩
    ·have Y:(cm σ u.rows)[i]?=some row:=hi;rw[fJ]at Y;obtain⟨row0,hr0,rfl⟩:=dJ Y;rw[cQ];exact H.row i row0 hr0
    ·obtain⟨row0,c0,q1,q2,rfl⟩:=key i j row c g1 g2;exact(H.cell i j row0 c0 x q1 q2 g3).bb hF1 hH1
    ·obtain⟨row0,c0,q1,q2,rfl⟩:=key i j row c g1 g2;exact H.one i j row0 c0 x q1 q2 g3
   ·refine .inr (.inr ⟨g,es,cl,U.rows rfl U.o4.1 (nu_sig k 0) rfl rfl (fl σ u.rows) (λi row hi=>?_)⟩);have Y:(cm σ u.rows)[i]?=some row:=hi;rw[fJ]at Y;obtain⟨row0,hr0,rfl⟩:=dJ Y;refine⟨row0,hr0,cQ σ row0,λj c hc=>?_⟩;rw[cr]at hc;obtain⟨c0,hc0,rfl⟩:=dJ hc;exact⟨c0,hc0,λx hx=>hx.bb hF1 hH1⟩
  ·rcases O.obj id ob h5 with⟨e1,e2,e3⟩|⟨g,cur,H⟩|⟨g,es,cl,U⟩
   ·grind
   ·have hbk:=H.b8;have A:g<w.heap.size:=(aeh.1 H.ez).1;have W: ¬owned nu0 o0 g:=λho=>own0_out g ho ⟨A,id,ob,h3,h5,hbk⟩;have hsame:=(hm.keep g A W).1
    refine .inr (.inl ⟨g,cur,hsame.trans H.ez,H.o4,λe=>?_,λe=>?_,H.z,H.row,λi j row c x g1 g2 g3=>(H.cell i j row c x g1 g2 g3).mono hmono (λ_ _ h=>h),H.one⟩)
    ·rw[nu_old id _ h3 h4];exact H.box e
    ·rw[nu_old id _ h3 h4];exact H.vec e
   ·have hbk:=U.b8;have A:g<w.heap.size:=(aeh.1 U.ez).1;have W: ¬owned nu0 o0 g:=λho=>own0_out g ho ⟨A,id,ob,h3,h5,hbk⟩;exact .inr (.inr ⟨g,es,cl,U.tr (hm.keep g A W).1 (λh=>h) (nu_old id _ h3 h4) (λi j row c x _ _ H=>H.mono hmono (λ_ _ h=>h))⟩)
 ·have cross:∀(k id:Nat)(u ob:aa)(b:Nat),o1[k]?=some (some u)->dW (nu1 k u.hl)=some b->id∉ids->o[id]?=some (some ob)->dW (nu id ob.hl)=some b->False:=λk id u ob b g1 g2 g3 g4 g5=>by
   rcases ro1.obj k u g1 with⟨e1,e2,e3⟩|⟨g,cur,H⟩|⟨g,es,cl,U⟩
   ·simp only[aa.hl,e1,e2,if_true,List.length_nil,e3,dW,cW]at g2;cases g2
   ·have hbk:=H.b8;rw[hbk]at g2;cases g2;exact H.o4.2 ⟨O.bL ⟨id,ob,g4,g5⟩,id,ob,g3,g4,g5⟩
   ·have hbk:=U.b8;rw[hbk]at g2;cases g2;exact U.o4.2 ⟨O.bL ⟨id,ob,g4,g5⟩,id,ob,g3,g4,g5⟩
  rcases parts id _ h1 with⟨k,y,rfl,hy,e⟩|⟨p3,p4,p5⟩
  ·obtain⟨u,rfl,rfl⟩:=aeN.1 e.symm;rw[aa.gH,nu_sig]at h3
   rcases parts id' _ V with⟨k',y',rfl,hy',e'⟩|⟨p3',p4',p5'⟩
   ·obtain⟨ob0',rfl,rfl⟩:=aeN.1 e'.symm;rw[aa.gH,nu_sig]at h4;exact ro1.sep k k' u ob0' b hy hy' (λe=>hne (by rw[e])) h3 h4
   grind
  ·rw[nu_old id _ p3 p4]at h3
   rcases parts id' _ V with⟨k',y',rfl,hy',e'⟩|⟨p3',p4',p5'⟩
   ·obtain⟨ob0',rfl,rfl⟩:=aeN.1 e'.symm;rw[aa.gH,nu_sig]at h4
    grind
   ·rw[nu_old id' _ p3' p4']at h4;exact O.sep id id' ob ob' b p5 p5' hne h3 h4
def bT(P:Program)(f:FuncId)(args:C5)(o:AC)(r:AV)(o':AC):Prop:=ft P f args o (λr' o''=>r'=r∧o''=o')
theorem ah.fr{f:FuncId}{args args0:C5}{o0 o1:AC}{H:AV}{K:AV->AC->Prop}(ids:Do)(h:bT P f args0 o0 H o1)(A:ids.Nodup)
  (O:ids.map (λi=>o[i]?)=o0.map (λx=>some (x.map (aa.bb (sig ids o.length)))))
  (hargs:args=bW (sig ids o.length) args0)(u:aQ ids.length args0=true)(q:∀(k:Nat)ob,o0[k]?=some (some ob)->bE ids.length ob.rows=true)
  (k:K (H.bb (sig ids o.length)) (fj (sig ids o.length) ids o1 o)):ah P f args o K:=
 .two (ft.frame ids h A O hargs u q) (λr o' U=>by
  grind)
def AFw(n:Nat)(o2:AC)(r0 r:AV)(o':AC):Prop:=iT o'.length [r0] [r]∧zU o'.length o2 o'∧n<=o'.length
theorem bT.enter{f:FuncId}{fn:Func}{c:Code}{args:C5}{r:AV}{o':AC}(hf:P.funcs[f]?=some fn)(hb:fn.body=some c)(hc:fQ P f=true)(U:bY c=true)(V:P.follows .mixedOrders=true)
  (h:cD P o.length c ⟨args++List.replicate (fn.ntmps-args.length) .undef,o,.no⟩ (BY P fn.results.toList (λq u=>AFw o.length u q r o'))):bT P f args o r o':=by
 obtain⟨W,h2⟩:=ft.enter hf hb hc U V h;refine⟨W,λD nu w vargs H O=>(h2 D nu w vargs H O).mono ?_⟩;rintro e w' ⟨v,nu',u,q,rfl,hm,hro',hra',A⟩
 have hs:RS ⟨0,none,λ_=>False⟩ D nu' ⟨[q],u,.no⟩ {tmps:= #[v],defers:=[]} w':=⟨hro',⟨rfl,λi c x h1 h2=>by
  grind⟩,⟨Nat.zero_le _,⟨[],List.nodup_nil,rfl,λx hx=>(by cases hx)⟩,λl hl=>by cases hl⟩⟩
 have hk:Wk o.length ⟨[q],u,.no⟩ ⟨[r],o',.no⟩:=⟨A.1,A.2.1,A.2.2,rfl⟩;have Y:=ll hk hs;exact⟨v,nu',o',r,rfl,hk.mono (Nat.le_refl _) hm,Y.ro,Y.tm.at' 0 r v rfl rfl,rfl,rfl⟩
mutual
theorem DF(f:Nat->Nat):∀a:AV,a.wf 0=true->a.bb f=a
 | .undef,_=>rfl
 | .v _,_=>rfl
 | .agg cs,h=>by rw[AV.bb,fI f cs h]
 | .ck cs,h=>by rw[AV.bb,fI f cs h]
 | .aA z rows len,h=>by rw[AV.bb,bj f rows h]
 | .vp cs,h=>by rw[AV.bb,fI f cs h]
 | .ptr id _ _ _ _,h=>by grind[AV.wf]
 | .vec id _,h=>by grind[AV.wf]
 | .fn g a b,h=>by
  simp only[AV.wf,aeW]at h;rw[AV.bb,fI f a h.1,fI f b h.2]
 | .full a,h=>by rw[AV.bb,DF f a h]
 | .ju p a,h=>by rw[AV.bb,DF f a h]
 | .mp rows,h=>by rw[AV.bb,bj f rows h]
theorem fI(f:Nat->Nat):∀l:C5,aQ 0 l=true->bW f l=l
 | [],_=>rfl
 |a::l,h=>by
  simp only[aQ,aeW]at h;rw[bW,DF f a h.1,fI f l h.2]
theorem bj(f:Nat->Nat):∀l:List C5,bE 0 l=true->cm f l=l
 | [],_=>rfl
 |a::l,h=>by
  simp only[bE,aeW]at h;rw[cm,fI f a h.1,bj f l h.2]
end
def cO(m:Nat)(t:C5):C5:=t.take m++List.replicate (t.length-m) .undef
def l4(t:C5)(l:O1):C5:=l.foldl (λt p=>t.set p.1 p.2) t
theorem aZ{n0:Nat}{Q:bg->AS->Prop}{ι:Type}{c:Code}{t:C5}{o:AC}{y:kB}(m:Nat)(upd:ι->O1)(mu:ι->Nat)(ok:ι->Prop)(i0:ι)(q:ok i0)(u:Wk n0 ⟨t,o,y⟩ ⟨l4 (cO m t) (upd i0),o,y⟩)
  (h:∀i,ok i->∀K:AS->Prop,(∀s2,aw n0 (λi=>⟨l4 (cO m t) (upd i),o,y⟩) mu ok (mu i) s2->K s2)->cD P n0 c ⟨l4 (cO m t) (upd i),o,y⟩ (px K Q)):cD P n0 (.loop c) ⟨t,o,y⟩ Q:=
 mL (λi=>⟨l4 (cO m t) (upd i),o,y⟩) mu ok i0 _ .refl u q h
theorem aN{n0:Nat}{Q:bg->AS->Prop}{ι:Type}{c:Code}{t:C5}{o:AC}{y:kB}(m:Nat)(upd:ι->O1)(ob:ι->AC)(mu:ι->Nat)(ok:ι->Prop)(i0:ι)(q:ok i0)(u:Wk n0 ⟨t,o,y⟩ ⟨l4 (cO m t) (upd i0),ob i0,y⟩)
  (h:∀i,ok i->∀K:AS->Prop,(∀s2,aw n0 (λi=>⟨l4 (cO m t) (upd i),ob i,y⟩) mu ok (mu i) s2->K s2)->cD P n0 c ⟨l4 (cO m t) (upd i),ob i,y⟩ (px K Q)):cD P n0 (.loop c) ⟨t,o,y⟩ Q:=
 mL (λi=>⟨l4 (cO m t) (upd i),ob i,y⟩) mu ok i0 _ .refl u q h
theorem fN{n0:Nat}{Q:bg->AS->Prop}{ι:Type}{c:Code}{t:C5}{o:AC}{y:kB}(d:Nat)(T:TypeId)(z:Nat)(u:t[d]?=some (.v (.slice none 0 0)))(q:0<z)(m:Nat)(upd:ι->O1)(ob:ι->AC)(mu:ι->Nat)(ok:ι->Prop)(i0:ι)(A:ok i0)
  (H:Wk n0 ⟨t.set d (.vec o.length 0),o++[some ⟨T,z,true,[]⟩],y⟩ ⟨l4 (cO m t) (upd i0),ob i0,y⟩)
  (h:∀i,ok i->∀K:AS->Prop,(∀s2,aw n0 (λi=>⟨l4 (cO m t) (upd i),ob i,y⟩) mu ok (mu i) s2->K s2)->cD P n0 c ⟨l4 (cO m t) (upd i),ob i,y⟩ (px K Q)):cD P n0 (.loop c) ⟨t,o,y⟩ Q:=
 mL (λi=>⟨l4 (cO m t) (upd i),ob i,y⟩) mu ok i0 _ (.step d T z ⟨t,o,y⟩ .refl u q) H A h
end
attribute [go_sem] Value.oneCell' bW cm AV.bb aa.bb sig fj bj cO l4 List.foldl_cons List.foldl_nil
structure pz where
 G:Type
 wd:G->World
 R:G->G->Prop
 ab5:∀g,R g g
 trans':∀a b c,R a b->R b c->R a c
 pre:Nat->G->Prop
structure jY(N:pz)where
 p:Value->N.G->Prop
 st:∀v g g',N.R g g'->p v g->p v g'
def jY.any{N:pz}:jY N:=⟨λ_ _=>True,λ_ _ _ _ _=>trivial⟩
def Co{N:pz}(L:List (jY N))(i:Nat):jY N:=L.getD i jY.any
section
variable {P:Program} {ops:Array Oper} {N:pz}
def abS(P:Program)(S:jY N)(j:Nat)(g:N.G):Result Next->Prop
 | .ok (.value u) w'=>∃g',N.wd g'=w'∧N.R g g'∧(∀i,i≠j->N.pre i g->N.pre i g')∧S.p u g'
 | .ok .skip w'=>∃g',N.wd g'=w'∧N.R g g'∧(∀i,i≠j->N.pre i g->N.pre i g')∧S.p undef g'
 | .ok (.enter f args) w'=>Calls P f args w' (λe w''=>∃v g',e=.returned v∧N.wd g'=w''∧N.R g g'∧(∀i,i≠j->N.pre i g->N.pre i g')∧S.p v g')
 |_=>False
end
mutual
theorem Jg:∀a:AV,a.bb (λx=>x)=a
 | .undef=>rfl
 | .v _=>rfl
 | .agg cs=>by rw[AV.bb,oH cs]
 | .ck cs=>by rw[AV.bb,oH cs]
 | .aA z rows len=>by rw[AV.bb,DA rows]
 | .vp cs=>by rw[AV.bb,oH cs]
 | .ptr id _ _ _ _=>rfl
 | .vec id _=>rfl
 | .fn g a b=>by rw[AV.bb,oH a,oH b]
 | .full a=>by rw[AV.bb,Jg a]
 | .ju p a=>by rw[AV.bb,Jg a]
 | .mp rows=>by rw[AV.bb,DA rows]
theorem oH:∀l:C5,bW (λx=>x) l=l
 | []=>rfl
 |a::l=>by rw[bW,Jg a,oH l]
theorem DA:∀l:List C5,cm (λx=>x) l=l
 | []=>rfl
 |a::l=>by rw[cm,oH a,DA l]
end
section
variable {D D':Nat->Prop} {nu nu':EQ} {o o':AC} {w w':World} {P:Program}
end
structure BG(w0:World)(tz:Nat->TypeId×Nat)where
 w:World
 n:Nat->Option (Nat×Option (Array Value))
 base:Below w0.heap.size w0 w
 lay:∀i b c,n i=some (b,c)->w0.heap.size<=b∧∃C:Array Value,w.heap[b]?=some (.cells C (tz i).1 (0,0))∧C.size=(tz i).2∧(∀x∈C.toList,x.oneCell'=true)∧∀C',c=some C'->C=C'
 inj:∀i j b c c',n i=some (b,c)->n j=some (b,c')->i=j
def BG.box{w0:World}{tz:Nat->TypeId×Nat}(g:BG w0 tz)(b:Nat):Prop:=∃i c,g.n i=some (b,c)
def BG.opn{w0:World}{tz:Nat->TypeId×Nat}(g:BG w0 tz)(b:Nat):Prop:=∃i,g.n i=some (b,none)
structure BR{w0:World}{tz:Nat->TypeId×Nat}(g g':BG w0 tz):Prop where
 size:g.w.heap.size<=g'.w.heap.size
 same:∀b,b<g.w.heap.size-> ¬g.opn b->g'.w.heap[b]?=g.w.heap[b]?
 up:∀i b c,g.n i=some (b,c)->∃c',g'.n i=some (b,c')∧∀C,c=some C->c'=some C
 new:∀i b c,g'.n i=some (b,c)->b<g.w.heap.size->∃c',g.n i=some (b,c')
def adg(l:GE)(j i:Nat):Prop:=∃T d x oj oi U,l[j]?=some oj∧oj.op=.store T (.tmp d) x∧l[i]?=some oi∧oi.op=.alloc U∧oi.dst=some d
def Dx{w0:World}{tz:Nat->TypeId×Nat}(D:Nat->Prop)(g:BG w0 tz)(b:Nat):Prop:=D b∧ ¬g.box b
section
variable {w0:World} {tz:Nat->TypeId×Nat} {l:GE} {D:Nat->Prop} {nu:EQ} {o:AC} {P:Program}
inductive BE where
 |val (r:AV)
 |al
 |st (i:Nat) (row:C5)
def BG.next(g:BG w0 tz)(w':World)(h:Below g.w.heap.size g.w w'):BG w0 tz:=⟨w',g.n,cV g.base h,λi b c hi=>by
 obtain⟨h1,C,h2,h3⟩:=g.lay i b c hi
 exact⟨h1,C,(h.block b (aeh.1 h2).1).trans h2,h3⟩,g.inj⟩
structure Bx where
 d:Tmp
 k:Nat
 T:TypeId
 z:Nat
 row:Option C5
abbrev am:=List Bx
def H5(d:Tmp):am->Option Bx
 | []=>none
 |b::l=>if b.d=d then some b else H5 d l
def OF(d:Tmp)(r:C5):am->am
 | []=>[]
 |b::l=>if b.d=d then{b with row:=some r} ::l else b::OF d r l
def xU:AS->am->AS
 |s,[]=>s
 |s,b::l=>xU ⟨s.t.set b.d (.ptr s.o.length 0 b.z 0 0),s.o++[some ⟨b.T,b.z,false,[b.row.getD []]⟩],s.y⟩ l
def Se:Option (Nat×Bool)->Option Tmp->Option C5->Nat->(Tmp->Nat->Prop)->Prop
 |none,some d,some cs,n,K=>(0<cs.length∧d<n)∧K d cs.length
 |_,_,_,_,_=>False
def Sf:Option (Nat×Bool)->Option Tmp->Option Bx->Option C5->Option Nat->(C5->Prop)->Prop
 |none,none,some b,some cs,some n,K=>(cs.length=n∧n=b.z∧b.row.isNone=true∧aQ 0 cs=true)∧K cs
 |_,_,_,_,_,_=>False
def G3(P:Program)(all:GE):GE->Nat->AS->am->(AS->Prop)->Prop
 | [],_,s,bx,Q=>bx.all (λb=>b.row.isSome)=true∧Q (xU s bx)
 |oo::rest,k,s,bx,Q=>match oo.op with
  | .alloc T=>Se oo.guard oo.dst (de P T) s.t.length (λd z=>G3 P all rest (k+1) (s.put (some d) .undef s.o) (bx++[⟨d,k,T,z,none⟩]) Q)
  | .store T (.tmp d) x=>Sf oo.guard oo.dst (H5 d bx) (s.ev x).cells? (bR P T) (λcs=>G3 P all rest (k+1) (s.put oo.dst .undef s.o) (OF d cs bx) Q)
  |_=>match oo.guard with
   |none=>dM P oo.op s (λr=>G3 P all rest (k+1) (s.put oo.dst r s.o) bx Q)
   |some (j,want)=>Aj (nV all s j) want (dM P oo.op s (λr=>G3 P all rest (k+1) (s.put oo.dst r s.o) bx Q)) (G3 P all rest (k+1) (s.put oo.dst (.v Go.undef) s.o) bx Q)
def VF(o:Oper):Option Tmp:=match o.op with
 | .store _ (.tmp d) _=>some d
 |_=>none
def YJ(o:Oper):Option Tmp:=match o.op with
 | .alloc _=>o.dst
 |_=>none
def adV(ops:Array Oper):Bool:=(List.range ops.size).all λj=>(List.range ops.size).all λi=>match ops[j]?,ops[i]? with
 |some oj,some oi=>match VF oj with
  |some d=>(i==j||VF oi !=some d)&&(YJ oi !=some d||bd ops j i)
  |none=>true
 |_,_=>true
structure adO(l:GE)(tz:Nat->TypeId×Nat)(s:AS)(a:Act)(k:Nat)(sk:AS)(rs:List BE)(A:(Nat->Value)->Act)(bx:am):Prop where
 o:sk.o=s.o
 y:sk.y=s.y
 len:rs.length=k
 mh:∀x,(A x).defers=a.defers
 size:∀x,sk.t.length=(A x).tmps.size
 val:∀x(t:Nat)c v,sk.t[t]?=some c->(A x).tmps[t]?=some v->c=.undef∨(s.t[t]?=some c∧a.tmps[t]?=some v)∨∃i,i<k∧(∃oi,l[i]?=some oi∧oi.dst=some t)∧rs[i]?=some (.val c)∧v=x i
 box:∀b,b∈bx->b.k<k∧rs[b.k]?=some .al∧(∃oi,l[b.k]?=some oi∧oi.op=.alloc b.T∧oi.dst=some b.d)∧tz b.k=(b.T,b.z)∧0<b.z∧(∀x,(A x).tmps[b.d]?=some (x b.k))∧(∀r,b.row=some r->r.length=b.z∧∃j,j<k∧rs[j]?=some (.st b.k r))
 nod:(bx.map Bx.k).Nodup
end
section
variable {w0:World} {tz:Nat->TypeId×Nat} {l:GE} {D:Nat->Prop} {nu:EQ} {o:AC} {P:Program}
end
section
variable {l:GE} {D:Nat->Prop} {nu:EQ} {o:AC} {P:Program}
theorem Of{all:GE}{k:Nat}{s:AS}{bx:am}{Q:AS->Prop}(h:bx.all (λb=>b.row.isSome)=true∧Q (xU s bx)):G3 P all [] k s bx Q:=h
end
theorem Xu(d:Tmp)(cs:C5)(n:Nat)(K:Tmp->Nat->Prop):Se none (some d) (some cs) n K=((0<cs.length∧d<n)∧K d cs.length):=rfl
theorem Xv(b:Bx)(cs:C5)(n:Nat)(K:C5->Prop):Sf none none (some b) (some cs) (some n) K=((cs.length=n∧n=b.z∧b.row.isNone=true∧aQ 0 cs=true)∧K cs):=rfl
attribute [go_sem] Xu Xv
@[congr] theorem VJ{g:Option (Nat×Bool)}{d:Option Tmp}{x y:Option C5}{n m:Nat}{K:Tmp->Nat->Prop}(h:x=y)(k:n=m):Se g d x n K=Se g d y m K:=by rw[h,k]
@[congr] theorem VK{g:Option (Nat×Bool)}{d:Option Tmp}{b q:Option Bx}{x y:Option C5}{n m:Option Nat}{K:C5->Prop}(u:b=q)(h:x=y)(k:n=m):Sf g d b x n K=Sf g d q y m K:=by rw[u,h,k]
attribute [go_sem] List.all_cons List.all_nil H5 OF xU Option.isNone_none Option.isSome_some Option.getD_some
@[go_sem] theorem Yp(t:C5)(o:AC)(y:kB):(AS.mk t o y).t=t:=rfl
structure Hc(X:Nat->Prop)(w w':World):Prop where
 os:w'.os=w.os
 tape:w'.tape=w.tape
 output:w'.output=w.output
 size:w.heap.size<=w'.heap.size
 same:∀b,b<w.heap.size-> ¬X b->w'.heap[b]?=w.heap[b]?
structure N4(T:Nat->Prop)(w w':World):Prop where
 os:w'.os=w.os
 tape:w'.tape=w.tape
 output:w'.output=w.output
 size:w.heap.size<=w'.heap.size
 same:∀b,b<w.heap.size->T b->w'.heap[b]?=w.heap[b]?
structure Am(P:Program)(l:Nat)where
 J:List C5->(Nat->Prop)->(Nat->Prop)->World->Prop
 Jx:(Nat->Prop)->(Nat->Prop)->World->Prop
 St:Nat->Prop
 qY:∀{rest X T X' w w'},J rest X T w->Hc X w w'->(∀b,X' b->b<w'.heap.size∧(X b∨w.heap.size<=b))->J rest X' (λb=>T b∨(w.heap.size<=b∧b<w'.heap.size)) w'
 Ho:∀{X T X' w w'},Jx X T w->Hc X w w'->(∀b,X' b->b<w'.heap.size∧(X b∨w.heap.size<=b))->Jx X' (λb=>T b∨(w.heap.size<=b∧b<w'.heap.size)) w'
 round:∀{x rest X T w D nu}{vals:Array Value},J (x::rest) X T w->gy D nu [] w x vals->aQ 0 x=true->(∀b,b<w.heap.size->D b->(T b∨St b)∧ ¬X b) ->
  YieldAt (WF none) 8 P l vals w (λe w'=>N4 (λb=>T b∨St b) w w'∧((e=.returned (.bool true)∧J rest X T w')∨(e=.returned (.bool false)∧Jx X T w')))
section
variable {D:Nat->Prop} {nu:EQ} {o:AC} {w:World} {P:Program}
def Ym{l:Nat}(pr:Am P l)(X T:Nat->Prop)(w:World):kB->Prop
 | .no=>False
 | .run l' rest=>l'=l∧pr.J rest X T w
 | .off=>pr.Jx X T w
theorem Ym.qY{l:Nat}{pr:Am P l}{X T X':Nat->Prop}{w w':World}{y:kB}(h:Ym pr X T w y)(u:Hc X w w')(q:∀b,X' b->b<w'.heap.size∧(X b∨w.heap.size<=b)):Ym pr X' (λb=>T b∨(w.heap.size<=b∧b<w'.heap.size)) w' y:=by
 cases y with
 |no=>exact h.elim
 |run A rest=>exact⟨h.1,pr.qY h.2 u q⟩
 |off=>exact pr.Ho h u q
def I6(P:Program)(n0:Nat){l:Nat}(pr:Am P l):WM P where
 n0:=n0
 fix:=λ_=>False
 M:=λD nu o Z y w=>∃X T,(∀b,owned nu o b->X b)∧(∀b,Z b->X b)∧(∀b,X b->T b)∧(∀b,T b->b<w.heap.size)∧(∀b,X b->owned nu o b∨ ¬D b)∧(∀b,Z b-> ¬D b)∧(∀b,b<w.heap.size->D b->T b∨pr.St b)∧n0<=o.length∧Ym pr X T w y
 step:=λ{D D' nu o Z Z' y w nu' o' w'}h hro hm hro' _ hD hDZ hZ hn=>by
  obtain⟨X,T,h1,h2,h3,h4,h5,h5',h6,h7,h8⟩:=h
  have hX:∀b,(owned nu' o' b∨Z' b∨(X b∧ ¬D' b))->b<w'.heap.size∧(X b∨w.heap.size<=b):=λb hb=>by
   rcases hb with q|q|q
   ·refine⟨hro'.bL q,?_⟩
    rcases Nat.lt_or_ge b w.heap.size with hlt|hge
    ·by_cases ho:owned nu o b
     ·grind
     ·by_cases hz:Z b
      ·grind
      ·exact absurd q (hm.keep b hlt ho hz).2
    omega
   ·grind
   ·exact⟨aef (h4 b (h3 b q.1)) hm.size,.inl q.1⟩
  refine⟨λb=>owned nu' o' b∨Z' b∨(X b∧ ¬D' b),λb=>T b∨(w.heap.size<=b∧b<w'.heap.size),λb h=> .inl h,λb h=> .inr (.inl h),λb hb=>?_,λb hb=>?_,λb hb=>?_,λb hb=>(hZ b hb).2.1,λb hlt hd=>?_,hn,?_⟩
  ·grind
  ·rcases hb with q|q
   ·exact aef (h4 b q) hm.size
   ·exact q.2
  ·grind
  ·grind
  ·exact h8.qY ⟨hm.os,hm.tape,hm.output,hm.size,λb hb hx=>(hm.keep b hb (λho=>hx (h1 b ho)) (λhz=>hx (h2 b hz))).1⟩ hX
 so:=λh=>by
  grind
 yield:=λ{D nu o Z l' x rest w vals}h hro hra hw=>by
  obtain⟨X,T,h1,h2,h3,h4,h5,h5',h6,h7,rfl,h8⟩:=h
  have hF:∀b,Fz D nu o w b->Fz (λb=>D b∧ ¬X b) nu [] w b:=λb hf=>⟨hf.1,br _ _,hf.2.2,λhx=>by
   rcases h5 b hx with q|q
   ·exact hf.2.1 q
   ·exact q hf.2.2⟩
  have hra':gy (λb=>D b∧ ¬X b) nu [] w x vals:=⟨hra.len,λi c v q1 q2=>(hra.at' i c v q1 q2).tr (n:=0) hF (λid len hlt=>zd) (cG hw q1)⟩;obtain⟨fn,tmps,assign,body,hrun,hround⟩:=pr.round h8 hra' hw (λb hb hd=>⟨h6 b hb hd.1,hd.2⟩);refine⟨fn,tmps,assign,body,hrun,hround.mono λe w' he=>?_⟩;obtain⟨hk,he⟩:=he
  have hM:∀y,Ym pr X T w' y->∃X T,(∀b,owned nu o b->X b)∧(∀b,Z b->X b)∧(∀b,X b->T b)∧(∀b,T b->b<w'.heap.size)∧(∀b,X b->owned nu o b∨ ¬(D b∧ ¬(w.heap.size<=b∧b<w'.heap.size)))∧(∀b,Z b-> ¬(D b∧ ¬(w.heap.size<=b∧b<w'.heap.size))) ∧
    (∀b,b<w'.heap.size->(D b∧ ¬(w.heap.size<=b∧b<w'.heap.size))->T b∨pr.St b)∧n0<=o.length∧Ym pr X T w' y:=λy hy=>by
   refine⟨X,T,h1,h2,h3,λb hb=>aef (h4 b hb) hk.size,λb hb=>?_,λb hb hd=>h5' b hb hd.1,λb hlt hd=>?_,h7,hy⟩
   ·grind
   grind
  refine⟨⟨hk.os,hk.tape,hk.output,hk.size,λb hb hh=>hk.same b hb ?_⟩,?_⟩
  ·grind
  ·rcases he with⟨rfl,hj⟩|⟨rfl,hj⟩
   ·exact .inl ⟨rfl,hM _ ⟨rfl,hj⟩⟩
   ·exact .inr ⟨rfl,hM _ hj⟩
def uw(P:Program)(gf:FuncId)(caps:C5)(oI:AC)(L:List C5):Prop:=
 fQ P gf=true∧∀(l:Nat)(pr:Am P l)(D:Nat->Prop)(nu:EQ)(w:World)(vargs:Array Value)(X:Nat->Prop),RO D nu oI w->gy D nu oI w caps vargs->(∀b,owned nu oI b->X b)->(∀b,X b->owned nu oI b)->(∀b,b<w.heap.size->D b->X b∨pr.St b)->(∀b,pr.St b->b<w.heap.size)->pr.J L X X w ->
  Calls P gf (#[.func (.yield l) #[] #[]]++vargs) w (λe w'=>(∃v,e=.returned v)∧∃X' T',pr.J [] X' T' w'∨pr.Jx X' T' w')
def Hj(c:Bool)(P:Program)(gf:FuncId)(caps:C5)(oI:AC)(L:List C5):Prop:=
 fQ P gf=true∧∀(l:Nat)(pr:Am P l),(c=true->∀rest rest' X T w,rest.Perm rest'->pr.J rest X T w->pr.J rest' X T w)->∀(D:Nat->Prop)(nu:EQ)(w:World)(vargs:Array Value)(X:Nat->Prop),RO D nu oI w->gy D nu oI w caps vargs->(∀b,owned nu oI b->X b)->(∀b,X b->owned nu oI b)->(∀b,b<w.heap.size->D b->X b∨pr.St b)->(∀b,pr.St b->b<w.heap.size)->pr.J L X X w ->
  Calls P gf (#[.func (.yield l) #[] #[]]++vargs) w (λe w'=>(∃v,e=.returned v)∧∃X' T',pr.J [] X' T' w'∨pr.Jx X' T' w')
def NK(P:Program)(rs:List ResultVar)(l:Nat)(e:bg)(s:AS):Prop:=match e with
 | .ret| .normal=>qO (pC P s rs) s.o (λ_ _=>s.y=.run l []∨s.y=.off)
 |_=>False
theorem uw.enter{gf:FuncId}{fn:Func}{c:Code}{caps:C5}{oI:AC}{L:List C5}(hf:P.funcs[gf]?=some fn)(u:fn.body=some c)(hc:fQ P gf=true)(hok:bY c=true)(hmx:P.follows .mixedOrders=true)
  (h:∀l,cD P oI.length c ⟨(.v (.func (.yield l) #[] #[])::caps)++List.replicate (fn.ntmps-(AV.v (.func (.yield l) #[] #[])::caps).length) .undef,oI,.run l L⟩ (NK P fn.results.toList l)):uw P gf caps oI L:=by
 refine⟨hc,λl pr D nu w vargs X hro ha V hx' hD hSt hJ=>xV (n:=9) (callsIn_of_wp_marks hf u trivial ?_ rfl)⟩
 have ha':gy D nu oI w (.v (.func (.yield l) #[] #[])::caps) (#[.func (.yield l) #[] #[]]++vargs):=by
  refine⟨by simp[ha.len];omega,λi c v O A=>?_⟩
  cases i with
  |zero=>
   rw[Array.getElem?_append_left zk]at A;simp at O A;subst O;subst A;exact .v _
  |succ i=>
   refine ha.at' i c v (by grind) ?_
   grind
 have hs:RS ⟨w.heap.size,none,λ_=>False⟩ D nu ⟨(.v (.func (.yield l) #[] #[])::caps)++List.replicate (fn.ntmps-(AV.v (.func (.yield l) #[] #[])::caps).length) .undef,oI,.run l L⟩ {tmps:=(#[Value.func (.yield l) #[] #[]]++vargs)++Array.replicate (fn.ntmps-(#[Value.func (.yield l) #[] #[]]++vargs).size) Go.undef,defers:=[]} w:=EV rfl (aed _) hro ha';have hX:∀b,X b->b<w.heap.size:=λb u=>hro.bL (hx' b u);have hM:(I6 P oI.length pr).M D nu oI (λ_=>False) (.run l L) w:=⟨X,X,V,λb u=>u.elim,λb u=>u,hX,λb u=> .inl (hx' b u),λb u=>u.elim,hD,aed _,rfl,hJ⟩
 have fin:∀(D' Z':Nat->Prop)(s':AS)(H:Act)(w':World)(nu':EQ),(I6 P oI.length pr).M D' nu' s'.o Z' s'.y w'->RS ⟨w.heap.size,none,Z'⟩ D' nu' s' H w'->qO (pC P s' fn.results.toList) s'.o (λ_ _=>s'.y=.run l []∨s'.y=.off) ->
   LeavesInM (WF none) 9 P fn H.tmps (λe w'=>(∃v,e=.returned v)∧∃X' U,pr.J [] X' U w'∨pr.Jx X' U w') H.defers .returning w':=λD' Z' s' H w' nu' O A W=>by
  obtain⟨rs,k1,k2,k3⟩:=A.mh.marks;rw[k2];refine oh (B:=w.heap.size) rs w' k1 (λx V=>⟨(k3 x V).1,(k3 x V).2.2⟩) (λw2 q hoth=>?_);obtain⟨X',U,g1,g2,g3,g4,g5,g5',g6,g7,g8⟩:=O;have h2':RS ⟨w.heap.size,none,Z'⟩ D' nu' s' {tmps:=H.tmps,defers:=[]} w2:=⟨q.ro A.ro,⟨A.tm.len,λi c x q1 q2=>q.ra (A.tm.at' i c x q1 q2)⟩,⟨by rw[q.size];exact A.mh.base,⟨[],ae1,rfl,λx V=>(by cases V)⟩,λl hl=>by cases hl⟩⟩;obtain⟨v,r,q1,q2,q3⟩:=Ga h2' W;have ha2:Hc X' w' w2:=⟨q.os,q.tape,q.output,Nat.le_of_eq q.size.symm,λb _ u=>hoth b (λhbr=>u (g2 b (k3 b hbr).2.1))⟩;have Y:∀b,X' b->b<w2.heap.size∧(X' b∨w'.heap.size<=b):=λb u=>⟨by rw[q.size];grind,.inl u⟩;refine⟨v,q1,⟨v,rfl⟩,X',(λb=>U b∨(w'.heap.size<=b∧b<w2.heap.size)),?_⟩
  rcases q3 with e|e
  ·rw[e]at g8;exact .inl (pr.qY g8.2 ha2 Y)
  ·rw[e]at g8;exact .inr (pr.Ho g8 ha2 Y)
 refine wpIn_mono (gK (P:=P) hmx (f:=⟨w.heap.size,none,λ_=>False⟩) (I6 P oI.length pr) (λl hl=>by cases hl) (aed _) c hok _ _ w D nu (λ_=>False) _ (λ(e:Exit)H w'=>e ≠ .outgrown∧bodyPostM (WF none) 9 P fn (λe w'=>(∃v,e=.returned v)∧∃X' U,pr.J [] X' U w'∨pr.Jx X' U w') e H w') (λa w hh=>hh.1 rfl) hM hs (h l) (λe D' Z' s' H w' nu' O A W=>?_)) (λe a w hh=>hh.2)
 cases e with
 |ret=>exact⟨by simp[bg.real],fin D' Z' s' H w' nu' O A W⟩
 |normal=>exact⟨by simp[bg.real],fin D' Z' s' H w' nu' O A W⟩
 |exit id=>exact W.elim
 |goto l=>exact W.elim
end
mutual
theorem AV.K8{n m:Nat}(h:n<=m):∀a:AV,a.wf n=true->a.wf m=true
 | .undef,_=>rfl
 | .v _,_=>rfl
 | .agg cs,q=>by simp only[AV.wf]at q⊢; exact oR h cs q
 | .ck cs,q=>by simp only[AV.wf]at q⊢; exact oR h cs q
 | .aA _ rows _,q=>by simp only[AV.wf]at q⊢; exact zK h rows q
 | .vp cs,q=>by simp only[AV.wf]at q⊢; exact oR h cs q
 | .ptr id _ _ _ _,q=>by simp only[AV.wf,decide_eq_true_eq]at q⊢; omega
 | .vec id _,q=>by simp only[AV.wf,decide_eq_true_eq]at q⊢; omega
 | .fn _ f c,q=>by
  simp only[AV.wf,aeW]at q⊢;exact⟨oR h f q.1,oR h c q.2⟩
 | .full a,q=>by simp only[AV.wf]at q⊢; exact AV.K8 h a q
 | .ju p a,q=>by simp only[AV.wf]at q⊢; exact AV.K8 h a q
 | .mp rows,q=>by simp only[AV.wf]at q⊢; exact zK h rows q
theorem oR{n m:Nat}(h:n<=m):∀l:C5,aQ n l=true->aQ m l=true
 | [],_=>rfl
 |a::l,q=>by
  simp only[aQ,aeW]at q⊢;exact⟨AV.K8 h a q.1,oR h l q.2⟩
theorem zK{n m:Nat}(h:n<=m):∀l:List C5,bE n l=true->bE m l=true
 | [],_=>rfl
 |a::l,q=>by
  simp only[bE,aeW]at q⊢;exact⟨oR h a q.1,zK h l q.2⟩
end
section
variable {D D':Nat->Prop} {nu:EQ} {o:AC} {w w':World} {P:Program}
theorem Nw(m:WM P){f:Fr}{t:C5}{a:Act}{C Z Z':Nat->Prop}{y:kB}(h:m.M D nu o Z y w)(A:RS f D nu ⟨t,o,y⟩ a w)(e1:w'.os=w.os)(e2:w'.tape=w.tape)(e3:w'.output=w.output)(H:w.heap.size<=w'.heap.size)
  (same:∀b,b<w.heap.size-> ¬C b->w'.heap[b]?=w.heap[b]?)(hC:∀b,C b->Z b∧ ¬f.Z b∧f.r≠some b)(W:∀b,b<w.heap.size->D b->D' b)(Y:∀b,w'.heap.size<=b->D' b)(hD1:∀b,D' b->D b∨Z b)
  (hD2:∀b,w.heap.size<=b->b<w'.heap.size->D' b∨Z' b)(O:∀b,Z' b->b<w'.heap.size∧ ¬D' b∧(Z b∨w.heap.size<=b)):m.M D' nu o Z' y w'∧RS f D' nu ⟨t,o,y⟩ a w':=by
 have hz:=m.so h;have DC:∀b,D b-> ¬C b:=λb d c=>(hz.1 b (hC b c).1).2 d;have hF:∀b,Fz D nu o w b->w'.heap[b]?=w.heap[b]? ∧Fz D' nu o w' b:=λb U=>⟨same b U.1 (DC b U.2.2),aef U.1 H,U.2.1,W b U.1 U.2.2⟩;have hro':RO D' nu o w':=A.ro.keep (λb u=>⟨same b (A.ro.bL u) (DC b (A.ro.nP u)),W b (A.ro.bL u) (A.ro.nP u)⟩) Y hF
 refine⟨m.step h A.ro ⟨e1,e2,e3,H,λid len _ hh=>⟨hh,rfl⟩,λb u hno hnz=>⟨same b u (λc=>hnz (hC b c).1),hno⟩⟩ hro' (λc v hr _=>hr.keep hF) hD1 (λb u=>?_) (λb u=>⟨(O b u).1,(O b u).2.1,(O b u).2.2.elim .inl (λq=> .inr (.inr q))⟩) hz.2.1,hro',⟨A.tm.len,λi c x q1 q2=>(A.tm.at' i c x q1 q2).keep hF⟩,
  A.mh.keep H (λb ob u V _=>(same b (aeh.1 V).1 (λc=>?_)).trans V)⟩
 ·grind
 grind
structure Core(m:WM P)(f:Fr)(N l:Nat)(t0:C5)(a:Act)(St:Nat->Prop)(q:Loop)(D:Nat->Prop)(nu:EQ)(o:AC)(y:kB)(X T:Nat->Prop)(w:World):Prop where
 mm:m.M D nu o (λb=>f.Z b∨X b∨b=l) y w
 rs:RS f D nu ⟨t0,o,y⟩ a w
 xz:∀b,X b-> ¬f.Z b∧b≠l
 xt:∀b,X b->T b
 tl:∀b,T b->b<w.heap.size
 td:∀b,T b-> ¬X b->D b
 to:∀b,T b-> ¬owned nu o b
 st:∀b,St b->D b∧ ¬owned nu o b∧b<w.heap.size
 pS:w.heap[l]?=some (.loop q)
 n:N<=o.length
variable {m:WM P} {f:Fr} {N l:Nat} {t0:C5} {a:Act} {St:Nat->Prop} {q:Loop} {y:kB} {X T:Nat->Prop}
theorem Core.WE(h:Core m f N l t0 a St q D nu o y X T w)(u:∀l,f.r=some l->m.fix l){b:Nat}(A:X b∨b=l):f.r≠some b:=λe=>
 ((m.so h.mm).2.2 b (u b e)).2.1 (.inr A)
theorem Core.qY(h:Core m f N l t0 a St q D nu o y X T w)(hZr:∀l,f.r=some l->m.fix l){X':Nat->Prop}(A:Hc X w w')(U:∀b,X' b->b<w'.heap.size∧(X b∨w.heap.size<=b)) :
  Core m f N l t0 a St q (λb=>(D b∨X b)∧ ¬X' b) nu o y X' (λb=>T b∨(w.heap.size<=b∧b<w'.heap.size)) w':=by
 have V:=m.so h.mm;have DX:∀b,D b-> ¬X b:=λb d x=>(V.1 b (.inr (.inl x))).2 d;have hll:l<w.heap.size:=(aeh.1 h.pS).1;have Y:=h.rs.ro.up
 have key:=Nw (C:=X) (D':=λb=>(D b∨X b)∧ ¬X' b) (Z':=λb=>f.Z b∨X' b∨b=l) m h.mm h.rs A.os A.tape A.output A.size A.same (λb u=>⟨.inr (.inl u),(h.xz b u).1,h.WE hZr (.inl u)⟩)
  (λb u O=>⟨.inl O,λH=>(U b H).2.elim (DX b O) zd⟩) (λb u=>⟨.inl (Y b (aee A.size u)),λH=>by grind⟩)
  (λb O=>O.1.elim .inl (λx=> .inr (.inr (.inl x)))) (λb u _=>by
   grind)
  (λb u=>by
   rcases u with u|u|u
   ·have:=V.1 b (.inl u)
    refine⟨aef this.1 A.size,λO=>?_,.inl (.inl u)⟩
    rcases O.1 with q|q
    ·grind
    ·exact(h.xz b q).1 u
   ·grind
   ·have:=V.1 b (.inr (.inr u))
    refine⟨aef this.1 A.size,λO=>?_,.inl (.inr (.inr u))⟩
    rcases O.1 with q|q
    ·grind
    ·exact(h.xz b q).2 u)
 refine⟨key.1,key.2,λb u=>?_,λb u=>?_,λb u=>?_,λb u hnx=>?_,λb u=>?_,λb u=>?_,(A.same l hll (λx=>(h.xz l x).2 rfl)).trans h.pS,h.n⟩
 ·rcases(U b u).2 with q|q
  ·exact h.xz b q
  grind
 ·rcases(U b u).2 with q|q
  ·exact .inl (h.xt b q)
  grind
 ·rcases u with q|q
  ·exact aef (h.tl b q) A.size
  ·exact q.2
 ·refine⟨?_,hnx⟩
  rcases u with q|q
  ·by_cases W:X b
   ·grind
   ·exact .inl (h.td b q W)
  grind
 ·rcases u with q|q
  ·exact h.to b q
  ·exactλho=>by have:=h.rs.ro.bL ho;omega
 ·obtain⟨q1,q2,q3⟩:=h.st b u;exact⟨⟨.inl q1,λH=>(U b H).2.elim (DX b q1) zd⟩,q2,aef q3 A.size⟩
theorem Core.put(h:Core m f N l t0 a St q D nu o y X T w)(W:∀l,f.r=some l->m.fix l)(hl: ¬f.Z l)(A:Loop):Core m f N l t0 a St A D nu o y X T (w.putObj l (.loop A)):=by
 have Y:=m.so h.mm;have O:l<w.heap.size:=(aeh.1 h.pS).1
 have key:=Nw (C:=λb=>b=l) (D':=D) (Z':=λb=>f.Z b∨X b∨b=l) (w':=w.putObj l (.loop A)) m h.mm h.rs rfl rfl rfl zk (λb u H=>World.putObj_heap_other H) (λb u=>⟨.inr (.inr u),by grind,h.WE W (.inr u)⟩)
  (λb u U=>U) (λb u=>h.rs.ro.up b (by simp_all)) (λb U=> .inl U) (λb u V=>absurd V ahn) (λb u=>⟨by simp_all,(Y.1 b u).2,.inl u⟩)
 exact⟨key.1,key.2,h.xz,h.xt,λb u=>by simpa using h.tl b u,h.td,h.to,λb u=>⟨(h.st b u).1,(h.st b u).2.1,by simpa using(h.st b u).2.2⟩,World.putObj_heap_same O,h.n⟩
theorem Core.U5(h:Core m f N l t0 a St q D nu o y X T w)(V:m.n0<=N){o':AC}{U:kB}(A:Wk N ⟨t0,o,y⟩ ⟨t0,o',U⟩):Core m f N l t0 a St q D nu o' U X T w:=by
 have W:=m.so h.mm;have Y:y=U:=A.y;subst Y;have H:=ll A h.rs;have O:∀b,b<w.heap.size-> ¬owned nu o b-> ¬owned nu o' b:=λb u hn=>((A.yP (nu:=nu) (w:=w) (Z:=λ_=>False)).keep b u hn (λh=>h)).2;exact⟨m.step h.mm h.rs.ro A.yP H.ro (λc v hr hc=>A.ra hr hc) (λ_ h=> .inl h) (λ_ h=> .inl h) (λb u=>⟨(W.1 b u).1,(W.1 b u).2,.inl u⟩) (aee V A.n),H,h.xz,h.xt,h.tl,h.td,λb u=>O b (h.tl b u) (h.to b u),λb u=>⟨(h.st b u).1,O b (h.st b u).2.2 (h.st b u).2.1,(h.st b u).2.2⟩,h.pS,A.n⟩
theorem Core.done(h:Core m f N l t0 a St q D nu o y X T w)(U:∀l,f.r=some l->m.fix l)(hl: ¬f.Z l)(V:Loop):m.M (λb=>D b∨X b∨b=l) nu o f.Z y (w.putObj l (.loop V))∧RS f (λb=>D b∨X b∨b=l) nu ⟨t0,o,y⟩ a (w.putObj l (.loop V)):=by
 have W:=m.so h.mm
 refine Nw (C:=λb=>b=l) m h.mm h.rs rfl rfl rfl zk (λb u H=>World.putObj_heap_other H) (λb u=>⟨.inr (.inr u),by grind,h.WE U (.inr u)⟩)
  (λb u A=> .inl A) (λb u=> .inl (h.rs.ro.up b (by simp_all))) (λb A=>A.elim .inl (λq=> .inr (.inr q))) (λb u O=>absurd O ahn) (λb u=>⟨by simp_all,λA=>?_,.inl (.inl u)⟩)
 rcases A with q|q|q
 ·grind
 ·exact(h.xz b q).1 u
 grind
structure jC(m:WM P)(f:Fr)(N l:Nat)(t0:C5)(a:Act)(St X T:Nat->Prop)(w0:World)(q:Loop)(D:Nat->Prop)(nu:EQ)(o:AC)(Z:Nat->Prop)(y:kB)(w:World):Prop where
 mm:m.M D nu o (λb=>Z b∨(f.Z b∨X b∨b=l)) y w
 zz:∀b,f.Z b∨X b∨b=l-> ¬Z b
 tm:gy D nu o w t0 a.tmps
 mh:FR f a.defers w
 pS:w.heap[l]?=some (.loop q)
 os:w.os=w0.os
 tape:w.tape=w0.tape
 output:w.output=w0.output
 size:w0.heap.size<=w.heap.size
 same:∀b,T b∨St b->w.heap[b]?=w0.heap[b]?
 xz:∀b,X b-> ¬f.Z b∧b≠l
 xt:∀b,X b->T b
 tl:∀b,T b->b<w0.heap.size
 td:∀b,T b-> ¬X b->D b
 to:∀b,T b-> ¬owned nu o b
 st:∀b,St b->D b∧ ¬owned nu o b∧b<w0.heap.size
 n:N<=o.length
theorem Core.round(h:Core m f N l t0 a St q D nu o y X T w):jC m f N l t0 a St X T w q D nu o (λ_=>False) y w:=by
 have e:(λb=>False∨(f.Z b∨X b∨b=l))=(λb=>f.Z b∨X b∨b=l):=by grind
 exact⟨by rw[e];exact h.mm,λ_ _ h=>h,h.rs.tm,h.rs.mh,h.pS,rfl,rfl,rfl,aed _,λ_ _=>rfl,h.xz,h.xt,h.tl,h.td,h.to,h.st,h.n⟩
variable {w0:World} {Z:Nat->Prop}
theorem jC.step(hmn:m.n0<=N)(hZr:∀l,f.r=some l->m.fix l)(ht0:∀(i:Nat)c,t0[i]?=some c->c.wf N=true){nu':EQ}{o':AC}{Z':Nat->Prop}
  (h:jC m f N l t0 a St X T w0 q D nu o Z y w)(U:RO D nu o w)(H:JP Z nu o w nu' o' w')(hro':RO D' nu' o' w')(W:∀c v,RA D nu o w c v->c.wf o'.length=true->RA D' nu' o' w' c v)(hD1:∀b,D' b->D b∨Z b)(hD2:∀b,D b->D' b∨Z' b)
  (hZ:∀b,Z' b->b<w'.heap.size∧ ¬D' b∧(Z b∨owned nu o b∨w.heap.size<=b))(hn:N<=o'.length):jC m f N l t0 a St X T w0 q D' nu' o' Z' y w':=by
 have hz:=m.so h.mm;have nD:∀b,f.Z b∨X b∨b=l->b<w.heap.size∧ ¬D b:=λb u=>hz.1 b (.inr u);have nO:∀b,f.Z b∨X b∨b=l-> ¬owned nu o b:=λb u ho=>(nD b u).2 (U.nP ho)
 have nZ':∀b,f.Z b∨X b∨b=l-> ¬Z' b:=λb u A=>by
  rcases(hZ b A).2.2 with q|q|q
  ·exact h.zz b u q
  ·grind
  grind
 have nD':∀b,f.Z b∨X b∨b=l-> ¬D' b:=λb u V=>by
  rcases hD1 b V with q|q
  ·grind
  ·exact h.zz b u q
 have keepF:∀b,f.Z b∨X b∨b=l->w'.heap[b]?=w.heap[b]? ∧ ¬owned nu' o' b:=λb u=>H.keep b (nD b u).1 (nO b u) (h.zz b u)
 have stay:∀b,b<w.heap.size->D b-> ¬owned nu o b->(w'.heap[b]?=w.heap[b]? ∧ ¬owned nu' o' b)∧D' b:=λb u V hno=>by
  have hnz: ¬Z b:=λA=>(hz.1 b (.inl A)).2 V;refine⟨H.keep b u hno hnz,?_⟩
  grind
 have O:∀b,T b∨St b->(w'.heap[b]?=w.heap[b]? ∧ ¬owned nu' o' b)∧(D b->D' b):=λb u=>by
  have hs0:=h.size
  rcases u with q|q
  ·have hlt:=h.tl b q
   by_cases hx:X b
   ·grind
   ·obtain⟨r1,r2⟩:=stay b zd (h.td b q hx) (h.to b q)
    grind
  ·obtain⟨k1,k2,k3⟩:=h.st b q
   grind
 refine⟨m.step h.mm U ⟨H.os,H.tape,H.output,H.size,H.wH,λb h1 h2 h3=>H.keep b h1 h2 (λA=>h3 (.inl A))⟩ hro' W (λb V=>(hD1 b V).elim .inl (λq=> .inr (.inl q))) (λb V=>(hD2 b V).elim .inl (λq=> .inr (.inl q))) (λb u=>?_) (aee hmn hn),nZ',⟨h.tm.len,λi c x q1 q2=>W c x (h.tm.at' i c x q1 q2) (AV.K8 hn c (ht0 i c q1))⟩,
  h.mh.keep H.size (λb ob u Y _=>?_),(keepF l (.inr (.inr rfl))).1.trans h.pS,H.os.trans h.os,H.tape.trans h.tape,H.output.trans h.output,aee h.size H.size,λb u=>(O b u).1.1.trans (h.same b u),h.xz,h.xt,h.tl,λb u hx=>(O b (.inl u)).2 (h.td b u hx),λb u=>(O b (.inl u)).1.2,λb u=>⟨(O b (.inr u)).2 (h.st b u).1,(O b (.inr u)).1.2,(h.st b u).2.2⟩,hn⟩
 ·grind
 ·rcases u with q|q
  ·grind
  ·obtain⟨k1,k2,k3⟩:=hz.2.2 b (hZr b q);exact(H.keep b k1 (ox U Y zf) (λA=>k2 (.inl A))).1.trans Y
theorem jC.others(hZr:∀l,f.r=some l->m.fix l){W:kB}(h:jC m f N l t0 a St X T w0 q D nu o Z y w)(hro:RO D nu o w)(e1:w'.os=w.os)(e2:w'.tape=w.tape)(e3:w'.output=w.output)(A:w.heap.size<=w'.heap.size)
  (U:∀b,b<w.heap.size->D b∨(Z b∨(f.Z b∨X b∨b=l))∨owned nu o b∨m.fix b->w'.heap[b]?=w.heap[b]?)(hM:m.M (λb=>D b∧ ¬(w.heap.size<=b∧b<w'.heap.size)) nu o (λb=>Z b∨(f.Z b∨X b∨b=l)) W w') :
  jC m f N l t0 a St X T w0 q (λb=>D b∧ ¬(w.heap.size<=b∧b<w'.heap.size)) nu o Z W w':=by
 have hz:=m.so h.mm;have hs0:=h.size;have hF:∀b,Fz D nu o w b->w'.heap[b]?=w.heap[b]? ∧Fz (λb=>D b∧ ¬(w.heap.size<=b∧b<w'.heap.size)) nu o w' b:=λb H=>⟨U b H.1 (.inl H.2.2),aef H.1 A,H.2.1,H.2.2,λY=>by have:=H.1;omega⟩
 refine⟨hM,h.zz,⟨h.tm.len,λi c x q1 q2=>(h.tm.at' i c x q1 q2).keep hF⟩,h.mh.keep A (λb ob u O _=>(U b (aeh.1 O).1 ?_).trans O),(U l (hz.1 l (.inr (.inr (.inr rfl)))).1 (.inr (.inl (.inr (.inr (.inr rfl)))))).trans h.pS,e1.trans h.os,e2.trans h.tape,e3.trans h.output,aee h.size A,λb u=>?_,h.xz,h.xt,h.tl,
  λb u V=>⟨h.td b u V,λY=>by have:=h.tl b u;omega⟩,h.to,λb u=>⟨⟨(h.st b u).1,λY=>by have:=(h.st b u).2.2;omega⟩,(h.st b u).2⟩,h.n⟩
 ·grind
 ·refine(U b ?_ ?_).trans (h.same b u)
  ·rcases u with q|q
   ·have:=h.tl b q;omega
   ·have:=(h.st b q).2.2;omega
  ·rcases u with q|q
   ·by_cases V:X b
    ·grind
    ·exact .inl (h.td b q V)
   ·exact .inl (h.st b q).1
def Q2(P:Program)(m:WM P)(f:Fr)(N l:Nat)(t0:C5)(a:Act)(St X T:Nat->Prop)(w0:World)(q:Loop)(hmn:m.n0<=N)(hZr:∀l,f.r=some l->m.fix l)(ht0:∀(i:Nat)c,t0[i]?=some c->c.wf N=true):WM P where
 n0:=N
 fix:=λb=>m.fix b∨f.Z b∨X b∨b=l
 M:=jC m f N l t0 a St X T w0 q
 step:=λh hro hm hro' hra hD1 hD2 hZ hn=>h.step hmn hZr ht0 hro hm hro' hra hD1 hD2 hZ hn
 so:=λh=>by
  have hz:=m.so h.mm;refine⟨λb hb=>hz.1 b (.inl hb),h.n,λb hb=>?_⟩
  rcases hb with q|q
  ·grind
  ·exact⟨(hz.1 b (.inr q)).1,h.zz b q,(hz.1 b (.inr q)).2⟩
 yield:=λ{D nu o Z l' x rest w vals}h hro hra hw=>by
  obtain⟨fn,tmps,assign,body,hrun,hround⟩:=m.yield h.mm hro hra hw;refine⟨fn,tmps,assign,body,hrun,hround.mono λe w' he=>?_⟩;obtain⟨⟨e1,e2,e3,hsz,hk⟩,he⟩:=he
  refine⟨⟨e1,e2,e3,hsz,λb hb hh=>hk b hb ?_⟩,?_⟩
  ·grind
  ·rcases he with⟨rfl,hM⟩|⟨rfl,hM⟩
   ·exact .inl ⟨rfl,h.others hZr hro e1 e2 e3 hsz hk hM⟩
   ·exact .inr ⟨rfl,h.others hZr hro e1 e2 e3 hsz hk hM⟩
theorem jC.close(h:jC m f N l t0 a St X T w0 q D nu o Z y w)(A:RO D nu o w):Core m f N l t0 a St q (λb=>D b∨Z b) nu o y X T w:=by
 have O:=m.so h.mm;have V:=h.size
 have key:=Nw (C:=λ_=>False) (D':=λb=>D b∨Z b) (Z':=λb=>f.Z b∨X b∨b=l) (w':=w) (t:=t0) (a:=a) (f:=f) m h.mm ⟨A,h.tm,h.mh⟩ rfl rfl rfl (aed _) (λb u _=>rfl) (λb u=>u.elim) (λb u H=> .inl H) (λb u=> .inl (A.up b u)) (λb H=>H.elim .inl (λq=> .inr (.inl q)))
  (λb Y W=>zd) (λb u=>⟨(O.1 b (.inr u)).1,λH=>H.elim (O.1 b (.inr u)).2 (h.zz b u),.inl (.inr u)⟩)
 exact⟨key.1,key.2,h.xz,h.xt,λb u=>by have:=h.tl b u;omega,λb u U=> .inl (h.td b u U),h.to,λb u=>⟨.inl (h.st b u).1,(h.st b u).2.1,by have:=(h.st b u).2.2;omega⟩,h.pS,h.n⟩
theorem jC.put(hZr:∀l,f.r=some l->m.fix l)(hl: ¬f.Z l){f':Fr}{t:C5}{a':Act}(hf':f'.r=some l∧f'.B=0∧f'.Z=Z)(h:jC m f N l t0 a St X T w0 q D nu o Z y w)(O:RS f' D nu ⟨t,o,y⟩ a' w)(A:Loop)(hT:∀b,T b∨St b->b≠l) :
  jC m f N l t0 a St X T w0 A D nu o Z y (w.putObj l (.loop A))∧RS f' D nu ⟨t,o,y⟩ a' (w.putObj l (.loop A)):=by
 have Y:=m.so h.mm;have hll:l<w.heap.size:=(aeh.1 h.pS).1;have hrl:f.r≠some l:=λe=>(Y.2.2 l (hZr l e)).2.1 (.inr (.inr (.inr rfl)))
 have H:(w.putObj l (.loop A)).heap.size=w.heap.size:=zk
 have key:=Nw (C:=λb=>b=l) (D':=D) (Z':=λb=>Z b∨(f.Z b∨X b∨b=l)) (w':=w.putObj l (.loop A)) (t:=t0) (a:=a) (f:=f) m h.mm ⟨O.ro,h.tm,h.mh⟩ rfl rfl rfl zk (λb u hne=>World.putObj_heap_other hne) (λb u=>⟨.inr (.inr (.inr u)),by grind,by grind⟩)
  (λb u hd=>hd) (λb u=>O.ro.up b zd) (λb hd=> .inl hd) (λb u hb'=>absurd hb' ahn) (λb u=>⟨by grind,(Y.1 b u).2,.inl u⟩)
 have hF:∀b,Fz D nu o w b->(w.putObj l (.loop A)).heap[b]?=w.heap[b]? ∧Fz D nu o (w.putObj l (.loop A)) b:=λb W=>⟨World.putObj_heap_other (λe=>by rw[e]at W;exact(Y.1 l (.inr (.inr (.inr rfl)))).2 W.2.2),by rw[H];exact W.1,W.2⟩;refine⟨⟨key.1,h.zz,key.2.tm,key.2.mh,World.putObj_heap_same hll,h.os,h.tape,h.output,by rw[H];exact h.size,λb u=>(World.putObj_heap_other (hT b u)).trans (h.same b u),h.xz,h.xt,h.tl,h.td,h.to,h.st,h.n⟩,key.2.ro,⟨O.tm.len,λi c x q1 q2=>(O.tm.at' i c x q1 q2).keep hF⟩,?_⟩;obtain⟨rs,k1,k2,U⟩:=O.mh.marks
 refine⟨zd,⟨rs,k1,k2,λx V=>⟨(U x V).1,(U x V).2.1,(World.putObj_heap_other (λe=>?_)).trans (U x V).2.2⟩⟩,λl' hl'=>?_⟩
 ·have:=(U x V).2.1
  rw[hf'.2.2,e]at this;exact h.zz l (.inr (.inr rfl)) this
 grind[World.putObj_heap_same]
def iz(ps:Do)(x t:C5):C5:=(ps.zip x).foldl (λt pv=>t.set pv.1 pv.2) t
theorem zw:∀(ps:Do)(x t:C5)(vs:Id)(tmps:Array Value),gy D nu o w t tmps->x.length=vs.length->(∀(i:Nat)c v,x[i]?=some c->vs[i]?=some v->RA D nu o w c v)->gy D nu o w (iz ps x t) ((ps.zip vs).foldl (λtmps p=>tmps.setIfInBounds p.1 p.2) tmps)
 | [],x,t,vs,tmps,h,_,_=>by simpa [iz]using h
 |p::ps,[],t,[],tmps,h,_,_=>by simpa [iz]using h
 |p::ps,c::x,t,v::vs,tmps,h,hl,W=>by
  have Y:gy D nu o w (t.set p c) (tmps.setIfInBounds p v):=by
   refine⟨by simpa using h.len,λi V O u A=>?_⟩
   by_cases U:p=i
   ·subst U;have H:=(List.getElem?_eq_some_iff.1 u).1;simp only[List.length_set]at H;rw[List.getElem?_set_self H]at u;rw[Array.getElem?_setIfInBounds_self_of_lt (by have:=h.len;omega)]at A;cases u;cases A;exact W 0 c v rfl rfl
   ·rw[List.getElem?_set_ne U]at u;rw[Array.getElem?_setIfInBounds_ne U]at A;exact h.at' i V O u A
  exact zw ps x _ vs _ Y (by simpa using hl) (λi V O u A=>W (i+1) V O (by simpa using u) (by simpa using A))
 |p::ps,[],t,v::vs,tmps,_,hl,_=>by simp at hl
 |p::ps,c::x,t,[],tmps,_,hl,_=>by simp at hl
def bg.code:bg->Code
 | .normal=> .skip
 | .exit id=> .exit id
 | .goto l=> .goto l
 | .ret=> .ret
def oY(N:Nat)(t0:C5)(p:Prop)(o':AC)(y':kB)(Q:bg->AS->Prop)(e:bg)(s:AS):Prop:=match e with
 | .normal=>p∧Wk N ⟨t0,s.o,s.y⟩ ⟨t0,o',y'⟩
 |e=>Q e ⟨t0,s.o,s.y⟩
def nA(P:Program)(N:Nat)(body:Code)(R:bg->AS->Prop)(e:bg)(s:AS):Prop:=match e with
 | .normal=>cD P N body s R
 |_=>False
def Jb{ι:Type}(At:ι->List C5->Prop)(nx:ι->C5->ι)(hmx:P.follows .mixedOrders=true)(m:WM P)(f:Fr)(N l:Nat)(t0:C5)(a:Act)(St:Nat->Prop)(q:Loop)(O:ι->AC)(Y:ι->kB)(ok:ι->Prop)(Q:bg->AS->Prop)(hmn:m.n0<=N)(hZr:∀l,f.r=some l->m.fix l)(hl: ¬f.Z l)(ht0:∀(i:Nat)c,t0[i]?=some c->c.wf N=true)
  (hq:q.state=.ready∧q.pending=none∧q.tmps=a.tmps)(hA:bY q.assign=true)(hB:bY q.body=true)(har:∀k x rest,At k (x::rest)->x.length=q.params.size)(hnx:∀k x rest,At k (x::rest)->At (nx k x) rest)
  (hround:∀k x rest,ok k->At k (x::rest)->cD P N q.assign ⟨iz q.params.toList x t0,O k,Y k⟩ (nA P N q.body (oY N t0 (ok (nx k x)) (O (nx k x)) (Y (nx k x)) Q))):Am P l where
 J:=λrest X T w=>∃k D nu,At k rest∧ok k∧Core m f N l t0 a St q D nu (O k) (Y k) X T w
 Jx:=λX T w=>∃e D nu o y,e ≠ .normal∧Q e ⟨t0,o,y⟩∧Core m f N l t0 a St {q with state:= .done,pending:=some e.code} D nu o y X T w
 St:=St
 qY:=λh ha hx=>by
  obtain⟨k,D,nu,h1,h2,h3⟩:=h;exact⟨k,_,nu,h1,h2,h3.qY hZr ha hx⟩
 Ho:=λh ha hx=>by
  obtain⟨e,D,nu,o,y,h1,h2,h3⟩:=h;exact⟨e,_,nu,o,y,h1,h2,h3.qY hZr ha hx⟩
 round:=λ{x rest X T w D nu vals}hJ hra hw hD=>by
  obtain⟨k,Dc,nuc,hat,hok,hc⟩:=hJ;have hz:=m.so hc.mm
  have hra':gy Dc nuc (O k) w x vals:=⟨hra.len,λi c v q1 q2=>(hra.at' i c v q1 q2).tr (n:=0) (λb hf=>by
   obtain⟨h1,h2⟩:=hD b hf.1 hf.2.2
   rcases h1 with h1|h1
   ·exact⟨hf.1,hc.to b h1,hc.td b h1 h2⟩
   ·exact⟨hf.1,(hc.st b h1).2.1,(hc.st b h1).1⟩) (λid len hlt=>zd) (cG hw q1)⟩
  have hTl:∀b,T b∨St b->b≠l:=λb hb e=>by
   have hnl: ¬Dc l:=(hz.1 l (.inr (.inr rfl))).2
   rcases hb with h|h
   ·by_cases hxb:X b
    ·exact(hc.xz b hxb).2 e
    ·exact hnl (e ▸ hc.td b h hxb)
   ·exact hnl (e ▸ (hc.st b h).1)
  have hlen:vals.size=q.params.size:=by rw[<-hra.len,har k x rest hat]
  refine⟨q.fn,_,q.assign,q.body,run_yield hc.pS hlen,roundIn_of_wpIn trivial ?_⟩
  have htm:gy Dc nuc (O k) w (iz q.params.toList x t0) ((q.params.zip vals).foldl (λtmps(t,a)=>tmps.setIfInBounds t a) q.tmps):=by
   have:=zw q.params.toList x t0 vals.toList a.tmps hc.rs.tm (by grind) (λi c v q1 q2=>hra'.at' i c v q1 (by grind))
   grind[Array.toList_zip]
  have hs:RS ⟨0,some l,λ_=>False⟩ Dc nuc ⟨iz q.params.toList x t0,O k,Y k⟩ {tmps:=(q.params.zip vals).foldl (λtmps(t,a)=>tmps.setIfInBounds t a) q.tmps,defers:=[]} w:=
   ⟨hc.rs.ro,htm,⟨Nat.zero_le _,⟨[],ae1,rfl,λx hx=>(by cases hx)⟩,λl' hl'=>by cases hl';exact⟨q,hc.pS⟩⟩⟩
  refine R8 (n:=9) (gK (f:=⟨0,some l,λ_=>False⟩) hmx (Q2 P m f N l t0 a St X T w q hmn hZr ht0) (λl' hl'=>by cases hl';exact .inr (.inr (.inr rfl))) (aed N) q.assign hA ⟨iz q.params.toList x t0,O k,Y k⟩ _ w Dc nuc (λ_=>False) _ _ (λa w h=>h) hc.round hs (hround k x rest hok hat) (λe D1 Z1 s1 a1 w1 nu1 h1 h2 h3=>?_))
  cases e with
  |exit i=>exact h3.elim
  |goto i=>exact h3.elim
  |ret=>exact h3.elim
  |normal=>
   refine⟨_,run_beginRound h1.pS hq.1,?_⟩;obtain⟨h4,h5⟩:=h1.put hZr hl (f':=(Fr.mk 0 (some l) (λ_=>False)).wz Z1) ⟨rfl,rfl,rfl⟩ h2 {q with state:= .busy} hTl;refine R8 (n:=9) (gK (f:=⟨0,some l,λ_=>False⟩) hmx (Q2 P m f N l t0 a St X T w {q with state:= .busy} hmn hZr ht0) (λl' hl'=>by cases hl';exact .inr (.inr (.inr rfl))) (aed N) q.body hB s1 a1 _ D1 nu1 Z1 _ _ (λa w h=>h) h4 h5 h3 (λe D2 Z2 s2 a2 w2 nu2 k1 k2 k3=>?_));have hcl:=k1.close k2.ro;have hkept:∀q',N4 (λb=>T b∨St b) w (w2.putObj l (.loop q')):=λq'=>⟨k1.os,k1.tape,k1.output,by simpa using k1.size,λb _ hb=>(World.putObj_heap_other (hTl b hb)).trans (k1.same b hb)⟩
   have jump:∀e,e ≠ .normal->Q e ⟨t0,s2.o,s2.y⟩->∃v w',(Instr.endRound l (some e.code)).run P w2=.ok v w'∧(N4 (λb=>T b∨St b) w w'∧((Ending.returned v=.returned (.bool true)∧∃k D nu,At k rest∧ok k∧Core m f N l t0 a St q D nu (O k) (Y k) X T w')∨(Ending.returned v=.returned (.bool false)∧∃e D nu o y,e ≠ .normal∧Q e ⟨t0,o,y⟩∧Core m f N l t0 a St {q with state:= .done,pending:=some e.code} D nu o y X T w'))):=λe he hQ=>by
    refine⟨_,_,run_endRound (some e.code) k1.pS,hkept _,.inr ⟨rfl,e,(λb=>D2 b∨Z2 b),nu2,s2.o,s2.y,he,hQ,?_⟩⟩;exact hcl.put hZr hl _
   cases e with
   |normal=>
    refine⟨_,_,run_endRound none k1.pS,hkept _,.inl ⟨rfl,nx k x,(λb=>D2 b∨Z2 b),nu2,hnx k x rest hat,k3.1,?_⟩⟩
    have:=(hcl.put hZr hl {q with state:= .ready,pending:=none}).U5 hmn k3.2
    have e:({q with state:= .ready,pending:=none}:Loop)=q:=by
     obtain⟨e1,e2,_⟩:=hq;cases q;grind
    grind
   |exit i=>exact jump (.exit i) zk k3
   |goto i=>exact jump (.goto i) zk k3
   |ret=>exact jump .ret zk k3
theorem Jc(m:WM P){f:Fr}{t:C5}{a:Act}{o:AC}{y:kB}(hm:m.M D nu o f.Z y w)(hs:RS f D nu ⟨t,o,y⟩ a w)(fn:FuncId)(ps:Array Tmp)(assign body:Code) :
  ∃l mk u H q D1,(Instr.enterLoop fn a.tmps ps assign body f.r).run P w=.ok (l,mk) u∧(q.state=.ready∧q.pending=none∧q.tmps=a.tmps)∧(q.params=ps∧q.assign=assign∧q.body=body)∧ ¬H l∧u.heap[l]?=some (.loop q)∧Below w.heap.size w u ∧
   m.M D1 nu o (λb=>H b∨b=l) y u∧RS (f.wz H) D1 nu ⟨t,o,y⟩ {a with defers:=mk++a.defers} u∧(∀b,b<w.heap.size->D b->D1 b)∧(∀b,D1 b->D b)∧∀b,f.Z b->H b:=by
 have hz:=m.so hm
 have gen:∀(u:World)(H:Nat->Prop)(l:Nat),Below w.heap.size w u->(∀b,f.Z b->H b)->(∀b,H b->f.Z b∨(w.heap.size<=b∧b<u.heap.size))->w.heap.size<=l->l<u.heap.size ->
   m.M (λb=>D b∧ ¬(H b∨b=l)) nu o (λb=>H b∨b=l) y u∧RS f (λb=>D b∧ ¬(H b∨b=l)) nu ⟨t,o,y⟩ a u:=λu H l A h1 h2 h3 h4=>by
  refine Nw (C:=λ_=>False) m hm hs A.os A.tape A.output A.size (λb V _=>A.block b V) (λb h=>h.elim) (λb V U=>⟨U,λY=>?_⟩) (λb W=>⟨hs.ro.up b (aee A.size W),λY=>?_⟩) (λb U=> .inl U.1) (λb W V=>?_) (λb Y=>⟨?_,λU=>U.2 Y,?_⟩)
  ·grind
  ·grind
  ·by_cases Y:H b∨b=l
   ·exact .inr Y
   ·exact .inl ⟨hs.ro.up b W,Y⟩
  ·grind
  grind
 cases hr:f.r with
 |none=>
  obtain⟨q,hq⟩:∃q:Loop,q={state:= .ready,pending:=none,fn,tmps:=a.tmps,params:=ps,assign,body,defers:=w.heap.size}:=⟨_,rfl⟩;obtain⟨u,O⟩:∃u,u=(w.alloc (.deferred (some []))).alloc (.loop q):=⟨_,rfl⟩
  have A:Below w.heap.size w u:=by rw[O];exact((Below.refl _ w).alloc (aed _) _).alloc zk _
  have hsz:u.heap.size=w.heap.size+2:=by simp_all
  have hL:u.heap[w.heap.size+1]?=some (.loop q):=by
   grind[World.alloc_heap_new,World.size_alloc]
  have hK:u.heap[w.heap.size]?=some (.deferred (some [])):=by
   grind[Below.heap_alloc,World.alloc_heap_new]
  obtain⟨g1,g2⟩:=gen u (λb=>f.Z b∨b=w.heap.size) (w.heap.size+1) A (λb h=> .inl h) (λb h=>h.elim .inl (λe=> .inr zd)) zd zd
  refine⟨w.heap.size+1,[IV w.heap.size],u,(λb=>f.Z b∨b=w.heap.size),q,_,?_,by grind,by grind,?_,hL,A,g1,⟨g2.ro,g2.tm,?_⟩,?_,λb U=>U.1,λb h=> .inl h⟩
  ·rw[O,hq];exact run_enterLoop_outer _ _ _ _ _
  ·grind
  ·obtain⟨rs,k1,k2,k3⟩:=g2.mh.marks
   refine⟨g2.mh.base,⟨w.heap.size::rs,List.nodup_cons.2 ⟨λhm=>?_,k1⟩,by grind,λx hx=>?_⟩,g2.mh.loop⟩
   ·grind
   ·rcases List.mem_cons.1 hx with e|e
    ·subst e;exact⟨hs.mh.base,.inr rfl,hK⟩
    ·exact⟨(k3 x e).1,.inl (k3 x e).2.1,(k3 x e).2.2⟩
  grind
 |some l0=>
  obtain⟨q0,hq0⟩:=hs.mh.loop l0 hr;obtain⟨q,hq⟩:∃q:Loop,q={state:= .ready,pending:=none,fn,tmps:=a.tmps,params:=ps,assign,body,defers:=q0.defers}:=⟨_,rfl⟩;obtain⟨u,O⟩:∃u,u=w.alloc (.loop q):=⟨_,rfl⟩
  have A:Below w.heap.size w u:=by rw[O];exact(Below.refl _ w).alloc (aed _) _
  have hsz:u.heap.size=w.heap.size+1:=by simp_all
  have hL:u.heap[w.heap.size]?=some (.loop q):=by grind[World.alloc_heap_new]
  obtain⟨g1,g2⟩:=gen u f.Z w.heap.size A (λb h=>h) (λb h=> .inl h) zd zd
  refine⟨w.heap.size,[],u,f.Z,q,_,?_,by grind,by grind,?_,hL,A,g1,⟨g2.ro,g2.tm,?_⟩,?_,λb U=>U.1,λb h=>h⟩
  ·grind[run_enterLoop_inner]
  ·grind
  ·exact g2.mh.VG (λb h=>h)
  grind
theorem xO{n0:Nat}{s:AS}{Q:bg->AS->Prop}{g:Operand}{ps:Array Tmp}{assign body:Code}{gf:FuncId}{caps0:C5}{oI:AC}{L:List C5}{c:Bool}(hseq:Hj c P gf caps0 oI L){ι:Type}(At:ι->List C5->Prop)(nx:ι->C5->ι)(i0:ι)(hat0:At i0 L)(hnx:∀k x rest,At k (x::rest)->At (nx k x) rest)(hpm:c=true->∀k rest rest',rest.Perm rest'->At k rest->At k rest')(ids:Do)(hnd:ids.Nodup)
  (hids:ids.map (λi=>s.o[i]?)=oI.map (λx=>some (x.map (aa.bb (sig ids s.o.length)))))(hwo:∀(k:Nat)ob,oI[k]?=some (some ob)->bE ids.length ob.rows=true)(O:ι->AC)(Y:ι->kB)(ok:ι->Prop)(h0:ok i0)(t0:C5)
  (hg:s.ev g=.fn gf [] (bW (sig ids s.o.length) caps0))(hcaps:aQ ids.length caps0=true)(hdead:∀i,i∈ids->∀ob,(O i0)[i]? ≠ some (some ob))(A:Wk n0 s ⟨t0,O i0,Y i0⟩)(hA:bY assign=true)(hB:bY body=true)(har:∀k x rest,At k (x::rest)->x.length=ps.size)
  (hround:∀k x rest,ok k->At k (x::rest)->cD P (O i0).length assign ⟨iz ps.toList x t0,O k,Y k⟩ (nA P (O i0).length body (oY (O i0).length t0 (ok (nx k x)) (O (nx k x)) (Y (nx k x)) Q)))
  (hfin:∀k,At k []->ok k->Q .normal ⟨t0,O k,Y k⟩):cD P n0 (.rangeFunc g ps assign body) s Q:=by
 intro f m D nu a w hZr hn hm hs hmx R hO hR;have hgv:=hs.ev g;rw[hg]at hgv
 obtain⟨ca,hgv',hca⟩:∃ca,a.eval g=.func (.func gf) #[] ca∧gy D nu s.o w (bW (sig ids s.o.length) caps0) ca:=by
  revert hgv
  generalize a.eval g=v;intro hgv
  cases hgv with
  |fn _ _ _ fi ca U V _ h4=>
   obtain rfl:fi = #[]:=Array.eq_empty_of_size_eq_zero (by grind);exact⟨ca,rfl,V,h4⟩
 have hz:=m.so hm;obtain⟨ro0,own0,fz0,hdr0,obj0⟩:=yn ids hs.ro hnd hids hwo;obtain⟨X,hX⟩:∃X:Nat->Prop,X=owned (λk len=>nu (sig ids s.o.length k) len) oI:=⟨_,rfl⟩;rw[<-hX]at own0;obtain⟨_,al,_⟩:=nz A
 have Xn:∀b,X b-> ¬owned nu (O i0) b:=λb H⟨id,ob,U,V⟩=>by
  rw[hX]at H;obtain⟨k,ob',h3,h4⟩:=H;obtain⟨i,q1,q2,q3⟩:=obj0 k ob' h3;have hne:i≠id:=λe=>hdead i (aeG q1) ob (by grind);refine hs.ro.sep i id _ _ b q3 (al id ob U) hne ?_ V
  grind[aa.gH]
 have XD:∀b,X b->D b∧b<w.heap.size:=λb H=>⟨hs.ro.nP (own0 b H),hs.ro.bL (own0 b H)⟩

 have hFX:∀b,Fz D nu s.o w b->D b∧ ¬X b:=λb W=>⟨W.2.2,λu=>W.2.1 (own0 b u)⟩
 have hs2:RS (f.wz (λb=>f.Z b∨X b)) (λb=>D b∧ ¬X b) nu ⟨t0,O i0,Y i0⟩ a w:=by
  have:=GS (D':=λb=>D b∧ ¬X b) A hs hFX (λb ho=>⟨hs.ro.nP (by obtain⟨id,ob,U,V⟩:=ho;exact⟨id,ob,al id ob U,V⟩),λu=>Xn b u ho⟩) (λb H=>⟨hs.ro.up b H,λu=>by grind⟩)
  exact⟨this.ro,this.tm,this.mh.VG (λb h=> .inl h)⟩
 have hm2:m.M (λb=>D b∧ ¬X b) nu (O i0) (λb=>f.Z b∨X b) (Y i0) w:=by
  have hy:s.y=Y i0:=A.y;rw[<-hy];exact m.step hm hs.ro A.yP hs2.ro (λc v hr hc=>A.raD hFX hr hc) (λ_ h=> .inl h.1) (λb h=>(Classical.em (X b)).elim (λq=> .inr (.inr q)) (λq=> .inl ⟨h,q⟩)) (λb H=>H.elim (λq=>⟨(hz.1 b q).1,λhd=>(hz.1 b q).2 hd.1,.inl q⟩) (λq=>⟨(XD b q).2,λhd=>hd.2 q,.inr (.inl (own0 b q))⟩)) (aee hn A.n)
 have hmn:m.n0<=(O i0).length:=aee hn A.n
 have ht0:∀(i:Nat)c,t0[i]?=some c->c.wf (O i0).length=true:=λi c hc=>by
  rcases(Cb A.t).2 i c hc with e|e
  ·rw[e];rfl
  ·exact e.2
 refine wpIn_rangeFunc (F:=WF f.r) (n:=9) (λfn _=>?_);obtain⟨l,mk,w1,Z1,q,D1,hent,hq,⟨rfl,rfl,rfl⟩,hl,hL,H,hM1,hS1,hDD,hDD',hZZ⟩:=Jc (f:=f.wz (λb=>f.Z b∨X b)) m hm2 hs2 fn ps assign body;obtain⟨St,hSt⟩:∃St:Nat->Prop,St=λb=>b<w.heap.size∧D b∧ ¬owned nu s.o b:=⟨_,rfl⟩;have hno:∀b,b<w.heap.size-> ¬owned nu s.o b-> ¬owned nu (O i0) b:=λb U V=>((A.yP (nu:=nu) (w:=w) (Z:=λ_=>False)).keep b U V (λh=>h)).2;have hXZ:∀b,X b->Z1 b:=λb u=>hZZ b (.inr u);have hXl:∀b,X b->b≠l:=λb u e=>hl (e ▸ hXZ b u);have hl': ¬(λb=>Z1 b∧ ¬X b) l:=λh=>hl h.1;have hZr':∀l,(f.wz (λb=>Z1 b∧ ¬X b)).r=some l->m.fix l:=hZr
 have hXnote:∀b,X b->∀ob,w1.heap[b]?=some ob->yx ob=false:=λb u ob hob=>by
  rw[H.block b (XD b u).2]at hob
  cases hn:yx ob with
  |false=>rfl
  |true=>exact absurd (own0 b u) (ox hs.ro hob hn)
 have hcore:Core m (f.wz (λb=>Z1 b∧ ¬X b)) (O i0).length l t0 {a with defers:=mk++a.defers} St q D1 nu (O i0) (Y i0) X X w1:=by
  have e:(λb=>(f.wz (λb=>Z1 b∧ ¬X b)).Z b∨X b∨b=l)=(λb=>Z1 b∨b=l):=funext λb=>propext ⟨λh=>h.elim (λq=> .inl q.1) (λq=>q.elim (λq=> .inl (hXZ b q)) .inr),λh=>h.elim (λq=>(Classical.em (X b)).elim (λu=> .inr (.inl u)) (λu=> .inl ⟨q,u⟩)) (λq=> .inr (.inr q))⟩
  refine⟨by grind,⟨hS1.ro,hS1.tm,hS1.mh.base,?_,hS1.mh.loop⟩,λb h=>⟨λhh=>hh.2 h,hXl b h⟩,λb h=>h,λb h=>aef (XD b h).2 H.size,λb h h'=>absurd h h',Xn,λb h=>?_,hL,aed _⟩
  ·obtain⟨rs,k1,k2,k3⟩:=hS1.mh.marks;exact⟨rs,k1,k2,λx u=>⟨(k3 x u).1,⟨(k3 x u).2.1,λhxx=>by have:=hXnote x hxx _ (k3 x u).2.2;cases this⟩,(k3 x u).2.2⟩⟩
  ·rw[hSt]at h;exact⟨hDD b h.1 ⟨h.2.1,λu=>h.2.2 (own0 b u)⟩,hno b h.1 h.2.2,aef h.1 H.size⟩
 let pr:=Jb (P:=P) At nx hmx m (f.wz (λb=>Z1 b∧ ¬X b)) (O i0).length l t0 {a with defers:=mk++a.defers} St q O Y ok Q hmn hZr' hl' ht0 hq hA hB har hnx hround
 have hFI:∀b,Fz (λb=>D b∧ ¬(b<w.heap.size∧∃id ob,id∉ids∧s.o[id]?=some (some ob)∧dW (nu id ob.hl)=some b)) (λk len=>nu (sig ids s.o.length k) len) oI w b->w1.heap[b]?=w.heap[b]? ∧Fz (λb=>St b∨X b∨w1.heap.size<=b) (λk len=>nu (sig ids s.o.length k) len) oI w1 b:=λb W=>by
  refine⟨H.block b W.1,aef W.1 H.size,W.2.1,.inl ?_⟩;rw[hSt];refine⟨W.1,W.2.2.1,λ⟨id,ob,U,V⟩=>?_⟩
  by_cases hmem:id∈ids
  ·obtain⟨k,hk⟩:=List.getElem?_of_mem hmem;have e:=congrArg (λl=>l[k]?) hids;simp only[List.getElem?_map,hk,Option.map_some,U]at e
   cases hy:oI[k]? with
   |none=>grind
   |some y=>
    rw[hy]at e;simp only[Option.map_some,Option.some.injEq]at e;obtain⟨ob0,rfl,rfl⟩:=Option.map_eq_some_iff.1 e.symm;refine W.2.1 ⟨k,ob0,hy,?_⟩
    grind[aa.gH]
  ·exact W.2.2.2 ⟨W.1,id,ob,hmem,U,V⟩
 have hcalls:=hseq.2 l pr (λhc rest rest' X T w hp hJ=>by
  obtain⟨k,D,nu,U,V⟩:=hJ
  exact⟨k,D,nu,hpm hc k rest rest' hp U,V⟩) (λb=>St b∨X b∨w1.heap.size<=b) (λk len=>nu (sig ids s.o.length k) len) w1 ca X (ro0.keep (λb ho=>⟨H.block b (ro0.bL ho),.inr (.inl (by rw[hX];exact ho))⟩) (λb h=> .inr (.inr h)) hFI)
  ⟨by rw[<-hca.len,cQ],λi c v q1 q2=>((hca.at' i (c.bb (sig ids s.o.length)) v (by grind[cr]) q2).GB (f:=sig ids s.o.length) (n:=ids.length) fz0 hdr0 c (cG hcaps q1) rfl).keep hFI⟩
  (λb H=>by rw[hX];exact H) (λb h=>by rw[hX]at h;exact h) (λb hlt hd=>hd.elim .inr (λh=>h.elim .inl (λh=>zd))) (λb h=>(hcore.st b h).2.2) ⟨i0,D1,nu,hat0,h0,hcore⟩
 refine⟨l,mk,w1,{target:= .fn (.func gf) ca,args:= #[.func (.yield l) #[] #[]]},w1,gf, #[.func (.yield l) #[] #[]]++ca,w1,hent,?_,λf' _=>trivial,?_,λh=>zk,?_⟩
 ·simp only[resolve,hgv'];simp[go_sem]
 ·simp[invoke,go_sem,kZ hseq.1]
 ·refine nN (hcalls.mono λe w3 he=>?_);obtain⟨⟨v,rfl⟩,X',T',he⟩:=he
  rcases he with⟨k,D3,nu3,U,hok,h3⟩|⟨e,D3,nu3,o3,y3,U,V,h3⟩
  ·obtain⟨k1,k2⟩:=h3.done hZr' hl' {q with state:= .exhausted};have hend:=run_endLoop (P:=P) h3.pS (by grind);rw[hq.2.1]at hend;rw[show({q with state:= .exhausted}:Loop)={q with state:= .exhausted}from rfl]at k1
   have k0:({q with state:= .exhausted,pending:=none}:Loop)={q with state:= .exhausted}:=by
    grind
   refine⟨none,_,hend,?_⟩
   first
    |exact hR .normal _ (λb=>Z1 b∧ ¬X b) ⟨t0,O k,Y k⟩ _ _ nu3 k1 k2 (hfin k U hok)
    |(rw[<-k0]at k1 k2;exact hR .normal _ (λb=>Z1 b∧ ¬X b) ⟨t0,O k,Y k⟩ _ _ nu3 k1 k2 (hfin k U hok))
  ·refine⟨some e.code,_,run_endLoop (P:=P) h3.pS zk,?_⟩;obtain⟨k1,k2⟩:=h3.done hZr' hl' {({q with state:= .done,pending:=some e.code}:Loop)with state:= .exhausted};have hh:=hR e _ (λb=>Z1 b∧ ¬X b) ⟨t0,o3,y3⟩ _ _ nu3 k1 k2 V
   cases e with
   |normal=>grind
   |exit i=>exact wpIn_exit hh
   |goto i=>exact wpIn_goto hh
   |ret=>exact wpIn_ret hh
theorem xP{n0:Nat}{s:AS}{Q:bg->AS->Prop}{g:Operand}{ps:Array Tmp}{assign body:Code}{gf:FuncId}{caps0:C5}{oI:AC}{L:List C5}(u:uw P gf caps0 oI L)(ids:Do)(W:ids.Nodup)
  (H:ids.map (λi=>s.o[i]?)=oI.map (λx=>some (x.map (aa.bb (sig ids s.o.length)))))(U:∀(k:Nat)ob,oI[k]?=some (some ob)->bE ids.length ob.rows=true)(O:Nat->AC)(Y:Nat->kB)(ok:Nat->Prop)(h0:ok 0)(t0:C5)
  (hg:s.ev g=.fn gf [] (bW (sig ids s.o.length) caps0))(hcaps:aQ ids.length caps0=true)(hdead:∀i,i∈ids->∀ob,(O 0)[i]? ≠ some (some ob))(V:Wk n0 s ⟨t0,O 0,Y 0⟩)(hA:bY assign=true)(hB:bY body=true)(har:∀x,x∈L->x.length=ps.size)
  (hround:∀k x,ok k->L[k]?=some x->cD P (O 0).length assign ⟨iz ps.toList x t0,O k,Y k⟩ (nA P (O 0).length body (oY (O 0).length t0 (ok (k+1)) (O (k+1)) (Y (k+1)) Q)))
  (hfin:ok L.length->Q .normal ⟨t0,O L.length,Y L.length⟩):cD P n0 (.rangeFunc g ps assign body) s Q:=by
 have key:∀(k:Nat)x rest,L.drop k=x::rest->L[k]?=some x∧L.drop (k+1)=rest∧k<L.length:=λk x rest h=>by
  grind[Nat.lt_or_ge,List.drop_eq_nil_of_le,List.drop_eq_getElem_cons,List.cons.inj,aes]
 refine xO (c:=false) ⟨u.1,λl pr _=>u.2 l pr⟩ (λ(k:Nat)rest=>L.drop k=rest∧k<=L.length) (λk _=>k+1) 0 ⟨rfl,Nat.zero_le _⟩ (λk x rest h=>⟨(key k x rest h.1).2.1,(key k x rest h.1).2.2⟩) (λh=>by cases h) ids W H U O Y ok h0 t0 hg hcaps hdead V hA hB (λk x rest h=>har x (aeG (key k x rest h.1).1)) (λk x rest A h=>hround k x A (key k x rest h.1).1) (λk h A=>?_)
 grind[List.drop_eq_nil_iff]
theorem Hz{n0:Nat}{s:AS}{Q:bg->AS->Prop}{g:Operand}{ps:Array Tmp}{assign body:Code}{gf:FuncId}{caps:C5}{L:List C5}(u:Hj true P gf caps [] L)(O:List C5->AC)(ok:List C5->Prop)(h0:ok [])(t0:C5)
  (hg:s.ev g=.fn gf [] caps)(hcaps:aQ 0 caps=true)(H:Wk n0 s ⟨t0,O [],s.y⟩)(hA:bY assign=true)(Y:bY body=true)(V:∀x,x∈L->x.length=ps.size)
  (hround:∀vis x rest,ok vis->(vis++x::rest).Perm L->cD P (O []).length assign ⟨iz ps.toList x t0,O vis,s.y⟩ (nA P (O []).length body (oY (O []).length t0 (ok (vis++[x])) (O (vis++[x])) s.y Q)))
  (A:∀vis,vis.Perm L->ok vis->Q .normal ⟨t0,O vis,s.y⟩):cD P n0 (.rangeFunc g ps assign body) s Q:=
 xO (c:=true) u (λvis rest=>(vis++rest).Perm L) (λvis x=>vis++[x]) [] (.refl _) (λk x rest h=>by simpa using h) (λ_ k rest rest' W h=>(W.symm.append_left k).trans h) [] ae1 rfl (λk ob h=>by simp at h) O (λ_=>s.y) ok h0 t0 (by grind[fI]) hcaps (λi h=>by simp at h) H hA Y
  (λk x rest h=>V x (h.mem_iff.1 (List.mem_append_right _ List.mem_cons_self))) hround (λk h U=>A k (by simpa using h) U)
theorem LI{n0:Nat}{s:AS}{Q:bg->AS->Prop}{g:Operand}{ps:Array Tmp}{assign body:Code}{gf:FuncId}{caps:C5}{L:List C5}(u:uw P gf caps [] L)(O:Nat->AC)(Y:Nat->kB)(ok:Nat->Prop)(h0:ok 0)(t0:C5)
  (hg:s.ev g=.fn gf [] caps)(hcaps:aQ 0 caps=true)(H:Wk n0 s ⟨t0,O 0,Y 0⟩)(W:bY assign=true)(V:bY body=true)(U:∀x,x∈L->x.length=ps.size)
  (hround:∀k x,ok k->L[k]?=some x->cD P (O 0).length assign ⟨iz ps.toList x t0,O k,Y k⟩ (nA P (O 0).length body (oY (O 0).length t0 (ok (k+1)) (O (k+1)) (Y (k+1)) Q)))
  (A:ok L.length->Q .normal ⟨t0,O L.length,Y L.length⟩):cD P n0 (.rangeFunc g ps assign body) s Q:=
 xP u [] ae1 rfl (λk ob h=>by simp at h) O Y ok h0 t0 (by grind[fI]) hcaps (λi h=>by simp at h) H W V U hround A
theorem Lf(P:Program)(rs:List ResultVar)(l:Nat)(s:AS):NK P rs l .ret s=qO (pC P s rs) s.o (λ_ _=>s.y=.run l []∨s.y=.off):=rfl
theorem B1(P:Program)(rs:List ResultVar)(l:Nat)(s:AS):NK P rs l .normal s=qO (pC P s rs) s.o (λ_ _=>s.y=.run l []∨s.y=.off):=rfl
theorem G7(N:Nat)(t0:C5)(p:Prop)(o':AC)(u:kB)(Q:bg->AS->Prop)(i:Nat)(s:AS):oY N t0 p o' u Q (.exit i) s=Q (.exit i) ⟨t0,s.o,s.y⟩:=rfl
theorem G8(N:Nat)(t0:C5)(p:Prop)(o':AC)(u:kB)(Q:bg->AS->Prop)(i:Nat)(s:AS):oY N t0 p o' u Q (.goto i) s=Q (.goto i) ⟨t0,s.o,s.y⟩:=rfl
theorem Ld(N:Nat)(t0:C5)(p:Prop)(o':AC)(u:kB)(Q:bg->AS->Prop)(s:AS):oY N t0 p o' u Q .ret s=Q .ret ⟨t0,s.o,s.y⟩:=rfl
theorem BZ(N:Nat)(t0:C5)(p:Prop)(o':AC)(u:kB)(Q:bg->AS->Prop)(s:AS):oY N t0 p o' u Q .normal s=(p∧Wk N ⟨t0,s.o,s.y⟩ ⟨t0,o',u⟩):=rfl
theorem zQ(P:Program)(N:Nat)(body:Code)(R:bg->AS->Prop)(s:AS):nA P N body R .normal s=cD P N body s R:=rfl
attribute [go_sem] Lf B1 G7 G8 Ld BZ zQ iz
theorem uD{n0:Nat}{Q:bg->AS->Prop}{ι:Type}{c:Code}{t:C5}{o:AC}{y:kB}(m:Nat)(upd:ι->O1)(ob:ι->AC)(yy:ι->kB)(mu:ι->Nat)(ok:ι->Prop)(i0:ι)(u:ok i0)(A:Wk n0 ⟨t,o,y⟩ ⟨l4 (cO m t) (upd i0),ob i0,yy i0⟩)
  (h:∀i,ok i->∀K:AS->Prop,(∀s2,aw n0 (λi=>⟨l4 (cO m t) (upd i),ob i,yy i⟩) mu ok (mu i) s2->K s2)->cD P n0 c ⟨l4 (cO m t) (upd i),ob i,yy i⟩ (px K Q)):cD P n0 (.loop c) ⟨t,o,y⟩ Q:=
 mL (λi=>⟨l4 (cO m t) (upd i),ob i,yy i⟩) mu ok i0 _ .refl A u h
end
section
variable {P:Program}
theorem rF{n0:Nat}{Q:bg->AS->Prop}{t:C5}{o:AC}{y:kB}{g:Operand}{ps:Array Tmp}{assign body:Code}{gf:FuncId}{caps:C5}{L:List C5}(q:uw P gf caps [] L)(m:Nat)(O:Nat->AC)(ok:Nat->Prop)(Y:ok 0)
  (U:(AS.mk t o y).ev g=.fn gf [] caps)(hcaps:aQ 0 caps=true)(A:Wk n0 ⟨t,o,y⟩ ⟨cO m t,O 0,y⟩)(W:bY assign=true)(V:bY body=true)(H:∀x,x∈L->x.length=ps.size)
  (hround:∀k x,ok k->L[k]?=some x->cD P (O 0).length assign ⟨iz ps.toList x (cO m t),O k,y⟩ (nA P (O 0).length body (oY (O 0).length (cO m t) (ok (k+1)) (O (k+1)) y Q)))
  (u:ok L.length->Q .normal ⟨cO m t,O L.length,y⟩):cD P n0 (.rangeFunc g ps assign body) ⟨t,o,y⟩ Q:=
 LI q O (λ_=>y) ok Y (cO m t) U hcaps A W V H hround u
def Ek(s s':AS):Prop:=∀(f:Fr)(D:Nat->Prop)(nu:EQ)(a:Act)(w:World),RS f D nu s a w->∃nu',cf nu s.o w nu' s'.o w∧s'.y=s.y∧RS f D nu' s' a w
theorem uB{n0:Nat}{s s':AS}{c:Code}{Q:bg->AS->Prop}(V:Ek s s')(q:bY c=true)(h:cD P n0 c s' Q):Ha P n0 c s Q:=λf m D nu a w A hn W H u R hO Y=>by
 obtain⟨nu',h1,U,O⟩:=V f D nu a w H;exact gK u m A hn c q s' a w D nu' f.Z Q R hO (by rw[U];exact m.own W H.ro h1 O.ro) O h Y
theorem bn{n0 id:Nat}{s s':AS}{ops:Array Oper}{d:Bool}{Q:bg->AS->Prop}(u:Ek s s')(q:dO ops=true)(h:cD P n0 (.region id ops d) s' Q):cD P n0 (.region id ops d) s Q:=by
 have:=uB (P:=P) (n0:=n0) (c:= .region id ops d) (Q:=Q) u q h
 cases d
 ·exact .inr this
 ·exact .inr this
theorem ah.CA{f:FuncId}{args args':C5}{o:AC}{r:AV}{K:AV->AC->Prop}(h:aj P f args' r)(n:Nat){p:Prop}(W:iY o n args=some (p,args'))(hp:p)(hf:r.flat=true)(k:K r o):ah P f args o K:=by
 refine .inr (.inr ⟨h.2.1,λD nu w vargs q u=>?_⟩);obtain⟨hl,A⟩:=(pJ q n).2 _ _ _ W hp
 have hra':gy (JG D nu [] w) nu [] w args' vargs:=⟨by rw[<-hl];exact u.len,λi c x U O=>by
  have hi:i<args.length:=by grind
  exact(A i _ c x (aes hi) U (u.at' i _ x (aes hi) O)).mono (.refl _ _ _) (λb _ H=>λV=>⟨V,br _ _,H⟩)⟩
 refine(h.2.2 (λ_=>True) nu w vargs (.nil _ _ _ (λ_ _=>trivial) (q.gl.nil (λ_ _ _=>trivial))) ⟨hra'.len,λi c x U O=>(hra'.at' i c x U O).mono (.refl _ _ _) (λ_ _ _=>trivial)⟩).mono ?_;rintro e w' ⟨v,nu',o',r',rfl,hm,_,Y,rfl,rfl⟩;have H:=jj hm;exact⟨_,nu,o,_,rfl,aH H,q.below H,Y.flat hf,k⟩
end
attribute [go_sem] List.zip_cons_cons List.zip_nil_left List.zip_nil_right
section
variable {P:Program} {ops:Array Oper}
def Qs(ops:Array Oper)(m i j:Nat):Bool:=
 match ops[i]?,ops[j]? with
 |some oi,some oj=>(decide (m<=j)||bd ops j i||oi.apart ops oj) && !bd ops i j&&(match oi.dst with|some d=>oj.dst !=some d|none=>true)&&(decide (m<=j)||match oj.dst with|some d=> !(oi.looksAt ops).contains d|none=>true)
 |_,_=>true
def gW(ops:Array Oper)(m:Nat):Bool:=
 Region.noSelect ops&&decide (m<ops.size)&&(List.range ops.size).all (λj=>(List.range j).all (λi=>Qs ops m i j)&&(!bd ops j j&&L5 ops j)) &&
 (List.range ops.size).all (λt=>decide (t<m)||(List.range t).all (λi=>(List.range (t+1)).any (λi'=>decide (i<i')&&bd ops i' i)))
def qP(st:Nat->(Act->World->Prop)->Act->World->Prop)(ops:Array Oper)(E:Act->World->Prop):Nat->Array Bool->Act->World->Prop
 |0,listed,a,w=>Region.ready .any ops listed=[]∧E a w
 |fuel+1,listed,a,w=>(Region.ready .any ops listed=[]->E a w)∧∀i∈Region.ready .any ops listed,st i (qP st ops E fuel (listed.setIfInBounds i true)) a w
def ud(st:Nat->(Act->World->Prop)->Act->World->Prop)(E:Act->World->Prop):Do->Act->World->Prop
 | []=>E
 |i::r=>st i (ud st E r)
structure Sx(P:Program)(ops:Array Oper)(st:Nat->(Act->World->Prop)->Act->World->Prop):Prop where
 mono:∀{i:Nat}{K K':Act->World->Prop}{a:Act}{w:World},(∀a w,K a w->K' a w)->st i K a w->st i K' a w
 of:∀{i:Nat}{o:Oper}{S:Spec}{K:Act->World->Prop}{a:Act}{w:World},ops[i]?=some o->vL P ops S o a w->(∀v w2,S.p v w2->Below w.heap.size w w2->K (a.put o.dst v) w2)->st i K a w
theorem K9{Q:Exit->Act->World->Prop}:∀(fuel:Nat)(listed:Array Bool)(a:Act)(w:World),qP (wpOp P ops Q) ops (Q .normal) fuel listed a w->wpAny P .any ops Q fuel listed a w
 |0,_,_,_,h=>h
 |fuel+1,_,_,_,h=>⟨h.1,λi hi=>wpOp_mono (λ_ _=>K9 fuel _ _ _) (h.2 i hi)⟩
theorem La{Q:Exit->Act->World->Prop}:∀l:Do,wpOps P ops Q l=ud (wpOp P ops Q) (Q .normal) l
 | []=>by funext a w;simp[wpOps,ud]
 |i::l=>by funext a w;rw[wpOps_cons,La l];rfl
theorem UU(Q:Exit->Act->World->Prop):Sx P ops (wpOp P ops Q):=⟨λh k=>wpOp_mono h k,λ{i o S K a w}hi h next=>by
 unfold wpOp;simp only[hi]
 rcases h with⟨A,q⟩|⟨A,q⟩
 ·rw[if_pos A];refine .inl ?_;unfold Oper.wp;generalize(execOp a.eval o).run P w=r at q
  cases r with
  |halt _ _=>exact q.elim
  |ok n w'=>
   cases n<;>first|exact q.elim|skip
   case value u=>exact next _ _ q.1 q.2
   case skip=>exact next _ _ q.1 q.2
   case enter f args=>
    refine Calls.mono q λe w'' H=>?_
    grind
 ·rw[if_neg (by grind)]
  grind[Below.refl]⟩
def Gw(P:Program)(ops:Array Oper)(Q:Exit->Act->World->Prop)(k:Nat):Act->World->Prop:=wpOps P ops Q (List.range' k (ops.size-k))
def qG(P:Program)(ops:Array Oper)(L:WP)(w0:World)(T:Nat->Act->World->Prop):GE->Nat->((Nat->Value)->Act)->Prop
 | [],k,A=>∀x w,Below w0.heap.size w0 w->(∀i,i<k->(at' L i).p (x i) w)->T k (A x) w
 |o::l,k,A=>(∀x w,Below w0.heap.size w0 w->(∀i,bd ops k i=true->(at' L i).p (x i) w)->vL P ops (at' L k) o (A x) w)∧qG P ops L w0 T l (k+1) (λx=>(A x).put o.dst (x k))
def XJ(b:Bool)(n:Nat)(S:Spec):Spec:=⟨λv w=>S.p v w∧(b=true->∀k,cW v=some k->n<=k),λv w w' hb h=>⟨S.st v w w' hb h.1,h.2⟩⟩
def tS(P:Program)(ops:Array Oper)(L:WP)(fr:Nat->Bool)(w0:World)(T:Nat->Act->World->Prop):GE->Nat->((Nat->Value)->Act)->Prop
 | [],k,A=>∀x w,Below w0.heap.size w0 w->(∀i,i<k->(at' L i).p (x i) w)->(∀i j,i<k->j<k->i≠j->fr i=true->fr j=true->∀b,cW (x i)=some b->cW (x j)≠some b)->T k (A x) w
 |o::l,k,A=>(∀x w,Below w0.heap.size w0 w->(∀i,bd ops k i=true->(at' L i).p (x i) w)->(∀i j,bd ops k i=true->bd ops k j=true->i≠j->fr i=true->fr j=true->∀b,cW (x i)=some b->cW (x j)≠some b)->vL P ops (XJ (fr k) w.heap.size (at' L k)) o (A x) w)∧tS P ops L fr w0 T l (k+1) (λx=>(A x).put o.dst (x k))
theorem vL.XJ{S:Spec}{o:Oper}{a:Act}{w:World}{n:Nat}(h:vL P ops S o a w):vL P ops (XJ false n S) o a w:=by
 rcases h with⟨A,q⟩|⟨A,q⟩
 ·refine .inl ⟨A,?_⟩
  revert q
  generalize(execOp a.eval o).run P w=r;intro q
  cases r with
  |halt _ _=>exact q.elim
  |ok n w'=>
   cases n<;>first|exact q.elim|skip
   case value u=>exact⟨⟨q.1,λh=>by cases h⟩,q.2⟩
   case skip=>exact⟨⟨q.1,λh=>by cases h⟩,q.2⟩
   case enter f args=>
    refine Calls.mono q λe w'' O=>?_;obtain⟨v,rfl,H,U⟩:=O;exact⟨v,rfl,⟨H,λh=>by cases h⟩,U⟩
 ·exact .inr ⟨A,q,λh=>by cases h⟩
theorem oG{L:WP}{w0:World}{T:Nat->Act->World->Prop}:∀(l:GE)(k:Nat)(A:(Nat->Value)->Act),qG P ops L w0 T l k A->tS P ops L (λ_=>false) w0 T l k A
 | [],k,A,h=>λx w u q _=>h x w u q
 |o::l,k,A,h=>⟨λx w u q _=>(h.1 x w u q).XJ,oG l (k+1) _ h.2⟩
theorem wg{l:GE}{L:WP}{fr:Nat->Bool}{w0:World}{T:Nat->Act->World->Prop}{a0:Act}(hA:uq l){m0:Nat}(hm:m0<=l.length):∀(U:GE)(k:Nat)(A:(Nat->Value)->Act),(l.take m0).drop k=U->k<=m0->(A=λx=>ig (λi=>decide (i<k)) x l 0 a0) ->
  tS P l.toArray L fr w0 T U k A->(∀j o,k<=j->j<m0->l[j]?=some o->∀x w,Below w0.heap.size w0 w->(∀i,bd l.toArray j i=true->(at' L i).p (x i) w)->(∀i V,bd l.toArray j i=true->bd l.toArray j V=true->i≠V->fr i=true->fr V=true->∀b,cW (x i)=some b->cW (x V)≠some b)->vL P l.toArray (XJ (fr j) w.heap.size (at' L j)) o (ig (λi=>decide (i<j)) x l 0 a0) w)∧∀x w,Below w0.heap.size w0 w->(∀i,i<m0->(at' L i).p (x i) w)->(∀i j,i<m0->j<m0->i≠j->fr i=true->fr j=true->∀b,cW (x i)=some b->cW (x j)≠some b)->T m0 (ig (λi=>decide (i<m0)) x l 0 a0) w
 | [],k,A,hl,hk,q,h=>by
  have u:k=m0:=by have:=congrArg List.length hl;grind
  subst u;subst q;refine⟨λj o u O=>zd,λx w u O h3=>?_⟩
  have:=h x w u O h3
  omega
 |o::U,k,A,hl,hk,q,h=>by
  have u:k<m0:=by grind
  have O:l[k]?=some o:=by
   have:=congrArg (λm=>m[0]?) hl
   grind
  subst q
  have H:=wg hA hm U (k+1) _ (by have:=congrArg List.tail hl;simpa using this) u (by
   funext x
   have hi:=qJ (s:=λi=>decide (i<k)) (x:=x) (v:=x k) l 0 k a0 hA O zk;rw[Nat.zero_add]at hi;rw[<-hi];refine dp l 0 a0 (λi _ _=>?_)
   grind[fm,oQ]) h.2
  refine⟨λj o' hj hjm Y=>?_,H.2⟩
  by_cases W:j=k
  ·subst W;rw[O]at Y;cases Y;exact h.1
  grind
theorem GA{s:Nat->Bool}:∀n m,m<=n->(∀i,m<=i->i<n->s i=false)->n-m<=G2 s n
 |0,m,_,_=>zd
 |n+1,m,h,u=>by
  rcases aei n m with q|q
  ·omega
  ·have:=GA (s:=s) n m q (λi A H=>u i A zd)
   rw[G2,u n q zd];simp;omega
theorem RD{l:GE}{m0:Nat}{st:Nat->(Act->World->Prop)->Act->World->Prop}{E:Act->World->Prop}(V:Sx P l.toArray st)(hnext:∀t,m0<=t->t<l.length->∀i,i<t->∃u,u<=t∧i<u∧bd l.toArray u i=true)
  (hback:∀i j oi oj,i<j->l[i]?=some oi->l[j]?=some oj->bd l.toArray i j=false)(hself:∀j,j<l.length->bd l.toArray j j=false)(H:∀(j:Nat)(o:Oper),l[j]?=some o->∀e∈o.after,e.on<l.length) :
  ∀(fuel k:Nat)(listed:Array Bool)(a:Act)(w:World),listed.size=l.length->m0<=k->k<=l.length->(∀i,listed.getD i false=decide (i<k))->l.length-k<=fuel ->
   ud st E (List.range' k (l.length-k)) a w->qP st l.toArray E fuel listed a w:=by
 intro fuel
 induction fuel with
 |zero=>
  intro k listed a w U hm hk hl hf h
  have e:k=l.length:=zd
  subst e;rw[ae2]at h;refine⟨?_,by simpa [ud]using h⟩;refine List.eq_nil_iff_forall_not_mem.2 (λi hi=>?_)
  grind[mem_ready,aek,ae3,aer]
 |succ fuel ih=>
  intro k listed a w U hm hk hl hf h
  have hread:∀j,j∈Region.ready .any l.toArray listed->j=k∧k<l.length:=by
   intro j hj;obtain⟨g1,o,g2,g3⟩:=mem_ready.1 hj
   have W:l[j]?=some o:=by grind
   have hjl:j<l.length:=(aek.1 W).1
   have his:j<listed.size:=zd
   have g4:=hl j
   rw[show listed.getD j false=false by
    grind]at g4
   have hkj:k<=j:=by
    grind
   rcases Nat.eq_or_lt_of_le hkj with e|A
   ·omega
   ·exfalso
    have hd:∀i,bd l.toArray j i=true->listed.getD i false=true:=by
     intro i hi;simp only[bd,g2,aeW,beq_iff_eq,ae4]at hi
     grind
    have hsome:∀n i,i+n+1=j->k<=i->False:=by
     intro n
     induction n using Nat.strongRecOn with
     |_ n ihn=>
      intro i hi hki;obtain⟨u,q1,q2,q3⟩:=hnext j zd hjl i zd
      by_cases hi':u=j
      ·grind
      ·exact ihn (j-1-u) zd u zd zd
    exact hsome (j-k-1) k zd (aed _)
  refine⟨λh0=>?_,λj hj=>?_⟩
  ·rcases aei k l.length with q|q
   ·exfalso
    have hmem:k∈Region.ready .any l.toArray listed:=by
     refine mem_ready.2 ⟨?_,l[k],by simp[q],λe he hb=>?_⟩
     ·grind
     ·have hd:bd l.toArray k e.on=true:=by
       have:l.toArray[k]?=some l[k]:=by simp[q]
       simp only[bd,this];simp only[ae4,aeW,beq_iff_eq]
       grind
      rcases ae5 e.on k with O|O|O
      ·grind
      ·grind
      ·by_cases Y:e.on<l.length
       ·simp_all
       ·exact absurd (H k l[k] (by simp[q]) e he) Y
    grind
   ·have e:k=l.length:=zd
    subst e;rw[ae2]at h;simpa [ud]using h
  ·obtain⟨rfl,A⟩:=hread j hj
   have e:l.length-j=(l.length-(j+1))+1:=zd
   rw[e,ae6]at h;simp only[ud]at h;refine V.mono (λa' w' O=>ih (j+1) _ a' w' (by grind) zd A (λi=>?_) zd O) h
   by_cases hij:i=j
   ·simp_all
   ·rw[show(listed.setIfInBounds j true).getD i false=listed.getD i false from getD_set_ne false (Ne.symm hij),hl i]
    grind
theorem jF{st:Nat->(Act->World->Prop)->Act->World->Prop}{E:Act->World->Prop}{a:Act}{w:World}{l:GE}(L:WP)(fr:Nat->Bool)(hfr:∀i v w,fr i=true->(at' L i).p v w->∀b,cW v=some b->b<w.heap.size)(m0:Nat)(hst:Sx P l.toArray st)(hB:gW l.toArray m0=true)
  (h:tS P l.toArray L fr w.drew (λk=>ud st E (List.range' k (l.length-k))) (l.take m0) 0 (λ_=>a)):qP st l.toArray E l.toArray.size (Array.replicate l.toArray.size false) a w.drew:=by
 simp only[gW,aeW,ae7,ae8,ae9,decide_eq_true_eq]at hB;obtain⟨⟨⟨hns,hm0⟩,hall⟩,htail⟩:=hB;have hsel:=Region.noSelect_spec hns
 have hpair:∀i j oi oj,i<j->l[i]?=some oi->l[j]?=some oj->(j<m0->bd l.toArray j i=true∨oi.apart l.toArray oj=true)∧bd l.toArray i j=false∧(∀e,oi.dst=some e->oj.dst≠some e)∧(j<m0->∀e,oj.dst=some e->e∉oi.looksAt l.toArray):=by
  intro i j oi oj u hi A;have hjn:=(aek.1 A).1
  have:=(hall j hjn).1 i u
  simp only[Qs,aet,hi,A,aeW,afa,Bool.not_eq_true',decide_eq_true_eq]at this
  refine⟨λhlt=>?_,this.1.1.2,λe he=>?_,λhlt e he=>?_⟩
  ·rcases this.1.1.1 with(h|h)|h
   ·omega
   ·exact .inl h
   ·exact .inr h
  ·have h3:=this.1.2;rw[he]at h3;simpa using h3
  ·have h3:=this.2;rw[he]at h3
   rcases h3 with h3|h3
   ·omega
   ·simpa using h3
 have hself:∀j,j<l.length->bd l.toArray j j=false:=λj A=>by simpa using(hall j A).2.1
 have hfar:∀(j:Nat)(o:Oper),l[j]?=some o->∀e∈o.after,e.on<l.length:=λj o A e he=>by
  have:=(hall j (aek.1 A).1).2.2
  simp only[L5,aet,A,afb]at this;simpa using this e he
 have hnext:∀t,m0<=t->t<l.length->∀i,i<t->∃i',i'<=t∧i<i'∧bd l.toArray i' i=true:=λt ht htl i hit=>by
  have:=htail t htl
  simp only[afa,decide_eq_true_eq,ae7,List.any_eq_true,ae8,aeW]at this
  rcases this with h|h
  ·omega
  ·obtain⟨i',H,U,h3⟩:=h i hit;exact⟨i',zd,U,h3⟩
 have hA:uq l:=λi j oi oj hi A u e he=>by
  rcases Nat.lt_or_gt_of_ne u with h|h
  ·exact(hpair i j oi oj h hi A).2.2.1 e he
  ·intro U;exact(hpair j i oj oi h A hi).2.2.1 e U he
 have hO:=wg (P:=P) (L:=L) (fr:=fr) (w0:=w.drew) (T:=λk=>ud st E (List.range' k (l.length-k))) (a0:=a) hA (m0:=m0) zd (l.take m0) 0 (λ_=>a) zk (aen _) (by
  funext x
  exact(show a=ig (λ_=>false) x l 0 a from by
   have:∀(l:GE)k,a=ig (λ_=>false) x l k a:=by
    intro l
    induction l with
    |nil=>intro k;rfl
    |cons o l ih=>intro k;rw[ig];exact ih (k+1)
   exact this l 0).trans (dp l 0 a (λi _ _=>zk))) h

 have hloose:∀i j oi oj,i<m0->j<m0->l[i]?=some oi->l[j]?=some oj->i≠j->bd l.toArray j i=false->∀d,oi.dst=some d->d∉oj.looksAt l.toArray:=by
  intro i j oi oj him hjm hi A u V
  rcases Nat.lt_or_gt_of_ne u with h|h
  ·rcases(hpair i j oi oj h hi A).1 hjm with H|H
   ·rw[V]at H;cases H
   ·exact(Oper.apart_spec H).1
  ·exact(hpair j i oj oi h A hi).2.2.2 him

 have hsee:∀(s s':Nat->Bool)x j oj,(∀i,m0<=i->s i=false∧s' i=false)->j<m0->l[j]?=some oj->s j=false->s' j=false->(∀i,i<l.length->bd l.toArray j i=true->s i=true∧s' i=true) ->
   execOp (ig s x l 0 a).eval oj=execOp (ig s' x l 0 a).eval oj∧Region.wanted oj (yielded l.toArray (ig s x l 0 a).tmps)=Region.wanted oj (yielded l.toArray (ig s' x l 0 a).tmps):=by
  intro s s' x j oj hst hjm A H U V
  have one:=λ(s:Nat->Bool)(hs0:∀i,m0<=i->s i=false)(hs:s j=false)=>BD (ops:=l.toArray) (s:=s) (keep:=bd l.toArray j) (x:=x) (a:=a) hA (λcs b=>hsel j oj cs b (by simpa using A))
   (λi oi hi hsi hk=>hloose i j oi oj (by rcases aei i m0 with q|q;exact q;rw[hs0 i q]at hsi;cases hsi) hjm hi A (by intro e;subst e;rw[hsi]at hs;cases hs) hk)
  obtain⟨a1,a2⟩:=one s (λi hi=>(hst i hi).1) H;obtain⟨b1,b2⟩:=one s' (λi hi=>(hst i hi).2) U
  have e:ig (λi=>s i&&bd l.toArray j i) x l 0 a=ig (λi=>s' i&&bd l.toArray j i) x l 0 a:=dp l 0 a (λi _ hi=>by
   refine⟨?_,λ_=>rfl⟩
   cases hk:bd l.toArray j i
   ·simp
   ·obtain⟨c1,c2⟩:=V i zd hk
    simp[c1,c2])
  exact⟨by rw[a1,b1,e],by rw[a2,b2,e]⟩
 have main:∀fuel(listed:Array Bool)x W,listed.size=l.length->Below w.drew.heap.size w.drew W->(∀i,listed.getD i false=true->(at' L i).p (x i) W) ->
   (∀j i,listed.getD j false=true->bd l.toArray j i=true->listed.getD i false=true)->(∀i,m0<=i->listed.getD i false=false)->(∀i j,listed.getD i false=true->listed.getD j false=true->i≠j->fr i=true->fr j=true->∀b,cW (x i)=some b->cW (x j)≠some b)->G2 (λi=>listed.getD i false) l.length<=fuel ->
   qP st l.toArray E fuel listed (ig (λi=>listed.getD i false) x l 0 a) W:=by
  intro fuel
  induction fuel with
  |zero=>
   intro listed x W _ _ _ _ hlast _ hu
   have:=K4 (s:=λi=>listed.getD i false) l.length (i:=m0) hm0 (hlast m0 (aed _))
   omega
  |succ fuel ih=>
   intro listed x W hsz hE hF hcl hlast hpr hu
   have hmemR:∀j,j∈Region.ready .any l.toArray listed->∃oj,l[j]?=some oj∧listed.getD j false=false∧∀i,bd l.toArray j i=true->listed.getD i false=true:=by
    intro j A;obtain⟨H,o,ho,h3⟩:=mem_ready.1 A
    refine⟨o,by simpa using ho,?_,λi hi=>?_⟩
    ·rcases aei j listed.size with h'|h'
     ·simp[h']at H⊢; exact H
     ·simp[Array.getElem?_eq_none h']
    ·simp only[bd,ho,aeW,beq_iff_eq,ae4]at hi;obtain⟨e,he,hb,rfl⟩:=hi;exact h3 e he hb
   refine⟨λh0=>?_,λj A=>?_⟩
   ·
    exfalso
    have hex:∃m,m<l.length∧listed.getD m false=false∧∀i,i<m->listed.getD i false=true:=by
     have:∀k,k<=l.length->(∀i,i<k->listed.getD i false=true)∨∃m,m<l.length∧listed.getD m false=false∧∀i,i<m->listed.getD i false=true:=by
      intro k
      induction k with
      |zero=>exactλ_=> .inl (λi hi=>zd)
      |succ k ihk=>
       intro hk
       rcases ihk zd with h|h
       ·cases hc:listed.getD k false
        ·exact .inr ⟨k,zd,hc,h⟩
        ·exact .inl (λi hi=>by
          by_cases e:i=k
          ·subst e;exact hc
          ·exact h i zd)
       ·exact .inr h
     rcases this l.length (aed _)with h|h
     ·have:=h m0 hm0
      rw[hlast m0 (aed _)]at this;cases this
     ·exact h
    obtain⟨m,hm1,hm2,hm3⟩:=hex
    have hmem:m∈Region.ready .any l.toArray listed:=by
     refine mem_ready.2 ⟨?_,l[m],by simp[hm1],λe he hb=>?_⟩
     ·have hms:m<listed.size:=zd
      simp[hms]at hm2⊢; exact hm2
     ·have V:bd l.toArray m e.on=true:=by
       have:l.toArray[m]?=some l[m]:=by simp[hm1]
       simp only[bd,this];simp only[ae4,aeW,beq_iff_eq];exact⟨e,he,hb,rfl⟩
      rcases ae5 e.on m with h|h|h
      ·exact hm3 _ h
      ·rw[h,hself m hm1]at V;cases V
      ·by_cases hl:e.on<l.length
       ·have:=(hpair m e.on l[m] l[e.on] h (by simp[hm1]) (by simp[hl])).2.1
        rw[V]at this;cases this
       ·exact absurd (hfar m l[m] (by simp[hm1]) e he) hl
    rw[h0]at hmem;cases hmem
   ·obtain⟨oj,Y,hun,hdeps⟩:=hmemR j A;have hjl:=(aek.1 Y).1
    have hsj:(listed.setIfInBounds j true).size=l.length:=by simpa using hsz
    have hgd:∀i,(listed.setIfInBounds j true).getD i false=fm (λi=>listed.getD i false) j i:=by
     intro i
     by_cases u:i=j
     ·subst u
      have:i<listed.size:=zd
      simp[fm,this]
     ·simp only[fm,if_neg u];exact getD_set_ne false (Ne.symm u)
    have hup:∀t,m0<=t->t<l.length->(∀i,bd l.toArray t i=true->listed.getD i false=true)->∀k i,i+k+1=t->listed.getD i false=true:=by
     intro t H U hdt k
     induction k using Nat.strongRecOn with
     |_ k ihk=>
      intro i hi;obtain⟨i',q1,q2,q3⟩:=hnext t H U i zd
      by_cases hi':i'=t
      ·subst hi';exact hdt i q3
      ·exact hcl i' i (ihk (t-1-i') zd i' zd) q3
    by_cases hjn:m0<=j
    ·
     have hj0:j=m0:=by
      rcases Nat.eq_or_lt_of_le hjn with e|hlt
      ·exact e.symm
      ·have:=hup j hjn hjl hdeps (j-m0-1) m0 zd
       rw[hlast m0 (aed _)]at this;cases this
     subst hj0;have hall':∀i,i<j->listed.getD i false=true:=λi hi=>hup j hjn hjl hdeps (j-i-1) i zd;have U:=hO.2 x W hE (λi hi=>hF i (hall' i hi)) (λi k hi hk=>hpr i k (hall' i hi) (hall' k hk))
     have e:ig (λi=>decide (i<j)) x l 0 a=ig (λi=>listed.getD i false) x l 0 a:=dp l 0 a (λi _ hi=>by
      refine⟨?_,λ_=>rfl⟩
      by_cases u:i<j
      ·simp only[u,decide_true];exact(hall' i u).symm
      ·simp only[u,decide_false];exact(hlast i zd).symm)
     rw[e]at U
     have hrun:=RD (P:=P) (st:=st) (E:=E) (l:=l) (m0:=j) hst (λt H U=>hnext t H U) (λi k oi ok hik H U=>(hpair i k oi ok hik H U).2.1) hself hfar (fuel+1) j listed _ W hsz (aed _) (afc hjl) (λi=>by
      by_cases u:i<j
      ·simp only[u,decide_true];exact hall' i u
      ·simp only[u,decide_false];exact hlast i zd) (by
      have:=GA (s:=λi=>listed.getD i false) l.length j (afc hjl) (λi H _=>hlast i H)
      omega) U
     exact hrun.2 j A
    ·have hjm:j<m0:=zd
     have hst2:=hO.1 j oj (aen _) hjm Y x W hE (λi hi=>hF i (hdeps i hi)) (λi k hi hk=>hpr i k (hdeps i hi) (hdeps k hk))
     obtain⟨c1,c2⟩:=hsee (λi=>listed.getD i false) (λi=>decide (i<j)) x j oj (λi hi=>⟨hlast i hi,ahn⟩) hjm Y hun zk (λi hi V=>⟨hdeps i V,by
      rcases ae5 i j with h|h|h
      ·simpa using h
      ·rw[h,hself j hjl]at V;cases V
      ·have:=(hpair j i oj l[i] h Y (by simp[hi])).2.1
       rw[V]at this;cases this⟩)
     have next:∀v w2,(XJ (fr j) W.heap.size (at' L j)).p v w2->Below W.heap.size W w2->qP st l.toArray E fuel (listed.setIfInBounds j true) ((ig (λi=>listed.getD i false) x l 0 a).put oj.dst v) w2:=by
      intro v w2 hvf hb;obtain⟨hv,hvn⟩:=hvf;have hi:=qJ (s:=λi=>listed.getD i false) (x:=x) (v:=v) l 0 j a hA Y (by simpa using hun);rw[Nat.zero_add]at hi;rw[<-hi, <- show(λi=>(listed.setIfInBounds j true).getD i false)=fm (λi=>listed.getD i false) j from funext hgd]
      refine ih _ _ w2 hsj (Wg hE hb) (λi hi'=>?_) (λj' i hj' V=>?_) ?_ ?_ ?_
      ·rw[hgd]at hi'
       by_cases u:i=j
       ·subst u;simpa [oQ]using hv
       ·simp only[fm,if_neg u]at hi';simp only[oQ,if_neg u];exact(at' L i).st _ _ _ hb (hF i hi')
      ·rw[hgd]at hj'⊢
       by_cases u:i=j
       ·simp[fm,u]
       ·simp only[fm,if_neg u]
        by_cases hj2:j'=j
        ·subst hj2;exact hdeps i V
        ·simp only[fm,if_neg hj2]at hj';exact hcl j' i hj' V
      ·intro i hi;rw[hgd]
       have:i≠j:=zd
       simp only[fm,if_neg this];exact hlast i hi
      ·intro i k hi hk hik fi fk b hbi hbk;rw[hgd]at hi hk
       have oy:∀i,fm (λi=>listed.getD i false) j i=true->i≠j->listed.getD i false=true:=λi H U=>by simpa only[fm,if_neg U]using H
       by_cases u:i=j
       ·subst u;have hkj:k≠i:=λe=>hik e.symm;simp only[oQ,if_true,if_neg hkj]at hbi hbk
        have:=hfr k _ W fk (hF k (oy k hk hkj)) b hbk
        have:=hvn fi b hbi
        omega
       ·by_cases hkj:k=j
        ·subst hkj;simp only[oQ,if_true,if_neg u]at hbi hbk
         have:=hfr i _ W fi (hF i (oy i hi u)) b hbi
         have:=hvn fk b hbk
         omega
        ·simp only[oQ,if_neg u,if_neg hkj]at hbi hbk;exact hpr i k (oy i hi u) (oy k hk hkj) hik fi fk b hbi hbk
      ·rw[qM (s':=fm (λi=>listed.getD i false) j) l.length (λi _=>hgd i)]
       have:=xq (s:=λi=>listed.getD i false) (i:=j) l.length hjl hun
       omega
     unfold vL at hst2;rw[<-c1, <- c2]at hst2
     exact hst.of (by simpa using Y) hst2 next
 have O:∀i,(Array.replicate l.toArray.size false).getD i false=false:=λi=>by
  simp only[ae3,Array.getElem?_replicate];split<;>rfl
 have h0:=main l.toArray.size (Array.replicate l.toArray.size false) (λ_=>undef) w.drew zk (Below.refl _ _)
  (λi hi=>by rw[O]at hi;cases hi) (λj i A=>by rw[O]at A;cases A) (λi _=>O i) (λi j hi=>by rw[O]at hi;cases hi) (Jv _)
 have e:ig (λi=>(Array.replicate l.toArray.size false).getD i false) (λ_=>undef) l 0 a=a:=by
  have:∀(l':GE)k,ig (λi=>(Array.replicate l.toArray.size false).getD i false) (λ_=>undef) l' k a=a:=by
   intro l'
   induction l' with
   |nil=>intro k;rfl
   |cons o l' ih=>intro k;rw[ig,O];exact ih (k+1)
  exact this l 0
 rw[e]at h0;exact h0
theorem UY(Q:Exit->Act->World->Prop)(l:GE):Gw P l.toArray Q=λk=>ud (wpOp P l.toArray Q) (Q .normal) (List.range' k (l.length-k)):=by
 grind[Gw,La,ae9]
theorem mJ{Q:Exit->Act->World->Prop}{a:Act}{w:World}{l:GE}(L:WP)(fr:Nat->Bool)(q:∀i v w,fr i=true->(at' L i).p v w->∀b,cW v=some b->b<w.heap.size)(m0:Nat)(u:gW l.toArray m0=true)
  (h:tS P l.toArray L fr w.drew (Gw P l.toArray Q) (l.take m0) 0 (λ_=>a)):wpAny P .any l.toArray Q l.toArray.size (Array.replicate l.toArray.size false) a w.drew:=
 K9 _ _ _ _ (jF L fr q m0 (UU Q) u (by rw[<-UY];exact h))
theorem wm{Q:Exit->Act->World->Prop}{a:Act}{w:World}{l:GE}(L:WP)(m0:Nat)(q:gW l.toArray m0=true)
  (h:qG P l.toArray L w.drew (Gw P l.toArray Q) (l.take m0) 0 (λ_=>a)):wpAny P .any l.toArray Q l.toArray.size (Array.replicate l.toArray.size false) a w.drew:=
 mJ L (λ_=>false) (λi v w h=>by cases h) m0 q (oG _ _ _ h)
end
section
variable {D:Nat->Prop} {nu:EQ} {o:AC} {w:World} {P:Program}
def py(P:Program)(all:GE)(oo:Oper)(s:AS)(K:AS->Prop):Prop:=match oo.guard with
 |none=>Ed P oo.op s (λr o'=>K (s.put oo.dst r o'))
 |some (j,want)=>Aj (nV all s j) want (Ed P oo.op s (λr o'=>K (s.put oo.dst r o'))) (K (s.put oo.dst (.v Go.undef) s.o))
def fZ(P:Program)(all:GE):GE->AS->(AS->Prop)->Prop
 | [],s,Q=>Q s
 |oo::rest,s,Q=>py P all oo s (λs'=>fZ P all rest s' Q)
def fY(P:Program)(all:GE)(B:AS->Prop):GE->AS->Prop
 | [],s=>B s
 |oo::rest,s=>match oo.guard with
  |none=>dM P oo.op s (λr=>fY P all B rest (s.put oo.dst r s.o))
  |some (j,want)=>Aj (nV all s j) want (dM P oo.op s (λr=>fY P all B rest (s.put oo.dst r s.o))) (fY P all B rest (s.put oo.dst (.v Go.undef) s.o))
abbrev um(P:Program)(all tail:GE)(l:GE)(s:AS)(Q:AS->Prop):Prop:=fY P all (λs=>fZ P all tail s Q) l s
theorem nJ{f:Fr}{l:GE}{R:Exit->Act->World->Prop}:∀(tail:GE)(k:Nat)(s:AS)(a:Act)(w:World)(nu:EQ),l.drop k=tail->k<=l.length->RS f D nu s a w->∀{Q:AS->Prop},fZ P l tail s Q ->
  (∀s' A w' nu',cf nu s.o w nu' s'.o w'->s'.y=s.y->RS f D nu' s' A w'->Q s'->R .normal A w')->wpOps P l.toArray R (List.range' k (l.length-k)) a w
 | [],k,s,a,w,nu,hl,hk,q,Q,h,V=>by
  have e:k=l.length:=by have:=congrArg List.length hl;grind
  subst e;rw[ae2];simpa [wpOps]using V s a w nu (.refl _ _ _) rfl q h
 |oo::rest,k,s,a,w,nu,hl,hk,q,Q,h,V=>by
  have H:k<l.length:=by grind
  have hok:l[k]?=some oo:=by have:=congrArg (λm=>m[0]?) hl;grind
  have O:l.drop (k+1)=rest:=by have:=congrArg List.tail hl;simpa using this
  have e:l.length-k=(l.length-(k+1))+1:=zd
  rw[e,ae6,wpOps_cons];unfold wpOp;simp only[aet,hok]
  have hdo:Ed P oo.op s (λr o'=>fZ P l rest (s.put oo.dst r o') Q)->Region.wanted oo (yielded l.toArray a.tmps)=true->(if Region.wanted oo (yielded l.toArray a.tmps)=true then oo.wp P a w (wpOps P l.toArray R (List.range' (k+1) (l.length-(k+1)))) R∨oo.asks P a w∧LetsOut R else wpOps P l.toArray R (List.range' (k+1) (l.length-(k+1))) (a.put oo.dst Go.undef) w):=by
   intro U hw;rw[if_pos hw];exact .inl (Et (P:=P) q.ro (λy _=>q.ev y) U (λv w' nu' r o' m1 m2 m3 m4=>nJ rest (k+1) (s.put oo.dst r o') _ w' nu' O H (q.put m1 m2 m3 oo.dst) m4 (λs' A W u q1 q2 q3 Y=>V s' A W u (by simpa only[AS.put]using m1.trans q1) (q2.trans rfl) q3 Y)))
  have hskip:fZ P l rest (s.put oo.dst (.v Go.undef) s.o) Q->Region.wanted oo (yielded l.toArray a.tmps)=false->(if Region.wanted oo (yielded l.toArray a.tmps)=true then oo.wp P a w (wpOps P l.toArray R (List.range' (k+1) (l.length-(k+1)))) R∨oo.asks P a w∧LetsOut R else wpOps P l.toArray R (List.range' (k+1) (l.length-(k+1))) (a.put oo.dst Go.undef) w):=by
   intro U hw;rw[if_neg (by grind)];exact nJ rest (k+1) (s.put oo.dst (.v Go.undef) s.o) _ w nu O H (q.put (.refl _ _ _) q.ro (.v _) oo.dst) U (λs' A W u q1 q2 q3 Y=>V s' A W u (by simpa only[AS.put]using q1) (q2.trans rfl) q3 Y)
  simp only[fZ,py]at h
  split at h
  ·grind[Region.wanted]
  ·rename_i j want hg;have hyv:∀g,nV l s j=some g->yielded l.toArray a.tmps j=g:=λg hgv=>jI (D:=D) (nu:=nu) (w:=w) (λd c v U h1 h2=>q.tm.at' d c v h1 h2) q.tm.len hgv;unfold Aj at h
   split at h
   ·rename_i b e
    cases hb:b==want
    ·rw[hb]at h;exact hskip h (by grind[Region.wanted])
    ·rw[hb]at h;exact hdo h (by grind[Region.wanted])
   ·grind[Region.wanted]
   grind
theorem Jf{l:GE}{m0:Nat}(H:gW l.toArray m0=true){i j:Nat}{oi oj:Oper}(u:i<j)(hi:l[i]?=some oi)(A:l[j]?=some oj)(O:j<m0):bd l.toArray j i=true∨∀d,oi.dst=some d->d∉oj.looksAt l.toArray:=by
 simp only[gW,aeW,ae7,ae8,ae9]at H;have q:=(aek.1 A).1
 have:=(H.1.2 j q).1 i u
 simp only[Qs,aet,hi,A,aeW,afa,Bool.not_eq_true',decide_eq_true_eq]at this
 grind[Oper.apart_spec]
theorem jZ{f:Fr}{l:GE}{m0:Nat}(hm0:m0<=l.length)(hB:gW l.toArray m0=true){s:AS}{a:Act}{w0:World}{B:AS->Prop}{T:Nat->Act->World->Prop}(W:RS f D nu s a w0)
  (hT:∀sk a' wr,Below w0.heap.size w0 wr->sk.o=s.o->sk.y=s.y->RS f D nu sk a' wr->B sk->T m0 a' wr) :
  ∀(rest:GE)(k:Nat)(sk:AS)(rs:C5)(A:(Nat->Value)->Act),(l.take m0).drop k=rest->k<=m0->NY l s a k sk rs A->fY P l B rest sk->∃rs',qG P l.toArray ((rs++rs').map (jq D nu s.o)) w0 T rest k A
 | [],k,sk,rs,A,hl,hk,q,h=>by
  have U:k=m0:=by have:=congrArg List.length hl;grind
  subst U;refine⟨[],λx wr u O=>?_⟩;have hro:RO D nu s.o wr:=W.ro.below u
  have hsk:RS f D nu sk (A x) wr:=by
   refine⟨by rw[q.o];exact hro,⟨q.size x,λt c v h1 h2=>?_⟩,by rw[q.mh x];exact W.mh.mono W.ro (aH u)⟩;rw[q.o]
   rcases q.val x t c v h1 h2 with⟨Y,h4⟩|⟨i,q1,q2,q3,q4⟩
   ·exact(W.tm.at' t c v Y h4).mono (aH u) (λ_ _ h=>h)
   ·have:=O i q1
    rw[wT q3]at this;rw[q4];exact this.2
  exact hT sk (A x) wr u q.o q.y hsk h
 |oo::rest,k,sk,rs,A,hl,hk,q,h=>by
  have U:k<m0:=by grind
  have hok:l[k]?=some oo:=by
   have:=congrArg (λm=>m[0]?) hl
   grind
  have hl':(l.take m0).drop (k+1)=rest:=by have:=congrArg List.tail hl;simpa using this

  have hlook:∀x wr,Below w0.heap.size w0 wr->(∀rs' i,bd l.toArray k i=true->i<k->(at' ((rs++rs').map (jq D nu s.o)) i).p (x i) wr)->∀(t:Nat)c v,t∈oo.looksAt l.toArray->sk.t[t]?=some c->(A x).tmps[t]?=some v->RA D nu s.o wr c v:=by
   intro x wr u O t c v ht h1 h2
   rcases q.val x t c v h1 h2 with⟨Y,h4⟩|⟨i,q1,⟨oi,q2,q5⟩,q3,q4⟩
   ·exact(W.tm.at' t c v Y h4).mono (aH u) (λ_ _ h=>h)
   ·rcases Jf hB q1 q2 hok U with h5|h5
    ·have:=O [] i h5 q1
     rw[wT q3]at this;rw[q4];exact this.2
    grind
  have hevs:∀x wr,Below w0.heap.size w0 wr->(∀rs' i,bd l.toArray k i=true->i<k->(at' ((rs++rs').map (jq D nu s.o)) i).p (x i) wr)->Sr D nu s.o wr sk.ev (A x).eval oo.op:=by
   intro x wr u O y hy
   cases y with
   |tmp t=>
    simp only[AS.ev,Act.eval]
    rcases aei t sk.t.length with hlt|hge
    ·have e1:sk.t[t]?=some sk.t[t]:=aes hlt
     have hlt':t<(A x).tmps.size:=by rw[<-q.size x];exact hlt
     have hx:(A x).tmps[t]?=some (A x).tmps[t]:=aer hlt';rw[getD_some e1]
     have:(A x).tmps.getD t Go.undef=(A x).tmps[t]:=by simp_all
     rw[this];exact hlook x wr u O t _ _ (List.mem_append_left _ (List.mem_filterMap.2 ⟨.tmp t,hy,rfl⟩)) e1 hx
    ·rw[List.getD_eq_getElem?_getD,List.getElem?_eq_none hge];exact .undef _
   |const v=>exact .v v
   |global gi=>exact(w9 W.ro sk gi).mono (aH u) (λ_ _ h=>h)
   |func f=>exact .fn f [] [] #[] #[] rfl rfl (λi c x h=>by simp at h) (λi c x h=>by simp at h)

  have hdo:dM P oo.op sk (λr=>fY P l B rest (sk.put oo.dst r sk.o))->(∀x wr,Below w0.heap.size w0 wr->(∀rs' i,bd l.toArray k i=true->i<k->(at' ((rs++rs').map (jq D nu s.o)) i).p (x i) wr)->Region.wanted oo (yielded l.toArray (A x).tmps)=true) ->
    ∃rs',qG P l.toArray ((rs++rs').map (jq D nu s.o)) w0 T (oo::rest) k A:=by
   intro hd hw;obtain⟨r,V,hr⟩:=qn hd;rw[q.o]at V;obtain⟨rs',H⟩:=jZ hm0 hB W hT rest (k+1) _ (rs++[r]) _ hl' U (q.step hok r) V;rw[List.append_assoc,afd]at H;refine⟨r::rs',⟨(λx wr u O=>?_),H⟩⟩
   have hD':∀rs'' i,bd l.toArray k i=true->i<k->(at' ((rs++rs'').map (jq D nu s.o)) i).p (x i) wr:=λrs'' i h1 h2=>by
    have Y:=O i h1
    have h5:i<rs.length:=by rw[q.len];exact h2
    have h4:rs[i]?=some rs[i]:=aes h5;rw[wT h4]at Y⊢;exact Y
   obtain⟨r',rfl,hout⟩:=lp (P:=P) (nu:=nu) (D:=D) (w:=wr) (rho:=(A x).eval) (by rw[q.o];exact W.ro.below u) (by rw[q.o];grind) hr;have e:=vP (D:=D) (nu:=nu) (o:=s.o) (rs:=rs) (rs':=rs') (r:=r');rw[q.len]at e;refine .inl ⟨hw x wr u hD',?_⟩;rw[e];rw[q.o]at hout;exact hout
  simp only[fY]at h
  split at h
  ·grind[Region.wanted]
  ·rename_i j want hg
   have hyv:∀g,nV l sk j=some g->∀x wr,Below w0.heap.size w0 wr->(∀rs' i,bd l.toArray k i=true->i<k->(at' ((rs++rs').map (jq D nu s.o)) i).p (x i) wr)->yielded l.toArray (A x).tmps j=g:=λg hgv x wr u O=>
    jI (D:=D) (nu:=nu) (w:=wr) (λd c v hd h1 h2=>by
     rw[q.o];refine hlook x wr u O d c v ?_ h1 h2;obtain⟨og,q1,q2⟩:=hd;refine List.mem_append_right _ ?_
     grind) (q.size x) hgv
   have hskip:fY P l B rest (sk.put oo.dst (.v Go.undef) sk.o)->(∀x wr,Below w0.heap.size w0 wr->(∀rs' i,bd l.toArray k i=true->i<k->(at' ((rs++rs').map (jq D nu s.o)) i).p (x i) wr)->Region.wanted oo (yielded l.toArray (A x).tmps)=false) ->
     ∃rs',qG P l.toArray ((rs++rs').map (jq D nu s.o)) w0 T (oo::rest) k A:=by
    intro V hw;rw[q.o]at V;obtain⟨rs',H⟩:=jZ hm0 hB W hT rest (k+1) _ (rs++[.v Go.undef]) _ hl' U (q.step hok (.v Go.undef)) V;rw[List.append_assoc,afd]at H;refine⟨.v Go.undef::rs',⟨(λx wr u O=>?_),H⟩⟩
    have hD':∀rs'' i,bd l.toArray k i=true->i<k->(at' ((rs++rs'').map (jq D nu s.o)) i).p (x i) wr:=λrs'' i h1 h2=>by
     have Y:=O i h1
     have h5:i<rs.length:=by rw[q.len];exact h2
     have h4:rs[i]?=some rs[i]:=aes h5;rw[wT h4]at Y⊢;exact Y
    have e:=vP (D:=D) (nu:=nu) (o:=s.o) (rs:=rs) (rs':=rs') (r:= .v Go.undef);rw[q.len]at e;refine .inr ⟨hw x wr u hD',?_⟩;rw[e];exact⟨W.ro.below u,.v _⟩
   unfold Aj at h
   split at h
   ·rename_i b e
    cases hb:b==want
    ·rw[hb]at h;exact hskip h (λx wr u O=>by grind[Region.wanted])
    ·rw[hb]at h;exact hdo h (λx wr u O=>by grind[Region.wanted])
   ·grind[Region.wanted]
   grind
theorem Ai{op:Op}{s:AS}{K A:AV->Prop}(h:∀r,K r->A r)(V:dM P op s K):dM P op s A:=by
 obtain⟨r,U,q⟩:=qn V;have key:∀u,u=r->A u:=λu e=>e ▸ h r U;unfold dM at q⊢
 split at q
 ·split at q
  ·unfold cn at q⊢
   grind
  omega
 ·split at q
  ·unfold G9 at q⊢
   split at q
   ·obtain⟨u,O,H⟩:=q;exact⟨u,O,key _ H⟩
   omega
  ·unfold JE at q⊢
   grind
 ·unfold JE at q⊢
  grind
theorem Ax{n0 id:Nat}{s:AS}{l:GE}{Q:bg->AS->Prop}(m0:Nat)(V:gW l.toArray m0=true)(hC:dO l.toArray=true)(h:um P l (l.drop m0) (l.take m0) s (Q .normal)):cD P n0 (.region id l.toArray true) s Q:=by
 refine .inr (λf m D nu a w hZr hn hm A hmx R hO hR=>?_)
 have q:m0<=l.length:=by
  simp only[gW,aeW,decide_eq_true_eq,ae9]at V;omega
 obtain⟨rs,U⟩:=jZ (P:=P) (T:=Gw P l.toArray R) q V A.drew (λsk a' wr hE ho hy u H=>nJ (P:=P) (f:=f) (l:=l) (R:=R) (l.drop m0) m0 sk a' wr nu rfl q u H (λs' a2 w' nu' q1 Y O W=>hR .normal D f.Z s' a2 w' nu' (by
  rw[Y,hy];exact m.own hm A.ro ((aH (dE w)).trans ((aH hE).trans (ho ▸ q1))) O.ro) O W)) (l.take m0) 0 s [] (λ_=>a) zk (aen _) ⟨rfl,rfl,rfl,λ_=>rfl,λ_=>A.tm.len,λx t c v h1 h2=> .inl ⟨h1,h2⟩⟩ h
 grind[uk,wm]
theorem xJ{all rest:GE}{oo:Oper}{s:AS}{B:AS->Prop}(h:∀K:AS->Prop,(∀s',fY P all B rest s'->K s')->fw P all oo s K):fY P all B (oo::rest) s:=by
 have:=h _ (λ_ h=>h)
 grind[fw,fY]
theorem vK{all:GE}{oo:Oper}{s:AS}{K A:AS->Prop}(h:∀s',K s'->A s')(q:fw P all oo s K):fw P all oo s A:=by
 unfold fw at q⊢
 split at q
 ·exact Ai (λr u=>h _ u) q
 ·unfold Aj at q⊢
  split at q
  ·unfold cn at q⊢
   split at q
   ·rename_i hb;rw[if_pos hb];exact Ai (λr u=>h _ u) q
   ·rename_i hb;rw[if_neg hb];exact h _ q
  ·exact h _ q
  ·exact q.elim
def Dh:GE->Bool
 | []=>true
 | [_]=>true
 |o::l=>(match o.op with| .alloc _=>false| .store .. =>false|_=>true)&&Dh l
theorem JX(all:GE):∀(l:GE)(s:AS)(Q:AS->Prop),iV P all l s Q->um P all (l.drop (l.length-1)) (l.take (l.length-1)) s Q
 | [],_,_,h=>h.elim
 | [oo],s,Q,h=>by
  cases q:oo.guard with
  |none=>
   simp only[iV,q]at h;show py P all oo s Q;simpa only[py,q]using h
  |some g=>simp only[iV,q]at h
 |oo::u::rest,s,Q,h=>by
  have H:fw P all oo s (λs'=>iV P all (u::rest) s' Q):=by
   simpa only[fw,iV]using h
  exact xJ λK hK=>vK (λs' A=>hK _ (JX all (u::rest) s' Q A)) H
theorem Ot{n0 id:Nat}{s:AS}{l:GE}{Q:bg->AS->Prop}(q:(gW l.toArray (l.length-1)&&dO l.toArray)=true)(_hL:Dh l=true)(h:iV P l l s (Q .normal)):cD P n0 (.region id l.toArray true) s Q:=by
 rw[aeW]at q;exact Ax _ q.1 q.2 (JX l l s _ h)
theorem KZ{r:Option Nat}{n:Nat}{ops:Array Oper}(H:dO ops=true)(R:Exit->Act->World->Prop):Sx P ops (wpOpIn (WF r) n P ops R):=⟨λh k=>wpOpIn_mono h k,λ{i o S K a w}hi h next=>by
 unfold wpOpIn;simp only[hi]
 rcases h with⟨A,q⟩|⟨A,q⟩
 ·rw[if_pos A];refine⟨λf _=>trivial,?_⟩;rw[pF H hi];generalize(execOp a.eval o).run P w=r at q
  cases r with
  |halt _ _=>exact q.elim
  |ok n w'=>
   cases n<;>first|exact q.elim|skip
   case value u=>exact next _ _ q.1 q.2
   case skip=>exact next _ _ q.1 q.2
   case enter f args=>
    refine⟨λe=>(by cases e),nN (Calls.mono q λe w'' O=>?_)⟩
    grind
 ·rw[if_neg (by grind)]
  exact⟨λf _=>trivial,next _ _ q (Below.refl _ _)⟩⟩
theorem Cm{r:Option Nat}{n:Nat}{ops:Array Oper}{R:Exit->Act->World->Prop}:∀(fuel:Nat)(listed:Array Bool)(a:Act)(w:World),qP (wpOpIn (WF r) n P ops R) ops (R .normal) fuel listed a w->wpAnyIn (WF r) n P .any ops R fuel listed a w
 |0,_,_,_,h=>h
 |fuel+1,_,_,_,h=>⟨h.1,λi hi=>wpOpIn_mono (λ_ _=>Cm fuel _ _ _) (h.2 i hi)⟩
theorem tj{r:Option Nat}{n:Nat}{l:GE}{R:Exit->Act->World->Prop}:∀(m k:Nat)(a:Act)(w:World),k+m=l.length->wpListIn (WF r) n P l.toArray R (l.drop k) a w->ud (wpOpIn (WF r) n P l.toArray R) (R .normal) (List.range' k m) a w
 |0,k,a,w,u,h=>by
  rw[List.drop_eq_nil_of_le zd]at h;exact h
 |m+1,k,a,w,u,h=>by
  have q:k<l.length:=zd
  rw[List.drop_eq_getElem_cons q]at h;rw[ae6];simp only[ud,wpOpIn,aet,aes q];simp only[wpListIn]at h
  split at h
  ·rename_i hw;rw[if_pos hw];exact Oper.wpIn_mono (λa w h=>tj m (k+1) a w zd h) h
  ·rename_i hw;rw[if_neg hw];exact⟨h.1,tj m (k+1) _ w zd h.2⟩
theorem LF{n0 id:Nat}{s:AS}{l:GE}{Q:bg->AS->Prop}(m0:Nat)(O:gW l.toArray m0=true)(H:dO l.toArray=true)(h:fY P l (λs=>jT P l (l.drop m0) s (Q .normal)) (l.take m0) s):cD P n0 (.region id l.toArray true) s Q:=by
 refine .inr (λf m D nu a w hZr hn hm V W R hO hR=>?_)
 have Y:m0<=l.length:=by
  simp only[gW,aeW,decide_eq_true_eq,ae9]at O;exact afc O.1.1.2
 have hcalm:∀oo,oo∈l.drop m0->∀c,oo.op ≠ .defer c:=λoo A c e=>by
  unfold dO at H;rw[afb]at H;have U:=H oo (by simpa using List.mem_of_mem_drop A);rw[e]at U;cases U
 obtain⟨rs,u⟩:=jZ (P:=P) (T:=λk=>ud (wpOpIn (WF f.r) 9 P l.toArray R) (R .normal) (List.range' k (l.length-k))) Y O V.drew (λsk a' wr hE A hy q hB'=>tj _ _ _ _ zd (mK m hZr _ sk a' wr D nu hcalm (by
  rw[A,hy];exact m.own hm V.ro ((aH (dE w)).trans (aH hE)) (A ▸ q.ro)) q hB' (λD' s' a2 w2 nu' q1 q2 q3=>hR .normal D' f.Z s' a2 w2 nu' q1 q2 q3))) (l.take m0) 0 s [] (λ_=>a) zk (aen _) ⟨rfl,rfl,rfl,λ_=>rfl,λ_=>V.tm.len,λx t c v h1 U=> .inl ⟨h1,U⟩⟩ h
 exact wpIn_region_any W (Cm _ _ _ _ (jF _ (λ_=>false) (λi v w h=>by cases h) m0 (KZ H R) O (oG _ _ _ u)))
def yw:Op->Bool
 | .alloc _| .store .. | .mapUpdate .. | .insert .. | .makeSlice .. | .makeMap .. =>true
 | .call c=>match c.callee with
  | .builtin .append| .builtin .copy| .builtin .delete| .builtin .clear=>true
  |_=>false
 |_=>false
def vR:GE->Nat
 | []=>0
 |o::l=>if yw o.op then 0 else vR l+1
def ik(P:Program)(all:GE):GE->AS->(AS->Prop)->Prop
 | [],s,Q=>Q s
 |oo::rest,s,Q=>if yw oo.op then fZ P all (oo::rest) s Q else fw P all oo s (λs'=>ik P all rest s' Q)
theorem Eu(all:GE):∀(l:GE)(s:AS)(Q:AS->Prop),ik P all l s Q->um P all (l.drop (vR l)) (l.take (vR l)) s Q
 | [],s,Q,h=>h
 |oo::rest,s,Q,h=>by
  simp only[ik]at h
  by_cases q:yw oo.op=true
  ·rw[if_pos q]at h;simpa only[vR,q,if_true,List.drop_zero,List.take_zero,um,fY]using h
  ·rw[if_neg q]at h;simp only[vR,q,if_false,List.drop_succ_cons,List.take_succ_cons,Bool.false_eq_true];exact xJ λK hK=>vK (λs' u=>hK _ (Eu all rest s' Q u)) h
theorem LD{n0 id:Nat}{s:AS}{l:GE}{Q:bg->AS->Prop}(u:gW l.toArray (vR l)=true)(q:dO l.toArray=true)(h:ik P l l s (Q .normal)):cD P n0 (.region id l.toArray true) s Q:=
 Ax (vR l) u q (Eu l l s _ h)
theorem Og{all rest:GE}{oo:Oper}{s:AS}{Q:AS->Prop}(q:yw oo.op=false)(h:∀K:AS->Prop,(∀s',ik P all rest s' Q->K s')->fw P all oo s K):ik P all (oo::rest) s Q:=by
 simp only[ik,q,Bool.false_eq_true,if_false]
 grind
theorem Hp{all rest:GE}{oo:Oper}{s:AS}{Q:AS->Prop}(q:yw oo.op=true)(h:fZ P all (oo::rest) s Q):ik P all (oo::rest) s Q:=by
 simpa only[ik,q,if_true]using h
theorem Hq{all:GE}{s:AS}{Q:AS->Prop}(h:Q s):ik P all [] s Q:=h
theorem SY{all rest:GE}{oo:Oper}{s:AS}{Q:AS->Prop}(h:∀K:AS->Prop,(∀s',fZ P all rest s' Q->K s')->py P all oo s K):fZ P all (oo::rest) s Q:=h _ (λ_ h=>h)
theorem LA{all:GE}{s:AS}{Q:AS->Prop}(h:Q s):fZ P all [] s Q:=h
theorem Ht{all tail:GE}{s:AS}{Q:AS->Prop}(h:fZ P all tail s Q):um P all tail [] s Q:=h
theorem SP(all:GE)(dst:Option Tmp)(op:Op)(ty:TypeId)(pos:String)(aft:Array Edge)(s:AS)(K:AS->Prop) :
  py P all ⟨dst,op,ty,pos,aft,none⟩ s K=Ed P op s (λr o'=>K (s.put dst r o')):=rfl
theorem SO(all:GE)(dst:Option Tmp)(op:Op)(ty:TypeId)(pos:String)(aft:Array Edge)(j:Nat)(want:Bool)(s:AS)(K:AS->Prop) :
  py P all ⟨dst,op,ty,pos,aft,some (j,want)⟩ s K=Aj (nV all s j) want (Ed P op s (λr o'=>K (s.put dst r o'))) (K (s.put dst (.v Go.undef) s.o)):=rfl
attribute [go_sem] SP SO
end
class bA(G:Prop)(H:outParam Prop):Prop where
 up:H->G
section
variable {P:Program} {all rest tail:GE} {n0:Nat} {s:AS} {Q:bg->AS->Prop} {R K:AS->Prop} {oo o2:Oper} {i:Nat} {c d:Code} {x:Operand} {l:GE} {bx:am} {k:Nat}
instance {B:AS->Prop}:bA (fY P all B (oo::rest) s) (∀K:AS->Prop,(∀s',fY P all B rest s'->K s')->fw P all oo s K):=⟨xJ⟩
instance:bA (fY P all (λs=>jT P all tail s R) [] s) (jT P all tail s R):=⟨λh=>h⟩
instance:bA (jT P all [] s R) (R s):=⟨Oj⟩
instance:bA (jT P all (oo::rest) s R) (∀K:AS->Prop,(∀s',jT P all rest s' R->K s')->vJ P all oo s K):=⟨Wb⟩
instance {dst:Option Tmp}{op:Op}{ty:TypeId}{pos:String}{aft:Array Edge}:bA (iV P all [⟨dst,op,ty,pos,aft,none⟩] s R) (∀K:AS->Prop,(∀s',R s'->K s')->Ed P op s (λr o'=>K (s.put dst r o'))):=⟨Hu⟩
instance:bA (iV P all (oo::o2::rest) s R) (∀K:AS->Prop,(∀s',iV P all (o2::rest) s' R->K s')->fw P all oo s K):=⟨SE⟩
instance:bA (cD P n0 (.seq c d) s Q) (∀K:AS->Prop,(∀s',cD P n0 d s' Q->K s')->cD P n0 c s (px K Q)):=⟨S4⟩
instance:bA (cD P n0 (.region i l.toArray false) s Q) (jT P l l s (Q .normal)):=⟨HY⟩
instance:bA (cD P n0 .skip s Q) (Q .normal s):=⟨Ow⟩
instance:bA (cD P n0 (.block i c) s Q) (cD P n0 c s (BX i Q)):=⟨LC⟩
instance:bA (cD P n0 (.cond x c d) s Q) (G5 (s.ev x) (cD P n0 c s Q) (cD P n0 d s Q)):=⟨Oq⟩
instance:bA (cD P n0 (.exit i) s Q) (Q (.exit i) s):=⟨Ou⟩
instance:bA (cD P n0 .ret s Q) (Q .ret s):=⟨S3⟩
instance:bA (cD P n0 (.scope c) s Q) (cD P n0 c s (Eg Q)):=⟨LJ⟩
instance:bA (cD P n0 (.label i) s Q) (Q .normal s):=⟨LG⟩
instance:bA (cD P n0 (.goto i) s Q) (Q (.goto i) s):=⟨Ov⟩
instance:bA (px K Q .normal s) (K s):=⟨Ey⟩
instance:bA (px K Q (.exit i) s) (Q (.exit i) s):=⟨Ly⟩
instance:bA (px K Q .ret s) (Q .ret s):=⟨Om⟩
instance:bA (px K Q (.goto i) s) (Q (.goto i) s):=⟨Lz⟩
instance:bA (BX i Q .normal s) (Q .normal s):=⟨Es⟩
instance:bA (BX i Q .ret s) (Q .ret s):=⟨Oe⟩
instance:bA (BX i Q (.goto k) s) (Q (.goto k) s):=⟨Lp⟩
instance:bA (BX i Q (.exit k) s) (if k=i then Q .normal s else Q (.exit k) s):=⟨λh=>h⟩
instance:bA (Eg Q .normal s) (Q .normal s):=⟨Ew⟩
instance:bA (Eg Q .ret s) (Q .ret s):=⟨Ol⟩
instance:bA (Eg Q (.exit i) s) (Q (.exit i) s):=⟨Lw⟩
instance:bA (ik P all [] s R) (R s):=⟨Hq⟩
instance:bA (fZ P all [] s R) (R s):=⟨LA⟩
instance:bA (fZ P all (oo::rest) s R) (∀K:AS->Prop,(∀s',fZ P all rest s' R->K s')->py P all oo s K):=⟨SY⟩
instance:bA (um P all tail [] s R) (fZ P all tail s R):=⟨Ht⟩
instance:bA (G3 P all [] k s bx R) (bx.all (λb=>b.row.isSome)=true∧R (xU s bx)):=⟨Of⟩
end
theorem wD{P:Program}{n0 id:Nat}{l:GE}{s:AS}{Q:bg->AS->Prop}(h:iV P l l s (Q .normal))(u:(gW l.toArray (l.length-1)&&dO l.toArray)=true:=by kernel_rfl)(q:Dh l=true:=by decide):cD P n0 (.region id l.toArray true) s Q:=Ot u q h
theorem wE{P:Program}{n0 id:Nat}{s:AS}{l:GE}{Q:bg->AS->Prop}(h:ik P l l s (Q .normal))(u:gW l.toArray (vR l)=true:=by decide+kernel)(q:dO l.toArray=true:=by kernel_rfl):cD P n0 (.region id l.toArray true) s Q:=LD u q h
theorem wK{P:Program}{all rest:GE}{oo:Oper}{s:AS}{Q:AS->Prop}(h:∀K:AS->Prop,(∀s',ik P all rest s' Q->K s')->fw P all oo s K)(q:yw oo.op=false:=by decide):ik P all (oo::rest) s Q:=Og q h
theorem wF{P:Program}{all rest:GE}{oo:Oper}{s:AS}{Q:AS->Prop}(h:fZ P all (oo::rest) s Q)(q:yw oo.op=true:=by decide):ik P all (oo::rest) s Q:=Hp q h
end Go.Proofs.YtlhhccmopfamhaaGreatDoor
