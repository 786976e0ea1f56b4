/- texts of one claim, one behind the other. -/
import Derived.Test.YtlhhccmopfamhaaGreatDoorQAbsJ
import Derived.Test.YtlhhccmopfamhaaGreatDoorQFen
set_option linter.unusedSimpArgs false
set_option linter.unusedVariables false
set_option maxRecDepth 100000
set_option maxHeartbeats 16000000
open Array renaming getElem?_eq_some_iff -> aer
open Bool renaming and_eq_true -> ae6
open List renaming length_cons -> afa, mem_cons_of_mem -> ae7, getElem?_of_mem -> aeI, getElem?_eq_some_iff -> aeu, getElem?_eq_getElem -> aeC, nodup_nil -> afb, mem_of_getElem? -> aeQ
open Option renaming map_eq_some_iff -> aeX
open Nat renaming lt_of_lt_of_le -> aep, le_refl -> aen, le_trans -> aeo
namespace Go.Proofs.YtlhhccmopfamhaaGreatDoor
open Go.RowKit
mutual
def AV.ba(f:Nat->Nat):AV->AV
 | .undef=> .undef
 | .v x=> .v x
 | .agg cs=> .agg (bV f cs)
 | .ck vs=> .ck (bV f vs)
 | .aB z rows len=> .aB z (cm f rows) len
 | .vp cs=> .vp (bV f cs)
 | .ptr id len z row off=> .ptr (f id) len z row off
 | .vec id len=> .vec (f id) len
 | .fn g fi ca=> .fn g (bV f fi) (bV f ca)
 | .full a=> .full (a.ba f)
 | .jw p a=> .jw p (a.ba f)
 | .mp rows=> .mp (cm f rows)
def bV(f:Nat->Nat):C5->C5
 | []=>[]
 |a::l=>a.ba f::bV f l
def cm(f:Nat->Nat):List C5->List C5
 | []=>[]
 |r::l=>bV f r::cm f l
end
theorem cQ(f:Nat->Nat):∀l:C5,(bV f l).length=l.length
 | []=>rfl
 |a::l=>by rw[bV,afa,afa,cQ f l]
theorem fl(f:Nat->Nat):∀l:List C5,(cm f l).length=l.length
 | []=>rfl
 |a::l=>by rw[cm,afa,afa,fl f l]
theorem cr(f:Nat->Nat):∀(l:C5)(i:Nat),(bV f l)[i]?=(l[i]?).map (AV.ba f)
 | [],i=>by simp[bV]
 |a::l,0=>by simp[bV]
 |a::l,i+1=>by simpa [bV]using cr f l i
theorem fK(f:Nat->Nat):∀(l:List C5)(i:Nat),(cm f l)[i]?=(l[i]?).map (bV f)
 | [],i=>by simp[cm]
 |a::l,0=>by simp[cm]
 |a::l,i+1=>by simpa [cm]using fK f l i
def aa.ba(f:Nat->Nat)(ob:aa):aa:=⟨ob.T,ob.z,ob.fe,cm f ob.rows⟩
theorem aa.gL(f:Nat->Nat)(ob:aa):(ob.ba f).hl=ob.hl:=by simp[aa.hl,aa.ba,fl]
theorem dJ{α β:Type}{g:α->β}{x:Option α}{y:β}(h:x.map g=some y):∃a,x=some a∧y=g a:=by
 cases x with
 |none=>cases h
 |some a=>grind
section
variable {D D':Nat->Prop} {nu nu':EQ} {o o':AC} {w:World} {P:Program}
theorem RA.ba{f:Nat->Nat}(W:∀b,Fz D nu o w b->Fz D' nu' o' w b)(hH:∀id len,fg o id len->fg o' (f id) len∧nu' (f id) len=nu id len){a:AV}{x:Value}(hr:RA D nu o w a x):RA D' nu' o' w (a.ba f) x:=by
 induction hr with
 |undef x=>exact .undef x
 |v x=>exact .v x
 |agg cs xs q _ A ih=>
  exact .agg _ xs (by grind[cQ]) (λi c x u Y=>by
   grind[cr,dJ]) A
 |ck cs xs q _ ih=>
  exact .ck _ xs (by grind[cQ]) (λi c x u Y=>by
   grind[cr,dJ])
 |b5 z=>exact .b5 z
 |cp z a=>exact .cp z a
 |aB z rows len b off cap g q H A O h5 h6 _ h8 ih=>
  have key:∀(i j:Nat)row c,(cm f rows)[i]?=some row->row[j]?=some c->∃row0 V,rows[i]?=some row0∧row0[j]?=some V∧c=V.ba f:=λi j row c hi U=>by
   grind[fK,dJ,cr]
  refine .aB z _ len b off cap g (by grind[fl]) (by grind[fl]) A (λhne=>W b (O (λe=>hne (by rw[e];rfl)))) (λi row hi=>?_) (λi j row c hi U=>?_) (λi j row c hi U=>?_) (λi j row c hi U=>?_)
  ·grind[fK,dJ,cQ]
  ·grind
  ·grind
  grind
 |vp cs b off g q H _ O ih=>
  have key:∀(j:Nat)c,(bV f cs)[j]?=some c->∃V,cs[j]?=some V∧c=V.ba f:=λj c U=>by
   grind[cr,dJ]
  refine .vp _ b off g (W b q) (λj c u=>?_) (λj c u=>?_) (λj c u=>?_)
  ·grind
  ·grind
  grind
 |ptr id len z row off b q H=>
  obtain⟨A,O⟩:=hH id len q;exact .ptr (f id) len z row off b A (by grind)
 |vec id len q H=>
  obtain⟨A,O⟩:=hH id len q
  have:=RA.vec (D:=D') (nu:=nu') (o:=o') (w:=w) (f id) len A (by grind)
  rw[O]at this;exact this
 |fn g first caps fi ca q H _ _ ih1 ih2=>
  exact .fn g _ _ fi ca (by grind[cQ]) (by grind[cQ]) (λi c x u Y=>by
   grind[cr,dJ]) (λi c x u Y=>by
   grind[cr,dJ])
 |full a x q _ ih=>exact .full _ x q ih
 |jw p a x S h0 q u H _ ih=>exact .jw p _ x S h0 (λb hb=>W b (q b hb)) u H ih
 |mp rows b es cl q H A O h5 h6 _ ih=>
  refine .mp _ b es cl (W b q) H (by grind[fl]) (λi row hi=>?_) h5 h6 (λi j row c e hi U he=>?_)
  ·grind[fK,dJ,cQ]
  grind[fK,dJ,cr]
theorem RA.Gw{f:Nat->Nat}{n:Nat}(hF:∀b,Fz D nu o w b->Fz D' nu' o' w b)(hH:∀id len,id<n->fg o (f id) len->fg o' id len∧nu' id len=nu (f id) len){a':AV}{x:Value}(hr:RA D nu o w a' x) :
  ∀a:AV,a.wf n=true->a'=a.ba f->RA D' nu' o' w a x:=by
 induction hr with
 |undef x=>intro a _ e;cases a<;>simp only[AV.ba,reduceCtorEq]at e;exact .undef x
 |v x=>
  intro a _ e;cases a<;>simp only[AV.ba,reduceCtorEq,AV.v.injEq]at e;subst e;exact .v x
 |agg cs xs u _ U ih=>
  intro a q e;cases a<;>simp only[AV.ba,reduceCtorEq,AV.agg.injEq]at e;rename_i ds;subst e;rw[cQ]at u;refine .agg ds xs u (λi c x A W=>ih i (c.ba f) x (by grind[cr]) W c ?_ rfl) U
  grind[AV.wf,cG]
 |ck cs xs u _ ih=>
  intro a q e;cases a<;>simp only[AV.ba,reduceCtorEq,AV.ck.injEq]at e;rename_i ds;subst e;rw[cQ]at u;refine .ck ds xs u (λi c x A W=>ih i (c.ba f) x (by grind[cr]) W c ?_ rfl)
  grind[AV.wf,cG]
 |b5 z=>
  intro a _ e
  cases a with
  |aB z' rows' len'=>
   simp only[AV.ba,AV.aB.injEq]at e;obtain⟨rfl,e,rfl⟩:=e
   cases rows' with
   |nil=>exact .b5 _
   |cons r l=>grind[cm]
  |_=>grind[AV.ba]
 |cp z ad=>
  intro a _ e
  cases a with
  |aB z' rows' len'=>
   simp only[AV.ba,AV.aB.injEq]at e;obtain⟨rfl,e,rfl⟩:=e
   cases rows' with
   |nil=>exact .cp _ _
   |cons r l=>grind[cm]
  |_=>grind[AV.ba]
 |aB z rows len b off cap g u H U Y h5 h6 _ h8 ih=>
  intro a q e;cases a<;>simp only[AV.ba,reduceCtorEq,AV.aB.injEq]at e;rename_i z' rows' len';obtain⟨rfl,rfl,rfl⟩:=e;rw[fl]at u H;simp only[AV.wf]at q
  have up:∀(i:Nat)row,rows'[i]?=some row->(cm f rows')[i]?=some (bV f row):=λi row h=>by grind[fK]
  have upj:∀(row:C5)(j:Nat)c,row[j]?=some c->(bV f row)[j]?=some (c.ba f):=λrow j c h=>by grind[cr]
  refine .aB _ rows' _ b off cap g u H U (λhne=>hF b (Y (λe=>hne ?_))) (λi row hi=>?_) (λi j row c hi V=>h6 i j _ _ (up i row hi) (upj row j c V)) (λi j row c hi V=>ih i j _ _ (up i row hi) (upj row j c V) c (cG (k9 q hi) V) rfl) (λi j row c hi V=>h8 i j _ _ (up i row hi) (upj row j c V))
  ·cases rows' with
   |nil=>rfl
   |cons r l=>grind[cm]
  grind[cQ]
 |vp cs b off g u H _ Y ih=>
  intro a q e;cases a<;>simp only[AV.ba,reduceCtorEq,AV.vp.injEq]at e;rename_i ds;subst e;simp only[AV.wf]at q
  have up:∀(j:Nat)c,ds[j]?=some c->(bV f ds)[j]?=some (c.ba f):=λj c h=>by grind[cr]
  exact .vp ds b off g (hF b u) (λj c A=>H j _ (up j c A)) (λj c A=>ih j _ (up j c A) c (cG q A) rfl) (λj c A=>Y j _ (up j c A))
 |ptr id len z row off b u H=>
  intro a q e;cases a<;>simp only[AV.ba,reduceCtorEq,AV.ptr.injEq]at e;rename_i O len' z' row' off';obtain⟨rfl,rfl,rfl,rfl,rfl⟩:=e;simp only[AV.wf,decide_eq_true_eq]at q;obtain⟨U,Y⟩:=hH O _ q u;exact .ptr O _ _ _ _ b U (by grind)
 |vec id len u H=>
  intro a q e;cases a<;>simp only[AV.ba,reduceCtorEq,AV.vec.injEq]at e;rename_i O len';obtain⟨rfl,rfl⟩:=e;simp only[AV.wf,decide_eq_true_eq]at q;obtain⟨U,Y⟩:=hH O _ q u
  have:=RA.vec (D:=D') (nu:=nu') (o:=o') (w:=w) O len U (by grind)
  grind
 |fn g first caps fi ca u H _ _ ih1 ih2=>
  intro a q e;cases a<;>simp only[AV.ba,reduceCtorEq,AV.fn.injEq]at e;rename_i g' fi' ca';obtain⟨rfl,rfl,rfl⟩:=e;rw[cQ]at u H;simp only[AV.wf,ae6]at q;exact .fn _ fi' ca' fi ca u H (λi c x A W=>ih1 i (c.ba f) x (by grind[cr]) W c (cG q.1 A) rfl) (λi c x A W=>ih2 i (c.ba f) x (by grind[cr]) W c (cG q.2 A) rfl)
 |full b x u _ ih=>
  intro a q e;cases a<;>simp only[AV.ba,reduceCtorEq,AV.full.injEq]at e;rename_i b';simp only[AV.wf]at q;exact .full b' x u (ih b' q e)
 |jw p b x S h0 u A H _ ih=>
  intro a q e;cases a<;>simp only[AV.ba,reduceCtorEq,AV.jw.injEq]at e;rename_i p' b';obtain⟨rfl,e⟩:=e;simp only[AV.wf]at q;exact .jw _ b' x S h0 (λb hb=>hF b (u b hb)) A H (ih b' q e)
 |mp rows b es cl u H U Y h5 h6 _ ih=>
  intro a q e;cases a<;>simp only[AV.ba,reduceCtorEq,AV.mp.injEq]at e;rename_i rows';subst e;rw[fl]at U;simp only[AV.wf]at q
  have up:∀(i:Nat)row,rows'[i]?=some row->(cm f rows')[i]?=some (bV f row):=λi row h=>by grind[fK]
  have upj:∀(row:C5)(j:Nat)c,row[j]?=some c->(bV f row)[j]?=some (c.ba f):=λrow j c h=>by grind[cr]
  exact .mp rows' b es cl (hF b u) H U (λi row hi=>by grind[cQ]) h5 h6 (λi j row c e hi V he=>ih i j _ _ e (up i row hi) (upj row j c V) he c (cG (k9 q hi) V) rfl)
def sig(ids:Do)(n k:Nat):Nat:=if k<ids.length then ids.getD k 0 else n+(k-ids.length)
def fj(f:Nat->Nat):Do->AC->AC->AC
 |i::ids,x::l,o=>fj f ids l (o.set i (x.map (aa.ba f)))
 | [],l,o=>o++l.map (Option.map (aa.ba f))
 |_::_,[],o=>o
theorem ox(f:Nat->Nat):∀(ids:Do)(l o:AC)(j:Nat),j∉ids->j<o.length->(fj f ids l o)[j]?=o[j]?
 | [],l,o,j,_,q=>by rw[fj,List.getElem?_append_left q]
 |i::ids,x::l,o,j,hn,q=>by
  rw[fj,ox f ids l _ j (λh=>hn (ae7 _ h)) (by simpa using q),List.getElem?_set_ne (λe=>hn (by rw[e];exact List.mem_cons_self))]
 |_::_,[],_,_,_,_=>by rw[fj]
theorem KA(f:Nat->Nat):∀(ids:Do)(l o:AC),ids.Nodup->(∀i∈ids,i<o.length)->∀(k i:Nat)(x:Option aa),ids[k]?=some i->l[k]?=some x->(fj f ids l o)[i]?=some (x.map (aa.ba f))
 | [],l,o,_,_,k,i,x,h,_=>by simp at h
 |j::ids,[],o,_,_,k,i,x,_,h=>by simp at h
 |j::ids,y::l,o,hn,q,0,i,x,A,u=>by
  grind[fj,ox,List.nodup_cons,List.mem_cons_self,List.getElem?_set_self]
 |j::ids,y::l,o,hn,q,k+1,i,x,A,u=>by
  rw[fj];exact KA f ids l _ (List.nodup_cons.1 hn).2 (λa H=>by simpa using q a (ae7 _ H)) k i x (by simpa using A) (by simpa using u)
theorem zb(f:Nat->Nat):∀(ids:Do)(l o:AC)(j:Nat),ids.length<=l.length->(fj f ids l o)[o.length+j]?=(l[ids.length+j]?).map (Option.map (aa.ba f))
 | [],l,o,j,_=>by grind[fj,List.getElem?_append_right]
 |i::ids,x::l,o,j,h=>by
  have:=zb f ids l (o.set i (x.map (aa.ba f))) j (by simpa using h)
  rw[fj];rw[List.length_set]at this;rw[this]
  congr 1
  rw[afa,show ids.length+1+j=(ids.length+j)+1 by omega,List.getElem?_cons_succ]
 |_::_,[],_,_,h=>by simp at h
theorem AM:∀(ids:Do),ids.Nodup->∀(k i:Nat),ids[k]?=some i->ids.idxOf i=k
 | [],_,k,i,h=>by simp at h
 |j::ids,hn,0,i,h=>by grind
 |j::ids,hn,k+1,i,h=>by
  grind
theorem yj{o0:AC}(ids:Do)(A:RO D nu o w)(hnd:ids.Nodup)(ho:ids.map (λi=>o[i]?)=o0.map (λx=>some (x.map (aa.ba (sig ids o.length)))))
  (hwo:∀(k:Nat)ob,o0[k]?=some (some ob)->bD ids.length ob.rows=true) :
  RO (λb=>D b∧ ¬(b<w.heap.size∧∃id ob,id∉ids∧o[id]?=some (some ob)∧dX (nu id ob.hl)=some b)) (λk len=>nu (sig ids o.length k) len) o0 w∧(∀b,owned (λk len=>nu (sig ids o.length k) len) o0 b->owned nu o b) ∧
   (∀b,Fz D nu o w b->Fz (λb=>D b∧ ¬(b<w.heap.size∧∃id ob,id∉ids∧o[id]?=some (some ob)∧dX (nu id ob.hl)=some b)) (λk len=>nu (sig ids o.length k) len) o0 w b) ∧
   (∀id len,id<ids.length->fg o (sig ids o.length id) len->fg o0 id len∧nu (sig ids o.length id) len=nu (sig ids o.length id) len) ∧
   ∀(k:Nat)ob,o0[k]?=some (some ob)->∃i,ids[k]?=some i∧sig ids o.length k=i∧o[i]?=some (some (ob.ba (sig ids o.length))):=by
 have hlen:o0.length=ids.length:=by have:=congrArg List.length ho;grind
 have hget:∀(k i:Nat),ids[k]?=some i->∃x,o0[k]?=some x∧o[i]?=some (x.map (aa.ba (sig ids o.length))):=λk i q=>by
  have H:=congrArg (λl=>l[k]?) ho
  grind
 have hb:∀i∈ids,i<o.length:=λi hi=>by
  grind[aeI,aeu]
 have sigk:∀(k i:Nat),ids[k]?=some i->sig ids o.length k=i:=λk i q=>by
  have U:=(aeu.1 q).1;rw[sig,if_pos U,getD_some q]
 generalize hs:sig ids o.length=σ at *
 let out:Nat->Prop:=λb=>b<w.heap.size∧∃id ob,id∉ids∧o[id]?=some (some ob)∧dX (nu id ob.hl)=some b
 let D0:Nat->Prop:=λb=>D b∧ ¬out b
 let u:EQ:=λk len=>nu (σ k) len
 have obj0:∀(k:Nat)ob,o0[k]?=some (some ob)->∃i,ids[k]?=some i∧σ k=i∧o[i]?=some (some (ob.ba σ)):=λk ob q=>by
  grind
 have own0:∀b,owned u o0 b->owned nu o b:=λb⟨k,ob,H,h2⟩=>by
  obtain⟨i,q1,q2,q3⟩:=obj0 k ob H;refine⟨i,_,q3,?_⟩
  grind[aa.gL]
 have own0_out:∀b,owned u o0 b-> ¬out b:=λb⟨k,ob,H,h2⟩⟨U,id,ob',hn,Y,h4⟩=>by
  obtain⟨i,q1,q2,q3⟩:=obj0 k ob H;have hne:i≠id:=λe=>hn (by grind);refine A.sep i id _ _ b q3 Y hne ?_ h4
  grind[aa.gL]
 have fz0:∀b,Fz D nu o w b->Fz D0 u o0 w b:=λb hf=>⟨hf.1,λho=>hf.2.1 (own0 b ho),hf.2.2,λ⟨_,id,ob,_,Y,h4⟩=>hf.2.1 ⟨id,ob,Y,h4⟩⟩
 have W:∀id len,id<ids.length->fg o (σ id) len->fg o0 id len∧u id len=nu (σ id) len:=λk len q hh=>by
  refine⟨?_,rfl⟩;have e:=aeC q;obtain⟨x,q1,q2⟩:=hget k _ e;obtain⟨y,r1,r2⟩:=hh;rw[sigk k _ e,q2]at r1;cases r1;refine⟨x,q1,λob hx=>?_⟩
  grind[aa.gL]
 have ro0:RO D0 u o0 w:=by
  refine⟨λk ob q=>?_,λb U=>⟨A.up b U,λho=>zd⟩,λk k' ob ob' b H h2 hne Y h4=>?_,A.gl.fz (λb hf=>⟨rfl,fz0 b hf⟩)⟩
  ·obtain⟨i,q1,q2,q3⟩:=obj0 k ob q
   rcases A.obj i _ q3 with⟨e1,e2,e3⟩|⟨g,cur,O⟩|⟨g,es,cl,hmp⟩
   ·refine .inl ⟨e1,?_,?_⟩
    ·have:(cm σ ob.rows).length=0:=by rw[show cm σ ob.rows=[]from e2];rfl
     grind[fl,List.eq_nil_of_length_eq_zero]
    grind
   ·have hbk:dX (nu i (ob.ba σ).hl)=some g:=O.b7;have hg:D0 g:=⟨O.oR,own0_out g ⟨k,ob,q,by grind[aa.gL]⟩⟩
    have hup:∀(j:Nat)row,ob.rows[j]?=some row->(ob.ba σ).rows[j]?=some (bV σ row):=λj row hj=>by show(cm σ ob.rows)[j]? = _;grind[fK]
    have V:∀(row:C5)(j:Nat)c,row[j]?=some c->(bV σ row)[j]?=some (c.ba σ):=λrow j c hj=>by grind[cr]
    refine .inr (.inl ⟨g,cur,O.e9,hg,λe=>?_,λe=>?_,O.z,λj row hj=>?_,λj j' row c x H h2 Y=>?_,λj j' row c x H h2 Y=>O.one j j' _ _ x (hup j row H) (V row j' c h2) Y⟩)
    ·obtain⟨p1,p2,p3⟩:=O.box e
     refine⟨?_,?_,p3⟩
     ·grind
     ·have:(cm σ ob.rows).length=1:=p2
      grind[fl]
    ·obtain⟨cap,p1,p2,p3,p4⟩:=O.vec e;have el:(ob.ba σ).rows.length=ob.rows.length:=fl σ ob.rows;rw[el]at p1 p2;refine⟨cap,?_,p2,p3,p4⟩
     grind
    ·have:=O.row j _ (hup j row hj)
     rw[cQ]at this;exact this
    ·exact(O.cell j j' _ _ x (hup j row H) (V row j' c h2) Y).Gw (f:=σ) (n:=ids.length) fz0 W c (cG (k9 (hwo k ob q) H) h2) rfl
   ·have hbk:dX (nu i (ob.ba σ).hl)=some g:=hmp.b7;have hg:D0 g:=⟨hmp.oR,own0_out g ⟨k,ob,q,by grind[aa.gL]⟩⟩;refine .inr (.inr ⟨g,es,cl,hmp.rows rfl hg (by grind) rfl rfl (fl σ ob.rows).symm (λj row hj=>⟨bV σ row,by show(cm σ ob.rows)[j]? = _;grind[fK],(cQ σ row).symm,λj' c hc=>⟨c.ba σ,by grind[cr],λx hx=>hx.Gw (f:=σ) (n:=ids.length) fz0 W c (cG (k9 (hwo k ob q) hj) hc) rfl⟩⟩)⟩)
  ·obtain⟨i,q1,q2,q3⟩:=obj0 k ob H;obtain⟨i',q1',q2',q3'⟩:=obj0 k' ob' h2;have hii:i≠i':=λe=>hne (by rw[<-AM ids hnd k i q1, <- AM ids hnd k' i' q1',e])
   refine A.sep i i' _ _ b q3 q3' hii ?_ ?_
   ·grind[aa.gL]
   grind[aa.gL]
 grind
theorem ft.frame{f:FuncId}{args0 args:C5}{o0:AC}{Q:AV->AC->Prop}(ids:Do)(h:ft P f args0 o0 Q)(hnd:ids.Nodup)
  (ho:ids.map (λi=>o[i]?)=o0.map (λx=>some (x.map (aa.ba (sig ids o.length)))))
  (hargs:args=bV (sig ids o.length) args0)(hwa:aU ids.length args0=true)(hwo:∀(k:Nat)ob,o0[k]?=some (some ob)->bD ids.length ob.rows=true) :
  ft P f args o (λr o'=>∃r0 o1,Q r0 o1∧r=r0.ba (sig ids o.length)∧o'=fj (sig ids o.length) ids o1 o):=by
 obtain⟨hc,hq⟩:=h;refine⟨hc,λD nu w vargs O hra=>?_⟩;subst hargs;obtain⟨ro0,own0,fz0,hdr0,obj0⟩:=yj ids O hnd ho hwo
 have hlen:o0.length=ids.length:=by have:=congrArg List.length ho;grind
 have hget:∀(k i:Nat),ids[k]?=some i->∃x,o0[k]?=some x∧o[i]?=some (x.map (aa.ba (sig ids o.length))):=λk i hk=>by
  have h1:=congrArg (λl=>l[k]?) ho
  grind
 have hb:∀i∈ids,i<o.length:=λi hi=>by
  grind[aeI,aeu]
 have sigk:∀(k i:Nat),ids[k]?=some i->sig ids o.length k=i:=λk i hk=>by
  have A:=(aeu.1 hk).1;rw[sig,if_pos A,getD_some hk]
 have sign:∀k,ids.length<=k->sig ids o.length k=o.length+(k-ids.length):=λk hk=>by rw[sig,if_neg zd]
 generalize hs:sig ids o.length=σ at *
 let out:Nat->Prop:=λb=>b<w.heap.size∧∃id ob,id∉ids∧o[id]?=some (some ob)∧dX (nu id ob.hl)=some b
 let D0:Nat->Prop:=λb=>D b∧ ¬out b
 let nu0:EQ:=λk len=>nu (σ k) len
 have own0_out:∀b,owned nu0 o0 b-> ¬out b:=λb⟨k,ob,h1,V⟩⟨A,id,ob',hn,h3,h4⟩=>by
  obtain⟨i,q1,q2,q3⟩:=obj0 k ob h1;have hne:i≠id:=λe=>hn (by grind);refine O.sep i id _ _ b q3 h3 hne ?_ h4
  grind[aa.gL]
 have ra0:gC D0 nu0 o0 w args0 vargs:=⟨by have:=hra.len;grind[cQ],λi c x hi hx=>
  (hra.at' i (c.ba σ) x (by grind[cr]) hx).Gw (f:=σ) (n:=ids.length) fz0 hdr0 c (cG hwa hi) rfl⟩
 refine(hq D0 nu0 w vargs ro0 ra0).mono ?_;rintro e w' ⟨v,nu1,o1,r0,rfl,hm,ro1,ra1,hQ⟩
 have hle:ids.length<=o1.length:=by
  rcases Nat.eq_zero_or_pos ids.length with q|q
  ·omega
  ·have e:=aeC (show ids.length-1<o0.length by omega);obtain⟨h1,_⟩:=hm.wC (ids.length-1) 0 ⟨_,e,λ_ _=>Nat.zero_le _⟩
   have:=j8 h1
   omega
 let nu':EQ:=λid len=>if id∈ids then nu1 (ids.idxOf id) len else if id<o.length then nu id len else nu1 (ids.length+(id-o.length)) len
 have nu_id:∀(k i:Nat)len,ids[k]?=some i->nu' i len=nu1 k len:=λk i len hk=>by
  grind
 have nu_old:∀id len,id∉ids->id<o.length->nu' id len=nu id len:=λid len h1 V=>by
  grind
 have nu_sig:∀k len,nu' (σ k) len=nu1 k len:=λk len=>by
  grind
 have o_sig:∀k x,o1[k]?=some x->(fj σ ids o1 o)[σ k]?=some (x.map (aa.ba σ)):=λk x hk=>by
  rcases Nat.lt_or_ge k ids.length with q|q
  ·have e:=aeC q
   grind[KA]
  ·rw[sign k q,zb σ ids o1 o _ hle,show ids.length+(k-ids.length)=k by omega,hk];rfl

 have parts:∀id x,(fj σ ids o1 o)[id]?=some x->(∃k y,id=σ k∧o1[k]?=some y∧x=y.map (aa.ba σ))∨(id∉ids∧id<o.length∧o[id]?=some x):=λid x hx=>by
  rcases Nat.lt_or_ge id o.length with q|q
  ·by_cases hmem:id∈ids
   ·obtain⟨k,hk⟩:=aeI hmem
    grind
   grind[ox]
  ·obtain⟨j,rfl⟩:∃j,id=o.length+j:=⟨id-o.length,zd⟩
   grind[zb,dJ]
 have hF1:∀b,Fz D0 nu1 o1 w' b->Fz D nu' (fj σ ids o1 o) w' b:=λb hf=>⟨hf.1,λ⟨id,ob,h1,V⟩=>by
  rcases parts id _ h1 with⟨k,y,rfl,hy,e⟩|⟨h3,h4,h5⟩
  ·obtain⟨u,rfl,rfl⟩:=dJ (aeX.2 (by obtain⟨a,ha1,ha2⟩:=aeX.1 e.symm;exact⟨a,ha1,ha2⟩));rw[aa.gL,nu_sig]at V;exact hf.2.1 ⟨k,u,hy,V⟩
  ·rw[nu_old id _ h3 h4]at V
   exact hf.2.2.2 ⟨O.bL ⟨id,ob,h5,V⟩,id,ob,h3,h5,V⟩,hf.2.2.1⟩
 have hH1:∀id len,fg o1 id len->fg (fj σ ids o1 o) (σ id) len∧nu' (σ id) len=nu1 id len:=λk len⟨x,h1,V⟩=>by
  refine⟨⟨_,o_sig k x h1,λy hy=>?_⟩,nu_sig k len⟩
  grind[aeX,aa.gL]
 have hmono:cf nu o w nu' (fj σ ids o1 o) w':=by
  refine⟨hm.os,hm.tape,hm.output,hm.size,λid len hh=>?_,λb A hno=>?_⟩
  ·have A:=j8 hh
   by_cases hmem:id∈ids
   ·obtain⟨k,hk⟩:=aeI hmem;have hkl:=(aeu.1 hk).1;obtain⟨g1,_⟩:=hdr0 k len hkl (by grind);obtain⟨g3,g4⟩:=hm.wC k len g1
    grind
   ·refine⟨?_,nu_old id len hmem A⟩;obtain⟨x,h1,V⟩:=hh;exact⟨x,by grind[ox],V⟩
  ·have W: ¬owned nu0 o0 b:=λho=>hno (own0 b ho);obtain⟨g1,g2⟩:=hm.keep b A W;refine⟨g1,λ⟨id,ob,h1,V⟩=>?_⟩
   rcases parts id _ h1 with⟨k,y,rfl,hy,e⟩|⟨h3,h4,h5⟩
   ·obtain⟨u,rfl,rfl⟩:=aeX.1 e.symm;rw[aa.gL,nu_sig]at V;exact g2 ⟨k,u,hy,V⟩
   ·rw[nu_old id _ h3 h4]at V;exact hno ⟨id,ob,h5,V⟩
 refine⟨v,nu',fj σ ids o1 o,r0.ba σ,rfl,hmono,?_,ra1.ba hF1 hH1,r0,o1,hQ,rfl,rfl⟩
 refine⟨λid ob hid=>?_,λb A=>O.up b (Nat.le_trans hm.size A),λid id' ob ob' b h1 V hne h3 h4=>?_,O.gl.mono hmono (λ_ _ h=>h)⟩
 ·rcases parts id _ hid with⟨k,y,rfl,hy,e⟩|⟨h3,h4,h5⟩
  ·obtain⟨u,rfl,rfl⟩:=aeX.1 e.symm
   rcases ro1.obj k u hy with⟨e1,e2,e3⟩|⟨g,cur,H⟩|⟨g,es,cl,U⟩
   ·exact .inl ⟨e1,by show cm σ u.rows=[];rw[e2];rfl,by grind⟩
   ·have el:(u.ba σ).rows.length=u.rows.length:=fl σ u.rows
    have key:∀(i j:Nat)row c,(u.ba σ).rows[i]?=some row->row[j]?=some c->∃row0 c0,u.rows[i]?=some row0∧row0[j]?=some c0∧c=c0.ba σ:=λi j row c hi hj=>by
     have Y:(cm σ u.rows)[i]?=some row:=hi;rw[fK]at Y;obtain⟨row0,hr0,rfl⟩:=dJ Y;rw[cr]at hj
     grind
    refine .inr (.inl ⟨g,cur,H.e9,H.oR.1,λe=>?_,λe=>?_,H.z,λi row hi=>?_,λi j row c x g1 g2 g3=>?_,λi j row c x g1 g2 g3=>?_⟩)
    ·obtain⟨p1,p2,p3⟩:=H.box e;exact⟨by grind,zd,p3⟩
    ·obtain⟨cap,p1,p2,p3,p4⟩:=H.vec e;exact⟨cap,by grind,zd,p3,p4⟩
    ·have Y:(cm σ u.rows)[i]?=some row:=hi;rw[fK]at Y;obtain⟨row0,hr0,rfl⟩:=dJ Y;rw[cQ];exact H.row i row0 hr0
    ·obtain⟨row0,c0,q1,q2,rfl⟩:=key i j row c g1 g2;exact(H.cell i j row0 c0 x q1 q2 g3).ba hF1 hH1
    ·obtain⟨row0,c0,q1,q2,rfl⟩:=key i j row c g1 g2;exact H.one i j row0 c0 x q1 q2 g3
   ·refine .inr (.inr ⟨g,es,cl,U.rows rfl U.oR.1 (nu_sig k 0) rfl rfl (fl σ u.rows) (λi row hi=>?_)⟩);have Y:(cm σ u.rows)[i]?=some row:=hi;rw[fK]at Y;obtain⟨row0,hr0,rfl⟩:=dJ Y;refine⟨row0,hr0,cQ σ row0,λj c hc=>?_⟩;rw[cr]at hc;obtain⟨c0,hc0,rfl⟩:=dJ hc;exact⟨c0,hc0,λx hx=>hx.ba hF1 hH1⟩
  ·rcases O.obj id ob h5 with⟨e1,e2,e3⟩|⟨g,cur,H⟩|⟨g,es,cl,U⟩
   ·grind
   ·have hbk:=H.b7;have A:g<w.heap.size:=(aer.1 H.e9).1;have W: ¬owned nu0 o0 g:=λho=>own0_out g ho ⟨A,id,ob,h3,h5,hbk⟩;have hsame:=(hm.keep g A W).1
    refine .inr (.inl ⟨g,cur,hsame.trans H.e9,H.oR,λe=>?_,λe=>?_,H.z,H.row,λi j row c x g1 g2 g3=>(H.cell i j row c x g1 g2 g3).mono hmono (λ_ _ h=>h),H.one⟩)
    ·rw[nu_old id _ h3 h4];exact H.box e
    ·rw[nu_old id _ h3 h4];exact H.vec e
   ·have hbk:=U.b7;have A:g<w.heap.size:=(aer.1 U.e9).1;have W: ¬owned nu0 o0 g:=λho=>own0_out g ho ⟨A,id,ob,h3,h5,hbk⟩;exact .inr (.inr ⟨g,es,cl,U.tr (hm.keep g A W).1 (λh=>h) (nu_old id _ h3 h4) (λi j row c x _ _ H=>H.mono hmono (λ_ _ h=>h))⟩)
 ·have cross:∀(k id:Nat)(u ob:aa)(b:Nat),o1[k]?=some (some u)->dX (nu1 k u.hl)=some b->id∉ids->o[id]?=some (some ob)->dX (nu id ob.hl)=some b->False:=λk id u ob b g1 g2 g3 g4 g5=>by
   rcases ro1.obj k u g1 with⟨e1,e2,e3⟩|⟨g,cur,H⟩|⟨g,es,cl,U⟩
   ·simp only[aa.hl,e1,e2,if_true,List.length_nil,e3,dX,cW]at g2;cases g2
   ·have hbk:=H.b7;rw[hbk]at g2;cases g2;exact H.oR.2 ⟨O.bL ⟨id,ob,g4,g5⟩,id,ob,g3,g4,g5⟩
   ·have hbk:=U.b7;rw[hbk]at g2;cases g2;exact U.oR.2 ⟨O.bL ⟨id,ob,g4,g5⟩,id,ob,g3,g4,g5⟩
  rcases parts id _ h1 with⟨k,y,rfl,hy,e⟩|⟨p3,p4,p5⟩
  ·obtain⟨u,rfl,rfl⟩:=aeX.1 e.symm;rw[aa.gL,nu_sig]at h3
   rcases parts id' _ V with⟨k',y',rfl,hy',e'⟩|⟨p3',p4',p5'⟩
   ·obtain⟨ob0',rfl,rfl⟩:=aeX.1 e'.symm;rw[aa.gL,nu_sig]at h4;exact ro1.sep k k' u ob0' b hy hy' (λe=>hne (by rw[e])) h3 h4
   grind
  ·rw[nu_old id _ p3 p4]at h3
   rcases parts id' _ V with⟨k',y',rfl,hy',e'⟩|⟨p3',p4',p5'⟩
   ·obtain⟨ob0',rfl,rfl⟩:=aeX.1 e'.symm;rw[aa.gL,nu_sig]at h4
    grind
   ·rw[nu_old id' _ p3' p4']at h4;exact O.sep id id' ob ob' b p5 p5' hne h3 h4
def bR(P:Program)(f:FuncId)(args:C5)(o:AC)(r:AV)(o':AC):Prop:=ft P f args o (λr' o''=>r'=r∧o''=o')
theorem ai.fr{f:FuncId}{args args0:C5}{o0 o1:AC}{H:AV}{K:AV->AC->Prop}(ids:Do)(h:bR P f args0 o0 H o1)(A:ids.Nodup)
  (O:ids.map (λi=>o[i]?)=o0.map (λx=>some (x.map (aa.ba (sig ids o.length)))))
  (hargs:args=bV (sig ids o.length) args0)(u:aU ids.length args0=true)(q:∀(k:Nat)ob,o0[k]?=some (some ob)->bD ids.length ob.rows=true)
  (k:K (H.ba (sig ids o.length)) (fj (sig ids o.length) ids o1 o)):ai P f args o K:=
 .two (ft.frame ids h A O hargs u q) (λr o' U=>by
  grind)
def AFw(n:Nat)(o2:AC)(r0 r:AV)(o':AC):Prop:=iV o'.length [r0] [r]∧zQ o'.length o2 o'∧n<=o'.length
theorem bR.enter{f:FuncId}{fn:Func}{c:Code}{args:C5}{r:AV}{o':AC}(hf:P.funcs[f]?=some fn)(hb:fn.body=some c)(hc:fP P f=true)(U:bX c=true)(V:P.follows .mixedOrders=true)
  (h:cD P o.length c ⟨args++List.replicate (fn.ntmps-args.length) .undef,o,.no⟩ (BQ P fn.results.toList (λq u=>AFw o.length u q r o'))):bR P f args o r o':=by
 obtain⟨W,h2⟩:=ft.enter hf hb hc U V h;refine⟨W,λD nu w vargs H O=>(h2 D nu w vargs H O).mono ?_⟩;rintro e w' ⟨v,nu',u,q,rfl,hm,hro',hra',A⟩
 have hs:RS ⟨0,none,λ_=>False⟩ D nu' ⟨[q],u,.no⟩ {tmps:= #[v],defers:=[]} w':=⟨hro',⟨rfl,λi c x h1 h2=>by
  grind⟩,⟨Nat.zero_le _,⟨[],List.nodup_nil,rfl,λx hx=>(by cases hx)⟩,λl hl=>by cases hl⟩⟩
 have hk:Wk o.length ⟨[q],u,.no⟩ ⟨[r],o',.no⟩:=⟨A.1,A.2.1,A.2.2,rfl⟩;have Y:=lh hk hs;exact⟨v,nu',o',r,rfl,hk.mono (Nat.le_refl _) hm,Y.ro,Y.tm.at' 0 r v rfl rfl,rfl,rfl⟩
mutual
theorem Dw(f:Nat->Nat):∀a:AV,a.wf 0=true->a.ba f=a
 | .undef,_=>rfl
 | .v _,_=>rfl
 | .agg cs,h=>by rw[AV.ba,fJ f cs h]
 | .ck cs,h=>by rw[AV.ba,fJ f cs h]
 | .aB z rows len,h=>by rw[AV.ba,bn f rows h]
 | .vp cs,h=>by rw[AV.ba,fJ f cs h]
 | .ptr id _ _ _ _,h=>by grind[AV.wf]
 | .vec id _,h=>by grind[AV.wf]
 | .fn g a b,h=>by
  simp only[AV.wf,ae6]at h;rw[AV.ba,fJ f a h.1,fJ f b h.2]
 | .full a,h=>by rw[AV.ba,Dw f a h]
 | .jw p a,h=>by rw[AV.ba,Dw f a h]
 | .mp rows,h=>by rw[AV.ba,bn f rows h]
theorem fJ(f:Nat->Nat):∀l:C5,aU 0 l=true->bV f l=l
 | [],_=>rfl
 |a::l,h=>by
  simp only[aU,ae6]at h;rw[bV,Dw f a h.1,fJ f l h.2]
theorem bn(f:Nat->Nat):∀l:List C5,bD 0 l=true->cm f l=l
 | [],_=>rfl
 |a::l,h=>by
  simp only[bD,ae6]at h;rw[cm,fJ f a h.1,bn f l h.2]
end
def cO(m:Nat)(t:C5):C5:=t.take m++List.replicate (t.length-m) .undef
def lV(t:C5)(l:O1):C5:=l.foldl (λt p=>t.set p.1 p.2) t
theorem bg{n0:Nat}{Q:bd->AS->Prop}{ι:Type}{c:Code}{t:C5}{o:AC}{y:kz}(m:Nat)(upd:ι->O1)(mu:ι->Nat)(ok:ι->Prop)(i0:ι)(q:ok i0)(u:Wk n0 ⟨t,o,y⟩ ⟨lV (cO m t) (upd i0),o,y⟩)
  (h:∀i,ok i->∀K:AS->Prop,(∀s2,aw n0 (λi=>⟨lV (cO m t) (upd i),o,y⟩) mu ok (mu i) s2->K s2)->cD P n0 c ⟨lV (cO m t) (upd i),o,y⟩ (pj K Q)):cD P n0 (.loop c) ⟨t,o,y⟩ Q:=
 mG (λi=>⟨lV (cO m t) (upd i),o,y⟩) mu ok i0 _ .refl u q h
theorem aO{n0:Nat}{Q:bd->AS->Prop}{ι:Type}{c:Code}{t:C5}{o:AC}{y:kz}(m:Nat)(upd:ι->O1)(ob:ι->AC)(mu:ι->Nat)(ok:ι->Prop)(i0:ι)(q:ok i0)(u:Wk n0 ⟨t,o,y⟩ ⟨lV (cO m t) (upd i0),ob i0,y⟩)
  (h:∀i,ok i->∀K:AS->Prop,(∀s2,aw n0 (λi=>⟨lV (cO m t) (upd i),ob i,y⟩) mu ok (mu i) s2->K s2)->cD P n0 c ⟨lV (cO m t) (upd i),ob i,y⟩ (pj K Q)):cD P n0 (.loop c) ⟨t,o,y⟩ Q:=
 mG (λi=>⟨lV (cO m t) (upd i),ob i,y⟩) mu ok i0 _ .refl u q h
theorem gu{n0:Nat}{Q:bd->AS->Prop}{ι:Type}{c:Code}{t:C5}{o:AC}{y:kz}(d:Nat)(T:TypeId)(z:Nat)(u:t[d]?=some (.v (.slice none 0 0)))(q:0<z)(m:Nat)(upd:ι->O1)(ob:ι->AC)(mu:ι->Nat)(ok:ι->Prop)(i0:ι)(A:ok i0)
  (H:Wk n0 ⟨t.set d (.vec o.length 0),o++[some ⟨T,z,true,[]⟩],y⟩ ⟨lV (cO m t) (upd i0),ob i0,y⟩)
  (h:∀i,ok i->∀K:AS->Prop,(∀s2,aw n0 (λi=>⟨lV (cO m t) (upd i),ob i,y⟩) mu ok (mu i) s2->K s2)->cD P n0 c ⟨lV (cO m t) (upd i),ob i,y⟩ (pj K Q)):cD P n0 (.loop c) ⟨t,o,y⟩ Q:=
 mG (λi=>⟨lV (cO m t) (upd i),ob i,y⟩) mu ok i0 _ (.step d T z ⟨t,o,y⟩ .refl u q) H A h
end
attribute [go_sem] Value.oneCell' bV cm AV.ba aa.ba sig fj bn cO lV List.foldl_cons List.foldl_nil
structure pq where
 G:Type
 wd:G->World
 R:G->G->Prop
 acd:∀g,R g g
 trans':∀a b c,R a b->R b c->R a c
 pre:Nat->G->Prop
structure jY(N:pq)where
 p:Value->N.G->Prop
 st:∀v g g',N.R g g'->p v g->p v g'
def jY.any{N:pq}:jY N:=⟨λ_ _=>True,λ_ _ _ _ _=>trivial⟩
def Ch{N:pq}(L:List (jY N))(i:Nat):jY N:=L.getD i jY.any
section
variable {P:Program} {ops:Array Oper} {N:pq}
def abW(P:Program)(S:jY N)(j:Nat)(g:N.G):Result Next->Prop
 | .ok (.value u) w'=>∃g',N.wd g'=w'∧N.R g g'∧(∀i,i≠j->N.pre i g->N.pre i g')∧S.p u g'
 | .ok .skip w'=>∃g',N.wd g'=w'∧N.R g g'∧(∀i,i≠j->N.pre i g->N.pre i g')∧S.p undef g'
 | .ok (.enter f args) w'=>Calls P f args w' (λe w''=>∃v g',e=.returned v∧N.wd g'=w''∧N.R g g'∧(∀i,i≠j->N.pre i g->N.pre i g')∧S.p v g')
 |_=>False
end
mutual
theorem I8:∀a:AV,a.ba (λx=>x)=a
 | .undef=>rfl
 | .v _=>rfl
 | .agg cs=>by rw[AV.ba,oz cs]
 | .ck cs=>by rw[AV.ba,oz cs]
 | .aB z rows len=>by rw[AV.ba,Dt rows]
 | .vp cs=>by rw[AV.ba,oz cs]
 | .ptr id _ _ _ _=>rfl
 | .vec id _=>rfl
 | .fn g a b=>by rw[AV.ba,oz a,oz b]
 | .full a=>by rw[AV.ba,I8 a]
 | .jw p a=>by rw[AV.ba,I8 a]
 | .mp rows=>by rw[AV.ba,Dt rows]
theorem oz:∀l:C5,bV (λx=>x) l=l
 | []=>rfl
 |a::l=>by rw[bV,I8 a,oz l]
theorem Dt:∀l:List C5,cm (λx=>x) l=l
 | []=>rfl
 |a::l=>by rw[cm,oz a,Dt l]
end
section
variable {D D':Nat->Prop} {nu nu':EQ} {o o':AC} {w w':World} {P:Program}
end
structure BG(w0:World)(tz:Nat->TypeId×Nat)where
 w:World
 n:Nat->Option (Nat×Option (Array Value))
 base:Below w0.heap.size w0 w
 lay:∀i b c,n i=some (b,c)->w0.heap.size<=b∧∃C:Array Value,w.heap[b]?=some (.cells C (tz i).1 (0,0))∧C.size=(tz i).2∧(∀x∈C.toList,x.oneCell'=true)∧∀C',c=some C'->C=C'
 inj:∀i j b c c',n i=some (b,c)->n j=some (b,c')->i=j
def BG.box{w0:World}{tz:Nat->TypeId×Nat}(g:BG w0 tz)(b:Nat):Prop:=∃i c,g.n i=some (b,c)
def BG.opn{w0:World}{tz:Nat->TypeId×Nat}(g:BG w0 tz)(b:Nat):Prop:=∃i,g.n i=some (b,none)
structure BR{w0:World}{tz:Nat->TypeId×Nat}(g g':BG w0 tz):Prop where
 size:g.w.heap.size<=g'.w.heap.size
 same:∀b,b<g.w.heap.size-> ¬g.opn b->g'.w.heap[b]?=g.w.heap[b]?
 up:∀i b c,g.n i=some (b,c)->∃c',g'.n i=some (b,c')∧∀C,c=some C->c'=some C
 new:∀i b c,g'.n i=some (b,c)->b<g.w.heap.size->∃c',g.n i=some (b,c')
def adr(l:GE)(j i:Nat):Prop:=∃T d x oj oi U,l[j]?=some oj∧oj.op=.store T (.tmp d) x∧l[i]?=some oi∧oi.op=.alloc U∧oi.dst=some d
def Dx{w0:World}{tz:Nat->TypeId×Nat}(D:Nat->Prop)(g:BG w0 tz)(b:Nat):Prop:=D b∧ ¬g.box b
section
variable {w0:World} {tz:Nat->TypeId×Nat} {l:GE} {D:Nat->Prop} {nu:EQ} {o:AC} {P:Program}
inductive BE where
 |val (r:AV)
 |al
 |st (i:Nat) (row:C5)
def BG.next(g:BG w0 tz)(w':World)(h:Below g.w.heap.size g.w w'):BG w0 tz:=⟨w',g.n,cV g.base h,λi b c hi=>by
 obtain⟨h1,C,h2,h3⟩:=g.lay i b c hi
 exact⟨h1,C,(h.block b (aer.1 h2).1).trans h2,h3⟩,g.inj⟩
structure Bx where
 d:Tmp
 k:Nat
 T:TypeId
 z:Nat
 row:Option C5
abbrev am:=List Bx
def Hw(d:Tmp):am->Option Bx
 | []=>none
 |b::l=>if b.d=d then some b else Hw d l
def OA(d:Tmp)(r:C5):am->am
 | []=>[]
 |b::l=>if b.d=d then{b with row:=some r} ::l else b::OA d r l
def xQ:AS->am->AS
 |s,[]=>s
 |s,b::l=>xQ ⟨s.t.set b.d (.ptr s.o.length 0 b.z 0 0),s.o++[some ⟨b.T,b.z,false,[b.row.getD []]⟩],s.y⟩ l
def R7:Option (Nat×Bool)->Option Tmp->Option C5->Nat->(Tmp->Nat->Prop)->Prop
 |none,some d,some cs,n,K=>(0<cs.length∧d<n)∧K d cs.length
 |_,_,_,_,_=>False
def R8:Option (Nat×Bool)->Option Tmp->Option Bx->Option C5->Option Nat->(C5->Prop)->Prop
 |none,none,some b,some cs,some n,K=>(cs.length=n∧n=b.z∧b.row.isNone=true∧aU 0 cs=true)∧K cs
 |_,_,_,_,_,_=>False
def GX(P:Program)(all:GE):GE->Nat->AS->am->(AS->Prop)->Prop
 | [],_,s,bx,Q=>bx.all (λb=>b.row.isSome)=true∧Q (xQ s bx)
 |oo::rest,k,s,bx,Q=>match oo.op with
  | .alloc T=>R7 oo.guard oo.dst (de P T) s.t.length (λd z=>GX P all rest (k+1) (s.put (some d) .undef s.o) (bx++[⟨d,k,T,z,none⟩]) Q)
  | .store T (.tmp d) x=>R8 oo.guard oo.dst (Hw d bx) (s.ev x).cells? (bQ P T) (λcs=>GX P all rest (k+1) (s.put oo.dst .undef s.o) (OA d cs bx) Q)
  |_=>match oo.guard with
   |none=>dN P oo.op s (λr=>GX P all rest (k+1) (s.put oo.dst r s.o) bx Q)
   |some (j,want)=>Ae (nN all s j) want (dN P oo.op s (λr=>GX P all rest (k+1) (s.put oo.dst r s.o) bx Q)) (GX P all rest (k+1) (s.put oo.dst (.v Go.undef) s.o) bx Q)
def Vy(o:Oper):Option Tmp:=match o.op with
 | .store _ (.tmp d) _=>some d
 |_=>none
def YG(o:Oper):Option Tmp:=match o.op with
 | .alloc _=>o.dst
 |_=>none
def ad6(ops:Array Oper):Bool:=(List.range ops.size).all λj=>(List.range ops.size).all λi=>match ops[j]?,ops[i]? with
 |some oj,some oi=>match Vy oj with
  |some d=>(i==j||Vy oi !=some d)&&(YG oi !=some d||bb ops j i)
  |none=>true
 |_,_=>true
structure adZ(l:GE)(tz:Nat->TypeId×Nat)(s:AS)(a:Act)(k:Nat)(sk:AS)(rs:List BE)(A:(Nat->Value)->Act)(bx:am):Prop where
 o:sk.o=s.o
 y:sk.y=s.y
 len:rs.length=k
 mb:∀x,(A x).defers=a.defers
 size:∀x,sk.t.length=(A x).tmps.size
 val:∀x(t:Nat)c v,sk.t[t]?=some c->(A x).tmps[t]?=some v->c=.undef∨(s.t[t]?=some c∧a.tmps[t]?=some v)∨∃i,i<k∧(∃oi,l[i]?=some oi∧oi.dst=some t)∧rs[i]?=some (.val c)∧v=x i
 box:∀b,b∈bx->b.k<k∧rs[b.k]?=some .al∧(∃oi,l[b.k]?=some oi∧oi.op=.alloc b.T∧oi.dst=some b.d)∧tz b.k=(b.T,b.z)∧0<b.z∧(∀x,(A x).tmps[b.d]?=some (x b.k))∧(∀r,b.row=some r->r.length=b.z∧∃j,j<k∧rs[j]?=some (.st b.k r))
 nod:(bx.map Bx.k).Nodup
end
section
variable {w0:World} {tz:Nat->TypeId×Nat} {l:GE} {D:Nat->Prop} {nu:EQ} {o:AC} {P:Program}
end
section
variable {l:GE} {D:Nat->Prop} {nu:EQ} {o:AC} {P:Program}
theorem Oa{all:GE}{k:Nat}{s:AS}{bx:am}{Q:AS->Prop}(h:bx.all (λb=>b.row.isSome)=true∧Q (xQ s bx)):GX P all [] k s bx Q:=h
end
theorem Xs(d:Tmp)(cs:C5)(n:Nat)(K:Tmp->Nat->Prop):R7 none (some d) (some cs) n K=((0<cs.length∧d<n)∧K d cs.length):=rfl
theorem Xt(b:Bx)(cs:C5)(n:Nat)(K:C5->Prop):R8 none none (some b) (some cs) (some n) K=((cs.length=n∧n=b.z∧b.row.isNone=true∧aU 0 cs=true)∧K cs):=rfl
attribute [go_sem] Xs Xt
@[congr] theorem VD{g:Option (Nat×Bool)}{d:Option Tmp}{x y:Option C5}{n m:Nat}{K:Tmp->Nat->Prop}(h:x=y)(k:n=m):R7 g d x n K=R7 g d y m K:=by rw[h,k]
@[congr] theorem VE{g:Option (Nat×Bool)}{d:Option Tmp}{b q:Option Bx}{x y:Option C5}{n m:Option Nat}{K:C5->Prop}(u:b=q)(h:x=y)(k:n=m):R8 g d b x n K=R8 g d q y m K:=by rw[u,h,k]
attribute [go_sem] List.all_cons List.all_nil Hw OA xQ Option.isNone_none Option.isSome_some Option.getD_some
@[go_sem] theorem Yn(t:C5)(o:AC)(y:kz):(AS.mk t o y).t=t:=rfl
structure G5(X:Nat->Prop)(w w':World):Prop where
 os:w'.os=w.os
 tape:w'.tape=w.tape
 output:w'.output=w.output
 size:w.heap.size<=w'.heap.size
 same:∀b,b<w.heap.size-> ¬X b->w'.heap[b]?=w.heap[b]?
structure NU(T:Nat->Prop)(w w':World):Prop where
 os:w'.os=w.os
 tape:w'.tape=w.tape
 output:w'.output=w.output
 size:w.heap.size<=w'.heap.size
 same:∀b,b<w.heap.size->T b->w'.heap[b]?=w.heap[b]?
structure Ah(P:Program)(l:Nat)where
 J:List C5->(Nat->Prop)->(Nat->Prop)->World->Prop
 Jx:(Nat->Prop)->(Nat->Prop)->World->Prop
 St:Nat->Prop
 qU:∀{rest X T X' w w'},J rest X T w->G5 X w w'->(∀b,X' b->b<w'.heap.size∧(X b∨w.heap.size<=b))->J rest X' (λb=>T b∨(w.heap.size<=b∧b<w'.heap.size)) w'
 Hg:∀{X T X' w w'},Jx X T w->G5 X w w'->(∀b,X' b->b<w'.heap.size∧(X b∨w.heap.size<=b))->Jx X' (λb=>T b∨(w.heap.size<=b∧b<w'.heap.size)) w'
 round:∀{x rest X T w D nu}{vals:Array Value},J (x::rest) X T w->gC D nu [] w x vals->aU 0 x=true->(∀b,b<w.heap.size->D b->(T b∨St b)∧ ¬X b) ->
  YieldAt (WF none) 8 P l vals w (λe w'=>NU (λb=>T b∨St b) w w'∧((e=.returned (.bool true)∧J rest X T w')∨(e=.returned (.bool false)∧Jx X T w')))
section
variable {D:Nat->Prop} {nu:EQ} {o:AC} {w:World} {P:Program}
def Yk{l:Nat}(pr:Ah P l)(X T:Nat->Prop)(w:World):kz->Prop
 | .no=>False
 | .run l' rest=>l'=l∧pr.J rest X T w
 | .off=>pr.Jx X T w
theorem Yk.qU{l:Nat}{pr:Ah P l}{X T X':Nat->Prop}{w w':World}{y:kz}(h:Yk pr X T w y)(u:G5 X w w')(q:∀b,X' b->b<w'.heap.size∧(X b∨w.heap.size<=b)):Yk pr X' (λb=>T b∨(w.heap.size<=b∧b<w'.heap.size)) w' y:=by
 cases y with
 |no=>exact h.elim
 |run A rest=>exact⟨h.1,pr.qU h.2 u q⟩
 |off=>exact pr.Hg h u q
def IW(P:Program)(n0:Nat){l:Nat}(pr:Ah P l):WM P where
 n0:=n0
 fix:=λ_=>False
 M:=λD nu o Z y w=>∃X T,(∀b,owned nu o b->X b)∧(∀b,Z b->X b)∧(∀b,X b->T b)∧(∀b,T b->b<w.heap.size)∧(∀b,X b->owned nu o b∨ ¬D b)∧(∀b,Z b-> ¬D b)∧(∀b,b<w.heap.size->D b->T b∨pr.St b)∧n0<=o.length∧Yk pr X T w y
 step:=λ{D D' nu o Z Z' y w nu' o' w'}h hro hm hro' _ hD hDZ hZ hn=>by
  obtain⟨X,T,h1,h2,h3,h4,h5,h5',h6,h7,h8⟩:=h
  have hX:∀b,(owned nu' o' b∨Z' b∨(X b∧ ¬D' b))->b<w'.heap.size∧(X b∨w.heap.size<=b):=λb hb=>by
   rcases hb with q|q|q
   ·refine⟨hro'.bL q,?_⟩
    rcases Nat.lt_or_ge b w.heap.size with hlt|hge
    ·by_cases ho:owned nu o b
     ·grind
     ·by_cases hz:Z b
      ·grind
      ·exact absurd q (hm.keep b hlt ho hz).2
    omega
   ·grind
   ·exact⟨aep (h4 b (h3 b q.1)) hm.size,.inl q.1⟩
  refine⟨λb=>owned nu' o' b∨Z' b∨(X b∧ ¬D' b),λb=>T b∨(w.heap.size<=b∧b<w'.heap.size),λb h=> .inl h,λb h=> .inr (.inl h),λb hb=>?_,λb hb=>?_,λb hb=>?_,λb hb=>(hZ b hb).2.1,λb hlt hd=>?_,hn,?_⟩
  ·grind
  ·rcases hb with q|q
   ·exact aep (h4 b q) hm.size
   ·exact q.2
  ·grind
  ·grind
  ·exact h8.qU ⟨hm.os,hm.tape,hm.output,hm.size,λb hb hx=>(hm.keep b hb (λho=>hx (h1 b ho)) (λhz=>hx (h2 b hz))).1⟩ hX
 sj:=λh=>by
  grind
 yield:=λ{D nu o Z l' x rest w vals}h hro hra hw=>by
  obtain⟨X,T,h1,h2,h3,h4,h5,h5',h6,h7,rfl,h8⟩:=h
  have hF:∀b,Fz D nu o w b->Fz (λb=>D b∧ ¬X b) nu [] w b:=λb hf=>⟨hf.1,br _ _,hf.2.2,λhx=>by
   rcases h5 b hx with q|q
   ·exact hf.2.1 q
   ·exact q hf.2.2⟩
  have hra':gC (λb=>D b∧ ¬X b) nu [] w x vals:=⟨hra.len,λi c v q1 q2=>(hra.at' i c v q1 q2).tr (n:=0) hF (λid len hlt=>zd) (cG hw q1)⟩;obtain⟨fn,tmps,assign,body,hrun,hround⟩:=pr.round h8 hra' hw (λb hb hd=>⟨h6 b hb hd.1,hd.2⟩);refine⟨fn,tmps,assign,body,hrun,hround.mono λe w' he=>?_⟩;obtain⟨hk,he⟩:=he
  have hM:∀y,Yk pr X T w' y->∃X T,(∀b,owned nu o b->X b)∧(∀b,Z b->X b)∧(∀b,X b->T b)∧(∀b,T b->b<w'.heap.size)∧(∀b,X b->owned nu o b∨ ¬(D b∧ ¬(w.heap.size<=b∧b<w'.heap.size)))∧(∀b,Z b-> ¬(D b∧ ¬(w.heap.size<=b∧b<w'.heap.size))) ∧
    (∀b,b<w'.heap.size->(D b∧ ¬(w.heap.size<=b∧b<w'.heap.size))->T b∨pr.St b)∧n0<=o.length∧Yk pr X T w' y:=λy hy=>by
   refine⟨X,T,h1,h2,h3,λb hb=>aep (h4 b hb) hk.size,λb hb=>?_,λb hb hd=>h5' b hb hd.1,λb hlt hd=>?_,h7,hy⟩
   ·grind
   grind
  refine⟨⟨hk.os,hk.tape,hk.output,hk.size,λb hb hh=>hk.same b hb ?_⟩,?_⟩
  ·grind
  ·rcases he with⟨rfl,hj⟩|⟨rfl,hj⟩
   ·exact .inl ⟨rfl,hM _ ⟨rfl,hj⟩⟩
   ·exact .inr ⟨rfl,hM _ hj⟩
def ur(P:Program)(gf:FuncId)(caps:C5)(oI:AC)(L:List C5):Prop:=
 fP P gf=true∧∀(l:Nat)(pr:Ah P l)(D:Nat->Prop)(nu:EQ)(w:World)(vargs:Array Value)(X:Nat->Prop),RO D nu oI w->gC D nu oI w caps vargs->(∀b,owned nu oI b->X b)->(∀b,X b->owned nu oI b)->(∀b,b<w.heap.size->D b->X b∨pr.St b)->(∀b,pr.St b->b<w.heap.size)->pr.J L X X w ->
  Calls P gf (#[.func (.yield l) #[] #[]]++vargs) w (λe w'=>(∃v,e=.returned v)∧∃X' T',pr.J [] X' T' w'∨pr.Jx X' T' w')
def Hc(c:Bool)(P:Program)(gf:FuncId)(caps:C5)(oI:AC)(L:List C5):Prop:=
 fP P gf=true∧∀(l:Nat)(pr:Ah P l),(c=true->∀rest rest' X T w,rest.Perm rest'->pr.J rest X T w->pr.J rest' X T w)->∀(D:Nat->Prop)(nu:EQ)(w:World)(vargs:Array Value)(X:Nat->Prop),RO D nu oI w->gC D nu oI w caps vargs->(∀b,owned nu oI b->X b)->(∀b,X b->owned nu oI b)->(∀b,b<w.heap.size->D b->X b∨pr.St b)->(∀b,pr.St b->b<w.heap.size)->pr.J L X X w ->
  Calls P gf (#[.func (.yield l) #[] #[]]++vargs) w (λe w'=>(∃v,e=.returned v)∧∃X' T',pr.J [] X' T' w'∨pr.Jx X' T' w')
def NC(P:Program)(rs:List ResultVar)(l:Nat)(e:bd)(s:AS):Prop:=match e with
 | .ret| .normal=>qK (pw P s rs) s.o (λ_ _=>s.y=.run l []∨s.y=.off)
 |_=>False
theorem ur.enter{gf:FuncId}{fn:Func}{c:Code}{caps:C5}{oI:AC}{L:List C5}(hf:P.funcs[gf]?=some fn)(u:fn.body=some c)(hc:fP P gf=true)(hok:bX c=true)(hmx:P.follows .mixedOrders=true)
  (h:∀l,cD P oI.length c ⟨(.v (.func (.yield l) #[] #[])::caps)++List.replicate (fn.ntmps-(AV.v (.func (.yield l) #[] #[])::caps).length) .undef,oI,.run l L⟩ (NC P fn.results.toList l)):ur P gf caps oI L:=by
 refine⟨hc,λl pr D nu w vargs X hro ha V hx' hD hSt hJ=>xR (n:=9) (callsIn_of_wp_marks hf u trivial ?_ rfl)⟩
 have ha':gC D nu oI w (.v (.func (.yield l) #[] #[])::caps) (#[.func (.yield l) #[] #[]]++vargs):=by
  refine⟨by simp[ha.len];omega,λi c v O A=>?_⟩
  cases i with
  |zero=>
   rw[Array.getElem?_append_left zk]at A;simp at O A;subst O;subst A;exact .v _
  |succ i=>
   refine ha.at' i c v (by grind) ?_
   grind
 have hs:RS ⟨w.heap.size,none,λ_=>False⟩ D nu ⟨(.v (.func (.yield l) #[] #[])::caps)++List.replicate (fn.ntmps-(AV.v (.func (.yield l) #[] #[])::caps).length) .undef,oI,.run l L⟩ {tmps:=(#[Value.func (.yield l) #[] #[]]++vargs)++Array.replicate (fn.ntmps-(#[Value.func (.yield l) #[] #[]]++vargs).size) Go.undef,defers:=[]} w:=ER rfl (aen _) hro ha';have hX:∀b,X b->b<w.heap.size:=λb u=>hro.bL (hx' b u);have hM:(IW P oI.length pr).M D nu oI (λ_=>False) (.run l L) w:=⟨X,X,V,λb u=>u.elim,λb u=>u,hX,λb u=> .inl (hx' b u),λb u=>u.elim,hD,aen _,rfl,hJ⟩
 have fin:∀(D' Z':Nat->Prop)(s':AS)(H:Act)(w':World)(nu':EQ),(IW P oI.length pr).M D' nu' s'.o Z' s'.y w'->RS ⟨w.heap.size,none,Z'⟩ D' nu' s' H w'->qK (pw P s' fn.results.toList) s'.o (λ_ _=>s'.y=.run l []∨s'.y=.off) ->
   LeavesInM (WF none) 9 P fn H.tmps (λe w'=>(∃v,e=.returned v)∧∃X' U,pr.J [] X' U w'∨pr.Jx X' U w') H.defers .returning w':=λD' Z' s' H w' nu' O A W=>by
  obtain⟨rs,k1,k2,k3⟩:=A.mb.marks;rw[k2];refine nV (B:=w.heap.size) rs w' k1 (λx V=>⟨(k3 x V).1,(k3 x V).2.2⟩) (λw2 q hoth=>?_);obtain⟨X',U,g1,g2,g3,g4,g5,g5',g6,g7,g8⟩:=O;have h2':RS ⟨w.heap.size,none,Z'⟩ D' nu' s' {tmps:=H.tmps,defers:=[]} w2:=⟨q.ro A.ro,⟨A.tm.len,λi c x q1 q2=>q.ra (A.tm.at' i c x q1 q2)⟩,⟨by rw[q.size];exact A.mb.base,⟨[],afb,rfl,λx V=>(by cases V)⟩,λl hl=>by cases hl⟩⟩;obtain⟨v,r,q1,q2,q3⟩:=F5 h2' W;have ha2:G5 X' w' w2:=⟨q.os,q.tape,q.output,Nat.le_of_eq q.size.symm,λb _ u=>hoth b (λhbr=>u (g2 b (k3 b hbr).2.1))⟩;have Y:∀b,X' b->b<w2.heap.size∧(X' b∨w'.heap.size<=b):=λb u=>⟨by rw[q.size];grind,.inl u⟩;refine⟨v,q1,⟨v,rfl⟩,X',(λb=>U b∨(w'.heap.size<=b∧b<w2.heap.size)),?_⟩
  rcases q3 with e|e
  ·rw[e]at g8;exact .inl (pr.qU g8.2 ha2 Y)
  ·rw[e]at g8;exact .inr (pr.Hg g8 ha2 Y)
 refine wpIn_mono (gO (P:=P) hmx (f:=⟨w.heap.size,none,λ_=>False⟩) (IW P oI.length pr) (λl hl=>by cases hl) (aen _) c hok _ _ w D nu (λ_=>False) _ (λ(e:Exit)H w'=>e ≠ .outgrown∧bodyPostM (WF none) 9 P fn (λe w'=>(∃v,e=.returned v)∧∃X' U,pr.J [] X' U w'∨pr.Jx X' U w') e H w') (λa w hh=>hh.1 rfl) hM hs (h l) (λe D' Z' s' H w' nu' O A W=>?_)) (λe a w hh=>hh.2)
 cases e with
 |ret=>exact⟨by simp[bd.real],fin D' Z' s' H w' nu' O A W⟩
 |normal=>exact⟨by simp[bd.real],fin D' Z' s' H w' nu' O A W⟩
 |exit id=>exact W.elim
 |goto l=>exact W.elim
end
mutual
theorem AV.KZ{n m:Nat}(h:n<=m):∀a:AV,a.wf n=true->a.wf m=true
 | .undef,_=>rfl
 | .v _,_=>rfl
 | .agg cs,q=>by simp only[AV.wf]at q⊢; exact oK h cs q
 | .ck cs,q=>by simp only[AV.wf]at q⊢; exact oK h cs q
 | .aB _ rows _,q=>by simp only[AV.wf]at q⊢; exact zF h rows q
 | .vp cs,q=>by simp only[AV.wf]at q⊢; exact oK h cs q
 | .ptr id _ _ _ _,q=>by simp only[AV.wf,decide_eq_true_eq]at q⊢; omega
 | .vec id _,q=>by simp only[AV.wf,decide_eq_true_eq]at q⊢; omega
 | .fn _ f c,q=>by
  simp only[AV.wf,ae6]at q⊢;exact⟨oK h f q.1,oK h c q.2⟩
 | .full a,q=>by simp only[AV.wf]at q⊢; exact AV.KZ h a q
 | .jw p a,q=>by simp only[AV.wf]at q⊢; exact AV.KZ h a q
 | .mp rows,q=>by simp only[AV.wf]at q⊢; exact zF h rows q
theorem oK{n m:Nat}(h:n<=m):∀l:C5,aU n l=true->aU m l=true
 | [],_=>rfl
 |a::l,q=>by
  simp only[aU,ae6]at q⊢;exact⟨AV.KZ h a q.1,oK h l q.2⟩
theorem zF{n m:Nat}(h:n<=m):∀l:List C5,bD n l=true->bD m l=true
 | [],_=>rfl
 |a::l,q=>by
  simp only[bD,ae6]at q⊢;exact⟨oK h a q.1,zF h l q.2⟩
end
section
variable {D D':Nat->Prop} {nu:EQ} {o:AC} {w w':World} {P:Program}
theorem Nr(m:WM P){f:Fr}{t:C5}{a:Act}{C Z Z':Nat->Prop}{y:kz}(h:m.M D nu o Z y w)(A:RS f D nu ⟨t,o,y⟩ a w)(e1:w'.os=w.os)(e2:w'.tape=w.tape)(e3:w'.output=w.output)(H:w.heap.size<=w'.heap.size)
  (same:∀b,b<w.heap.size-> ¬C b->w'.heap[b]?=w.heap[b]?)(hC:∀b,C b->Z b∧ ¬f.Z b∧f.r≠some b)(W:∀b,b<w.heap.size->D b->D' b)(Y:∀b,w'.heap.size<=b->D' b)(hD1:∀b,D' b->D b∨Z b)
  (hD2:∀b,w.heap.size<=b->b<w'.heap.size->D' b∨Z' b)(O:∀b,Z' b->b<w'.heap.size∧ ¬D' b∧(Z b∨w.heap.size<=b)):m.M D' nu o Z' y w'∧RS f D' nu ⟨t,o,y⟩ a w':=by
 have hz:=m.sj h;have DC:∀b,D b-> ¬C b:=λb d c=>(hz.1 b (hC b c).1).2 d;have hF:∀b,Fz D nu o w b->w'.heap[b]?=w.heap[b]? ∧Fz D' nu o w' b:=λb U=>⟨same b U.1 (DC b U.2.2),aep U.1 H,U.2.1,W b U.1 U.2.2⟩;have hro':RO D' nu o w':=A.ro.keep (λb u=>⟨same b (A.ro.bL u) (DC b (A.ro.nJ u)),W b (A.ro.bL u) (A.ro.nJ u)⟩) Y hF
 refine⟨m.step h A.ro ⟨e1,e2,e3,H,λid len _ hh=>⟨hh,rfl⟩,λb u hno hnz=>⟨same b u (λc=>hnz (hC b c).1),hno⟩⟩ hro' (λc v hr _=>hr.keep hF) hD1 (λb u=>?_) (λb u=>⟨(O b u).1,(O b u).2.1,(O b u).2.2.elim .inl (λq=> .inr (.inr q))⟩) hz.2.1,hro',⟨A.tm.len,λi c x q1 q2=>(A.tm.at' i c x q1 q2).keep hF⟩,
  A.mb.keep H (λb ob u V _=>(same b (aer.1 V).1 (λc=>?_)).trans V)⟩
 ·grind
 grind
structure Core(m:WM P)(f:Fr)(N l:Nat)(t0:C5)(a:Act)(St:Nat->Prop)(q:Loop)(D:Nat->Prop)(nu:EQ)(o:AC)(y:kz)(X T:Nat->Prop)(w:World):Prop where
 mm:m.M D nu o (λb=>f.Z b∨X b∨b=l) y w
 rs:RS f D nu ⟨t0,o,y⟩ a w
 xz:∀b,X b-> ¬f.Z b∧b≠l
 xt:∀b,X b->T b
 tl:∀b,T b->b<w.heap.size
 td:∀b,T b-> ¬X b->D b
 to:∀b,T b-> ¬owned nu o b
 st:∀b,St b->D b∧ ¬owned nu o b∧b<w.heap.size
 pN:w.heap[l]?=some (.loop q)
 n:N<=o.length
variable {m:WM P} {f:Fr} {N l:Nat} {t0:C5} {a:Act} {St:Nat->Prop} {q:Loop} {y:kz} {X T:Nat->Prop}
theorem Core.Wz(h:Core m f N l t0 a St q D nu o y X T w)(u:∀l,f.r=some l->m.fix l){b:Nat}(A:X b∨b=l):f.r≠some b:=λe=>
 ((m.sj h.mm).2.2 b (u b e)).2.1 (.inr A)
theorem Core.qU(h:Core m f N l t0 a St q D nu o y X T w)(hZr:∀l,f.r=some l->m.fix l){X':Nat->Prop}(A:G5 X w w')(U:∀b,X' b->b<w'.heap.size∧(X b∨w.heap.size<=b)) :
  Core m f N l t0 a St q (λb=>(D b∨X b)∧ ¬X' b) nu o y X' (λb=>T b∨(w.heap.size<=b∧b<w'.heap.size)) w':=by
 have V:=m.sj h.mm;have DX:∀b,D b-> ¬X b:=λb d x=>(V.1 b (.inr (.inl x))).2 d;have hll:l<w.heap.size:=(aer.1 h.pN).1;have Y:=h.rs.ro.up
 have key:=Nr (C:=X) (D':=λb=>(D b∨X b)∧ ¬X' b) (Z':=λb=>f.Z b∨X' b∨b=l) m h.mm h.rs A.os A.tape A.output A.size A.same (λb u=>⟨.inr (.inl u),(h.xz b u).1,h.Wz hZr (.inl u)⟩)
  (λb u O=>⟨.inl O,λH=>(U b H).2.elim (DX b O) zd⟩) (λb u=>⟨.inl (Y b (aeo A.size u)),λH=>by grind⟩)
  (λb O=>O.1.elim .inl (λx=> .inr (.inr (.inl x)))) (λb u _=>by
   grind)
  (λb u=>by
   rcases u with u|u|u
   ·have:=V.1 b (.inl u)
    refine⟨aep this.1 A.size,λO=>?_,.inl (.inl u)⟩
    rcases O.1 with q|q
    ·grind
    ·exact(h.xz b q).1 u
   ·grind
   ·have:=V.1 b (.inr (.inr u))
    refine⟨aep this.1 A.size,λO=>?_,.inl (.inr (.inr u))⟩
    rcases O.1 with q|q
    ·grind
    ·exact(h.xz b q).2 u)
 refine⟨key.1,key.2,λb u=>?_,λb u=>?_,λb u=>?_,λb u hnx=>?_,λb u=>?_,λb u=>?_,(A.same l hll (λx=>(h.xz l x).2 rfl)).trans h.pN,h.n⟩
 ·rcases(U b u).2 with q|q
  ·exact h.xz b q
  grind
 ·rcases(U b u).2 with q|q
  ·exact .inl (h.xt b q)
  grind
 ·rcases u with q|q
  ·exact aep (h.tl b q) A.size
  ·exact q.2
 ·refine⟨?_,hnx⟩
  rcases u with q|q
  ·by_cases W:X b
   ·grind
   ·exact .inl (h.td b q W)
  grind
 ·rcases u with q|q
  ·exact h.to b q
  ·exactλho=>by have:=h.rs.ro.bL ho;omega
 ·obtain⟨q1,q2,q3⟩:=h.st b u;exact⟨⟨.inl q1,λH=>(U b H).2.elim (DX b q1) zd⟩,q2,aep q3 A.size⟩
theorem Core.put(h:Core m f N l t0 a St q D nu o y X T w)(W:∀l,f.r=some l->m.fix l)(hl: ¬f.Z l)(A:Loop):Core m f N l t0 a St A D nu o y X T (w.putObj l (.loop A)):=by
 have Y:=m.sj h.mm;have O:l<w.heap.size:=(aer.1 h.pN).1
 have key:=Nr (C:=λb=>b=l) (D':=D) (Z':=λb=>f.Z b∨X b∨b=l) (w':=w.putObj l (.loop A)) m h.mm h.rs rfl rfl rfl zk (λb u H=>World.putObj_heap_other H) (λb u=>⟨.inr (.inr u),by grind,h.Wz W (.inr u)⟩)
  (λb u U=>U) (λb u=>h.rs.ro.up b (by simp_all)) (λb U=> .inl U) (λb u V=>absurd V ahy) (λb u=>⟨by simp_all,(Y.1 b u).2,.inl u⟩)
 exact⟨key.1,key.2,h.xz,h.xt,λb u=>by simpa using h.tl b u,h.td,h.to,λb u=>⟨(h.st b u).1,(h.st b u).2.1,by simpa using(h.st b u).2.2⟩,World.putObj_heap_same O,h.n⟩
theorem Core.U2(h:Core m f N l t0 a St q D nu o y X T w)(V:m.n0<=N){o':AC}{U:kz}(A:Wk N ⟨t0,o,y⟩ ⟨t0,o',U⟩):Core m f N l t0 a St q D nu o' U X T w:=by
 have W:=m.sj h.mm;have Y:y=U:=A.y;subst Y;have H:=lh A h.rs;have O:∀b,b<w.heap.size-> ¬owned nu o b-> ¬owned nu o' b:=λb u hn=>((A.yL (nu:=nu) (w:=w) (Z:=λ_=>False)).keep b u hn (λh=>h)).2;exact⟨m.step h.mm h.rs.ro A.yL H.ro (λc v hr hc=>A.ra hr hc) (λ_ h=> .inl h) (λ_ h=> .inl h) (λb u=>⟨(W.1 b u).1,(W.1 b u).2,.inl u⟩) (aeo V A.n),H,h.xz,h.xt,h.tl,h.td,λb u=>O b (h.tl b u) (h.to b u),λb u=>⟨(h.st b u).1,O b (h.st b u).2.2 (h.st b u).2.1,(h.st b u).2.2⟩,h.pN,A.n⟩
theorem Core.done(h:Core m f N l t0 a St q D nu o y X T w)(U:∀l,f.r=some l->m.fix l)(hl: ¬f.Z l)(V:Loop):m.M (λb=>D b∨X b∨b=l) nu o f.Z y (w.putObj l (.loop V))∧RS f (λb=>D b∨X b∨b=l) nu ⟨t0,o,y⟩ a (w.putObj l (.loop V)):=by
 have W:=m.sj h.mm
 refine Nr (C:=λb=>b=l) m h.mm h.rs rfl rfl rfl zk (λb u H=>World.putObj_heap_other H) (λb u=>⟨.inr (.inr u),by grind,h.Wz U (.inr u)⟩)
  (λb u A=> .inl A) (λb u=> .inl (h.rs.ro.up b (by simp_all))) (λb A=>A.elim .inl (λq=> .inr (.inr q))) (λb u O=>absurd O ahy) (λb u=>⟨by simp_all,λA=>?_,.inl (.inl u)⟩)
 rcases A with q|q|q
 ·grind
 ·exact(h.xz b q).1 u
 grind
structure jE(m:WM P)(f:Fr)(N l:Nat)(t0:C5)(a:Act)(St X T:Nat->Prop)(w0:World)(q:Loop)(D:Nat->Prop)(nu:EQ)(o:AC)(Z:Nat->Prop)(y:kz)(w:World):Prop where
 mm:m.M D nu o (λb=>Z b∨(f.Z b∨X b∨b=l)) y w
 zz:∀b,f.Z b∨X b∨b=l-> ¬Z b
 tm:gC D nu o w t0 a.tmps
 mb:FR f a.defers w
 pN:w.heap[l]?=some (.loop q)
 os:w.os=w0.os
 tape:w.tape=w0.tape
 output:w.output=w0.output
 size:w0.heap.size<=w.heap.size
 same:∀b,T b∨St b->w.heap[b]?=w0.heap[b]?
 xz:∀b,X b-> ¬f.Z b∧b≠l
 xt:∀b,X b->T b
 tl:∀b,T b->b<w0.heap.size
 td:∀b,T b-> ¬X b->D b
 to:∀b,T b-> ¬owned nu o b
 st:∀b,St b->D b∧ ¬owned nu o b∧b<w0.heap.size
 n:N<=o.length
theorem Core.round(h:Core m f N l t0 a St q D nu o y X T w):jE m f N l t0 a St X T w q D nu o (λ_=>False) y w:=by
 have e:(λb=>False∨(f.Z b∨X b∨b=l))=(λb=>f.Z b∨X b∨b=l):=by grind
 exact⟨by rw[e];exact h.mm,λ_ _ h=>h,h.rs.tm,h.rs.mb,h.pN,rfl,rfl,rfl,aen _,λ_ _=>rfl,h.xz,h.xt,h.tl,h.td,h.to,h.st,h.n⟩
variable {w0:World} {Z:Nat->Prop}
theorem jE.step(hmn:m.n0<=N)(hZr:∀l,f.r=some l->m.fix l)(ht0:∀(i:Nat)c,t0[i]?=some c->c.wf N=true){nu':EQ}{o':AC}{Z':Nat->Prop}
  (h:jE m f N l t0 a St X T w0 q D nu o Z y w)(U:RO D nu o w)(H:JH Z nu o w nu' o' w')(hro':RO D' nu' o' w')(W:∀c v,RA D nu o w c v->c.wf o'.length=true->RA D' nu' o' w' c v)(hD1:∀b,D' b->D b∨Z b)(hD2:∀b,D b->D' b∨Z' b)
  (hZ:∀b,Z' b->b<w'.heap.size∧ ¬D' b∧(Z b∨owned nu o b∨w.heap.size<=b))(hn:N<=o'.length):jE m f N l t0 a St X T w0 q D' nu' o' Z' y w':=by
 have hz:=m.sj h.mm;have nD:∀b,f.Z b∨X b∨b=l->b<w.heap.size∧ ¬D b:=λb u=>hz.1 b (.inr u);have nO:∀b,f.Z b∨X b∨b=l-> ¬owned nu o b:=λb u ho=>(nD b u).2 (U.nJ ho)
 have nZ':∀b,f.Z b∨X b∨b=l-> ¬Z' b:=λb u A=>by
  rcases(hZ b A).2.2 with q|q|q
  ·exact h.zz b u q
  ·grind
  grind
 have nD':∀b,f.Z b∨X b∨b=l-> ¬D' b:=λb u V=>by
  rcases hD1 b V with q|q
  ·grind
  ·exact h.zz b u q
 have keepF:∀b,f.Z b∨X b∨b=l->w'.heap[b]?=w.heap[b]? ∧ ¬owned nu' o' b:=λb u=>H.keep b (nD b u).1 (nO b u) (h.zz b u)
 have stay:∀b,b<w.heap.size->D b-> ¬owned nu o b->(w'.heap[b]?=w.heap[b]? ∧ ¬owned nu' o' b)∧D' b:=λb u V hno=>by
  have hnz: ¬Z b:=λA=>(hz.1 b (.inl A)).2 V;refine⟨H.keep b u hno hnz,?_⟩
  grind
 have O:∀b,T b∨St b->(w'.heap[b]?=w.heap[b]? ∧ ¬owned nu' o' b)∧(D b->D' b):=λb u=>by
  have hs0:=h.size
  rcases u with q|q
  ·have hlt:=h.tl b q
   by_cases hx:X b
   ·grind
   ·obtain⟨r1,r2⟩:=stay b zd (h.td b q hx) (h.to b q)
    grind
  ·obtain⟨k1,k2,k3⟩:=h.st b q
   grind
 refine⟨m.step h.mm U ⟨H.os,H.tape,H.output,H.size,H.wC,λb h1 h2 h3=>H.keep b h1 h2 (λA=>h3 (.inl A))⟩ hro' W (λb V=>(hD1 b V).elim .inl (λq=> .inr (.inl q))) (λb V=>(hD2 b V).elim .inl (λq=> .inr (.inl q))) (λb u=>?_) (aeo hmn hn),nZ',⟨h.tm.len,λi c x q1 q2=>W c x (h.tm.at' i c x q1 q2) (AV.KZ hn c (ht0 i c q1))⟩,
  h.mb.keep H.size (λb ob u Y _=>?_),(keepF l (.inr (.inr rfl))).1.trans h.pN,H.os.trans h.os,H.tape.trans h.tape,H.output.trans h.output,aeo h.size H.size,λb u=>(O b u).1.1.trans (h.same b u),h.xz,h.xt,h.tl,λb u hx=>(O b (.inl u)).2 (h.td b u hx),λb u=>(O b (.inl u)).1.2,λb u=>⟨(O b (.inr u)).2 (h.st b u).1,(O b (.inr u)).1.2,(h.st b u).2.2⟩,hn⟩
 ·grind
 ·rcases u with q|q
  ·grind
  ·obtain⟨k1,k2,k3⟩:=hz.2.2 b (hZr b q);exact(H.keep b k1 (nY U Y zf) (λA=>k2 (.inl A))).1.trans Y
theorem jE.others(hZr:∀l,f.r=some l->m.fix l){W:kz}(h:jE m f N l t0 a St X T w0 q D nu o Z y w)(hro:RO D nu o w)(e1:w'.os=w.os)(e2:w'.tape=w.tape)(e3:w'.output=w.output)(A:w.heap.size<=w'.heap.size)
  (U:∀b,b<w.heap.size->D b∨(Z b∨(f.Z b∨X b∨b=l))∨owned nu o b∨m.fix b->w'.heap[b]?=w.heap[b]?)(hM:m.M (λb=>D b∧ ¬(w.heap.size<=b∧b<w'.heap.size)) nu o (λb=>Z b∨(f.Z b∨X b∨b=l)) W w') :
  jE m f N l t0 a St X T w0 q (λb=>D b∧ ¬(w.heap.size<=b∧b<w'.heap.size)) nu o Z W w':=by
 have hz:=m.sj h.mm;have hs0:=h.size;have hF:∀b,Fz D nu o w b->w'.heap[b]?=w.heap[b]? ∧Fz (λb=>D b∧ ¬(w.heap.size<=b∧b<w'.heap.size)) nu o w' b:=λb H=>⟨U b H.1 (.inl H.2.2),aep H.1 A,H.2.1,H.2.2,λY=>by have:=H.1;omega⟩
 refine⟨hM,h.zz,⟨h.tm.len,λi c x q1 q2=>(h.tm.at' i c x q1 q2).keep hF⟩,h.mb.keep A (λb ob u O _=>(U b (aer.1 O).1 ?_).trans O),(U l (hz.1 l (.inr (.inr (.inr rfl)))).1 (.inr (.inl (.inr (.inr (.inr rfl)))))).trans h.pN,e1.trans h.os,e2.trans h.tape,e3.trans h.output,aeo h.size A,λb u=>?_,h.xz,h.xt,h.tl,
  λb u V=>⟨h.td b u V,λY=>by have:=h.tl b u;omega⟩,h.to,λb u=>⟨⟨(h.st b u).1,λY=>by have:=(h.st b u).2.2;omega⟩,(h.st b u).2⟩,h.n⟩
 ·grind
 ·refine(U b ?_ ?_).trans (h.same b u)
  ·rcases u with q|q
   ·have:=h.tl b q;omega
   ·have:=(h.st b q).2.2;omega
  ·rcases u with q|q
   ·by_cases V:X b
    ·grind
    ·exact .inl (h.td b q V)
   ·exact .inl (h.st b q).1
def QT(P:Program)(m:WM P)(f:Fr)(N l:Nat)(t0:C5)(a:Act)(St X T:Nat->Prop)(w0:World)(q:Loop)(hmn:m.n0<=N)(hZr:∀l,f.r=some l->m.fix l)(ht0:∀(i:Nat)c,t0[i]?=some c->c.wf N=true):WM P where
 n0:=N
 fix:=λb=>m.fix b∨f.Z b∨X b∨b=l
 M:=jE m f N l t0 a St X T w0 q
 step:=λh hro hm hro' hra hD1 hD2 hZ hn=>h.step hmn hZr ht0 hro hm hro' hra hD1 hD2 hZ hn
 sj:=λh=>by
  have hz:=m.sj h.mm;refine⟨λb hb=>hz.1 b (.inl hb),h.n,λb hb=>?_⟩
  rcases hb with q|q
  ·grind
  ·exact⟨(hz.1 b (.inr q)).1,h.zz b q,(hz.1 b (.inr q)).2⟩
 yield:=λ{D nu o Z l' x rest w vals}h hro hra hw=>by
  obtain⟨fn,tmps,assign,body,hrun,hround⟩:=m.yield h.mm hro hra hw;refine⟨fn,tmps,assign,body,hrun,hround.mono λe w' he=>?_⟩;obtain⟨⟨e1,e2,e3,hsz,hk⟩,he⟩:=he
  refine⟨⟨e1,e2,e3,hsz,λb hb hh=>hk b hb ?_⟩,?_⟩
  ·grind
  ·rcases he with⟨rfl,hM⟩|⟨rfl,hM⟩
   ·exact .inl ⟨rfl,h.others hZr hro e1 e2 e3 hsz hk hM⟩
   ·exact .inr ⟨rfl,h.others hZr hro e1 e2 e3 hsz hk hM⟩
theorem jE.close(h:jE m f N l t0 a St X T w0 q D nu o Z y w)(A:RO D nu o w):Core m f N l t0 a St q (λb=>D b∨Z b) nu o y X T w:=by
 have O:=m.sj h.mm;have V:=h.size
 have key:=Nr (C:=λ_=>False) (D':=λb=>D b∨Z b) (Z':=λb=>f.Z b∨X b∨b=l) (w':=w) (t:=t0) (a:=a) (f:=f) m h.mm ⟨A,h.tm,h.mb⟩ rfl rfl rfl (aen _) (λb u _=>rfl) (λb u=>u.elim) (λb u H=> .inl H) (λb u=> .inl (A.up b u)) (λb H=>H.elim .inl (λq=> .inr (.inl q)))
  (λb Y W=>zd) (λb u=>⟨(O.1 b (.inr u)).1,λH=>H.elim (O.1 b (.inr u)).2 (h.zz b u),.inl (.inr u)⟩)
 exact⟨key.1,key.2,h.xz,h.xt,λb u=>by have:=h.tl b u;omega,λb u U=> .inl (h.td b u U),h.to,λb u=>⟨.inl (h.st b u).1,(h.st b u).2.1,by have:=(h.st b u).2.2;omega⟩,h.pN,h.n⟩
theorem jE.put(hZr:∀l,f.r=some l->m.fix l)(hl: ¬f.Z l){f':Fr}{t:C5}{a':Act}(hf':f'.r=some l∧f'.B=0∧f'.Z=Z)(h:jE m f N l t0 a St X T w0 q D nu o Z y w)(O:RS f' D nu ⟨t,o,y⟩ a' w)(A:Loop)(hT:∀b,T b∨St b->b≠l) :
  jE m f N l t0 a St X T w0 A D nu o Z y (w.putObj l (.loop A))∧RS f' D nu ⟨t,o,y⟩ a' (w.putObj l (.loop A)):=by
 have Y:=m.sj h.mm;have hll:l<w.heap.size:=(aer.1 h.pN).1;have hrl:f.r≠some l:=λe=>(Y.2.2 l (hZr l e)).2.1 (.inr (.inr (.inr rfl)))
 have H:(w.putObj l (.loop A)).heap.size=w.heap.size:=zk
 have key:=Nr (C:=λb=>b=l) (D':=D) (Z':=λb=>Z b∨(f.Z b∨X b∨b=l)) (w':=w.putObj l (.loop A)) (t:=t0) (a:=a) (f:=f) m h.mm ⟨O.ro,h.tm,h.mb⟩ rfl rfl rfl zk (λb u hne=>World.putObj_heap_other hne) (λb u=>⟨.inr (.inr (.inr u)),by grind,by grind⟩)
  (λb u hd=>hd) (λb u=>O.ro.up b zd) (λb hd=> .inl hd) (λb u hb'=>absurd hb' ahy) (λb u=>⟨by grind,(Y.1 b u).2,.inl u⟩)
 have hF:∀b,Fz D nu o w b->(w.putObj l (.loop A)).heap[b]?=w.heap[b]? ∧Fz D nu o (w.putObj l (.loop A)) b:=λb W=>⟨World.putObj_heap_other (λe=>by rw[e]at W;exact(Y.1 l (.inr (.inr (.inr rfl)))).2 W.2.2),by rw[H];exact W.1,W.2⟩;refine⟨⟨key.1,h.zz,key.2.tm,key.2.mb,World.putObj_heap_same hll,h.os,h.tape,h.output,by rw[H];exact h.size,λb u=>(World.putObj_heap_other (hT b u)).trans (h.same b u),h.xz,h.xt,h.tl,h.td,h.to,h.st,h.n⟩,key.2.ro,⟨O.tm.len,λi c x q1 q2=>(O.tm.at' i c x q1 q2).keep hF⟩,?_⟩;obtain⟨rs,k1,k2,U⟩:=O.mb.marks
 refine⟨zd,⟨rs,k1,k2,λx V=>⟨(U x V).1,(U x V).2.1,(World.putObj_heap_other (λe=>?_)).trans (U x V).2.2⟩⟩,λl' hl'=>?_⟩
 ·have:=(U x V).2.1
  rw[hf'.2.2,e]at this;exact h.zz l (.inr (.inr rfl)) this
 grind[World.putObj_heap_same]
def iB(ps:Do)(x t:C5):C5:=(ps.zip x).foldl (λt pv=>t.set pv.1 pv.2) t
theorem zn:∀(ps:Do)(x t:C5)(vs:IR)(tmps:Array Value),gC D nu o w t tmps->x.length=vs.length->(∀(i:Nat)c v,x[i]?=some c->vs[i]?=some v->RA D nu o w c v)->gC D nu o w (iB ps x t) ((ps.zip vs).foldl (λtmps p=>tmps.setIfInBounds p.1 p.2) tmps)
 | [],x,t,vs,tmps,h,_,_=>by simpa [iB]using h
 |p::ps,[],t,[],tmps,h,_,_=>by simpa [iB]using h
 |p::ps,c::x,t,v::vs,tmps,h,hl,W=>by
  have Y:gC D nu o w (t.set p c) (tmps.setIfInBounds p v):=by
   refine⟨by simpa using h.len,λi V O u A=>?_⟩
   by_cases U:p=i
   ·subst U;have H:=(List.getElem?_eq_some_iff.1 u).1;simp only[List.length_set]at H;rw[List.getElem?_set_self H]at u;rw[Array.getElem?_setIfInBounds_self_of_lt (by have:=h.len;omega)]at A;cases u;cases A;exact W 0 c v rfl rfl
   ·rw[List.getElem?_set_ne U]at u;rw[Array.getElem?_setIfInBounds_ne U]at A;exact h.at' i V O u A
  exact zn ps x _ vs _ Y (by simpa using hl) (λi V O u A=>W (i+1) V O (by simpa using u) (by simpa using A))
 |p::ps,[],t,v::vs,tmps,_,hl,_=>by simp at hl
 |p::ps,c::x,t,[],tmps,_,hl,_=>by simp at hl
def bd.code:bd->Code
 | .normal=> .skip
 | .exit id=> .exit id
 | .goto l=> .goto l
 | .ret=> .ret
def oP(N:Nat)(t0:C5)(p:Prop)(o':AC)(y':kz)(Q:bd->AS->Prop)(e:bd)(s:AS):Prop:=match e with
 | .normal=>p∧Wk N ⟨t0,s.o,s.y⟩ ⟨t0,o',y'⟩
 |e=>Q e ⟨t0,s.o,s.y⟩
def nr(P:Program)(N:Nat)(body:Code)(R:bd->AS->Prop)(e:bd)(s:AS):Prop:=match e with
 | .normal=>cD P N body s R
 |_=>False
def I3{ι:Type}(At:ι->List C5->Prop)(nx:ι->C5->ι)(hmx:P.follows .mixedOrders=true)(m:WM P)(f:Fr)(N l:Nat)(t0:C5)(a:Act)(St:Nat->Prop)(q:Loop)(O:ι->AC)(Y:ι->kz)(ok:ι->Prop)(Q:bd->AS->Prop)(hmn:m.n0<=N)(hZr:∀l,f.r=some l->m.fix l)(hl: ¬f.Z l)(ht0:∀(i:Nat)c,t0[i]?=some c->c.wf N=true)
  (hq:q.state=.ready∧q.pending=none∧q.tmps=a.tmps)(hA:bX q.assign=true)(hB:bX q.body=true)(har:∀k x rest,At k (x::rest)->x.length=q.params.size)(hnx:∀k x rest,At k (x::rest)->At (nx k x) rest)
  (hround:∀k x rest,ok k->At k (x::rest)->cD P N q.assign ⟨iB q.params.toList x t0,O k,Y k⟩ (nr P N q.body (oP N t0 (ok (nx k x)) (O (nx k x)) (Y (nx k x)) Q))):Ah P l where
 J:=λrest X T w=>∃k D nu,At k rest∧ok k∧Core m f N l t0 a St q D nu (O k) (Y k) X T w
 Jx:=λX T w=>∃e D nu o y,e ≠ .normal∧Q e ⟨t0,o,y⟩∧Core m f N l t0 a St {q with state:= .done,pending:=some e.code} D nu o y X T w
 St:=St
 qU:=λh ha hx=>by
  obtain⟨k,D,nu,h1,h2,h3⟩:=h;exact⟨k,_,nu,h1,h2,h3.qU hZr ha hx⟩
 Hg:=λh ha hx=>by
  obtain⟨e,D,nu,o,y,h1,h2,h3⟩:=h;exact⟨e,_,nu,o,y,h1,h2,h3.qU hZr ha hx⟩
 round:=λ{x rest X T w D nu vals}hJ hra hw hD=>by
  obtain⟨k,Dc,nuc,hat,hok,hc⟩:=hJ;have hz:=m.sj hc.mm
  have hra':gC Dc nuc (O k) w x vals:=⟨hra.len,λi c v q1 q2=>(hra.at' i c v q1 q2).tr (n:=0) (λb hf=>by
   obtain⟨h1,h2⟩:=hD b hf.1 hf.2.2
   rcases h1 with h1|h1
   ·exact⟨hf.1,hc.to b h1,hc.td b h1 h2⟩
   ·exact⟨hf.1,(hc.st b h1).2.1,(hc.st b h1).1⟩) (λid len hlt=>zd) (cG hw q1)⟩
  have hTl:∀b,T b∨St b->b≠l:=λb hb e=>by
   have hnl: ¬Dc l:=(hz.1 l (.inr (.inr rfl))).2
   rcases hb with h|h
   ·by_cases hxb:X b
    ·exact(hc.xz b hxb).2 e
    ·exact hnl (e ▸ hc.td b h hxb)
   ·exact hnl (e ▸ (hc.st b h).1)
  have hlen:vals.size=q.params.size:=by rw[<-hra.len,har k x rest hat]
  refine⟨q.fn,_,q.assign,q.body,run_yield hc.pN hlen,roundIn_of_wpIn trivial ?_⟩
  have htm:gC Dc nuc (O k) w (iB q.params.toList x t0) ((q.params.zip vals).foldl (λtmps(t,a)=>tmps.setIfInBounds t a) q.tmps):=by
   have:=zn q.params.toList x t0 vals.toList a.tmps hc.rs.tm (by grind) (λi c v q1 q2=>hra'.at' i c v q1 (by grind))
   grind[Array.toList_zip]
  have hs:RS ⟨0,some l,λ_=>False⟩ Dc nuc ⟨iB q.params.toList x t0,O k,Y k⟩ {tmps:=(q.params.zip vals).foldl (λtmps(t,a)=>tmps.setIfInBounds t a) q.tmps,defers:=[]} w:=
   ⟨hc.rs.ro,htm,⟨Nat.zero_le _,⟨[],afb,rfl,λx hx=>(by cases hx)⟩,λl' hl'=>by cases hl';exact⟨q,hc.pN⟩⟩⟩
  refine RZ (n:=9) (gO (f:=⟨0,some l,λ_=>False⟩) hmx (QT P m f N l t0 a St X T w q hmn hZr ht0) (λl' hl'=>by cases hl';exact .inr (.inr (.inr rfl))) (aen N) q.assign hA ⟨iB q.params.toList x t0,O k,Y k⟩ _ w Dc nuc (λ_=>False) _ _ (λa w h=>h) hc.round hs (hround k x rest hok hat) (λe D1 Z1 s1 a1 w1 nu1 h1 h2 h3=>?_))
  cases e with
  |exit i=>exact h3.elim
  |goto i=>exact h3.elim
  |ret=>exact h3.elim
  |normal=>
   refine⟨_,run_beginRound h1.pN hq.1,?_⟩;obtain⟨h4,h5⟩:=h1.put hZr hl (f':=(Fr.mk 0 (some l) (λ_=>False)).wz Z1) ⟨rfl,rfl,rfl⟩ h2 {q with state:= .busy} hTl;refine RZ (n:=9) (gO (f:=⟨0,some l,λ_=>False⟩) hmx (QT P m f N l t0 a St X T w {q with state:= .busy} hmn hZr ht0) (λl' hl'=>by cases hl';exact .inr (.inr (.inr rfl))) (aen N) q.body hB s1 a1 _ D1 nu1 Z1 _ _ (λa w h=>h) h4 h5 h3 (λe D2 Z2 s2 a2 w2 nu2 k1 k2 k3=>?_));have hcl:=k1.close k2.ro;have hkept:∀q',NU (λb=>T b∨St b) w (w2.putObj l (.loop q')):=λq'=>⟨k1.os,k1.tape,k1.output,by simpa using k1.size,λb _ hb=>(World.putObj_heap_other (hTl b hb)).trans (k1.same b hb)⟩
   have jump:∀e,e ≠ .normal->Q e ⟨t0,s2.o,s2.y⟩->∃v w',(Instr.endRound l (some e.code)).run P w2=.ok v w'∧(NU (λb=>T b∨St b) w w'∧((Ending.returned v=.returned (.bool true)∧∃k D nu,At k rest∧ok k∧Core m f N l t0 a St q D nu (O k) (Y k) X T w')∨(Ending.returned v=.returned (.bool false)∧∃e D nu o y,e ≠ .normal∧Q e ⟨t0,o,y⟩∧Core m f N l t0 a St {q with state:= .done,pending:=some e.code} D nu o y X T w'))):=λe he hQ=>by
    refine⟨_,_,run_endRound (some e.code) k1.pN,hkept _,.inr ⟨rfl,e,(λb=>D2 b∨Z2 b),nu2,s2.o,s2.y,he,hQ,?_⟩⟩;exact hcl.put hZr hl _
   cases e with
   |normal=>
    refine⟨_,_,run_endRound none k1.pN,hkept _,.inl ⟨rfl,nx k x,(λb=>D2 b∨Z2 b),nu2,hnx k x rest hat,k3.1,?_⟩⟩
    have:=(hcl.put hZr hl {q with state:= .ready,pending:=none}).U2 hmn k3.2
    have e:({q with state:= .ready,pending:=none}:Loop)=q:=by
     obtain⟨e1,e2,_⟩:=hq;cases q;grind
    grind
   |exit i=>exact jump (.exit i) zk k3
   |goto i=>exact jump (.goto i) zk k3
   |ret=>exact jump .ret zk k3
theorem I4(m:WM P){f:Fr}{t:C5}{a:Act}{o:AC}{y:kz}(hm:m.M D nu o f.Z y w)(hs:RS f D nu ⟨t,o,y⟩ a w)(fn:FuncId)(ps:Array Tmp)(assign body:Code) :
  ∃l mk u H q D1,(Instr.enterLoop fn a.tmps ps assign body f.r).run P w=.ok (l,mk) u∧(q.state=.ready∧q.pending=none∧q.tmps=a.tmps)∧(q.params=ps∧q.assign=assign∧q.body=body)∧ ¬H l∧u.heap[l]?=some (.loop q)∧Below w.heap.size w u ∧
   m.M D1 nu o (λb=>H b∨b=l) y u∧RS (f.wz H) D1 nu ⟨t,o,y⟩ {a with defers:=mk++a.defers} u∧(∀b,b<w.heap.size->D b->D1 b)∧(∀b,D1 b->D b)∧∀b,f.Z b->H b:=by
 have hz:=m.sj hm
 have gen:∀(u:World)(H:Nat->Prop)(l:Nat),Below w.heap.size w u->(∀b,f.Z b->H b)->(∀b,H b->f.Z b∨(w.heap.size<=b∧b<u.heap.size))->w.heap.size<=l->l<u.heap.size ->
   m.M (λb=>D b∧ ¬(H b∨b=l)) nu o (λb=>H b∨b=l) y u∧RS f (λb=>D b∧ ¬(H b∨b=l)) nu ⟨t,o,y⟩ a u:=λu H l A h1 h2 h3 h4=>by
  refine Nr (C:=λ_=>False) m hm hs A.os A.tape A.output A.size (λb V _=>A.block b V) (λb h=>h.elim) (λb V U=>⟨U,λY=>?_⟩) (λb W=>⟨hs.ro.up b (aeo A.size W),λY=>?_⟩) (λb U=> .inl U.1) (λb W V=>?_) (λb Y=>⟨?_,λU=>U.2 Y,?_⟩)
  ·grind
  ·grind
  ·by_cases Y:H b∨b=l
   ·exact .inr Y
   ·exact .inl ⟨hs.ro.up b W,Y⟩
  ·grind
  grind
 cases hr:f.r with
 |none=>
  obtain⟨q,hq⟩:∃q:Loop,q={state:= .ready,pending:=none,fn,tmps:=a.tmps,params:=ps,assign,body,defers:=w.heap.size}:=⟨_,rfl⟩;obtain⟨u,O⟩:∃u,u=(w.alloc (.deferred (some []))).alloc (.loop q):=⟨_,rfl⟩
  have A:Below w.heap.size w u:=by rw[O];exact((Below.refl _ w).alloc (aen _) _).alloc zk _
  have hsz:u.heap.size=w.heap.size+2:=by simp_all
  have hL:u.heap[w.heap.size+1]?=some (.loop q):=by
   grind[World.alloc_heap_new,World.size_alloc]
  have hK:u.heap[w.heap.size]?=some (.deferred (some [])):=by
   grind[Below.heap_alloc,World.alloc_heap_new]
  obtain⟨g1,g2⟩:=gen u (λb=>f.Z b∨b=w.heap.size) (w.heap.size+1) A (λb h=> .inl h) (λb h=>h.elim .inl (λe=> .inr zd)) zd zd
  refine⟨w.heap.size+1,[IL w.heap.size],u,(λb=>f.Z b∨b=w.heap.size),q,_,?_,by grind,by grind,?_,hL,A,g1,⟨g2.ro,g2.tm,?_⟩,?_,λb U=>U.1,λb h=> .inl h⟩
  ·rw[O,hq];exact run_enterLoop_outer _ _ _ _ _
  ·grind
  ·obtain⟨rs,k1,k2,k3⟩:=g2.mb.marks
   refine⟨g2.mb.base,⟨w.heap.size::rs,List.nodup_cons.2 ⟨λhm=>?_,k1⟩,by grind,λx hx=>?_⟩,g2.mb.loop⟩
   ·grind
   ·rcases List.mem_cons.1 hx with e|e
    ·subst e;exact⟨hs.mb.base,.inr rfl,hK⟩
    ·exact⟨(k3 x e).1,.inl (k3 x e).2.1,(k3 x e).2.2⟩
  grind
 |some l0=>
  obtain⟨q0,hq0⟩:=hs.mb.loop l0 hr;obtain⟨q,hq⟩:∃q:Loop,q={state:= .ready,pending:=none,fn,tmps:=a.tmps,params:=ps,assign,body,defers:=q0.defers}:=⟨_,rfl⟩;obtain⟨u,O⟩:∃u,u=w.alloc (.loop q):=⟨_,rfl⟩
  have A:Below w.heap.size w u:=by rw[O];exact(Below.refl _ w).alloc (aen _) _
  have hsz:u.heap.size=w.heap.size+1:=by simp_all
  have hL:u.heap[w.heap.size]?=some (.loop q):=by grind[World.alloc_heap_new]
  obtain⟨g1,g2⟩:=gen u f.Z w.heap.size A (λb h=>h) (λb h=> .inl h) zd zd
  refine⟨w.heap.size,[],u,f.Z,q,_,?_,by grind,by grind,?_,hL,A,g1,⟨g2.ro,g2.tm,?_⟩,?_,λb U=>U.1,λb h=>h⟩
  ·grind[run_enterLoop_inner]
  ·grind
  ·exact g2.mb.VA (λb h=>h)
  grind
theorem xK{n0:Nat}{s:AS}{Q:bd->AS->Prop}{g:Operand}{ps:Array Tmp}{assign body:Code}{gf:FuncId}{caps0:C5}{oI:AC}{L:List C5}{c:Bool}(hseq:Hc c P gf caps0 oI L){ι:Type}(At:ι->List C5->Prop)(nx:ι->C5->ι)(i0:ι)(hat0:At i0 L)(hnx:∀k x rest,At k (x::rest)->At (nx k x) rest)(hpm:c=true->∀k rest rest',rest.Perm rest'->At k rest->At k rest')(ids:Do)(hnd:ids.Nodup)
  (hids:ids.map (λi=>s.o[i]?)=oI.map (λx=>some (x.map (aa.ba (sig ids s.o.length)))))(hwo:∀(k:Nat)ob,oI[k]?=some (some ob)->bD ids.length ob.rows=true)(O:ι->AC)(Y:ι->kz)(ok:ι->Prop)(h0:ok i0)(t0:C5)
  (hg:s.ev g=.fn gf [] (bV (sig ids s.o.length) caps0))(hcaps:aU ids.length caps0=true)(hdead:∀i,i∈ids->∀ob,(O i0)[i]? ≠ some (some ob))(A:Wk n0 s ⟨t0,O i0,Y i0⟩)(hA:bX assign=true)(hB:bX body=true)(har:∀k x rest,At k (x::rest)->x.length=ps.size)
  (hround:∀k x rest,ok k->At k (x::rest)->cD P (O i0).length assign ⟨iB ps.toList x t0,O k,Y k⟩ (nr P (O i0).length body (oP (O i0).length t0 (ok (nx k x)) (O (nx k x)) (Y (nx k x)) Q)))
  (hfin:∀k,At k []->ok k->Q .normal ⟨t0,O k,Y k⟩):cD P n0 (.rangeFunc g ps assign body) s Q:=by
 intro f m D nu a w hZr hn hm hs hmx R hO hR;have hgv:=hs.ev g;rw[hg]at hgv
 obtain⟨ca,hgv',hca⟩:∃ca,a.eval g=.func (.func gf) #[] ca∧gC D nu s.o w (bV (sig ids s.o.length) caps0) ca:=by
  revert hgv
  generalize a.eval g=v;intro hgv
  cases hgv with
  |fn _ _ _ fi ca U V _ h4=>
   obtain rfl:fi = #[]:=Array.eq_empty_of_size_eq_zero (by grind);exact⟨ca,rfl,V,h4⟩
 have hz:=m.sj hm;obtain⟨ro0,own0,fz0,hdr0,obj0⟩:=yj ids hs.ro hnd hids hwo;obtain⟨X,hX⟩:∃X:Nat->Prop,X=owned (λk len=>nu (sig ids s.o.length k) len) oI:=⟨_,rfl⟩;rw[<-hX]at own0;obtain⟨_,al,_⟩:=np A
 have Xn:∀b,X b-> ¬owned nu (O i0) b:=λb H⟨id,ob,U,V⟩=>by
  rw[hX]at H;obtain⟨k,ob',h3,h4⟩:=H;obtain⟨i,q1,q2,q3⟩:=obj0 k ob' h3;have hne:i≠id:=λe=>hdead i (aeQ q1) ob (by grind);refine hs.ro.sep i id _ _ b q3 (al id ob U) hne ?_ V
  grind[aa.gL]
 have XD:∀b,X b->D b∧b<w.heap.size:=λb H=>⟨hs.ro.nJ (own0 b H),hs.ro.bL (own0 b H)⟩

 have hFX:∀b,Fz D nu s.o w b->D b∧ ¬X b:=λb W=>⟨W.2.2,λu=>W.2.1 (own0 b u)⟩
 have hs2:RS (f.wz (λb=>f.Z b∨X b)) (λb=>D b∧ ¬X b) nu ⟨t0,O i0,Y i0⟩ a w:=by
  have:=GM (D':=λb=>D b∧ ¬X b) A hs hFX (λb ho=>⟨hs.ro.nJ (by obtain⟨id,ob,U,V⟩:=ho;exact⟨id,ob,al id ob U,V⟩),λu=>Xn b u ho⟩) (λb H=>⟨hs.ro.up b H,λu=>by grind⟩)
  exact⟨this.ro,this.tm,this.mb.VA (λb h=> .inl h)⟩
 have hm2:m.M (λb=>D b∧ ¬X b) nu (O i0) (λb=>f.Z b∨X b) (Y i0) w:=by
  have hy:s.y=Y i0:=A.y;rw[<-hy];exact m.step hm hs.ro A.yL hs2.ro (λc v hr hc=>A.raD hFX hr hc) (λ_ h=> .inl h.1) (λb h=>(Classical.em (X b)).elim (λq=> .inr (.inr q)) (λq=> .inl ⟨h,q⟩)) (λb H=>H.elim (λq=>⟨(hz.1 b q).1,λhd=>(hz.1 b q).2 hd.1,.inl q⟩) (λq=>⟨(XD b q).2,λhd=>hd.2 q,.inr (.inl (own0 b q))⟩)) (aeo hn A.n)
 have hmn:m.n0<=(O i0).length:=aeo hn A.n
 have ht0:∀(i:Nat)c,t0[i]?=some c->c.wf (O i0).length=true:=λi c hc=>by
  rcases(B4 A.t).2 i c hc with e|e
  ·rw[e];rfl
  ·exact e.2
 refine wpIn_rangeFunc (F:=WF f.r) (n:=9) (λfn _=>?_);obtain⟨l,mk,w1,Z1,q,D1,hent,hq,⟨rfl,rfl,rfl⟩,hl,hL,H,hM1,hS1,hDD,hDD',hZZ⟩:=I4 (f:=f.wz (λb=>f.Z b∨X b)) m hm2 hs2 fn ps assign body;obtain⟨St,hSt⟩:∃St:Nat->Prop,St=λb=>b<w.heap.size∧D b∧ ¬owned nu s.o b:=⟨_,rfl⟩;have hno:∀b,b<w.heap.size-> ¬owned nu s.o b-> ¬owned nu (O i0) b:=λb U V=>((A.yL (nu:=nu) (w:=w) (Z:=λ_=>False)).keep b U V (λh=>h)).2;have hXZ:∀b,X b->Z1 b:=λb u=>hZZ b (.inr u);have hXl:∀b,X b->b≠l:=λb u e=>hl (e ▸ hXZ b u);have hl': ¬(λb=>Z1 b∧ ¬X b) l:=λh=>hl h.1;have hZr':∀l,(f.wz (λb=>Z1 b∧ ¬X b)).r=some l->m.fix l:=hZr
 have hXnote:∀b,X b->∀ob,w1.heap[b]?=some ob->yt ob=false:=λb u ob hob=>by
  rw[H.block b (XD b u).2]at hob
  cases hn:yt ob with
  |false=>rfl
  |true=>exact absurd (own0 b u) (nY hs.ro hob hn)
 have hcore:Core m (f.wz (λb=>Z1 b∧ ¬X b)) (O i0).length l t0 {a with defers:=mk++a.defers} St q D1 nu (O i0) (Y i0) X X w1:=by
  have e:(λb=>(f.wz (λb=>Z1 b∧ ¬X b)).Z b∨X b∨b=l)=(λb=>Z1 b∨b=l):=funext λb=>propext ⟨λh=>h.elim (λq=> .inl q.1) (λq=>q.elim (λq=> .inl (hXZ b q)) .inr),λh=>h.elim (λq=>(Classical.em (X b)).elim (λu=> .inr (.inl u)) (λu=> .inl ⟨q,u⟩)) (λq=> .inr (.inr q))⟩
  refine⟨by grind,⟨hS1.ro,hS1.tm,hS1.mb.base,?_,hS1.mb.loop⟩,λb h=>⟨λhh=>hh.2 h,hXl b h⟩,λb h=>h,λb h=>aep (XD b h).2 H.size,λb h h'=>absurd h h',Xn,λb h=>?_,hL,aen _⟩
  ·obtain⟨rs,k1,k2,k3⟩:=hS1.mb.marks;exact⟨rs,k1,k2,λx u=>⟨(k3 x u).1,⟨(k3 x u).2.1,λhxx=>by have:=hXnote x hxx _ (k3 x u).2.2;cases this⟩,(k3 x u).2.2⟩⟩
  ·rw[hSt]at h;exact⟨hDD b h.1 ⟨h.2.1,λu=>h.2.2 (own0 b u)⟩,hno b h.1 h.2.2,aep h.1 H.size⟩
 let pr:=I3 (P:=P) At nx hmx m (f.wz (λb=>Z1 b∧ ¬X b)) (O i0).length l t0 {a with defers:=mk++a.defers} St q O Y ok Q hmn hZr' hl' ht0 hq hA hB har hnx hround
 have hFI:∀b,Fz (λb=>D b∧ ¬(b<w.heap.size∧∃id ob,id∉ids∧s.o[id]?=some (some ob)∧dX (nu id ob.hl)=some b)) (λk len=>nu (sig ids s.o.length k) len) oI w b->w1.heap[b]?=w.heap[b]? ∧Fz (λb=>St b∨X b∨w1.heap.size<=b) (λk len=>nu (sig ids s.o.length k) len) oI w1 b:=λb W=>by
  refine⟨H.block b W.1,aep W.1 H.size,W.2.1,.inl ?_⟩;rw[hSt];refine⟨W.1,W.2.2.1,λ⟨id,ob,U,V⟩=>?_⟩
  by_cases hmem:id∈ids
  ·obtain⟨k,hk⟩:=List.getElem?_of_mem hmem;have e:=congrArg (λl=>l[k]?) hids;simp only[List.getElem?_map,hk,Option.map_some,U]at e
   cases hy:oI[k]? with
   |none=>grind
   |some y=>
    rw[hy]at e;simp only[Option.map_some,Option.some.injEq]at e;obtain⟨ob0,rfl,rfl⟩:=Option.map_eq_some_iff.1 e.symm;refine W.2.1 ⟨k,ob0,hy,?_⟩
    grind[aa.gL]
  ·exact W.2.2.2 ⟨W.1,id,ob,hmem,U,V⟩
 have hcalls:=hseq.2 l pr (λhc rest rest' X T w hp hJ=>by
  obtain⟨k,D,nu,U,V⟩:=hJ
  exact⟨k,D,nu,hpm hc k rest rest' hp U,V⟩) (λb=>St b∨X b∨w1.heap.size<=b) (λk len=>nu (sig ids s.o.length k) len) w1 ca X (ro0.keep (λb ho=>⟨H.block b (ro0.bL ho),.inr (.inl (by rw[hX];exact ho))⟩) (λb h=> .inr (.inr h)) hFI)
  ⟨by rw[<-hca.len,cQ],λi c v q1 q2=>((hca.at' i (c.ba (sig ids s.o.length)) v (by grind[cr]) q2).Gw (f:=sig ids s.o.length) (n:=ids.length) fz0 hdr0 c (cG hcaps q1) rfl).keep hFI⟩
  (λb H=>by rw[hX];exact H) (λb h=>by rw[hX]at h;exact h) (λb hlt hd=>hd.elim .inr (λh=>h.elim .inl (λh=>zd))) (λb h=>(hcore.st b h).2.2) ⟨i0,D1,nu,hat0,h0,hcore⟩
 refine⟨l,mk,w1,{target:= .fn (.func gf) ca,args:= #[.func (.yield l) #[] #[]]},w1,gf, #[.func (.yield l) #[] #[]]++ca,w1,hent,?_,λf' _=>trivial,?_,λh=>zk,?_⟩
 ·simp only[resolve,hgv'];simp[go_sem]
 ·simp[invoke,go_sem,kW hseq.1]
 ·refine nI (hcalls.mono λe w3 he=>?_);obtain⟨⟨v,rfl⟩,X',T',he⟩:=he
  rcases he with⟨k,D3,nu3,U,hok,h3⟩|⟨e,D3,nu3,o3,y3,U,V,h3⟩
  ·obtain⟨k1,k2⟩:=h3.done hZr' hl' {q with state:= .exhausted};have hend:=run_endLoop (P:=P) h3.pN (by grind);rw[hq.2.1]at hend;rw[show({q with state:= .exhausted}:Loop)={q with state:= .exhausted}from rfl]at k1
   have k0:({q with state:= .exhausted,pending:=none}:Loop)={q with state:= .exhausted}:=by
    grind
   refine⟨none,_,hend,?_⟩
   first
    |exact hR .normal _ (λb=>Z1 b∧ ¬X b) ⟨t0,O k,Y k⟩ _ _ nu3 k1 k2 (hfin k U hok)
    |(rw[<-k0]at k1 k2;exact hR .normal _ (λb=>Z1 b∧ ¬X b) ⟨t0,O k,Y k⟩ _ _ nu3 k1 k2 (hfin k U hok))
  ·refine⟨some e.code,_,run_endLoop (P:=P) h3.pN zk,?_⟩;obtain⟨k1,k2⟩:=h3.done hZr' hl' {({q with state:= .done,pending:=some e.code}:Loop)with state:= .exhausted};have hh:=hR e _ (λb=>Z1 b∧ ¬X b) ⟨t0,o3,y3⟩ _ _ nu3 k1 k2 V
   cases e with
   |normal=>grind
   |exit i=>exact wpIn_exit hh
   |goto i=>exact wpIn_goto hh
   |ret=>exact wpIn_ret hh
theorem xL{n0:Nat}{s:AS}{Q:bd->AS->Prop}{g:Operand}{ps:Array Tmp}{assign body:Code}{gf:FuncId}{caps0:C5}{oI:AC}{L:List C5}(u:ur P gf caps0 oI L)(ids:Do)(W:ids.Nodup)
  (H:ids.map (λi=>s.o[i]?)=oI.map (λx=>some (x.map (aa.ba (sig ids s.o.length)))))(U:∀(k:Nat)ob,oI[k]?=some (some ob)->bD ids.length ob.rows=true)(O:Nat->AC)(Y:Nat->kz)(ok:Nat->Prop)(h0:ok 0)(t0:C5)
  (hg:s.ev g=.fn gf [] (bV (sig ids s.o.length) caps0))(hcaps:aU ids.length caps0=true)(hdead:∀i,i∈ids->∀ob,(O 0)[i]? ≠ some (some ob))(V:Wk n0 s ⟨t0,O 0,Y 0⟩)(hA:bX assign=true)(hB:bX body=true)(har:∀x,x∈L->x.length=ps.size)
  (hround:∀k x,ok k->L[k]?=some x->cD P (O 0).length assign ⟨iB ps.toList x t0,O k,Y k⟩ (nr P (O 0).length body (oP (O 0).length t0 (ok (k+1)) (O (k+1)) (Y (k+1)) Q)))
  (hfin:ok L.length->Q .normal ⟨t0,O L.length,Y L.length⟩):cD P n0 (.rangeFunc g ps assign body) s Q:=by
 have key:∀(k:Nat)x rest,L.drop k=x::rest->L[k]?=some x∧L.drop (k+1)=rest∧k<L.length:=λk x rest h=>by
  grind[Nat.lt_or_ge,List.drop_eq_nil_of_le,List.drop_eq_getElem_cons,List.cons.inj,aeC]
 refine xK (c:=false) ⟨u.1,λl pr _=>u.2 l pr⟩ (λ(k:Nat)rest=>L.drop k=rest∧k<=L.length) (λk _=>k+1) 0 ⟨rfl,Nat.zero_le _⟩ (λk x rest h=>⟨(key k x rest h.1).2.1,(key k x rest h.1).2.2⟩) (λh=>by cases h) ids W H U O Y ok h0 t0 hg hcaps hdead V hA hB (λk x rest h=>har x (aeQ (key k x rest h.1).1)) (λk x rest A h=>hround k x A (key k x rest h.1).1) (λk h A=>?_)
 grind[List.drop_eq_nil_iff]
theorem Hr{n0:Nat}{s:AS}{Q:bd->AS->Prop}{g:Operand}{ps:Array Tmp}{assign body:Code}{gf:FuncId}{caps:C5}{L:List C5}(u:Hc true P gf caps [] L)(O:List C5->AC)(ok:List C5->Prop)(h0:ok [])(t0:C5)
  (hg:s.ev g=.fn gf [] caps)(hcaps:aU 0 caps=true)(H:Wk n0 s ⟨t0,O [],s.y⟩)(hA:bX assign=true)(Y:bX body=true)(V:∀x,x∈L->x.length=ps.size)
  (hround:∀vis x rest,ok vis->(vis++x::rest).Perm L->cD P (O []).length assign ⟨iB ps.toList x t0,O vis,s.y⟩ (nr P (O []).length body (oP (O []).length t0 (ok (vis++[x])) (O (vis++[x])) s.y Q)))
  (A:∀vis,vis.Perm L->ok vis->Q .normal ⟨t0,O vis,s.y⟩):cD P n0 (.rangeFunc g ps assign body) s Q:=
 xK (c:=true) u (λvis rest=>(vis++rest).Perm L) (λvis x=>vis++[x]) [] (.refl _) (λk x rest h=>by simpa using h) (λ_ k rest rest' W h=>(W.symm.append_left k).trans h) [] afb rfl (λk ob h=>by simp at h) O (λ_=>s.y) ok h0 t0 (by grind[fJ]) hcaps (λi h=>by simp at h) H hA Y
  (λk x rest h=>V x (h.mem_iff.1 (List.mem_append_right _ List.mem_cons_self))) hround (λk h U=>A k (by simpa using h) U)
theorem LA{n0:Nat}{s:AS}{Q:bd->AS->Prop}{g:Operand}{ps:Array Tmp}{assign body:Code}{gf:FuncId}{caps:C5}{L:List C5}(u:ur P gf caps [] L)(O:Nat->AC)(Y:Nat->kz)(ok:Nat->Prop)(h0:ok 0)(t0:C5)
  (hg:s.ev g=.fn gf [] caps)(hcaps:aU 0 caps=true)(H:Wk n0 s ⟨t0,O 0,Y 0⟩)(W:bX assign=true)(V:bX body=true)(U:∀x,x∈L->x.length=ps.size)
  (hround:∀k x,ok k->L[k]?=some x->cD P (O 0).length assign ⟨iB ps.toList x t0,O k,Y k⟩ (nr P (O 0).length body (oP (O 0).length t0 (ok (k+1)) (O (k+1)) (Y (k+1)) Q)))
  (A:ok L.length->Q .normal ⟨t0,O L.length,Y L.length⟩):cD P n0 (.rangeFunc g ps assign body) s Q:=
 xL u [] afb rfl (λk ob h=>by simp at h) O Y ok h0 t0 (by grind[fJ]) hcaps (λi h=>by simp at h) H W V U hround A
theorem K6(P:Program)(rs:List ResultVar)(l:Nat)(s:AS):NC P rs l .ret s=qK (pw P s rs) s.o (λ_ _=>s.y=.run l []∨s.y=.off):=rfl
theorem BT(P:Program)(rs:List ResultVar)(l:Nat)(s:AS):NC P rs l .normal s=qK (pw P s rs) s.o (λ_ _=>s.y=.run l []∨s.y=.off):=rfl
theorem GZ(N:Nat)(t0:C5)(p:Prop)(o':AC)(u:kz)(Q:bd->AS->Prop)(i:Nat)(s:AS):oP N t0 p o' u Q (.exit i) s=Q (.exit i) ⟨t0,s.o,s.y⟩:=rfl
theorem G0(N:Nat)(t0:C5)(p:Prop)(o':AC)(u:kz)(Q:bd->AS->Prop)(i:Nat)(s:AS):oP N t0 p o' u Q (.goto i) s=Q (.goto i) ⟨t0,s.o,s.y⟩:=rfl
theorem K5(N:Nat)(t0:C5)(p:Prop)(o':AC)(u:kz)(Q:bd->AS->Prop)(s:AS):oP N t0 p o' u Q .ret s=Q .ret ⟨t0,s.o,s.y⟩:=rfl
theorem BS(N:Nat)(t0:C5)(p:Prop)(o':AC)(u:kz)(Q:bd->AS->Prop)(s:AS):oP N t0 p o' u Q .normal s=(p∧Wk N ⟨t0,s.o,s.y⟩ ⟨t0,o',u⟩):=rfl
theorem zL(P:Program)(N:Nat)(body:Code)(R:bd->AS->Prop)(s:AS):nr P N body R .normal s=cD P N body s R:=rfl
attribute [go_sem] K6 BT GZ G0 K5 BS zL iB
theorem uA{n0:Nat}{Q:bd->AS->Prop}{ι:Type}{c:Code}{t:C5}{o:AC}{y:kz}(m:Nat)(upd:ι->O1)(ob:ι->AC)(yy:ι->kz)(mu:ι->Nat)(ok:ι->Prop)(i0:ι)(u:ok i0)(A:Wk n0 ⟨t,o,y⟩ ⟨lV (cO m t) (upd i0),ob i0,yy i0⟩)
  (h:∀i,ok i->∀K:AS->Prop,(∀s2,aw n0 (λi=>⟨lV (cO m t) (upd i),ob i,yy i⟩) mu ok (mu i) s2->K s2)->cD P n0 c ⟨lV (cO m t) (upd i),ob i,yy i⟩ (pj K Q)):cD P n0 (.loop c) ⟨t,o,y⟩ Q:=
 mG (λi=>⟨lV (cO m t) (upd i),ob i,yy i⟩) mu ok i0 _ .refl A u h
end
section
variable {P:Program}
theorem rA{n0:Nat}{Q:bd->AS->Prop}{t:C5}{o:AC}{y:kz}{g:Operand}{ps:Array Tmp}{assign body:Code}{gf:FuncId}{caps:C5}{L:List C5}(q:ur P gf caps [] L)(m:Nat)(O:Nat->AC)(ok:Nat->Prop)(Y:ok 0)
  (U:(AS.mk t o y).ev g=.fn gf [] caps)(hcaps:aU 0 caps=true)(A:Wk n0 ⟨t,o,y⟩ ⟨cO m t,O 0,y⟩)(W:bX assign=true)(V:bX body=true)(H:∀x,x∈L->x.length=ps.size)
  (hround:∀k x,ok k->L[k]?=some x->cD P (O 0).length assign ⟨iB ps.toList x (cO m t),O k,y⟩ (nr P (O 0).length body (oP (O 0).length (cO m t) (ok (k+1)) (O (k+1)) y Q)))
  (u:ok L.length->Q .normal ⟨cO m t,O L.length,y⟩):cD P n0 (.rangeFunc g ps assign body) ⟨t,o,y⟩ Q:=
 LA q O (λ_=>y) ok Y (cO m t) U hcaps A W V H hround u
def Ee(s s':AS):Prop:=∀(f:Fr)(D:Nat->Prop)(nu:EQ)(a:Act)(w:World),RS f D nu s a w->∃nu',cf nu s.o w nu' s'.o w∧s'.y=s.y∧RS f D nu' s' a w
theorem uy{n0:Nat}{s s':AS}{c:Code}{Q:bd->AS->Prop}(V:Ee s s')(q:bX c=true)(h:cD P n0 c s' Q):G3 P n0 c s Q:=λf m D nu a w A hn W H u R hO Y=>by
 obtain⟨nu',h1,U,O⟩:=V f D nu a w H;exact gO u m A hn c q s' a w D nu' f.Z Q R hO (by rw[U];exact m.own W H.ro h1 O.ro) O h Y
theorem bl{n0 id:Nat}{s s':AS}{ops:Array Oper}{d:Bool}{Q:bd->AS->Prop}(u:Ee s s')(q:dP ops=true)(h:cD P n0 (.region id ops d) s' Q):cD P n0 (.region id ops d) s Q:=by
 have:=uy (P:=P) (n0:=n0) (c:= .region id ops d) (Q:=Q) u q h
 cases d
 ·exact .inr this
 ·exact .inr this
theorem ai.Ct{f:FuncId}{args args':C5}{o:AC}{r:AV}{K:AV->AC->Prop}(h:aj P f args' r)(n:Nat){p:Prop}(W:ja o n args=some (p,args'))(hp:p)(hf:r.flat=true)(k:K r o):ai P f args o K:=by
 refine .inr (.inr ⟨h.2.1,λD nu w vargs q u=>?_⟩);obtain⟨hl,A⟩:=(pE q n).2 _ _ _ W hp
 have hra':gC (Jz D nu [] w) nu [] w args' vargs:=⟨by rw[<-hl];exact u.len,λi c x U O=>by
  have hi:i<args.length:=by grind
  exact(A i _ c x (aeC hi) U (u.at' i _ x (aeC hi) O)).mono (.refl _ _ _) (λb _ H=>λV=>⟨V,br _ _,H⟩)⟩
 refine(h.2.2 (λ_=>True) nu w vargs (.nil _ _ _ (λ_ _=>trivial) (q.gl.nil (λ_ _ _=>trivial))) ⟨hra'.len,λi c x U O=>(hra'.at' i c x U O).mono (.refl _ _ _) (λ_ _ _=>trivial)⟩).mono ?_;rintro e w' ⟨v,nu',o',r',rfl,hm,_,Y,rfl,rfl⟩;have H:=jl hm;exact⟨_,nu,o,_,rfl,aG H,q.below H,Y.flat hf,k⟩
end
attribute [go_sem] List.zip_cons_cons List.zip_nil_left List.zip_nil_right
end Go.Proofs.YtlhhccmopfamhaaGreatDoor
