/- texts of one claim, one behind the other. -/
import Derived.Test.YtlhhccmopfamhaaGreatDoorVLent
import Derived.Test.YtlhhccmopfamhaaGreatDoorVMat
import Derived.Test.YtlhhccmopfamhaaGreatDoorVFen
import Derived.Test.YtlhhccmopfamhaaGreatDoorVAbsV
import Derived.Sort.Grow
import Derived.WalkKit
import Derived.Shelf.GgSortFunc.InsertionK
import Derived.Shelf.SlSortCmp.NoneTotal
import Derived.Lib.ItoaNum
set_option linter.unusedSimpArgs false
set_option linter.unusedVariables false
set_option maxRecDepth 100000
set_option maxHeartbeats 16000000
open Array renaming getElem?_eq_some_iff -> aeh, getElem?_eq_getElem -> aer, getElem?_eq_none -> agl
open Bool renaming and_eq_true -> aeW, and_true -> afe, not_eq_true' -> afo, and_self -> agp, true_and -> afi, false_eq_true -> afq
open List renaming getElem?_eq_getElem -> aes, length_nil -> aeg, map_cons -> afZ, mem_cons_of_mem -> aeX, length_cons -> ae0, replicate_succ -> afJ, replicate_zero -> afK, cons_append -> afz, nil_append -> afy, set_cons_zero -> afH, setIfInBounds_toArray -> afF, set_cons_succ -> afG, getElem?_eq_some_iff -> aek, pairwise_map -> agm, append_nil -> agn, getD_eq_getElem?_getD -> aeS, map_set -> ago, length_pos_iff -> ags, map_nil -> agt, getElem?_cons_zero -> afr, getElem?_cons_succ -> afs, pairwise_iff_getElem -> agu, length_map -> agv, mem_singleton -> af3, mem_append -> af2, foldl_append -> agw, append_assoc -> agx, findIdx?_eq_none_iff -> afk, findIdx?_eq_some_iff_getElem -> afj, nodup_append -> agy, length_append -> aem, length_singleton -> agz, mem_append_left -> afX
open List.cons renaming injEq -> agk
open Nat renaming le_refl -> aed, lt_or_ge -> aei, lt_add_one -> agq, zero_lt_one -> agr
open Option renaming map_some -> aeE, getD_some -> agA
open Option.some renaming injEq -> aep
namespace Go.Proofs.YtlhhccmopfamhaaGreatDoor
open Go.RowKit
open Go.Proofs.Tryz
section
section
variable {o:AC} {P:Program}
theorem bC.v(x:Value):bC o (.v x) (.v x):=λD nu w y u q=>by rw[q.di];exact .v x
theorem bC.ck{l m:C5}(h:xw o l m):bC o (.ck l) (.ck m):=λD nu w x q u=>by
 obtain⟨W,U⟩:=h.at'
 cases u with
 |ck _ xs V O=>
  refine .ck _ _ zd λi c y H A=>?_
  have hi:i<l.length:=by grind
  exact U i _ c (aes hi) H D nu w y q (O i _ y (aes hi) A)
theorem bC.ptr{id z:Nat}{ob:aa}{row cs:C5}(ho:o[id]?=some (some ob))(hv:ob.fc=false)(hr:ob.rows=[row])(hz:ob.z≠0)(h:xw o row cs):bC o (.ptr id 0 z 0 0) (.vp cs):=λD nu w x A hra=>by
 obtain⟨hl,V⟩:=h.at'
 cases hra with
 |ptr _ _ _ _ _ b h1 h2=>
 rcases A.obj id ob ho with⟨e1,e2,e3⟩|⟨g,cur,u⟩|⟨g,es,cl,hmp⟩
 ·grind
 ·have U:=u.qq;rw[aa.hl,hv,if_neg zs]at U;rw[U]at h2;cases h2
  have q:ob.rows[0]?=some row:=by rw[hr];rfl
  have H:∀(j:Nat)c,cs[j]?=some c->∃W,row[j]?=some W∧cur[0*ob.z+j]?=some (cur.getD (0*ob.z+j) Go.undef):=λj c O=>by
   have hj:j<row.length:=by grind
   have:=u.qZ q hj
   simp_all
  refine .vp _ b _ (λj=>cur.getD (0*ob.z+j) Go.undef) ⟨(aeh.1 u.ez).1,br _ _,u.o4⟩ (λj c O=>?_) (λj c O=>?_) (λj c O=>?_)
  all_goals obtain⟨W,k1,Y⟩:=H j c O
  ·have hblk:=u.ez;simp only[Nat.zero_mul,Nat.zero_add]at Y⊢
   grind[World.cell?]
  ·exact V j W c k1 O D nu w _ A (u.cell 0 j row W _ q k1 Y)
  ·exact u.one 0 j row W _ q k1 Y
 ·exact absurd hmp.z hz
theorem bC.U3{id len:Nat}{ob:aa}(ho:o[id]?=some (some ob))(Y:ob.fc=true)(hl:ob.rows.length=len){rows':List C5}(hlen:rows'.length=ob.rows.length)
  (hr:∀(i:Nat)row row',ob.rows[i]?=some row->rows'[i]?=some row'->xw o row row'):bC o (.vec id len) (.aA ob.z rows' len):=λD nu w x W hra=>by
 have hx:x=nu id len:=by
  cases hra with
  |vec=>rfl
 subst hx;subst hl
 have get:∀(i:Nat)row',rows'[i]?=some row'->∃row,ob.rows[i]?=some row∧row'.length=row.length∧∀(j:Nat)O,row'[j]?=some O->∃c,row[j]?=some c∧bC o c O:=λi row' h=>by
  have hi:i<ob.rows.length:=by grind
  obtain⟨h1,h2⟩:=(hr i _ row' (aes hi) h).at'
  grind
 rcases W.obj id ob ho with⟨e1,e2,e3⟩|⟨g,cur,u⟩|⟨g,es,cl,hmp⟩
 rotate_left 2
 ·rw[hmp.fc]at Y;cases Y
 ·rw[e2]at hlen⊢;obtain rfl:=List.eq_nil_of_length_eq_zero hlen;simp only[aeg];rw[e3];exact .b6 _
 ·obtain⟨cap,q1,q2,q3,q4⟩:=u.vec Y;rw[q1]
  have q:∀(i j:Nat)row c,ob.rows[i]?=some row->row[j]?=some c->cur[i*ob.z+j]?=some (cur.getD (i*ob.z+j) Go.undef):=λi j row c H V=>by
   have:=u.qZ H (List.getElem?_eq_some_iff.1 V).1
   simp_all
  refine .aA _ _ _ g 0 cap (λi j=>cur.getD (i*ob.z+j) Go.undef) zd zd q3 (λ_=>⟨(aeh.1 u.ez).1,br _ _,u.o4⟩) (λi row' H=>?_) (λi j row' O H V=>?_) (λi j row' O H V=>?_) (λi j row' O H V=>?_)
  ·obtain⟨row,A,r2,_⟩:=get i row' H;rw[r2];exact u.row i row A
  all_goals
   obtain⟨row,A,r2,r3⟩:=get i row' H;obtain⟨c,U,r5⟩:=r3 j O V
  ·rw[<-q i j row c A U]
   have:=u.ez
   grind[World.cell?]
  ·exact r5 D nu w _ W (u.cell i j row c _ A U (q i j row c A U))
  ·exact u.one i j row c _ A U (q i j row c A U)
theorem aj.ofG{f:FuncId}{args:C5}{r:AV}{Q:AV->AC->Prop}(h:ft P f args [] Q)(ha:aQ 0 args=true)(V:r.wf 0=true)(U:∀u o,Q u o->bC o u r):aj P f args r:=by
 refine⟨⟨ha,V⟩,h.1,λD nu w vargs A H=>(h.2 D nu w vargs A H).mono ?_⟩;rintro e w' ⟨v,nu',o',u,rfl,q,hro',hra',W⟩;have O:cf nu [] w nu' [] w':=⟨q.os,q.tape,q.output,q.size,λid len hh=>by obtain⟨x,k,_⟩:=hh;simp at k,λb hb Y=>⟨(q.keep b hb Y).1,br _ _⟩⟩;exact⟨v,nu',[],r,rfl,O,(.nil _ _ _ hro'.up (hro'.gl.nil (λ_ _ h=>h))),U _ _ W _ _ _ _ hro' hra',rfl,rfl⟩
theorem aj.iy{f:FuncId}{fn:Func}{c:Code}{args:C5}{r:AV}(O:P.funcs[f]?=some fn)(V:fn.body=some c)(U:fQ P f=true)(q:bY c=true)(u:P.follows .mixedOrders=true)
  (W:aQ 0 args=true)(H:r.wf 0=true)(h:cD P 0 c ⟨args++List.replicate (fn.ntmps-args.length) .undef,[],.no⟩ (BY P fn.results.toList (λA o=>bC o A r))):aj P f args r:=
 .ofG (ft.enter (o:=[]) O V U q u h) W H λ_ _ h=>h
end
mutual
theorem DB{f g:Nat->Nat}{m:Nat}(q:∀k,k<m->f k=g k):∀a:AV,a.wf m=true->a.bb f=a.bb g
 | .undef,_=>rfl
 | .v _,_=>rfl
 | .agg cs,h=>by rw[AV.bb,AV.bb,mo q cs h]
 | .ck cs,h=>by rw[AV.bb,AV.bb,mo q cs h]
 | .aA z rows len,h=>by rw[AV.bb,AV.bb,xm q rows h]
 | .vp cs,h=>by rw[AV.bb,AV.bb,mo q cs h]
 | .ptr id _ _ _ _,h=>by grind[AV.wf,AV.bb,id]
 | .vec id _,h=>by grind[AV.wf,AV.bb,id]
 | .fn g a b,h=>by
  simp only[AV.wf,aeW]at h;rw[AV.bb,AV.bb,mo q a h.1,mo q b h.2]
 | .full a,h=>by rw[AV.bb,AV.bb,DB q a h]
 | .ju p a,h=>by rw[AV.bb,AV.bb,DB q a h]
 | .mp rows,h=>by rw[AV.bb,AV.bb,xm q rows h]
theorem mo{f g:Nat->Nat}{m:Nat}(q:∀k,k<m->f k=g k):∀l:C5,aQ m l=true->bW f l=bW g l
 | [],_=>rfl
 |a::l,h=>by
  simp only[aQ,aeW]at h;rw[bW,bW,DB q a h.1,mo q l h.2]
theorem xm{f g:Nat->Nat}{m:Nat}(q:∀k,k<m->f k=g k):∀l:List C5,bE m l=true->cm f l=cm g l
 | [],_=>rfl
 |a::l,h=>by
  simp only[bE,aeW]at h;rw[cm,cm,mo q a h.1,xm q l h.2]
end
theorem Dt{f g:Nat->Nat}{m:Nat}(q:∀k,k<m->f k=g k):∀l:AC,(∀ob,some ob∈l->bE m ob.rows=true)->l.map (Option.map (aa.bb f))=l.map (Option.map (aa.bb g))
 | [],_=>rfl
 |none::l,h=>by rw[afZ,afZ,Dt q l (λob u=>h ob (aeX _ u))];rfl
 |some ob::l,h=>by
  rw[afZ,afZ,Dt q l (λob u=>h ob (aeX _ u)),Option.map_some,Option.map_some,aa.bb,aa.bb,xm q _ (h ob List.mem_cons_self)]
theorem ah.ab6{P:Program}{f:FuncId}{args0:C5}{pre o0 o1 post:AC}{q:AV}{K:AV->AC->Prop}(h:bT P f args0 o0 q o1)(hl:o1.length=o0.length)
  (A:aQ o0.length args0=true)(O:∀ob,some ob∈o0->bE o0.length ob.rows=true)(H:∀ob,some ob∈o1->bE o0.length ob.rows=true)(V:q.wf o0.length=true)
  (k:K (q.bb (λj=>pre.length+j)) (pre++o1.map (Option.map (aa.bb (λj=>pre.length+j)))++post)):ah P f (bW (λj=>pre.length+j) args0) (pre++o0.map (Option.map (aa.bb (λj=>pre.length+j)))++post) K:=by
 have u:∀j,j<o0.length->sig (List.range' pre.length o0.length) (pre++o0.map (Option.map (aa.bb (λj=>pre.length+j)))++post).length j=pre.length+j:=λj U=>by
  rw[sig,if_pos (by grind),List.getD_eq_getElem?_getD,List.getElem?_range' U];simp
 refine ah.fr (List.range' pre.length o0.length) h List.nodup_range' ?_ (mo u _ A).symm (by grind) (λj ob U=>by grind) ?_
 ·have e2:=Dt u o0 O
  have e3:∀L:AC,pre++o0.map (Option.map (aa.bb (λj=>pre.length+j)))++post=L->(List.range' pre.length o0.length).map (λi=>L[i]?)=(o0.map (Option.map (aa.bb (λj=>pre.length+j)))).map some:=by
   rintro L rfl;refine List.ext_getElem zk λj Y W=>?_
   grind
  simp_all
 ·have e:=tO (sig (List.range' pre.length o0.length) (pre++o0.map (Option.map (aa.bb (λj=>pre.length+j)))++post).length) o1 (o0.map (Option.map (aa.bb (λj=>pre.length+j)))) pre post (by grind);rw[hl]at e;rw[e,DB u q V,Dt u o1 H];exact k
theorem bC.Ag{o:AC}{z len:Nat}{rows:List C5}(h:bE 0 rows=true):bC o (.aA z rows len) (.aA z rows len):=bC.of 1 (p:=(AV.aA z rows len).wf 0=true) (by grind[jD]) (by grind[AV.wf])
theorem bC.sj{o:AC}{id len:Nat}{ob:aa}(A:o[id]?=some (some ob))(u:ob.fc=true)(hl:ob.rows.length=len)(q:bE 0 ob.rows=true):bC o (.vec id len) (.aA ob.z ob.rows len):=bC.of 1 (p:=ob.fc=true∧ob.rows.length=len∧bE 0 ob.rows=true) (by rw[jD,A]) ⟨u,hl,q⟩
theorem HM{P:Program}{n0:Nat}{Q:bg->AS->Prop}{t:C5}{o:AC}{y:kB}{g:Operand}{ps:Array Tmp}{assign body:Code}{gf:FuncId}{caps:C5}{L:List C5}(q:Hj true P gf caps [] L)(m:Nat)(O:List C5->AC)(ok:List C5->Prop)(Y:ok [])
  (U:(AS.mk t o y).ev g=.fn gf [] caps)(hcaps:aQ 0 caps=true)(A:Wk n0 ⟨t,o,y⟩ ⟨cO m t,O [],y⟩)(W:bY assign=true)(V:bY body=true)(H:∀x,x∈L->x.length=ps.size)
  (hround:∀vis x rest,ok vis->(vis++x::rest).Perm L->cD P (O []).length assign ⟨iz ps.toList x (cO m t),O vis,y⟩ (nA P (O []).length body (oY (O []).length (cO m t) (ok (vis++[x])) (O (vis++[x])) y Q)))
  (u:∀vis,vis.Perm L->ok vis->Q .normal ⟨cO m t,O vis,y⟩):cD P n0 (.rangeFunc g ps assign body) ⟨t,o,y⟩ Q:=
 Hz q O ok Y (cO m t) U hcaps A W V H hround u
def Xr:C5->C5
 | [.agg r]=>r
 |_=>[]
def gr(ks:So):List C5:=ks.map λk=>[.agg (bJ k)]
theorem MW{ks:So}{vis:List C5}(h:vis.Perm (gr ks)):∃q:So,q.Perm ks∧vis=gr q:=by
 have key:∀(a b:List C5),a.Perm b->∀ks,b=gr ks->∃q:So,q.Perm ks∧a=gr q:=by
  intro a b h
  induction h with
  |nil=>exactλks e=>⟨ks,.refl _,e⟩
  |cons x _ ih=>
   intro ks e
   cases ks with
   |nil=>simp[gr]at e
   |cons k ks=>
    simp only[gr,afZ,agk]at e;obtain⟨q,O,H⟩:=ih ks e.2;exact⟨k::q,O.cons k,by rw[e.1,H];rfl⟩
  |swap x y l=>
   intro ks e
   match ks,e with
   | [],e=>simp[gr]at e
   | [k],e=>simp[gr]at e
   |k::W::ks,e=>
    simp only[gr,afZ,agk]at e;exact⟨W::k::ks,.swap _ _ _,by rw[e.1,e.2.1,e.2.2];rfl⟩
  |trans _ _ A u=>
   intro ks e;obtain⟨V,O,H⟩:=u ks e;obtain⟨U,h3,Y⟩:=A V H;exact⟨U,h3.trans O,Y⟩
 exact key _ _ h ks rfl
theorem uh(n:Nat)(l:So):bE n (l.map bJ)=true:=bt _ (λ_=>rfl) l
attribute [go_sem] uh
theorem Wu(l:List (K2×Int)):aj prog 64 [.mp (cg bJ l)] (.fn 99 [] [.vp [.mp (cg bJ l)]]):=by
 have eW:∀n,bE n (cg bJ l)=true:=λn=>gp (λ_=>rfl) l
 have u:aQ 0 [.mp (cg bJ l)]=true:=by simp only[aQ,AV.wf,eW,afe]
 have q:(AV.fn 99 [] [.vp [.mp (cg bJ l)]]).wf 0=true:=by simp only[aQ,AV.wf,eW,afe]
 (refine aj.iy func64 rfl zo zo rfl u q ?_;simp only[ntmps64,results64,ae0,aeg,Nat.reduceAdd,Nat.reduceSub,afJ,afK,afz,afy])
 refine ag ?_;refine bC.of 6 rfl ?_;simp only[aa.hl,AV.wf,aQ,eW,afe,Bool.and_self];simp
def Yt(ks:So)(r:AV)(o:AC):Prop:=∃vis:So,vis.Perm ks∧r=.vec 1 vis.length∧o=[some ⟨129,1,false,[[.vec 1 vis.length]]⟩,some ⟨74,2,true,vis.map bJ⟩]
theorem Cn{gf:FuncId}{caps:C5}(ks:So)(hl:ks.length<=1000000)(hs:Hj true prog gf caps [] (gr ks))(V:aQ 0 caps=true) :
  ft prog 133 [.v (.slice none 0 0),.fn gf [] caps] [] (Yt ks):=by
 refine ft.enter func133 rfl zo zo rfl ?_;simp only[ntmps133,results133,ae0,aeg,Nat.reduceAdd,Nat.reduceSub,afJ,afK,afz,afy]
 (refine ag ?_;intro K hK)
 refine uB (dS (k:=0) (i:=0) (j:=0) 74 2 zs rfl (Nat.zero_lt_succ _) rfl rfl) zo ?_;simp only[ae0,aeg,Nat.reduceAdd,afz,afy,afH]
 refine HM hs 5 (λvis=>[some ⟨129,1,false,[[.vec 1 vis.length]]⟩,some ⟨74,2,true,vis.map Xr⟩]) (λvis=>∃q,vis=gr q∧q.length<=1000000) ⟨[],rfl,zk⟩ ?_ ?_ ?_ zo zo ?_ ?_ ?_
 ·(revert K;exact s8)
 ·exact V
 ·refine ab (bF ?_) ar ar
  all_goals first|exact oR zd _ V|exact⟨rfl,rfl⟩
 ·intro x O;obtain⟨o,_,rfl⟩:=List.mem_map.1 O
  rfl
 ·rintro vis x rest ⟨q,rfl,W⟩ A;have O:x∈gr ks:=A.mem_iff.1 (List.mem_append_right _ List.mem_cons_self);obtain⟨k,_,rfl⟩:=List.mem_map.1 O
  have hlen:q.length+1<=ks.length:=by
   have:=A.length_eq
   simp only[gr,List.length_append,List.length_map,ae0]at this;omega
  have e1:(gr q).length=q.length:=by simp[gr]
  have e2:(gr q).map Xr=q.map bJ:=by simp[gr,Xr]
  have e3:gr q++[[.agg (bJ k)]]=gr (q++[k]):=by simp[gr]
  have e4:(gr (q++[k])).length=q.length+1:=by simp[gr]
  have e5:(gr (q++[k])).map Xr=q.map bJ++[[.v (.string k.1),.v (.string k.2)]]:=by simp[gr,Xr,bJ]
  have U:aQ 2 caps=true:=oR zd _ V
  have eL:(q.map bJ).length=q.length:=zk
  rw[e1,e2,e3,e4,e5];have hok:∃ks'',gr (q++[k])=gr ks''∧ks''.length<=1000000:=⟨q++[k],rfl,ahn⟩;have H:=uh 2 (q++[k]);rw[List.map_append]at H;simp only[bJ,afZ,List.map_nil]at H;simp only[bJ]
  (revert K;refine ak eL ?_)
  refine ab (bF ?_) ar ar
  all_goals first|exact U|exact H|exact⟨rfl,H⟩
 ·rintro vis A ⟨q,rfl,W⟩;obtain⟨u,h1,Y⟩:=MW A
  have h3:q.length=u.length:=by simpa [gr]using congrArg List.length Y
  have h4:(gr q).map Xr=u.map bJ:=by rw[Y];simp[gr,Xr]
  have e1:(gr q).length=u.length:=by rw[Y];simp[gr]
  rw[e1,h4]
  (revert K;refine ag ?_)
  exact⟨u,h1,rfl,rfl⟩
theorem Ib{gf:FuncId}{caps:C5}(ks:So)(hl:ks.length<=1000000)(u:Hj true prog gf caps [] (gr ks))(q:aQ 0 caps=true) :
  ft prog 97 [.fn gf [] caps] [] (Yt ks):=by
 have C:=Cn ks hl u q;refine ft.enter func97 rfl zo zo rfl ?_;simp only[ntmps97,results97,ae0,aeg,Nat.reduceAdd,Nat.reduceSub,afJ,afK,afz,afy]
 (refine ag ?_;intro K hK K hK)
 refine ah.two C ?_;rintro r o' ⟨vis,A,rfl,rfl⟩
 (revert K;revert K;refine ag ?_)
 exact⟨vis,A,rfl,rfl⟩
open Go.RowKit Go.Sort
theorem IW(x:ByteArray)(w:World):Calls prog 96 #[.string x] w λe w'=>e=.returned (.bool false)∧w'=w:=by
 go_enter func96,ntmps96
 go_wp2_with fail
 go_ret
 exact⟨zk,rfl⟩
theorem OK(a b:ByteArray)(w:World):Calls prog 62 #[.string a,.string b] w λe w'=>e=.returned (.int .i64 (mB a b))∧w'=w:=by
 have q:=T0 a b;unfold mB
 cases u:Ku a b
 ·rw[u]at q;have e0:Op.bytesLess a.toList b.toList=false:=u;simp only[Bool.false_or]at q
  cases A:Ku b a
  ·rw[A]at q;simp only[Bool.false_eq_true,if_false]
   have O:(a.toList==b.toList)=true:=by simpa using q
   have H:=Lib.hid q;clear q
   go_enter func62,ntmps62
   go_wp2_with (go_at_call 96;refine(IW _ _).mono ?_;rintro e w' ⟨rfl,rfl⟩)
   go_ret
   exact⟨rfl,rfl⟩
  ·rw[A]at q;simp only[Bool.false_eq_true,if_false,if_true]
   have O:(a.toList==b.toList)=false:=by simpa using q
   have H:=Lib.hid q;clear q
   go_enter func62,ntmps62
   go_wp2_with (go_at_call 96;refine(IW _ _).mono ?_;rintro e w' ⟨rfl,rfl⟩)
   go_ret
   exact⟨rfl,rfl⟩
 ·have e0:Op.bytesLess a.toList b.toList=true:=u;simp only[if_true];have H:=Lib.hid q;clear q
  go_enter func62,ntmps62
  go_wp2_with (go_at_call 96;refine(IW _ _).mono ?_;rintro e w' ⟨rfl,rfl⟩)
  go_ret
  exact⟨rfl,rfl⟩
theorem Tg(a b:Int)(B cap:Nat)(w:World)(H:2<=cap)(A:cap<=maxLen)(U:w.cell? ⟨B,0,none⟩=some (.int .i64 a))(O:w.cell? ⟨B,1,none⟩=some (.int .i64 b)):Calls prog 61 #[.slice (some ⟨B,0,none⟩) 2 cap] w λe w'=>e=.returned (.int .i64 (I0 a b))∧w'=w:=by
 go_enter func61,ntmps61
 go_wp2_with fail
 refine wp_loop_rounds 3 ?_
 by_cases q:a=0
 ·rw[rounds_succ]
  go_wp2_with fail
  by_cases u:b=0
  ·rw[rounds_succ]
   go_wp2_with fail
   rw[rounds_succ]
   go_wp2_with fail
   go_ret
   exact⟨by rw[I0,if_neg (by simp[q]),u];rfl,rfl⟩
  ·rw[rounds_succ]
   go_wp2_with fail
   go_ret
   exact⟨by rw[I0,if_neg (by simp[q])];rfl,rfl⟩
 ·rw[rounds_succ]
  go_wp2_with fail
  go_ret
  exact⟨by rw[I0,if_pos q];rfl,rfl⟩
theorem wO{P:Program}{N:pz}{id:Nat}{Q:Exit->Act->World->Prop}{a:Act}{w:World}{l:GE}(L:List (jY N))(A:P.follows .mixedOrders=true)(H:tR l.toArray=true)(g0:N.G)(u:N.wd g0=w.drew)(q:∀j,N.pre j g0)
  (h:MM P l.toArray L g0 (Q .normal) l 0 (λ_=>a)):(Code.region id l.toArray true).wp P Q a w:=wp_region_any A (jE L H g0 u q h)
def Gz(R0 R1:World)(m:Nat):pz:=⟨Bool,λg=>if g then R1 else R0,λg g'=>g=true->g'=true,λ_ h=>h,λ_ _ _ h k e=>k (h e),λi g=>i=m->g=false⟩
def RK(R0 R1:World)(m:Nat)(val:Nat->Value)(i:Nat):jY (Gz R0 R1 m):=⟨λv g=>v=val i∧(m<=i->g=true),λv g g' hR h=>⟨h.1,λk=>hR (h.2 k)⟩⟩
theorem wj{P:Program}{u q:World}{m:Nat}{val:Nat->Value}{ops:Array Oper}{o:Oper}{a:Act}{g:Bool}{k:Nat}(A:Region.wanted o (yielded ops a.tmps)=true)(H:k<m)
  (h:(execOp a.eval o).run P (if g then q else u)=.ok (.value (val k)) (if g then q else u)):xC P ops (RK u q m val k) k o a g:=by
 refine .inl ⟨A,?_⟩;have e:(execOp a.eval o).run P ((Gz u q m).wd g)=.ok (.value (val k)) ((Gz u q m).wd g):=h;rw[e];exact⟨g,rfl,λh=>h,λ_ _ h=>h,rfl,λh=>zd⟩
theorem RL{P:Program}{u q:World}{m:Nat}{val:Nat->Value}{ops:Array Oper}{o:Oper}{a:Act}{g:Bool}{k:Nat}{f:FuncId}{args:Array Value}(A:Region.wanted o (yielded ops a.tmps)=true)(H:m<=k->g=true)
  (h:(execOp a.eval o).run P (if g then q else u)=.ok (.enter f args) (if g then q else u))(O:Calls P f args (if g then q else u) λe w'=>e=.returned (val k)∧w'=if g then q else u):xC P ops (RK u q m val k) k o a g:=by
 refine .inl ⟨A,?_⟩;have e:(execOp a.eval o).run P ((Gz u q m).wd g)=.ok (.enter f args) ((Gz u q m).wd g):=h;rw[e];refine O.mono ?_;rintro e w' ⟨rfl,rfl⟩;exact⟨_,g,rfl,rfl,λh=>h,λ_ _ h=>h,rfl,H⟩
theorem aav{P:Program}{u q:World}{m:Nat}{val:Nat->Value}{ops:Array Oper}{o:Oper}{a:Act}{g:Bool}(A:Region.wanted o (yielded ops a.tmps)=true)(H:g=false)
  (h:(execOp a.eval o).run P u=.ok (.value (val m)) q):xC P ops (RK u q m val m) m o a g:=by
 subst H;refine .inl ⟨A,?_⟩;have e:(execOp a.eval o).run P ((Gz u q m).wd false)=.ok (.value (val m)) q:=h;rw[e];exact⟨true,rfl,λ_=>rfl,λi hi _ e=>absurd e hi,rfl,λ_=>rfl⟩
theorem aaw{P:Program}{u q:World}{m:Nat}{val:Nat->Value}{ops:Array Oper}{o:Oper}{a:Act}{g:Bool}{k:Nat}(A:Region.wanted o (yielded ops a.tmps)=true)(H:g=true)
  (h:(execOp a.eval o).run P q=.ok (.value (val k)) q):xC P ops (RK u q m val k) k o a g:=by
 subst H;refine .inl ⟨A,?_⟩;have e:(execOp a.eval o).run P ((Gz u q m).wd true)=.ok (.value (val k)) q:=h;rw[e];exact⟨true,rfl,λ_=>rfl,λ_ _ h=>h,rfl,λ_=>rfl⟩
theorem Qt(a b:K2)(W:World):Calls prog 60 #[.agg #[.string a.1,.string a.2],.agg #[.string b.1,.string b.2]] W λe w'=>e=.returned (.int .i64 (eC a b))∧∃q os,w'=grow (W.drewN q) os:=by
 go_enter func60,ntmps60
 go_wp2_with fail
 rename_i Q' K hK
 let H:=((W.alloc (.cells #[.string a.1,.string a.2] 74)).alloc (.cells #[.string b.1,.string b.2] 74)).drew
 let U:=H.alloc (.cells #[.int .i64 (mB a.1 b.1),.int .i64 (mB a.2 b.2)] 3)
 let val:Nat->Value:=λi=>match i with
  |0=> .pointer (some ⟨W.heap.size,0,none⟩)|1=> .string a.1|2=> .pointer (some ⟨W.heap.size+1,0,none⟩)|3=> .string b.1|4=> .int .i64 (mB a.1 b.1)
  |5=> .pointer (some ⟨W.heap.size,1,none⟩)|6=> .string a.2|7=> .pointer (some ⟨W.heap.size+1,1,none⟩)|8=> .string b.2|9=> .int .i64 (mB a.2 b.2)
  |10=> .slice (some ⟨W.heap.size+2,0,none⟩) 2 2|11=> .int .i64 (eC a b)|_=> .int .i64 (eC a b)
 have hz:H.heap.size=W.heap.size+2:=by simp[H]
 have hA0:H.heap[W.heap.size]?=some (.cells #[.string a.1,.string a.2] 74):=((MapKept.heap_alloc (W.alloc (.cells #[.string a.1,.string a.2] 74)) _).2 _ zk).trans (MapKept.heap_alloc W _).1
 have hB0:H.heap[W.heap.size+1]?=some (.cells #[.string b.1,.string b.2] 74):=by
  have:=(MapKept.heap_alloc (W.alloc (.cells #[.string a.1,.string a.2] 74)) (.cells #[.string b.1,.string b.2] 74)).1
  rw[show(W.alloc (.cells #[.string a.1,.string a.2] 74)).heap.size=W.heap.size+1 by simp]at this;exact this
 have hA1:U.heap[W.heap.size]?=some (.cells #[.string a.1,.string a.2] 74):=((MapKept.heap_alloc H _).2 _ zd).trans hA0;have hB1:U.heap[W.heap.size+1]?=some (.cells #[.string b.1,.string b.2] 74):=((MapKept.heap_alloc H _).2 _ zd).trans hB0
 have hR1:U.heap[W.heap.size+2]?=some (.cells #[.int .i64 (mB a.1 b.1),.int .i64 (mB a.2 b.2)] 3):=by rw[<-hz];exact(MapKept.heap_alloc H _).1
 have V:∀g:Bool,(if g=true then U else H).cell? ⟨W.heap.size,0,none⟩=some (.string a.1)∧(if g=true then U else H).cell? ⟨W.heap.size,1,none⟩=some (.string a.2)∧(if g=true then U else H).cell? ⟨W.heap.size+1,0,none⟩=some (.string b.1)∧(if g=true then U else H).cell? ⟨W.heap.size+1,1,none⟩=some (.string b.2):=by
  intro g
  cases g
  ·exact⟨(aC hA0 0).trans rfl,(aC hA0 1).trans rfl,(aC hB0 0).trans rfl,(aC hB0 1).trans rfl⟩
  ·exact⟨(aC hA1 0).trans rfl,(aC hA1 1).trans rfl,(aC hB1 0).trans rfl,(aC hB1 1).trans rfl⟩
 have hD:U.cell? ⟨W.heap.size+2,0,none⟩=some (.int .i64 (mB a.1 b.1))∧U.cell? ⟨W.heap.size+2,1,none⟩=some (.int .i64 (mB a.2 b.2)):=⟨(aC hR1 0).trans rfl,(aC hR1 1).trans rfl⟩
 refine wO (N:=Gz H U 10) ((List.range 13).map (RK H U 10 val)) rfl zo false ?_ (λ_ _=>rfl) ?_
 ·rfl
 refine⟨λx g _ A O=>wj rfl zs ?_,λx g _ A O=>wj rfl zs ?_,λx g _ A O=>wj rfl zs ?_,λx g _ A O=>wj rfl zs ?_,λx g _ A O=>RL (f:=62) (args:= #[.string a.1,.string b.1]) rfl (λh=>absurd h zs) ?_ (OK _ _ _),λx g _ A O=>wj rfl zs ?_,λx g _ A O=>wj rfl zs ?_,λx g _ A O=>wj rfl zs ?_,λx g _ A O=>wj rfl zs ?_,λx g _ A O=>RL (f:=62) (args:= #[.string a.2,.string b.2]) rfl (λh=>absurd h zs) ?_ (OK _ _ _),λx g _ A O=>aav rfl (O rfl) ?_,λx g _ A O=>RL (f:=61) (args:= #[.slice (some ⟨W.heap.size+2,0,none⟩) 2 2]) rfl (λ_=>(A 10 zo).2 (aed _)) ?_ ?_,λx g _ A O=>aaw rfl ((A 11 zo).2 zs) ?_,λx g _ A=>?_⟩
 ·obtain⟨c1,c2,c3,Y⟩:=V g;simp only[Act.put,afF,afH,afG]
  go_simp
  all_goals first|rfl
 ·obtain⟨c1,c2,c3,Y⟩:=V g;have x0:x 0=.pointer (some ⟨W.heap.size,0,none⟩):=(A 0 zo).1;simp only[Act.put,afF,afH,afG,x0]
  go_simp
  all_goals first|rfl
 ·obtain⟨c1,c2,c3,Y⟩:=V g;simp only[Act.put,afF,afH,afG]
  go_simp
  all_goals first|rfl
 ·obtain⟨c1,c2,c3,Y⟩:=V g;have x2:x 2=.pointer (some ⟨W.heap.size+1,0,none⟩):=(A 2 zo).1;simp only[Act.put,afF,afH,afG,x2]
  go_simp
  all_goals first|rfl
 ·obtain⟨c1,c2,c3,Y⟩:=V g;have x1:x 1=.string a.1:=(A 1 zo).1;have x3:x 3=.string b.1:=(A 3 zo).1;simp only[Act.put,afF,afH,afG,x1,x3]
  go_simp
  all_goals first|rfl
 ·obtain⟨c1,c2,c3,Y⟩:=V g;simp only[Act.put,afF,afH,afG]
  go_simp
  all_goals first|rfl
 ·obtain⟨c1,c2,c3,Y⟩:=V g;have x5:x 5=.pointer (some ⟨W.heap.size,1,none⟩):=(A 5 zo).1;simp only[Act.put,afF,afH,afG,x5]
  go_simp
  all_goals first|rfl
 ·obtain⟨c1,c2,c3,Y⟩:=V g;simp only[Act.put,afF,afH,afG]
  go_simp
  all_goals first|rfl
 ·obtain⟨c1,c2,c3,Y⟩:=V g;have x7:x 7=.pointer (some ⟨W.heap.size+1,1,none⟩):=(A 7 zo).1;simp only[Act.put,afF,afH,afG,x7]
  go_simp
  all_goals first|rfl
 ·obtain⟨c1,c2,c3,Y⟩:=V g;have x6:x 6=.string a.2:=(A 6 zo).1;have x8:x 8=.string b.2:=(A 8 zo).1;simp only[Act.put,afF,afH,afG,x6,x8]
  go_simp
  all_goals first|rfl
 ·have x4:x 4=.int .i64 (mB a.1 b.1):=(A 4 zo).1;have x9:x 9=.int .i64 (mB a.2 b.2):=(A 9 zo).1;simp only[Act.put,afF,afH,afG,x4,x9]
  go_simp
  exact⟨rfl,rfl⟩
 ·have x10:x 10=.slice (some ⟨W.heap.size+2,0,none⟩) 2 2:=(A 10 zo).1;simp only[Act.put,afF,afH,afG,x10]
  go_simp
 ·have hg:g=true:=(A 10 zo).2 (aed _);subst hg;exact Tg _ _ _ 2 U (aed _) (by unfold maxLen;omega) hD.1 hD.2
 ·have x11:x 11=.int .i64 (eC a b):=(A 11 zo).1;simp only[Act.put,afF,afH,afG,x11]
  go_simp
  all_goals first|rfl
 ·have hg:g=true:=(A 10 zs).2 (aed _);have x12:x 12=.int .i64 (eC a b):=(A 12 zs).1;simp only[Act.put,afF,afH,afG,x12];subst hg;refine hK _ _ ?_
  go_wp2_with fail
  go_ret
  refine⟨rfl,1, #[.cells #[.string a.1,.string a.2] 74,.cells #[.string b.1,.string b.2] 74,.cells #[.int .i64 (mB a.1 b.1),.int .i64 (mB a.2 b.2)] 3],?_⟩;show(((W.alloc _).alloc _).drew).alloc _=_;rw[alloc_eq_grow,alloc_eq_grow,alloc_eq_grow];show grow (grow (grow W _) _).drew _=_;rw[show ∀u v:Array Obj,(grow (grow W u) v).drew=grow (W.drewN 1) (u++v)fromλu v=>by rw[grow_grow];rfl,grow_grow]
  rfl
end
section
section
variable {D:Nat->Prop} {nu:EQ} {o:AC} {w:World} {P:Program}
def dw{α:Type}(enc:α->Id)(l:List α):List C5:=l.map (λa=>(enc a).map AV.v)
open Go.Sort in
theorem IB{α:Type} [Inhabited α]{enc:α->Id}{k:Nat}(U:∀x,(enc x).length=k)(A:0<k){id:Nat}{ob:aa}{g:Nat}{cur:Array Value}{d:List α}(h:B8 D nu o w id ob g cur)(hz:ob.z=k)(hr:ob.rows=dw enc d):HoldsK enc k w g 0 d.toArray:=λt ht=>by
 have q:t<d.length*k:=by simpa using ht
 have hi:t / k<d.length:=Nat.div_lt_of_lt_mul (by rw[Nat.mul_comm];exact q);have V:t % k<k:=Nat.mod_lt _ A
 have Y:ob.rows[t / k]?=some ((enc d[t / k]).map AV.v):=by rw[hr];simp[dw,hi]
 have u:t % k<((enc d[t / k]).map AV.v).length:=by simp[U];exact V
 have O:=h.qZ Y u
 have e:t / k*ob.z+t % k=t:=by rw[hz];have:=Nat.div_add_mod t k;rw[Nat.mul_comm]at this;exact this
 rw[e]at O;have W:=h.cell (t / k) (t % k) _ _ _ Y (aes u) (by rw[e];exact aer O)
 refine⟨?_,?_⟩
 ·have e2:w.cell? ⟨g,0+t,none⟩=cur[t]? :=by simp[World.cell?,h.ez]
  rw[e2,aer O];rw[get_flatK _ _ _ _ (by simpa using q)];rw[List.getElem_map]at W;rw[W.di]
  have H:d.toArray[t / k]! = d[t / k]:=by simp[hi]
  rw[H,getElem!_pos (enc d[t / k]) (t % k) (by rw[U];exact V)];rfl
 ·simp[World.frozen?,h.ez]
open Go.Sort in
theorem bT.Zu{α:Type} [Inhabited α]{enc:α->Id}{k:Nat}(hk:∀x,(enc x).length=k)(hk0:0<k)(hone:∀a,∀v∈enc a,v.oneCell'=true){f:FuncId}{args:C5}{T:TypeId}{d d':List α}{o1:AC}(hd:d'.length=d.length)(hc:fQ P f=true)
  (hcall:∀D nu w vargs cap ez,RO D nu (some ⟨T,k,true,dw enc d⟩ ::o1) w->gy D nu (some ⟨T,k,true,dw enc d⟩ ::o1) w args vargs->HoldsK enc k w ez 0 d.toArray->ez<w.heap.size->d.length<=cap->cap<=maxLen->Calls P f (#[.slice (some ⟨ez,0,none⟩) d.length cap]++vargs) w (λe w'=>e=.returned (.tuple #[])∧∃n os,w'=sortWorldK enc k w ez 0 n d'.toArray os))
  (hnil:d=[]->∀D nu w vargs,RO D nu (some ⟨T,k,true,dw enc d⟩ ::o1) w->gy D nu (some ⟨T,k,true,dw enc d⟩ ::o1) w args vargs->Calls P f (#[.slice none 0 0]++vargs) w (λe w'=>e=.returned (.tuple #[])∧Below w.heap.size w w')) :
  bT P f (.vec 0 d.length::args) (some ⟨T,k,true,dw enc d⟩ ::o1) (.ck []) (some ⟨T,k,true,dw enc d'⟩ ::o1):=by
 refine⟨hc,λD nu w vargs A H=>?_⟩
 have hlen:(dw enc d).length=d.length:=by simp[dw]
 have hlen':(dw enc d').length=d'.length:=by simp[dw]
 obtain⟨vl⟩:=vargs
 cases vl with
 |nil=>have:=H.len;simp at this
 |cons x l=>
 have hx:=H.at' 0 _ x rfl zk;have hxs:gy D nu (some ⟨T,k,true,dw enc d⟩ ::o1) w args l.toArray:=⟨by have:=H.len;simp at this;simpa using this,λi c y h1 h2=>H.at' (i+1) c y (by simpa using h1) (by simpa using h2)⟩
 have ev:(⟨x::l⟩:Array Value) = #[x]++l.toArray:=zk
 have hxq:x=nu 0 d.length:=by
  cases hx with
  |vec=>rfl
 have Y:(some ⟨T,k,true,dw enc d⟩ ::o1)[0]?=some (some (⟨T,k,true,dw enc d⟩:aa)):=rfl;have tup0:∀w',RA D nu (some ⟨T,k,true,dw enc d'⟩ ::o1) w' (.ck []) (.tuple #[]):=λw'=> .ck _ _ rfl (λi c x h _=>by simp at h);rw[ev,hxq]
 rcases A.obj 0 _ Y with⟨_,e2,e3⟩|⟨g,cur,U⟩|⟨g,es,cl,hm⟩
 ·have O:d=[]:=by simpa [dw]using e2
  have hdn':d'=[]:=List.eq_nil_of_length_eq_zero (by rw[hd,O];rfl);have hn:=hnil O D nu w l.toArray A hxs
  have e4:nu 0 d.length=.slice none 0 0:=by rw[O];exact e3
  rw[e4];refine hn.mono ?_;rintro e w' ⟨rfl,hbl⟩
  have e5:(some ⟨T,k,true,dw enc d'⟩ ::o1:AC)=some ⟨T,k,true,dw enc d⟩ ::o1:=by rw[O,hdn']
  refine⟨_,nu,some ⟨T,k,true,dw enc d'⟩ ::o1,_,rfl,?_,?_,tup0 w',rfl,rfl⟩
  ·rw[e5];exact aH hbl
  ·rw[e5];exact A.below hbl
 ·obtain⟨cap,h1,h2,h3,h4⟩:=U.vec rfl;have hlr:(aa.mk T k true (dw enc d)).rows.length=d.length:=hlen;rw[hlr]at h1 h2;have hlt:g<w.heap.size:=(Array.getElem?_eq_some_iff.1 U.ez).1;rw[h1];refine(hcall D nu w l.toArray cap g A hxs (IB hk hk0 U rfl rfl) hlt h2 h3).mono ?_;rintro e w' ⟨rfl,n,os,rfl⟩

  obtain⟨hsame,hblk⟩:=QJ (w:=w) (enc:=id) (n:=n) (d:=flatK enc k d'.toArray) (os:= #[]) hlt;have hblk:=hblk _ _ _ U.ez;rw[grow_empty]at hsame hblk;unfold sortWorldK putRowK
  have hsz:(putRow id (Go.Sort.ahead w n) g 0 (flatK enc k d'.toArray)).heap.size=w.heap.size:=by rw[size_putRow];rfl
  have hh:(aa.mk T k true (dw enc d)).hl=(aa.mk T k true (dw enc d')).hl:=by simp[aa.hl,hlen,hlen',hd]
  have hne:∀b,b≠g->(putRow id (Go.Sort.ahead w n) g 0 (flatK enc k d'.toArray)).heap[b]?=w.heap[b]? :=λb hbg=>by
   rcases aei b w.heap.size with q|q
   ·exact hsame b q hbg
   ·rw[agl zd,agl q]
  have hm:=kp (nu:=nu) (w:=w) (w':=putRow id (Go.Sort.ahead w n) g 0 (flatK enc k d'.toArray)) (ob':=⟨T,k,true,dw enc d'⟩) Y hh.symm U.b8 rfl rfl rfl hsz hne
  have row:∀(i:Nat)r,(dw enc d')[i]?=some r->∃hi:i<d'.length,r=(enc d'[i]).map AV.v:=λi r hi=>by
   have hik:=(aek.1 hi).1;rw[hlen']at hik;exact⟨hik,by simp[dw,hik]at hi;exact hi.symm⟩
  have cell:∀(i j:Nat)r c x,(dw enc d')[i]?=some r->r[j]?=some c->(putCells id 0 (flatK enc k d'.toArray) cur)[i*k+j]?=some x->c=.v x∧x.oneCell'=true:=λi j r c x k1 W u=>by
   obtain⟨hi,rfl⟩:=row i r k1
   have hj:j<k:=by have:=(aek.1 W).1;simp[hk]at this;exact this
   have hje:j<(enc d'[i]).length:=by rw[hk];exact hj
   have ht:i*k+j<d'.length*k:=rQ hi hj;simp only[putCells,Array.getElem?_mapIdx]at u
   cases V:cur[i*k+j]? with
   |none=>rw[V]at u;simp at u
   |some y=>
    rw[V]at u;simp only[aeE,aep]at u;rw[if_pos ⟨Nat.zero_le _,by simpa using ht⟩,Nat.sub_zero,get_flatK _ _ _ _ (by simpa using ht),Km hj,te hj]at u
    have hg1:d'.toArray[i]! = d'[i]:=by simp[hi]
    rw[hg1,getElem!_pos (enc d'[i]) j hje]at u;rw[List.getElem?_map,aes hje,aeE,aep]at W;subst u;exact⟨W.symm,hone _ _ (List.getElem_mem hje)⟩
  have hnew:B8 D nu (some ⟨T,k,true,dw enc d'⟩ ::o1) (putRow id (Go.Sort.ahead w n) g 0 (flatK enc k d'.toArray)) 0 ⟨T,k,true,dw enc d'⟩ g (putCells id 0 (flatK enc k d'.toArray) cur):=by
   refine⟨hblk,U.o4,(λe=>by cases e),λ_=>⟨cap,?_,?_,h3,?_⟩,hk0,λi r hi=>?_,λi j r c x k1 W u=>?_,λi j r c x k1 W u=>(cell i j r c x k1 W u).2⟩
   ·show nu 0 (dw enc d').length=.slice (some ⟨g,0,none⟩) (dw enc d').length cap;rw[hlen',hd];exact h1
   ·show(dw enc d').length<=cap;rw[hlen',hd];exact h2
   ·rw[<-h4];simp[putCells]
   ·obtain⟨_,rfl⟩:=row i r hi;simp[hk]
   ·rw[(cell i j r c x k1 W u).1];exact .v x
  have hr:=sg A Y hh.symm U.b8 hm hne (cur:=putCells id 0 (flatK enc k d'.toArray) cur) hnew;have hb2:Below (putRow id (Go.Sort.ahead w n) g 0 (flatK enc k d'.toArray)).heap.size (putRow id (Go.Sort.ahead w n) g 0 (flatK enc k d'.toArray)) (grow (putRow id (Go.Sort.ahead w n) g 0 (flatK enc k d'.toArray)) os):=⟨rfl,rfl,rfl,zk,λb U=>heap_grow_old _ _ U⟩;simp only[List.set_cons_zero]at hm hr;exact⟨_,nu,some ⟨T,k,true,dw enc d'⟩ ::o1,_,rfl,hm.trans (aH hb2),hr.below hb2,tup0 _,rfl,rfl⟩
 ·have:=hm.fc;cases this
end
open Go.RowKit Go.Shelf Go.Sort
def Rm:Go.Shelf.Ren:=⟨fun|6=>98|15=>135|14=>134|28=>171|29=>172|20=>163|21=>164|22=>165|23=>166|24=>167|25=>168|26=>169|27=>170|46=>203|47=>204|48=>205|49=>206|50=>207|57=>221|n=>n,fun|22=>129|24=>74|25=>128|3=>3|39=>212|0=>0|53=>184|55=>256|4=>4|46=>249|45=>248|50=>105|5=>5|9=>9|66=>279|70=>283|76=>296|77=>297|n=>n,fun|n=>n⟩
theorem BH:SlLaysF0.n6 prog Rm:={
 mixed:=zo
 f6:=⟨Tryz.f98.name,zs,func98⟩
 f14:=⟨Tryz.f134.name,zs,func134⟩
 f15:=func135
 f20:=⟨Tryz.f163.name,zs,func163⟩
 f21:=⟨Tryz.f164.name,zs,func164⟩
 f22:=⟨Tryz.f165.name,zs,func165⟩
 f23:=⟨Tryz.f166.name,zs,func166⟩
 f24:=⟨Tryz.f167.name,zs,func167⟩
 f25:=⟨Tryz.f168.name,zs,func168⟩
 f26:=⟨Tryz.f169.name,zs,func169⟩
 f27:=⟨Tryz.f170.name,zs,func170⟩
 f28:=func171
 f29:=func172
 f46:=⟨Tryz.f203.name,zs,func203⟩
 f47:=func204
 f48:=func205
 f49:=⟨Tryz.f206.name,zs,func206⟩
 f50:=⟨Tryz.f207.name,zs,func207⟩
 f57:=⟨Tryz.f221.name,zs,func221⟩
 t0:=zo
 a0:=λw=>zo
 z0:=λw=>zo
 v0:=λw=>zo
 t3:=zo
 a3:=λw=>zo
 z3:=λw=>zo
 v3:=λw=>zo
 t4:=zo
 a4:=λw=>zo
 z4:=λw=>zo
 v4:=λw=>zo
 t5:=zo
 a5:=λw=>zo
 z5:=λw=>zo
 v5:=λw=>zo
 t9:=zo
 a9:=λw=>zo
 z9:=λw=>zo
 v9:=λw=>zo
 t22:=zo
 a22:=λw=>zo
 z22:=λw=>zo
 v22:=λw=>zo
 t25:=zo
 a25:=λw=>zo
 z25:=λw=>zo
 v25:=λw=>zo
 t39:=zo
 a39:=λw=>zo
 z39:=λw=>zo
 v39:=λw=>zo
 t45:=zo
 a45:=λw=>zo
 z45:=λw=>zo
 v45:=λw=>zo
 t46:=zo
 a46:=λw=>zo
 z46:=λw=>zo
 v46:=λw=>zo
 t50:=zo
 a50:=λw=>zo
 z50:=λw=>zo
 v50:=λw=>zo
 t53:=zo
 a53:=λw=>zo
 z53:=λw=>zo
 v53:=λw=>zo
 t55:=zo
 a55:=λw=>zo
 z55:=λw=>zo
 v55:=λw=>zo
 t66:=zo
 a66:=λw=>zo
 z66:=λw=>zo
 v66:=λw=>zo
 t70:=zo
 a70:=λw=>zo
 z70:=λw=>zo
 v70:=λw=>zo
 t76:=zo
 a76:=λw=>zo
 z76:=λw=>zo
 v76:=λw=>zo
 t77:=zo
 a77:=λw=>zo
 z77:=λw=>zo
 v77:=λw=>by kernel_rfl}
def Kc(k:K2):Id:=[.string k.1,.string k.2]
theorem EJ(a b:ByteArray):mB a b<0↔a.data.toList<b.data.toList:=by
 unfold mB
 by_cases h:Ku a b=true
 ·rw[if_pos h];exact⟨λ_=>cP.1 h,λ_=>zs⟩
 ·rw[if_neg h];refine⟨λk=>?_,λk=>absurd (cP.2 k) h⟩
  split at k<;>omega
theorem AB(a b:ByteArray):mB a b=0↔a=b:=by
 unfold mB
 constructor
 ·intro h
  split at h
  ·cases h
  ·split at h
   ·cases h
   ·rename_i u h2;rw[cP]at u h2
    rcases lu a b with q|q|q
    ·exact absurd q u
    ·exact q
    ·exact absurd q h2
 ·rintro rfl
  have: ¬Ku a a=true:=by rw[cP];exact List.lt_irrefl _
  rw[if_neg this,if_neg this]
theorem Wi(a b:K2):eC a b<0↔pq a b:=by
 unfold eC I0 pq
 by_cases h:mB a.1 b.1=0
 ·rw[if_neg (by simp[h]),EJ]
  have:=(AB _ _).1 h
  rw[this];exact⟨λk=> .inr ⟨rfl,k⟩,λk=>k.elim (λq=>absurd q (List.lt_irrefl _)) (·.2)⟩
 ·rw[if_pos h,EJ];exact⟨.inl,λk=>k.elim id (λq=>absurd ((AB _ _).2 q.1) h)⟩
theorem ya(a b:K2):ltOf eC a b=decide (pq a b):=by rw[ltOf,decide_eq_decide];exact Wi a b
theorem Xi:SWO (ltOf eC)where
 irrefl x:=by rw[ya];exact decide_eq_false (ek x)
 trans x y z u A:=by rw[ya,decide_eq_true_eq]at *; exact iI u A
 ntrans x y z u A:=by
  rw[ya,decide_eq_false_iff_not]at *;intro h
  rcases nQ y z with q|q|q
  ·exact A q
  ·rw[q]at u;exact u h
  ·exact u (iI h q)
def rj(l:So):So:=l.mergeSort (λx y=> !(ltOf eC) y x)
theorem Rn{vis:So}{l:PL}(O:vis.Perm (l.map Prod.fst))(hn:(l.map Prod.fst).Nodup):rj vis=(cz l).map Prod.fst:=by
 have A:(rj vis).Pairwise (λx y=>(!(ltOf eC) y x)=true):=List.pairwise_mergeSort (λa b c A u=>by
  simp only[ya,afo,decide_eq_false_iff_not]at *;intro h
  rcases nQ a b with q|q|q
  ·exact u (iI h q)
  ·rw[q]at h;exact u h
  ·exact A q) (λa b=>by
  simp only[ya,Bool.or_eq_true,afo,decide_eq_false_iff_not]
  by_cases h:pq b a
  ·exact .inr (λk=>ek _ (iI h k))
  ·exact .inl h) vis
 have u:(rj vis).Perm (l.map Prod.fst):=(List.mergeSort_perm vis _).trans O;have H:(rj vis).Nodup:=u.nodup_iff.2 hn
 have W:(rj vis).Pairwise pq:=by
  rw[List.nodup_iff_pairwise_ne]at H;refine(A.and H).imp λ{a b}h=>?_;obtain⟨q,r⟩:=h;rw[ya,afo,decide_eq_false_iff_not]at q
  rcases nQ a b with k|k|k
  ·exact k
  ·exact absurd k r
  ·exact absurd k q
 have V:=lU hn;have U:=(cL l).map Prod.fst
 have e:=oK (l:=(rj vis).map λk=>(k,0)) (m:=((cz l).map Prod.fst).map λk=>(k,0)) (by rw[ew,agm];exact W) (by rw[ew,agm,agm];exact V) (λp=>by
  have:rj vis |>.Perm ((cz l).map Prod.fst):=u.trans U.symm
  exact(this.map λk=>(k,(0:Int))).mem_iff)
 have key:∀l:So,(l.map λk=>(k,(0:Int))).map Prod.fst=l:=λl=>by induction l<;>simp_all
 have:=congrArg (List.map Prod.fst) e
 rw[key,key]at this;exact this
theorem Jp(d:So)(hl:d.length<=1000000):bT prog 98 [.vec 0 d.length,.fn 60 [] []] [some ⟨74,2,true,d.map bJ⟩] (.ck []) [some ⟨74,2,true,(rj d).map bJ⟩]:=by
 have one:∀a,∀v∈Kc a,v.oneCell'=true:=λa v U=>by simp[Kc]at U;rcases U with rfl|rfl<;>rfl
 have va:∀D nu w o vargs,gy D nu o w [.fn 60 [] []] vargs->vargs = #[.func (.func 60) #[] #[]]:=λD nu w o vargs h=>by
  obtain⟨x,rfl,V⟩:=ic h
  cases V with
  |fn _ _ _ fi ca H A _ _=>
   have e1:fi = #[]:=by simpa using H.symm
   have e2:ca = #[]:=by simpa using A.symm
   rw[e1,e2]
 refine bT.Zu (enc:=Kc) (k:=2) (d:=d) (d':=rj d) (λ_=>rfl) zd one (by rw[rj,List.length_mergeSort]) zo (λD nu w vargs cap ez O u Y W H A=>?_) (λh0 D nu w vargs O u=>?_)
 ·rw[va _ _ _ _ _ u];have eg:∀args w,(callFunc 60 args).run prog w=.ok (.enter 60 args) w:=enters_of func60 zo rfl
  have:=AnyQ.slices_SortFunc_total BH 2 (λw=>zo) (λw=>zo) Kc (λ_=>rfl) one eC Xi 60 #[] ez 0 cap d.toArray w eg (λm os dk _ x y=>Qt x y _) Y W ahn (λx y H A=>by
   rw[ya,decide_eq_false_iff_not]at H A
   rcases nQ x y with q|q|q
   ·exact absurd q H
   ·exact q
   ·exact absurd q A)
  simp only[List.size_toArray]at this;exact this
 ·rw[va _ _ _ _ _ u]
  have:=AnyF.slices_SortFunc_none BH none 0 (.func (.func 60) #[] #[]) w
  refine this.mono ?_;rintro e w' ⟨rfl,rfl⟩;exact⟨rfl,Below.refl _ _⟩
theorem DQ{gf:FuncId}{caps:C5}(l:PL)(hn:(l.map Prod.fst).Nodup)(hl:l.length<=1000000)(O:Hj true prog gf caps [] (gr (l.map Prod.fst)))(A:aQ 0 caps=true) :
  bT prog 63 [.fn gf [] caps,.fn 60 [] []] [] (.vec 1 l.length) [none,some ⟨74,2,true,(cz l).map λp=>bJ p.1⟩]:=by
 have C:=Ib (l.map Prod.fst) (by simpa using hl) O A;refine gF func63 ntmps63 results63 ?_
 (refine ag ?_;intro K hK K hK)
 refine ah.two C ?_;rintro r o' ⟨vis,u,rfl,rfl⟩
 have H:vis.length=l.length:=by have:=u.length_eq;simpa using this
 have S:=Jp vis zd;rw[Rn u hn,List.map_map]at S
 (revert K;revert K;refine ag ?_;intro K hK K hK)
 refine ah.fr [1] S zk ?_ ?_ ?_ ?_ ?_
 ·simp only[List.map_cons,List.map_nil,List.getElem?_cons_zero,List.getElem?_cons_succ,aeE,aa.bb,bj _ _ (uh _ _)]
 ·rfl
 ·rfl
 ·intro k ob q
  match k,q with
  |0,q=>cases q;exact uh _ _
  |k+1,q=>simp at q
 have eW:∀n,bE n ((cz l).map (bJ ∘ Prod.fst))=true:=λn=>bt _ (λ_=>rfl) _;simp only[fj,List.set_cons_zero,List.set_cons_succ,aeE,Option.map_none,aa.bb,bj _ _ (eW 0),afy,agn,List.map_nil,List.length_cons,List.length_nil,Nat.reduceAdd,afz];rw[H]
 (revert K;revert K;refine ag ?_)
 refine⟨ej,AW ?_,ej⟩;exact⟨rfl,bt _ (λ_=>rfl) _⟩
def CM(e:bH):List (ByteArray×IR)->List (ByteArray×IR)
 | []=>[(e.bN,[e])]
 |p::G=>if p.1=e.bN then(p.1,p.2++[e])::G else p::CM e G
def qQ:List (ByteArray×IR)->ByteArray->Option IR
 | [],_=>none
 |p::G,k=>if p.1=k then some p.2 else qQ G k
def CX(E:IR):List (ByteArray×IR):=E.foldl (λG e=>CM e G) []
theorem Fc(e:bH)(v:ByteArray):∀G,(qQ (CM e G) v).getD []=(qQ G v).getD []++if e.bN=v then [e]else []
 | []=>by
  simp only[CM,qQ]
  by_cases h:e.bN=v
  ·simp[h]
  ·simp[h]
 |p::G=>by
  rw[CM]
  by_cases h:p.1=e.bN
  ·rw[if_pos h];simp only[qQ]
   by_cases k:p.1=v
   ·rw[if_pos k,if_pos k,if_pos (h ▸ k)];rfl
   ·rw[if_neg k,if_neg k,if_neg (λq=>k (h.trans q)),agn]
  ·rw[if_neg h];simp only[qQ]
   by_cases k:p.1=v
   ·rw[if_pos k,if_pos k,if_neg (λq=>h (k.trans q.symm)),agn]
   ·rw[if_neg k,if_neg k];exact Fc e v G
theorem Pr(E:IR)(v:ByteArray):(qQ (CX E) v).getD []=kX E v:=by
 have key:∀(E:IR)(G:List (ByteArray×IR)),(qQ (E.foldl (λG e=>CM e G) G) v).getD []=(qQ G v).getD []++kX E v:=by
  intro E
  induction E with
  |nil=>intro G;simp[kX]
  |cons e E ih=>
   intro G;rw[List.foldl_cons,ih,Fc,List.append_assoc]
   congr 1
   by_cases h:e.bN=v
   ·simp[kX,h]
   ·simp[kX,h]
 have:=key E []
 simpa [CX,qQ]using this
section
variable {D:Nat->Prop} {nu:EQ} {o:AC} {w:World} {P:Program}
def VV(P:Program)(oo:Oper)(s:AS)(r:AV)(o':AC):Prop:=∀(f:Fr)(D:Nat->Prop)(nu:EQ)(a:Act)(w:World),RS f D nu s a w->∃v w' nu',(execOp a.eval oo).run P w=.ok (.value v) w'∧cf nu s.o w nu' o' w'∧RO D nu' o' w'∧RA D nu' o' w' r v
def pw(P:Program)(all ops:GE)(s:AS)(Q:AS->Prop):Prop:=∀(f:Fr)(m:WM P)(rest:GE)(R:Exit->Act->World->Prop),(∀l,f.r=some l->m.fix l)->∀(a:Act)(w:World)(D:Nat->Prop)(nu:EQ),(∀oo,oo∈ops->∀c,oo.op ≠ .defer c)->m.M D nu s.o f.Z s.y w->RS f D nu s a w ->
  (∀D' s' a' w' nu',m.M D' nu' s'.o f.Z s'.y w'->RS f D' nu' s' a' w'->Q s'->wpListIn (WF f.r) 9 P all.toArray R rest a' w')->wpListIn (WF f.r) 9 P all.toArray R (ops++rest) a w
theorem Rc{all:GE}{oo:Oper}{s:AS}{Q:AS->Prop}(q:vJ P all oo s Q):pw P all [oo] s Q:=λf m rest R U a w D nu hcalm Y u hR=>by
 have A:AY P oo.op oo.dst s Q->oo.wpIn (WF f.r) 9 P a w (wpListIn (WF f.r) 9 P all.toArray R rest) R:=λO=>
  J5 m U (hcalm oo List.mem_cons_self) Y u O (λD' v w' nu' s' m1 m2 m3=>hR D' s' _ w' nu' m1 m2 m3)
 have hskip:Q (s.put oo.dst (.v Go.undef) s.o)->wpListIn (WF f.r) 9 P all.toArray R rest (a.put oo.dst Go.undef) w:=λO=>
  hR D _ _ w nu (by simpa only[AS.put]using Y) (u.put (.refl nu s.o w) u.ro (.v _) oo.dst) O
 simp only[vJ]at q;simp only[afz,afy,wpListIn]
 split at q
 ·rename_i hg
  have:Region.wanted oo (yielded all.toArray a.tmps)=true:=by grind[Region.wanted]
  grind
 ·rename_i j want hg;unfold Aj at q
  split at q
  ·rename_i b e;have hy:=jI (w:=w) (λd c x _ W V=>u.tm.at' d c x W V) u.tm.len e
   have H:Region.wanted oo (yielded all.toArray a.tmps)=(b==want):=by grind[Region.wanted]
   rw[H]
   cases hb:b==want
   ·rw[hb]at q;simp only[Bool.false_eq_true,if_false];exact⟨λf _=>trivial,hskip q⟩
   ·rw[hb]at q;simp only[if_true];exact A q
  ·rename_i e;have hy:=jI (w:=w) (λd c x _ W V=>u.tm.at' d c x W V) u.tm.len e
   have H:Region.wanted oo (yielded all.toArray a.tmps)=false:=by grind[Region.wanted]
   rw[H];simp only[Bool.false_eq_true,if_false];exact⟨λf _=>trivial,hskip q⟩
  grind
theorem Gj{all:GE}{oo:Oper}{l:GE}{s:AS}{Q:AS->Prop}(h:pw P all [oo] s (λs'=>pw P all l s' Q)):pw P all (oo::l) s Q:=λf m rest R q a w D nu hcalm H A O=>
 h f m (l++rest) R q a w D nu (λo u=>hcalm o (by grind)) H A (λD' s' U w' nu' m1 m2 m3=>m3 f m rest R q U w' D' nu' (λo u=>hcalm o (List.mem_cons_of_mem _ u)) m1 m2 O)
theorem UM{all:GE}{s:AS}{Q:AS->Prop}(h:Q s):pw P all [] s Q:=λf m rest R A a w D nu hcalm u q H=>H D s a w nu u q h
theorem pw.mono{all l:GE}{s:AS}{Q u:AS->Prop}(h:pw P all l s Q)(k:∀s',Q s'->u s'):pw P all l s u:=λf m rest R q a w D nu hcalm H A O=>h f m rest R q a w D nu hcalm H A (λD' s' U w' nu' m1 m2 m3=>O D' s' U w' nu' m1 m2 (k s' m3))
theorem DO{all H u:GE}{s:AS}{Q:AS->Prop}(h:pw P all H s (λs'=>pw P all u s' Q)):pw P all (H++u) s Q:=λf m rest R q a w D nu hcalm U O V=>by
 rw[List.append_assoc];exact h f m (u++rest) R q a w D nu (λo A=>hcalm o (List.mem_append_left _ A)) U O (λD' s' W w' nu' m1 m2 m3=>m3 f m rest R q W w' D' nu' (λo A=>hcalm o (List.mem_append_right _ A)) m1 m2 V)
theorem uc{all:GE}:∀{l:GE}{s:AS}{Q:AS->Prop},jT P all l s Q->pw P all l s Q
 | [],_,_,h=>UM h
 |oo::l,s,Q,h=>Gj ((Rc (Q:=λs'=>jT P all l s' Q) h).mono (λs' h=>uc h))
theorem UN{all:GE}{oo:Oper}{s:AS}{Q:AS->Prop}(r:AV)(o':AC)(hg:oo.guard=none)(h:VV P oo s r o')(k:Q (s.put oo.dst r o')):pw P all [oo] s Q:=λf m rest R U a w D nu hcalm O q V=>by
 have H:Region.wanted oo (yielded all.toArray a.tmps)=true:=by grind[Region.wanted]
 simp only[afz,afy,wpListIn];rw[if_pos H];obtain⟨v,w',nu',Y,A,u,W⟩:=h f D nu a w q;refine⟨λf _=>trivial,?_⟩;rw[Oper.semAt_eq _ _ oo (hcalm oo List.mem_cons_self),Y];exact V D (s.put oo.dst r o') _ w' nu' (m.own O q.ro A u) (q.put A u W oo.dst) k
theorem J4{n0 id:Nat}{s:AS}{l:GE}{Q:bg->AS->Prop}(q:dO l.toArray=true)(h:pw P l l s (Q .normal)):cD P n0 (.region id l.toArray false) s Q:= .inr (λf m D nu a w u hn O A H R hO U=>wpIn_region_list (by
 have:=h f m [] R u a w D nu (EH q) O A (λD' s' a' w' nu' Y W V=>U .normal D' f.Z s' a' w' nu' Y W V)
 grind))
theorem J3{n0 id:Nat}{s:AS}{l:GE}{Q:bg->AS->Prop}(n:Nat){oo:Oper}(q:l[n]?=some oo)(u:dO l.toArray=true)(A:oo.guard=none)(h:jT P l (l.take n) s (λs1=>∃r o',VV P oo s1 r o'∧jT P l (l.drop (n+1)) (s1.put oo.dst r o') (Q .normal))):cD P n0 (.region id l.toArray false) s Q:=by
 refine J4 u ?_;have hn:=(aek.1 q);obtain⟨hn,rfl⟩:=hn
 have e:l=l.take n++(l[n]::l.drop (n+1)):=by simp_all
 have key:pw P l (l.take n++(l[n]::l.drop (n+1))) s (Q .normal):=DO ((uc h).mono (λs1⟨r,o',O,H⟩=>Gj (UN r o' A O (uc H))))
 grind
theorem J8(h:RO D nu o w){id:Nat}{ob:aa}(ho:o[id]?=some (some ob))(hv:ob.fc=true){k:Nat}(hk:k<=ob.rows.length) :
  ∃ad cap,nu id ob.rows.length=.slice ad ob.rows.length cap∧ob.rows.length<=cap∧(ad=none->cap=0)∧(∀a,ad=some a->a.off=0)∧cf nu o w (iB nu o.length (.slice ad k cap)) (o.set id none++[some {ob with rows:=ob.rows.take k}]) w∧RO D (iB nu o.length (.slice ad k cap)) (o.set id none++[some {ob with rows:=ob.rows.take k}]) w:=by
 have hidl:=(aek.1 ho).1
 have hhl:ob.hl=ob.rows.length:=by rw[aa.hl,hv,if_pos rfl]
 rcases h.obj id ob ho with⟨e1,e2,e3⟩|⟨g,cur,U⟩|⟨g,es,cl,Y⟩
 rotate_left 2
 ·rw[Y.fc]at hv;cases hv
 ·have hkm:=fh (nu:=nu) (o:=o) (w:=w) id;have hkr:=n3 h id
  have hv':∀b,dW (Value.slice none 0 0)=some b->w.heap.size<=b:=λb e=>by cases e
  have hpm:=iP (nu:=nu) (o:=o.set id none) (ob:=⟨ob.T,ob.z,ob.fc,[]⟩) (Below.refl w.heap.size w) hv';have hpr:=oD (ob:=⟨ob.T,ob.z,ob.fc,[]⟩) hkr (Below.refl w.heap.size w) hv' (.inl ⟨hv,rfl,rfl⟩)
  have hk0:k=0:=by grind
  subst hk0;simp only[List.length_set]at hpm hpr;have er:ob.rows.take 0=[]:=rfl;rw[e2]at *;exact⟨none,0,zd,aed _,λ_=>rfl,λa e=>(by cases e),hkm.trans hpm,hpr⟩
 ·obtain⟨cap,c1,c2,c3,c4⟩:=U.vec hv;have hbk:dW (nu id ob.hl)=some g:=U.b8
  have hl:(o.set id none).length=o.length:=zk
  have hkl:(ob.rows.take k).length=k:=ahn
  generalize hob:({ob with rows:=ob.rows.take k}:aa)=ob2
  have A:ob2.rows=ob.rows.take k∧ob2.z=ob.z∧ob2.fc=true∧ob2.T=ob.T:=by grind
  have hh2:ob2.hl=k:=by rw[aa.hl,A.2.2.1,if_pos rfl,A.1,hkl]
  have hold:∀u,u<o.length->(o.set id none++[some ob2])[u]?=(o.set id none)[u]? :=λu h=>List.getElem?_append_left zd
  have hnew:(o.set id none++[some ob2])[o.length]?=some (some ob2):=by grind
  have hm:cf nu o w (iB nu o.length (.slice (some ⟨g,0,none⟩) k cap)) (o.set id none++[some ob2]) w:=by
   refine⟨rfl,rfl,rfl,aed _,λu len hh=>?_,λb hbl hno=>?_⟩
   ·have hlt':=j9 hh;obtain⟨x,V,O⟩:=hh;refine⟨?_,cU hlt'⟩
    by_cases he:id=u
    ·subst he;exact⟨none,by grind,λ_ e=>by cases e⟩
    ·exact⟨x,by grind,O⟩
   ·refine⟨rfl,λ⟨u,ob',V,O⟩=>?_⟩
    rcases aei u o.length with q|q
    ·rw[hold _ q]at V;rw[cU q]at O;exact hno ⟨u,ob',(jf V).1,O⟩
    ·obtain rfl:u=o.length:=by
      grind
     rw[bX]at O;cases O;exact hno ⟨id,ob,ho,hbk⟩
  refine⟨some ⟨g,0,none⟩,cap,c1,c2,λe=>(by cases e),λa e=>(by cases e;rfl),hm,λu ob' V=>?_,h.up,λi1 i2 b1 b2 b k1 k2 hne k3 k4=>?_,h.gl.mono hm (λ_ _ h=>h)⟩
  ·rcases aei u o.length with q|q
   ·rw[hold _ q]at V;obtain⟨O,h3⟩:=jf V
    rcases h.obj u ob' O with⟨e1,e2,e3⟩|⟨g',c,H⟩|⟨g',es,cl,Y⟩
    ·grind[cU]
    ·exact .inr (.inl ⟨g',c,H.ez,H.o4,λe=>by rw[cU q];exact H.box e,λe=>by rw[cU q];exact H.vec e,H.z,H.row,λi j row cc x q1 q2 W=>(H.cell i j row cc x q1 q2 W).mono hm (λ_ _ h=>h),H.one⟩)
    ·exact .inr (.inr ⟨g',es,cl,Y.tr rfl (λh=>h) (cU q) (λi j row c x _ _ hr=>hr.mono hm (λ_ _ h=>h))⟩)
   ·obtain rfl:u=o.length:=by
     grind
    rw[hnew]at V;cases V
    have hg:∀(i:Nat)row,ob2.rows[i]?=some row->ob.rows[i]?=some row:=λi row hi=>by
     grind
    refine .inr (.inl ⟨g,cur,by rw[A.2.2.2];exact U.ez,U.o4,λe=>(by grind),λ_=>⟨cap,by grind[bX],by grind,c3,by grind⟩,by rw[A.2.1];exact U.z,λi row hi=>by rw[A.2.1];exact U.row i row (hg i row hi),λi j row c x q1 q2 W=>?_,λi j row c x q1 q2 W=>?_⟩)
    ·rw[A.2.1]at W;exact(U.cell i j row c x (hg i row q1) q2 W).mono hm (λ_ _ h=>h)
    ·rw[A.2.1]at W;exact U.one i j row c x (hg i row q1) q2 W
  ·have side:∀i1 i2 b1 b2,(o.set id none++[some ob2])[i1]?=some (some b1)->(o.set id none++[some ob2])[i2]?=some (some b2)->i1<o.length->o.length<=i2->dW (iB nu o.length (.slice (some ⟨g,0,none⟩) k cap) i1 b1.hl)=some b->dW (iB nu o.length (.slice (some ⟨g,0,none⟩) k cap) i2 b2.hl)=some b->False:=λi1 i2 b1 b2 k1 k2 l1 l2 k3 k4=>by
    obtain rfl:i2=o.length:=by
     grind
    rw[bX]at k4;cases k4;rw[hold _ l1]at k1;obtain⟨O,h3⟩:=jf k1;rw[cU l1]at k3;exact h.sep id i1 ob b1 _ ho O h3 hbk k3
   rcases aei i1 o.length with l1|l1
   ·rcases aei i2 o.length with l2|l2
    ·rw[hold _ l1]at k1;rw[hold _ l2]at k2;rw[cU l1]at k3;rw[cU l2]at k4;exact h.sep i1 i2 b1 b2 b (jf k1).1 (jf k2).1 hne k3 k4
    grind
   grind
theorem ON{oo:Oper}{s:AS}{T:TypeId}{x h:Operand}{id len:Nat}{ob:aa}{kk:IntKind}{k:Nat}(A:oo.op=.slice T x none (some h) none)(O:s.ev x=.vec id len)(hh:s.ev h=.v (.int kk k))(ho:s.o[id]?=some (some ob))(Y:ob.fc=true)(hl:ob.rows.length=len)(W:Rz P T=some ob.z)(hk:k<=len) :
  VV P oo s (.vec s.o.length k) (s.o.set id none++[some {ob with rows:=ob.rows.take k}]):=λf D nu a w u=>by
 subst hl;obtain⟨ad,cap,c1,c2,c3,c4,hm,hr⟩:=J8 u.ro ho Y hk;have ex:=u.ev x;rw[O]at ex
 have H:a.eval x=nu id ob.rows.length:=by
  generalize a.eval x=y at ex;cases ex;rfl
 have eh:a.eval h=.int kk k:=(u.ev h).RP hh;obtain⟨e,U,q⟩:=nt W;have V:=dr (P:=P) (w:=w) (b:=true) (len:=ob.rows.length) (cap:=cap) (l:=0) (h:=k) (m:=cap) (lo:=none) (hi:=some (.int kk k)) (mx:=none) (.inl ⟨rfl,rfl⟩) (.inr ⟨kk,rfl⟩) (.inl ⟨rfl,rfl⟩) (Nat.zero_le _) zd (aed _)
 have hlen:(ob.rows.take k).length=k:=ahn
 refine⟨.slice ad k cap,w,_,?_,hm,hr,?_⟩
 ·simp only[execOp,A];simp only[Sem.run_bind,aeE,Option.map_none,H,c1,eh]
  cases ad with
  |none=>
   have:=c3 rfl
   subst this;simp[Instr.sliceAt,Instr.slice,run_underlying U,V,run_sizeOf q]
  |some a=>
   have:=c4 a rfl
   obtain⟨g,off,fr⟩:=a;simp only at this;subst this;simp[Instr.sliceAt,Instr.slice,run_underlying U,V,run_sizeOf q,Addr.add]
 ·have:=RA.vec (D:=D) (nu:=iB nu s.o.length (.slice ad k cap)) (o:=(s.o.set id none++[some {ob with rows:=ob.rows.take k}])) (w:=w) s.o.length k ⟨some {ob with rows:=ob.rows.take k},by grind,λx O=>by grind[aa.hl]⟩ (by rw[bX];rfl)
  grind[bX]
theorem Dy{n id:Nat}{ob:aa}(h:(o++List.replicate n none)[id]?=some (some ob)):o[id]?=some (some ob):=by
 grind
theorem y7(n:Nat):cf nu o w nu (o++List.replicate n none) w:=⟨rfl,rfl,rfl,aed _,λid len H=>⟨by
 obtain⟨x,A,u⟩:=H
 exact⟨x,by grind,u⟩,rfl⟩,λb _ q=>⟨rfl,λ⟨id,ob,A,u⟩=>q ⟨id,ob,Dy A,u⟩⟩⟩
theorem WN(h:RO D nu o w)(n:Nat):RO D nu (o++List.replicate n none) w:=by
 have H:=y7 (nu:=nu) (o:=o) (w:=w) n;refine⟨λid ob u=>?_,h.up,λi1 i2 b1 Y b u W=>h.sep i1 i2 b1 Y b (Dy u) (Dy W),h.gl.mono H (λ_ _ h=>h)⟩
 rcases h.obj id ob (Dy u)with e|⟨g,cur,q⟩|⟨g,es,cl,A⟩
 ·exact .inl e
 ·exact .inr (.inl ⟨g,cur,q.ez,q.o4,q.box,q.vec,q.z,q.row,λi j row c x V U O=>(q.cell i j row c x V U O).mono H (λ_ _ h=>h),q.one⟩)
 ·exact .inr (.inr ⟨g,es,cl,A.tr rfl (λh=>h) rfl (λi j row c x _ _ q=>q.mono H (λ_ _ h=>h))⟩)
theorem bT.pad{f:FuncId}{args:C5}{o1:AC}{r:AV}(h:bT P f args o r o1)(n:Nat):bT P f args o r (o1++List.replicate n none):=
 ⟨h.1,λD nu w vargs q u=>(h.2 D nu w vargs q u).mono (by
  rintro e w' ⟨v,nu',o',A,rfl,U,O,H,rfl,rfl⟩
  exact⟨v,nu',_,A,rfl,U.trans (y7 n),WN O n,H.mono (y7 n) (λ_ _ h=>h),rfl,rfl⟩)⟩
end
end
def rP(l:LT):AC:=[some ⟨162,2,false,[[.vec 1 l.length,.v (.bool true)]]⟩,some ⟨115,2,true,l.map bf⟩]
theorem aR(n:Nat)(l:LT):bE n (l.map bf)=true:=bt _ (λ_=>rfl) _
theorem kF{l:LT}{j:Nat}(h:j<l.length):(l.map bf).getD j []=[.v (.int .i64 (aX l j).1),.v (.int .i64 (aX l j).2)]:=by
 rw[getD_map bf l j [] h,tg h];rfl
theorem Py{l:LT}{k u:Nat}(H:k<l.length)(A:u<l.length)(q:k≠u)(X:C5):((l.map bf).set k X).getD u []=[.v (.int .i64 (aX l u).1),.v (.int .i64 (aX l u).2)]:=by
 rw[<-kF A,aeS,aeS,List.getElem?_set_ne q]
theorem Gr(l:LT)(k u:Nat):((l.map bf).set k [.v (.int .i64 (aX l u).1),.v (.int .i64 (aX l u).2)]).set u [.v (.int .i64 (aX l k).1),.v (.int .i64 (aX l k).2)]=(swp l k u).map bf:=by
 rw[swp,ago,ago];rfl
theorem IT(a:AV)(b:Bool)(q:a.wf 0=true):aj prog 92 [.vp [a,.v (.bool b)]] (.v (.bool b)):=by
 (refine aj.enter func92 rfl zo zo rfl (by simp only[go_sem,aQ,AV.wf,agp,afe,afi,q]) (by simp only[go_sem,aQ,AV.wf,bz,agp,afe,afi,q]) ?_;simp only[ntmps92,results92,ae0,aeg,Nat.reduceAdd,Nat.reduceSub,List.replicate_succ,List.replicate_zero,afz,afy])
 repeat(first|(with_reducible first|refine bA.up ?_|refineλ(K:AK)hK=>?_|(refine hK _ ?_;clear hK K))|simp only[go_sem,Bool.not_false]|clear hK K)
theorem Wr(l:LT):aj prog 132 [.vp [.aA 2 (l.map bf) l.length,.v (.bool true)]] (.v (.int .i64 l.length)):=by
 have M:=IT (.aA 2 (l.map bf) l.length) true (by simp only[AV.wf,aR])
 (refine aj.enter func132 rfl zo zo rfl (by simp only[go_sem,aQ,AV.wf,agp,afe,afi,aR]) (by simp only[go_sem,aQ,AV.wf,bz,agp,afe,afi,aR]) ?_;simp only[ntmps132,results132,ae0,aeg,Nat.reduceAdd,Nat.reduceSub,List.replicate_succ,List.replicate_zero,afz,afy])
 (refine ag ?_;intro K hK K hK K hK)
 ((iterate 3 revert K);exact lH M)
theorem Kh(l:LT)(hl:l.length<=1000000):bT prog 94 [.ptr 0 0 2 0 0] (rP l) (.ck [.agg (bf (aX l 0)),.v (.bool (decide (l≠[])))]) (rP l):=by
 have M:=Wr l;simp only[rP,bf]
 by_cases h:l=[]
 ·subst h;have d0:(((0:Nat):Int)==0)=true:=rfl;refine gF func94 ntmps94 results94 ?_
  (refine ag ?_;intro K hK K hK K hK)
  refine ah.CA M 8 rfl (by simp only[go_sem,Nat.reduceLT,Nat.reduceLeDiff,Nat.reduceEqDiff,agq,agr,and_self,aR]) rfl ?_
  ((iterate 3 revert K);refine ak d0 ?_)
  refine⟨AW ?_,ej,ej⟩
  all_goals first|rfl
 ·have q:0<l.length:=ags.2 h
  have A:((l.length:Int)==0)=false:=by rw[beq_eq_false_iff_ne];omega
  have u:=kF q;rw[show decide (l≠[])=true from decide_eq_true h];refine gF func94 ntmps94 results94 ?_
  (refine ag ?_;intro K hK K hK K hK)
  refine ah.CA M 8 rfl (by simp only[go_sem,Nat.reduceLT,Nat.reduceLeDiff,Nat.reduceEqDiff,agq,agr,and_self,aR]) rfl ?_
  ((iterate 3 revert K);refine fb A u ?_)
  refine⟨ej,AW ?_,ej⟩
  all_goals first|rfl|exact aR _ _
theorem W7(l:LT)(k:Nat)(hk:k<l.length)(hl:l.length<=1000000):bT prog 93 [.ptr 0 0 2 0 0,.v (.int .i64 k)] (rP l) (.ck []) (rP (p8 k l k)):=by
 simp only[rP];generalize hR:p8 k l k=R
 have hRl:R.length=l.length:=by rw[<-hR];exact(sc k l k hk).length_eq
 refine gF func93 ntmps93 results93 ?_;refine bc ?_
 refine aN (ι:=LT×Nat×Nat) 2 (λx=>[(1,.v (.int .i64 (x.2.1:Nat)))]) (λx=>[some ⟨162,2,false,[[.vec 1 x.1.length,.v (.bool true)]]⟩,some ⟨115,2,true,x.1.map bf⟩]) (λx=>x.2.1) (λx=>x.1.length=l.length∧x.2.1<x.1.length∧x.2.1<=x.2.2∧p8 x.2.2 x.1 x.2.1=R) (l,k,k) ⟨rfl,hk,Nat.le_refl _,hR⟩ ?_ ?_
 ·refine ab ar (bF ?_) ar
  all_goals first|rfl|exact aR _ _
 ·rintro⟨cur,j,f⟩ ⟨V,U,hjf,q⟩ K hK;simp only at V U hjf q⊢
  have eN:(cur.map bf).length=cur.length:=zk
  by_cases hj0:j=0
  ·subst hj0
   have e0:R=cur:=by rw[<-q];cases f<;>simp[p8]
   have d0:decide ((0:Int)<((0:Nat):Int))=false:=zs
   rw[e0]
   (revert K;refine aG d0 ?_)
   refine⟨ej,AW ?_,ej⟩
   all_goals first|rfl|exact aR _ _
  ·have d0:decide ((0:Int)<(j:Int))=true:=b0
   have w1:IntKind.i64.wrap ((j:Int)-1)=((j-1:Nat):Int):=by rw[bS zd zd];omega
   have w2:IntKind.i64.wrap (((j-1:Nat):Int).tdiv 2)=(((j-1) / 2:Nat):Int):=by
    rw[show(((j-1:Nat):Int).tdiv 2)=(((j-1) / 2:Nat):Int)from rfl,bS zd zd]
   obtain⟨n,rfl⟩:∃n,j=n+1:=⟨j-1,zd⟩
   have H:(n+1-1) / 2<cur.length:=zd
   have hne:n+1≠(n+1-1) / 2:=zd
   have e1:=kF U;have e2:=kF H;have e3:=Py U H hne [.v (.int .i64 (aX cur ((n+1-1) / 2)).1),.v (.int .i64 (aX cur ((n+1-1) / 2)).2)];have e4:=Gr cur (n+1) ((n+1-1) / 2);have C:=Du (aX cur (n+1)) (aX cur ((n+1-1) / 2));have A:=Wt (aX cur (n+1)) (aX cur ((n+1-1) / 2));obtain⟨f,rfl⟩:∃g,f=g+1:=⟨f-1,zd⟩;rw[p8,if_neg (Nat.succ_ne_zero n)]at q;have O:=js cur (n+1) ((n+1-1) / 2);simp only[bf]at C
   have Y:(n+1-1) / 2<=f:=zd
   have W:(n+1-1) / 2<n+1:=zd
   generalize(n+1-1) / 2=u at *
   cases hb:gS (aX cur (n+1)) (aX cur u)
   ·rw[hb]at A q;simp only[Bool.not_false,afq,if_false]at A q
    (revert K;refine aG (nU d0 w1 w2 e1 e2 eN) ?_;iterate 4 intro K hK)
    ((iterate 4 revert K);refine pL C A ?_)
    rw[<-q];refine⟨ej,AW ?_,ej⟩
    all_goals first|rfl|exact aR _ _
   ·rw[hb]at A q;simp only[Bool.not_true,if_true]at A q
    (revert K;refine aG (nU d0 w1 w2 e1 e2 eN) ?_;iterate 4 intro K hK)
    refine bQ.one C ?_
    ((iterate 4 revert K);refine jd 3 A ?_;intro K hK K hK)
    refine bG [25,27] [(9,0)] za zo ?_
    (revert K;revert K;refine Ph (pt e1 e2 e3 eN) ?_)
    refine aG e4 ?_;refine aw.mk (swp cur (n+1) u,u,f) ⟨by rw[O];exact V,by rw[O];exact H,Y,q⟩ W ?_;simp only[O];refine ab ar (bF ?_) ar
    all_goals first|rfl|exact aR _ _
theorem WX(l:LT)(x:fW)(hl:l.length<1000000):bT prog 57 [.ptr 0 0 2 0 0,.aA 2 [bf x] 1] (rP l) (.v (.int .i64 0)) (rP (mY l x)):=by
 have M:=IT (.aA 2 (l.map bf) l.length) true (by simp only[AV.wf,aR]);have RS:=W7 (l++[x]) l.length zk ahn
 have O:(mY l x).length=l.length+1:=by have:=(jL l x).length_eq;simpa using this
 have u:l.map bf++[bf x]=(l++[x]).map bf:=zk
 have A:l.length+1=(l++[x]).length:=zk
 have eN:(l.map bf).length=l.length:=zk
 have H:IntKind.i64.wrap (((l.length+1:Nat):Int)-1)=(l.length:Int):=by rw[bS zd zd];omega
 have d0:decide (((0:Nat):Int)<((1:Nat):Int))=true:=zs
 have d1:decide (((1:Nat):Int)<((1:Nat):Int))=false:=zs
 have w0:=ae (k:=0) zd;have eZ:∀f l,cm f (List.map bf l)=List.map bf l:=λf l=>bj _ _ (aR _ _);rw[<-mY,rP, <- u, <- A]at RS
 have eZa:∀f,cm f (l.map bf++[bf x])=l.map bf++[bf x]:=λf=>by rw[u];exact bj _ _ (aR _ _)
 have eWa:bE 2 (l.map bf++[bf x])=true:=by rw[u];exact aR _ _
 clear u A;simp only[rP,bf]at *;refine gF func57 ntmps57 results57 ?_
 (refine ag ?_;intro K hK K hK K hK)
 refine ah.CA M 8 rfl (by simp only[go_sem,Nat.reduceLT,Nat.reduceLeDiff,Nat.reduceEqDiff,agq,agr,and_self,aR]) rfl ?_
 ((iterate 3 revert K);refine ag ?_;intro K hK)
 refine aN (ι:=Bool) 13 (λb=>[(6,.undef),(12,.v (.int .i64 ((if b then 1 else 0:Nat):Int)))]) (λb=>if b then [some ⟨162,2,false,[[.vec 1 (mY l x).length,.v (.bool true)]]⟩,some ⟨115,2,true,(mY l x).map bf⟩]else [some ⟨162,2,false,[[.vec 1 l.length,.v (.bool true)]]⟩,some ⟨115,2,true,l.map bf⟩]) (λb=>if b then 0 else 1) (λ_=>True) false trivial ?_ ?_
 ·simp only[afq,if_false];refine ab (bF ?_) (bF ?_) ar
  all_goals first|rfl|exact aR _ _
 ·rintro b _ K hK
  cases b
  ·simp only[afq,if_false]
   (revert K;revert K;refine jd 6 d0 ?_;iterate 4 intro K hK)
   (refine qp 7 16 0 zo za zo ?_;simp only[iZ,afZ,agt,List.push_toArray,afz,afy,List.drop_succ_cons,List.drop_zero,List.take_succ_cons,List.take_zero])
   ((iterate 4 revert K);refine ak eN ?_;iterate 4 intro K hK)
   ((iterate 4 revert K);refine ak H ?_;iterate 4 intro K hK)
   refine ah.fr [0,1] RS zk ?_ ?_ ?_ ?_ ?_
   ·simp only[afZ,agt,afr,afs,aeE,aa.bb,cm,bW,AV.bb,eZa];rfl
   ·rfl
   ·rfl
   ·intro j ob q
    match j,q with
    |0,q=>cases q;rfl
    |1,q=>cases q;exact eWa
    |j+2,q=>simp at q
   ((iterate 4 revert K);refine fb eZ w0 ?_)
   refine aw.mk true trivial zk ?_;simp only[if_true];refine ab ar (bF ?_) ar
   all_goals first|rfl|exact aR _ _
  ·simp only[if_true]
   (revert K;revert K;refine ak d1 ?_)
   refine⟨ej,AW ?_,ej⟩
   all_goals first|rfl|exact aR _ _
def rS(l:LT)(k:Nat):Nat->Nat
 |0=>k
 |i+1=>if 2*k+1+i<l.length∧gS (aX l (2*k+1+i)) (aX l (rS l k i))=true then 2*k+1+i else rS l k i
theorem PI(l:LT)(k:Nat):rS l k 2=eu l k:=rfl
theorem De{l:LT}{k:Nat}(h:k<l.length):∀i,rS l k i<l.length
 |0=>h
 |i+1=>by
  rw[rS]
  split
  ·rename_i q;exact q.1
  ·exact De h i
theorem Xe(l:LT)(hl:l.length<=1000000):bT prog 95 [.ptr 0 0 2 0 0] (rP l) (.ck []) (rP (nk l.length l 0)):=by
 simp only[rP];generalize hR:nk l.length l 0=R
 have hRl:R.length=l.length:=by
  rw[<-hR]
  by_cases h:l=[]
  ·subst h;rfl
  ·exact(sh _ l 0 (ags.2 h)).length_eq
 refine gF func95 ntmps95 results95 ?_;refine bc ?_
 refine aN (ι:=LT×Nat×Nat) 2 (λx=>[(2,.v (.int .i64 (x.2.1:Nat)))]) (λx=>[some ⟨162,2,false,[[.vec 1 x.1.length,.v (.bool true)]]⟩,some ⟨115,2,true,x.1.map bf⟩]) (λx=>x.2.2) (λx=>x.1.length=l.length∧(x.2.1<x.1.length∨x.1.length=0∧x.2.1=0)∧x.1.length<=x.2.2+x.2.1∧nk x.2.2 x.1 x.2.1=R) (l,0,l.length) ⟨rfl,by rcases Nat.eq_zero_or_pos l.length with h|h;exact .inr ⟨h,rfl⟩;exact .inl h,zk,hR⟩ ?_ ?_
 ·refine ab (bF ?_) (bF ?_) ar
  all_goals first|rfl|exact aR _ _
 ·rintro⟨cur,j,f⟩ ⟨hcl,H,hjf,U⟩ K hK;simp only at hcl H hjf U⊢
  have hj:j<=1000000:=zd
  have w1:IntKind.i64.wrap (2*(j:Int))=((2*j:Nat):Int):=by rw[bS zd zd];omega
  have w2:IntKind.i64.wrap (((2*j:Nat):Int)+1)=((2*j+1:Nat):Int):=by rw[bS zd zd];omega
  have w3:IntKind.i64.wrap (((2*j:Nat):Int)+2)=((2*j+2:Nat):Int):=by rw[bS zd zd];omega
  have eN:(cur.map bf).length=cur.length:=zk
  (revert K;refine jd 4 (mQ w1 w2 w3) ?_;intro K hK K hK)
  refine aZ 3 (λi:Nat=>[(3,.v (.int .i64 (rS cur j i:Nat))),(13,.agg [.v (.int .i64 ((2*j+1:Nat):Int)),.v (.int .i64 ((2*j+2:Nat):Int))]),(14,.v (.int .i64 (i:Nat)))]) (λi=>2-i) (λi=>i<=2) 0 zd ?_ ?_
  ·rw[show rS cur j 0=j from rfl];refine ab (bF ?_) (bF ?_) ar
   all_goals first|rfl|exact aR _ _|exact⟨rfl,rfl⟩
  ·intro i hi K hK
   rcases(by omega:i=0∨i=1∨i=2)with rfl|rfl|rfl
   rotate_left 2
   ·have d2:decide (((2:Nat):Int)<2)=false:=zs
    rw[PI]
    ((iterate 3 revert K);refine jd 9 d2 ?_;intro K hK K hK K hK)
    by_cases he:eu cur j=j
    ·have d3:((eu cur j:Int)==(j:Int))=true:=by rw[he];simp
     have e0:R=cur:=by
      rw[<-U];cases f with
      |zero=>rfl
      |succ f=>rw[nk,if_pos he]
     ((iterate 3 revert K);refine aG d3 ?_)
     refine⟨ej,AW ?_,ej⟩
     all_goals first|rfl|exact aR _ _|(rw[e0];exact⟨rfl,rfl,aR _ _⟩)
    ·have H:j<cur.length:=by
      rcases H with h|h
      ·exact h
      ·exact absurd (by rw[h.2,eu];simp[h.1]) he
     have hs:=pP cur j H
     have d3:((eu cur j:Int)==(j:Int))=false:=by rw[beq_eq_false_iff_ne];omega
     obtain⟨g,hg⟩:∃g,f=g+1:=⟨f-1,zd⟩;rw[hg,nk,if_neg he]at U;have O:=js cur j (eu cur j);have hsp:=hs.1;have V:=hs.2.1;generalize eu cur j=u at he hs d3 U O hsp V⊢;have e1:=kF V;have e2:=kF H;have e3:=Py H V (Ne.symm he) [.v (.int .i64 (aX cur u).1),.v (.int .i64 (aX cur u).2)];have e4:=Gr cur j u
     ((iterate 3 revert K);refine jd 10 d3 ?_;intro K hK K hK)
     refine bG [25,27] [(9,0)] za zo ?_
     (revert K;revert K;refine Ph (pt e1 e2 e3 eN) ?_)
     refine aG e4 ?_;refine aw.mk (swp cur j u,u,g) ⟨by rw[O];exact hcl,by rw[O];exact .inl V,(show(swp cur j u).length<=g+u by rw[O];omega),U⟩ (show g<f by omega) ?_;simp only[O];refine ab ar (bF ?_) ar
     all_goals first|rfl|exact aR _ _
   ·have d0:decide (((0:Nat):Int)<2)=true:=zs
    have ws:=ae (k:=0) zd
    have eK:rS cur j (0+1)=if 2*j+1<cur.length∧gS (aX cur (2*j+1)) (aX cur (rS cur j 0))=true then 2*j+1 else rS cur j 0:=rfl
    by_cases W:2*j+1<cur.length
    ·have d1:decide (((cur.length:Nat):Int)<=((2*j+1:Nat):Int))=false:=bi;have hk:=De (show j<cur.length by omega) 0;generalize hq:rS cur j 0=q at eK hk⊢;have e1:=kF W;have e2:=kF hk;have C:=Du (aX cur (2*j+1)) (aX cur q);have A:=IF (aX cur (2*j+1)) (aX cur q);simp only[bf]at C
     have eN':2*j+1<(cur.map bf).length:=by rw[eN];exact W
     cases Y:gS (aX cur (2*j+1)) (aX cur q)
     ·rw[Y]at A;rw[if_neg (by rw[Y];simp)]at eK
      ((iterate 3 revert K);refine aG (qu d0 d1 e1 e2 eN) ?_;iterate 6 intro K hK)
      ((iterate 6 revert K);refine pL C (q9 A ws) ?_)
      refine aw.mk 1 zd zd ?_;rw[eK];refine ab ar (bF ?_) ar
      all_goals first|rfl|exact aR _ _
     ·rw[Y]at A;rw[if_pos ⟨W,Y⟩]at eK
      ((iterate 3 revert K);refine aG (qu d0 d1 e1 e2 eN) ?_;iterate 6 intro K hK)
      ((iterate 6 revert K);refine pL C (q9 A ws) ?_)
      refine aw.mk 1 zd zd ?_;rw[eK];refine ab ar (bF ?_) ar
      all_goals first|rfl|exact aR _ _
    ·have d1:decide (((cur.length:Nat):Int)<=((2*j+1:Nat):Int))=true:=b0;rw[if_neg (λh=>W h.1)]at eK
     ((iterate 3 revert K);refine aG (pt d0 d1 eN ws) ?_)
     refine aw.mk 1 zd zd ?_;rw[eK];refine ab ar (bF ?_) ar
     all_goals first|rfl|exact aR _ _
   ·have d0:decide (((1:Nat):Int)<2)=true:=zs
    have ws:=ae (k:=1) zd
    have eK:rS cur j (1+1)=if 2*j+2<cur.length∧gS (aX cur (2*j+2)) (aX cur (rS cur j 1))=true then 2*j+2 else rS cur j 1:=rfl
    by_cases W:2*j+2<cur.length
    ·have d1:decide (((cur.length:Nat):Int)<=((2*j+2:Nat):Int))=false:=bi;have hk:=De (show j<cur.length by omega) 1;generalize hq:rS cur j 1=q at eK hk⊢;have e1:=kF W;have e2:=kF hk;have C:=Du (aX cur (2*j+2)) (aX cur q);have A:=IF (aX cur (2*j+2)) (aX cur q);simp only[bf]at C
     have eN':2*j+2<(cur.map bf).length:=by rw[eN];exact W
     cases Y:gS (aX cur (2*j+2)) (aX cur q)
     ·rw[Y]at A;rw[if_neg (by rw[Y];simp)]at eK
      ((iterate 3 revert K);refine aG (qu d0 d1 e1 e2 eN) ?_;iterate 6 intro K hK)
      ((iterate 6 revert K);refine pL C (q9 A ws) ?_)
      refine aw.mk 2 zd zd ?_;rw[eK];refine ab ar (bF ?_) ar
      all_goals first|rfl|exact aR _ _
     ·rw[Y]at A;rw[if_pos ⟨W,Y⟩]at eK
      ((iterate 3 revert K);refine aG (qu d0 d1 e1 e2 eN) ?_;iterate 6 intro K hK)
      ((iterate 6 revert K);refine pL C (q9 A ws) ?_)
      refine aw.mk 2 zd zd ?_;rw[eK];refine ab ar (bF ?_) ar
      all_goals first|rfl|exact aR _ _
    ·have d1:decide (((cur.length:Nat):Int)<=((2*j+2:Nat):Int))=true:=b0;rw[if_neg (λh=>W h.1)]at eK
     ((iterate 3 revert K);refine aG (pt d0 d1 eN ws) ?_)
     refine aw.mk 2 zd zd ?_;rw[eK];refine ab ar (bF ?_) ar
     all_goals first|rfl|exact aR _ _
theorem Zq(l:LT)(u:l≠[])(hl:l.length<=1000000):bT prog 58 [.ptr 0 0 2 0 0] (rP l) (.ck [.agg (bf (aX l 0)),.v (.bool true)]) [some ⟨162,2,false,[[.vec 4 (ph l).length,.v (.bool true)]]⟩,none,none,none,some ⟨115,2,true,(ph l).map bf⟩]:=by
 have F:=Kh l hl;rw[decide_eq_true u]at F;have A:0<l.length:=ags.2 u;have S:=Xe ((l.set 0 (aX l (l.length-1))).take (l.length-1)) ahn
 have eL:((l.set 0 (aX l (l.length-1))).take (l.length-1)).length=l.length-1:=zk
 have O:=ze u
 have eP:nk ((l.set 0 (aX l (l.length-1))).take (l.length-1)).length ((l.set 0 (aX l (l.length-1))).take (l.length-1)) 0=ph l:=by rw[eL];rfl
 rw[eP]at S;simp only[rP,eL,bf]at S F;simp only[rP,bf]
 have eN:(l.map bf).length=l.length:=zk
 have H:IntKind.i64.wrap ((l.length:Int)-1)=((l.length-1:Nat):Int):=by rw[bS zd zd];omega
 have eT:((l.map bf).set 0 [.v (.int .i64 (aX l (l.length-1)).1),.v (.int .i64 (aX l (l.length-1)).2)]).take (l.length-1)=((l.set 0 (aX l (l.length-1))).take (l.length-1)).map bf:=by rw[List.map_take,ago];rfl
 have e0:=kF A;have U:=kF (show l.length-1<l.length by omega);have eZ:∀f l,cm f (List.map bf l)=List.map bf l:=λf l=>bj _ _ (aR _ _);refine gF func58 ntmps58 results58 ?_
 (refine bc ?_;intro K hK K hK)
 refine ah.fr [0,1] F zk ?_ ?_ ?_ ?_ ?_
 ·simp only[afZ,agt,afr,afs,aeE,aa.bb,cm,bW,AV.bb,eZ];rfl
 ·rfl
 ·rfl
 ·intro j ob q
  match j,q with
  |0,q=>cases q;rfl
  |1,q=>cases q;exact aR _ _
  |j+2,q=>simp at q
 repeat((fail_if_success (with_reducible refine ku (i:=5) ?_));first|(with_reducible first|refine bA.up ?_|refineλ(K:AK)hK=>?_|refine wE ?_|refine wK ?_|refine wF ?_|(refine hK _ ?_;clear hK K))|simp only[go_sem,eZ,H,e0,U,eN]|with_reducible refine wA ?_|clear hK K)
 refine J3 6 rfl zo rfl ?_
 repeat(first|(with_reducible first|refine bA.up ?_|refineλ(K:AK)hK=>?_|refine wE ?_|refine wK ?_|refine wF ?_|(refine hK _ ?_;clear hK K))|simp only[go_sem,eN,List.length_set]|with_reducible refine wA ?_|clear hK K)
 refine⟨_,_,ON rfl rfl rfl rfl rfl zk zo (Nat.sub_le _ 1),?_⟩;simp only[List.drop_succ_cons,List.drop_zero,eT]
 (revert K;revert K;refine aG eN ?_;intro K hK K hK)
 refine ah.fr [0,4] S zk ?_ ?_ ?_ ?_ ?_
 ·simp only[afZ,agt,afr,afs,aeE,aa.bb,cm,bW,AV.bb,eZ];rfl
 ·rfl
 ·rfl
 ·intro j ob q
  match j,q with
  |0,q=>cases q;rfl
  |1,q=>cases q;exact aR _ _
  |j+2,q=>simp at q
 (revert K;revert K;refine aG eZ ?_)
 refine⟨ej,AW ?_,ej⟩
 all_goals first|rfl|exact aR _ _
theorem WT:bT prog 58 [.ptr 0 0 2 0 0] (rP []) (.ck [.agg (bf (aX [] 0)),.v (.bool false)]) (rP []):=by
 have F:=Kh [] zk;rw[show decide (([]:LT)≠[])=false from rfl]at F;simp only[rP,bf,agt,aeg]at F⊢;refine gF func58 ntmps58 results58 ?_
 (refine ag ?_;intro K hK K hK)
 refine ah.fr [0,1] F zk ?_ ?_ ?_ ?_ ?_
 ·rfl
 ·rfl
 ·rfl
 ·intro j ob q
  match j,q with
  |0,q=>cases q;rfl
  |1,q=>cases q;rfl
  |j+2,q=>simp at q
 (revert K;revert K;refine ag ?_)
 exact⟨ej,ej,ej⟩
 all_goals first|rfl
theorem Uy:bT prog 57 [.ptr 0 0 2 0 0,.v (.slice none 0 0)] (rP []) (.v (.int .i64 0)) (rP []):=by
 have M:=IT (.aA 2 [] 0) true rfl
 have d1:decide (((0:Nat):Int)<((0:Nat):Int))=false:=zs
 simp only[rP,agt,aeg];refine gF func57 ntmps57 results57 ?_
 (refine ag ?_;intro K hK K hK K hK)
 refine ah.CA M 8 rfl (by simp only[go_sem,Nat.reduceLT,Nat.reduceLeDiff,Nat.reduceEqDiff,agq,agr,and_self,aR]) rfl ?_
 ((iterate 3 revert K);refine ag ?_;intro K hK)
 refine aN (ι:=Unit) 13 (λ_=>[(6,.undef)]) (λ_=>[some ⟨162,2,false,[[.vec 1 0,.v (.bool true)]]⟩,some ⟨115,2,true,[]⟩]) (λ_=>0) (λ_=>True) () trivial ?_ ?_
 ·exact ab ar ar ar
  all_goals first|rfl
 ·rintro _ _ K hK
  (revert K;revert K;refine ak d1 ?_)
  exact⟨ej,ej,ej⟩
  all_goals first|rfl
theorem Zj:bT prog 53 [.v (.slice none 0 0)] [] (.ptr 0 0 2 0 0) (rP []):=by
 have S:=Uy;simp only[rP,agt,aeg]at S⊢;refine gF func53 ntmps53 results53 ?_
 (refine dG 2 ?_;intro K hK)
 refine bn (dS (k:=0) (i:=0) (j:=0) 115 2 zs rfl zs rfl rfl) zo ?_;simp only[List.set_cons_zero,List.set_cons_succ,ae0,aeg,Nat.reduceAdd,afz,afy]
 (revert K;refine ag ?_;intro K hK K hK)
 refine ah.fr [0,1] S zk ?_ ?_ ?_ ?_ ?_
 ·rfl
 ·rfl
 ·rfl
 ·intro j ob q
  match j,q with
  |0,q=>cases q;rfl
  |1,q=>cases q;rfl
  |j+2,q=>simp at q
 (revert K;revert K;refine ag ?_)
 exact⟨ej,ej,ej⟩
 all_goals first|rfl
theorem nj{s t:ByteArray}:fR s t=true↔s=t:=toList_inj
theorem ij{α:Type}{p:List α->Prop}(q:p [])(u:∀l a,p l->p (l++[a]))(l:List α):p l:=by
 rw[<-List.reverse_reverse l]
 induction l.reverse with
 |nil=>exact q
 |cons a l ih=>grind
theorem Pw(n m:Nat)(f:Nat->Nat)(H:∀a,a<n->f a<m)(A:∀a b,a<n->b<n->f a=f b->a=b):n<=m:=by
 have hn:((List.range n).map f).Nodup:=by
  grind[agu,agv,List.length_range]
 have q:((List.range n).map f) ⊆ List.range m:=λx u=>by
  grind
 have:=hn.length_le_of_subset q
 grind
theorem EN(u:Nat):∀c∈Lib.decDigits u,48<=c.toNat∧c.toNat<=57:=by
 induction u using Nat.strongRecOn with
 |_ u ih=>
  intro c q;rw[Lib.decDigits]at q
  split at q
  ·simp only[af3]at q;subst q;simp;omega
  ·rw[af2]at q
   rcases q with q|q
   ·grind
   ·simp only[af3]at q;subst q;simp;omega
theorem xY(u:Nat)(h:u<1000):(Lib.decDigits u).length<=3:=by
 rw[Lib.decDigits];split
 ·simp
 ·rw[Lib.decDigits];split
  ·simp
  ·rw[Lib.decDigits,dif_pos zd];simp
def K3(l:List UInt8):Nat:=l.foldl (λa c=>a*10+(c.toNat-48)) 0
theorem Ju(u:Nat):K3 (Lib.decDigits u)=u:=by
 induction u using Nat.strongRecOn with
 |_ u ih=>
  rw[Lib.decDigits];split
  ·rename_i h;simp[K3];omega
  ·rename_i h
   have:=ih (u / 10) zd
   rw[K3,agw, <- K3,this];simp;omega
theorem OS{u v:Nat}(h:Lib.decDigits u=Lib.decDigits v):u=v:=by grind[Ju]
theorem sT{u v:Nat}{r s:List UInt8}(h:Lib.decDigits u++r=Lib.decDigits v++s)(A:r=[]∨r.head? = some 32)(q:s=[]∨s.head? = some 32):u=v∧r=s:=by
 have key:∀(a b r s:List UInt8),a++r=b++s->(∀c∈a,48<=c.toNat∧c.toNat<=57)->(∀c∈b,48<=c.toNat∧c.toNat<=57)->(r=[]∨r.head? = some 32)->(s=[]∨s.head? = some 32)->a=b∧r=s:=by
  intro a
  induction a with
  |nil=>
   intro b r s h O U A q
   cases b with
   |nil=>grind
   |cons c b=>
    simp_all
  |cons d a ih=>
   intro b r s h O U A q
   cases b with
   |nil=>
    have:=O d List.mem_cons_self
    rw[List.nil_append]at h;subst h
    rcases q with q|q
    ·simp at q
    ·simp at q;simp_all
   |cons c b=>
    simp only[List.cons_append,agk]at h;obtain⟨rfl,h⟩:=h;obtain⟨W,V⟩:=ih b r s h (λc H=>O c (aeX _ H)) (λc H=>U c (aeX _ H)) A q
    grind
 obtain⟨W,V⟩:=key _ _ _ _ h (EN u) (EN v) A q
 grind[OS]
def nY(l:Do):List UInt8:=l.flatMap (λn=>Lib.decDigits n++[32])
def lJ(l:Do):ByteArray:=⟨(nY l).toArray⟩
theorem Fw:∀{l m:Do},nY l=nY m->l=m
 | [],[],_=>rfl
 | [],b::m,h=>by simp[nY]at h
 |a::l,[],h=>by simp[nY]at h
 |a::l,b::m,h=>by
  simp only[nY,List.flatMap_cons,agx]at h;obtain⟨u,q⟩:=sT h (.inr rfl) (.inr rfl);simp only[List.cons_append,List.nil_append,agk,true_and]at q;rw[u,Fw (l:=l) (m:=m) q]
theorem Fv{l m:Do}(h:lJ l=lJ m):l=m:=by
 grind[lJ,Fw]
def pos(l:B0)(s:ByteArray):Option Nat:=l.findIdx? (λx=>fR s x)
theorem FZ{l:B0}{s:ByteArray}:pos l s=none↔s∉l:=by
 rw[pos,afk]
 grind[nj]
theorem zg{l:B0}{s:ByteArray}{k:Nat}(h:pos l s=some k):∃q:k<l.length,l[k]=s:=by
 grind[pos,afj,nj]
theorem WV{l:B0}{s:ByteArray}{k:Nat}(h:pos l s=some k):k<l.length:=(zg h).1
abbrev bD:=List (ByteArray×Nat)
abbrev N3:=List bD
structure qk where
 all:List Do
 rows:N3
 ends:N2
section
variable (cN:Do->ByteArray->Do) (em:Bool) (la:Do)
def G0(cur:Do)(st:List Do×bD)(lab:ByteArray):List Do×bD:=
 if cN cur lab=[]then st else match pos (st.1.map lJ) (lJ (cN cur lab))with
 |some k=>(st.1,st.2++[(lab,k)])
 |none=>(st.1++[cN cur lab],st.2++[(lab,st.1.length)])
def fK(cur:Do)(all:List Do)(labs:B0):List Do×bD:=labs.foldl (G0 cN cur) (all,[])
theorem lB(cur:Do)(all:List Do)(labs:B0)(l:ByteArray):fK cN cur all (labs++[l])=G0 cN cur (fK cN cur all labs) l:=by rw[fK,agw];rfl
def cd(st:qk):Do:=st.all.getD st.rows.length []
def ua(st:qk):Bool:=(st.rows.length==0&&em)||(cd st).any (λp=>la.contains p)
def cR(labs:B0)(st:qk):qk:=⟨(fK cN (cd st) st.all labs).1,st.rows++[(fK cN (cd st) st.all labs).2],st.ends++[ua em la st]⟩
def qa(labs:B0):Nat->qk->Option qk
 |0,st=>some st
 |f+1,st=>if st.rows.length<st.all.length then(if 256<(cR cN em la labs st).all.length then none else qa labs f (cR cN em la labs st))else some st
def s0:qk:=⟨[[0]],[],[]⟩
def ri(labs:B0):Option qk:=qa cN em la labs 257 s0
structure Hi(labs:B0)(st:qk):Prop where
 le:st.rows.length<=st.all.length
 max:st.all.length<=256
 nd:(st.all.map lJ).Nodup
 ends:st.ends.length=st.rows.length
 row:∀r∈st.rows,(r.map Prod.fst).Sublist labs∧∀p∈r,p.2<st.all.length
theorem Xb{cur:Do}{a:List Do×bD}{lab:ByteArray}(hn:(a.1.map lJ).Nodup)(q:∀p∈a.2,p.2<a.1.length) :
  ((G0 cN cur a lab).1.map lJ).Nodup∧(∀p∈(G0 cN cur a lab).2,p.2<(G0 cN cur a lab).1.length)∧a.1.length<=(G0 cN cur a lab).1.length∧(G0 cN cur a lab).1.length<=a.1.length+1 ∧
  ((G0 cN cur a lab).2=a.2∨∃k,(G0 cN cur a lab).2=a.2++[(lab,k)])∧∃t,(G0 cN cur a lab).1=a.1++t:=by
 unfold G0
 split
 ·exact⟨hn,q,aed _,Nat.le_succ _,.inl rfl,[],zk⟩
 ·split
  ·rename_i k hk
   have:=WV hk
   rw[agv]at this;refine⟨hn,λp u=>?_,aed _,Nat.le_succ _,.inr ⟨_,rfl⟩,[],zk⟩
   grind
  grind[List.map_singleton,agy,af3,FZ,aem,agz]
theorem xp{cur:Do}{all:List Do}(hn:(all.map lJ).Nodup):∀(labs:B0),
  ((fK cN cur all labs).1.map lJ).Nodup∧(∀p∈(fK cN cur all labs).2,p.2<(fK cN cur all labs).1.length)∧all.length<=(fK cN cur all labs).1.length∧(fK cN cur all labs).1.length<=all.length+labs.length ∧
  ((fK cN cur all labs).2.map Prod.fst).Sublist labs∧∃t,(fK cN cur all labs).1=all++t:=by
 refine ij ⟨hn,by simp[fK],aed _,aed _,by simp[fK],[],by simp[fK]⟩ ?_
 ·rintro labs l ⟨u,q,h3,h4,h5,t,Y⟩;obtain⟨W,V,U,O,H,t2,A⟩:=Xb cN (cur:=cur) (lab:=l) u q
  grind[lB,agx,List.sublist_append_left]
theorem UL(labs:B0):Hi labs s0:=⟨by simp[s0],by simp[s0],by simp[s0],rfl,by simp[s0]⟩
theorem ub{labs:B0}{st:qk}(h:Hi labs st)(h1:st.rows.length<st.all.length)(h2: ¬ 256<(cR cN em la labs st).all.length):Hi labs (cR cN em la labs st):=by
 obtain⟨u,Y,W,V,U,t,O⟩:=xp cN (cur:=cd st) h.nd labs
 refine⟨?_,zd,u,?_,λr q=>?_⟩
 ·grind[cR,aem,agz]
 ·simp only[cR,aem,agz,h.ends]
 ·simp only[cR,af2,af3]at q⊢
  rcases q with q|rfl
  ·obtain⟨H,A⟩:=h.row r q
   grind
  grind
theorem KU{labs:B0}:∀(f:Nat){st q:qk},Hi labs st->257<=f+st.rows.length->qa cN em la labs f st=some q->Hi labs q∧q.rows.length=q.all.length
 |0,st,q,h,u,e=>by
  simp only[qa,aep]at e;subst e
  have:=h.le;have:=h.max;omega
 |f+1,st,q,h,u,e=>by
  rw[qa]at e
  split at e
  ·rename_i H
   split at e
   ·cases e
   ·rename_i A;exact KU f (ub cN em la h H A) (by grind[cR,aem,agz]) e
  ·cases e;exact⟨h,by have:=h.le;omega⟩
end
section
variable (rows:N3)
def y4(part:Do)(p:Nat)(row:bD):List UInt8:=Lib.decDigits p++row.flatMap (λe=>32::(e.1.data.toList++32::Lib.decDigits (part.getD e.2 0)))
def du(part:Do)(p:Nat)(row:bD):ByteArray:=⟨(y4 part p row).toArray⟩
theorem MR(part:Do)(p:Nat)(row:bD)(e:ByteArray×Nat):y4 part p (row++[e])=y4 part p row++32::(e.1.data.toList++32::Lib.decDigits (part.getD e.2 0)):=by simp[y4]
def Zn(part:Do)(st:B0×Do)(s:Nat):B0×Do:=
 match pos st.1 (du part (part.getD s 0) (rows.getD s []))with
 |some k=>(st.1,st.2++[k])
 |none=>(st.1++[du part (part.getD s 0) (rows.getD s [])],st.2++[st.1.length])
def fA(part:Do)(n:Nat):B0×Do:=(List.range n).foldl (Zn rows part) ([],[])
theorem vi(part:Do)(n:Nat):fA rows part (n+1)=Zn rows part (fA rows part n) n:=by rw[fA,List.range_succ,agw];rfl
def gC(part:Do):Do:=(fA rows part rows.length).2
def gT(part:Do):Nat:=(fA rows part rows.length).1.length
def qS:Nat->Do->Nat->Do
 |0,part,_=>part
 |f+1,part,many=>if gT rows part=many then gC rows part else qS f (gC rows part) (gT rows part)
def p0(ends:N2):Do:=ends.map (λb=>if b then 1 else 0)
def b9(ends:N2):Do:=qS rows (rows.length+2) (p0 ends) 0
structure Yz(part:Do)(n:Nat):Prop where
 len:(fA rows part n).2.length=n
 nd:(fA rows part n).1.Nodup
 le:(fA rows part n).1.length<=n
 at':∀s,s<n->∃h:(fA rows part n).2.getD s 0<(fA rows part n).1.length,(fA rows part n).1[(fA rows part n).2.getD s 0]=du part (part.getD s 0) (rows.getD s [])
 on:∀k,k<(fA rows part n).1.length->∃s,s<n∧(fA rows part n).2.getD s 0=k
theorem jl(part:Do):∀n,Yz rows part n
 |0=>⟨rfl,by simp[fA],by simp[fA],λs h=>zd,λk h=>by grind[fA]⟩
 |n+1=>by
  have ih:=jl part n;have e:=vi rows part n;unfold Zn at e
  have U:∀(l:Do)(x s:Nat),l.length=n->s<n->(l++[x]).getD s 0=l.getD s 0:=λl x s Y h2=>by
   grind
  have hl:∀(l:Do)(x:Nat),l.length=n->(l++[x]).getD n 0=x:=λl x Y=>by
   grind
  cases A:pos (fA rows part n).1 (du part (part.getD n 0) (rows.getD n []))with
  |some k=>
   rw[A]at e;simp only at e;obtain⟨hk,W⟩:=zg A
   refine⟨by rw[e];simp[ih.len],by rw[e];exact ih.nd,by rw[e];have:=ih.le;grind,λs V=>?_,λj u=>?_⟩
   ·simp only[e]
    rcases aei s n with q|q
    ·simp only[U _ _ s ih.len q];exact ih.at' s q
    ·obtain rfl:s=n:=zd
     simp only[hl _ _ ih.len];grind
   ·simp only[e]at u⊢;obtain⟨s,O,H⟩:=ih.on j u
    grind
  |none=>
   rw[A]at e;simp only at e
   refine⟨by rw[e];simp[ih.len],?_,by rw[e];have:=ih.le;grind,λs V=>?_,λj u=>?_⟩
   ·rw[e];simp only;rw[agy];refine⟨ih.nd,zk,λx hx y hy=>?_⟩
    grind[af3,FZ]
   ·simp only[e]
    rcases aei s n with q|q
    ·obtain⟨O,H⟩:=ih.at' s q;simp only[U _ _ s ih.len q]
     grind
    ·obtain rfl:s=n:=zd
     simp only[hl _ _ ih.len]
     grind
   ·simp only[e,aem,agz]at u⊢
    rcases aei j (fA rows part n).1.length with q|q
    ·obtain⟨s,O,H⟩:=ih.on j q
     grind
    ·exact⟨n,zd,by rw[hl _ _ ih.len];omega⟩
theorem y5{part:Do}{p q:Nat}{r s:bD}(h:du part p r=du part q s):p=q:=by
 have e:y4 part p r=y4 part q s:=by
  grind[du,part]
 have u:∀t:bD,(t.flatMap (λe=>32::(e.1.data.toList++32::Lib.decDigits (part.getD e.2 0))))=[]∨(t.flatMap (λe=>32::(e.1.data.toList++32::Lib.decDigits (part.getD e.2 0)))).head? = some 32:=λt=>by
  cases t with
  |nil=>grind
  |cons a t=>grind
 exact(sT e (u r) (u s)).1
def XF(part:Do)(many:Nat):Prop:=part.length=rows.length∧∀k,k<many->∃s,s<rows.length∧part.getD s 0=k
theorem pX(part:Do):XF rows (gC rows part) (gT rows part):=⟨(jl rows part _).len,(jl rows part _).on⟩
theorem pW(part:Do):gT rows part<=rows.length:=(jl rows part _).le
theorem oC{part:Do}{many:Nat}(h:XF rows part many):many<=gT rows part:=by
 have ok:=jl rows part rows.length

 have A:∀k,∃m,k<many->m<gT rows part∧∃s,s<rows.length∧part.getD s 0=k∧(gC rows part).getD s 0=m:=λk=>by
  by_cases U:k<many
  ·obtain⟨s,V,h2⟩:=h.2 k U;obtain⟨O,_⟩:=ok.at' s V;exact⟨_,λ_=>⟨O,s,V,h2,rfl⟩⟩
  ·exact⟨0,λq=>absurd q U⟩
 obtain⟨f,u⟩:=Classical.axiomOfChoice A
 have inj:∀a b,a<many->b<many->f a=f b->a=b:=λa b H hb e=>by
  obtain⟨l1,s,Y,k2,W⟩:=u a H;obtain⟨l2,t,m1,m2,m3⟩:=u b hb;obtain⟨O,q2⟩:=ok.at' s Y;obtain⟨r1,r2⟩:=ok.at' t m1;have e1:(fA rows part rows.length).2.getD s 0=(fA rows part rows.length).2.getD t 0:=W.trans (e.trans m3.symm)
  grind[y5]
 exact Pw many (gT rows part) f (λa H=>(u a H).1) inj
end
structure B7 where
 order:Do
 rows:N3
 ends:N2
section
variable (rows:N3) (ends:N2) (part:Do)
def kY(order:Do)(x:Nat):Option Nat:=(order.map (λs=>part.getD s 0)).findIdx? (λy=>x==y)
theorem Bu{order:Do}{x:Nat}:kY part order x=none↔x∉order.map (λs=>part.getD s 0):=by
 rw[kY,afk]
 grind
theorem Bv{order:Do}{x k:Nat}(h:kY part order x=some k):∃q:k<order.length,part.getD order[k] 0=x:=by
 rw[kY,afj]at h
 grind
def KM(st:Do×bD)(e:ByteArray×Nat):Do×bD:=
 match kY part st.1 (part.getD e.2 0)with
 |some n=>(st.1,st.2++[(e.1,n)])
 |none=>(st.1++[e.2],st.2++[(e.1,st.1.length)])
def fX(order:Do)(row:bD):Do×bD:=row.foldl (KM part) (order,[])
theorem nc(order:Do)(row:bD)(e:ByteArray×Nat):fX part order (row++[e])=KM part (fX part order row) e:=by rw[fX,agw];rfl
def fC(st:B7):Nat:=st.order.getD st.rows.length 0
def gj(st:B7):B7:=⟨(fX part st.order (rows.getD (fC st) [])).1,st.rows++[(fX part st.order (rows.getD (fC st) [])).2],st.ends++[ends.getD (fC st) false]⟩
def pj:Nat->B7->B7
 |0,st=>st
 |f+1,st=>if st.rows.length<st.order.length then pj f (gj rows ends part st)else st
def q0:B7:=⟨[0],[],[]⟩
def da:B7:=pj rows ends part (rows.length+1) q0
structure Lk(st:B7):Prop where
 le:st.rows.length<=st.order.length
 nd:(st.order.map (λs=>part.getD s 0)).Nodup
 lt:∀s∈st.order,s<rows.length
 ends:st.ends.length=st.rows.length
 row:∀k,k<st.rows.length->(st.rows.getD k []).map Prod.fst=(rows.getD (st.order.getD k 0) []).map Prod.fst∧∀p∈st.rows.getD k [],p.2<st.order.length
theorem W4{n:Nat}{a:Do×bD}{e:ByteArray×Nat}(H:e.2<n)(hn:(a.1.map (λs=>part.getD s 0)).Nodup)(hl:∀s∈a.1,s<n)(A:∀p∈a.2,p.2<a.1.length) :
  ((KM part a e).1.map (λs=>part.getD s 0)).Nodup∧(∀s∈(KM part a e).1,s<n)∧(∀p∈(KM part a e).2,p.2<(KM part a e).1.length)∧a.1.length<=(KM part a e).1.length ∧
  (KM part a e).2.map Prod.fst=a.2.map Prod.fst++[e.1]∧∃t,(KM part a e).1=a.1++t:=by
 unfold KM
 split
 ·rename_i k hk;obtain⟨O,_⟩:=Bv part hk;refine⟨hn,hl,λp q=>?_,aed _,zk,[],zk⟩
  grind
 ·rename_i hk
  refine⟨?_,λs u=>?_,λp q=>?_,zk,zk,_,rfl⟩
  ·grind[List.map_singleton,agy,af3,Bu]
  ·grind
  grind
theorem xl{n:Nat}{order:Do}(hn:(order.map (λs=>part.getD s 0)).Nodup)(hl:∀s∈order,s<n):∀row:bD,(∀p∈row,p.2<n) ->
  ((fX part order row).1.map (λs=>part.getD s 0)).Nodup∧(∀s∈(fX part order row).1,s<n)∧(∀p∈(fX part order row).2,p.2<(fX part order row).1.length)∧order.length<=(fX part order row).1.length ∧
  (fX part order row).2.map Prod.fst=row.map Prod.fst∧∃t,(fX part order row).1=order++t:=by
 refine ij (λ_=>⟨hn,hl,by simp[fX],aed _,by simp[fX],[],by simp[fX]⟩) ?_;intro row e ih hr;obtain⟨V,U,O,H,A,t,u⟩:=ih (λp q=>hr p (afX _ q))
 grind[W4,nc,agx]
theorem mW{n:Nat}{order:Do}(hn:(order.map (λs=>part.getD s 0)).Nodup)(hl:∀s∈order,s<n):order.length<=n:=by
 have u:order.Nodup:=by
  grind[agu]
 have:=u.length_le_of_subset (l₂:=List.range n) (λs q=>List.mem_range.2 (hl s q))
 grind
theorem KL(h:0<rows.length):Lk rows part q0:=⟨by simp[q0],by simp[q0],by grind[q0],rfl,λk q=>by grind[q0]⟩
theorem kS{α:Type}{l:List α}{a d:α}{i:Nat}(h:i<l.length):(l++[a]).getD i d=l.getD i d:=by
 grind
theorem je{α:Type}{l:List α}{a d:α}:(l++[a]).getD l.length d=a:=by
 grind
theorem dX{α:Type}{l t:List α}{d:α}{i:Nat}(h:i<l.length):(l++t).getD i d=l.getD i d:=by
 grind
theorem bK{α:Type}{l:List α}{d:α}{i:Nat}(h:i<l.length):l.getD i d∈l:=by
 grind
theorem tP{st:B7}(hT:∀r∈rows,∀p∈r,p.2<rows.length)(h:Lk rows part st)(u:st.rows.length<st.order.length):Lk rows part (gj rows ends part st):=by
 have Y:fC st<rows.length:=h.lt _ (bK u);obtain⟨V,U,O,k4,H,t,A⟩:=xl part (n:=rows.length) h.nd h.lt (rows.getD (fC st) []) (hT _ (bK Y))
 refine⟨?_,V,U,?_,λk W=>?_⟩
 ·grind[gj,aem,agz]
 ·simp only[gj,aem,agz,h.ends]
 ·simp only[gj,aem,agz]at W⊢
  rcases aei k st.rows.length with q|q
  ·obtain⟨q1,q2⟩:=h.row k q
   grind
  ·obtain rfl:k=st.rows.length:=zd
   rw[je];refine⟨?_,O⟩;rw[H,A,dX u];rfl
theorem KP(q:∀r∈rows,∀p∈r,p.2<rows.length):∀(f:Nat){st:B7},Lk rows part st->rows.length+1<=f+st.rows.length->Lk rows part (pj rows ends part f st)∧(pj rows ends part f st).rows.length=(pj rows ends part f st).order.length
 |0,st,h,u=>by
  have:=mW part h.nd h.lt;have:=h.le;omega
 |f+1,st,h,u=>by
  rw[pj]
  split
  ·rename_i A;exact KP q f (tP rows ends part q h A) (by simp only[gj,aem,agz];omega)
  ·exact⟨h,by have:=h.le;omega⟩
end
def look(row:bD)(l:ByteArray):Option Nat:=(row.find? (λp=>fR l p.1)).map Prod.snd
def yt(rows:N3)(s:Nat):B0->Option Nat
 | []=>some s
 |l::w=>match look (rows.getD s []) l with
  |some t=>yt rows t w
  |none=>none
def dQ(rows:N3)(ends:N2)(s:Nat)(w:B0):Bool:=match yt rows s w with
 |some t=>ends.getD t false
 |none=>false
theorem lx{row:bD}{l:ByteArray}:look row l=none↔l∉row.map Prod.fst:=by
 rw[look,Option.map_eq_none_iff,List.find?_eq_none]
 grind[nj,List.mem_map_of_mem]
theorem lL{row:bD}{l:ByteArray}{t:Nat}(h:look row l=some t):(l,t)∈row:=by
 rw[look,Option.map_eq_some_iff]at h
 grind[nj,List.mem_of_find?_eq_some]
theorem kf{row q:bD}{l:ByteArray}:look (row++q) l=(look row l).or (look q l):=by
 grind[look,fR]
theorem kg{m l:ByteArray}{t:Nat}:look [(m,t)] l=if l=m then some t else none:=by
 by_cases h:l=m
 ·subst h;simp[look,nj.2 rfl]
 grind[fR,absurd,nj,look]
theorem Dk{row:bD}(hn:(row.map Prod.fst).Nodup){l:ByteArray}{t:Nat}(h:(l,t)∈row):look row l=some t:=by
 induction row with
 |nil=>simp at h
 |cons a row ih=>
  rw[List.map_cons,List.nodup_cons]at hn
  rcases List.mem_cons.1 h with rfl|h
  ·simp[look,nj.2 rfl]
  grind[fR,nj,absurd,List.mem_map_of_mem,look]
section
variable (cN:Do->ByteArray->Do) (em:Bool) (la:Do)
def N9(labs:B0)(all:List Do)(cur:Do)(row:bD):Prop:=
 ∀l,(l∈labs->cN cur l≠[]->∃k,look row l=some k∧all[k]?=some (cN cur l))∧((l∉labs∨cN cur l=[])->look row l=none)
theorem N9.mono{labs:B0}{all t:List Do}{cur:Do}{row:bD}(h:N9 cN labs all cur row):N9 cN labs (all++t) cur row:=λl=>
 ⟨λu q=>by
  obtain⟨k,H,A⟩:=(h l).1 u q
  grind,(h l).2⟩
theorem Q7(cur:Do){all:List Do}:∀labs:B0,labs.Nodup->N9 cN labs (fK cN cur all labs).1 cur (fK cN cur all labs).2:=by
 refine ij (λ_ l=>⟨λh=>by simp at h,λ_=>by simp[fK,look]⟩) ?_;intro labs m ih hn l;have H:=agy.1 hn;have ih:=ih H.1;have W:m∉labs:=λh=>H.2.2 m h m zk rfl;rw[lB,G0]
 by_cases Y:cN cur m=[]
 ·rw[if_pos Y]
  refine⟨λA U=>?_,λA=>?_⟩
  ·rcases af2.1 A with A|A
   ·exact(ih l).1 A U
   grind
  ·by_cases hl:cN cur l=[]
   ·exact(ih l).2 (.inr hl)
   ·rcases A with A|A
    ·exact(ih l).2 (.inl (λq=>A (afX _ q)))
    grind
 ·rw[if_neg Y]
  have nl:l≠m->(l∈labs++[m]↔l∈labs):=λh=>by simp[h]
  split
  ·rename_i k hk;obtain⟨V,O⟩:=zg hk;rw[List.getElem_map]at O;have hk3:=Fv O;rw[agv]at V
   refine⟨λA U=>?_,λA=>?_⟩
   ·rw[kf,kg]
    by_cases u:l=m
    ·subst u;exact⟨k,by rw[(ih l).2 (.inl W),if_pos rfl];rfl,by grind⟩
    ·obtain⟨j,j1,j2⟩:=(ih l).1 ((nl u).1 A) U
     grind
   ·rw[kf,kg]
    have u:l≠m:=λe=>by grind
    rw[if_neg u,(ih l).2 (A.imp (λq r=>q ((nl u).2 r)) id)];rfl
  ·refine⟨λA U=>?_,λA=>?_⟩
   ·rw[kf,kg]
    by_cases u:l=m
    ·subst u;exact⟨_,by rw[(ih l).2 (.inl W),if_pos rfl];rfl,by grind⟩
    ·obtain⟨j,j1,j2⟩:=(ih l).1 ((nl u).1 A) U
     grind
   ·rw[kf,kg]
    have u:l≠m:=λe=>by grind
    rw[if_neg u,(ih l).2 (A.imp (λq r=>q ((nl u).2 r)) id)];rfl
structure SW(labs:B0)(st:qk):Prop where
 zero:st.all[0]?=some [0]
 row:∀i,i<st.rows.length->N9 cN labs st.all (st.all.getD i []) (st.rows.getD i [])
 Ii:∀i,i<st.rows.length->st.ends.getD i false=((i==0&&em)||(st.all.getD i []).any (λp=>la.contains p))
theorem UK{labs:B0}(hn:labs.Nodup){st:qk}(u:Hi labs st)(h:SW cN em la labs st)(V:st.rows.length<st.all.length):SW cN em la labs (cR cN em la labs st):=by
 obtain⟨_,_,_,_,_,t,H⟩:=xp cN (cur:=cd st) u.nd labs;have U:=Q7 cN (cd st) (all:=st.all) labs hn
 have O:∀i,i<st.all.length->(cR cN em la labs st).all.getD i []=st.all.getD i []:=λi hi=>by grind[cR,dX]
 refine⟨?_,λi hi=>?_,λi hi=>?_⟩
 ·simp only[cR,H];rw[List.getElem?_append_left zd];exact h.zero
 ·have A:i<st.rows.length+1:=by grind[cR]
  rw[O i zd]
  rcases aei i st.rows.length with q|q
  ·simp only[cR,H,kS q];exact(h.row i q).mono
  ·obtain rfl:i=st.rows.length:=zd
   simp only[cR,je];exact U
 ·have A:i<st.rows.length+1:=by grind[cR]
  rw[O i zd]
  rcases aei i st.rows.length with q|q
  ·simp only[cR];rw[kS (by rw[u.ends];exact q)];exact h.Ii i q
  ·obtain rfl:i=st.rows.length:=zd
   simp only[cR];rw[<-u.ends,je,ua,cd,u.ends]
theorem Q9{labs:B0}(hn:labs.Nodup):∀(f:Nat){st q:qk},Hi labs st->SW cN em la labs st->qa cN em la labs f st=some q->SW cN em la labs q
 |0,st,q,_,h,e=>by grind[qa,aep]
 |f+1,st,q,u,h,e=>by
  rw[qa]at e
  split at e
  ·rename_i A
   split at e
   ·cases e
   ·rename_i H;exact Q9 hn f (ub cN em la u A H) (UK cN em la hn u h A) e
  ·cases e;exact h
theorem DP{labs:B0}(hn:labs.Nodup){st:qk}(h:ri cN em la labs=some st):Hi labs st∧st.rows.length=st.all.length∧SW cN em la labs st:=by
 have q:=KU cN em la 257 (UL labs) (by simp[s0]) h;exact⟨q.1,q.2,Q9 cN em la hn 257 (UL labs) ⟨rfl,λi hi=>by grind[s0],λi hi=>by grind[s0]⟩ h⟩
def Made(a:Do):Prop:=a≠[]∧(a=[0]∨∃cur l,a=cN cur l)
theorem vt{cur:Do}{all:List Do}(h:∀a∈all,Made cN a):∀labs:B0,∀a∈(fK cN cur all labs).1,Made cN a:=by
 refine ij h ?_;intro labs l ih;rw[lB,G0]
 split
 ·exact ih
 ·rename_i u
  split
  ·exact ih
  ·intro a q
   rcases af2.1 q with q|q
   ·exact ih a q
   ·simp only[af3]at q;subst q;exact⟨u,.inr ⟨_,_,rfl⟩⟩
theorem BC{labs:B0}:∀(f:Nat){st q:qk},(∀a∈st.all,Made cN a)->qa cN em la labs f st=some q->∀a∈q.all,Made cN a
 |0,st,q,h,e=>by grind[qa,aep]
 |f+1,st,q,h,e=>by
  rw[qa]at e
  split at e
  ·split at e
   ·cases e
   ·exact BC f (vt cN h labs) e
  ·cases e;exact h
theorem Nn{labs:B0}{st:qk}(h:ri cN em la labs=some st):∀a∈st.all,Made cN a:=BC cN em la 257 (λa q=>by
 simp only[s0,af3]at q;subst q;exact⟨zk,.inl rfl⟩) h
variable {cN em la}
theorem E5(q:∀l,cN [] l=[]):∀w:B0,w.foldl cN []=[]
 | []=>rfl
 |l::w=>by rw[List.foldl_cons,q,E5 q w]
theorem zA{labs:B0}{st:qk}(hl:st.rows.length=st.all.length)(A:SW cN em la labs st)(ha:∀l,cN [] l=[])(u:∀cur l,l∉labs->cN cur l=[]):∀(w:B0)(i:Nat)(cur:Do),st.all[i]?=some cur->cur≠[] ->
  (w.foldl cN cur=[]->yt st.rows i w=none)∧(w.foldl cN cur≠[]->∃k,yt st.rows i w=some k∧st.all[k]?=some (w.foldl cN cur))
 | [],i,cur,hi,O=>⟨λh=>absurd h O,λ_=>⟨i,rfl,hi⟩⟩
 |l::w,i,cur,hi,O=>by
  have Y:=(aek.1 hi).1;have H:=A.row i zd l;rw[aeS (l:=st.all),hi,agA]at H;rw[yt,List.foldl_cons]
  by_cases q:cN cur l=[]
  ·grind[E5]
  ·have W:l∈labs:=Classical.byContradiction λh=>q (u cur l h);obtain⟨k,V,U⟩:=H.1 W q;rw[V];exact zA hl A ha u w k _ U q
theorem Nl{labs:B0}{st:qk}(hl:st.rows.length=st.all.length)(u:SW cN em la labs st)(Y:∀l,cN [] l=[])(O:∀cur l,l∉labs->cN cur l=[])(w:B0){i:Nat}{cur:Do}(hi:st.all[i]?=some cur)(W:cur≠[]){q:Nat}(V:q∈w.foldl cN cur)(U:q∈la):dQ st.rows st.ends i w=true:=by
 obtain⟨k,H,A⟩:=(zA hl u Y O w i cur hi W).2 (List.ne_nil_of_mem V);rw[dQ,H];simp only;rw[u.Ii k (by grind),aeS,A,agA]
 grind
theorem Jo{labs:B0}{st:qk}(hl:st.rows.length=st.all.length)(q:SW cN em la labs st)(W:∀l,cN [] l=[])(H:∀cur l,l∉labs->cN cur l=[])(h0:∀cur l,0∉cN cur l)(U:0∉la)(w:B0) :
  dQ st.rows st.ends 0 w=((w.length==0&&em)||(w.foldl cN [0]).any (λp=>la.contains p)):=by
 obtain⟨h1,Y⟩:=zA hl q W H w 0 [0] q.zero zk
 by_cases V:w.foldl cN [0]=[]
 ·grind[dQ]
 ·obtain⟨k,A,u⟩:=Y V;rw[dQ,A];simp only;have hk:=(aek.1 u).1;rw[q.Ii k zd,aeS,u,agA]
  cases w with
  |nil=>
   grind[yt,aep]
  |cons l w=>
   have O:k≠0:=λe=>by
    subst e
    have:=q.zero.symm.trans u
    simp only[aep]at this
    have hh:∀(w:B0)(cur:Do),0∉cur->0∉w.foldl cN cur:=λw=>by
     induction w with
     |nil=>grind
     |cons m w ih=>grind
    grind
   grind
end
end Go.Proofs.YtlhhccmopfamhaaGreatDoor
