/- texts of one claim, one behind the other. -/
import Derived.Test.YtlhhccmopfamhaaGreatDoorQGo
import Derived.Test.YtlhhccmopfamhaaGreatDoorQRef07b
import Derived.Test.YtlhhccmopfamhaaGreatDoorQExprC
import Derived.Test.YtlhhccmopfamhaaGreatDoorQDfaK
import Derived.Test.YtlhhccmopfamhaaGreatDoorQRefP
import Derived.Test.YtlhhccmopfamhaaGreatDoorQValue
import Derived.Test.YtlhhccmopfamhaaGreatDoorQMat
set_option linter.unusedSimpArgs false
set_option linter.unusedVariables false
set_option maxRecDepth 100000
set_option maxHeartbeats 16000000
open Bool renaming and_self -> agA, true_and -> afu, and_eq_true -> ae6, or_eq_true -> afk, or_assoc -> ahr, eq_iff_iff -> agj, false_eq_true -> afC, eq_false_or_eq_true -> af1, false_and -> afL
open List renaming getElem?_cons_succ -> afE, set_cons_succ -> afR, length_cons -> afa, map_nil -> agE, length_nil -> aeq, getElem_mem -> afy, take_succ_eq_append_getElem -> agO, take_of_length_le -> agS, mem_cons_of_mem -> ae7, mem_cons -> afZ, getElem?_eq_getElem -> aeC, length_append -> aew, range_succ -> agt, all_eq_true -> afh, any_eq_true -> ahp, mem_range -> afi, getElem?_set_ne -> aeH, getD_eq_getElem?_getD -> ae2, map_cons -> aga, getElem?_append_right -> aeK, set_append_right -> ago
open Nat renaming zero_add -> ae8, le_refl -> aen, lt_or_ge -> aes, le_trans -> aeo, add_sub_cancel_left -> ahq
open Option.some renaming inj -> aem
namespace Go.Proofs.YtlhhccmopfamhaaGreatDoor
open Go.RowKit
open Go.Proofs.Tryz
theorem bR.R6{P:Program}{f:FuncId}{args:C5}{O r:AV}{o':AC}(h:bR P f args [] O o')(ha:aU 0 args=true)(U:r.wf 0=true)(W:so o' O r):mD P f args r:=by
 obtain⟨hc,h2⟩:=h;refine⟨⟨ha,U⟩,hc,λD nu w vargs A H=>(h2 D nu w vargs A H).mono ?_⟩;rintro e w' ⟨v,nu',o2,r2,rfl,u,hro',hra',rfl,rfl⟩;refine⟨v,rfl,⟨u.os,u.tape,u.output,u.size,λb hb=>(u.keep b hb (br _ _)).1⟩,(W _ _ _ _ hro' hra').tr (n:=0) (λb V=>⟨V.1,br _ _,?_⟩) (λid len Y=>zd) U⟩
 rcases Nat.lt_or_ge b w.heap.size with q|q
 ·exact absurd V.2.2 (u.keep b q (br _ _)).2
 ·exact q
theorem tu(n:Nat)(hn:n<=1000):aj prog 229 [.v (.int .i64 n)] (.aB 1 (mC (n+1) (λ_ _=>false)) (n+1)):=
 ((FG n hn).R6 rfl (by simp only[AV.wf,gM]) (ti _ _)).to1
theorem A7{k N m i:Nat}{f:GT}{b x:Option aa}(h:i<m):(b::x::bA N f m)[mV 1 i]?=some (l6 N (f i)):=by
 rw[show mV 1 i=mV 0 i+1 by unfold mV;omega,afE];exact mO (k:=k) h
theorem MA{N m i j:Nat}{f:GT}{v:Bool}{b x:Option aa}(h:i<m):(b::x::bA N f m).set (mV 1 i) (some ⟨4,1,true,(dK N (f i)).set j [.v (.bool v)]⟩)=b::x::bA N (oH f i j v) m:=by
 rw[show mV 1 i=mV 0 i+1 by unfold mV;omega,afR,pO h]
theorem Xr{n k N m:Nat}{f:GT}{b:Option aa}(q:∀ob,b=some ob->bD n ob.rows=true)(h:k+2*m<=n):zQ n (b::cA k N m f) (b::cA k N m f):=⟨.inr ⟨rfl,q⟩,GL h⟩
theorem VB{t q:C5}{y:kz}{N m:Nat}{f:GT}{b:Option aa}(u:∀n ob,b=some ob->bD n ob.rows=true)(h:iV (2*m+2) t q):Wk 0 ⟨t,b::some ⟨121,1,true,bu 1 N m⟩ ::bA N f m,y⟩ ⟨q,b::cA 1 N m f,y⟩:=by
 have e:(b::cA 1 N m f).length=2*m+2:=by rw[afa,jj]
 exact ab (by rw[e];exact h) (by rw[e];exact Xr (u _) zd) (Nat.zero_le _)
theorem My(b:Option aa)(N:Nat)(f:GT):so (b::cA 1 N N f) (.vec 1 N) (.aB 1 (mC N f) N):=by
 refine so.U0 (ob:=⟨121,1,true,bu 1 N N⟩) rfl rfl (dC _ _ _) (by rw[w9];exact(dC _ _ _).symm) λi row row' H O=>?_
 have hi:i<N:=by have:=(List.getElem?_eq_some_iff.1 H).1;rw[dC]at this;exact this
 have V:(bu 1 N N)[i]?=some [.vec (mV 1 i) N]:=by rw[bu,List.getElem?_map,List.getElem?_range hi];rfl
 have U:(mC N f)[i]?=some [.aB 1 (dK N (f i)) N]:=by rw[mC,List.getElem?_map,List.getElem?_range hi];rfl
 cases(aem (V.symm.trans H));cases(aem (U.symm.trans O));refine⟨rfl,λj c W q u=>?_⟩
 match j,q,u with
 |0,q,u=>
  cases q;cases u;exact so.vec (ob:=⟨4,1,true,dK N (f i)⟩) (A7 (k:=0) hi) rfl (kY _ _) (Be _ (λs c A=>by rw[List.mem_singleton]at A;exact⟨_,A⟩) _)
 |j+1,q,u=>simp at q
def kJ(w:B0)(x:Ex):Prop:=aj prog 222 [.agg (aN x),bY w] (.aB 1 (mC (w.length+1) (jx (Lg x) w)) (w.length+1))
theorem RL(w:B0)(V:w.length<=1000)(s:ByteArray):kJ w (.mk 1 s []):=by
 have U:decide (1<2*(w.length+1)+2)=true:=b0;have O:decide (0<2*(w.length+1)+2)=true:=b0
 have eL:jx (Lg (.mk 1 s [])) w=jx (λu=>u=[s]) w:=jQ λu _=>by simp[Lg]
 rw[kJ,eL, <- Wv];simp only[aA,bY,Ex.kind,Ex.label,Ex.kids,agE,aeq];refine mD.to1 ?_
 (refine mD.enter func222 rfl zo zo rfl (by simp only[go_sem,aU,AV.wf,agA,Bool.and_true,afu,Go.undef]) (by simp only[go_sem,aU,AV.wf,bz,agA,Bool.and_true,afu,Go.undef]) ?_;simp only[ntmps222,results222,afa,aeq,Nat.reduceAdd,Nat.reduceSub,List.replicate_succ,List.replicate_zero,List.cons_append,List.nil_append])
 (refine bj ?_;intro K hK K hK)
 refine ai.Dk V ?_;simp only[afa,aeq,List.cons_append,List.nil_append,ae8]
 (revert K;revert K;refine bj ?_;intro K hK)
 refine aO (ι:=Nat) 20 (λi=>[(7,.v (.int .i64 i))]) (λi=>some ⟨25,3,false,[[.v (.int .i64 1),.v (.string s),.aB 3 [] 0]]⟩ ::cA 1 (w.length+1) (w.length+1) (kD w s i)) (λi=>w.length-i) (λi=>i<=w.length) 0 zd ?_ ?_
 ·rw[PJ w s];refine VB (λn ob e=>by cases e;rfl) ?_;simp only[go_sem,iV,true_or,or_true,true_and,and_true,U,O];exact .inr rfl
 ·intro i hi K hK;simp only[cA]
  (revert K;revert K;refine bj ?_;intro K hK K hK K hK)
  refine cn.part (λh=>?_) (λh=>?_)
  ·have H:i<w.length:=by replace h:=cq h;omega
   have q:i<w.length+1:=zd
   have A:i+1<w.length+1:=zd
   have eW:=ag (k:=i) zd;have eO:=lI (k:=1) (N:=w.length+1) q;have W:∀b x,(b::x::bA (w.length+1) (kD w s i) (w.length+1))[mV 1 i]? = _:=λb x=>A7 (k:=0) (b:=b) (x:=x) q
   have eG:(w.map encS).getD i []=[.v (.string (w.getD i ⟨#[]⟩))]:=by
    rw[getD_map encS w i [] H,encS,List.getD_eq_getElem?_getD,List.getElem?_eq_getElem H];rfl
   have eR:=dS (g:=kD w s i i) A;have eS:=λb x v=>MA (N:=w.length+1) (j:=i+1) (f:=kD w s i) (v:=v) (b:=b) (x:=x) q;have eU:=Ft w s i
   repeat(first|(with_reducible first|refine bG.up ?_|refineλ(K:AK)hK=>?_|refine wE ?_|refine wK ?_|refine wF ?_|(refine hK _ ?_;clear hK K))|simp only[go_sem,eW,eO,W,eG,l6,eR,eS,eU]|with_reducible refine wA ?_|clear hK K)
   refine aw.mk (i+1) zd zd (VB (λn ob e=>by cases e;rfl) ?_);simp only[go_sem,iV,true_or,or_true,true_and,and_true,U,O]
  ·have Y:i=w.length:=by replace h:=cq h;omega
   simp only[Y]
   ((iterate 3 revert K);refine bj ?_)
   exact My _ _ _
theorem RN(w:B0)(A:w.length<=1000)(s:ByteArray)(l:IO)(hl:l.length<=1000000)(H:∀x,x∈l->kJ w x):kJ w (.mk 2 s l):=by
 have N:=tu w.length A;have S:=vt w.length A
 have eL:jx (Lg (.mk 2 s l)) w=jx (dO l) w:=jQ λu _=>by simp[Lg]
 have e0:jx (λu=>u=[]) w=jx (dO (l.take 0)) w:=jQ λu _=>by simp[dO]
 rw[yN,e0]at S;have O:=λx U=>H x U;simp only[kJ]at O⊢;rw[eL];simp only[aA,bY,Ex.kind,Ex.label,Ex.kids]at O⊢;refine gE func222 ntmps222 results222 ?_
 (refine ae ?_;intro K hK K hK)
 (revert K;revert K;refine aK N ?_;intro K hK K hK K hK)
 ((iterate 3 revert K);refine aK S ?_;intro K hK)
 refine bg (ι:=Nat) 43 (λk=>[(6,.aB 1 (mC (w.length+1) (jx (dO (l.take k)) w)) (w.length+1)),(8,.v (.int .i64 k))]) (λk=>l.length-k) (λk=>k<=l.length) 0 zd ?_ ?_
 ·refine ab (bJ ?_) ar ar
  rfl
 ·intro k W K hK
  (revert K;revert K;refine ae ?_;intro K hK K hK K hK)
  refine cn.part (λh=>?_) (λh=>?_)
  ·have q:k<l.length:=by replace h:=qs h;omega
   have eW:=ag (k:=k) zd;have eG:=getD_map aN l k [] q;have HX:=O l[k] (afy q);have J:=rP w.length (jx (dO (l.take k)) w) (jx (Lg l[k]) w) A
   have eM:jx (λu=>∃a b,u=a++b∧dO (l.take k) a∧Lg l[k] b) w=jx (dO (l.take (k+1))) w:=jQ λu _=>by
    rw[agO q,G9]
   rw[Di,eM]at J;simp only[aA]at eG
   ((iterate 3 revert K);refine ak eG ?_;iterate 4 intro K hK)
   ((iterate 4 revert K);refine aK HX ?_;iterate 4 intro K hK)
   ((iterate 4 revert K);refine dA J eW ?_)
   exact aw.mk (k+1) zd zd (by exact ab ar ar ar)
  ·have V:l.take k=l:=agS (by replace h:=qs h;omega);simp only[V]
   ((iterate 3 revert K);refine ae ?_)
   exact iG.aB (gM _ _ _)
theorem RK(w:B0)(O:w.length<=1000)(s:ByteArray)(l:IO)(hl:l.length<=1000000)(H:∀x,x∈l->kJ w x):kJ w (.mk 3 s l):=by
 have N:=tu w.length O
 have eL:jx (Lg (.mk 3 s l)) w=jx (jW l) w:=jQ λu _=>by simp[Lg]
 have e0:jx (λ_=>False) w=jx (jW (l.take 0)) w:=jQ λu _=>by simp[jW]
 rw[T7,e0]at N;have A:=λx U=>H x U;simp only[kJ]at A⊢;rw[eL];simp only[aA,bY,Ex.kind,Ex.label,Ex.kids]at A⊢;refine gE func222 ntmps222 results222 ?_
 (refine ae ?_;intro K hK K hK)
 (revert K;revert K;refine aK N ?_;intro K hK)
 refine bg (ι:=Nat) 61 (λk=>[(6,.aB 1 (mC (w.length+1) (jx (jW (l.take k)) w)) (w.length+1)),(9,.v (.int .i64 k))]) (λk=>l.length-k) (λk=>k<=l.length) 0 zd ?_ ?_
 ·refine ab (bJ ?_) ar ar
  rfl
 ·intro k W K hK
  (revert K;revert K;refine ae ?_;intro K hK K hK K hK)
  refine cn.part (λh=>?_) (λh=>?_)
  ·have q:k<l.length:=by replace h:=qs h;omega
   have eW:=ag (k:=k) zd;have eG:=getD_map aN l k [] q;have HX:=A l[k] (afy q);have J:=rF w.length (jx (jW (l.take k)) w) (jx (Lg l[k]) w) O
   have eM:jx (λu=>jW (l.take k) u∨Lg l[k] u) w=jx (jW (l.take (k+1))) w:=jQ λu _=>by
    rw[agO q,G8]
   rw[P8,eM]at J;simp only[aA]at eG
   ((iterate 3 revert K);refine ak eG ?_;iterate 4 intro K hK)
   ((iterate 4 revert K);refine aK HX ?_;iterate 4 intro K hK)
   ((iterate 4 revert K);refine dA J eW ?_)
   exact aw.mk (k+1) zd zd (by exact ab ar ar ar)
  ·have V:l.take k=l:=agS (by replace h:=qs h;omega);simp only[V]
   ((iterate 3 revert K);refine ae ?_)
   exact iG.aB (gM _ _ _)
theorem RM(w:B0)(q:w.length<=1000)(s:ByteArray)(x:Ex)(H:kJ w x):kJ w (.mk 6 s [x]):=by
 have N:=tu w.length q;have S:=vt w.length q;have O:=rF w.length (jx (λu=>u=[]) w) (jx (Lg x) w) q
 have eL:jx (λu=>u=[]∨Lg x u) w=jx (Lg (.mk 6 s [x])) w:=jQ λu _=>by simp[Lg,xv]
 rw[P8,eL]at O;rw[yN]at S;simp only[kJ]at H⊢;simp only[aA,bY,Ex.kind,Ex.label,Ex.kids,List.map_cons,agE,afa,aeq,ae8]at H⊢;refine gE func222 ntmps222 results222 ?_
 (refine bj ?_;intro K hK K hK)
 (revert K;revert K;refine lD N ?_;intro K hK K hK)
 (revert K;revert K;refine rM S ?_;intro K hK K hK)
 (revert K;revert K;refine rM H ?_;intro K hK K hK)
 (revert K;revert K;refine rM O ?_)
 exact iG.aB (gM _ _ _)
theorem BK(w:B0)(q:w.length<=1000)(kd:Int)(A:kd=4∨kd=5)(s:ByteArray)(x:Ex)(H:kJ w x):kJ w (.mk kd s [x]):=by
 have N:=tu w.length q;have S:=vt w.length q;have O:=rF w.length (jx (λu=>u=[]) w) (jx (Lg x) w) q;have e1:jx (λu=>u=[]∨Lg x u) w=jx (ff (Lg x) 1) w:=jQ λu _=>ff.one.symm;rw[P8,e1]at O;rw[yN]at S;have J:=λk=>rP w.length (jx (ff (Lg x) k) w) (jx (ff (Lg x) k) w) q;have e2:∀k,jx (λu=>∃a b,u=a++b∧ff (Lg x) k a∧ff (Lg x) k b) w=jx (ff (Lg x) (k+k)) w:=λk=>jQ λu _=>ff.add.symm;simp only[Di,e2]at J;have P:=rP w.length (jx (Lg x) w) (jx (dU (Lg x)) w) q
 have Y:jx (λu=>∃a b,u=a++b∧Lg x a∧dU (Lg x) b) w=jx (Lg (.mk 5 s [x])) w:=jQ λu _=>by simp[Lg,xv]
 have e4:jx (dU (Lg x)) w=jx (Lg (.mk 4 s [x])) w:=jQ λu _=>by
  have:xv [x]=Lg x:=by funext v;rw[xv]
  simp[Lg,this]
 have eP:∀k,w.length<=k->jx (ff (Lg x) k) w=jx (dU (Lg x)) w:=λk A=>jQ λu hu=>Qw zd;rw[Di,Y]at P;simp only[kJ]at H⊢
 rcases A with rfl|rfl
 all_goals
  simp only[aA,bY,Ex.kind,Ex.label,Ex.kids,List.map_cons,agE,afa,aeq,ae8]at H⊢;refine gE func222 ntmps222 results222 ?_
  repeat(first|(with_reducible first|refine bG.up ?_|refineλ(K:AK)hK=>?_|(refine hK _ ?_;clear hK K))|simp only[go_sem]|with_reducible refine wA ?_|clear hK K)
  refine ai.one N ?_
  repeat(first|(with_reducible first|refine bG.up ?_|refineλ(K:AK)hK=>?_|(refine hK _ ?_;clear hK K))|simp only[go_sem]|with_reducible refine wA ?_|clear hK K)
  refine ai.one H ?_
  repeat(first|(with_reducible first|refine bG.up ?_|refineλ(K:AK)hK=>?_|(refine hK _ ?_;clear hK K))|simp only[go_sem]|with_reducible refine wA ?_|clear hK K)
  refine ai.one S ?_
  repeat(first|(with_reducible first|refine bG.up ?_|refineλ(K:AK)hK=>?_|(refine hK _ ?_;clear hK K))|simp only[go_sem]|with_reducible refine wA ?_|clear hK K)
  refine ai.one O ?_
  repeat(first|(with_reducible first|refine bG.up ?_|refineλ(K:AK)hK=>?_|(refine hK _ ?_;clear hK K))|simp only[go_sem]|with_reducible refine wA ?_|clear hK K)
  refine bg (ι:=Nat) 101 (λk=>[(6,.aB 1 (mC (w.length+1) (jx (ff (Lg x) k) w)) (w.length+1)),(11,.v (.int .i64 k))]) (λk=>w.length-k) (λk=>1<=k∧k<=2*w.length+1) 1 zd ?_ ?_
  ·refine ab (bJ ?_) ar ar
   rfl
  ·rintro k ⟨W,V⟩ K hK
   repeat(first|(with_reducible first|refine bG.up ?_|refineλ(K:AK)hK=>?_|(refine hK _ ?_;clear hK K))|simp only[go_sem]|with_reducible refine wA ?_|clear hK K)
   refine cn.part (λh=>?_) (λh=>?_)
   ·have U:k<w.length:=by replace h:=qs h;omega
    have eW:IntKind.i64.wrap (2*(k:Int))=((k+k:Nat):Int):=by rw[bT zd zd];omega
    have Jk:=J k
    repeat(first|(with_reducible first|refine bG.up ?_|refineλ(K:AK)hK=>?_|(refine hK _ ?_;clear hK K))|simp only[go_sem]|with_reducible refine wA ?_|clear hK K)
    refine ai.one Jk ?_
    repeat(first|(with_reducible first|refine bG.up ?_|refineλ(K:AK)hK=>?_|(refine hK _ ?_;clear hK K))|simp only[go_sem,eW]|with_reducible refine wA ?_|clear hK K)
    exact aw.mk (k+k) ⟨zd,zd⟩ zd (by exact ab ar ar ar)
   ·rw[eP k (by replace h:=qs h;omega)]
    repeat(first|(with_reducible first|refine bG.up ?_|refineλ(K:AK)hK=>?_|(refine hK _ ?_;clear hK K))|simp only[go_sem]|with_reducible refine wA ?_|clear hK K)
    first
     |((refine ai.one P ?_);((revert K;revert K;refine ae ?_));(exact iG.aB (gM _ _ _)))
     |(rw[e4];exact iG.aB (gM _ _ _))
theorem Xq(w:B0)(u:w.length<=1000){x:Ex}(h:Fit x)(V:(aq x).length<=1000000):kJ w x:=by
 induction h with
 |lab s=>exact RL w u s
 |many k s l H hl _ ih=>
  have A:=me (.mk k s l);simp only[Ex.kids]at A
  have sub:∀y,y∈l->(aq y).length<=1000000:=λy q=>by
   have:=iP (.mk k s l) y (by rw[aq,bN];exact ae7 _ (List.mem_flatMap.2 ⟨y,q,by obtain⟨U,s',O⟩:=y;rw[aq];exact List.mem_cons_self⟩))
   omega
  rcases H with rfl|rfl
  ·exact RN w u s l zd (λy q=>ih y q (sub y q))
  ·exact RK w u s l zd (λy q=>ih y q (sub y q))
 |one k s y H _ ih=>
  have sub:(aq y).length<=1000000:=by
   have:=iP (.mk k s [y]) y (by rw[aq,bN];exact ae7 _ (List.mem_flatMap.2 ⟨y,zk,by obtain⟨U,s',O⟩:=y;rw[aq];exact List.mem_cons_self⟩))
   omega
  rcases H with rfl|rfl|rfl
  ·exact BK w u 4 (.inl rfl) s y (ih sub)
  ·exact BK w u 5 (.inr rfl) s y (ih sub)
  ·exact RM w u s y (ih sub)
theorem Nl(x:Ex)(w:B0)(H:w.length<=1000)(u:(aq x).length<=1000000)(A:∀z,z∈aq x->z.kids.length<=1000000∧z.label.size<=1000000000000000):aj prog 208 [.agg (aN x),bY w] (.v (.bool (kO x w))):=by
 have R:=qE x u A
 cases q:aD x
 ·have e:kO x w=false:=by rw[<-Bool.not_eq_true,iN];simp[q]
  rw[q]at R;rw[e];simp only[aA,bY]at R⊢;refine gE func208 ntmps208 results208 ?_
  (refine ae ?_;intro K hK K hK K hK)
  ((iterate 3 revert K);exact lE R)
 ·have W:=Xq w H (fO q).1 u
  have e:kO x w=jx (Lg x) w 0 w.length:=by
   rw[Bool.eq_iff_iff,iN,fT,Tk.word];simp[q]
  have eA:=u6 (N:=w.length+1) (f:=jx (Lg x) w) (i:=0) zd;have eB:=dS (N:=w.length+1) (g:=jx (Lg x) w 0) (j:=w.length) zd;rw[q]at R;rw[e];simp only[kJ,aA,bY]at R W⊢;refine gE func208 ntmps208 results208 ?_
  (refine ae ?_;intro K hK K hK K hK)
  ((iterate 3 revert K);refine aK R ?_;intro K hK K hK)
  (revert K;revert K;exact Cx W eA eB)
theorem EW(x:Ex):kO x []=cH x:=by
 rw[Bool.eq_iff_iff,iN,cH,Bool.and_eq_true]
 constructor
 ·rintro⟨h,k⟩;exact⟨h,(iL (fO h).1).2 k⟩
 ·rintro⟨h,k⟩;exact⟨h,(iL (fO h).1).1 k⟩
theorem uG(x:Ex)(u:(aq x).length<=1000000)(q:∀z,z∈aq x->z.kids.length<=1000000∧z.label.size<=1000000000000000):aj prog 173 [.agg (aN x)] (.v (.bool (cH x))):=by
 have T:=(Nl x [] zk u q).le (args':=[.agg (aN x),.v (.slice none 0 0)]) (by simp only[go_sem,fp,agA]) (.cons (.refl _) (.cons (.nil 1) .nil));rw[EW]at T;simp only[aA]at T⊢;refine gE func173 ntmps173 results173 ?_
 (refine ae ?_;intro K hK K hK)
 (revert K;revert K;exact lE T)
theorem P5(x:Ex)(u:aD x=true):aj prog 174 [.agg (aN x)] (.v (.int .i64 (aH x).length)):=by
 induction x using Ex.ind with
 |h k s l ih=>
  by_cases A:k=1
  ·subst A;rw[aH,if_pos rfl];simp only[aA,Ex.kind,Ex.label,Ex.kids];refine gE func174 ntmps174 results174 ?_;refine ae ?_
   rfl
  ·have f1:(k==1)=false:=beq_false_of_ne A;have H:=uZ u;have O:=oA u
   have hl:l.length<=24:=by
    simp only[aD,Bool.and_eq_true,decide_eq_true_eq]at u
    have:=me (.mk k s l);simp only[Ex.kids]at this;omega
   rw[dM A]at H⊢;simp only[aA,Ex.kind,Ex.label,Ex.kids];refine gE func174 ntmps174 results174 ?_
   (refine ak f1 ?_;intro K hK)
   refine b6 (ι:=Nat) (λi=>[(1,.ptr 0 0 3 0 0),(3,.v (.int .i64 (aV (l.take i)).length)),(4,.v (.int .i64 i))]) (λi=>[some ⟨25,3,false,[[.v (.int .i64 k),.v (.string s),.aB 3 (l.map aN) l.length]]⟩]) (λi=>l.length-i) (λi=>i<=l.length) 0 zd ?_ ?_
   ·refine ab (bJ ?_) ar ar;exact⟨rfl,rfl⟩
   ·intro i hi K hK;simp only[bP,List.foldl_cons,List.foldl_nil,List.replicate_succ,List.replicate_zero,go_sem]
    (revert K;revert K;refine ae ?_;intro K hK K hK K hK)
    refine cn.part (λh=>?_) (λh=>?_)
    ·have q:i<l.length:=by replace h:=cq h;omega
     have eW:=ag (k:=i) zd;have eG:=getD_map aN l i [] q;have HX:=ih l[i] (afy q) (O _ (afy q))
     have U:(aV (l.take (i+1))).length=(aV (l.take i)).length+(aH l[i]).length:=by
      rw[agO q,jM,List.length_append];simp[aV]
     have W:(aV l).length=(aV (l.take (i+1))).length+(aV (l.drop (i+1))).length:=by rw[<-List.length_append, <- jM,List.take_append_drop]
     have eS:IntKind.i64.wrap (((aV (l.take i)).length:Int)+((aH l[i]).length:Int))=((aV (l.take (i+1))).length:Int):=by rw[bT zd zd,U];omega
     simp only[aA]at HX eG
     ((iterate 3 revert K);refine ak eG ?_;iterate 4 intro K hK)
     ((iterate 4 revert K);refine dA HX eS ?_)
     exact aw.mk (i+1) zd zd (by refine ab (bJ ?_) ar ar;exact eW)
    ·have V:l.take i=l:=agS (by replace h:=cq h;omega);simp only[V]
     ((iterate 3 revert K);exact sY)
def o6(a b:Nat->Bool)(i q:Nat):Bool:=decide (q<i)&&(a q||b q)
theorem AA(a b:Nat->Bool)(i:Nat):(λq=>if q=i then(a i||b i)else o6 a b i q)=o6 a b (i+1):=by
 funext q
 rw[o6,o6]
 split
 ·rename_i h;subst h;simp
 ·rename_i h
  congr 1;rw[decide_eq_decide];omega
theorem ya(N:Nat)(a b:Nat->Bool)(hn:N<=1000):aj prog 176 [.aB 1 (dK N a) N,.aB 1 (dK N b) N] (.aB 1 (dK N (λq=>a q||b q)) N):=by
 refine gE func176 ntmps176 results176 ?_
 have e0:List.replicate N [AV.v (.bool false)]=dK N (o6 a b 0):=by rw[lu];exact oG λq _=>by simp[o6]
 repeat(first|(with_reducible first|refine bG.up ?_|refineλ(K:AK)hK=>?_|(refine hK _ ?_;clear hK K))|simp only[go_sem,e0]|with_reducible refine wA ?_|clear hK K)
 refine aO (ι:=Nat) 10 (λi=>[(6,.v (.int .i64 i))]) (λi=>[some ⟨4,1,true,dK N (o6 a b i)⟩]) (λi=>N-i) (λi=>i<=N) 0 zd ?_ ?_
 ·refine ab (bJ ?_) ar ar
  rfl
 ·intro i hi K hK
  (revert K;revert K;refine ae ?_;intro K hK K hK K hK)
  refine cn.part (λh=>?_) (λh=>?_)
  ·have u:i<N:=by replace h:=qs h;omega
   have eW:=ag (k:=i) zd;have eA:=dS (g:=a) u;have eB:=dS (g:=b) u;have eR:=dS (g:=o6 a b i) u;have eS:=λv=>tU (N:=N) (j:=i) (g:=o6 a b i) (v:=v);have eU:=AA a b i;cases A:a i
   all_goals
    simp only[A,Bool.false_or,Bool.true_or]at eU
    repeat(first|(with_reducible first|refine bG.up ?_|refineλ(K:AK)hK=>?_|(refine hK _ ?_;clear hK K))|simp only[go_sem,eW,eA,eB,A,eR,eS,eU,Go.undef]|with_reducible refine wA ?_|clear hK K)
    exact aw.mk (i+1) zd zd (by exact ab ar ar ar)
  ·have O:i=N:=by replace h:=qs h;omega
   have eE:dK N (o6 a b N)=dK N (λq=>a q||b q):=oG λq H=>by simp[o6,H]
   simp only[O]
   ((iterate 3 revert K);refine ae ?_)
   rw[eE]
   (refine iG.of 40 rfl ?_;simp only[go_sem])
def kZ(N:Nat)(g:Nat->Bool):Do:=((List.range N).filter g).map (· + 1)
theorem Nc(N:Nat)(g:Nat->Bool):kZ (N+1) g=kZ N g++(if g N then [N+1]else []):=by
 rw[kZ,List.range_succ,List.filter_append,List.map_append, <- kZ]
 congr 1
 cases h:g N<;>simp[h]
theorem Q5(N:Nat)(g:Nat->Bool):(kZ N g).length<=N:=by
 rw[kZ,List.length_map];exact Nat.le_trans (List.length_filter_le _ _) zk
theorem zp{N:Nat}{g:Nat->Bool}{p:Nat}:p∈kZ N g↔1<=p∧p<=N∧g (p-1)=true:=by
 rw[kZ,List.mem_map]
 constructor
 ·rintro⟨q,u,rfl⟩;rw[List.mem_filter,List.mem_range]at u;exact⟨zd,zd,by simpa using u.2⟩
 ·rintro⟨O,H,A⟩;exact⟨p-1,List.mem_filter.2 ⟨List.mem_range.2 zd,A⟩,zd⟩
theorem Bw(N:Nat)(g:Nat->Bool):(kZ N g).Pairwise (· < ·):=by
 rw[kZ,List.pairwise_map];exact(List.pairwise_lt_range.filter _).imp (λh=>zd)
theorem UL(N:Nat)(g:Nat->Bool)(hn:N<=1000):aj prog 177 [.aB 1 (dK N g) N] (.aB 1 (aT (kZ N g)) (kZ N g).length):=by
 refine gE func177 ntmps177 results177 ?_
 (refine ae ?_;intro K hK)
 refine gu (ι:=Nat) 3 3 1 rfl zd 5 (λi=>[(3,.vec 0 (kZ i g).length),(4,.v (.int .i64 i))]) (λi=>[some ⟨3,1,true,aT (kZ i g)⟩]) (λi=>N-i) (λi=>i<=N) 0 zd ?_ ?_
 ·refine ab (bJ ?_) (bJ ?_) ar
  ·exact⟨rfl,rfl⟩
  ·rfl
 ·intro i hi K hK
  have eLn:(aT (kZ i g)).length=(kZ i g).length:=by simp[aT]
  have A:=Q5 i g
  (revert K;revert K;refine ae ?_;intro K hK K hK K hK)
  refine cn.part (λh=>?_) (λh=>?_)
  ·have u:i<N:=by replace h:=qs h;omega
   have eW:=ag (k:=i) zd;have eA:=dS (g:=g) u;have eS:=Nc i g
   cases q:g i
   ·simp only[q,Bool.false_eq_true,if_false,List.append_nil]at eS
    ((iterate 3 revert K);refine ak (nq eW eA q) ?_)
    refine aw.mk (i+1) zd zd ?_;rw[eS];exact ab ar ar ar
   ·simp only[q,if_true]at eS
    ((iterate 3 revert K);refine ak (pG eW eA q eLn) ?_)
    refine aw.mk (i+1) zd zd ?_;rw[eS];refine ab ar (bJ ?_) ar;simp[aT]
  ·have H:i=N:=by replace h:=qs h;omega
   simp only[H]
   ((iterate 3 revert K);refine ae ?_)
   exact iG.vec (ob:=⟨3,1,true,aT (kZ N g)⟩) rfl rfl (by simp[aT]) (bw _ (λ_=>rfl) _)
def pb(k:Nat)(x:Ex)(nl n:Nat):C5:=[.vec (k+1) nl,.v (.slice none 0 0),.v (.slice none 0 0),.vec (k+2) n,.v (.bool (cH x)),.v (.int .i64 x.kind),.v (.string x.label),.aB 3 (x.kids.map aN) x.kids.length]
def dt(k:Nat)(x:Ex)(labs:B0)(n:Nat)(f:GT):AC:=
 some ⟨221,8,false,[pb k x labs.length n]⟩ ::some ⟨9,1,true,labs.map encS⟩ ::cA (k+2) n n f
theorem Mz{N m i:Nat}{f:GT}{b c x:Option aa}(h:i<m):(b::c::x::bA N f m)[mV 2 i]?=some (l6 N (f i)):=by
 rw[show mV 2 i=mV 0 i+1+1 by unfold mV;omega,afE,afE];exact mO (k:=0) h
theorem MB{N m i j:Nat}{f:GT}{v:Bool}{b c x:Option aa}(h:i<m):(b::c::x::bA N f m).set (mV 2 i) (some ⟨4,1,true,(dK N (f i)).set j [.v (.bool v)]⟩)=b::c::x::bA N (oH f i j v) m:=by
 rw[show mV 2 i=mV 0 i+1+1 by unfold mV;omega,afR,afR,pO h]
theorem cC(k:Nat)(x:Ex)(labs:B0)(n:Nat)(f:GT):(dt k x labs n f).length=2*n+3:=by
 rw[dt,afa,afa,jj]
theorem U6{k n nl m:Nat}{x:Ex}(h:k+3<=m):aU m (pb k x nl n)=true:=by
 have u:k+1<m:=zd
 have q:k+2<m:=zd
 simp[pb,aU,AV.wf,bF,u,q]
theorem lf{m:Nat}{x:Ex}{labs:B0}{n:Nat}{f:GT}(h:2*n+3<=m):∀ob,some ob∈dt 0 x labs n f->bD m ob.rows=true:=λob q=>by
 rw[dt,afZ,afZ]at q
 rcases q with e|e|q
 ·cases e;simp only[bD,U6 (show 0+3<=m by omega),agA]
 ·cases e;exact bz _ _
 ·rw[cA,afZ]at q
  rcases q with e|q
  ·cases e;exact lX zd
  ·exact qc _ _ _ _ _ q
theorem aaH{m:Nat}{x:Ex}{labs:B0}{n:Nat}{f:GT}(h:2*n+3<=m):zQ m (dt 0 x labs n f) (dt 0 x labs n f):=by
 have:=oN (n:=m) (a:=[]) (b:=[]) (l:=dt 0 x labs n f) (lf h) trivial
 simpa using this
def kR(f:GT)(la fi:Nat->Bool)(i j p q:Nat):Bool:=f p q||(decide (p<i∨(p=i∧q<j))&&(la p&&fi q))
theorem Ws(f:GT)(la fi:Nat->Bool):f=kR f la fi 0 0:=by funext p q;simp[kR]
theorem Mv{f:GT}{la fi:Nat->Bool}{i j:Nat}:(if la i&&fi j then oH (kR f la fi i j) i j true else kR f la fi i j)=kR f la fi i (j+1):=by
 funext p q
 split
 ·rename_i h;rw[oH]
  split
  ·rename_i e;obtain⟨rfl,rfl⟩:=e;simp[kR,h]
  ·rename_i e;rw[kR,kR];congr 2;rw[decide_eq_decide];omega
 ·rename_i h;rw[kR,kR]
  by_cases e:p=i∧q=j
  ·obtain⟨rfl,rfl⟩:=e
   have u:(la p&&fi q)=false:=by simpa using h
   rw[u];simp
  ·congr 2;rw[decide_eq_decide];omega
theorem Mu{f:GT}{la fi:Nat->Bool}{N i:Nat}:bA N (kR f la fi i N) N=bA N (kR f la fi (i+1) 0) N:=gU λp q A u=>by
 rw[kR,kR];congr 2;rw[decide_eq_decide];omega
theorem BO{t q:C5}{y:kz}{x:Ex}{labs:B0}{n:Nat}{f f0:GT}(h:iV (2*n+3) t q):Wk (dt 0 x labs n f0).length ⟨t,dt 0 x labs n f,y⟩ ⟨q,dt 0 x labs n f,y⟩:=
 ab (by rw[cC];exact h) (by rw[cC];exact aaH (aen _)) (by rw[cC,cC];exact aen _)
theorem FC(x:Ex)(labs:B0)(n:Nat)(hn:n<=1000)(f:GT)(la fi:Nat->Bool) :
  bR prog 209 [.ptr 0 0 8 0 0,.aB 1 (dK n la) n,.aB 1 (dK n fi) n] (dt 0 x labs n f) (.ck []) (dt 0 x labs n (λp q=>f p q||(la p&&fi q))):=by
 have H:decide (0<2*n+3)=true:=b0;refine gF func209 ntmps209 results209 ?_;refine ae ?_
 refine aO (ι:=Nat) 8 (λi=>[(6,.v (.int .i64 i)),(7,.undef)]) (λi=>dt 0 x labs n (kR f la fi i 0)) (λi=>n-i) (λi=>i<=n) 0 zd ?_ ?_
 ·rw[<-Ws];refine BO ?_;simp only[go_sem,iV,true_or,or_true,true_and,and_true,H];exact .inr rfl
 ·intro i hi K hK
  (revert K;refine ae ?_;intro K hK K hK)
  refine cn.part (λh=>?_) (λh=>?_)
  ·have u:i<n:=by replace h:=qs h;omega
   have eW:=ag (k:=i) zd;have eO:=lI (k:=2) (N:=n) u;have eA:=dS (g:=la) u
   (revert K;revert K;refine ae ?_;intro K hK K hK)
   refine aO (ι:=Nat) 14 (λj=>[(7,.v (.int .i64 j))]) (λj=>dt 0 x labs n (kR f la fi i j)) (λj=>n-j) (λj=>j<=n) 0 zd ?_ ?_
   ·refine BO ?_;simp only[go_sem,iV,true_or,or_true,true_and,and_true,H];exact .inr rfl
   ·intro j hj K hK
    ((iterate 3 revert K);refine ae ?_;iterate 4 intro K hK)
    refine cn.part (λh=>?_) (λh=>?_)
    ·have O:j<n:=by replace h:=qs h;omega
     have eV:=ag (k:=j) zd;have eB:=dS (g:=fi) O;have eU:=Mv (f:=f) (la:=la) (fi:=fi) (i:=i) (j:=j)
     rcases Bool.eq_false_or_eq_true (la i&&fi j)with A|A
     ·rw[A]at eU;simp only[if_true]at eU;obtain⟨U,h2⟩:=Bool.and_eq_true_iff.1 A;have Y:∀b c y,(b::c::y::bA n (kR f la fi i j) n)[mV 2 i]? = _:=λb c y=>Mz (b:=b) (c:=c) (x:=y) u;have eR:=dS (g:=kR f la fi i j i) O;have eS:=λb c y v=>MB (N:=n) (j:=j) (f:=kR f la fi i j) (v:=v) (b:=b) (c:=c) (x:=y) u;simp only[dt,cA,pb,ae8]
      repeat(first|(with_reducible first|refine bG.up ?_|refineλ(K:AK)hK=>?_|(refine hK _ ?_;clear hK K))|simp only[go_sem,eV,eA,eB,U,h2,eO,Y,l6,eR,eS,eU,Go.undef]|with_reducible refine wA ?_|clear hK K)
      refine aw.mk (j+1) zd zd (BO ?_);simp only[go_sem,iV,true_or,or_true,true_and,and_true,H,bp,AV.wf]
     ·rw[A]at eU;simp only[Bool.false_eq_true,if_false]at eU
      cases U:la i
      ·((iterate 4 revert K);refine dj (pG eV eA eB U) ?_)
       rw[eU];refine aw.mk (j+1) zd zd (BO ?_);simp only[go_sem,iV,true_or,or_true,true_and,and_true,H,bp,AV.wf]
      ·rw[U,afu]at A
       ((iterate 4 revert K);refine dj (qq eV eA eB U A) ?_)
       rw[eU];refine aw.mk (j+1) zd zd (BO ?_);simp only[go_sem,iV,true_or,or_true,true_and,and_true,H,bp,AV.wf]
    ·have V:j=n:=by replace h:=qs h;omega
     have eN:dt 0 x labs n (kR f la fi i n)=dt 0 x labs n (kR f la fi (i+1) 0):=by rw[dt,dt,cA,cA,Mu]
     simp only[V];rw[eN]
     ((iterate 4 revert K);refine ak eW ?_)
     refine aw.mk (i+1) zd zd (BO ?_);simp only[go_sem,iV,true_or,or_true,true_and,and_true,H,bp,AV.wf]
  ·have V:i=n:=by replace h:=qs h;omega
   have eN:dt 0 x labs n (kR f la fi n 0)=dt 0 x labs n (λp q=>f p q||(la p&&fi q)):=by
    rw[dt,dt,cA,cA,gU (g:=kR f la fi n 0) (h:=λp q=>f p q||(la p&&fi q)) (λp q W _=>by simp[kR,W])]
   simp only[V];rw[eN]
   (revert K;revert K;refine ae ?_)
   refine⟨⟨.inr ⟨rfl,rfl⟩,trivial⟩,aaH (by rw[cC];exact aen _),by rw[cC,cC];exact aen _⟩
def nT(l:IO)(i:Nat):Ex:=l.getD i (.mk 0 ⟨#[]⟩ [])
theorem PF{l:IO}{i:Nat}(h:i<l.length):nT l i=l[i]:=by grind[nT,aeC]
theorem dZ(x:Ex)(l:IO):nT (x::l) 0=x:=rfl
theorem c9(x:Ex)(l:IO)(i:Nat):nT (x::l) (i+1)=nT l i:=rfl
def sl(b:Nat)(l:IO)(i:Nat):Nat:=b+(aV (l.take i)).length
theorem dV(b:Nat)(l:IO):sl b l 0=b:=by simp[sl,aV]
theorem c8(b:Nat)(x:Ex)(l:IO)(i:Nat):sl b (x::l) (i+1)=sl (b+(aH x).length) l i:=by
 grind[sl,aV,aew]
theorem JD:∀{l:IO}{b p:Nat},iY l b p ↔ ∃i,i<l.length∧mq (nT l i) (sl b l i) p
 | [],b,p=>by simp[iY]
 |x::l,b,p=>by
  rw[iY,JD (l:=l)]
  constructor
  ·rintro(h|⟨i,u,q⟩)
   ·exact⟨0,zk,by rw[dZ,dV];exact h⟩
   ·exact⟨i+1,ahy,by rw[c9,c8];exact q⟩
  ·rintro⟨i,u,q⟩
   cases i with
   |zero=>left;rw[dZ,dV]at q;exact q
   |succ i=>right;rw[c9,c8]at q;exact⟨i,by simpa using u,q⟩
theorem JF:∀{l:IO}{b p:Nat},iZ l b p ↔ ∃i,i<l.length∧lj (nT l i) (sl b l i) p
 | [],b,p=>by simp[iZ]
 |x::l,b,p=>by
  rw[iZ,JF (l:=l)]
  constructor
  ·rintro(h|⟨i,u,q⟩)
   ·exact⟨0,zk,by rw[dZ,dV];exact h⟩
   ·exact⟨i+1,ahy,by rw[c9,c8];exact q⟩
  ·rintro⟨i,u,q⟩
   cases i with
   |zero=>left;rw[dZ,dV]at q;exact q
   |succ i=>right;rw[c9,c8]at q;exact⟨i,by simpa using u,q⟩
theorem BU:∀{l:IO}{b p q:Nat},jV l b p q ↔ ∃i,i<l.length∧kL (nT l i) (sl b l i) p q
 | [],b,p,q=>by simp[jV]
 |x::l,b,p,q=>by
  rw[jV,BU (l:=l)]
  constructor
  ·rintro(h|⟨i,A,u⟩)
   ·exact⟨0,zk,by rw[dZ,dV];exact h⟩
   ·exact⟨i+1,ahy,by rw[c9,c8];exact u⟩
  ·rintro⟨i,A,u⟩
   cases i with
   |zero=>left;rw[dZ,dV]at u;exact u
   |succ i=>right;rw[c9,c8]at u;exact⟨i,by simpa using A,u⟩
theorem BV:∀{l:IO}{b p:Nat},jz l b p ↔ ∃i,i<l.length∧(∀k,k<i->aS (nT l k)=true)∧mq (nT l i) (sl b l i) p
 | [],b,p=>by simp[jz]
 |x::l,b,p=>by
  rw[jz,BV (l:=l)]
  constructor
  ·rintro(h|⟨O,i,H,u,q⟩)
   ·exact⟨0,zk,λk A=>zd,by rw[dZ,dV];exact h⟩
   ·refine⟨i+1,ahy,λk A=>?_,by rw[c9,c8];exact q⟩
    cases k with
    |zero=>exact O
    |succ k=>exact u k zd
  ·rintro⟨i,H,u,q⟩
   cases i with
   |zero=>left;rw[dZ,dV]at q;exact q
   |succ i=>
    right;rw[c9,c8]at q;exact⟨u 0 zd,i,by simpa using H,λk A=>u (k+1) zd,q⟩
theorem EL:∀{l:IO},dz l=true ↔ ∀k,k<l.length->aS (nT l k)=true
 | []=>by simp[dz]
 |x::l=>by
  rw[dz,ae6,EL (l:=l)]
  constructor
  ·rintro⟨h,k⟩ j hj
   cases j with
   |zero=>exact h
   |succ j=>exact k j (by grind)
  ·intro h;exact⟨h 0 zk,λk q=>h (k+1) ahy⟩
theorem JG:∀{l:IO}{b p:Nat},lz l b p ↔ ∃i,i<l.length∧(∀k,i<k->k<l.length->aS (nT l k)=true)∧lj (nT l i) (sl b l i) p
 | [],b,p=>by simp[lz]
 |x::l,b,p=>by
  rw[lz,JG (l:=l),EL]
  constructor
  ·rintro(⟨O,h⟩|⟨i,H,u,q⟩)
   ·refine⟨0,zk,λk A hl=>?_,by rw[dZ,dV];exact h⟩
    cases k with
    |zero=>omega
    |succ k=>exact O k (by simpa using hl)
   ·refine⟨i+1,ahy,λk A hl=>?_,by rw[c9,c8];exact q⟩
    cases k with
    |zero=>omega
    |succ k=>exact u k zd (by simpa using hl)
  ·rintro⟨i,H,u,q⟩
   cases i with
   |zero=>
    left;rw[dZ,dV]at q;exact⟨λk A=>u (k+1) zd ahy,q⟩
   |succ i=>
    right;rw[c9,c8]at q;exact⟨i,by simpa using H,λk A hl=>u (k+1) zd ahy,q⟩
theorem JC:∀{l:IO}{b p q:Nat},jy l b p q↔(∃i,i<l.length∧kL (nT l i) (sl b l i) p q)∨∃i k,i<k∧k<l.length∧(∀j,i<j->j<k->aS (nT l j)=true)∧lj (nT l i) (sl b l i) p∧mq (nT l k) (sl b l k) q
 | [],b,p,q=>by simp[jy]
 |x::l,b,p,q=>by
  rw[jy,JC (l:=l),BV]
  constructor
  ·rintro(h|(⟨i,U,H⟩|⟨i,k,U,H,A,u,O⟩)|⟨h,k,U,H,A⟩)
   ·grind[dZ,dV]
   ·grind[c9,c8]
   ·refine .inr ⟨i+1,k+1,zd,ahy,λj W V=>?_,by grind[c9,c8],by grind[c9,c8]⟩
    cases j with
    |zero=>omega
    |succ j=>exact A j zd zd
   ·refine .inr ⟨0,k+1,zd,ahy,λj W V=>?_,by grind[dZ,dV],by grind[c9,c8]⟩
    cases j with
    |zero=>omega
    |succ j=>exact H j zd
  ·rintro(⟨i,U,H⟩|⟨i,k,U,H,A,u,O⟩)
   ·cases i with
    |zero=>grind[dZ,dV]
    |succ i=>grind[c9,c8]
   ·cases k with
    |zero=>omega
    |succ k=>
     rw[c9,c8]at O
     cases i with
     |zero=>
      right;right;rw[dZ,dV]at u;exact⟨u,k,by grind,λj Y=>A (j+1) zd zd,O⟩
     |succ i=>
      right;left;right;rw[c9,c8]at u;exact⟨i,k,zd,by grind,λj W V=>A (j+1) zd zd,u,O⟩
section
variable (s:Bool) (m:Nat) (Em:Nat->Bool) (F L:GT)
def wj(i k:Nat):Bool:=(List.range k).all λj=> !s||Em j
def wm(i k:Nat):Bool:=(List.range k).all λj=>decide (j<=i)||(!s||Em j)
def sW(i q:Nat):Bool:=(List.range i).any λj=>wj s Em j j&&F j q
def te(i q:Nat):Bool:=(List.range i).any λj=>wm s Em j m&&L j q
def rC(i k:Nat):Bool:=s&&(List.range k).all λj=>decide (j<=i)||Em j
def pL(i k p q:Nat):Bool:=(List.range k).any λj=>decide (i<j)&&rC s Em i j&&(L i p&&F j q)
def my(i p q:Nat):Bool:=(List.range i).any λj=>pL s Em F L j m p q
theorem Lm(i k:Nat):wj s Em i (k+1)=(wj s Em i k&&(!s||Em k)):=by grind[wj,agt]
theorem LD{i k:Nat}(h:i<k):wm s Em i (k+1)=(wm s Em i k&&(!s||Em k)):=by
 grind[wm,agt,decide,decide_eq_false]
theorem Ou(i:Nat):wm s Em i (i+1)=true:=by
 grind[wm,afh]
theorem LW(i q:Nat):sW s Em F (i+1) q=(sW s Em F i q||(wj s Em i i&&F i q)):=by grind[sW,agt]
theorem Mo(i q:Nat):te s m Em L (i+1) q=(te s m Em L i q||(wm s Em i m&&L i q)):=by grind[te,agt]
theorem As{i k:Nat}(h:i<k):rC s Em i (k+1)=(rC s Em i k&&Em k):=by
 grind[rC,agt,decide,decide_eq_false,Bool.and_assoc]
theorem Ox(i:Nat):rC s Em i (i+1)=s:=by
 have:((List.range (i+1)).all λj=>decide (j<=i)||Em j)=true:=by
  grind
 rw[rC,this,Bool.and_true]
theorem A5{i k p q:Nat}(h:i<k):pL s Em F L i (k+1) p q=(pL s Em F L i k p q||(rC s Em i k&&(L i p&&F k q))):=by
 grind[pL,agt]
theorem PY(i p q:Nat):pL s Em F L i (i+1) p q=false:=by
 grind[pL,List.any_eq_false,decide,decide_eq_false]
theorem S5{i k j:Nat}(u:i<k)(h:rC s Em i k=false)(A:k<=j):rC s Em i j=false:=by
 induction j with
 |zero=>omega
 |succ j ih=>
  rcases aes j k with q|q
  ·grind
  ·rw[As s Em zd,ih q,Bool.false_and]
theorem TS{i k j p q:Nat}(A:i<k)(h:rC s Em i k=false)(H:k<=j):pL s Em F L i j p q=pL s Em F L i k p q:=by
 induction j with
 |zero=>omega
 |succ j ih=>
  rcases aes j k with u|u
  ·grind
  ·rw[A5 s Em F L zd,ih u,S5 s Em A h u,Bool.false_and,Bool.or_false]
theorem L0(i p q:Nat):my s m Em F L (i+1) p q=(my s m Em F L i p q||pL s Em F L i m p q):=by grind[my,agt]
end
theorem O5{s:Bool}{m:Nat}{Em:Nat->Bool}{F:GT}{q:Nat}:sW s Em F m q=true ↔ ∃i,i<m∧(s=true->∀k,k<i->Em k=true)∧F i q=true:=by
 simp only[sW,ahp,afi,ae6,wj,afh,afk,Bool.not_eq_true']
 grind
theorem PI{s:Bool}{m:Nat}{Em:Nat->Bool}{L:GT}{q:Nat}:te s m Em L m q=true ↔ ∃i,i<m∧(s=true->∀k,i<k->k<m->Em k=true)∧L i q=true:=by
 simp only[te,ahp,afi,ae6,wm,afh,afk,Bool.not_eq_true',decide_eq_true_eq]
 grind
theorem E0{s:Bool}{m:Nat}{Em:Nat->Bool}{F L:GT}{p q:Nat}:my s m Em F L m p q=true↔s=true∧∃i k,i<k∧k<m∧(∀j,i<j->j<k->Em j=true)∧L i p=true∧F k q=true:=by
 simp only[my,pL,rC,ahp,afi,ae6,afh,afk,decide_eq_true_eq]
 grind[aes]
theorem yd{a:Act}{d:Nat}{v:Value}(h:d<a.tmps.size):(a.put (some d) v).eval (.tmp d)=v:=by
 simp[Act.put,Act.eval,Array.getD,h]
theorem Vx(a:Act)(d:Option Tmp)(v:Value):(a.put d v).tmps.size=a.tmps.size:=by
 cases d<;>simp[Act.put]
theorem put_defers(a:Act)(d:Option Tmp)(v:Value):(a.put d v).defers=a.defers:=by
 cases d<;>rfl
section
variable {D:Nat->Prop} {nu:EQ} {o:AC} {w:World} {P:Program}
theorem gC.put{t:C5}{tm:Array Value}(h:gC D nu o w t tm){r:AV}{v:Value}(H:RA D nu o w r v)(d:Nat):gC D nu o w (t.set d r) (tm.setIfInBounds d v):=by
 refine⟨by simpa using h.len,λi c x q u=>?_⟩
 by_cases A:d=i
 ·subst A;have hl:=(List.getElem?_eq_some_iff.1 q).1;simp only[List.length_set]at hl;rw[List.getElem?_set_self hl]at q;rw[Array.getElem?_setIfInBounds_self_of_lt (by rw[<-h.len];exact hl)]at u;cases q;cases u;exact H
 ·rw[aeH A]at q;rw[Array.getElem?_setIfInBounds_ne A]at u;exact h.at' i c x q u
theorem gC.kH{t:C5}{a:Act}(h:gC D nu o w t a.tmps){r:AV}{v:Value}(q:RA D nu o w r v)(d:Nat):gC D nu o w (t.set d r) (a.put (some d) v).tmps:=h.put q d
def qO(T U V:TypeId)(oc:Op)(ty:Nat->TypeId)(po:Nat->String)(af:Nat->Array Edge)(last:Oper):GE:=
 [⟨some 22,.move (.tmp 5),ty 0,po 0,af 0,none⟩,⟨some 23,.makeSlice T (.tmp 22) (.tmp 22),ty 1,po 1,af 1,none⟩,⟨some 24,.move (.tmp 5),ty 2,po 2,af 2,none⟩,⟨some 25,.makeSlice T (.tmp 24) (.tmp 24),ty 3,po 3,af 3,none⟩,
  ⟨some 26,.load U (.tmp 3),ty 4,po 4,af 4,none⟩,⟨some 27,oc,ty 5,po 5,af 5,none⟩,⟨some 28,.build V #[(0,.tmp 23),(1,.tmp 25),(2,.tmp 27)],ty 6,po 6,af 6,none⟩,⟨some 6,.alloc V,ty 7,po 7,af 7,none⟩,last]
def p9(t:C5)(ax:AV):C5:=((((t.set 22 .undef).set 23 .undef).set 24 .undef).set 25 .undef).set 26 ax
def sd(t:C5)(N n:Nat)(em:Bool):C5:=
 ((((p9 t .undef).set 27 .undef).set 28 (.agg [.vec N n,.vec (N+1) n,.v (.bool em)])).set 6 (.ptr (N+2) 0 3 0 0))
def spM(n0:Nat)(m:jX):Spec:=⟨λv w=>DY n0 m v w,λ_ _ _ hb h=>h.below hb⟩
def spR(D:Nat->Prop)(nu:EQ)(o:AC)(r:AV):Spec:=⟨λv w=>RA D nu o w r v,λ_ _ _ hb h=>h.mono (aG hb) (λ_ _ h=>h)⟩
def spB(n0:Nat)(m1 m3:jX)(em:Bool):Spec:=⟨λv w=>∃v1 v3,v=.agg #[v1,v3,.bool em]∧DY n0 m1 v1 w∧DY n0 m3 v3 w∧∀b,cW v1=some b->cW v3≠some b,λ_ _ _ hb⟨v1,v3,h1,h2,h3,h4⟩=>⟨v1,v3,h1,h2.below hb,h3.below hb,h4⟩⟩
theorem DY.lt{n0:Nat}{m:jX}{v:Value}(h:DY n0 m v w):∀b,cW v=some b->n0<=b∧∃cur,w.heap[b]?=some (.cells cur m.e (0,0)):=λb q=>by
 obtain⟨O,cap,cur,H,A,u,_⟩:=h;rw[H,jX.vw]at q;cases q;exact⟨A,cur,u⟩
theorem tD{S q:Spec}{r:Result Next}(h:zO P S w r)(hi:∀v w',S.p v w'->q.p v w'):zO P q w r:=by
 revert h
 cases r with
 |halt _ _=>exactλh=>h
 |ok n w'=>
  cases n<;>first|exactλh=>h|skip
  case value u=>exactλh=>⟨hi _ _ h.1,h.2⟩
  case skip=>exactλh=>⟨hi _ _ h.1,h.2⟩
  case enter f args=>
   exactλh=>Calls.mono h λe w'' H=>by
    obtain⟨v,rfl,A,O⟩:=H;exact⟨v,rfl,hi _ _ A,O⟩
theorem Qg{S:Spec}{r:Sem Next}{v:Value}{w':World}(h:r.run P w=.ok (.value v) w')(q:S.p v w')(u:Below w.heap.size w w'):zO P S w (r.run P w):=by
 rw[h];exact⟨q,u⟩
theorem YX{a:Act}{t:C5}{o:AC}{y:kz}(H:RO D nu o w)(h:gC D nu o w t a.tmps)(A:Operand):RA D nu o w (AS.ev ⟨t,o,y⟩ A) (a.eval A):=by
 cases A with
 |tmp q=>
  simp only[AS.ev,Act.eval]
  rcases aes q t.length with u|hge
  ·have O:t[q]?=some t[q]:=aeC u
   have hlt':q<a.tmps.size:=by rw[<-h.len];exact u
   rw[getD_some O]
   have U:a.tmps.getD q Go.undef=a.tmps[q]:=by simp[Array.getD,hlt']
   rw[U];exact h.at' q _ _ O (Array.getElem?_eq_getElem hlt')
  ·rw[ae2,List.getElem?_eq_none hge];exact .undef _
 |const v=>exact .v v
 |global gi=>exact wZ H ⟨t,o,y⟩ gi
 |func f=>exact .fn f [] [] #[] #[] rfl rfl (λi c x h=>by simp at h) (λi c x h=>by simp at h)
theorem kA{t:C5}{o:AC}{y:kz}{d i:Nat}{v:AV}(h:d≠i):AS.ev ⟨t.set d v,o,y⟩ (.tmp i)=AS.ev ⟨t,o,y⟩ (.tmp i):=by
 simp[AS.ev,ae2,aeH h]
theorem wU{t:C5}{o:AC}{y:kz}{d:Nat}{v:AV}(h:d<t.length):AS.ev ⟨t.set d v,o,y⟩ (.tmp d)=v:=by
 simp[AS.ev,ae2,h]
theorem DY.one{n0:Nat}{m:jX}{v:Value}(h:DY n0 m v w):v.oneCell'=true:=by
 obtain⟨u,cap,cur,q,_⟩:=h;rw[q,jX.val];split<;>rfl
theorem Lz{n0 id n z:Nat}{s:AS}{Q:bd->AS->Prop}{T U V:TypeId}{oc:Op}{ty:Nat->TypeId}{po:Nat->String}{af:Nat->Array Edge}{last:Oper}{ax:AV}{em:Bool}{p1 p7:Prop}{e:TypeId}{zc zr:C5}
  (hB:ia (qO T U V oc ty po af last).toArray 8=true)(hC:dP (qO T U V oc ty po af last).toArray=true)
  (hdp:bb (qO T U V oc ty po af last).toArray 1 0=true∧bb (qO T U V oc ty po af last).toArray 3 2=true∧bb (qO T U V oc ty po af last).toArray 5 4=true∧bb (qO T U V oc ty po af last).toArray 6 1=true∧bb (qO T U V oc ty po af last).toArray 6 3=true∧bb (qO T U V oc ty po af last).toArray 6 5=true)
  (hlen:29<=s.t.length)(hmv:s.ev (.tmp 5)=.v (.int .i64 n))(hm1:Cc P T (.v (.int .i64 n)) (.v (.int .i64 n))=some (p1,e,z,n,zc))(hp1:p1)(hal:B5 P V=some (p7,V,3,1,zr))(heV:e≠V)
  (hld:dN P (.load U (.tmp 3)) s (λr=>r=ax))(hcl:dN P oc ⟨p9 s.t ax,s.o,s.y⟩ (λr=>r=.v (.bool em)))
  (hbd:∀v1 v3:Value,v1.oneCell'=true->v3.oneCell'=true->rm P V [(0,.v v1),(1,.v v3),(2,.v (.bool em))]=some (.agg [.v v1,.v v3,.v (.bool em)]))
  (h:fY P (qO T U V oc ty po af last) [last] ⟨sd s.t s.o.length n em,s.o++[some ⟨e,z,true,List.replicate n zc⟩,some ⟨e,z,true,List.replicate n zc⟩,some ⟨V,3,false,[zr]⟩],s.y⟩ (Q .normal)) :
  cD P n0 (.region id (qO T U V oc ty po af last).toArray true) s Q:=by
 refine .inr (λf m D nu a w hZr hn hm hs hmx R hO hR=>?_);have hs0:=hs.drew;obtain⟨d10,d32,d54,d61,d63,d65⟩:=hdp;have hsz:a.tmps.size=s.t.length:=hs.tm.len.symm
 have hwant:∀(i:Nat)(oo:Oper)(a':Act),oo.guard=none->Region.wanted oo (yielded (qO T U V oc ty po af last).toArray a'.tmps)=true:=λi oo a' hg=>by simp[Region.wanted,hg]

 have base:∀wr,Below w.drew.heap.size w.drew wr->RO D nu s.o wr∧gC D nu s.o wr s.t a.tmps:=λwr W=>⟨hs0.ro.below W,hs0.tm.mono (aG W) (λ_ _ h=>h)⟩
 refine ug hmx hC hO (mE [spR D nu s.o (.v (.int .i64 n)),spM w.drew.heap.size ⟨23,1,e,z,n,zc,false⟩,spR D nu s.o (.v (.int .i64 n)),spM w.drew.heap.size ⟨25,3,e,z,n,zc,false⟩,spR D nu s.o ax,spR D nu s.o (.v (.bool em)),spB w.drew.heap.size ⟨23,1,e,z,n,zc,false⟩ ⟨25,3,e,z,n,zc,false⟩ em,spM w.drew.heap.size ⟨6,7,V,3,1,zr,true⟩]
  (λi=>i==1||i==3||i==7) (λi v w1 hf hp b u=>?_) 8 hB ⟨λx wr W hD hP=>?_,λx wr W hD hP=>?_,λx wr W hD hP=>?_,λx wr W hD hP=>?_,λx wr W hD hP=>?_,λx wr W hD hP=>?_,λx wr W hD hP=>?_,λx wr W hD hP=>?_,λx wr W hD hP=>?_⟩)
 ·simp only[afk,beq_iff_eq]at hf
  rcases hf with(rfl|rfl)|rfl<;>exact(Array.getElem?_eq_some_iff.1 ((DY.lt hp b u).2.choose_spec)).1
 ·refine .inl ⟨hwant 0 _ _ rfl,?_⟩;obtain⟨q,H⟩:=base wr W;obtain⟨r,rfl,O⟩:=lk (P:=P) (s:=s) (rho:=a.eval) (oo:=⟨some 22,.move (.tmp 5),ty 0,po 0,af 0,none⟩) (K:=λr=>r=.v (.int .i64 n)) q (λy _=>YX q H y) ⟨trivial,hmv⟩;exact tD O (λv w' hv=>⟨hv.2,λh=>absurd h zs⟩)
 ·refine .inl ⟨hwant 1 _ _ rfl,?_⟩;obtain⟨q,H⟩:=base wr W;have h0:RA D nu s.o wr (.v (.int .i64 n)) (x 0):=hD 0 d10;have e0:(a.put (some 22) (x 0)).eval (.tmp 22)=x 0:=yd zd;obtain⟨v,w',Y,A,h3⟩:=Al (P:=P) (w:=wr) h0 h0 hm1 hp1 23 1
  have hrun:(execOp (a.put (some 22) (x 0)).eval ⟨some 23,.makeSlice T (.tmp 22) (.tmp 22),ty 1,po 1,af 1,none⟩).run P wr=.ok (.value v) w':=by
   simp only[execOp,e0,Sem.run_bind,Y,Result.andThen_ok,Sem.run_pure]
  show zO P _ wr ((execOp (a.put (some 22) (x 0)).eval ⟨some 23,.makeSlice T (.tmp 22) (.tmp 22),ty 1,po 1,af 1,none⟩).run P wr);rw[hrun];obtain⟨b,cap,cur,k1,k2,k3⟩:=h3;exact⟨⟨⟨b,cap,cur,k1,aeo W.size k2,k3⟩,λ_ b' u=>by rw[k1,jX.vw]at u;cases u;exact k2⟩,A⟩
 ·refine .inl ⟨hwant 2 _ _ rfl,?_⟩;obtain⟨q,H⟩:=base wr W;have hr2:=(H.kH (.undef (x 0)) 22).kH (.undef (x 1)) 23
  obtain⟨r,rfl,O⟩:=lk (P:=P) (s:=⟨(s.t.set 22 .undef).set 23 .undef,s.o,s.y⟩) (rho:=((a.put (some 22) (x 0)).put (some 23) (x 1)).eval) (oo:=⟨some 24,.move (.tmp 5),ty 2,po 2,af 2,none⟩) (K:=λr=>r=.v (.int .i64 n)) q (λy _=>YX q hr2 y)
   ⟨trivial,by rw[kA zs,kA zs];exact hmv⟩
  exact tD O (λv w' hv=>⟨hv.2,λh=>absurd h zs⟩)
 ·refine .inl ⟨hwant 3 _ _ rfl,?_⟩;have h0:RA D nu s.o wr (.v (.int .i64 n)) (x 2):=hD 2 d32;have e0:(((a.put (some 22) (x 0)).put (some 23) (x 1)).put (some 24) (x 2)).eval (.tmp 24)=x 2:=yd (by rw[Vx,Vx];omega);obtain⟨v,w',Y,A,h3⟩:=Al (P:=P) (w:=wr) h0 h0 hm1 hp1 25 3
  have hrun:(execOp (((a.put (some 22) (x 0)).put (some 23) (x 1)).put (some 24) (x 2)).eval ⟨some 25,.makeSlice T (.tmp 24) (.tmp 24),ty 3,po 3,af 3,none⟩).run P wr=.ok (.value v) w':=by
   simp only[execOp,e0,Sem.run_bind,Y,Result.andThen_ok,Sem.run_pure]
  show zO P _ wr ((execOp (((a.put (some 22) (x 0)).put (some 23) (x 1)).put (some 24) (x 2)).eval ⟨some 25,.makeSlice T (.tmp 24) (.tmp 24),ty 3,po 3,af 3,none⟩).run P wr);rw[hrun];obtain⟨b,cap,cur,k1,k2,k3⟩:=h3;exact⟨⟨⟨b,cap,cur,k1,aeo W.size k2,k3⟩,λ_ b' u=>by rw[k1,jX.vw]at u;cases u;exact k2⟩,A⟩
 ·refine .inl ⟨hwant 4 _ _ rfl,?_⟩;obtain⟨q,H⟩:=base wr W;have hr4:=(((H.kH (.undef (x 0)) 22).kH (.undef (x 1)) 23).kH (.undef (x 2)) 24).kH (.undef (x 3)) 25
  obtain⟨r,rfl,O⟩:=lk (P:=P) (s:=⟨(((s.t.set 22 .undef).set 23 .undef).set 24 .undef).set 25 .undef,s.o,s.y⟩) (rho:=((((a.put (some 22) (x 0)).put (some 23) (x 1)).put (some 24) (x 2)).put (some 25) (x 3)).eval) (oo:=⟨some 26,.load U (.tmp 3),ty 4,po 4,af 4,none⟩) (K:=λr=>r=ax) q (λy _=>YX q hr4 y)
   (by simp only[dN,Hn,zR,kA (show 22≠3 by decide),kA (show 23≠3 by decide),kA (show 24≠3 by decide),kA (show 25≠3 by decide)]at hld⊢; exact hld)
  exact tD O (λv w' hv=>⟨hv.2,λh=>absurd h zs⟩)
 ·refine .inl ⟨hwant 5 _ _ rfl,?_⟩;obtain⟨q,H⟩:=base wr W;have h4:RA D nu s.o wr ax (x 4):=hD 4 d54;have hr5:=((((H.kH (.undef (x 0)) 22).kH (.undef (x 1)) 23).kH (.undef (x 2)) 24).kH (.undef (x 3)) 25).kH h4 26;obtain⟨r,rfl,O⟩:=lk (P:=P) (s:=⟨p9 s.t ax,s.o,s.y⟩) (rho:=(((((a.put (some 22) (x 0)).put (some 23) (x 1)).put (some 24) (x 2)).put (some 25) (x 3)).put (some 26) (x 4)).eval) (oo:=⟨some 27,oc,ty 5,po 5,af 5,none⟩) (K:=λr=>r=.v (.bool em)) q (λy _=>YX q hr5 y) hcl;exact tD O (λv w' hv=>⟨hv.2,λh=>absurd h zs⟩)
 ·refine .inl ⟨hwant 6 _ _ rfl,?_⟩;obtain⟨q,H⟩:=base wr W;have Y:DY w.drew.heap.size ⟨23,1,e,z,n,zc,false⟩ (x 1) wr:=hD 1 d61;have h3:DY w.drew.heap.size ⟨25,3,e,z,n,zc,false⟩ (x 3) wr:=hD 3 d63;have h5:RA D nu s.o wr (.v (.bool em)) (x 5):=hD 5 d65;have hne:=hP 1 3 d61 d63 zs rfl rfl;have hr6:=(((((H.kH (.undef (x 0)) 22).kH (.v (x 1)) 23).kH (.undef (x 2)) 24).kH (.v (x 3)) 25).kH (.undef (x 4)) 26).kH h5 27;have u:=hbd (x 1) (x 3) Y.one h3.one
  obtain⟨v,q1,q2⟩:=ll (P:=P) (ev:=AS.ev ⟨(((((s.t.set 22 .undef).set 23 (.v (x 1))).set 24 .undef).set 25 (.v (x 3))).set 26 .undef).set 27 (.v (.bool em)),s.o,s.y⟩) (rho:=((((((a.put (some 22) (x 0)).put (some 23) (x 1)).put (some 24) (x 2)).put (some 25) (x 3)).put (some 26) (x 4)).put (some 27) (x 5)).eval)
   (oo:=⟨some 28,.build V #[(0,.tmp 23),(1,.tmp 25),(2,.tmp 27)],ty 6,po 6,af 6,none⟩) q (λy _=>YX q hr6 y) (p:=True) (r:= .agg [.v (x 1),.v (x 3),.v (.bool em)]) (by
    have e1:AS.ev ⟨(((((s.t.set 22 .undef).set 23 (.v (x 1))).set 24 .undef).set 25 (.v (x 3))).set 26 .undef).set 27 (.v (.bool em)),s.o,s.y⟩ (.tmp 23)=.v (x 1):=by
     rw[kA zs,kA zs,kA zs,kA zs];exact wU ahy
    have e3:AS.ev ⟨(((((s.t.set 22 .undef).set 23 (.v (x 1))).set 24 .undef).set 25 (.v (x 3))).set 26 .undef).set 27 (.v (.bool em)),s.o,s.y⟩ (.tmp 25)=.v (x 3):=by
     rw[kA zs,kA zs];exact wU ahy
    have e5:AS.ev ⟨(((((s.t.set 22 .undef).set 23 (.v (x 1))).set 24 .undef).set 25 (.v (x 3))).set 26 .undef).set 27 (.v (.bool em)),s.o,s.y⟩ (.tmp 27)=.v (.bool em):=wU ahy
    simp only[zR,aga,agE,e1,e3,e5,u]) trivial
  have q3:=j0 (xs:=[x 1,x 3,.bool em]) q2;show zO P _ wr ((execOp ((((((a.put (some 22) (x 0)).put (some 23) (x 1)).put (some 24) (x 2)).put (some 25) (x 3)).put (some 26) (x 4)).put (some 27) (x 5)).eval ⟨some 28,.build V #[(0,.tmp 23),(1,.tmp 25),(2,.tmp 27)],ty 6,po 6,af 6,none⟩).run P wr);rw[q1];exact⟨⟨⟨x 1,x 3,q3,Y,h3,hne⟩,λh=>absurd h zs⟩,.refl _ _⟩
 ·refine .inl ⟨hwant 7 _ _ rfl,?_⟩;obtain⟨v,w',Y,A,h3⟩:=Ld (P:=P) (w:=wr) hal 6 7;refine Qg (v:=v) (w':=w') (by simp only[execOp,Sem.run_bind,Y,Result.andThen_ok,Sem.run_pure]) ?_ A;obtain⟨b,cap,cur,k1,k2,k3⟩:=h3;exact⟨⟨b,cap,cur,k1,aeo W.size k2,k3⟩,λ_ b' u=>by rw[k1,jX.vw]at u;cases u;exact k2⟩
 ·obtain⟨q,H⟩:=base wr W;obtain⟨v1,v3,e6,m1,m3,hne⟩:(spB w.drew.heap.size ⟨23,1,e,z,n,zc,false⟩ ⟨25,3,e,z,n,zc,false⟩ em).p (x 6) wr:=hD 6 zs;have m7:DY w.drew.heap.size ⟨6,7,V,3,1,zr,true⟩ (x 7) wr:=hD 7 zs
  have hdiff:∀v(mm:jX),mm.e=e->DY w.drew.heap.size mm v wr->∀b,cW v=some b->cW (x 7)≠some b:=λv mm he hm b Y A=>by
   obtain⟨c1,k1⟩:=(hm.lt b Y).2;obtain⟨c2,k2⟩:=(m7.lt b A).2;rw[k1]at k2;simp only[Option.some.injEq,Obj.cells.injEq,and_true]at k2;exact heV (he.symm.trans k2.2)
  obtain⟨hmo,hro',hcl'⟩:=OC hs0.ro W [⟨23,1,e,z,n,zc,false⟩,⟨25,3,e,z,n,zc,false⟩,⟨6,7,V,3,1,zr,true⟩] (λi=>if i=0 then v1 else if i=1 then v3 else x 7) (λi mm hi=>by
   match i,hi with
   |0,hi=>cases hi;exact m1
   |1,hi=>cases hi;exact m3
   |2,hi=>cases hi;exact m7
   |i+3,hi=>simp at hi) (λi j hi hj hij b u=>by
   simp only[List.length_cons,List.length_nil]at hi hj
   match i,j,hi,hj,hij,u with
   |0,0,_,_,h,_=>exact absurd rfl h
   |0,1,_,_,_,u=>exact hne b u
   |0,2,_,_,_,u=>exact hdiff v1 _ rfl m1 b u
   |1,0,_,_,_,u=>exactλh=>hne b h u
   |1,1,_,_,h,_=>exact absurd rfl h
   |1,2,_,_,_,u=>exact hdiff v3 _ rfl m3 b u
   |2,0,_,_,_,u=>exactλh=>hdiff v1 _ rfl m1 b h u
   |2,1,_,_,_,u=>exactλh=>hdiff v3 _ rfl m3 b h u
   |2,2,_,_,h,_=>exact absurd rfl h
   |i+3,_,h,_,_,_=>omega
   |_,j+3,_,h,_,_=>omega)
  have c0:=hcl' 0 _ rfl;have c1:=hcl' 1 _ rfl;have c2:=hcl' 2 _ rfl;generalize Nz nu s.o.length (λi=>if i=0 then v1 else if i=1 then v3 else x 7)=nu2 at *;have hra2:=hs0.tm.mono hmo (λ_ _ h=>h);simp only[jX.av,jX.ob,Bool.not_false,Bool.not_true,if_true,Bool.false_eq_true,if_false,Nat.add_zero,aga,agE,Nat.one_ne_zero,List.replicate_succ,List.replicate_zero]at c0 c1 c2 hmo hro' hra2;have c2:RA D nu2 _ wr (.ptr (s.o.length+2) 0 3 0 0) (x 7):=c2
  have hagg:RA D nu2 (s.o++[some ⟨e,z,true,List.replicate n zc⟩,some ⟨e,z,true,List.replicate n zc⟩,some ⟨V,3,false,[zr]⟩]) wr (.agg [.vec s.o.length n,.vec (s.o.length+1) n,.v (.bool em)]) (x 6):=by
   rw[e6]
   refine .agg _ _ rfl (λi c y Y A=>?_) (λi y A=>?_)
   ·match i,Y,A with
    |0,Y,A=>cases Y;cases A;exact c0
    |1,Y,A=>cases Y;cases A;exact c1
    |2,Y,A=>cases Y;cases A;exact .v _
    |i+3,Y,A=>simp at Y
   ·match i,A with
    |0,A=>cases A;exact m1.one
    |1,A=>cases A;exact m3.one
    |2,A=>cases A;rfl
    |i+3,A=>simp at A
  have hra8:gC D nu2 (s.o++[some ⟨e,z,true,List.replicate n zc⟩,some ⟨e,z,true,List.replicate n zc⟩,some ⟨V,3,false,[zr]⟩]) wr (sd s.t s.o.length n em) ((((((((a.put (some 22) (x 0)).put (some 23) (x 1)).put (some 24) (x 2)).put (some 25) (x 3)).put (some 26) (x 4)).put (some 27) (x 5)).put (some 28) (x 6)).put (some 6) (x 7)).tmps:=by
   refine gC.kH ?_ c2 6;refine gC.kH ?_ hagg 28;refine gC.kH ?_ (.undef (x 5)) 27;refine gC.kH ?_ (.undef (x 4)) 26;refine gC.kH ?_ (.undef (x 3)) 25;refine gC.kH ?_ (.undef (x 2)) 24;refine gC.kH ?_ (.undef (x 1)) 23;refine gC.kH ?_ (.undef (x 0)) 22;exact hra2
  generalize hA:((((((((a.put (some 22) (x 0)).put (some 23) (x 1)).put (some 24) (x 2)).put (some 25) (x 3)).put (some 26) (x 4)).put (some 27) (x 5)).put (some 28) (x 6)).put (some 6) (x 7))=a8 at hra8
  have hd8:a8.defers=a.defers:=by rw[<-hA];simp only[put_defers]
  show wpOps P (qO T U V oc ty po af last).toArray R (List.range' 8 ((qO T U V oc ty po af last).toArray.size-8)) ((((((((a.put (some 22) (x 0)).put (some 23) (x 1)).put (some 24) (x 2)).put (some 25) (x 3)).put (some 26) (x 4)).put (some 27) (x 5)).put (some 28) (x 6)).put (some 6) (x 7)) wr;rw[hA]
  have hs8:RS f D nu2 ⟨sd s.t s.o.length n em,s.o++[some ⟨e,z,true,List.replicate n zc⟩,some ⟨e,z,true,List.replicate n zc⟩,some ⟨V,3,false,[zr]⟩],s.y⟩ a8 wr:=
   ⟨hro',hra8,by rw[hd8];exact hs0.mb.mono hs0.ro (aG W)⟩
  exact nC (P:=P) (f:=f) (l:=qO T U V oc ty po af last) (R:=R) [last] 8 _ _ wr nu2 rfl (show 8<=9 by omega) hs8 h (λs' a' w' nu' q1 q2 q3 q4=>hR .normal D f.Z s' a' w' nu' (by rw[q2];exact m.own hm hs.ro ((aG (dE w)).trans (hmo.trans q1)) q3.ro) q3 q4)
theorem Hq{n0 id n z:Nat}{s:AS}{Q:bd->AS->Prop}{l:GE}(T U V:TypeId)(oc:Op){ax:AV}{em:Bool}{p1 p7:Prop}{e:TypeId}{zc zr:C5}
  (hl:l=qO T U V oc (λi=>(l.getD i default).type) (λi=>(l.getD i default).pos) (λi=>(l.getD i default).after) (l.getD 8 default))
  (hB:ia l.toArray 8=true)(hC:dP l.toArray=true)
  (W:bb l.toArray 1 0=true∧bb l.toArray 3 2=true∧bb l.toArray 5 4=true∧bb l.toArray 6 1=true∧bb l.toArray 6 3=true∧bb l.toArray 6 5=true)
  (hlen:29<=s.t.length)(u:s.ev (.tmp 5)=.v (.int .i64 n))(A:Cc P T (.v (.int .i64 n)) (.v (.int .i64 n))=some (p1,e,z,n,zc))(q:p1)(hal:B5 P V=some (p7,V,3,1,zr))(O:e≠V)
  (H:dN P (.load U (.tmp 3)) s (λr=>r=ax))(Y:dN P oc ⟨p9 s.t ax,s.o,s.y⟩ (λr=>r=.v (.bool em)))
  (hbd:∀v1 v3:Value,v1.oneCell'=true->v3.oneCell'=true->rm P V [(0,.v v1),(1,.v v3),(2,.v (.bool em))]=some (.agg [.v v1,.v v3,.v (.bool em)]))
  (h:fY P l [l.getD 8 default] ⟨sd s.t s.o.length n em,s.o++[some ⟨e,z,true,List.replicate n zc⟩,some ⟨e,z,true,List.replicate n zc⟩,some ⟨V,3,false,[zr]⟩],s.y⟩ (Q .normal)) :
  cD P n0 (.region id l.toArray true) s Q:=by
 generalize(λi=>(l.getD i default).type)=ty at hl;generalize(λi=>(l.getD i default).pos)=po at hl;generalize(λi=>(l.getD i default).after)=af at hl;generalize l.getD 8 default=last at hl h;subst hl;exact Lz hB hC W hlen u A q hal O H Y hbd h
end
open Classical in
noncomputable def mA(x:Ex)(b q:Nat):Bool:=decide (mq x b (q+1))
open Classical in
noncomputable def gK(x:Ex)(b q:Nat):Bool:=decide (lj x b (q+1))
open Classical in
noncomputable def mz(x:Ex)(b p q:Nat):Bool:=decide (kL x b (p+1) (q+1))
theorem j7{x:Ex}{b q:Nat}:mA x b q=true↔mq x b (q+1):=by simp[mA]
theorem kg{x:Ex}{b q:Nat}:gK x b q=true↔lj x b (q+1):=by simp[gK]
theorem mJ{x:Ex}{b p q:Nat}:mz x b p q=true↔kL x b (p+1) (q+1):=by simp[mz]
theorem SE{I:AC}{z:Nat}(h:I.length=z)(tl:AC)(j:Nat):(I++tl)[z+j]?=tl[j]? :=by
 rw[aeK zd,h,ahq]
theorem xH{I:AC}{z:Nat}(h:I.length=z)(tl:AC):(I++tl)[z]?=tl[0]? :=by
 rw[aeK zd,h,Nat.sub_self]
theorem SG{I:AC}{z:Nat}(h:I.length=z)(tl:AC)(j:Nat)(x:Option aa):(I++tl).set (z+j) x=I++tl.set j x:=by
 rw[ago _ _ zd,h,ahq]
theorem xI{I:AC}{z:Nat}(h:I.length=z)(tl:AC)(x:Option aa):(I++tl).set z x=I++tl.set 0 x:=by
 rw[ago _ _ zd,h,Nat.sub_self]
theorem JV{n0 id n:Nat}{s:AS}{Q:bd->AS->Prop}{l:GE}{ax:AV}{em:Bool}(hn:n<=1000)
  (hl:l=qO 121 25 258 (.call ⟨.value (.func 173), #[.tmp 26], #[25]⟩) (λi=>(l.getD i default).type) (λi=>(l.getD i default).pos) (λi=>(l.getD i default).after) (l.getD 8 default))
  (U:ia l.toArray 8=true)(O:dP l.toArray=true)
  (A:bb l.toArray 1 0=true∧bb l.toArray 3 2=true∧bb l.toArray 5 4=true∧bb l.toArray 6 1=true∧bb l.toArray 6 3=true∧bb l.toArray 6 5=true)
  (hlen:29<=s.t.length)(q:s.ev (.tmp 5)=.v (.int .i64 n))
  (u:dN prog (.load 25 (.tmp 3)) s (λr=>r=ax))(H:aj prog 173 [ax] (.v (.bool em)))
  (h:fY prog l [l.getD 8 default] ⟨sd s.t s.o.length n em,s.o++[some ⟨4,1,true,dK n (λ_=>false)⟩,some ⟨4,1,true,dK n (λ_=>false)⟩,some ⟨258,3,false,[[.v (.slice none 0 0),.v (.slice none 0 0),.v (.bool false)]]⟩],s.y⟩ (Q .normal)) :
  cD prog n0 (.region id l.toArray true) s Q:=by
 have e1:Cc prog 121 (.v (.int .i64 n)) (.v (.int .i64 n))=some (0<=(n:Int)∧(n:Int)<=(n:Int)∧(n:Int).toNat*1<=140737488355328∧(n:Int).toNat<=140737488355328,4,1,n,[.v (.bool false)]):=by
  simp only[go_sem]
 have Y:B5 prog 258=some (True,258,3,1,[.v (.slice none 0 0),.v (.slice none 0 0),.v (.bool false)]):=by
  first|(simp only[go_sem];done)|(simp only[go_sem];rfl)
 rw[<-lu]at h
 refine Hq 121 25 258 _ hl U O A hlen q e1 ⟨zd,zd,zd,zd⟩ Y zs u ?_ (λv1 v3 W V=>?_) h
 ·have ev:AS.ev ⟨p9 s.t ax,s.o,s.y⟩ (.tmp 26)=ax:=by rw[p9];exact wU ahy
  simp only[dN,aga,agE,ev];exact b8.one H rfl
 ·have c1:(AV.v v1).cells? = some [.v v1]:=by simp only[AV.cells?,W,if_true]
  have c3:(AV.v v3).cells? = some [.v v3]:=by simp only[AV.cells?,V,if_true]
  have c5:(AV.v (.bool em)).cells? = some [.v (.bool em)]:=rfl
  have tp:zy prog 258=some ([(0,1),(1,1),(2,1)],[.v (.slice none 0 0),.v (.slice none 0 0),.v (.bool false)]):=by
   simp only[go_sem]
  simp[rm,tp,su,c1,c3,c5,Gh]
theorem JR{k:Nat}{y:Ex}{labs:B0}{n:Nat}{f:GT}{tl:AC}{r:AV}(u:k<=2*n+3)(q:∀m,r.wf m=true) :
  AFw k (some ⟨221,8,false,[pb 0 y labs.length n]⟩ ::some ⟨9,1,true,labs.map encS⟩ ::some ⟨121,1,true,bu 2 n n⟩ ::(bA n f n++tl)) r r (dt 0 y labs n f):=by
 refine⟨⟨.inr ⟨rfl,q _⟩,trivial⟩,?_,by rw[cC];exact u⟩
 have:=oN (n:=(dt 0 y labs n f).length) (a:=tl) (b:=[]) (l:=dt 0 y labs n f) (lf (by rw[cC];omega)) (by cases tl<;>exact trivial)
 rw[List.append_nil]at this;exact this
def OfC(x:Ex):Prop:=∀(y:Ex)(labs:B0)(n:Nat)(f:GT),n<=1000->labs.length+(aH x).length<=n ->
 bR prog 175 [.ptr 0 0 8 0 0,.agg (aN x)] (dt 0 y labs n f) (.agg [.aB 1 (dK n (mA x labs.length)) n,.aB 1 (dK n (gK x labs.length)) n,.v (.bool (aS x))]) (dt 0 y (labs++aH x) n (λp q=>f p q||mz x labs.length p q))
theorem WE(s:ByteArray)(U:aD (.mk 1 s [])=true)(O:∀z,z∈aq (.mk 1 s [])->z.kids.length<=1000000∧z.label.size<=1000000000000000):OfC (.mk 1 s []):=by
 intro y labs n f hn hb;have E:=uG (.mk 1 s []) (by simp[aq,bZ]) O;rw[cH,U,Bool.true_and]at E;simp only[aA,Ex.kind,Ex.label,Ex.kids,agE,List.length_nil]at E⊢;refine gF func175 ntmps175 results175 ?_;simp only[dt,cA,pb,Nat.zero_add];obtain⟨I,A⟩:∃I,I=bA n f n:=⟨_,rfl⟩
 have u:I.length=2*n:=by rw[A,ah]
 rw[<-A];generalize 2*n=z at u;have g1:=λtl j=>SE u tl j;have g0:=λtl=>xH u tl;have s1:=λtl j x=>SG u tl j x;have s0:=λtl x=>xI u tl x
 repeat((fail_if_success (with_reducible refine mn (i:=2) ?_));first|(with_reducible first|refine bG.up ?_|refineλ(K:AK)hK=>?_|refine wK ?_|refine wF ?_|refine au zs ?_|refine ay zs ?_|(refine hK _ ?_;clear hK K))|simp only[go_sem,u,g0,g1,s0,s1,aew]|with_reducible refine wA ?_|clear hK K)
 refine JV (n:=n) (em:=aS (.mk 1 s [])) (ax:= .agg [.v (.int .i64 1),.v (.string s),.aB 3 [] 0]) hn rfl za zo za zk rfl ?_ E ?_
 ·repeat(first|(with_reducible first|refine bG.up ?_|refineλ(K:AK)hK=>?_|refine wK ?_|refine wF ?_|refine au zs ?_|refine ay zs ?_|(refine hK _ ?_;clear hK K))|simp only[go_sem,u,g0,g1,s0,s1,aew]|with_reducible refine wA ?_|clear hK K)
 ·repeat(first|(with_reducible first|refine bG.up ?_|refineλ(K:AK)hK=>?_|refine wK ?_|refine wF ?_|refine au zs ?_|refine ay zs ?_|(refine hK _ ?_;clear hK K))|simp only[go_sem,u,g0,g1,s0,s1,aew,sd,p9,List.getD_cons_succ,List.getD_cons_zero]|with_reducible refine wA ?_|clear hK K)
  repeat((fail_if_success (with_reducible refine mn (i:=4) ?_));first|(with_reducible first|refine bG.up ?_|refineλ(K:AK)hK=>?_|refine wK ?_|refine wF ?_|refine au zs ?_|refine ay zs ?_|(refine hK _ ?_;clear hK K))|simp only[go_sem,u,g0,g1,s0,s1,aew]|with_reducible refine wA ?_|clear hK K)
  refine bE [8,11] [] za zo ?_
  repeat(first|(with_reducible first|refine bG.up ?_|refineλ(K:AK)hK=>?_|refine wK ?_|refine wF ?_|refine au zs ?_|refine ay zs ?_|(refine hK _ ?_;clear hK K))|simp only[go_sem,u,g0,g1,s0,s1,aew]|with_reducible refine wA ?_|clear hK K)
  repeat((fail_if_success (with_reducible refine mn (i:=5) ?_));first|(with_reducible first|refine bG.up ?_|refineλ(K:AK)hK=>?_|refine wK ?_|refine wF ?_|refine au zs ?_|refine ay zs ?_|(refine hK _ ?_;clear hK K))|simp only[go_sem,u,g0,g1,s0,s1,aew]|with_reducible refine wA ?_|clear hK K)
  have H:labs.length<n:=by simp[aH]at hb;omega
  have eN:IntKind.i64.wrap (((labs.length+1:Nat):Int)-1)=(labs.length:Int):=by rw[bT zd zd];omega
  have eR:=dS (g:=λ_=>false) H;have eS:=tU (N:=n) (j:=labs.length) (g:=λ_=>false) (v:=true);refine wE ?_
  repeat(first|(with_reducible first|refine bG.up ?_|refineλ(K:AK)hK=>?_|refine wK ?_|refine wF ?_|refine au zs ?_|refine ay zs ?_|(refine hK _ ?_;clear hK K))|simp only[go_sem,u,g0,g1,s0,s1,aew,eN,eR,eS]|with_reducible refine wA ?_|clear hK K)
  repeat((fail_if_success (with_reducible refine mn (i:=6) ?_));first|(with_reducible first|refine bG.up ?_|refineλ(K:AK)hK=>?_|refine wK ?_|refine wF ?_|refine au zs ?_|refine ay zs ?_|(refine hK _ ?_;clear hK K))|simp only[go_sem,u,g0,g1,s0,s1,aew,eN,eR,eS]|with_reducible refine wA ?_|clear hK K)
  refine wE ?_
  repeat((fail_if_success (with_reducible refine mn (i:=7) ?_));first|(with_reducible first|refine bG.up ?_|refineλ(K:AK)hK=>?_|refine wK ?_|refine wF ?_|refine au zs ?_|refine ay zs ?_|(refine hK _ ?_;clear hK K))|simp only[go_sem,u,g0,g1,s0,s1,aew,eN,eR,eS]|with_reducible refine wA ?_|clear hK K)
  refine bl (fM (k:=z+2+1+1+1+2) (i:=0) (j:=0) (id:=z+2+1+1+1) (len:=n) (ob:=⟨258,3,false,[[.vec (z+2+1+1+1) n,.vec (z+2+1+1+1+1) n,.v (.bool (aS (.mk 1 s [])))]]⟩) (row:=[.vec (z+2+1+1+1) n,.vec (z+2+1+1+1+1) n,.v (.bool (aS (.mk 1 s [])))]) (ob2:=⟨4,1,true,dK n (λq=>if q=labs.length then true else false)⟩)
    zd (by simp only[afE,g1];rfl) (show 0<3 by decide) rfl rfl (by simp only[afE,g1];rfl) rfl (kY _ _)) zo ?_
  simp only[List.set_cons_succ,s1,List.set_cons_zero]
  refine bl (fM (k:=z+2+1+1+1+2) (i:=0) (j:=1) (id:=z+2+1+1+1+1) (len:=n) (ob:=⟨258,3,false,[[.aB 1 (dK n (λq=>if q=labs.length then true else false)) n,.vec (z+2+1+1+1+1) n,.v (.bool (aS (.mk 1 s [])))]]⟩) (row:=[.aB 1 (dK n (λq=>if q=labs.length then true else false)) n,.vec (z+2+1+1+1+1) n,.v (.bool (aS (.mk 1 s [])))]) (ob2:=⟨4,1,true,dK n (λq=>if q=labs.length then true else false)⟩)
    zd (by simp only[afE,g1];rfl) (show 0<3 by decide) rfl rfl (by simp only[afE,g1];rfl) rfl (kY _ _)) zo ?_
  simp only[List.set_cons_succ,s1,List.set_cons_zero]
  repeat(first|(with_reducible first|refine bG.up ?_|refineλ(K:AK)hK=>?_|refine wE ?_|refine wK ?_|refine wF ?_|refine au zs ?_|refine ay zs ?_|(refine hK _ ?_;clear hK K))|simp only[go_sem,u,g0,g1,s0,s1,aew]|with_reducible refine wA ?_|clear hK K)
  have eF:mA (.mk 1 s []) labs.length=λq=>if q=labs.length then true else false:=by
   funext q
   rw[Bool.eq_iff_iff,j7];simp[mq]
  have eL:gK (.mk 1 s []) labs.length=λq=>if q=labs.length then true else false:=by
   funext q
   rw[Bool.eq_iff_iff,kg];simp[lj]
  have eO:bA n (λp q=>f p q||mz (.mk 1 s []) labs.length p q) n=I:=by
   rw[A];refine gU λp q _ _=>?_
   have:mz (.mk 1 s []) labs.length p q=false:=by rw[<-Bool.not_eq_true,mJ];simp[kL]
   rw[this,Bool.or_false]
  have e1':(labs++[s]).map encS=labs.map encS++[[.v (.string s)]]:=by simp[encS]
  have Y:aH (.mk 1 s [])=[s]:=by simp[aH]
  have W:labs.length+[s].length=(labs++[s]).length:=zk
  have V:labs.length+1=(labs++[s]).length:=zk
  rw[eF,eL,eO,Y,W,V, <- e1',A];exact JR (by rw[<-ah n f n, <- A,u];omega) (λm=>by simp only[AV.wf,aU,bp,Bool.and_self])
noncomputable def mI(f:GT)(b:Nat)(l:IO)(i p q:Nat):Bool:=f p q||(List.range i).any (λj=>mz (nT l j) (sl b l j) p q)
theorem Tq(f:GT)(b:Nat)(l:IO):mI f b l 0=f:=by funext p q;simp[mI]
theorem H9(f:GT)(b:Nat)(l:IO)(i:Nat):(λp q=>mI f b l i p q||mz (nT l i) (sl b l i) p q)=mI f b l (i+1):=by
 funext p q
 rw[mI,mI,List.range_succ,List.any_append];simp[ahr]
def sn(labs:B0)(l:IO)(i:Nat):B0:=labs++aV (l.take i)
theorem Vn(labs:B0)(l:IO):sn labs l 0=labs:=by simp[sn,aV]
theorem TP(labs:B0)(l:IO)(i:Nat):(sn labs l i).length=sl labs.length l i:=by rw[sn,aew,sl]
theorem yB{labs:B0}{l:IO}{i:Nat}(h:i<l.length):sn labs l i++aH l[i]=sn labs l (i+1):=by
 rw[sn,sn,List.take_succ_eq_append_getElem h,jM,List.append_assoc];simp[aV]
theorem PN{labs:B0}{l:IO}{i n:Nat}(h:i<l.length)(hn:labs.length+(aV l).length<=n):(sn labs l i).length+(aH l[i]).length<=n:=by
 have e:(aV l).length=(aV (l.take (i+1))).length+(aV (l.drop (i+1))).length:=by rw[<-aew, <- jM,List.take_append_drop]
 have q:(sn labs l i).length+(aH l[i]).length=(sn labs l (i+1)).length:=by rw[<-aew,yB h]
 rw[q,sn,aew];omega
noncomputable def Mj(n b:Nat)(l:IO)(j:Nat):C5:=[.aB 1 (dK n (mA (nT l j) (sl b l j))) n,.aB 1 (dK n (gK (nT l j) (sl b l j))) n,.v (.bool (aS (nT l j)))]
noncomputable def oU(n b:Nat)(l:IO)(i:Nat):List C5:=(List.range i).map (Mj n b l)
theorem AZ(n b:Nat)(l:IO)(i:Nat):(oU n b l i).length=i:=by simp[oU]
theorem Iy(n b:Nat)(l:IO)(i:Nat):oU n b l (i+1)=oU n b l i++[Mj n b l i]:=by rw[oU,List.range_succ,List.map_append];rfl
theorem Px{n b:Nat}{l:IO}{i j:Nat}(h:j<i):(oU n b l i).getD j []=Mj n b l j:=by
 rw[List.getD_eq_getElem?_getD,oU,List.getElem?_map,List.getElem?_range h];rfl
theorem U5(m n b:Nat)(l:IO)(j:Nat):aU m (Mj n b l j)=true:=by simp only[Mj,aU,AV.wf,bp,agA]
theorem GI(m n b:Nat)(l:IO)(i:Nat):bD m (oU n b l i)=true:=bw _ (U5 m n b l) _
theorem iE{m:Nat}{y:Ex}{labs:B0}{n:Nat}{f:GT}{tl q:AC}(h:2*n+3<=m)(u:zQ m tl q) :
  zQ m (some ⟨221,8,false,[pb 0 y labs.length n]⟩ ::some ⟨9,1,true,labs.map encS⟩ ::some ⟨121,1,true,bu 2 n n⟩ ::(bA n f n++tl))
   (some ⟨221,8,false,[pb 0 y labs.length n]⟩ ::some ⟨9,1,true,labs.map encS⟩ ::some ⟨121,1,true,bu 2 n n⟩ ::(bA n f n++q)):=
 oN (n:=m) (a:=tl) (b:=q) (l:=dt 0 y labs n f) (lf h) u
theorem iF{m:Nat}{a b c d:aa}{ex:AC}(H:bD m a.rows=true)(A:bD m b.rows=true)(u:bD m c.rows=true)(q:bD m d.rows=true) :
  zQ m (some a::some b::none::none::some c::some d::ex) [some a,some b,none,none,some c,some d]:=
 ⟨.inr ⟨rfl,λob e=>by cases e;exact H⟩,.inr ⟨rfl,λob e=>by cases e;exact A⟩,.inl rfl,.inl rfl,.inr ⟨rfl,λob e=>by cases e;exact u⟩,.inr ⟨rfl,λob e=>by cases e;exact q⟩,by cases ex<;>exact trivial⟩
theorem nG(n:Nat)(f:GT)(tl:AC)(j:Nat):(bA n f n++tl)[2*n+j]?=tl[j]? :=SE (ah _ _ _) tl j
theorem tj(n:Nat)(f:GT)(tl:AC):(bA n f n++tl)[2*n]?=tl[0]? :=xH (ah _ _ _) tl
theorem nS(n:Nat)(f:GT)(tl:AC)(j:Nat)(x:Option aa):(bA n f n++tl).set (2*n+j) x=bA n f n++tl.set j x:=SG (ah _ _ _) tl j x
theorem tq(n:Nat)(f:GT)(tl:AC)(x:Option aa):(bA n f n++tl).set (2*n) x=bA n f n++tl.set 0 x:=xI (ah _ _ _) tl x
theorem ai.Zi{F:FuncId}{args:C5}{q:AV}{K:AV->AC->Prop}{y:Ex}{labs labs':B0}{n:Nat}{f f':GT}{tl:AC}
  (h:bR prog F (.ptr 0 0 8 0 0::args) (dt 0 y labs n f) q (dt 0 y labs' n f'))(u:∀m,aU m args=true)(A:∀m,q.wf m=true)
  (k:K q (some ⟨221,8,false,[pb 0 y labs'.length n]⟩ ::some ⟨9,1,true,labs'.map encS⟩ ::some ⟨121,1,true,bu 2 n n⟩ ::(bA n f' n++tl))) :
  ai prog F (.ptr 0 0 8 0 0::args) (some ⟨221,8,false,[pb 0 y labs.length n]⟩ ::some ⟨9,1,true,labs.map encS⟩ ::some ⟨121,1,true,bu 2 n n⟩ ::(bA n f n++tl)) K:=by
 have e:(dt 0 y labs n f).length=2*n+3:=cC _ _ _ _ _;refine ai.sub (o0:=dt 0 y labs n f) (post:=tl) h (by rw[cC,cC]) ?_ (lf zd) (λob H=>lf zd ob H) (A _) k;rw[aU,u,Bool.and_true,AV.wf,e];exact b0
theorem dQ.Zi{F:FuncId}{args:C5}{q:AV}{K:AV->AC->Prop}{y:Ex}{labs labs':B0}{n:Nat}{f f':GT}{tl:AC}
  (h:bR prog F (.ptr 0 0 8 0 0::args) (dt 0 y labs n f) q (dt 0 y labs' n f'))(u:∀m,aU m args=true)(A:∀m,q.wf m=true)
  (k:K q (some ⟨221,8,false,[pb 0 y labs'.length n]⟩ ::some ⟨9,1,true,labs'.map encS⟩ ::some ⟨121,1,true,bu 2 n n⟩ ::(bA n f' n++tl))) :
  dQ prog F (.ptr 0 0 8 0 0::args) (some ⟨221,8,false,[pb 0 y labs.length n]⟩ ::some ⟨9,1,true,labs.map encS⟩ ::some ⟨121,1,true,bu 2 n n⟩ ::(bA n f n++tl)) K:=by
 have e:(dt 0 y labs n f).length=2*n+3:=cC _ _ _ _ _;refine dQ.sub (o0:=dt 0 y labs n f) (post:=tl) h (by rw[cC,cC]) ?_ (lf zd) (λob H=>lf zd ob H) (A _) k;rw[aU,u,Bool.and_true,AV.wf,e];exact b0
theorem Ty{k:Int}{s:ByteArray}{l:IO}{b:Nat}(A:k≠1):sW (k==2) (λj=>aS (nT l j)) (λj=>mA (nT l j) (sl b l j)) l.length=mA (.mk k s l) b:=by
 funext q
 rw[agj,O5,j7,mq,if_neg A]
 by_cases u:k=2
 ·rw[if_pos u,BV];simp only[u,beq_self_eq_true,forall_const,j7]
 ·rw[if_neg u,JD];simp only[beq_false_of_ne u,afC,false_implies,true_and,j7]
theorem TU{k:Int}{s:ByteArray}{l:IO}{b:Nat}(A:k≠1):te (k==2) l.length (λj=>aS (nT l j)) (λj=>gK (nT l j) (sl b l j)) l.length=gK (.mk k s l) b:=by
 funext q
 rw[agj,PI,kg,lj,if_neg A]
 by_cases u:k=2
 ·rw[if_pos u,JG];simp only[u,beq_self_eq_true,forall_const,kg]
 ·rw[if_neg u,JF];simp only[beq_false_of_ne u,afC,false_implies,true_and,kg]
theorem Ka{l:IO}{b p q:Nat}:(List.range l.length).any (λj=>mz (nT l j) (sl b l j) p q)=true↔jV l b (p+1) (q+1):=by
 rw[BU];simp only[List.any_eq_true,List.mem_range,mJ]
theorem Tv{k:Int}{s:ByteArray}{l:IO}{b:Nat}{f:GT}(O:k≠1)(H:k≠4)(A:k≠5) :
  (λp q=>mI f b l l.length p q||my (k==2) l.length (λj=>aS (nT l j)) (λj=>mA (nT l j) (sl b l j)) (λj=>gK (nT l j) (sl b l j)) l.length p q)=λp q=>f p q||mz (.mk k s l) b p q:=by
 funext p q
 rw[mI,ahr]
 congr 1
 rw[agj,afk,Ka,E0,mJ,kL,if_neg O]
 by_cases u:k=2
 ·rw[if_pos u,JC,BU];simp only[u,beq_self_eq_true,true_and,j7,kg]
 ·rw[if_neg u];simp only[beq_false_of_ne u,afC,false_and,or_false,H,A,or_self]
theorem O8{k:Int}{s:ByteArray}{l:IO}{b:Nat}{f:GT}(A:k=4∨k=5) :
  (λp q=>(mI f b l l.length p q||my (k==2) l.length (λj=>aS (nT l j)) (λj=>mA (nT l j) (sl b l j)) (λj=>gK (nT l j) (sl b l j)) l.length p q)||(gK (.mk k s l) b p&&mA (.mk k s l) b q))=λp q=>f p q||mz (.mk k s l) b p q:=by
 have H:k≠1:=zd
 have u:k≠2:=zd
 funext p q
 rw[mI,ahr,ahr]
 congr 1
 rw[agj,afk,afk,ae6,Ka,E0,mJ,kL,if_neg H,if_neg u,kg,j7,lj,if_neg H,if_neg u,mq,if_neg H,if_neg u];simp only[beq_false_of_ne u,afC,false_and,false_or,A,true_and]
theorem TO{k:Int}{s:ByteArray}{labs:B0}{l:IO}(q:k≠1):sn labs l l.length=labs++aH (.mk k s l):=by rw[sn,List.take_length,dM q]
theorem Ud(k:Int)(h1:k≠1)(s:ByteArray)(l:IO)(hr:aD (.mk k s l)=true)(hp:(aq (.mk k s l)).length<=1000000)(hz:∀z,z∈aq (.mk k s l)->z.kids.length<=1000000∧z.label.size<=1000000000000000)(H:∀x,x∈l->OfC x):OfC (.mk k s l):=by
 intro y labs n f hn hb;have f1:(k==1)=false:=beq_false_of_ne h1;have E:=uG (.mk k s l) hp hz;rw[cH,hr,afu]at E;simp only[aA,Ex.kind,Ex.label,Ex.kids]at E⊢;have V:(bA n f n).length=2*n:=ah _ _ _;have g1:=λtl j=>SE V tl j;have g0:=λtl=>xH V tl;have s1:=λtl j x=>SG V tl j x;have s0:=λtl x=>xI V tl x;refine gF func175 ntmps175 results175 ?_;simp only[dt,cA,pb,Nat.zero_add]
 repeat((fail_if_success (with_reducible refine mn (i:=2) ?_));first|(with_reducible first|refine bG.up ?_|refineλ(K:AK)hK=>?_|refine wK ?_|refine wF ?_|refine au zs ?_|refine ay zs ?_|(refine hK _ ?_;clear hK K))|simp only[go_sem,V,g0,g1,s0,s1,aew]|with_reducible refine wA ?_|clear hK K)
 refine JV (n:=n) (em:=aS (.mk k s l)) (ax:= .agg [.v (.int .i64 k),.v (.string s),.aB 3 (l.map aN) l.length]) hn rfl za zo za zk rfl ?_ E ?_
 ·repeat(first|(with_reducible first|refine bG.up ?_|refineλ(K:AK)hK=>?_|refine wK ?_|refine wF ?_|refine au zs ?_|refine ay zs ?_|(refine hK _ ?_;clear hK K))|simp only[go_sem,V,g0,g1,s0,s1,aew]|with_reducible refine wA ?_|clear hK K)
 ·repeat(first|(with_reducible first|refine bG.up ?_|refineλ(K:AK)hK=>?_|refine wK ?_|refine wF ?_|refine au zs ?_|refine ay zs ?_|(refine hK _ ?_;clear hK K))|simp only[go_sem,V,g0,g1,s0,s1,aew,sd,p9,List.getD_cons_succ,List.getD_cons_zero]|with_reducible refine wA ?_|clear hK K)
  repeat((fail_if_success (with_reducible refine mn (i:=8) ?_));first|(with_reducible first|refine bG.up ?_|refineλ(K:AK)hK=>?_|refine wK ?_|refine wF ?_|refine au zs ?_|refine ay zs ?_|(refine hK _ ?_;clear hK K))|simp only[go_sem,f1,V,g0,g1,s0,s1,aew]|with_reducible refine wA ?_|clear hK K)
  refine bl (fM (k:=2*n+2+1+1+1+2) (i:=0) (j:=0) (id:=2*n+2+1+1+1) (len:=n) (ob:=⟨258,3,false,[[.vec (2*n+2+1+1+1) n,.vec (2*n+2+1+1+1+1) n,.v (.bool (aS (.mk k s l)))]]⟩) (row:=[.vec (2*n+2+1+1+1) n,.vec (2*n+2+1+1+1+1) n,.v (.bool (aS (.mk k s l)))]) (ob2:=⟨4,1,true,dK n (λ_=>false)⟩)
    zd (by simp only[afE,g1];rfl) (show 0<3 by decide) rfl rfl (by simp only[afE,g1];rfl) rfl (kY _ _)) zo ?_
  simp only[List.set_cons_succ,s1,List.set_cons_zero]
  refine bl (fM (k:=2*n+2+1+1+1+2) (i:=0) (j:=1) (id:=2*n+2+1+1+1+1) (len:=n) (ob:=⟨258,3,false,[[.aB 1 (dK n (λ_=>false)) n,.vec (2*n+2+1+1+1+1) n,.v (.bool (aS (.mk k s l)))]]⟩) (row:=[.aB 1 (dK n (λ_=>false)) n,.vec (2*n+2+1+1+1+1) n,.v (.bool (aS (.mk k s l)))]) (ob2:=⟨4,1,true,dK n (λ_=>false)⟩)
    zd (by simp only[afE,g1];rfl) (show 0<3 by decide) rfl rfl (by simp only[afE,g1];rfl) rfl (kY _ _)) zo ?_
  simp only[List.set_cons_succ,s1,List.set_cons_zero]
  repeat(first|(with_reducible first|refine bG.up ?_|refineλ(K:AK)hK=>?_|refine wE ?_|refine wK ?_|refine wF ?_|refine au zs ?_|refine ay zs ?_|(refine hK _ ?_;clear hK K))|simp only[go_sem,V,g0,g1,s0,s1,aew]|with_reducible refine wA ?_|clear hK K)
  clear g1 g0 s1 s0 V
  have hl24:l.length<=24:=by
   simp only[aD,ae6,decide_eq_true_eq]at hr
   have:=me (.mk k s l);simp only[Ex.kids]at this;omega
  have hlab:labs.length+(aV l).length<=n:=by rw[dM h1]at hb;exact hb
  refine gu (ι:=Nat) 7 258 3 rfl zs 62 (λi=>[(7,.vec (2*n+5+1+1+1) i),(8,.v (.int .i64 i)),(9,.undef)]) (λi=>some ⟨221,8,false,[pb 0 y (sn labs l i).length n]⟩ ::some ⟨9,1,true,(sn labs l i).map encS⟩ ::some ⟨121,1,true,bu 2 n n⟩ ::(bA n (mI f labs.length l i) n++[some ⟨25,3,false,[[.v (.int .i64 k),.v (.string s),.aB 3 (l.map aN) l.length]]⟩,some ⟨258,3,false,[[.v (.slice none 0 0),.v (.slice none 0 0),.v (.bool false)]]⟩,none,none,some ⟨258,3,false,[[.aB 1 (dK n (λ_=>false)) n,.aB 1 (dK n (λ_=>false)) n,.v (.bool (aS (.mk k s l)))]]⟩,some ⟨258,3,true,oU n labs.length l i⟩])) (λi=>l.length-i) (λi=>i<=l.length) 0 zd ?_ ?_
  ·refine ab ?_ ?_ ?_
   ·simp only[afa,aew,ah,aeq];simp only[go_sem,iV,true_or,or_true,true_and,and_true,false_or,ae6,decide_eq_true_eq,AV.v.injEq,Value.int.injEq];omega
   ·simp only[Vn,Tq,List.cons_append,List.append_assoc];exact iE (by simp only[afa,aew,ah,aeq];omega) (iF (by simp only[bD,aU,AV.wf,bF,agA]) rfl (by simp only[bD,aU,AV.wf,bp,agA]) rfl)
   ·simp only[afa,aew,ah,aeq];omega
  ·intro i hi K hK
   (revert K;revert K;refine pF (qq @nG @tj @nS @tq @ah) ?_;intro K hK K hK K hK)
   refine cn.part (λh=>?_) (λh=>?_)
   ·have W:i<l.length:=by replace h:=cq h;omega
    have eW:=ag (k:=i) zd;have eG:=getD_map aN l i [] W;have HX:=H l[i] (List.getElem_mem W) y (sn labs l i) n (mI f labs.length l i) hn (PN W hlab);rw[TP,yB W, <- PF W,H9]at HX;have hkr:=Iy n labs.length l i;simp only[Mj]at hkr;rw[PF W]at HX hkr;simp only[aA]at HX eG
    ((iterate 3 revert K);refine pF (oT eG @nG @tj @nS @tq @ah) ?_;iterate 5 intro K hK)
    refine ai.Zi HX (λm=>by simp only[aU,AV.wf,bF,agA]) (λm=>by simp only[AV.wf,aU,bp,agA]) ?_
    ((iterate 5 revert K);refine pF (L7 eW @nG @tj @nS @tq @ah @AZ) ?_)
    rw[<-hkr]
    refine aw.mk (i+1) zd zd (ab ?_ ?_ ?_)
    ·simp only[afa,aew,ah,aeq];simp only[go_sem,iV,true_or,or_true,true_and,and_true,false_or,ae6,decide_eq_true_eq,AV.v.injEq,Value.int.injEq];omega
    ·exact iE (by simp only[afa,aew,ah,aeq];omega) (iF (by simp only[bD,aU,AV.wf,bF,agA]) rfl (by simp only[bD,aU,AV.wf,bp,agA]) (GI _ _ _ _ _))
    ·simp only[afa,aew,ah,aeq];omega
   ·have hie:i=l.length:=by replace h:=cq h;omega
    simp only[hie];have hKR:∀j,j<l.length->(oU n labs.length l l.length).getD j []=[.aB 1 (dK n ((λj=>mA (nT l j) (sl labs.length l j)) j)) n,.aB 1 (dK n ((λj=>gK (nT l j) (sl labs.length l j)) j)) n,.v (.bool ((λj=>aS (nT l j)) j))]:=λj hj=>Px hj;obtain⟨F,hF⟩:∃F:GT,F=λj=>mA (nT l j) (sl labs.length l j):=⟨_,rfl⟩;obtain⟨L,hL⟩:∃L:GT,L=λj=>gK (nT l j) (sl labs.length l j):=⟨_,rfl⟩;obtain⟨Em,hEm⟩:∃Em:Nat->Bool,Em=λj=>aS (nT l j):=⟨_,rfl⟩;rw[<-hF, <- hL, <- hEm]at hKR;have u:=AZ n labs.length l l.length;have A:∀m,bD m (oU n labs.length l l.length)=true:=λm=>GI m _ _ _ _;obtain⟨KR,hKe⟩:∃KR,KR=oU n labs.length l l.length:=⟨_,rfl⟩;rw[<-hKe]at hKR u A⊢;obtain⟨fa,hfa⟩:∃fa,fa=mI f labs.length l l.length:=⟨_,rfl⟩;rw[<-hfa];obtain⟨sq,hsq⟩:∃sq,sq=(k==2):=⟨_,rfl⟩
    have O:(k !=2) = !sq:=by rw[hsq];rfl
    have e0:(λ_=>false)=sW sq Em F 0:=by funext q;simp[sW]
    have e0':(λ_=>false)=te sq l.length Em L 0:=by funext q;simp[te]
    have ef0:fa=λp q=>fa p q||my sq l.length Em F L 0 p q:=by funext p q;simp[my]
    ((iterate 3 revert K);refine pF (oT @nG @tj @nS @tq @ah u) ?_;intro K hK)
    refine aO (ι:=Nat) 80 (λi=>[(10,.v (.int .i64 i)),(11,.undef),(12,.undef),(13,.undef),(14,.undef),(15,.undef),(16,.undef)]) (λi=>some ⟨221,8,false,[pb 0 y (sn labs l l.length).length n]⟩ ::some ⟨9,1,true,(sn labs l l.length).map encS⟩ ::some ⟨121,1,true,bu 2 n n⟩ ::(bA n (λp q=>fa p q||my sq l.length Em F L i p q) n++[some ⟨25,3,false,[[.v (.int .i64 k),.v (.string s),.aB 3 (l.map aN) l.length]]⟩,some ⟨258,3,false,[[.v (.slice none 0 0),.v (.slice none 0 0),.v (.bool false)]]⟩,none,none,some ⟨258,3,false,[[.aB 1 (dK n (sW sq Em F i)) n,.aB 1 (dK n (te sq l.length Em L i)) n,.v (.bool (aS (.mk k s l)))]]⟩,some ⟨258,3,true,KR⟩])) (λi=>l.length-i) (λi=>i<=l.length) 0 zd ?_ ?_
    ·simp only[<-e0, <- e0', <- ef0]
     refine ab ?_ ?_ ?_
     ·simp only[afa,aew,ah,aeq];simp only[go_sem,iV,true_or,or_true,true_and,and_true,false_or,ae6,decide_eq_true_eq,AV.v.injEq,Value.int.injEq,Value.bool.injEq];omega
     ·exact iE (by simp only[afa,aew,ah,aeq];omega) (iF (by simp only[bD,aU,AV.wf,bF,agA]) rfl (by simp only[bD,aU,AV.wf,bp,agA]) (A _))
     ·simp only[afa,aew,ah,aeq];omega
    ·intro i hi K hK
     (revert K;revert K;refine pF (oT @nG @tj @nS @tq @ah u) ?_;intro K hK K hK K hK)
     refine cn.part (λh=>?_) (λh=>?_)
     ·have W:i<l.length:=by replace h:=cq h;omega
      have eW:=ag (k:=i) zd;have eKi:=hKR i W
      ((iterate 3 revert K);refine pF (oT @nG @tj @nS @tq @ah u) ?_;iterate 4 intro K hK)
      refine bg (ι:=Nat) 86 (λj=>[(11,.v (.bool (wj sq Em i j))),(13,.v (.int .i64 j))]) (λj=>i-j) (λj=>j<=i) 0 zd ?_ ?_
      ·have e3:wj sq Em i 0=true:=by simp[wj]
       rw[e3]
       refine ab ?_ ?_ ?_
       ·simp only[afa,aew,ah,aeq];simp only[go_sem,iV,true_or,or_true,true_and,and_true,false_or,ae6,decide_eq_true_eq,AV.v.injEq,Value.int.injEq,Value.bool.injEq];omega
       ·exact iE (by simp only[afa,aew,ah,aeq];omega) (iF (by simp only[bD,aU,AV.wf,bF,agA]) rfl (by simp only[bD,aU,AV.wf,bp,agA]) (A _))
       ·simp only[afa,aew,ah,aeq];omega
      ·intro j hj K hK
       ((iterate 5 revert K);refine pF (oT @nG @tj @nS @tq @ah u) ?_;iterate 6 intro K hK)
       refine cn.part (λU=>?_) (λU=>?_)
       ·have hji:j<i:=by replace U:=cq U;omega
        have eV:=ag (k:=j) zd;have eKj:=hKR j zd;have eA:=Lm sq Em i j
        rcases af1 (wj sq Em i j)with ha|ha
        rotate_left 1
        ·rw[ha,afL]at eA
         ((iterate 6 revert K);refine E5 (L7 @nG @tj @nS @tq @ah ha eV) ?_)
         refine aw.mk (j+1) zd zd ?_;rw[eA]
         refine ab ?_ ?_ ?_
         ·simp only[afa,aew,ah,aeq];simp only[go_sem,iV,true_or,or_true,true_and,and_true,false_or,ae6,decide_eq_true_eq,AV.v.injEq,Value.int.injEq,Value.bool.injEq];omega
         ·exact iE (by simp only[afa,aew,ah,aeq];omega) (iF (by simp only[bD,aU,AV.wf,bF,agA]) rfl (by simp only[bD,aU,AV.wf,bp,agA]) (A _))
         ·simp only[afa,aew,ah,aeq];omega
        ·rw[ha,afu]at eA
         rcases af1 sq with hs|hs
         ·rw[hs]at O;rw[show(!sq||Em j)=Em j by rw[hs];rfl]at eA;simp only[Bool.not_true]at O
          repeat(first|(with_reducible first|refine bG.up ?_|refineλ(K:AK)hK=>?_|refine wE ?_|refine wK ?_|refine wF ?_|refine au zs ?_|refine ay zs ?_|(refine hK _ ?_;clear hK K))|simp only[go_sem,nG,tj,nS,tq,ah,aew,ha,O,u,eKj,eV,Go.undef]|with_reducible refine wA ?_|clear hK K)
          refine aw.mk (j+1) zd zd ?_;rw[eA]
          refine ab ?_ ?_ ?_
          ·simp only[afa,aew,ah,aeq];simp only[go_sem,iV,true_or,or_true,true_and,and_true,false_or,ae6,decide_eq_true_eq,AV.v.injEq,Value.int.injEq,Value.bool.injEq];omega
          ·exact iE (by simp only[afa,aew,ah,aeq];omega) (iF (by simp only[bD,aU,AV.wf,bF,agA]) rfl (by simp only[bD,aU,AV.wf,bp,agA]) (A _))
          ·simp only[afa,aew,ah,aeq];omega
         ·rw[hs]at O;rw[show(!sq||Em j)=true by rw[hs];rfl]at eA;simp only[Bool.not_false]at O
          repeat(first|(with_reducible first|refine bG.up ?_|refineλ(K:AK)hK=>?_|refine wE ?_|refine wK ?_|refine wF ?_|refine au zs ?_|refine ay zs ?_|(refine hK _ ?_;clear hK K))|simp only[go_sem,nG,tj,nS,tq,ah,aew,ha,O,u,eKj,eV,Go.undef]|with_reducible refine wA ?_|clear hK K)
          refine aw.mk (j+1) zd zd ?_;rw[eA]
          refine ab ?_ ?_ ?_
          ·simp only[afa,aew,ah,aeq];simp only[go_sem,iV,true_or,or_true,true_and,and_true,false_or,ae6,decide_eq_true_eq,AV.v.injEq,Value.int.injEq,Value.bool.injEq];omega
          ·exact iE (by simp only[afa,aew,ah,aeq];omega) (iF (by simp only[bD,aU,AV.wf,bF,agA]) rfl (by simp only[bD,aU,AV.wf,bp,agA]) (A _))
          ·simp only[afa,aew,ah,aeq];omega
       ·have hje:j=i:=by replace U:=cq U;omega
        simp only[hje]
        ((iterate 6 revert K);refine pF (oT @nG @tj @nS @tq @ah eW) ?_;iterate 4 intro K hK)
        refine bg (ι:=Nat) 106 (λj=>[(12,.v (.bool (wm sq Em i j))),(14,.v (.int .i64 j))]) (λj=>l.length-j) (λj=>i+1<=j∧j<=l.length) (i+1) ⟨zd,zd⟩ ?_ ?_
        ·rw[Ou]
         refine ab ?_ ?_ ?_
         ·simp only[afa,aew,ah,aeq];simp only[go_sem,iV,true_or,or_true,true_and,and_true,false_or,ae6,decide_eq_true_eq,AV.v.injEq,Value.int.injEq,Value.bool.injEq];omega
         ·exact iE (by simp only[afa,aew,ah,aeq];omega) (iF (by simp only[bD,aU,AV.wf,bF,agA]) rfl (by simp only[bD,aU,AV.wf,bp,agA]) (A _))
         ·simp only[afa,aew,ah,aeq];omega
        ·rintro j ⟨hj1,hj2⟩ K hK
         ((iterate 5 revert K);refine pF (oT @nG @tj @nS @tq @ah u) ?_;iterate 6 intro K hK)
         refine cn.part (λU=>?_) (λU=>?_)
         ·have hji:j<l.length:=by replace U:=cq U;omega
          have eV:=ag (k:=j) zd;have eKj:=hKR j zd;have eA:=LD sq Em (i:=i) (k:=j) zd
          rcases af1 (wm sq Em i j)with ha|ha
          rotate_left 1
          ·rw[ha,afL]at eA
           ((iterate 6 revert K);refine E5 (L7 @nG @tj @nS @tq @ah ha eV) ?_)
           refine aw.mk (j+1) zd zd ?_;rw[eA]
           refine ab ?_ ?_ ?_
           ·simp only[afa,aew,ah,aeq];simp only[go_sem,iV,true_or,or_true,true_and,and_true,false_or,ae6,decide_eq_true_eq,AV.v.injEq,Value.int.injEq,Value.bool.injEq];omega
           ·exact iE (by simp only[afa,aew,ah,aeq];omega) (iF (by simp only[bD,aU,AV.wf,bF,agA]) rfl (by simp only[bD,aU,AV.wf,bp,agA]) (A _))
           ·simp only[afa,aew,ah,aeq];omega
          ·rw[ha,afu]at eA
           rcases af1 sq with hs|hs
           ·rw[hs]at O;rw[show(!sq||Em j)=Em j by rw[hs];rfl]at eA;simp only[Bool.not_true]at O
            repeat(first|(with_reducible first|refine bG.up ?_|refineλ(K:AK)hK=>?_|refine wE ?_|refine wK ?_|refine wF ?_|refine au zs ?_|refine ay zs ?_|(refine hK _ ?_;clear hK K))|simp only[go_sem,nG,tj,nS,tq,ah,aew,ha,O,u,eKj,eV,Go.undef]|with_reducible refine wA ?_|clear hK K)
            refine aw.mk (j+1) zd zd ?_;rw[eA]
            refine ab ?_ ?_ ?_
            ·simp only[afa,aew,ah,aeq];simp only[go_sem,iV,true_or,or_true,true_and,and_true,false_or,ae6,decide_eq_true_eq,AV.v.injEq,Value.int.injEq,Value.bool.injEq];omega
            ·exact iE (by simp only[afa,aew,ah,aeq];omega) (iF (by simp only[bD,aU,AV.wf,bF,agA]) rfl (by simp only[bD,aU,AV.wf,bp,agA]) (A _))
            ·simp only[afa,aew,ah,aeq];omega
           ·rw[hs]at O;rw[show(!sq||Em j)=true by rw[hs];rfl]at eA;simp only[Bool.not_false]at O
            repeat(first|(with_reducible first|refine bG.up ?_|refineλ(K:AK)hK=>?_|refine wE ?_|refine wK ?_|refine wF ?_|refine au zs ?_|refine ay zs ?_|(refine hK _ ?_;clear hK K))|simp only[go_sem,nG,tj,nS,tq,ah,aew,ha,O,u,eKj,eV,Go.undef]|with_reducible refine wA ?_|clear hK K)
            refine aw.mk (j+1) zd zd ?_;rw[eA]
            refine ab ?_ ?_ ?_
            ·simp only[afa,aew,ah,aeq];simp only[go_sem,iV,true_or,or_true,true_and,and_true,false_or,ae6,decide_eq_true_eq,AV.v.injEq,Value.int.injEq,Value.bool.injEq];omega
            ·exact iE (by simp only[afa,aew,ah,aeq];omega) (iF (by simp only[bD,aU,AV.wf,bF,agA]) rfl (by simp only[bD,aU,AV.wf,bp,agA]) (A _))
            ·simp only[afa,aew,ah,aeq];omega
         ·have hje2:j=l.length:=by replace U:=cq U;omega
          simp only[hje2];have C1:=ya n (sW sq Em F i) (F i) hn;have C2:=ya n (te sq l.length Em L i) (L i) hn
          have eF1:sW sq Em F (i+1)=λq=>sW sq Em F i q||(wj sq Em i i&&F i q):=by funext q;exact LW sq Em F i q
          have eL1:te sq l.length Em L (i+1)=λq=>te sq l.length Em L i q||(wm sq Em i l.length&&L i q):=by funext q;exact Mo sq l.length Em L i q
          have eg0:(λp q=>(fa p q||my sq l.length Em F L i p q)||pL sq Em F L i (i+1) p q)=λp q=>fa p q||my sq l.length Em F L i p q:=by funext p q;rw[PY,Bool.or_false]
          have eX:∀j,i<j->j<=l.length->(j=l.length∨rC sq Em i j=false)->(λp q=>(fa p q||my sq l.length Em F L i p q)||pL sq Em F L i j p q)=λp q=>fa p q||my sq l.length Em F L (i+1) p q:=λj h1 h2 h3=>by
           funext p q
           rw[L0, <- ahr]
           rcases h3 with e|e
           ·rw[e]
           ·rw[TS sq Em F L h1 e h2]
          have hbs:(k==2)=rC sq Em i (i+1):=by rw[Ox];exact hsq.symm
          rcases af1 (wj sq Em i i)with hA|hA<;>rcases af1 (wm sq Em i l.length)with hB|hB
          all_goals
           simp only[hA,hB,afu,afL,Bool.or_false]at eF1 eL1
           repeat(first|(with_reducible first|refine bG.up ?_|refineλ(K:AK)hK=>?_|refine wE ?_|refine wK ?_|refine wF ?_|refine au zs ?_|refine ay zs ?_|(refine hK _ ?_;clear hK K))|simp only[go_sem,nG,tj,nS,tq,ah,aew,hA,hB,u,eKi]|with_reducible refine wA ?_|clear hK K)
           (try((first|(refine b8.one C1 ?_)|(refine b8.one C2 ?_));repeat(first|(with_reducible first|refine bG.up ?_|refineλ(K:AK)hK=>?_|refine wE ?_|refine wK ?_|refine wF ?_|refine au zs ?_|refine ay zs ?_|(refine hK _ ?_;clear hK K))|simp only[go_sem,nG,tj,nS,tq,ah,aew,hA,hB,u,eKi,eW]|with_reducible refine wA ?_|clear hK K)))
           (try((refine b8.one C2 ?_);repeat(first|(with_reducible first|refine bG.up ?_|refineλ(K:AK)hK=>?_|refine wE ?_|refine wK ?_|refine wF ?_|refine au zs ?_|refine ay zs ?_|(refine hK _ ?_;clear hK K))|simp only[go_sem,nG,tj,nS,tq,ah,aew,hA,hB,u,eKi,eW]|with_reducible refine wA ?_|clear hK K)))
           refine aO (ι:=Nat) 150 (λj=>[(15,.v (.bool (rC sq Em i j))),(16,.v (.int .i64 j))]) (λj=>some ⟨221,8,false,[pb 0 y (sn labs l l.length).length n]⟩ ::some ⟨9,1,true,(sn labs l l.length).map encS⟩ ::some ⟨121,1,true,bu 2 n n⟩ ::(bA n (λp q=>(fa p q||my sq l.length Em F L i p q)||pL sq Em F L i j p q) n++[some ⟨25,3,false,[[.v (.int .i64 k),.v (.string s),.aB 3 (l.map aN) l.length]]⟩,some ⟨258,3,false,[[.v (.slice none 0 0),.v (.slice none 0 0),.v (.bool false)]]⟩,none,none,some ⟨258,3,false,[[.aB 1 (dK n (sW sq Em F (i+1))) n,.aB 1 (dK n (te sq l.length Em L (i+1))) n,.v (.bool (aS (.mk k s l)))]]⟩,some ⟨258,3,true,KR⟩])) (λj=>l.length-j) (λj=>i+1<=j∧j<=l.length) (i+1) ⟨zd,zd⟩ ?_ ?_
           ·rw[eg0,eF1,eL1, <- hbs]
            refine ab ?_ ?_ ?_
            ·simp only[afa,aew,ah,aeq];simp only[go_sem,iV,true_or,or_true,true_and,and_true,false_or,ae6,decide_eq_true_eq,AV.v.injEq,Value.int.injEq,Value.bool.injEq];omega
            ·exact iE (by simp only[afa,aew,ah,aeq];omega) (iF (by simp only[bD,aU,AV.wf,bF,agA]) rfl (by simp only[bD,aU,AV.wf,bp,agA]) (A _))
            ·simp only[afa,aew,ah,aeq];omega
           ·rintro j ⟨hj1,hj2⟩ K hK
            rcases af1 (decide ((j:Int)<(l.length:Int)))with U|U
            ·have hji:j<l.length:=by replace U:=cq U;omega
             rcases af1 (rC sq Em i j)with Y|Y
             ·have eV:=ag (k:=j) zd;have eKj:=hKR j hji;have eBt:=As sq Em (i:=i) (k:=j) zd;rw[Y,afu]at eBt
              have eg:(λp q=>((fa p q||my sq l.length Em F L i p q)||pL sq Em F L i j p q)||(L i p&&F j q))=λp q=>(fa p q||my sq l.length Em F L i p q)||pL sq Em F L i (j+1) p q:=by
               funext p q;rw[A5 sq Em F L zd,Y,afu,ahr _ (pL sq Em F L i j p q)]
              have LK:=FC y (sn labs l l.length) n hn (λp q=>(fa p q||my sq l.length Em F L i p q)||pL sq Em F L i j p q) (L i) (F j);rw[eg]at LK
              repeat((fail_if_success (with_reducible refine mn (i:=34) ?_));first|(with_reducible first|refine bG.up ?_|refineλ(K:AK)hK=>?_|refine wK ?_|refine wF ?_|refine au zs ?_|refine ay zs ?_|(refine hK _ ?_;clear hK K))|simp only[go_sem,nG,tj,nS,tq,ah,aew,U,Y,u,Go.undef]|with_reducible refine wA ?_|clear hK K)
              refine bE [11] [] za zo ?_
              repeat(first|(with_reducible first|refine bG.up ?_|refineλ(K:AK)hK=>?_|refine wK ?_|refine wF ?_|refine au zs ?_|refine ay zs ?_|(refine hK _ ?_;clear hK K))|simp only[go_sem,nG,tj,nS,tq,ah,aew,U,Y,u,eKi,eKj,Go.undef]|with_reducible refine wA ?_|clear hK K)
              refine dQ.Zi LK (λm=>by simp only[aU,AV.wf,bp,agA]) (λm=>rfl) ?_
              repeat(first|(with_reducible first|refine bG.up ?_|refineλ(K:AK)hK=>?_|refine wE ?_|refine wK ?_|refine wF ?_|refine au zs ?_|refine ay zs ?_|(refine hK _ ?_;clear hK K))|simp only[go_sem,nG,tj,nS,tq,ah,aew,u,eKj,eV,Go.undef]|with_reducible refine wA ?_|clear hK K)
              rw[<-eBt];refine aw.mk (j+1) ⟨zd,zd⟩ zd ?_
              refine ab ?_ ?_ ?_
              ·simp only[afa,aew,ah,aeq];simp only[go_sem,iV,true_or,or_true,true_and,and_true,false_or,ae6,decide_eq_true_eq,AV.v.injEq,Value.int.injEq,Value.bool.injEq];omega
              ·exact iE (by simp only[afa,aew,ah,aeq];omega) (iF (by simp only[bD,aU,AV.wf,bF,agA]) rfl (by simp only[bD,aU,AV.wf,bp,agA]) (A _))
              ·simp only[afa,aew,ah,aeq];omega
             ·repeat(first|(with_reducible first|refine bG.up ?_|refineλ(K:AK)hK=>?_|refine wE ?_|refine wK ?_|refine wF ?_|refine au zs ?_|refine ay zs ?_|(refine hK _ ?_;clear hK K))|simp only[go_sem,nG,tj,nS,tq,ah,aew,U,Y,u,Go.undef,eW]|with_reducible refine wA ?_|clear hK K)
              rw[eX j zd hj2 (.inr Y)];refine aw.mk (i+1) zd zd ?_
              refine ab ?_ ?_ ?_
              ·simp only[afa,aew,ah,aeq];simp only[go_sem,iV,true_or,or_true,true_and,and_true,false_or,ae6,decide_eq_true_eq,AV.v.injEq,Value.int.injEq,Value.bool.injEq];omega
              ·exact iE (by simp only[afa,aew,ah,aeq];omega) (iF (by simp only[bD,aU,AV.wf,bF,agA]) rfl (by simp only[bD,aU,AV.wf,bp,agA]) (A _))
              ·simp only[afa,aew,ah,aeq];omega
            ·repeat(first|(with_reducible first|refine bG.up ?_|refineλ(K:AK)hK=>?_|refine wE ?_|refine wK ?_|refine wF ?_|refine au zs ?_|refine ay zs ?_|(refine hK _ ?_;clear hK K))|simp only[go_sem,nG,tj,nS,tq,ah,aew,U,u,Go.undef,eW]|with_reducible refine wA ?_|clear hK K)
             rw[eX j zd hj2 (.inl (by replace U:=cq U;omega))];refine aw.mk (i+1) zd zd ?_
             refine ab ?_ ?_ ?_
             ·simp only[afa,aew,ah,aeq];simp only[go_sem,iV,true_or,or_true,true_and,and_true,false_or,ae6,decide_eq_true_eq,AV.v.injEq,Value.int.injEq,Value.bool.injEq];omega
             ·exact iE (by simp only[afa,aew,ah,aeq];omega) (iF (by simp only[bD,aU,AV.wf,bF,agA]) rfl (by simp only[bD,aU,AV.wf,bp,agA]) (A _))
             ·simp only[afa,aew,ah,aeq];omega
     ·have hie2:i=l.length:=by replace h:=cq h;omega
      simp only[hie2]
      have hFI:sW sq Em F l.length=mA (.mk k s l) labs.length:=by rw[hsq,hEm,hF];exact Ty h1
      have hLI:te sq l.length Em L l.length=gK (.mk k s l) labs.length:=by rw[hsq,hEm,hL];exact TU h1
      rw[hFI,hLI];have elb:sn labs l l.length=labs++aH (.mk k s l):=TO h1
      have e3:labs.length+(aH (.mk k s l)).length=(sn labs l l.length).length:=by rw[elb,aew]
      by_cases h45:k=4∨k=5
      ·have hM:(λp q=>(fa p q||my sq l.length Em F L l.length p q)||(gK (.mk k s l) labs.length p&&mA (.mk k s l) labs.length q))=λp q=>f p q||mz (.mk k s l) labs.length p q:=by
        rw[hfa,hsq,hEm,hF,hL];exact O8 h45
       have LK:=FC y (sn labs l l.length) n hn (λp q=>fa p q||my sq l.length Em F L l.length p q) (gK (.mk k s l) labs.length) (mA (.mk k s l) labs.length);rw[hM]at LK
       rcases h45 with h4|h5
       ·have c4:(k==4)=true:=by rw[h4];rfl
        ((iterate 3 revert K);refine E5 (oT @nG @tj @nS @tq @ah c4) ?_;intro K hK K hK)
        refine ai.Zi LK (λm=>by simp only[aU,AV.wf,bp,agA]) (λm=>rfl) ?_
        (revert K;revert K;refine pF (qq @nG @tj @nS @tq @ah) ?_)
        rw[e3, <- elb];exact JR zd (λm=>by simp only[AV.wf,aU,bp,agA])
       ·have c4:(k==4)=false:=by rw[h5];rfl
        have c5:(k==5)=true:=by rw[h5];rfl
        ((iterate 3 revert K);refine E5 (L7 @nG @tj @nS @tq @ah c4 c5) ?_;intro K hK K hK)
        refine ai.Zi LK (λm=>by simp only[aU,AV.wf,bp,agA]) (λm=>rfl) ?_
        (revert K;revert K;refine pF (qq @nG @tj @nS @tq @ah) ?_)
        rw[e3, <- elb];exact JR zd (λm=>by simp only[AV.wf,aU,bp,agA])
      ·have c4:(k==4)=false:=beq_false_of_ne (λe=>h45 (.inl e));have c5:(k==5)=false:=beq_false_of_ne (λe=>h45 (.inr e))
       have hM:(λp q=>fa p q||my sq l.length Em F L l.length p q)=λp q=>f p q||mz (.mk k s l) labs.length p q:=by
        rw[hfa,hsq,hEm,hF,hL];exact Tv h1 (λe=>h45 (.inl e)) (λe=>h45 (.inr e))
       rw[hM]
       ((iterate 3 revert K);refine E5 (L7 @nG @tj @nS @tq @ah c4 c5) ?_)
       rw[e3, <- elb];exact JR zd (λm=>by simp only[AV.wf,aU,bp,agA])
end Go.Proofs.YtlhhccmopfamhaaGreatDoor
