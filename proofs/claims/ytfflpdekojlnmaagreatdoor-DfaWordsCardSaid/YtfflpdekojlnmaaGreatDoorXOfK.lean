/- texts of one claim, one behind the other. -/
import Derived.Test.YtfflpdekojlnmaaGreatDoorXOpenX
import Derived.Test.YtfflpdekojlnmaaGreatDoorXAbsV
import Derived.Test.YtfflpdekojlnmaaGreatDoorXLens
import Derived.Test.YtfflpdekojlnmaaGreatDoorXDfaK
import Derived.Test.YtfflpdekojlnmaaGreatDoorXLaw07
import Derived.Test.YtfflpdekojlnmaaGreatDoorXWays
import Derived.Test.YtfflpdekojlnmaaGreatDoorXLang
import Derived.Test.YtfflpdekojlnmaaGreatDoorXDfaD
set_option linter.unusedSimpArgs false
set_option linter.unusedVariables false
set_option maxRecDepth 100000
set_option maxHeartbeats 16000000
open List renaming getElem?_cons_succ -> VB, mem_cons -> Vt, getD_eq_getElem?_getD -> U3, getElem?_eq_getElem -> Uq, range_succ -> Wu, all_append -> WX, all_eq_true -> Vj, mem_range -> Vk, any_append -> WY, any_eq_true -> WZ, getElem?_set_ne -> Ux, getElem?_append_right -> UF, set_append_right -> Wq, length_append -> Ug, length_cons -> Uh, length_nil -> Ub
open Nat renaming le_refl -> T7, lt_or_ge -> Ue, le_trans -> T8, add_sub_cancel_left -> W4
open Bool renaming and_eq_true -> UW, or_eq_true -> Vl, or_assoc -> W5, and_self -> Wc, eq_iff_iff -> Wm, false_eq_true -> Vu, true_and -> Vq, eq_false_or_eq_true -> VT, false_and -> WV
namespace Go.Proofs.YtfflpdekojlnmaaGreatDoor
open Go.RowKit
theorem Ia (x:Ex) (hr:ay x=true):ar Tryz.prog 101 [.agg (aS x)] (.v (.int .i64 (aB x).length)):=by
 induction x using Ex.ind with
 | h k s l ih=>
  by_cases h1:k=1
  ·subst h1;rw [aB,if_pos rfl];simp only [aD,Ex.kind,Ex.label,Ex.kids];refine gE Tryz.func101 Tryz.ntmps101 Tryz.results101 ?_;refine au ?_
   rfl
  ·have f1:(k==1)=false:=beq_false_of_ne h1;have hx:=qb hr;have hk:=ld hr
   have hl:l.length<=24:=by
    simp only [ay,Bool.and_eq_true,decide_eq_true_eq] at hr
    have:=kQ (.mk k s l);simp only [Ex.kids] at this;omega
   rw [cK h1] at hx ⊢;simp only [aD,Ex.kind,Ex.label,Ex.kids];refine gE Tryz.func101 Tryz.ntmps101 Tryz.results101 ?_
   (refine aK f1 ?_;intro K hK)
   refine cD (ι:=Nat) (fun i=>[(1, .ptr 0 0 3 0 0),(3, .v (.int .i64 (aJ (l.take i)).length)),(4, .v (.int .i64 i))]) (fun i=>[some ⟨25,3,false,[[.v (.int .i64 k), .v (.string s), .aC 3 (l.map aS) l.length]]⟩]) (fun i=>l.length - i) (fun i=>i<=l.length) 0 (by omega) ?_ ?_
   ·refine bp ?_ aj;exact ⟨rfl,rfl⟩
   ·intro i hi K hK;simp only [gz,List.foldl_cons,List.foldl_nil,List.replicate_succ,List.replicate_zero,go_sem]
    (revert K;revert K;refine au ?_;intro K hK K hK K hK)
    refine bC.part (fun h=> ?_) (fun h=> ?_)
    ·have hlt:i<l.length:=by replace h:=bJ h;omega
     have eW:=ak (k:=i) (by omega);have eG:=getD_map aS l i [] hlt;have HX:=ih l[i] (List.getElem_mem hlt) (hk _ (List.getElem_mem hlt))
     have hS:(aJ (l.take (i+1))).length=(aJ (l.take i)).length+(aB l[i]).length:=by
      rw [List.take_succ_eq_append_getElem hlt,gD,List.length_append];simp [aJ]
     have hB:(aJ l).length=(aJ (l.take (i+1))).length+(aJ (l.drop (i+1))).length:=by rw [<-List.length_append, <- gD,List.take_append_drop]
     have eS:IntKind.i64.wrap (((aJ (l.take i)).length:Int)+((aB l[i]).length:Int))=((aJ (l.take (i+1))).length:Int):=by rw [dr (by omega) (by omega),hS];omega
     simp only [aD] at HX eG
     repeat (first|(with_reducible first|refine aA.up ?_|refine fun (K:AK) hK=> ?_|(refine hK _ ?_;clear hK K))|simp only [go_sem,eG]|with_reducible refine wA ?_|clear hK K)
     refine ab.one HX ?_
     ((iterate 4 revert K);refine aK eS ?_)
     exact az.mk (i+1) (by omega) (by omega) (by refine bp ?_ aj;exact eW)
    ·have e1:l.take i=l:=List.take_of_length_le (by replace h:=bJ h;omega);simp only [e1]
     ((iterate 3 revert K);exact yZ)
def lD (a b:Nat->Bool) (i q:Nat):Bool:=decide (q<i)&&(a q||b q)
theorem uW (a b:Nat->Bool) (i:Nat):(fun q=>if q=i then (a i||b i) else lD a b i q)=lD a b (i+1):=by
 funext q
 rw [lD,lD]
 split
 ·rename_i h;subst h;simp
 ·rename_i h
  congr 1;rw [decide_eq_decide];omega
theorem sg (N:Nat) (a b:Nat->Bool) (hn:N<=1000):ar Tryz.prog 103 [.aC 1 (cI N a) N, .aC 1 (cI N b) N] (.aC 1 (cI N (fun q=>a q||b q)) N):=by
 refine gE Tryz.func103 Tryz.ntmps103 Tryz.results103 ?_
 have e0:List.replicate N [AV.v (.bool false)]=cI N (lD a b 0):=by rw [jg];exact lg fun q _=>by simp [lD]
 repeat (first|(with_reducible first|refine aA.up ?_|refine fun (K:AK) hK=> ?_|(refine hK _ ?_;clear hK K))|simp only [go_sem,e0]|with_reducible refine wA ?_|clear hK K)
 refine aT (ι:=Nat) 10 (fun i=>[(6, .v (.int .i64 i))]) (fun i=>[some ⟨4,1,true,cI N (lD a b i)⟩]) (fun i=>N - i) (fun i=>i<=N) 0 (by omega) ?_ ?_
 ·refine bp ?_ aj
  rfl
 ·intro i hi K hK
  (revert K;revert K;refine au ?_;intro K hK K hK K hK)
  refine bC.part (fun h=> ?_) (fun h=> ?_)
  ·have hlt:i<N:=by replace h:=ot h;omega
   have eW:=ak (k:=i) (by omega);have eA:=cN (g:=a) hlt;have eB:=cN (g:=b) hlt;have eR:=cN (g:=lD a b i) hlt;have eS:=fun v=>pj (N:=N) (j:=i) (g:=lD a b i) (v:=v);have eU:=uW a b i;cases ha:a i
   all_goals
    simp only [ha,Bool.false_or,Bool.true_or] at eU
    repeat (first|(with_reducible first|refine aA.up ?_|refine fun (K:AK) hK=> ?_|(refine hK _ ?_;clear hK K))|simp only [go_sem,eW,eA,eB,ha,eR,eS,eU,Go.undef]|with_reducible refine wA ?_|clear hK K)
    exact az.mk (i+1) (by omega) (by omega) (by exact aO aj)
  ·have e1:i=N:=by replace h:=ot h;omega
   have eE:cI N (lD a b N)=cI N (fun q=>a q||b q):=lg fun q hq=>by simp [lD,hq]
   simp only [e1]
   ((iterate 3 revert K);refine au ?_)
   rw [eE]
   (refine jB.of 40 rfl ?_;simp only [go_sem])
def iX (N:Nat) (g:Nat->Bool):List Nat:=((List.range N).filter g).map (· + 1)
theorem Fp (N:Nat) (g:Nat->Bool):iX (N+1) g=iX N g++(if g N then [N+1] else []):=by
 rw [iX,List.range_succ,List.filter_append,List.map_append, <- iX]
 congr 1
 cases h:g N<;>simp [h]
theorem I4 (N:Nat) (g:Nat->Bool):(iX N g).length<=N:=by
 rw [iX,List.length_map];exact Nat.le_trans (List.length_filter_le _ _) (by simp)
theorem tS {N:Nat} {g:Nat->Bool} {p:Nat}:p∈iX N g↔1<=p∧p<=N∧g (p - 1)=true:=by
 rw [iX,List.mem_map]
 constructor
 ·rintro ⟨q,hq,rfl⟩;rw [List.mem_filter,List.mem_range] at hq;exact ⟨by omega,by omega,by simpa using hq.2⟩
 ·rintro ⟨h1,h2,h3⟩;exact ⟨p - 1,List.mem_filter.2 ⟨List.mem_range.2 (by omega),h3⟩,by omega⟩
theorem vR (N:Nat) (g:Nat->Bool):(iX N g).Pairwise (· < ·):=by
 rw [iX,List.pairwise_map];exact (List.pairwise_lt_range.filter _).imp (fun h=>by omega)
theorem LD (N:Nat) (g:Nat->Bool) (hn:N<=1000):ar Tryz.prog 104 [.aC 1 (cI N g) N] (.aC 1 (aI (iX N g)) (iX N g).length):=by
 refine gE Tryz.func104 Tryz.ntmps104 Tryz.results104 ?_
 (refine au ?_;intro K hK)
 refine mH (ι:=Nat) 3 3 1 rfl (by omega) 5 (fun i=>[(3, .vec 0 (iX i g).length),(4, .v (.int .i64 i))]) (fun i=>[some ⟨3,1,true,aI (iX i g)⟩]) (fun i=>N - i) (fun i=>i<=N) 0 (by omega) ?_ ?_
 ·refine iG ?_ ?_ aj
  ·exact ⟨rfl,rfl⟩
  ·rfl
 ·intro i hi K hK
  have eLn:(aI (iX i g)).length=(iX i g).length:=by simp [aI]
  have hsl:=I4 i g
  (revert K;revert K;refine au ?_;intro K hK K hK K hK)
  refine bC.part (fun h=> ?_) (fun h=> ?_)
  ·have hlt:i<N:=by replace h:=ot h;omega
   have eW:=ak (k:=i) (by omega);have eA:=cN (g:=g) hlt;have eS:=Fp i g
   cases hg:g i
   ·simp only [hg,Bool.false_eq_true,if_false,List.append_nil] at eS
    repeat (first|(with_reducible first|refine aA.up ?_|refine fun (K:AK) hK=> ?_|(refine hK _ ?_;clear hK K))|simp only [go_sem,eW,eA,hg]|with_reducible refine wA ?_|clear hK K)
    refine az.mk (i+1) (by omega) (by omega) ?_;rw [eS];exact aO aj
   ·simp only [hg,if_true] at eS
    repeat (first|(with_reducible first|refine aA.up ?_|refine fun (K:AK) hK=> ?_|(refine hK _ ?_;clear hK K))|simp only [go_sem,eW,eA,hg,eLn]|with_reducible refine wA ?_|clear hK K)
    refine az.mk (i+1) (by omega) (by omega) ?_;rw [eS];refine qI ?_ aj;simp [aI]
  ·have e1:i=N:=by replace h:=ot h;omega
   simp only [e1]
   ((iterate 3 revert K);refine au ?_)
   exact jB.vec (ob:=⟨3,1,true,aI (iX N g)⟩) rfl rfl (by simp [aI]) (bz _ (fun _=>rfl) _)
def lH (k:Nat) (x:Ex) (nl n:Nat):List AV:=[.vec (k+1) nl, .v (.slice none 0 0), .v (.slice none 0 0), .vec (k+2) n, .v (.bool (dj x)), .v (.int .i64 x.kind), .v (.string x.label), .aC 3 (x.kids.map aS) x.kids.length]
def cv (k:Nat) (x:Ex) (labs:List ByteArray) (n:Nat) (f:Nat->Nat->Bool):List (Option aa):=
 some ⟨120,8,false,[lH k x labs.length n]⟩ :: some ⟨9,1,true,labs.map encS⟩ :: bN (k+2) n n f
theorem EU {N m i:Nat} {f:Nat->Nat->Bool} {b c x:Option aa} (h:i<m):(b :: c :: x :: aV N f m)[jR 2 i]? = some (js N (f i)):=by
 rw [show jR 2 i=jR 0 i+1+1 by unfold jR;omega,VB,VB];exact kg (k:=0) h
theorem EW {N m i j:Nat} {f:Nat->Nat->Bool} {v:Bool} {b c x:Option aa} (h:i<m):(b :: c :: x :: aV N f m).set (jR 2 i) (some ⟨4,1,true,(cI N (f i)).set j [.v (.bool v)]⟩)=b :: c :: x :: aV N (lh f i j v) m:=by
 rw [show jR 2 i=jR 0 i+1+1 by unfold jR;omega,List.set_cons_succ,List.set_cons_succ,mf h]
theorem bO (k:Nat) (x:Ex) (labs:List ByteArray) (n:Nat) (f:Nat->Nat->Bool):(cv k x labs n f).length=2 * n+3:=by
 rw [cv,List.length_cons,List.length_cons,fY]
theorem L5 {k n nl m:Nat} {x:Ex} (h:k+3<=m):aX m (lH k x nl n)=true:=by
 have h1:k+1<m:=by omega
 have h2:k+2<m:=by omega
 simp [lH,aX,AV.wf,bf,h1,h2]
theorem jb {m:Nat} {x:Ex} {labs:List ByteArray} {n:Nat} {f:Nat->Nat->Bool} (h:2 * n+3<=m): ∀ob,some ob∈cv 0 x labs n f->bw m ob.rows=true:=fun ob hb=>by
 rw [cv,Vt,Vt] at hb
 rcases hb with e|e|hb
 ·cases e;simp only [bw,L5 (show 0+3<=m by omega),Bool.and_self]
 ·cases e;exact bm _ _
 ·rw [bN,Vt] at hb
  rcases hb with e|hb
  ·cases e;exact jv (by omega)
  ·exact mB _ _ _ _ _ hb
theorem QA {m:Nat} {x:Ex} {labs:List ByteArray} {n:Nat} {f:Nat->Nat->Bool} (h:2 * n+3<=m):kE m (cv 0 x labs n f) (cv 0 x labs n f):=by
 have:=ll (n:=m) (a:=[]) (b:=[]) (l:=cv 0 x labs n f) (jb h) trivial
 simpa using this
def iR (f:Nat->Nat->Bool) (la fi:Nat->Bool) (i j p q:Nat):Bool:=f p q||(decide (p<i∨(p=i∧q<j))&&(la p&&fi q))
theorem Nv (f:Nat->Nat->Bool) (la fi:Nat->Bool):f=iR f la fi 0 0:=by funext p q;simp [iR]
theorem EP {f:Nat->Nat->Bool} {la fi:Nat->Bool} {i j:Nat}:(if la i&&fi j then lh (iR f la fi i j) i j true else iR f la fi i j)=iR f la fi i (j+1):=by
 funext p q
 split
 ·rename_i h;rw [lh]
  split
  ·rename_i e;obtain ⟨rfl,rfl⟩:=e;simp [iR,h]
  ·rename_i e;rw [iR,iR];congr 2;rw [decide_eq_decide];omega
 ·rename_i h;rw [iR,iR]
  by_cases e:p=i∧q=j
  ·obtain ⟨rfl,rfl⟩:=e
   have h':(la p&&fi q)=false:=by simpa using h
   rw [h'];simp
  ·congr 2;rw [decide_eq_decide];omega
theorem EO {f:Nat->Nat->Bool} {la fi:Nat->Bool} {N i:Nat}:aV N (iR f la fi i N) N=aV N (iR f la fi (i+1) 0) N:=ez fun p q hp hq=>by
 rw [iR,iR];congr 2;rw [decide_eq_decide];omega
theorem v7 {t t':List AV} {y:jk} {x:Ex} {labs:List ByteArray} {n:Nat} {f f0:Nat->Nat->Bool} (h:dt (2 * n+3) t t'):Wk (cv 0 x labs n f0).length ⟨t,cv 0 x labs n f,y⟩ ⟨t',cv 0 x labs n f,y⟩:=
 aj (by rw [bO];exact h) (by rw [bO];exact QA (T7 _)) (by rw [bO,bO];exact T7 _)
theorem zp (x:Ex) (labs:List ByteArray) (n:Nat) (hn:n<=1000) (f:Nat->Nat->Bool) (la fi:Nat->Bool) :
  dN Tryz.prog 134 [.ptr 0 0 8 0 0, .aC 1 (cI n la) n, .aC 1 (cI n fi) n] (cv 0 x labs n f) (.cL []) (cv 0 x labs n (fun p q=>f p q||(la p&&fi q))):=by
 have hd:decide (0<2 * n+3)=true:=decide_eq_true (by omega);refine gF Tryz.func134 Tryz.ntmps134 Tryz.results134 ?_;refine au ?_
 refine aT (ι:=Nat) 8 (fun i=>[(6, .v (.int .i64 i)),(7, .undef)]) (fun i=>cv 0 x labs n (iR f la fi i 0)) (fun i=>n - i) (fun i=>i<=n) 0 (by omega) ?_ ?_
 ·rw [<-Nv];refine v7 ?_;simp only [go_sem,dt,true_or,or_true,true_and,and_true,hd];exact .inr rfl
 ·intro i hi K hK
  (revert K;refine au ?_;intro K hK K hK)
  refine bC.part (fun h=> ?_) (fun h=> ?_)
  ·have hlt:i<n:=by replace h:=ot h;omega
   have eW:=ak (k:=i) (by omega);have eO:=jo (k:=2) (N:=n) hlt;have eA:=cN (g:=la) hlt
   (revert K;revert K;refine au ?_;intro K hK K hK)
   refine aT (ι:=Nat) 14 (fun j=>[(7, .v (.int .i64 j))]) (fun j=>cv 0 x labs n (iR f la fi i j)) (fun j=>n - j) (fun j=>j<=n) 0 (by omega) ?_ ?_
   ·refine v7 ?_;simp only [go_sem,dt,true_or,or_true,true_and,and_true,hd];exact .inr rfl
   ·intro j hj K hK
    ((iterate 3 revert K);refine au ?_;iterate 4 intro K hK)
    refine bC.part (fun h=> ?_) (fun h=> ?_)
    ·have hjt:j<n:=by replace h:=ot h;omega
     have eV:=ak (k:=j) (by omega);have eB:=cN (g:=fi) hjt;have eU:=EP (f:=f) (la:=la) (fi:=fi) (i:=i) (j:=j)
     rcases Bool.eq_false_or_eq_true (la i&&fi j) with hq|hq
     ·rw [hq] at eU;simp only [if_true] at eU;obtain ⟨h1,h2⟩:=Bool.and_eq_true_iff.1 hq;have hO: ∀b c y,(b :: c :: y :: aV n (iR f la fi i j) n)[jR 2 i]? = _:=fun b c y=>EU (b:=b) (c:=c) (x:=y) hlt;have eR:=cN (g:=iR f la fi i j i) hjt;have eS:=fun b c y v=>EW (N:=n) (j:=j) (f:=iR f la fi i j) (v:=v) (b:=b) (c:=c) (x:=y) hlt;simp only [cv,bN,lH,Nat.zero_add]
      repeat (first|(with_reducible first|refine aA.up ?_|refine fun (K:AK) hK=> ?_|(refine hK _ ?_;clear hK K))|simp only [go_sem,eV,eA,eB,h1,h2,eO,hO,js,eR,eS,eU,Go.undef]|with_reducible refine wA ?_|clear hK K)
      refine az.mk (j+1) (by omega) (by omega) (v7 ?_);simp only [go_sem,dt,true_or,or_true,true_and,and_true,hd,aU,AV.wf]
     ·rw [hq] at eU;simp only [Bool.false_eq_true,if_false] at eU
      cases h1:la i
      ·repeat (first|(with_reducible first|refine aA.up ?_|refine fun (K:AK) hK=> ?_|(refine hK _ ?_;clear hK K))|simp only [go_sem,eV,eA,eB,h1,Go.undef]|with_reducible refine wA ?_|clear hK K)
       rw [eU];refine az.mk (j+1) (by omega) (by omega) (v7 ?_);simp only [go_sem,dt,true_or,or_true,true_and,and_true,hd,aU,AV.wf]
      ·rw [h1,Bool.true_and] at hq
       repeat (first|(with_reducible first|refine aA.up ?_|refine fun (K:AK) hK=> ?_|(refine hK _ ?_;clear hK K))|simp only [go_sem,eV,eA,eB,h1,hq,Go.undef]|with_reducible refine wA ?_|clear hK K)
       rw [eU];refine az.mk (j+1) (by omega) (by omega) (v7 ?_);simp only [go_sem,dt,true_or,or_true,true_and,and_true,hd,aU,AV.wf]
    ·have e1:j=n:=by replace h:=ot h;omega
     have eN:cv 0 x labs n (iR f la fi i n)=cv 0 x labs n (iR f la fi (i+1) 0):=by rw [cv,cv,bN,bN,EO]
     simp only [e1];rw [eN]
     ((iterate 4 revert K);refine aK eW ?_)
     refine az.mk (i+1) (by omega) (by omega) (v7 ?_);simp only [go_sem,dt,true_or,or_true,true_and,and_true,hd,aU,AV.wf]
  ·have e1:i=n:=by replace h:=ot h;omega
   have eN:cv 0 x labs n (iR f la fi n 0)=cv 0 x labs n (fun p q=>f p q||(la p&&fi q)):=by
    rw [cv,cv,bN,bN,ez (g:=iR f la fi n 0) (h:=fun p q=>f p q||(la p&&fi q)) (fun p q hp _=>by simp [iR,hp])]
   simp only [e1];rw [eN]
   (revert K;revert K;refine au ?_)
   refine ⟨⟨.inr ⟨rfl,rfl⟩,trivial⟩,QA (by rw [bO];exact T7 _),by rw [bO,bO];exact T7 _⟩
section
def kP (l:List Ex) (i:Nat):Ex:=l.getD i (.mk 0 ⟨#[]⟩ [])
theorem Hs {l:List Ex} {i:Nat} (h:i<l.length):kP l i=l[i]:=by rw [kP,U3,Uq h];rfl
theorem cU (x:Ex) (l:List Ex):kP (x :: l) 0=x:=rfl
theorem cp (x:Ex) (l:List Ex) (i:Nat):kP (x :: l) (i+1)=kP l i:=rfl
def oq (b:Nat) (l:List Ex) (i:Nat):Nat:=b+(aJ (l.take i)).length
theorem cR (b:Nat) (l:List Ex):oq b l 0=b:=by simp [oq,aJ]
theorem cm (b:Nat) (x:Ex) (l:List Ex) (i:Nat):oq b (x :: l) (i+1)=oq (b+(aB x).length) l i:=by
 simp only [oq,List.take_succ_cons,aJ,List.length_append];omega
theorem Ce: ∀ {l:List Ex} {b p:Nat},fN l b p ↔ ∃i,i<l.length∧jN (kP l i) (oq b l i) p
 | [],b,p=>by simp [fN]
 | x :: l,b,p=>by
  rw [fN,Ce (l:=l)]
  constructor
  ·rintro (h|⟨i,h1,h2⟩)
   ·exact ⟨0,by simp,by rw [cU,cR];exact h⟩
   ·exact ⟨i+1,by simp;omega,by rw [cp,cm];exact h2⟩
  ·rintro ⟨i,h1,h2⟩
   cases i with
   | zero=>left;rw [cU,cR] at h2;exact h2
   | succ i=>right;rw [cp,cm] at h2;exact ⟨i,by simpa using h1,h2⟩
theorem Cf: ∀ {l:List Ex} {b p:Nat},fO l b p ↔ ∃i,i<l.length∧jd (kP l i) (oq b l i) p
 | [],b,p=>by simp [fO]
 | x :: l,b,p=>by
  rw [fO,Cf (l:=l)]
  constructor
  ·rintro (h|⟨i,h1,h2⟩)
   ·exact ⟨0,by simp,by rw [cU,cR];exact h⟩
   ·exact ⟨i+1,by simp;omega,by rw [cp,cm];exact h2⟩
  ·rintro ⟨i,h1,h2⟩
   cases i with
   | zero=>left;rw [cU,cR] at h2;exact h2
   | succ i=>right;rw [cp,cm] at h2;exact ⟨i,by simpa using h1,h2⟩
theorem wi: ∀ {l:List Ex} {b p q:Nat},gS l b p q ↔ ∃i,i<l.length∧iI (kP l i) (oq b l i) p q
 | [],b,p,q=>by simp [gS]
 | x :: l,b,p,q=>by
  rw [gS,wi (l:=l)]
  constructor
  ·rintro (h|⟨i,h1,h2⟩)
   ·exact ⟨0,by simp,by rw [cU,cR];exact h⟩
   ·exact ⟨i+1,by simp;omega,by rw [cp,cm];exact h2⟩
  ·rintro ⟨i,h1,h2⟩
   cases i with
   | zero=>left;rw [cU,cR] at h2;exact h2
   | succ i=>right;rw [cp,cm] at h2;exact ⟨i,by simpa using h1,h2⟩
theorem wj: ∀ {l:List Ex} {b p:Nat},gp l b p ↔ ∃i,i<l.length∧(∀k,k<i->aG (kP l k)=true)∧jN (kP l i) (oq b l i) p
 | [],b,p=>by simp [gp]
 | x :: l,b,p=>by
  rw [gp,wj (l:=l)]
  constructor
  ·rintro (h|⟨he,i,h1,h2,h3⟩)
   ·exact ⟨0,by simp,fun k hk=>by omega,by rw [cU,cR];exact h⟩
   ·refine ⟨i+1,by simp;omega,fun k hk=> ?_,by rw [cp,cm];exact h3⟩
    cases k with
    | zero=>exact he
    | succ k=>exact h2 k (by omega)
  ·rintro ⟨i,h1,h2,h3⟩
   cases i with
   | zero=>left;rw [cU,cR] at h3;exact h3
   | succ i=>
    right;rw [cp,cm] at h3;exact ⟨h2 0 (by omega),i,by simpa using h1,fun k hk=>h2 (k+1) (by omega),h3⟩
theorem yH: ∀ {l:List Ex},cz l=true ↔ ∀k,k<l.length->aG (kP l k)=true
 | []=>by simp [cz]
 | x :: l=>by
  rw [cz,UW,yH (l:=l)]
  constructor
  ·rintro ⟨h,k⟩ j hj
   cases j with
   | zero=>exact h
   | succ j=>exact k j (by simpa using hj)
  ·intro h;exact ⟨h 0 (by simp),fun k hk=>h (k+1) (by simp;omega)⟩
theorem Cg: ∀ {l:List Ex} {b p:Nat},jj l b p ↔ ∃i,i<l.length∧(∀k,i<k->k<l.length->aG (kP l k)=true)∧jd (kP l i) (oq b l i) p
 | [],b,p=>by simp [jj]
 | x :: l,b,p=>by
  rw [jj,Cg (l:=l),yH]
  constructor
  ·rintro (⟨he,h⟩|⟨i,h1,h2,h3⟩)
   ·refine ⟨0,by simp,fun k hk hl=> ?_,by rw [cU,cR];exact h⟩
    cases k with
    | zero=>omega
    | succ k=>exact he k (by simpa using hl)
   ·refine ⟨i+1,by simp;omega,fun k hk hl=> ?_,by rw [cp,cm];exact h3⟩
    cases k with
    | zero=>omega
    | succ k=>exact h2 k (by omega) (by simpa using hl)
  ·rintro ⟨i,h1,h2,h3⟩
   cases i with
   | zero=>
    left;rw [cU,cR] at h3;exact ⟨fun k hk=>h2 (k+1) (by omega) (by simp;omega),h3⟩
   | succ i=>
    right;rw [cp,cm] at h3;exact ⟨i,by simpa using h1,fun k hk hl=>h2 (k+1) (by omega) (by simp;omega),h3⟩
theorem Cd: ∀ {l:List Ex} {b p q:Nat},gn l b p q↔(∃i,i<l.length∧iI (kP l i) (oq b l i) p q)∨ ∃i k,i<k∧k<l.length∧(∀j,i<j->j<k->aG (kP l j)=true)∧jd (kP l i) (oq b l i) p∧jN (kP l k) (oq b l k) q
 | [],b,p,q=>by simp [gn]
 | x :: l,b,p,q=>by
  rw [gn,Cd (l:=l),wj]
  constructor
  ·rintro (h|(⟨i,h1,h2⟩|⟨i,k,h1,h2,h3,h4,h5⟩)|⟨h,k,h1,h2,h3⟩)
   ·exact .inl ⟨0,by simp,by rw [cU,cR];exact h⟩
   ·exact .inl ⟨i+1,by simp;omega,by rw [cp,cm];exact h2⟩
   ·refine .inr ⟨i+1,k+1,by omega,by simp;omega,fun j j1 j2=> ?_,by rw [cp,cm];exact h4,by rw [cp,cm];exact h5⟩
    cases j with
    | zero=>omega
    | succ j=>exact h3 j (by omega) (by omega)
   ·refine .inr ⟨0,k+1,by omega,by simp;omega,fun j j1 j2=> ?_,by rw [cU,cR];exact h,by rw [cp,cm];exact h3⟩
    cases j with
    | zero=>omega
    | succ j=>exact h2 j (by omega)
  ·rintro (⟨i,h1,h2⟩|⟨i,k,h1,h2,h3,h4,h5⟩)
   ·cases i with
    | zero=>left;rw [cU,cR] at h2;exact h2
    | succ i=>right;left;left;rw [cp,cm] at h2;exact ⟨i,by simpa using h1,h2⟩
   ·cases k with
    | zero=>omega
    | succ k=>
     rw [cp,cm] at h5
     cases i with
     | zero=>
      right;right;rw [cU,cR] at h4;exact ⟨h4,k,by simpa using h2,fun j hj=>h3 (j+1) (by omega) (by omega),h5⟩
     | succ i=>
      right;left;right;rw [cp,cm] at h4;exact ⟨i,k,by omega,by simpa using h2,fun j j1 j2=>h3 (j+1) (by omega) (by omega),h4,h5⟩
section
variable (s:Bool) (m:Nat) (Em:Nat->Bool) (F L:Nat->Nat->Bool)
def pO (i k:Nat):Bool:=(List.range k).all fun j=> !s||Em j
def pQ (i k:Nat):Bool:=(List.range k).all fun j=>decide (j<=i)||(!s||Em j)
def nM (i q:Nat):Bool:=(List.range i).any fun j=>pO s Em j j&&F j q
def nT (i q:Nat):Bool:=(List.range i).any fun j=>pQ s Em j m&&L j q
def nc (i k:Nat):Bool:=s&&(List.range k).all fun j=>decide (j<=i)||Em j
def lE (i k p q:Nat):Bool:=(List.range k).any fun j=>decide (i<j)&&nc s Em i j&&(L i p&&F j q)
def jy (i p q:Nat):Bool:=(List.range i).any fun j=>lE s Em F L j m p q
theorem DO (i k:Nat):pO s Em i (k+1)=(pO s Em i k&&(!s||Em k)):=by rw [pO,Wu,WX];simp [pO]
theorem Eb {i k:Nat} (h:i<k):pQ s Em i (k+1)=(pQ s Em i k&&(!s||Em k)):=by
 rw [pQ,Wu,WX]
 have:decide (k<=i)=false:=decide_eq_false (by omega)
 simp [pQ,this]
theorem Gy (i:Nat):pQ s Em i (i+1)=true:=by
 rw [pQ,Vj];intro x hx
 have:=Vk.1 hx
 simp;omega
theorem El (i q:Nat):nM s Em F (i+1) q=(nM s Em F i q||(pO s Em i i&&F i q)):=by rw [nM,Wu,WY];simp [nM]
theorem EK (i q:Nat):nT s m Em L (i+1) q=(nT s m Em L i q||(pQ s Em i m&&L i q)):=by rw [nT,Wu,WY];simp [nT]
theorem uU {i k:Nat} (h:i<k):nc s Em i (k+1)=(nc s Em i k&&Em k):=by
 rw [nc,Wu,WX]
 have:decide (k<=i)=false:=decide_eq_false (by omega)
 simp [nc,this,Bool.and_assoc]
theorem GB (i:Nat):nc s Em i (i+1)=s:=by
 have:((List.range (i+1)).all fun j=>decide (j<=i)||Em j)=true:=by
  rw [Vj];intro x hx;have:=Vk.1 hx;simp;omega
 rw [nc,this,Bool.and_true]
theorem vu {i k p q:Nat} (h:i<k):lE s Em F L i (k+1) p q=(lE s Em F L i k p q||(nc s Em i k&&(L i p&&F k q))):=by
 rw [lE,Wu,WY];simp [lE,h]
theorem H6 (i p q:Nat):lE s Em F L i (i+1) p q=false:=by
 rw [lE,List.any_eq_false];intro x hx
 have:=Vk.1 hx
 have:decide (i<x)=false:=decide_eq_false (by omega)
 simp [this]
theorem Kr {i k j:Nat} (hk:i<k) (h:nc s Em i k=false) (hj:k<=j):nc s Em i j=false:=by
 induction j with
 | zero=>omega
 | succ j ih=>
  rcases Ue j k with h1|h1
  ·obtain rfl:j+1=k:=by omega
   exact h
  ·rw [uU s Em (by omega),ih h1,Bool.false_and]
theorem K0 {i k j p q:Nat} (hk:i<k) (h:nc s Em i k=false) (hj:k<=j):lE s Em F L i j p q=lE s Em F L i k p q:=by
 induction j with
 | zero=>omega
 | succ j ih=>
  rcases Ue j k with h1|h1
  ·obtain rfl:j+1=k:=by omega
   rfl
  ·rw [vu s Em F L (by omega),ih h1,Kr s Em hk h h1,Bool.false_and,Bool.or_false]
theorem Er (i p q:Nat):jy s m Em F L (i+1) p q=(jy s m Em F L i p q||lE s Em F L i m p q):=by rw [jy,Wu,WY];simp [jy]
end
theorem GU {s:Bool} {m:Nat} {Em:Nat->Bool} {F:Nat->Nat->Bool} {q:Nat}:nM s Em F m q=true ↔ ∃i,i<m∧(s=true-> ∀k,k<i->Em k=true)∧F i q=true:=by
 simp only [nM,WZ,Vk,UW,pO,Vj,Vl,Bool.not_eq_true']
 constructor
 ·rintro ⟨i,h1,h2,h3⟩;exact ⟨i,h1,fun hs k hk=>(h2 k hk).elim (fun e=>by rw [hs] at e;cases e) id,h3⟩
 ·rintro ⟨i,h1,h2,h3⟩;refine ⟨i,h1,fun k hk=> ?_,h3⟩
  cases hs:s
  ·exact .inl rfl
  ·exact .inr (h2 hs k hk)
theorem Hv {s:Bool} {m:Nat} {Em:Nat->Bool} {L:Nat->Nat->Bool} {q:Nat}:nT s m Em L m q=true ↔ ∃i,i<m∧(s=true-> ∀k,i<k->k<m->Em k=true)∧L i q=true:=by
 simp only [nT,WZ,Vk,UW,pQ,Vj,Vl,Bool.not_eq_true',decide_eq_true_eq]
 constructor
 ·rintro ⟨i,h1,h2,h3⟩;exact ⟨i,h1,fun hs k hk hl=>(h2 k hl).elim (fun e=>by omega) (fun e=>e.elim (fun e=>by rw [hs] at e;cases e) id),h3⟩
 ·rintro ⟨i,h1,h2,h3⟩;refine ⟨i,h1,fun k hk=> ?_,h3⟩
  rcases Ue i k with h|h
  ·right
   cases hs:s
   ·exact .inl rfl
   ·exact .inr (h2 hs k h hk)
  ·exact .inl h
theorem yV {s:Bool} {m:Nat} {Em:Nat->Bool} {F L:Nat->Nat->Bool} {p q:Nat}:jy s m Em F L m p q=true↔s=true∧ ∃i k,i<k∧k<m∧(∀j,i<j->j<k->Em j=true)∧L i p=true∧F k q=true:=by
 simp only [jy,lE,nc,WZ,Vk,UW,Vj,Vl,decide_eq_true_eq]
 constructor
 ·rintro ⟨i,h1,k,h2,⟨h3,h4,h5⟩,h6,h7⟩;exact ⟨h4,i,k,h3,h2,fun j j1 j2=>(h5 j j2).elim (fun e=>by omega) id,h6,h7⟩
 ·rintro ⟨h1,i,k,h2,h3,h4,h5,h6⟩;refine ⟨i,by omega,k,h3,⟨h2,h1,fun j hj=> ?_⟩,h5,h6⟩
  rcases Ue i j with h|h
  ·exact .inr (h4 j h hj)
  ·exact .inl h
theorem so {a:Act} {d:Nat} {v:Value} (h:d<a.tmps.size):(a.put (some d) v).eval (.tmp d)=v:=by
 simp [Act.put,Act.eval,Array.getD,h]
theorem zK (a:Act) (d:Option Tmp) (v:Value):(a.put d v).tmps.size=a.tmps.size:=by
 cases d<;>simp [Act.put]
theorem put_defers (a:Act) (d:Option Tmp) (v:Value):(a.put d v).defers=a.defers:=by
 cases d<;>rfl
section
variable {D:Nat->Prop} {nu:Nat->Nat->Value} {o:List (Option aa)} {w:World} {P:Program}
theorem fK.put {t:List AV} {tm:Array Value} (h:fK D nu o w t tm) {r:AV} {v:Value} (hr:RA D nu o w r v) (d:Nat):fK D nu o w (t.set d r) (tm.setIfInBounds d v):=by
 refine ⟨by simpa using h.len,fun i c x h1 h2=> ?_⟩
 by_cases hd:d=i
 ·subst hd;have hl:=(List.getElem?_eq_some_iff.1 h1).1;simp only [List.length_set] at hl;rw [List.getElem?_set_self hl] at h1;rw [Array.getElem?_setIfInBounds_self_of_lt (by rw [<-h.len];exact hl)] at h2;cases h1;cases h2;exact hr
 ·rw [Ux hd] at h1;rw [Array.getElem?_setIfInBounds_ne hd] at h2;exact h.at' i c x h1 h2
theorem fK.iz {t:List AV} {a:Act} (h:fK D nu o w t a.tmps) {r:AV} {v:Value} (hr:RA D nu o w r v) (d:Nat):fK D nu o w (t.set d r) (a.put (some d) v).tmps:=h.put hr d
def ng (T U V:TypeId) (oc:Op) (ty:Nat->TypeId) (po:Nat->String) (af:Nat->Array Edge) (last:Oper):List Oper:=
 [⟨some 22, .move (.tmp 5),ty 0,po 0,af 0,none⟩,⟨some 23, .makeSlice T (.tmp 22) (.tmp 22),ty 1,po 1,af 1,none⟩,⟨some 24, .move (.tmp 5),ty 2,po 2,af 2,none⟩,⟨some 25, .makeSlice T (.tmp 24) (.tmp 24),ty 3,po 3,af 3,none⟩,
  ⟨some 26, .load U (.tmp 3),ty 4,po 4,af 4,none⟩,⟨some 27,oc,ty 5,po 5,af 5,none⟩,⟨some 28, .build V #[(0, .tmp 23),(1, .tmp 25),(2, .tmp 27)],ty 6,po 6,af 6,none⟩,⟨some 6, .alloc V,ty 7,po 7,af 7,none⟩,last]
def oe (t:List AV) (ax:AV):List AV:=((((t.set 22 .undef).set 23 .undef).set 24 .undef).set 25 .undef).set 26 ax
def qs (t:List AV) (N n:Nat) (em:Bool):List AV:=
 ((((oe t .undef).set 27 .undef).set 28 (.agg [.vec N n, .vec (N+1) n, .v (.bool em)])).set 6 (.ptr (N+2) 0 3 0 0))
def RW (n0:Nat) (m:gU):Spec:=⟨fun v w=>x5 n0 m v w,fun _ _ _ hb h=>h.below hb⟩
def QS (D:Nat->Prop) (nu:Nat->Nat->Value) (o:List (Option aa)) (r:AV):Spec:=⟨fun v w=>RA D nu o w r v,fun _ _ _ hb h=>h.mono (aw hb) (fun _ _ h=>h)⟩
def SU (n0:Nat) (m1 m3:gU) (em:Bool):Spec:=⟨fun v w=> ∃v1 v3,v = .agg #[v1,v3, .bool em]∧x5 n0 m1 v1 w∧x5 n0 m3 v3 w∧ ∀b,cf v1=some b->cf v3≠some b,fun _ _ _ hb ⟨v1,v3,h1,h2,h3,h4⟩=>⟨v1,v3,h1,h2.below hb,h3.below hb,h4⟩⟩
theorem x5.lt {n0:Nat} {m:gU} {v:Value} (h:x5 n0 m v w): ∀b,cf v=some b->n0<=b∧ ∃cur,w.heap[b]? = some (.cells cur m.e (0,0)):=fun b hb=>by
 obtain ⟨b',cap,cur,h1,h2,h3,_⟩:=h;rw [h1,gU.qu] at hb;cases hb;exact ⟨h2,cur,h3⟩
theorem o8 {S S':Spec} {r:Result Next} (h:uq P S w r) (hi: ∀v w',S.p v w'->S'.p v w'):uq P S' w r:=by
 revert h
 cases r with
 | halt _ _=>exact fun h=>h
 | ok n w'=>
  cases n<;>first|exact fun h=>h|skip
  case value u=>exact fun h=>⟨hi _ _ h.1,h.2⟩
  case skip=>exact fun h=>⟨hi _ _ h.1,h.2⟩
  case enter f args=>
   exact fun h=>Calls.mono h fun e w'' he=>by
    obtain ⟨v,rfl,hv,hb⟩:=he;exact ⟨v,rfl,hi _ _ hv,hb⟩
theorem Ip {S:Spec} {r:Sem Next} {v:Value} {w':World} (h:r.run P w = .ok (.value v) w') (hs:S.p v w') (hb:Below w.heap.size w w'):uq P S w (r.run P w):=by
 rw [h];exact ⟨hs,hb⟩
theorem Pq {a:Act} {t:List AV} {o:List (Option aa)} {y:jk} (hro:RO D nu o w) (h:fK D nu o w t a.tmps) (y':Operand):RA D nu o w (AS.ev ⟨t,o,y⟩ y') (a.eval y'):=by
 cases y' with
 | tmp t'=>
  simp only [AS.ev,Act.eval]
  rcases Ue t' t.length with hlt|hge
  ·have e1:t[t']? = some t[t']:=Uq hlt
   have hlt':t'<a.tmps.size:=by rw [<-h.len];exact hlt
   rw [getD_some e1]
   have e2:a.tmps.getD t' Go.undef=a.tmps[t']:=by simp [Array.getD,hlt']
   rw [e2];exact h.at' t' _ _ e1 (Array.getElem?_eq_getElem hlt')
  ·rw [U3,List.getElem?_eq_none hge];exact .undef _
 | const v=>exact .v v
 | global gi=>exact mK hro ⟨t,o,y⟩ gi
 | func f=>exact .fn f [] [] #[] #[] rfl rfl (fun i c x h=>by simp at h) (fun i c x h=>by simp at h)
theorem iw {t:List AV} {o:List (Option aa)} {y:jk} {d i:Nat} {v:AV} (h:d≠i):AS.ev ⟨t.set d v,o,y⟩ (.tmp i)=AS.ev ⟨t,o,y⟩ (.tmp i):=by
 simp [AS.ev,U3,Ux h]
theorem re {t:List AV} {o:List (Option aa)} {y:jk} {d:Nat} {v:AV} (h:d<t.length):AS.ev ⟨t.set d v,o,y⟩ (.tmp d)=v:=by
 simp [AS.ev,U3,h]
theorem x5.one {n0:Nat} {m:gU} {v:Value} (h:x5 n0 m v w):v.oneCell'=true:=by
 obtain ⟨b',cap,cur,h1,_⟩:=h;rw [h1,gU.val];split<;>rfl
theorem D8 {n0 id n z:Nat} {s:AS} {Q:a7->AS->Prop} {T U V:TypeId} {oc:Op} {ty:Nat->TypeId} {po:Nat->String} {af:Nat->Array Edge} {last:Oper} {ax:AV} {em:Bool} {p1 p7:Prop} {e:TypeId} {zc zr:List AV}
  (hB:gd (ng T U V oc ty po af last).toArray 8=true) (hC:dw (ng T U V oc ty po af last).toArray=true)
  (hdp:aE (ng T U V oc ty po af last).toArray 1 0=true∧aE (ng T U V oc ty po af last).toArray 3 2=true∧aE (ng T U V oc ty po af last).toArray 5 4=true∧aE (ng T U V oc ty po af last).toArray 6 1=true∧aE (ng T U V oc ty po af last).toArray 6 3=true∧aE (ng T U V oc ty po af last).toArray 6 5=true)
  (hlen:29<=s.t.length) (hmv:s.ev (.tmp 5) = .v (.int .i64 n)) (hm1:wJ P T (.v (.int .i64 n)) (.v (.int .i64 n))=some (p1,e,z,n,zc)) (hp1:p1) (hal:wv P V=some (p7,V,3,1,zr)) (heV:e≠V)
  (hld:bR P (.load U (.tmp 3)) s (fun r=>r=ax)) (hcl:bR P oc ⟨oe s.t ax,s.o,s.y⟩ (fun r=>r = .v (.bool em)))
  (hbd: ∀v1 v3:Value,v1.oneCell'=true->v3.oneCell'=true->nB P V [(0, .v v1),(1, .v v3),(2, .v (.bool em))]=some (.agg [.v v1, .v v3, .v (.bool em)]))
  (h:dM P (ng T U V oc ty po af last) [last] ⟨qs s.t s.o.length n em,s.o++[some ⟨e,z,true,List.replicate n zc⟩,some ⟨e,z,true,List.replicate n zc⟩,some ⟨V,3,false,[zr]⟩],s.y⟩ (Q .normal)) :
  cr P n0 (.region id (ng T U V oc ty po af last).toArray true) s Q:=by
 refine .inr (fun f m D nu a w hZr hn hm hs hmx R hO hR=> ?_);have hs0:=hs.drew;obtain ⟨d10,d32,d54,d61,d63,d65⟩:=hdp;have hsz:a.tmps.size=s.t.length:=hs.tm.len.symm
 have hwant: ∀(i:Nat) (oo:Oper) (a':Act),oo.guard=none->Region.wanted oo (yielded (ng T U V oc ty po af last).toArray a'.tmps)=true:=fun i oo a' hg=>by simp [Region.wanted,hg]
 
 have base: ∀wr,Below w.drew.heap.size w.drew wr->RO D nu s.o wr∧fK D nu s.o wr s.t a.tmps:=fun wr hE=>⟨hs0.ro.below hE,hs0.tm.mono (aw hE) (fun _ _ h=>h)⟩
 refine mC hmx hC hO (jY [QS D nu s.o (.v (.int .i64 n)),RW w.drew.heap.size ⟨23,1,e,z,n,zc,false⟩,QS D nu s.o (.v (.int .i64 n)),RW w.drew.heap.size ⟨25,3,e,z,n,zc,false⟩,QS D nu s.o ax,QS D nu s.o (.v (.bool em)),SU w.drew.heap.size ⟨23,1,e,z,n,zc,false⟩ ⟨25,3,e,z,n,zc,false⟩ em,RW w.drew.heap.size ⟨6,7,V,3,1,zr,true⟩]
  (fun i=>i==1||i==3||i==7) (fun i v w1 hf hp b hb=> ?_) 8 hB ⟨fun x wr hE hD hP=> ?_,fun x wr hE hD hP=> ?_,fun x wr hE hD hP=> ?_,fun x wr hE hD hP=> ?_,fun x wr hE hD hP=> ?_,fun x wr hE hD hP=> ?_,fun x wr hE hD hP=> ?_,fun x wr hE hD hP=> ?_,fun x wr hE hD hP=> ?_⟩)
 ·simp only [Vl,beq_iff_eq] at hf
  rcases hf with (rfl|rfl)|rfl<;>exact (Array.getElem?_eq_some_iff.1 ((x5.lt hp b hb).2.choose_spec)).1
 ·refine .inl ⟨hwant 0 _ _ rfl, ?_⟩;obtain ⟨hro,hra⟩:=base wr hE;obtain ⟨r,rfl,hout⟩:=fC (P:=P) (s:=s) (rho:=a.eval) (oo:=⟨some 22, .move (.tmp 5),ty 0,po 0,af 0,none⟩) (K:=fun r=>r = .v (.int .i64 n)) hro (fun y _=>Pq hro hra y) ⟨trivial,hmv⟩;exact o8 hout (fun v w' hv=>⟨hv.2,fun h=>absurd h (by decide)⟩)
 ·refine .inl ⟨hwant 1 _ _ rfl, ?_⟩;obtain ⟨hro,hra⟩:=base wr hE;have h0:RA D nu s.o wr (.v (.int .i64 n)) (x 0):=hD 0 d10;have e0:(a.put (some 22) (x 0)).eval (.tmp 22)=x 0:=so (by omega);obtain ⟨v,w',h1,h2,h3⟩:=uK (P:=P) (w:=wr) h0 h0 hm1 hp1 23 1
  have hrun:(execOp (a.put (some 22) (x 0)).eval ⟨some 23, .makeSlice T (.tmp 22) (.tmp 22),ty 1,po 1,af 1,none⟩).run P wr = .ok (.value v) w':=by
   simp only [execOp,e0,Sem.run_bind,h1,Result.andThen_ok,Sem.run_pure]
  show uq P _ wr ((execOp (a.put (some 22) (x 0)).eval ⟨some 23, .makeSlice T (.tmp 22) (.tmp 22),ty 1,po 1,af 1,none⟩).run P wr);rw [hrun];obtain ⟨b,cap,cur,k1,k2,k3⟩:=h3;exact ⟨⟨⟨b,cap,cur,k1,T8 hE.size k2,k3⟩,fun _ b' hb=>by rw [k1,gU.qu] at hb;cases hb;exact k2⟩,h2⟩
 ·refine .inl ⟨hwant 2 _ _ rfl, ?_⟩;obtain ⟨hro,hra⟩:=base wr hE;have hr2:=(hra.iz (.undef (x 0)) 22).iz (.undef (x 1)) 23
  obtain ⟨r,rfl,hout⟩:=fC (P:=P) (s:=⟨(s.t.set 22 .undef).set 23 .undef,s.o,s.y⟩) (rho:=((a.put (some 22) (x 0)).put (some 23) (x 1)).eval) (oo:=⟨some 24, .move (.tmp 5),ty 2,po 2,af 2,none⟩) (K:=fun r=>r = .v (.int .i64 n)) hro (fun y _=>Pq hro hr2 y)
   ⟨trivial,by rw [iw (by decide),iw (by decide)];exact hmv⟩
  exact o8 hout (fun v w' hv=>⟨hv.2,fun h=>absurd h (by decide)⟩)
 ·refine .inl ⟨hwant 3 _ _ rfl, ?_⟩;have h0:RA D nu s.o wr (.v (.int .i64 n)) (x 2):=hD 2 d32;have e0:(((a.put (some 22) (x 0)).put (some 23) (x 1)).put (some 24) (x 2)).eval (.tmp 24)=x 2:=so (by rw [zK,zK];omega);obtain ⟨v,w',h1,h2,h3⟩:=uK (P:=P) (w:=wr) h0 h0 hm1 hp1 25 3
  have hrun:(execOp (((a.put (some 22) (x 0)).put (some 23) (x 1)).put (some 24) (x 2)).eval ⟨some 25, .makeSlice T (.tmp 24) (.tmp 24),ty 3,po 3,af 3,none⟩).run P wr = .ok (.value v) w':=by
   simp only [execOp,e0,Sem.run_bind,h1,Result.andThen_ok,Sem.run_pure]
  show uq P _ wr ((execOp (((a.put (some 22) (x 0)).put (some 23) (x 1)).put (some 24) (x 2)).eval ⟨some 25, .makeSlice T (.tmp 24) (.tmp 24),ty 3,po 3,af 3,none⟩).run P wr);rw [hrun];obtain ⟨b,cap,cur,k1,k2,k3⟩:=h3;exact ⟨⟨⟨b,cap,cur,k1,T8 hE.size k2,k3⟩,fun _ b' hb=>by rw [k1,gU.qu] at hb;cases hb;exact k2⟩,h2⟩
 ·refine .inl ⟨hwant 4 _ _ rfl, ?_⟩;obtain ⟨hro,hra⟩:=base wr hE;have hr4:=(((hra.iz (.undef (x 0)) 22).iz (.undef (x 1)) 23).iz (.undef (x 2)) 24).iz (.undef (x 3)) 25
  obtain ⟨r,rfl,hout⟩:=fC (P:=P) (s:=⟨(((s.t.set 22 .undef).set 23 .undef).set 24 .undef).set 25 .undef,s.o,s.y⟩) (rho:=((((a.put (some 22) (x 0)).put (some 23) (x 1)).put (some 24) (x 2)).put (some 25) (x 3)).eval) (oo:=⟨some 26, .load U (.tmp 3),ty 4,po 4,af 4,none⟩) (K:=fun r=>r=ax) hro (fun y _=>Pq hro hr4 y)
   (by simp only [bR,AX,wO,iw (show 22≠3 by decide),iw (show 23≠3 by decide),iw (show 24≠3 by decide),iw (show 25≠3 by decide)] at hld ⊢; exact hld)
  exact o8 hout (fun v w' hv=>⟨hv.2,fun h=>absurd h (by decide)⟩)
 ·refine .inl ⟨hwant 5 _ _ rfl, ?_⟩;obtain ⟨hro,hra⟩:=base wr hE;have h4:RA D nu s.o wr ax (x 4):=hD 4 d54;have hr5:=((((hra.iz (.undef (x 0)) 22).iz (.undef (x 1)) 23).iz (.undef (x 2)) 24).iz (.undef (x 3)) 25).iz h4 26;obtain ⟨r,rfl,hout⟩:=fC (P:=P) (s:=⟨oe s.t ax,s.o,s.y⟩) (rho:=(((((a.put (some 22) (x 0)).put (some 23) (x 1)).put (some 24) (x 2)).put (some 25) (x 3)).put (some 26) (x 4)).eval) (oo:=⟨some 27,oc,ty 5,po 5,af 5,none⟩) (K:=fun r=>r = .v (.bool em)) hro (fun y _=>Pq hro hr5 y) hcl;exact o8 hout (fun v w' hv=>⟨hv.2,fun h=>absurd h (by decide)⟩)
 ·refine .inl ⟨hwant 6 _ _ rfl, ?_⟩;obtain ⟨hro,hra⟩:=base wr hE;have h1:x5 w.drew.heap.size ⟨23,1,e,z,n,zc,false⟩ (x 1) wr:=hD 1 d61;have h3:x5 w.drew.heap.size ⟨25,3,e,z,n,zc,false⟩ (x 3) wr:=hD 3 d63;have h5:RA D nu s.o wr (.v (.bool em)) (x 5):=hD 5 d65;have hne:=hP 1 3 d61 d63 (by decide) rfl rfl;have hr6:=(((((hra.iz (.undef (x 0)) 22).iz (.v (x 1)) 23).iz (.undef (x 2)) 24).iz (.v (x 3)) 25).iz (.undef (x 4)) 26).iz h5 27;have hb:=hbd (x 1) (x 3) h1.one h3.one
  obtain ⟨v,q1,q2⟩:=jZ (P:=P) (ev:=AS.ev ⟨(((((s.t.set 22 .undef).set 23 (.v (x 1))).set 24 .undef).set 25 (.v (x 3))).set 26 .undef).set 27 (.v (.bool em)),s.o,s.y⟩) (rho:=((((((a.put (some 22) (x 0)).put (some 23) (x 1)).put (some 24) (x 2)).put (some 25) (x 3)).put (some 26) (x 4)).put (some 27) (x 5)).eval)
   (oo:=⟨some 28, .build V #[(0, .tmp 23),(1, .tmp 25),(2, .tmp 27)],ty 6,po 6,af 6,none⟩) hro (fun y _=>Pq hro hr6 y) (p:=True) (r:= .agg [.v (x 1), .v (x 3), .v (.bool em)]) (by
    have e1:AS.ev ⟨(((((s.t.set 22 .undef).set 23 (.v (x 1))).set 24 .undef).set 25 (.v (x 3))).set 26 .undef).set 27 (.v (.bool em)),s.o,s.y⟩ (.tmp 23) = .v (x 1):=by
     rw [iw (by decide),iw (by decide),iw (by decide),iw (by decide)];exact re (by simp;omega)
    have e3:AS.ev ⟨(((((s.t.set 22 .undef).set 23 (.v (x 1))).set 24 .undef).set 25 (.v (x 3))).set 26 .undef).set 27 (.v (.bool em)),s.o,s.y⟩ (.tmp 25) = .v (x 3):=by
     rw [iw (by decide),iw (by decide)];exact re (by simp;omega)
    have e5:AS.ev ⟨(((((s.t.set 22 .undef).set 23 (.v (x 1))).set 24 .undef).set 25 (.v (x 3))).set 26 .undef).set 27 (.v (.bool em)),s.o,s.y⟩ (.tmp 27) = .v (.bool em):=re (by simp;omega)
    simp only [wO,List.map_cons,List.map_nil,e1,e3,e5,hb]) trivial
  have q3:=rP (xs:=[x 1,x 3, .bool em]) q2;show uq P _ wr ((execOp ((((((a.put (some 22) (x 0)).put (some 23) (x 1)).put (some 24) (x 2)).put (some 25) (x 3)).put (some 26) (x 4)).put (some 27) (x 5)).eval ⟨some 28, .build V #[(0, .tmp 23),(1, .tmp 25),(2, .tmp 27)],ty 6,po 6,af 6,none⟩).run P wr);rw [q1];exact ⟨⟨⟨x 1,x 3,q3,h1,h3,hne⟩,fun h=>absurd h (by decide)⟩, .refl _ _⟩
 ·refine .inl ⟨hwant 7 _ _ rfl, ?_⟩;obtain ⟨v,w',h1,h2,h3⟩:=DJ (P:=P) (w:=wr) hal 6 7;refine Ip (v:=v) (w':=w') (by simp only [execOp,Sem.run_bind,h1,Result.andThen_ok,Sem.run_pure]) ?_ h2;obtain ⟨b,cap,cur,k1,k2,k3⟩:=h3;exact ⟨⟨b,cap,cur,k1,T8 hE.size k2,k3⟩,fun _ b' hb=>by rw [k1,gU.qu] at hb;cases hb;exact k2⟩
 ·obtain ⟨hro,hra⟩:=base wr hE;obtain ⟨v1,v3,e6,m1,m3,hne⟩:(SU w.drew.heap.size ⟨23,1,e,z,n,zc,false⟩ ⟨25,3,e,z,n,zc,false⟩ em).p (x 6) wr:=hD 6 (by decide);have m7:x5 w.drew.heap.size ⟨6,7,V,3,1,zr,true⟩ (x 7) wr:=hD 7 (by decide)
  have hdiff: ∀v (mm:gU),mm.e=e->x5 w.drew.heap.size mm v wr-> ∀b,cf v=some b->cf (x 7)≠some b:=fun v mm he hm b h1 h2=>by
   obtain ⟨c1,k1⟩:=(hm.lt b h1).2;obtain ⟨c2,k2⟩:=(m7.lt b h2).2;rw [k1] at k2;simp only [Option.some.injEq,Obj.cells.injEq,and_true] at k2;exact heV (he.symm.trans k2.2)
  obtain ⟨hmo,hro',hcl'⟩:=GJ hs0.ro hE [⟨23,1,e,z,n,zc,false⟩,⟨25,3,e,z,n,zc,false⟩,⟨6,7,V,3,1,zr,true⟩] (fun i=>if i=0 then v1 else if i=1 then v3 else x 7) (fun i mm hi=>by
   match i,hi with
   | 0,hi=>cases hi;exact m1
   | 1,hi=>cases hi;exact m3
   | 2,hi=>cases hi;exact m7
   | i+3,hi=>simp at hi) (fun i j hi hj hij b hb=>by
   simp only [List.length_cons,List.length_nil] at hi hj
   match i,j,hi,hj,hij,hb with
   | 0,0,_,_,h,_=>exact absurd rfl h
   | 0,1,_,_,_,hb=>exact hne b hb
   | 0,2,_,_,_,hb=>exact hdiff v1 _ rfl m1 b hb
   | 1,0,_,_,_,hb=>exact fun h=>hne b h hb
   | 1,1,_,_,h,_=>exact absurd rfl h
   | 1,2,_,_,_,hb=>exact hdiff v3 _ rfl m3 b hb
   | 2,0,_,_,_,hb=>exact fun h=>hdiff v1 _ rfl m1 b h hb
   | 2,1,_,_,_,hb=>exact fun h=>hdiff v3 _ rfl m3 b h hb
   | 2,2,_,_,h,_=>exact absurd rfl h
   | i+3,_,h,_,_,_=>omega
   | _,j+3,_,h,_,_=>omega)
  have c0:=hcl' 0 _ rfl;have c1:=hcl' 1 _ rfl;have c2:=hcl' 2 _ rfl;generalize FM nu s.o.length (fun i=>if i=0 then v1 else if i=1 then v3 else x 7)=nu2 at *;have hra2:=hs0.tm.mono hmo (fun _ _ h=>h);simp only [gU.av,gU.ob,Bool.not_false,Bool.not_true,if_true,Bool.false_eq_true,if_false,Nat.add_zero,List.map_cons,List.map_nil,Nat.one_ne_zero,List.replicate_succ,List.replicate_zero] at c0 c1 c2 hmo hro' hra2;have c2:RA D nu2 _ wr (.ptr (s.o.length+2) 0 3 0 0) (x 7):=c2
  have hagg:RA D nu2 (s.o++[some ⟨e,z,true,List.replicate n zc⟩,some ⟨e,z,true,List.replicate n zc⟩,some ⟨V,3,false,[zr]⟩]) wr (.agg [.vec s.o.length n, .vec (s.o.length+1) n, .v (.bool em)]) (x 6):=by
   rw [e6]
   refine .agg _ _ rfl (fun i c y h1 h2=> ?_) (fun i y h2=> ?_)
   ·match i,h1,h2 with
    | 0,h1,h2=>cases h1;cases h2;exact c0
    | 1,h1,h2=>cases h1;cases h2;exact c1
    | 2,h1,h2=>cases h1;cases h2;exact .v _
    | i+3,h1,h2=>simp at h1
   ·match i,h2 with
    | 0,h2=>cases h2;exact m1.one
    | 1,h2=>cases h2;exact m3.one
    | 2,h2=>cases h2;rfl
    | i+3,h2=>simp at h2
  have hra8:fK D nu2 (s.o++[some ⟨e,z,true,List.replicate n zc⟩,some ⟨e,z,true,List.replicate n zc⟩,some ⟨V,3,false,[zr]⟩]) wr (qs s.t s.o.length n em) ((((((((a.put (some 22) (x 0)).put (some 23) (x 1)).put (some 24) (x 2)).put (some 25) (x 3)).put (some 26) (x 4)).put (some 27) (x 5)).put (some 28) (x 6)).put (some 6) (x 7)).tmps:=by
   refine fK.iz ?_ c2 6;refine fK.iz ?_ hagg 28;refine fK.iz ?_ (.undef (x 5)) 27;refine fK.iz ?_ (.undef (x 4)) 26;refine fK.iz ?_ (.undef (x 3)) 25;refine fK.iz ?_ (.undef (x 2)) 24;refine fK.iz ?_ (.undef (x 1)) 23;refine fK.iz ?_ (.undef (x 0)) 22;exact hra2
  generalize hA:((((((((a.put (some 22) (x 0)).put (some 23) (x 1)).put (some 24) (x 2)).put (some 25) (x 3)).put (some 26) (x 4)).put (some 27) (x 5)).put (some 28) (x 6)).put (some 6) (x 7))=a8 at hra8
  have hd8:a8.defers=a.defers:=by rw [<-hA];simp only [put_defers]
  show wpOps P (ng T U V oc ty po af last).toArray R (List.range' 8 ((ng T U V oc ty po af last).toArray.size - 8)) ((((((((a.put (some 22) (x 0)).put (some 23) (x 1)).put (some 24) (x 2)).put (some 25) (x 3)).put (some 26) (x 4)).put (some 27) (x 5)).put (some 28) (x 6)).put (some 6) (x 7)) wr;rw [hA]
  have hs8:RS f D nu2 ⟨qs s.t s.o.length n em,s.o++[some ⟨e,z,true,List.replicate n zc⟩,some ⟨e,z,true,List.replicate n zc⟩,some ⟨V,3,false,[zr]⟩],s.y⟩ a8 wr:=
   ⟨hro',hra8,by rw [hd8];exact hs0.jm.mono hs0.ro (aw hE)⟩
  exact kI (P:=P) (f:=f) (l:=ng T U V oc ty po af last) (R:=R) [last] 8 _ _ wr nu2 rfl (show 8<=9 by omega) hs8 h (fun s' a' w' nu' q1 q2 q3 q4=>hR .normal D f.Z s' a' w' nu' (by rw [q2];exact m.own hm hs.ro ((aw (cW w)).trans (hmo.trans q1)) q3.ro) q3 q4)
theorem A0 {n0 id n z:Nat} {s:AS} {Q:a7->AS->Prop} {l:List Oper} (T U V:TypeId) (oc:Op) {ax:AV} {em:Bool} {p1 p7:Prop} {e:TypeId} {zc zr:List AV}
  (hl:l=ng T U V oc (fun i=>(l.getD i default).type) (fun i=>(l.getD i default).pos) (fun i=>(l.getD i default).after) (l.getD 8 default))
  (hB:gd l.toArray 8=true) (hC:dw l.toArray=true)
  (hdp:aE l.toArray 1 0=true∧aE l.toArray 3 2=true∧aE l.toArray 5 4=true∧aE l.toArray 6 1=true∧aE l.toArray 6 3=true∧aE l.toArray 6 5=true)
  (hlen:29<=s.t.length) (hmv:s.ev (.tmp 5) = .v (.int .i64 n)) (hm1:wJ P T (.v (.int .i64 n)) (.v (.int .i64 n))=some (p1,e,z,n,zc)) (hp1:p1) (hal:wv P V=some (p7,V,3,1,zr)) (heV:e≠V)
  (hld:bR P (.load U (.tmp 3)) s (fun r=>r=ax)) (hcl:bR P oc ⟨oe s.t ax,s.o,s.y⟩ (fun r=>r = .v (.bool em)))
  (hbd: ∀v1 v3:Value,v1.oneCell'=true->v3.oneCell'=true->nB P V [(0, .v v1),(1, .v v3),(2, .v (.bool em))]=some (.agg [.v v1, .v v3, .v (.bool em)]))
  (h:dM P l [l.getD 8 default] ⟨qs s.t s.o.length n em,s.o++[some ⟨e,z,true,List.replicate n zc⟩,some ⟨e,z,true,List.replicate n zc⟩,some ⟨V,3,false,[zr]⟩],s.y⟩ (Q .normal)) :
  cr P n0 (.region id l.toArray true) s Q:=by
 generalize (fun i=>(l.getD i default).type)=ty at hl;generalize (fun i=>(l.getD i default).pos)=po at hl;generalize (fun i=>(l.getD i default).after)=af at hl;generalize l.getD 8 default=last at hl h;subst hl;exact D8 hB hC hdp hlen hmv hm1 hp1 hal heV hld hcl hbd h
end
end
section
open Classical in
noncomputable def jP (x:Ex) (b q:Nat):Bool:=decide (jN x b (q+1))
open Classical in
noncomputable def ej (x:Ex) (b q:Nat):Bool:=decide (jd x b (q+1))
open Classical in
noncomputable def jO (x:Ex) (b p q:Nat):Bool:=decide (iI x b (p+1) (q+1))
theorem ib {x:Ex} {b q:Nat}:jP x b q=true↔jN x b (q+1):=by simp [jP]
theorem ij {x:Ex} {b q:Nat}:ej x b q=true↔jd x b (q+1):=by simp [ej]
theorem j8 {x:Ex} {b p q:Nat}:jO x b p q=true↔iI x b (p+1) (q+1):=by simp [jO]
theorem Kc {I:List (Option aa)} {z:Nat} (h:I.length=z) (tl:List (Option aa)) (j:Nat):(I++tl)[z+j]? = tl[j]? :=by
 rw [UF (by omega),h,W4]
theorem rS {I:List (Option aa)} {z:Nat} (h:I.length=z) (tl:List (Option aa)):(I++tl)[z]? = tl[0]? :=by
 rw [UF (by omega),h,Nat.sub_self]
theorem Kd {I:List (Option aa)} {z:Nat} (h:I.length=z) (tl:List (Option aa)) (j:Nat) (x:Option aa):(I++tl).set (z+j) x=I++tl.set j x:=by
 rw [Wq _ _ (by omega),h,W4]
theorem rT {I:List (Option aa)} {z:Nat} (h:I.length=z) (tl:List (Option aa)) (x:Option aa):(I++tl).set z x=I++tl.set 0 x:=by
 rw [Wq _ _ (by omega),h,Nat.sub_self]
theorem Cs {n0 id n:Nat} {s:AS} {Q:a7->AS->Prop} {l:List Oper} {ax:AV} {em:Bool} (hn:n<=1000)
  (hl:l=ng 54 25 152 (.call ⟨.value (.func 100), #[.tmp 26], #[25]⟩) (fun i=>(l.getD i default).type) (fun i=>(l.getD i default).pos) (fun i=>(l.getD i default).after) (l.getD 8 default))
  (hB:gd l.toArray 8=true) (hC:dw l.toArray=true)
  (hdp:aE l.toArray 1 0=true∧aE l.toArray 3 2=true∧aE l.toArray 5 4=true∧aE l.toArray 6 1=true∧aE l.toArray 6 3=true∧aE l.toArray 6 5=true)
  (hlen:29<=s.t.length) (hmv:s.ev (.tmp 5) = .v (.int .i64 n))
  (hld:bR Tryz.prog (.load 25 (.tmp 3)) s (fun r=>r=ax)) (hcl:ar Tryz.prog 100 [ax] (.v (.bool em)))
  (h:dM Tryz.prog l [l.getD 8 default] ⟨qs s.t s.o.length n em,s.o++[some ⟨4,1,true,cI n (fun _=>false)⟩,some ⟨4,1,true,cI n (fun _=>false)⟩,some ⟨152,3,false,[[.v (.slice none 0 0), .v (.slice none 0 0), .v (.bool false)]]⟩],s.y⟩ (Q .normal)) :
  cr Tryz.prog n0 (.region id l.toArray true) s Q:=by
 have e1:wJ Tryz.prog 54 (.v (.int .i64 n)) (.v (.int .i64 n))=some (0<=(n:Int)∧(n:Int)<=(n:Int)∧(n:Int).toNat * 1<=140737488355328∧(n:Int).toNat<=140737488355328,4,1,n,[.v (.bool false)]):=by
  simp only [go_sem]
 have e2:wv Tryz.prog 152=some (True,152,3,1,[.v (.slice none 0 0), .v (.slice none 0 0), .v (.bool false)]):=by
  first|(simp only [go_sem];done)|(simp only [go_sem];rfl)
 rw [<-jg] at h
 refine A0 54 25 152 _ hl hB hC hdp hlen hmv e1 ⟨by omega,by omega,by omega,by omega⟩ e2 (by decide) hld ?_ (fun v1 v3 h1 h3=> ?_) h
 ·have ev:AS.ev ⟨oe s.t ax,s.o,s.y⟩ (.tmp 26)=ax:=by rw [oe];exact re (by simp;omega)
  simp only [bR,List.map_cons,List.map_nil,ev];exact ba.one hcl rfl
 ·have c1:(AV.v v1).cells? = some [.v v1]:=by simp only [AV.cells?,h1,if_true]
  have c3:(AV.v v3).cells? = some [.v v3]:=by simp only [AV.cells?,h3,if_true]
  have c5:(AV.v (.bool em)).cells? = some [.v (.bool em)]:=rfl
  have tp:Ji Tryz.prog 152=some ([(0,1),(1,1),(2,1)],[.v (.slice none 0 0), .v (.slice none 0 0), .v (.bool false)]):=by
   simp only [go_sem]
  simp [nB,tp,oz,c1,c3,c5,zZ]
theorem Cp {k:Nat} {y:Ex} {labs:List ByteArray} {n:Nat} {f:Nat->Nat->Bool} {tl:List (Option aa)} {r:AV} (hk:k<=2 * n+3) (hr: ∀m,r.wf m=true) :
  SH k (some ⟨120,8,false,[lH 0 y labs.length n]⟩ :: some ⟨9,1,true,labs.map encS⟩ :: some ⟨54,1,true,aY 2 n n⟩ :: (aV n f n++tl)) r r (cv 0 y labs n f):=by
 refine ⟨⟨.inr ⟨rfl,hr _⟩,trivial⟩, ?_,by rw [bO];exact hk⟩
 have:=ll (n:=(cv 0 y labs n f).length) (a:=tl) (b:=[]) (l:=cv 0 y labs n f) (jb (by rw [bO];omega)) (by cases tl<;>exact trivial)
 rw [List.append_nil] at this;exact this
def QG (x:Ex):Prop:= ∀(y:Ex) (labs:List ByteArray) (n:Nat) (f:Nat->Nat->Bool),n<=1000->labs.length+(aB x).length<=n ->
 dN Tryz.prog 102 [.ptr 0 0 8 0 0, .agg (aS x)] (cv 0 y labs n f) (.agg [.aC 1 (cI n (jP x labs.length)) n, .aC 1 (cI n (ej x labs.length)) n, .v (.bool (aG x))]) (cv 0 y (labs++aB x) n (fun p q=>f p q||jO x labs.length p q))
theorem NI (s:ByteArray) (h1:ay (.mk 1 s [])=true) (hz: ∀z,z∈ai (.mk 1 s [])->z.kids.length<=1000000∧z.label.size<=1000000000000000):QG (.mk 1 s []):=by
 intro y labs n f hn hb;have E:=pT (.mk 1 s []) (by simp [ai,bE]) hz;rw [dj,h1,Bool.true_and] at E;simp only [aD,Ex.kind,Ex.label,Ex.kids,List.map_nil,List.length_nil] at E ⊢;refine gF Tryz.func102 Tryz.ntmps102 Tryz.results102 ?_;simp only [cv,bN,lH,Nat.zero_add];obtain ⟨I,hI⟩: ∃I,I=aV n f n:=⟨_,rfl⟩
 have hIl:I.length=2 * n:=by rw [hI,ag]
 rw [<-hI];generalize 2 * n=z at hIl;have g1:=fun tl j=>Kc hIl tl j;have g0:=fun tl=>rS hIl tl;have s1:=fun tl j x=>Kd hIl tl j x;have s0:=fun tl x=>rT hIl tl x
 repeat ((fail_if_success (with_reducible refine bB (i:=2) ?_));first|(with_reducible first|refine aA.up ?_|refine fun (K:AK) hK=> ?_|refine wK ?_|refine wF ?_|refine ae (by decide) ?_|refine ah (by decide) ?_|(refine hK _ ?_;clear hK K))|simp only [go_sem,hIl,g0,g1,s0,s1,Ug]|with_reducible refine wA ?_|clear hK K)
 refine Cs (n:=n) (em:=aG (.mk 1 s [])) (ax:= .agg [.v (.int .i64 1), .v (.string s), .aC 3 [] 0]) hn rfl (by decide+kernel) (by kernel_rfl) (by decide+kernel) (by simp) rfl ?_ E ?_
 ·(revert K;exact Hf hIl g0 g1 s1)
 ·(revert K;refine Ha hIl g0 g1 s1 ?_;intro K hK K hK)
  repeat ((fail_if_success (with_reducible refine bB (i:=4) ?_));first|(with_reducible first|refine aA.up ?_|refine fun (K:AK) hK=> ?_|refine wK ?_|refine wF ?_|refine ae (by decide) ?_|refine ah (by decide) ?_|(refine hK _ ?_;clear hK K))|simp only [go_sem,hIl,g0,g1,s0,s1,Ug]|with_reducible refine wA ?_|clear hK K)
  refine bV [8,11] [] (by decide+kernel) (by kernel_rfl) ?_
  repeat (first|(with_reducible first|refine aA.up ?_|refine fun (K:AK) hK=> ?_|refine wK ?_|refine wF ?_|refine ae (by decide) ?_|refine ah (by decide) ?_|(refine hK _ ?_;clear hK K))|simp only [go_sem,hIl,g0,g1,s0,s1,Ug]|with_reducible refine wA ?_|clear hK K)
  repeat ((fail_if_success (with_reducible refine bB (i:=5) ?_));first|(with_reducible first|refine aA.up ?_|refine fun (K:AK) hK=> ?_|refine wK ?_|refine wF ?_|refine ae (by decide) ?_|refine ah (by decide) ?_|(refine hK _ ?_;clear hK K))|simp only [go_sem,hIl,g0,g1,s0,s1,Ug]|with_reducible refine wA ?_|clear hK K)
  have hlt:labs.length<n:=by simp [aB] at hb;omega
  have eN:IntKind.i64.wrap (((labs.length+1:Nat):Int) - 1)=(labs.length:Int):=by rw [dr (by omega) (by omega)];omega
  have eR:=cN (g:=fun _=>false) hlt;have eS:=pj (N:=n) (j:=labs.length) (g:=fun _=>false) (v:=true);refine wE ?_
  repeat (first|(with_reducible first|refine aA.up ?_|refine fun (K:AK) hK=> ?_|refine wK ?_|refine wF ?_|refine ae (by decide) ?_|refine ah (by decide) ?_|(refine hK _ ?_;clear hK K))|simp only [go_sem,hIl,g0,g1,s0,s1,Ug,eN,eR,eS]|with_reducible refine wA ?_|clear hK K)
  repeat ((fail_if_success (with_reducible refine bB (i:=6) ?_));first|(with_reducible first|refine aA.up ?_|refine fun (K:AK) hK=> ?_|refine wK ?_|refine wF ?_|refine ae (by decide) ?_|refine ah (by decide) ?_|(refine hK _ ?_;clear hK K))|simp only [go_sem,hIl,g0,g1,s0,s1,Ug,eN,eR,eS]|with_reducible refine wA ?_|clear hK K)
  refine wE ?_
  repeat ((fail_if_success (with_reducible refine bB (i:=7) ?_));first|(with_reducible first|refine aA.up ?_|refine fun (K:AK) hK=> ?_|refine wK ?_|refine wF ?_|refine ae (by decide) ?_|refine ah (by decide) ?_|(refine hK _ ?_;clear hK K))|simp only [go_sem,hIl,g0,g1,s0,s1,Ug,eN,eR,eS]|with_reducible refine wA ?_|clear hK K)
  refine bb (dA (k:=z+2+1+1+1+2) (i:=0) (j:=0) (id:=z+2+1+1+1) (len:=n) (ob:=⟨152,3,false,[[.vec (z+2+1+1+1) n, .vec (z+2+1+1+1+1) n, .v (.bool (aG (.mk 1 s [])))]]⟩) (row:=[.vec (z+2+1+1+1) n, .vec (z+2+1+1+1+1) n, .v (.bool (aG (.mk 1 s [])))]) (ob2:=⟨4,1,true,cI n (fun q=>if q=labs.length then true else false)⟩)
   (by omega) (by simp only [VB,g1];rfl) (show 0<3 by decide) rfl rfl (by simp only [VB,g1];rfl) rfl (iW _ _)) (by kernel_rfl) ?_
  simp only [List.set_cons_succ,s1,List.set_cons_zero]
  refine bb (dA (k:=z+2+1+1+1+2) (i:=0) (j:=1) (id:=z+2+1+1+1+1) (len:=n) (ob:=⟨152,3,false,[[.aC 1 (cI n (fun q=>if q=labs.length then true else false)) n, .vec (z+2+1+1+1+1) n, .v (.bool (aG (.mk 1 s [])))]]⟩) (row:=[.aC 1 (cI n (fun q=>if q=labs.length then true else false)) n, .vec (z+2+1+1+1+1) n, .v (.bool (aG (.mk 1 s [])))]) (ob2:=⟨4,1,true,cI n (fun q=>if q=labs.length then true else false)⟩)
   (by omega) (by simp only [VB,g1];rfl) (show 0<3 by decide) rfl rfl (by simp only [VB,g1];rfl) rfl (iW _ _)) (by kernel_rfl) ?_
  simp only [List.set_cons_succ,s1,List.set_cons_zero]
  (revert K;revert K;refine Hb hIl g0 g1 s1 ?_)
  have eF:jP (.mk 1 s []) labs.length=fun q=>if q=labs.length then true else false:=by
   funext q
   rw [Bool.eq_iff_iff,ib];simp [jN]
  have eL:ej (.mk 1 s []) labs.length=fun q=>if q=labs.length then true else false:=by
   funext q
   rw [Bool.eq_iff_iff,ij];simp [jd]
  have eO:aV n (fun p q=>f p q||jO (.mk 1 s []) labs.length p q) n=I:=by
   rw [hI];refine ez fun p q _ _=> ?_
   have:jO (.mk 1 s []) labs.length p q=false:=by rw [<-Bool.not_eq_true,j8];simp [iI]
   rw [this,Bool.or_false]
  have e1':(labs++[s]).map encS=labs.map encS++[[.v (.string s)]]:=by simp [encS]
  have e2:aB (.mk 1 s [])=[s]:=by simp [aB]
  have e3:labs.length+[s].length=(labs++[s]).length:=by simp
  have e4:labs.length+1=(labs++[s]).length:=by simp
  rw [eF,eL,eO,e2,e3,e4, <- e1',hI];exact Cp (by rw [<-ag n f n, <- hI,hIl];omega) (fun m=>by simp only [AV.wf,aX,aU,Bool.and_self])
end
noncomputable def j7 (f:Nat->Nat->Bool) (b:Nat) (l:List Ex) (i p q:Nat):Bool:=f p q||(List.range i).any (fun j=>jO (kP l j) (oq b l j) p q)
theorem KD (f:Nat->Nat->Bool) (b:Nat) (l:List Ex):j7 f b l 0=f:=by funext p q;simp [j7]
theorem Be (f:Nat->Nat->Bool) (b:Nat) (l:List Ex) (i:Nat):(fun p q=>j7 f b l i p q||jO (kP l i) (oq b l i) p q)=j7 f b l (i+1):=by
 funext p q
 rw [j7,j7,List.range_succ,List.any_append];simp [W5]
def ou (labs:List ByteArray) (l:List Ex) (i:Nat):List ByteArray:=labs++aJ (l.take i)
theorem Mp (labs:List ByteArray) (l:List Ex):ou labs l 0=labs:=by simp [ou,aJ]
theorem KY (labs:List ByteArray) (l:List Ex) (i:Nat):(ou labs l i).length=oq labs.length l i:=by rw [ou,Ug,oq]
theorem sZ {labs:List ByteArray} {l:List Ex} {i:Nat} (h:i<l.length):ou labs l i++aB l[i]=ou labs l (i+1):=by
 rw [ou,ou,List.take_succ_eq_append_getElem h,gD,List.append_assoc];simp [aJ]
theorem HM {labs:List ByteArray} {l:List Ex} {i n:Nat} (h:i<l.length) (hn:labs.length+(aJ l).length<=n):(ou labs l i).length+(aB l[i]).length<=n:=by
 have e:(aJ l).length=(aJ (l.take (i+1))).length+(aJ (l.drop (i+1))).length:=by rw [<-Ug, <- gD,List.take_append_drop]
 have e2:(ou labs l i).length+(aB l[i]).length=(ou labs l (i+1)).length:=by rw [<-Ug,sZ h]
 rw [e2,ou,Ug];omega
noncomputable def EF (n b:Nat) (l:List Ex) (j:Nat):List AV:=[.aC 1 (cI n (jP (kP l j) (oq b l j))) n, .aC 1 (cI n (ej (kP l j) (oq b l j))) n, .v (.bool (aG (kP l j)))]
noncomputable def lv (n b:Nat) (l:List Ex) (i:Nat):List (List AV):=(List.range i).map (EF n b l)
theorem vj (n b:Nat) (l:List Ex) (i:Nat):(lv n b l i).length=i:=by simp [lv]
theorem Bu (n b:Nat) (l:List Ex) (i:Nat):lv n b l (i+1)=lv n b l i++[EF n b l i]:=by rw [lv,List.range_succ,List.map_append];rfl
theorem Hp {n b:Nat} {l:List Ex} {i j:Nat} (h:j<i):(lv n b l i).getD j []=EF n b l j:=by
 rw [List.getD_eq_getElem?_getD,lv,List.getElem?_map,List.getElem?_range h];rfl
theorem L4 (m n b:Nat) (l:List Ex) (j:Nat):aX m (EF n b l j)=true:=by simp only [EF,aX,AV.wf,aU,Wc]
theorem Aj (m n b:Nat) (l:List Ex) (i:Nat):bw m (lv n b l i)=true:=bz _ (L4 m n b l) _
theorem fx {m:Nat} {y:Ex} {labs:List ByteArray} {n:Nat} {f:Nat->Nat->Bool} {tl tl':List (Option aa)} (h:2 * n+3<=m) (ht:kE m tl tl') :
  kE m (some ⟨120,8,false,[lH 0 y labs.length n]⟩ :: some ⟨9,1,true,labs.map encS⟩ :: some ⟨54,1,true,aY 2 n n⟩ :: (aV n f n++tl))
   (some ⟨120,8,false,[lH 0 y labs.length n]⟩ :: some ⟨9,1,true,labs.map encS⟩ :: some ⟨54,1,true,aY 2 n n⟩ :: (aV n f n++tl')):=
 ll (n:=m) (a:=tl) (b:=tl') (l:=cv 0 y labs n f) (jb h) ht
theorem fy {m:Nat} {a b c d:aa} {ex:List (Option aa)} (ha:bw m a.rows=true) (hb:bw m b.rows=true) (hc:bw m c.rows=true) (hd:bw m d.rows=true) :
  kE m (some a :: some b :: none :: none :: some c :: some d :: ex) [some a,some b,none,none,some c,some d]:=
 ⟨.inr ⟨rfl,fun ob e=>by cases e;exact ha⟩, .inr ⟨rfl,fun ob e=>by cases e;exact hb⟩, .inl rfl, .inl rfl, .inr ⟨rfl,fun ob e=>by cases e;exact hc⟩, .inr ⟨rfl,fun ob e=>by cases e;exact hd⟩,by cases ex<;>exact trivial⟩
theorem nG (n:Nat) (f:Nat->Nat->Bool) (tl:List (Option aa)) (j:Nat):(aV n f n++tl)[2 * n+j]? = tl[j]? :=Kc (ag _ _ _) tl j
theorem x6 (n:Nat) (f:Nat->Nat->Bool) (tl:List (Option aa)):(aV n f n++tl)[2 * n]? = tl[0]? :=rS (ag _ _ _) tl
theorem nS (n:Nat) (f:Nat->Nat->Bool) (tl:List (Option aa)) (j:Nat) (x:Option aa):(aV n f n++tl).set (2 * n+j) x=aV n f n++tl.set j x:=Kd (ag _ _ _) tl j x
theorem x7 (n:Nat) (f:Nat->Nat->Bool) (tl:List (Option aa)) (x:Option aa):(aV n f n++tl).set (2 * n) x=aV n f n++tl.set 0 x:=rT (ag _ _ _) tl x
theorem ab.PT {F:FuncId} {args:List AV} {r0:AV} {K:AV->List (Option aa)->Prop} {y:Ex} {labs labs':List ByteArray} {n:Nat} {f f':Nat->Nat->Bool} {tl:List (Option aa)}
  (h:dN Tryz.prog F (.ptr 0 0 8 0 0 :: args) (cv 0 y labs n f) r0 (cv 0 y labs' n f')) (hwa: ∀m,aX m args=true) (hr: ∀m,r0.wf m=true)
  (k:K r0 (some ⟨120,8,false,[lH 0 y labs'.length n]⟩ :: some ⟨9,1,true,labs'.map encS⟩ :: some ⟨54,1,true,aY 2 n n⟩ :: (aV n f' n++tl))) :
  ab Tryz.prog F (.ptr 0 0 8 0 0 :: args) (some ⟨120,8,false,[lH 0 y labs.length n]⟩ :: some ⟨9,1,true,labs.map encS⟩ :: some ⟨54,1,true,aY 2 n n⟩ :: (aV n f n++tl)) K:=by
 have e:(cv 0 y labs n f).length=2 * n+3:=bO _ _ _ _ _;refine ab.sub (o0:=cv 0 y labs n f) (post:=tl) h (by rw [bO,bO]) ?_ (jb (by omega)) (fun ob hb=>jb (by omega) ob hb) (hr _) k;rw [aX,hwa,Bool.and_true,AV.wf,e];exact decide_eq_true (by omega)
theorem dL.PT {F:FuncId} {args:List AV} {r0:AV} {K:AV->List (Option aa)->Prop} {y:Ex} {labs labs':List ByteArray} {n:Nat} {f f':Nat->Nat->Bool} {tl:List (Option aa)}
  (h:dN Tryz.prog F (.ptr 0 0 8 0 0 :: args) (cv 0 y labs n f) r0 (cv 0 y labs' n f')) (hwa: ∀m,aX m args=true) (hr: ∀m,r0.wf m=true)
  (k:K r0 (some ⟨120,8,false,[lH 0 y labs'.length n]⟩ :: some ⟨9,1,true,labs'.map encS⟩ :: some ⟨54,1,true,aY 2 n n⟩ :: (aV n f' n++tl))) :
  dL Tryz.prog F (.ptr 0 0 8 0 0 :: args) (some ⟨120,8,false,[lH 0 y labs.length n]⟩ :: some ⟨9,1,true,labs.map encS⟩ :: some ⟨54,1,true,aY 2 n n⟩ :: (aV n f n++tl)) K:=by
 have e:(cv 0 y labs n f).length=2 * n+3:=bO _ _ _ _ _;refine dL.sub (o0:=cv 0 y labs n f) (post:=tl) h (by rw [bO,bO]) ?_ (jb (by omega)) (fun ob hb=>jb (by omega) ob hb) (hr _) k;rw [aX,hwa,Bool.and_true,AV.wf,e];exact decide_eq_true (by omega)
theorem KK {k:Int} {s:ByteArray} {l:List Ex} {b:Nat} (h1:k≠1):nM (k==2) (fun j=>aG (kP l j)) (fun j=>jP (kP l j) (oq b l j)) l.length=jP (.mk k s l) b:=by
 funext q
 rw [Wm,GU,ib,jN,if_neg h1]
 by_cases h2:k=2
 ·rw [if_pos h2,wj];simp only [h2,beq_self_eq_true,forall_const,ib]
 ·rw [if_neg h2,Ce];simp only [beq_false_of_ne h2,Vu,false_implies,true_and,ib]
theorem K2 {k:Int} {s:ByteArray} {l:List Ex} {b:Nat} (h1:k≠1):nT (k==2) l.length (fun j=>aG (kP l j)) (fun j=>ej (kP l j) (oq b l j)) l.length=ej (.mk k s l) b:=by
 funext q
 rw [Wm,Hv,ij,jd,if_neg h1]
 by_cases h2:k=2
 ·rw [if_pos h2,Cg];simp only [h2,beq_self_eq_true,forall_const,ij]
 ·rw [if_neg h2,Cf];simp only [beq_false_of_ne h2,Vu,false_implies,true_and,ij]
theorem CD {l:List Ex} {b p q:Nat}:(List.range l.length).any (fun j=>jO (kP l j) (oq b l j) p q)=true↔gS l b (p+1) (q+1):=by
 rw [wi];simp only [List.any_eq_true,List.mem_range,j8]
theorem KH {k:Int} {s:ByteArray} {l:List Ex} {b:Nat} {f:Nat->Nat->Bool} (h1:k≠1) (h4:k≠4) (h5:k≠5) :
  (fun p q=>j7 f b l l.length p q||jy (k==2) l.length (fun j=>aG (kP l j)) (fun j=>jP (kP l j) (oq b l j)) (fun j=>ej (kP l j) (oq b l j)) l.length p q)=fun p q=>f p q||jO (.mk k s l) b p q:=by
 funext p q
 rw [j7,W5]
 congr 1
 rw [Wm,Vl,CD,yV,j8,iI,if_neg h1]
 by_cases h2:k=2
 ·rw [if_pos h2,Cd,wi];simp only [h2,beq_self_eq_true,true_and,ib,ij]
 ·rw [if_neg h2];simp only [beq_false_of_ne h2,Vu,false_and,or_false,h4,h5,or_self]
theorem GW {k:Int} {s:ByteArray} {l:List Ex} {b:Nat} {f:Nat->Nat->Bool} (h45:k=4∨k=5) :
  (fun p q=>(j7 f b l l.length p q||jy (k==2) l.length (fun j=>aG (kP l j)) (fun j=>jP (kP l j) (oq b l j)) (fun j=>ej (kP l j) (oq b l j)) l.length p q)||(ej (.mk k s l) b p&&jP (.mk k s l) b q))=fun p q=>f p q||jO (.mk k s l) b p q:=by
 have h1:k≠1:=by omega
 have h2:k≠2:=by omega
 funext p q
 rw [j7,W5,W5]
 congr 1
 rw [Wm,Vl,Vl,UW,CD,yV,j8,iI,if_neg h1,if_neg h2,ij,ib,jd,if_neg h1,if_neg h2,jN,if_neg h1,if_neg h2];simp only [beq_false_of_ne h2,Vu,false_and,false_or,h45,true_and]
theorem KX {k:Int} {s:ByteArray} {labs:List ByteArray} {l:List Ex} (h1:k≠1):ou labs l l.length=labs++aB (.mk k s l):=by rw [ou,List.take_length,cK h1]
theorem Lj (k:Int) (h1:k≠1) (s:ByteArray) (l:List Ex) (hr:ay (.mk k s l)=true) (hp:(ai (.mk k s l)).length<=1000000) (hz: ∀z,z∈ai (.mk k s l)->z.kids.length<=1000000∧z.label.size<=1000000000000000) (H: ∀x,x∈l->QG x):QG (.mk k s l):=by
 intro y labs n f hn hb;have f1:(k==1)=false:=beq_false_of_ne h1;have E:=pT (.mk k s l) hp hz;rw [dj,hr,Vq] at E;simp only [aD,Ex.kind,Ex.label,Ex.kids] at E ⊢;have hIl:(aV n f n).length=2 * n:=ag _ _ _;have g1:=fun tl j=>Kc hIl tl j;have g0:=fun tl=>rS hIl tl;have s1:=fun tl j x=>Kd hIl tl j x;have s0:=fun tl x=>rT hIl tl x;refine gF Tryz.func102 Tryz.ntmps102 Tryz.results102 ?_;simp only [cv,bN,lH,Nat.zero_add]
 repeat ((fail_if_success (with_reducible refine bB (i:=2) ?_));first|(with_reducible first|refine aA.up ?_|refine fun (K:AK) hK=> ?_|refine wK ?_|refine wF ?_|refine ae (by decide) ?_|refine ah (by decide) ?_|(refine hK _ ?_;clear hK K))|simp only [go_sem,hIl,g0,g1,s0,s1,Ug]|with_reducible refine wA ?_|clear hK K)
 refine Cs (n:=n) (em:=aG (.mk k s l)) (ax:= .agg [.v (.int .i64 k), .v (.string s), .aC 3 (l.map aS) l.length]) hn rfl (by decide+kernel) (by kernel_rfl) (by decide+kernel) (by simp) rfl ?_ E ?_
 ·(revert K;exact Hf hIl g0 g1 s1)
 ·(revert K;refine Ha hIl g0 g1 s1 ?_;intro K hK)
  repeat ((fail_if_success (with_reducible refine bB (i:=8) ?_));first|(with_reducible first|refine aA.up ?_|refine fun (K:AK) hK=> ?_|refine wK ?_|refine wF ?_|refine ae (by decide) ?_|refine ah (by decide) ?_|(refine hK _ ?_;clear hK K))|simp only [go_sem,f1,hIl,g0,g1,s0,s1,Ug]|with_reducible refine wA ?_|clear hK K)
  refine bb (dA (k:=2 * n+2+1+1+1+2) (i:=0) (j:=0) (id:=2 * n+2+1+1+1) (len:=n) (ob:=⟨152,3,false,[[.vec (2 * n+2+1+1+1) n, .vec (2 * n+2+1+1+1+1) n, .v (.bool (aG (.mk k s l)))]]⟩) (row:=[.vec (2 * n+2+1+1+1) n, .vec (2 * n+2+1+1+1+1) n, .v (.bool (aG (.mk k s l)))]) (ob2:=⟨4,1,true,cI n (fun _=>false)⟩)
   (by omega) (by simp only [VB,g1];rfl) (show 0<3 by decide) rfl rfl (by simp only [VB,g1];rfl) rfl (iW _ _)) (by kernel_rfl) ?_
  simp only [List.set_cons_succ,s1,List.set_cons_zero]
  refine bb (dA (k:=2 * n+2+1+1+1+2) (i:=0) (j:=1) (id:=2 * n+2+1+1+1+1) (len:=n) (ob:=⟨152,3,false,[[.aC 1 (cI n (fun _=>false)) n, .vec (2 * n+2+1+1+1+1) n, .v (.bool (aG (.mk k s l)))]]⟩) (row:=[.aC 1 (cI n (fun _=>false)) n, .vec (2 * n+2+1+1+1+1) n, .v (.bool (aG (.mk k s l)))]) (ob2:=⟨4,1,true,cI n (fun _=>false)⟩)
   (by omega) (by simp only [VB,g1];rfl) (show 0<3 by decide) rfl rfl (by simp only [VB,g1];rfl) rfl (iW _ _)) (by kernel_rfl) ?_
  simp only [List.set_cons_succ,s1,List.set_cons_zero]
  (revert K;refine Hb hIl g0 g1 s1 ?_;intro K hK)
  clear g1 g0 s1 s0 hIl
  have hl24:l.length<=24:=by
   simp only [ay,UW,decide_eq_true_eq] at hr
   have:=kQ (.mk k s l);simp only [Ex.kids] at this;omega
  have hlab:labs.length+(aJ l).length<=n:=by rw [cK h1] at hb;exact hb
  refine mH (ι:=Nat) 7 152 3 rfl (by decide) 62 (fun i=>[(7, .vec (2 * n+5+1+1+1) i),(8, .v (.int .i64 i)),(9, .undef)]) (fun i=>some ⟨120,8,false,[lH 0 y (ou labs l i).length n]⟩ :: some ⟨9,1,true,(ou labs l i).map encS⟩ :: some ⟨54,1,true,aY 2 n n⟩ :: (aV n (j7 f labs.length l i) n++[some ⟨25,3,false,[[.v (.int .i64 k), .v (.string s), .aC 3 (l.map aS) l.length]]⟩,some ⟨152,3,false,[[.v (.slice none 0 0), .v (.slice none 0 0), .v (.bool false)]]⟩,none,none,some ⟨152,3,false,[[.aC 1 (cI n (fun _=>false)) n, .aC 1 (cI n (fun _=>false)) n, .v (.bool (aG (.mk k s l)))]]⟩,some ⟨152,3,true,lv n labs.length l i⟩])) (fun i=>l.length - i) (fun i=>i<=l.length) 0 (by omega) ?_ ?_
  ·refine aj ?_ ?_ ?_
   ·simp only [Uh,Ug,ag,Ub];simp only [go_sem,dt,true_or,or_true,true_and,and_true,false_or,UW,decide_eq_true_eq,AV.v.injEq,Value.int.injEq];omega
   ·simp only [Mp,KD,List.cons_append,List.append_assoc];exact fx (by simp only [Uh,Ug,ag,Ub];omega) (fy (by simp only [bw,aX,AV.wf,bf,Wc]) rfl (by simp only [bw,aX,AV.wf,aU,Wc]) rfl)
   ·simp only [Uh,Ug,ag,Ub];omega
  ·intro i hi K hK
   (revert K;revert K;refine Hd ?_;intro K hK K hK K hK)
   refine bC.part (fun h=> ?_) (fun h=> ?_)
   ·have hlt:i<l.length:=by replace h:=bJ h;omega
    have eW:=ak (k:=i) (by omega);have eG:=getD_map aS l i [] hlt;have HX:=H l[i] (List.getElem_mem hlt) y (ou labs l i) n (j7 f labs.length l i) hn (HM hlt hlab);rw [KY,sZ hlt, <- Hs hlt,Be] at HX;have hkr:=Bu n labs.length l i;simp only [EF] at hkr;rw [Hs hlt] at HX hkr;simp only [aD] at HX eG
    repeat (first|(with_reducible first|refine aA.up ?_|refine fun (K:AK) hK=> ?_|refine wE ?_|refine wK ?_|refine wF ?_|refine ae (by decide) ?_|refine ah (by decide) ?_|(refine hK _ ?_;clear hK K))|simp only [go_sem,eG,nG,x6,nS,x7,ag,Ug]|with_reducible refine wA ?_|clear hK K)
    refine ab.PT HX (fun m=>by simp only [aX,AV.wf,bf,Wc]) (fun m=>by simp only [AV.wf,aX,aU,Wc]) ?_
    repeat (first|(with_reducible first|refine aA.up ?_|refine fun (K:AK) hK=> ?_|refine wE ?_|refine wK ?_|refine wF ?_|refine ae (by decide) ?_|refine ah (by decide) ?_|(refine hK _ ?_;clear hK K))|simp only [go_sem,eW,nG,x6,nS,x7,ag,Ug,vj]|with_reducible refine wA ?_|clear hK K)
    rw [<-hkr]
    refine az.mk (i+1) (by omega) (by omega) (aj ?_ ?_ ?_)
    ·simp only [Uh,Ug,ag,Ub];simp only [go_sem,dt,true_or,or_true,true_and,and_true,false_or,UW,decide_eq_true_eq,AV.v.injEq,Value.int.injEq];omega
    ·exact fx (by simp only [Uh,Ug,ag,Ub];omega) (fy (by simp only [bw,aX,AV.wf,bf,Wc]) rfl (by simp only [bw,aX,AV.wf,aU,Wc]) (Aj _ _ _ _ _))
    ·simp only [Uh,Ug,ag,Ub];omega
   ·have hie:i=l.length:=by replace h:=bJ h;omega
    simp only [hie];have hKR: ∀j,j<l.length->(lv n labs.length l l.length).getD j []=[.aC 1 (cI n ((fun j=>jP (kP l j) (oq labs.length l j)) j)) n, .aC 1 (cI n ((fun j=>ej (kP l j) (oq labs.length l j)) j)) n, .v (.bool ((fun j=>aG (kP l j)) j))]:=fun j hj=>Hp hj;obtain ⟨F,hF⟩: ∃F:Nat->Nat->Bool,F=fun j=>jP (kP l j) (oq labs.length l j):=⟨_,rfl⟩;obtain ⟨L,hL⟩: ∃L:Nat->Nat->Bool,L=fun j=>ej (kP l j) (oq labs.length l j):=⟨_,rfl⟩;obtain ⟨Em,hEm⟩: ∃Em:Nat->Bool,Em=fun j=>aG (kP l j):=⟨_,rfl⟩;rw [<-hF, <- hL, <- hEm] at hKR;have hKl:=vj n labs.length l l.length;have hwK: ∀m,bw m (lv n labs.length l l.length)=true:=fun m=>Aj m _ _ _ _;obtain ⟨KR,hKe⟩: ∃KR,KR=lv n labs.length l l.length:=⟨_,rfl⟩;rw [<-hKe] at hKR hKl hwK ⊢;obtain ⟨fa,hfa⟩: ∃fa,fa=j7 f labs.length l l.length:=⟨_,rfl⟩;rw [<-hfa];obtain ⟨sq,hsq⟩: ∃sq,sq=(k==2):=⟨_,rfl⟩
    have hsn:(k !=2) = !sq:=by rw [hsq];rfl
    have e0:(fun _=>false)=nM sq Em F 0:=by funext q;simp [nM]
    have e0':(fun _=>false)=nT sq l.length Em L 0:=by funext q;simp [nT]
    have ef0:fa=fun p q=>fa p q||jy sq l.length Em F L 0 p q:=by funext p q;simp [jy]
    ((iterate 3 revert K);refine u9 hKl ?_;intro K hK)
    refine aT (ι:=Nat) 80 (fun i=>[(10, .v (.int .i64 i)),(11, .undef),(12, .undef),(13, .undef),(14, .undef),(15, .undef),(16, .undef)]) (fun i=>some ⟨120,8,false,[lH 0 y (ou labs l l.length).length n]⟩ :: some ⟨9,1,true,(ou labs l l.length).map encS⟩ :: some ⟨54,1,true,aY 2 n n⟩ :: (aV n (fun p q=>fa p q||jy sq l.length Em F L i p q) n++[some ⟨25,3,false,[[.v (.int .i64 k), .v (.string s), .aC 3 (l.map aS) l.length]]⟩,some ⟨152,3,false,[[.v (.slice none 0 0), .v (.slice none 0 0), .v (.bool false)]]⟩,none,none,some ⟨152,3,false,[[.aC 1 (cI n (nM sq Em F i)) n, .aC 1 (cI n (nT sq l.length Em L i)) n, .v (.bool (aG (.mk k s l)))]]⟩,some ⟨152,3,true,KR⟩])) (fun i=>l.length - i) (fun i=>i<=l.length) 0 (by omega) ?_ ?_
    ·simp only [<-e0, <- e0', <- ef0]
     refine aj ?_ ?_ ?_
     ·simp only [Uh,Ug,ag,Ub];simp only [go_sem,dt,true_or,or_true,true_and,and_true,false_or,UW,decide_eq_true_eq,AV.v.injEq,Value.int.injEq,Value.bool.injEq];omega
     ·exact fx (by simp only [Uh,Ug,ag,Ub];omega) (fy (by simp only [bw,aX,AV.wf,bf,Wc]) rfl (by simp only [bw,aX,AV.wf,aU,Wc]) (hwK _))
     ·simp only [Uh,Ug,ag,Ub];omega
    ·intro i hi K hK
     (revert K;revert K;refine u9 hKl ?_;intro K hK K hK K hK)
     refine bC.part (fun h=> ?_) (fun h=> ?_)
     ·have hlt:i<l.length:=by replace h:=bJ h;omega
      have eW:=ak (k:=i) (by omega);have eKi:=hKR i hlt
      ((iterate 3 revert K);refine u9 hKl ?_;iterate 4 intro K hK)
      refine bo (ι:=Nat) 86 (fun j=>[(11, .v (.bool (pO sq Em i j))),(13, .v (.int .i64 j))]) (fun j=>i - j) (fun j=>j<=i) 0 (by omega) ?_ ?_
      ·have e3:pO sq Em i 0=true:=by simp [pO]
       rw [e3]
       refine aj ?_ ?_ ?_
       ·simp only [Uh,Ug,ag,Ub];simp only [go_sem,dt,true_or,or_true,true_and,and_true,false_or,UW,decide_eq_true_eq,AV.v.injEq,Value.int.injEq,Value.bool.injEq];omega
       ·exact fx (by simp only [Uh,Ug,ag,Ub];omega) (fy (by simp only [bw,aX,AV.wf,bf,Wc]) rfl (by simp only [bw,aX,AV.wf,aU,Wc]) (hwK _))
       ·simp only [Uh,Ug,ag,Ub];omega
      ·intro j hj K hK
       ((iterate 5 revert K);refine u9 hKl ?_;iterate 6 intro K hK)
       refine bC.part (fun hc=> ?_) (fun hc=> ?_)
       ·have hji:j<i:=by replace hc:=bJ hc;omega
        have eV:=ak (k:=j) (by omega);have eKj:=hKR j (by omega);have eA:=DO sq Em i j
        rcases VT (pO sq Em i j) with ha|ha
        rotate_left 1
        ·rw [ha,WV] at eA
         ((iterate 6 revert K);refine CO ha eV ?_)
         refine az.mk (j+1) (by omega) (by omega) ?_;rw [eA]
         refine aj ?_ ?_ ?_
         ·simp only [Uh,Ug,ag,Ub];simp only [go_sem,dt,true_or,or_true,true_and,and_true,false_or,UW,decide_eq_true_eq,AV.v.injEq,Value.int.injEq,Value.bool.injEq];omega
         ·exact fx (by simp only [Uh,Ug,ag,Ub];omega) (fy (by simp only [bw,aX,AV.wf,bf,Wc]) rfl (by simp only [bw,aX,AV.wf,aU,Wc]) (hwK _))
         ·simp only [Uh,Ug,ag,Ub];omega
        ·rw [ha,Vq] at eA
         rcases VT sq with hs|hs
         ·rw [hs] at hsn;rw [show (!sq||Em j)=Em j by rw [hs];rfl] at eA;simp only [Bool.not_true] at hsn
          repeat (first|(with_reducible first|refine aA.up ?_|refine fun (K:AK) hK=> ?_|refine wE ?_|refine wK ?_|refine wF ?_|refine ae (by decide) ?_|refine ah (by decide) ?_|(refine hK _ ?_;clear hK K))|simp only [go_sem,nG,x6,nS,x7,ag,Ug,ha,hsn,hKl,eKj,eV,Go.undef]|with_reducible refine wA ?_|clear hK K)
          refine az.mk (j+1) (by omega) (by omega) ?_;rw [eA]
          refine aj ?_ ?_ ?_
          ·simp only [Uh,Ug,ag,Ub];simp only [go_sem,dt,true_or,or_true,true_and,and_true,false_or,UW,decide_eq_true_eq,AV.v.injEq,Value.int.injEq,Value.bool.injEq];omega
          ·exact fx (by simp only [Uh,Ug,ag,Ub];omega) (fy (by simp only [bw,aX,AV.wf,bf,Wc]) rfl (by simp only [bw,aX,AV.wf,aU,Wc]) (hwK _))
          ·simp only [Uh,Ug,ag,Ub];omega
         ·rw [hs] at hsn;rw [show (!sq||Em j)=true by rw [hs];rfl] at eA;simp only [Bool.not_false] at hsn
          ((iterate 6 revert K);refine Mm ha hsn hKl eKj eV ?_)
          refine az.mk (j+1) (by omega) (by omega) ?_;rw [eA]
          refine aj ?_ ?_ ?_
          ·simp only [Uh,Ug,ag,Ub];simp only [go_sem,dt,true_or,or_true,true_and,and_true,false_or,UW,decide_eq_true_eq,AV.v.injEq,Value.int.injEq,Value.bool.injEq];omega
          ·exact fx (by simp only [Uh,Ug,ag,Ub];omega) (fy (by simp only [bw,aX,AV.wf,bf,Wc]) rfl (by simp only [bw,aX,AV.wf,aU,Wc]) (hwK _))
          ·simp only [Uh,Ug,ag,Ub];omega
       ·have hje:j=i:=by replace hc:=bJ hc;omega
        simp only [hje]
        ((iterate 6 revert K);refine u9 eW ?_;iterate 4 intro K hK)
        refine bo (ι:=Nat) 106 (fun j=>[(12, .v (.bool (pQ sq Em i j))),(14, .v (.int .i64 j))]) (fun j=>l.length - j) (fun j=>i+1<=j∧j<=l.length) (i+1) ⟨by omega,by omega⟩ ?_ ?_
        ·rw [Gy]
         refine aj ?_ ?_ ?_
         ·simp only [Uh,Ug,ag,Ub];simp only [go_sem,dt,true_or,or_true,true_and,and_true,false_or,UW,decide_eq_true_eq,AV.v.injEq,Value.int.injEq,Value.bool.injEq];omega
         ·exact fx (by simp only [Uh,Ug,ag,Ub];omega) (fy (by simp only [bw,aX,AV.wf,bf,Wc]) rfl (by simp only [bw,aX,AV.wf,aU,Wc]) (hwK _))
         ·simp only [Uh,Ug,ag,Ub];omega
        ·rintro j ⟨hj1,hj2⟩ K hK
         ((iterate 5 revert K);refine u9 hKl ?_;iterate 6 intro K hK)
         refine bC.part (fun hc=> ?_) (fun hc=> ?_)
         ·have hji:j<l.length:=by replace hc:=bJ hc;omega
          have eV:=ak (k:=j) (by omega);have eKj:=hKR j (by omega);have eA:=Eb sq Em (i:=i) (k:=j) (by omega)
          rcases VT (pQ sq Em i j) with ha|ha
          rotate_left 1
          ·rw [ha,WV] at eA
           ((iterate 6 revert K);refine CO ha eV ?_)
           refine az.mk (j+1) (by omega) (by omega) ?_;rw [eA]
           refine aj ?_ ?_ ?_
           ·simp only [Uh,Ug,ag,Ub];simp only [go_sem,dt,true_or,or_true,true_and,and_true,false_or,UW,decide_eq_true_eq,AV.v.injEq,Value.int.injEq,Value.bool.injEq];omega
           ·exact fx (by simp only [Uh,Ug,ag,Ub];omega) (fy (by simp only [bw,aX,AV.wf,bf,Wc]) rfl (by simp only [bw,aX,AV.wf,aU,Wc]) (hwK _))
           ·simp only [Uh,Ug,ag,Ub];omega
          ·rw [ha,Vq] at eA
           rcases VT sq with hs|hs
           ·rw [hs] at hsn;rw [show (!sq||Em j)=Em j by rw [hs];rfl] at eA;simp only [Bool.not_true] at hsn
            repeat (first|(with_reducible first|refine aA.up ?_|refine fun (K:AK) hK=> ?_|refine wE ?_|refine wK ?_|refine wF ?_|refine ae (by decide) ?_|refine ah (by decide) ?_|(refine hK _ ?_;clear hK K))|simp only [go_sem,nG,x6,nS,x7,ag,Ug,ha,hsn,hKl,eKj,eV,Go.undef]|with_reducible refine wA ?_|clear hK K)
            refine az.mk (j+1) (by omega) (by omega) ?_;rw [eA]
            refine aj ?_ ?_ ?_
            ·simp only [Uh,Ug,ag,Ub];simp only [go_sem,dt,true_or,or_true,true_and,and_true,false_or,UW,decide_eq_true_eq,AV.v.injEq,Value.int.injEq,Value.bool.injEq];omega
            ·exact fx (by simp only [Uh,Ug,ag,Ub];omega) (fy (by simp only [bw,aX,AV.wf,bf,Wc]) rfl (by simp only [bw,aX,AV.wf,aU,Wc]) (hwK _))
            ·simp only [Uh,Ug,ag,Ub];omega
           ·rw [hs] at hsn;rw [show (!sq||Em j)=true by rw [hs];rfl] at eA;simp only [Bool.not_false] at hsn
            ((iterate 6 revert K);refine Mm ha hsn hKl eKj eV ?_)
            refine az.mk (j+1) (by omega) (by omega) ?_;rw [eA]
            refine aj ?_ ?_ ?_
            ·simp only [Uh,Ug,ag,Ub];simp only [go_sem,dt,true_or,or_true,true_and,and_true,false_or,UW,decide_eq_true_eq,AV.v.injEq,Value.int.injEq,Value.bool.injEq];omega
            ·exact fx (by simp only [Uh,Ug,ag,Ub];omega) (fy (by simp only [bw,aX,AV.wf,bf,Wc]) rfl (by simp only [bw,aX,AV.wf,aU,Wc]) (hwK _))
            ·simp only [Uh,Ug,ag,Ub];omega
         ·have hje2:j=l.length:=by replace hc:=bJ hc;omega
          simp only [hje2];have C1:=sg n (nM sq Em F i) (F i) hn;have C2:=sg n (nT sq l.length Em L i) (L i) hn
          have eF1:nM sq Em F (i+1)=fun q=>nM sq Em F i q||(pO sq Em i i&&F i q):=by funext q;exact El sq Em F i q
          have eL1:nT sq l.length Em L (i+1)=fun q=>nT sq l.length Em L i q||(pQ sq Em i l.length&&L i q):=by funext q;exact EK sq l.length Em L i q
          have eg0:(fun p q=>(fa p q||jy sq l.length Em F L i p q)||lE sq Em F L i (i+1) p q)=fun p q=>fa p q||jy sq l.length Em F L i p q:=by funext p q;rw [H6,Bool.or_false]
          have eX: ∀j,i<j->j<=l.length->(j=l.length∨nc sq Em i j=false)->(fun p q=>(fa p q||jy sq l.length Em F L i p q)||lE sq Em F L i j p q)=fun p q=>fa p q||jy sq l.length Em F L (i+1) p q:=fun j h1 h2 h3=>by
           funext p q
           rw [Er, <- W5]
           rcases h3 with e|e
           ·rw [e]
           ·rw [K0 sq Em F L h1 e h2]
          have hbs:(k==2)=nc sq Em i (i+1):=by rw [GB];exact hsq.symm
          rcases VT (pO sq Em i i) with hA|hA<;>rcases VT (pQ sq Em i l.length) with hB|hB
          all_goals
           simp only [hA,hB,Vq,WV,Bool.or_false] at eF1 eL1
           repeat (first|(with_reducible first|refine aA.up ?_|refine fun (K:AK) hK=> ?_|refine wE ?_|refine wK ?_|refine wF ?_|refine ae (by decide) ?_|refine ah (by decide) ?_|(refine hK _ ?_;clear hK K))|simp only [go_sem,nG,x6,nS,x7,ag,Ug,hA,hB,hKl,eKi]|with_reducible refine wA ?_|clear hK K)
           (try ((first|(refine ba.one C1 ?_)|(refine ba.one C2 ?_));repeat (first|(with_reducible first|refine aA.up ?_|refine fun (K:AK) hK=> ?_|refine wE ?_|refine wK ?_|refine wF ?_|refine ae (by decide) ?_|refine ah (by decide) ?_|(refine hK _ ?_;clear hK K))|simp only [go_sem,nG,x6,nS,x7,ag,Ug,hA,hB,hKl,eKi,eW]|with_reducible refine wA ?_|clear hK K)))
           (try ((refine ba.one C2 ?_);((iterate 5 revert K);refine Pw hA hB hKl eKi eW ?_;intro K hK K hK K hK)))
           refine aT (ι:=Nat) 150 (fun j=>[(15, .v (.bool (nc sq Em i j))),(16, .v (.int .i64 j))]) (fun j=>some ⟨120,8,false,[lH 0 y (ou labs l l.length).length n]⟩ :: some ⟨9,1,true,(ou labs l l.length).map encS⟩ :: some ⟨54,1,true,aY 2 n n⟩ :: (aV n (fun p q=>(fa p q||jy sq l.length Em F L i p q)||lE sq Em F L i j p q) n++[some ⟨25,3,false,[[.v (.int .i64 k), .v (.string s), .aC 3 (l.map aS) l.length]]⟩,some ⟨152,3,false,[[.v (.slice none 0 0), .v (.slice none 0 0), .v (.bool false)]]⟩,none,none,some ⟨152,3,false,[[.aC 1 (cI n (nM sq Em F (i+1))) n, .aC 1 (cI n (nT sq l.length Em L (i+1))) n, .v (.bool (aG (.mk k s l)))]]⟩,some ⟨152,3,true,KR⟩])) (fun j=>l.length - j) (fun j=>i+1<=j∧j<=l.length) (i+1) ⟨by omega,by omega⟩ ?_ ?_
           ·rw [eg0,eF1,eL1, <- hbs]
            refine aj ?_ ?_ ?_
            ·simp only [Uh,Ug,ag,Ub];simp only [go_sem,dt,true_or,or_true,true_and,and_true,false_or,UW,decide_eq_true_eq,AV.v.injEq,Value.int.injEq,Value.bool.injEq];omega
            ·exact fx (by simp only [Uh,Ug,ag,Ub];omega) (fy (by simp only [bw,aX,AV.wf,bf,Wc]) rfl (by simp only [bw,aX,AV.wf,aU,Wc]) (hwK _))
            ·simp only [Uh,Ug,ag,Ub];omega
           ·rintro j ⟨hj1,hj2⟩ K hK
            rcases VT (decide ((j:Int)<(l.length:Int))) with hc|hc
            ·have hji:j<l.length:=by replace hc:=bJ hc;omega
             rcases VT (nc sq Em i j) with hbt|hbt
             ·have eV:=ak (k:=j) (by omega);have eKj:=hKR j hji;have eBt:=uU sq Em (i:=i) (k:=j) (by omega);rw [hbt,Vq] at eBt
              have eg:(fun p q=>((fa p q||jy sq l.length Em F L i p q)||lE sq Em F L i j p q)||(L i p&&F j q))=fun p q=>(fa p q||jy sq l.length Em F L i p q)||lE sq Em F L i (j+1) p q:=by
               funext p q;rw [vu sq Em F L (by omega),hbt,Vq,W5 _ (lE sq Em F L i j p q)]
              have LK:=zp y (ou labs l l.length) n hn (fun p q=>(fa p q||jy sq l.length Em F L i p q)||lE sq Em F L i j p q) (L i) (F j);rw [eg] at LK
              repeat ((fail_if_success (with_reducible refine bB (i:=34) ?_));first|(with_reducible first|refine aA.up ?_|refine fun (K:AK) hK=> ?_|refine wK ?_|refine wF ?_|refine ae (by decide) ?_|refine ah (by decide) ?_|(refine hK _ ?_;clear hK K))|simp only [go_sem,nG,x6,nS,x7,ag,Ug,hc,hbt,hKl,Go.undef]|with_reducible refine wA ?_|clear hK K)
              refine bV [11] [] (by decide+kernel) (by kernel_rfl) ?_
              repeat (first|(with_reducible first|refine aA.up ?_|refine fun (K:AK) hK=> ?_|refine wK ?_|refine wF ?_|refine ae (by decide) ?_|refine ah (by decide) ?_|(refine hK _ ?_;clear hK K))|simp only [go_sem,nG,x6,nS,x7,ag,Ug,hc,hbt,hKl,eKi,eKj,Go.undef]|with_reducible refine wA ?_|clear hK K)
              refine dL.PT LK (fun m=>by simp only [aX,AV.wf,aU,Wc]) (fun m=>rfl) ?_
              repeat (first|(with_reducible first|refine aA.up ?_|refine fun (K:AK) hK=> ?_|refine wE ?_|refine wK ?_|refine wF ?_|refine ae (by decide) ?_|refine ah (by decide) ?_|(refine hK _ ?_;clear hK K))|simp only [go_sem,nG,x6,nS,x7,ag,Ug,hKl,eKj,eV,Go.undef]|with_reducible refine wA ?_|clear hK K)
              rw [<-eBt];refine az.mk (j+1) ⟨by omega,by omega⟩ (by omega) ?_
              refine aj ?_ ?_ ?_
              ·simp only [Uh,Ug,ag,Ub];simp only [go_sem,dt,true_or,or_true,true_and,and_true,false_or,UW,decide_eq_true_eq,AV.v.injEq,Value.int.injEq,Value.bool.injEq];omega
              ·exact fx (by simp only [Uh,Ug,ag,Ub];omega) (fy (by simp only [bw,aX,AV.wf,bf,Wc]) rfl (by simp only [bw,aX,AV.wf,aU,Wc]) (hwK _))
              ·simp only [Uh,Ug,ag,Ub];omega
             ·repeat (first|(with_reducible first|refine aA.up ?_|refine fun (K:AK) hK=> ?_|refine wE ?_|refine wK ?_|refine wF ?_|refine ae (by decide) ?_|refine ah (by decide) ?_|(refine hK _ ?_;clear hK K))|simp only [go_sem,nG,x6,nS,x7,ag,Ug,hc,hbt,hKl,Go.undef,eW]|with_reducible refine wA ?_|clear hK K)
              rw [eX j (by omega) hj2 (.inr hbt)];refine az.mk (i+1) (by omega) (by omega) ?_
              refine aj ?_ ?_ ?_
              ·simp only [Uh,Ug,ag,Ub];simp only [go_sem,dt,true_or,or_true,true_and,and_true,false_or,UW,decide_eq_true_eq,AV.v.injEq,Value.int.injEq,Value.bool.injEq];omega
              ·exact fx (by simp only [Uh,Ug,ag,Ub];omega) (fy (by simp only [bw,aX,AV.wf,bf,Wc]) rfl (by simp only [bw,aX,AV.wf,aU,Wc]) (hwK _))
              ·simp only [Uh,Ug,ag,Ub];omega
            ·repeat (first|(with_reducible first|refine aA.up ?_|refine fun (K:AK) hK=> ?_|refine wE ?_|refine wK ?_|refine wF ?_|refine ae (by decide) ?_|refine ah (by decide) ?_|(refine hK _ ?_;clear hK K))|simp only [go_sem,nG,x6,nS,x7,ag,Ug,hc,hKl,Go.undef,eW]|with_reducible refine wA ?_|clear hK K)
             rw [eX j (by omega) hj2 (.inl (by replace hc:=bJ hc;omega))];refine az.mk (i+1) (by omega) (by omega) ?_
             refine aj ?_ ?_ ?_
             ·simp only [Uh,Ug,ag,Ub];simp only [go_sem,dt,true_or,or_true,true_and,and_true,false_or,UW,decide_eq_true_eq,AV.v.injEq,Value.int.injEq,Value.bool.injEq];omega
             ·exact fx (by simp only [Uh,Ug,ag,Ub];omega) (fy (by simp only [bw,aX,AV.wf,bf,Wc]) rfl (by simp only [bw,aX,AV.wf,aU,Wc]) (hwK _))
             ·simp only [Uh,Ug,ag,Ub];omega
     ·have hie2:i=l.length:=by replace h:=bJ h;omega
      simp only [hie2]
      have hFI:nM sq Em F l.length=jP (.mk k s l) labs.length:=by rw [hsq,hEm,hF];exact KK h1
      have hLI:nT sq l.length Em L l.length=ej (.mk k s l) labs.length:=by rw [hsq,hEm,hL];exact K2 h1
      rw [hFI,hLI];have elb:ou labs l l.length=labs++aB (.mk k s l):=KX h1
      have e3:labs.length+(aB (.mk k s l)).length=(ou labs l l.length).length:=by rw [elb,Ug]
      by_cases h45:k=4∨k=5
      ·have hM:(fun p q=>(fa p q||jy sq l.length Em F L l.length p q)||(ej (.mk k s l) labs.length p&&jP (.mk k s l) labs.length q))=fun p q=>f p q||jO (.mk k s l) labs.length p q:=by
        rw [hfa,hsq,hEm,hF,hL];exact GW h45
       have LK:=zp y (ou labs l l.length) n hn (fun p q=>fa p q||jy sq l.length Em F L l.length p q) (ej (.mk k s l) labs.length) (jP (.mk k s l) labs.length);rw [hM] at LK
       rcases h45 with h4|h5
       ·have c4:(k==4)=true:=by rw [h4];rfl
        ((iterate 3 revert K);refine Px c4 ?_;intro K hK K hK)
        refine ab.PT LK (fun m=>by simp only [aX,AV.wf,aU,Wc]) (fun m=>rfl) ?_
        (revert K;revert K;refine Hd ?_)
        rw [e3, <- elb];exact Cp (by omega) (fun m=>by simp only [AV.wf,aX,aU,Wc])
       ·have c4:(k==4)=false:=by rw [h5];rfl
        have c5:(k==5)=true:=by rw [h5];rfl
        ((iterate 3 revert K);refine CO c4 c5 ?_;intro K hK K hK)
        refine ab.PT LK (fun m=>by simp only [aX,AV.wf,aU,Wc]) (fun m=>rfl) ?_
        (revert K;revert K;refine Hd ?_)
        rw [e3, <- elb];exact Cp (by omega) (fun m=>by simp only [AV.wf,aX,aU,Wc])
      ·have c4:(k==4)=false:=beq_false_of_ne (fun e=>h45 (.inl e));have c5:(k==5)=false:=beq_false_of_ne (fun e=>h45 (.inr e))
       have hM:(fun p q=>fa p q||jy sq l.length Em F L l.length p q)=fun p q=>f p q||jO (.mk k s l) labs.length p q:=by
        rw [hfa,hsq,hEm,hF,hL];exact KH h1 (fun e=>h45 (.inl e)) (fun e=>h45 (.inr e))
       rw [hM]
       ((iterate 3 revert K);refine CO c4 c5 ?_)
       rw [e3, <- elb];exact Cp (by omega) (fun m=>by simp only [AV.wf,aX,aU,Wc])
end Go.Proofs.YtfflpdekojlnmaaGreatDoor
