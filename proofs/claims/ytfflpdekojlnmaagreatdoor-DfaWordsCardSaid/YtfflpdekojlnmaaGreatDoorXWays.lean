/- texts of one claim, one behind the other. -/
import Derived.Test.YtfflpdekojlnmaaGreatDoorXOpenX
import Derived.Test.YtfflpdekojlnmaaGreatDoorXLaw07
import Derived.Test.YtfflpdekojlnmaaGreatDoorXLens
import Derived.Test.YtfflpdekojlnmaaGreatDoorXDfaD
import Derived.Test.YtfflpdekojlnmaaGreatDoorXLang
import Derived.Test.YtfflpdekojlnmaaGreatDoorXAbsV
import Derived.Test.YtfflpdekojlnmaaGreatDoorXDfaR
set_option linter.unusedSimpArgs false
set_option linter.unusedVariables false
set_option maxRecDepth 100000
set_option maxHeartbeats 16000000
open Bool renaming and_self -> Wc, and_true -> VC, true_and -> Vq, eq_iff_iff -> Wm, and_eq_true -> UW, not_eq_true -> WT, and_false -> WU, false_and -> WV
open List renaming take_length -> WR, getD_eq_getElem?_getD -> U3, getElem?_eq_getElem -> Uq, take_succ_eq_append_getElem -> Wg, length_cons -> Uh, cons_append -> VK, length_nil -> Ub, replicate_succ -> WC, replicate_zero -> WS, nil_append -> VJ, drop_eq_getElem_cons -> Vd, foldl_cons -> VN, foldl_nil -> VO, getElem_mem -> Vx, all_eq_true -> Vj, getElem_of_mem -> WW, map_nil -> Wi, take_of_length_le -> Wl, mem_cons_of_mem -> U8
open Nat renaming zero_le -> Ui, lt_add_one -> Ww, zero_lt_one -> Wx, lt_or_ge -> Ue, zero_add -> UU
open Option.some renaming inj -> T6
namespace Go.Proofs.YtfflpdekojlnmaaGreatDoor
open Go.RowKit
theorem vv (x:Ex): ∀d:Nat,d<=61->ar Tryz.prog 7 [.agg (aS x), .v (.int .i64 d)] (.v (.int .i64 (sX x d:Nat))):=by
 induction x using Ex.ind with
 | h k s l ih=>
  intro d hd61;simp only [aD,sX,Ex.kind,Ex.label,Ex.kids]
  by_cases hdd:60<d
  ·rw [if_pos hdd];have hd0:decide (60<(d:Int))=true:=decide_eq_true (by omega);refine gE Tryz.func7 Tryz.ntmps7 Tryz.results7 ?_;refine aK hd0 ?_
   rfl
  ·rw [if_neg hdd];have hd0:decide (60<(d:Int))=false:=decide_eq_false (by omega);have eD:=ak (k:=d) (by omega);refine gE Tryz.func7 Tryz.ntmps7 Tryz.results7 ?_
   (refine aK hd0 ?_;intro K hK)
   refine bo (ι:=Nat) 9 (fun i=>[(5, .v (.int .i64 (sL (l.take i) (d+1) 1:Nat))),(6, .v (.int .i64 i))]) (fun i=>l.length - i) (fun i=>i<=l.length∧i+1<=sL (l.take i) (d+1) 1) 0 ⟨Ui _,Nat.le_refl _⟩ ?_ ?_
   ·refine bp ?_ aj;exact ⟨rfl,rfl⟩
   rintro i ⟨hi,hin⟩ K hK;have hr:=BW (l.take i) (d+1) 1 (by omega)
   (revert K;revert K;refine au ?_;iterate 5 intro K hK)
   refine bC.part (fun h=> ?_) (fun h=> ?_)
   ·have hlt:i<l.length:=by replace h:=bJ h;omega
    by_cases hb2:sL (l.take i) (d+1) 1<=300
    ·have eW:=ak (k:=i) (by omega);have eG:=getD_map aS l i [] hlt;have HX:=ih l[i] (List.getElem_mem hlt) (d+1) (by omega);have eT:=Dh l (d+1) 1 i hlt hb2;have hr2:=xQ l[i] (d+1) (by omega);have hd:decide (((sL (l.take i) (d+1) 1:Nat):Int)<=300)=true:=decide_eq_true (by omega)
     have eS:IntKind.i64.wrap (((sL (l.take i) (d+1) 1:Nat):Int)+((sX l[i] (d+1):Nat):Int))=((sL (l.take (i+1)) (d+1) 1:Nat):Int):=by rw [dr (by omega) (by omega),eT];omega
     simp only [aD] at HX eG
     repeat (first|(with_reducible first|refine aA.up ?_|refine fun (K:AK) hK=> ?_|(refine hK _ ?_;clear hK K))|simp only [go_sem,hd,h,eG,aD,eD]|with_reducible refine wA ?_|clear hK K)
     refine ab.one HX ?_
     ((iterate 4 revert K);refine qE eS eW ?_)
     exact az.mk (i+1) ⟨by omega,by omega⟩ (by omega) (by exact aO aj)
    ·have eT:=Dg l (d+1) 1 i (by omega);have hd:decide (((sL (l.take i) (d+1) 1:Nat):Int)<=300)=false:=decide_eq_false (by omega)
     ((iterate 5 revert K);refine qE hd h ?_)
     rw [eT]
   ·have e1:l.take i=l:=by rw [show i=l.length by replace h:=bJ h;omega,WR]
    ((iterate 5 revert K);exact He e1 h)
theorem mR (k:Int) (rows:List (List AV)) (n:Nat) (hw:bw 0 rows=true):ar Tryz.prog 24 [.v (.int .i64 k), .aC 3 rows n] (.agg [.v (.int .i64 k), .v (.string ⟨#[]⟩), .aC 3 rows n]):=by
 (refine ar.enter Tryz.func24 rfl (by kernel_rfl) (by kernel_rfl) rfl (by simp only [go_sem,aX,AV.wf,Wc,Bool.and_true,Bool.true_and,hw]) (by simp only [go_sem,aX,AV.wf,bm,Wc,Bool.and_true,Bool.true_and,hw]) ?_;simp only [Tryz.ntmps24,Tryz.results24,List.length_cons,List.length_nil,Nat.reduceAdd,Nat.reduceSub,List.replicate_succ,List.replicate_zero,List.cons_append,List.nil_append])
 repeat' (first|(with_reducible first|refine aA.up ?_|refine fun (K:AK) hK=> ?_|(refine hK _ ?_;clear hK K))|simp only [go_sem]|clear hK K|(with_reducible refine ab.one (by assumption) ?_)|(with_reducible refine ba.one (by assumption) ?_)|(refine bC.part (fun hb=> ?_) (fun hb=> ?_)<;>simp only [hb,go_sem])|(refine bC.part (fun hb=> ?_) (fun hb=> ?_))|(with_reducible refine ni.mk ?_ ?_))
 refine jB.of 40 rfl ?_;simp only [go_sem,hw]
theorem s7 (s:ByteArray):ar Tryz.prog 25 [.v (.string s)] (.agg [.v (.int .i64 1), .v (.string s), .v (.slice none 0 0)]):=by
 refine gE Tryz.func25 Tryz.ntmps25 Tryz.results25 ?_
 repeat' (first|(with_reducible first|refine aA.up ?_|refine fun (K:AK) hK=> ?_|(refine hK _ ?_;clear hK K))|simp only [go_sem]|clear hK K|(with_reducible refine ab.one (by assumption) ?_)|(with_reducible refine ba.one (by assumption) ?_)|(refine bC.part (fun hb=> ?_) (fun hb=> ?_)<;>simp only [hb,go_sem])|(refine bC.part (fun hb=> ?_) (fun hb=> ?_))|(with_reducible refine ni.mk ?_ ?_))
 (refine jB.of 40 rfl ?_;simp only [go_sem])
theorem q8 {x:Ex} {A:pB} (h:iF x (bW x) = .inl A):ay x=true∧A.labs=bW x∧L9 x A∧FI A:=by
 have hr:ay x=true:=by
  cases hr:ay x
  ·rw [iF,hr] at h;simp at h
  ·rfl
 have L:=DV hr (iQ x) (xq hr) (fun l hl=>mb.2 hl) h
 have e:A.labs=bW x:=by
  rw [iF,if_pos hr] at h
  split at h
  ·split at h
   ·cases h
   ·simp only [Sum.inl.injEq] at h;rw [<-h];rfl
  ·cases h
 exact ⟨hr,e,L,{ L.toAOk with nd:=by rw [e];exact iQ x,sz:=by rw [e];exact CY hr,Pt:=by rw [e];exact xo hr }⟩
theorem lz {s:ByteArray} (h:s.size<=100):xG s:=by unfold xG;omega
mutual
def wW:Ex->List AV
 | .mk k s l=>[.v (.int .i64 k), .v (.string s),if l.isEmpty then .v (.slice none 0 0) else .aC 3 (yI l) l.length]
def yI:List Ex->List (List AV)
 | []=>[]
 | x :: xs=>wW x :: yI xs
end
theorem yJ: ∀l:List Ex,yI l=l.map wW
 | []=>rfl
 | x :: xs=>by rw [yI,yJ xs];rfl
theorem wY (x:Ex):AD (wW x) (aS x):=by
 induction x using Ex.ind with
 | h k s l ih=>
  rw [wW,aD];refine .cons (.refl _) (.cons (.refl _) (.cons ?_ .nil))
  cases l with
  | nil=>exact .nil 3
  | cons y l=>
   have:=Le.rows (z:=3) (f:=wW) (g:=aS) (xs:=y :: l) (more:=[]) ih
   rw [List.append_nil] at this;rw [yJ];exact this
theorem DW:ar Tryz.prog 8 [] (.v (.bool true)):=by
 have oA:JG.ok:=by simp only [JG,JJ,Ex.ok,nq,and_true];exact ⟨lz (by decide),lz (by decide),lz (by decide),lz (by decide)⟩
 have oB:JH.ok:=by simp only [JH,JJ,Ex.ok,nq,and_true];exact ⟨lz (by decide),lz (by decide),lz (by decide),lz (by decide),lz (by decide),lz (by decide)⟩
 have oC:JI.ok:=by simp only [JI,JJ,Ex.ok,nq,and_true];exact ⟨lz (by decide),lz (by decide)⟩
 have NA:=(sa JG oA).le (args':=[.agg (wW JG)]) rfl (.cons (wY JG).agg .nil);have NB:=(sa JH oB).le (args':=[.agg (wW JH)]) rfl (.cons (wY JH).agg .nil);have NC:=(sa JI oC).le (args':=[.agg (wW JI)]) rfl (.cons (wY JI).agg .nil);rw [xD,Ph] at NA;rw [xD,Pj] at NB;rw [xD,RC] at NC;have lA:=(q8 Ph).2.2.2;have lB:=(q8 Pj).2.2.2;have C1:ar Tryz.prog 28 [.vp (dc Ap)] (.v (.int .i64 2)):=pS Ap;have C2:=sb Ap rfl 0;rw [show dh Ap 0=true by kernel_rfl] at C2;have C3:=sb Ap rfl 1;rw [show dh Ap 1=false by kernel_rfl] at C3;have S1:=q9 Ap 0 ta;rw [show cb Ap 0 ta=some 1 by kernel_rfl] at S1;have S2:=q9 Ap 1 tb;rw [show cb Ap 1 tb=some 0 by kernel_rfl] at S2;have S3:=q9 Ap 0 tb;rw [show cb Ap 0 tb=none by kernel_rfl] at S3;have E1:=wV lB lB;rw [show mv M3 M3=true by kernel_rfl] at E1;have E2:=wV lA lB;rw [show mv Ap M3=false by kernel_rfl] at E2;have wA:=kC 0 Ap;have wB:=kC 0 M3;have L1:=s7 ta;have L2:=s7 tb;have O1:=mR 2 [[.v (.int .i64 1), .v (.string ta), .v (.slice none 0 0)],[.v (.int .i64 1), .v (.string tb), .v (.slice none 0 0)]] 2 rfl;have O2:=mR 4 [[.v (.int .i64 2), .v (.string ⟨#[]⟩), .aC 3 [[.v (.int .i64 1), .v (.string ta), .v (.slice none 0 0)],[.v (.int .i64 1), .v (.string tb), .v (.slice none 0 0)]] 2]] 1 rfl;have O3:=mR 4 [[.v (.int .i64 1), .v (.string ta), .v (.slice none 0 0)]] 1 rfl;have O4:=mR 2 [[.v (.int .i64 1), .v (.string ta), .v (.slice none 0 0)],[.v (.int .i64 4), .v (.string ⟨#[]⟩), .aC 3 [[.v (.int .i64 1), .v (.string ta), .v (.slice none 0 0)]] 1]] 2 rfl;have O5:=mR 3 [[.v (.int .i64 1), .v (.string ta), .v (.slice none 0 0)],[.v (.int .i64 2), .v (.string ⟨#[]⟩), .aC 3 [[.v (.int .i64 1), .v (.string ta), .v (.slice none 0 0)],[.v (.int .i64 4), .v (.string ⟨#[]⟩), .aC 3 [[.v (.int .i64 1), .v (.string ta), .v (.slice none 0 0)]] 1]] 2]] 2 rfl;have O6:=mR 5 [[.v (.int .i64 1), .v (.string ta), .v (.slice none 0 0)]] 1 rfl;have c0:((0:Nat):Int)=0:=rfl;have c1:((1:Nat):Int)=1:=rfl;simp only [stepT,Option.getD_some,Option.isSome_some,Option.getD_none,Option.isSome_none,c0,c1] at S1 S2 S3;simp only [JG,JH,JI,JJ,wW,yI,List.isEmpty_nil,List.isEmpty_cons,List.length_cons,List.length_nil,Nat.reduceAdd,if_true,Bool.false_eq_true,if_false,ta,tb] at NA NB NC L1 L2 O1 O2 O3 O4 O5 O6 S1 S2 S3;generalize dc Ap=vA at *;generalize dc M3=vB at *;refine gE Tryz.func8 Tryz.ntmps8 Tryz.results8 ?_
 (refine au ?_;intro K hK K hK)
 refine ab.one L1 ?_
 (revert K;revert K;refine au ?_;intro K hK K hK)
 refine ab.one L2 ?_
 (revert K;revert K;refine au ?_;intro K hK K hK)
 refine ab.Eu O1 rfl (by simp only [go_sem,Nat.reduceLT,Nat.reduceLeDiff,Nat.reduceEqDiff,Ww,Wx,and_self]) ?_
 (revert K;revert K;refine au ?_;intro K hK K hK)
 refine ab.Eu O2 rfl (by simp only [go_sem,Nat.reduceLT,Nat.reduceLeDiff,Nat.reduceEqDiff,Ww,Wx,and_self]) ?_
 (revert K;revert K;refine au ?_;intro K hK K hK)
 refine ab.one NA ?_
 (revert K;revert K;refine gu ?_;intro K hK K hK K hK)
 refine ab.one C1 ?_
 ((iterate 3 revert K);refine gu ?_;intro K hK K hK K hK)
 refine ab.one C2 ?_
 ((iterate 3 revert K);refine gu ?_;intro K hK K hK K hK)
 refine ab.one C3 ?_
 ((iterate 3 revert K);refine gu ?_;intro K hK K hK)
 refine ab.one S1 ?_
 (revert K;revert K;refine gu ?_;intro K hK K hK)
 refine ab.one S2 ?_
 (revert K;revert K;refine gu ?_;intro K hK K hK)
 refine ab.one S3 ?_
 (revert K;revert K;refine gu ?_;intro K hK K hK)
 refine ab.one L1 ?_
 (revert K;revert K;refine gu ?_;intro K hK K hK)
 refine ab.one L1 ?_
 (revert K;revert K;refine gu ?_;intro K hK K hK)
 refine ab.one L1 ?_
 (revert K;revert K;refine gu ?_;intro K hK K hK)
 refine ab.Eu O3 rfl (by simp only [go_sem,Nat.reduceLT,Nat.reduceLeDiff,Nat.reduceEqDiff,Ww,Wx,and_self]) ?_
 (revert K;revert K;refine gu ?_;intro K hK K hK)
 refine ab.Eu O4 rfl (by simp only [go_sem,Nat.reduceLT,Nat.reduceLeDiff,Nat.reduceEqDiff,Ww,Wx,and_self]) ?_
 (revert K;revert K;refine gu ?_;intro K hK K hK)
 refine ab.Eu O5 rfl (by simp only [go_sem,Nat.reduceLT,Nat.reduceLeDiff,Nat.reduceEqDiff,Ww,Wx,and_self]) ?_
 (revert K;revert K;refine gu ?_;intro K hK K hK)
 refine ab.one NB ?_
 (revert K;revert K;refine gu ?_;intro K hK K hK)
 refine ab.one L1 ?_
 (revert K;revert K;refine gu ?_;intro K hK K hK)
 refine ab.Eu O6 rfl (by simp only [go_sem,Nat.reduceLT,Nat.reduceLeDiff,Nat.reduceEqDiff,Ww,Wx,and_self]) ?_
 (revert K;revert K;refine gu ?_;intro K hK K hK)
 refine ab.one NC ?_
 (revert K;revert K;refine gu ?_;intro K hK K hK)
 refine ab.one E1 ?_
 (revert K;revert K;refine gu ?_;intro K hK K hK)
 refine ab.one E2 ?_
 (revert K;revert K;exact PB)
theorem Hg (l:List Int) {i:Nat} (h:i<l.length):(l.map encI).getD i []=[.v (.int .i64 l[i])]:=by
 rw [U3,List.getElem?_map,Uq h];rfl
@[go_sem] theorem JB (n:Nat) (l:List Int):bw n (l.map encI)=true:=bz _ (fun _=>rfl) _
theorem I3 (a b:List Int) (ha:a.length<=1000000) (hb:b.length<=1000000):ar Tryz.prog 105 [.aC 1 (a.map encI) a.length, .aC 1 (b.map encI) b.length] (.v (.bool (decide (a=b)))):=by
 generalize hrv:decide (a=b)=rv;refine gE Tryz.func105 Tryz.ntmps105 Tryz.results105 ?_
 (refine cn ?_;intro K hK)
 refine bo (ι:=Nat) 6 (fun i=>[(5, .v (.int .i64 i))]) (fun i=>a.length - i) (fun i=>i<=a.length∧i<=b.length∧a.take i=b.take i) 0 ⟨Ui _,Ui _,by simp⟩ ?_ ?_
 ·refine bp ?_ aj
  all_goals rfl
 ·rintro i ⟨h1,h2,h3⟩ K hK;have eW:=ak (k:=i) (by omega)
  have out:(i<a.length-> ¬i<b.length)->((a.length:Int)==(b.length:Int))=rv:=fun hh=>by
   rw [<-hrv,Bool.eq_iff_iff,beq_iff_eq,decide_eq_true_eq];refine ⟨fun e=> ?_,fun e=>by rw [e]⟩
   have e':a.length=b.length:=by omega
   have hi:i=a.length:=by
    rcases Nat.lt_or_ge i a.length with q|q
    ·exact absurd (by omega) (hh q)
    ·omega
   rw [hi,WR,e',WR] at h3;exact h3
  by_cases d1:i<a.length
  ·have e1:decide ((i:Int)<(a.length:Int))=true:=decide_eq_true (by omega)
   by_cases d2:i<b.length
   ·have e2:decide ((i:Int)<(b.length:Int))=true:=decide_eq_true (by omega);have gA:=Hg a d1;have gB:=Hg b d2
    repeat (first|(with_reducible first|refine aA.up ?_|refine fun (K:AK) hK=> ?_|refine wD ?_|(refine hK _ ?_;clear hK K))|simp only [go_sem,e1,e2,gA,gB,Go.undef]|with_reducible refine wA ?_|clear hK K)
    refine bC.part (fun g=> ?_) (fun g=> ?_)
    ·have hne:a[i]≠b[i]:=by replace g:=bJ g;exact g
     have:rv=false:=by
      rw [<-hrv,decide_eq_false_iff_not];intro e;subst e;exact hne rfl
     ((iterate 3 revert K);refine cn ?_)
     rw [this]
    ·have he:a[i]=b[i]:=by replace g:=bJ g;exact g
     ((iterate 3 revert K);refine Mj eW ?_)
     exact az.mk (i+1) ⟨d1,d2,by rw [Wg d1,Wg d2,h3,he]⟩ (by omega) (by exact aO aj)
   ·have e2:decide ((i:Int)<(b.length:Int))=false:=decide_eq_false (by omega);have ho:=out fun _=>d2
    (revert K;revert K;refine G4 e1 e2 ?_)
    rw [ho]
  ·have e1:decide ((i:Int)<(a.length:Int))=false:=decide_eq_false (by omega);have ho:=out fun q=>absurd q d1
   (revert K;revert K;refine Nf e1 ?_)
   rw [ho]
def c9 (L:List (List Int)):List (List AV):=L.map (fun l=>[AV.aC 1 (l.map encI) l.length])
theorem dx (L:List (List Int)):(c9 L).length=L.length:=by simp [c9]
theorem oR (L:List (List Int)) {i:Nat} (h:i<L.length):(c9 L).getD i []=[.aC 1 (L[i].map encI) L[i].length]:=by
 rw [U3,c9,List.getElem?_map,Uq h];rfl
@[go_sem] theorem lk (n:Nat) (L:List (List Int)):bw n (c9 L)=true:=bz _ (fun l=>by simp only [aX,AV.wf,JB,Wc]) _
def M1 (L:List (List Int)) (s:List Int):Int:=match L.findIdx? (fun y=>decide (s=y)) with
 | some k=>(k:Int)
 | none=> -1
theorem Gm (L:List (List Int)) (s:List Int) (hL:L.length<=1000000) (hl: ∀l∈L,l.length<=1000000) (hs:s.length<=1000000):ar Tryz.prog 71 [.aC 1 (c9 L) L.length, .aC 1 (s.map encI) s.length] (.v (.int .i64 (M1 L s))):=by
 generalize hrv:M1 L s=rv;refine gE Tryz.func71 Tryz.ntmps71 Tryz.results71 ?_
 (refine au ?_;intro K hK)
 refine bo (ι:=Nat) 6 (fun i=>[(5, .v (.int .i64 i))]) (fun i=>L.length - i) (fun i=>i<=L.length∧ ∀(j:Nat) (h:j<L.length),j<i->L[j]≠s) 0 ⟨Ui _,fun j _ h=>absurd h (Nat.not_lt_zero _)⟩ ?_ ?_
 ·refine bp ?_ aj
  all_goals rfl
 ·rintro i ⟨h1,h2⟩ K hK;have eW:=ak (k:=i) (by omega)
  (revert K;revert K;refine au ?_;intro K hK K hK K hK)
  refine bC.part (fun g=> ?_) (fun g=> ?_)
  ·have hlt:i<L.length:=by replace g:=ot g;omega
   have eG:=oR L hlt;have C:=I3 L[i] s (hl _ (List.getElem_mem hlt)) hs
   repeat (first|(with_reducible first|refine aA.up ?_|refine fun (K:AK) hK=> ?_|(refine hK _ ?_;clear hK K))|simp only [go_sem,g,eG,dx]|with_reducible refine wA ?_|clear hK K)
   refine ab.one C ?_
   by_cases he:L[i]=s
   ·have e1:decide (L[i]=s)=true:=decide_eq_true he
    have:(i:Int)=rv:=by
     rw [<-hrv,M1]
     have:L.findIdx? (fun y=>decide (s=y))=some i:=by
      rw [List.findIdx?_eq_some_iff_getElem];exact ⟨hlt,decide_eq_true he.symm,fun j hj=>by simpa using fun q=>h2 j (by omega) hj q.symm⟩
     rw [this]
    ((iterate 5 revert K);refine aK e1 ?_)
    rw [this]
   ·have e1:decide (L[i]=s)=false:=decide_eq_false he
    ((iterate 5 revert K);refine qE e1 eW ?_)
    refine az.mk (i+1) ⟨hlt,fun j hj hji=> ?_⟩ (by omega) (by exact aO aj)
    rcases Nat.lt_succ_iff_lt_or_eq.1 hji with q|rfl
    ·exact h2 j hj q
    ·exact he
  ·have hin:i=L.length:=by replace g:=ot g;omega
   have:rv = -1:=by
    rw [<-hrv,M1]
    have:L.findIdx? (fun y=>decide (s=y))=none:=by
     rw [List.findIdx?_eq_none_iff];intro y hy;obtain ⟨j,hj,rfl⟩:=List.getElem_of_mem hy;exact decide_eq_false fun q=>h2 j hj (by omega) q.symm
    rw [this]
   ((iterate 3 revert K);refine au ?_)
   rw [this]
section
theorem ll {n:Nat} {a b:List (Option aa)}: ∀ {l:List (Option aa)},(∀ob,some ob∈l->bw n ob.rows=true)->kE n a b->kE n (l++a) (l++b)
 | [],_,h=>h
 | x :: l,hl,h=>⟨.inr ⟨rfl,fun ob e=>hl ob (by rw [e];simp)⟩,ll (fun ob hb=>hl ob (List.mem_cons_of_mem _ hb)) h⟩
theorem mB (n N:Nat) (f:Nat->Nat->Bool): ∀(m:Nat) ob,some ob∈aV N f m->bw n ob.rows=true
 | 0,ob,h=>by cases h
 | m+1,ob,h=>by
  rw [dP,List.mem_append] at h
  rcases h with h|h
  ·exact mB n N f m ob h
  ·simp only [List.mem_cons,List.not_mem_nil,or_false,reduceCtorEq] at h;rw [js] at h;cases h;exact aU _ _ _
theorem An {n k N m:Nat} {f:Nat->Nat->Bool} (h:k+2 * m<=n):kE n (bN k N m f) (bN k N m f):=by
 have:=ll (n:=n) (a:=[]) (b:=[]) (l:=bN k N m f) (fun ob hb=>by
  rw [bN,List.mem_cons] at hb
  rcases hb with e|hb
  ·cases e;exact jv h
  ·exact mB _ _ _ _ _ hb) trivial
 simpa using this
theorem uA (N m:Nat):aY 0 N (m+1)=aY 0 N m++[[.vec (2 * m+1) N]]:=by
 rw [dm,show jR 0 m=2 * m+1 by unfold jR;omega]
theorem Bs {N m:Nat} {f:Nat->Nat->Bool} {a b:Option aa}:(aV N f m++[a,b])[2 * m+1]? = some b:=by
 rw [List.getElem?_append_right (by rw [ag];omega),ag,show 2 * m+1 - 2 * m=1 by omega];rfl
theorem zx (n:Nat) (hn:n<=1000):dN Tryz.prog 165 [.v (.int .i64 n)] [] (.vec 0 (n+1)) (bN 0 (n+1) (n+1) (fun _ _=>false)):=by
 have eN:=ak (k:=n) (by omega);refine gF Tryz.func165 Tryz.ntmps165 Tryz.results165 ?_
 (refine au ?_;intro K hK)
 refine mH (ι:=Nat) 3 54 1 rfl (by decide) 5 (fun i=>[(3, .vec 0 i),(4, .v (.int .i64 i))]) (fun i=>bN 0 (n+1) i (fun _ _=>false)) (fun i=>n+1 - i) (fun i=>i<=n+1) 0 (by omega) ?_ ?_
 ·refine Py ?_ ?_ ?_ aj
  ·exact ⟨rfl,rfl⟩
  ·exact An (by simp [bN])
  ·exact Ui _
 ·intro i hi K hK;simp only [bN]
  (revert K;revert K;refine au ?_;intro K hK K hK K hK)
  refine bC.part (fun h=> ?_) (fun h=> ?_)
  ·have eW:=ak (k:=i) (by replace h:=bJ h;omega);have eL:([AV.v (.bool false)] :: List.replicate n [AV.v (.bool false)])=cI (n+1) (fun _=>false):=jg (n+1)
   repeat (first|(with_reducible first|refine aA.up ?_|refine fun (K:AK) hK=> ?_|(refine hK _ ?_;clear hK K))|simp only [go_sem,eN,eW,eL,ag,Bs]|with_reducible refine wA ?_|clear hK K)
   refine az.mk (i+1) (by replace h:=bJ h;omega) (by replace h:=bJ h;omega) (aj ?_ ?_ ?_)
   ·simp only [bN,ag,Uh];simp only [go_sem,dt,true_or,or_true,true_and,and_true];exact .inr (decide_eq_true (by omega))
   ·show kE (bN 0 (n+1) (i+1) (fun _ _=>false)).length _ (bN 0 (n+1) (i+1) (fun _ _=>false));generalize hz:(bN 0 (n+1) (i+1) (fun _ _=>false)).length=z
    have hz':z=2 * (i+1)+1:=by rw [<-hz,bN,Uh,ag]
    have hwf:bw z (aY 0 (n+1) (i+1))=true:=jv (by omega);simp only [bN,dP];refine ⟨.inr ⟨by rw [uA],fun ob e=>by cases e;exact hwf⟩,ll (fun ob h=>mB _ _ _ _ _ h) ⟨.inr ⟨rfl,fun ob e=>by cases e;exact aU _ _ _⟩, .inl rfl,trivial⟩⟩
   ·exact Ui _
  ·have e1:i=n+1:=by replace h:=bJ h;omega
   simp only [e1]
   ((iterate 3 revert K);refine au ?_)
   refine ⟨?_, ?_,Ui _⟩
   ·exact ⟨.inr ⟨rfl,decide_eq_true (by simp [bN])⟩,trivial⟩
   ·exact An (by simp [bN,ag])
theorem jK (f:Nat->Nat) (N:Nat) (g:Nat->Bool):cF f (cI N g)=cI N g:=e8 f _ (aU 0 N g)
theorem qi (f:Nat->Nat): ∀(a:List (List AV)) (b:List AV),cF f (a++[b])=cF f a++[bS f b]
 | [],b=>rfl
 | x :: a,b=>by rw [VK,cF,qi f a b];rfl
theorem qP (k N:Nat): ∀m,cF (sig [] k) (aY 0 N m)=aY k N m
 | 0=>rfl
 | m+1=>by
  rw [dm,dm,qi,qP k N m];simp only [cF,bS,AV.bd,sig,Ub,Nat.not_lt_zero,if_false,jR];rw [show k+(0+1+2 * m - 0)=k+1+2 * m by omega]
theorem IN (k N:Nat) (f:Nat->Nat->Bool): ∀m,(bN 0 N m f).map (Option.map (aa.bd (sig [] k)))=bN k N m f:=fun m=>by
 have h: ∀m,(aV N f m).map (Option.map (aa.bd (sig [] k)))=aV N f m:=fun m=>by
  induction m with
  | zero=>rfl
  | succ m ih=>rw [dP,List.map_append,ih];simp only [List.map_cons,List.map_nil,js,Option.map_some,Option.map_none,aa.bd,jK]
 rw [bN,List.map_cons,h,Option.map_some,aa.bd,bN];simp only [qP]
theorem ab.xE {n:Nat} {o:List (Option aa)} {K:AV->List (Option aa)->Prop} (hn:n<=1000) (k:K (.vec o.length (n+1)) (o++bN o.length (n+1) (n+1) (fun _ _=>false))):ab Tryz.prog 165 [.v (.int .i64 n)] o K:=by
 refine ab.fr [] (zx n hn) List.nodup_nil rfl rfl rfl (fun k ob h=>by simp at h) ?_;have e1:(AV.vec 0 (n+1)).bd (sig [] o.length) = .vec o.length (n+1):=rfl;rw [e1,fM,IN];exact k
theorem fY (k N m:Nat) (f:Nat->Nat->Bool):(bN k N m f).length=2 * m+1:=by rw [bN,Uh,ag]
theorem om {t t':List AV} {y:jk} {N m:Nat} {f:Nat->Nat->Bool} (h:dt (2 * m+1) t t'):Wk 0 ⟨t,some ⟨54,1,true,aY 0 N m⟩ :: aV N f m,y⟩ ⟨t',bN 0 N m f,y⟩:=
 aj (by rw [fY];exact h) (by rw [fY];exact An (by omega)) (Ui _)
def Pp (i j:Nat):Bool:=decide (i=j)
def qX (i p q:Nat):Bool:=decide (p=q)&&decide (p<i)
theorem Ej (i:Nat):lh (qX i) i i true=qX (i+1):=by
 funext p q
 rw [lh,qX,qX]
 split
 ·rename_i h;obtain ⟨rfl,rfl⟩:=h;simp
 ·rename_i h
  by_cases hpq:p=q
  ·have:(p<i↔p<i+1):=by omega
   simp [hpq, <- this];omega
  ·simp [hpq]
theorem qt (n:Nat) (hn:n<=1000):ar Tryz.prog 166 [.v (.int .i64 n)] (.aC 1 (jT (n+1) Pp) (n+1)):=by
 have hd:decide (0<2 * (n+1)+1)=true:=decide_eq_true (by omega);refine jW.Qr ?_
 (refine jW.enter Tryz.func166 rfl (by kernel_rfl) (by kernel_rfl) rfl (by simp only [go_sem,aX,AV.wf,Wc,VC,Vq,Go.undef]) (by simp only [go_sem,aX,AV.wf,bm,Wc,VC,Vq,Go.undef]) ?_;simp only [Tryz.ntmps166,Tryz.results166,Uh,Ub,Nat.reduceAdd,Nat.reduceSub,WC,WS,VK,VJ])
 (refine au ?_;intro K hK K hK)
 refine ab.xE hn ?_;simp only [Ub,VJ]
 (revert K;revert K;refine au ?_;intro K hK)
 refine aT (ι:=Nat) 7 (fun i=>[(4, .v (.int .i64 i))]) (fun i=>bN 0 (n+1) (n+1) (qX i)) (fun i=>n+1 - i) (fun i=>i<=n+1) 0 (by omega) ?_ ?_
 ·have e0:(fun _ _=>false)=qX 0:=by funext p q;simp [qX]
  rw [e0];refine om ?_;simp only [go_sem,dt,true_or,or_true,true_and,and_true,hd];exact .inr rfl
 ·intro i hi K hK;simp only [bN]
  (revert K;revert K;refine au ?_;intro K hK K hK K hK)
  refine bC.part (fun h=> ?_) (fun h=> ?_)
  ·have hlt:i<n+1:=by replace h:=RH h;omega
   have eW:=ak (k:=i) (by replace h:=RH h;omega);have eO:=jo (k:=0) (N:=n+1) hlt;have hO: ∀x,(x :: aV (n+1) (qX i) (n+1))[jR 0 i]? = _:=fun x=>kg (k:=0) (x:=x) hlt;have eR:=cN (g:=qX i i) hlt;have eS:=fun x=>mf (N:=n+1) (j:=i) (f:=qX i) (v:=true) (x:=x) hlt
   repeat (first|(with_reducible first|refine aA.up ?_|refine fun (K:AK) hK=> ?_|(refine hK _ ?_;clear hK K))|simp only [go_sem,eW,eO,hO,js,eR,eS,Ej]|with_reducible refine wA ?_|clear hK K)
   refine az.mk (i+1) (by omega) (by omega) (om ?_);simp only [go_sem,dt,true_or,or_true,true_and,and_true,hd]
  ·have e1:i=n+1:=by replace h:=RH h;omega
   have eA:aV (n+1) (qX (n+1)) (n+1)=aV (n+1) Pp (n+1):=ez fun p q hp _=>by simp [qX,Pp,hp]
   simp only [e1]
   ((iterate 3 revert K);refine au ?_)
   rw [eA];exact oZ _ _
def NK (a b:Nat->Nat->Bool) (i j:Nat):Bool:=decide (i<=j)&&(a i j||b i j)
def jQ (a b:Nat->Nat->Bool) (i j p q:Nat):Bool:=decide (p<i∨(p=i∧q<j))&&NK a b p q
theorem E5 {a b:Nat->Nat->Bool} {i j:Nat} (h:i<=j):lh (jQ a b i j) i j (a i j||b i j)=jQ a b i (j+1):=by
 funext p q
 rw [lh,jQ,jQ]
 split
 ·rename_i e;obtain ⟨rfl,rfl⟩:=e;simp [NK,h]
 ·rename_i e
  congr 1
  rw [decide_eq_decide];omega
theorem Io {a b:Nat->Nat->Bool} {i:Nat}:jQ a b i i=jQ a b i 0:=by
 funext p q
 rw [jQ,jQ,Wm];simp only [NK,UW,decide_eq_true_eq]
 constructor
 ·rintro ⟨h1,h2,h3⟩;exact ⟨by omega,h2,h3⟩
 ·rintro ⟨h1,h2,h3⟩;exact ⟨by omega,h2,h3⟩
theorem E4 {a b:Nat->Nat->Bool} {N i:Nat}:aV N (jQ a b i N) N=aV N (jQ a b (i+1) 0) N:=ez fun p q hp hq=>by
 rw [jQ,jQ];congr 1;rw [decide_eq_decide];omega
theorem nJ (n:Nat) (a b:Nat->Nat->Bool) (hn:n<=1000):ar Tryz.prog 168 [.aC 1 (jT (n+1) a) (n+1), .aC 1 (jT (n+1) b) (n+1)] (.aC 1 (jT (n+1) (NK a b)) (n+1)):=by
 have hd:decide (0<2 * (n+1)+1)=true:=decide_eq_true (by omega)
 have eN:IntKind.i64.wrap (((n+1:Nat):Int) - 1)=(n:Int):=by rw [dr (by omega) (by omega)];omega
 refine jW.Qr ?_
 (refine jW.enter Tryz.func168 rfl (by kernel_rfl) (by kernel_rfl) rfl (by simp only [go_sem,aX,AV.wf,Wc,VC,Vq,Go.undef]) (by simp only [go_sem,aX,AV.wf,bm,Wc,VC,Vq,Go.undef]) ?_;simp only [Tryz.ntmps168,Tryz.results168,Uh,Ub,Nat.reduceAdd,Nat.reduceSub,WC,WS,VK,VJ])
 (refine kb eN ?_;intro K hK K hK)
 refine ab.xE hn ?_;simp only [Ub,VJ]
 (revert K;revert K;refine dO ?_;intro K hK)
 refine aT (ι:=Nat) 12 (fun i=>[(6, .v (.int .i64 i)),(7, .undef)]) (fun i=>bN 0 (n+1) (n+1) (jQ a b i 0)) (fun i=>n+1 - i) (fun i=>i<=n+1) 0 (by omega) ?_ ?_
 ·have e0:(fun _ _=>false)=jQ a b 0 0:=by funext p q;simp [jQ]
  rw [e0];refine om ?_;simp only [go_sem,dt,true_or,or_true,true_and,and_true,hd];exact .inr rfl
 ·intro i hi K hK;simp only [bN]
  (revert K;revert K;refine dO ?_;intro K hK K hK K hK)
  refine bC.part (fun h=> ?_) (fun h=> ?_)
  ·have hlt:i<n+1:=by replace h:=ot h;omega
   have eW:=ak (k:=i) (by omega);have eO:=jo (k:=0) (N:=n+1) hlt;have eA:=qc (f:=a) hlt;have eB:=qc (f:=b) hlt
   ((iterate 3 revert K);refine dO ?_;intro K hK K hK K hK)
   refine aT (ι:=Nat) 19 (fun j=>[(7, .v (.int .i64 j))]) (fun j=>bN 0 (n+1) (n+1) (jQ a b i j)) (fun j=>n+1 - j) (fun j=>i<=j∧j<=n+1) i (by omega) ?_ ?_
   ·rw [Io];refine om ?_;simp only [go_sem,dt,true_or,or_true,true_and,and_true,hd]
   ·rintro j ⟨hj1,hj2⟩ K hK;simp only [bN]
    ((iterate 4 revert K);refine dO ?_;iterate 5 intro K hK)
    refine bC.part (fun h=> ?_) (fun h=> ?_)
    ·have hjt:j<n+1:=by replace h:=ot h;omega
     have eV:=ak (k:=j) (by omega);have eA2:=cN (g:=a i) hjt;have eB2:=cN (g:=b i) hjt;have hO: ∀x,(x :: aV (n+1) (jQ a b i j) (n+1))[jR 0 i]? = _:=fun x=>kg (k:=0) (x:=x) hlt;have eR:=cN (g:=jQ a b i j i) hjt;have eS:=fun x v=>mf (N:=n+1) (j:=j) (f:=jQ a b i j) (v:=v) (x:=x) hlt;have eU:=E5 (a:=a) (b:=b) hj1
     cases ha:a i j
     ·rw [ha,Bool.false_or] at eU
      repeat (first|(with_reducible first|refine aA.up ?_|refine fun (K:AK) hK=> ?_|refine wE ?_|refine wK ?_|refine wF ?_|(refine hK _ ?_;clear hK K))|simp only [go_sem,eV,eO,eA,eB,eA2,eB2,ha,hO,js,eR,eS,eU,Go.undef]|with_reducible refine wA ?_|clear hK K)
      refine az.mk (j+1) ⟨by omega,by omega⟩ (by omega) (om ?_);simp only [go_sem,dt,true_or,or_true,true_and,and_true,hd,ep,AV.wf]
     ·rw [ha,Bool.true_or] at eU
      repeat (first|(with_reducible first|refine aA.up ?_|refine fun (K:AK) hK=> ?_|refine wE ?_|refine wK ?_|refine wF ?_|(refine hK _ ?_;clear hK K))|simp only [go_sem,eV,eO,eA,eB,eA2,eB2,ha,hO,js,eR,eS,eU,Go.undef]|with_reducible refine wA ?_|clear hK K)
      refine az.mk (j+1) ⟨by omega,by omega⟩ (by omega) (om ?_);simp only [go_sem,dt,true_or,or_true,true_and,and_true,hd,ep,AV.wf]
    ·have e1:j=n+1:=by replace h:=ot h;omega
     simp only [e1,E4]
     ((iterate 5 revert K);refine kb eW ?_)
     refine az.mk (i+1) (by omega) (by omega) (om ?_);simp only [go_sem,dt,true_or,or_true,true_and,and_true,hd,ep,AV.wf]
  ·have e1:i=n+1:=by replace h:=ot h;omega
   have eA:aV (n+1) (jQ a b (n+1) 0) (n+1)=aV (n+1) (NK a b) (n+1):=ez fun p q hp _=>by simp [jQ,hp]
   simp only [e1]
   ((iterate 3 revert K);refine dO ?_)
   rw [eA];exact oZ _ _
def vX (N:Nat) (a b:Nat->Nat->Bool) (i j:Nat):Bool:=(List.range N).any fun k=>decide (i<=k∧k<=j)&&(a i k&&b k j)
theorem Fx {N:Nat} {a b:Nat->Nat->Bool} {i j:Nat}:vX N a b i j=true ↔ ∃k,k<N∧i<=k∧k<=j∧a i k=true∧b k j=true:=by
 simp only [vX,List.any_eq_true,List.mem_range,UW,decide_eq_true_eq,and_assoc]
def jA (N:Nat) (a b:Nat->Nat->Bool) (i k j p q:Nat):Bool:=
 if p<i then vX N a b p q else if p=i then (List.range k).any (fun k'=>decide (i<=k'∧k'<=q)&&(a i k'&&b k' q))||(decide (k<=q∧q<j)&&(a i k&&b k q)) else false
theorem Fw {N:Nat} {a b:Nat->Nat->Bool} {i k j:Nat} (h:k<=j) (ha:a i k=true):lh (jA N a b i k j) i j (jA N a b i k j i j||b k j)=jA N a b i k (j+1):=by
 funext p q
 rw [lh]
 split
 ·rename_i e;obtain ⟨rfl,rfl⟩:=e;simp only [jA,if_neg (Nat.lt_irrefl _),if_true,ha,Vq];have h1:decide (k<=q∧q<q)=false:=decide_eq_false (by omega);have h2:decide (k<=q∧q<q+1)=true:=decide_eq_true (by omega);rw [h1,h2];simp
 ·rename_i e;simp only [jA]
  split
  ·rfl
  ·split
   ·rename_i h1 h2;subst h2
    congr 2
    rw [decide_eq_decide]
    have:q≠j:=fun e'=>e ⟨rfl,e'⟩
    omega
   ·rfl
theorem Ob {N:Nat} {a b:Nat->Nat->Bool} {i k:Nat} (hi:i<=k) (hk:a i k=false∨True):aV N (jA N a b i k (if a i k then N else k)) N=aV N (jA N a b i (k+1) (k+1)) N:=ez fun p q hp hq=>by
 simp only [jA]
 split
 ·rfl
 ·split
  ·rw [List.range_succ,List.any_append,Bool.or_assoc]
   congr 1
   have h2:decide (k+1<=q∧q<k+1)=false:=decide_eq_false (by omega);rw [h2];simp only [List.any_cons,List.any_nil,Bool.or_false,Bool.false_and]
   cases hh:a i k
   ·simp
   ·have:(k<=q∧q<N)=(i<=k∧k<=q):=by apply propext;omega
    simp [this]
  ·rfl
theorem Jp {N:Nat} {a b:Nat->Nat->Bool} {i:Nat}:aV N (jA N a b i N N) N=aV N (jA N a b (i+1) (i+1) (i+1)) N:=ez fun p q hp hq=>by
 simp only [jA]
 by_cases h1:p<i
 ·rw [if_pos h1,if_pos (by omega)]
 ·rw [if_neg h1]
  by_cases h2:p=i
  ·subst h2;rw [if_pos rfl,if_pos (by omega)];have h3:decide (N<=q∧q<N)=false:=decide_eq_false (by omega);rw [h3,Bool.false_and,Bool.or_false];rfl
  ·rw [if_neg h2,if_neg (by omega)]
   by_cases h4:p=i+1
   ·rw [if_pos h4]
    have h5:(List.range (i+1)).any (fun k'=>decide (i+1<=k'∧k'<=q)&&(a (i+1) k'&&b k' q))=false:=by
     rw [List.any_eq_false];intro x hx
     have:=List.mem_range.1 hx
     have h6:decide (i+1<=x∧x<=q)=false:=decide_eq_false (by omega);rw [h6];simp
    have h7:decide (i+1<=q∧q<i+1)=false:=decide_eq_false (by omega);rw [h5,h7];simp
   ·rw [if_neg h4]
theorem Oa {N:Nat} {a b:Nat->Nat->Bool}:(fun _ _=>false)=jA N a b 0 0 0:=by
 funext p q
 simp [jA]
theorem nR (n:Nat) (a b:Nat->Nat->Bool) (hn:n<=1000):ar Tryz.prog 167 [.aC 1 (jT (n+1) a) (n+1), .aC 1 (jT (n+1) b) (n+1)] (.aC 1 (jT (n+1) (vX (n+1) a b)) (n+1)):=by
 have hd:decide (0<2 * (n+1)+1)=true:=decide_eq_true (by omega)
 have eN:IntKind.i64.wrap (((n+1:Nat):Int) - 1)=(n:Int):=by rw [dr (by omega) (by omega)];omega
 refine jW.Qr ?_
 (refine jW.enter Tryz.func167 rfl (by kernel_rfl) (by kernel_rfl) rfl (by simp only [go_sem,aX,AV.wf,Wc,VC,Vq,Go.undef]) (by simp only [go_sem,aX,AV.wf,bm,Wc,VC,Vq,Go.undef]) ?_;simp only [Tryz.ntmps167,Tryz.results167,Uh,Ub,Nat.reduceAdd,Nat.reduceSub,WC,WS,VK,VJ])
 (refine kb eN ?_;intro K hK K hK)
 refine ab.xE hn ?_;simp only [Ub,VJ]
 (revert K;revert K;refine dO ?_;intro K hK)
 refine aT (ι:=Nat) 13 (fun i=>[(6, .v (.int .i64 i)),(7, .undef),(8, .undef)]) (fun i=>bN 0 (n+1) (n+1) (jA (n+1) a b i i i)) (fun i=>n+1 - i) (fun i=>i<=n+1) 0 (by omega) ?_ ?_
 ·rw [Oa (N:=n+1) (a:=a) (b:=b)];refine om ?_;simp only [go_sem,dt,true_or,or_true,true_and,and_true,hd];exact .inr rfl
 ·intro i hi K hK;simp only [bN]
  (revert K;revert K;refine dO ?_;intro K hK K hK K hK)
  refine bC.part (fun h=> ?_) (fun h=> ?_)
  ·have hlt:i<n+1:=by replace h:=ot h;omega
   have eW:=ak (k:=i) (by omega);have eO:=jo (k:=0) (N:=n+1) hlt;have eA:=qc (f:=a) hlt
   ((iterate 3 revert K);refine dO ?_;intro K hK K hK K hK)
   refine aT (ι:=Nat) 20 (fun k=>[(7, .v (.int .i64 k)),(8, .undef)]) (fun k=>bN 0 (n+1) (n+1) (jA (n+1) a b i k k)) (fun k=>n+1 - k) (fun k=>i<=k∧k<=n+1) i (by omega) ?_ ?_
   ·refine om ?_;simp only [go_sem,dt,true_or,or_true,true_and,and_true,hd]
   ·rintro k ⟨hk1,hk2⟩ K hK;simp only [bN]
    ((iterate 4 revert K);refine dO ?_;iterate 5 intro K hK)
    refine bC.part (fun h=> ?_) (fun h=> ?_)
    ·have hkt:k<n+1:=by replace h:=ot h;omega
     have eV:=ak (k:=k) (by omega);have eA2:=cN (g:=a i) hkt;have eB:=qc (f:=b) hkt;have eK:=Ob (N:=n+1) (a:=a) (b:=b) hk1 (.inr trivial)
     ((iterate 5 revert K);refine dO ?_;iterate 5 intro K hK)
     refine aT (ι:=Nat) 27 (fun j=>[(8, .v (.int .i64 j))]) (fun j=>bN 0 (n+1) (n+1) (jA (n+1) a b i k j)) (fun j=>n+1 - j) (fun j=>k<=j∧j<=n+1∧(a i k=false->j=k)) k ⟨by omega,by omega,fun _=>rfl⟩ ?_ ?_
     ·refine om ?_;simp only [go_sem,dt,true_or,or_true,true_and,and_true,hd]
     ·rintro j ⟨hj1,hj2,hj3⟩ K hK;simp only [bN]
      cases ha:a i k
      ·have hj:=hj3 ha;rw [ha] at eK;simp only [Bool.false_eq_true,if_false] at eK
       repeat (first|(with_reducible first|refine aA.up ?_|refine fun (K:AK) hK=> ?_|refine wE ?_|refine wK ?_|refine wF ?_|(refine hK _ ?_;clear hK K))|simp only [go_sem,eA,eA2,ha,Go.undef]|with_reducible refine wA ?_|clear hK K)
       simp only [hj,eK];refine kb eV ?_;refine az.mk (k+1) ⟨by omega,by omega⟩ (by omega) (om ?_);simp only [go_sem,dt,true_or,or_true,true_and,and_true,hd,ep,AV.wf]
      ·rw [ha] at eK;simp only [if_true] at eK
       rcases Bool.eq_false_or_eq_true (decide ((j:Int)<((n+1:Nat):Int))) with hj|hj
       ·have hjt:j<n+1:=by replace hj:=ot hj;omega
        have eJ:=ak (k:=j) (by omega);have eB2:=cN (g:=b k) hjt;have hO: ∀x,(x :: aV (n+1) (jA (n+1) a b i k j) (n+1))[jR 0 i]? = _:=fun x=>kg (k:=0) (x:=x) hlt;have eR:=cN (g:=jA (n+1) a b i k j i) hjt;have eS:=fun x v=>mf (N:=n+1) (j:=j) (f:=jA (n+1) a b i k j) (v:=v) (x:=x) hlt;have eU:=Fw (N:=n+1) (b:=b) hj1 ha
        cases hv:jA (n+1) a b i k j i j
        ·rw [hv,Bool.false_or] at eU
         repeat (first|(with_reducible first|refine aA.up ?_|refine fun (K:AK) hK=> ?_|refine wE ?_|refine wK ?_|refine wF ?_|(refine hK _ ?_;clear hK K))|simp only [go_sem,eJ,eA,eA2,ha,hj,eO,eB,eB2,hO,hv,js,eR,eS,eU,Go.undef]|with_reducible refine wA ?_|clear hK K)
         refine az.mk (j+1) ⟨by omega,by omega⟩ (by omega) (om ?_);simp only [go_sem,dt,true_or,or_true,true_and,and_true,hd,ep,AV.wf]
        ·rw [hv,Bool.true_or] at eU
         repeat (first|(with_reducible first|refine aA.up ?_|refine fun (K:AK) hK=> ?_|refine wE ?_|refine wK ?_|refine wF ?_|(refine hK _ ?_;clear hK K))|simp only [go_sem,eJ,eA,eA2,ha,hj,eO,eB,eB2,hO,hv,js,eR,eS,eU,Go.undef]|with_reducible refine wA ?_|clear hK K)
         refine az.mk (j+1) ⟨by omega,by omega⟩ (by omega) (om ?_);simp only [go_sem,dt,true_or,or_true,true_and,and_true,hd,ep,AV.wf]
       ·have hje:j=n+1:=by replace hj:=ot hj;omega
        repeat (first|(with_reducible first|refine aA.up ?_|refine fun (K:AK) hK=> ?_|refine wE ?_|refine wK ?_|refine wF ?_|(refine hK _ ?_;clear hK K))|simp only [go_sem,eA,eA2,ha,hj,Go.undef]|with_reducible refine wA ?_|clear hK K)
        simp only [hje,eK];refine kb eV ?_;refine az.mk (k+1) ⟨by omega,by omega⟩ (by omega) (om ?_);simp only [go_sem,dt,true_or,or_true,true_and,and_true,hd,ep,AV.wf]
    ·have e1:k=n+1:=by replace h:=ot h;omega
     simp only [e1,Jp]
     ((iterate 5 revert K);refine kb eW ?_)
     refine az.mk (i+1) (by omega) (by omega) (om ?_);simp only [go_sem,dt,true_or,or_true,true_and,and_true,hd,ep,AV.wf]
  ·have e1:i=n+1:=by replace h:=ot h;omega
   have eA:aV (n+1) (jA (n+1) a b (n+1) (n+1) (n+1)) (n+1)=aV (n+1) (vX (n+1) a b) (n+1):=ez fun p q hp _=>by simp [jA,hp]
   simp only [e1]
   ((iterate 3 revert K);refine dO ?_)
   rw [eA];exact oZ _ _
open Classical in
noncomputable def gm (L:List ByteArray->Prop) (w:List ByteArray) (i j:Nat):Bool:=decide (Tk L w i j)
theorem dK {L:List ByteArray->Prop} {w:List ByteArray} {i j:Nat}:gm L w i j=true↔Tk L w i j:=by simp [gm]
theorem gM {L M:List ByteArray->Prop} {w:List ByteArray} (h: ∀u,u.length<=w.length->(L u↔M u)):gm L w=gm M w:=by
 funext i j
 rw [Wm,dK,dK]
 have: ∀(h2:j<=w.length),(yz w i j).length<=w.length:=fun h2=>by rw [oL h2];omega
 constructor
 ·rintro ⟨h1,h2,h3⟩;exact ⟨h1,h2,(h _ (this h2)).1 h3⟩
 ·rintro ⟨h1,h2,h3⟩;exact ⟨h1,h2,(h _ (this h2)).2 h3⟩
theorem tf {N:Nat} {f g:Nat->Nat->Bool} (h: ∀i j,i<N->j<N->(f i j=true↔g i j=true)):jT N f=jT N g:=Nx fun i j hi hj=>Wm.2 (h i j hi hj)
theorem Lc (w:List ByteArray):jT (w.length+1) (fun _ _=>false)=jT (w.length+1) (gm (fun _=>False) w):=tf fun i j hi hj=>by
 rw [dK];simp [Tk]
theorem tg (w:List ByteArray):jT (w.length+1) Pp=jT (w.length+1) (gm (fun u=>u=[]) w):=tf fun i j hi hj=>by
 rw [dK,Pp,decide_eq_true_eq]
 constructor
 ·rintro rfl;exact ⟨Nat.le_refl _,by omega,GD _ _⟩
 ·rintro ⟨h1,h2,h3⟩
  have:=oL (i:=i) h2
  rw [h3] at this;simp at this;omega
theorem Ie (L M:List ByteArray->Prop) (w:List ByteArray):jT (w.length+1) (NK (gm L w) (gm M w))=jT (w.length+1) (gm (fun u=>L u∨M u) w):=tf fun i j hi hj=>by
 rw [dK,NK,UW,Bool.or_eq_true,decide_eq_true_eq,dK,dK]
 constructor
 ·rintro ⟨h1,⟨_,h2,h3⟩|⟨_,h2,h3⟩⟩
  ·exact ⟨h1,h2, .inl h3⟩
  ·exact ⟨h1,h2, .inr h3⟩
 ·rintro ⟨h1,h2,h3|h3⟩
  ·exact ⟨h1, .inl ⟨h1,h2,h3⟩⟩
  ·exact ⟨h1, .inr ⟨h1,h2,h3⟩⟩
theorem xB (L M:List ByteArray->Prop) (w:List ByteArray):jT (w.length+1) (vX (w.length+1) (gm L w) (gm M w))=jT (w.length+1) (gm (fun u=> ∃a b,u=a++b∧L a∧M b) w):=tf fun i j hi hj=>by
 rw [dK,Fx]
 constructor
 ·rintro ⟨k,_,h1,h2,h3,h4⟩;obtain ⟨_,_,h5⟩:=dK.1 h3;obtain ⟨_,h6,h7⟩:=dK.1 h4;exact ⟨by omega,h6,_,_,(Cu h1 h2).symm,h5,h7⟩
 ·rintro ⟨h1,h2,a,b,h3,h4,h5⟩;obtain ⟨k,k1,k2,rfl,rfl⟩:=GC h1 h2 h3;exact ⟨k,by omega,k1,k2,dK.2 ⟨k1,by omega,h4⟩,dK.2 ⟨k2,h2,h5⟩⟩
def c8 (L:List ByteArray->Prop):Nat->List ByteArray->Prop
 | 0,u=>u=[]
 | k+1,u=>u=[]∨ ∃a b,u=a++b∧L a∧c8 L k b
theorem c8.nil {L:List ByteArray->Prop}: ∀k,c8 L k []
 | 0=>rfl
 | k+1=> .inl rfl
theorem c8.one {L:List ByteArray->Prop} {u:List ByteArray}:c8 L 1 u↔(u=[]∨L u):=by
 simp only [c8]
 constructor
 ·rintro (h|⟨a,b,rfl,h,rfl⟩)
  ·exact .inl h
  ·exact .inr (by simpa using h)
 ·rintro (h|h)
  ·exact .inl h
  ·exact .inr ⟨u,[],by simp,h,rfl⟩
theorem c8.mono {L:List ByteArray->Prop}: ∀ {k m:Nat} {u:List ByteArray},k<=m->c8 L k u->c8 L m u
 | 0,m,u,_,h=>by rw [c8] at h;subst h;exact .nil _
 | k+1,0,u,hk,_=>by omega
 | k+1,m+1,u,hk,h=>by
  rw [c8] at h ⊢
  rcases h with h|⟨a,b,e,h1,h2⟩
  ·exact .inl h
  ·exact .inr ⟨a,b,e,h1,c8.mono (by omega) h2⟩
theorem c8.add {L:List ByteArray->Prop}: ∀ {k m:Nat} {u:List ByteArray},c8 L (k+m) u ↔ ∃a b,u=a++b∧c8 L k a∧c8 L m b
 | 0,m,u=>by
  rw [Nat.zero_add]
  constructor
  ·intro h;exact ⟨[],u,rfl,rfl,h⟩
  ·rintro ⟨a,b,rfl,h1,h2⟩;rw [c8] at h1;subst h1;exact h2
 | k+1,m,u=>by
  rw [show k+1+m=(k+m)+1 by omega]
  constructor
  ·intro h;rw [c8] at h
   rcases h with rfl|⟨a,b,rfl,h1,h2⟩
   ·exact ⟨[],[],rfl, .nil _, .nil _⟩
   ·obtain ⟨c,d,rfl,h3,h4⟩:=c8.add.1 h2;exact ⟨a++c,d,by simp, .inr ⟨a,c,rfl,h1,h3⟩,h4⟩
  ·rintro ⟨a,b,rfl,h1,h2⟩;rw [c8] at h1
   rcases h1 with rfl|⟨c,d,rfl,h3,h4⟩
   ·exact c8.mono (by omega) h2
   ·rw [c8];exact .inr ⟨c,d++b,by simp,h3,c8.add.2 ⟨d,b,rfl,h4,h2⟩⟩
theorem c8.star {L:List ByteArray->Prop}: ∀ {k:Nat} {u:List ByteArray},c8 L k u->cQ L u
 | 0,u,h=>by rw [c8] at h;subst h;exact .nil
 | k+1,u,h=>by
  rw [c8] at h
  rcases h with rfl|⟨a,b,rfl,h1,h2⟩
  ·exact .nil
  ·exact (cQ.one h1).append h2.star
theorem cQ.pow {L:List ByteArray->Prop} {u:List ByteArray} (h:cQ L u):c8 L u.length u:=by
 induction h with
 | nil=>rfl
 | cons a b h1 h2 _ ih=>
  rw [List.length_append]
  have:0<a.length:=List.length_pos_iff.2 h1
  exact c8.mono (k:=b.length+1) (by omega) (.inr ⟨a,b,rfl,h2,ih⟩)
theorem IC {L:List ByteArray->Prop} {k:Nat} {u:List ByteArray} (h:u.length<=k):c8 L k u↔cQ L u:=⟨c8.star,fun hs=>c8.mono h hs.pow⟩
theorem AE {l:List Ex} {x:Ex} {u:List ByteArray}:gT (l++[x]) u↔gT l u∨Lg x u:=by
 rw [mE,mE]
 constructor
 ·rintro ⟨y,hy,h⟩
  rcases List.mem_append.1 hy with hy|hy
  ·exact .inl ⟨y,hy,h⟩
  ·rw [List.mem_singleton] at hy;subst hy;exact .inr h
 ·rintro (⟨y,hy,h⟩|h)
  ·exact ⟨y,List.mem_append_left _ hy,h⟩
  ·exact ⟨x,List.mem_append_right _ (List.mem_singleton.2 rfl),h⟩
theorem AF {l:List Ex} {x:Ex} {u:List ByteArray}:cM (l++[x]) u ↔ ∃a b,u=a++b∧cM l a∧Lg x b:=by
 rw [pJ]
 constructor
 ·rintro ⟨a,b,rfl,h,k⟩;rw [cM] at k;obtain ⟨c,d,rfl,k1,k2⟩:=k;rw [cM] at k2;subst k2;exact ⟨a,c,by simp,h,k1⟩
 ·rintro ⟨a,b,rfl,h,k⟩;refine ⟨a,b,rfl,h, ?_⟩;rw [cM];exact ⟨b,[],by simp,k,by rw [cM]⟩
def iy (w:List ByteArray) (s:ByteArray) (m i j:Nat):Bool:=decide (j=i+1∧i<m)&&((w.getD i ⟨#[]⟩).toList==s.toList)
theorem Hw (w:List ByteArray) (s:ByteArray):(fun _ _=>false)=iy w s 0:=by funext i j;simp [iy]
theorem zj (w:List ByteArray) (s:ByteArray) (m:Nat):lh (iy w s m) m (m+1) ((w.getD m ⟨#[]⟩).toList==s.toList)=iy w s (m+1):=by
 funext p q
 rw [lh,iy,iy]
 split
 ·rename_i h;obtain ⟨rfl,rfl⟩:=h;simp
 ·rename_i h
  congr 1
  rw [decide_eq_decide];omega
theorem Ny (w:List ByteArray) (s:ByteArray):jT (w.length+1) (iy w s w.length)=jT (w.length+1) (gm (fun u=>u=[s]) w):=tf fun i j hi hj=>by
 rw [dK,iy,UW,decide_eq_true_eq,beq_iff_eq]
 constructor
 ·rintro ⟨⟨rfl,h1⟩,h2⟩;refine ⟨by omega,by omega, ?_⟩;have h3:w.getD i ⟨#[]⟩=s:=toList_inj.1 (by rw [h2];exact beq_self_eq_true _);rw [yz,show i+1 - i=1 by omega,Vd h1,List.take_succ_cons,List.take_zero, <- h3,U3,Uq h1];rfl
 ·rintro ⟨h1,h2,h3⟩;have h4:=oL (i:=i) h2;rw [h3] at h4;simp at h4
  have hj:j=i+1:=by omega
  subst hj
  have h5:i<w.length:=by omega
  rw [yz,show i+1 - i=1 by omega,Vd h5,List.take_succ_cons,List.take_zero] at h3;refine ⟨⟨rfl,h5⟩, ?_⟩;rw [U3,Uq h5];simp only [List.cons.injEq,and_true] at h3;rw [h3];rfl
end
def cj (x:Ex):Bool:=(ai x).all Ex.part
theorem wM (k:Int) (s:ByteArray) (l:List Ex):cj (.mk k s l)=(bc k s l.length&&l.all cj):=by
 unfold cj;rw [ai,bn,List.all_cons,List.all_flatMap];rfl
theorem It (x:Ex):(∀z,z∈ai x->z.kids.length<=1000000∧z.label.size<=1000000000000000)->ar Tryz.prog 67 [.agg (aS x)] (.v (.bool (cj x))):=by
 induction x using Ex.ind with
 | h k s l ih=>
  intro hz;have hs:l.length<=1000000∧s.size<=1000000000000000:=hz (.mk k s l) (by rw [ai];exact List.mem_cons_self);have hsub: ∀y,y∈l->ar Tryz.prog 67 [.agg (aS y)] (.v (.bool (cj y))):=fun y hy=>ih y hy (fun z hz'=>hz z (by rw [ai,bn];exact List.mem_cons_of_mem _ (List.mem_flatMap.2 ⟨_,hy,hz'⟩)));have F:=GY s hs.2;rw [aD,wM];simp only [Ex.kind,Ex.label,Ex.kids];refine gE Tryz.func67 Tryz.ntmps67 Tryz.results67 ?_
  (refine au ?_;intro K hK)
  rcases (by by_cases a1:k=1<;>by_cases a2:k=2<;>by_cases a3:k=3<;>by_cases a4:k=4<;>by_cases a5:k=5<;>by_cases a6:k=6<;>simp_all:k=1∨k=2∨k=3∨k=4∨k=5∨k=6∨(k≠1∧k≠2∧k≠3∧k≠4∧k≠5∧k≠6)) with hk|hk|hk|hk|hk|hk|hk
  ·have e1:(k==1)=true:=by rw [beq_iff_eq];omega
   have e2:(k==2)=false:=by rw [<-WT,beq_iff_eq];omega
   have e3:(k==3)=false:=by rw [<-WT,beq_iff_eq];omega
   have e4:(k==4)=false:=by rw [<-WT,beq_iff_eq];omega
   have e5:(k==5)=false:=by rw [<-WT,beq_iff_eq];omega
   have e6:(k==6)=false:=by rw [<-WT,beq_iff_eq];omega
   (revert K;refine qF e1 e2 e3 e4 e5 e6 ?_;intro K hK K hK K hK)
   refine ab.one F ?_
   ((iterate 3 revert K);refine qF e1 e2 e3 e4 e5 e6 ?_;intro K hK K hK K hK)
   cases hf:c6 s with
   | false=>
    ((iterate 3 revert K);refine u5 hf ?_)
    rw [bc];simp only [e1,if_true,hf,WU,WV]
   | true=>
    ((iterate 3 revert K);refine aK hf ?_)
    rcases Nat.eq_zero_or_pos l.length with q|q
    ·have e:l=[]:=List.eq_nil_of_length_eq_zero q;rw [e,bc];simp [e1,hf]
    ·have a:((l.length:Int)==0)=false:=by rw [<-WT,beq_iff_eq];omega
     have b:decide (l.length=0)=false:=decide_eq_false (by omega);rw [a,bc];simp only [e1,if_true,b,WV]
  ·have e1:(k==1)=false:=by rw [<-WT,beq_iff_eq];omega
   have e2:(k==2)=true:=by rw [beq_iff_eq];omega
   have e3:(k==3)=false:=by rw [<-WT,beq_iff_eq];omega
   have e4:(k==4)=false:=by rw [<-WT,beq_iff_eq];omega
   have e5:(k==5)=false:=by rw [<-WT,beq_iff_eq];omega
   have e6:(k==6)=false:=by rw [<-WT,beq_iff_eq];omega
   (revert K;refine qF e1 e2 e3 e4 e5 e6 ?_;intro K hK)
   refine bC.part (fun h0=> ?_) (fun h0=> ?_)
   ·have hl:l.length<2:=by replace h0:=bJ h0;omega
    (revert K;refine aK h0 ?_)
    have hd:decide (1<l.length)=false:=decide_eq_false (by omega);rw [bc];simp [e1,e2,e3,hd]
   ·have hl:1<l.length:=by replace h0:=bJ h0;omega
    (revert K;refine aK h0 ?_;intro K hK)
    refine cD (ι:=Nat) (fun i=>[(1, .ptr 0 0 3 0 0),(2, .v (.bool false)),(3, .v (.int .i64 i))]) (fun _=>[some ⟨25,3,false,[[.v (.int .i64 k), .v (.string s), .aC 3 (l.map aS) l.length]]⟩]) (fun i=>l.length - i) (fun i=>i<=l.length∧ ∀j (h:j<l.length),j<i->cj l[j]=true) 0 ⟨by omega,fun j _ h=>absurd h (by omega)⟩ ?_ ?_
    ·refine bp ?_ aj
     rfl
    ·rintro i ⟨hi,hP⟩ K hK;simp only [gz,VN,VO,WC,WS,go_sem]
     (revert K;revert K;refine au ?_;intro K hK K hK K hK)
     refine bC.part (fun h=> ?_) (fun h=> ?_)
     ·have hlt:i<l.length:=by replace h:=bJ h;omega
      have eW:=ak (k:=i) (by omega);have eG:=getD_map aS l i [] hlt;have C:=hsub l[i] (Vx hlt);simp only [aD] at C eG
      repeat (first|(with_reducible first|refine aA.up ?_|refine fun (K:AK) hK=> ?_|(refine hK _ ?_;clear hK K))|simp only [go_sem,eG]|with_reducible refine wA ?_|clear hK K)
      refine ab.one C ?_
      ((iterate 5 revert K);refine aK eG ?_;intro K hK K hK K hK)
      refine bC.part (fun h5=> ?_) (fun h5=> ?_)
      ·((iterate 3 revert K);refine aK eW ?_)
       exact az.mk (i+1) ⟨by omega,fun j hj h3=>(by
        rcases Ue j i with r|r
        ·exact hP j hj r
        ·have e:j=i:=by omega
         subst e
         exact h5)⟩ (by omega) (by exact aO aj)
      ·((iterate 3 revert K);refine aK h5 ?_)
       have e:l.all cj=false:=by
        rw [<-WT,Vj];intro hh;rw [hh _ (Vx hlt)] at h5;cases h5
       rw [e,WU]
     ·have he:i=l.length:=by replace h:=bJ h;omega
      have e:l.all cj=true:=Vj.2 (fun y hy=>by
       obtain ⟨j,hj,rfl⟩:=WW hy
       exact hP j hj (by omega))
      ((iterate 3 revert K);refine au ?_)
      rw [e,tj,VC,bc];simp only [e1,e2,e3,e4,e5,e6];have hd:decide (1<l.length)=true:=decide_eq_true (by omega);simp [hd]
  ·have e1:(k==1)=false:=by rw [<-WT,beq_iff_eq];omega
   have e2:(k==2)=false:=by rw [<-WT,beq_iff_eq];omega
   have e3:(k==3)=true:=by rw [beq_iff_eq];omega
   have e4:(k==4)=false:=by rw [<-WT,beq_iff_eq];omega
   have e5:(k==5)=false:=by rw [<-WT,beq_iff_eq];omega
   have e6:(k==6)=false:=by rw [<-WT,beq_iff_eq];omega
   (revert K;refine qF e1 e2 e3 e4 e5 e6 ?_;intro K hK)
   refine bC.part (fun h0=> ?_) (fun h0=> ?_)
   ·have hl:l.length<2:=by replace h0:=bJ h0;omega
    (revert K;refine aK h0 ?_)
    have hd:decide (1<l.length)=false:=decide_eq_false (by omega);rw [bc];simp [e1,e2,e3,hd]
   ·have hl:1<l.length:=by replace h0:=bJ h0;omega
    (revert K;refine aK h0 ?_;intro K hK)
    refine cD (ι:=Nat) (fun i=>[(1, .ptr 0 0 3 0 0),(2, .v (.bool false)),(3, .v (.int .i64 i))]) (fun _=>[some ⟨25,3,false,[[.v (.int .i64 k), .v (.string s), .aC 3 (l.map aS) l.length]]⟩]) (fun i=>l.length - i) (fun i=>i<=l.length∧ ∀j (h:j<l.length),j<i->cj l[j]=true) 0 ⟨by omega,fun j _ h=>absurd h (by omega)⟩ ?_ ?_
    ·refine bp ?_ aj
     rfl
    ·rintro i ⟨hi,hP⟩ K hK;simp only [gz,VN,VO,WC,WS,go_sem]
     (revert K;revert K;refine au ?_;intro K hK K hK K hK)
     refine bC.part (fun h=> ?_) (fun h=> ?_)
     ·have hlt:i<l.length:=by replace h:=bJ h;omega
      have eW:=ak (k:=i) (by omega);have eG:=getD_map aS l i [] hlt;have C:=hsub l[i] (Vx hlt);simp only [aD] at C eG
      repeat (first|(with_reducible first|refine aA.up ?_|refine fun (K:AK) hK=> ?_|(refine hK _ ?_;clear hK K))|simp only [go_sem,eG]|with_reducible refine wA ?_|clear hK K)
      refine ab.one C ?_
      ((iterate 5 revert K);refine aK eG ?_;intro K hK K hK K hK)
      refine bC.part (fun h5=> ?_) (fun h5=> ?_)
      ·((iterate 3 revert K);refine aK eW ?_)
       exact az.mk (i+1) ⟨by omega,fun j hj h3=>(by
        rcases Ue j i with r|r
        ·exact hP j hj r
        ·have e:j=i:=by omega
         subst e
         exact h5)⟩ (by omega) (by exact aO aj)
      ·((iterate 3 revert K);refine aK h5 ?_)
       have e:l.all cj=false:=by
        rw [<-WT,Vj];intro hh;rw [hh _ (Vx hlt)] at h5;cases h5
       rw [e,WU]
     ·have he:i=l.length:=by replace h:=bJ h;omega
      have e:l.all cj=true:=Vj.2 (fun y hy=>by
       obtain ⟨j,hj,rfl⟩:=WW hy
       exact hP j hj (by omega))
      ((iterate 3 revert K);refine au ?_)
      rw [e,tj,VC,bc];simp only [e1,e2,e3,e4,e5,e6];have hd:decide (1<l.length)=true:=decide_eq_true (by omega);simp [hd]
  ·have e1:(k==1)=false:=by rw [<-WT,beq_iff_eq];omega
   have e2:(k==2)=false:=by rw [<-WT,beq_iff_eq];omega
   have e3:(k==3)=false:=by rw [<-WT,beq_iff_eq];omega
   have e4:(k==4)=true:=by rw [beq_iff_eq];omega
   have e5:(k==5)=false:=by rw [<-WT,beq_iff_eq];omega
   have e6:(k==6)=false:=by rw [<-WT,beq_iff_eq];omega
   (revert K;refine qF e1 e2 e3 e4 e5 e6 ?_;intro K hK)
   refine bC.part (fun h0=> ?_) (fun h0=> ?_)
   ·have hl:l.length≠1:=by replace h0:=bJ h0;omega
    (revert K;refine aK h0 ?_)
    have hd:decide (l.length=1)=false:=decide_eq_false hl;rw [bc];simp [e1,e2,e3,e4,e5,e6,hd]
   ·have hl:l.length=1:=by replace h0:=bJ h0;omega
    (revert K;refine aK h0 ?_;intro K hK)
    refine cD (ι:=Nat) (fun i=>[(1, .ptr 0 0 3 0 0),(2, .v (.bool false)),(3, .v (.int .i64 i))]) (fun _=>[some ⟨25,3,false,[[.v (.int .i64 k), .v (.string s), .aC 3 (l.map aS) l.length]]⟩]) (fun i=>l.length - i) (fun i=>i<=l.length∧ ∀j (h:j<l.length),j<i->cj l[j]=true) 0 ⟨by omega,fun j _ h=>absurd h (by omega)⟩ ?_ ?_
    ·refine bp ?_ aj
     rfl
    ·rintro i ⟨hi,hP⟩ K hK;simp only [gz,VN,VO,WC,WS,go_sem]
     (revert K;revert K;refine au ?_;intro K hK K hK K hK)
     refine bC.part (fun h=> ?_) (fun h=> ?_)
     ·have hlt:i<l.length:=by replace h:=bJ h;omega
      have eW:=ak (k:=i) (by omega);have eG:=getD_map aS l i [] hlt;have C:=hsub l[i] (Vx hlt);simp only [aD] at C eG
      repeat (first|(with_reducible first|refine aA.up ?_|refine fun (K:AK) hK=> ?_|(refine hK _ ?_;clear hK K))|simp only [go_sem,eG]|with_reducible refine wA ?_|clear hK K)
      refine ab.one C ?_
      ((iterate 5 revert K);refine aK eG ?_;intro K hK K hK K hK)
      refine bC.part (fun h5=> ?_) (fun h5=> ?_)
      ·((iterate 3 revert K);refine aK eW ?_)
       exact az.mk (i+1) ⟨by omega,fun j hj h3=>(by
        rcases Ue j i with r|r
        ·exact hP j hj r
        ·have e:j=i:=by omega
         subst e
         exact h5)⟩ (by omega) (by exact aO aj)
      ·((iterate 3 revert K);refine aK h5 ?_)
       have e:l.all cj=false:=by
        rw [<-WT,Vj];intro hh;rw [hh _ (Vx hlt)] at h5;cases h5
       rw [e,WU]
     ·have he:i=l.length:=by replace h:=bJ h;omega
      have e:l.all cj=true:=Vj.2 (fun y hy=>by
       obtain ⟨j,hj,rfl⟩:=WW hy
       exact hP j hj (by omega))
      ((iterate 3 revert K);refine au ?_)
      rw [e,tj,VC,bc];simp only [e1,e2,e3,e4,e5,e6];have hd:decide (l.length=1)=true:=decide_eq_true (by omega);simp [hd]
  ·have e1:(k==1)=false:=by rw [<-WT,beq_iff_eq];omega
   have e2:(k==2)=false:=by rw [<-WT,beq_iff_eq];omega
   have e3:(k==3)=false:=by rw [<-WT,beq_iff_eq];omega
   have e4:(k==4)=false:=by rw [<-WT,beq_iff_eq];omega
   have e5:(k==5)=true:=by rw [beq_iff_eq];omega
   have e6:(k==6)=false:=by rw [<-WT,beq_iff_eq];omega
   (revert K;refine qF e1 e2 e3 e4 e5 e6 ?_;intro K hK)
   refine bC.part (fun h0=> ?_) (fun h0=> ?_)
   ·have hl:l.length≠1:=by replace h0:=bJ h0;omega
    (revert K;refine aK h0 ?_)
    have hd:decide (l.length=1)=false:=decide_eq_false hl;rw [bc];simp [e1,e2,e3,e4,e5,e6,hd]
   ·have hl:l.length=1:=by replace h0:=bJ h0;omega
    (revert K;refine aK h0 ?_;intro K hK)
    refine cD (ι:=Nat) (fun i=>[(1, .ptr 0 0 3 0 0),(2, .v (.bool false)),(3, .v (.int .i64 i))]) (fun _=>[some ⟨25,3,false,[[.v (.int .i64 k), .v (.string s), .aC 3 (l.map aS) l.length]]⟩]) (fun i=>l.length - i) (fun i=>i<=l.length∧ ∀j (h:j<l.length),j<i->cj l[j]=true) 0 ⟨by omega,fun j _ h=>absurd h (by omega)⟩ ?_ ?_
    ·refine bp ?_ aj
     rfl
    ·rintro i ⟨hi,hP⟩ K hK;simp only [gz,VN,VO,WC,WS,go_sem]
     (revert K;revert K;refine au ?_;intro K hK K hK K hK)
     refine bC.part (fun h=> ?_) (fun h=> ?_)
     ·have hlt:i<l.length:=by replace h:=bJ h;omega
      have eW:=ak (k:=i) (by omega);have eG:=getD_map aS l i [] hlt;have C:=hsub l[i] (Vx hlt);simp only [aD] at C eG
      repeat (first|(with_reducible first|refine aA.up ?_|refine fun (K:AK) hK=> ?_|(refine hK _ ?_;clear hK K))|simp only [go_sem,eG]|with_reducible refine wA ?_|clear hK K)
      refine ab.one C ?_
      ((iterate 5 revert K);refine aK eG ?_;intro K hK K hK K hK)
      refine bC.part (fun h5=> ?_) (fun h5=> ?_)
      ·((iterate 3 revert K);refine aK eW ?_)
       exact az.mk (i+1) ⟨by omega,fun j hj h3=>(by
        rcases Ue j i with r|r
        ·exact hP j hj r
        ·have e:j=i:=by omega
         subst e
         exact h5)⟩ (by omega) (by exact aO aj)
      ·((iterate 3 revert K);refine aK h5 ?_)
       have e:l.all cj=false:=by
        rw [<-WT,Vj];intro hh;rw [hh _ (Vx hlt)] at h5;cases h5
       rw [e,WU]
     ·have he:i=l.length:=by replace h:=bJ h;omega
      have e:l.all cj=true:=Vj.2 (fun y hy=>by
       obtain ⟨j,hj,rfl⟩:=WW hy
       exact hP j hj (by omega))
      ((iterate 3 revert K);refine au ?_)
      rw [e,tj,VC,bc];simp only [e1,e2,e3,e4,e5,e6];have hd:decide (l.length=1)=true:=decide_eq_true (by omega);simp [hd]
  ·have e1:(k==1)=false:=by rw [<-WT,beq_iff_eq];omega
   have e2:(k==2)=false:=by rw [<-WT,beq_iff_eq];omega
   have e3:(k==3)=false:=by rw [<-WT,beq_iff_eq];omega
   have e4:(k==4)=false:=by rw [<-WT,beq_iff_eq];omega
   have e5:(k==5)=false:=by rw [<-WT,beq_iff_eq];omega
   have e6:(k==6)=true:=by rw [beq_iff_eq];omega
   (revert K;refine qF e1 e2 e3 e4 e5 e6 ?_;intro K hK)
   refine bC.part (fun h0=> ?_) (fun h0=> ?_)
   ·have hl:l.length≠1:=by replace h0:=bJ h0;omega
    (revert K;refine aK h0 ?_)
    have hd:decide (l.length=1)=false:=decide_eq_false hl;rw [bc];simp [e1,e2,e3,e4,e5,e6,hd]
   ·have hl:l.length=1:=by replace h0:=bJ h0;omega
    (revert K;refine aK h0 ?_;intro K hK)
    refine cD (ι:=Nat) (fun i=>[(1, .ptr 0 0 3 0 0),(2, .v (.bool false)),(3, .v (.int .i64 i))]) (fun _=>[some ⟨25,3,false,[[.v (.int .i64 k), .v (.string s), .aC 3 (l.map aS) l.length]]⟩]) (fun i=>l.length - i) (fun i=>i<=l.length∧ ∀j (h:j<l.length),j<i->cj l[j]=true) 0 ⟨by omega,fun j _ h=>absurd h (by omega)⟩ ?_ ?_
    ·refine bp ?_ aj
     rfl
    ·rintro i ⟨hi,hP⟩ K hK;simp only [gz,VN,VO,WC,WS,go_sem]
     (revert K;revert K;refine au ?_;intro K hK K hK K hK)
     refine bC.part (fun h=> ?_) (fun h=> ?_)
     ·have hlt:i<l.length:=by replace h:=bJ h;omega
      have eW:=ak (k:=i) (by omega);have eG:=getD_map aS l i [] hlt;have C:=hsub l[i] (Vx hlt);simp only [aD] at C eG
      repeat (first|(with_reducible first|refine aA.up ?_|refine fun (K:AK) hK=> ?_|(refine hK _ ?_;clear hK K))|simp only [go_sem,eG]|with_reducible refine wA ?_|clear hK K)
      refine ab.one C ?_
      ((iterate 5 revert K);refine aK eG ?_;intro K hK K hK K hK)
      refine bC.part (fun h5=> ?_) (fun h5=> ?_)
      ·((iterate 3 revert K);refine aK eW ?_)
       exact az.mk (i+1) ⟨by omega,fun j hj h3=>(by
        rcases Ue j i with r|r
        ·exact hP j hj r
        ·have e:j=i:=by omega
         subst e
         exact h5)⟩ (by omega) (by exact aO aj)
      ·((iterate 3 revert K);refine aK h5 ?_)
       have e:l.all cj=false:=by
        rw [<-WT,Vj];intro hh;rw [hh _ (Vx hlt)] at h5;cases h5
       rw [e,WU]
     ·have he:i=l.length:=by replace h:=bJ h;omega
      have e:l.all cj=true:=Vj.2 (fun y hy=>by
       obtain ⟨j,hj,rfl⟩:=WW hy
       exact hP j hj (by omega))
      ((iterate 3 revert K);refine au ?_)
      rw [e,tj,VC,bc];simp only [e1,e2,e3,e4,e5,e6];have hd:decide (l.length=1)=true:=decide_eq_true (by omega);simp [hd]
  ·have e1:(k==1)=false:=by rw [<-WT,beq_iff_eq];omega
   have e2:(k==2)=false:=by rw [<-WT,beq_iff_eq];omega
   have e3:(k==3)=false:=by rw [<-WT,beq_iff_eq];omega
   have e4:(k==4)=false:=by rw [<-WT,beq_iff_eq];omega
   have e5:(k==5)=false:=by rw [<-WT,beq_iff_eq];omega
   have e6:(k==6)=false:=by rw [<-WT,beq_iff_eq];omega
   (revert K;refine qF e1 e2 e3 e4 e5 e6 ?_)
   rw [bc];simp [e1,e2,e3,e4,e5,e6]
theorem mV (x:Ex) (h1:(ai x).length<=1000000) (hz: ∀z,z∈ai x->z.kids.length<=1000000∧z.label.size<=1000000000000000):ar Tryz.prog 36 [.agg (aS x)] (.v (.bool (ay x))):=by
 have S:=I8 x h1;have T:=It x hz;have e:ay x=(decide ((ai x).length<=24)&&cj x):=rfl;rw [e];simp only [aD] at S T ⊢;refine gE Tryz.func36 Tryz.ntmps36 Tryz.results36 ?_
 (refine bF ?_;intro K hK K hK)
 refine ab.one S ?_
 (revert K;revert K;refine bF ?_;intro K hK K hK)
 refine bC.part (fun h=> ?_) (fun h=> ?_)
 ·(revert K;revert K;refine G8 h ?_;intro K hK K hK)
  refine ab.one T ?_
  (revert K;revert K;refine G8 h ?_)
  have hd:decide ((ai x).length<=24)=true:=by (try simp only [decide_eq_true_eq,decide_eq_false_iff_not] at h);exact decide_eq_true (by omega)
  rw [hd,Bool.true_and]
 ·(revert K;revert K;refine Bj h ?_)
  have hd:decide ((ai x).length<=24)=false:=by (try simp only [decide_eq_true_eq,decide_eq_false_iff_not] at h);exact decide_eq_false (by omega)
  rw [hd,WV]
theorem dN.JM {P:Program} {f:FuncId} {args:List AV} {r0 r:AV} {o':List (Option aa)} (h:dN P f args [] r0 o') (ha:aX 0 args=true) (hr:r.wf 0=true) (hz:ox o' r0 r):jW P f args r:=by
 obtain ⟨hc,h2⟩:=h;refine ⟨⟨ha,hr⟩,hc,fun D nu w vargs hro hra=>(h2 D nu w vargs hro hra).mono ?_⟩;rintro e w' ⟨v,nu',o2,r2,rfl,hm,hro',hra',rfl,rfl⟩;refine ⟨v,rfl,⟨hm.os,hm.tape,hm.output,hm.size,fun b hb=>(hm.keep b hb (bl _ _)).1⟩,(hz _ _ _ _ hro' hra').tr (n:=0) (fun b hf=>⟨hf.1,bl _ _, ?_⟩) (fun id len hlt=>by omega) hr⟩
 rcases Nat.lt_or_ge b w.heap.size with q|q
 ·exact absurd hf.2.2 (hm.keep b q (bl _ _)).2
 ·exact q
theorem o4 (n:Nat) (hn:n<=1000):ar Tryz.prog 165 [.v (.int .i64 n)] (.aC 1 (jT (n+1) (fun _ _=>false)) (n+1)):=
 ((zx n hn).JM rfl (by simp only [AV.wf,ep]) (oZ _ _)).Qr
theorem vy {k N m i:Nat} {f:Nat->Nat->Bool} {b x:Option aa} (h:i<m):(b :: x :: aV N f m)[jR 1 i]? = some (js N (f i)):=by
 rw [show jR 1 i=jR 0 i+1 by unfold jR;omega,List.getElem?_cons_succ];exact kg (k:=k) h
theorem EV {N m i j:Nat} {f:Nat->Nat->Bool} {v:Bool} {b x:Option aa} (h:i<m):(b :: x :: aV N f m).set (jR 1 i) (some ⟨4,1,true,(cI N (f i)).set j [.v (.bool v)]⟩)=b :: x :: aV N (lh f i j v) m:=by
 rw [show jR 1 i=jR 0 i+1 by unfold jR;omega,List.set_cons_succ,mf h]
theorem Og {n k N m:Nat} {f:Nat->Nat->Bool} {b:Option aa} (hb: ∀ob,b=some ob->bw n ob.rows=true) (h:k+2 * m<=n):kE n (b :: bN k N m f) (b :: bN k N m f):=⟨.inr ⟨rfl,hb⟩,An h⟩
theorem My {t t':List AV} {y:jk} {N m:Nat} {f:Nat->Nat->Bool} {b:Option aa} (hb: ∀n ob,b=some ob->bw n ob.rows=true) (h:dt (2 * m+2) t t'):Wk 0 ⟨t,b :: some ⟨54,1,true,aY 1 N m⟩ :: aV N f m,y⟩ ⟨t',b :: bN 1 N m f,y⟩:=by
 have e:(b :: bN 1 N m f).length=2 * m+2:=by rw [Uh,fY]
 exact aj (by rw [e];exact h) (by rw [e];exact Og (hb _) (by omega)) (Nat.zero_le _)
theorem ET (b:Option aa) (N:Nat) (f:Nat->Nat->Bool):ox (b :: bN 1 N N f) (.vec 1 N) (.aC 1 (jT N f) N):=by
 refine ox.LW (ob:=⟨54,1,true,aY 1 N N⟩) rfl rfl (cC _ _ _) (by rw [rl];exact (cC _ _ _).symm) fun i row row' h1 h2=> ?_
 have hi:i<N:=by have:=(List.getElem?_eq_some_iff.1 h1).1;rw [cC] at this;exact this
 have e1:(aY 1 N N)[i]? = some [.vec (jR 1 i) N]:=by rw [aY,List.getElem?_map,List.getElem?_range hi];rfl
 have e2:(jT N f)[i]? = some [.aC 1 (cI N (f i)) N]:=by rw [jT,List.getElem?_map,List.getElem?_range hi];rfl
 cases (T6 (e1.symm.trans h1));cases (T6 (e2.symm.trans h2));refine ⟨rfl,fun j c c' k1 k2=> ?_⟩
 match j,k1,k2 with
 | 0,k1,k2=>
  cases k1;cases k2;exact ox.vec (ob:=⟨4,1,true,cI N (f i)⟩) (vy (k:=0) hi) rfl (iW _ _) (vH _ (fun s c hc=>by rw [List.mem_singleton] at hc;exact ⟨_,hc⟩) _)
 | j+1,k1,k2=>simp at k1
def iE (w:List ByteArray) (x:Ex):Prop:=ar Tryz.prog 150 [.agg (aS x),aZ w] (.aC 1 (jT (w.length+1) (gm (Lg x) w)) (w.length+1))
theorem Jy (w:List ByteArray) (hw:w.length<=1000) (s:ByteArray):iE w (.mk 1 s []):=by
 have hd:decide (1<2 * (w.length+1)+2)=true:=decide_eq_true (by omega);have hd0:decide (0<2 * (w.length+1)+2)=true:=decide_eq_true (by omega)
 have eL:gm (Lg (.mk 1 s [])) w=gm (fun u=>u=[s]) w:=gM fun u _=>by simp [Lg]
 rw [iE,eL, <- Ny];simp only [aD,aZ,Ex.kind,Ex.label,Ex.kids,Wi,Ub];refine jW.Qr ?_
 (refine jW.enter Tryz.func150 rfl (by kernel_rfl) (by kernel_rfl) rfl (by simp only [go_sem,aX,AV.wf,Wc,Bool.and_true,Bool.true_and,Go.undef]) (by simp only [go_sem,aX,AV.wf,bm,Wc,Bool.and_true,Bool.true_and,Go.undef]) ?_;simp only [Tryz.ntmps150,Tryz.results150,Uh,Ub,Nat.reduceAdd,Nat.reduceSub,List.replicate_succ,List.replicate_zero,List.cons_append,List.nil_append])
 (refine dO ?_;intro K hK K hK)
 refine ab.xE hw ?_;simp only [Uh,Ub,List.cons_append,List.nil_append,UU]
 (revert K;revert K;refine dO ?_;intro K hK)
 refine aT (ι:=Nat) 20 (fun i=>[(7, .v (.int .i64 i))]) (fun i=>some ⟨25,3,false,[[.v (.int .i64 1), .v (.string s), .aC 3 [] 0]]⟩ :: bN 1 (w.length+1) (w.length+1) (iy w s i)) (fun i=>w.length - i) (fun i=>i<=w.length) 0 (by omega) ?_ ?_
 ·rw [Hw w s];refine My (fun n ob e=>by cases e;rfl) ?_;simp only [go_sem,dt,true_or,or_true,true_and,and_true,hd,hd0];exact .inr rfl
 ·intro i hi K hK;simp only [bN]
  (revert K;revert K;refine dO ?_;intro K hK K hK K hK)
  refine bC.part (fun h=> ?_) (fun h=> ?_)
  ·have hlt:i<w.length:=by replace h:=bJ h;omega
   have hlt1:i<w.length+1:=by omega
   have hlt2:i+1<w.length+1:=by omega
   have eW:=ak (k:=i) (by omega);have eO:=jo (k:=1) (N:=w.length+1) hlt1;have hO: ∀b x,(b :: x :: aV (w.length+1) (iy w s i) (w.length+1))[jR 1 i]? = _:=fun b x=>vy (k:=0) (b:=b) (x:=x) hlt1
   have eG:(w.map encS).getD i []=[.v (.string (w.getD i ⟨#[]⟩))]:=by
    rw [getD_map encS w i [] hlt,encS,List.getD_eq_getElem?_getD,List.getElem?_eq_getElem hlt];rfl
   have eR:=cN (g:=iy w s i i) hlt2;have eS:=fun b x v=>EV (N:=w.length+1) (j:=i+1) (f:=iy w s i) (v:=v) (b:=b) (x:=x) hlt1;have eU:=zj w s i
   repeat (first|(with_reducible first|refine aA.up ?_|refine fun (K:AK) hK=> ?_|refine wE ?_|refine wK ?_|refine wF ?_|(refine hK _ ?_;clear hK K))|simp only [go_sem,eW,eO,hO,eG,js,eR,eS,eU]|with_reducible refine wA ?_|clear hK K)
   refine az.mk (i+1) (by omega) (by omega) (My (fun n ob e=>by cases e;rfl) ?_);simp only [go_sem,dt,true_or,or_true,true_and,and_true,hd,hd0]
  ·have e1:i=w.length:=by replace h:=bJ h;omega
   simp only [e1]
   ((iterate 3 revert K);refine dO ?_)
   exact ET _ _ _
theorem JA (w:List ByteArray) (hw:w.length<=1000) (s:ByteArray) (l:List Ex) (hl:l.length<=1000000) (H: ∀x,x∈l->iE w x):iE w (.mk 2 s l):=by
 have N:=o4 w.length hw;have S:=qt w.length hw
 have eL:gm (Lg (.mk 2 s l)) w=gm (cM l) w:=gM fun u _=>by simp [Lg]
 have e0:gm (fun u=>u=[]) w=gm (cM (l.take 0)) w:=gM fun u _=>by simp [cM]
 rw [tg,e0] at S;have H2:=fun x hx=>H x hx;simp only [iE] at H2 ⊢;rw [eL];simp only [aD,aZ,Ex.kind,Ex.label,Ex.kids] at H2 ⊢;refine gE Tryz.func150 Tryz.ntmps150 Tryz.results150 ?_
 (refine au ?_;intro K hK K hK)
 refine ab.one N ?_
 (revert K;revert K;refine au ?_;intro K hK K hK K hK)
 refine ab.one S ?_
 ((iterate 3 revert K);refine au ?_;intro K hK)
 refine bo (ι:=Nat) 43 (fun k=>[(6, .aC 1 (jT (w.length+1) (gm (cM (l.take k)) w)) (w.length+1)),(8, .v (.int .i64 k))]) (fun k=>l.length - k) (fun k=>k<=l.length) 0 (by omega) ?_ ?_
 ·refine bp ?_ aj
  rfl
 ·intro k hk K hK
  (revert K;revert K;refine au ?_;intro K hK K hK K hK)
  refine bC.part (fun h=> ?_) (fun h=> ?_)
  ·have hlt:k<l.length:=by replace h:=ot h;omega
   have eW:=ak (k:=k) (by omega);have eG:=getD_map aS l k [] hlt;have HX:=H2 l[k] (List.getElem_mem hlt);have J:=nR w.length (gm (cM (l.take k)) w) (gm (Lg l[k]) w) hw
   have eM:gm (fun u=> ∃a b,u=a++b∧cM (l.take k) a∧Lg l[k] b) w=gm (cM (l.take (k+1))) w:=gM fun u _=>by
    rw [Wg hlt,AF]
   rw [xB,eM] at J;simp only [aD] at eG
   repeat (first|(with_reducible first|refine aA.up ?_|refine fun (K:AK) hK=> ?_|(refine hK _ ?_;clear hK K))|simp only [go_sem,eG]|with_reducible refine wA ?_|clear hK K)
   refine ab.one HX ?_
   ((iterate 4 revert K);refine au ?_;iterate 4 intro K hK)
   refine ab.one J ?_
   ((iterate 4 revert K);refine aK eW ?_)
   exact az.mk (k+1) (by omega) (by omega) (by exact aO aj)
  ·have e1:l.take k=l:=Wl (by replace h:=ot h;omega);simp only [e1]
   ((iterate 3 revert K);refine au ?_)
   exact jB.aC (ep _ _ _)
theorem Jw (w:List ByteArray) (hw:w.length<=1000) (s:ByteArray) (l:List Ex) (hl:l.length<=1000000) (H: ∀x,x∈l->iE w x):iE w (.mk 3 s l):=by
 have N:=o4 w.length hw
 have eL:gm (Lg (.mk 3 s l)) w=gm (gT l) w:=gM fun u _=>by simp [Lg]
 have e0:gm (fun _=>False) w=gm (gT (l.take 0)) w:=gM fun u _=>by simp [gT]
 rw [Lc,e0] at N;have H2:=fun x hx=>H x hx;simp only [iE] at H2 ⊢;rw [eL];simp only [aD,aZ,Ex.kind,Ex.label,Ex.kids] at H2 ⊢;refine gE Tryz.func150 Tryz.ntmps150 Tryz.results150 ?_
 (refine au ?_;intro K hK K hK)
 refine ab.one N ?_
 (revert K;revert K;refine au ?_;intro K hK)
 refine bo (ι:=Nat) 61 (fun k=>[(6, .aC 1 (jT (w.length+1) (gm (gT (l.take k)) w)) (w.length+1)),(9, .v (.int .i64 k))]) (fun k=>l.length - k) (fun k=>k<=l.length) 0 (by omega) ?_ ?_
 ·refine bp ?_ aj
  rfl
 ·intro k hk K hK
  (revert K;revert K;refine au ?_;intro K hK K hK K hK)
  refine bC.part (fun h=> ?_) (fun h=> ?_)
  ·have hlt:k<l.length:=by replace h:=ot h;omega
   have eW:=ak (k:=k) (by omega);have eG:=getD_map aS l k [] hlt;have HX:=H2 l[k] (List.getElem_mem hlt);have J:=nJ w.length (gm (gT (l.take k)) w) (gm (Lg l[k]) w) hw
   have eM:gm (fun u=>gT (l.take k) u∨Lg l[k] u) w=gm (gT (l.take (k+1))) w:=gM fun u _=>by
    rw [Wg hlt,AE]
   rw [Ie,eM] at J;simp only [aD] at eG
   repeat (first|(with_reducible first|refine aA.up ?_|refine fun (K:AK) hK=> ?_|(refine hK _ ?_;clear hK K))|simp only [go_sem,eG]|with_reducible refine wA ?_|clear hK K)
   refine ab.one HX ?_
   ((iterate 4 revert K);refine au ?_;iterate 4 intro K hK)
   refine ab.one J ?_
   ((iterate 4 revert K);refine aK eW ?_)
   exact az.mk (k+1) (by omega) (by omega) (by exact aO aj)
  ·have e1:l.take k=l:=Wl (by replace h:=ot h;omega);simp only [e1]
   ((iterate 3 revert K);refine au ?_)
   exact jB.aC (ep _ _ _)
theorem Jz (w:List ByteArray) (hw:w.length<=1000) (s:ByteArray) (x:Ex) (H:iE w x):iE w (.mk 6 s [x]):=by
 have N:=o4 w.length hw;have S:=qt w.length hw;have O:=nJ w.length (gm (fun u=>u=[]) w) (gm (Lg x) w) hw
 have eL:gm (fun u=>u=[]∨Lg x u) w=gm (Lg (.mk 6 s [x])) w:=gM fun u _=>by simp [Lg,rH]
 rw [Ie,eL] at O;rw [tg] at S;simp only [iE] at H ⊢;simp only [aD,aZ,Ex.kind,Ex.label,Ex.kids,List.map_cons,Wi,Uh,Ub,UU] at H ⊢;refine gE Tryz.func150 Tryz.ntmps150 Tryz.results150 ?_
 (refine cn ?_;intro K hK K hK)
 refine ab.one N ?_
 (revert K;revert K;refine cn ?_;intro K hK K hK)
 refine ba.one S ?_
 repeat (first|(with_reducible first|refine aA.up ?_|refine fun (K:AK) hK=> ?_|refine wD ?_|(refine hK _ ?_;clear hK K))|simp only [go_sem]|with_reducible refine wA ?_|clear hK K)
 refine ba.one H ?_
 (revert K;revert K;refine cn ?_;intro K hK K hK)
 refine ba.one O ?_
 (revert K;revert K;refine cn ?_)
 exact jB.aC (ep _ _ _)
theorem vY (w:List ByteArray) (hw:w.length<=1000) (kd:Int) (hk:kd=4∨kd=5) (s:ByteArray) (x:Ex) (H:iE w x):iE w (.mk kd s [x]):=by
 have N:=o4 w.length hw;have S:=qt w.length hw;have O:=nJ w.length (gm (fun u=>u=[]) w) (gm (Lg x) w) hw;have e1:gm (fun u=>u=[]∨Lg x u) w=gm (c8 (Lg x) 1) w:=gM fun u _=>c8.one.symm;rw [Ie,e1] at O;rw [tg] at S;have J:=fun k=>nR w.length (gm (c8 (Lg x) k) w) (gm (c8 (Lg x) k) w) hw;have e2: ∀k,gm (fun u=> ∃a b,u=a++b∧c8 (Lg x) k a∧c8 (Lg x) k b) w=gm (c8 (Lg x) (k+k)) w:=fun k=>gM fun u _=>c8.add.symm;simp only [xB,e2] at J;have P:=nR w.length (gm (Lg x) w) (gm (cQ (Lg x)) w) hw
 have e5:gm (fun u=> ∃a b,u=a++b∧Lg x a∧cQ (Lg x) b) w=gm (Lg (.mk 5 s [x])) w:=gM fun u _=>by simp [Lg,rH]
 have e4:gm (cQ (Lg x)) w=gm (Lg (.mk 4 s [x])) w:=gM fun u _=>by
  have:rH [x]=Lg x:=by funext v;rw [rH]
  simp [Lg,this]
 have eP: ∀k,w.length<=k->gm (c8 (Lg x) k) w=gm (cQ (Lg x)) w:=fun k hk=>gM fun u hu=>IC (by omega);rw [xB,e5] at P;simp only [iE] at H ⊢
 rcases hk with rfl|rfl
 all_goals
  simp only [aD,aZ,Ex.kind,Ex.label,Ex.kids,List.map_cons,Wi,Uh,Ub,UU] at H ⊢;refine gE Tryz.func150 Tryz.ntmps150 Tryz.results150 ?_
  repeat (first|(with_reducible first|refine aA.up ?_|refine fun (K:AK) hK=> ?_|(refine hK _ ?_;clear hK K))|simp only [go_sem]|with_reducible refine wA ?_|clear hK K)
  refine ab.one N ?_
  repeat (first|(with_reducible first|refine aA.up ?_|refine fun (K:AK) hK=> ?_|(refine hK _ ?_;clear hK K))|simp only [go_sem]|with_reducible refine wA ?_|clear hK K)
  refine ab.one H ?_
  repeat (first|(with_reducible first|refine aA.up ?_|refine fun (K:AK) hK=> ?_|(refine hK _ ?_;clear hK K))|simp only [go_sem]|with_reducible refine wA ?_|clear hK K)
  refine ab.one S ?_
  repeat (first|(with_reducible first|refine aA.up ?_|refine fun (K:AK) hK=> ?_|(refine hK _ ?_;clear hK K))|simp only [go_sem]|with_reducible refine wA ?_|clear hK K)
  refine ab.one O ?_
  repeat (first|(with_reducible first|refine aA.up ?_|refine fun (K:AK) hK=> ?_|(refine hK _ ?_;clear hK K))|simp only [go_sem]|with_reducible refine wA ?_|clear hK K)
  refine bo (ι:=Nat) 101 (fun k=>[(6, .aC 1 (jT (w.length+1) (gm (c8 (Lg x) k) w)) (w.length+1)),(11, .v (.int .i64 k))]) (fun k=>w.length - k) (fun k=>1<=k∧k<=2 * w.length+1) 1 (by omega) ?_ ?_
  ·refine bp ?_ aj
   rfl
  ·rintro k ⟨hk1,hk2⟩ K hK
   repeat (first|(with_reducible first|refine aA.up ?_|refine fun (K:AK) hK=> ?_|(refine hK _ ?_;clear hK K))|simp only [go_sem]|with_reducible refine wA ?_|clear hK K)
   refine bC.part (fun h=> ?_) (fun h=> ?_)
   ·have hlt:k<w.length:=by replace h:=ot h;omega
    have eW:IntKind.i64.wrap (2 * (k:Int))=((k+k:Nat):Int):=by rw [dr (by omega) (by omega)];omega
    have Jk:=J k
    repeat (first|(with_reducible first|refine aA.up ?_|refine fun (K:AK) hK=> ?_|(refine hK _ ?_;clear hK K))|simp only [go_sem]|with_reducible refine wA ?_|clear hK K)
    refine ab.one Jk ?_
    repeat (first|(with_reducible first|refine aA.up ?_|refine fun (K:AK) hK=> ?_|(refine hK _ ?_;clear hK K))|simp only [go_sem,eW]|with_reducible refine wA ?_|clear hK K)
    exact az.mk (k+k) ⟨by omega,by omega⟩ (by omega) (by exact aO aj)
   ·rw [eP k (by replace h:=ot h;omega)]
    repeat (first|(with_reducible first|refine aA.up ?_|refine fun (K:AK) hK=> ?_|(refine hK _ ?_;clear hK K))|simp only [go_sem]|with_reducible refine wA ?_|clear hK K)
    first
     | ((refine ab.one P ?_);((revert K;revert K;refine au ?_));(exact jB.aC (ep _ _ _)))
     | (rw [e4];exact jB.aC (ep _ _ _))
theorem Of (w:List ByteArray) (hw:w.length<=1000) {x:Ex} (h:Fit x) (hx:(ai x).length<=1000000):iE w x:=by
 induction h with
 | lab s=>exact Jy w hw s
 | many k s l hk hl _ ih=>
  have hl2:=kQ (.mk k s l);simp only [Ex.kids] at hl2
  have sub: ∀y,y∈l->(ai y).length<=1000000:=fun y hy=>by
   have:=gG (.mk k s l) y (by rw [ai,bn];exact U8 _ (List.mem_flatMap.2 ⟨y,hy,by obtain ⟨k',s',l'⟩:=y;rw [ai];exact List.mem_cons_self⟩))
   omega
  rcases hk with rfl|rfl
  ·exact JA w hw s l (by omega) (fun y hy=>ih y hy (sub y hy))
  ·exact Jw w hw s l (by omega) (fun y hy=>ih y hy (sub y hy))
 | one k s y hk _ ih=>
  have sub:(ai y).length<=1000000:=by
   have:=gG (.mk k s [y]) y (by rw [ai,bn];exact U8 _ (List.mem_flatMap.2 ⟨y,by simp,by obtain ⟨k',s',l'⟩:=y;rw [ai];exact List.mem_cons_self⟩))
   omega
  rcases hk with rfl|rfl|rfl
  ·exact vY w hw 4 (.inl rfl) s y (ih sub)
  ·exact vY w hw 5 (.inr rfl) s y (ih sub)
  ·exact Jz w hw s y (ih sub)
theorem Fu (x:Ex) (w:List ByteArray) (hw:w.length<=1000) (h1:(ai x).length<=1000000) (hz: ∀z,z∈ai x->z.kids.length<=1000000∧z.label.size<=1000000000000000):ar Tryz.prog 133 [.agg (aS x),aZ w] (.v (.bool (jH x w))):=by
 have R:=mV x h1 hz
 cases hr:ay x
 ·have e:jH x w=false:=by rw [<-Bool.not_eq_true,ia];simp [hr]
  rw [hr] at R;rw [e];simp only [aD,aZ] at R ⊢;refine gE Tryz.func133 Tryz.ntmps133 Tryz.results133 ?_
  (refine au ?_;intro K hK K hK K hK)
  refine ab.one R ?_
  ((iterate 3 revert K);exact yZ)
 ·have W:=Of w hw (dX hr).1 h1
  have e:jH x w=gm (Lg x) w 0 w.length:=by
   rw [Bool.eq_iff_iff,ia,dK,Tk.word];simp [hr]
  have eA:=qc (N:=w.length+1) (f:=gm (Lg x) w) (i:=0) (by omega);have eB:=cN (N:=w.length+1) (g:=gm (Lg x) w 0) (j:=w.length) (by omega);rw [hr] at R;rw [e];simp only [iE,aD,aZ] at R W ⊢;refine gE Tryz.func133 Tryz.ntmps133 Tryz.results133 ?_
  (refine au ?_;intro K hK K hK K hK)
  refine ab.one R ?_
  ((iterate 3 revert K);refine au ?_;intro K hK K hK)
  refine ab.one W ?_
  (revert K;revert K;exact He eA eB)
theorem yP (x:Ex):jH x []=dj x:=by
 rw [Bool.eq_iff_iff,ia,dj,Bool.and_eq_true]
 constructor
 ·rintro ⟨h,k⟩;exact ⟨h,(fF (dX h).1).2 k⟩
 ·rintro ⟨h,k⟩;exact ⟨h,(fF (dX h).1).1 k⟩
theorem pT (x:Ex) (h1:(ai x).length<=1000000) (hz: ∀z,z∈ai x->z.kids.length<=1000000∧z.label.size<=1000000000000000):ar Tryz.prog 100 [.agg (aS x)] (.v (.bool (dj x))):=by
 have T:=(Fu x [] (by simp) h1 hz).le (args':=[.agg (aS x), .v (.slice none 0 0)]) (by simp only [go_sem,fe,Wc]) (.cons (.refl _) (.cons (.nil 1) .nil));rw [yP] at T;simp only [aD] at T ⊢;refine gE Tryz.func100 Tryz.ntmps100 Tryz.results100 ?_
 (refine bF ?_;intro K hK K hK)
 refine ab.one T ?_
 (revert K;revert K;exact y0)
end Go.Proofs.YtfflpdekojlnmaaGreatDoor
