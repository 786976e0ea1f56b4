/- texts of one claim, one behind the other. -/
import Derived.Test.YtfflpdekojlnmaaGreatDoorXOpenX
import Derived.Test.YtfflpdekojlnmaaGreatDoorXOfK
import Derived.Test.YtfflpdekojlnmaaGreatDoorXDfaD
import Derived.Test.YtfflpdekojlnmaaGreatDoorProg
import Derived.Test.YtfflpdekojlnmaaGreatDoorXFen
import Derived.Test.YtfflpdekojlnmaaGreatDoorXLens
import Derived.Test.YtfflpdekojlnmaaGreatDoorXLaw07
import Derived.Test.YtfflpdekojlnmaaGreatDoorXDfaK
import Derived.Test.YtfflpdekojlnmaaGreatDoorXWays
set_option linter.unusedSimpArgs false
set_option linter.unusedVariables false
set_option maxRecDepth 100000
set_option maxHeartbeats 16000000
open Bool renaming and_self -> Wc, and_true -> VC, true_and -> Vq, eq_iff_iff -> Wm
open List renaming length_cons -> Uh, length_nil -> Ub, cons_append -> VK, nil_append -> VJ, getElem?_cons_succ -> VB, getD_eq_getElem?_getD -> U3, append_assoc -> UD, length_append -> Ug, map_cons -> Wa, map_nil -> Wi, replicate_succ -> WC, replicate_zero -> WS, take_of_length_le -> Wl, getElem?_append_left -> Ud, getElem?_append_right -> UF, map_map -> Wd, length_map -> U2, map_append -> V7, length_singleton -> V9, getElem?_map -> Ut, getElem?_eq_getElem -> Uq, take_succ_eq_append_getElem -> Wg, drop_succ_cons -> Wz, drop_zero -> WA, mem_append_left -> V0, getElem_map -> V2, set_cons_zero -> VR, set_cons_succ -> VQ
open Option.some renaming inj -> T6
open Nat renaming zero_le -> Ui, sub_self -> Vf, lt_add_one -> Ww, zero_lt_one -> Wx
open Option renaming map_some -> UI
namespace Go.Proofs.YtfflpdekojlnmaaGreatDoor
open Go.RowKit
theorem NG (x:Ex) (hr:ay x=true) (hp:(ai x).length<=1000000) (hz: ∀z,z∈ai x->z.kids.length<=1000000∧z.label.size<=1000000000000000):QG x:=by
 induction x using Ex.ind with
 | h k s l ih=>
  have hsub: ∀x,x∈l-> ∀z,z∈ai x->z∈ai (.mk k s l):=fun x hx z hz=>by
   rw [ai,bn];exact List.mem_cons_of_mem _ (List.mem_flatMap.2 ⟨x,hx,hz⟩)
  by_cases h1:k=1
  ·subst h1
   have hl:l=[]:=by
    have:=(dX hr).1
    cases this with
    | lab s=>rfl
    | many k s l h _ _=>omega
    | one k s x h _=>omega
   subst hl;exact NI s hr hz
  ·refine Lj k h1 s l hr hp hz fun x hx=>ih x hx (ld hr x hx) ?_ (fun z hzz=>hz z (hsub x hx z hzz))
   have:=gG (.mk k s l) x (hsub x hx x (by obtain ⟨k',s',l'⟩:=x;rw [ai];exact List.mem_cons_self))
   omega
theorem pd (p k N:Nat): ∀m,cF (fun j=>p+j) (aY k N m)=aY (p+k) N m
 | 0=>rfl
 | m+1=>by
  rw [dm,dm,qi,pd p k N m];simp only [bS,AV.bd,jR];rw [show p+(k+1+2 * m)=p+k+1+2 * m by omega]
theorem vN (g:Nat->Nat) (N:Nat) (f:Nat->Nat->Bool): ∀m,(aV N f m).map (Option.map (aa.bd g))=aV N f m
 | 0=>rfl
 | m+1=>by
  rw [dP,List.map_append,vN g N f m];simp only [List.map_cons,List.map_nil,js,Option.map_some,Option.map_none,aa.bd,jK]
theorem zP (x:Ex) (labs:List ByteArray) (n:Nat) (f:Nat->Nat->Bool):(cv 0 x labs n f).map (Option.map (aa.bd (fun j=>1+j)))=cv 1 x labs n f:=by
 rw [cv,cv,bN,bN];simp only [List.map_cons,vN,Option.map_some,aa.bd,pd,qh,cF,lH,bS,AV.bd,e8 _ _ (bf 0 x.kids)]
theorem ab.RQ {F:FuncId} {args:List AV} {r0:AV} {K:AV->List (Option aa)->Prop} {y:Ex} {labs labs':List ByteArray} {n:Nat} {f f':Nat->Nat->Bool} {xb:aa}
  (h:dN Tryz.prog F (.ptr 0 0 8 0 0 :: args) (cv 0 y labs n f) r0 (cv 0 y labs' n f')) (hwa: ∀m,aX m args=true) (hr: ∀m,r0.wf m=true)
  (k:K r0 (some xb :: cv 1 y labs' n f')):ab Tryz.prog F (.ptr 1 0 8 0 0 :: args) (some xb :: cv 1 y labs n f) K:=by
 have hf: ∀k,k<0->(fun j=>1+j) k=k:=fun k h=>by omega
 have q:ab Tryz.prog F (bS (fun j=>[some xb].length+j) (.ptr 0 0 8 0 0 :: args)) ([some xb]++(cv 0 y labs n f).map (Option.map (aa.bd (fun j=>[some xb].length+j)))++[]) K:=by
  refine ab.RX (o1:=cv 0 y labs' n f') (pre:=[some xb]) (post:=[]) h (by rw [bO,bO]) ?_ (jb (by rw [bO];omega)) (jb (by rw [bO];omega)) (hr _) ?_
  ·rw [aX,hwa,Bool.and_true,AV.wf];exact decide_eq_true (by rw [bO];omega)
  ·simp only [Uh,Ub,Nat.zero_add,List.append_nil,zP,qj hf r0 (hr 0),VK,VJ];exact k
 simp only [Uh,Ub,Nat.zero_add,List.append_nil,zP,bS,gP hf args (hwa 0),AV.bd,VK,VJ,Nat.add_zero] at q;exact q
noncomputable def tM (x:Ex):List AV:=[.aC 1 ((aB x).map encS) (aB x).length, .aC 1 (cI (aB x).length (jP x 0)) (aB x).length, .aC 1 (cI (aB x).length (ej x 0)) (aB x).length, .aC 1 (jT (aB x).length (jO x 0)) (aB x).length, .v (.bool (dj x)), .v (.int .i64 x.kind), .v (.string x.label), .aC 3 (x.kids.map aS) x.kids.length]
theorem jc (n:Nat) (x:Ex):aX n (tM x)=true:=by
 simp only [tM,aX,AV.wf,bm,aU,ep,bf,Wc]
theorem Lh (x:Ex) (h1:(ai x).length<=1000000) (hz: ∀z,z∈ai x->z.kids.length<=1000000∧z.label.size<=1000000000000000) :
  ar Tryz.prog 69 [.agg (aS x)] (if ay x then .cL [.vp (tM x), .v (.int .i64 0)] else .cL [.v (.pointer none), .v (.int .i64 2)]):=by
 have R:=mV x h1 hz;have E:=pT x h1 hz
 cases hr:ay x
 ·rw [hr] at R;simp only [Bool.false_eq_true,if_false];simp only [aD] at *;refine gE Tryz.func69 Tryz.ntmps69 Tryz.results69 ?_
  (refine l8 ?_;intro K hK K hK K hK)
  refine ab.one R ?_
  ((iterate 3 revert K);refine l8 ?_)
  (refine jB.of 40 rfl ?_;simp only [go_sem])
 ·rw [hr] at R;simp only [if_true];have hnl:(aB x).length<=24:=qb hr;have M:=Ia x hr;have O:=NG x hr h1 hz x [] (aB x).length (fun _ _=>false) (by omega) (by simp);simp only [VJ,Ub,Bool.false_or] at O
  have hF:(AV.cL [.vp (tM x), .v (.int .i64 0)]).wf 0=true:=by simp only [AV.wf,aX,jc,Wc]
  have hA:aX 0 [AV.agg (aS x)]=true:=by simp only [AV.wf,aX,fe,Wc]
  generalize hrv:AV.cL [.vp (tM x), .v (.int .i64 0)]=rv at hF;simp only [aD] at R E M O hA ⊢
  (refine ar.l5 Tryz.func69 rfl (by kernel_rfl) (by kernel_rfl) rfl hA hF ?_;simp only [Tryz.ntmps69,Tryz.results69,Uh,Ub,Nat.reduceAdd,Nat.reduceSub,List.replicate_succ,List.replicate_zero,VK,VJ])
  (refine l8 ?_;intro K hK K hK K hK)
  refine ab.one R ?_
  repeat ((fail_if_success (with_reducible refine bB (i:=3) ?_));first|(with_reducible first|refine aA.up ?_|refine fun (K:AK) hK=> ?_|refine ae (by decide) ?_|refine ah (by decide) ?_|refine fS (by decide) ?_|(refine hK _ ?_;clear hK K))|simp only [go_sem]|with_reducible refine wA ?_|(refine fT rfl rfl ?_)|(refine dT rfl ?_)|clear hK K)
  refine bV [4] [] (by decide+kernel) (by kernel_rfl) ?_
  (revert K;refine l8 ?_;intro K hK K hK)
  refine ba.one E ?_
  repeat ((fail_if_success (with_reducible refine bB (i:=4) ?_));first|(with_reducible first|refine aA.up ?_|refine fun (K:AK) hK=> ?_|refine ae (by decide) ?_|refine ah (by decide) ?_|refine fS (by decide) ?_|(refine hK _ ?_;clear hK K))|simp only [go_sem]|with_reducible refine wA ?_|(refine fT rfl rfl ?_)|(refine dT rfl ?_)|clear hK K)
  refine bb (dD (k:=1) (i:=0) (j:=0) 9 1 (by decide) rfl (show 0<8 by decide) rfl rfl) (by kernel_rfl) ?_;simp only [Uh,Ub,Nat.reduceAdd,VK,VJ,List.set_cons_zero,List.set_cons_succ];refine bb (dD (k:=1) (i:=0) (j:=3) 54 1 (by decide) rfl (show 0<8 by decide) rfl rfl) (by kernel_rfl) ?_;simp only [Uh,Ub,Nat.reduceAdd,VK,VJ,List.set_cons_zero,List.set_cons_succ]
  (revert K;revert K;refine l8 ?_;intro K hK K hK K hK)
  refine ab.one M ?_
  ((iterate 3 revert K);refine l8 ?_;intro K hK)
  generalize hn:(aB x).length=n at *
  refine aT (ι:=Nat) 7 (fun m=>[(5, .v (.int .i64 (n - m:Nat)))]) (fun m=>some ⟨25,3,false,[[.v (.int .i64 x.kind), .v (.string x.label), .aC 3 (x.kids.map aS) x.kids.length]]⟩ :: some ⟨120,8,false,[[.vec 2 0, .v (.slice none 0 0), .v (.slice none 0 0), .vec 3 m, .v (.bool (dj x)), .v (.int .i64 x.kind), .v (.string x.label), .aC 3 (x.kids.map aS) x.kids.length]]⟩ :: some ⟨9,1,true,[]⟩ :: bN 3 n m (fun _ _=>false)) (fun m=>n - m) (fun m=>m<=n) 0 (by omega) ?_ ?_
  ·have hd: ∀j,j<4->decide (j<(bN 3 n 0 (fun _ _=>false)).length+1+1+1)=true:=fun j hj=>decide_eq_true (by rw [fY];omega)
   refine iG ?_ ?_ aj
   ·exact ⟨hd 0 (by omega),hd 1 (by omega)⟩
   ·refine ⟨by rw [hd 2 (by omega),hd 3 (by omega)];rfl, ?_⟩;exact An (by rw [fY];omega)
  ·intro m hm K hK;simp only [bN]
   repeat ((fail_if_success (with_reducible refine bB (i:=7) ?_));first|(with_reducible first|refine aA.up ?_|refine fun (K:AK) hK=> ?_|refine ae (by decide) ?_|refine ah (by decide) ?_|refine fS (by decide) ?_|(refine hK _ ?_;clear hK K))|simp only [go_sem]|with_reducible refine wA ?_|(refine fT rfl rfl ?_)|(refine dT rfl ?_)|clear hK K)
   refine bC.part (fun h=> ?_) (fun h=> ?_)
   ·have hlt:m<n:=by replace h:=bJ h;omega
    have eW:IntKind.i64.wrap (((n - m:Nat):Int) - 1)=((n - (m+1):Nat):Int):=by rw [dr (by omega) (by omega)];omega
    have eL:List.replicate n [AV.v (.bool false)]=cI n (fun _=>false):=jg n
    repeat ((fail_if_success (with_reducible refine bB (i:=7) ?_));first|(with_reducible first|refine aA.up ?_|refine fun (K:AK) hK=> ?_|refine ae (by decide) ?_|refine ah (by decide) ?_|refine fS (by decide) ?_|(refine hK _ ?_;clear hK K))|simp only [go_sem]|with_reducible refine wA ?_|(refine fT rfl rfl ?_)|(refine dT rfl ?_)|clear hK K)
    refine D4 [7,8,9,12] [(4,1009)] (by decide+kernel) (by kernel_rfl) ?_;have g1:=fun tl j=>Kc (ag n (fun _ _=>false) m) tl j;have g0:=fun tl=>rS (ag n (fun _ _=>false) m) tl;have s1:=fun tl j x=>Kd (ag n (fun _ _=>false) m) tl j x;have s0:=fun tl x=>rT (ag n (fun _ _=>false) m) tl x
    ((iterate 3 revert K);refine l8 ?_;iterate 4 intro K hK)
    refine ba.one M ?_
    repeat (first|(with_reducible first|refine aA.up ?_|refine fun (K:AK) hK=> ?_|refine ae (by decide) ?_|refine ah (by decide) ?_|refine fS (by decide) ?_|(refine hK _ ?_;clear hK K))|simp only [go_sem,eL,g1,g0,s1,s0,ag,List.length_append]|with_reducible refine wA ?_|(refine fT rfl rfl ?_)|(refine dT rfl ?_)|clear hK K)
    refine Nn eW eL g1 g0 s1 ?_
    refine az.mk (m+1) (by omega) (by omega) (aj ?_ ?_ ?_)
    ·have hd: ∀j,j<4->decide (j<(bN 3 n (m+1) (fun _ _=>false)).length+1+1+1)=true:=fun j hj=>decide_eq_true (by rw [fY];omega);simp only [Uh];simp only [go_sem,dt,true_or,or_true,true_and,and_true];exact ⟨.inr (hd 0 (by omega)), .inr (hd 1 (by omega))⟩
    ·have hd: ∀j,j<4->decide (j<(bN 3 n (m+1) (fun _ _=>false)).length+1+1+1)=true:=fun j hj=>decide_eq_true (by rw [fY];omega)
     have hz':(bN 3 n (m+1) (fun _ _=>false)).length+1+1+1=2 * (m+1)+4:=by rw [fY]
     have hwf:bw (2 * (m+1)+4) (aY 3 n (m+1))=true:=jv (by omega)
     have hor:aY 3 n (m+1)=aY 3 n m++[[.vec (2 * m+1+1+1+1) n]]:=by rw [dm,show jR 3 m=2 * m+1+1+1+1 by unfold jR;omega]
     simp only [Uh];refine ⟨.inr ⟨rfl,fun ob e=>by cases e;simp only [bw,aX,AV.wf,bf,Wc]⟩, .inr ⟨rfl,fun ob e=>by cases e;simp only [bw,aX,AV.wf,bf,Wc,hd 2 (by omega),hd 3 (by omega)]⟩, .inr ⟨rfl,fun ob e=>by cases e;rfl⟩, ?_⟩;rw [hz'];simp only [bN,dP];exact ⟨.inr ⟨by rw [hor],fun ob e=>by cases e;exact hwf⟩,ll (fun ob h=>mB _ _ _ _ _ h) ⟨.inr ⟨rfl,fun ob e=>by cases e;exact aU _ _ _⟩, .inl rfl,trivial⟩⟩
    ·exact Nat.zero_le _
   ·have e1:m=n:=by replace h:=bJ h;omega
    simp only [e1]
    repeat ((fail_if_success (with_reducible refine bB (i:=8) ?_));first|(with_reducible first|refine aA.up ?_|refine fun (K:AK) hK=> ?_|refine ae (by decide) ?_|refine ah (by decide) ?_|refine fS (by decide) ?_|(refine hK _ ?_;clear hK K))|simp only [go_sem]|with_reducible refine wA ?_|(refine fT rfl rfl ?_)|(refine dT rfl ?_)|clear hK K)
    (revert K;refine l8 ?_;intro K hK K hK)
    refine ab.RQ (y:=x) (labs:=[]) (xb:=⟨25,3,false,[[.v (.int .i64 x.kind), .v (.string x.label), .aC 3 (x.kids.map aS) x.kids.length]]⟩) O (fun k=>by simp only [aX,AV.wf,bf,Wc]) (fun k=>by simp only [AV.wf,aX,aU,Wc]) ?_;simp only [cv,bN,lH,List.map_nil,Ub,Nat.reduceAdd];have g1:=fun f tl j=>nG n f tl j;have g0:=fun f tl=>x6 n f tl;have s1:=fun f tl j x=>nS n f tl j x;have s0:=fun f tl x=>x7 n f tl x
    (revert K;revert K;refine Nl g1 g0 s1 ?_)
    rw [<-hrv];simp only [tM,hn];refine bH.cL ⟨bH.ptr (ob:=⟨120,8,false,[[.vec 2 n, .aC 1 (cI n (jP x 0)) n, .aC 1 (cI n (ej x 0)) n, .vec 3 n, .v (.bool (dj x)), .v (.int .i64 x.kind), .v (.string x.label), .aC 3 (x.kids.map aS) x.kids.length]]⟩) rfl rfl rfl (Nat.succ_ne_zero 7) ?_,bH.v _,trivial⟩;refine ⟨bH.Ae (ob:=⟨9,1,true,(aB x).map encS⟩) rfl rfl (by simp [encS,hn]) (bm 0 _),bH.uD (aU 0 _ _),bH.uD (aU 0 _ _), ?_,bH.v _,bH.v _,bH.v _,bH.uD (bf 0 _),trivial⟩;refine bH.LW (ob:=⟨54,1,true,aY 3 n n⟩) rfl rfl (cC _ _ _) (by rw [rl];exact (cC _ _ _).symm) fun i row row' h1 h2=> ?_
    have hi:i<n:=by have:=(List.getElem?_eq_some_iff.1 h1).1;rw [cC] at this;exact this
    have e1:(aY 3 n n)[i]? = some [.vec (jR 3 i) n]:=by rw [aY,List.getElem?_map,List.getElem?_range hi];rfl
    have e2:(jT n (jO x 0))[i]? = some [.aC 1 (cI n (jO x 0 i)) n]:=by rw [jT,List.getElem?_map,List.getElem?_range hi];rfl
    cases (T6 (e1.symm.trans h1));cases (T6 (e2.symm.trans h2));refine ⟨bH.Ae (ob:=⟨4,1,true,cI n (jO x 0 i)⟩) ?_ rfl (iW _ _) (aU 0 _ _),trivial⟩;rw [show jR 3 i=2 * i+1+1+1+1 by unfold jR;omega,VB,VB,VB,VB,List.getElem?_append_left (by rw [ag];omega)];exact p8 hi
theorem KA {l:List ByteArray} {i:Nat} (h:i<l.length):(l.map encS).getD i []=[.v (.string (l.getD i ⟨#[]⟩))]:=by
 rw [U3,U3,List.getElem?_map,List.getElem?_eq_getElem h];rfl
theorem sh (N:Nat) (a b:Nat->Bool) (hn:N<=1000):dN Tryz.prog 103 [.vec 0 N, .aC 1 (cI N b) N] [some ⟨4,1,true,cI N a⟩] (.vec 1 N) [some ⟨4,1,true,cI N a⟩,some ⟨4,1,true,cI N (fun q=>a q||b q)⟩]:=by
 refine gF Tryz.func103 Tryz.ntmps103 Tryz.results103 ?_
 have e0:List.replicate N [AV.v (.bool false)]=cI N (lD a b 0):=by rw [jg];exact lg fun q _=>by simp [lD]
 repeat (first|(with_reducible first|refine aA.up ?_|refine fun (K:AK) hK=> ?_|(refine hK _ ?_;clear hK K))|simp only [go_sem,e0]|with_reducible refine wA ?_|clear hK K)
 refine aT (ι:=Nat) 10 (fun i=>[(6, .v (.int .i64 i))]) (fun i=>[some ⟨4,1,true,cI N a⟩,some ⟨4,1,true,cI N (lD a b i)⟩]) (fun i=>N - i) (fun i=>i<=N) 0 (by omega) ?_ ?_
 ·refine bp ?_ aj
  rfl
 ·intro i hi K hK
  (revert K;revert K;refine au ?_;intro K hK K hK K hK)
  refine bC.part (fun h=> ?_) (fun h=> ?_)
  ·have hlt:i<N:=by replace h:=bJ h;omega
   have eW:=ak (k:=i) (by omega);have eA:=cN (g:=a) hlt;have eB:=cN (g:=b) hlt;have eR:=cN (g:=lD a b i) hlt;have eS:=fun v=>pj (N:=N) (j:=i) (g:=lD a b i) (v:=v);have eU:=uW a b i;cases ha:a i
   all_goals
    simp only [ha,Bool.false_or,Bool.true_or] at eU
    repeat (first|(with_reducible first|refine aA.up ?_|refine fun (K:AK) hK=> ?_|(refine hK _ ?_;clear hK K))|simp only [go_sem,eW,eA,eB,ha,eR,eS,eU,Go.undef]|with_reducible refine wA ?_|clear hK K)
    exact az.mk (i+1) (by omega) (by omega) (by exact aO aj)
  ·have e1:i=N:=by replace h:=bJ h;omega
   have eE:cI N (lD a b N)=cI N (fun q=>a q||b q):=lg fun q hq=>by simp [lD,hq]
   simp only [e1]
   ((iterate 3 revert K);refine au ?_)
   rw [eE]
   (refine ⟨?_, ?_, ?_⟩<;>simp only [dt,kE,AV.v.injEq,Value.int.injEq,Value.bool.injEq,Value.string.injEq,AV.vec.injEq,AV.ptr.injEq,true_or,or_true,false_or,or_false,aa.mk.injEq,forall_eq_apply_imp_iff,forall_eq,forall_eq',go_sem])
   all_goals first|exact aU _ _ _|exact ⟨aU _ _ _,aU _ _ _⟩|skip
noncomputable def uw (x:Ex) (p:Int) (q:Nat):Bool:=if p=0 then jP x 0 q else if 0<p∧p<=(aB x).length then jO x 0 (p.toNat - 1) q else false
noncomputable def Ar (x:Ex) (l:List Int) (q:Nat):Bool:=l.any (fun p=>uw x p q)
theorem GX {x:Ex} {l:List Int} {i:Nat} (h:i<l.length):Ar x (l.take (i+1))=fun q=>Ar x (l.take i) q||uw x l[i] q:=by
 funext q
 rw [Ar,List.take_succ_eq_append_getElem h,List.any_append,Ar];simp
def EJ (g:Nat->Bool) (l:List ByteArray) (lab:ByteArray) (j q:Nat):Bool:=if q<j then g q&&((l.getD q ⟨#[]⟩).toList==lab.toList) else g q
theorem PK (g:Nat->Bool) (l:List ByteArray) (lab:ByteArray):EJ g l lab 0=g:=by funext q;simp [EJ]
theorem Nt (g:Nat->Bool) (l:List ByteArray) (lab:ByteArray) (j:Nat):EJ g l lab j j=g j:=by simp [EJ]
theorem Hu (g:Nat->Bool) (l:List ByteArray) (lab:ByteArray) (j:Nat):(fun q=>if q=j then (g j&&((l.getD j ⟨#[]⟩).toList==lab.toList)) else EJ g l lab j q)=EJ g l lab (j+1):=by
 funext q
 rw [EJ,EJ]
 by_cases h:q=j
 ·subst h;simp
 ·rw [if_neg h]
  by_cases h2:q<j
  ·rw [if_pos h2,if_pos (by omega)]
  ·rw [if_neg h2,if_neg (by omega)]
noncomputable def LI (x:Ex) (l:List Int) (lab:ByteArray) (q:Nat):Bool:=Ar x l q&&(((aB x).getD q ⟨#[]⟩).toList==lab.toList)
def nX (c:Nat):List (Option aa):=List.replicate c none
theorem cV (c:Nat):(nX c).length=c:=by simp [nX]
theorem vC (c:Nat) (tl:List (Option aa)):nX (c+1)++tl=nX c++(none :: tl):=by
 rw [nX,List.replicate_succ',UD];rfl
theorem jw {n:Nat} {a b:List (Option aa)}: ∀(c:Nat),kE n a b->kE n (nX c++a) (nX c++b)
 | 0,h=>h
 | c+1,h=>⟨.inl rfl,jw c h⟩
theorem ab.either {c N:Nat} {a b:Nat->Bool} {K:AV->List (Option aa)->Prop} (hn:N<=1000) (k:K (.vec (c+1) N) (nX c++[some ⟨4,1,true,cI N a⟩,some ⟨4,1,true,cI N (fun q=>a q||b q)⟩])) :
  ab Tryz.prog 103 [.vec c N, .aC 1 (cI N b) N] (nX c++[some ⟨4,1,true,cI N a⟩]) K:=by
 have hl:(nX c++[some (⟨4,1,true,cI N a⟩:aa)]).length=c+1:=by rw [Ug,cV];rfl
 refine ab.fr [c] (sh N a b hn) (by simp) ?_ ?_ (by simp only [aX,AV.wf,aU,Wc];rfl) ?_ ?_
 ·simp only [Wa,Wi,rS (cV c),UI,aa.bd,jK];rfl
 ·simp only [bS,AV.bd,jK];rfl
 ·intro k ob hk
  match k,hk with
  | 0,hk=>cases hk;exact aU _ _ _
  | k+1,hk=>simp at hk
 ·rw [hl]
  have e1:(AV.vec 1 N).bd (sig [c] (c+1)) = .vec (c+1) N:=by simp [AV.bd,sig]
  rw [e1];simp only [fM,UI,Option.map_none,aa.bd,jK,Wa,Wi,rT (cV c),List.set_cons_zero,UD,VK,VJ];exact k
theorem dL.either {c N:Nat} {a b:Nat->Bool} {K:AV->List (Option aa)->Prop} (hn:N<=1000) (k:K (.vec (c+1) N) (nX c++[some ⟨4,1,true,cI N a⟩,some ⟨4,1,true,cI N (fun q=>a q||b q)⟩])) :
  dL Tryz.prog 103 [.vec c N, .aC 1 (cI N b) N] (nX c++[some ⟨4,1,true,cI N a⟩]) K:=by
 have hl:(nX c++[some (⟨4,1,true,cI N a⟩:aa)]).length=c+1:=by rw [Ug,cV];rfl
 refine dL.fr [c] (sh N a b hn) (by simp) ?_ ?_ (by simp only [aX,AV.wf,aU,Wc];rfl) ?_ ?_
 ·simp only [Wa,Wi,rS (cV c),UI,aa.bd,jK];rfl
 ·simp only [bS,AV.bd,jK];rfl
 ·intro k ob hk
  match k,hk with
  | 0,hk=>cases hk;exact aU _ _ _
  | k+1,hk=>simp at hk
 ·rw [hl]
  have e1:(AV.vec 1 N).bd (sig [c] (c+1)) = .vec (c+1) N:=by simp [AV.bd,sig]
  rw [e1];simp only [fM,UI,Option.map_none,aa.bd,jK,Wa,Wi,rT (cV c),List.set_cons_zero,UD,VK,VJ];exact k
theorem Lu (x:Ex) (l:List Int) (lab:ByteArray) (hn:(aB x).length<=1000) (hl:l.length<=1000000):ar Tryz.prog 70 [.vp (tM x), .aC 1 (l.map encI) l.length, .v (.string lab)]
  (.aC 1 (aI (iX (aB x).length (LI x l lab))) (iX (aB x).length (LI x l lab)).length):=by
 have hw:=jc 0 x;have hm:bw 0 (aI (iX (aB x).length (LI x l lab)))=true:=bz _ (fun _=>rfl) _;have hi:bw 0 (l.map encI)=true:=bz _ (fun _=>rfl) _;have S:=LD (aB x).length (LI x l lab) hn;simp only [tM] at hw ⊢
 (refine ar.enter Tryz.func70 rfl (by kernel_rfl) (by kernel_rfl) rfl (by simp only [go_sem,aX,AV.wf,Wc,VC,Vq,hw,hm,hi]) (by simp only [go_sem,aX,AV.wf,bm,Wc,VC,Vq,hw,hm,hi]) ?_;simp only [Tryz.ntmps70,Tryz.results70,Uh,Ub,Nat.reduceAdd,Nat.reduceSub,WC,WS,VK,VJ])
 have e0:List.replicate (aB x).length [AV.v (.bool false)]=cI (aB x).length (Ar x (l.take 0)):=jg _
 repeat (first|(with_reducible first|refine aA.up ?_|refine fun (K:AK) hK=> ?_|refine wD ?_|refine ae (by decide) ?_|refine ah (by decide) ?_|(refine hK _ ?_;clear hK K))|simp only [go_sem,e0]|with_reducible refine wA ?_|clear hK K)
 refine aT (ι:=Nat×Nat) 9 (fun s=>[(7, .vec s.2 (aB x).length),(8, .v (.int .i64 s.1))]) (fun s=>nX s.2++[some ⟨4,1,true,cI (aB x).length (Ar x (l.take s.1))⟩]) (fun s=>l.length - s.1) (fun s=>s.1<=l.length) (0,0) (by simp) ?_ ?_
 ·refine iG ?_ ?_ aj
  ·exact ⟨rfl,rfl⟩
  ·exact ⟨.inr ⟨rfl,fun ob e=>by cases e;exact aU _ _ _⟩,trivial⟩
 ·rintro ⟨i,c⟩ hi K hK;simp only at hi ⊢;have g0:=fun tl=>rS (cV c) tl;have s0:=fun tl x=>rT (cV c) tl x
  (revert K;revert K;refine fH ?_;intro K hK K hK K hK)
  refine bC.part (fun h=> ?_) (fun h=> ?_)
  ·have hlt:i<l.length:=by replace h:=bJ h;omega
   have eG:=getD_map encI l i [] hlt;have eW:=ak (k:=i) (by omega);have eF:=GX (x:=x) hlt;simp only [encI] at eG;generalize hp:l[i]=p at eG eF
   by_cases h0:p=0
   ·have e1:uw x p=jP x 0:=by funext q;rw [uw,if_pos h0]
    simp only [e1] at eF;subst h0
    repeat (first|(with_reducible first|refine aA.up ?_|refine fun (K:AK) hK=> ?_|refine wD ?_|refine ae (by decide) ?_|refine ah (by decide) ?_|(refine hK _ ?_;clear hK K))|simp only [go_sem,eG]|with_reducible refine wA ?_|clear hK K)
    refine ab.either hn ?_
    ((iterate 4 revert K);refine ke eW ?_)
    refine az.mk (i+1,c+1) (by simp only;omega) (by simp only;omega) (aj ?_ ?_ (Ui _))
    ·simp only [go_sem,dt,true_or,or_true,true_and,and_true,Ug,cV,Uh,Ub];exact .inr (decide_eq_true (by omega))
    ·simp only [eF];rw [vC];exact jw c ⟨.inl rfl, .inr ⟨rfl,fun ob e=>by cases e;exact aU _ _ _⟩,trivial⟩
   ·have b0:(p==0)=false:=beq_false_of_ne h0
    by_cases h1:0<p∧p<=(aB x).length
    ·obtain ⟨j,rfl⟩: ∃j:Nat,p=(j:Int)+1:=⟨(p - 1).toNat,by omega⟩;have b1:decide ((0:Int)<(j:Int)+1)=true:=decide_eq_true (by omega);have b2:decide ((j:Int)+1<=((aB x).length:Int))=true:=decide_eq_true (by omega)
     have eV:IntKind.i64.wrap ((j:Int)+1 - 1)=(j:Int):=by rw [dr (by omega) (by omega)];omega
     have eM:=qc (N:=(aB x).length) (f:=jO x 0) (i:=j) (by omega)
     have e1:uw x ((j:Int)+1)=jO x 0 j:=by funext q;rw [uw,if_neg h0,if_pos h1,show ((j:Int)+1).toNat - 1=j by omega]
     simp only [e1] at eF
     repeat ((fail_if_success (with_reducible refine bB (i:=7) ?_));first|(with_reducible first|refine aA.up ?_|refine fun (K:AK) hK=> ?_|refine ae (by decide) ?_|refine ah (by decide) ?_|(refine hK _ ?_;clear hK K))|simp only [go_sem,eG,b0,b1,b2,eV,eM,Go.undef]|with_reducible refine wA ?_|clear hK K)
     first|refine wE ?_|refine wD ?_
     repeat (first|(with_reducible first|refine aA.up ?_|refine fun (K:AK) hK=> ?_|refine ae (by decide) ?_|refine ah (by decide) ?_|(refine hK _ ?_;clear hK K))|simp only [go_sem,eG,b0,b1,b2,eV,eM,Go.undef]|with_reducible refine wA ?_|clear hK K)
     refine bV [12] [] (by decide+kernel) (by kernel_rfl) ?_
     repeat (first|(with_reducible first|refine aA.up ?_|refine fun (K:AK) hK=> ?_|refine ae (by decide) ?_|refine ah (by decide) ?_|(refine hK _ ?_;clear hK K))|simp only [go_sem,eG,b0,b1,b2,eV,eM,Go.undef]|with_reducible refine wA ?_|clear hK K)
     refine dL.either hn ?_
     ((iterate 4 revert K);refine ke eW ?_)
     refine az.mk (i+1,c+1) (by simp only;omega) (by simp only;omega) (aj ?_ ?_ (Ui _))
     ·simp only [go_sem,dt,true_or,or_true,true_and,and_true,Ug,cV,Uh,Ub];exact .inr (decide_eq_true (by omega))
     ·simp only [eF];rw [vC];exact jw c ⟨.inl rfl, .inr ⟨rfl,fun ob e=>by cases e;exact aU _ _ _⟩,trivial⟩
    ·have e1:uw x p=fun _=>false:=by funext q;rw [uw,if_neg h0,if_neg h1]
     simp only [e1,Bool.or_false] at eF
     rcases Int.lt_or_le 0 p with b|b
     ·have b1:decide (0<p)=true:=decide_eq_true b;have b2:decide (p<=((aB x).length:Int))=false:=decide_eq_false (by omega)
      repeat (first|(with_reducible first|refine aA.up ?_|refine fun (K:AK) hK=> ?_|refine wD ?_|refine ae (by decide) ?_|refine ah (by decide) ?_|(refine hK _ ?_;clear hK K))|simp only [go_sem,eG,b0,b1,b2,eW,Go.undef]|with_reducible refine wA ?_|clear hK K)
      refine az.mk (i+1,c) (by simp only;omega) (by simp only;omega) (aj ?_ ?_ (Ui _))
      ·simp only [go_sem,dt,true_or,or_true,true_and,and_true,Ug,cV,Uh,Ub];exact .inr (decide_eq_true (by omega))
      ·simp only [eF];exact jw c ⟨.inr ⟨rfl,fun ob e=>by cases e;exact aU _ _ _⟩,trivial⟩
     ·have b1:decide (0<p)=false:=decide_eq_false (by omega)
      repeat (first|(with_reducible first|refine aA.up ?_|refine fun (K:AK) hK=> ?_|refine wD ?_|refine ae (by decide) ?_|refine ah (by decide) ?_|(refine hK _ ?_;clear hK K))|simp only [go_sem,eG,b0,b1,eW,Go.undef]|with_reducible refine wA ?_|clear hK K)
      refine az.mk (i+1,c) (by simp only;omega) (by simp only;omega) (aj ?_ ?_ (Ui _))
      ·simp only [go_sem,dt,true_or,or_true,true_and,and_true,Ug,cV,Uh,Ub];exact .inr (decide_eq_true (by omega))
      ·simp only [eF];exact jw c ⟨.inr ⟨rfl,fun ob e=>by cases e;exact aU _ _ _⟩,trivial⟩
  ·have e1:l.take i=l:=Wl (by replace h:=bJ h;omega);simp only [e1]
   ((iterate 3 revert K);refine fH ?_;intro K hK)
   have ek0:=PK (Ar x l) (aB x) lab
   refine aT (ι:=Nat) 10 (fun j=>[(9, .v (.int .i64 j))]) (fun j=>nX c++[some ⟨4,1,true,cI (aB x).length (EJ (Ar x l) (aB x) lab j)⟩]) (fun j=>(aB x).length - j) (fun j=>j<=(aB x).length) 0 (by omega) ?_ ?_
   ·simp only [ek0]
    refine aj ?_ ?_ (Ui _)
    ·simp only [go_sem,dt,true_or,or_true,true_and,and_true,Ug,cV,Uh,Ub];exact ⟨.inr (decide_eq_true (by omega)), .inr rfl⟩
    ·exact jw c ⟨.inr ⟨rfl,fun ob e=>by cases e;exact aU _ _ _⟩,trivial⟩
   ·intro j hj K hK
    repeat (first|(with_reducible first|refine aA.up ?_|refine fun (K:AK) hK=> ?_|refine wD ?_|refine ae (by decide) ?_|refine ah (by decide) ?_|(refine hK _ ?_;clear hK K))|simp only [go_sem,g0,s0]|with_reducible refine wA ?_|clear hK K)
    refine bC.part (fun h=> ?_) (fun h=> ?_)
    ·have hlt:j<(aB x).length:=by replace h:=bJ h;omega
     have eW:=ak (k:=j) (by omega);have eR:=cN (g:=EJ (Ar x l) (aB x) lab j) hlt;rw [Nt] at eR;have eS:=fun v=>pj (N:=(aB x).length) (j:=j) (g:=EJ (Ar x l) (aB x) lab j) (v:=v);have eU:=Hu (Ar x l) (aB x) lab j;have eL:=KA hlt;cases hg:Ar x l j
     all_goals
      simp only [hg,Bool.false_and,Vq] at eU eR
      repeat (first|(with_reducible first|refine aA.up ?_|refine fun (K:AK) hK=> ?_|refine wD ?_|refine ae (by decide) ?_|refine ah (by decide) ?_|(refine hK _ ?_;clear hK K))|simp only [go_sem,eW,eR,eS,eU,eL,g0,s0,Go.undef]|with_reducible refine wA ?_|clear hK K)
      refine az.mk (j+1) (by omega) (by omega) (aj ?_ ?_ (Ui _))
      ·simp only [go_sem,dt,true_or,or_true,true_and,and_true,Ug,cV,Uh,Ub];exact .inr (decide_eq_true (by omega))
      ·exact jw c ⟨.inr ⟨rfl,fun ob e=>by cases e;exact aU _ _ _⟩,trivial⟩
    ·have e2:j=(aB x).length:=by replace h:=bJ h;omega
     have eE:cI (aB x).length (EJ (Ar x l) (aB x) lab (aB x).length)=cI (aB x).length (LI x l lab):=lg fun q hq=>by rw [EJ,if_pos hq,LI]
     simp only [e2];simp only [eE]
     repeat ((fail_if_success (with_reducible refine bB (i:=13) ?_));first|(with_reducible first|refine aA.up ?_|refine fun (K:AK) hK=> ?_|refine ae (by decide) ?_|refine ah (by decide) ?_|(refine hK _ ?_;clear hK K))|simp only [go_sem]|with_reducible refine wA ?_|clear hK K)
     refine bb (gO 7 c rfl (g0 _) rfl (iW _ _)) (by kernel_rfl) ?_
     (revert K;refine fH ?_;intro K hK K hK)
     refine ab.one S ?_
     (revert K;revert K;refine fH ?_)
     exact jB.aC hm
def e0:ByteArray:=⟨#[]⟩
def Ty (nm:ByteArray) (l r o:ui):List AV:=[.aC 8 [[.v (.string ⟨#[97]⟩), .v (.string ⟨#[98]⟩), .v (.bool false), .v (.string ⟨#[120]⟩), .v (.string nm), .v (.int .i64 0), .v (.string e0), .v (.slice none 0 0)]] 1, .aC 13 [Ky ⟨3,l,r⟩] 1, .aC 6 [GQ o] 1, .v (.int .i64 5), .v (.int .i64 1)]
def sA:ByteArray:=⟨#[97]⟩
def sB:ByteArray:=⟨#[98]⟩
def T0:Ex:= .mk 4 e0 [.mk 2 e0 [.mk 1 sA [], .mk 1 sB []]]
def Mr (i:Nat):List AV:=[PQ i]
theorem Mz {n:Nat} (h:n<=1000000):IntKind.i64.wrap ((n:Int)+12)=((n+12:Nat):Int):=by rw [dr (by omega) (by omega)];omega
@[go_sem] theorem Ro (n k:Nat):bw n (mg Mr k)=true:=dZ n _ (fun _=>rfl) k
@[go_sem] theorem OM (n:Nat):bw n (marksOf Mr)=true:=dZ n _ (fun _=>rfl) 12
theorem PH {α:Type} (f:α->List AV) (l:List α) (m:List (List AV)) (i:Nat) (h:i<l.length):(l.map f++m).getD i []=f l[i]:=by
 rw [U3,Ud (by simpa using h)];simp [h]
theorem PR (f:Nat->List AV): ∀n i,i<n->(mg f n)[i]? = some (f i)
 | 0,i,h=>absurd h (by omega)
 | n+1,i,h=>by
  rw [mg]
  rcases Nat.lt_or_ge i n with q|q
  ·rw [Ud (by rw [mh];exact q)];exact PR f n i q
  ·obtain rfl:i=n:=by omega
   rw [UF (by rw [mh];exact Nat.le_refl _),mh];simp
theorem PG {α:Type} (f:α->List AV) (l:List α) (m:Nat->List AV) (j:Nat) (h:j<12):(l.map f++marksOf m).getD (l.length+j) []=m j:=by
 rw [U3,UF (by simp),List.length_map,Nat.add_sub_cancel_left,marksOf,PR m 12 j h];rfl
theorem te (i:Nat) (hi:i<12):ar Tryz.prog 40 [.v (.int .i64 1), .v (.int .i64 i)] (.v (.string ⟨#[35,1,0,0,47,UInt8.ofNat i,0,0]⟩)):=by
 refine gE Tryz.func40 Tryz.ntmps40 Tryz.results40 ?_;refine bF ?_
 rcases (by omega:i=0∨i=1∨i=2∨i=3∨i=4∨i=5∨i=6∨i=7∨i=8∨i=9∨i=10∨i=11) with rfl|rfl|rfl|rfl|rfl|rfl|rfl|rfl|rfl|rfl|rfl|rfl
 all_goals rfl
def SM (i:Nat):ByteArray:=⟨#[35,1,0,0,47,UInt8.ofNat i,0,0]⟩
def iH (i:Nat):List AV:=[.v (.string (SM i))]
theorem rC (n:Nat) (l:List ByteArray):bw n (l.map encS)=true:=bz _ (fun _=>rfl) l
@[go_sem] theorem Rr (n k:Nat):bw n (mg iH k)=true:=dZ n _ (fun _=>rfl) k
@[go_sem] theorem qv (n:Nat):bw n (marksOf iH)=true:=dZ n _ (fun _=>rfl) 12
theorem zo (l:List ByteArray) (hl:l.length<=1000000) :
  ar Tryz.prog 11 [.aC 1 (l.map encS) l.length] (.aC 1 (l.map encS++marksOf iH) l.length):=by
 have e1:IntKind.i64.wrap ((l.length:Int)+12)=((l.length+12:Nat):Int):=Mz hl
 have eT:List.take l.length (l.map encS)=l.map encS:=by rw [Wl (by simp)]
 refine gE Tryz.func11 Tryz.ntmps11 Tryz.results11 ?_
 repeat (first|(with_reducible first|refine aA.up ?_|refine fun (K:AK) hK=> ?_|(refine hK _ ?_;clear hK K))|simp only [go_sem,e1,eT]|with_reducible refine wA ?_|clear hK K)
 refine cD (ι:=Nat) (fun i=>[(0, .aC 1 (l.map encS) l.length),(2, .v (.slice none 0 0)),(3, .vec 0 (l.length+i)),(4, .v (.int .i64 i))]) (fun i=>[some ⟨9,1,true,l.map encS++mg iH i⟩]) (fun i=>12 - i) (fun i=>i<=12) 0 (by omega) ?_ ?_
 ·refine iG ?_ ?_ aj
  ·exact ⟨rfl,rfl⟩
  ·simp [mg]
 ·intro i hi K hK;simp only [gz,List.foldl_cons,List.foldl_nil,WC,WS,go_sem]
  (revert K;revert K;refine au ?_;intro K hK K hK K hK)
  refine bC.part (fun h2=> ?_) (fun h2=> ?_)
  ·have hlt:i<12:=by replace h2:=bJ h2;omega
   have eW:=ak (k:=i) (by omega);have M:=te i (by omega)
   ((iterate 3 revert K);refine aK eW ?_;iterate 4 intro K hK)
   refine ab.one M ?_
   repeat (first|(with_reducible first|refine aA.up ?_|refine fun (K:AK) hK=> ?_|(refine hK _ ?_;clear hK K))|simp only [go_sem,eW]|with_reducible refine wA ?_|clear hK K)
   exact az.mk (i+1) (by omega) (by omega) (by refine iG ?_ ?_ aj<;>rfl)
  ·have h12:i=12:=by replace h2:=bJ h2;omega
   have eM:mg iH i=marksOf iH:=by rw [h12];rfl
   repeat (first|(with_reducible first|refine aA.up ?_|refine fun (K:AK) hK=> ?_|(refine hK _ ?_;clear hK K))|simp only [go_sem,eM]|with_reducible refine wA ?_|clear hK K)
   exact jB.aC (by simp only [iZ,rC,qv,Wc])
theorem ze (l:List ByteArray) (hl:l.length<=1000000) :
  ar Tryz.prog 16 [.aC 1 (l.map encS++marksOf iH) l.length, .aC 1 (l.map encS) l.length] (.v (.bool true)):=by
 have e1:IntKind.i64.wrap ((l.length:Int)+12)=((l.length+12:Nat):Int):=Mz hl
 have w1:bw 0 (l.map encS++marksOf iH)=true:=by simp only [iZ,rC,qv,Wc]
 (refine ar.enter Tryz.func16 rfl (by kernel_rfl) (by kernel_rfl) rfl (by simp only [go_sem,aX,AV.wf,Wc,VC,Vq,w1,rC]) (by simp only [go_sem,aX,AV.wf,bm,Wc,VC,Vq,w1,rC]) ?_;simp only [Tryz.ntmps16,Tryz.results16,Uh,Ub,Nat.reduceAdd,Nat.reduceSub,WC,WS,VK,VJ])
 repeat (first|(with_reducible first|refine aA.up ?_|refine fun (K:AK) hK=> ?_|refine wD ?_|(refine hK _ ?_;clear hK K))|simp only [go_sem,e1]|with_reducible refine wA ?_|clear hK K)
 refine cD (ι:=Nat) (fun i=>[(0, .aC 1 (l.map encS++marksOf iH) l.length),(1, .aC 1 (l.map encS) l.length),(4, .v (.bool false)),(5, .aC 1 (l.map encS++marksOf iH) (l.length+12)),(6, .v (.int .i64 i))]) (fun _=>[]) (fun i=>l.length+12 - i) (fun i=>i<=l.length+12) 0 (by omega) ?_ ?_
 ·refine bp ?_ aj
  rfl
 ·intro i hi K hK;simp only [gz,List.foldl_cons,List.foldl_nil,WC,WS,go_sem]
  (revert K;revert K;refine cn ?_;intro K hK K hK K hK)
  refine bC.part (fun h=> ?_) (fun h=> ?_)
  ·have hlt:i<l.length+12:=by (try simp only [decide_eq_true_eq,decide_eq_false_iff_not,Int.ofNat_lt,Int.ofNat_le] at h);omega
   have eW:=ak (k:=i) (by omega)
   rcases Nat.lt_or_ge i l.length with q|q
   ·have g1:decide ((i:Int)<(l.length:Int))=true:=by simpa using q
    have g2:decide ((l.length:Int)<=(i:Int))=false:=by simpa using q
    have eG:=PH encS l (marksOf iH) i q;have eH:=getD_map encS l i [] q;simp only [encS] at eG eH
    repeat (first|(with_reducible first|refine aA.up ?_|refine fun (K:AK) hK=> ?_|refine wD ?_|(refine hK _ ?_;clear hK K))|simp only [go_sem,g1,g2,eG,eH,eW,Go.undef]|with_reducible refine wA ?_|clear hK K)
    exact az.mk (i+1) (by omega) (by omega) (by exact aO aj)
   ·obtain ⟨j,hj⟩: ∃j,i=l.length+j:=⟨i - l.length,by omega⟩;have g1:decide ((i:Int)<(l.length:Int))=false:=decide_eq_false (by omega);have g2:decide ((l.length:Int)<=(i:Int))=true:=decide_eq_true (by omega)
    have eS:IntKind.i64.wrap ((i:Int) - (l.length:Int))=(j:Int):=by rw [dr (by omega) (by omega)];omega
    have eG:(l.map encS++marksOf iH).getD i []=iH j:=by rw [hj];exact PG encS l iH j (by omega)
    have M:=te j (by omega);simp only [iH,SM] at M eG
    repeat (first|(with_reducible first|refine aA.up ?_|refine fun (K:AK) hK=> ?_|refine wD ?_|(refine hK _ ?_;clear hK K))|simp only [go_sem,g1,g2,eG,eS,eW,Go.undef]|with_reducible refine wA ?_|clear hK K)
    refine ba.one M ?_
    ((iterate 5 revert K);refine Ng g1 g2 eG eS eW ?_)
    exact az.mk (i+1) (by omega) (by omega) (by exact aO aj)
  ·((iterate 3 revert K);exact va)
mutual
theorem zW: ∀(x:Ex) (d:Nat),sX x d<=300->(ai x).length<=sX x d
 | .mk k s l,d,h=>by
  rw [sX] at h ⊢
  split at h
  ·omega
  ·rename_i hd;rw [if_neg hd]
   have:=zV l (d+1) 1 h
   rw [ai,Uh];omega
theorem zV: ∀(l:List Ex) (d n:Nat),sL l d n<=300->n+(bE l).length<=sL l d n
 | [],d,n,h=>by rw [sL,bE];simp
 | x :: xs,d,n,h=>by
  rw [sL] at h ⊢
  split at h
  ·rename_i hn;rw [if_pos hn];have h2:=zV xs d (n+sX x d) h;have h1:=zW x d (by omega);rw [bE,Ug];omega
  ·omega
end
theorem qS {x:Ex} (ko:x.ok) (h:sX x 0<=300):(ai x).length<=1000000∧ ∀z,z∈ai x->z.kids.length<=1000000∧z.label.size<=1000000000000000:=by
 have h1:=zW x 0 h
 refine ⟨by omega,fun z hz=>⟨?_, ?_⟩⟩
 ·have h2:=gG x z hz;have h3:=kQ z;omega
 ·have:=Lp x ko z hz
  unfold xG at this;omega
theorem step_eq {x:Ex} (hr:ay x=true) (l:List Int) (lab:ByteArray):aq (iu (aN x) (fG (aN x) l) lab)=iX (aB x).length (LI x l lab):=by
 have L:=ik hr;have ok:=L.ok;have hl:=L.labs;refine pe (jl _) (vR _ _) fun q=> ?_;rw [aW,ku ok,tS]
 have key: ∀(p:Nat),((aN x).fs.getD p 0#32).getLsbD q=true↔(if p=0 then jN x 0 q else iI x 0 p q):=fun p=>by
  by_cases hp:p=0
  ·subst hp;rw [if_pos rfl];exact L.fst q
  ·rw [if_neg hp];exact L.qD p q hp
 have gz: ∀(p:Nat),(fG (aN x) l).getLsbD p=true↔(p:Int)∈l∧p<=(aB x).length:=fun p=>by
  rw [fG,j9 ok,hl];simp
 constructor
 ·rintro ⟨p,h1,h2,h3⟩;have hq:=ok.qD p q h2;rw [hl] at hq;obtain ⟨hpl,hpn⟩:=(gz p).1 h1;refine ⟨hq.1,hq.2, ?_⟩;rw [LI,Bool.and_eq_true]
  constructor
  ·rw [Ar,List.any_eq_true];refine ⟨p,hpl, ?_⟩;have k:=(key p).1 h2;rw [uw]
   by_cases hp:p=0
   ·subst hp;rw [if_pos rfl] at k;rw [if_pos (show ((0:Nat):Int)=0 from rfl),ib,show q - 1+1=q by omega];exact k
   ·rw [if_neg hp] at k;rw [if_neg (by omega),if_pos ⟨by omega,by omega⟩,j8,show q - 1+1=q by omega,show (p:Int).toNat - 1+1=p by omega];exact k
  ·rw [ec,if_pos ⟨by omega,by rw [hl];omega⟩,hl,show ((q:Int) - 1).toNat=q - 1 by omega] at h3;rw [beq_iff_eq];exact h3
 ·rintro ⟨h1,h2,h3⟩;rw [LI,Bool.and_eq_true,Ar,List.any_eq_true] at h3;obtain ⟨⟨p,hpl,hp⟩,h4⟩:=h3
  have hlab:(ec (aN x) q).toList=lab.toList:=by
   rw [ec,if_pos ⟨by omega,by rw [hl];omega⟩,hl,show ((q:Int) - 1).toNat=q - 1 by omega];rw [beq_iff_eq] at h4;exact h4
  rw [uw] at hp
  by_cases hp0:p=0
  ·subst hp0;rw [if_pos rfl,ib,show q - 1+1=q by omega] at hp;exact ⟨0,(gz 0).2 ⟨hpl,by omega⟩,(key 0).2 (by rw [if_pos rfl];exact hp),hlab⟩
  ·rw [if_neg hp0] at hp
   by_cases hp1:0<p∧p<=(aB x).length
   ·rw [if_pos hp1,j8,show q - 1+1=q by omega] at hp;obtain ⟨j,rfl⟩: ∃j:Nat,p=(j:Int):=⟨p.toNat,by omega⟩;rw [show (j:Int).toNat - 1+1=j by omega] at hp;exact ⟨j,(gz j).2 ⟨hpl,by omega⟩,(key j).2 (by rw [if_neg (by omega)];exact hp),hlab⟩
   ·rw [if_neg hp1] at hp;cases hp
theorem Jo {x:Ex} (hr:ay x=true):aq (aN x).la=iX (aB x).length (ej x 0):=by
 have L:=ik hr;refine pe (jl _) (vR _ _) fun q=> ?_;rw [aW,tS]
 constructor
 ·intro h1;have hq:=L.ok.la _ h1;rw [L.labs] at hq;refine ⟨hq.1,hq.2, ?_⟩;rw [ij,show q - 1+1=q by omega];exact (L.vw _).1 h1
 ·rintro ⟨h1,h2,h3⟩;rw [ij,show q - 1+1=q by omega] at h3;exact (L.vw _).2 h3
theorem LR {x:Ex} (hr:ay x=true):(aN x).em=dj x:=by
 rw [(ik hr).em,dj,hr,Vq]
section
section
variable {P:Program}
theorem AZ {n0:Nat} {Q:a7->AS->Prop} {ι:Type} {c:Code} {t:List AV} {o:List (Option aa)} {y:jk} (d1:Nat) (T1:TypeId) (z1:Nat) (hd1:t[d1]? = some (.v (.slice none 0 0))) (hz1:0<z1) (d2:Nat) (T2:TypeId) (z2:Nat) (hd2:(t.set d1 (.vec o.length 0))[d2]? = some (.v (.slice none 0 0))) (hz2:0<z2)
  (m:Nat) (upd:ι->List (Nat×AV)) (ob:ι->List (Option aa)) (mu:ι->Nat) (ok:ι->Prop) (i0:ι) (h3:ok i0)
  (h2:Wk n0 ⟨(t.set d1 (.vec o.length 0)).set d2 (.vec (o++[some (aa.mk T1 z1 true [])]).length 0),(o++[some (aa.mk T1 z1 true [])])++[some (aa.mk T2 z2 true [])],y⟩ ⟨jS (cH m t) (upd i0),ob i0,y⟩)
  (h: ∀i,ok i-> ∀K:AS->Prop,(∀s2,az n0 (fun i=>⟨jS (cH m t) (upd i),ob i,y⟩) mu ok (mu i) s2->K s2)->cr P n0 c ⟨jS (cH m t) (upd i),ob i,y⟩ (lJ K Q)):cr P n0 (.loop c) ⟨t,o,y⟩ Q:=
 j5 (fun i=>AS.mk (jS (cH m t) (upd i)) (ob i) y) mu ok i0 _ (Gs.step d2 T2 z2 _ (Gs.step d1 T1 z1 (AS.mk t o y) .refl hd1 hz1) hd2 hz2) h2 h3 h
end
def cu (l:List Bool):List (List AV):=l.map (fun b=>[.v (.bool b)])
@[go_sem] theorem dU (l:List Bool):(cu l).length=l.length:=by simp [cu]
@[go_sem] theorem mA (n:Nat) (l:List Bool):bw n (cu l)=true:=bz _ (fun _=>rfl) _
attribute [go_sem] dx
def mw (labs:List ByteArray):Option mG->AV
 | some st=> .cL [.aC 1 (c9 (st.rows.map (fw labs))) st.rows.length, .aC 1 (cu st.ends) st.ends.length, .v (.bool true)]
 | none=> .cL [.v (.slice none 0 0), .v (.slice none 0 0), .v (.bool false)]
theorem FH (labs:List ByteArray) (o:Option mG):(mw labs o).wf 0=true:=by
 cases o with
 | none=>rfl
 | some st=>simp only [mw,AV.wf,aX,lk,mA,Bool.and_self]
def JL (x:Ex) (labs:List ByteArray) (st:mG):List (Option aa):=[some ⟨25,3,false,[[.v (.int .i64 x.kind), .v (.string x.label), .aC 3 (x.kids.map aS) x.kids.length]]⟩,none,some ⟨79,1,true,st.all.map oF⟩,some ⟨79,1,true,c9 (st.rows.map (fw labs))⟩,some ⟨4,1,true,cu st.ends⟩]
theorem oS (l:List Nat):aI l=(bq l).map encI:=by rw [aI,bq,Wd];rfl
theorem J6 (l:List (List Nat)):l.map oF=c9 (l.map bq):=by
 rw [c9,Wd];refine List.map_congr_left fun a _=> ?_;rw [oF,Function.comp,oS,bq,U2]
theorem ve {a b:List Nat}:bq a=bq b↔a=b:=by
 constructor
 ·intro h
  have:=congrArg (List.map Int.toNat) h
  simpa [bq,Wd,Function.comp_def] using this
 ·rintro rfl;rfl
theorem En (l:List (List Nat)) (s:List Nat):(l.map bq).findIdx? (fun y=>decide (bq s=y))=l.findIdx? (fun y=>s==y):=by
 induction l with
 | nil=>rfl
 | cons a l ih=>
  rw [List.map_cons,List.findIdx?_cons,List.findIdx?_cons,ih]
  by_cases e:s=a
  ·rw [beq_iff_eq.2 e,decide_eq_true (ve.2 e)]
  ·rw [beq_eq_false_iff_ne.2 e,decide_eq_false (fun q=>e (ve.1 q))]
def QP (L:List (List Nat)) (s:List Nat):Int:=match L.findIdx? (fun y=>s==y) with
 | some k=>(k:Int)
 | none=> -1
theorem Pg (L:List (List Nat)) (s:List Nat):M1 (L.map bq) (bq s)=QP L s:=by
 rw [M1,En,QP];cases L.findIdx? (fun y=>s==y)<;>rfl
theorem M0 (L:List (List Nat)) (s:List Nat) (hL:L.length<=1000000) (hl: ∀l∈L,l.length<=1000000) (hs:s.length<=1000000):ar Tryz.prog 71 [.aC 1 (L.map oF) L.length, .aC 1 (aI s) s.length] (.v (.int .i64 (QP L s))):=by
 have:=Gm (L.map bq) (bq s) (by simpa using hL) (fun l h=>by
  obtain ⟨a,ha,rfl⟩:=List.mem_map.1 h
  simpa [bq] using hl a ha) (by simpa [bq] using hs)
 rw [<-J6, <- oS,Pg,U2,show (bq s).length=s.length by simp [bq]] at this;exact this
theorem Jc {x:Ex} (hr:ay x=true) (cur:List Nat) (lab:ByteArray) (hn:(aB x).length<=1000) (hl:cur.length<=1000000):ar Tryz.prog 70 [.vp (tM x), .aC 1 (aI cur) cur.length, .v (.string lab)] (.aC 1 (aI (aP (aN x) cur lab)) (aP (aN x) cur lab).length):=by
 have:=Lu x (bq cur) lab hn (by simpa [bq] using hl)
 rw [<-step_eq hr, <- oS] at this;simpa [bq,aP] using this
def kq (A:List Int) (n:Nat):List (List AV):=(A++List.replicate (n - A.length) (0:Int)).map encI
theorem iV {A:List Int} {n:Nat} (h:A.length<=n):(kq A n).length=n:=by rw [kq,U2,Ug,List.length_replicate];omega
theorem ph (n:Nat):List.replicate n [AV.v (.int .i64 0)]=kq [] n:=by simp [kq,encI]
theorem rA {A:List Int} {n:Nat} (h:A.length=n):kq A n=A.map encI:=by rw [kq,h,Vf];simp
@[go_sem] theorem SG (z:Nat) (A:List Int) (n:Nat):bw z (kq A n)=true:=bz _ (fun _=>rfl) _
theorem mq {A:List Int} {n k:Nat} (hA:A.length=k) (h:k<n):(kq A n).getD k []=[.v (.int .i64 0)]:=by
 subst hA;rw [kq,show n - A.length=(n - (A.length+1))+1 by omega,WC,U3,V7,UF (by rw [U2];exact Nat.le_refl _),U2,Vf]
 rfl
theorem pg {A:List Int} {n k:Nat} (v:Int) (hA:A.length=k) (h:k<n):(kq A n).set k [.v (.int .i64 v)]=kq (A++[v]) n:=by
 subst hA;rw [kq,kq,show n - A.length=(n - (A++[v]).length)+1 by rw [Ug,V9];omega,WC];simp [List.set_append,encI]
theorem xP {A:List Int} {n k:Nat} (u:Int) (hA:A.length=k):(kq (A++[u]) n).getD k []=[.v (.int .i64 u)]:=by
 subst hA;rw [kq,U3,List.append_assoc,V7,UF (by rw [U2];exact Nat.le_refl _),U2,Vf]
 rfl
theorem tP {A:List Int} {n k:Nat} (u v:Int) (hA:A.length=k):(kq (A++[u]) n).set k [.v (.int .i64 v)]=kq (A++[v]) n:=by
 subst hA;rw [kq,kq,show (A++[u]).length=(A++[v]).length by simp];simp [List.set_append,encI]
theorem K4 {x:Ex} (hr:ay x=true) {a:List Nat} (h:Made (aP (aN x)) a): ∀p∈a,p<=(aB x).length:=fun p hp=>by
 have L:=ik hr
 rcases h.2 with rfl|⟨cur,l,rfl⟩
 ·simp only [List.mem_singleton] at hp;omega
 ·obtain ⟨q,_,_,k,_⟩:=(ji L.ok).1 hp
  have:=(L.ok.qD _ _ k).2
  rw [L.labs] at this;exact this
def Aq (g:Nat->Bool) (p:Nat):Bool:=decide (0<p)&&g (p - 1)
theorem GO {N:Nat} {g:Nat->Bool} {p:Nat} (h:p<=N):(iX N g).contains p=Aq g p:=by
 rw [Wm,List.contains_iff_mem,tS,Aq,Bool.and_eq_true,decide_eq_true_eq];exact ⟨fun q=>⟨by omega,q.2.2⟩,fun q=>⟨by omega,h,q.2⟩⟩
theorem any_eq {N:Nat} {g:Nat->Bool} {l:List Nat} (h: ∀p∈l,p<=N):l.any (fun p=>(iX N g).contains p)=l.any (Aq g):=by
 rw [Wm,List.any_eq_true,List.any_eq_true];exact ⟨fun ⟨p,hp,q⟩=>⟨p,hp,by rw [<-GO (h p hp)];exact q⟩,fun ⟨p,hp,q⟩=>⟨p,hp,by rw [GO (h p hp)];exact q⟩⟩
theorem I5 {x:Ex} (hr:ay x=true) (h1:(ai x).length<=1000000) (hz: ∀z,z∈ai x->z.kids.length<=1000000∧z.label.size<=1000000000000000) (labs:List ByteArray) (hn:labs.Nodup) (hl:labs.length<=1000) (hN:(aB x).length<=1000):ar Tryz.prog 38 [.agg (aS x),aZ labs] (mw labs (my x labs)):=by
 have CN:=Lh x h1 hz;rw [hr,if_pos rfl] at CN;have wR:=jc 0 x;have CS:=fun cur lab hc=>Jc hr cur lab hN hc;have eS:my x labs=ny (aP (aN x)) (aN x).em (aq (aN x).la) labs:=rfl;rw [eS];have hEm:=LR hr;generalize (aN x).em=em at *
 have hA:aX 0 [AV.agg (aS x),aZ labs]=true:=by simp only [aZ,aX,AV.wf,fe,bm,Bool.and_self]
 have hF:=FH labs (ny (aP (aN x)) em (aq (aN x).la) labs);generalize hrv:mw labs (ny (aP (aN x)) em (aq (aN x).la) labs)=rv at hF ⊢;simp only [aD,aZ] at *
 (refine ar.l5 Tryz.func38 rfl (by kernel_rfl) (by kernel_rfl) rfl hA hF ?_;simp only [Tryz.ntmps38,Tryz.results38,List.length_cons,List.length_nil,Nat.reduceAdd,Nat.reduceSub,WC,List.replicate_zero,VK,VJ])
 (refine qG ?_;intro K hK K hK)
 refine ab.one CN ?_
 repeat ((fail_if_success (with_reducible refine bB (i:=3) ?_));first|(with_reducible first|refine aA.up ?_|refine fun (K:AK) hK=> ?_|refine ae (by decide) ?_|(refine hK _ ?_;clear hK K))|simp only [go_sem]|with_reducible refine wA ?_|clear hK K)
 refine bb (dA (k:=2) (i:=0) (j:=0) (by decide) rfl (Nat.zero_lt_succ _) rfl rfl rfl rfl rfl) (by kernel_rfl) ?_;simp only [List.set_cons_zero,List.set_cons_succ]
 (revert K;refine qG ?_;intro K hK)
 refine AZ (ι:=mG) 10 79 1 rfl (by decide) 11 4 1 rfl (by decide) 18 (fun st=>[(9, .vec 2 st.all.length),(10, .vec 3 st.rows.length),(11, .vec 4 st.rows.length),(12, .v (.int .i64 st.rows.length))]) (JL x labs) (fun st=>257 - st.rows.length) (fun st=>AG labs st∧(∀a∈st.all,Made (aP (aN x)) a)∧mw labs (mr (aP (aN x)) em (aq (aN x).la) labs (257 - st.rows.length) st)=rv) s0
  ⟨LC labs,fun a ha=>by simp only [s0,List.mem_singleton] at ha;subst ha;exact ⟨by simp, .inl rfl⟩,hrv⟩ ?_ ?_
 ·simp only [JL,s0]
  refine iG ?_ ?_ aj
  ·exact ⟨jc _ _,rfl⟩
  ·exact ⟨⟨rfl,mX _ _⟩,rfl,rfl⟩
 ·rintro st ⟨hok,hmade,hrun⟩ K hK;have h257:=hok.max;have hel:=hok.ends;simp only [JL]
  (revert K;revert K;refine qG ?_;intro K hK K hK K hK)
  refine bC.part (fun h=> ?_) (fun h=> ?_)
  ·have hlt:st.rows.length<st.all.length:=by replace h:=bJ h;omega
   rw [show 257 - st.rows.length=(256 - st.rows.length)+1 by have:=hok.le;omega,mr,if_pos hlt] at hrun;obtain ⟨hcm,hcl⟩:=nW (hmade _ (aQ (d:=[]) hlt));rw [<-bt] at hcm hcl;have h0:[]∉st.all:=fun hm=>(hmade _ hm).1 rfl;have eZ:=ph labs.length
   repeat (first|(with_reducible first|refine aA.up ?_|refine fun (K:AK) hK=> ?_|refine wD ?_|refine ae (by decide) ?_|(refine hK _ ?_;clear hK K))|simp only [go_sem,h,eZ]|with_reducible refine wA ?_|clear hK K)
   refine aT (ι:=Nat) 18 (fun k=>[(9, .vec 2 (tK (aP (aN x)) (bt st) st.all (labs.take k)).1.length),(14, .v (.int .i64 k)),(15, .undef)]) (fun k=>JL x labs { st with all:=(tK (aP (aN x)) (bt st) st.all (labs.take k)).1 }++[some ⟨3,1,true,kq (tK (aP (aN x)) (bt st) st.all (labs.take k)).2 labs.length⟩]) (fun k=>labs.length - k) (fun k=>k<=labs.length) 0 (Nat.zero_le _) ?_ ?_
   ·simp only [JL,List.take_zero,tK,List.foldl_nil,VK,VJ];refine bp ?_ aj;exact ⟨jc _ _,rfl⟩
   ·intro k hk K hK;obtain ⟨k1,k2,k3,k4,k5,t,k6⟩:=rB (aP (aN x)) (cur:=bt st) hok.nd (labs.take k);have hmd:=qm (aP (aN x)) hmade (cur:=bt st) (labs.take k);obtain ⟨eR,hne⟩:=Df (aP (aN x)) (bt st) h0 (labs.take k) (hn.sublist (List.take_sublist _ _))
    have hr2:(tK (aP (aN x)) (bt st) st.all (labs.take k)).2.length=k:=by rw [eR];simp only [db,List.length_take];omega
    rw [show (dq (aP (aN x)) (bt st) st.all (labs.take k)).1=(tK (aP (aN x)) (bt st) st.all (labs.take k)).1 by rw [eR]] at k3 k4 k6 hmd hne
    rcases hRi:tK (aP (aN x)) (bt st) st.all (labs.take k) with ⟨al,ro⟩
    rw [hRi] at k3 k4 k6 hmd hne hr2;simp only at k3 k4 k6 hmd hne hr2
    have hal:al.length<=2000:=by rw [List.length_take] at k4;omega
    simp only [JL,VK,VJ]
    ((iterate 5 revert K);refine qG ?_;iterate 6 intro K hK)
    refine bC.part (fun h2=> ?_) (fun h2=> ?_)
    ·have hli:k<labs.length:=by replace h2:=bJ h2;omega
     have eW:=ak (k:=k) (by omega);have eG:=getD_map encS labs k [] hli
     have eC:(al.map oF).getD st.rows.length []=[.aC 1 (aI (bt st)) (bt st).length]:=by
      have hx:al.getD st.rows.length []=bt st:=by rw [k6,bX hlt];rfl
      rw [U3,Ut,Uq (by omega)];rw [U3,Uq (by omega)] at hx;simp only [Option.map_some,Option.getD_some] at hx ⊢;rw [hx];rfl
     have hNx:=vM (aP (aN x)) (bt st) st.all (labs.take k) labs[k];rw [<-Wg hli,hRi,QQ] at hNx;simp only at hNx;have CSk:=CS (bt st) labs[k] (by omega);obtain ⟨ts,tl⟩:=kL (iu (aN x) (fG (aN x) (bq (bt st))) labs[k]);have tl':(aP (aN x) (bt st) labs[k]).length<=1000:=tl;have AT:=M0 al (aP (aN x) (bt st) labs[k]) (by omega) (fun l hl=>by have:=(nW (hmd l hl)).2;omega) (by omega);rw [QP] at AT;generalize hto:aP (aN x) (bt st) labs[k]=to at *;have eLr:(kq ro labs.length).length=labs.length:=iV (by omega);simp only [encS] at eG;have wfA: ∀n,bw n (al.map oF)=true:=fun n=>bz _ (mX n) _;have gZ:=mq (n:=labs.length) hr2 hli;have sQ:=fun v=>pg (n:=labs.length) v hr2 hli;have gQ:=fun u=>xP (n:=labs.length) u hr2;have sR:=fun u v=>tP (n:=labs.length) u v hr2;have eL2: ∀v:Int,(kq (ro++[v]) labs.length).length=labs.length:=fun v=>iV (by rw [Ug,V9];omega)
     repeat (first|(with_reducible first|refine aA.up ?_|refine fun (K:AK) hK=> ?_|refine wD ?_|refine ae (by decide) ?_|(refine hK _ ?_;clear hK K))|simp only [go_sem,eG,eC,h2]|with_reducible refine wA ?_|clear hK K)
     refine ba.one CSk ?_
     ((iterate 8 revert K);refine Pv eG eC h2 ?_;iterate 8 intro K hK)
     cases hp:al.findIdx? (fun y=>to==y) with
     | some j=>
      rw [hp] at AT hNx;simp only at AT hNx
      have hto:to≠[]:=fun e=>by
       obtain ⟨q1,q2,_⟩:=List.findIdx?_eq_some_iff_getElem.1 hp;rw [beq_iff_eq] at q2;exact hne (by rw [<-e,q2];exact List.getElem_mem q1)
      have d1:decide ((0:Int)<(to.length:Int))=true:=decide_eq_true (by have:=List.length_pos_iff.2 hto;omega);have d2:decide ((j:Int)<0)=false:=decide_eq_false (by omega);refine ab.JK AT 8 rfl (by simp only [go_sem,Nat.reduceLT,Nat.reduceLeDiff,Nat.reduceEqDiff,Nat.lt_add_one,Nat.zero_lt_one,and_self,wfA,U2]) rfl ?_
      repeat (first|(with_reducible first|refine aA.up ?_|refine fun (K:AK) hK=> ?_|refine wD ?_|refine ae (by decide) ?_|(refine hK _ ?_;clear hK K))|simp only [go_sem,eLr,gZ,Wz,WA,sQ,d1,d2,gQ,eL2,Go.undef]|with_reducible refine wA ?_|clear hK K)
      refine u7 eW ?_;refine az.mk (k+1) (by omega) (by omega) ?_;rw [hNx];simp only [JL,VK,VJ];refine bp ?_ aj;exact jc _ _
     | none=>
      rw [hp] at AT hNx;simp only at AT hNx;refine ab.JK AT 8 rfl (by simp only [go_sem,Nat.reduceLT,Nat.reduceLeDiff,Nat.reduceEqDiff,Nat.lt_add_one,Nat.zero_lt_one,and_self,wfA,U2]) rfl ?_
      by_cases hto:to=[]
      ·have d1:decide ((0:Int)<(to.length:Int))=false:=decide_eq_false (by rw [hto];simp);rw [if_pos hto] at hNx
       repeat (first|(with_reducible first|refine aA.up ?_|refine fun (K:AK) hK=> ?_|refine wD ?_|refine ae (by decide) ?_|(refine hK _ ?_;clear hK K))|simp only [go_sem,eLr,gZ,Wz,WA,sQ,d1,gQ,eL2,Go.undef]|with_reducible refine wA ?_|clear hK K)
       refine u7 eW ?_;refine az.mk (k+1) (by omega) (by omega) ?_;rw [hNx];simp only [JL,VK,VJ];refine bp ?_ aj;exact jc _ _
      ·have d1:decide ((0:Int)<(to.length:Int))=true:=decide_eq_true (by have:=List.length_pos_iff.2 hto;omega);rw [if_neg hto] at hNx
       repeat (first|(with_reducible first|refine aA.up ?_|refine fun (K:AK) hK=> ?_|refine wD ?_|refine ae (by decide) ?_|(refine hK _ ?_;clear hK K))|simp only [go_sem,eLr,gZ,Wz,WA,sQ,d1,gQ,eL2,Go.undef]|with_reducible refine wA ?_|clear hK K)
       repeat (first|(with_reducible first|refine aA.up ?_|refine fun (K:AK) hK=> ?_|refine wD ?_|refine ae (by decide) ?_|(refine hK _ ?_;clear hK K))|simp only [go_sem,eL2,gQ,sR,Wz,WA]|with_reducible refine wA ?_|clear hK K)
       refine u7 eW ?_;refine az.mk (k+1) (by omega) (by omega) ?_;rw [hNx];simp only [JL,VK,VJ,V7,List.map_cons,List.map_nil,Ug,List.length_cons,List.length_nil]
       refine iG ?_ ?_ aj
       ·exact jc _ _
       ·exact ⟨rfl,mX _ _⟩
    ·have hil:k=labs.length:=by replace h2:=bJ h2;omega
     rw [hil,List.take_length] at hRi;have eR2:=(Df (aP (aN x)) (bt st) h0 labs hn).1;rw [hRi] at eR2
     rcases hSi:dq (aP (aN x)) (bt st) st.all labs with ⟨al',rs⟩
     rw [hSi] at eR2;simp only [Prod.mk.injEq] at eR2;obtain ⟨eal,ero⟩:=eR2
     have hall:(b9 (aP (aN x)) em (aq (aN x).la) labs st).all=al:=by rw [b9,hSi,eal]
     have hrow:(b9 (aP (aN x)) em (aq (aN x).la) labs st).rows=st.rows++[rs]:=by rw [b9,hSi]
     have hends:(b9 (aP (aN x)) em (aq (aN x).la) labs st).ends=st.ends++[pk em (aq (aN x).la) st]:=by rw [b9]
     rw [hall] at hrun
     ((iterate 6 revert K);refine qG ?_;iterate 4 intro K hK)
     refine bC.part (fun h3=> ?_) (fun h3=> ?_)
     ·rw [if_pos (by replace h3:=bJ h3;omega)] at hrun
      ((iterate 4 revert K);refine qG ?_)
      rw [<-hrun];exact bH.cL ⟨bH.v _,bH.v _,bH.v _,trivial⟩
     ·have h256: ¬ 256<al.length:=by replace h3:=bJ h3;omega
      rw [if_neg h256] at hrun;have hle:=K4 hr (hmade _ (aQ (d:=[]) hlt));rw [<-bt] at hle
      have hE:pk em (aq (aN x).la) st=(((st.rows.length:Int)==0&&em)||(bt st).any (Aq (ej x 0))):=by
       rw [pk,Jo hr,any_eq hle];congr 2;rw [Wm,beq_iff_eq,beq_iff_eq];omega
      have eC:(al.map oF).getD st.rows.length []=[.aC 1 (aI (bt st)) (bt st).length]:=by
       have hx:al.getD st.rows.length []=bt st:=by rw [k6,bX hlt];rfl
       rw [U3,Ut,Uq (by omega)];rw [U3,Uq (by omega)] at hx;simp only [Option.map_some,Option.getD_some] at hx ⊢;rw [hx];rfl
      have eV:tM x=[.aC 1 ((aB x).map encS) (aB x).length, .aC 1 (cI (aB x).length (jP x 0)) (aB x).length, .aC 1 (cI (aB x).length (ej x 0)) (aB x).length, .aC 1 (jT (aB x).length (jO x 0)) (aB x).length, .v (.bool em), .v (.int .i64 x.kind), .v (.string x.label), .aC 3 (x.kids.map aS) x.kids.length]:=by rw [tM,hEm]
      simp only [eV];obtain ⟨e0,he0⟩: ∃e0,e0=((st.rows.length:Int)==0&&em):=⟨_,rfl⟩
      repeat ((fail_if_success (with_reducible refine bB (i:=19) ?_));first|(with_reducible first|refine aA.up ?_|refine fun (K:AK) hK=> ?_|refine ae (by decide) ?_|(refine hK _ ?_;clear hK K))|simp only [go_sem]|with_reducible refine wA ?_|clear hK K)
      refine yu ⟨gz 132 [(0, .agg [.v (.int .i64 x.kind), .v (.string x.label), .aC 3 (x.kids.map aS) x.kids.length]),(1, .aC 1 (labs.map encS) labs.length),(2, .ptr 0 0 3 0 0),(4, .v (.slice none 0 0)),(5, .v (.slice none 0 0)),(6, .v (.bool false)),(7, .vp [.aC 1 ((aB x).map encS) (aB x).length, .aC 1 (cI (aB x).length (jP x 0)) (aB x).length, .aC 1 (cI (aB x).length (ej x 0)) (aB x).length, .aC 1 (jT (aB x).length (jO x 0)) (aB x).length, .v (.bool em), .v (.int .i64 x.kind), .v (.string x.label), .aC 3 (x.kids.map aS) x.kids.length]),(8, .v (.int .i64 0)),(9, .vec 2 al.length),(10, .vec 3 st.rows.length),(11, .vec 4 st.rows.length),(12, .v (.int .i64 st.rows.length)),(13, .vec 5 labs.length),(16, .v (.bool e0))],[some ⟨25,3,false,[[.v (.int .i64 x.kind), .v (.string x.label), .aC 3 (x.kids.map aS) x.kids.length]]⟩,none,some ⟨79,1,true,al.map oF⟩,some ⟨79,1,true,c9 (st.rows.map (fw labs))⟩,some ⟨4,1,true,cu st.ends⟩,some ⟨3,1,true,kq ro labs.length⟩], .no⟩ (by kernel_rfl) ?_ ?_
      ·rcases (Bool.eq_false_or_eq_true ((st.rows.length:Int)==0)).symm with hZ|hZ
       ·rw [hZ,Bool.false_and] at he0;subst he0
        ((iterate 4 revert K);refine Hc hZ ?_)
        exact aO aj
       ·rw [hZ,Bool.true_and] at he0;subst he0
        ((iterate 4 revert K);refine Hc hZ ?_)
        exact aO aj
      ·simp only [gz,List.foldl_cons,List.foldl_nil,WC,List.replicate_zero,go_sem]
       ((iterate 4 revert K);refine qG ?_;iterate 4 intro K hK)
       refine bo (ι:=Nat) 18 (fun j=>[(16, .v (.bool (e0||((bt st).take j).any (Aq (ej x 0))))),(17, .v (.int .i64 j))]) (fun j=>(bt st).length - j) (fun j=>j<=(bt st).length) 0 (Nat.zero_le _) ?_ ?_
       ·refine bp ?_ aj
        all_goals first|rfl|simp
       ·intro j hj K hK;have eWj:=ak (k:=j) (by omega)
        repeat (first|(with_reducible first|refine aA.up ?_|refine fun (K:AK) hK=> ?_|refine wD ?_|refine ae (by decide) ?_|(refine hK _ ?_;clear hK K))|simp only [go_sem,eC]|with_reducible refine wA ?_|clear hK K)
        refine bC.part (fun h4=> ?_) (fun h4=> ?_)
        ·have hlj:j<(bt st).length:=by replace h4:=bJ h4;omega
         have eN:(aI (bt st)).getD j []=[.v (.int .i64 ((bt st)[j]:Nat))]:=by rw [aI,U3,Ut,Uq hlj];rfl
         have eLn:(aI (bt st)).length=(bt st).length:=by rw [aI,U2]
         have eA:((bt st).take (j+1)).any (Aq (ej x 0))=(((bt st).take j).any (Aq (ej x 0))||Aq (ej x 0) (bt st)[j]):=by rw [Wg hlj,List.any_append];simp
         have hpl:=hle _ (List.getElem_mem hlj);generalize hpp:(bt st)[j]=pp at *;generalize hee:(e0||((bt st).take j).any (Aq (ej x 0)))=ee at *
         have eA2:(e0||((bt st).take (j+1)).any (Aq (ej x 0)))=(ee||Aq (ej x 0) pp):=by rw [eA, <- Bool.or_assoc,hee]
         cases ee
         ·by_cases hp0:0<pp
          ·have d1:decide ((0:Int)<(pp:Int))=true:=decide_eq_true (by omega)
           have eW1:IntKind.i64.wrap ((pp:Int) - 1)=((pp - 1:Nat):Int):=by rw [dr (by omega) (by omega)];omega
           have eB:=cN (N:=(aB x).length) (g:=ej x 0) (j:=pp - 1) (by omega)
           have eQ:Aq (ej x 0) pp=ej x 0 (pp - 1):=by rw [Aq,decide_eq_true hp0,Bool.true_and]
           rw [eQ,Bool.false_or] at eA2
           ((iterate 6 revert K);refine sC h4 ?_;iterate 6 intro K hK)
           refine bV [] [] (by decide+kernel) (by kernel_rfl) ?_
           repeat (first|(with_reducible first|refine aA.up ?_|refine fun (K:AK) hK=> ?_|refine ae (by decide) ?_|(refine hK _ ?_;clear hK K))|simp only [go_sem,eC,eN,eLn,d1,eW1,eB,h4,Go.undef]|with_reducible refine wA ?_|clear hK K)
           refine u7 eWj ?_;refine az.mk (j+1) (by omega) (by omega) ?_;rw [eA2];exact aO aj
          ·have d1:decide ((0:Int)<(pp:Int))=false:=decide_eq_false (by omega)
           have eQ:Aq (ej x 0) pp=false:=by rw [Aq,decide_eq_false hp0,Bool.false_and]
           rw [eQ,Bool.false_or] at eA2
           ((iterate 6 revert K);refine sC h4 ?_;iterate 6 intro K hK)
           refine bV [] [] (by decide+kernel) (by kernel_rfl) ?_
           repeat (first|(with_reducible first|refine aA.up ?_|refine fun (K:AK) hK=> ?_|refine ae (by decide) ?_|(refine hK _ ?_;clear hK K))|simp only [go_sem,eC,eN,eLn,d1,h4,Go.undef]|with_reducible refine wA ?_|clear hK K)
           refine u7 eWj ?_;refine az.mk (j+1) (by omega) (by omega) ?_;rw [eA2];exact aO aj
         ·rw [Bool.true_or] at eA2
          ((iterate 6 revert K);refine Bi ?_;iterate 6 intro K hK)
          refine bV [] [] (by decide+kernel) (by kernel_rfl) ?_
          ((iterate 6 revert K);refine No ?_)
          refine u7 eWj ?_;refine az.mk (j+1) (by omega) (by omega) ?_;rw [eA2];exact aO aj
        ·have hjl:j=(bt st).length:=by replace h4:=bJ h4;omega
         have hEn:pk em (aq (aN x).la) st=(e0||((bt st).take j).any (Aq (ej x 0))):=by rw [hE, <- he0,hjl,List.take_length]
         rw [<-hEn]
         repeat ((fail_if_success (with_reducible refine bB (i:=24) ?_));first|(with_reducible first|refine aA.up ?_|refine fun (K:AK) hK=> ?_|refine ae (by decide) ?_|(refine hK _ ?_;clear hK K))|simp only [go_sem]|with_reducible refine wA ?_|clear hK K)
         refine bb (gO 13 5 rfl rfl rfl (by rw [iV (by omega)])) (by kernel_rfl) ?_;simp only [List.set_cons_zero,List.set_cons_succ];rw [rA (by omega)];have eWi:=ak (k:=st.rows.length) (by omega)
         have eT:c9 (st.rows.map (fw labs))++[[.aC 1 (ro.map encI) labs.length]]=c9 ((b9 (aP (aN x)) em (aq (aN x).la) labs st).rows.map (fw labs)):=by
          rw [hrow,V7,c9,c9,V7,ero];simp [db]
         have eD:cu st.ends++[[AV.v (.bool (pk em (aq (aN x).la) st))]]=cu (b9 (aP (aN x)) em (aq (aN x).la) labs st).ends:=by
          rw [hends,cu,cu,V7];rfl
         have hlen:(b9 (aP (aN x)) em (aq (aN x).la) labs st).rows.length=st.rows.length+1:=by rw [hrow,Ug,V9]
         generalize pk em (aq (aN x).la) st=se at *;obtain ⟨nx,hnx⟩: ∃nx,nx=b9 (aP (aN x)) em (aq (aN x).la) labs st:=⟨_,rfl⟩;have hnok:AG labs nx:=hnx ▸ pq (aP (aN x)) em (aq (aN x).la) hok hlt (by rw [hall];exact h256);rw [<-hnx] at hrun hlen hall eT eD
         have eEl:(cu st.ends).length=st.rows.length:=by rw [dU,hel]
         repeat (first|(with_reducible first|refine aA.up ?_|refine fun (K:AK) hK=> ?_|refine wD ?_|refine ae (by decide) ?_|(refine hK _ ?_;clear hK K))|simp only [go_sem,eT,eD,eEl,U2,eWi]|with_reducible refine wA ?_|clear hK K)
         refine az.mk nx ⟨hnok,by rw [hall];exact hmd,by rw [hlen,show 257 - (st.rows.length+1)=256 - st.rows.length by omega];exact hrun⟩ (by rw [hlen];have:=hok.le;omega) ?_;simp only [JL,hall,hlen];refine bp ?_ aj;exact ⟨by rw [eV],jc _ _⟩
  ·have hge:st.rows.length=st.all.length:=by have:=hok.le;replace h:=bJ h;omega
   rw [show 257 - st.rows.length=(256 - st.rows.length)+1 by omega,mr,if_neg (by omega)] at hrun
   ((iterate 3 revert K);refine qG ?_)
   rw [<-hrun];simp only [mw,hel];exact bH.cL ⟨bH.Ae (ob:=⟨79,1,true,c9 (st.rows.map (fw labs))⟩) rfl rfl (by rw [dx,U2]) (lk _ _),bH.Ae (ob:=⟨4,1,true,cu st.ends⟩) rfl rfl (by rw [dU];exact hel) (mA _ _),bH.v _,trivial⟩
end
def jz (A:pB):List AV:=[aZ A.labs, .aC 1 (c9 (A.rows.map (fw A.labs))) A.rows.length, .aC 1 (cu A.ends) A.rows.length]
theorem rD (n:Nat) (A:pB):aX n (jz A)=true:=by simp only [jz,aZ,aX,AV.wf,lk,mA,bm,Wc]
theorem si (l:List Bool) {i:Nat} (h:i<l.length):(cu l).getD i []=[.v (.bool (l.getD i false))]:=by
 rw [cu,U3,List.getElem?_map,Uq h,U3,Uq h];rfl
theorem IW {A:pB} (hE:A.ends.length=A.rows.length) (s:Int):ar Tryz.prog 42 [.vp (jz A), .v (.int .i64 s)] (.v (.bool (dh A s))):=by
 simp only [jz,aZ]
 by_cases h0:0<=s
 ·obtain ⟨k,rfl⟩: ∃k:Nat,s=k:=⟨s.toNat,by omega⟩;have d0:decide ((0:Int)<=(k:Int))=true:=decide_eq_true h0
  by_cases h1:k<A.rows.length
  ·have d1:decide ((k:Int)<(A.rows.length:Int))=true:=decide_eq_true (by omega);have eG:=si A.ends (i:=k) (by omega)
   have eL:(cu A.ends).length=A.rows.length:=by rw [dU,hE]
   have e:dh A k=A.ends.getD k false:=by rw [dh,d0,d1];rfl
   rw [e];refine gE Tryz.func42 Tryz.ntmps42 Tryz.results42 ?_;exact PE d0 d1 eG eL
  ·have d1:decide ((k:Int)<(A.rows.length:Int))=false:=decide_eq_false (by omega)
   have e:dh A k=false:=by rw [dh,d0,d1];rfl
   rw [e];refine gE Tryz.func42 Tryz.ntmps42 Tryz.results42 ?_;exact PD d0 d1
 ·have d0:decide ((0:Int)<=s)=false:=decide_eq_false h0
  have e:dh A s=false:=by rw [dh,d0];rfl
  rw [e];refine gE Tryz.func42 Tryz.ntmps42 Tryz.results42 ?_;exact PC d0
theorem xO {A:pB} (LO:FI A) (s:Int) (l:ByteArray):ar Tryz.prog 41 [.vp (jz A), .v (.int .i64 s), .v (.string l)] (stepT (cb A s l)):=by
 have hfew:=LO.Pt;have hmax:=LO.max;have hF:=JD (cb A s l);simp only [jz,aZ]
 by_cases hv:0<=s∧s<A.rows.length
 ·obtain ⟨n,rfl⟩: ∃n:Nat,s=n:=⟨s.toNat,by omega⟩
  have hn:n<A.rows.length:=by omega
  have d0:decide ((0:Int)<=(n:Int))=true:=decide_eq_true (by omega);have d1:decide ((n:Int)<(A.rows.length:Int))=true:=decide_eq_true (by omega)
  have eX:cb A n l=look (A.rows.getD n []) l:=by rw [cb,if_pos hv,Int.toNat_natCast]
  have eT:(c9 (A.rows.map (fw A.labs))).getD n []=[.aC 1 ((fw A.labs (A.rows.getD n [])).map encI) A.labs.length]:=by
   rw [oR _ (by rw [U2];exact hn),List.getElem_map,db,U3,Uq hn];rfl
  have eLT:(c9 (A.rows.map (fw A.labs))).length=A.rows.length:=by rw [dx,U2]
  have lT:((fw A.labs (A.rows.getD n [])).map encI).length=A.labs.length:=by rw [U2,db]
  rw [eX] at hF ⊢;generalize hrv:stepT (look (A.rows.getD n []) l)=rv at hF ⊢
  (refine ar.enter Tryz.func41 rfl (by kernel_rfl) (by kernel_rfl) rfl (by simp only [go_sem,aX,AV.wf,Wc,Bool.and_true,Bool.true_and,hF]) (by simp only [go_sem,aX,AV.wf,bm,Wc,Bool.and_true,Bool.true_and,hF]) ?_;simp only [Tryz.ntmps41,Tryz.results41,List.length_cons,List.length_nil,Nat.reduceAdd,Nat.reduceSub,List.replicate_succ,List.replicate_zero,List.cons_append,List.nil_append])
  (refine au ?_;intro K hK)
  refine bo (ι:=Nat) 9 (fun k=>[(8, .v (.int .i64 k))]) (fun k=>A.labs.length - k) (fun k=>k<=A.labs.length∧ ∀(j:Nat) (h:j<A.labs.length),j<k->A.labs[j]=l->look (A.rows.getD n []) l=none) 0 ⟨Nat.zero_le _,fun j _ h=>absurd h (Nat.not_lt_zero _)⟩ ?_ ?_
  ·refine bp ?_ aj
   all_goals rfl
  ·rintro k ⟨hk,hall⟩ K hK;have eW:=ak (k:=k) (by omega)
   (revert K;revert K;refine au ?_;intro K hK K hK K hK)
   refine bC.part (fun h=> ?_) (fun h=> ?_)
   ·have hlt:k<A.labs.length:=by replace h:=bJ h;omega
    have eG:=getD_map encS A.labs k [] hlt
    have hkR:k<(fw A.labs (A.rows.getD n [])).length:=by rw [db];exact hlt
    have eGk:=Hg (fw A.labs (A.rows.getD n [])) hkR
    have eV:(fw A.labs (A.rows.getD n []))[k]=(match look (A.rows.getD n []) A.labs[k] with|some t=>(t:Int)|none=> -1):=by
     simp only [fw,List.getElem_map];cases look (A.rows.getD n []) A.labs[k]<;>rfl
    rw [eV] at eGk;simp only [encS] at eG
    have cont:(A.labs[k]=l->look (A.rows.getD n []) l=none)-> ∀(j:Nat) (h:j<A.labs.length),j<k+1->A.labs[j]=l->look (A.rows.getD n []) l=none:=fun hh j hj hjk e=>by
     rcases Nat.lt_succ_iff_lt_or_eq.1 hjk with q|rfl
     ·exact hall j hj q e
     ·exact hh e
    by_cases he:A.labs[k]=l
    ·have f1:(A.labs[k].toList==l.toList)=true:=by rw [he];simp
     cases hq:look (A.rows.getD n []) A.labs[k] with
     | none=>
      rw [hq] at eGk;simp only at eGk
      repeat (first|(with_reducible first|refine aA.up ?_|refine fun (K:AK) hK=> ?_|(refine hK _ ?_;clear hK K))|simp only [go_sem,d0,d1,eG,h,f1,eT,eLT,eGk,lT,Go.undef]|with_reducible refine wA ?_|clear hK K)
      refine aK eW ?_;exact az.mk (k+1) ⟨hlt,cont fun e=>by rw [<-e];exact hq⟩ (by omega) (by exact aO aj)
     | some t=>
      rw [hq] at eGk;simp only at eGk;have d2:decide ((0:Int)<=(t:Int))=true:=decide_eq_true (by omega);rw [<-he,hq] at hrv
      repeat (first|(with_reducible first|refine aA.up ?_|refine fun (K:AK) hK=> ?_|(refine hK _ ?_;clear hK K))|simp only [go_sem,d0,d1,eG,h,f1,eT,eLT,eGk,lT,d2,Go.undef]|with_reducible refine wA ?_|clear hK K)
      rw [<-hrv];exact jB.of 40 rfl (by simp only [go_sem,Nat.reduceLT,Nat.reduceLeDiff,Nat.reduceEqDiff,Ww,Wx,and_self])
    ·have f1:(A.labs[k].toList==l.toList)=false:=by
      cases hh:(A.labs[k].toList==l.toList)
      ·rfl
      ·exact absurd (toList_inj.1 hh) he
     repeat (first|(with_reducible first|refine aA.up ?_|refine fun (K:AK) hK=> ?_|(refine hK _ ?_;clear hK K))|simp only [go_sem,d0,d1,eG,h,f1,Go.undef]|with_reducible refine wA ?_|clear hK K)
     refine aK eW ?_;exact az.mk (k+1) ⟨hlt,cont fun e=>absurd e he⟩ (by omega) (by exact aO aj)
   ·have hkn:k=A.labs.length:=by replace h:=bJ h;omega
    have hno:look (A.rows.getD n []) l=none:=by
     cases hq:look (A.rows.getD n []) l with
     | none=>rfl
     | some t=>
      have hm:=(LO.row _ (aQ (d:=[]) hn)).1.subset (List.mem_map_of_mem (f:=Prod.fst) (dy hq));obtain ⟨j,hj,e⟩:=List.getElem_of_mem hm;rw [<-hq];exact hall j hj (by omega) e
    rw [hno] at hrv
    ((iterate 3 revert K);refine au ?_)
    rw [<-hrv];exact jB.of 40 rfl (by simp only [go_sem,Nat.reduceLT,Nat.reduceLeDiff,Nat.reduceEqDiff,Ww,Wx,and_self])
 ·have eX:cb A s l=none:=by rw [cb,if_neg hv]
  rw [eX];simp only [stepT,Option.getD_none,Option.isSome_none]
  have d:decide ((0:Int)<=s)=false∨(decide ((0:Int)<=s)=true∧decide (s<(A.rows.length:Int))=false):=by
   by_cases q:0<=s
   ·exact .inr ⟨decide_eq_true q,decide_eq_false (by omega)⟩
   ·exact .inl (decide_eq_false q)
  rcases d with d0|⟨d0,d1⟩
  all_goals
   refine gE Tryz.func41 Tryz.ntmps41 Tryz.results41 ?_
   repeat (first|(with_reducible first|refine aA.up ?_|refine fun (K:AK) hK=> ?_|(refine hK _ ?_;clear hK K))|simp only [go_sem]|with_reducible refine wA ?_|clear hK K)
   refine bo (ι:=Nat) 9 (fun k=>[(8, .v (.int .i64 k))]) (fun k=>A.labs.length - k) (fun k=>k<=A.labs.length) 0 (Nat.zero_le _) ?_ ?_
  ·refine bp ?_ aj
   all_goals rfl
  ·intro k hk K hK;have eW:=ak (k:=k) (by omega)
   (revert K;revert K;refine au ?_;intro K hK K hK K hK)
   refine bC.part (fun h=> ?_) (fun h=> ?_)
   ·have hlt:k<A.labs.length:=by replace h:=bJ h;omega
    ((iterate 3 revert K);refine u5 d0 ?_)
    refine aK eW ?_;exact az.mk (k+1) hlt (by omega) (by exact aO aj)
   ·((iterate 3 revert K);refine au ?_)
    exact jB.of 40 rfl (by simp only [go_sem,Nat.reduceLT,Nat.reduceLeDiff,Nat.reduceEqDiff,Ww,Wx,and_self])
  ·refine bp ?_ aj
   all_goals rfl
  ·intro k hk K hK;have eW:=ak (k:=k) (by omega)
   (revert K;revert K;refine au ?_;intro K hK K hK K hK)
   refine bC.part (fun h=> ?_) (fun h=> ?_)
   ·have hlt:k<A.labs.length:=by replace h:=bJ h;omega
    ((iterate 3 revert K);refine CM d0 d1 ?_)
    refine aK eW ?_;exact az.mk (k+1) hlt (by omega) (by exact aO aj)
   ·((iterate 3 revert K);refine au ?_)
    exact jB.of 40 rfl (by simp only [go_sem,Nat.reduceLT,Nat.reduceLeDiff,Nat.reduceEqDiff,Ww,Wx,and_self])
theorem IY {A:List Int} {n k:Nat} (hA:A.length=k) (h:k<n):kq (A++[0]) n=kq A n:=by
 subst hA;rw [kq,kq,show n - A.length=(n - (A++[(0:Int)]).length)+1 by rw [Ug,V9];omega,List.replicate_succ];simp
theorem zU {l:List Nat} {n:Nat} (h:l.length=n):kq (bq l) n=aI l:=by rw [rA (by simpa [bq] using h),oS]
theorem mN (l:List Nat) (a:Nat):bq (l++[a])=bq l++[(a:Int)]:=by rw [bq,V7];rfl
theorem zb (l:List Nat):(bq l).length=l.length:=by simp [bq]
theorem uX (l:List Bool) {i:Nat} (h:i<l.length):(cu l).getD i []=[.v (.bool (l.getD i false))]:=by
 rw [cu,U3,Ut,Uq h,U3,Uq h];rfl
theorem Lm (ends:List Bool) {i:Nat} (h:i<ends.length):p0 (ends.take (i+1))=p0 (ends.take i)++[if ends.getD i false then 1 else 0]:=by
 rw [p0,p0,Wg h,V7,U3,Uq h];rfl
theorem Nb {α:Type} [DecidableEq α]: ∀(keys:List α), ∀x∈(keys.foldl qY (([]:List α),([]:List Nat))).1,x∈keys:=by
 refine fg (fun x h=>by simp at h) ?_;intro l a ih x hx;rw [List.foldl_append] at hx;simp only [List.foldl_cons,List.foldl_nil,qY] at hx
 split at hx
 ·exact V0 _ (ih x hx)
 ·rcases List.mem_append.1 hx with hx|hx
  ·exact V0 _ (ih x hx)
  ·exact List.mem_append_right _ hx
theorem Iu {labs:List ByteArray} {rows:List aR} {ends:List Bool} (hn:rows.length<=1000) (hE:ends.length=rows.length) (hR: ∀r∈rows,iJ (r.map Prod.fst)) (hL: ∀r∈rows, ∀l∈r.map Prod.fst,l∈labs) (hs:o5 rows) (h0:0<rows.length) (hT: ∀r∈rows, ∀p∈r,p.2<rows.length) (hl:labs.length<=1000) :
  ar Tryz.prog 39 [.aC 1 (c9 (rows.map (fw labs))) rows.length, .aC 1 (cu ends) rows.length] (.aC 1 (aI (br rows ends)) rows.length):=by
 have hP:=E9 hR hL hs h0 (ends:=ends)
 have hA:aX 0 [AV.aC 1 (c9 (rows.map (fw labs))) rows.length, .aC 1 (cu ends) rows.length]=true:=by simp only [aX,AV.wf,lk,mA,Bool.and_self]
 have hF:(AV.aC 1 (aI (br rows ends)) rows.length).wf 0=true:=by simp only [AV.wf,gj]
 rw [<-hP] at hF ⊢;generalize hrv:AV.aC 1 (aI (nw labs rows (rows.length+1) (p0 ends) 1 true)) rows.length=rv at hF ⊢
 have eT: ∀i,i<rows.length->(c9 (rows.map (fw labs))).getD i []=[.aC 1 ((fw labs (rows.getD i [])).map encI) labs.length]:=fun i hi=>by
  rw [oR _ (by rw [U2];exact hi),V2,db,U3,Uq hi];rfl
 have eLT:(c9 (rows.map (fw labs))).length=rows.length:=by rw [dx,U2]
 have eLE:(cu ends).length=rows.length:=by rw [dU,hE]
 generalize hnn:rows.length=n at *
 (refine ar.l5 Tryz.func39 rfl (by kernel_rfl) (by kernel_rfl) rfl hA hF ?_;simp only [Tryz.ntmps39,Tryz.results39,Uh,List.length_nil,Nat.reduceAdd,Nat.reduceSub,List.replicate_succ,List.replicate_zero,List.cons_append,List.nil_append])
 have eZ:=ph n
 repeat (first|(with_reducible first|refine aA.up ?_|refine fun (K:AK) hK=> ?_|(refine hK _ ?_;clear hK K))|simp only [go_sem,eZ]|with_reducible refine wA ?_|clear hK K)
 refine aT (ι:=Nat) 14 (fun i=>[(7, .v (.int .i64 i))]) (fun i=>[some ⟨3,1,true,kq (bq (p0 (ends.take i))) n⟩]) (fun i=>n - i) (fun i=>i<=n) 0 (Ui _) ?_ ?_
 ·simp only [List.take_zero,p0,Wi,bq];refine bp ?_ aj
  all_goals rfl
 ·intro i hi K hK;have eW:=ak (k:=i) (by omega)
  (revert K;revert K;refine au ?_;intro K hK K hK K hK)
  refine bC.part (fun h=> ?_) (fun h=> ?_)
  ·have hlt:i<n:=by replace h:=bJ h;omega
   have eE:=uX ends (i:=i) (by omega);have eP:=Lm ends (i:=i) (by omega)
   have lA:(bq (p0 (ends.take i))).length=i:=by rw [zb,p0,U2,List.length_take];omega
   have eL0:(kq (bq (p0 (ends.take i))) n).length=n:=iV (by omega);have g0:=mq lA hlt;have sQ:=pg 1 lA hlt;have sK:=IY lA hlt
   cases hb:ends.getD i false
   ·rw [hb] at eE eP
    repeat (first|(with_reducible first|refine aA.up ?_|refine fun (K:AK) hK=> ?_|(refine hK _ ?_;clear hK K))|simp only [go_sem,h,eE,eLE]|with_reducible refine wA ?_|clear hK K)
    refine aK eW ?_;refine az.mk (i+1) (by omega) (by omega) ?_;rw [eP,mN];simp only [Bool.false_eq_true,if_false,Int.natCast_zero];rw [sK];exact aO aj
   ·rw [hb] at eE eP
    repeat (first|(with_reducible first|refine aA.up ?_|refine fun (K:AK) hK=> ?_|(refine hK _ ?_;clear hK K))|simp only [go_sem,h,eE,eLE,eL0,g0,Wz,WA,sQ]|with_reducible refine wA ?_|clear hK K)
    refine aK eW ?_;refine az.mk (i+1) (by omega) (by omega) ?_;rw [eP,mN];simp only [if_true];rw [show ((1:Nat):Int)=1 from rfl];exact aO aj
  ·have hin:i=n:=by replace h:=bJ h;omega
   have e1:kq (bq (p0 (ends.take i))) n=aI (p0 ends):=by
    rw [hin, <- hE,List.take_length];exact zU (by rw [p0,U2])
   rw [e1]
   have lP:(aI (p0 ends)).length=n:=by rw [aI,U2,p0,U2,hE]
   repeat ((fail_if_success (with_reducible refine bB (i:=8) ?_));first|(with_reducible first|refine aA.up ?_|refine fun (K:AK) hK=> ?_|(refine hK _ ?_;clear hK K))|simp only [go_sem]|with_reducible refine wA ?_|clear hK K)
   refine bb (gO 5 0 rfl rfl rfl lP) (by kernel_rfl) ?_;simp only [VR,VQ]
   (revert K;revert K;refine au ?_;intro K hK)
   have hI: ∀part,n=rows.length->((fI labs rows part n).2=(dn rows part n).2∧(fI labs rows part n).1.length=(dn rows part n).1.length):=fun part e=>pf hR hL hs (by omega)
   refine bo (ι:=List Nat×Nat×Nat) 14 (fun y=>[(5, .aC 1 (aI y.1) n),(6, .v (.int .i64 y.2.1)),(8, .v (.int .i64 y.2.2)),(9, .undef),(10, .undef),(11, .undef),(12, .undef),(13, .undef)]) (fun y=>n+1 - y.2.2) (fun y=>y.1.length=n∧y.2.1<=n+1∧y.2.2<=n+1∧AV.aC 1 (aI (nw labs rows (n+1 - y.2.2) y.1 y.2.1 (y.2.2==0))) n=rv) (p0 ends,1,0) ⟨by rw [p0,U2];exact hE,by show 1<=n+1;omega,Ui _,hrv⟩ ?_ ?_
   ·refine bp ?_ aj
    all_goals first|rfl|exact ⟨rfl,rfl⟩|trace_state
   ·rintro ⟨part,many,round⟩ ⟨q1,q2,q3,q4⟩ K hK;simp only at q1 q2 q3 q4;have eW2:=ak (k:=round) (by omega)
    (revert K;revert K;refine au ?_;intro K hK K hK K hK)
    refine bC.part (fun h2=> ?_) (fun h2=> ?_)
    ·have hrn:round<=n:=by replace h2:=bJ h2;omega
     rw [show n+1 - round=(n - round)+1 by omega,nw,hnn] at q4
     repeat (first|(with_reducible first|refine aA.up ?_|refine fun (K:AK) hK=> ?_|(refine hK _ ?_;clear hK K))|simp only [go_sem,eZ]|with_reducible refine wA ?_|clear hK K)
     refine mH (ι:=Nat) 9 79 1 rfl (by decide) 14 (fun i=>[(9, .vec 2 (fI labs rows part i).1.length),(11, .v (.int .i64 i))]) (fun i=>[none,some ⟨3,1,true,kq (bq (fI labs rows part i).2) n⟩,some ⟨79,1,true,c9 (fI labs rows part i).1⟩]) (fun i=>n - i) (fun i=>i<=n) 0 (Ui _) ?_ ?_
     ·simp only [fI,List.range_zero,Wi,List.foldl_nil,bq];refine iG ?_ ?_ aj
      all_goals rfl
     ·intro i hi K hK
      have lPn:(aI part).length=n:=by rw [aI,U2];exact q1
      have hIi:=pf (part:=part) hR hL hs (n:=i) (by omega);have okI:=gb rows part i
      have l2:(fI labs rows part i).2.length=i:=by rw [hIi.1];exact okI.len
      have l1:(fI labs rows part i).1.length<=i:=by rw [hIi.2];exact okI.le
      have hmem: ∀l∈(fI labs rows part i).1,l.length=labs.length+1:=fun l hl=>by
       obtain ⟨j,_,rfl⟩:=List.mem_map.1 (Nb _ l hl);rw [gI,Uh,U2,db]
      have eS:fI labs rows part (i+1)=qY (fI labs rows part i) (gI labs rows part i):=by rw [fI,List.range_succ,V7,List.foldl_append];rfl
      generalize hRR:fI labs rows part i=RR at *;obtain ⟨rr,nn⟩:=RR;simp only at l1 l2 hmem
      ((iterate 5 revert K);refine au ?_;iterate 6 intro K hK)
      refine bC.part (fun h3=> ?_) (fun h3=> ?_)
      ·have hlt:i<n:=by replace h3:=bJ h3;omega
       have eP:(aI part).getD i []=[.v (.int .i64 (part.getD i 0:Nat))]:=by rw [aI,U3,Ut,Uq (by omega),U3,Uq (by omega)];rfl
       have eTi:=eT i hlt
       have lT:((fw labs (rows.getD i [])).map encI).length=labs.length:=by rw [U2,db]
       have lK:(gI labs rows part i).length=labs.length+1:=by rw [gI,Uh,U2,db]
       repeat (first|(with_reducible first|refine aA.up ?_|refine fun (K:AK) hK=> ?_|(refine hK _ ?_;clear hK K))|simp only [go_sem,h3,eP,lPn]|with_reducible refine wA ?_|clear hK K)
       refine aT (ι:=Nat) 14 (fun k=>[(12, .vec 3 (k+1)),(13, .v (.int .i64 k))]) (fun k=>[none,some ⟨3,1,true,kq (bq nn) n⟩,some ⟨79,1,true,c9 rr⟩,some ⟨3,1,true,((gI labs rows part i).take (k+1)).map encI⟩]) (fun k=>labs.length - k) (fun k=>k<=labs.length) 0 (Ui _) ?_ ?_
       ·simp only [gI,List.take_succ_cons,List.take_zero,List.map_cons,Wi,encI];refine bp ?_ aj
        all_goals first|rfl|exact ⟨rfl,rfl⟩|trace_state
       ·intro k hk K hK;have eWk:=ak (k:=k) (by omega)
        repeat (first|(with_reducible first|refine aA.up ?_|refine fun (K:AK) hK=> ?_|(refine hK _ ?_;clear hK K))|simp only [go_sem,eTi,eLT]|with_reducible refine wA ?_|clear hK K)
        refine bC.part (fun h4=> ?_) (fun h4=> ?_)
        ·have hlk:k<labs.length:=by replace h4:=bJ h4;omega
         have hkR:k<(fw labs (rows.getD i [])).length:=by rw [db];exact hlk
         have eGk:=Hg (fw labs (rows.getD i [])) hkR
         have lTk:(((gI labs rows part i).take (k+1)).map encI).length=k+1:=by rw [U2,List.length_take];omega
         have eN:((gI labs rows part i).take (k+1)).map encI++[[.v (.int .i64 (if (fw labs (rows.getD i []))[k]<0 then -1 else ((part.getD ((fw labs (rows.getD i []))[k]).toNat 0:Nat):Int)))]]=((gI labs rows part i).take (k+1+1)).map encI:=by
          rw [show (gI labs rows part i).take (k+1+1)=(gI labs rows part i).take (k+1)++[(gI labs rows part i)[k+1]] from Wg (by omega),V7]
          congr 1
          simp only [gI,List.getElem_cons_succ,V2,List.map_cons,Wi,encI]
         have hrng: ¬(fw labs (rows.getD i []))[k]<0->((fw labs (rows.getD i []))[k]).toNat<n:=fun hh=>by
          simp only [fw,V2] at hh ⊢
          cases hq:look (rows.getD i []) labs[k] with
          | none=>rw [hq] at hh;exact absurd (by decide) hh
          | some t=>
           simp only [Int.toNat_natCast];exact hT _ (aQ (d:=[]) (by omega)) _ (dy hq)
         generalize htt:(fw labs (rows.getD i []))[k]=tt at *
         by_cases ht:tt<0
         ·have d1:decide (tt<0)=true:=decide_eq_true ht;rw [if_pos ht] at eN
          repeat (first|(with_reducible first|refine aA.up ?_|refine fun (K:AK) hK=> ?_|(refine hK _ ?_;clear hK K))|simp only [go_sem,h4,eTi,eLT,eGk,lT,d1,lTk,eN]|with_reducible refine wA ?_|clear hK K)
          refine aK eWk ?_;refine az.mk (k+1) (by omega) (by omega) ?_;exact aO aj
         ·have d1:decide (tt<0)=false:=decide_eq_false ht;have hrn2:=hrng ht;have hnat:((tt.toNat:Nat):Int)=tt:=Int.toNat_of_nonneg (by omega);rw [if_neg ht] at eN;generalize tt.toNat=tn at *;subst hnat
          have eP2:(aI part).getD tn []=[.v (.int .i64 (part.getD tn 0:Nat))]:=by rw [aI,U3,Ut,Uq (by omega),U3,Uq (by omega)];rfl
          repeat (first|(with_reducible first|refine aA.up ?_|refine fun (K:AK) hK=> ?_|(refine hK _ ?_;clear hK K))|simp only [go_sem,h4,eTi,eLT,eGk,lT,d1,lTk,eN,eP2,lPn]|with_reducible refine wA ?_|clear hK K)
          refine aK eWk ?_;refine az.mk (k+1) (by omega) (by omega) ?_;exact aO aj
        ·have hkl:k=labs.length:=by replace h4:=bJ h4;omega
         rw [hkl,show (gI labs rows part i).take (labs.length+1)=gI labs rows part i by rw [<-lK,List.take_length]]
         repeat ((fail_if_success (with_reducible refine bB (i:=23) ?_));first|(with_reducible first|refine aA.up ?_|refine fun (K:AK) hK=> ?_|(refine hK _ ?_;clear hK K))|simp only [go_sem]|with_reducible refine wA ?_|clear hK K)
         refine bb (gO 12 3 rfl rfl rfl (by rw [U2,lK])) (by kernel_rfl) ?_;simp only [VR,VQ];have AT:=Gm rr (gI labs rows part i) (by omega) (fun l hl=>by have:=hmem l hl;omega) (by omega);rw [M1] at AT;rw [lK] at AT;rw [qY] at eS;simp only at eS
         have lN:(bq nn).length=i:=by rw [zb];exact l2
         have eL0:(kq (bq nn) n).length=n:=iV (by omega);have g0:=mq lN hlt;have sQ:=fun v=>pg v lN hlt;have gQ:=fun u=>xP (n:=n) u lN;have sR:=fun u v=>tP (n:=n) u v lN;have eL2: ∀v:Int,(kq (bq nn++[v]) n).length=n:=fun v=>iV (by rw [Ug,V9];omega);have eWi:=ak (k:=i) (by omega)
         ((iterate 7 revert K);refine au ?_;iterate 8 intro K hK)
         cases hp:rr.findIdx? (fun y=>decide (gI labs rows part i=y)) with
         | some j=>
          rw [hp] at AT eS;simp only at AT eS;have d2:decide ((j:Int)<0)=false:=decide_eq_false (by omega);refine ab.JK AT 8 rfl (by simp only [go_sem,Nat.reduceLT,Nat.reduceLeDiff,Nat.reduceEqDiff,Nat.lt_add_one,Nat.zero_lt_one,and_self,lk,dx]) rfl ?_
          repeat (first|(with_reducible first|refine aA.up ?_|refine fun (K:AK) hK=> ?_|(refine hK _ ?_;clear hK K))|simp only [go_sem,eL0,g0,Wz,WA,sQ,d2,gQ,eL2]|with_reducible refine wA ?_|clear hK K)
          refine aK eWi ?_;refine az.mk (i+1) (by omega) (by omega) ?_;rw [eS,mN];exact aO aj
         | none=>
          rw [hp] at AT eS;simp only at AT eS
          have eLr:c9 rr++[[AV.aC 1 ((gI labs rows part i).map encI) (labs.length+1)]]=c9 (rr++[gI labs rows part i]):=by
           rw [c9,c9,V7, <- lK];rfl
          refine ab.JK AT 8 rfl (by simp only [go_sem,Nat.reduceLT,Nat.reduceLeDiff,Nat.reduceEqDiff,Nat.lt_add_one,Nat.zero_lt_one,and_self,lk,dx]) rfl ?_
          repeat (first|(with_reducible first|refine aA.up ?_|refine fun (K:AK) hK=> ?_|(refine hK _ ?_;clear hK K))|simp only [go_sem,eL0,g0,Wz,WA,sQ,gQ,eL2]|with_reducible refine wA ?_|clear hK K)
          refine Ni eL2 gQ sR eLr ?_;refine aK eWi ?_;refine az.mk (i+1) (by omega) (by omega) ?_;rw [eS,mN];simp only [Ug,Uh,List.length_nil];exact aO aj
      ·have hin:i=n:=by replace h3:=bJ h3;omega
       rw [hin] at hRR l2;rw [hRR] at q4;simp only at q4;rw [zU l2]
       have lNN:(aI nn).length=n:=by rw [aI,U2];exact l2
       repeat ((fail_if_success (with_reducible refine bB (i:=27) ?_));first|(with_reducible first|refine aA.up ?_|refine fun (K:AK) hK=> ?_|(refine hK _ ?_;clear hK K))|simp only [go_sem]|with_reducible refine wA ?_|clear hK K)
       refine bb (gO 10 1 rfl rfl rfl lNN) (by kernel_rfl) ?_;simp only [VR,VQ]
       have next:(¬(rr.length=many∧(round==0)=false))->AV.aC 1 (aI (nw labs rows (n+1 - (round+1)) nn rr.length (round+1==0))) n=rv:=fun hno=>by
        rw [if_neg hno] at q4;rw [show n+1 - (round+1)=n - round by omega,show (round+1==0)=false by simp];exact q4
       by_cases hm:rr.length=many
       ·have d1:((rr.length:Int)==(many:Int))=true:=by simp [hm]
        by_cases hr0:0<round
        ·have d2:decide ((0:Int)<(round:Int))=true:=decide_eq_true (by omega);rw [if_pos ⟨hm,by simp;omega⟩] at q4
         ((iterate 4 revert K);refine CM d1 d2 ?_)
         rw [<-q4];exact bH.uD (gj _ _)
        ·have d2:decide ((0:Int)<(round:Int))=false:=decide_eq_false (by omega)
         have q5:=next fun q=>by have:=q.2;simp at this;omega
         ((iterate 4 revert K);refine CM d1 d2 ?_)
         refine aK eW2 ?_;refine az.mk (nn,rr.length,round+1) ⟨l2,by show rr.length<=n+1;omega,by show round+1<=n+1;omega,q5⟩ (by show n+1 - (round+1)<n+1 - round;omega) ?_;exact aO aj
         all_goals trace_state
       ·have d1:((rr.length:Int)==(many:Int))=false:=by simp [Int.natCast_inj,hm]
        have q5:=next fun q=>hm q.1
        ((iterate 4 revert K);refine u5 d1 ?_)
        refine aK eW2 ?_;refine az.mk (nn,rr.length,round+1) ⟨l2,by show rr.length<=n+1;omega,by show round+1<=n+1;omega,q5⟩ (by show n+1 - (round+1)<n+1 - round;omega) ?_;exact aO aj
        all_goals trace_state
    ·have hrn:round=n+1:=by replace h2:=bJ h2;omega
     rw [hrn,Nat.sub_self,nw] at q4
     ((iterate 3 revert K);refine au ?_)
     rw [<-q4];exact bH.uD (gj _ _)
end Go.Proofs.YtfflpdekojlnmaaGreatDoor
