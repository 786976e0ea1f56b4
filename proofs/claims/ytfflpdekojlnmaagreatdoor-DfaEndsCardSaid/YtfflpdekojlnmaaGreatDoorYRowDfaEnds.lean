/- 'kinescopelaw09.DfaEnds': for every input the call returns true and all read behind it as before. Three tables (two of math/bits, one of internal/strconv) are laid, and tied to the program's text. No condition beyond the row's own: the reading ends, and no text or slice that came in is longer than the form's reach. -/
import Derived.Test.YtfflpdekojlnmaaGreatDoorYOnceC
import Derived.Test.YtfflpdekojlnmaaGreatDoorYLawDfaW
import Derived.Test.YtfflpdekojlnmaaGreatDoorYMat
import Derived.Test.YtfflpdekojlnmaaGreatDoorYDfaV
import Derived.Test.YtfflpdekojlnmaaGreatDoorYRef08
import Derived.Test.YtfflpdekojlnmaaGreatDoorYDfaA
import Derived.Test.YtfflpdekojlnmaaGreatDoorRows
import Derived.Test.YtfflpdekojlnmaaGreatDoorCards
import Derived.Test.YtfflpdekojlnmaaGreatDoorTie
import Derived.WalkKit
import Derived.ProofKit
import Derived.OpenShut
import Derived.Stop.Joined
import Derived.SevenTiedAt
import Derived.Carry
set_option linter.unusedSimpArgs false
set_option linter.unusedVariables false
set_option maxRecDepth 100000
set_option maxHeartbeats 16000000
open Bool renaming eq_false_or_eq_true -> YF, not_true -> ZM, not_false -> ZN, and_self -> YY, and_true -> Yb, true_and -> Yg
open List renaming getElem?_replicate -> Xz, getElem?_eq_some_iff -> WT, foldl_cons -> Yw, length_cons -> WY, length_nil -> WS, replicate_succ -> YB, replicate_zero -> YC, cons_append -> Y1, nil_append -> YR, foldl_nil -> Yx
open Nat renaming lt_add_one -> Zi, zero_lt_one -> Zj
open Option.some renaming inj -> WL
namespace Go.Proofs.YtfflpdekojlnmaaGreatDoor
open Go.RowKit
section
theorem ot (x y:Ex) (w:List ByteArray) (kx:x.ok) (ky:y.ok):aq Tryz.prog 3 [.agg (aM x), .agg (aM y),aS w] (.v (.bool true)):=by
 have W:=qM;have NX:=oK x kx;have NY:=oK y ky;have ZX:=rk x 0 (by omega);have ZY:=rk y 0 (by omega);have bx:=zn x 0 (by omega);have bY:=zn y 0 (by omega)
 have eS:IntKind.i64.wrap (((sX x 0:Nat):Int)+((sX y 0:Nat):Int))=((sX x 0+sX y 0:Nat):Int):=by rw [bH (by omega) (by omega)];omega
 rcases YF (decide (300<((sX x 0+sX y 0:Nat):Int))) with hz|hz
 ·simp only [aA,aS] at *;refine gE Tryz.func3 Tryz.ntmps3 Tryz.results3 ?_
  (refine bU ?_;intro K hK K hK K hK)
  refine aE.one ZX ?_
  ((iterate 3 revert K);refine bU ?_;intro K hK K hK K hK)
  refine aE.one ZY ?_
  ((iterate 3 revert K);refine Jz hz eS ?_;intro K hK K hK K hK)
  refine aa.one W ?_
  ((iterate 3 revert K);exact r8)
 rcases YF (decide (40<((w.length:Nat):Int))) with hz2|hz2
 ·simp only [aA,aS] at *;refine gE Tryz.func3 Tryz.ntmps3 Tryz.results3 ?_
  (refine bU ?_;intro K hK K hK K hK)
  refine aE.one ZX ?_
  ((iterate 3 revert K);refine bU ?_;intro K hK K hK K hK)
  refine aE.one ZY ?_
  ((iterate 3 revert K);refine uf hz hz2 eS ?_;intro K hK K hK K hK)
  refine aa.one W ?_
  ((iterate 3 revert K);exact r8)
 have hz':=of_decide_eq_false hz
 have hw:w.length<=1000000:=by have:=of_decide_eq_false hz2;omega
 obtain ⟨p1,p2⟩:=nh kx (by omega);obtain ⟨r1,r2⟩:=nh ky (by omega);have MX:=y7 x p1 p2;have MY:=y7 y r1 r2;have L:=Bb w hw;have KE:=AQ w hw;rw [uR] at NX NY;rw [DQ] at MX MY
 have dE: ∀e:Int,e=2∨e=11->(e !=0)=true:=fun e h=>by rcases h with rfl|rfl<;>rfl
 
 obtain ⟨c,d,f,NY,MY,wc,wd,hf⟩: ∃c d:AV, ∃f:Int,aq Tryz.prog 9 [.agg (aM y)] (.cI [c, .v (.int .i64 f)])∧aq Tryz.prog 10 [.agg (aM y)] (.cI [d, .v (.int .i64 f)])∧(∀n,c.wf n=true)∧(∀n,d.wf n=true)∧((f !=0)=true∨(f=0∧ ∃B,FN B∧c = .vp (b4 B)∧d = .vp (iK B))):=by
  cases hy:gU y (bR y) with
  | inr f=>rw [hy] at NY MY;exact ⟨_,_,f,NY,MY,fun _=>rfl,fun _=>rfl, .inl (dE f (qL hy))⟩
  | inl B=>rw [hy] at NY MY;exact ⟨_,_,0,NY,MY,fun n=>by rw [AV.wf];exact gK n B,fun n=>by rw [AV.wf];exact qx n B, .inr ⟨rfl,B,(pB hy).2.2.2,rfl,rfl⟩⟩
 cases hx:gU x (bR x) with
 | inr e=>
  have d1:=dE e (qL hx);rw [hx] at NX MX;simp only at NX MX;clear hf;simp only [aA,aS] at *;refine gE Tryz.func3 Tryz.ntmps3 Tryz.results3 ?_
  (refine bU ?_;intro K hK K hK K hK)
  refine aE.one ZX ?_
  ((iterate 3 revert K);refine bU ?_;intro K hK K hK K hK)
  refine aE.one ZY ?_
  ((iterate 3 revert K);refine uf hz hz2 eS ?_;intro K hK K hK)
  refine aa.one NX ?_
  (revert K;revert K;refine bU ?_;intro K hK K hK)
  refine aa.one NY ?_
  (revert K;revert K;refine bU ?_;intro K hK K hK)
  refine aa.one MX ?_
  (revert K;revert K;refine bU ?_;intro K hK K hK)
  refine aa.one MY ?_
  repeat (first|(with_reducible first|refine aw.up ?_|refine fun (K:AK) hK=> ?_|refine wD ?_|(refine hK _ ?_;clear hK K))|simp only [go_sem,d1,bne_self_eq_false,beq_self_eq_true,ZM,ZN,Go.undef]|with_reducible refine wA ?_|clear hK K)
  refine aa.one W ?_
  ((iterate 3 revert K);exact r8)
 | inl A=>
  have LA:=(pB hx).2.2.2;rw [hx] at NX MX;simp only at NX MX;have wa: ∀m,aN m (b4 A)=true:=fun m=>gK m A;have wr: ∀m,aN m (iK A)=true:=fun m=>qx m A;have C1:=MO A LA.toAOk w hw;have C2:=Oa LA w hw
  rcases hf with d1|⟨rfl,B,LB,rfl,rfl⟩
  ·clear C1 C2;generalize b4 A=nv at *;generalize iK A=rv at *;simp only [aA,aS] at *;refine gE Tryz.func3 Tryz.ntmps3 Tryz.results3 ?_
   (refine bU ?_;intro K hK K hK K hK)
   refine aE.one ZX ?_
   ((iterate 3 revert K);refine bU ?_;intro K hK K hK K hK)
   refine aE.one ZY ?_
   ((iterate 3 revert K);refine uf hz hz2 eS ?_;intro K hK K hK)
   refine aa.one NX ?_
   (revert K;revert K;refine bU ?_;intro K hK K hK)
   refine aa.one NY ?_
   (revert K;revert K;refine bU ?_;intro K hK K hK)
   refine aa.one MX ?_
   (revert K;revert K;refine bU ?_;intro K hK K hK)
   refine aa.one MY ?_
   repeat (first|(with_reducible first|refine aw.up ?_|refine fun (K:AK) hK=> ?_|refine wD ?_|(refine hK _ ?_;clear hK K))|simp only [go_sem,d1,bne_self_eq_false,beq_self_eq_true,ZM,ZN,Go.undef]|with_reducible refine wA ?_|clear hK K)
   refine aa.one W ?_
   ((iterate 3 revert K);exact r8)
  ·have S1:=yz LA LB;have S2:=N9 LA LB;have C1':=C1.le (args':=[.vp (b4 A), .aB 1 (w.map encS++marksOf jc) w.length]) (by simp only [aN,AV.wf,wa,gJ,aO,rN,YY]) (.cons (.refl _) (.cons (Le.rows (fun x _=>mi.refl _)) .nil));clear C1;have wb: ∀m,aN m (b4 B)=true:=fun m=>gK m B;have wrb: ∀m,aN m (iK B)=true:=fun m=>qx m B;generalize bO A.rows A.ends 0 w=tk at *;generalize nc A B=sm at *;generalize b4 A=nv at *;generalize iK A=rv at *;generalize b4 B=nb at *;generalize iK B=rb at *;simp only [aA,aS] at *;refine gE Tryz.func3 Tryz.ntmps3 Tryz.results3 ?_
   (refine bU ?_;intro K hK K hK K hK)
   refine aE.one ZX ?_
   ((iterate 3 revert K);refine bU ?_;intro K hK K hK K hK)
   refine aE.one ZY ?_
   ((iterate 3 revert K);refine uf hz hz2 eS ?_;intro K hK K hK)
   refine aa.one NX ?_
   (revert K;revert K;refine bU ?_;intro K hK K hK)
   refine aa.one NY ?_
   (revert K;revert K;refine bU ?_;intro K hK K hK)
   refine aa.one MX ?_
   (revert K;revert K;refine bU ?_;intro K hK K hK)
   refine aa.one MY ?_
   repeat (first|(with_reducible first|refine aw.up ?_|refine fun (K:AK) hK=> ?_|refine wD ?_|(refine hK _ ?_;clear hK K))|simp only [go_sem,bne_self_eq_false,beq_self_eq_true,ZM,ZN,Go.undef]|with_reducible refine wA ?_|clear hK K)
   refine aa.one L ?_
   repeat (first|(with_reducible first|refine aw.up ?_|refine fun (K:AK) hK=> ?_|refine wD ?_|(refine hK _ ?_;clear hK K))|simp only [go_sem,bne_self_eq_false,beq_self_eq_true,ZM,ZN,Go.undef]|with_reducible refine wA ?_|clear hK K)
   refine aa.one C1' ?_
   repeat (first|(with_reducible first|refine aw.up ?_|refine fun (K:AK) hK=> ?_|refine wD ?_|(refine hK _ ?_;clear hK K))|simp only [go_sem,bne_self_eq_false,beq_self_eq_true,ZM,ZN,Go.undef]|with_reducible refine wA ?_|clear hK K)
   refine aa.one C2 ?_
   repeat (first|(with_reducible first|refine aw.up ?_|refine fun (K:AK) hK=> ?_|refine wD ?_|(refine hK _ ?_;clear hK K))|simp only [go_sem,bne_self_eq_false,beq_self_eq_true,ZM,ZN,Go.undef]|with_reducible refine wA ?_|clear hK K)
   refine aa.one S1 ?_
   repeat (first|(with_reducible first|refine aw.up ?_|refine fun (K:AK) hK=> ?_|refine wD ?_|(refine hK _ ?_;clear hK K))|simp only [go_sem,bne_self_eq_false,beq_self_eq_true,ZM,ZN,Go.undef]|with_reducible refine wA ?_|clear hK K)
   refine aa.one S2 ?_
   repeat (first|(with_reducible first|refine aw.up ?_|refine fun (K:AK) hK=> ?_|refine wD ?_|(refine hK _ ?_;clear hK K))|simp only [go_sem,bne_self_eq_false,beq_self_eq_true,ZM,ZN,Go.undef]|with_reducible refine wA ?_|clear hK K)
   refine aa.one KE ?_
   repeat (first|(with_reducible first|refine aw.up ?_|refine fun (K:AK) hK=> ?_|refine wD ?_|(refine hK _ ?_;clear hK K))|simp only [go_sem,bne_self_eq_false,beq_self_eq_true,ZM,ZN,Go.undef]|with_reducible refine wA ?_|clear hK K)
   refine aa.one W ?_
   (revert K;revert K;exact r8)
def sb (o:List (Option ab)):List (Option ab):=List.replicate o.length none
theorem rm {o:List (Option ab)} {id:Nat} {x:Option ab} (h:(sb o)[id]? = some x):x=none:=by
 rw [sb,Xz] at h
 split at h
 ·cases h;rfl
 ·cases h
theorem xw (nu:Nat->Nat->Value) (o:List (Option ab)) (b:Nat): ¬owned nu (sb o) b:=fun ⟨id,ob,h,_⟩=>by
 have:=rm h;cases this
theorem DR (nu:Nat->Nat->Value) (o:List (Option ab)) (w:World):bK nu o w nu (sb o) w:=by
 refine ⟨rfl,rfl,rfl,Nat.le_refl _,fun id len h=>⟨?_,rfl⟩,fun b _ _=>⟨rfl,xw _ _ _⟩⟩;obtain ⟨ob,h1,_⟩:=h;have hl:=(WT.1 h1).1;exact ⟨none,by rw [sb,Xz,if_pos hl],fun x e=>by cases e⟩
theorem Ks (nu:Nat->Nat->Value) (o:List (Option ab)) (w:World):bK nu [] w nu (sb o) w:=
 ⟨rfl,rfl,rfl,Nat.le_refl _,fun id len h=>by obtain ⟨x,k,_⟩:=h;simp at k,fun b _ _=>⟨rfl,xw _ _ _⟩⟩
def RK (o:List (Option ab)) (t:List AV):List (Nat×AV)->Prop
 | []=>True
 | q :: l=>(∃c,t[q.1]? = some c∧bI o c q.2)∧RK o t l
theorem B5: ∀(l:List (Nat×AV)) (t:List AV) (i:Nat) (c:AV),(l.foldl (fun t p=>t.set p.1 p.2) t)[i]? = some c->t[i]? = some c∨(i,c)∈l
 | [],t,i,c,h=> .inl h
 | q :: l,t,i,c,h=>by
  rw [Yw] at h
  rcases B5 l _ i c h with h|h
  ·by_cases e:q.1=i
   ·subst e;have hl:=(WT.1 h).1;rw [List.length_set] at hl;rw [List.getElem?_set_self hl] at h;cases h;exact .inr (List.mem_cons_self ..)
   ·rw [List.getElem?_set_ne e] at h;exact .inl h
  ·exact .inr (List.mem_cons_of_mem _ h)
theorem B6: ∀(l:List (Nat×AV)) (t:List AV),(l.foldl (fun t p=>t.set p.1 p.2) t).length=t.length
 | [],t=>rfl
 | q :: l,t=>by rw [Yw,B6 l,List.length_set]
theorem RK.mem {o:List (Option ab)} {t:List AV}: ∀ {l:List (Nat×AV)},RK o t l-> ∀ {i:Nat} {c:AV},(i,c)∈l-> ∃c0,t[i]? = some c0∧bI o c0 c
 | [],_,i,c,h=>by cases h
 | q :: l,hu,i,c,h=>by
  rcases List.mem_cons.1 h with h|h
  ·cases h;exact hu.1
  ·exact RK.mem hu.2 h
theorem Lu {s:AS} (N:Nat) (upd:List (Nat×AV)) (hN:s.t.length=N) (h:RK s.o s.t upd):x8 s (AS.mk (dV N upd) (sb s.o) s.y):=by
 intro f D nu a w hs;have hm:=DR nu s.o w
 refine ⟨nu,hm,rfl,⟨fun id ob h1=>(by cases rm h1),hs.ro.up,fun id id' ob ob' b h1=>(by cases rm h1),hs.ro.gl.mono hm (fun _ _ h=>h)⟩,⟨?_,fun i c x h1 h2=> ?_⟩,hs.jj⟩
 ·rw [dV,B6,List.length_replicate, <- hN];exact hs.tm.len
 ·rcases B5 upd _ i c h1 with h1|h1
  ·rw [Xz] at h1
   split at h1
   ·cases h1;exact .undef _
   ·cases h1
  ·obtain ⟨c0,k1,k2⟩:=h.mem h1;exact (k2 D nu w x hs.ro (hs.tm.at' i c0 x k1 h2)).mono (Ks nu s.o w) (fun _ _ h=>h)
def RL (o:List (Option ab)):List (List AV)->List (List AV)->Prop
 | [],[]=>True
 | a :: l,b :: m=>zM o a b∧RL o l m
 | _,_=>False
def OG:List AV:=[.v (.slice none 0 0), .v (.slice none 0 0), .v (.slice none 0 0)]
def Rc:oe:=⟨[[(ta,1)],[]],[false,true],[ta]⟩
theorem SC:bR (oq ta)=[ta]:=sO (by simp [iR]) (fun s=>by rw [show aD (oq ta)=[ta] by kernel_rfl])
theorem Uw:gU (oq ta) (bR (oq ta)) = .inl Rc:=by rw [SC];kernel_rfl
theorem rP:aq Tryz.prog 28 [.vp OG] (.v (.int .i64 0)):=by
 simp only [OG];refine gE Tryz.func28 Tryz.ntmps28 Tryz.results28 ?_;exact pS
section
variable {p:AV} (hw: ∀n,p.wf n=true) (h:aq Tryz.prog 28 [p] (.v (.int .i64 0)))
include hw h
theorem zF (s:ByteArray):aq Tryz.prog 30 [p, .v (.int .i64 0), .v (.string s)] (.cI [.v (.int .i64 0), .v (.bool false)]):=by
 (refine aq.enter Tryz.func30 rfl (by kernel_rfl) (by kernel_rfl) rfl (by simp only [go_sem,aN,AV.wf,YY,Yb,Yg,hw]) (by simp only [go_sem,aN,AV.wf,aO,YY,Yb,Yg,hw]) ?_;simp only [Tryz.ntmps30,Tryz.results30,WY,WS,Nat.reduceAdd,Nat.reduceSub,YB,YC,Y1,YR])
 (refine JI ?_;intro K hK K hK K hK)
 refine aa.one h ?_
 ((iterate 3 revert K);refine JI ?_)
 (refine gd.of 40 rfl ?_;simp only [go_sem])
theorem vP:aq Tryz.prog 29 [p, .v (.int .i64 0)] (.v (.bool false)):=by
 (refine aq.enter Tryz.func29 rfl (by kernel_rfl) (by kernel_rfl) rfl (by simp only [go_sem,aN,AV.wf,YY,Yb,Yg,hw]) (by simp only [go_sem,aN,AV.wf,aO,YY,Yb,Yg,hw]) ?_;simp only [Tryz.ntmps29,Tryz.results29,WY,WS,Nat.reduceAdd,Nat.reduceSub,YB,YC,Y1,YR])
 (refine JI ?_;intro K hK K hK)
 refine aa.one h ?_
 (revert K;revert K;exact Pa)
theorem zE {q:AV} (hq: ∀n,q.wf n=true) {m:Nat} (k:aq Tryz.prog 28 [q] (.v (.int .i64 m))):aq Tryz.prog 14 [p,q] (.v (.bool (m==0))):=by
 cases hm:(m==0)
 ·have f1:((0:Int)==(m:Int))=false:=by
   rw [beq_eq_false_iff_ne] at hm ⊢; omega
  have f2:((0:Int) !=(m:Int))=true:=by rw [bne,f1];rfl
  (refine aq.enter Tryz.func14 rfl (by kernel_rfl) (by kernel_rfl) rfl (by simp only [go_sem,aN,AV.wf,YY,Yb,Yg,hw,hq]) (by simp only [go_sem,aN,AV.wf,aO,YY,Yb,Yg,hw,hq]) ?_;simp only [Tryz.ntmps14,Tryz.results14,WY,WS,Nat.reduceAdd,Nat.reduceSub,YB,YC,Y1,YR])
  (refine au ?_;intro K hK K hK K hK)
  refine aa.one h ?_
  ((iterate 3 revert K);refine au ?_;intro K hK K hK K hK)
  refine aa.one k ?_
  repeat (first|(with_reducible first|refine aw.up ?_|refine fun (K:AK) hK=> ?_|(refine hK _ ?_;clear hK K))|simp only [go_sem,f1,f2,ZN]|with_reducible refine wA ?_|clear hK K)
 ·have hm0:m=0:=by simpa using hm
  subst hm0;have f1:((0:Int) !=((0:Nat):Int))=false:=rfl
  (refine aq.enter Tryz.func14 rfl (by kernel_rfl) (by kernel_rfl) rfl (by simp only [go_sem,aN,AV.wf,YY,Yb,Yg,hw,hq]) (by simp only [go_sem,aN,AV.wf,aO,YY,Yb,Yg,hw,hq]) ?_;simp only [Tryz.ntmps14,Tryz.results14,WY,WS,Nat.reduceAdd,Nat.reduceSub,YB,YC,Y1,YR])
  (refine au ?_;intro K hK K hK K hK)
  refine aa.one h ?_
  ((iterate 3 revert K);refine au ?_;intro K hK K hK K hK)
  refine aa.one k ?_
  ((iterate 3 revert K);refine aP f1 ?_;intro K hK K hK K hK)
  refine aa.one h ?_
  ((iterate 3 revert K);refine au ?_;intro K hK)
  refine bf (ι:=Nat) 14 (fun _=>[]) (fun _=>0) (fun _=>True) 0 trivial ?_ ?_
  ·refine bl ?_ ai
   all_goals exact ⟨.inr (hw 0), .inr (hq 0), .inr (hw 0), .inr (hq 0), .inr (hw 0)⟩
  ·intro i _ K hK
   (revert K;revert K;exact pR)
theorem LN {q:AV} (hq: ∀n,q.wf n=true) {m:Nat} (hm:0<m) (k:aq Tryz.prog 28 [q] (.v (.int .i64 m))):aq Tryz.prog 14 [q,p] (.v (.bool false)):=by
 have f1:((m:Int)==0)=false:=by rw [beq_eq_false_iff_ne];omega
 have f2:((m:Int) !=0)=true:=by rw [bne,f1];rfl
 (refine aq.enter Tryz.func14 rfl (by kernel_rfl) (by kernel_rfl) rfl (by simp only [go_sem,aN,AV.wf,YY,Yb,Yg,hw,hq]) (by simp only [go_sem,aN,AV.wf,aO,YY,Yb,Yg,hw,hq]) ?_;simp only [Tryz.ntmps14,Tryz.results14,WY,WS,Nat.reduceAdd,Nat.reduceSub,YB,YC,Y1,YR])
 (refine bq ?_;intro K hK K hK K hK)
 refine aa.one k ?_
 ((iterate 3 revert K);refine bq ?_;intro K hK K hK K hK)
 refine aa.one h ?_
 repeat (first|(with_reducible first|refine aw.up ?_|refine fun (K:AK) hK=> ?_|(refine hK _ ?_;clear hK K))|simp only [go_sem,f1,f2,ZN]|clear hK K)
end
theorem LM:aq Tryz.prog 19 [.v (.pointer none)] (.v (.slice none 0 0)):=by
 refine gE Tryz.func19 Tryz.ntmps19 Tryz.results19 ?_;exact pS
theorem OH:aq Tryz.prog 19 [.vp OG] (.aB 1 [] 0):=by
 have C:=OT.le (args':=[.v (.slice none 0 0)]) rfl (.cons (.nil 1) .nil);simp only [OG];refine gE Tryz.func19 Tryz.ntmps19 Tryz.results19 ?_
 (refine bq ?_;intro K hK K hK)
 refine aa.one C ?_
 (revert K;revert K;refine bq ?_)
 exact gd.aB rfl
theorem LP:aq Tryz.prog 12 [.v (.pointer none), .v (.slice none 0 0)] (.v (.bool false)):=by
 have T:=vP (p:= .v (.pointer none)) (fun _=>rfl) j5;refine gE Tryz.func12 Tryz.ntmps12 Tryz.results12 ?_
 (refine au ?_;intro K hK)
 refine bf (ι:=Nat) 12 (fun _=>[]) (fun _=>0) (fun _=>True) 0 trivial ?_ ?_
 ·exact aR ai
  all_goals rfl
 ·intro i _ K hK
  (revert K;revert K;refine au ?_;intro K hK K hK)
  refine aa.one T ?_
  (revert K;revert K;exact pR)
theorem OI (s:ByteArray):aq Tryz.prog 12 [.vp OG, .aB 1 [[.v (.string s)]] 1] (.v (.bool false)):=by
 have S:=zF (p:= .vp OG) (fun _=>rfl) rP s;simp only [OG] at S ⊢;have f1:decide ((0:Int)<((1:Nat):Int))=true:=rfl;refine gE Tryz.func12 Tryz.ntmps12 Tryz.results12 ?_
 (refine au ?_;intro K hK)
 refine bf (ι:=Nat) 12 (fun _=>[]) (fun _=>0) (fun _=>True) 0 trivial ?_ ?_
 ·exact aR ai
  all_goals rfl
 ·intro i _ K hK
  repeat (first|(with_reducible first|refine aw.up ?_|refine fun (K:AK) hK=> ?_|(refine hK _ ?_;clear hK K))|simp only [go_sem,f1]|with_reducible refine wA ?_|clear hK K)
  refine aa.one S ?_
  ((iterate 5 revert K);exact pR)
theorem Ku:aq Tryz.prog 26 [] (.v (.bool true)):=by
 have L:=cU ⟨#[97]⟩
 have okL:(oq ta).ok:=by simp only [oq,ta,Ex.ok,jb];exact ⟨by unfold ph;decide,trivial⟩
 have NB:=(oK (oq ta) okL).le (args':=[.agg [.v (.int .i64 1), .v (.string ⟨#[97]⟩), .v (.slice none 0 0)]]) rfl (.cons (mi.agg (by rw [oq,aA];exact .cons (.refl _) (.cons (.refl _) (.cons (.nil 3) .nil)))) .nil);rw [uR,Uw] at NB;simp only at NB
 have wv: ∀n,(AV.vp (b4 Rc)).wf n=true:=fun n=>by rw [AV.wf];exact gK n Rc
 have LB:aq Tryz.prog 28 [.vp (b4 Rc)] (.v (.int .i64 (2:Nat))):=mH Rc;have w0: ∀n,(AV.v (.pointer none)).wf n=true:=fun n=>rfl;have wz: ∀n,(AV.vp OG).wf n=true:=fun n=>rfl;have S0:=zF w0 j5 ⟨#[97]⟩;have S1:=zF wz rP ⟨#[97]⟩;have T0:=vP w0 j5;have T1:=vP wz rP;have W0:=LP;have W1:=OI ⟨#[97]⟩;have B0:=LM;have B1:=OH;have M0:=zE w0 j5 w0 (m:=0) j5;have M1:=zE w0 j5 wz (m:=0) rP;have M2:=zE w0 j5 wv LB;have M3:=LN wz rP wv (by decide) LB;have D0:=j5;have D1:=rP;simp only [OG] at S1 T1 W1 B1 M1 M3 D1;simp only [show ((0:Nat)==0)=true from rfl,show ((2:Nat)==0)=false from rfl] at M0 M1 M2;generalize b4 Rc=nv at *;have e0:(IntKind.i64.wrap (0+0)==0)=true:=rfl;have e1:(IntKind.i64.wrap (0+((0:Nat):Int))==0)=true:=rfl;refine gE Tryz.func26 Tryz.ntmps26 Tryz.results26 ?_
 repeat ((fail_if_success (with_reducible refine bm (i:=3) ?_));first|(with_reducible first|refine aw.up ?_|refine fun (K:AK) hK=> ?_|(refine hK _ ?_;clear hK K))|simp only [go_sem]|with_reducible refine wA ?_|clear hK K)
 refine a7 (Lu 96 [(0, .v (.bool false)),(1, .v (.pointer none)),(2, .vp [.v (.slice none 0 0), .v (.slice none 0 0), .v (.slice none 0 0)])] rfl ⟨⟨_,rfl,bI.v _⟩,⟨_,rfl,bI.v _⟩,⟨_,rfl,bI.of 40 (by rfl) (by simp only [go_sem,Nat.reduceLT,Nat.reduceLeDiff,Nat.reduceEqDiff,Nat.lt_add_one,Nat.zero_lt_one,and_self])⟩,trivial⟩) (by kernel_rfl) ?_;simp only [sb,WY,WS,Nat.reduceAdd,YB,YC];simp only [dV,Yw,List.foldl_nil,YB,YC,go_sem]
 (revert K;refine au ?_;intro K hK K hK)
 refine aa.one L ?_
 (revert K;revert K;refine au ?_;intro K hK K hK)
 refine aa.one NB ?_
 (revert K;revert K;refine au ?_;intro K hK K hK)
 refine aa.one S0 ?_
 (revert K;revert K;refine au ?_;intro K hK K hK)
 refine aa.one S1 ?_
 (revert K;revert K;refine ic e1 ?_;intro K hK)
 simp only [List.append_eq,Y1,YR]
 (revert K;refine ic e1 ?_;intro K hK K hK)
 refine aa.one D0 ?_
 (revert K;revert K;refine ic e1 ?_;intro K hK K hK)
 refine aa.one D1 ?_
 (revert K;revert K;refine ic e1 ?_;intro K hK K hK)
 refine aa.one T0 ?_
 (revert K;revert K;refine ic e1 ?_;intro K hK K hK)
 refine aa.one T1 ?_
 (revert K;revert K;refine ic e1 ?_;intro K hK K hK)
 refine aa.one B0 ?_
 (revert K;revert K;refine ic e1 ?_;intro K hK K hK)
 refine aa.one B1 ?_
 (revert K;revert K;refine ic e1 ?_;intro K hK K hK)
 refine aa.one W0 ?_
 (revert K;revert K;refine ic e1 ?_;intro K hK K hK)
 refine aa.GD W1 8 rfl (by simp only [go_sem,Nat.reduceLT,Nat.reduceLeDiff,Nat.reduceEqDiff,Nat.lt_add_one,Nat.zero_lt_one,and_self]) rfl ?_
 (revert K;revert K;refine ic e1 ?_;intro K hK K hK)
 refine aa.one M0 ?_
 (revert K;revert K;refine ic e1 ?_;intro K hK K hK)
 refine aa.one M1 ?_
 (revert K;revert K;refine ic e1 ?_;intro K hK K hK)
 refine aa.one M2 ?_
 (revert K;revert K;refine ic e1 ?_;intro K hK K hK)
 refine aa.one M3 ?_
 (revert K;revert K;exact Qf e1)
end
def LR (n:Nat):ByteArray:=if n % 2=0 then ⟨#[97]⟩ else ⟨#[98]⟩
def mP (s:ByteArray):List AV:=[.v (.int .i64 1), .v (.string s), .v (.slice none 0 0)]
def mr (k:Int) (kids:List (List AV)):List AV:=[.v (.int .i64 k), .v (.string ⟨#[]⟩), .aB 3 kids kids.length]
def vw:Nat->Nat->List AV
 | 0,n=>mP (LR n)
 | d+1,n=>if n % 8<2 then mP (LR n) else
  if n % 8=2 then mr 2 [vw d (n / 8),vw d (n / 64)] else
  if n % 8=3 then mr 2 [mr 4 [mr 3 [mP ⟨#[97]⟩,mP ⟨#[98]⟩]],vw d (n / 8),vw d (n / 64)] else
  if n % 8=4 then mr 3 [vw d (n / 8),vw d (n / 64)] else
  if n % 8=5 then mr 4 [vw d (n / 8)] else
  if n % 8=6 then mr 5 [vw d (n / 8)] else mr 6 [vw d (n / 8)]
def sc (k:Int) (kids:List Ex):Ex:= .mk k ⟨#[]⟩ kids
def Cl:Nat->Nat->Ex
 | 0,n=>oq (LR n)
 | d+1,n=>if n % 8<2 then oq (LR n) else
  if n % 8=2 then sc 2 [Cl d (n / 8),Cl d (n / 64)] else
  if n % 8=3 then sc 2 [sc 4 [sc 3 [oq ⟨#[97]⟩,oq ⟨#[98]⟩]],Cl d (n / 8),Cl d (n / 64)] else
  if n % 8=4 then sc 3 [Cl d (n / 8),Cl d (n / 64)] else
  if n % 8=5 then sc 4 [Cl d (n / 8)] else
  if n % 8=6 then sc 5 [Cl d (n / 8)] else sc 6 [Cl d (n / 8)]
theorem j9 (s:ByteArray):mi (mP s) (aM (oq s)):=by
 rw [oq,aA];exact .cons (.refl _) (.cons (.refl _) (.cons (.nil 3) .nil))
theorem uC (k:Int): ∀ {rows:List (List AV)} {kids:List Ex},rows.length=kids.length->(∀(i:Nat) r x,rows[i]? = some r->kids[i]? = some x->mi r (aM x))->mi (mr k rows) (aM (sc k kids)):=fun {rows kids} hl h=>by
 rw [sc,aA,mr];refine .cons (.refl _) (.cons (.refl _) (.cons ?_ .nil))
 have key: ∀(i:Nat) r r',rows[i]? = some r->(kids.map aM)[i]? = some r'->mi r r':=fun i r r' h1 h2=>by
  rw [List.getElem?_map] at h2
  cases hk:kids[i]? with
  | none=>rw [hk] at h2;cases h2
  | some x=>rw [hk] at h2;cases h2;exact h i r x h1 hk
 simp only [Ex.kids];rw [<-hl];exact .aB 3 _ _ _ (by simp [hl]) (by simp [hl]) (fun i r r' h1 h2=>(key i r r' h1 h2).1) (fun i j r r' c c' h1 h2 h3 h4=>(key i r r' h1 h2).2 j c c' h3 h4)
theorem uB (k:Int) {a:List AV} {x:Ex} (h:mi a (aM x)):mi (mr k [a]) (aM (sc k [x])):=uC k rfl fun i r y h1 h2=>by
 match i,h1,h2 with
 | 0,h1,h2=>cases h1;cases h2;exact h
 | i+1,h1,h2=>simp at h1
theorem yU (k:Int) {a b:List AV} {x y:Ex} (h:mi a (aM x)) (h2:mi b (aM y)):mi (mr k [a,b]) (aM (sc k [x,y])):=uC k rfl fun i r z h1 h3=>by
 match i,h1,h3 with
 | 0,h1,h3=>cases h1;cases h3;exact h
 | 1,h1,h3=>cases h1;cases h3;exact h2
 | i+2,h1,h3=>simp at h1
theorem Qj (k:Int) {a b c:List AV} {x y z:Ex} (h:mi a (aM x)) (h2:mi b (aM y)) (h3:mi c (aM z)):mi (mr k [a,b,c]) (aM (sc k [x,y,z])):=uC k rfl fun i r v h5 h6=>by
 match i,h5,h6 with
 | 0,h5,h6=>cases h5;cases h6;exact h
 | 1,h5,h6=>cases h5;cases h6;exact h2
 | 2,h5,h6=>cases h5;cases h6;exact h3
 | i+3,h5,h6=>simp at h5
theorem uD: ∀(d n:Nat),mi (vw d n) (aM (Cl d n))
 | 0,n=>j9 _
 | d+1,n=>by
  rw [vw,Cl];have h1:=uD d (n / 8);have h2:=uD d (n / 64)
  split
  ·exact j9 _
  split
  ·exact yU 2 h1 h2
  split
  ·exact Qj 2 (uB 4 (yU 3 (j9 _) (j9 _))) h1 h2
  split
  ·exact yU 3 h1 h2
  split
  ·exact uB 4 h1
  split
  ·exact uB 5 h1
  ·exact uB 6 h1
theorem OB (n:Nat) (s:ByteArray):aN n (mP s)=true:=rfl
theorem pb (n:Nat) (k:Int) (rows:List (List AV)) (h:bj n rows=true):aN n (mr k rows)=true:=by simp only [mr,aN,AV.wf,h,YY]
theorem nq (m:Nat): ∀(d n:Nat),aN m (vw d n)=true
 | 0,n=>rfl
 | d+1,n=>by
  have h1:=nq m d (n / 8);have h2:=nq m d (n / 64);rw [vw]
  (repeat' split)<;>first|rfl|exact pb _ _ _ (by simp only [bj,h1,h2,OB,pb,YY])
theorem IG (n:Nat):ph (LR n):=by unfold LR ph;split<;>decide
theorem mJ {s:ByteArray} (h:ph s):(oq s).ok:=by
 simp only [oq,Ex.ok,jb];exact ⟨h,trivial⟩
theorem o4 (k:Int) {l:List Ex} (h:jb l):(sc k l).ok:=by
 simp only [sc,Ex.ok];exact ⟨by unfold ph;decide,h⟩
theorem vz: ∀(d n:Nat),(Cl d n).ok
 | 0,n=>mJ (IG n)
 | d+1,n=>by
  have h1:=vz d (n / 8);have h2:=vz d (n / 64);have h3:(oq ⟨#[97]⟩).ok:=mJ (by unfold ph;decide);have h4:(oq ⟨#[98]⟩).ok:=mJ (by unfold ph;decide);rw [Cl]
  (repeat' split)<;>first|exact mJ (IG n)|(refine o4 _ ?_;simp only [jb];first|exact ⟨h1,trivial⟩|exact ⟨h1,h2,trivial⟩|exact ⟨o4 _ ⟨o4 _ ⟨h3,h4,trivial⟩,trivial⟩,h1,h2,trivial⟩)
theorem vI (n k:Nat):(n:Int).tmod (k:Int)=((n % k:Nat):Int):=(Int.ofNat_tmod n k).symm
theorem Fw (n k:Nat):(n:Int).tdiv (k:Int)=((n / k:Nat):Int):=(Int.ofNat_tdiv n k).symm
theorem IF (n:Nat):List.getD [[AV.v (.string ⟨#[97]⟩)],[.v (.string ⟨#[98]⟩)]] (n % 2) []=[.v (.string (LR n))]:=by
 unfold LR
 rcases Nat.mod_two_eq_zero_or_one n with h|h<;>rw [h]<;>rfl
theorem nQ: ∀(d n:Nat), ∃a b c,vw d n=[a,b,c]
 | 0,n=>⟨_,_,_,rfl⟩
 | d+1,n=>by
  rw [vw]
  (repeat' split)<;>exact ⟨_,_,_,rfl⟩
theorem zC {n:Nat} {a:List AV} (h:aN n a=true):bj n [a]=true:=by simp [bj,h]
theorem FD {n:Nat} {a b:List AV} (h:aN n a=true) (k:aN n b=true):bj n [a,b]=true:=by simp [bj,h,k]
theorem OF {n:Nat} {a b c:List AV} (h:aN n a=true) (k:aN n b=true) (h2:aN n c=true):bj n [a,b,c]=true:=by simp [bj,h,k,h2]
theorem rK: ∀(d n:Nat),d<=2->n<100000->aq Tryz.prog 22 [.v (.int .i64 n), .v (.int .i64 d)] (.agg (vw d n))
 | 0,n,_,hn=>by
  have L:=cU (LR n);have hd0:(((0:Nat):Int)==0)=true:=rfl;have eM:(n:Int).tmod 2=((n % 2:Nat):Int):=vI n 2;have eG:=IF n;simp only [vw,mP];refine gE Tryz.func22 Tryz.ntmps22 Tryz.results22 ?_
  repeat (first|(with_reducible first|refine aw.up ?_|refine fun (K:AK) hK=> ?_|refine wE ?_|refine wK ?_|refine wF ?_|(refine hK _ ?_;clear hK K))|simp only [go_sem,hd0,eM,eG,Go.undef]|with_reducible refine wA ?_|clear hK K)
  refine aa.one L ?_
  ((iterate 3 revert K);refine OZ hd0 eM eG ?_)
  (refine gd.of 40 rfl ?_;simp only [go_sem])
 | d+1,n,hd,hn=>by
  have hd0:(((d+1:Nat):Int)==0)=false:=beq_false_of_ne (by omega);have eM:(n:Int).tmod 8=((n % 8:Nat):Int):=vI n 8;have eM2:(n:Int).tmod 2=((n % 2:Nat):Int):=vI n 2;have eQ:(n:Int).tdiv 8=((n / 8:Nat):Int):=Fw n 8;have eQ2:(n:Int).tdiv 64=((n / 64:Nat):Int):=Fw n 64;have eG:=IF n
  have eW:IntKind.i64.wrap (((d+1:Nat):Int) - 1)=(d:Int):=by rw [bH (by omega) (by omega)];omega
  have L:=cU (LR n);have L3:=cU ⟨#[97]⟩;have L4:=cU ⟨#[98]⟩;have C1:=rK d (n / 8) (by omega) (by omega);have C2:=rK d (n / 64) (by omega) (by omega);have eWQ:IntKind.i64.wrap ((n / 8:Nat):Int)=((n / 8:Nat):Int):=bH (by omega) (by omega);have eWQ2:IntKind.i64.wrap ((n / 64:Nat):Int)=((n / 64:Nat):Int):=bH (by omega) (by omega);have w1:aN 0 (vw d (n / 8))=true:=nq 0 d (n / 8);have w2:aN 0 (vw d (n / 64))=true:=nq 0 d (n / 64);rw [vw];obtain ⟨p1,p2,p3,hx1⟩:=nQ d (n / 8);obtain ⟨r1,r2,r3,hx2⟩:=nQ d (n / 64);rw [hx1] at C1 w1 ⊢;rw [hx2] at C2 w2 ⊢
  obtain ⟨u1,u2,u3⟩:p1.wf 0=true∧p2.wf 0=true∧p3.wf 0=true:=by simpa [aN] using w1
  obtain ⟨v1,v2,v3⟩:r1.wf 0=true∧r2.wf 0=true∧r3.wf 0=true:=by simpa [aN] using w2
  by_cases h0:n % 8<2
  ·have g0:decide (((n % 8:Nat):Int)<2)=true:=decide_eq_true (by omega);rw [if_pos h0];simp only [mP];refine gE Tryz.func22 Tryz.ntmps22 Tryz.results22 ?_
   repeat (first|(with_reducible first|refine aw.up ?_|refine fun (K:AK) hK=> ?_|refine wE ?_|refine wK ?_|refine wF ?_|(refine hK _ ?_;clear hK K))|simp only [go_sem,hd0,eM,eM2,g0,eG,Go.undef]|with_reducible refine wA ?_|clear hK K)
   refine aa.one L ?_
   ((iterate 3 revert K);refine OZ hd0 eM eG ?_)
   (refine gd.of 40 rfl ?_;simp only [go_sem])
  have g0:decide (((n % 8:Nat):Int)<2)=false:=decide_eq_false (by omega);have G:=And.intro hd0 (And.intro eM (And.intro g0 (And.intro eQ (And.intro eQ2 (And.intro eW (And.intro eWQ (And.intro eWQ2 (And.intro u1 (And.intro u2 (And.intro u3 (And.intro v1 (And.intro v2 v3))))))))))));rw [if_neg h0]
  by_cases h2:n % 8=2
  ·rw [if_pos h2];have q2:(((n % 8:Nat):Int)==2)=true:=beq_iff_eq.2 (by omega);have q3:(((n % 8:Nat):Int)==3)=false:=beq_false_of_ne (by omega);have q4:(((n % 8:Nat):Int)==4)=false:=beq_false_of_ne (by omega);have q5:(((n % 8:Nat):Int)==5)=false:=beq_false_of_ne (by omega);have q6:(((n % 8:Nat):Int)==6)=false:=beq_false_of_ne (by omega);have Q:=And.intro q2 (And.intro q3 (And.intro q4 (And.intro q5 q6)));simp only [mr];have O:=dn 2 [[p1,p2,p3],[r1,r2,r3]] 2 (FD w1 w2)
   (refine aq.enter Tryz.func22 rfl (by kernel_rfl) (by kernel_rfl) rfl (by simp only [go_sem,aN,AV.wf,YY,Yb,Yg,w1,w2,u1,u2,u3,v1,v2,v3,bj]) (by simp only [go_sem,aN,AV.wf,aO,YY,Yb,Yg,w1,w2,u1,u2,u3,v1,v2,v3,bj]) ?_;simp only [Tryz.ntmps22,Tryz.results22,WY,WS,Nat.reduceAdd,Nat.reduceSub,YB,YC,Y1,YR])
   repeat (first|(with_reducible first|refine aw.up ?_|refine fun (K:AK) hK=> ?_|refine wE ?_|refine wK ?_|refine wF ?_|(refine hK _ ?_;clear hK K))|simp only [go_sem,G,Q,Go.undef]|with_reducible refine wA ?_|clear hK K)
   refine aa.one C1 ?_
   repeat (first|(with_reducible first|refine aw.up ?_|refine fun (K:AK) hK=> ?_|refine wE ?_|refine wK ?_|refine wF ?_|(refine hK _ ?_;clear hK K))|simp only [go_sem,G,Q,Go.undef]|with_reducible refine wA ?_|clear hK K)
   refine aa.one C2 ?_
   repeat (first|(with_reducible first|refine aw.up ?_|refine fun (K:AK) hK=> ?_|refine wE ?_|refine wK ?_|refine wF ?_|(refine hK _ ?_;clear hK K))|simp only [go_sem,G,Q,Go.undef]|with_reducible refine wA ?_|clear hK K)
   refine aa.q7 O rfl (by simp only [go_sem,Nat.reduceLT,Nat.reduceLeDiff,Nat.reduceEqDiff,Zi,Zj,and_self,u1,u2,u3,v1,v2,v3,bj,aN]) ?_
   repeat (first|(with_reducible first|refine aw.up ?_|refine fun (K:AK) hK=> ?_|refine wE ?_|refine wK ?_|refine wF ?_|(refine hK _ ?_;clear hK K))|simp only [go_sem,G,Q,Go.undef]|with_reducible refine wA ?_|clear hK K)
   refine gd.of 40 rfl ?_;simp only [go_sem,bj,aN,AV.wf,u1,u2,u3,v1,v2,v3,YY]
  rw [if_neg h2]
  by_cases h3:n % 8=3
  ·rw [if_pos h3];have q2:(((n % 8:Nat):Int)==2)=false:=beq_false_of_ne (by omega);have q3:(((n % 8:Nat):Int)==3)=true:=beq_iff_eq.2 (by omega);have q4:(((n % 8:Nat):Int)==4)=false:=beq_false_of_ne (by omega);have q5:(((n % 8:Nat):Int)==5)=false:=beq_false_of_ne (by omega);have q6:(((n % 8:Nat):Int)==6)=false:=beq_false_of_ne (by omega);have Q:=And.intro q2 (And.intro q3 (And.intro q4 (And.intro q5 q6)));simp only [mr,mP];have O1:=dn 3 [[.v (.int .i64 1), .v (.string ⟨#[97]⟩), .v (.slice none 0 0)],[.v (.int .i64 1), .v (.string ⟨#[98]⟩), .v (.slice none 0 0)]] 2 rfl;have O2:=dn 4 [[.v (.int .i64 3), .v (.string ⟨#[]⟩), .aB 3 [[.v (.int .i64 1), .v (.string ⟨#[97]⟩), .v (.slice none 0 0)],[.v (.int .i64 1), .v (.string ⟨#[98]⟩), .v (.slice none 0 0)]] 2]] 1 rfl;have O:=dn 2 [[.v (.int .i64 4), .v (.string ⟨#[]⟩), .aB 3 [[.v (.int .i64 3), .v (.string ⟨#[]⟩), .aB 3 [[.v (.int .i64 1), .v (.string ⟨#[97]⟩), .v (.slice none 0 0)],[.v (.int .i64 1), .v (.string ⟨#[98]⟩), .v (.slice none 0 0)]] 2]] 1],[p1,p2,p3],[r1,r2,r3]] 3 (OF rfl w1 w2)
   (refine aq.enter Tryz.func22 rfl (by kernel_rfl) (by kernel_rfl) rfl (by simp only [go_sem,aN,AV.wf,YY,Yb,Yg,w1,w2,u1,u2,u3,v1,v2,v3,bj]) (by simp only [go_sem,aN,AV.wf,aO,YY,Yb,Yg,w1,w2,u1,u2,u3,v1,v2,v3,bj]) ?_;simp only [Tryz.ntmps22,Tryz.results22,WY,WS,Nat.reduceAdd,Nat.reduceSub,YB,YC,Y1,YR])
   repeat (first|(with_reducible first|refine aw.up ?_|refine fun (K:AK) hK=> ?_|refine wE ?_|refine wK ?_|refine wF ?_|(refine hK _ ?_;clear hK K))|simp only [go_sem,G,Q,Go.undef]|with_reducible refine wA ?_|clear hK K)
   refine aa.one C1 ?_
   repeat (first|(with_reducible first|refine aw.up ?_|refine fun (K:AK) hK=> ?_|refine wE ?_|refine wK ?_|refine wF ?_|(refine hK _ ?_;clear hK K))|simp only [go_sem,G,Q,Go.undef]|with_reducible refine wA ?_|clear hK K)
   refine aa.one C2 ?_
   repeat (first|(with_reducible first|refine aw.up ?_|refine fun (K:AK) hK=> ?_|refine wE ?_|refine wK ?_|refine wF ?_|(refine hK _ ?_;clear hK K))|simp only [go_sem,G,Q,Go.undef]|with_reducible refine wA ?_|clear hK K)
   refine aE.one L3 ?_
   repeat (first|(with_reducible first|refine aw.up ?_|refine fun (K:AK) hK=> ?_|refine wE ?_|refine wK ?_|refine wF ?_|(refine hK _ ?_;clear hK K))|simp only [go_sem,G,Q,Go.undef]|with_reducible refine wA ?_|clear hK K)
   refine aE.one L4 ?_
   repeat (first|(with_reducible first|refine aw.up ?_|refine fun (K:AK) hK=> ?_|refine wE ?_|refine wK ?_|refine wF ?_|(refine hK _ ?_;clear hK K))|simp only [go_sem,G,Q,Go.undef]|with_reducible refine wA ?_|clear hK K)
   refine aE.one O1 ?_
   repeat (first|(with_reducible first|refine aw.up ?_|refine fun (K:AK) hK=> ?_|refine wE ?_|refine wK ?_|refine wF ?_|(refine hK _ ?_;clear hK K))|simp only [go_sem,G,Q,Go.undef]|with_reducible refine wA ?_|clear hK K)
   refine aE.one O2 ?_
   repeat (first|(with_reducible first|refine aw.up ?_|refine fun (K:AK) hK=> ?_|refine wE ?_|refine wK ?_|refine wF ?_|(refine hK _ ?_;clear hK K))|simp only [go_sem,G,Q,Go.undef]|with_reducible refine wA ?_|clear hK K)
   refine aE.one O ?_
   repeat (first|(with_reducible first|refine aw.up ?_|refine fun (K:AK) hK=> ?_|refine wE ?_|refine wK ?_|refine wF ?_|(refine hK _ ?_;clear hK K))|simp only [go_sem,G,Q,Go.undef]|with_reducible refine wA ?_|clear hK K)
   refine gd.of 40 rfl ?_;simp only [go_sem,bj,aN,AV.wf,u1,u2,u3,v1,v2,v3,YY]
  rw [if_neg h3]
  by_cases h4:n % 8=4
  ·rw [if_pos h4];have q2:(((n % 8:Nat):Int)==2)=false:=beq_false_of_ne (by omega);have q3:(((n % 8:Nat):Int)==3)=false:=beq_false_of_ne (by omega);have q4:(((n % 8:Nat):Int)==4)=true:=beq_iff_eq.2 (by omega);have q5:(((n % 8:Nat):Int)==5)=false:=beq_false_of_ne (by omega);have q6:(((n % 8:Nat):Int)==6)=false:=beq_false_of_ne (by omega);have Q:=And.intro q2 (And.intro q3 (And.intro q4 (And.intro q5 q6)));simp only [mr];have O:=dn 3 [[p1,p2,p3],[r1,r2,r3]] 2 (FD w1 w2)
   (refine aq.enter Tryz.func22 rfl (by kernel_rfl) (by kernel_rfl) rfl (by simp only [go_sem,aN,AV.wf,YY,Yb,Yg,w1,w2,u1,u2,u3,v1,v2,v3,bj]) (by simp only [go_sem,aN,AV.wf,aO,YY,Yb,Yg,w1,w2,u1,u2,u3,v1,v2,v3,bj]) ?_;simp only [Tryz.ntmps22,Tryz.results22,WY,WS,Nat.reduceAdd,Nat.reduceSub,YB,YC,Y1,YR])
   repeat (first|(with_reducible first|refine aw.up ?_|refine fun (K:AK) hK=> ?_|refine wE ?_|refine wK ?_|refine wF ?_|(refine hK _ ?_;clear hK K))|simp only [go_sem,G,Q,Go.undef]|with_reducible refine wA ?_|clear hK K)
   refine aa.one C1 ?_
   repeat (first|(with_reducible first|refine aw.up ?_|refine fun (K:AK) hK=> ?_|refine wE ?_|refine wK ?_|refine wF ?_|(refine hK _ ?_;clear hK K))|simp only [go_sem,G,Q,Go.undef]|with_reducible refine wA ?_|clear hK K)
   refine aa.one C2 ?_
   repeat (first|(with_reducible first|refine aw.up ?_|refine fun (K:AK) hK=> ?_|refine wE ?_|refine wK ?_|refine wF ?_|(refine hK _ ?_;clear hK K))|simp only [go_sem,G,Q,Go.undef]|with_reducible refine wA ?_|clear hK K)
   refine aa.q7 O rfl (by simp only [go_sem,Nat.reduceLT,Nat.reduceLeDiff,Nat.reduceEqDiff,Zi,Zj,and_self,u1,u2,u3,v1,v2,v3,bj,aN]) ?_
   repeat (first|(with_reducible first|refine aw.up ?_|refine fun (K:AK) hK=> ?_|refine wE ?_|refine wK ?_|refine wF ?_|(refine hK _ ?_;clear hK K))|simp only [go_sem,G,Q,Go.undef]|with_reducible refine wA ?_|clear hK K)
   refine gd.of 40 rfl ?_;simp only [go_sem,bj,aN,AV.wf,u1,u2,u3,v1,v2,v3,YY]
  rw [if_neg h4]
  by_cases h5:n % 8=5
  ·rw [if_pos h5];have q2:(((n % 8:Nat):Int)==2)=false:=beq_false_of_ne (by omega);have q3:(((n % 8:Nat):Int)==3)=false:=beq_false_of_ne (by omega);have q4:(((n % 8:Nat):Int)==4)=false:=beq_false_of_ne (by omega);have q5:(((n % 8:Nat):Int)==5)=true:=beq_iff_eq.2 (by omega);have q6:(((n % 8:Nat):Int)==6)=false:=beq_false_of_ne (by omega);have Q:=And.intro q2 (And.intro q3 (And.intro q4 (And.intro q5 q6)));simp only [mr];have O:=dn 4 [[p1,p2,p3]] 1 (zC w1)
   (refine aq.enter Tryz.func22 rfl (by kernel_rfl) (by kernel_rfl) rfl (by simp only [go_sem,aN,AV.wf,YY,Yb,Yg,w1,w2,u1,u2,u3,v1,v2,v3,bj]) (by simp only [go_sem,aN,AV.wf,aO,YY,Yb,Yg,w1,w2,u1,u2,u3,v1,v2,v3,bj]) ?_;simp only [Tryz.ntmps22,Tryz.results22,WY,WS,Nat.reduceAdd,Nat.reduceSub,YB,YC,Y1,YR])
   repeat (first|(with_reducible first|refine aw.up ?_|refine fun (K:AK) hK=> ?_|refine wE ?_|refine wK ?_|refine wF ?_|(refine hK _ ?_;clear hK K))|simp only [go_sem,G,Q,Go.undef]|with_reducible refine wA ?_|clear hK K)
   refine aa.one C1 ?_
   repeat (first|(with_reducible first|refine aw.up ?_|refine fun (K:AK) hK=> ?_|refine wE ?_|refine wK ?_|refine wF ?_|(refine hK _ ?_;clear hK K))|simp only [go_sem,G,Q,Go.undef]|with_reducible refine wA ?_|clear hK K)
   refine aa.one C2 ?_
   repeat (first|(with_reducible first|refine aw.up ?_|refine fun (K:AK) hK=> ?_|refine wE ?_|refine wK ?_|refine wF ?_|(refine hK _ ?_;clear hK K))|simp only [go_sem,G,Q,Go.undef]|with_reducible refine wA ?_|clear hK K)
   refine aa.q7 O rfl (by simp only [go_sem,Nat.reduceLT,Nat.reduceLeDiff,Nat.reduceEqDiff,Zi,Zj,and_self,u1,u2,u3,v1,v2,v3,bj,aN]) ?_
   repeat (first|(with_reducible first|refine aw.up ?_|refine fun (K:AK) hK=> ?_|refine wE ?_|refine wK ?_|refine wF ?_|(refine hK _ ?_;clear hK K))|simp only [go_sem,G,Q,Go.undef]|with_reducible refine wA ?_|clear hK K)
   refine gd.of 40 rfl ?_;simp only [go_sem,bj,aN,AV.wf,u1,u2,u3,v1,v2,v3,YY]
  rw [if_neg h5]
  by_cases h6:n % 8=6
  ·rw [if_pos h6];have q2:(((n % 8:Nat):Int)==2)=false:=beq_false_of_ne (by omega);have q3:(((n % 8:Nat):Int)==3)=false:=beq_false_of_ne (by omega);have q4:(((n % 8:Nat):Int)==4)=false:=beq_false_of_ne (by omega);have q5:(((n % 8:Nat):Int)==5)=false:=beq_false_of_ne (by omega);have q6:(((n % 8:Nat):Int)==6)=true:=beq_iff_eq.2 (by omega);have Q:=And.intro q2 (And.intro q3 (And.intro q4 (And.intro q5 q6)));simp only [mr];have O:=dn 5 [[p1,p2,p3]] 1 (zC w1)
   (refine aq.enter Tryz.func22 rfl (by kernel_rfl) (by kernel_rfl) rfl (by simp only [go_sem,aN,AV.wf,YY,Yb,Yg,w1,w2,u1,u2,u3,v1,v2,v3,bj]) (by simp only [go_sem,aN,AV.wf,aO,YY,Yb,Yg,w1,w2,u1,u2,u3,v1,v2,v3,bj]) ?_;simp only [Tryz.ntmps22,Tryz.results22,WY,WS,Nat.reduceAdd,Nat.reduceSub,YB,YC,Y1,YR])
   repeat (first|(with_reducible first|refine aw.up ?_|refine fun (K:AK) hK=> ?_|refine wE ?_|refine wK ?_|refine wF ?_|(refine hK _ ?_;clear hK K))|simp only [go_sem,G,Q,Go.undef]|with_reducible refine wA ?_|clear hK K)
   refine aa.one C1 ?_
   repeat (first|(with_reducible first|refine aw.up ?_|refine fun (K:AK) hK=> ?_|refine wE ?_|refine wK ?_|refine wF ?_|(refine hK _ ?_;clear hK K))|simp only [go_sem,G,Q,Go.undef]|with_reducible refine wA ?_|clear hK K)
   refine aa.one C2 ?_
   repeat (first|(with_reducible first|refine aw.up ?_|refine fun (K:AK) hK=> ?_|refine wE ?_|refine wK ?_|refine wF ?_|(refine hK _ ?_;clear hK K))|simp only [go_sem,G,Q,Go.undef]|with_reducible refine wA ?_|clear hK K)
   refine aa.q7 O rfl (by simp only [go_sem,Nat.reduceLT,Nat.reduceLeDiff,Nat.reduceEqDiff,Zi,Zj,and_self,u1,u2,u3,v1,v2,v3,bj,aN]) ?_
   repeat (first|(with_reducible first|refine aw.up ?_|refine fun (K:AK) hK=> ?_|refine wE ?_|refine wK ?_|refine wF ?_|(refine hK _ ?_;clear hK K))|simp only [go_sem,G,Q,Go.undef]|with_reducible refine wA ?_|clear hK K)
   refine gd.of 40 rfl ?_;simp only [go_sem,bj,aN,AV.wf,u1,u2,u3,v1,v2,v3,YY]
  rw [if_neg h6];have q2:(((n % 8:Nat):Int)==2)=false:=beq_false_of_ne (by omega);have q3:(((n % 8:Nat):Int)==3)=false:=beq_false_of_ne (by omega);have q4:(((n % 8:Nat):Int)==4)=false:=beq_false_of_ne (by omega);have q5:(((n % 8:Nat):Int)==5)=false:=beq_false_of_ne (by omega);have q6:(((n % 8:Nat):Int)==6)=false:=beq_false_of_ne (by omega);have Q:=And.intro q2 (And.intro q3 (And.intro q4 (And.intro q5 q6)));simp only [mr];have O:=dn 6 [[p1,p2,p3]] 1 (zC w1)
  (refine aq.enter Tryz.func22 rfl (by kernel_rfl) (by kernel_rfl) rfl (by simp only [go_sem,aN,AV.wf,YY,Yb,Yg,w1,w2,u1,u2,u3,v1,v2,v3,bj]) (by simp only [go_sem,aN,AV.wf,aO,YY,Yb,Yg,w1,w2,u1,u2,u3,v1,v2,v3,bj]) ?_;simp only [Tryz.ntmps22,Tryz.results22,WY,WS,Nat.reduceAdd,Nat.reduceSub,YB,YC,Y1,YR])
  repeat (first|(with_reducible first|refine aw.up ?_|refine fun (K:AK) hK=> ?_|refine wE ?_|refine wK ?_|refine wF ?_|(refine hK _ ?_;clear hK K))|simp only [go_sem,G,Q,Go.undef]|with_reducible refine wA ?_|clear hK K)
  refine aa.one C1 ?_
  repeat (first|(with_reducible first|refine aw.up ?_|refine fun (K:AK) hK=> ?_|refine wE ?_|refine wK ?_|refine wF ?_|(refine hK _ ?_;clear hK K))|simp only [go_sem,G,Q,Go.undef]|with_reducible refine wA ?_|clear hK K)
  refine aa.one C2 ?_
  repeat (first|(with_reducible first|refine aw.up ?_|refine fun (K:AK) hK=> ?_|refine wE ?_|refine wK ?_|refine wF ?_|(refine hK _ ?_;clear hK K))|simp only [go_sem,G,Q,Go.undef]|with_reducible refine wA ?_|clear hK K)
  refine aa.q7 O rfl (by simp only [go_sem,Nat.reduceLT,Nat.reduceLeDiff,Nat.reduceEqDiff,Zi,Zj,and_self,u1,u2,u3,v1,v2,v3,bj,aN]) ?_
  repeat (first|(with_reducible first|refine aw.up ?_|refine fun (K:AK) hK=> ?_|refine wE ?_|refine wK ?_|refine wF ?_|(refine hK _ ?_;clear hK K))|simp only [go_sem,G,Q,Go.undef]|with_reducible refine wA ?_|clear hK K)
  refine gd.of 40 rfl ?_;simp only [go_sem,bj,aN,AV.wf,u1,u2,u3,v1,v2,v3,YY]
section
def rS:List AV:=mr 3 [mP ⟨#[97]⟩,mP ⟨#[98]⟩]
def yl:Ex:=sc 3 [oq ⟨#[97]⟩,oq ⟨#[98]⟩]
def sC (n:Nat):List (List AV):=[mr 4 [rS],mP ⟨#[97]⟩]++List.replicate n rS
def Pk (n:Nat):List Ex:=[sc 4 [yl],oq ⟨#[97]⟩]++List.replicate n yl
theorem y0 (n:Nat):(sC n).length=n+2:=by simp [sC]
theorem Kl (n:Nat):sC (n+1)=sC n++[rS]:=by rw [sC,sC,List.replicate_succ',List.append_assoc]
theorem A7:mi rS (aM yl):=yU 3 (j9 _) (j9 _)
theorem J8 (n:Nat):mi (mr 2 (sC n)) (aM (sc 2 (Pk n))):=uC 2 (by simp [sC,Pk]) fun i r x h1 h2=>by
 match i,h1,h2 with
 | 0,h1,h2=>cases h1;cases h2;exact uB 4 A7
 | 1,h1,h2=>cases h1;cases h2;exact j9 _
 | i+2,h1,h2=>
  simp only [sC,Pk,List.cons_append,List.nil_append,List.getElem?_cons_succ,List.getElem?_replicate] at h1 h2
  split at h1
  ·rename_i hi;rw [if_pos hi] at h2;cases h1;cases h2;exact A7
  ·cases h1
theorem np (m n:Nat):bj m (sC n)=true:=by
 rw [sC,gJ]
 have:bj m (List.replicate n rS)=true:=by
  have:=bw (n:=m) (fun _:Nat=>rS) (fun _=>rfl) (List.range n)
  rwa [List.map_const',List.length_range] at this
 rw [this];rfl
theorem qR: ∀ {l:List Ex},(∀x∈l,x.ok)->jb l
 | [],_=>trivial
 | a :: l,h=>⟨h a List.mem_cons_self,qR fun x hx=>h x (List.mem_cons_of_mem _ hx)⟩
theorem wL:yl.ok:=o4 _ ⟨mJ (by unfold ph;decide),mJ (by unfold ph;decide),trivial⟩
theorem DP (n:Nat):(sc 2 (Pk n)).ok:=o4 _ (qR fun x hx=>by
 rw [Pk,List.mem_append] at hx
 rcases hx with hx|hx
 ·simp only [List.mem_cons,List.not_mem_nil,or_false] at hx
  rcases hx with rfl|rfl
  ·exact o4 _ ⟨wL,trivial⟩
  ·exact mJ (by unfold ph;decide)
 ·rw [(List.mem_replicate.1 hx).2];exact wL)
theorem Nu (k:Int) (rows:List (List AV)) {n:Nat} (hl:rows.length=n) (hw: ∀m,bj m rows=true):da Tryz.prog 24 [.v (.int .i64 k), .vec 0 n] [some ⟨25,3,true,rows⟩] (.agg [.v (.int .i64 k), .v (.string ⟨#[]⟩), .vec 0 n]) [some ⟨25,3,true,rows⟩]:=by
 refine gF Tryz.func24 Tryz.ntmps24 Tryz.results24 ?_;refine au ?_
 (refine ⟨?_, ?_, ?_⟩<;>simp only [dv,ku,AV.v.injEq,Value.int.injEq,Value.bool.injEq,Value.string.injEq,AV.vec.injEq,AV.ptr.injEq,true_or,or_true,false_or,or_false,ab.mk.injEq,forall_eq_apply_imp_iff,forall_eq,forall_eq',go_sem])
 all_goals exact hw _
theorem Ki (n:Nat) (hn:n<=100):aq Tryz.prog 23 [.v (.int .i64 n)] (.agg (mr 2 (sC n))):=by
 have L1:=cU ⟨#[97]⟩;have L2:=cU ⟨#[98]⟩;have O1:=dn 3 [mP ⟨#[97]⟩,mP ⟨#[98]⟩] 2 rfl;have O2:=dn 4 [rS] 1 rfl;have O3:=Nu 2 (sC 0) (n:=2) rfl (fun m=>np m 0);simp only [rS,sC,mP,mr,YC,List.append_nil,WY,WS,Nat.reduceAdd] at O1 O2 O3
 have hF:(AV.agg (mr 2 (sC n))).wf 0=true:=by simp only [AV.wf,pb _ _ _ (np 0 n)]
 generalize hrv:AV.agg (mr 2 (sC n))=rv at hF ⊢;have hA:aN 0 [AV.v (.int .i64 n)]=true:=rfl
 (refine aq.lC Tryz.func23 rfl (by kernel_rfl) (by kernel_rfl) rfl hA hF ?_;simp only [Tryz.ntmps23,Tryz.results23,WY,WS,Nat.reduceAdd,Nat.reduceSub,YB,YC,List.cons_append,List.nil_append])
 (refine dY ?_;intro K hK K hK)
 refine aa.one L1 ?_
 (revert K;revert K;refine dY ?_;intro K hK K hK)
 refine aa.one L2 ?_
 (revert K;revert K;refine dY ?_;intro K hK K hK)
 refine aa.q7 O1 rfl (by simp only [go_sem,Nat.reduceLT,Nat.reduceLeDiff,Nat.reduceEqDiff,Zi,Zj,and_self]) ?_
 (revert K;revert K;refine dY ?_;intro K hK K hK)
 refine aa.q7 O2 rfl (by simp only [go_sem,Nat.reduceLT,Nat.reduceLeDiff,Nat.reduceEqDiff,Zi,Zj,and_self]) ?_
 (revert K;revert K;refine dY ?_;intro K hK K hK)
 refine aa.one L1 ?_
 (revert K;revert K;refine dY ?_;intro K hK K hK)
 refine aa.fr [3] O3 (by simp) (by rfl) rfl rfl (fun k ob hk=> ?_) ?_
 ·cases k with
  | zero=>cases hk;rfl
  | succ k=>simp at hk
 simp only [AV.bg,bP,sig,eu,List.map_cons,List.map_nil,Option.map_none,Option.map_some,List.append_nil,WY,WS,List.set_cons_succ,List.set_cons_zero]
 (revert K;revert K;refine dY ?_;intro K hK)
 have eM0: ∀m,bj m (sC n)=true:=fun m=>np m n
 refine aV (ι:=Nat) 5 (fun i=>[(4, .v (.int .i64 i))]) (fun i=>[some ⟨25,3,false,[[.v (.int .i64 0), .v (.string ⟨#[]⟩), .v (.slice none 0 0)]]⟩,none,none,some ⟨25,3,true,sC i⟩,some ⟨25,3,false,[[.v (.int .i64 2), .v (.string ⟨#[]⟩), .vec 3 (i+2)]]⟩]) (fun i=>n - i) (fun i=>i<=n) 0 (Nat.zero_le _) ?_ ?_
 ·refine fm ?_ ?_ ai
  ·rfl
  ·exact ⟨rfl,rfl⟩
 ·intro i hi K hK;have eW:=ak (k:=i) (by omega);have eL:=y0 i
  (revert K;revert K;refine dY ?_;intro K hK K hK K hK)
  refine bD.part (fun h=> ?_) (fun h=> ?_)
  ·have hlt:i<n:=by replace h:=bG h;omega
   have eS:sC i++[[AV.v (.int .i64 3), .v (.string ⟨#[]⟩), .aB 3 [[.v (.int .i64 1), .v (.string ⟨#[97]⟩), .v (.slice none 0 0)],[.v (.int .i64 1), .v (.string ⟨#[98]⟩), .v (.slice none 0 0)]] 2]]=sC (i+1):=(Kl i).symm
   ((iterate 3 revert K);refine dY ?_;intro K hK K hK K hK)
   refine bA [7,9] [] (by decide+kernel) (by kernel_rfl) ?_
   ((iterate 3 revert K);refine dY ?_;iterate 4 intro K hK)
   refine aE.one L1 ?_
   ((iterate 4 revert K);refine dY ?_;iterate 4 intro K hK)
   refine aE.one L2 ?_
   ((iterate 4 revert K);refine dY ?_;iterate 4 intro K hK)
   refine aE.one O1 ?_
   repeat (first|(with_reducible first|refine aw.up ?_|refine fun (K:AK) hK=> ?_|refine ae (by decide) ?_|refine ag (by decide) ?_|(refine hK _ ?_;clear hK K))|simp only [go_sem,eL,eS]|with_reducible refine wA ?_|clear hK K)
   refine P1 eW ?_;refine az.mk (i+1) (by omega) (by omega) ?_;refine mb ?_ ai;exact np _ _
  ·have hin:i=n:=by replace h:=bG h;omega
   rw [hin]
   ((iterate 3 revert K);refine dY ?_)
   rw [<-hrv,mr,y0];exact bI.of 5 (by rfl) (by simp only [go_sem,Nat.reduceLT,Nat.reduceLeDiff,Nat.reduceEqDiff,Zi,Zj,and_self,y0,eM0])
def R1 (n:Nat):ByteArray:=if n % 4=0 then ⟨#[97]⟩ else if n % 4=1 then ⟨#[98]⟩ else if n % 4=2 then ⟨#[99]⟩ else ⟨#[]⟩
theorem Mq (n:Nat):List.getD [[AV.v (.string ⟨#[97]⟩)],[.v (.string ⟨#[98]⟩)],[.v (.string ⟨#[99]⟩)],[.v (.string ⟨#[]⟩)]] (n % 4) []=[.v (.string (R1 n))]:=by
 unfold R1
 have:n % 4=0∨n % 4=1∨n % 4=2∨n % 4=3:=by omega
 rcases this with h|h|h|h<;>rw [h]<;>rfl
def pz (n:Nat):ByteArray:=if n % 3=0 then ⟨#[97]⟩ else if n % 3=1 then ⟨#[98]⟩ else ⟨#[99]⟩
theorem Mp (n:Nat):ph (pz n):=by unfold pz ph;(repeat' split)<;>decide
theorem Mo (n:Nat):List.getD [[AV.v (.string ⟨#[97]⟩)],[.v (.string ⟨#[98]⟩)],[.v (.string ⟨#[99]⟩)]] (n % 3) []=[.v (.string (pz n))]:=by
 unfold pz
 have:n % 3=0∨n % 3=1∨n % 3=2:=by omega
 rcases this with h|h|h<;>rw [h]<;>rfl
def v8 (f:Nat->ByteArray) (k:Nat):List (List AV):=(List.range k).map fun i=>mP (f i)
def Rg (f:Nat->ByteArray) (k:Nat):List Ex:=(List.range k).map fun i=>oq (f i)
theorem pT (f:Nat->ByteArray) (k:Nat):(v8 f k).length=k:=by simp [v8]
theorem A6 (f:Nat->ByteArray) (k:Nat):v8 f (k+1)=v8 f k++[mP (f k)]:=by simp [v8,List.range_succ]
theorem Pe (f:Nat->ByteArray) (c:Int) (k:Nat):mi (mr c (v8 f k)) (aM (sc c (Rg f k))):=uC c (by simp [v8,Rg]) fun i r x h1 h2=>by
 simp only [v8,Rg,List.getElem?_map] at h1 h2
 cases hi:(List.range k)[i]? with
 | none=>rw [hi] at h1;cases h1
 | some j=>rw [hi] at h1 h2;cases h1;cases h2;exact j9 _
theorem J6 {f:Nat->ByteArray} (h: ∀n,ph (f n)) (c:Int) (k:Nat):(sc c (Rg f k)).ok:=o4 c (qR fun x hx=>by
 obtain ⟨i,_,rfl⟩:=List.mem_map.1 hx
 exact mJ (h i))
theorem En (f:Nat->ByteArray) (n k:Nat):bj n (v8 f k)=true:=bw _ (fun _=>rfl) _
def II:List (List AV):=[[.v (.string ⟨#[97]⟩)],[.v (.string ⟨#[98]⟩)],[.v (.string ⟨#[97]⟩)]]
theorem Nr {k:Nat} (h:k<=3): ∃w:List ByteArray,Le (.aB 1 II k) (aS w):=by
 have key: ∀(w:List ByteArray) (more:List (List AV)),II=w.map encS++more->Le (.aB 1 II w.length) (aS w):=fun w more e=>by
  rw [e,aS];exact Le.rows (more:=more) (fun x _=>mi.refl _)
 have:k=0∨k=1∨k=2∨k=3:=by omega
 rcases this with rfl|rfl|rfl|rfl
 ·exact ⟨[],key [] _ rfl⟩
 ·exact ⟨[_],key [⟨#[97]⟩] _ rfl⟩
 ·exact ⟨_,key [⟨#[97]⟩,⟨#[98]⟩] _ rfl⟩
 ·exact ⟨_,key [⟨#[97]⟩,⟨#[98]⟩,⟨#[97]⟩] [] rfl⟩
theorem xr (k:Int):aq Tryz.prog 24 [.v (.int .i64 k), .v (.slice none 0 0)] (.agg [.v (.int .i64 k), .v (.string ⟨#[]⟩), .v (.slice none 0 0)]):=by
 refine gE Tryz.func24 Tryz.ntmps24 Tryz.results24 ?_
 repeat' (first|(with_reducible first|refine aw.up ?_|refine fun (K:AK) hK=> ?_|(refine hK _ ?_;clear hK K))|simp only [go_sem]|clear hK K|(with_reducible refine aa.one (by assumption) ?_)|(with_reducible refine aE.one (by assumption) ?_)|(refine bD.part (fun hb=> ?_) (fun hb=> ?_)<;>simp only [hb,go_sem])|(refine bD.part (fun hb=> ?_) (fun hb=> ?_))|(with_reducible refine mw.mk ?_ ?_))
 (refine gd.of 40 rfl ?_;simp only [go_sem])
theorem yT:aq Tryz.prog 5 [] (.v (.bool true)):=by
 have W:=qM;have NN:=Ku;have LN3:=xr 3;have LN2:=xr 2;have E0:=(ft (.mk 0 ⟨#[]⟩ []) 0 ⟨#[]⟩ (by simp only [Ex.ok,jb];exact ⟨by unfold ph;decide,trivial⟩)).le (args':=[.agg [.v (.int .i64 0), .v (.string ⟨#[]⟩), .v (.slice none 0 0)], .v (.int .i64 0), .v (.string ⟨#[]⟩)]) rfl (.cons (mi.agg (by rw [aA];exact .cons (.refl _) (.cons (.refl _) (.cons (.nil 3) .nil)))) (.refl _));have SM:=fun n (hn:n<100000)=>rK 2 n (by decide) hn;have T:=fun n p s=>(ft (Cl 2 n) p s (vz 2 n)).le (args':=[.agg (vw 2 n), .v (.int .i64 p), .v (.string s)]) (by simp only [aN,AV.wf,nq,YY]) (.cons (uD 2 n).agg (.refl _));have WD:=fun n m k (hk:k<=3)=>Exists.elim (Nr hk) fun w hw=>(ot (Cl 2 n) (Cl 2 m) w (vz 2 n) (vz 2 m)).le (args':=[.agg (vw 2 n), .agg (vw 2 m), .aB 1 II k]) (by simp only [aN,AV.wf,nq,YY,Bool.and_true];rfl) (.cons (uD 2 n).agg (.cons (uD 2 m).agg (.cons hw .nil)));have MN:=fun n (hn:n<=100)=>Ki n hn;have TM:=fun n p s=>(ft (sc 2 (Pk n)) p s (DP n)).le (args':=[.agg (mr 2 (sC n)), .v (.int .i64 p), .v (.string s)]) (by simp only [aN,AV.wf,pb _ _ _ (np _ _),YY]) (.cons (J8 n).agg (.refl _));have WM:=fun n m w=>(ot (sc 2 (Pk n)) (sc 2 (Pk m)) w (DP n) (DP m)).le (args':=[.agg (mr 2 (sC n)), .agg (mr 2 (sC m)),aS w]) (by simp only [aS,aN,AV.wf,pb _ _ _ (np _ _),aO,YY]) (.cons (J8 n).agg (.cons (J8 m).agg (.refl _)));have TW:=(ft (sc 3 (Rg pz 23)) 1 ⟨#[99]⟩ (J6 Mp 3 23)).le (args':=[.agg (mr 3 (v8 pz 23)), .v (.int .i64 1), .v (.string ⟨#[99]⟩)]) (by simp only [aN,AV.wf,pb _ _ _ (En _ _ _),YY]) (.cons (Pe pz 3 23).agg (.refl _));have TR:=(ft (sc 2 (Rg (fun _=>⟨#[97]⟩) 23)) 23 ⟨#[97]⟩ (J6 (fun _=>by unfold ph;decide) 2 23)).le (args':=[.agg (mr 2 (v8 (fun _=>⟨#[97]⟩) 23)), .v (.int .i64 23), .v (.string ⟨#[97]⟩)]) (by simp only [aN,AV.wf,pb _ _ _ (En _ _ _),YY]) (.cons (Pe (fun _=>⟨#[97]⟩) 2 23).agg (.refl _));rw [mr,pT] at TW TR;refine gE Tryz.func5 Tryz.ntmps5 Tryz.results5 ?_
 (refine dY ?_;intro K hK)
 refine bE (ι:=Nat) (fun n=>[(1, .v (.int .i64 n))]) (fun _=>[]) (fun n=>5000 - n) (fun n=>n<=4103) 0 (by omega) ?_ ?_
 ·refine bl ?_ ai
  rfl
 intro n hn K hK;simp only [dV,Yw,Yx,YB,YC,go_sem]
 repeat ((fail_if_success (with_reducible refine bm (i:=4) ?_));first|(with_reducible first|refine aw.up ?_|refine fun (K:AK) hK=> ?_|refine ae (by decide) ?_|refine ag (by decide) ?_|(refine hK _ ?_;clear hK K))|simp only [go_sem]|with_reducible refine wA ?_|clear hK K)
 refine bD.part (fun h=> ?_) (fun h=> ?_)
 ·have hlt:n<4096:=by replace h:=bG h;omega
  have C0:=SM n (by omega);have C1:=SM (n / 2) (by omega);have T0:=fun p s=>T n p s;have S0:=WD n (n / 2) (n % 4) (by omega);simp only [II] at S0;obtain ⟨a,b,c,hx⟩:=nQ 2 n;obtain ⟨a2,b2,c2,hx2⟩:=nQ 2 (n / 2)
  have hw1: ∀m,a.wf m=true∧b.wf m=true∧c.wf m=true:=fun m=>by
   have:aN m [a,b,c]=true:=hx ▸ nq m 2 n
   simpa [aN] using this
  have hw2: ∀m,a2.wf m=true∧b2.wf m=true∧c2.wf m=true:=fun m=>by
   have:aN m [a2,b2,c2]=true:=hx2 ▸ nq m 2 (n / 2)
   simpa [aN] using this
  simp only [hx,hx2] at C0 C1 T0 S0;have eM9:(n:Int).tmod 9=((n % 9:Nat):Int):=vI n 9;have eM7:(n:Int).tmod 7=((n % 7:Nat):Int):=vI n 7;have eM4:(n:Int).tmod 4=((n % 4:Nat):Int):=vI n 4;have eQ2:(n:Int).tdiv 2=((n / 2:Nat):Int):=Fw n 2;have eWQ:IntKind.i64.wrap ((n / 2:Nat):Int)=((n / 2:Nat):Int):=bH (by omega) (by omega);have eG:=Mq n;have l4:n % 4<4:=Nat.mod_lt _ (by decide)
  repeat ((fail_if_success (with_reducible refine bm (i:=4) ?_));first|(with_reducible first|refine aw.up ?_|refine fun (K:AK) hK=> ?_|refine ae (by decide) ?_|refine ag (by decide) ?_|(refine hK _ ?_;clear hK K))|simp only [go_sem]|with_reducible refine wA ?_|clear hK K)
  refine bA [] [] (by decide+kernel) (by kernel_rfl) ?_
  ((iterate 4 revert K);refine O0 eM9 eM4 eQ2 eWQ eG ?_;iterate 5 intro K hK)
  refine aE.one C0 ?_
  repeat (first|(with_reducible first|refine aw.up ?_|refine fun (K:AK) hK=> ?_|refine ae (by decide) ?_|refine ag (by decide) ?_|(refine hK _ ?_;clear hK K))|simp only [go_sem,eM9,eM4,eQ2,eWQ,eG,Go.undef]|with_reducible refine wA ?_|clear hK K)
  refine aE.one (T0 _ _) ?_
  ((iterate 5 revert K);refine O0 eM9 eM4 eQ2 eWQ eG ?_;iterate 5 intro K hK)
  refine aE.one C0 ?_
  repeat (first|(with_reducible first|refine aw.up ?_|refine fun (K:AK) hK=> ?_|refine ae (by decide) ?_|refine ag (by decide) ?_|(refine hK _ ?_;clear hK K))|simp only [go_sem,eM9,eM4,eQ2,eWQ,eG,Go.undef]|with_reducible refine wA ?_|clear hK K)
  refine aE.one C1 ?_
  repeat (first|(with_reducible first|refine aw.up ?_|refine fun (K:AK) hK=> ?_|refine ae (by decide) ?_|refine ag (by decide) ?_|(refine hK _ ?_;clear hK K))|simp only [go_sem,eM9,eM4,eQ2,eWQ,eG,Go.undef]|with_reducible refine wA ?_|clear hK K)
  refine aE.one S0 ?_
  repeat ((fail_if_success (with_reducible refine bm (i:=3) ?_));first|(with_reducible first|refine aw.up ?_|refine fun (K:AK) hK=> ?_|refine ae (by decide) ?_|refine ag (by decide) ?_|(refine hK _ ?_;clear hK K))|simp only [go_sem,Go.undef]|with_reducible refine wA ?_|clear hK K)
  refine EP [] (dV 102 [(1, .v (.int .i64 n))]) [] (by simp) rfl (fun k ob h=>by simp at h) ?_ (by kernel_rfl) ?_
  ·simp only [dV,Yw,Yx,YB,YC,go_sem];simp only [FT,AV.bg,sig,go_sem];simp
  simp only [dV,Yw,Yx,YB,YC,go_sem];have eN1:=ak (k:=n) (by omega)
  have eN5:IntKind.i64.wrap (((n+1:Nat):Int)+((n % 7:Nat):Int))=((n+1+n % 7:Nat):Int):=by rw [bH (by omega) (by omega)];omega
  repeat (first|(with_reducible first|refine aw.up ?_|refine fun (K:AK) hK=> ?_|refine ae (by decide) ?_|refine ag (by decide) ?_|(refine hK _ ?_;clear hK K))|simp only [go_sem,eN1,eM7,eN5,Go.undef]|with_reducible refine wA ?_|clear hK K)
  exact az.mk (n+1+n % 7) (by omega) (by omega) (by exact aR ai)
 ((iterate 3 revert K);refine dY ?_;intro K hK)
 refine bE (ι:=Nat) (fun n=>[(2, .v (.int .i64 n))]) (fun _=>[]) (fun n=>6 - n) (fun n=>n<=6) 0 (by omega) ?_ ?_
 ·refine bl ?_ ai
  rfl
 intro n hn K hK;simp only [dV,Yw,Yx,YB,YC,go_sem]
 repeat ((fail_if_success (with_reducible refine bm (i:=9) ?_));first|(with_reducible first|refine aw.up ?_|refine fun (K:AK) hK=> ?_|refine ae (by decide) ?_|refine ag (by decide) ?_|(refine hK _ ?_;clear hK K))|simp only [go_sem]|with_reducible refine wA ?_|clear hK K)
 refine bD.part (fun h=> ?_) (fun h=> ?_)
 ·have hlt:n<6:=by replace h:=bG h;omega
  have C0:=MN n (by omega);have C1:=MN (n / 2) (by omega);have T0:=fun p s=>TM n p s;have S0:=WM n (n / 2) [⟨#[97]⟩,⟨#[97]⟩,⟨#[98]⟩];simp only [aS,encS,List.map_cons,List.map_nil,WY,WS,Nat.reduceAdd,Nat.zero_add] at S0;simp only [mr] at C0 C1 T0 S0;have w1:=fun m=>np m n;have w2:=fun m=>np m (n / 2);generalize sC n=r1 at *;generalize sC (n / 2)=r2 at *;have eQ2:(n:Int).tdiv 2=((n / 2:Nat):Int):=Fw n 2;have eWQ:IntKind.i64.wrap ((n / 2:Nat):Int)=((n / 2:Nat):Int):=bH (by omega) (by omega)
  repeat ((fail_if_success (with_reducible refine bm (i:=9) ?_));first|(with_reducible first|refine aw.up ?_|refine fun (K:AK) hK=> ?_|refine ae (by decide) ?_|refine ag (by decide) ?_|(refine hK _ ?_;clear hK K))|simp only [go_sem]|with_reducible refine wA ?_|clear hK K)
  refine bA [] [] (by decide+kernel) (by kernel_rfl) ?_
  ((iterate 4 revert K);refine JH eQ2 eWQ ?_;iterate 5 intro K hK)
  refine aE.one C0 ?_
  repeat (first|(with_reducible first|refine aw.up ?_|refine fun (K:AK) hK=> ?_|refine ae (by decide) ?_|refine ag (by decide) ?_|(refine hK _ ?_;clear hK K))|simp only [go_sem,eQ2,eWQ,Go.undef]|with_reducible refine wA ?_|clear hK K)
  refine aE.one (T0 _ _) ?_
  ((iterate 5 revert K);refine JH eQ2 eWQ ?_;iterate 5 intro K hK)
  refine aE.one C0 ?_
  repeat (first|(with_reducible first|refine aw.up ?_|refine fun (K:AK) hK=> ?_|refine ae (by decide) ?_|refine ag (by decide) ?_|(refine hK _ ?_;clear hK K))|simp only [go_sem,eQ2,eWQ,Go.undef]|with_reducible refine wA ?_|clear hK K)
  refine aE.one C1 ?_
  ((iterate 5 revert K);refine JH eQ2 eWQ ?_;iterate 5 intro K hK)
  refine aE.one S0 ?_
  repeat ((fail_if_success (with_reducible refine bm (i:=8) ?_));first|(with_reducible first|refine aw.up ?_|refine fun (K:AK) hK=> ?_|refine ae (by decide) ?_|refine ag (by decide) ?_|(refine hK _ ?_;clear hK K))|simp only [go_sem,Go.undef]|with_reducible refine wA ?_|clear hK K)
  refine EP [] (dV 102 [(2, .v (.int .i64 n))]) [] (by simp) rfl (fun k ob h=>by simp at h) ?_ (by kernel_rfl) ?_
  ·simp only [dV,Yw,Yx,YB,YC,go_sem];simp only [FT,AV.bg,sig,go_sem];simp
  simp only [dV,Yw,Yx,YB,YC,go_sem];have eN1:=ak (k:=n) (by omega)
  (revert K;revert K;refine E4 eN1 ?_)
  exact az.mk (n+1) (by omega) (by omega) (by exact aR ai)
 repeat ((fail_if_success (with_reducible refine bm (i:=12) ?_));first|(with_reducible first|refine aw.up ?_|refine fun (K:AK) hK=> ?_|refine ae (by decide) ?_|refine ag (by decide) ?_|(refine hK _ ?_;clear hK K))|simp only [go_sem]|with_reducible refine wA ?_|clear hK K)
 refine aa.one LN3 ?_
 repeat ((fail_if_success (with_reducible refine bm (i:=12) ?_));first|(with_reducible first|refine aw.up ?_|refine fun (K:AK) hK=> ?_|refine ae (by decide) ?_|refine ag (by decide) ?_|(refine hK _ ?_;clear hK K))|simp only [go_sem]|with_reducible refine wA ?_|clear hK K)
 refine a7 (c9 (k:=0) (i:=0) (j:=2) 25 3 (by decide) rfl (Nat.zero_lt_succ _) rfl rfl) (by kernel_rfl) ?_
 (revert K;revert K;refine dY ?_;intro K hK)
 have wR: ∀f m k,bj m (v8 f k)=true:=fun f m k=>En f m k
 refine bE (ι:=Nat) (fun k=>[(3, .ptr 0 0 3 0 0),(4, .v (.int .i64 k))]) (fun k=>[some ⟨25,3,false,[[.v (.int .i64 3), .v (.string ⟨#[]⟩), .vec 1 k]]⟩,some ⟨25,3,true,v8 pz k⟩]) (fun k=>23 - k) (fun k=>k<=23) 0 (by omega) ?_ ?_
 ·refine fm ?_ ?_ ai
  ·rfl
  ·exact ⟨rfl,rfl⟩
 intro k hk K hK;simp only [dV,Yw,Yx,YB,YC,go_sem]
 repeat ((fail_if_success (with_reducible refine bm (i:=15) ?_));first|(with_reducible first|refine aw.up ?_|refine fun (K:AK) hK=> ?_|refine ae (by decide) ?_|refine ag (by decide) ?_|(refine hK _ ?_;clear hK K))|simp only [go_sem]|with_reducible refine wA ?_|clear hK K)
 refine bD.part (fun h=> ?_) (fun h=> ?_)
 ·have hlt:k<23:=by replace h:=bG h;omega
  have eM3:(k:Int).tmod 3=((k % 3:Nat):Int):=vI k 3;have eG:=Mo k;have l3:k % 3<3:=Nat.mod_lt _ (by decide);have LB:=cU (pz k);have eL:(v8 pz k).length=k:=pT _ k;have eN1:=ak (k:=k) (by omega)
  repeat ((fail_if_success (with_reducible refine bm (i:=15) ?_));first|(with_reducible first|refine aw.up ?_|refine fun (K:AK) hK=> ?_|refine ae (by decide) ?_|refine ag (by decide) ?_|(refine hK _ ?_;clear hK K))|simp only [go_sem]|with_reducible refine wA ?_|clear hK K)
  refine bA [9,11] [] (by decide+kernel) (by kernel_rfl) ?_
  repeat (first|(with_reducible first|refine aw.up ?_|refine fun (K:AK) hK=> ?_|refine ae (by decide) ?_|refine ag (by decide) ?_|(refine hK _ ?_;clear hK K))|simp only [go_sem,eM3,eG,eL,Go.undef]|with_reducible refine wA ?_|clear hK K)
  refine aE.one LB ?_
  repeat (first|(with_reducible first|refine aw.up ?_|refine fun (K:AK) hK=> ?_|refine ae (by decide) ?_|refine ag (by decide) ?_|(refine hK _ ?_;clear hK K))|simp only [go_sem,eM3,eG,eL,Go.undef]|with_reducible refine wA ?_|clear hK K)
  refine E4 eN1 ?_;exact az.mk (k+1) (by omega) (by omega) (by refine mb ?_ ai;exact ⟨by rw [A6];rfl,wR _ _ _⟩)
 have hk23:k=23:=by replace h:=bG h;omega
 rw [hk23]
 repeat ((fail_if_success (with_reducible refine bm (i:=17) ?_));first|(with_reducible first|refine aw.up ?_|refine fun (K:AK) hK=> ?_|refine ae (by decide) ?_|refine ag (by decide) ?_|(refine hK _ ?_;clear hK K))|simp only [go_sem]|with_reducible refine wA ?_|clear hK K)
 refine aa.one LN2 ?_
 repeat ((fail_if_success (with_reducible refine bm (i:=17) ?_));first|(with_reducible first|refine aw.up ?_|refine fun (K:AK) hK=> ?_|refine ae (by decide) ?_|refine ag (by decide) ?_|(refine hK _ ?_;clear hK K))|simp only [go_sem]|with_reducible refine wA ?_|clear hK K)
 refine a7 (c9 (k:=2) (i:=0) (j:=2) 25 3 (by decide) rfl (Nat.zero_lt_succ _) rfl rfl) (by kernel_rfl) ?_
 (revert K;revert K;refine dY ?_;intro K hK)
 refine bE (ι:=Nat) (fun k=>[(3, .ptr 0 0 3 0 0),(5, .ptr 2 0 3 0 0),(6, .v (.int .i64 k))]) (fun k=>[some ⟨25,3,false,[[.v (.int .i64 3), .v (.string ⟨#[]⟩), .vec 1 23]]⟩,some ⟨25,3,true,v8 pz 23⟩,some ⟨25,3,false,[[.v (.int .i64 2), .v (.string ⟨#[]⟩), .vec 3 k]]⟩,some ⟨25,3,true,v8 (fun _=>⟨#[97]⟩) k⟩]) (fun k=>23 - k) (fun k=>k<=23) 0 (by omega) ?_ ?_
 ·refine fm ?_ ?_ ai
  ·rfl
  ·exact ⟨wR _ _ _,rfl,wR _ _ _⟩
 intro k hk KL hKL;simp only [dV,Yw,Yx,YB,YC,go_sem]
 repeat ((fail_if_success (with_reducible refine bm (i:=20) ?_));first|(with_reducible first|refine aw.up ?_|refine fun (K:AK) hK=> ?_|refine ae (by decide) ?_|refine ag (by decide) ?_|(refine hK _ ?_;clear hK K))|simp only [go_sem]|with_reducible refine wA ?_|clear hK K)
 refine bD.part (fun h=> ?_) (fun h=> ?_)
 ·have hlt:k<23:=by replace h:=bG h;omega
  have LB:=cU ⟨#[97]⟩;have eL:(v8 (fun _=>⟨#[97]⟩) k).length=k:=pT _ k;have eN1:=ak (k:=k) (by omega)
  repeat ((fail_if_success (with_reducible refine bm (i:=20) ?_));first|(with_reducible first|refine aw.up ?_|refine fun (K:AK) hK=> ?_|refine ae (by decide) ?_|refine ag (by decide) ?_|(refine hK _ ?_;clear hK K))|simp only [go_sem]|with_reducible refine wA ?_|clear hK K)
  refine bA [4,6] [] (by decide+kernel) (by kernel_rfl) ?_
  (revert K;revert K;refine E4 eL ?_;intro K hK K hK K hK)
  refine aE.one LB ?_
  repeat (first|(with_reducible first|refine aw.up ?_|refine fun (K:AK) hK=> ?_|refine ae (by decide) ?_|refine ag (by decide) ?_|(refine hK _ ?_;clear hK K))|simp only [go_sem,eL,Go.undef]|with_reducible refine wA ?_|clear hK K)
  refine E4 eN1 ?_;refine hKL _ ?_;exact az.mk (k+1) (by omega) (by omega) (by refine mb ?_ ai;exact ⟨wR _ _ _,by rw [A6];rfl,wR _ _ _⟩)
 have hk23:k=23:=by replace h:=bG h;omega
 rw [hk23];have l1:(v8 pz 23).length=23:=pT _ 23;have l2:(v8 (fun _=>⟨#[97]⟩) 23).length=23:=pT _ 23;have w1:=fun m=>wR pz m 23;have w2:=fun m=>wR (fun _=>⟨#[97]⟩) m 23;generalize v8 pz 23=r1 at *;generalize v8 (fun _=>⟨#[97]⟩) 23=r2 at *
 (revert K;revert K;refine AF ?_;intro K hK K hK)
 refine aa.GD TW 40 rfl (by simp only [go_sem,Nat.reduceLT,Nat.reduceLeDiff,Nat.reduceEqDiff,Zi,Zj,and_self,l1,w1]) rfl ?_
 (revert K;revert K;refine AF ?_;intro K hK K hK)
 refine aa.GD TR 40 rfl (by simp only [go_sem,Nat.reduceLT,Nat.reduceLeDiff,Nat.reduceEqDiff,Zi,Zj,and_self,l2,w2]) rfl ?_
 (revert K;revert K;refine AF ?_;intro K hK K hK)
 refine aa.one NN ?_
 (revert K;revert K;refine AF ?_;intro K hK K hK)
 refine aa.one E0 ?_
 (revert K;revert K;refine AF ?_;intro K hK K hK)
 refine aa.one W ?_
 (revert K;revert K;exact Sn)
open Go.ChangeShapes Go.WideShapes Go.ChangeAt Go.WideMaps Go.WideElems Go.RowKit
namespace dfaEnds
theorem own:ownKnob Tryz.prog.godebug=none:=by kernel_rfl
theorem laid:laidOutB Tryz.prog=true:=by kernel_rfl
theorem Jh (H:Type) (enc:TypeId×Value->H) (W:World) (args:Array Value) (ds gs:List (DataW H)) (before:List MemPlace) (base:Nat)
  (hval: ∀(j:Nat) t v,Tryz.f5.params[j]? = some t->args[j]? = some v->Value.okWide Tryz.prog W .any base t v)
  (hW:DataW.Whole enc Tryz.prog Tryz.f5.params.toList Rows.dfaEndsSpec.vars false W args.toList ds gs before)
  (hsz:(DataW.weightsEach Tryz.prog (Tryz.f5.params.toList++Rows.dfaEndsSpec.plain.varTypes Tryz.prog) (ds++gs)).all (· <= reachBytes)=true)
  (hL:laidMetH Tryz.prog Rows.dfaEndsRow.laid W) :
  Calls Tryz.prog 5 args W fun e W'=> ∃v,e = .returned v∧Rows.dfaEndsSpec.post enc Tryz.prog Tryz.f5 false true false false W args v W':=by
 have hW':=hW;have hlt:=hW.lt;obtain ⟨p,q,hA,hV,rfl,hfz,hnd⟩:=hW;rw [Tryz.params5] at hA hsz hval;obtain ⟨rfl,rfl,rfl⟩:=trodAll_none hA;obtain ⟨rfl,rfl⟩:=trodVars_none hV
 refine ((yT).QU (w:=W) (vargs:= #[]) ⟨rfl,fun i c x hc hx=> ?_⟩ (GF hL)).mono fun e W' he=> ?_
 ·simp at hc
 obtain ⟨rfl,hb⟩:=he
 refine ⟨_,rfl,_,_,_,[],[],[],hW', ?_, ?_,rfl,hb.frame _,fun h=>by cases h⟩
 ·exact trodAll_mk1 (shut_bool Tryz.underlying4 _)
 ·exact trodAll_mk0
theorem Jj (os:Os) (args:Array Value):laidMetH Tryz.prog Rows.dfaEndsRow.laid ((World.doorLaid Tryz.prog 400 os).forCall (fun _ _=>0) ⟨#[],args,[]⟩).memory:=
 laidMetH_of_parts3 (fuel:=8) (laidMet_of_run' 8 (by kernel_rfl) (by kernel_rfl)) (by kernel_rfl) (by kernel_rfl)
theorem lifted (os:Os) (started:os.Started) (H:Type) (enc:TypeId×Value->H) :
  ReturnsInHanded {} Tryz.checked os 5 .any (fun w args=>(Rows.dfaEndsSpec.pre enc Tryz.prog Tryz.f5 [] false w args∧laidMetH Tryz.prog Rows.dfaEndsRow.laid w)∧sizedMet enc Tryz.prog Tryz.f5 (OpenSpec.ofChange Rows.dfaEndsSpec) false w args)
   (Rows.dfaEndsSpec.post enc Tryz.prog Tryz.f5 false true false false):=by
 refine returnsInHanded_of_change_and (C:=Tryz.checked) (X:=fun w _=>laidMetH Tryz.prog Rows.dfaEndsRow.laid w) (fun _ _ _ hh h=>h.of_heap hh) own started (by kernel_rfl) Tryz.func5
  (ChangeSpec.witness_shaped (enc:=enc) (C:=Tryz.checked) (os:=os) (X:=fun w _=>laidMetH Tryz.prog Rows.dfaEndsRow.laid w) false (World.doorLaid Tryz.prog 400 os) #[] 8 rfl (World.shaped_of_RefB (by kernel_rfl) (by kernel_rfl)) (by kernel_rfl) (by kernel_rfl) (by kernel_rfl) (Jj os _)) ?_
 intro W base args ds gs before hval hW _ hsz hL _;exact Jh H enc W args ds gs before base hval hW hsz hL
theorem over:Rows.dfaEndsRow.holds Tryz.pinned (OpenSpec.ofChange Rows.dfaEndsSpec):=
 OpenClaim.holds_of_wide 5 Tryz.f5 rfl rfl rfl rfl rfl rfl rfl ⟨rfl,rfl,rfl,rfl,rfl⟩ rfl rfl rfl rfl rfl (by kernel_rfl) Tryz.func5 (by kernel_rfl)
  (of_decide_eq_true (by kernel_rfl)) (by unfold Func.isWrapper;first|(rw [if_pos (by decide+kernel)];kernel_rfl)|(rw [if_neg (by decide+kernel)];exact ⟨rfl,rfl⟩))
  (fun os started H enc _=>lifted os started H enc)
theorem proved:Rows.DfaEndsCardSaid:=
 Claim7.holds_tied_plain_at .later [] [.data, .data, .data] true _ false
  over (fun _ h=>by cases h) (by kernel_rfl) (fun _ h=>by cases h) dfaEnds_row_tie rfl ⟨rfl,rfl⟩ (by kernel_rfl) rfl
  (fun f fn hf hfn=>by
   obtain rfl:f=5:=(WL ((show Tryz.prog.funcNamed "kinescope/kinescopelaw09.DfaEnds" = some 5 by kernel_rfl).symm.trans hf)).symm
   obtain rfl:fn=Tryz.f5:=(WL (Tryz.func5.symm.trans hfn)).symm
   exact ⟨by kernel_rfl,fun j t ht=>by
    rw [Tryz.params5] at ht
    simp at ht⟩)
  (by kernel_rfl)
end dfaEnds
theorem dfaEnds_holds:Rows.DfaEndsCardSaid:=dfaEnds.proved
#print axioms dfaEnds_holds
end
end Go.Proofs.YtfflpdekojlnmaaGreatDoor
