/- kinescopelaw11.TreeRenames: the walk. -/
import Derived.Test.YtldnlbcibmmbbaaGreatWOvr
import Derived.Test.YtldnlbcibmmbbaaGreatWOverB
import Derived.Test.YtldnlbcibmmbbaaGreatWRef11e
import Derived.Test.YtldnlbcibmmbbaaGreatWOnceN
set_option linter.unusedSimpArgs false
set_option linter.unusedVariables false
open Bool renaming and_true → Kh, true_and → Kj, and_self → Km, not_eq_eq_eq_not → Ku
open List renaming mem_map → Lb, length_cons → I5, length_nil → IZ, replicate_succ → Kn, replicate_zero → Ko, foldl_cons → Ks, foldl_nil → Kt, set_cons_zero → KM, set_cons_succ → KL
namespace Go.Proofs.YtldnlbcibmmbbaaGreat
open Go.RowKit
theorem sF:ai Tryz.prog 33 [.agg [.v (.slice none 0 0), .v (.slice none 0 0), .v (.slice none 0 0), .v (.int .i64 0), .v (.int .i64 0)]] (.v (.tuple #[])):=
 .fq (by kernel_rfl) rfl (fun D nu w vargs hr=>by
  obtain ⟨x,rfl,hx⟩:=gV hr
  cases hx with
  | agg _ xs h1 h2 h3=>
  obtain ⟨xs⟩:=xs
  match xs,h1 with
  | [x0,x1,x2,x3,x4],_=>
  have r0:=(h2 0 _ x0 rfl rfl).bj
  have r1:=(h2 1 _ x1 rfl rfl).bj
  have r2:=(h2 2 _ x2 rfl rfl).bj
  have r3:=(h2 3 _ x3 rfl rfl).bj
  have r4:=(h2 4 _ x4 rfl rfl).bj
  subst r0;subst r1;subst r2;subst r3;subst r4
  refine (m7 (S:=fun _=>False) (w:=w) (fun b h=>h.elim) .nil .nil .nil).mono ?_
  rintro e w' ⟨rfl,hO⟩
  exact ⟨rfl,hO.os,hO.tape,hO.output,hO.size,fun k hk=>hO.same k hk (fun h=>h)⟩)
theorem su (x:Ex):dE (cd x)=true:=by
 induction x using Ex.ind with
 | h k s l ih=>
  rw [eC]
  simp only [dE,AV.cE,Kh,Kj,Nat.reduceLT,decide_true]
  exact fp (iv (fun r hr=>by obtain ⟨x,hx,rfl⟩:=Lb.1 hr;exact ih x hx)) rfl
theorem mP (l:List cQ):(AV.an 8 (l.map b9++marksOf cT) l.length).cE=true:=by
 simp only [AV.cE,Nat.reduceLT,decide_true,Kj]
 refine fp (cI _ (fun p=> ?_) l) rfl
 simp only [b9,dE,AV.cE,Kh,Kj,Nat.reduceLT,decide_true]
 exact fp (cI _ su _) rfl
theorem mX (l:List ew):(AV.an 13 (l.map bg++marksOf dA) l.length).cE=true:=by
 simp only [AV.cE,Nat.reduceLT,decide_true,Kj]
 exact fp (cI _ (fun p=>rfl) l) rfl
theorem mM (l:List cg):(AV.an 6 (l.map aN++marksOf dy) l.length).cE=true:=by
 simp only [AV.cE,Nat.reduceLT,decide_true,Kj]
 exact fp (cI _ (fun p=>rfl) l) rfl
theorem mS (l:List ByteArray):(AV.an 1 (l.map aT++marksOf cW) l.length).cE=true:=by
 simp only [AV.cE,Nat.reduceLT,decide_true,Kj]
 exact fp (cI _ (fun p=>rfl) l) rfl
theorem tA (x:Ex):dE (bL x)=true:=by
 induction x using Ex.ind with
 | h k s l ih=>
  rw [aY]
  simp only [dE,AV.cE,Kh,Kj,Nat.reduceLT,decide_true]
  exact iv (fun r hr=>by obtain ⟨x,hx,rfl⟩:=Lb.1 hr;exact ih x hx)
theorem oK (l:List cQ):(AV.an 8 (l.map bo) l.length).cE=true:=by
 simp only [AV.cE,Nat.reduceLT,decide_true,Kj]
 refine cI _ (fun p=> ?_) l
 simp only [bo,dE,AV.cE,Kh,Kj,Nat.reduceLT,decide_true]
 exact cI _ tA _
theorem pH (l:List ew):(AV.an 13 (l.map bg) l.length).cE=true:=by
 simp only [AV.cE,Nat.reduceLT,decide_true,Kj]
 exact cI _ (fun p=>rfl) l
theorem pQ (l:List cg):(AV.an 6 (l.map aN) l.length).cE=true:=by
 simp only [AV.cE,Nat.reduceLT,decide_true,Kj]
 exact cI _ (fun p=>rfl) l
theorem qf (l:List ByteArray):(AV.an 1 (l.map aT) l.length).cE=true:=by
 simp only [AV.cE,Nat.reduceLT,decide_true,Kj]
 exact cI _ (fun p=>rfl) l
theorem vP.rows {A:Nat→Prop} {α:Type} {z:Nat} {f g:α→List AV} {xs:List α} {more:List (List AV)} (h: ∀x,x∈xs→(f x).length=(g x).length∧ ∀(j:Nat) c c',(f x)[j]? = some c→(g x)[j]? = some c'→vP A c c'):vP A (.an z (xs.map f++more) xs.length) (.an z (xs.map g) xs.length):=by
 have key: ∀(i:Nat) r r',(xs.map f++more)[i]? = some r→(xs.map g)[i]? = some r'→r.length=r'.length∧ ∀(j:Nat) c c',r[j]? = some c→r'[j]? = some c'→vP A c c':=fun i r r' h1 h2=>by
  have hi:i<xs.length:=by simpa using (List.getElem?_eq_some_iff.1 h2).1
  rw [List.getElem?_append_left (by simpa using hi)] at h1
  rw [List.getElem?_map,List.getElem?_eq_getElem hi] at h1 h2
  cases h1;cases h2
  exact h _ (List.getElem_mem hi)
 exact .an z _ _ _ (by simp) (by simp) (fun i r r' h1 h2=>(key i r r' h1 h2).1) (fun i j r r' c c' h1 h2 h3 h4=>(key i r r' h1 h2).2 j c c' h3 h4)
theorem zj (A:Nat→Prop) (x:Ex):(cd x).length=(fh A x).length∧ ∀(j:Nat) c c',(cd x)[j]? = some c→(fh A x)[j]? = some c'→vP A c c':=by
 induction x using Ex.ind with
 | h k s l ih=>
  rw [eC,lR]
  refine ⟨rfl,fun j c c' h1 h2=> ?_⟩
  match j with
  | 0=>cases h1;cases h2;exact .refl _
  | 1=>cases h1;cases h2;exact .ev _ rfl
  | 2=>cases h1;cases h2;exact .rows ih
  | j+3=>cases h1
theorem rz (A:Nat→Prop) (l:List cQ):vP A (.an 8 (l.map b9++marksOf cT) l.length) (.an 8 (l.map (gE A)) l.length):= .rows (fun p _=>⟨rfl,fun j c c' h1 h2=>by
 match j with
 | 0=>cases h1;cases h2;exact .refl _
 | 1=>cases h1;cases h2;exact .refl _
 | 2=>cases h1;cases h2;exact .refl _
 | 3=>cases h1;cases h2;exact .refl _
 | 4=>cases h1;cases h2;exact .refl _
 | 5=>cases h1;cases h2;exact .refl _
 | 6=>cases h1;cases h2;exact .ev _ rfl
 | 7=>cases h1;cases h2;exact .rows (fun x _=>zj A x)
 | j+8=>cases h1⟩)
theorem ik (A:Nat→Prop) {α:Type} {z:Nat} (f:α→List AV) (l:List α) (more:List (List AV)):vP A (.an z (l.map f++more) l.length) (.an z (l.map f) l.length):= .rows (fun x _=>⟨rfl,fun j c c' h1 h2=>by rw [h1] at h2;cases h2;exact .refl _⟩)
theorem AI {q:dF} {n:Nat} {f:ByteArray→ByteArray} (h:q.lens n):(kA f q).lens n:=by
 obtain ⟨h1,h2,h3,h4⟩:=h
 refine ⟨by simpa [kA] using h1,by simpa [kA] using h2,by simpa [kA] using h3,fun p hp=> ?_⟩
 obtain ⟨p0,h0,rfl⟩:=Lb.1 hp
 exact h4 p0 h0
theorem xG (l:List ByteArray):Le (.an 1 (l.map aT++marksOf cW) l.length) (.an 1 (l.map aT) l.length):= .rows (fun _ _=> .refl _)
set_option maxRecDepth 100000 in
set_option maxHeartbeats 8000000 in
theorem s9 (q:dF) (a b:List ByteArray) (hq:q.small) (oq:q.ok) (ha:a.length≤140737488355328) (hb:b.length≤140737488355328):ai Tryz.prog 8 [.agg (bI q),aB a,aB b] (.v (.bool true)):=by
 have S1:=pU q hq
 have W:=mn
 have eAB:IntKind.i64.wrap ((a.length:Int)+(b.length:Int))=((a.length+b.length:Nat):Int):=by rw [cL (by omega) (by omega)];omega
 simp only [bI] at S1
 simp only [bI,aB]
 (refine ai.enter Tryz.func8 rfl (by kernel_rfl) (by kernel_rfl) rfl (by first|rfl|(simp only [go_sem,Km,Kh,Kj])) (by first|rfl|(simp only [go_sem,Km,Kh,Kj])) ?_;simp only [Tryz.ntmps8,Tryz.results8,I5,IZ,Nat.reduceAdd,Nat.reduceSub,Kn,Ko,List.cons_append,List.nil_append])
 repeat (first|(with_reducible first|refine ah.up ?_|refine fun (K:AK) hK=> ?_|(refine hK _ ?_;clear hK K))|simp only [go_sem]|with_reducible refine wA ?_|clear hK K)
 refine aj.one S1 ?_
 repeat (first|(with_reducible first|refine ah.up ?_|refine fun (K:AK) hK=> ?_|(refine hK _ ?_;clear hK K))|simp only [go_sem]|with_reducible refine wA ?_|clear hK K)
 refine aO.part (fun h1=> ?_) (fun h1=> ?_)
 ·repeat' (first|(with_reducible first|refine ah.up ?_|refine fun (K:AK) hK=> ?_|(refine hK _ ?_;clear hK K))|simp only [go_sem,h1,Go.undef]|with_reducible refine wA ?_|clear hK K|(with_reducible refine aj.one (by assumption) ?_)|(with_reducible refine aw.one (by assumption) ?_)|(refine aO.part (fun hb=> ?_) (fun hb=> ?_)<;>simp only [hb,go_sem,h1,Go.undef])|(refine aO.part (fun hb=> ?_) (fun hb=> ?_))|(with_reducible refine bH.mk ?_ ?_))
 ·repeat (first|(with_reducible first|refine ah.up ?_|refine fun (K:AK) hK=> ?_|(refine hK _ ?_;clear hK K))|simp only [go_sem,h1,eAB]|with_reducible refine wA ?_|clear hK K)
  refine aO.part (fun h2=> ?_) (fun h2=> ?_)
  ·repeat' (first|(with_reducible first|refine ah.up ?_|refine fun (K:AK) hK=> ?_|(refine hK _ ?_;clear hK K))|simp only [go_sem,h2,Go.undef]|with_reducible refine wA ?_|clear hK K|(with_reducible refine aj.one (by assumption) ?_)|(with_reducible refine aw.one (by assumption) ?_)|(refine aO.part (fun hb=> ?_) (fun hb=> ?_)<;>simp only [hb,go_sem,h2,Go.undef])|(refine aO.part (fun hb=> ?_) (fun hb=> ?_))|(with_reducible refine bH.mk ?_ ?_))
  ·have b1:Di q≤400:=by (try simp only [bne_iff_ne,ne_eq,bne_eq_false_iff_eq,beq_iff_eq,beq_eq_false_iff_ne,decide_eq_false_iff_not,Ku,Int.natCast_inj,Int.ofNat_lt,Int.ofNat_le] at h1);omega
   have b2:a.length+b.length≤400:=by (try simp only [bne_iff_ne,ne_eq,bne_eq_false_iff_eq,beq_iff_eq,beq_eq_false_iff_ne,decide_eq_false_iff_not,Ku,Int.natCast_inj,Int.ofNat_lt,Int.ofNat_le] at h2);omega
   have n1:=xg b1
   have L1:=jV q n1
   have L2:=nj a (by omega)
   have L3:=nj b (by omega)
   simp only [bI,fK] at L1
   repeat ((fail_if_success (with_reducible refine yd (i:=4) ?_));first|(with_reducible first|refine ah.up ?_|refine fun (K:AK) hK=> ?_|(refine hK _ ?_;clear hK K))|simp only [go_sem,h2]|with_reducible refine wA ?_|clear hK K)
   refine aj.one L1 ?_
   repeat ((fail_if_success (with_reducible refine yd (i:=4) ?_));first|(with_reducible first|refine ah.up ?_|refine fun (K:AK) hK=> ?_|(refine hK _ ?_;clear hK K))|simp only [go_sem,h2]|with_reducible refine wA ?_|clear hK K)
   refine aj.one L2 ?_
   repeat ((fail_if_success (with_reducible refine yd (i:=4) ?_));first|(with_reducible first|refine ah.up ?_|refine fun (K:AK) hK=> ?_|(refine hK _ ?_;clear hK K))|simp only [go_sem,h2]|with_reducible refine wA ?_|clear hK K)
   refine aj.one L3 ?_
   repeat ((fail_if_success (with_reducible refine yd (i:=4) ?_));first|(with_reducible first|refine ah.up ?_|refine fun (K:AK) hK=> ?_|(refine hK _ ?_;clear hK K))|simp only [go_sem,h2]|with_reducible refine wA ?_|clear hK K)
   have K1:=jO q n1
   have K2:=ng a (by omega)
   have K3:=ng b (by omega)
   simp only [bI,fK] at K1
   by_cases hok:b.length=a.length∧a.Nodup
   ·obtain ⟨hl,hnd⟩:=hok
    have R2:=nf q a b _ n1 hl (by omega) (by simp only [AV.wf,bB,ff,Km]) (fun _=>rfl) (fun h=>absurd hnd h)
    have Sm:=pG (kA (aU a b) q) (kA (aU a b) q) (AI n1)
    rw [(AB _ _).2 rfl] at Sm
    simp only [bI,aB] at R2 Sm
    refine yh rfl (by kernel_rfl) (fun c h=>by cases h) (fun c h=>by cases h) rfl rfl (by kernel_rfl)
     (fun A=>⟨aD 76 [(1, .aV (pK A (.an 1 (a.map aT) a.length)) (.an 1 (a.map aT) a.length)),(2, .aV (pK A (.an 1 (b.map aT) b.length)) (.an 1 (b.map aT) b.length)),(3, .ptr 0 0 5 0 0),(6, .v (.bool false)),(7, .ptr 1 0 5 0 0),
       (8, .aV (pK A (.an 1 (a.map aT++marksOf cW) a.length)) (.an 1 (a.map aT) a.length)),(9, .aV (pK A (.an 1 (b.map aT++marksOf cW) b.length)) (.an 1 (b.map aT) b.length))],
      [some ⟨26,5,false,[[.aV (pK A (.an 8 (q.ao.map bo) q.ao.length)) (.an 8 (q.ao.map bo) q.ao.length), .aV (pK A (.an 13 (q.conds.map bg) q.conds.length)) (.an 13 (q.conds.map bg) q.conds.length), .aV (pK A (.an 6 (q.ret.map aN) q.ret.length)) (.an 6 (q.ret.map aN) q.ret.length), .v (.int .i64 q.range), .v (.int .i64 q.cU)]]⟩,
       some ⟨26,5,false,[[.aV (pK A (.an 8 (q.ao.map b9++marksOf cT) q.ao.length)) (.an 8 (q.ao.map (gE A)) q.ao.length), .aV (pK A (.an 13 (q.conds.map bg++marksOf dA) q.conds.length)) (.an 13 (q.conds.map bg) q.conds.length), .aV (pK A (.an 6 (q.ret.map aN++marksOf dy) q.ret.length)) (.an 6 (q.ret.map aN) q.ret.length), .aV (nr A) (.v (.int .i64 q.range)), .v (.int .i64 q.cU)]]⟩], .no⟩)
     (fun A=>Ax rfl ?_ ?_ rfl) (fun A=> ?_)
    ·simp only [aD,Ks,Kt,Kn,Ko,KM,KL,ny,oF,gr]
     repeat' (first|exact True.intro|refine And.intro ?_ ?_|exact Wp.undef _|exact Wp.same _|exact rfl|exact Wp.ev _ rfl|exact Wp.aV _ _ _ _ (qf _) (.refl _)|exact Wp.aV _ _ _ _ (mS _) (ik A _ _ _)|exact Wp.aV _ _ _ _ (oK _) (.refl _)|exact Wp.aV _ _ _ _ (pH _) (.refl _)|exact Wp.aV _ _ _ _ (pQ _) (.refl _)|exact Wp.aV _ _ _ _ (mP _) (rz A _)|exact Wp.aV _ _ _ _ (mX _) (ik A _ _ _)|exact Wp.aV _ _ _ _ (mM _) (ik A _ _ _))
    ·simp only [aD,Ks,Kt,Kn,Ko,KM,KL,ny,oF,gr]
     repeat' (first|exact True.intro|refine And.intro ?_ ?_|exact Wp.undef _|exact Wp.same _|exact rfl|exact Wp.ev _ rfl|exact Wp.aV _ _ _ _ (qf _) (.refl _)|exact Wp.aV _ _ _ _ (mS _) (ik A _ _ _)|exact Wp.aV _ _ _ _ (oK _) (.refl _)|exact Wp.aV _ _ _ _ (pH _) (.refl _)|exact Wp.aV _ _ _ _ (pQ _) (.refl _)|exact Wp.aV _ _ _ _ (mP _) (rz A _)|exact Wp.aV _ _ _ _ (mX _) (ik A _ _ _)|exact Wp.aV _ _ _ _ (mM _) (ik A _ _ _))
    ·have C1:=(yp A q a b n1 hl (by omega) ((qM a).2 hnd)).le (args':=[.agg [.aV (pK A (.an 8 (q.ao.map b9++marksOf cT) q.ao.length)) (.an 8 (q.ao.map (gE A)) q.ao.length), .aV (pK A (.an 13 (q.conds.map bg++marksOf dA) q.conds.length)) (.an 13 (q.conds.map bg) q.conds.length), .aV (pK A (.an 6 (q.ret.map aN++marksOf dy) q.ret.length)) (.an 6 (q.ret.map aN) q.ret.length), .aV (nr A) (.v (.int .i64 q.range)), .v (.int .i64 q.cU)],
       .aV (pK A (.an 1 (a.map aT++marksOf cW) a.length)) (.an 1 (a.map aT) a.length), .aV (pK A (.an 1 (b.map aT++marksOf cW) b.length)) (.an 1 (b.map aT) b.length)])
      (by simp only [bB,AV.wf,ld,de,dP,cu,Km])
      (.cons (jq.agg (.cons (.aV _ _ _ (.refl _)) (.cons (.aV _ _ _ (.refl _)) (.cons (.aV _ _ _ (.refl _)) (.cons (.refl _) (.cons (.refl _) .nil)))))) (.cons (.aV _ _ _ (.refl _)) (.cons (.aV _ _ _ (.refl _)) .nil)))
     have C2:=R2.le (args':=[.agg [.aV (pK A (.an 8 (q.ao.map bo) q.ao.length)) (.an 8 (q.ao.map bo) q.ao.length), .aV (pK A (.an 13 (q.conds.map bg) q.conds.length)) (.an 13 (q.conds.map bg) q.conds.length), .aV (pK A (.an 6 (q.ret.map aN) q.ret.length)) (.an 6 (q.ret.map aN) q.ret.length), .v (.int .i64 q.range), .v (.int .i64 q.cU)],
       .aV (pK A (.an 1 (a.map aT) a.length)) (.an 1 (a.map aT) a.length), .aV (pK A (.an 1 (b.map aT) b.length)) (.an 1 (b.map aT) b.length)])
      (by simp only [bB,AV.wf,j8,de,dP,cu,Km])
      (.cons (jq.agg (.cons (.aV _ _ _ (.refl _)) (.cons (.aV _ _ _ (.refl _)) (.cons (.aV _ _ _ (.refl _)) (.cons (.refl _) (.cons (.refl _) .nil)))))) (.cons (.aV _ _ _ (.refl _)) (.cons (.aV _ _ _ (.refl _)) .nil)))
     have C3:=Sm.le (args':=[.agg (nd A (kA (aU a b) q)), .agg (bI (kA (aU a b) q))]) (by simp only [bB,AV.wf,o9,ff,Km]) (.cons (A8 A _).agg (.cons (.refl _) .nil))
     simp only [bI,nd] at C1 C2 C3
     refine l6 (fun K hK=> ?_)
     simp only [aD,Ks,Kt,Kn,Ko,I5,IZ,Nat.reduceAdd]
     repeat (first|(with_reducible first|refine ah.up ?_|refine fun (K:AK) hK=> ?_|(refine hK _ ?_;clear hK K))|simp only [go_sem]|with_reducible refine wA ?_|clear hK K)
     refine aj.one C1 ?_
     repeat (first|(with_reducible first|refine ah.up ?_|refine fun (K:AK) hK=> ?_|(refine hK _ ?_;clear hK K))|simp only [go_sem]|with_reducible refine wA ?_|clear hK K)
     refine l6 (fun K hK=> ?_)
     repeat (first|(with_reducible first|refine ah.up ?_|refine fun (K:AK) hK=> ?_|(refine hK _ ?_;clear hK K))|simp only [go_sem]|with_reducible refine wA ?_|clear hK K)
     refine aj.one C2 ?_
     repeat (first|(with_reducible first|refine ah.up ?_|refine fun (K:AK) hK=> ?_|(refine hK _ ?_;clear hK K))|simp only [go_sem]|with_reducible refine wA ?_|clear hK K)
     refine l6 (fun K hK=> ?_)
     repeat (first|(with_reducible first|refine ah.up ?_|refine fun (K:AK) hK=> ?_|(refine hK _ ?_;clear hK K))|simp only [go_sem]|with_reducible refine wA ?_|clear hK K)
     refine aj.one C3 ?_
     repeat (first|(with_reducible first|refine ah.up ?_|refine fun (K:AK) hK=> ?_|(refine hK _ ?_;clear hK K))|simp only [go_sem]|with_reducible refine wA ?_|clear hK K)
     refine Ae ?_
     repeat (first|(with_reducible first|refine ah.up ?_|refine fun (K:AK) hK=> ?_|(refine hK _ ?_;clear hK K))|simp only [go_sem]|with_reducible refine wA ?_|clear hK K)
     refine ⟨⟨aD 76 [(1, .an 1 (a.map aT) a.length),(2, .an 1 (b.map aT) b.length),(3, .ptr 0 0 5 0 0),(6, .v (.bool false)),(7, .ptr 1 0 5 0 0),(8, .an 1 (a.map aT++marksOf cW) a.length),(9, .an 1 (b.map aT++marksOf cW) b.length),(14, .v (.bool true))],
      [some ⟨26,5,false,[[.an 8 (q.ao.map bo) q.ao.length, .an 13 (q.conds.map bg) q.conds.length, .an 6 (q.ret.map aN) q.ret.length, .v (.int .i64 q.range), .v (.int .i64 q.cU)]]⟩,
       some ⟨26,5,false,[[.an 8 (q.ao.map b9++marksOf cT) q.ao.length, .an 13 (q.conds.map bg++marksOf dA) q.conds.length, .an 6 (q.ret.map aN++marksOf dy) q.ret.length, .v (.int .i64 q.range), .v (.int .i64 q.cU)]]⟩,none,none], .no⟩,
      uA (A:=A) rfl rfl rfl rfl rfl ?_ ?_, ?_⟩
     ·simp only [aD,Ks,Kt,Kn,Ko,KM,KL,ny,oF,gr,go_sem]
      repeat' (first|exact True.intro|refine And.intro ?_ ?_|exact Sv.undef _|exact Sv.v _|exact Sv.ptr _ _ _ _ _|exact Sv.ev _|exact rfl|exact Sv.aV _ _ (by simp only [AV.wf,cD,lD,j8,de,dP,cu,kj,j9,j1,ir,Km]))
     ·simp only [aD,Ks,Kt,Kn,Ko,KM,KL,ny,oF,gr]
      repeat' (first|exact True.intro|refine And.intro ?_ ?_|exact Sv.undef _|exact Sv.v _|exact Sv.ptr _ _ _ _ _|exact Sv.ev _|exact rfl|exact Sv.aV _ _ (by simp only [AV.wf,cD,lD,j8,de,dP,cu,kj,j9,j1,ir,Km]))
     ·clear C1 C2 C3 R2 Sm
      simp only [aD,Ks,Kt,Kn,Ko,I5,IZ,Nat.reduceAdd]
      repeat' (first|(with_reducible first|refine ah.up ?_|refine fun (K:AK) hK=> ?_|(refine hK _ ?_;clear hK K))|simp only [go_sem,Go.undef]|with_reducible refine wA ?_|clear hK K|(with_reducible refine aj.one (by assumption) ?_)|(with_reducible refine aw.one (by assumption) ?_)|(refine aO.part (fun hb=> ?_) (fun hb=> ?_)<;>simp only [hb,go_sem,Go.undef])|(refine aO.part (fun hb=> ?_) (fun hb=> ?_))|(with_reducible refine bH.mk ?_ ?_))
   ·have C1:=(uE q a b (by omega) (by
     by_cases hl:b.length=a.length
     ·exact .inr (fun h=>hok ⟨hl,h⟩)
     ·exact .inl hl)).le (args':=[.agg (fK q), .an 1 (a.map aT++marksOf cW) a.length, .an 1 (b.map aT++marksOf cW) b.length]) (by simp only [bB,AV.wf,lN,cD,cu,ir,Km]) (.cons (jX q).agg (.cons (xG a) (.cons (xG b) .nil)))
    have C2:ai Tryz.prog 32 [.agg (bI q),aB a,aB b] (.dN [.agg zQ, .v (.int .i64 2)]):=by
     by_cases hl:b.length=a.length
     ·exact nf q a b _ n1 hl (by omega) rfl (fun h=>absurd ⟨hl,h⟩ hok) (fun _=>rfl)
     ·exact sy q a b hl
    have C3:=pG ⟨[],[],[],0,0⟩ ⟨[],[],[],0,0⟩ ⟨by decide,by decide,by decide,by simp⟩
    rw [(AB _ _).2 rfl] at C3
    have C3':=C3.le (args':=[.agg zQ, .agg zQ]) rfl (.cons (jq.agg (.cons (.nil 8) (.cons (.nil 13) (.cons (.nil 6) (.cons (.refl _) (.cons (.refl _) .nil)))))) (.cons (jq.agg (.cons (.nil 8) (.cons (.nil 13) (.cons (.nil 6) (.cons (.refl _) (.cons (.refl _) .nil)))))) .nil))
    have C4:=sF
    clear C3
    simp only [zQ,bI,fK,aB] at C1 C2 C3'
    repeat' (first|(with_reducible first|refine ah.up ?_|refine fun (K:AK) hK=> ?_|(refine hK _ ?_;clear hK K))|simp only [go_sem,Go.undef]|with_reducible refine wA ?_|clear hK K|(with_reducible refine aj.one (by assumption) ?_)|(with_reducible refine aw.one (by assumption) ?_)|(refine aO.part (fun hb=> ?_) (fun hb=> ?_)<;>simp only [hb,go_sem,Go.undef])|(refine aO.part (fun hb=> ?_) (fun hb=> ?_))|(with_reducible refine bH.mk ?_ ?_))
end Go.Proofs.YtldnlbcibmmbbaaGreat
