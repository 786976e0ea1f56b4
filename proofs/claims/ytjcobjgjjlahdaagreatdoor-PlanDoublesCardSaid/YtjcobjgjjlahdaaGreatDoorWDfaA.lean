/- texts of one claim, one behind the other. -/
import Derived.Test.YtjcobjgjjlahdaaGreatDoorWOrdB
import Derived.Test.YtjcobjgjjlahdaaGreatDoorWAbsV
import Derived.Lib.ItoaNum
import Derived.Test.YtjcobjgjjlahdaaGreatDoorWChk3
import Derived.Shelf.SlIter.Sorted
import Derived.Shelf.SortM.Plain
import Derived.Shelf.SortM.SortNone
set_option linter.unusedSimpArgs false
set_option linter.unusedVariables false
set_option maxRecDepth 100000
set_option maxHeartbeats 16000000
open Bool renaming and_self -> SE, and_true -> R0, true_and -> R3, not_eq_eq_eq_not -> SI
open List renaming length_append -> QH, length_singleton -> Sl, length_nil -> QC, replicate_succ -> SG, replicate_zero -> SH, foldl_cons -> R8, foldl_nil -> Sb, take_zero -> S0, take_succ_cons -> S4, getElem_cons_succ -> S5, mem_cons_self -> RE, mem_cons_of_mem -> RC, getD_eq_getElem?_getD -> Rw, pairwise_iff_getElem -> S6, length_map -> Rv, getElem_map -> S7, mem_range -> RI, mem_singleton -> S8, mem_append -> Si, foldl_append -> Sg, nil_append -> SA, append_assoc -> Q6, findIdx?_eq_none_iff -> R5, findIdx?_eq_some_iff_getElem -> R4, map_append -> Ta, nodup_append -> Tb, getElem?_append_left -> QE, getElem?_append_right -> Q8, map_cons -> Tc, getElem?_eq_some_iff -> QD, getElem?_eq_getElem -> QS, cons_append -> SB, getElem?_map -> QV, map_map -> Te, pairwise_map -> Tf, getElem?_cons_zero -> RU
open Nat renaming lt_add_one -> SY, zero_lt_one -> SZ, le_refl -> Qy, lt_or_ge -> QF
open List.cons renaming injEq -> S9
open Option.some renaming injEq -> QO
namespace Go.Proofs.YtjcobjgjjlahdaaGreatDoor
open Go.RowKit
section
structure MC (ps:List bV) (bq:aa) (x:List (Option aa)×(Nat×Nat)×(List Nat×List Nat)):Prop where
 q:x.1[0]? = some (some bq)
 a:x.1[x.2.1.1]? = some (some ⟨3,1,true,az x.2.2.1⟩)
 b:x.1[x.2.1.2]? = some (some ⟨3,1,true,az x.2.2.2⟩)
 ne:x.2.1.1≠x.2.1.2∧x.2.1.1≠0∧x.2.1.2≠0
 nd:x.2.2.2.Nodup
 lt: ∀k,k∈x.2.2.2->k<ps.length
 lo: ∀k,k∈x.2.2.1->k<ps.length
 le:x.2.2.1.length+x.2.2.2.length<=ps.length
 of:yX ps x.2.2.2.length x.2.2.1 x.2.2.2=gj ps
theorem MC.next {ps:List bV} {bq:aa} {o o':List (Option aa)} {a b a' b':Nat} {out left:List Nat} (h:MC ps bq (o,(a,b),(out,left))) (hne:left≠[]) (h0:o'[0]? = some (some bq))
  (h1:o'[a']? = some (some ⟨3,1,true,az (out++[dG ps out left])⟩)) (h2:o'[b']? = some (some ⟨3,1,true,az (left.filter (fun j=>j !=dG ps out left))⟩)) (hn:a'≠b'∧a'≠0∧b'≠0) :
  MC ps bq (o',(a',b'),(out++[dG ps out left],left.filter (fun j=>j !=dG ps out left)))∧(left.filter (fun j=>j !=dG ps out left)).length<left.length:=by
 have hm:=np ps out hne;have hnd:left.Nodup:=h.nd;have hl:=pC hnd hm;have hle:out.length+left.length<=ps.length:=h.le;have hof:yX ps left.length out left=gj ps:=h.of
 refine ⟨⟨h0,h1,h2,hn,hnd.filter _,fun k hk=>h.lt k (List.mem_filter.1 hk).1,fun k hk=> ?_,by simp only [QH,Sl];omega, ?_⟩,by omega⟩
 ·rcases List.mem_append.1 hk with hk|hk
  ·exact h.lo k hk
  ·rw [List.mem_singleton.1 hk];exact h.lt _ hm
 show yX ps (left.filter (fun j=>j !=dG ps out left)).length (out++[dG ps out left]) (left.filter (fun j=>j !=dG ps out left))=_;rw [<-hl,yX] at hof
 have he:left.isEmpty=false:=by cases left<;>simp_all
 rw [he] at hof;simpa using hof
theorem ND (q:fF) (hk:q.ok) (h1:q.au.length<=400000) (h2:q.conds.length<=1000000) (h3:q.ret.length<=1000000) :
  ah Tryz.prog 29 [.agg (b8 q)] (if iT q=0 then .dA [.aE 1 (az (gj q.au)) (gj q.au).length, .v (.int .i64 0)] else .dA [.v (.slice none 0 0), .v (.int .i64 (iT q))]):=by
 have C:=nA q hk h1 h2 h3;have hnl:=wx q.au;have N:=Dp q (by omega) (by omega);obtain ⟨ps,cs,rs,ra,sl⟩:=q;simp only at h1 hnl;simp only [b8] at C N ⊢;generalize iT ⟨ps,cs,rs,ra,sl⟩=e at C ⊢
 by_cases he:e=0
 ·rw [he] at C ⊢;rw [if_pos rfl]
  (refine ah.enter Tryz.func29 rfl (by kernel_rfl) (by kernel_rfl) rfl (by simp only [go_sem,bw,AV.wf,SE,R0,R3,bF]) (by simp only [go_sem,bw,AV.wf,aD,SE,R0,R3,bF]) ?_;simp only [Tryz.ntmps29,Tryz.results29,List.length_cons,QC,Nat.reduceAdd,Nat.reduceSub,SG,SH,List.cons_append,List.nil_append])
  repeat (first|(with_reducible first|refine af.up ?_|refine fun (K:AK) hK=> ?_|refine aB (by kernel_rfl) (by kernel_rfl) (by kernel_rfl) ?_|refine ak (by decide) ?_|refine aN ?_|refine aO ?_|(refine hK _ ?_;clear hK K))|simp only [go_sem]|with_reducible refine wA ?_|clear hK K)
  refine ae.one C ?_
  repeat (first|(with_reducible first|refine af.up ?_|refine fun (K:AK) hK=> ?_|refine aB (by kernel_rfl) (by kernel_rfl) (by kernel_rfl) ?_|refine ak (by decide) ?_|refine aN ?_|refine aO ?_|(refine hK _ ?_;clear hK K))|simp only [go_sem]|with_reducible refine wA ?_|clear hK K)
  refine ae.fr [] N (by simp) ?_ ?_ ?_ ?_ ?_
  ·rfl
  ·exact (dR _ _ (by simp only [go_sem])).symm
  ·simp only [QC,go_sem]
  ·intro k ob hk;simp at hk
  repeat (first|(with_reducible first|refine af.up ?_|refine fun (K:AK) hK=> ?_|refine aB (by kernel_rfl) (by kernel_rfl) (by kernel_rfl) ?_|refine ak (by decide) ?_|refine aN ?_|refine aO ?_|(refine hK _ ?_;clear hK K))|simp only [go_sem]|with_reducible refine wA ?_|clear hK K)
  have eR:bR (sig [] 1) (az (iL ps))=az (iL ps):=bN _ _ (bF _ _);(try simp only [eR])
  refine dD (ι:=List (Option aa)×(Nat×Nat)×(List Nat×List Nat)) 2 3 1 rfl (by decide) 7 (fun x=>[(0, .undef),(2, .vec x.2.1.1 x.2.2.1.length),(4, .undef),(5, .vec x.2.1.2 x.2.2.2.length),(6, .undef)]) (fun x=>x.1) (fun x=>x.2.2.2.length)
   (MC ps ⟨26,5,false,[[.aE 8 (ps.map bH) ps.length, .aE 13 (cs.map aK) cs.length, .aE 6 (rs.map df) rs.length, .v (.int .i64 ra), .v (.int .i64 sl)]]⟩)
   ([some ⟨26,5,false,[[.aE 8 (ps.map bH) ps.length, .aE 13 (cs.map aK) cs.length, .aE 6 (rs.map df) rs.length, .v (.int .i64 ra), .v (.int .i64 sl)]]⟩,none,none,some ⟨3,1,true,az (iL ps)⟩,some ⟨3,1,true,[]⟩],(4,3),([],iL ps))
   ⟨rfl,rfl,rfl,⟨show (4:Nat)≠3 by decide,show (4:Nat)≠0 by decide,show (3:Nat)≠0 by decide⟩,(kI ps).imp (fun h=>by omega),fun k hk=>ub hk,fun k hk=>by simp at hk,by simpa using hnl,rfl⟩ ?_ ?_
  ·(refine aj ?_ ?_ ?_<;>simp only [aT,R8,Sb,SG,SH,bj,bg,AV.v.injEq,Value.int.injEq,Value.bool.injEq,Value.string.injEq,AV.vec.injEq,AV.ptr.injEq,true_or,or_true,false_or,or_false,aa.mk.injEq,forall_eq_apply_imp_iff,forall_eq,forall_eq',go_sem])
   all_goals exact bF _ _
  rintro ⟨o,⟨a,b⟩,⟨out,left⟩⟩ hI K hK;obtain ⟨na,nb,nc⟩:=hI.ne;have oq:o[0]? = _:=hI.q;have oa:o[a]? = _:=hI.a;have ob:o[b]? = _:=hI.b;simp only at na nb nc
  repeat ((fail_if_success (with_reducible refine br (i:=5) ?_));first|(with_reducible first|refine af.up ?_|refine fun (K:AK) hK=> ?_|refine ak (by decide) ?_|refine aN ?_|refine aO ?_|(refine hK _ ?_;clear hK K))|simp only [go_sem]|with_reducible refine wA ?_|clear hK K)
  have eZ: ∀f l,bR f (az l)=az l:=fun f l=>bN _ _ (bF _ _)
  refine Gu [0,a,b] (aT 32 [(1, .ptr 0 0 5 0 0),(2, .vec 1 out.length),(3, .v (.int .i64 0)),(5, .vec 2 left.length)]) [some ⟨26,5,false,[[.aE 8 (ps.map bH) ps.length, .aE 13 (cs.map aK) cs.length, .aE 6 (rs.map df) rs.length, .v (.int .i64 ra), .v (.int .i64 sl)]]⟩,some ⟨3,1,true,az out⟩,some ⟨3,1,true,az left⟩] (by simp;omega) ?_ ?_ ?_ (by kernel_rfl) ?_
  ·have eQ: ∀f,bR f [[.aE 8 (ps.map bH) ps.length, .aE 13 (cs.map aK) cs.length, .aE 6 (rs.map df) rs.length, .v (.int .i64 ra), .v (.int .i64 sl)]]=[[.aE 8 (ps.map bH) ps.length, .aE 13 (cs.map aK) cs.length, .aE 6 (rs.map df) rs.length, .v (.int .i64 ra), .v (.int .i64 sl)]]:=fun f=>bN _ _ (by simp only [go_sem,SE,R0]);simp only [List.map_cons,List.map_nil,oq,oa,ob,Option.map_some,aa.bl,eZ,eQ]
  ·intro k ob' hk'
   match k,hk' with
   | 0,hk'=>cases hk';simp only [go_sem,SE,R0]
   | 1,hk'=>cases hk';exact bF _ _
   | 2,hk'=>cases hk';exact bF _ _
   | k+3,hk'=>simp at hk'
  ·simp only [aT,R8,Sb,SG,SH,go_sem];simp only [Dt,AV.bl,sig,go_sem];simp
  simp only [aT,R8,Sb,SG,SH,go_sem]
  have eLl:(az left).length=left.length:=by simp [az]
  have eLo:(az out).length=out.length:=by simp [az]
  repeat (first|(with_reducible first|refine af.up ?_|refine fun (K:AK) hK=> ?_|refine aB (by kernel_rfl) (by kernel_rfl) (by kernel_rfl) ?_|refine ak (by decide) ?_|refine aN ?_|refine aO ?_|(refine hK _ ?_;clear hK K))|simp only [go_sem,eLl]|with_reducible refine wA ?_|clear hK K)
  refine cQ.part (fun hc=> ?_) (fun hc=> ?_)
  ·have hne:left≠[]:=by
    rintro rfl;simp at hc
   have V:oT Tryz.prog 34 [.vec 1 out.length] [some ⟨26,5,false,[[.aE 8 (ps.map bH) ps.length, .aE 13 (cs.map aK) cs.length, .aE 6 (rs.map df) rs.length, .v (.int .i64 ra), .v (.int .i64 sl)]]⟩,some ⟨3,1,true,az out⟩,some ⟨3,1,true,az left⟩] (.fn 73 [] [.vp [.vec 1 out.length]]):=by
    have:=CH (o:=[some ⟨26,5,false,[[.aE 8 (ps.map bH) ps.length, .aE 13 (cs.map aK) cs.length, .aE 6 (rs.map df) rs.length, .v (.int .i64 ra), .v (.int .i64 sl)]]⟩,some ⟨3,1,true,az out⟩,some ⟨3,1,true,az left⟩]) (id:=1) (ob:=⟨3,1,true,az out⟩) rfl rfl
    simpa only [eLo] using this
   have eI:(iE out).map encI=az out:=by simp [iE,az,encI]
   have hol:out.length+left.length<=ps.length:=hI.le
   have NN:=F7 ⟨ps,cs,rs,ra,sl⟩ (gf:=73) (caps:=[.vp [.aE 1 (az out) out.length]]) (iE out) (show ps.length<=1000000 by omega) (by simp [iE];omega) (fun k hk=>by
    simp only [iE,List.mem_map] at hk;obtain ⟨j,hj,rfl⟩:=hk
    have:=hI.lo j hj
    omega) (by rw [eI];exact xy out (by omega)) (by simp only [go_sem,bF,SE])
   have FF:=GK ⟨ps,cs,rs,ra,sl⟩ (bW ps (iE out)) left (show ps.length<=1000000 by omega) (by omega) hne hI.lt
   have hk1:fx (dc ps (bW ps (iE out))) (left.drop 1) (left.getD 0 0)=dG ps out left:=by
    cases left with
    | nil=>exact absurd rfl hne
    | cons x l=>rfl
   simp only [b8,aS] at NN FF;rw [hk1] at FF
   have hN:=fun o' a' b'=>hI.next (o':=o') (a':=a') (b':=b') hne
   generalize dG ps out left=k at FF hN;generalize bW ps (iE out)=names at NN FF
   repeat (first|(with_reducible first|refine af.up ?_|refine fun (K:AK) hK=> ?_|refine aB (by kernel_rfl) (by kernel_rfl) (by kernel_rfl) ?_|refine ak (by decide) ?_|refine aN ?_|refine aO ?_|(refine hK _ ?_;clear hK K))|simp only [go_sem,eLl]|with_reducible refine wA ?_|clear hK K)
   refine bc.s V ?_
   repeat (first|(with_reducible first|refine af.up ?_|refine fun (K:AK) hK=> ?_|refine aB (by kernel_rfl) (by kernel_rfl) (by kernel_rfl) ?_|refine ak (by decide) ?_|refine aN ?_|refine aO ?_|(refine hK _ ?_;clear hK K))|simp only [go_sem]|with_reducible refine wA ?_|clear hK K)
   refine bc.s (oT.fresh NN ⟨.of 40 rfl (by simp only [go_sem,Nat.reduceLT,Nat.reduceLeDiff,Nat.reduceEqDiff,SY,SZ,and_self]), .fn trivial ⟨.vp ⟨.of 40 rfl (by simp only [go_sem,Nat.reduceLT,Nat.reduceLeDiff,Nat.reduceEqDiff,SY,SZ,and_self,eLo,bF]),trivial⟩,trivial⟩,trivial⟩) ?_
   repeat (first|(with_reducible first|refine af.up ?_|refine fun (K:AK) hK=> ?_|refine aB (by kernel_rfl) (by kernel_rfl) (by kernel_rfl) ?_|refine ak (by decide) ?_|refine aN ?_|refine aO ?_|(refine hK _ ?_;clear hK K))|simp only [go_sem]|with_reducible refine wA ?_|clear hK K)
   refine bc.xL FF 60 rfl (by simp only [go_sem,Nat.reduceLT,Nat.reduceLeDiff,Nat.reduceEqDiff,SY,SZ,and_self,eLl,bF]) rfl ?_
   repeat (first|(with_reducible first|refine af.up ?_|refine fun (K:AK) hK=> ?_|refine aB (by kernel_rfl) (by kernel_rfl) (by kernel_rfl) ?_|refine ak (by decide) ?_|refine aN ?_|refine aO ?_|(refine hK _ ?_;clear hK K))|simp only [go_sem,eLo]|with_reducible refine wA ?_|clear hK K)
   refine ae.fr [2,3] (BB left k (by omega) hne) (by decide) ?_ ?_ ?_ ?_ ?_
   ·simp only [List.map_cons,List.map_nil,List.getElem?_cons_zero,List.getElem?_cons_succ,Option.map_some,aa.bl,eZ]
    rfl
   ·rfl
   ·rfl
   ·intro j ob' hj
    match j,hj with
    | 0,hj=>cases hj;exact bF _ _
    | 1,hj=>cases hj;rfl
    | j+2,hj=>simp at hj
   repeat (first|(with_reducible first|refine af.up ?_|refine fun (K:AK) hK=> ?_|refine aB (by kernel_rfl) (by kernel_rfl) (by kernel_rfl) ?_|refine ak (by decide) ?_|refine aN ?_|refine aO ?_|(refine hK _ ?_;clear hK K))|simp only [go_sem]|with_reducible refine wA ?_|clear hK K)
   have eA:az out++[[AV.v (.int .i64 (k:Int))]]=az (out++[k]):=by simp [az]
   have eB:out.length+1=(out++[k]).length:=by simp
   obtain ⟨g1,g2⟩:=hN [some ⟨26,5,false,[[.aE 8 (ps.map bH) ps.length, .aE 13 (cs.map aK) cs.length, .aE 6 (rs.map df) rs.length, .v (.int .i64 ra), .v (.int .i64 sl)]]⟩,some ⟨3,1,true,az (out++[k])⟩,none,none,none,some ⟨3,1,true,az (left.filter (fun j=>j !=k))⟩] 1 5 rfl rfl rfl (by decide);simp only [eZ,eA,eB]
   exact aQ.mk (_,(1,5),(out++[k],left.filter (fun j=>j !=k))) g1 g2 (by
    (refine aj ?_ ?_ ?_<;>simp only [aT,R8,Sb,SG,SH,bj,bg,AV.v.injEq,Value.int.injEq,Value.bool.injEq,Value.string.injEq,AV.vec.injEq,AV.ptr.injEq,true_or,or_true,false_or,or_false,aa.mk.injEq,forall_eq_apply_imp_iff,forall_eq,forall_eq',go_sem])
    all_goals exact ⟨bF _ _,bF _ _⟩)
  ·have hnil:left=[]:=by
    have:left.length=0:=by (try simp only [bne_iff_ne,ne_eq,bne_eq_false_iff_eq,beq_iff_eq,beq_eq_false_iff_ne,decide_eq_false_iff_not,Bool.not_eq_eq_eq_not,Int.natCast_inj,Int.ofNat_lt,Int.ofNat_le] at hc);omega
    exact List.eq_nil_of_length_eq_zero this
   have hO:out=gj ps:=by
    have:=hI.of
    rw [hnil] at this;simpa [yX] using this
   rw [hO] at *
   repeat (first|(with_reducible first|refine af.up ?_|refine fun (K:AK) hK=> ?_|refine aB (by kernel_rfl) (by kernel_rfl) (by kernel_rfl) ?_|refine ak (by decide) ?_|refine aN ?_|refine aO ?_|(refine hK _ ?_;clear hK K))|simp only [go_sem,eLo]|with_reducible refine wA ?_|clear hK K)
   refine lR.of 40 rfl ?_;simp only [go_sem,eLo];first|exact ⟨by simp [az],bF _ _⟩|simp [az]
 ·rw [if_neg he]
  (refine ah.enter Tryz.func29 rfl (by kernel_rfl) (by kernel_rfl) rfl (by first|rfl|(simp only [go_sem,SE,R0,R3])) (by first|rfl|(simp only [go_sem,SE,R0,R3])) ?_;simp only [Tryz.ntmps29,Tryz.results29,List.length_cons,QC,Nat.reduceAdd,Nat.reduceSub,SG,SH,List.cons_append,List.nil_append])
  repeat (first|(with_reducible first|refine af.up ?_|refine fun (K:AK) hK=> ?_|refine aB (by kernel_rfl) (by kernel_rfl) (by kernel_rfl) ?_|refine ak (by decide) ?_|refine aN ?_|refine aO ?_|(refine hK _ ?_;clear hK K))|simp only [go_sem]|with_reducible refine wA ?_|clear hK K)
  refine ae.one C ?_;have hd:(e !=0)=true:=bne_iff_ne.2 he
  repeat (first|(with_reducible first|refine af.up ?_|refine fun (K:AK) hK=> ?_|refine aB (by kernel_rfl) (by kernel_rfl) (by kernel_rfl) ?_|refine ak (by decide) ?_|refine aN ?_|refine aO ?_|(refine hK _ ?_;clear hK K))|simp only [go_sem,hd]|with_reducible refine wA ?_|clear hK K)
  (refine lR.of 40 rfl ?_;simp only [go_sem])
mutual
def pE:Ex->Nat->Nat
 | .mk _ _ l,b=>pL l b 1
def pL:List Ex->Nat->Nat->Nat
 | [],_,n=>n
 | x :: xs,b,n=>if n<=b then pL xs b (n+pE x (b - n)) else n
end
theorem An: ∀(l:List Ex) (b n k:Nat) (h:k<l.length),pL (l.take k) b n<=b->pL (l.take (k+1)) b n=pL (l.take k) b n+pE l[k] (b - pL (l.take k) b n)
 | [],_,_,_,h,_=>by simp at h
 | x :: xs,b,n,0,_,hn=>by
  simp only [S0,pL] at hn ⊢;simp [pL,hn]
 | x :: xs,b,n,k+1,h,hn=>by
  simp only [S4,pL,S5] at hn ⊢
  by_cases hc:n<=b
  ·rw [if_pos hc] at hn ⊢;rw [if_pos hc];exact An xs b _ k (by simpa using h) hn
  ·rw [if_neg hc] at hn;omega
theorem Am: ∀(l:List Ex) (b n k:Nat),b<pL (l.take k) b n->pL l b n=pL (l.take k) b n
 | [],_,_,_,_=>by simp
 | x :: xs,b,n,0,hn=>by
  simp only [S0,pL] at hn ⊢;rw [if_neg (by omega)]
 | x :: xs,b,n,k+1,hn=>by
  simp only [S4,pL] at hn ⊢
  by_cases hc:n<=b
  ·rw [if_pos hc] at hn ⊢;rw [if_pos hc];exact Am xs b _ k hn
  ·rw [if_neg hc,if_neg hc]
mutual
theorem qj: ∀(x:Ex) (b:Nat),1<=pE x b∧pE x b<=b+1
 | .mk _ _ l,b=>by rw [pE];have:=uj l b 1 (by omega);omega
theorem uj: ∀(l:List Ex) (b n:Nat),n<=b+1->n<=pL l b n∧pL l b n<=b+1
 | [],b,n,h=>by rw [pL];omega
 | x :: xs,b,n,h=>by
  rw [pL]
  split
  ·have h1:=qj x (b - n);have h2:=uj xs b (n+pE x (b - n)) (by omega);omega
  ·omega
end
def pQ:List bV->Nat->Nat
 | [],n=>n
 | p :: ps,n=>if n<=300 then pQ ps (n+pE p.expr 300) else n
theorem Ap: ∀(l:List bV) (n k:Nat) (h:k<l.length),pQ (l.take k) n<=300->pQ (l.take (k+1)) n=pQ (l.take k) n+pE l[k].expr 300
 | [],_,_,h,_=>by simp at h
 | x :: xs,n,0,_,hn=>by
  simp only [S0,pQ] at hn ⊢;simp [pQ,hn]
 | x :: xs,n,k+1,h,hn=>by
  simp only [S4,pQ,S5] at hn ⊢
  by_cases hc:n<=300
  ·rw [if_pos hc] at hn ⊢;rw [if_pos hc];exact Ap xs _ k (by simpa using h) hn
  ·rw [if_neg hc] at hn;omega
theorem Ao: ∀(l:List bV) (n k:Nat),300<pQ (l.take k) n->pQ l n=pQ (l.take k) n
 | [],_,_,_=>by simp
 | x :: xs,n,0,hn=>by
  simp only [S0,pQ] at hn ⊢;rw [if_neg (by omega)]
 | x :: xs,n,k+1,hn=>by
  simp only [S4,pQ] at hn ⊢
  by_cases hc:n<=300
  ·rw [if_pos hc] at hn ⊢;rw [if_pos hc];exact Ao xs _ k hn
  ·rw [if_neg hc,if_neg hc]
theorem E4: ∀(l:List bV) (n:Nat),n<=pQ l n
 | [],n=>Nat.le_refl _
 | x :: xs,n=>by
  rw [pQ]
  split
  ·have:=E4 xs (n+pE x.expr 300);omega
  ·omega
theorem IQ: ∀(l:List bV) (n:Nat),pQ l n<=max n 601
 | [],n=>by rw [pQ];omega
 | x :: xs,n=>by
  rw [pQ]
  split
  ·have h1:=IQ xs (n+pE x.expr 300);have h2:=qj x.expr 300;omega
  ·omega
def CB (q:fF):Nat:=pQ q.au (q.au.length+q.conds.length+q.ret.length)
def iz (o:eX):Bool:=o.kind==1||o.kind==2
def gv (out:List ByteArray) (o:eX):List ByteArray:=if iz o then aq out o.name else out
def ft (c:dK):List ByteArray:=[c.left,c.right].foldl gv []
def aR (c:dK) (names:List ByteArray):Bool:=(ft c).all (hasB names)
theorem tu (c:dK):(ft c).length<=2:=by
 have h: ∀out o,(gv out o).length<=out.length+1:=fun out o=>by
  unfold gv
  split
  ·unfold aq;split<;>simp
  ·omega
 simp only [ft,R8,Sb];have h1:=h [] c.left;have h2:=h (gv [] c.left) c.right;simp only [QC] at h1;omega
structure A5 where
 pat:bV
 keys:List ByteArray
 binds:List ByteArray
 conds:List dK
def keysOf (p:bV) (bound:List ByteArray):List ByteArray:=(([p.aT,p.to].foldl aq []).filter (hasB bound))
def bS (p:bV) (bound:List ByteArray):List ByteArray:=(aU p).foldl aq bound
def CA (p:bV) (bound:List ByteArray) (waits:List dK):A5:=⟨p,keysOf p bound,(bS p bound).drop bound.length,waits.filter (fun c=>aR c (bS p bound))⟩
def leftOf (p:bV) (bound:List ByteArray) (waits:List dK):List dK:=waits.filter (fun c=> !aR c (bS p bound))
theorem sr (p:bV) (bound:List ByteArray):bS p bound=bound++(bS p bound).drop bound.length:=by
 obtain ⟨m,h⟩:=su (aU p) bound;rw [bS,h,List.drop_left]
theorem kH (p:bV) (bound:List ByteArray):(bS p bound).length<=bound.length+3:=by
 have:=fe (aU p) bound
 have h2:=fZ p;rw [bS];omega
def iX (ps:List bV) (k:Nat):bV:=ps.getD k ⟨⟨#[]⟩,⟨#[]⟩,false,⟨#[]⟩,⟨#[]⟩, .mk 0 ⟨#[]⟩ []⟩
def il (ps:List bV):List Nat->List ByteArray->List dK->List A5
 | [],_,_=>[]
 | k :: ks,bound,waits=>CA (iX ps k) bound waits :: il ps ks (bS (iX ps k) bound) (leftOf (iX ps k) bound waits)
theorem ug {p:bV} (h:p.path=true∨eU p.name=true):dH p p=true:=by
 rw [wL];refine ⟨rfl,rfl,rfl, ?_⟩
 cases hp:p.path
 ·rcases h with h|h
  ·rw [hp] at h;cases h
  ·exact .inr ⟨rfl,h,h,rfl⟩
 ·exact .inl ⟨rfl,rfl⟩
section
variable {ps:List bV} {x:bV}
theorem mD {k:Nat} (h:k<ps.length):(ps++[x])[k]? = ps[k]? :=by rw [List.getElem?_append_left h]
theorem qH {k:Nat} (h:k<ps.length):fm (ps++[x]) k=fm ps k:=by
 unfold fm;rw [mD h,List.take_append_of_le_length (by omega)]
theorem Fv (hx:x∈ps) (hs:dH x x=true):iL (ps++[x])=iL ps:=by
 refine qA (kI _) (kI _) fun k=> ?_;rw [wy,wy,QH,Sl]
 constructor
 ·rintro ⟨h1,h2⟩
  rcases Nat.lt_or_ge k ps.length with q|q
  ·exact ⟨q,by rw [<-qH (x:=x) q];exact h2⟩
  ·exfalso
   obtain rfl:k=ps.length:=by omega
   obtain ⟨j,hj,e⟩:=List.getElem_of_mem hx
   have:fm (ps++[x]) ps.length=true:=(yh (by simp)).2 ⟨j,hj,by
    rw [List.getElem_append_left hj,e];simpa using hs⟩
   rw [this] at h2;cases h2
 ·rintro ⟨h1,h2⟩;exact ⟨by omega,by rw [qH h1];exact h2⟩
theorem qI: ∀(ks:List Nat) (out:List ByteArray),(∀k∈ks,k<ps.length)->(iE ks).foldl (cr (ps++[x])) out=(iE ks).foldl (cr ps) out
 | [],out,_=>rfl
 | k :: ks,out,h=>by
  have hk:=h k RE
  have e:cr (ps++[x]) out (k:Int)=cr ps out (k:Int):=by
   unfold cr;rw [Int.toNat_natCast,mD hk,if_pos ⟨by omega,by rw [QH];omega⟩,if_pos ⟨by omega,by omega⟩]
  show (iE ks).foldl _ (cr (ps++[x]) out (k:Int))=(iE ks).foldl _ (cr ps out (k:Int));rw [e];exact qI ks _ fun j hj=>h j (RC _ hj)
theorem sV {names:List ByteArray} {k:Nat} (h:k<ps.length):dc (ps++[x]) names k=dc ps names k:=by
 have e1:gz (ps++[x]) names k=gz ps names k:=by
  unfold gz;rw [Int.toNat_natCast,mD h,if_pos ⟨by omega,by rw [QH];omega⟩,if_pos ⟨by omega,by omega⟩]
 have e2:lH (ps++[x]) k=lH ps k:=by unfold lH;rw [mD h]
 rw [dc,dc,e1,e2]
theorem p9 {r r':Nat->Int}: ∀(l:List Nat) (m:Nat),r m=r' m->(∀k∈l,r k=r' k)->fx r l m=fx r' l m
 | [],m,_,_=>rfl
 | k :: l,m,h1,h2=>by
  rw [fx,fx,h1,h2 k RE];refine p9 l _ ?_ fun j hj=>h2 j (RC _ hj)
  split
  ·exact h2 k RE
  ·exact h1
theorem Cy {out left:List Nat} (h1: ∀k∈out,k<ps.length) (h2: ∀k∈left,k<ps.length):dG (ps++[x]) out left=dG ps out left:=by
 cases left with
 | nil=>rfl
 | cons k l=>
  have e:bW (ps++[x]) (iE out)=bW ps (iE out):=qI out [] h1;rw [dG,dG,e];exact p9 _ _ (sV (h2 _ RE)) fun j hj=>sV (h2 _ (RC _ hj))
theorem Ax: ∀(n:Nat) (out left:List Nat),(∀k∈out,k<ps.length)->(∀k∈left,k<ps.length)->yX (ps++[x]) n out left=yX ps n out left
 | 0,out,left,_,_=>rfl
 | n+1,out,left,h1,h2=>by
  rw [yX,yX,Cy h1 h2]
  split
  ·rfl
  ·rename_i hne
   have hne':left≠[]:=by rintro rfl;simp at hne
   refine Ax n _ _ (fun k hk=> ?_) (fun k hk=>h2 k (List.mem_filter.1 hk).1)
   rcases List.mem_append.1 hk with hk|hk
   ·exact h1 k hk
   ·rw [List.mem_singleton.1 hk];exact h2 _ (np ps out hne')
theorem Fw (hx:x∈ps) (hs:dH x x=true):gj (ps++[x])=gj ps:=by
 rw [gj,gj,Fv hx hs];exact Ax _ _ _ (fun k h=>by simp at h) (fun k h=>ub h)
theorem qJ: ∀(ks:List Nat) (bound:List ByteArray) (waits:List dK),(∀k∈ks,k<ps.length)->il (ps++[x]) ks bound waits=il ps ks bound waits
 | [],_,_,_=>rfl
 | k :: ks,bound,waits,h=>by
  have e:iX (ps++[x]) k=iX ps k:=by rw [iX,iX,Rw,mD (h k RE),Rw]
  rw [il,il,e,qJ ks _ _ fun j hj=>h j (RC _ hj)]
end
theorem Ak {ps:List bV} {k:Nat} (h:k∈gj ps):k<ps.length:=by
 rcases (Al ps).mem k h with h|h
 ·simp at h
 ·exact ub h
end
section
theorem mA {s t:ByteArray}:cd s t=true↔s=t:=toList_inj
theorem mC {α:Type} {p:List α->Prop} (h0:p []) (h1: ∀l a,p l->p (l++[a])) (l:List α):p l:=by
 rw [<-List.reverse_reverse l]
 induction l.reverse with
 | nil=>exact h0
 | cons a l ih=>rw [List.reverse_cons];exact h1 _ _ ih
theorem Er (n m:Nat) (f:Nat->Nat) (h1: ∀a,a<n->f a<m) (h2: ∀a b,a<n->b<n->f a=f b->a=b):n<=m:=by
 have hn:((List.range n).map f).Nodup:=by
  rw [List.Nodup,S6];intro i j hi hj hij;simp only [Rv,List.length_range] at hi hj;simp only [S7,List.getElem_range];intro e;have:=h2 i j hi hj e;omega
 have hs:((List.range n).map f) ⊆ List.range m:=fun x hx=>by
  obtain ⟨a,ha,rfl⟩:=List.mem_map.1 hx;exact RI.2 (h1 a (RI.1 ha))
 have:=hn.length_le_of_subset hs
 simpa using this
theorem vD (u:Nat): ∀c∈Lib.decDigits u,48<=c.toNat∧c.toNat<=57:=by
 induction u using Nat.strongRecOn with
 | _ u ih=>
  intro c hc;rw [Lib.decDigits] at hc
  split at hc
  ·simp only [S8] at hc;subst hc;simp;omega
  ·rw [Si] at hc
   rcases hc with hc|hc
   ·exact ih (u / 10) (by omega) c hc
   ·simp only [S8] at hc;subst hc;simp;omega
theorem pq (u:Nat) (h:u<1000):(Lib.decDigits u).length<=3:=by
 rw [Lib.decDigits];split
 ·simp
 ·rw [Lib.decDigits];split
  ·simp
  ·rw [Lib.decDigits,dif_pos (by omega)];simp
def AB (l:List UInt8):Nat:=l.foldl (fun a c=>a * 10+(c.toNat - 48)) 0
theorem qM (u:Nat):AB (Lib.decDigits u)=u:=by
 induction u using Nat.strongRecOn with
 | _ u ih=>
  rw [Lib.decDigits];split
  ·rename_i h;simp [AB];omega
  ·rename_i h
   have:=ih (u / 10) (by omega)
   rw [AB,Sg, <- AB,this];simp;omega
theorem D9 {u v:Nat} (h:Lib.decDigits u=Lib.decDigits v):u=v:=by rw [<-qM u, <- qM v,h]
theorem ma {u v:Nat} {r s:List UInt8} (h:Lib.decDigits u++r=Lib.decDigits v++s) (hr:r=[]∨r.head? = some 32) (hs:s=[]∨s.head? = some 32):u=v∧r=s:=by
 have key: ∀(a b r s:List UInt8),a++r=b++s->(∀c∈a,48<=c.toNat∧c.toNat<=57)->(∀c∈b,48<=c.toNat∧c.toNat<=57)->(r=[]∨r.head? = some 32)->(s=[]∨s.head? = some 32)->a=b∧r=s:=by
  intro a
  induction a with
  | nil=>
   intro b r s h ha hb hr hs
   cases b with
   | nil=>exact ⟨rfl,h⟩
   | cons c b=>
    have:=hb c List.mem_cons_self
    rw [SA] at h;subst h
    rcases hr with hr|hr
    ·simp at hr
    ·simp at hr;subst hr;simp at this
  | cons d a ih=>
   intro b r s h ha hb hr hs
   cases b with
   | nil=>
    have:=ha d List.mem_cons_self
    rw [SA] at h;subst h
    rcases hs with hs|hs
    ·simp at hs
    ·simp at hs;subst hs;simp at this
   | cons c b=>
    simp only [List.cons_append,S9] at h;obtain ⟨rfl,h⟩:=h;obtain ⟨h1,h2⟩:=ih b r s h (fun c hc=>ha c (RC _ hc)) (fun c hc=>hb c (RC _ hc)) hr hs;exact ⟨by rw [h1],h2⟩
 obtain ⟨h1,h2⟩:=key _ _ _ _ h (vD u) (vD v) hr hs;exact ⟨D9 h1,h2⟩
def jo (l:List Nat):List UInt8:=l.flatMap (fun n=>Lib.decDigits n++[32])
def iJ (l:List Nat):ByteArray:=⟨(jo l).toArray⟩
theorem v8: ∀ {l m:List Nat},jo l=jo m->l=m
 | [],[],_=>rfl
 | [],b :: m,h=>by simp [jo] at h
 | a :: l,[],h=>by simp [jo] at h
 | a :: l,b :: m,h=>by
  simp only [jo,List.flatMap_cons,Q6] at h;obtain ⟨h1,h2⟩:=ma h (.inr rfl) (.inr rfl);simp only [List.cons_append,SA,S9,true_and] at h2;rw [h1,v8 (l:=l) (m:=m) h2]
theorem Ev {l m:List Nat} (h:iJ l=iJ m):l=m:=by
 have:(iJ l).data.toList=(iJ m).data.toList:=by rw [h]
 exact v8 (by simpa [iJ] using this)
def pos (l:List ByteArray) (s:ByteArray):Option Nat:=l.findIdx? (fun x=>cd s x)
theorem wW {l:List ByteArray} {s:ByteArray}:pos l s=none↔s∉l:=by
 rw [pos,R5]
 constructor
 ·intro h hm;have:=h s hm;rw [mA.2 rfl] at this;cases this
 ·intro h x hx
  cases hh:cd s x
  ·rfl
  ·rw [mA] at hh;subst hh;exact absurd hx h
theorem qu {l:List ByteArray} {s:ByteArray} {k:Nat} (h:pos l s=some k): ∃hk:k<l.length,l[k]=s:=by
 rw [pos,R4] at h;obtain ⟨h1,h2,_⟩:=h;exact ⟨h1,(mA.1 h2).symm⟩
theorem JK {l:List ByteArray} {s:ByteArray} {k:Nat} (h:pos l s=some k):k<l.length:=(qu h).1
abbrev bL:=List (ByteArray×Nat)
structure oD where
 all:List (List Nat)
 rows:List bL
 ends:List Bool
section
variable (stp:List Nat->ByteArray->List Nat) (em:Bool) (la:List Nat)
def As (cur:List Nat) (st:List (List Nat)×bL) (lab:ByteArray):List (List Nat)×bL:=
 if stp cur lab=[] then st else match pos (st.1.map iJ) (iJ (stp cur lab)) with
 | some k=>(st.1,st.2++[(lab,k)])
 | none=>(st.1++[stp cur lab],st.2++[(lab,st.1.length)])
def gw (cur:List Nat) (all:List (List Nat)) (ai:List ByteArray):List (List Nat)×bL:=ai.foldl (As stp cur) (all,[])
theorem kM (cur:List Nat) (all:List (List Nat)) (ai:List ByteArray) (l:ByteArray):gw stp cur all (ai++[l])=As stp cur (gw stp cur all ai) l:=by rw [gw,Sg];rfl
def ep (st:oD):List Nat:=st.all.getD st.rows.length []
def xb (st:oD):Bool:=(st.rows.length==0&&em)||(ep st).any (fun p=>la.contains p)
def dv (ai:List ByteArray) (st:oD):oD:=⟨(gw stp (ep st) st.all ai).1,st.rows++[(gw stp (ep st) st.all ai).2],st.ends++[xb em la st]⟩
def qD (ai:List ByteArray):Nat->oD->Option oD
 | 0,st=>some st
 | f+1,st=>if st.rows.length<st.all.length then (if 256<(dv stp em la ai st).all.length then none else qD ai f (dv stp em la ai st)) else some st
def s0:oD:=⟨[[0]],[],[]⟩
def sT (ai:List ByteArray):Option oD:=qD stp em la ai 257 s0
structure C5 (ai:List ByteArray) (st:oD):Prop where
 le:st.rows.length<=st.all.length
 max:st.all.length<=256
 nd:(st.all.map iJ).Nodup
 ends:st.ends.length=st.rows.length
 row: ∀r∈st.rows,(r.map Prod.fst).Sublist ai∧ ∀p∈r,p.2<st.all.length
theorem JS {cur:List Nat} {a:List (List Nat)×bL} {lab:ByteArray} (hn:(a.1.map iJ).Nodup) (hr: ∀p∈a.2,p.2<a.1.length) :
  ((As stp cur a lab).1.map iJ).Nodup∧(∀p∈(As stp cur a lab).2,p.2<(As stp cur a lab).1.length)∧a.1.length<=(As stp cur a lab).1.length∧(As stp cur a lab).1.length<=a.1.length+1 ∧
  ((As stp cur a lab).2=a.2∨ ∃k,(As stp cur a lab).2=a.2++[(lab,k)])∧ ∃t,(As stp cur a lab).1=a.1++t:=by
 unfold As
 split
 ·exact ⟨hn,hr,Qy _,Nat.le_succ _, .inl rfl,[],by simp⟩
 ·split
  ·rename_i k hk
   have:=JK hk
   rw [Rv] at this;refine ⟨hn,fun p hp=> ?_,Qy _,Nat.le_succ _, .inr ⟨_,rfl⟩,[],by simp⟩;simp only [Si,S8] at hp
   rcases hp with hp|rfl
   ·exact hr p hp
   ·exact this
  ·rename_i hk
   refine ⟨?_,fun p hp=> ?_,by simp,by simp, .inr ⟨_,rfl⟩,_,rfl⟩
   ·rw [Ta,List.map_singleton,Tb];refine ⟨hn,by simp,fun x hx y hy=> ?_⟩;simp only [S8] at hy;subst hy;rintro rfl;exact wW.1 hk hx
   ·simp only [Si,S8,QH,Sl] at hp ⊢
    rcases hp with hp|rfl
    ·have:=hr p hp;omega
    ·simp
theorem uF {cur:List Nat} {all:List (List Nat)} (hn:(all.map iJ).Nodup): ∀(ai:List ByteArray),
  ((gw stp cur all ai).1.map iJ).Nodup∧(∀p∈(gw stp cur all ai).2,p.2<(gw stp cur all ai).1.length)∧all.length<=(gw stp cur all ai).1.length∧(gw stp cur all ai).1.length<=all.length+ai.length ∧
  ((gw stp cur all ai).2.map Prod.fst).Sublist ai∧ ∃t,(gw stp cur all ai).1=all++t:=by
 refine mC ⟨hn,by simp [gw],Qy _,Qy _,by simp [gw],[],by simp [gw]⟩ ?_
 ·rintro ai l ⟨h1,h2,h3,h4,h5,t,h6⟩;obtain ⟨k1,k2,k3,k4,k5,t2,k6⟩:=JS stp (cur:=cur) (lab:=l) h1 h2;rw [<-kM] at k1 k2 k3 k4 k5 k6;refine ⟨k1,k2,by omega,by simp;omega, ?_,t++t2,by rw [k6,h6,Q6]⟩
  rcases k5 with k5|⟨k,k5⟩
  ·rw [k5];exact h5.trans (List.sublist_append_left _ _)
  ·rw [k5,Ta];exact h5.append (by simp)
theorem JT (ai:List ByteArray):C5 ai s0:=⟨by simp [s0],by simp [s0],by simp [s0],rfl,by simp [s0]⟩
theorem qC {ai:List ByteArray} {st:oD} (h:C5 ai st) (h1:st.rows.length<st.all.length) (h2: ¬ 256<(dv stp em la ai st).all.length):C5 ai (dv stp em la ai st):=by
 obtain ⟨k1,k2,k3,k4,k5,t,k6⟩:=uF stp (cur:=ep st) h.nd ai
 refine ⟨?_,by omega,k1, ?_,fun r hr=> ?_⟩
 ·simp only [dv,QH,Sl];omega
 ·simp only [dv,QH,Sl,h.ends]
 ·simp only [dv,Si,S8] at hr ⊢
  rcases hr with hr|rfl
  ·obtain ⟨q1,q2⟩:=h.row r hr;exact ⟨q1,fun p hp=>by have:=q2 p hp;omega⟩
  ·exact ⟨k5,k2⟩
theorem Au {ai:List ByteArray}: ∀(f:Nat) {st st':oD},C5 ai st->257<=f+st.rows.length->qD stp em la ai f st=some st'->C5 ai st'∧st'.rows.length=st'.all.length
 | 0,st,st',h,hf,e=>by
  simp only [qD,Option.some.injEq] at e;subst e
  have:=h.le;have:=h.max;omega
 | f+1,st,st',h,hf,e=>by
  rw [qD] at e
  split at e
  ·rename_i h1
   split at e
   ·cases e
   ·rename_i h2;exact Au f (qC stp em la h h1 h2) (by simp only [dv,QH,Sl];omega) e
  ·cases e;exact ⟨h,by have:=h.le;omega⟩
end
section
variable (rows:List bL)
def ui (part:List Nat) (p:Nat) (row:bL):List UInt8:=Lib.decDigits p++row.flatMap (fun e=>32 :: (e.1.data.toList++32 :: Lib.decDigits (part.getD e.2 0)))
def db (part:List Nat) (p:Nat) (row:bL):ByteArray:=⟨(ui part p row).toArray⟩
theorem Cg (part:List Nat) (p:Nat) (row:bL) (e:ByteArray×Nat):ui part p (row++[e])=ui part p row++32 :: (e.1.data.toList++32 :: Lib.decDigits (part.getD e.2 0)):=by simp [ui]
def ML (part:List Nat) (st:List ByteArray×List Nat) (s:Nat):List ByteArray×List Nat:=
 match pos st.1 (db part (part.getD s 0) (rows.getD s [])) with
 | some k=>(st.1,st.2++[k])
 | none=>(st.1++[db part (part.getD s 0) (rows.getD s [])],st.2++[st.1.length])
def dY (part:List Nat) (n:Nat):List ByteArray×List Nat:=(List.range n).foldl (ML rows part) ([],[])
theorem sA (part:List Nat) (n:Nat):dY rows part (n+1)=ML rows part (dY rows part n) n:=by rw [dY,List.range_succ,Sg];rfl
def eb (part:List Nat):List Nat:=(dY rows part rows.length).2
def gk (part:List Nat):Nat:=(dY rows part rows.length).1.length
def uk:Nat->List Nat->Nat->List Nat
 | 0,part,_=>part
 | f+1,part,many=>if gk rows part=many then eb rows part else uk f (eb rows part) (gk rows part)
def p0 (ends:List Bool):List Nat:=ends.map (fun b=>if b then 1 else 0)
def fA (ends:List Bool):List Nat:=uk rows (rows.length+2) (p0 ends) 0
structure KK (part:List Nat) (n:Nat):Prop where
 len:(dY rows part n).2.length=n
 nd:(dY rows part n).1.Nodup
 le:(dY rows part n).1.length<=n
 at': ∀s,s<n-> ∃h:(dY rows part n).2.getD s 0<(dY rows part n).1.length,(dY rows part n).1[(dY rows part n).2.getD s 0]=db part (part.getD s 0) (rows.getD s [])
 on: ∀k,k<(dY rows part n).1.length-> ∃s,s<n∧(dY rows part n).2.getD s 0=k
theorem fT (part:List Nat): ∀n,KK rows part n
 | 0=>⟨rfl,by simp [dY],by simp [dY],fun s h=>by omega,fun k h=>by simp [dY] at h⟩
 | n+1=>by
  have ih:=fT part n;have e:=sA rows part n;unfold ML at e
  have hg: ∀(l:List Nat) (x s:Nat),l.length=n->s<n->(l++[x]).getD s 0=l.getD s 0:=fun l x s h1 h2=>by
   rw [Rw,QE (by omega),Rw]
  have hl: ∀(l:List Nat) (x:Nat),l.length=n->(l++[x]).getD n 0=x:=fun l x h1=>by
   rw [Rw,Q8 (by omega),h1];simp
  cases hp:pos (dY rows part n).1 (db part (part.getD n 0) (rows.getD n [])) with
  | some k=>
   rw [hp] at e;simp only at e;obtain ⟨hk,hk2⟩:=qu hp
   refine ⟨by rw [e];simp [ih.len],by rw [e];exact ih.nd,by rw [e];have:=ih.le;simp only;omega,fun s hs=> ?_,fun j hj=> ?_⟩
   ·simp only [e]
    rcases QF s n with q|q
    ·simp only [hg _ _ s ih.len q];exact ih.at' s q
    ·obtain rfl:s=n:=by omega
     simp only [hl _ _ ih.len];exact ⟨hk,hk2⟩
   ·simp only [e] at hj ⊢;obtain ⟨s,q1,q2⟩:=ih.on j hj;exact ⟨s,by omega,by rw [hg _ _ s ih.len q1];exact q2⟩
  | none=>
   rw [hp] at e;simp only at e
   refine ⟨by rw [e];simp [ih.len], ?_,by rw [e];have:=ih.le;simp only [QH,Sl];omega,fun s hs=> ?_,fun j hj=> ?_⟩
   ·rw [e];simp only;rw [Tb];refine ⟨ih.nd,by simp,fun x hx y hy=> ?_⟩;simp only [S8] at hy;subst hy;rintro rfl;exact wW.1 hp hx
   ·simp only [e]
    rcases QF s n with q|q
    ·obtain ⟨q1,q2⟩:=ih.at' s q;simp only [hg _ _ s ih.len q];exact ⟨by simp only [QH,Sl];omega,by rw [List.getElem_append_left q1];exact q2⟩
    ·obtain rfl:s=n:=by omega
     simp only [hl _ _ ih.len];exact ⟨by simp,by rw [List.getElem_append_right (Qy _)];simp⟩
   ·simp only [e,QH,Sl] at hj ⊢
    rcases QF j (dY rows part n).1.length with q|q
    ·obtain ⟨s,q1,q2⟩:=ih.on j q;exact ⟨s,by omega,by rw [hg _ _ s ih.len q1];exact q2⟩
    ·exact ⟨n,by omega,by rw [hl _ _ ih.len];omega⟩
theorem qk {part:List Nat} {p q:Nat} {r s:bL} (h:db part p r=db part q s):p=q:=by
 have e:ui part p r=ui part q s:=by
  have:(db part p r).data.toList=(db part q s).data.toList:=by rw [h]
  simpa [db] using this
 have hh: ∀t:bL,(t.flatMap (fun e=>32 :: (e.1.data.toList++32 :: Lib.decDigits (part.getD e.2 0))))=[]∨(t.flatMap (fun e=>32 :: (e.1.data.toList++32 :: Lib.decDigits (part.getD e.2 0)))).head? = some 32:=fun t=>by
  cases t with
  | nil=>exact .inl rfl
  | cons a t=>exact .inr rfl
 exact (ma e (hh r) (hh s)).1
def KL (part:List Nat) (many:Nat):Prop:=part.length=rows.length∧ ∀k,k<many-> ∃s,s<rows.length∧part.getD s 0=k
theorem qn (part:List Nat):KL rows (eb rows part) (gk rows part):=⟨(fT rows part _).len,(fT rows part _).on⟩
theorem wP (part:List Nat):gk rows part<=rows.length:=(fT rows part _).le
theorem qm {part:List Nat} {many:Nat} (h:KL rows part many):many<=gk rows part:=by
 have ok:=fT rows part rows.length
 
 have hch: ∀k, ∃m,k<many->m<gk rows part∧ ∃s,s<rows.length∧part.getD s 0=k∧(eb rows part).getD s 0=m:=fun k=>by
  by_cases hk:k<many
  ·obtain ⟨s,h1,h2⟩:=h.2 k hk;obtain ⟨q1,_⟩:=ok.at' s h1;exact ⟨_,fun _=>⟨q1,s,h1,h2,rfl⟩⟩
  ·exact ⟨0,fun q=>absurd q hk⟩
 obtain ⟨f,hf⟩:=Classical.axiomOfChoice hch
 have inj: ∀a b,a<many->b<many->f a=f b->a=b:=fun a b ha hb e=>by
  obtain ⟨l1,s,k1,k2,k3⟩:=hf a ha;obtain ⟨l2,t,m1,m2,m3⟩:=hf b hb;obtain ⟨q1,q2⟩:=ok.at' s k1;obtain ⟨r1,r2⟩:=ok.at' t m1;have e1:(dY rows part rows.length).2.getD s 0=(dY rows part rows.length).2.getD t 0:=k3.trans (e.trans m3.symm)
  have:db part (part.getD s 0) (rows.getD s [])=db part (part.getD t 0) (rows.getD t []):=by rw [<-q2, <- r2];simp only [e1]
  rw [<-k2, <- m2];exact qk this
 exact Er many (gk rows part) f (fun a ha=>(hf a ha).1) inj
end
structure C4 where
 order:List Nat
 rows:List bL
 ends:List Bool
section
variable (rows:List bL) (ends:List Bool) (part:List Nat)
def za (order:List Nat) (x:Nat):Option Nat:=(order.map (fun s=>part.getD s 0)).findIdx? (fun y=>x==y)
theorem Cp {order:List Nat} {x:Nat}:za part order x=none↔x∉order.map (fun s=>part.getD s 0):=by
 rw [za,R5]
 constructor
 ·intro h hm;have:=h x hm;simp at this
 ·intro h y hy
  cases hh:x==y
  ·rfl
  ·rw [beq_iff_eq] at hh;subst hh;exact absurd hy h
theorem Cq {order:List Nat} {x k:Nat} (h:za part order x=some k): ∃hk:k<order.length,part.getD order[k] 0=x:=by
 rw [za,R4] at h;obtain ⟨h1,h2,_⟩:=h;rw [Rv] at h1;rw [S7,beq_iff_eq] at h2;exact ⟨h1,h2.symm⟩
def Fe (st:List Nat×bL) (e:ByteArray×Nat):List Nat×bL:=
 match za part st.1 (part.getD e.2 0) with
 | some n=>(st.1,st.2++[(e.1,n)])
 | none=>(st.1++[e.2],st.2++[(e.1,st.1.length)])
def ij (order:List Nat) (row:bL):List Nat×bL:=row.foldl (Fe part) (order,[])
theorem sI (order:List Nat) (row:bL) (e:ByteArray×Nat):ij part order (row++[e])=Fe part (ij part order row) e:=by rw [ij,Sg];rfl
def iY (st:C4):Nat:=st.order.getD st.rows.length 0
def nY (st:C4):C4:=⟨(ij part st.order (rows.getD (iY st) [])).1,st.rows++[(ij part st.order (rows.getD (iY st) [])).2],st.ends++[ends.getD (iY st) false]⟩
def Co:Nat->C4->C4
 | 0,st=>st
 | f+1,st=>if st.rows.length<st.order.length then Co f (nY rows ends part st) else st
def q0:C4:=⟨[0],[],[]⟩
def iK:C4:=Co rows ends part (rows.length+1) q0
structure KM (st:C4):Prop where
 le:st.rows.length<=st.order.length
 nd:(st.order.map (fun s=>part.getD s 0)).Nodup
 lt: ∀s∈st.order,s<rows.length
 ends:st.ends.length=st.rows.length
 row: ∀k,k<st.rows.length->(st.rows.getD k []).map Prod.fst=(rows.getD (st.order.getD k 0) []).map Prod.fst∧ ∀p∈st.rows.getD k [],p.2<st.order.length
theorem JL {n:Nat} {a:List Nat×bL} {e:ByteArray×Nat} (he:e.2<n) (hn:(a.1.map (fun s=>part.getD s 0)).Nodup) (hl: ∀s∈a.1,s<n) (hr: ∀p∈a.2,p.2<a.1.length) :
  ((Fe part a e).1.map (fun s=>part.getD s 0)).Nodup∧(∀s∈(Fe part a e).1,s<n)∧(∀p∈(Fe part a e).2,p.2<(Fe part a e).1.length)∧a.1.length<=(Fe part a e).1.length ∧
  (Fe part a e).2.map Prod.fst=a.2.map Prod.fst++[e.1]∧ ∃t,(Fe part a e).1=a.1++t:=by
 unfold Fe
 split
 ·rename_i k hk;obtain ⟨h1,_⟩:=Cq part hk;refine ⟨hn,hl,fun p hp=> ?_,Qy _,by simp,[],by simp⟩;simp only [Si,S8] at hp
  rcases hp with hp|rfl
  ·exact hr p hp
  ·exact h1
 ·rename_i hk
  refine ⟨?_,fun s hs=> ?_,fun p hp=> ?_,by simp,by simp,_,rfl⟩
  ·rw [Ta,List.map_singleton,Tb];refine ⟨hn,by simp,fun x hx y hy=> ?_⟩;simp only [S8] at hy;subst hy;rintro rfl;exact (Cp part).1 hk hx
  ·simp only [Si,S8] at hs
   rcases hs with hs|rfl
   ·exact hl s hs
   ·exact he
  ·simp only [Si,S8,QH,Sl] at hp ⊢
   rcases hp with hp|rfl
   ·have:=hr p hp;omega
   ·simp
theorem uq {n:Nat} {order:List Nat} (hn:(order.map (fun s=>part.getD s 0)).Nodup) (hl: ∀s∈order,s<n): ∀row:bL,(∀p∈row,p.2<n) ->
  ((ij part order row).1.map (fun s=>part.getD s 0)).Nodup∧(∀s∈(ij part order row).1,s<n)∧(∀p∈(ij part order row).2,p.2<(ij part order row).1.length)∧order.length<=(ij part order row).1.length ∧
  (ij part order row).2.map Prod.fst=row.map Prod.fst∧ ∃t,(ij part order row).1=order++t:=by
 refine mC (fun _=>⟨hn,hl,by simp [ij],Qy _,by simp [ij],[],by simp [ij]⟩) ?_;intro row e ih hr;obtain ⟨h1,h2,h3,h4,h5,t,h6⟩:=ih (fun p hp=>hr p (List.mem_append_left _ hp));obtain ⟨k1,k2,k3,k4,k5,t2,k6⟩:=JL part (hr e (by simp)) h1 h2 h3;rw [<-sI] at k1 k2 k3 k4 k5 k6;exact ⟨k1,k2,k3,by omega,by rw [k5,h5,Ta];rfl,t++t2,by rw [k6,h6,Q6]⟩
theorem qh {n:Nat} {order:List Nat} (hn:(order.map (fun s=>part.getD s 0)).Nodup) (hl: ∀s∈order,s<n):order.length<=n:=by
 have h1:order.Nodup:=by
  rw [List.Nodup,S6] at hn ⊢;intro i j hi hj hij e
  have:=hn i j (by simpa using hi) (by simpa using hj) hij
  simp only [S7,e] at this;exact this rfl
 have:=h1.length_le_of_subset (l₂:=List.range n) (fun s hs=>RI.2 (hl s hs))
 simpa using this
theorem Lv (h:0<rows.length):KM rows part q0:=⟨by simp [q0],by simp [q0],by simpa [q0] using h,rfl,fun k hk=>by simp [q0] at hk⟩
theorem jn {α:Type} {l:List α} {a d:α} {i:Nat} (h:i<l.length):(l++[a]).getD i d=l.getD i d:=by
 rw [Rw,QE h,Rw]
theorem jm {α:Type} {l:List α} {a d:α}:(l++[a]).getD l.length d=a:=by
 rw [Rw,Q8 (Qy _)];simp
theorem fc {α:Type} {l t:List α} {d:α} {i:Nat} (h:i<l.length):(l++t).getD i d=l.getD i d:=by
 rw [Rw,QE h,Rw]
theorem ia {α:Type} {l:List α} {d:α} {i:Nat} (h:i<l.length):l.getD i d∈l:=by
 rw [Rw,List.getElem?_eq_getElem h];exact List.getElem_mem h
theorem Ff {st:C4} (hT: ∀r∈rows, ∀p∈r,p.2<rows.length) (h:KM rows part st) (h1:st.rows.length<st.order.length):KM rows part (nY rows ends part st):=by
 have hc:iY st<rows.length:=h.lt _ (ia h1);obtain ⟨k1,k2,k3,k4,k5,t,k6⟩:=uq part (n:=rows.length) h.nd h.lt (rows.getD (iY st) []) (hT _ (ia hc))
 refine ⟨?_,k1,k2, ?_,fun k hk=> ?_⟩
 ·simp only [nY,QH,Sl];omega
 ·simp only [nY,QH,Sl,h.ends]
 ·simp only [nY,QH,Sl] at hk ⊢
  rcases QF k st.rows.length with q|q
  ·obtain ⟨q1,q2⟩:=h.row k q;rw [jn q,k6,fc (by omega)];exact ⟨q1,fun p hp=>by have:=q2 p hp;simp only [QH];omega⟩
  ·obtain rfl:k=st.rows.length:=by omega
   rw [jm];refine ⟨?_,k3⟩;rw [k5,k6,fc h1];rfl
end
end
section
def look (row:bL) (l:ByteArray):Option Nat:=(row.find? (fun p=>cd l p.1)).map Prod.snd
def Lh (rows:List bL) (s:Nat):List ByteArray->Option Nat
 | []=>some s
 | l :: w=>match look (rows.getD s []) l with
  | some t=>Lh rows t w
  | none=>none
def El (rows:List bL) (ends:List Bool) (s:Nat) (w:List ByteArray):Bool:=match Lh rows s w with
 | some t=>ends.getD t false
 | none=>false
theorem si {row:bL} {l:ByteArray}:look row l=none↔l∉row.map Prod.fst:=by
 rw [look,Option.map_eq_none_iff,List.find?_eq_none]
 constructor
 ·intro h hm;obtain ⟨p,hp,rfl⟩:=List.mem_map.1 hm;exact h p hp (mA.2 rfl)
 ·intro h p hp he;rw [mA] at he;subst he;exact h (List.mem_map_of_mem hp)
theorem mh {row r2:bL} {l:ByteArray}:look (row++r2) l=(look row l).or (look r2 l):=by
 simp only [look,List.find?_append];cases row.find? (fun p=>cd l p.1)<;>rfl
theorem mi {m l:ByteArray} {t:Nat}:look [(m,t)] l=if l=m then some t else none:=by
 by_cases h:l=m
 ·subst h;simp [look,mA.2 rfl]
 ·have:cd l m=false:=by
   cases hh:cd l m
   ·rfl
   ·exact absurd (mA.1 hh) h
  simp [look,this,h]
theorem G5 {row:bL} (hn:(row.map Prod.fst).Nodup) {l:ByteArray} {t:Nat} (h:(l,t)∈row):look row l=some t:=by
 induction row with
 | nil=>simp at h
 | cons a row ih=>
  rw [Tc,List.nodup_cons] at hn
  rcases List.mem_cons.1 h with rfl|h
  ·simp [look,mA.2 rfl]
  ·have hne:cd l a.1=false:=by
    cases hh:cd l a.1
    ·rfl
    ·rw [mA] at hh;subst hh;exact absurd (List.mem_map_of_mem h) hn.1
   have:=ih hn.2 h
   simpa [look,hne] using this
section
variable (stp:List Nat->ByteArray->List Nat) (em:Bool) (la:List Nat)
def Ds (ai:List ByteArray) (all:List (List Nat)) (cur:List Nat) (row:bL):Prop:=
 ∀l,(l∈ai->stp cur l≠[]-> ∃k,look row l=some k∧all[k]? = some (stp cur l))∧((l∉ai∨stp cur l=[])->look row l=none)
theorem Ds.mono {ai:List ByteArray} {all t:List (List Nat)} {cur:List Nat} {row:bL} (h:Ds stp ai all cur row):Ds stp ai (all++t) cur row:=fun l=>
 ⟨fun h1 h2=>by
  obtain ⟨k,k1,k2⟩:=(h l).1 h1 h2
  exact ⟨k,k1,by rw [QE (QD.1 k2).1];exact k2⟩,(h l).2⟩
theorem Fs (cur:List Nat) {all:List (List Nat)}: ∀ai:List ByteArray,ai.Nodup->Ds stp ai (gw stp cur all ai).1 cur (gw stp cur all ai).2:=by
 refine mC (fun _ l=>⟨fun h=>by simp at h,fun _=>by simp [gw,look]⟩) ?_;intro ai m ih hn l;have hn':=List.nodup_append.1 hn;have ih:=ih hn'.1;have hm:m∉ai:=fun h=>hn'.2.2 m h m (by simp) rfl;rw [kM,As]
 by_cases he:stp cur m=[]
 ·rw [if_pos he]
  refine ⟨fun h1 h2=> ?_,fun h1=> ?_⟩
  ·rcases List.mem_append.1 h1 with h1|h1
   ·exact (ih l).1 h1 h2
   ·simp only [List.mem_singleton] at h1;subst h1;exact absurd he h2
  ·by_cases hl:stp cur l=[]
   ·exact (ih l).2 (.inr hl)
   ·rcases h1 with h1|h1
    ·exact (ih l).2 (.inl (fun q=>h1 (List.mem_append_left _ q)))
    ·exact absurd h1 hl
 ·rw [if_neg he]
  have nl:l≠m->(l∈ai++[m]↔l∈ai):=fun h=>by simp [h]
  split
  ·rename_i k hk;obtain ⟨hk1,hk2⟩:=qu hk;rw [S7] at hk2;have hk3:=Ev hk2;rw [Rv] at hk1
   refine ⟨fun h1 h2=> ?_,fun h1=> ?_⟩
   ·rw [mh,mi]
    by_cases hlm:l=m
    ·subst hlm;exact ⟨k,by rw [(ih l).2 (.inl hm),if_pos rfl];rfl,by rw [QS hk1,hk3]⟩
    ·obtain ⟨j,j1,j2⟩:=(ih l).1 ((nl hlm).1 h1) h2;exact ⟨j,by rw [j1];rfl,j2⟩
   ·rw [mh,mi]
    have hlm:l≠m:=fun e=>by subst e;rcases h1 with h1|h1<;>simp_all
    rw [if_neg hlm,(ih l).2 (h1.imp (fun q r=>q ((nl hlm).2 r)) id)];rfl
  ·refine ⟨fun h1 h2=> ?_,fun h1=> ?_⟩
   ·rw [mh,mi]
    by_cases hlm:l=m
    ·subst hlm;exact ⟨_,by rw [(ih l).2 (.inl hm),if_pos rfl];rfl,by rw [List.getElem?_append_right (Nat.le_refl _)];simp⟩
    ·obtain ⟨j,j1,j2⟩:=(ih l).1 ((nl hlm).1 h1) h2;exact ⟨j,by rw [j1];rfl,by rw [QE (QD.1 j2).1];exact j2⟩
   ·rw [mh,mi]
    have hlm:l≠m:=fun e=>by subst e;rcases h1 with h1|h1<;>simp_all
    rw [if_neg hlm,(ih l).2 (h1.imp (fun q r=>q ((nl hlm).2 r)) id)];rfl
structure SW (ai:List ByteArray) (st:oD):Prop where
 zero:st.all[0]? = some [0]
 row: ∀i,i<st.rows.length->Ds stp ai st.all (st.all.getD i []) (st.rows.getD i [])
 Lb: ∀i,i<st.rows.length->st.ends.getD i false=((i==0&&em)||(st.all.getD i []).any (fun p=>la.contains p))
theorem H8 {ai:List ByteArray} (hn:ai.Nodup) {st:oD} (ho:C5 ai st) (h:SW stp em la ai st) (h1:st.rows.length<st.all.length):SW stp em la ai (dv stp em la ai st):=by
 obtain ⟨_,_,_,_,_,t,k6⟩:=uF stp (cur:=ep st) ho.nd ai;have hr:=Fs stp (ep st) (all:=st.all) ai hn
 have hg: ∀i,i<st.all.length->(dv stp em la ai st).all.getD i []=st.all.getD i []:=fun i hi=>by simp only [dv,k6];exact fc hi
 refine ⟨?_,fun i hi=> ?_,fun i hi=> ?_⟩
 ·simp only [dv,k6];rw [QE (by omega)];exact h.zero
 ·have hi':i<st.rows.length+1:=by simpa [dv] using hi
  rw [hg i (by omega)]
  rcases Nat.lt_or_ge i st.rows.length with q|q
  ·simp only [dv,k6,jn q];exact (h.row i q).mono
  ·obtain rfl:i=st.rows.length:=by omega
   simp only [dv,jm];exact hr
 ·have hi':i<st.rows.length+1:=by simpa [dv] using hi
  rw [hg i (by omega)]
  rcases Nat.lt_or_ge i st.rows.length with q|q
  ·simp only [dv];rw [jn (by rw [ho.ends];exact q)];exact h.Lb i q
  ·obtain rfl:i=st.rows.length:=by omega
   simp only [dv];rw [<-ho.ends,jm,xb,ep,ho.ends]
theorem Ft {ai:List ByteArray} (hn:ai.Nodup): ∀(f:Nat) {st st':oD},C5 ai st->SW stp em la ai st->qD stp em la ai f st=some st'->SW stp em la ai st'
 | 0,st,st',_,h,e=>by simp only [qD,QO] at e;subst e;exact h
 | f+1,st,st',ho,h,e=>by
  rw [qD] at e
  split at e
  ·rename_i h1
   split at e
   ·cases e
   ·rename_i h2;exact Ft hn f (qC stp em la ho h1 h2) (H8 stp em la hn ho h h1) e
  ·cases e;exact h
theorem Ia {ai:List ByteArray} (hn:ai.Nodup) {st:oD} (h:sT stp em la ai=some st):C5 ai st∧st.rows.length=st.all.length∧SW stp em la ai st:=by
 have ho:=Au stp em la 257 (JT ai) (by simp [s0]) h;exact ⟨ho.1,ho.2,Ft stp em la hn 257 (JT ai) ⟨rfl,fun i hi=>by simp [s0] at hi,fun i hi=>by simp [s0] at hi⟩ h⟩
def Made (a:List Nat):Prop:=a≠[]∧(a=[0]∨ ∃cur l,a=stp cur l)
theorem Cv {cur:List Nat} {all:List (List Nat)} (h: ∀a∈all,Made stp a): ∀ai:List ByteArray, ∀a∈(gw stp cur all ai).1,Made stp a:=by
 refine mC h ?_;intro ai l ih;rw [kM,As]
 split
 ·exact ih
 ·rename_i hne
  split
  ·exact ih
  ·intro a ha
   rcases List.mem_append.1 ha with ha|ha
   ·exact ih a ha
   ·simp only [List.mem_singleton] at ha;subst ha;exact ⟨hne, .inr ⟨_,_,rfl⟩⟩
variable {stp em la}
end
def wb:Go.Shelf.Ren:=⟨fun|7=>198|10=>226|n=>n,fun|23=>193|26=>9|3=>3|28=>239|0=>0|27=>209|33=>107|4=>4|n=>n,fun n=>n⟩
theorem sd:SlLaysZ.n7 Tryz.prog wb:={
 mixed:=by kernel_rfl
 f7:=⟨Tryz.f198.name,by decide,Tryz.func198⟩
 f10:=⟨Tryz.f226.name,by decide,Tryz.func226⟩
 t0:=by kernel_rfl
 a0:=fun w=>by kernel_rfl
 z0:=fun w=>by kernel_rfl
 v0:=fun w=>by kernel_rfl
 t4:=by kernel_rfl
 a4:=fun w=>by kernel_rfl
 z4:=fun w=>by kernel_rfl
 v4:=fun w=>by kernel_rfl
 t23:=by kernel_rfl
 a23:=fun w=>by kernel_rfl
 z23:=fun w=>by kernel_rfl
 v23:=fun w=>by kernel_rfl
 t26:=by kernel_rfl
 a26:=fun w=>by kernel_rfl
 z26:=fun w=>by kernel_rfl
 v26:=fun w=>by kernel_rfl
 t27:=by kernel_rfl
 a27:=fun w=>by kernel_rfl
 z27:=fun w=>by kernel_rfl
 v27:=fun w=>by kernel_rfl
 t28:=by kernel_rfl
 a28:=fun w=>by kernel_rfl
 z28:=fun w=>by kernel_rfl
 v28:=fun w=>by kernel_rfl
 t33:=by kernel_rfl
 a33:=fun w=>by kernel_rfl
 z33:=fun w=>by kernel_rfl
 v33:=fun w=>by kernel_rfl }
def qK:Go.Shelf.Ren:=⟨fun|6=>197|8=>225|9=>148|11=>241|13=>188|12=>187|23=>221|24=>222|14=>212|15=>213|16=>214|17=>215|18=>216|19=>217|20=>218|21=>219|22=>220|25=>233|26=>234|27=>235|28=>236|29=>237|30=>238|31=>243|n=>n,fun|26=>9|28=>239|24=>43|0=>0|3=>3|37=>121|48=>179|50=>261|4=>4|40=>253|39=>252|45=>195|5=>5|9=>9|51=>267|55=>271|57=>279|58=>280|33=>107|n=>n,fun n=>n⟩
theorem xg:SlLaysZ.n6 Tryz.prog qK:={
 mixed:=by kernel_rfl
 f6:=⟨Tryz.f197.name,by decide,Tryz.func197⟩
 f8:=⟨Tryz.f225.name,by decide,Tryz.func225⟩
 f11:=⟨Tryz.f241.name,by decide,Tryz.func241⟩
 t0:=by kernel_rfl
 a0:=fun w=>by kernel_rfl
 z0:=fun w=>by kernel_rfl
 v0:=fun w=>by kernel_rfl
 t24:=by kernel_rfl
 a24:=fun w=>by kernel_rfl
 z24:=fun w=>by kernel_rfl
 v24:=fun w=>by kernel_rfl
 t26:=by kernel_rfl
 a26:=fun w=>by kernel_rfl
 z26:=fun w=>by kernel_rfl
 v26:=fun w=>by kernel_rfl
 t28:=by kernel_rfl
 a28:=fun w=>by kernel_rfl
 z28:=fun w=>by kernel_rfl
 v28:=fun w=>by kernel_rfl
 i26:=by kernel_rfl }
def Fx:Go.Shelf.Ren:=⟨fun|6=>148|8=>188|9=>187|19=>221|20=>222|21=>212|22=>213|23=>214|24=>215|25=>216|26=>217|27=>218|28=>219|29=>220|36=>233|31=>234|32=>235|37=>236|38=>237|39=>238|41=>243|n=>n,fun|27=>43|29=>9|3=>3|32=>121|26=>43|0=>0|44=>179|46=>261|4=>4|36=>253|35=>252|41=>195|5=>5|9=>9|53=>267|57=>271|63=>279|64=>280|n=>n,fun n=>n⟩
theorem kO:SlLaysM.n6 Tryz.prog Fx:={
 mixed:=by kernel_rfl
 f6:=⟨Tryz.f148.name,by decide,Tryz.func148⟩
 f8:=Tryz.func188
 f9:=⟨Tryz.f187.name,by decide,Tryz.func187⟩
 f19:=Tryz.func221
 f20:=Tryz.func222
 f21:=⟨Tryz.f212.name,by decide,Tryz.func212⟩
 f22:=⟨Tryz.f213.name,by decide,Tryz.func213⟩
 f23:=⟨Tryz.f214.name,by decide,Tryz.func214⟩
 f24:=⟨Tryz.f215.name,by decide,Tryz.func215⟩
 f25:=⟨Tryz.f216.name,by decide,Tryz.func216⟩
 f26:=⟨Tryz.f217.name,by decide,Tryz.func217⟩
 f27:=⟨Tryz.f218.name,by decide,Tryz.func218⟩
 f28:=⟨Tryz.f219.name,by decide,Tryz.func219⟩
 f29:=⟨Tryz.f220.name,by decide,Tryz.func220⟩
 f31:=Tryz.func234
 f32:=Tryz.func235
 f36:=⟨Tryz.f233.name,by decide,Tryz.func233⟩
 f37:=⟨Tryz.f236.name,by decide,Tryz.func236⟩
 f38:=⟨Tryz.f237.name,by decide,Tryz.func237⟩
 f39:=⟨Tryz.f238.name,by decide,Tryz.func238⟩
 f41:=⟨Tryz.f243.name,by decide,Tryz.func243⟩
 t0:=by kernel_rfl
 a0:=fun w=>by kernel_rfl
 z0:=fun w=>by kernel_rfl
 v0:=fun w=>by kernel_rfl
 t3:=by kernel_rfl
 a3:=fun w=>by kernel_rfl
 z3:=fun w=>by kernel_rfl
 v3:=fun w=>by kernel_rfl
 t4:=by kernel_rfl
 a4:=fun w=>by kernel_rfl
 z4:=fun w=>by kernel_rfl
 v4:=fun w=>by kernel_rfl
 t5:=by kernel_rfl
 a5:=fun w=>by kernel_rfl
 z5:=fun w=>by kernel_rfl
 v5:=fun w=>by kernel_rfl
 t9:=by kernel_rfl
 a9:=fun w=>by kernel_rfl
 z9:=fun w=>by kernel_rfl
 v9:=fun w=>by kernel_rfl
 t26:=by kernel_rfl
 a26:=fun w=>by kernel_rfl
 z26:=fun w=>by kernel_rfl
 v26:=fun w=>by kernel_rfl
 t27:=by kernel_rfl
 a27:=fun w=>by kernel_rfl
 z27:=fun w=>by kernel_rfl
 v27:=fun w=>by kernel_rfl
 t29:=by kernel_rfl
 a29:=fun w=>by kernel_rfl
 z29:=fun w=>by kernel_rfl
 v29:=fun w=>by kernel_rfl
 t32:=by kernel_rfl
 a32:=fun w=>by kernel_rfl
 z32:=fun w=>by kernel_rfl
 v32:=fun w=>by kernel_rfl
 t35:=by kernel_rfl
 a35:=fun w=>by kernel_rfl
 z35:=fun w=>by kernel_rfl
 v35:=fun w=>by kernel_rfl
 t36:=by kernel_rfl
 a36:=fun w=>by kernel_rfl
 z36:=fun w=>by kernel_rfl
 v36:=fun w=>by kernel_rfl
 t41:=by kernel_rfl
 a41:=fun w=>by kernel_rfl
 z41:=fun w=>by kernel_rfl
 v41:=fun w=>by kernel_rfl
 t44:=by kernel_rfl
 a44:=fun w=>by kernel_rfl
 z44:=fun w=>by kernel_rfl
 v44:=fun w=>by kernel_rfl
 t46:=by kernel_rfl
 a46:=fun w=>by kernel_rfl
 z46:=fun w=>by kernel_rfl
 v46:=fun w=>by kernel_rfl
 t53:=by kernel_rfl
 a53:=fun w=>by kernel_rfl
 z53:=fun w=>by kernel_rfl
 v53:=fun w=>by kernel_rfl
 t57:=by kernel_rfl
 a57:=fun w=>by kernel_rfl
 z57:=fun w=>by kernel_rfl
 v57:=fun w=>by kernel_rfl
 t63:=by kernel_rfl
 a63:=fun w=>by kernel_rfl
 z63:=fun w=>by kernel_rfl
 v63:=fun w=>by kernel_rfl
 t64:=by kernel_rfl
 a64:=fun w=>by kernel_rfl
 z64:=fun w=>by kernel_rfl
 v64:=fun w=>by kernel_rfl }
def cU (r:bL):List (List AV):=r.map (fun p=>[.v (.string p.1), .v (.int .i64 (p.2:Nat))])
theorem EL (r:bL):(cU r).length=r.length:=by simp [cU]
@[go_sem] theorem oS (n:Nat) (r:bL):dz n (cU r)=true:=bA _ (fun p=>rfl) _
theorem x8 (s:ByteArray): ∀r:bL,kS .string (.string s) (cU r)=some ((look r s).map (fun n=> .v (.int .i64 (n:Nat))))
 | []=>rfl
 | p :: l=>by
  have ih:=x8 s l;simp only [cU,Tc,kS];rw [if_pos (show di .string (.string p.1)=true from rfl)]
  by_cases h:dQ (.string s) (.string p.1)=true
  ·have h':cd s p.1=true:=h;rw [if_pos h];simp [look,h']
  ·have h':cd s p.1=false:=by
    cases hh:cd s p.1
    ·rfl
    ·exact absurd hh h
   rw [if_neg h];simp only [cU] at ih;rw [ih];simp [look,h']
theorem mP (s:ByteArray) (n:Nat): ∀r:bL,look r s=none->lj .string (.string s) (.v (.int .i64 (n:Nat))) (cU r)=some (cU (r++[(s,n)]))
 | [],_=>rfl
 | p :: l,hn=>by
  simp only [cU,Tc,lj,SB];rw [if_pos (show di .string (.string p.1)=true from rfl)]
  by_cases h:dQ (.string s) (.string p.1)=true
  ·have h':cd s p.1=true:=h;simp [look,h'] at hn
  ·have h':cd s p.1=false:=by
    cases hh:cd s p.1
    ·rfl
    ·exact absurd hh h
   have ih:=mP s n l (by simpa [look,h'] using hn);rw [if_neg h];simp only [cU] at ih;rw [ih];rfl
@[go_sem] theorem mH (n:Nat) (rows:List bL):dz n (rows.map (fun r=>[AV.mp (cU r)]))=true:=bA _ (fun r=>by simp only [bw,AV.wf,oS,SE]) _
@[go_sem] theorem mG (n:Nat) (ends:List Bool):dz n (ends.map (fun b=>[AV.v (.bool b)]))=true:=bA _ (fun r=>rfl) _
def gV (rows:List bL) (ends:List Bool):List AV:=[.aE 1 (rows.map (fun r=>[.mp (cU r)])) rows.length, .aE 1 (ends.map (fun b=>[.v (.bool b)])) ends.length]
section
open Go.Maps Go.Sort Go.WideElems
theorem Ms:Tryz.prog.underlying 9=some .string:=by kernel_rfl
def DG (_:Value):Option (DataW Unit×List MemPlace):=some (.lit (.bool true),[])
def nT (r:bL):List (List UInt8):=r.map (fun p=>p.1.data.toList)
theorem JO {e:MapEntry} {s:ByteArray} (hk:e.key = .string s) (hs:s.size<=maxLen):rd Tryz.prog 9 DG e=some (.string s.data.toList, .lit (.bool true)):=by
 unfold WideElems.rd;rw [hk,Go.WideMaps.keyOf_string_mk Ms hs];rfl
theorem G8 {D:Nat->Prop} {nu:Nat->Nat->Value} {o:List (Option aa)} {w:World} {r:bL} {x:Value} (h:RA D nu o w (.mp (cU r)) x) (hs: ∀p∈r,p.1.size<=maxLen) (hn:(r.map Prod.fst).Nodup) (hl:r.length<=1000000) :
  ∃b D0,x = .map (some b)∧b<w.heap.size∧w.ownsMap Tryz.prog 9 DG b r.length D0∧(strKeys D0).Perm (nT r)∧Maps.size D0=r.length:=by
 cases h with
 | mp _ b es cl h1 h2 h3 h4 h5 h6 h7=>
 have hlen:es.size=r.length:=by rw [h3,EL]
 have hget: ∀(i:Nat) (hi:i<es.toList.length),es[i]? = some es.toList[i]:=fun i hi=>by rw [<-Array.getElem?_toList];exact QS hi
 have hk: ∀(i:Nat) (hi:i<es.toList.length) (hi':i<r.length),(es.toList[i]).key=Value.string r[i].1:=fun i hi hi'=>by
  have hrow:(cU r)[i]? = some [.v (.string r[i].1), .v (.int .i64 (r[i].2:Nat))]:=by rw [cU,QV,QS hi'];rfl
  exact (h7 i 0 _ _ _ hrow rfl (hget i hi)).plain
 have hkeys:es.toList.map (fun e=>e.key)=r.map (fun p=>Value.string p.1):=List.ext_getElem (by simp [hlen]) fun i k1 k2=>by
  rw [S7,S7];exact hk i (by simpa using k1) (by simpa using k2)
 have hrd: ∀(i:Nat) (hi:i<es.toList.length) (hi':i<r.length),rd Tryz.prog 9 DG es.toList[i]=some (.string r[i].1.data.toList, .lit (.bool true)):=fun i hi hi'=>JO (hk i hi hi') (hs _ (List.getElem_mem hi'))
 refine ⟨b,_,rfl,h1.1,⟨es,cl,h2,⟨by unfold maxLen;omega,⟨?_, ?_, ?_⟩, ?_⟩,by omega,rfl⟩, ?_, ?_⟩
 ·intro e he;obtain ⟨i,hi,rfl⟩:=List.getElem_of_mem he;exact h5 i _ (hget i hi)
 ·rw [List.Nodup,List.pairwise_iff_getElem];intro i j hi hj hij;rw [S7,S7]
  have:=h6 i j _ _ (hget i (by simpa using hi)) (hget j (by simpa using hj)) hij
  omega
 ·have e:es.toList.map (fun x=>x.key)=(r.map Prod.fst).map Value.string:=by rw [hkeys,Te];rfl
  rw [e,List.Nodup,Tf];exact hn.imp fun hne e=>hne (by cases e;rfl)
 ·intro e he;obtain ⟨i,hi,rfl⟩:=List.getElem_of_mem he;exact ⟨_,hrd i hi (by simpa [hlen] using hi)⟩
 ·rw [strKeys];refine ((WideShapes.sorted_perm _).map _).trans (List.Perm.of_eq ?_);rw [Te];refine List.ext_getElem (by simp [nT,hlen]) fun i k1 k2=> ?_
  have hi:i<es.toList.length:=by simpa using k1
  simp only [nT,S7,Function.comp];rw [rg_of (hrd i hi (by simpa [hlen] using hi))];rfl
 ·show (List.foldr DataW.insert [] _).length=_;rw [(WideShapes.sorted_perm _).length_eq,Rv];simp [hlen]
def lU (l:List ByteArray):Prop:=l.Pairwise (fun a b=>a.data.toList<b.data.toList)
theorem BZ {r:bL} (h:lU (r.map Prod.fst)):(nT r).mergeSort (fun x y=>decide (x<=y))=nT r:=by
 refine List.mergeSort_of_pairwise ?_;rw [nT,Tf];rw [lU,Tf] at h;exact h.imp fun hh=>decide_eq_true (List.le_of_lt hh)
theorem oP {l:List ByteArray} (h:lU l):l.Nodup:=h.imp fun {a b} hh e=>by subst e;exact absurd hh (List.lt_irrefl _)
end
def Lr (_:Nat->Prop) (_:World) (x:Value):Prop:= ∃b,x = .pointer (some ⟨b,0,none⟩)
def wa (r:bL):AV:= .fn 226 [] [.iP Lr (.vp [.mp (cU r)])]
@[go_sem] theorem xG (n:Nat) (r:bL):(wa r).wf n=true:=by simp only [wa,AV.wf,bw,oS,SE]
theorem GU (r:bL):ah Tryz.prog 198 [.mp (cU r)] (wa r):=by
 refine ⟨⟨by simp only [bw,AV.wf,oS,SE],xG 0 r⟩,by kernel_rfl,fun D nu w vargs hro hra=> ?_⟩;obtain ⟨x,rfl,hx⟩:=dI hra
 obtain ⟨b,rfl⟩: ∃b,x = .map (some b):=by cases hx;exact ⟨_,rfl⟩
 refine ((callsIn_wide (n:=5)).1 (AnyZ.keys_in sd Fence.wide 5 trivial rfl (some b) w)).mono ?_;rintro e w' ⟨rfl,rfl⟩;have hb:Below w.heap.size w (w.alloc (.cells #[.map (some b)] 193)):=(Below.refl _ _).alloc (Nat.le_refl _) _;have hz:Fz D nu [] (w.alloc (.cells #[.map (some b)] 193)) w.heap.size:=⟨by simp,bf _ _,hro.up _ (Nat.le_refl _)⟩;refine ⟨_,nu,[],wa r,rfl,ar hb,hro.below hb, ?_,rfl,rfl⟩;refine .fn _ _ _ _ _ rfl rfl (fun i c x h=>by simp at h) (fun i c y h1 h2=> ?_)
 cases i with
 | succ i=>simp at h1
 | zero=>
  simp only [RU,QO] at h1;simp at h2;subst h1;subst h2
  refine .iP _ _ _ (fun _=>False) rfl (fun b h=>h.elim) (fun b h=>h.elim) (fun w' _=>⟨_,rfl⟩) (.vp _ _ 0 (fun _=> .map (some b)) hz (fun j c hc=> ?_) (fun j c hc=> ?_) (fun j c hc=>rfl))
  ·cases j with
   | succ j=>simp at hc
   | zero=>
    have h:=cG w (.cells #[.map (some b)] 193);exact (ph h 0).trans rfl
  ·cases j with
   | succ j=>simp at hc
   | zero=>
    simp only [RU,QO] at hc;subst hc;exact hx.mono (ar hb) (fun _ _ h=>h)
theorem JW (m:Nat):AnyZ.SortsIn Tryz.prog qK Fence.wide m:=
 ⟨fun blk off cap ss W hH hblk hsz=>callsIn_wide.2 (AnyM.slices_Sort_string kO blk off cap ss W hH hblk hsz),
  fun p cap W=>callsIn_wide.2 (AnyM.slices_Sort_string_none kO p cap W)⟩
theorem Cz (r:bL) (hs: ∀p∈r,p.1.size<=maxLen) (hr:lU (r.map Prod.fst)) (hl:r.length<=1000000):ah Tryz.prog 197 [wa r] (aS (r.map Prod.fst)):=
 .uc (by kernel_rfl) (by simp only [bw,xG,SE]) (fun D nu w vargs hra=>by
  obtain ⟨x,rfl,hx⟩:=dI hra
  cases hx with
  | fn _ _ _ fi ca h1 h2 h3 h4=>
  obtain ⟨y,rfl,hy⟩:=dI (D:=D) (nu:=nu) (o:=[]) (w:=w) ⟨h2,h4⟩;obtain rfl:fi = #[]:=Array.eq_empty_of_size_eq_zero (by simpa using h1.symm)
  cases hy with
  | iP _ _ _ S k0 k1 k2 k3 k4=>
  obtain ⟨Bm,rfl⟩:=k3 w (fun _ _=>rfl)
  cases k4 with
  | vp _ _ _ f q1 q2 q3 q4=>
  have hm:=q2 0 _ rfl;have hmap:=q3 0 _ rfl;obtain ⟨b,D0,e0,hb,hown,hperm,hsize⟩:=G8 hmap hs (oP hr) hl;rw [e0] at hm;simp only [Nat.add_zero] at hm;have hseq:=AnyZ.keys_gives (ρ:=wb) { sd with } Fence.wide 2 trivial rfl (by omega) Bm b r.length D0 w q1.1 hm hown;have cS:=AnyZ.sorted_in xg Fence.wide 5 trivial trivial trivial trivial rfl (by omega) (JW _) (enters_of Tryz.func148 (by kernel_rfl) rfl) 226 #[.pointer (some ⟨Bm,0,none⟩)] trivial (enters_of Tryz.func226 (by kernel_rfl) rfl) _ _ (by rw [hsize];unfold maxLen;omega) (by rw [hsize];omega) w hseq;refine ((callsIn_wide (n:=5)).1 cS).mono ?_;rintro e w' ⟨v,ss,rfl,hS,hrow,hnil,hbl⟩
  have hlen:ss.length=(r.map Prod.fst).length:=by rw [hS.length_eq,hperm.length_eq,nT,Rv,Rv]
  have hk:(ss.mergeSort (fun x y=>decide (x<=y))).map encStr=(r.map Prod.fst).map Value.string:=by
   rw [Go.mergeSort_of_perm (hS.trans hperm),BZ hr,nT,Te,Te];refine List.map_congr_left fun p _=> ?_;simp [encStr]
  rw [hlen,hk] at hrow
  exact ⟨v,rfl,lL hrow,hbl,sy hrow⟩)
theorem G7 {r:bL} {i:Nat} (h:i<r.length):cU (r.drop i)=[.v (.string r[i].1), .v (.int .i64 (r[i].2:Nat))] :: cU (r.drop (i+1)):=by
 rw [cU,List.drop_eq_getElem_cons h];rfl
theorem Js {r:bL} (hr:lU (r.map Prod.fst)) {i:Nat} (h:i<r.length):look r r[i].1=some r[i].2:=G5 (oP hr) (List.getElem_mem h)
theorem sW (rows:List bL) (ends:List Bool) (s:Nat) (hs:s<rows.length) (hN:rows.length<=1000000) (hz: ∀p∈rows[s],p.1.size<=maxLen) (hr:lU (rows[s].map Prod.fst)) (hl:rows[s].length<=1000000) :
  gU Tryz.prog 196 [.vp [.vp (gV rows ends)], .vp [.v (.int .i64 (s:Nat))]] [] (cU rows[s]):=by
 have CK:=GU rows[s];have CS:=Cz rows[s] hz hr hl
 have e0:cU rows[s]=cU (rows[s].drop 0):=by rw [List.drop_zero]
 have eR:(rows.map (fun r=>[AV.mp (cU r)])).getD s []=[.mp (cU rows[s])]:=by
  rw [Rw,QV,QS hs];rfl
 rw [show gU Tryz.prog 196 [.vp [.vp (gV rows ends)], .vp [.v (.int .i64 (s:Nat))]] [] (cU rows[s])=gU Tryz.prog 196 [.vp [.vp (gV rows ends)], .vp [.v (.int .i64 (s:Nat))]] [] (cU (rows[s].drop 0)) by rw [<-e0]];simp only [gV,aS,Rv] at *
 (refine gU.enter Tryz.func196 rfl (by kernel_rfl) (by kernel_rfl) rfl (fun l=> ?_);simp only [Tryz.ntmps196,Tryz.results196,List.length_cons,List.length_nil,Nat.reduceAdd,Nat.reduceSub,SG,SH,SB,List.nil_append])
 repeat (first|(with_reducible first|refine af.up ?_|refine fun (K:AK) hK=> ?_|refine ag (by decide) ?_|(refine hK _ ?_;clear hK K))|simp only [go_sem,eR]|with_reducible refine wA ?_|clear hK K)
 refine dU [] [] (by decide+kernel) (by kernel_rfl) ?_
 repeat (first|(with_reducible first|refine af.up ?_|refine fun (K:AK) hK=> ?_|refine ag (by decide) ?_|(refine hK _ ?_;clear hK K))|simp only [go_sem,eR]|with_reducible refine wA ?_|clear hK K)
 refine bc.one CK ?_
 repeat (first|(with_reducible first|refine af.up ?_|refine fun (K:AK) hK=> ?_|refine ag (by decide) ?_|(refine hK _ ?_;clear hK K))|simp only [go_sem,eR]|with_reducible refine wA ?_|clear hK K)
 refine bc.one CS ?_
 repeat (first|(with_reducible first|refine af.up ?_|refine fun (K:AK) hK=> ?_|refine ag (by decide) ?_|(refine hK _ ?_;clear hK K))|simp only [go_sem,eR]|with_reducible refine wA ?_|clear hK K)
 refine fJ (ι:=Nat) 17 (fun i=>[(16, .v (.int .i64 i)),(5, .undef)]) (fun i=>[]) (fun i=> .run l (cU (rows[s].drop i))) (fun i=>rows[s].length - i) (fun i=>i<=rows[s].length) 0 (by omega) ?_ ?_
 ·(refine aj ?_ ?_ ?_<;>simp only [aT,List.foldl_cons,List.foldl_nil,SG,SH,bj,bg,AV.v.injEq,Value.int.injEq,Value.bool.injEq,Value.string.injEq,AV.vec.injEq,AV.ptr.injEq,true_or,or_true,false_or,or_false,aa.mk.injEq,forall_eq_apply_imp_iff,forall_eq,forall_eq',go_sem])
  rfl
 ·rintro i hi K hK
  repeat (first|(with_reducible first|refine af.up ?_|refine fun (K:AK) hK=> ?_|refine ag (by decide) ?_|(refine hK _ ?_;clear hK K))|simp only [go_sem]|with_reducible refine wA ?_|clear hK K)
  refine cQ.part (fun h=> ?_) (fun h=> ?_)
  ·have hlt:i<rows[s].length:=by (try simp only [bne_iff_ne,ne_eq,bne_eq_false_iff_eq,beq_iff_eq,beq_eq_false_iff_ne,decide_eq_true_eq,decide_eq_false_iff_not,SI,Int.natCast_inj,Int.ofNat_lt,Int.ofNat_le] at h);omega
   have eW:=aM (k:=i) (by omega)
   have eG:(List.map encS (List.map Prod.fst rows[s])).getD i []=[.v (.string rows[s][i].1)]:=by
    rw [Rw,QV,QV,QS hlt];rfl
   have eY:=G7 hlt;have eA:=x8 rows[s][i].1 rows[s];rw [Js hr hlt] at eA;simp only [Option.map_some] at eA
   repeat (first|(with_reducible first|refine af.up ?_|refine fun (K:AK) hK=> ?_|refine ag (by decide) ?_|(refine hK _ ?_;clear hK K))|simp only [go_sem,eG,h]|with_reducible refine wA ?_|clear hK K)
   (refine Bq 11 (by decide+kernel) (by kernel_rfl) ?_;simp only [List.drop_succ_cons,List.drop_zero,List.take_succ_cons,List.take_zero])
   repeat' (first|(with_reducible first|refine af.up ?_|refine fun (K:AK) hK=> ?_|refine ag (by decide) ?_|(refine hK _ ?_;clear hK K))|simp only [go_sem,eR,eA,eY,eW,Go.undef]|with_reducible refine wA ?_|clear hK K|(with_reducible refine ae.one (by assumption) ?_)|(with_reducible refine bc.one (by assumption) ?_)|(refine cQ.part (fun hb=> ?_) (fun hb=> ?_)<;>simp only [hb,go_sem,eR,eA,eY,eW,Go.undef])|(refine cQ.part (fun hb=> ?_) (fun hb=> ?_))|(with_reducible refine dZ.mk ?_ ?_))
   ·exact aQ.mk (i+1) (by omega) (by omega) (by (refine aj ?_ ?_ ?_<;>simp only [aT,List.foldl_cons,List.foldl_nil,SG,SH,bj,bg,AV.v.injEq,Value.int.injEq,Value.bool.injEq,Value.string.injEq,AV.vec.injEq,AV.ptr.injEq,true_or,or_true,false_or,or_false,aa.mk.injEq,forall_eq_apply_imp_iff,forall_eq,forall_eq',go_sem]))
   ·exact .inr trivial
  ·have e1:rows[s].drop i=[]:=List.drop_eq_nil_of_le (by (try simp only [bne_iff_ne,ne_eq,bne_eq_false_iff_eq,beq_iff_eq,beq_eq_false_iff_ne,decide_eq_true_eq,decide_eq_false_iff_not,SI,Int.natCast_inj,Int.ofNat_lt,Int.ofNat_le] at h);omega);simp only [e1,cU,List.map_nil]
   repeat (first|(with_reducible first|refine af.up ?_|refine fun (K:AK) hK=> ?_|refine ag (by decide) ?_|(refine hK _ ?_;clear hK K))|simp only [go_sem]|with_reducible refine wA ?_|clear hK K)
   exact .inl trivial
theorem AA (rows:List bL) (ends:List Bool) (s:Nat):ah Tryz.prog 158 [.vp (gV rows ends), .v (.int .i64 (s:Nat))] (.fn 196 [] [.vp [.vp (gV rows ends)], .vp [.v (.int .i64 (s:Nat))]]):=by
 simp only [gV] at *
 (refine ah.enter Tryz.func158 rfl (by kernel_rfl) (by kernel_rfl) rfl (by first|rfl|(simp only [go_sem,SE,Bool.and_true,Bool.true_and])) (by first|rfl|(simp only [go_sem,SE,Bool.and_true,Bool.true_and])) ?_;simp only [Tryz.ntmps158,Tryz.results158,List.length_cons,List.length_nil,Nat.reduceAdd,Nat.reduceSub,SG,SH,SB,List.nil_append])
 repeat' (first|(with_reducible first|refine af.up ?_|refine fun (K:AK) hK=> ?_|(refine hK _ ?_;clear hK K))|simp only [go_sem]|clear hK K|(with_reducible refine ae.one (by assumption) ?_)|(with_reducible refine bc.one (by assumption) ?_)|(refine cQ.part (fun hb=> ?_) (fun hb=> ?_)<;>simp only [hb,go_sem])|(refine cQ.part (fun hb=> ?_) (fun hb=> ?_))|(with_reducible refine dZ.mk ?_ ?_))
 (refine lR.of 40 rfl ?_;simp only [go_sem])
end
end Go.Proofs.YtjcobjgjjlahdaaGreatDoor
