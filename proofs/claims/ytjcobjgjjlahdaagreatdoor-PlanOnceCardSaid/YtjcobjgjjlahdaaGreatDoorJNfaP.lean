/- texts of one claim, one behind the other. -/
import Derived.Test.YtjcobjgjjlahdaaGreatDoorJOrdB
import Derived.Test.YtjcobjgjjlahdaaGreatDoorJAbsV
import Derived.Lib.ItoaNum
import Derived.Test.YtjcobjgjjlahdaaGreatDoorJChk3
import Derived.Shelf.SlIter.Sorted
import Derived.Shelf.SortM.Plain
import Derived.Shelf.SortM.SortNone
import Derived.Test.YtjcobjgjjlahdaaGreatDoorJVerts
set_option linter.unusedSimpArgs false
set_option linter.unusedVariables false
set_option maxRecDepth 100000
set_option maxHeartbeats 16000000
open Bool renaming and_self -> Tg, and_true -> SA, true_and -> SD, not_eq_eq_eq_not -> Tn, or_eq_true -> Si
open List renaming length_nil -> Q9, replicate_succ -> Ti, replicate_zero -> Tj, foldl_cons -> SI, foldl_nil -> SL, take_zero -> TE, take_succ_cons -> TF, getElem_cons_succ -> TG, pairwise_iff_getElem -> TH, length_map -> R5, getElem_map -> TI, mem_range -> Sh, mem_singleton -> TJ, mem_append -> SY, foldl_append -> SS, nil_append -> Tm, mem_cons_of_mem -> Sb, append_assoc -> RD, findIdx?_eq_none_iff -> SF, findIdx?_eq_some_iff_getElem -> SE, map_append -> TL, nodup_append -> TM, length_append -> Rf, length_singleton -> S4, getD_eq_getElem?_getD -> R6, getElem?_append_left -> Rb, getElem?_append_right -> RF, map_cons -> TN, getElem?_eq_some_iff -> Ra, getElem?_eq_getElem -> Rp, cons_append -> Tl, getElem?_map -> Rs, map_map -> TO, pairwise_map -> TQ, getElem?_cons_zero -> Su, getElem_mem -> S9, length_cons -> Rg, take_succ_eq_append_getElem -> SR
open Nat renaming lt_add_one -> TC, zero_lt_one -> TD, le_refl -> Q5, lt_or_ge -> Rc
open List.cons renaming injEq -> TK
open Option.some renaming injEq -> Rl
open BitVec renaming getLsbD_or -> TS
open Classical renaming byContradiction -> TR
namespace Go.Proofs.YtjcobjgjjlahdaaGreatDoor
open Go.RowKit
section
structure Na (ps:List bQ) (bq:aa) (x:List (Option aa)×(Nat×Nat)×(List Nat×List Nat)):Prop where
 q:x.1[0]? = some (some bq)
 a:x.1[x.2.1.1]? = some (some ⟨3,1,true,au x.2.2.1⟩)
 b:x.1[x.2.1.2]? = some (some ⟨3,1,true,au x.2.2.2⟩)
 ne:x.2.1.1≠x.2.1.2∧x.2.1.1≠0∧x.2.1.2≠0
 nd:x.2.2.2.Nodup
 lt: ∀k,k∈x.2.2.2->k<ps.length
 lo: ∀k,k∈x.2.2.1->k<ps.length
 le:x.2.2.1.length+x.2.2.2.length<=ps.length
 of:Fk ps x.2.2.2.length x.2.2.1 x.2.2.2=br ps
theorem Na.next {ps:List bQ} {bq:aa} {o o':List (Option aa)} {a b a' b':Nat} {out left:List Nat} (h:Na ps bq (o,(a,b),(out,left))) (hne:left≠[]) (h0:o'[0]? = some (some bq))
  (h1:o'[a']? = some (some ⟨3,1,true,au (out++[fp ps out left])⟩)) (h2:o'[b']? = some (some ⟨3,1,true,au (left.filter (fun j=>j !=fp ps out left))⟩)) (hn:a'≠b'∧a'≠0∧b'≠0) :
  Na ps bq (o',(a',b'),(out++[fp ps out left],left.filter (fun j=>j !=fp ps out left)))∧(left.filter (fun j=>j !=fp ps out left)).length<left.length:=by
 have hm:=sJ ps out hne;have hnd:left.Nodup:=h.nd;have hl:=pS hnd hm;have hle:out.length+left.length<=ps.length:=h.le;have hof:Fk ps left.length out left=br ps:=h.of
 refine ⟨⟨h0,h1,h2,hn,hnd.filter _,fun k hk=>h.lt k (List.mem_filter.1 hk).1,fun k hk=> ?_,by simp only [List.length_append,List.length_singleton];omega, ?_⟩,by omega⟩
 ·rcases List.mem_append.1 hk with hk|hk
  ·exact h.lo k hk
  ·rw [List.mem_singleton.1 hk];exact h.lt _ hm
 show Fk ps (left.filter (fun j=>j !=fp ps out left)).length (out++[fp ps out left]) (left.filter (fun j=>j !=fp ps out left))=_;rw [<-hl,Fk] at hof
 have he:left.isEmpty=false:=by cases left<;>simp_all
 rw [he] at hof;simpa using hof
theorem Lk (q:fg) (hk:q.ok) (h1:q.aj.length<=400000) (h2:q.conds.length<=1000000) (h3:q.ret.length<=1000000) :
  ag Tryz.prog 29 [.agg (cd q)] (if fR q=0 then .dC [.aC 1 (au (br q.aj)) (br q.aj).length, .v (.int .i64 0)] else .dC [.v (.slice none 0 0), .v (.int .i64 (fR q))]):=by
 have C:=sZ q hk h1 h2 h3;have hnl:=wW q.aj;have N:=DJ q (by omega) (by omega);obtain ⟨ps,cs,rs,ra,sl⟩:=q;simp only at h1 hnl;simp only [cd] at C N ⊢;generalize fR ⟨ps,cs,rs,ra,sl⟩=e at C ⊢
 by_cases he:e=0
 ·rw [he] at C ⊢;rw [if_pos rfl]
  (refine ag.enter Tryz.func29 rfl (by kernel_rfl) (by kernel_rfl) rfl (by simp only [go_sem,bn,AV.wf,Tg,SA,SD,bF]) (by simp only [go_sem,bn,AV.wf,aA,Tg,SA,SD,bF]) ?_;simp only [Tryz.ntmps29,Tryz.results29,List.length_cons,Q9,Nat.reduceAdd,Nat.reduceSub,Ti,Tj,List.cons_append,List.nil_append])
  repeat (first|(with_reducible first|refine af.up ?_|refine fun (K:AK) hK=> ?_|refine bX (by kernel_rfl) (by kernel_rfl) (by kernel_rfl) ?_|refine bw (by decide) ?_|refine cN ?_|refine cO ?_|(refine hK _ ?_;clear hK K))|simp only [go_sem]|with_reducible refine wA ?_|clear hK K)
  refine ab.one C ?_
  repeat (first|(with_reducible first|refine af.up ?_|refine fun (K:AK) hK=> ?_|refine bX (by kernel_rfl) (by kernel_rfl) (by kernel_rfl) ?_|refine bw (by decide) ?_|refine cN ?_|refine cO ?_|(refine hK _ ?_;clear hK K))|simp only [go_sem]|with_reducible refine wA ?_|clear hK K)
  refine ab.fr [] N (by simp) ?_ ?_ ?_ ?_ ?_
  ·rfl
  ·exact (dU _ _ (by simp only [go_sem])).symm
  ·simp only [Q9,go_sem]
  ·intro k ob hk;simp at hk
  repeat (first|(with_reducible first|refine af.up ?_|refine fun (K:AK) hK=> ?_|refine bX (by kernel_rfl) (by kernel_rfl) (by kernel_rfl) ?_|refine bw (by decide) ?_|refine cN ?_|refine cO ?_|(refine hK _ ?_;clear hK K))|simp only [go_sem]|with_reducible refine wA ?_|clear hK K)
  have eR:bW (sig [] 1) (au (gD ps))=au (gD ps):=bS _ _ (bF _ _)
  try simp only [eR]
  refine dG (ι:=List (Option aa)×(Nat×Nat)×(List Nat×List Nat)) 2 3 1 rfl (by decide) 7 (fun x=>[(0, .undef),(2, .vec x.2.1.1 x.2.2.1.length),(4, .undef),(5, .vec x.2.1.2 x.2.2.2.length),(6, .undef)]) (fun x=>x.1) (fun x=>x.2.2.2.length)
   (Na ps ⟨26,5,false,[[.aC 8 (ps.map bM) ps.length, .aC 13 (cs.map aH) cs.length, .aC 6 (rs.map cz) rs.length, .v (.int .i64 ra), .v (.int .i64 sl)]]⟩)
   ([some ⟨26,5,false,[[.aC 8 (ps.map bM) ps.length, .aC 13 (cs.map aH) cs.length, .aC 6 (rs.map cz) rs.length, .v (.int .i64 ra), .v (.int .i64 sl)]]⟩,none,none,some ⟨3,1,true,au (gD ps)⟩,some ⟨3,1,true,[]⟩],(4,3),([],gD ps))
   ⟨rfl,rfl,rfl,⟨show (4:Nat)≠3 by decide,show (4:Nat)≠0 by decide,show (3:Nat)≠0 by decide⟩,(sL ps).imp (fun h=>by omega),fun k hk=>Aw hk,fun k hk=>by simp at hk,by simpa using hnl,rfl⟩ ?_ ?_
  ·(refine ak ?_ ?_ ?_<;>simp only [aR,SI,SL,Ti,Tj,aX,aW,AV.v.injEq,Value.int.injEq,Value.bool.injEq,Value.string.injEq,AV.vec.injEq,AV.ptr.injEq,true_or,or_true,false_or,or_false,aa.mk.injEq,forall_eq_apply_imp_iff,forall_eq,forall_eq',go_sem])
   all_goals exact bF _ _
  rintro ⟨o,⟨a,b⟩,⟨out,left⟩⟩ hI K hK;obtain ⟨na,nb,nc⟩:=hI.ne;have oq:o[0]? = _:=hI.q;have oa:o[a]? = _:=hI.a;have ob:o[b]? = _:=hI.b;simp only at na nb nc
  repeat ((fail_if_success (with_reducible refine bD (i:=5) ?_));first|(with_reducible first|refine af.up ?_|refine fun (K:AK) hK=> ?_|refine bw (by decide) ?_|refine cN ?_|refine cO ?_|(refine hK _ ?_;clear hK K))|simp only [go_sem]|with_reducible refine wA ?_|clear hK K)
  have eZ: ∀f l,bW f (au l)=au l:=fun f l=>bS _ _ (bF _ _)
  refine GZ [0,a,b] (aR 32 [(1, .ptr 0 0 5 0 0),(2, .vec 1 out.length),(3, .v (.int .i64 0)),(5, .vec 2 left.length)]) [some ⟨26,5,false,[[.aC 8 (ps.map bM) ps.length, .aC 13 (cs.map aH) cs.length, .aC 6 (rs.map cz) rs.length, .v (.int .i64 ra), .v (.int .i64 sl)]]⟩,some ⟨3,1,true,au out⟩,some ⟨3,1,true,au left⟩] (by simp;omega) ?_ ?_ ?_ (by kernel_rfl) ?_
  ·have eQ: ∀f,bW f [[.aC 8 (ps.map bM) ps.length, .aC 13 (cs.map aH) cs.length, .aC 6 (rs.map cz) rs.length, .v (.int .i64 ra), .v (.int .i64 sl)]]=[[.aC 8 (ps.map bM) ps.length, .aC 13 (cs.map aH) cs.length, .aC 6 (rs.map cz) rs.length, .v (.int .i64 ra), .v (.int .i64 sl)]]:=fun f=>bS _ _ (by simp only [go_sem,Tg,SA]);simp only [List.map_cons,List.map_nil,oq,oa,ob,Option.map_some,aa.bc,eZ,eQ]
  ·intro k ob' hk'
   match k,hk' with
   | 0,hk'=>cases hk';simp only [go_sem,Tg,SA]
   | 1,hk'=>cases hk';exact bF _ _
   | 2,hk'=>cases hk';exact bF _ _
   | k+3,hk'=>simp at hk'
  ·simp only [aR,SI,SL,Ti,Tj,go_sem];simp only [DN,AV.bc,sig,go_sem];simp
  simp only [aR,SI,SL,Ti,Tj,go_sem]
  have eLl:(au left).length=left.length:=by simp [au]
  have eLo:(au out).length=out.length:=by simp [au]
  repeat (first|(with_reducible first|refine af.up ?_|refine fun (K:AK) hK=> ?_|refine bX (by kernel_rfl) (by kernel_rfl) (by kernel_rfl) ?_|refine bw (by decide) ?_|refine cN ?_|refine cO ?_|(refine hK _ ?_;clear hK K))|simp only [go_sem,eLl]|with_reducible refine wA ?_|clear hK K)
  refine cL.part (fun hc=> ?_) (fun hc=> ?_)
  ·have hne:left≠[]:=by
    rintro rfl;simp at hc
   have V:o9 Tryz.prog 34 [.vec 1 out.length] [some ⟨26,5,false,[[.aC 8 (ps.map bM) ps.length, .aC 13 (cs.map aH) cs.length, .aC 6 (rs.map cz) rs.length, .v (.int .i64 ra), .v (.int .i64 sl)]]⟩,some ⟨3,1,true,au out⟩,some ⟨3,1,true,au left⟩] (.fn 73 [] [.vp [.vec 1 out.length]]):=by
    have:=Dj (o:=[some ⟨26,5,false,[[.aC 8 (ps.map bM) ps.length, .aC 13 (cs.map aH) cs.length, .aC 6 (rs.map cz) rs.length, .v (.int .i64 ra), .v (.int .i64 sl)]]⟩,some ⟨3,1,true,au out⟩,some ⟨3,1,true,au left⟩]) (id:=1) (ob:=⟨3,1,true,au out⟩) rfl rfl
    simpa only [eLo] using this
   have eI:(gh out).map encI=au out:=by simp [gh,au,encI]
   have hol:out.length+left.length<=ps.length:=hI.le
   have NN:=zZ ⟨ps,cs,rs,ra,sl⟩ (gf:=73) (caps:=[.vp [.aC 1 (au out) out.length]]) (gh out) (show ps.length<=1000000 by omega) (by simp [gh];omega) (fun k hk=>by
    simp only [gh,List.mem_map] at hk;obtain ⟨j,hj,rfl⟩:=hk
    have:=hI.lo j hj
    omega) (by rw [eI];exact oA out (by omega)) (by simp only [go_sem,bF,Tg])
   have FF:=Hk ⟨ps,cs,rs,ra,sl⟩ (bA ps (gh out)) left (show ps.length<=1000000 by omega) (by omega) hne hI.lt
   have hk1:gC (dD ps (bA ps (gh out))) (left.drop 1) (left.getD 0 0)=fp ps out left:=by
    cases left with
    | nil=>exact absurd rfl hne
    | cons x l=>rfl
   simp only [cd,aK] at NN FF;rw [hk1] at FF
   have hN:=fun o' a' b'=>hI.next (o':=o') (a':=a') (b':=b') hne
   generalize fp ps out left=k at FF hN;generalize bA ps (gh out)=names at NN FF
   repeat (first|(with_reducible first|refine af.up ?_|refine fun (K:AK) hK=> ?_|refine bX (by kernel_rfl) (by kernel_rfl) (by kernel_rfl) ?_|refine bw (by decide) ?_|refine cN ?_|refine cO ?_|(refine hK _ ?_;clear hK K))|simp only [go_sem,eLl]|with_reducible refine wA ?_|clear hK K)
   refine aQ.s V ?_
   repeat (first|(with_reducible first|refine af.up ?_|refine fun (K:AK) hK=> ?_|refine bX (by kernel_rfl) (by kernel_rfl) (by kernel_rfl) ?_|refine bw (by decide) ?_|refine cN ?_|refine cO ?_|(refine hK _ ?_;clear hK K))|simp only [go_sem]|with_reducible refine wA ?_|clear hK K)
   refine aQ.s (o9.fresh NN ⟨.of 40 rfl (by simp only [go_sem,Nat.reduceLT,Nat.reduceLeDiff,Nat.reduceEqDiff,TC,TD,and_self]), .fn trivial ⟨.vp ⟨.of 40 rfl (by simp only [go_sem,Nat.reduceLT,Nat.reduceLeDiff,Nat.reduceEqDiff,TC,TD,and_self,eLo,bF]),trivial⟩,trivial⟩,trivial⟩) ?_
   repeat (first|(with_reducible first|refine af.up ?_|refine fun (K:AK) hK=> ?_|refine bX (by kernel_rfl) (by kernel_rfl) (by kernel_rfl) ?_|refine bw (by decide) ?_|refine cN ?_|refine cO ?_|(refine hK _ ?_;clear hK K))|simp only [go_sem]|with_reducible refine wA ?_|clear hK K)
   refine aQ.x5 FF 60 rfl (by simp only [go_sem,Nat.reduceLT,Nat.reduceLeDiff,Nat.reduceEqDiff,TC,TD,and_self,eLl,bF]) rfl ?_
   repeat (first|(with_reducible first|refine af.up ?_|refine fun (K:AK) hK=> ?_|refine bX (by kernel_rfl) (by kernel_rfl) (by kernel_rfl) ?_|refine bw (by decide) ?_|refine cN ?_|refine cO ?_|(refine hK _ ?_;clear hK K))|simp only [go_sem,eLo]|with_reducible refine wA ?_|clear hK K)
   refine ab.fr [2,3] (BW left k (by omega) hne) (by decide) ?_ ?_ ?_ ?_ ?_
   ·simp only [List.map_cons,List.map_nil,List.getElem?_cons_zero,List.getElem?_cons_succ,Option.map_some,aa.bc,eZ]
    rfl
   ·rfl
   ·rfl
   ·intro j ob' hj
    match j,hj with
    | 0,hj=>cases hj;exact bF _ _
    | 1,hj=>cases hj;rfl
    | j+2,hj=>simp at hj
   repeat (first|(with_reducible first|refine af.up ?_|refine fun (K:AK) hK=> ?_|refine bX (by kernel_rfl) (by kernel_rfl) (by kernel_rfl) ?_|refine bw (by decide) ?_|refine cN ?_|refine cO ?_|(refine hK _ ?_;clear hK K))|simp only [go_sem]|with_reducible refine wA ?_|clear hK K)
   have eA:au out++[[AV.v (.int .i64 (k:Int))]]=au (out++[k]):=by simp [au]
   have eB:out.length+1=(out++[k]).length:=by simp
   obtain ⟨g1,g2⟩:=hN [some ⟨26,5,false,[[.aC 8 (ps.map bM) ps.length, .aC 13 (cs.map aH) cs.length, .aC 6 (rs.map cz) rs.length, .v (.int .i64 ra), .v (.int .i64 sl)]]⟩,some ⟨3,1,true,au (out++[k])⟩,none,none,none,some ⟨3,1,true,au (left.filter (fun j=>j !=k))⟩] 1 5 rfl rfl rfl (by decide);simp only [eZ,eA,eB]
   exact aM.mk (_,(1,5),(out++[k],left.filter (fun j=>j !=k))) g1 g2 (by
    (refine ak ?_ ?_ ?_<;>simp only [aR,SI,SL,Ti,Tj,aX,aW,AV.v.injEq,Value.int.injEq,Value.bool.injEq,Value.string.injEq,AV.vec.injEq,AV.ptr.injEq,true_or,or_true,false_or,or_false,aa.mk.injEq,forall_eq_apply_imp_iff,forall_eq,forall_eq',go_sem])
    all_goals exact ⟨bF _ _,bF _ _⟩)
  ·have hnil:left=[]:=by
    have:left.length=0:=by (try simp only [bne_iff_ne,ne_eq,bne_eq_false_iff_eq,beq_iff_eq,beq_eq_false_iff_ne,decide_eq_false_iff_not,Bool.not_eq_eq_eq_not,Int.natCast_inj,Int.ofNat_lt,Int.ofNat_le] at hc);omega
    exact List.eq_nil_of_length_eq_zero this
   have hO:out=br ps:=by
    have:=hI.of
    rw [hnil] at this;simpa [Fk] using this
   rw [hO] at *
   repeat (first|(with_reducible first|refine af.up ?_|refine fun (K:AK) hK=> ?_|refine bX (by kernel_rfl) (by kernel_rfl) (by kernel_rfl) ?_|refine bw (by decide) ?_|refine cN ?_|refine cO ?_|(refine hK _ ?_;clear hK K))|simp only [go_sem,eLo]|with_reducible refine wA ?_|clear hK K)
   refine kY.of 40 rfl ?_;simp only [go_sem,eLo]
   first|exact ⟨by simp [au],bF _ _⟩|simp [au]
 ·rw [if_neg he]
  (refine ag.enter Tryz.func29 rfl (by kernel_rfl) (by kernel_rfl) rfl (by first|rfl|(simp only [go_sem,Tg,SA,SD])) (by first|rfl|(simp only [go_sem,Tg,SA,SD])) ?_;simp only [Tryz.ntmps29,Tryz.results29,List.length_cons,Q9,Nat.reduceAdd,Nat.reduceSub,Ti,Tj,List.cons_append,List.nil_append])
  repeat (first|(with_reducible first|refine af.up ?_|refine fun (K:AK) hK=> ?_|refine bX (by kernel_rfl) (by kernel_rfl) (by kernel_rfl) ?_|refine bw (by decide) ?_|refine cN ?_|refine cO ?_|(refine hK _ ?_;clear hK K))|simp only [go_sem]|with_reducible refine wA ?_|clear hK K)
  refine ab.one C ?_;have hd:(e !=0)=true:=bne_iff_ne.2 he
  repeat (first|(with_reducible first|refine af.up ?_|refine fun (K:AK) hK=> ?_|refine bX (by kernel_rfl) (by kernel_rfl) (by kernel_rfl) ?_|refine bw (by decide) ?_|refine cN ?_|refine cO ?_|(refine hK _ ?_;clear hK K))|simp only [go_sem,hd]|with_reducible refine wA ?_|clear hK K)
  (refine kY.of 40 rfl ?_;simp only [go_sem])
mutual
def pE:Ex->Nat->Nat
 | .mk _ _ l,b=>pL l b 1
def pL:List Ex->Nat->Nat->Nat
 | [],_,n=>n
 | x :: xs,b,n=>if n<=b then pL xs b (n+pE x (b - n)) else n
end
theorem AE: ∀(l:List Ex) (b n k:Nat) (h:k<l.length),pL (l.take k) b n<=b->pL (l.take (k+1)) b n=pL (l.take k) b n+pE l[k] (b - pL (l.take k) b n)
 | [],_,_,_,h,_=>by simp at h
 | x :: xs,b,n,0,_,hn=>by
  simp only [TE,pL] at hn ⊢;simp [pL,hn]
 | x :: xs,b,n,k+1,h,hn=>by
  simp only [TF,pL,TG] at hn ⊢
  by_cases hc:n<=b
  ·rw [if_pos hc] at hn ⊢;rw [if_pos hc];exact AE xs b _ k (by simpa using h) hn
  ·rw [if_neg hc] at hn;omega
theorem AD: ∀(l:List Ex) (b n k:Nat),b<pL (l.take k) b n->pL l b n=pL (l.take k) b n
 | [],_,_,_,_=>by simp
 | x :: xs,b,n,0,hn=>by
  simp only [TE,pL] at hn ⊢;rw [if_neg (by omega)]
 | x :: xs,b,n,k+1,hn=>by
  simp only [TF,pL] at hn ⊢
  by_cases hc:n<=b
  ·rw [if_pos hc] at hn ⊢;rw [if_pos hc];exact AD xs b _ k hn
  ·rw [if_neg hc,if_neg hc]
mutual
theorem qB: ∀(x:Ex) (b:Nat),1<=pE x b∧pE x b<=b+1
 | .mk _ _ l,b=>by rw [pE];have:=uH l b 1 (by omega);omega
theorem uH: ∀(l:List Ex) (b n:Nat),n<=b+1->n<=pL l b n∧pL l b n<=b+1
 | [],b,n,h=>by rw [pL];omega
 | x :: xs,b,n,h=>by
  rw [pL]
  split
  ·have h1:=qB x (b - n);have h2:=uH xs b (n+pE x (b - n)) (by omega);omega
  ·omega
end
def pQ:List bQ->Nat->Nat
 | [],n=>n
 | p :: ps,n=>if n<=300 then pQ ps (n+pE p.expr 300) else n
theorem AG: ∀(l:List bQ) (n k:Nat) (h:k<l.length),pQ (l.take k) n<=300->pQ (l.take (k+1)) n=pQ (l.take k) n+pE l[k].expr 300
 | [],_,_,h,_=>by simp at h
 | x :: xs,n,0,_,hn=>by
  simp only [TE,pQ] at hn ⊢;simp [pQ,hn]
 | x :: xs,n,k+1,h,hn=>by
  simp only [TF,pQ,TG] at hn ⊢
  by_cases hc:n<=300
  ·rw [if_pos hc] at hn ⊢;rw [if_pos hc];exact AG xs _ k (by simpa using h) hn
  ·rw [if_neg hc] at hn;omega
theorem AF: ∀(l:List bQ) (n k:Nat),300<pQ (l.take k) n->pQ l n=pQ (l.take k) n
 | [],_,_,_=>by simp
 | x :: xs,n,0,hn=>by
  simp only [TE,pQ] at hn ⊢;rw [if_neg (by omega)]
 | x :: xs,n,k+1,hn=>by
  simp only [TF,pQ] at hn ⊢
  by_cases hc:n<=300
  ·rw [if_pos hc] at hn ⊢;rw [if_pos hc];exact AF xs _ k hn
  ·rw [if_neg hc,if_neg hc]
theorem Fw: ∀(l:List bQ) (n:Nat),n<=pQ l n
 | [],n=>Nat.le_refl _
 | x :: xs,n=>by
  rw [pQ]
  split
  ·have:=Fw xs (n+pE x.expr 300);omega
  ·omega
theorem Jq: ∀(l:List bQ) (n:Nat),pQ l n<=max n 601
 | [],n=>by rw [pQ];omega
 | x :: xs,n=>by
  rw [pQ]
  split
  ·have h1:=Jq xs (n+pE x.expr 300);have h2:=qB x.expr 300;omega
  ·omega
def Df (q:fg):Nat:=pQ q.aj (q.aj.length+q.conds.length+q.ret.length)
def fE (o:dM):Bool:=o.kind==1||o.kind==2
def fF (out:List ByteArray) (o:dM):List ByteArray:=if fE o then aq out o.name else out
def ew (c:ff):List ByteArray:=[c.left,c.right].foldl fF []
def aN (c:ff) (names:List ByteArray):Bool:=(ew c).all (hasB names)
theorem tN (c:ff):(ew c).length<=2:=by
 have h: ∀out o,(fF out o).length<=out.length+1:=fun out o=>by
  unfold fF
  split
  ·unfold aq;split<;>simp
  ·omega
 simp only [ew,SI,SL];have h1:=h [] c.left;have h2:=h (fF [] c.left) c.right;simp only [Q9] at h1;omega
structure iT where
 pat:bQ
 keys:List ByteArray
 binds:List ByteArray
 conds:List ff
def keysOf (p:bQ) (bound:List ByteArray):List ByteArray:=(([p.aR,p.to].foldl aq []).filter (hasB bound))
def bB (p:bQ) (bound:List ByteArray):List ByteArray:=(aS p).foldl aq bound
def u7 (p:bQ) (bound:List ByteArray) (waits:List ff):iT:=⟨p,keysOf p bound,(bB p bound).drop bound.length,waits.filter (fun c=>aN c (bB p bound))⟩
def leftOf (p:bQ) (bound:List ByteArray) (waits:List ff):List ff:=waits.filter (fun c=> !aN c (bB p bound))
theorem jc (p:bQ) (bound:List ByteArray):bB p bound=bound++(bB p bound).drop bound.length:=by
 obtain ⟨m,h⟩:=sM (aS p) bound;rw [bB,h,List.drop_left]
theorem jb (p:bQ) (bound:List ByteArray):(bB p bound).length<=bound.length+3:=by
 have:=ea (aS p) bound
 have h2:=gp p;rw [bB];omega
def eh (ps:List bQ) (k:Nat):bQ:=ps.getD k ⟨⟨#[]⟩,⟨#[]⟩,false,⟨#[]⟩,⟨#[]⟩, .mk 0 ⟨#[]⟩ []⟩
def nM (ps:List bQ):List Nat->List ByteArray->List ff->List iT
 | [],_,_=>[]
 | k :: ks,bound,waits=>u7 (eh ps k) bound waits :: nM ps ks (bB (eh ps k) bound) (leftOf (eh ps k) bound waits)
section
variable {ps:List bQ} {x:bQ}
end
theorem mA {ps:List bQ} {k:Nat} (h:k∈br ps):k<ps.length:=by
 rcases (uD ps).mem k h with h|h
 ·simp at h
 ·exact Aw h
end
section
theorem mJ {s t:ByteArray}:cf s t=true↔s=t:=toList_inj
theorem mL {α:Type} {p:List α->Prop} (h0:p []) (h1: ∀l a,p l->p (l++[a])) (l:List α):p l:=by
 rw [<-List.reverse_reverse l]
 induction l.reverse with
 | nil=>exact h0
 | cons a l ih=>rw [List.reverse_cons];exact h1 _ _ ih
theorem EL (n m:Nat) (f:Nat->Nat) (h1: ∀a,a<n->f a<m) (h2: ∀a b,a<n->b<n->f a=f b->a=b):n<=m:=by
 have hn:((List.range n).map f).Nodup:=by
  rw [List.Nodup,TH];intro i j hi hj hij;simp only [R5,List.length_range] at hi hj;simp only [TI,List.getElem_range];intro e;have:=h2 i j hi hj e;omega
 have hs:((List.range n).map f) ⊆ List.range m:=fun x hx=>by
  obtain ⟨a,ha,rfl⟩:=List.mem_map.1 hx;exact Sh.2 (h1 a (Sh.1 ha))
 have:=hn.length_le_of_subset hs
 simpa using this
theorem vX (u:Nat): ∀c∈Lib.decDigits u,48<=c.toNat∧c.toNat<=57:=by
 induction u using Nat.strongRecOn with
 | _ u ih=>
  intro c hc;rw [Lib.decDigits] at hc
  split at hc
  ·simp only [TJ] at hc;subst hc;simp;omega
  ·rw [SY] at hc
   rcases hc with hc|hc
   ·exact ih (u / 10) (by omega) c hc
   ·simp only [TJ] at hc;subst hc;simp;omega
theorem pH (u:Nat) (h:u<1000):(Lib.decDigits u).length<=3:=by
 rw [Lib.decDigits];split
 ·simp
 ·rw [Lib.decDigits];split
  ·simp
  ·rw [Lib.decDigits,dif_pos (by omega)];simp
def AU (l:List UInt8):Nat:=l.foldl (fun a c=>a * 10+(c.toNat - 48)) 0
theorem qX (u:Nat):AU (Lib.decDigits u)=u:=by
 induction u using Nat.strongRecOn with
 | _ u ih=>
  rw [Lib.decDigits];split
  ·rename_i h;simp [AU];omega
  ·rename_i h
   have:=ih (u / 10) (by omega)
   rw [AU,SS, <- AU,this];simp;omega
theorem Es {u v:Nat} (h:Lib.decDigits u=Lib.decDigits v):u=v:=by rw [<-qX u, <- qX v,h]
theorem mh {u v:Nat} {r s:List UInt8} (h:Lib.decDigits u++r=Lib.decDigits v++s) (hr:r=[]∨r.head? = some 32) (hs:s=[]∨s.head? = some 32):u=v∧r=s:=by
 have key: ∀(a b r s:List UInt8),a++r=b++s->(∀c∈a,48<=c.toNat∧c.toNat<=57)->(∀c∈b,48<=c.toNat∧c.toNat<=57)->(r=[]∨r.head? = some 32)->(s=[]∨s.head? = some 32)->a=b∧r=s:=by
  intro a
  induction a with
  | nil=>
   intro b r s h ha hb hr hs
   cases b with
   | nil=>exact ⟨rfl,h⟩
   | cons c b=>
    have:=hb c List.mem_cons_self
    rw [Tm] at h;subst h
    rcases hr with hr|hr
    ·simp at hr
    ·simp at hr;subst hr;simp at this
  | cons d a ih=>
   intro b r s h ha hb hr hs
   cases b with
   | nil=>
    have:=ha d List.mem_cons_self
    rw [Tm] at h;subst h
    rcases hs with hs|hs
    ·simp at hs
    ·simp at hs;subst hs;simp at this
   | cons c b=>
    simp only [List.cons_append,TK] at h;obtain ⟨rfl,h⟩:=h;obtain ⟨h1,h2⟩:=ih b r s h (fun c hc=>ha c (Sb _ hc)) (fun c hc=>hb c (Sb _ hc)) hr hs;exact ⟨by rw [h1],h2⟩
 obtain ⟨h1,h2⟩:=key _ _ _ _ h (vX u) (vX v) hr hs;exact ⟨Es h1,h2⟩
def jw (l:List Nat):List UInt8:=l.flatMap (fun n=>Lib.decDigits n++[32])
def iN (l:List Nat):ByteArray:=⟨(jw l).toArray⟩
theorem wH: ∀ {l m:List Nat},jw l=jw m->l=m
 | [],[],_=>rfl
 | [],b :: m,h=>by simp [jw] at h
 | a :: l,[],h=>by simp [jw] at h
 | a :: l,b :: m,h=>by
  simp only [jw,List.flatMap_cons,RD] at h;obtain ⟨h1,h2⟩:=mh h (.inr rfl) (.inr rfl);simp only [List.cons_append,Tm,TK,true_and] at h2;rw [h1,wH (l:=l) (m:=m) h2]
theorem EP {l m:List Nat} (h:iN l=iN m):l=m:=by
 have:(iN l).data.toList=(iN m).data.toList:=by rw [h]
 exact wH (by simpa [iN] using this)
def pos (l:List ByteArray) (s:ByteArray):Option Nat:=l.findIdx? (fun x=>cf s x)
theorem xr {l:List ByteArray} {s:ByteArray}:pos l s=none↔s∉l:=by
 rw [pos,SF]
 constructor
 ·intro h hm;have:=h s hm;rw [mJ.2 rfl] at this;cases this
 ·intro h x hx
  cases hh:cf s x
  ·rfl
  ·rw [mJ] at hh;subst hh;exact absurd hx h
theorem qJ {l:List ByteArray} {s:ByteArray} {k:Nat} (h:pos l s=some k): ∃hk:k<l.length,l[k]=s:=by
 rw [pos,SE] at h;obtain ⟨h1,h2,_⟩:=h;exact ⟨h1,(mJ.1 h2).symm⟩
theorem Kg {l:List ByteArray} {s:ByteArray} {k:Nat} (h:pos l s=some k):k<l.length:=(qJ h).1
abbrev bP:=List (ByteArray×Nat)
structure oN where
 all:List (List Nat)
 rows:List bP
 ends:List Bool
section
variable (stp:List Nat->ByteArray->List Nat) (em:Bool) (la:List Nat)
def AJ (cur:List Nat) (st:List (List Nat)×bP) (lab:ByteArray):List (List Nat)×bP:=
 if stp cur lab=[] then st else match pos (st.1.map iN) (iN (stp cur lab)) with
 | some k=>(st.1,st.2++[(lab,k)])
 | none=>(st.1++[stp cur lab],st.2++[(lab,st.1.length)])
def gE (cur:List Nat) (all:List (List Nat)) (ai:List ByteArray):List (List Nat)×bP:=ai.foldl (AJ stp cur) (all,[])
theorem kR (cur:List Nat) (all:List (List Nat)) (ai:List ByteArray) (l:ByteArray):gE stp cur all (ai++[l])=AJ stp cur (gE stp cur all ai) l:=by rw [gE,SS];rfl
def ez (st:oN):List Nat:=st.all.getD st.rows.length []
def xD (st:oN):Bool:=(st.rows.length==0&&em)||(ez st).any (fun p=>la.contains p)
def dw (ai:List ByteArray) (st:oN):oN:=⟨(gE stp (ez st) st.all ai).1,st.rows++[(gE stp (ez st) st.all ai).2],st.ends++[xD em la st]⟩
def qR (ai:List ByteArray):Nat->oN->Option oN
 | 0,st=>some st
 | f+1,st=>if st.rows.length<st.all.length then (if 256<(dw stp em la ai st).all.length then none else qR ai f (dw stp em la ai st)) else some st
def s0:oN:=⟨[[0]],[],[]⟩
def tf (ai:List ByteArray):Option oN:=qR stp em la ai 257 s0
structure Bj (ai:List ByteArray) (st:oN):Prop where
 le:st.rows.length<=st.all.length
 max:st.all.length<=256
 nd:(st.all.map iN).Nodup
 ends:st.ends.length=st.rows.length
 row: ∀r∈st.rows,(r.map Prod.fst).Sublist ai∧ ∀p∈r,p.2<st.all.length
theorem Ko {cur:List Nat} {a:List (List Nat)×bP} {lab:ByteArray} (hn:(a.1.map iN).Nodup) (hr: ∀p∈a.2,p.2<a.1.length) :
  ((AJ stp cur a lab).1.map iN).Nodup∧(∀p∈(AJ stp cur a lab).2,p.2<(AJ stp cur a lab).1.length)∧a.1.length<=(AJ stp cur a lab).1.length∧(AJ stp cur a lab).1.length<=a.1.length+1 ∧
  ((AJ stp cur a lab).2=a.2∨ ∃k,(AJ stp cur a lab).2=a.2++[(lab,k)])∧ ∃t,(AJ stp cur a lab).1=a.1++t:=by
 unfold AJ
 split
 ·exact ⟨hn,hr,Q5 _,Nat.le_succ _, .inl rfl,[],by simp⟩
 ·split
  ·rename_i k hk
   have:=Kg hk
   rw [R5] at this;refine ⟨hn,fun p hp=> ?_,Q5 _,Nat.le_succ _, .inr ⟨_,rfl⟩,[],by simp⟩;simp only [SY,TJ] at hp
   rcases hp with hp|rfl
   ·exact hr p hp
   ·exact this
  ·rename_i hk
   refine ⟨?_,fun p hp=> ?_,by simp,by simp, .inr ⟨_,rfl⟩,_,rfl⟩
   ·rw [TL,List.map_singleton,TM];refine ⟨hn,by simp,fun x hx y hy=> ?_⟩;simp only [TJ] at hy;subst hy;rintro rfl;exact xr.1 hk hx
   ·simp only [SY,TJ,Rf,S4] at hp ⊢
    rcases hp with hp|rfl
    ·have:=hr p hp;omega
    ·simp
theorem uZ {cur:List Nat} {all:List (List Nat)} (hn:(all.map iN).Nodup): ∀(ai:List ByteArray),
  ((gE stp cur all ai).1.map iN).Nodup∧(∀p∈(gE stp cur all ai).2,p.2<(gE stp cur all ai).1.length)∧all.length<=(gE stp cur all ai).1.length∧(gE stp cur all ai).1.length<=all.length+ai.length ∧
  ((gE stp cur all ai).2.map Prod.fst).Sublist ai∧ ∃t,(gE stp cur all ai).1=all++t:=by
 refine mL ⟨hn,by simp [gE],Q5 _,Q5 _,by simp [gE],[],by simp [gE]⟩ ?_
 ·rintro ai l ⟨h1,h2,h3,h4,h5,t,h6⟩;obtain ⟨k1,k2,k3,k4,k5,t2,k6⟩:=Ko stp (cur:=cur) (lab:=l) h1 h2;rw [<-kR] at k1 k2 k3 k4 k5 k6;refine ⟨k1,k2,by omega,by simp;omega, ?_,t++t2,by rw [k6,h6,RD]⟩
  rcases k5 with k5|⟨k,k5⟩
  ·rw [k5];exact h5.trans (List.sublist_append_left _ _)
  ·rw [k5,TL];exact h5.append (by simp)
theorem Kq (ai:List ByteArray):Bj ai s0:=⟨by simp [s0],by simp [s0],by simp [s0],rfl,by simp [s0]⟩
theorem qQ {ai:List ByteArray} {st:oN} (h:Bj ai st) (h1:st.rows.length<st.all.length) (h2: ¬ 256<(dw stp em la ai st).all.length):Bj ai (dw stp em la ai st):=by
 obtain ⟨k1,k2,k3,k4,k5,t,k6⟩:=uZ stp (cur:=ez st) h.nd ai
 refine ⟨?_,by omega,k1, ?_,fun r hr=> ?_⟩
 ·simp only [dw,Rf,S4];omega
 ·simp only [dw,Rf,S4,h.ends]
 ·simp only [dw,SY,TJ] at hr ⊢
  rcases hr with hr|rfl
  ·obtain ⟨q1,q2⟩:=h.row r hr;exact ⟨q1,fun p hp=>by have:=q2 p hp;omega⟩
  ·exact ⟨k5,k2⟩
theorem AL {ai:List ByteArray}: ∀(f:Nat) {st st':oN},Bj ai st->257<=f+st.rows.length->qR stp em la ai f st=some st'->Bj ai st'∧st'.rows.length=st'.all.length
 | 0,st,st',h,hf,e=>by
  simp only [qR,Option.some.injEq] at e;subst e
  have:=h.le;have:=h.max;omega
 | f+1,st,st',h,hf,e=>by
  rw [qR] at e
  split at e
  ·rename_i h1
   split at e
   ·cases e
   ·rename_i h2;exact AL f (qQ stp em la h h1 h2) (by simp only [dw,Rf,S4];omega) e
  ·cases e;exact ⟨h,by have:=h.le;omega⟩
end
section
variable (rows:List bP)
def uG (part:List Nat) (p:Nat) (row:bP):List UInt8:=Lib.decDigits p++row.flatMap (fun e=>32 :: (e.1.data.toList++32 :: Lib.decDigits (part.getD e.2 0)))
def df (part:List Nat) (p:Nat) (row:bP):ByteArray:=⟨(uG part p row).toArray⟩
theorem CB (part:List Nat) (p:Nat) (row:bP) (e:ByteArray×Nat):uG part p (row++[e])=uG part p row++32 :: (e.1.data.toList++32 :: Lib.decDigits (part.getD e.2 0)):=by simp [uG]
def Nl (part:List Nat) (st:List ByteArray×List Nat) (s:Nat):List ByteArray×List Nat:=
 match pos st.1 (df part (part.getD s 0) (rows.getD s [])) with
 | some k=>(st.1,st.2++[k])
 | none=>(st.1++[df part (part.getD s 0) (rows.getD s [])],st.2++[st.1.length])
def eb (part:List Nat) (n:Nat):List ByteArray×List Nat:=(List.range n).foldl (Nl rows part) ([],[])
theorem sP (part:List Nat) (n:Nat):eb rows part (n+1)=Nl rows part (eb rows part n) n:=by rw [eb,List.range_succ,SS];rfl
def ee (part:List Nat):List Nat:=(eb rows part rows.length).2
def gv (part:List Nat):Nat:=(eb rows part rows.length).1.length
def uI:Nat->List Nat->Nat->List Nat
 | 0,part,_=>part
 | f+1,part,many=>if gv rows part=many then ee rows part else uI f (ee rows part) (gv rows part)
def p0 (ends:List Bool):List Nat:=ends.map (fun b=>if b then 1 else 0)
def fG (ends:List Bool):List Nat:=uI rows (rows.length+2) (p0 ends) 0
structure Ll (part:List Nat) (n:Nat):Prop where
 len:(eb rows part n).2.length=n
 nd:(eb rows part n).1.Nodup
 le:(eb rows part n).1.length<=n
 at': ∀s,s<n-> ∃h:(eb rows part n).2.getD s 0<(eb rows part n).1.length,(eb rows part n).1[(eb rows part n).2.getD s 0]=df part (part.getD s 0) (rows.getD s [])
 on: ∀k,k<(eb rows part n).1.length-> ∃s,s<n∧(eb rows part n).2.getD s 0=k
theorem gb (part:List Nat): ∀n,Ll rows part n
 | 0=>⟨rfl,by simp [eb],by simp [eb],fun s h=>by omega,fun k h=>by simp [eb] at h⟩
 | n+1=>by
  have ih:=gb part n;have e:=sP rows part n;unfold Nl at e
  have hg: ∀(l:List Nat) (x s:Nat),l.length=n->s<n->(l++[x]).getD s 0=l.getD s 0:=fun l x s h1 h2=>by
   rw [R6,Rb (by omega),R6]
  have hl: ∀(l:List Nat) (x:Nat),l.length=n->(l++[x]).getD n 0=x:=fun l x h1=>by
   rw [R6,RF (by omega),h1];simp
  cases hp:pos (eb rows part n).1 (df part (part.getD n 0) (rows.getD n [])) with
  | some k=>
   rw [hp] at e;simp only at e;obtain ⟨hk,hk2⟩:=qJ hp
   refine ⟨by rw [e];simp [ih.len],by rw [e];exact ih.nd,by rw [e];have:=ih.le;simp only;omega,fun s hs=> ?_,fun j hj=> ?_⟩
   ·simp only [e]
    rcases Rc s n with q|q
    ·simp only [hg _ _ s ih.len q];exact ih.at' s q
    ·obtain rfl:s=n:=by omega
     simp only [hl _ _ ih.len];exact ⟨hk,hk2⟩
   ·simp only [e] at hj ⊢;obtain ⟨s,q1,q2⟩:=ih.on j hj;exact ⟨s,by omega,by rw [hg _ _ s ih.len q1];exact q2⟩
  | none=>
   rw [hp] at e;simp only at e
   refine ⟨by rw [e];simp [ih.len], ?_,by rw [e];have:=ih.le;simp only [Rf,S4];omega,fun s hs=> ?_,fun j hj=> ?_⟩
   ·rw [e];simp only;rw [TM];refine ⟨ih.nd,by simp,fun x hx y hy=> ?_⟩;simp only [TJ] at hy;subst hy;rintro rfl;exact xr.1 hp hx
   ·simp only [e]
    rcases Rc s n with q|q
    ·obtain ⟨q1,q2⟩:=ih.at' s q;simp only [hg _ _ s ih.len q];exact ⟨by simp only [Rf,S4];omega,by rw [List.getElem_append_left q1];exact q2⟩
    ·obtain rfl:s=n:=by omega
     simp only [hl _ _ ih.len];exact ⟨by simp,by rw [List.getElem_append_right (Q5 _)];simp⟩
   ·simp only [e,Rf,S4] at hj ⊢
    rcases Rc j (eb rows part n).1.length with q|q
    ·obtain ⟨s,q1,q2⟩:=ih.on j q;exact ⟨s,by omega,by rw [hg _ _ s ih.len q1];exact q2⟩
    ·exact ⟨n,by omega,by rw [hl _ _ ih.len];omega⟩
theorem qC {part:List Nat} {p q:Nat} {r s:bP} (h:df part p r=df part q s):p=q:=by
 have e:uG part p r=uG part q s:=by
  have:(df part p r).data.toList=(df part q s).data.toList:=by rw [h]
  simpa [df] using this
 have hh: ∀t:bP,(t.flatMap (fun e=>32 :: (e.1.data.toList++32 :: Lib.decDigits (part.getD e.2 0))))=[]∨(t.flatMap (fun e=>32 :: (e.1.data.toList++32 :: Lib.decDigits (part.getD e.2 0)))).head? = some 32:=fun t=>by
  cases t with
  | nil=>exact .inl rfl
  | cons a t=>exact .inr rfl
 exact (mh e (hh r) (hh s)).1
def Lm (part:List Nat) (many:Nat):Prop:=part.length=rows.length∧ ∀k,k<many-> ∃s,s<rows.length∧part.getD s 0=k
theorem qF (part:List Nat):Lm rows (ee rows part) (gv rows part):=⟨(gb rows part _).len,(gb rows part _).on⟩
theorem xg (part:List Nat):gv rows part<=rows.length:=(gb rows part _).le
theorem qE {part:List Nat} {many:Nat} (h:Lm rows part many):many<=gv rows part:=by
 have ok:=gb rows part rows.length
 
 have hch: ∀k, ∃m,k<many->m<gv rows part∧ ∃s,s<rows.length∧part.getD s 0=k∧(ee rows part).getD s 0=m:=fun k=>by
  by_cases hk:k<many
  ·obtain ⟨s,h1,h2⟩:=h.2 k hk;obtain ⟨q1,_⟩:=ok.at' s h1;exact ⟨_,fun _=>⟨q1,s,h1,h2,rfl⟩⟩
  ·exact ⟨0,fun q=>absurd q hk⟩
 obtain ⟨f,hf⟩:=Classical.axiomOfChoice hch
 have inj: ∀a b,a<many->b<many->f a=f b->a=b:=fun a b ha hb e=>by
  obtain ⟨l1,s,k1,k2,k3⟩:=hf a ha;obtain ⟨l2,t,m1,m2,m3⟩:=hf b hb;obtain ⟨q1,q2⟩:=ok.at' s k1;obtain ⟨r1,r2⟩:=ok.at' t m1;have e1:(eb rows part rows.length).2.getD s 0=(eb rows part rows.length).2.getD t 0:=k3.trans (e.trans m3.symm)
  have:df part (part.getD s 0) (rows.getD s [])=df part (part.getD t 0) (rows.getD t []):=by rw [<-q2, <- r2];simp only [e1]
  rw [<-k2, <- m2];exact qC this
 exact EL many (gv rows part) f (fun a ha=>(hf a ha).1) inj
end
structure Dq where
 order:List Nat
 rows:List bP
 ends:List Bool
section
variable (rows:List bP) (ends:List Bool) (part:List Nat)
def zp (order:List Nat) (x:Nat):Option Nat:=(order.map (fun s=>part.getD s 0)).findIdx? (fun y=>x==y)
theorem C4 {order:List Nat} {x:Nat}:zp part order x=none↔x∉order.map (fun s=>part.getD s 0):=by
 rw [zp,SF]
 constructor
 ·intro h hm;have:=h x hm;simp at this
 ·intro h y hy
  cases hh:x==y
  ·rfl
  ·rw [beq_iff_eq] at hh;subst hh;exact absurd hy h
theorem C5 {order:List Nat} {x k:Nat} (h:zp part order x=some k): ∃hk:k<order.length,part.getD order[k] 0=x:=by
 rw [zp,SE] at h;obtain ⟨h1,h2,_⟩:=h;rw [R5] at h1;rw [TI,beq_iff_eq] at h2;exact ⟨h1,h2.symm⟩
def FH (st:List Nat×bP) (e:ByteArray×Nat):List Nat×bP:=
 match zp part st.1 (part.getD e.2 0) with
 | some n=>(st.1,st.2++[(e.1,n)])
 | none=>(st.1++[e.2],st.2++[(e.1,st.1.length)])
def ir (order:List Nat) (row:bP):List Nat×bP:=row.foldl (FH part) (order,[])
theorem sY (order:List Nat) (row:bP) (e:ByteArray×Nat):ir part order (row++[e])=FH part (ir part order row) e:=by rw [ir,SS];rfl
def je (st:Dq):Nat:=st.order.getD st.rows.length 0
def ou (st:Dq):Dq:=⟨(ir part st.order (rows.getD (je st) [])).1,st.rows++[(ir part st.order (rows.getD (je st) [])).2],st.ends++[ends.getD (je st) false]⟩
def CY:Nat->Dq->Dq
 | 0,st=>st
 | f+1,st=>if st.rows.length<st.order.length then CY f (ou rows ends part st) else st
def q0:Dq:=⟨[0],[],[]⟩
def iO:Dq:=CY rows ends part (rows.length+1) q0
structure Ln (st:Dq):Prop where
 le:st.rows.length<=st.order.length
 nd:(st.order.map (fun s=>part.getD s 0)).Nodup
 lt: ∀s∈st.order,s<rows.length
 ends:st.ends.length=st.rows.length
 row: ∀k,k<st.rows.length->(st.rows.getD k []).map Prod.fst=(rows.getD (st.order.getD k 0) []).map Prod.fst∧ ∀p∈st.rows.getD k [],p.2<st.order.length
theorem Kh {n:Nat} {a:List Nat×bP} {e:ByteArray×Nat} (he:e.2<n) (hn:(a.1.map (fun s=>part.getD s 0)).Nodup) (hl: ∀s∈a.1,s<n) (hr: ∀p∈a.2,p.2<a.1.length) :
  ((FH part a e).1.map (fun s=>part.getD s 0)).Nodup∧(∀s∈(FH part a e).1,s<n)∧(∀p∈(FH part a e).2,p.2<(FH part a e).1.length)∧a.1.length<=(FH part a e).1.length ∧
  (FH part a e).2.map Prod.fst=a.2.map Prod.fst++[e.1]∧ ∃t,(FH part a e).1=a.1++t:=by
 unfold FH
 split
 ·rename_i k hk;obtain ⟨h1,_⟩:=C5 part hk;refine ⟨hn,hl,fun p hp=> ?_,Q5 _,by simp,[],by simp⟩;simp only [SY,TJ] at hp
  rcases hp with hp|rfl
  ·exact hr p hp
  ·exact h1
 ·rename_i hk
  refine ⟨?_,fun s hs=> ?_,fun p hp=> ?_,by simp,by simp,_,rfl⟩
  ·rw [TL,List.map_singleton,TM];refine ⟨hn,by simp,fun x hx y hy=> ?_⟩;simp only [TJ] at hy;subst hy;rintro rfl;exact (C4 part).1 hk hx
  ·simp only [SY,TJ] at hs
   rcases hs with hs|rfl
   ·exact hl s hs
   ·exact he
  ·simp only [SY,TJ,Rf,S4] at hp ⊢
   rcases hp with hp|rfl
   ·have:=hr p hp;omega
   ·simp
theorem uM {n:Nat} {order:List Nat} (hn:(order.map (fun s=>part.getD s 0)).Nodup) (hl: ∀s∈order,s<n): ∀row:bP,(∀p∈row,p.2<n) ->
  ((ir part order row).1.map (fun s=>part.getD s 0)).Nodup∧(∀s∈(ir part order row).1,s<n)∧(∀p∈(ir part order row).2,p.2<(ir part order row).1.length)∧order.length<=(ir part order row).1.length ∧
  (ir part order row).2.map Prod.fst=row.map Prod.fst∧ ∃t,(ir part order row).1=order++t:=by
 refine mL (fun _=>⟨hn,hl,by simp [ir],Q5 _,by simp [ir],[],by simp [ir]⟩) ?_;intro row e ih hr;obtain ⟨h1,h2,h3,h4,h5,t,h6⟩:=ih (fun p hp=>hr p (List.mem_append_left _ hp));obtain ⟨k1,k2,k3,k4,k5,t2,k6⟩:=Kh part (hr e (by simp)) h1 h2 h3;rw [<-sY] at k1 k2 k3 k4 k5 k6;exact ⟨k1,k2,k3,by omega,by rw [k5,h5,TL];rfl,t++t2,by rw [k6,h6,RD]⟩
theorem qz {n:Nat} {order:List Nat} (hn:(order.map (fun s=>part.getD s 0)).Nodup) (hl: ∀s∈order,s<n):order.length<=n:=by
 have h1:order.Nodup:=by
  rw [List.Nodup,TH] at hn ⊢;intro i j hi hj hij e
  have:=hn i j (by simpa using hi) (by simpa using hj) hij
  simp only [TI,e] at this;exact this rfl
 have:=h1.length_le_of_subset (l₂:=List.range n) (fun s hs=>Sh.2 (hl s hs))
 simpa using this
theorem L5 (h:0<rows.length):Ln rows part q0:=⟨by simp [q0],by simp [q0],by simpa [q0] using h,rfl,fun k hk=>by simp [q0] at hk⟩
theorem ju {α:Type} {l:List α} {a d:α} {i:Nat} (h:i<l.length):(l++[a]).getD i d=l.getD i d:=by
 rw [R6,Rb h,R6]
theorem jt {α:Type} {l:List α} {a d:α}:(l++[a]).getD l.length d=a:=by
 rw [R6,RF (Q5 _)];simp
theorem fm {α:Type} {l t:List α} {d:α} {i:Nat} (h:i<l.length):(l++t).getD i d=l.getD i d:=by
 rw [R6,Rb h,R6]
theorem ij {α:Type} {l:List α} {d:α} {i:Nat} (h:i<l.length):l.getD i d∈l:=by
 rw [R6,List.getElem?_eq_getElem h];exact List.getElem_mem h
theorem FI {st:Dq} (hT: ∀r∈rows, ∀p∈r,p.2<rows.length) (h:Ln rows part st) (h1:st.rows.length<st.order.length):Ln rows part (ou rows ends part st):=by
 have hc:je st<rows.length:=h.lt _ (ij h1);obtain ⟨k1,k2,k3,k4,k5,t,k6⟩:=uM part (n:=rows.length) h.nd h.lt (rows.getD (je st) []) (hT _ (ij hc))
 refine ⟨?_,k1,k2, ?_,fun k hk=> ?_⟩
 ·simp only [ou,Rf,S4];omega
 ·simp only [ou,Rf,S4,h.ends]
 ·simp only [ou,Rf,S4] at hk ⊢
  rcases Rc k st.rows.length with q|q
  ·obtain ⟨q1,q2⟩:=h.row k q;rw [ju q,k6,fm (by omega)];exact ⟨q1,fun p hp=>by have:=q2 p hp;simp only [Rf];omega⟩
  ·obtain rfl:k=st.rows.length:=by omega
   rw [jt];refine ⟨?_,k3⟩;rw [k5,k6,fm h1];rfl
end
end
section
def look (row:bP) (l:ByteArray):Option Nat:=(row.find? (fun p=>cf l p.1)).map Prod.snd
def LO (rows:List bP) (s:Nat):List ByteArray->Option Nat
 | []=>some s
 | l :: w=>match look (rows.getD s []) l with
  | some t=>LO rows t w
  | none=>none
def EG (rows:List bP) (ends:List Bool) (s:Nat) (w:List ByteArray):Bool:=match LO rows s w with
 | some t=>ends.getD t false
 | none=>false
theorem sE {row:bP} {l:ByteArray}:look row l=none↔l∉row.map Prod.fst:=by
 rw [look,Option.map_eq_none_iff,List.find?_eq_none]
 constructor
 ·intro h hm;obtain ⟨p,hp,rfl⟩:=List.mem_map.1 hm;exact h p hp (mJ.2 rfl)
 ·intro h p hp he;rw [mJ] at he;subst he;exact h (List.mem_map_of_mem hp)
theorem mr {row r2:bP} {l:ByteArray}:look (row++r2) l=(look row l).or (look r2 l):=by
 simp only [look,List.find?_append];cases row.find? (fun p=>cf l p.1)<;>rfl
theorem mv {m l:ByteArray} {t:Nat}:look [(m,t)] l=if l=m then some t else none:=by
 by_cases h:l=m
 ·subst h;simp [look,mJ.2 rfl]
 ·have:cf l m=false:=by
   cases hh:cf l m
   ·rfl
   ·exact absurd (mJ.1 hh) h
  simp [look,this,h]
theorem H5 {row:bP} (hn:(row.map Prod.fst).Nodup) {l:ByteArray} {t:Nat} (h:(l,t)∈row):look row l=some t:=by
 induction row with
 | nil=>simp at h
 | cons a row ih=>
  rw [TN,List.nodup_cons] at hn
  rcases List.mem_cons.1 h with rfl|h
  ·simp [look,mJ.2 rfl]
  ·have hne:cf l a.1=false:=by
    cases hh:cf l a.1
    ·rfl
    ·rw [mJ] at hh;subst hh;exact absurd (List.mem_map_of_mem h) hn.1
   have:=ih hn.2 h
   simpa [look,hne] using this
section
variable (stp:List Nat->ByteArray->List Nat) (em:Bool) (la:List Nat)
def DM (ai:List ByteArray) (all:List (List Nat)) (cur:List Nat) (row:bP):Prop:=
 ∀l,(l∈ai->stp cur l≠[]-> ∃k,look row l=some k∧all[k]? = some (stp cur l))∧((l∉ai∨stp cur l=[])->look row l=none)
theorem DM.mono {ai:List ByteArray} {all t:List (List Nat)} {cur:List Nat} {row:bP} (h:DM stp ai all cur row):DM stp ai (all++t) cur row:=fun l=>
 ⟨fun h1 h2=>by
  obtain ⟨k,k1,k2⟩:=(h l).1 h1 h2
  exact ⟨k,k1,by rw [Rb (Ra.1 k2).1];exact k2⟩,(h l).2⟩
theorem FW (cur:List Nat) {all:List (List Nat)}: ∀ai:List ByteArray,ai.Nodup->DM stp ai (gE stp cur all ai).1 cur (gE stp cur all ai).2:=by
 refine mL (fun _ l=>⟨fun h=>by simp at h,fun _=>by simp [gE,look]⟩) ?_;intro ai m ih hn l;have hn':=List.nodup_append.1 hn;have ih:=ih hn'.1;have hm:m∉ai:=fun h=>hn'.2.2 m h m (by simp) rfl;rw [kR,AJ]
 by_cases he:stp cur m=[]
 ·rw [if_pos he]
  refine ⟨fun h1 h2=> ?_,fun h1=> ?_⟩
  ·rcases List.mem_append.1 h1 with h1|h1
   ·exact (ih l).1 h1 h2
   ·simp only [List.mem_singleton] at h1;subst h1;exact absurd he h2
  ·by_cases hl:stp cur l=[]
   ·exact (ih l).2 (.inr hl)
   ·rcases h1 with h1|h1
    ·exact (ih l).2 (.inl (fun q=>h1 (List.mem_append_left _ q)))
    ·exact absurd h1 hl
 ·rw [if_neg he]
  have nl:l≠m->(l∈ai++[m]↔l∈ai):=fun h=>by simp [h]
  split
  ·rename_i k hk;obtain ⟨hk1,hk2⟩:=qJ hk;rw [TI] at hk2;have hk3:=EP hk2;rw [R5] at hk1
   refine ⟨fun h1 h2=> ?_,fun h1=> ?_⟩
   ·rw [mr,mv]
    by_cases hlm:l=m
    ·subst hlm;exact ⟨k,by rw [(ih l).2 (.inl hm),if_pos rfl];rfl,by rw [Rp hk1,hk3]⟩
    ·obtain ⟨j,j1,j2⟩:=(ih l).1 ((nl hlm).1 h1) h2;exact ⟨j,by rw [j1];rfl,j2⟩
   ·rw [mr,mv]
    have hlm:l≠m:=fun e=>by subst e;rcases h1 with h1|h1<;>simp_all
    rw [if_neg hlm,(ih l).2 (h1.imp (fun q r=>q ((nl hlm).2 r)) id)];rfl
  ·refine ⟨fun h1 h2=> ?_,fun h1=> ?_⟩
   ·rw [mr,mv]
    by_cases hlm:l=m
    ·subst hlm;exact ⟨_,by rw [(ih l).2 (.inl hm),if_pos rfl];rfl,by rw [List.getElem?_append_right (Nat.le_refl _)];simp⟩
    ·obtain ⟨j,j1,j2⟩:=(ih l).1 ((nl hlm).1 h1) h2;exact ⟨j,by rw [j1];rfl,by rw [Rb (Ra.1 j2).1];exact j2⟩
   ·rw [mr,mv]
    have hlm:l≠m:=fun e=>by subst e;rcases h1 with h1|h1<;>simp_all
    rw [if_neg hlm,(ih l).2 (h1.imp (fun q r=>q ((nl hlm).2 r)) id)];rfl
structure SW (ai:List ByteArray) (st:oN):Prop where
 zero:st.all[0]? = some [0]
 row: ∀i,i<st.rows.length->DM stp ai st.all (st.all.getD i []) (st.rows.getD i [])
 LK: ∀i,i<st.rows.length->st.ends.getD i false=((i==0&&em)||(st.all.getD i []).any (fun p=>la.contains p))
theorem IJ {ai:List ByteArray} (hn:ai.Nodup) {st:oN} (ho:Bj ai st) (h:SW stp em la ai st) (h1:st.rows.length<st.all.length):SW stp em la ai (dw stp em la ai st):=by
 obtain ⟨_,_,_,_,_,t,k6⟩:=uZ stp (cur:=ez st) ho.nd ai;have hr:=FW stp (ez st) (all:=st.all) ai hn
 have hg: ∀i,i<st.all.length->(dw stp em la ai st).all.getD i []=st.all.getD i []:=fun i hi=>by simp only [dw,k6];exact fm hi
 refine ⟨?_,fun i hi=> ?_,fun i hi=> ?_⟩
 ·simp only [dw,k6];rw [Rb (by omega)];exact h.zero
 ·have hi':i<st.rows.length+1:=by simpa [dw] using hi
  rw [hg i (by omega)]
  rcases Nat.lt_or_ge i st.rows.length with q|q
  ·simp only [dw,k6,ju q];exact (h.row i q).mono
  ·obtain rfl:i=st.rows.length:=by omega
   simp only [dw,jt];exact hr
 ·have hi':i<st.rows.length+1:=by simpa [dw] using hi
  rw [hg i (by omega)]
  rcases Nat.lt_or_ge i st.rows.length with q|q
  ·simp only [dw];rw [ju (by rw [ho.ends];exact q)];exact h.LK i q
  ·obtain rfl:i=st.rows.length:=by omega
   simp only [dw];rw [<-ho.ends,jt,xD,ez,ho.ends]
theorem FX {ai:List ByteArray} (hn:ai.Nodup): ∀(f:Nat) {st st':oN},Bj ai st->SW stp em la ai st->qR stp em la ai f st=some st'->SW stp em la ai st'
 | 0,st,st',_,h,e=>by simp only [qR,Rl] at e;subst e;exact h
 | f+1,st,st',ho,h,e=>by
  rw [qR] at e
  split at e
  ·rename_i h1
   split at e
   ·cases e
   ·rename_i h2;exact FX hn f (qQ stp em la ho h1 h2) (IJ stp em la hn ho h h1) e
  ·cases e;exact h
theorem IL {ai:List ByteArray} (hn:ai.Nodup) {st:oN} (h:tf stp em la ai=some st):Bj ai st∧st.rows.length=st.all.length∧SW stp em la ai st:=by
 have ho:=AL stp em la 257 (Kq ai) (by simp [s0]) h;exact ⟨ho.1,ho.2,FX stp em la hn 257 (Kq ai) ⟨rfl,fun i hi=>by simp [s0] at hi,fun i hi=>by simp [s0] at hi⟩ h⟩
def Made (a:List Nat):Prop:=a≠[]∧(a=[0]∨ ∃cur l,a=stp cur l)
theorem Da {cur:List Nat} {all:List (List Nat)} (h: ∀a∈all,Made stp a): ∀ai:List ByteArray, ∀a∈(gE stp cur all ai).1,Made stp a:=by
 refine mL h ?_;intro ai l ih;rw [kR,AJ]
 split
 ·exact ih
 ·rename_i hne
  split
  ·exact ih
  ·intro a ha
   rcases List.mem_append.1 ha with ha|ha
   ·exact ih a ha
   ·simp only [List.mem_singleton] at ha;subst ha;exact ⟨hne, .inr ⟨_,_,rfl⟩⟩
variable {stp em la}
end
def wJ:Go.Shelf.Ren:=⟨fun|7=>198|10=>226|n=>n,fun|23=>193|26=>9|3=>3|28=>239|0=>0|27=>209|33=>107|4=>4|n=>n,fun n=>n⟩
theorem sA:SlLaysZ.n7 Tryz.prog wJ:={
 mixed:=by kernel_rfl
 f7:=⟨Tryz.f198.name,by decide,Tryz.func198⟩
 f10:=⟨Tryz.f226.name,by decide,Tryz.func226⟩
 t0:=by kernel_rfl
 a0:=fun w=>by kernel_rfl
 z0:=fun w=>by kernel_rfl
 v0:=fun w=>by kernel_rfl
 t4:=by kernel_rfl
 a4:=fun w=>by kernel_rfl
 z4:=fun w=>by kernel_rfl
 v4:=fun w=>by kernel_rfl
 t23:=by kernel_rfl
 a23:=fun w=>by kernel_rfl
 z23:=fun w=>by kernel_rfl
 v23:=fun w=>by kernel_rfl
 t26:=by kernel_rfl
 a26:=fun w=>by kernel_rfl
 z26:=fun w=>by kernel_rfl
 v26:=fun w=>by kernel_rfl
 t27:=by kernel_rfl
 a27:=fun w=>by kernel_rfl
 z27:=fun w=>by kernel_rfl
 v27:=fun w=>by kernel_rfl
 t28:=by kernel_rfl
 a28:=fun w=>by kernel_rfl
 z28:=fun w=>by kernel_rfl
 v28:=fun w=>by kernel_rfl
 t33:=by kernel_rfl
 a33:=fun w=>by kernel_rfl
 z33:=fun w=>by kernel_rfl
 v33:=fun w=>by kernel_rfl }
def qV:Go.Shelf.Ren:=⟨fun|6=>197|8=>225|9=>148|11=>241|13=>188|12=>187|23=>221|24=>222|14=>212|15=>213|16=>214|17=>215|18=>216|19=>217|20=>218|21=>219|22=>220|25=>233|26=>234|27=>235|28=>236|29=>237|30=>238|31=>243|n=>n,fun|26=>9|28=>239|24=>43|0=>0|3=>3|37=>121|48=>179|50=>261|4=>4|40=>253|39=>252|45=>195|5=>5|9=>9|51=>267|55=>271|57=>279|58=>280|33=>107|n=>n,fun n=>n⟩
theorem xF:SlLaysZ.n6 Tryz.prog qV:={
 mixed:=by kernel_rfl
 f6:=⟨Tryz.f197.name,by decide,Tryz.func197⟩
 f8:=⟨Tryz.f225.name,by decide,Tryz.func225⟩
 f11:=⟨Tryz.f241.name,by decide,Tryz.func241⟩
 t0:=by kernel_rfl
 a0:=fun w=>by kernel_rfl
 z0:=fun w=>by kernel_rfl
 v0:=fun w=>by kernel_rfl
 t24:=by kernel_rfl
 a24:=fun w=>by kernel_rfl
 z24:=fun w=>by kernel_rfl
 v24:=fun w=>by kernel_rfl
 t26:=by kernel_rfl
 a26:=fun w=>by kernel_rfl
 z26:=fun w=>by kernel_rfl
 v26:=fun w=>by kernel_rfl
 t28:=by kernel_rfl
 a28:=fun w=>by kernel_rfl
 z28:=fun w=>by kernel_rfl
 v28:=fun w=>by kernel_rfl
 i26:=by kernel_rfl }
def FZ:Go.Shelf.Ren:=⟨fun|6=>148|8=>188|9=>187|19=>221|20=>222|21=>212|22=>213|23=>214|24=>215|25=>216|26=>217|27=>218|28=>219|29=>220|36=>233|31=>234|32=>235|37=>236|38=>237|39=>238|41=>243|n=>n,fun|27=>43|29=>9|3=>3|32=>121|26=>43|0=>0|44=>179|46=>261|4=>4|36=>253|35=>252|41=>195|5=>5|9=>9|53=>267|57=>271|63=>279|64=>280|n=>n,fun n=>n⟩
theorem kT:SlLaysM.n6 Tryz.prog FZ:={
 mixed:=by kernel_rfl
 f6:=⟨Tryz.f148.name,by decide,Tryz.func148⟩
 f8:=Tryz.func188
 f9:=⟨Tryz.f187.name,by decide,Tryz.func187⟩
 f19:=Tryz.func221
 f20:=Tryz.func222
 f21:=⟨Tryz.f212.name,by decide,Tryz.func212⟩
 f22:=⟨Tryz.f213.name,by decide,Tryz.func213⟩
 f23:=⟨Tryz.f214.name,by decide,Tryz.func214⟩
 f24:=⟨Tryz.f215.name,by decide,Tryz.func215⟩
 f25:=⟨Tryz.f216.name,by decide,Tryz.func216⟩
 f26:=⟨Tryz.f217.name,by decide,Tryz.func217⟩
 f27:=⟨Tryz.f218.name,by decide,Tryz.func218⟩
 f28:=⟨Tryz.f219.name,by decide,Tryz.func219⟩
 f29:=⟨Tryz.f220.name,by decide,Tryz.func220⟩
 f31:=Tryz.func234
 f32:=Tryz.func235
 f36:=⟨Tryz.f233.name,by decide,Tryz.func233⟩
 f37:=⟨Tryz.f236.name,by decide,Tryz.func236⟩
 f38:=⟨Tryz.f237.name,by decide,Tryz.func237⟩
 f39:=⟨Tryz.f238.name,by decide,Tryz.func238⟩
 f41:=⟨Tryz.f243.name,by decide,Tryz.func243⟩
 t0:=by kernel_rfl
 a0:=fun w=>by kernel_rfl
 z0:=fun w=>by kernel_rfl
 v0:=fun w=>by kernel_rfl
 t3:=by kernel_rfl
 a3:=fun w=>by kernel_rfl
 z3:=fun w=>by kernel_rfl
 v3:=fun w=>by kernel_rfl
 t4:=by kernel_rfl
 a4:=fun w=>by kernel_rfl
 z4:=fun w=>by kernel_rfl
 v4:=fun w=>by kernel_rfl
 t5:=by kernel_rfl
 a5:=fun w=>by kernel_rfl
 z5:=fun w=>by kernel_rfl
 v5:=fun w=>by kernel_rfl
 t9:=by kernel_rfl
 a9:=fun w=>by kernel_rfl
 z9:=fun w=>by kernel_rfl
 v9:=fun w=>by kernel_rfl
 t26:=by kernel_rfl
 a26:=fun w=>by kernel_rfl
 z26:=fun w=>by kernel_rfl
 v26:=fun w=>by kernel_rfl
 t27:=by kernel_rfl
 a27:=fun w=>by kernel_rfl
 z27:=fun w=>by kernel_rfl
 v27:=fun w=>by kernel_rfl
 t29:=by kernel_rfl
 a29:=fun w=>by kernel_rfl
 z29:=fun w=>by kernel_rfl
 v29:=fun w=>by kernel_rfl
 t32:=by kernel_rfl
 a32:=fun w=>by kernel_rfl
 z32:=fun w=>by kernel_rfl
 v32:=fun w=>by kernel_rfl
 t35:=by kernel_rfl
 a35:=fun w=>by kernel_rfl
 z35:=fun w=>by kernel_rfl
 v35:=fun w=>by kernel_rfl
 t36:=by kernel_rfl
 a36:=fun w=>by kernel_rfl
 z36:=fun w=>by kernel_rfl
 v36:=fun w=>by kernel_rfl
 t41:=by kernel_rfl
 a41:=fun w=>by kernel_rfl
 z41:=fun w=>by kernel_rfl
 v41:=fun w=>by kernel_rfl
 t44:=by kernel_rfl
 a44:=fun w=>by kernel_rfl
 z44:=fun w=>by kernel_rfl
 v44:=fun w=>by kernel_rfl
 t46:=by kernel_rfl
 a46:=fun w=>by kernel_rfl
 z46:=fun w=>by kernel_rfl
 v46:=fun w=>by kernel_rfl
 t53:=by kernel_rfl
 a53:=fun w=>by kernel_rfl
 z53:=fun w=>by kernel_rfl
 v53:=fun w=>by kernel_rfl
 t57:=by kernel_rfl
 a57:=fun w=>by kernel_rfl
 z57:=fun w=>by kernel_rfl
 v57:=fun w=>by kernel_rfl
 t63:=by kernel_rfl
 a63:=fun w=>by kernel_rfl
 z63:=fun w=>by kernel_rfl
 v63:=fun w=>by kernel_rfl
 t64:=by kernel_rfl
 a64:=fun w=>by kernel_rfl
 z64:=fun w=>by kernel_rfl
 v64:=fun w=>by kernel_rfl }
def cZ (r:bP):List (List AV):=r.map (fun p=>[.v (.string p.1), .v (.int .i64 (p.2:Nat))])
theorem E6 (r:bP):(cZ r).length=r.length:=by simp [cZ]
@[go_sem] theorem o7 (n:Nat) (r:bP):dA n (cZ r)=true:=bE _ (fun p=>rfl) _
theorem yp (s:ByteArray): ∀r:bP,k9 .string (.string s) (cZ r)=some ((look r s).map (fun n=> .v (.int .i64 (n:Nat))))
 | []=>rfl
 | p :: l=>by
  have ih:=yp s l;simp only [cZ,TN,k9];rw [if_pos (show dj .string (.string p.1)=true from rfl)]
  by_cases h:dT (.string s) (.string p.1)=true
  ·have h':cf s p.1=true:=h;rw [if_pos h];simp [look,h']
  ·have h':cf s p.1=false:=by
    cases hh:cf s p.1
    ·rfl
    ·exact absurd hh h
   rw [if_neg h];simp only [cZ] at ih;rw [ih];simp [look,h']
theorem mY (s:ByteArray) (n:Nat): ∀r:bP,look r s=none->lz .string (.string s) (.v (.int .i64 (n:Nat))) (cZ r)=some (cZ (r++[(s,n)]))
 | [],_=>rfl
 | p :: l,hn=>by
  simp only [cZ,TN,lz,Tl];rw [if_pos (show dj .string (.string p.1)=true from rfl)]
  by_cases h:dT (.string s) (.string p.1)=true
  ·have h':cf s p.1=true:=h;simp [look,h'] at hn
  ·have h':cf s p.1=false:=by
    cases hh:cf s p.1
    ·rfl
    ·exact absurd hh h
   have ih:=mY s n l (by simpa [look,h'] using hn);rw [if_neg h];simp only [cZ] at ih;rw [ih];rfl
@[go_sem] theorem mQ (n:Nat) (rows:List bP):dA n (rows.map (fun r=>[AV.mp (cZ r)]))=true:=bE _ (fun r=>by simp only [bn,AV.wf,o7,Tg]) _
@[go_sem] theorem mP (n:Nat) (ends:List Bool):dA n (ends.map (fun b=>[AV.v (.bool b)]))=true:=bE _ (fun r=>rfl) _
def gV (rows:List bP) (ends:List Bool):List AV:=[.aC 1 (rows.map (fun r=>[.mp (cZ r)])) rows.length, .aC 1 (ends.map (fun b=>[.v (.bool b)])) ends.length]
section
open Go.Maps Go.Sort Go.WideElems
theorem MZ:Tryz.prog.underlying 9=some .string:=by kernel_rfl
def DZ (_:Value):Option (DataW Unit×List MemPlace):=some (.lit (.bool true),[])
def oc (r:bP):List (List UInt8):=r.map (fun p=>p.1.data.toList)
theorem Kk {e:MapEntry} {s:ByteArray} (hk:e.key = .string s) (hs:s.size<=maxLen):rd Tryz.prog 9 DZ e=some (.string s.data.toList, .lit (.bool true)):=by
 unfold WideElems.rd;rw [hk,Go.WideMaps.keyOf_string_mk MZ hs];rfl
theorem H9 {D:Nat->Prop} {nu:Nat->Nat->Value} {o:List (Option aa)} {w:World} {r:bP} {x:Value} (h:RA D nu o w (.mp (cZ r)) x) (hs: ∀p∈r,p.1.size<=maxLen) (hn:(r.map Prod.fst).Nodup) (hl:r.length<=1000000) :
  ∃b D0,x = .map (some b)∧b<w.heap.size∧w.ownsMap Tryz.prog 9 DZ b r.length D0∧(strKeys D0).Perm (oc r)∧Maps.size D0=r.length:=by
 cases h with
 | mp _ b es cl h1 h2 h3 h4 h5 h6 h7=>
 have hlen:es.size=r.length:=by rw [h3,E6]
 have hget: ∀(i:Nat) (hi:i<es.toList.length),es[i]? = some es.toList[i]:=fun i hi=>by rw [<-Array.getElem?_toList];exact Rp hi
 have hk: ∀(i:Nat) (hi:i<es.toList.length) (hi':i<r.length),(es.toList[i]).key=Value.string r[i].1:=fun i hi hi'=>by
  have hrow:(cZ r)[i]? = some [.v (.string r[i].1), .v (.int .i64 (r[i].2:Nat))]:=by rw [cZ,Rs,Rp hi'];rfl
  exact (h7 i 0 _ _ _ hrow rfl (hget i hi)).plain
 have hkeys:es.toList.map (fun e=>e.key)=r.map (fun p=>Value.string p.1):=List.ext_getElem (by simp [hlen]) fun i k1 k2=>by
  rw [TI,TI];exact hk i (by simpa using k1) (by simpa using k2)
 have hrd: ∀(i:Nat) (hi:i<es.toList.length) (hi':i<r.length),rd Tryz.prog 9 DZ es.toList[i]=some (.string r[i].1.data.toList, .lit (.bool true)):=fun i hi hi'=>Kk (hk i hi hi') (hs _ (List.getElem_mem hi'))
 refine ⟨b,_,rfl,h1.1,⟨es,cl,h2,⟨by unfold maxLen;omega,⟨?_, ?_, ?_⟩, ?_⟩,by omega,rfl⟩, ?_, ?_⟩
 ·intro e he;obtain ⟨i,hi,rfl⟩:=List.getElem_of_mem he;exact h5 i _ (hget i hi)
 ·rw [List.Nodup,List.pairwise_iff_getElem];intro i j hi hj hij;rw [TI,TI]
  have:=h6 i j _ _ (hget i (by simpa using hi)) (hget j (by simpa using hj)) hij
  omega
 ·have e:es.toList.map (fun x=>x.key)=(r.map Prod.fst).map Value.string:=by rw [hkeys,TO];rfl
  rw [e,List.Nodup,TQ];exact hn.imp fun hne e=>hne (by cases e;rfl)
 ·intro e he;obtain ⟨i,hi,rfl⟩:=List.getElem_of_mem he;exact ⟨_,hrd i hi (by simpa [hlen] using hi)⟩
 ·rw [strKeys];refine ((WideShapes.sorted_perm _).map _).trans (List.Perm.of_eq ?_);rw [TO];refine List.ext_getElem (by simp [oc,hlen]) fun i k1 k2=> ?_
  have hi:i<es.toList.length:=by simpa using k1
  simp only [oc,TI,Function.comp];rw [rg_of (hrd i hi (by simpa [hlen] using hi))];rfl
 ·show (List.foldr DataW.insert [] _).length=_;rw [(WideShapes.sorted_perm _).length_eq,R5];simp [hlen]
def l7 (l:List ByteArray):Prop:=l.Pairwise (fun a b=>a.data.toList<b.data.toList)
theorem Cj {r:bP} (h:l7 (r.map Prod.fst)):(oc r).mergeSort (fun x y=>decide (x<=y))=oc r:=by
 refine List.mergeSort_of_pairwise ?_;rw [oc,TQ];rw [l7,TQ] at h;exact h.imp fun hh=>decide_eq_true (List.le_of_lt hh)
theorem oY {l:List ByteArray} (h:l7 l):l.Nodup:=h.imp fun {a b} hh e=>by subst e;exact absurd hh (List.lt_irrefl _)
end
def LZ (_:Nat->Prop) (_:World) (x:Value):Prop:= ∃b,x = .pointer (some ⟨b,0,none⟩)
def wI (r:bP):AV:= .fn 226 [] [.iR LZ (.vp [.mp (cZ r)])]
@[go_sem] theorem xX (n:Nat) (r:bP):(wI r).wf n=true:=by simp only [wI,AV.wf,bn,o7,Tg]
theorem Ht (r:bP):ag Tryz.prog 198 [.mp (cZ r)] (wI r):=by
 refine ⟨⟨by simp only [bn,AV.wf,o7,Tg],xX 0 r⟩,by kernel_rfl,fun D nu w vargs hro hra=> ?_⟩;obtain ⟨x,rfl,hx⟩:=dK hra
 obtain ⟨b,rfl⟩: ∃b,x = .map (some b):=by cases hx;exact ⟨_,rfl⟩
 refine ((callsIn_wide (n:=5)).1 (AnyZ.keys_in sA Fence.wide 5 trivial rfl (some b) w)).mono ?_;rintro e w' ⟨rfl,rfl⟩;have hb:Below w.heap.size w (w.alloc (.cells #[.map (some b)] 193)):=(Below.refl _ _).alloc (Nat.le_refl _) _;have hz:Fz D nu [] (w.alloc (.cells #[.map (some b)] 193)) w.heap.size:=⟨by simp,ba _ _,hro.up _ (Nat.le_refl _)⟩;refine ⟨_,nu,[],wI r,rfl,aw hb,hro.below hb, ?_,rfl,rfl⟩;refine .fn _ _ _ _ _ rfl rfl (fun i c x h=>by simp at h) (fun i c y h1 h2=> ?_)
 cases i with
 | succ i=>simp at h1
 | zero=>
  simp only [Su,Rl] at h1;simp at h2;subst h1;subst h2
  refine .iR _ _ _ (fun _=>False) rfl (fun b h=>h.elim) (fun b h=>h.elim) (fun w' _=>⟨_,rfl⟩) (.vp _ _ 0 (fun _=> .map (some b)) hz (fun j c hc=> ?_) (fun j c hc=> ?_) (fun j c hc=>rfl))
  ·cases j with
   | succ j=>simp at hc
   | zero=>
    have h:=cM w (.cells #[.map (some b)] 193);exact (pC h 0).trans rfl
  ·cases j with
   | succ j=>simp at hc
   | zero=>
    simp only [Su,Rl] at hc;subst hc;exact hx.mono (aw hb) (fun _ _ h=>h)
theorem Kt (m:Nat):AnyZ.SortsIn Tryz.prog qV Fence.wide m:=
 ⟨fun blk off cap ss W hH hblk hsz=>callsIn_wide.2 (AnyM.slices_Sort_string kT blk off cap ss W hH hblk hsz),
  fun p cap W=>callsIn_wide.2 (AnyM.slices_Sort_string_none kT p cap W)⟩
theorem De (r:bP) (hs: ∀p∈r,p.1.size<=maxLen) (hr:l7 (r.map Prod.fst)) (hl:r.length<=1000000):ag Tryz.prog 197 [wI r] (aK (r.map Prod.fst)):=
 .uz (by kernel_rfl) (by simp only [bn,xX,Tg]) (fun D nu w vargs hra=>by
  obtain ⟨x,rfl,hx⟩:=dK hra
  cases hx with
  | fn _ _ _ fi ca h1 h2 h3 h4=>
  obtain ⟨y,rfl,hy⟩:=dK (D:=D) (nu:=nu) (o:=[]) (w:=w) ⟨h2,h4⟩;obtain rfl:fi = #[]:=Array.eq_empty_of_size_eq_zero (by simpa using h1.symm)
  cases hy with
  | iR _ _ _ S k0 k1 k2 k3 k4=>
  obtain ⟨Bm,rfl⟩:=k3 w (fun _ _=>rfl)
  cases k4 with
  | vp _ _ _ f q1 q2 q3 q4=>
  have hm:=q2 0 _ rfl;have hmap:=q3 0 _ rfl;obtain ⟨b,D0,e0,hb,hown,hperm,hsize⟩:=H9 hmap hs (oY hr) hl;rw [e0] at hm;simp only [Nat.add_zero] at hm;have hseq:=AnyZ.keys_gives (ρ:=wJ) { sA with } Fence.wide 2 trivial rfl (by omega) Bm b r.length D0 w q1.1 hm hown;have cS:=AnyZ.sorted_in xF Fence.wide 5 trivial trivial trivial trivial rfl (by omega) (Kt _) (enters_of Tryz.func148 (by kernel_rfl) rfl) 226 #[.pointer (some ⟨Bm,0,none⟩)] trivial (enters_of Tryz.func226 (by kernel_rfl) rfl) _ _ (by rw [hsize];unfold maxLen;omega) (by rw [hsize];omega) w hseq;refine ((callsIn_wide (n:=5)).1 cS).mono ?_;rintro e w' ⟨v,ss,rfl,hS,hrow,hnil,hbl⟩
  have hlen:ss.length=(r.map Prod.fst).length:=by rw [hS.length_eq,hperm.length_eq,oc,R5,R5]
  have hk:(ss.mergeSort (fun x y=>decide (x<=y))).map encStr=(r.map Prod.fst).map Value.string:=by
   rw [Go.mergeSort_of_perm (hS.trans hperm),Cj hr,oc,TO,TO];refine List.map_congr_left fun p _=> ?_;simp [encStr]
  rw [hlen,hk] at hrow
  exact ⟨v,rfl,lT hrow,hbl,sO hrow⟩)
theorem H7 {r:bP} {i:Nat} (h:i<r.length):cZ (r.drop i)=[.v (.string r[i].1), .v (.int .i64 (r[i].2:Nat))] :: cZ (r.drop (i+1)):=by
 rw [cZ,List.drop_eq_getElem_cons h];rfl
theorem J2 {r:bP} (hr:l7 (r.map Prod.fst)) {i:Nat} (h:i<r.length):look r r[i].1=some r[i].2:=H5 (oY hr) (List.getElem_mem h)
theorem th (rows:List bP) (ends:List Bool) (s:Nat) (hs:s<rows.length) (hN:rows.length<=1000000) (hz: ∀p∈rows[s],p.1.size<=maxLen) (hr:l7 (rows[s].map Prod.fst)) (hl:rows[s].length<=1000000) :
  gy Tryz.prog 196 [.vp [.vp (gV rows ends)], .vp [.v (.int .i64 (s:Nat))]] [] (cZ rows[s]):=by
 have CK:=Ht rows[s];have CS:=De rows[s] hz hr hl
 have e0:cZ rows[s]=cZ (rows[s].drop 0):=by rw [List.drop_zero]
 have eR:(rows.map (fun r=>[AV.mp (cZ r)])).getD s []=[.mp (cZ rows[s])]:=by
  rw [R6,Rs,Rp hs];rfl
 rw [show gy Tryz.prog 196 [.vp [.vp (gV rows ends)], .vp [.v (.int .i64 (s:Nat))]] [] (cZ rows[s])=gy Tryz.prog 196 [.vp [.vp (gV rows ends)], .vp [.v (.int .i64 (s:Nat))]] [] (cZ (rows[s].drop 0)) by rw [<-e0]];simp only [gV,aK,R5] at *
 (refine gy.enter Tryz.func196 rfl (by kernel_rfl) (by kernel_rfl) rfl (fun l=> ?_);simp only [Tryz.ntmps196,Tryz.results196,List.length_cons,List.length_nil,Nat.reduceAdd,Nat.reduceSub,Ti,Tj,Tl,List.nil_append])
 repeat (first|(with_reducible first|refine af.up ?_|refine fun (K:AK) hK=> ?_|refine ar (by decide) ?_|(refine hK _ ?_;clear hK K))|simp only [go_sem,eR]|with_reducible refine wA ?_|clear hK K)
 refine fO [] [] (by decide+kernel) (by kernel_rfl) ?_
 repeat (first|(with_reducible first|refine af.up ?_|refine fun (K:AK) hK=> ?_|refine ar (by decide) ?_|(refine hK _ ?_;clear hK K))|simp only [go_sem,eR]|with_reducible refine wA ?_|clear hK K)
 refine aQ.one CK ?_
 repeat (first|(with_reducible first|refine af.up ?_|refine fun (K:AK) hK=> ?_|refine ar (by decide) ?_|(refine hK _ ?_;clear hK K))|simp only [go_sem,eR]|with_reducible refine wA ?_|clear hK K)
 refine aQ.one CS ?_
 repeat (first|(with_reducible first|refine af.up ?_|refine fun (K:AK) hK=> ?_|refine ar (by decide) ?_|(refine hK _ ?_;clear hK K))|simp only [go_sem,eR]|with_reducible refine wA ?_|clear hK K)
 refine fl (ι:=Nat) 17 (fun i=>[(16, .v (.int .i64 i)),(5, .undef)]) (fun i=>[]) (fun i=> .run l (cZ (rows[s].drop i))) (fun i=>rows[s].length - i) (fun i=>i<=rows[s].length) 0 (by omega) ?_ ?_
 ·(refine ak ?_ ?_ ?_<;>simp only [aR,List.foldl_cons,List.foldl_nil,Ti,Tj,aX,aW,AV.v.injEq,Value.int.injEq,Value.bool.injEq,Value.string.injEq,AV.vec.injEq,AV.ptr.injEq,true_or,or_true,false_or,or_false,aa.mk.injEq,forall_eq_apply_imp_iff,forall_eq,forall_eq',go_sem])
  rfl
 ·rintro i hi K hK
  repeat (first|(with_reducible first|refine af.up ?_|refine fun (K:AK) hK=> ?_|refine ar (by decide) ?_|(refine hK _ ?_;clear hK K))|simp only [go_sem]|with_reducible refine wA ?_|clear hK K)
  refine cL.part (fun h=> ?_) (fun h=> ?_)
  ·have hlt:i<rows[s].length:=by (try simp only [bne_iff_ne,ne_eq,bne_eq_false_iff_eq,beq_iff_eq,beq_eq_false_iff_ne,decide_eq_true_eq,decide_eq_false_iff_not,Tn,Int.natCast_inj,Int.ofNat_lt,Int.ofNat_le] at h);omega
   have eW:=aD (k:=i) (by omega)
   have eG:(List.map encS (List.map Prod.fst rows[s])).getD i []=[.v (.string rows[s][i].1)]:=by
    rw [R6,Rs,Rs,Rp hlt];rfl
   have eY:=H7 hlt;have eA:=yp rows[s][i].1 rows[s];rw [J2 hr hlt] at eA;simp only [Option.map_some] at eA
   repeat (first|(with_reducible first|refine af.up ?_|refine fun (K:AK) hK=> ?_|refine ar (by decide) ?_|(refine hK _ ?_;clear hK K))|simp only [go_sem,eG,h]|with_reducible refine wA ?_|clear hK K)
   (refine BI 11 (by decide+kernel) (by kernel_rfl) ?_;simp only [List.drop_succ_cons,List.drop_zero,List.take_succ_cons,List.take_zero])
   repeat' (first|(with_reducible first|refine af.up ?_|refine fun (K:AK) hK=> ?_|refine ar (by decide) ?_|(refine hK _ ?_;clear hK K))|simp only [go_sem,eR,eA,eY,eW,Go.undef]|with_reducible refine wA ?_|clear hK K|(with_reducible refine ab.one (by assumption) ?_)|(with_reducible refine aQ.one (by assumption) ?_)|(refine cL.part (fun hb=> ?_) (fun hb=> ?_)<;>simp only [hb,go_sem,eR,eA,eY,eW,Go.undef])|(refine cL.part (fun hb=> ?_) (fun hb=> ?_))|(with_reducible refine dy.mk ?_ ?_))
   ·exact aM.mk (i+1) (by omega) (by omega) (by (refine ak ?_ ?_ ?_<;>simp only [aR,List.foldl_cons,List.foldl_nil,Ti,Tj,aX,aW,AV.v.injEq,Value.int.injEq,Value.bool.injEq,Value.string.injEq,AV.vec.injEq,AV.ptr.injEq,true_or,or_true,false_or,or_false,aa.mk.injEq,forall_eq_apply_imp_iff,forall_eq,forall_eq',go_sem]))
   ·exact .inr trivial
  ·have e1:rows[s].drop i=[]:=List.drop_eq_nil_of_le (by (try simp only [bne_iff_ne,ne_eq,bne_eq_false_iff_eq,beq_iff_eq,beq_eq_false_iff_ne,decide_eq_true_eq,decide_eq_false_iff_not,Tn,Int.natCast_inj,Int.ofNat_lt,Int.ofNat_le] at h);omega);simp only [e1,cZ,List.map_nil]
   repeat (first|(with_reducible first|refine af.up ?_|refine fun (K:AK) hK=> ?_|refine ar (by decide) ?_|(refine hK _ ?_;clear hK K))|simp only [go_sem]|with_reducible refine wA ?_|clear hK K)
   exact .inl trivial
theorem AQ (rows:List bP) (ends:List Bool) (s:Nat):ag Tryz.prog 158 [.vp (gV rows ends), .v (.int .i64 (s:Nat))] (.fn 196 [] [.vp [.vp (gV rows ends)], .vp [.v (.int .i64 (s:Nat))]]):=by
 simp only [gV] at *
 (refine ag.enter Tryz.func158 rfl (by kernel_rfl) (by kernel_rfl) rfl (by first|rfl|(simp only [go_sem,Tg,Bool.and_true,Bool.true_and])) (by first|rfl|(simp only [go_sem,Tg,Bool.and_true,Bool.true_and])) ?_;simp only [Tryz.ntmps158,Tryz.results158,List.length_cons,List.length_nil,Nat.reduceAdd,Nat.reduceSub,Ti,Tj,Tl,List.nil_append])
 repeat' (first|(with_reducible first|refine af.up ?_|refine fun (K:AK) hK=> ?_|(refine hK _ ?_;clear hK K))|simp only [go_sem]|clear hK K|(with_reducible refine ab.one (by assumption) ?_)|(with_reducible refine aQ.one (by assumption) ?_)|(refine cL.part (fun hb=> ?_) (fun hb=> ?_)<;>simp only [hb,go_sem])|(refine cL.part (fun hb=> ?_) (fun hb=> ?_))|(with_reducible refine dy.mk ?_ ?_))
 (refine kY.of 40 rfl ?_;simp only [go_sem])
end
section
theorem JT {a b x y:List UInt8} (h:a++32 :: x=b++32 :: y) (ha:32∉a) (hb:32∉b):a=b∧x=y:=by
 induction a generalizing b with
 | nil=>
  cases b with
  | nil=>simpa using h
  | cons c b=>simp at h hb;exact absurd h.1 hb.1
 | cons d a ih=>
  cases b with
  | nil=>simp at h ha;exact absurd h.1.symm ha.1
  | cons c b=>
   simp only [Tl,TK,List.mem_cons,not_or] at h ha hb;obtain ⟨rfl,h⟩:=h;obtain ⟨h1,h2⟩:=ih h ha.2 hb.2;exact ⟨by rw [h1],h2⟩
section
variable (rows:List bP) (ends:List Bool)
def Cw (r:bP):Prop:= ∀p∈r,32∉p.1.data.toList
def AI (part:List Nat) (r:bP):List Nat:=r.map (fun e=>part.getD e.2 0)
theorem xL {part:List Nat}: ∀ {r s:bP},Cw r->Cw s->r.flatMap (fun e=>32 :: (e.1.data.toList++32 :: Lib.decDigits (part.getD e.2 0)))=s.flatMap (fun e=>32 :: (e.1.data.toList++32 :: Lib.decDigits (part.getD e.2 0)))->r.map Prod.fst=s.map Prod.fst∧AI part r=AI part s
 | [],[],_,_,_=>⟨rfl,rfl⟩
 | [],b :: s,_,_,h=>by simp at h
 | a :: r,[],_,_,h=>by simp at h
 | a :: r,b :: s,h1,h2,h=>by
  simp only [List.flatMap_cons,Tl,RD,TK,true_and] at h;obtain ⟨k1,k2⟩:=JT h (h1 a List.mem_cons_self) (h2 b List.mem_cons_self)
  have hh: ∀t:bP,(t.flatMap (fun e=>32 :: (e.1.data.toList++32 :: Lib.decDigits (part.getD e.2 0))))=[]∨(t.flatMap (fun e=>32 :: (e.1.data.toList++32 :: Lib.decDigits (part.getD e.2 0)))).head? = some 32:=fun t=>by
   cases t with
   | nil=>exact .inl rfl
   | cons a t=>exact .inr rfl
  obtain ⟨k3,k4⟩:=mh k2 (hh r) (hh s);obtain ⟨k5,k6⟩:=xL (fun p hp=>h1 p (Sb _ hp)) (fun p hp=>h2 p (Sb _ hp)) k4
  have:a.1=b.1:=by
   cases ha:a.1 with|mk x=>cases hb:b.1 with|mk y=>
   rw [ha,hb] at k1;exact congrArg ByteArray.mk (Array.toList_inj.1 k1)
  exact ⟨by rw [TN,TN,k5,this],by rw [AI,TN,k3];rw [AI,AI] at k6;rw [k6];rfl⟩
theorem CA {part:List Nat} {p q:Nat} {r s:bP} (h1:Cw r) (h2:Cw s) (h:df part p r=df part q s):p=q∧r.map Prod.fst=s.map Prod.fst∧AI part r=AI part s:=by
 have e:uG part p r=uG part q s:=by
  have:(df part p r).data.toList=(df part q s).data.toList:=by rw [h]
  simpa [df] using this
 have hh: ∀t:bP,(t.flatMap (fun e=>32 :: (e.1.data.toList++32 :: Lib.decDigits (part.getD e.2 0))))=[]∨(t.flatMap (fun e=>32 :: (e.1.data.toList++32 :: Lib.decDigits (part.getD e.2 0)))).head? = some 32:=fun t=>by
  cases t with
  | nil=>exact .inl rfl
  | cons a t=>exact .inr rfl
 obtain ⟨k1,k2⟩:=mh e (hh r) (hh s);exact ⟨k1,xL h1 h2 k2⟩
structure PR (part:List Nat):Prop where
 ends: ∀s t,s<rows.length->t<rows.length->part.getD s 0=part.getD t 0->ends.getD s false=ends.getD t false
 row: ∀s t,s<rows.length->t<rows.length->part.getD s 0=part.getD t 0->(rows.getD s []).map Prod.fst=(rows.getD t []).map Prod.fst∧AI part (rows.getD s [])=AI part (rows.getD t [])
def Au:Prop:= ∀r∈rows,Cw r
theorem Av (h:Au rows) (s:Nat):Cw (rows.getD s []):=by
 rcases Nat.lt_or_ge s rows.length with q|q
 ·exact h _ (ij q)
 ·rw [R6,List.getElem?_eq_none q];exact fun p hp=>by simp at hp
theorem sR {part:List Nat} {s t:Nat} (hs:s<rows.length) (ht:t<rows.length):(ee rows part).getD s 0=(ee rows part).getD t 0↔df part (part.getD s 0) (rows.getD s [])=df part (part.getD t 0) (rows.getD t []):=by
 have ok:=gb rows part rows.length;obtain ⟨q1,q2⟩:=ok.at' s hs;obtain ⟨r1,r2⟩:=ok.at' t ht
 constructor
 ·intro e;have e1:(eb rows part rows.length).2.getD s 0=(eb rows part rows.length).2.getD t 0:=e;rw [<-q2, <- r2];simp only [e1]
 ·intro e;rw [<-q2, <- r2] at e
  exact TR fun hne=>by
   rcases Nat.lt_or_ge ((eb rows part rows.length).2.getD s 0) ((eb rows part rows.length).2.getD t 0) with h|h
   ·exact TH.1 ok.nd _ _ q1 r1 h e
   ·exact TH.1 ok.nd _ _ r1 q1 (Nat.lt_of_le_of_ne h (fun q=>hne q.symm)) e.symm
theorem lP {part:List Nat} {s t:Nat} (hs:s<rows.length) (ht:t<rows.length) (h:(ee rows part).getD s 0=(ee rows part).getD t 0):part.getD s 0=part.getD t 0:=
 qC ((sR rows hs ht).1 h)
theorem mC {part:List Nat} {s:Nat} (hs:s<rows.length):(ee rows part).getD s 0<gv rows part:=((gb rows part rows.length).at' s hs).1
theorem zk {part:List Nat} {many:Nat} (h:Lm rows part many) (hlt: ∀s,s<rows.length->part.getD s 0<many) (he:gv rows part=many) {s t:Nat} (hs:s<rows.length) (ht:t<rows.length) (hp:part.getD s 0=part.getD t 0):(ee rows part).getD s 0=(ee rows part).getD t 0:=by
 refine TR fun hne=> ?_
 have hch: ∀k, ∃m,k<many-> ∃u,u<rows.length∧part.getD u 0=k∧(ee rows part).getD u 0=m:=fun k=>by
  by_cases hk:k<many
  ·obtain ⟨u,h1,h2⟩:=h.2 k hk;exact ⟨_,fun _=>⟨u,h1,h2,rfl⟩⟩
  ·exact ⟨0,fun q=>absurd q hk⟩
 obtain ⟨f,hf⟩:=Classical.axiomOfChoice hch
 have fin: ∀a b,a<many->b<many->f a=f b->a=b:=fun a b ha hb e=>by
  obtain ⟨u,k1,k2,k3⟩:=hf a ha;obtain ⟨v,m1,m2,m3⟩:=hf b hb
  have:=lP rows k1 m1 (k3.trans (e.trans m3.symm))
  rw [<-k2, <- m2];exact this
 have hk:=hlt s hs
 
 obtain ⟨z,hz,hz2⟩: ∃z,z<rows.length∧part.getD z 0=part.getD s 0∧(ee rows part).getD z 0≠f (part.getD s 0):=by
  by_cases q:(ee rows part).getD s 0=f (part.getD s 0)
  ·exact ⟨t,ht,hp.symm,fun e=>hne (q.trans e.symm)⟩
  ·exact ⟨s,hs,rfl,q⟩
 have:=EL (many+1) (gv rows part) (fun a=>if a<many then f a else (ee rows part).getD z 0) (fun a ha=>by
  split
  ·rename_i q;obtain ⟨u,k1,_,k3⟩:=hf a q;rw [<-k3];exact mC rows k1
  ·exact mC rows hz) (fun a b ha hb e=>by
  have side: ∀a,a<many->f a≠(ee rows part).getD z 0:=fun a q e=>by
   obtain ⟨u,k1,k2,k3⟩:=hf a q
   have:=lP rows k1 hz (k3.trans e)
   have ha':a=part.getD s 0:=by rw [<-k2,this,hz2.1]
   subst ha';exact hz2.2 e.symm
  split at e<;>split at e
  ·rename_i q1 q2;exact fin a b q1 q2 e
  ·rename_i q1 q2;exact absurd e (side a q1)
  ·rename_i q1 q2;exact absurd e.symm (side b q2)
  ·omega)
 omega
def Ja (part:List Nat):Prop:= ∀s t,s<rows.length->t<rows.length->part.getD s 0=part.getD t 0->ends.getD s false=ends.getD t false
theorem xh (hn:Au rows) (hT: ∀r∈rows, ∀p∈r,p.2<rows.length) (h0:0<rows.length): ∀(f:Nat) {part:List Nat} {many:Nat},Ja rows ends part->Lm rows part many->many<=rows.length->(many≠0-> ∀s,s<rows.length->part.getD s 0<many)->rows.length+1<=f+many ->
  PR rows ends (uI rows f part many)∧(uI rows f part many).length=rows.length
 | 0,part,many,_,_,_,_,hf=>by omega
 | f+1,part,many,he,ho,hm,hlt,hf=>by
  have hN:Ja rows ends (ee rows part):=fun s t hs ht h=>he s t hs ht (lP rows hs ht h);have hpos:0<gv rows part:=Nat.lt_of_le_of_lt (Nat.zero_le _) (mC rows (part:=part) h0);rw [uI]
  split
  ·rename_i hq;refine ⟨⟨hN,fun s t hs ht h=> ?_⟩,(qF rows part).1⟩;obtain ⟨_,k2,k3⟩:=CA (Av rows hn s) (Av rows hn t) ((sR rows hs ht).1 h);refine ⟨k2, ?_⟩
   
   have hlen:(rows.getD s []).length=(rows.getD t []).length:=by simpa using congrArg List.length k2
   refine List.ext_getElem (by simp only [AI,R5,hlen]) fun i h1 h2=> ?_
   have e:(AI part (rows.getD s []))[i]? = (AI part (rows.getD t []))[i]? :=by rw [k3]
   simp only [AI,R5] at h1 h2;simp only [AI,List.getElem?_map,Rp h1,Rp h2,Option.map_some,Option.some.injEq,List.getElem_map] at e ⊢;exact zk rows ho (hlt (by omega)) hq (hT _ (ij hs) _ (S9 h1)) (hT _ (ij ht) _ (S9 h2)) e
  ·rename_i hq
   have:=qE rows ho
   exact xh hn hT h0 f hN (qF rows part) (xg rows part) (fun _ s hs=>mC rows hs) (by omega)
theorem zl (hn:Au rows) (hT: ∀r∈rows, ∀p∈r,p.2<rows.length) (h0:0<rows.length) (hl:ends.length=rows.length):PR rows ends (fG rows ends)∧(fG rows ends).length=rows.length:=by
 refine xh rows ends hn hT h0 (rows.length+2) (fun s t hs ht h=> ?_) ⟨by simp [p0,hl],fun k h=>by omega⟩ (Nat.zero_le _) (fun h=>absurd rfl h) (by omega)
 have hg: ∀u,u<rows.length->(p0 ends).getD u 0=if ends.getD u false then 1 else 0:=fun u hu=>by
  rw [p0,R6,List.getElem?_map,Rp (by omega),R6,Rp (by omega)];rfl
 rw [hg s hs,hg t ht] at h;cases h1:ends.getD s false<;>cases h2:ends.getD t false<;>simp_all
variable {rows ends}
def Oh (part order:List Nat) (r r':bP):Prop:= ∀l,(look r l=none->look r' l=none)∧ ∀t,look r l=some t-> ∃k,look r' l=some k∧k<order.length∧part.getD (order.getD k 0) 0=part.getD t 0
structure QW (rows:List bP) (ends:List Bool) (part:List Nat) (st:Dq):Prop where
 zero:st.order.getD 0 0=0
 row: ∀k,k<st.rows.length->Oh part st.order (rows.getD (st.order.getD k 0) []) (st.rows.getD k [])
 LK: ∀k,k<st.rows.length->st.ends.getD k false=ends.getD (st.order.getD k 0) false
end
theorem Hg {l:List Nat} {k:Nat} {x:List AV} (h:(au l)[k]? = some x): ∃hk:k<l.length,x=[.v (.int .i64 (l[k]:Nat))]:=by
 obtain ⟨h1,h2⟩:=List.getElem?_eq_some_iff.1 h;simp only [au,R5] at h1;exact ⟨h1,by rw [<-h2];simp [au]⟩
theorem gN {n0:Nat} {Q:aZ->AS->Prop} {t:List AV} {o:List (Option aa)} {y:iQ} {g:Operand} {ps:Array Tmp} {assign body:Code} (m:BitVec 32) (id:Nat) (ho:o[id]? = some (some (lI m))) (mm:Nat) (O:Nat->List (Option aa)) (ok:Nat->Prop) (h0:ok 0)
  (hg:(AS.mk t o y).ev g = .fn 231 [] [.ptr id 0 1 0 0]) (hdead:(O 0)[id]? = some none) (hwk:Wk n0 ⟨t,o,y⟩ ⟨cR mm t,O 0,y⟩) (hA:b6 assign=true) (hB:b6 body=true) (hps:ps.size=1)
  (hround: ∀k (hk:k<(ay m).length),ok k->cF Tryz.prog (O 0).length assign ⟨fU ps.toList [.v (.int .i64 ((ay m)[k]:Nat))] (cR mm t),O k,y⟩ (lv Tryz.prog (O 0).length body (ln (O 0).length (cR mm t) (ok (k+1)) (O (k+1)) y Q)))
  (hfin:ok (ay m).length->Q .normal ⟨cR mm t,O (ay m).length,y⟩):cF Tryz.prog n0 (.rangeFunc g ps assign body) ⟨t,o,y⟩ Q:=by
 have hl:(au (ay m)).length=(ay m).length:=by simp [au]
 refine px (GO m) [id] (by simp) ?_ ?_ O (fun _=>y) ok h0 (cR mm t) ?_ (by rfl) ?_ hwk hA hB ?_ ?_ (by rw [hl];exact hfin)
 ·simp only [TN,List.map_nil,ho,Option.map_some];rfl
 ·intro k ob hk
  match k,hk with
  | 0,hk=>cases hk;rfl
  | k+1,hk=>simp at hk
 ·rw [hg];rfl
 ·intro i hi ob
  obtain rfl:i=id:=by simpa using hi
  rw [hdead];intro h;cases h
 ·intro x hx;obtain ⟨p,_,rfl⟩:=List.mem_map.1 hx;exact hps.symm
 ·intro k x hk hx;obtain ⟨hlt,rfl⟩:=Hg hx;exact hround k hlt hk
def ofM (p:Int):BitVec 32:=if 0<=p∧p<=24 then 1#32 <<< p.toNat else 0#32
theorem Ay {p:Int} {i:Nat}:(ofM p).getLsbD i=decide (0<=p∧p<=24∧i=p):=by
 rw [ofM]
 split
 ·rename_i h;rw [BitVec.getLsbD_shiftLeft,BitVec.getLsbD_one,Bool.eq_iff_iff];simp;omega
 ·rename_i h;rw [BitVec.getLsbD_zero,eq_comm,decide_eq_false_iff_not];omega
theorem J7 (p:Int):ag Tryz.prog 182 [.v (.int .i64 p)] (aP (ofM p)):=by
 have hS:0<=p∧p<=24->IntKind.u32.wrap (1 * 2 ^ min p.toNat 32)=((ofM p).toNat:Nat):=fun h=>by
  have e:min p.toNat 32=p.toNat:=by omega
  rw [ofM,if_pos h,e,Ig]
 have hZ: ¬(0<=p∧p<=24)->ofM p=0#32:=fun h=>by rw [ofM,if_neg h]
 simp only [aP]
 rcases Int.lt_or_le p 0 with h1|h1
 ·have b1:decide (p<0)=true:=decide_eq_true h1;rw [hZ (by omega)]
  (refine ag.enter Tryz.func182 rfl (by kernel_rfl) (by kernel_rfl) rfl (by first|rfl|(simp only [go_sem,Tg,SA,SD])) (by first|rfl|(simp only [go_sem,Tg,SA,SD])) ?_;simp only [Tryz.ntmps182,Tryz.results182,Rg,Q9,Nat.reduceAdd,Nat.reduceSub,Ti,Tj,Tl,Tm])
  repeat (first|(with_reducible first|refine af.up ?_|refine fun (K:AK) hK=> ?_|(refine hK _ ?_;clear hK K))|simp only [go_sem,b1,Go.undef]|with_reducible refine wA ?_|clear hK K)
  rfl
 ·have b1:decide (p<0)=false:=decide_eq_false (by omega)
  rcases Int.lt_or_le 24 p with h2|h2
  ·have b2:decide (24<p)=true:=decide_eq_true h2;rw [hZ (by omega)]
   (refine ag.enter Tryz.func182 rfl (by kernel_rfl) (by kernel_rfl) rfl (by first|rfl|(simp only [go_sem,Tg,SA,SD])) (by first|rfl|(simp only [go_sem,Tg,SA,SD])) ?_;simp only [Tryz.ntmps182,Tryz.results182,Rg,Q9,Nat.reduceAdd,Nat.reduceSub,Ti,Tj,Tl,Tm])
   repeat (first|(with_reducible first|refine af.up ?_|refine fun (K:AK) hK=> ?_|(refine hK _ ?_;clear hK K))|simp only [go_sem,b1,b2,Go.undef]|with_reducible refine wA ?_|clear hK K)
   rfl
  ·have b2:decide (24<p)=false:=decide_eq_false (by omega);have e:=hS ⟨h1,h2⟩;have e0:(0<=p)=True:=eq_true h1
   (refine ag.enter Tryz.func182 rfl (by kernel_rfl) (by kernel_rfl) rfl (by first|rfl|(simp only [go_sem,Tg,SA,SD])) (by first|rfl|(simp only [go_sem,Tg,SA,SD])) ?_;simp only [Tryz.ntmps182,Tryz.results182,Rg,Q9,Nat.reduceAdd,Nat.reduceSub,Ti,Tj,Tl,Tm])
   repeat (first|(with_reducible first|refine af.up ?_|refine fun (K:AK) hK=> ?_|(refine hK _ ?_;clear hK K))|simp only [go_sem,b1,b2,e,e0,Go.undef]|with_reducible refine wA ?_|clear hK K)
theorem E3 (m:BitVec 32):ag Tryz.prog 189 [aP m] (.aC 1 (au (ay m)) (ay m).length):=by
 have A:=mK m;have hb:=BM m;simp only [lI,aP] at *
 (refine ag.enter Tryz.func189 rfl (by kernel_rfl) (by kernel_rfl) rfl (by first|rfl|(simp only [go_sem,Tg,SA,SD])) (by first|rfl|(simp only [go_sem,Tg,SA,SD])) ?_;simp only [Tryz.ntmps189,Tryz.results189,Rg,Q9,Nat.reduceAdd,Nat.reduceSub,Ti,Tj,Tl,Tm])
 repeat (first|(with_reducible first|refine af.up ?_|refine fun (K:AK) hK=> ?_|(refine hK _ ?_;clear hK K))|simp only [go_sem]|with_reducible refine wA ?_|clear hK K)
 refine ab.fr [] A (by simp) ?_ ?_ ?_ ?_ ?_
 ·rfl
 ·rfl
 ·rfl
 ·intro k ob hk;simp at hk
 repeat (first|(with_reducible first|refine af.up ?_|refine fun (K:AK) hK=> ?_|(refine hK _ ?_;clear hK K))|simp only [go_sem]|with_reducible refine wA ?_|clear hK K)
 refine iW (bY (k:=0) (i:=0) (j:=0) 3 1 (by decide) rfl (by decide) rfl rfl) (by kernel_rfl) ?_;simp only [Rg,Q9,Nat.reduceAdd,Tl,Tm,List.set_cons_zero]
 refine gN m 1 rfl 3 (fun k=>[some ⟨75,1,false,[[.vec 2 k]]⟩,none,some ⟨3,1,true,au ((ay m).take k)⟩]) (fun _=>True) trivial ?_ rfl ?_ (by kernel_rfl) (by kernel_rfl) rfl ?_ ?_
 ·rfl
 ·(refine ak ?_ ?_ ?_<;>simp only [aR,SI,SL,Ti,Tj,aX,aW,AV.v.injEq,Value.int.injEq,Value.bool.injEq,Value.string.injEq,AV.vec.injEq,AV.ptr.injEq,true_or,or_true,false_or,or_false,aa.mk.injEq,forall_eq_apply_imp_iff,forall_eq,forall_eq',go_sem])
  rfl
 ·intro k hk _
  have eS:au ((ay m).take (k+1))=au ((ay m).take k)++[[.v (.int .i64 ((ay m)[k]:Nat))]]:=by rw [SR hk,au,List.map_append];rfl
  have eL:(au ((ay m).take k)).length=k:=by simp [au];omega
  repeat (first|(with_reducible first|refine af.up ?_|refine fun (K:AK) hK=> ?_|(refine hK _ ?_;clear hK K))|simp only [go_sem]|with_reducible refine wA ?_|clear hK K)
  rw [eS]
  (refine ak ?_ ?_ ?_<;>simp only [aR,SI,SL,Ti,Tj,aX,aW,AV.v.injEq,Value.int.injEq,Value.bool.injEq,Value.string.injEq,AV.vec.injEq,AV.ptr.injEq,true_or,or_true,false_or,or_false,aa.mk.injEq,forall_eq_apply_imp_iff,forall_eq,forall_eq',go_sem])
 ·intro _;have e1:(ay m).take (ay m).length=ay m:=List.take_length
  have eL:(au (ay m)).length=(ay m).length:=by simp [au]
  repeat (first|(with_reducible first|refine af.up ?_|refine fun (K:AK) hK=> ?_|(refine hK _ ?_;clear hK K))|simp only [go_sem,e1]|with_reducible refine wA ?_|clear hK K)
  rw [<-eL]
  (refine kY.of 40 rfl ?_;simp only [go_sem])
  trace_state
structure ck where
 ai:List ByteArray
 fs:List (BitVec 32)
 la:BitVec 32
 em:Bool
def ck.row (i:Nat) (s:ck):List AV:= .vec i s.ai.length :: (s.fs.map aP++[aP s.la, .v (.bool s.em)])
def ck.os (s:ck):List (Option aa):=[some ⟨183,28,false,[s.row 1]⟩,some ⟨9,1,true,s.ai.map encS⟩]
def Co (b:BitVec 32) (fs:List (BitVec 32)) (p:Nat):List (BitVec 32):=fs.set p (fs.getD p 0#32 ||| b)
def jU (b:BitVec 32) (l:List Nat) (fs:List (BitVec 32)):List (BitVec 32):=l.foldl (Co b) fs
theorem mq (b:BitVec 32): ∀(l:List Nat) (fs:List (BitVec 32)),(jU b l fs).length=fs.length
 | [],fs=>rfl
 | p :: l,fs=>by rw [jU,SI, <- jU,mq b l,Co,List.length_set]
theorem Cp (b:BitVec 32) (l:List Nat) (p:Nat) (fs:List (BitVec 32)):jU b (l++[p]) fs=Co b (jU b l fs) p:=by
 rw [jU,List.foldl_append];rfl
theorem Am {fs:List (BitVec 32)} {l:AV} {X:List AV} {p:Nat} (h:p<fs.length): ∃r,(l :: (fs.map aP++X)).drop (1+p * 1)=aP (fs.getD p 0#32) :: r:=by
 refine ⟨(fs.map aP++X).drop (p+1), ?_⟩;rw [Nat.mul_one,Nat.add_comm,List.drop_succ_cons,List.drop_eq_getElem_cons (by simp;omega),List.getElem_append_left (by simpa using h),List.getElem_map];simp [List.getD,h]
theorem JY {fs:List (BitVec 32)} {l:AV} {X:List AV} {p:Nat} (x:BitVec 32) (h:p<fs.length):(l :: (fs.map aP++X)).take (1+p * 1)++aP x :: (fs.map aP++X).drop (1+p * 1)=l :: ((fs.set p x).map aP++X):=by
 rw [Nat.mul_one,Nat.add_comm,List.take_succ_cons,Tl,List.map_set, <- List.set_append_left p (aP x) (by simpa using h),List.set_eq_take_append_cons_drop,if_pos (by simp;omega)]
theorem zR (n:Nat) (fs:List (BitVec 32)) (x y:Value):bn n (fs.map aP++[.v x, .v y])=true:=by
 induction fs with
 | nil=>rfl
 | cons z l ih=>simp only [TN,Tl,bn,aP,AV.wf,SD];exact ih
theorem uV (f:Nat->Nat) (fs:List (BitVec 32)) (x y:Value):bV f (fs.map aP++[.v x, .v y])=fs.map aP++[.v x, .v y]:=by
 induction fs with
 | nil=>rfl
 | cons z l ih=>simp only [TN,Tl,bV,ih];rfl
attribute [go_sem] zR uV
theorem E2 (s:ck) (a b:BitVec 32) (hl:s.fs.length=25) (ha: ∀p,p∈ay a->p<25) :
  bK Tryz.prog 184 [.ptr 0 0 28 0 0,aP a,aP b] s.os (.dC []) (ck.os { s with fs:=jU b (ay a) s.fs }):=by
 have A:=mK a;obtain ⟨ai,fs,la,em⟩:=s;simp only [ck.os,ck.row,lI] at *;simp only [aP] at A;simp only [aP]
 (refine bK.enter Tryz.func184 rfl (by kernel_rfl) (by kernel_rfl) rfl ?_;simp only [Tryz.ntmps184,Tryz.results184,Rg,Q9,Nat.reduceAdd,Nat.reduceSub,Ti,Tj,Tl,Tm])
 repeat (first|(with_reducible first|refine af.up ?_|refine fun (K:AK) hK=> ?_|refine wE ?_|refine wK ?_|refine wF ?_|(refine hK _ ?_;clear hK K))|simp only [go_sem]|with_reducible refine wA ?_|clear hK K)
 refine ab.fr [] A (by simp) ?_ ?_ ?_ ?_ ?_
 ·rfl
 ·rfl
 ·rfl
 ·intro k ob hk;simp at hk
 repeat (first|(with_reducible first|refine af.up ?_|refine fun (K:AK) hK=> ?_|refine wE ?_|refine wK ?_|refine wF ?_|(refine hK _ ?_;clear hK K))|simp only [go_sem]|with_reducible refine wA ?_|clear hK K)
 refine gN a 4 (by simp only [lI,aP];rfl) 6 (fun k=>[some ⟨183,28,false,[.vec 1 ai.length :: ((jU b ((ay a).take k) fs).map aP++[.v (.int .u32 la.toNat), .v (.bool em)])]⟩,some ⟨9,1,true,ai.map encS⟩,some ⟨152,1,false,[[.ptr 0 0 28 0 0]]⟩,some ⟨180,1,false,[[.v (.int .u32 b.toNat)]]⟩,none]) (fun _=>True) trivial ?_ rfl ?_ (by kernel_rfl) (by kernel_rfl) rfl ?_ ?_
 ·rfl
 ·(refine ak ?_ ?_ ?_<;>simp only [aR,SI,SL,Ti,Tj,aX,aW,AV.v.injEq,Value.int.injEq,Value.bool.injEq,Value.string.injEq,AV.vec.injEq,AV.ptr.injEq,true_or,or_true,false_or,or_false,aa.mk.injEq,forall_eq_apply_imp_iff,forall_eq,forall_eq',go_sem])
  rfl
 ·intro k hk _;have hp:=ha _ (S9 hk);rw [SR hk,Cp,Co]
  have hL:(jU b ((ay a).take k) fs).length=25:=by rw [mq];exact hl
  generalize jU b ((ay a).take k) fs=F at *;generalize (ay a)[k]=p at *;obtain ⟨r,eD⟩:=Am (l:= .vec 1 ai.length) (X:=[.v (.int .u32 la.toNat), .v (.bool em)]) (fs:=F) (p:=p) (by omega);have eS:=JY (l:= .vec 1 ai.length) (X:=[.v (.int .u32 la.toNat), .v (.bool em)]) (fs:=F) (p:=p) (F.getD p 0#32 ||| b) (by omega);have eT:(p:Int).toNat=p:=Int.toNat_natCast p
  have eB:0<=(p:Int)∧(p:Int)<25:=by omega
  simp only [aP] at eD eS
  repeat (first|(with_reducible first|refine af.up ?_|refine fun (K:AK) hK=> ?_|refine wE ?_|refine wK ?_|refine wF ?_|(refine hK _ ?_;clear hK K))|simp only [go_sem,eD,jz]|with_reducible refine wA ?_|clear hK K)
  rw [eS]
  (refine ak ?_ ?_ ?_<;>simp only [aR,SI,SL,Ti,Tj,aX,aW,AV.v.injEq,Value.int.injEq,Value.bool.injEq,Value.string.injEq,AV.vec.injEq,AV.ptr.injEq,true_or,or_true,false_or,or_false,aa.mk.injEq,forall_eq_apply_imp_iff,forall_eq,forall_eq',go_sem])
 ·intro _;have e1:(ay a).take (ay a).length=ay a:=List.take_length
  repeat (first|(with_reducible first|refine af.up ?_|refine fun (K:AK) hK=> ?_|refine wE ?_|refine wK ?_|refine wF ?_|(refine hK _ ?_;clear hK K))|simp only [go_sem,e1]|with_reducible refine wA ?_|clear hK K)
  (refine ⟨?_, ?_, ?_⟩<;>simp only [aX,aW,AV.v.injEq,Value.int.injEq,Value.bool.injEq,Value.string.injEq,AV.vec.injEq,AV.ptr.injEq,true_or,or_true,false_or,or_false,aa.mk.injEq,forall_eq_apply_imp_iff,forall_eq,forall_eq',go_sem])
structure Gn where
 st:ck
 op:Bool
 ends:BitVec 32
 first:BitVec 32
def cP (x:Ex) (b:ck×BitVec 32×BitVec 32) (r:Gn):Gn:=
 ⟨{ b.1 with fs:=jU b.2.1 (ay r.ends) b.1.fs },if cg x then r.op else false,(if cg x then r.ends else 0#32) ||| b.2.2,if r.op then r.first ||| b.2.1 else r.first⟩
mutual
def ma:Ex->ck->ck×BitVec 32×BitVec 32
 | .mk k s l,st=>
  if k=1 then ({ st with ai:=st.ai++[s] },ofM ((st.ai.length+1:Nat):Int),ofM ((st.ai.length+1:Nat):Int))
  else if k=2 then ((fL l ⟨st,true,0#32,0#32⟩).st,(fL l ⟨st,true,0#32,0#32⟩).first,(fL l ⟨st,true,0#32,0#32⟩).ends)
  else if k=4∨k=5 then ({ (eX l (st,0#32,0#32)).1 with fs:=jU (eX l (st,0#32,0#32)).2.1 (ay (eX l (st,0#32,0#32)).2.2) (eX l (st,0#32,0#32)).1.fs },(eX l (st,0#32,0#32)).2.1,(eX l (st,0#32,0#32)).2.2)
  else eX l (st,0#32,0#32)
def fL:List Ex->Gn->Gn
 | [],r=>r
 | x :: xs,r=>fL xs (cP x (ma x r.st) r)
def eX:List Ex->ck×BitVec 32×BitVec 32->ck×BitVec 32×BitVec 32
 | [],r=>r
 | x :: xs,r=>eX xs ((ma x r.1).1,r.2.1 ||| (ma x r.1).2.1,r.2.2 ||| (ma x r.1).2.2)
end
theorem vP: ∀(l m:List Ex) (r:Gn),fL (l++m) r=fL m (fL l r)
 | [],m,r=>by simp [fL]
 | x :: l,m,r=>by simp only [Tl,fL];exact vP l m _
theorem vO: ∀(l m:List Ex) (r:ck×BitVec 32×BitVec 32),eX (l++m) r=eX m (eX l r)
 | [],m,r=>by simp [eX]
 | x :: l,m,r=>by simp only [Tl,eX];exact vO l m _
theorem nv {fs:List (BitVec 32)} {p q:Nat} {x:BitVec 32} (h:p<fs.length):(fs.set p x).getD q 0#32=if q=p then x else fs.getD q 0#32:=by
 simp only [List.getD,List.getElem?_set]
 by_cases e:p=q
 ·subst e;simp [h]
 ·rw [if_neg e,if_neg (fun h=>e h.symm)]
theorem ql {b:BitVec 32}: ∀ {l:List Nat} {fs:List (BitVec 32)} {p q:Nat},(∀j∈l,j<fs.length)->(((jU b l fs).getD p 0#32).getLsbD q=true↔(fs.getD p 0#32).getLsbD q=true∨(p∈l∧b.getLsbD q=true))
 | [],fs,p,q,_=>by simp [jU]
 | j :: l,fs,p,q,hl=>by
  have hj:j<fs.length:=hl j (by simp);rw [jU,SI, <- jU,ql (fun k hk=>by rw [Co,List.length_set];exact hl k (by simp [hk])),Co,nv hj,List.mem_cons]
  by_cases e:p=j
  ·subst e;simp only [if_true,TS,Si,true_or,true_and]
   constructor
   ·rintro ((h|h)|⟨_,h⟩)
    ·exact .inl h
    ·exact .inr h
    ·exact .inr h
   ·rintro (h|h)
    ·exact .inl (.inl h)
    ·exact .inl (.inr h)
  ·rw [if_neg e];simp [e]
structure JH (x:Ex) (st:ck) (r:ck×BitVec 32×BitVec 32):Prop where
 ai:r.1.ai=st.ai++cB x
 len:r.1.fs.length=25
 la:r.1.la=st.la
 em:r.1.em=st.em
 fst: ∀p,r.2.1.getLsbD p=true↔Be x st.ai.length p
 y8: ∀p,r.2.2.getLsbD p=true↔Bf x st.ai.length p
 B5: ∀p q,(r.1.fs.getD p 0#32).getLsbD q=true↔(st.fs.getD p 0#32).getLsbD q=true∨Dp x st.ai.length p q
structure Oj (l:List Ex) (r R:Gn):Prop where
 ai:R.st.ai=r.st.ai++bp l
 len:R.st.fs.length=25
 la:R.st.la=r.st.la
 em:R.st.em=r.st.em
 op:R.op=(r.op&&eO l)
 fst: ∀p,R.first.getLsbD p=true↔r.first.getLsbD p=true∨(r.op=true∧pb l r.st.ai.length p)
 y8: ∀p,R.ends.getLsbD p=true↔(eO l=true∧r.ends.getLsbD p=true)∨yi l r.st.ai.length p
 B5: ∀p q,(R.st.fs.getD p 0#32).getLsbD q=true↔(r.st.fs.getD p 0#32).getLsbD q=true∨yg l r.st.ai.length p q∨(r.ends.getLsbD p=true∧pb l r.st.ai.length q)
structure Oe (l:List Ex) (r R:ck×BitVec 32×BitVec 32):Prop where
 ai:R.1.ai=r.1.ai++bp l
 len:R.1.fs.length=25
 la:R.1.la=r.1.la
 em:R.1.em=r.1.em
 fst: ∀p,R.2.1.getLsbD p=true↔r.2.1.getLsbD p=true∨lY l r.1.ai.length p
 y8: ∀p,R.2.2.getLsbD p=true↔r.2.2.getLsbD p=true∨lZ l r.1.ai.length p
 B5: ∀p q,(R.1.fs.getD p 0#32).getLsbD q=true↔(r.1.fs.getD p 0#32).getLsbD q=true∨yf l r.1.ai.length p q
theorem pz: ∀(l:List Ex) (r:Gn),(∀x∈l, ∀st,st.fs.length=25->st.ai.length+(cB x).length<=24->JH x st (ma x st))->r.st.fs.length=25->(∀p∈ay r.ends,p<25)->r.st.ai.length+(bp l).length<=24->Oj l r (fL l r)
 | [],r,_,hf,he,hb=>by
  rw [fL];exact ⟨by simp [bp],hf,rfl,rfl,by simp [eO],fun p=>by simp [pb],fun p=>by simp [yi,eO],fun p q=>by simp [yg,pb]⟩
 | x :: xs,r,hx,hf,he,hb=>by
  rw [bp,List.length_append] at hb;have B:=hx x (by simp) r.st hf (by omega);generalize hbx:ma x r.st=b at B
  have hlen:(r.st.ai++cB x).length=r.st.ai.length+(cB x).length:=by simp
  have hends: ∀p∈ay ((cP x b r).ends),p<25:=fun p hp=>by
   have:=cu.1 hp
   simp only [cP] at this;rw [TS,Si,B.y8] at this
   rcases this with h|h
   ·split at h
    ·exact he p (cu.2 h)
    ·simp at h
   ·have:=kG x h;omega
  have S:=pz xs (cP x b r) (fun y hy=>hx y (by simp [hy])) (by simp only [cP,mq];exact B.len) hends (by simp only [cP,B.ai,hlen];omega)
  have hfol: ∀p q,((cP x b r).st.fs.getD p 0#32).getLsbD q=true↔((r.st.fs.getD p 0#32).getLsbD q=true∨Dp x r.st.ai.length p q)∨(r.ends.getLsbD p=true∧Be x r.st.ai.length q):=fun p q=>by
   show ((jU _ _ _).getD p 0#32).getLsbD q=true↔_;rw [ql (fun j hj=>by rw [B.len];exact he j hj),B.B5,B.fst,cu]
  have hl2:(cP x b r).st.ai.length=r.st.ai.length+(cB x).length:=by simp only [cP,B.ai,hlen]
  have hE: ∀p,(cP x b r).ends.getLsbD p=true↔(cg x=true∧r.ends.getLsbD p=true)∨Bf x r.st.ai.length p:=fun p=>by
   simp only [cP];rw [TS,Si,B.y8];cases cg x<;>simp
  have hF: ∀p,(cP x b r).first.getLsbD p=true↔r.first.getLsbD p=true∨(r.op=true∧Be x r.st.ai.length p):=fun p=>by
   simp only [cP]
   cases r.op
   ·simp
   ·simp only [if_true,TS,Si,B.fst,true_and]
  have hO:(cP x b r).op=(r.op&&cg x):=by simp only [cP];cases r.op<;>cases cg x<;>rfl
  rw [fL,hbx]
  refine ⟨?_,S.len, ?_, ?_, ?_,fun p=> ?_,fun p=> ?_,fun p q=> ?_⟩
  ·rw [S.ai];simp only [cP];rw [B.ai,bp,RD]
  ·rw [S.la];exact B.la
  ·rw [S.em];exact B.em
  ·rw [S.op,hO,eO,Bool.and_assoc]
  ·rw [S.fst,hF,hO,hl2,pb];grind
  ·rw [S.y8,hE,hl2,yi,eO];grind
  ·rw [S.B5,hfol,hE,hl2,pb,yg];grind
theorem py: ∀(l:List Ex) (r:ck×BitVec 32×BitVec 32),(∀x∈l, ∀st,st.fs.length=25->st.ai.length+(cB x).length<=24->JH x st (ma x st))->r.1.fs.length=25->r.1.ai.length+(bp l).length<=24->Oe l r (eX l r)
 | [],r,_,hf,hb=>by
  rw [eX];exact ⟨by simp [bp],hf,rfl,rfl,fun p=>by simp [lY],fun p=>by simp [lZ],fun p q=>by simp [yf]⟩
 | x :: xs,r,hx,hf,hb=>by
  rw [bp,List.length_append] at hb;have B:=hx x (by simp) r.1 hf (by omega);rw [eX];generalize ma x r.1=b at B ⊢
  have hlen:b.1.ai.length=r.1.ai.length+(cB x).length:=by rw [B.ai];simp
  have A:=py xs (b.1,r.2.1 ||| b.2.1,r.2.2 ||| b.2.2) (fun y hy=>hx y (by simp [hy])) B.len (by rw [hlen];omega)
  refine ⟨?_,A.len, ?_, ?_,fun p=> ?_,fun p=> ?_,fun p q=> ?_⟩
  ·rw [A.ai,B.ai,bp,RD]
  ·rw [A.la];exact B.la
  ·rw [A.em];exact B.em
  ·rw [A.fst,hlen,lY,TS,Si,B.fst];grind
  ·rw [A.y8,hlen,lZ,TS,Si,B.y8];grind
  ·rw [A.B5,hlen,yf,B.B5];grind
theorem mb (x:Ex): ∀st:ck,st.fs.length=25->st.ai.length+(cB x).length<=24->JH x st (ma x st):=by
 induction x using Ex.ind with
 | h k s l ih=>
  intro st hf hb
  by_cases h1:k=1
  ·subst h1
   have hl:cB (.mk 1 s l)=[s]:=by rw [cB,if_pos rfl]
   rw [hl] at hb;simp only [List.length_singleton] at hb
   have hp: ∀p,(ofM ((st.ai.length+1:Nat):Int)).getLsbD p=true↔p=st.ai.length+1:=fun p=>by
    rw [Ay,decide_eq_true_eq];omega
   rw [ma,if_pos rfl];exact ⟨by rw [hl],hf,rfl,rfl,fun p=>by rw [Be,if_pos rfl];exact hp p,fun p=>by rw [Bf,if_pos rfl];exact hp p,fun p q=>by rw [Dp,if_pos rfl,or_false]⟩
  ·rw [fY h1] at hb;rw [ma,if_neg h1]
   by_cases h2:k=2
   ·subst h2;rw [if_pos rfl];have S:=pz l ⟨st,true,0#32,0#32⟩ ih hf (by rw [jn];intro p hp;cases hp) hb
    refine ⟨by rw [fY h1];exact S.ai,S.len,S.la,S.em,fun p=> ?_,fun p=> ?_,fun p q=> ?_⟩
    ·rw [Be,if_neg h1,if_pos rfl,S.fst];simp
    ·rw [Bf,if_neg h1,if_pos rfl,S.y8];simp
    ·rw [Dp,if_neg h1,if_pos rfl,S.B5];simp
   ·rw [if_neg h2];have A:=py l (st,0#32,0#32) ih hf hb
    have hF: ∀p,Be (.mk k s l) st.ai.length p↔lY l st.ai.length p:=fun p=>by rw [Be,if_neg h1,if_neg h2]
    have hL: ∀p,Bf (.mk k s l) st.ai.length p↔lZ l st.ai.length p:=fun p=>by rw [Bf,if_neg h1,if_neg h2]
    have aF: ∀p,(eX l (st,0#32,0#32)).2.1.getLsbD p=true↔lY l st.ai.length p:=fun p=>by rw [A.fst];simp
    have aL: ∀p,(eX l (st,0#32,0#32)).2.2.getLsbD p=true↔lZ l st.ai.length p:=fun p=>by rw [A.y8];simp
    by_cases h4:k=4∨k=5
    ·rw [if_pos h4];refine ⟨by rw [fY h1];exact A.ai,by rw [mq];exact A.len,A.la,A.em,fun p=>by rw [hF,aF],fun p=>by rw [hL,aL],fun p q=> ?_⟩;show ((jU _ _ _).getD p 0#32).getLsbD q=true↔_
     rw [ql (fun j hj=>by
      have:=gY ((aL j).1 (cu.1 hj))
      rw [A.len];omega),A.B5,aF,cu,aL,Dp,if_neg h1,if_neg h2]
     grind
    ·rw [if_neg h4];refine ⟨by rw [fY h1];exact A.ai,A.len,A.la,A.em,fun p=>by rw [hF,aF],fun p=>by rw [hL,aL],fun p q=> ?_⟩;rw [A.B5,Dp,if_neg h1,if_neg h2]
     grind
end
end Go.Proofs.YtjcobjgjjlahdaaGreatDoor
