/- kinescopelaw11.TreeEnds: the walk. -/
import Derived.Test.YtldnlbcibmmbbaaGreatWTurnA
set_option linter.unusedSimpArgs false
set_option linter.unusedVariables false
open Bool renaming not_eq_eq_eq_not → Ku
open Int renaming natCast_inj → Kv, ofNat_lt → Kw, ofNat_le → Kx, tmod_eq_emod_of_nonneg → Lk
open List renaming length_cons → I5, length_nil → IZ, replicate_succ → Kn, replicate_zero → Ko, cons_append → Kq, nil_append → Kr, foldl_cons → Ks, foldl_nil → Kt, set_cons_zero → KM, set_cons_succ → KL, range'_succ → Lg, range'_zero → Lh, map_cons → Li, map_nil → Lj
open Nat renaming lt_add_one → K7, zero_lt_one → K8, zero_lt_succ → La
namespace Go.Proofs.YtldnlbcibmmbbaaGreat
open Go.RowKit
def cR (k:Nat) (j:Int) (s d:ByteArray):ByteArray:=if (k:Int)=j then s else d
def yX (k:Nat) (j a b:Int):Int:=if (k:Int)=j then a else b
def BK (b:Nat):List (Option ab):=[none,none,some ⟨45,8,true,[[.v (.string ⟨#[97]⟩), .v (.string ⟨#[98]⟩), .v (.bool false), .v (.string ⟨#[120]⟩), .v (.string ⟨#[101]⟩), .v (.int .i64 0), .v (.string ⟨#[]⟩), .v (.slice none 0 0)],[.v (.string ⟨#[98]⟩), .v (.string ⟨#[99]⟩), .v (.bool true), .v (.string ⟨#[]⟩), .v (.string ⟨#[]⟩), .v (.int .i64 4), .v (.string ⟨#[]⟩), .vec (b+7) 1]]⟩,none,none,none,none,some ⟨43,3,true,[[.v (.int .i64 1), .v (.string ⟨#[121]⟩), .v (.slice none 0 0)]]⟩,some ⟨37,13,true,[[.v (.int .i64 3), .v (.int .i64 2), .v (.string ⟨#[101]⟩), .v (.string ⟨#[107]⟩), .v (.int .i64 0), .v (.int .i64 0), .v (.string ⟨#[]⟩), .v (.int .i64 3), .v (.string ⟨#[]⟩), .v (.string ⟨#[]⟩), .v (.int .i64 1), .v (.int .i64 5), .v (.string ⟨#[]⟩)]]⟩,some ⟨34,6,true,[[.v (.int .i64 1), .v (.string ⟨#[97]⟩), .v (.string ⟨#[]⟩), .v (.int .i64 0), .v (.int .i64 0), .v (.string ⟨#[]⟩)],[.v (.int .i64 2), .v (.string ⟨#[101]⟩), .v (.string ⟨#[107]⟩), .v (.int .i64 0), .v (.int .i64 0), .v (.string ⟨#[]⟩)]]⟩,none]
def qL:Nat→List (Option ab)
 | 0=>[]
 | n+1=>qL n++BK (5+11 * n)
def mr:Nat→List (List AV)
 | 0=>[]
 | n+1=>mr n++[[.vec (5+11 * n+2) 2, .vec (5+11 * n+8) 1, .vec (5+11 * n+9) 2, .v (.int .i64 5), .v (.int .i64 2)]]
theorem gP {k:Nat} {j:Int} {s d:ByteArray} (h:jx s) (h2:jx d):jx (cR k j s d):=by unfold cR;split<;>assumption
set_option maxRecDepth 100000 in
set_option maxHeartbeats 400000000 in
theorem qp:ai Tryz.prog 3 [] (.v (.bool true)):=by
 have G:=Cx
 have CP:=xC ⟨#[101]⟩ ⟨#[107]⟩
 have CV:=rI
 have W:=mn
 have CQ:=By ⟨#[97]⟩ ⟨#[98]⟩ false ⟨#[120]⟩ ⟨#[101]⟩ 0 ⟨#[]⟩ ⟨#[98]⟩ ⟨#[99]⟩ true ⟨#[]⟩ ⟨#[]⟩ 4 ⟨#[]⟩ 1 ⟨#[121]⟩ [.v (.int .i64 3), .v (.int .i64 2), .v (.string ⟨#[101]⟩), .v (.string ⟨#[107]⟩), .v (.int .i64 0), .v (.int .i64 0), .v (.string ⟨#[]⟩), .v (.int .i64 3), .v (.string ⟨#[]⟩), .v (.string ⟨#[]⟩), .v (.int .i64 1), .v (.int .i64 5), .v (.string ⟨#[]⟩)] [.v (.int .i64 1), .v (.string ⟨#[97]⟩), .v (.string ⟨#[]⟩), .v (.int .i64 0), .v (.int .i64 0), .v (.string ⟨#[]⟩)] [.v (.int .i64 2), .v (.string ⟨#[101]⟩), .v (.string ⟨#[107]⟩), .v (.int .i64 0), .v (.int .i64 0), .v (.string ⟨#[]⟩)] 5 2 rfl rfl rfl rfl (fun _=>rfl) (fun _=>rfl) (fun _=>rfl)
 simp only [zO,gm,kJ] at G CQ
 (refine ai.enter Tryz.func3 rfl (by kernel_rfl) (by kernel_rfl) rfl (by first|rfl|(simp only [go_sem,Bool.and_self,Bool.and_true,Bool.true_and])) (by first|rfl|(simp only [go_sem,Bool.and_self,Bool.and_true,Bool.true_and])) ?_;simp only [Tryz.ntmps3,Tryz.results3,I5,IZ,Nat.reduceAdd,Nat.reduceSub,Kn,Ko,Kq,Kr])
 repeat (first|(with_reducible first|refine ah.up ?_|refine fun (K:AK) hK=> ?_|refine wE ?_|refine wD ?_|refine wK ?_|refine wF ?_|refine af (by decide) ?_|refine ae (by decide) ?_|(refine hK _ ?_;clear hK K))|simp only [go_sem]|with_reducible refine wA ?_|clear hK K)
 refine aj.one G ?_
 repeat (first|(with_reducible first|refine ah.up ?_|refine fun (K:AK) hK=> ?_|refine wE ?_|refine wD ?_|refine wK ?_|refine wF ?_|refine af (by decide) ?_|refine ae (by decide) ?_|(refine hK _ ?_;clear hK K))|simp only [go_sem]|with_reducible refine wA ?_|clear hK K)
 refine aj.one CP ?_
 repeat ((fail_if_success (with_reducible refine oS (i:=4) ?_));first|(with_reducible first|refine ah.up ?_|refine fun (K:AK) hK=> ?_|refine wK ?_|refine wF ?_|refine af (by decide) ?_|refine ae (by decide) ?_|(refine hK _ ?_;clear hK K))|simp only [go_sem,go_sem]|with_reducible refine wA ?_|clear hK K)
 refine bw (ll 385 [(0, .v (.bool false)),(1, .vp [.an 8 [[.v (.string ⟨#[97]⟩), .v (.string ⟨#[98]⟩), .v (.bool false), .v (.string ⟨#[120]⟩), .v (.string ⟨#[101]⟩), .v (.int .i64 0), .v (.string ⟨#[]⟩), .v (.slice none 0 0)],[.v (.string ⟨#[98]⟩), .v (.string ⟨#[99]⟩), .v (.bool true), .v (.string ⟨#[]⟩), .v (.string ⟨#[]⟩), .v (.int .i64 4), .v (.string ⟨#[]⟩), .an 3 [[.v (.int .i64 1), .v (.string ⟨#[121]⟩), .v (.slice none 0 0)]] 1]] 2, .an 13 [[.v (.int .i64 3), .v (.int .i64 2), .v (.string ⟨#[101]⟩), .v (.string ⟨#[107]⟩), .v (.int .i64 0), .v (.int .i64 0), .v (.string ⟨#[]⟩), .v (.int .i64 3), .v (.string ⟨#[]⟩), .v (.string ⟨#[]⟩), .v (.int .i64 1), .v (.int .i64 5), .v (.string ⟨#[]⟩)]] 1, .an 6 [[.v (.int .i64 1), .v (.string ⟨#[97]⟩), .v (.string ⟨#[]⟩), .v (.int .i64 0), .v (.int .i64 0), .v (.string ⟨#[]⟩)],[.v (.int .i64 2), .v (.string ⟨#[101]⟩), .v (.string ⟨#[107]⟩), .v (.int .i64 0), .v (.int .i64 0), .v (.string ⟨#[]⟩)]] 2, .v (.int .i64 5), .v (.int .i64 2)]),(2, .an 1 [[.v (.string ⟨#[]⟩)],[.v (.string ⟨#[97]⟩)],[.v (.string ⟨#[49,97]⟩)],[.v (.string ⟨#[109,97,116,99,104]⟩)],[.v (.string ⟨#[97,115]⟩)],[.v (.string ⟨#[95]⟩)],[.v (.string ⟨#[97,97,97,97,97,97,97,97,97,97,97,97,97,97,97,97,97,97,97,97,97]⟩)],[.v (.string ⟨#[101]⟩)],[.v (.string ⟨#[120,32,121]⟩)]] 9)] rfl ⟨⟨_,rfl,b8.v _⟩,⟨_,rfl,b8.of 40 (by rfl) (by simp only [go_sem,Nat.reduceLT,Nat.reduceLeDiff,Nat.reduceEqDiff,K7,K8,and_self])⟩,⟨_,rfl,b8.of 40 (by rfl) (by simp only [go_sem,Nat.reduceLT,Nat.reduceLeDiff,Nat.reduceEqDiff,K7,K8,and_self])⟩,trivial⟩) (by kernel_rfl) ?_
 simp only [j0,I5,IZ,Nat.reduceAdd,Kn,Ko]
 clear G
 simp only [aD,Ks,Kt,Kn,Ko,go_sem]
 repeat (first|(with_reducible first|refine ah.up ?_|refine fun (K:AK) hK=> ?_|refine wE ?_|refine wD ?_|refine wK ?_|refine wF ?_|refine af (by decide) ?_|refine ae (by decide) ?_|(refine hK _ ?_;clear hK K))|simp only [go_sem]|with_reducible refine wA ?_|clear hK K)
 refine bE (ι:=Nat) 17 (fun i=>[(3, .v (.int .i64 i)),(4, .undef),(5, .undef),(6, .undef)]) (fun i=>9 - i) (fun i=>i≤9) 0 (by omega) ?_ ?_
 ·(refine au ?_ ?_ ?_<;>simp only [aD,Ks,Kt,Kn,Ko,bu,bt,AV.v.injEq,Value.int.injEq,Value.bool.injEq,Value.string.injEq,AV.vec.injEq,AV.ptr.injEq,true_or,or_true,false_or,or_false,ab.mk.injEq,forall_eq_apply_imp_iff,forall_eq,forall_eq',go_sem])
  all_goals rfl
 ·rintro i hi K hK
  repeat (first|(with_reducible first|refine ah.up ?_|refine fun (K:AK) hK=> ?_|refine wE ?_|refine wD ?_|refine wK ?_|refine wF ?_|refine af (by decide) ?_|refine ae (by decide) ?_|(refine hK _ ?_;clear hK K))|simp only [go_sem]|with_reducible refine wA ?_|clear hK K)
  refine aO.part (fun h=> ?_) (fun h=> ?_)
  ·have hlt:i<9:=by (try simp only [bne_iff_ne,ne_eq,bne_eq_false_iff_eq,beq_iff_eq,beq_eq_false_iff_ne,decide_eq_true_eq,decide_eq_false_iff_not,Ku,Kv,Kw,Kx] at h);omega
   have eW:=ar (k:=i) (by omega)
   obtain ⟨s,hs,eG⟩: ∃s:ByteArray,jx s∧List.getD [[.v (.string ⟨#[]⟩)],[.v (.string ⟨#[97]⟩)],[.v (.string ⟨#[49,97]⟩)],[.v (.string ⟨#[109,97,116,99,104]⟩)],[.v (.string ⟨#[97,115]⟩)],[.v (.string ⟨#[95]⟩)],[.v (.string ⟨#[97,97,97,97,97,97,97,97,97,97,97,97,97,97,97,97,97,97,97,97,97]⟩)],[.v (.string ⟨#[101]⟩)],[.v (.string ⟨#[120,32,121]⟩)]] i []=[AV.v (.string s)]:=by
    rcases (by omega:i=0∨i=1∨i=2∨i=3∨i=4∨i=5∨i=6∨i=7∨i=8) with rfl|rfl|rfl|rfl|rfl|rfl|rfl|rfl|rfl
    all_goals exact ⟨_,bY (by rfl),rfl⟩
   repeat (first|(with_reducible first|refine ah.up ?_|refine fun (K:AK) hK=> ?_|refine wE ?_|refine wD ?_|refine wK ?_|refine wF ?_|refine af (by decide) ?_|refine ae (by decide) ?_|(refine hK _ ?_;clear hK K))|simp only [go_sem,eG,h]|with_reducible refine wA ?_|clear hK K)
   refine bE (ι:=Nat) 17 (fun k=>[(5, .v (.int .i64 k)),(6, .undef)]) (fun k=>16 - k) (fun k=>k≤16) 0 (by omega) ?_ ?_
   ·(refine au ?_ ?_ ?_<;>simp only [aD,Ks,Kt,Kn,Ko,bu,bt,AV.v.injEq,Value.int.injEq,Value.bool.injEq,Value.string.injEq,AV.vec.injEq,AV.ptr.injEq,true_or,or_true,false_or,or_false,ab.mk.injEq,forall_eq_apply_imp_iff,forall_eq,forall_eq',go_sem])
    all_goals rfl
   ·as_aux_lemma=>
    rintro k hk K hK
    repeat (first|(with_reducible first|refine ah.up ?_|refine fun (K:AK) hK=> ?_|refine wE ?_|refine wD ?_|refine wK ?_|refine wF ?_|refine af (by decide) ?_|refine ae (by decide) ?_|(refine hK _ ?_;clear hK K))|simp only [go_sem]|with_reducible refine wA ?_|clear hK K)
    refine aO.part (fun h3=> ?_) (fun h3=> ?_)
    ·have hlk:k<16:=by (try simp only [bne_iff_ne,ne_eq,bne_eq_false_iff_eq,beq_iff_eq,beq_eq_false_iff_ne,decide_eq_true_eq,decide_eq_false_iff_not,Ku,Kv,Kw,Kx] at h3);omega
     have eW2:=ar (k:=k) (by omega)
     repeat (first|(with_reducible first|refine ah.up ?_|refine fun (K:AK) hK=> ?_|refine wE ?_|refine wD ?_|refine wK ?_|refine wF ?_|refine af (by decide) ?_|refine ae (by decide) ?_|(refine hK _ ?_;clear hK K))|simp only [go_sem,h3]|with_reducible refine wA ?_|clear hK K)
     refine aj.fr [] CQ (by simp) ?_ ?_ ?_ ?_ ?_
     ·rfl
     ·repeat (first|(with_reducible first|refine ah.up ?_|refine fun (K:AK) hK=> ?_|refine wE ?_|refine wD ?_|refine wK ?_|refine wF ?_|refine af (by decide) ?_|refine ae (by decide) ?_|(refine hK _ ?_;clear hK K))|simp only [go_sem]|with_reducible refine wA ?_|clear hK K)
     ·repeat (first|(with_reducible first|refine ah.up ?_|refine fun (K:AK) hK=> ?_|refine wE ?_|refine wD ?_|refine wK ?_|refine wF ?_|refine af (by decide) ?_|refine ae (by decide) ?_|(refine hK _ ?_;clear hK K))|simp only [go_sem]|with_reducible refine wA ?_|clear hK K)
     ·intro k ob hk;simp at hk
     repeat ((fail_if_success (with_reducible refine Dm (i:=12) ?_));first|(with_reducible first|refine ah.up ?_|refine fun (K:AK) hK=> ?_|refine wK ?_|refine wF ?_|refine af (by decide) ?_|refine ae (by decide) ?_|(refine hK _ ?_;clear hK K))|simp only [go_sem,h3]|with_reducible refine wA ?_|clear hK K)
     refine mO ⟨aD 385 [(0, .v (.bool false)),(1, .vp [.an 8 [[.v (.string ⟨#[97]⟩), .v (.string ⟨#[98]⟩), .v (.bool false), .v (.string ⟨#[120]⟩), .v (.string ⟨#[101]⟩), .v (.int .i64 0), .v (.string ⟨#[]⟩), .v (.slice none 0 0)],[.v (.string ⟨#[98]⟩), .v (.string ⟨#[99]⟩), .v (.bool true), .v (.string ⟨#[]⟩), .v (.string ⟨#[]⟩), .v (.int .i64 4), .v (.string ⟨#[]⟩), .an 3 [[.v (.int .i64 1), .v (.string ⟨#[121]⟩), .v (.slice none 0 0)]] 1]] 2, .an 13 [[.v (.int .i64 3), .v (.int .i64 2), .v (.string ⟨#[101]⟩), .v (.string ⟨#[107]⟩), .v (.int .i64 0), .v (.int .i64 0), .v (.string ⟨#[]⟩), .v (.int .i64 3), .v (.string ⟨#[]⟩), .v (.string ⟨#[]⟩), .v (.int .i64 1), .v (.int .i64 5), .v (.string ⟨#[]⟩)]] 1, .an 6 [[.v (.int .i64 1), .v (.string ⟨#[97]⟩), .v (.string ⟨#[]⟩), .v (.int .i64 0), .v (.int .i64 0), .v (.string ⟨#[]⟩)],[.v (.int .i64 2), .v (.string ⟨#[101]⟩), .v (.string ⟨#[107]⟩), .v (.int .i64 0), .v (.int .i64 0), .v (.string ⟨#[]⟩)]] 2, .v (.int .i64 5), .v (.int .i64 2)]),(2, .an 1 [[.v (.string ⟨#[]⟩)],[.v (.string ⟨#[97]⟩)],[.v (.string ⟨#[49,97]⟩)],[.v (.string ⟨#[109,97,116,99,104]⟩)],[.v (.string ⟨#[97,115]⟩)],[.v (.string ⟨#[95]⟩)],[.v (.string ⟨#[97,97,97,97,97,97,97,97,97,97,97,97,97,97,97,97,97,97,97,97,97]⟩)],[.v (.string ⟨#[101]⟩)],[.v (.string ⟨#[120,32,121]⟩)]] 9),(3, .v (.int .i64 i)),(4, .v (.string s)),(5, .v (.int .i64 k)),(6, .ptr 13 0 5 0 0)],[none,none,none,none,none,some ⟨45,8,true,[[.v (.string (cR k 0 s ⟨#[97]⟩)), .v (.string ⟨#[98]⟩), .v (.bool false), .v (.string (cR k 2 s ⟨#[120]⟩)), .v (.string (cR k 3 s ⟨#[101]⟩)), .v (.int .i64 0), .v (.string (cR k 7 s ⟨#[]⟩)), .v (.slice none 0 0)],[.v (.string ⟨#[98]⟩), .v (.string (cR k 1 s ⟨#[99]⟩)), .v (.bool true), .v (.string (cR k 4 s ⟨#[]⟩)), .v (.string (cR k 5 s ⟨#[]⟩)), .v (.int .i64 4), .v (.string ⟨#[]⟩), .vec 10 1]]⟩,none,none,none,none,some ⟨43,3,true,[[.v (.int .i64 1), .v (.string (cR k 6 s ⟨#[121]⟩)), .v (.slice none 0 0)]]⟩,some ⟨37,13,true,[[.v (.int .i64 3), .v (.int .i64 2), .v (.string (cR k 8 s ⟨#[101]⟩)), .v (.string (cR k 9 s ⟨#[107]⟩)), .v (.int .i64 0), .v (.int .i64 0), .v (.string ⟨#[]⟩), .v (.int .i64 3), .v (.string (cR k 10 s ⟨#[]⟩)), .v (.string ⟨#[]⟩), .v (.int .i64 1), .v (.int .i64 5), .v (.string (cR k 14 s ⟨#[]⟩))]]⟩,some ⟨34,6,true,[[.v (.int .i64 1), .v (.string (cR k 11 s ⟨#[97]⟩)), .v (.string (cR k 12 s ⟨#[]⟩)), .v (.int .i64 0), .v (.int .i64 0), .v (.string ⟨#[]⟩)],[.v (.int .i64 (yX k 15 3 2)), .v (.string (cR k 15 ⟨#[]⟩ ⟨#[101]⟩)), .v (.string (cR k 15 ⟨#[]⟩ ⟨#[107]⟩)), .v (.int .i64 (yX k 15 2 0)), .v (.int .i64 0), .v (.string (cR k 13 s (cR k 15 s ⟨#[]⟩)))]]⟩,some ⟨26,5,false,[[.vec 5 2, .vec 11 1, .vec 12 2, .v (.int .i64 5), .v (.int .i64 2)]]⟩], .no⟩ (by kernel_rfl) (by kernel_rfl) ?_ ?_
     ·rcases (by omega:(k:Int)=0∨(k:Int)=1∨(k:Int)=2∨(k:Int)=3∨(k:Int)=4∨(k:Int)=5∨(k:Int)=6∨(k:Int)=7∨(k:Int)=8∨(k:Int)=9∨(k:Int)=10∨(k:Int)=11∨(k:Int)=12∨(k:Int)=13∨(k:Int)=14∨(k:Int)=15) with hk|hk|hk|hk|hk|hk|hk|hk|hk|hk|hk|hk|hk|hk|hk|hk
      all_goals
       as_aux_lemma=>
       have E: ∀j:Int,((k:Int)==j)=(_==j):=fun j=>by rw [hk]
       have T: ∀(j:Int) (a b:ByteArray),cR k j a b=if _=j then a else b:=fun j a b=>by rw [cR,hk]
       have N: ∀(j a b:Int),yX k j a b=if _=j then a else b:=fun j a b=>by rw [yX,hk]
       repeat (first|(with_reducible first|refine ah.up ?_|refine fun (K:AK) hK=> ?_|refine wE ?_|refine wD ?_|refine wK ?_|refine wF ?_|refine af (by decide) ?_|refine ae (by decide) ?_|(refine hK _ ?_;clear hK K))|simp only [go_sem,E]|with_reducible refine wA ?_|clear hK K)
       simp only [T,N,Int.reduceEq,if_true,if_false]
       (refine au ?_ ?_ ?_<;>simp only [aD,Ks,Kt,Kn,Ko,bu,bt,AV.v.injEq,Value.int.injEq,Value.bool.injEq,Value.string.injEq,AV.vec.injEq,AV.ptr.injEq,true_or,or_true,false_or,or_false,ab.mk.injEq,forall_eq_apply_imp_iff,forall_eq,forall_eq',go_sem])
     ·simp only [aD,Ks,Kt,Kn,Ko,go_sem]
      repeat (first|(with_reducible first|refine ah.up ?_|refine fun (K:AK) hK=> ?_|refine wK ?_|refine wF ?_|refine af (by decide) ?_|refine ae (by decide) ?_|(refine hK _ ?_;clear hK K))|simp only [go_sem,eW2]|with_reducible refine wA ?_|clear hK K)
      refine bw (eU (k:=5) (i:=1) (j:=7) (by decide) rfl (La _) rfl rfl rfl rfl rfl) (by kernel_rfl) ?_
      simp only [KM,KL]
      refine bw (ll 385 [(0, .v (.bool false)),(1, .vp [.an 8 [[.v (.string ⟨#[97]⟩), .v (.string ⟨#[98]⟩), .v (.bool false), .v (.string ⟨#[120]⟩), .v (.string ⟨#[101]⟩), .v (.int .i64 0), .v (.string ⟨#[]⟩), .v (.slice none 0 0)],[.v (.string ⟨#[98]⟩), .v (.string ⟨#[99]⟩), .v (.bool true), .v (.string ⟨#[]⟩), .v (.string ⟨#[]⟩), .v (.int .i64 4), .v (.string ⟨#[]⟩), .an 3 [[.v (.int .i64 1), .v (.string ⟨#[121]⟩), .v (.slice none 0 0)]] 1]] 2, .an 13 [[.v (.int .i64 3), .v (.int .i64 2), .v (.string ⟨#[101]⟩), .v (.string ⟨#[107]⟩), .v (.int .i64 0), .v (.int .i64 0), .v (.string ⟨#[]⟩), .v (.int .i64 3), .v (.string ⟨#[]⟩), .v (.string ⟨#[]⟩), .v (.int .i64 1), .v (.int .i64 5), .v (.string ⟨#[]⟩)]] 1, .an 6 [[.v (.int .i64 1), .v (.string ⟨#[97]⟩), .v (.string ⟨#[]⟩), .v (.int .i64 0), .v (.int .i64 0), .v (.string ⟨#[]⟩)],[.v (.int .i64 2), .v (.string ⟨#[101]⟩), .v (.string ⟨#[107]⟩), .v (.int .i64 0), .v (.int .i64 0), .v (.string ⟨#[]⟩)]] 2, .v (.int .i64 5), .v (.int .i64 2)]),(2, .an 1 [[.v (.string ⟨#[]⟩)],[.v (.string ⟨#[97]⟩)],[.v (.string ⟨#[49,97]⟩)],[.v (.string ⟨#[109,97,116,99,104]⟩)],[.v (.string ⟨#[97,115]⟩)],[.v (.string ⟨#[95]⟩)],[.v (.string ⟨#[97,97,97,97,97,97,97,97,97,97,97,97,97,97,97,97,97,97,97,97,97]⟩)],[.v (.string ⟨#[101]⟩)],[.v (.string ⟨#[120,32,121]⟩)]] 9),(3, .v (.int .i64 i)),(4, .v (.string s)),(5, .v (.int .i64 k)),(6, .vp [.an 8 [[.v (.string (cR k 0 s ⟨#[97]⟩)), .v (.string ⟨#[98]⟩), .v (.bool false), .v (.string (cR k 2 s ⟨#[120]⟩)), .v (.string (cR k 3 s ⟨#[101]⟩)), .v (.int .i64 0), .v (.string (cR k 7 s ⟨#[]⟩)), .v (.slice none 0 0)],[.v (.string ⟨#[98]⟩), .v (.string (cR k 1 s ⟨#[99]⟩)), .v (.bool true), .v (.string (cR k 4 s ⟨#[]⟩)), .v (.string (cR k 5 s ⟨#[]⟩)), .v (.int .i64 4), .v (.string ⟨#[]⟩), .an 3 [[.v (.int .i64 1), .v (.string (cR k 6 s ⟨#[121]⟩)), .v (.slice none 0 0)]] 1]] 2, .an 13 [[.v (.int .i64 3), .v (.int .i64 2), .v (.string (cR k 8 s ⟨#[101]⟩)), .v (.string (cR k 9 s ⟨#[107]⟩)), .v (.int .i64 0), .v (.int .i64 0), .v (.string ⟨#[]⟩), .v (.int .i64 3), .v (.string (cR k 10 s ⟨#[]⟩)), .v (.string ⟨#[]⟩), .v (.int .i64 1), .v (.int .i64 5), .v (.string (cR k 14 s ⟨#[]⟩))]] 1, .an 6 [[.v (.int .i64 1), .v (.string (cR k 11 s ⟨#[97]⟩)), .v (.string (cR k 12 s ⟨#[]⟩)), .v (.int .i64 0), .v (.int .i64 0), .v (.string ⟨#[]⟩)],[.v (.int .i64 (yX k 15 3 2)), .v (.string (cR k 15 ⟨#[]⟩ ⟨#[101]⟩)), .v (.string (cR k 15 ⟨#[]⟩ ⟨#[107]⟩)), .v (.int .i64 (yX k 15 2 0)), .v (.int .i64 0), .v (.string (cR k 13 s (cR k 15 s ⟨#[]⟩)))]] 2, .v (.int .i64 5), .v (.int .i64 2)])] rfl ⟨⟨_,rfl,b8.v _⟩,⟨_,rfl,b8.of 40 (by rfl) (by simp only [go_sem,Nat.reduceLT,Nat.reduceLeDiff,Nat.reduceEqDiff,K7,K8,and_self])⟩,⟨_,rfl,b8.of 40 (by rfl) (by simp only [go_sem,Nat.reduceLT,Nat.reduceLeDiff,Nat.reduceEqDiff,K7,K8,and_self])⟩,⟨_,rfl,b8.v _⟩,⟨_,rfl,b8.v _⟩,⟨_,rfl,b8.v _⟩,⟨_,rfl,b8.of 40 (by rfl) (by simp only [go_sem,Nat.reduceLT,Nat.reduceLeDiff,Nat.reduceEqDiff,K7,K8,and_self])⟩,trivial⟩) (by kernel_rfl) ?_
      simp only [j0,I5,IZ,Nat.reduceAdd,Kn,Ko]
      simp only [aD,Ks,Kt,Kn,Ko,go_sem]
      refine wD ?_
      repeat (first|(with_reducible first|refine ah.up ?_|refine fun (K:AK) hK=> ?_|refine wK ?_|refine wF ?_|refine af (by decide) ?_|refine ae (by decide) ?_|(refine hK _ ?_;clear hK K))|simp only [go_sem,eW2]|with_reducible refine wA ?_|clear hK K)
      refine aw.one (r:= .v (.bool true)) (jj (fA (by simp only [vT,cg.ok,iI.ok];repeat' (first|exact trivial|refine And.intro ?_ ?_|exact hs|exact bY (by rfl)|refine gP ?_ ?_))) (fA (by simp only [vT,cg.ok,iI.ok];repeat' (first|exact trivial|refine And.intro ?_ ?_|exact hs|exact bY (by rfl)|refine gP ?_ ?_))) ⟨⟨_,_,_,⟨_,_,_⟩⟩,by simp only [vT,cg.ok,iI.ok];repeat' (first|exact trivial|refine And.intro ?_ ?_|exact hs|exact bY (by rfl)|refine gP ?_ ?_),rfl⟩) ?_
      repeat (first|(with_reducible first|refine ah.up ?_|refine fun (K:AK) hK=> ?_|refine wK ?_|refine wF ?_|refine af (by decide) ?_|refine ae (by decide) ?_|(refine hK _ ?_;clear hK K))|simp only [go_sem,eW2]|with_reducible refine wA ?_|clear hK K)
      refine aw.one (r:= .v (.bool true)) (jj (fA (by simp only [vT,cg.ok,iI.ok];repeat' (first|exact trivial|refine And.intro ?_ ?_|exact hs|exact bY (by rfl)|refine gP ?_ ?_))) (fA (by simp only [vT,cg.ok,iI.ok];repeat' (first|exact trivial|refine And.intro ?_ ?_|exact hs|exact bY (by rfl)|refine gP ?_ ?_))) ⟨⟨_,_,_,⟨_,_,_⟩⟩,by simp only [vT,cg.ok,iI.ok];repeat' (first|exact trivial|refine And.intro ?_ ?_|exact hs|exact bY (by rfl)|refine gP ?_ ?_),rfl⟩) ?_
      repeat (first|(with_reducible first|refine ah.up ?_|refine fun (K:AK) hK=> ?_|refine wK ?_|refine wF ?_|refine af (by decide) ?_|refine ae (by decide) ?_|(refine hK _ ?_;clear hK K))|simp only [go_sem,eW2]|with_reducible refine wA ?_|clear hK K)
      refine aw.one (r:= .v (.bool true)) (j7 (fA (by simp only [vT,cg.ok,iI.ok];repeat' (first|exact trivial|refine And.intro ?_ ?_|exact hs|exact bY (by rfl)|refine gP ?_ ?_))) (kp _ _) (kp _ _)) ?_
      repeat (first|(with_reducible first|refine ah.up ?_|refine fun (K:AK) hK=> ?_|refine wK ?_|refine wF ?_|refine af (by decide) ?_|refine ae (by decide) ?_|(refine hK _ ?_;clear hK K))|simp only [go_sem,eW2]|with_reducible refine wA ?_|clear hK K)
      refine aw.one (r:= .v (.bool true)) (j7 (fA (by simp only [vT,cg.ok,iI.ok];repeat' (first|exact trivial|refine And.intro ?_ ?_|exact hs|exact bY (by rfl)|refine gP ?_ ?_))) (kp _ _) (kp _ _)) ?_
      repeat (first|(with_reducible first|refine ah.up ?_|refine fun (K:AK) hK=> ?_|refine wE ?_|refine wD ?_|refine wK ?_|refine wF ?_|refine af (by decide) ?_|refine ae (by decide) ?_|(refine hK _ ?_;clear hK K))|simp only [go_sem,eW2]|with_reducible refine wA ?_|clear hK K)
      exact aC.mk (k+1) (by omega) (by omega) (by (refine au ?_ ?_ ?_<;>simp only [aD,Ks,Kt,Kn,Ko,bu,bt,AV.v.injEq,Value.int.injEq,Value.bool.injEq,Value.string.injEq,AV.vec.injEq,AV.ptr.injEq,true_or,or_true,false_or,or_false,ab.mk.injEq,forall_eq_apply_imp_iff,forall_eq,forall_eq',go_sem]))
    ·have h16:k=16:=by (try simp only [bne_iff_ne,ne_eq,bne_eq_false_iff_eq,beq_iff_eq,beq_eq_false_iff_ne,decide_eq_true_eq,decide_eq_false_iff_not,Ku,Kv,Kw,Kx] at h3);omega
     repeat (first|(with_reducible first|refine ah.up ?_|refine fun (K:AK) hK=> ?_|refine wE ?_|refine wD ?_|refine wK ?_|refine wF ?_|refine af (by decide) ?_|refine ae (by decide) ?_|(refine hK _ ?_;clear hK K))|simp only [go_sem,h3,eW]|with_reducible refine wA ?_|clear hK K)
     exact aC.mk (i+1) (by omega) (by omega) (by (refine au ?_ ?_ ?_<;>simp only [aD,Ks,Kt,Kn,Ko,bu,bt,AV.v.injEq,Value.int.injEq,Value.bool.injEq,Value.string.injEq,AV.vec.injEq,AV.ptr.injEq,true_or,or_true,false_or,or_false,ab.mk.injEq,forall_eq_apply_imp_iff,forall_eq,forall_eq',go_sem]))
  ·repeat ((fail_if_success (with_reducible refine oS (i:=48) ?_));first|(with_reducible first|refine ah.up ?_|refine fun (K:AK) hK=> ?_|refine wK ?_|refine wF ?_|refine af (by decide) ?_|refine ae (by decide) ?_|(refine hK _ ?_;clear hK K))|simp only [go_sem,h]|with_reducible refine wA ?_|clear hK K)
   refine bw (yL 7 3 rfl rfl rfl rfl) (by kernel_rfl) ?_
   simp only [KM,KL]
   have H7: ∀k:Nat,decide ((k:Int)<7)=decide (k<7):=fun k=>decide_eq_decide.2 (by omega)
   have eWk: ∀k:Nat,k<8→IntKind.i64.wrap ((k:Int)+1)=((k+1:Nat):Int):=fun k h=>ar (by omega)
   repeat (first|(with_reducible first|refine ah.up ?_|refine fun (K:AK) hK=> ?_|refine wE ?_|refine wD ?_|refine wK ?_|refine wF ?_|refine af (by decide) ?_|refine ae (by decide) ?_|(refine hK _ ?_;clear hK K))|simp only [go_sem]|with_reducible refine wA ?_|clear hK K)
   refine bE (ι:=Nat) 17 (fun i=>(2, .undef) :: (3, .undef) :: (4, .undef) :: (5, .undef) :: (6, .undef) :: (8, .v (.int .i64 i)) :: (List.range' 9 8).map (fun j=>(j, .undef))) (fun i=>11 - i) (fun i=>i≤11) 0 (by omega) ?_ ?_
   ·simp only [Lg,Lh,Li,Lj,Kq,Kr,Nat.reduceAdd]
    (refine au ?_ ?_ ?_<;>simp only [aD,Ks,Kt,Kn,Ko,bu,bt,AV.v.injEq,Value.int.injEq,Value.bool.injEq,Value.string.injEq,AV.vec.injEq,AV.ptr.injEq,true_or,or_true,false_or,or_false,ab.mk.injEq,forall_eq_apply_imp_iff,forall_eq,forall_eq',go_sem])
    all_goals rfl
   ·intro i hi K hK
    simp only [Lg,Lh,Li,Lj,Kq,Kr,Nat.reduceAdd]
    repeat (first|(with_reducible first|refine ah.up ?_|refine fun (K:AK) hK=> ?_|refine wE ?_|refine wD ?_|refine wK ?_|refine wF ?_|refine af (by decide) ?_|refine ae (by decide) ?_|(refine hK _ ?_;clear hK K))|simp only [go_sem]|with_reducible refine wA ?_|clear hK K)
    refine aO.part (fun h2=> ?_) (fun h2=> ?_)
    ·have hlt:i<11:=by (try simp only [bne_iff_ne,ne_eq,bne_eq_false_iff_eq,beq_iff_eq,beq_eq_false_iff_ne,decide_eq_true_eq,decide_eq_false_iff_not,Ku,Kv,Kw,Kx] at h2);omega
     have eW:=ar (k:=i) (by omega)
     obtain ⟨n,eG⟩: ∃n:Int,List.getD [[.v (.int .i64 (-9223372036854775808))],[.v (.int .i64 (-1))],[.v (.int .i64 0)],[.v (.int .i64 1)],[.v (.int .i64 2)],[.v (.int .i64 3)],[.v (.int .i64 4)],[.v (.int .i64 6)],[.v (.int .i64 7)],[.v (.int .i64 1048576)],[.v (.int .i64 1048577)]] i []=[AV.v (.int .i64 n)]:=by
      rcases (by omega:i=0∨i=1∨i=2∨i=3∨i=4∨i=5∨i=6∨i=7∨i=8∨i=9∨i=10) with rfl|rfl|rfl|rfl|rfl|rfl|rfl|rfl|rfl|rfl|rfl
      all_goals exact ⟨_,rfl⟩
     repeat (first|(with_reducible first|refine ah.up ?_|refine fun (K:AK) hK=> ?_|refine wE ?_|refine wD ?_|refine wK ?_|refine wF ?_|refine af (by decide) ?_|refine ae (by decide) ?_|(refine hK _ ?_;clear hK K))|simp only [go_sem]|with_reducible refine wA ?_|clear hK K)
     refine il (ι:=Nat) 9 26 5 rfl (by omega) 17 (fun k=>[(9, .vec 4 k),(10, .v (.int .i64 k))]) (fun k=>none :: none :: none :: none :: some ⟨26,5,true,mr k⟩ :: qL k) (fun k=>7 - k) (fun k=>k≤7) 0 (by omega) ?_ ?_
     ·simp only [mr,qL]
      (refine au ?_ ?_ ?_<;>simp only [aD,Ks,Kt,Kn,Ko,bu,bt,AV.v.injEq,Value.int.injEq,Value.bool.injEq,Value.string.injEq,AV.vec.injEq,AV.ptr.injEq,true_or,or_true,false_or,or_false,ab.mk.injEq,forall_eq_apply_imp_iff,forall_eq,forall_eq',go_sem])
      all_goals rfl
     ·intro k hk
      rcases (by omega:k=0∨k=1∨k=2∨k=3∨k=4∨k=5∨k=6∨k=7) with e|e|e|e|e|e|e|e
      case inr.inr.inr.inr.inr.inr.inr=>
       intro K hK
       simp only [e,mr,qL,BK,Kq,Kr,Nat.reduceAdd,Nat.reduceMul,Nat.reduceSub]
       repeat ((fail_if_success (with_reducible refine Dm (i:=63) ?_));first|(with_reducible first|refine ah.up ?_|refine fun (K:AK) hK=> ?_|refine wE ?_|refine wD ?_|refine wK ?_|refine wF ?_|refine af (by decide) ?_|refine ae (by decide) ?_|(refine hK _ ?_;clear hK K))|simp only [go_sem,H7,decide_false,eG]|with_reducible refine wA ?_|clear hK K)
       refine mO ⟨aD 385 [(0, .v (.bool false)),(1, .vp [.an 8 [[.v (.string ⟨#[97]⟩), .v (.string ⟨#[98]⟩), .v (.bool false), .v (.string ⟨#[120]⟩), .v (.string ⟨#[101]⟩), .v (.int .i64 0), .v (.string ⟨#[]⟩), .v (.slice none 0 0)],[.v (.string ⟨#[98]⟩), .v (.string ⟨#[99]⟩), .v (.bool true), .v (.string ⟨#[]⟩), .v (.string ⟨#[]⟩), .v (.int .i64 4), .v (.string ⟨#[]⟩), .an 3 [[.v (.int .i64 1), .v (.string ⟨#[121]⟩), .v (.slice none 0 0)]] 1]] 2, .an 13 [[.v (.int .i64 3), .v (.int .i64 2), .v (.string ⟨#[101]⟩), .v (.string ⟨#[107]⟩), .v (.int .i64 0), .v (.int .i64 0), .v (.string ⟨#[]⟩), .v (.int .i64 3), .v (.string ⟨#[]⟩), .v (.string ⟨#[]⟩), .v (.int .i64 1), .v (.int .i64 5), .v (.string ⟨#[]⟩)]] 1, .an 6 [[.v (.int .i64 1), .v (.string ⟨#[97]⟩), .v (.string ⟨#[]⟩), .v (.int .i64 0), .v (.int .i64 0), .v (.string ⟨#[]⟩)],[.v (.int .i64 2), .v (.string ⟨#[101]⟩), .v (.string ⟨#[107]⟩), .v (.int .i64 0), .v (.int .i64 0), .v (.string ⟨#[]⟩)]] 2, .v (.int .i64 5), .v (.int .i64 2)]),(7, .an 1 [[.v (.int .i64 (-9223372036854775808))],[.v (.int .i64 (-1))],[.v (.int .i64 0)],[.v (.int .i64 1)],[.v (.int .i64 2)],[.v (.int .i64 3)],[.v (.int .i64 4)],[.v (.int .i64 6)],[.v (.int .i64 7)],[.v (.int .i64 1048576)],[.v (.int .i64 1048577)]] 11),(8, .v (.int .i64 i))],[none,none,none,none], .no⟩ (by kernel_rfl) (by kernel_rfl) ?_ ?_
       ·as_aux_lemma=>
        skip
        repeat ((fail_if_success (with_reducible refine oS (i:=63) ?_));first|(with_reducible first|refine ah.up ?_|refine fun (K:AK) hK=> ?_|refine wK ?_|refine wF ?_|refine af (by decide) ?_|refine ae (by decide) ?_|(refine hK _ ?_;clear hK K))|simp only [go_sem,go_sem]|with_reducible refine wA ?_|clear hK K)
        refine bw (eU (k:=7) (i:=1) (j:=7) (by decide) rfl (La _) rfl rfl rfl rfl rfl) (by kernel_rfl) ?_
        refine bw (eU (k:=18) (i:=1) (j:=7) (by decide) rfl (La _) rfl rfl rfl rfl rfl) (by kernel_rfl) ?_
        refine bw (eU (k:=29) (i:=1) (j:=7) (by decide) rfl (La _) rfl rfl rfl rfl rfl) (by kernel_rfl) ?_
        refine bw (eU (k:=40) (i:=1) (j:=7) (by decide) rfl (La _) rfl rfl rfl rfl rfl) (by kernel_rfl) ?_
        refine bw (eU (k:=51) (i:=1) (j:=7) (by decide) rfl (La _) rfl rfl rfl rfl rfl) (by kernel_rfl) ?_
        refine bw (eU (k:=62) (i:=1) (j:=7) (by decide) rfl (La _) rfl rfl rfl rfl rfl) (by kernel_rfl) ?_
        refine bw (eU (k:=73) (i:=1) (j:=7) (by decide) rfl (La _) rfl rfl rfl rfl rfl) (by kernel_rfl) ?_
        simp only [KM,KL]
        refine bw (ll 385 [(0, .v (.bool false)),(1, .vp [.an 8 [[.v (.string ⟨#[97]⟩), .v (.string ⟨#[98]⟩), .v (.bool false), .v (.string ⟨#[120]⟩), .v (.string ⟨#[101]⟩), .v (.int .i64 0), .v (.string ⟨#[]⟩), .v (.slice none 0 0)],[.v (.string ⟨#[98]⟩), .v (.string ⟨#[99]⟩), .v (.bool true), .v (.string ⟨#[]⟩), .v (.string ⟨#[]⟩), .v (.int .i64 4), .v (.string ⟨#[]⟩), .an 3 [[.v (.int .i64 1), .v (.string ⟨#[121]⟩), .v (.slice none 0 0)]] 1]] 2, .an 13 [[.v (.int .i64 3), .v (.int .i64 2), .v (.string ⟨#[101]⟩), .v (.string ⟨#[107]⟩), .v (.int .i64 0), .v (.int .i64 0), .v (.string ⟨#[]⟩), .v (.int .i64 3), .v (.string ⟨#[]⟩), .v (.string ⟨#[]⟩), .v (.int .i64 1), .v (.int .i64 5), .v (.string ⟨#[]⟩)]] 1, .an 6 [[.v (.int .i64 1), .v (.string ⟨#[97]⟩), .v (.string ⟨#[]⟩), .v (.int .i64 0), .v (.int .i64 0), .v (.string ⟨#[]⟩)],[.v (.int .i64 2), .v (.string ⟨#[101]⟩), .v (.string ⟨#[107]⟩), .v (.int .i64 0), .v (.int .i64 0), .v (.string ⟨#[]⟩)]] 2, .v (.int .i64 5), .v (.int .i64 2)]),(7, .an 1 [[.v (.int .i64 (-9223372036854775808))],[.v (.int .i64 (-1))],[.v (.int .i64 0)],[.v (.int .i64 1)],[.v (.int .i64 2)],[.v (.int .i64 3)],[.v (.int .i64 4)],[.v (.int .i64 6)],[.v (.int .i64 7)],[.v (.int .i64 1048576)],[.v (.int .i64 1048577)]] 11),(8, .v (.int .i64 i)),(9, .an 5 [[.an 8 [[.v (.string ⟨#[97]⟩), .v (.string ⟨#[98]⟩), .v (.bool false), .v (.string ⟨#[120]⟩), .v (.string ⟨#[101]⟩), .v (.int .i64 0), .v (.string ⟨#[]⟩), .v (.slice none 0 0)],[.v (.string ⟨#[98]⟩), .v (.string ⟨#[99]⟩), .v (.bool true), .v (.string ⟨#[]⟩), .v (.string ⟨#[]⟩), .v (.int .i64 4), .v (.string ⟨#[]⟩), .an 3 [[.v (.int .i64 1), .v (.string ⟨#[121]⟩), .v (.slice none 0 0)]] 1]] 2, .an 13 [[.v (.int .i64 3), .v (.int .i64 2), .v (.string ⟨#[101]⟩), .v (.string ⟨#[107]⟩), .v (.int .i64 0), .v (.int .i64 0), .v (.string ⟨#[]⟩), .v (.int .i64 3), .v (.string ⟨#[]⟩), .v (.string ⟨#[]⟩), .v (.int .i64 1), .v (.int .i64 5), .v (.string ⟨#[]⟩)]] 1, .an 6 [[.v (.int .i64 1), .v (.string ⟨#[97]⟩), .v (.string ⟨#[]⟩), .v (.int .i64 0), .v (.int .i64 0), .v (.string ⟨#[]⟩)],[.v (.int .i64 2), .v (.string ⟨#[101]⟩), .v (.string ⟨#[107]⟩), .v (.int .i64 0), .v (.int .i64 0), .v (.string ⟨#[]⟩)]] 2, .v (.int .i64 n), .v (.int .i64 2)],[.an 8 [[.v (.string ⟨#[97]⟩), .v (.string ⟨#[98]⟩), .v (.bool false), .v (.string ⟨#[120]⟩), .v (.string ⟨#[101]⟩), .v (.int .i64 0), .v (.string ⟨#[]⟩), .v (.slice none 0 0)],[.v (.string ⟨#[98]⟩), .v (.string ⟨#[99]⟩), .v (.bool true), .v (.string ⟨#[]⟩), .v (.string ⟨#[]⟩), .v (.int .i64 4), .v (.string ⟨#[]⟩), .an 3 [[.v (.int .i64 1), .v (.string ⟨#[121]⟩), .v (.slice none 0 0)]] 1]] 2, .an 13 [[.v (.int .i64 3), .v (.int .i64 2), .v (.string ⟨#[101]⟩), .v (.string ⟨#[107]⟩), .v (.int .i64 0), .v (.int .i64 0), .v (.string ⟨#[]⟩), .v (.int .i64 3), .v (.string ⟨#[]⟩), .v (.string ⟨#[]⟩), .v (.int .i64 1), .v (.int .i64 5), .v (.string ⟨#[]⟩)]] 1, .an 6 [[.v (.int .i64 1), .v (.string ⟨#[97]⟩), .v (.string ⟨#[]⟩), .v (.int .i64 0), .v (.int .i64 0), .v (.string ⟨#[]⟩)],[.v (.int .i64 2), .v (.string ⟨#[101]⟩), .v (.string ⟨#[107]⟩), .v (.int .i64 0), .v (.int .i64 0), .v (.string ⟨#[]⟩)]] 2, .v (.int .i64 5), .v (.int .i64 n)],[.an 8 [[.v (.string ⟨#[97]⟩), .v (.string ⟨#[98]⟩), .v (.bool false), .v (.string ⟨#[120]⟩), .v (.string ⟨#[101]⟩), .v (.int .i64 0), .v (.string ⟨#[]⟩), .v (.slice none 0 0)],[.v (.string ⟨#[98]⟩), .v (.string ⟨#[99]⟩), .v (.bool true), .v (.string ⟨#[]⟩), .v (.string ⟨#[]⟩), .v (.int .i64 4), .v (.string ⟨#[]⟩), .an 3 [[.v (.int .i64 1), .v (.string ⟨#[121]⟩), .v (.slice none 0 0)]] 1]] 2, .an 13 [[.v (.int .i64 n), .v (.int .i64 2), .v (.string ⟨#[101]⟩), .v (.string ⟨#[107]⟩), .v (.int .i64 0), .v (.int .i64 0), .v (.string ⟨#[]⟩), .v (.int .i64 3), .v (.string ⟨#[]⟩), .v (.string ⟨#[]⟩), .v (.int .i64 1), .v (.int .i64 5), .v (.string ⟨#[]⟩)]] 1, .an 6 [[.v (.int .i64 1), .v (.string ⟨#[97]⟩), .v (.string ⟨#[]⟩), .v (.int .i64 0), .v (.int .i64 0), .v (.string ⟨#[]⟩)],[.v (.int .i64 2), .v (.string ⟨#[101]⟩), .v (.string ⟨#[107]⟩), .v (.int .i64 0), .v (.int .i64 0), .v (.string ⟨#[]⟩)]] 2, .v (.int .i64 5), .v (.int .i64 2)],[.an 8 [[.v (.string ⟨#[97]⟩), .v (.string ⟨#[98]⟩), .v (.bool false), .v (.string ⟨#[120]⟩), .v (.string ⟨#[101]⟩), .v (.int .i64 0), .v (.string ⟨#[]⟩), .v (.slice none 0 0)],[.v (.string ⟨#[98]⟩), .v (.string ⟨#[99]⟩), .v (.bool true), .v (.string ⟨#[]⟩), .v (.string ⟨#[]⟩), .v (.int .i64 4), .v (.string ⟨#[]⟩), .an 3 [[.v (.int .i64 1), .v (.string ⟨#[121]⟩), .v (.slice none 0 0)]] 1]] 2, .an 13 [[.v (.int .i64 3), .v (.int .i64 n), .v (.string ⟨#[101]⟩), .v (.string ⟨#[107]⟩), .v (.int .i64 0), .v (.int .i64 0), .v (.string ⟨#[]⟩), .v (.int .i64 3), .v (.string ⟨#[]⟩), .v (.string ⟨#[]⟩), .v (.int .i64 1), .v (.int .i64 5), .v (.string ⟨#[]⟩)]] 1, .an 6 [[.v (.int .i64 1), .v (.string ⟨#[97]⟩), .v (.string ⟨#[]⟩), .v (.int .i64 0), .v (.int .i64 0), .v (.string ⟨#[]⟩)],[.v (.int .i64 2), .v (.string ⟨#[101]⟩), .v (.string ⟨#[107]⟩), .v (.int .i64 0), .v (.int .i64 0), .v (.string ⟨#[]⟩)]] 2, .v (.int .i64 5), .v (.int .i64 2)],[.an 8 [[.v (.string ⟨#[97]⟩), .v (.string ⟨#[98]⟩), .v (.bool false), .v (.string ⟨#[120]⟩), .v (.string ⟨#[101]⟩), .v (.int .i64 0), .v (.string ⟨#[]⟩), .v (.slice none 0 0)],[.v (.string ⟨#[98]⟩), .v (.string ⟨#[99]⟩), .v (.bool true), .v (.string ⟨#[]⟩), .v (.string ⟨#[]⟩), .v (.int .i64 4), .v (.string ⟨#[]⟩), .an 3 [[.v (.int .i64 1), .v (.string ⟨#[121]⟩), .v (.slice none 0 0)]] 1]] 2, .an 13 [[.v (.int .i64 3), .v (.int .i64 2), .v (.string ⟨#[101]⟩), .v (.string ⟨#[107]⟩), .v (.int .i64 0), .v (.int .i64 0), .v (.string ⟨#[]⟩), .v (.int .i64 3), .v (.string ⟨#[]⟩), .v (.string ⟨#[]⟩), .v (.int .i64 1), .v (.int .i64 5), .v (.string ⟨#[]⟩)]] 1, .an 6 [[.v (.int .i64 n), .v (.string ⟨#[97]⟩), .v (.string ⟨#[]⟩), .v (.int .i64 0), .v (.int .i64 0), .v (.string ⟨#[]⟩)],[.v (.int .i64 2), .v (.string ⟨#[101]⟩), .v (.string ⟨#[107]⟩), .v (.int .i64 0), .v (.int .i64 0), .v (.string ⟨#[]⟩)]] 2, .v (.int .i64 5), .v (.int .i64 2)],[.an 8 [[.v (.string ⟨#[97]⟩), .v (.string ⟨#[98]⟩), .v (.bool ((i:Int).tmod 2==0)), .v (.string ⟨#[120]⟩), .v (.string ⟨#[101]⟩), .v (.int .i64 0), .v (.string ⟨#[]⟩), .v (.slice none 0 0)],[.v (.string ⟨#[98]⟩), .v (.string ⟨#[99]⟩), .v (.bool true), .v (.string ⟨#[]⟩), .v (.string ⟨#[]⟩), .v (.int .i64 4), .v (.string ⟨#[]⟩), .an 3 [[.v (.int .i64 1), .v (.string ⟨#[121]⟩), .v (.slice none 0 0)]] 1]] 2, .an 13 [[.v (.int .i64 3), .v (.int .i64 2), .v (.string ⟨#[101]⟩), .v (.string ⟨#[107]⟩), .v (.int .i64 0), .v (.int .i64 0), .v (.string ⟨#[]⟩), .v (.int .i64 3), .v (.string ⟨#[]⟩), .v (.string ⟨#[]⟩), .v (.int .i64 1), .v (.int .i64 5), .v (.string ⟨#[]⟩)]] 1, .an 6 [[.v (.int .i64 1), .v (.string ⟨#[97]⟩), .v (.string ⟨#[]⟩), .v (.int .i64 0), .v (.int .i64 0), .v (.string ⟨#[]⟩)],[.v (.int .i64 2), .v (.string ⟨#[101]⟩), .v (.string ⟨#[107]⟩), .v (.int .i64 0), .v (.int .i64 0), .v (.string ⟨#[]⟩)]] 2, .v (.int .i64 5), .v (.int .i64 2)],[.an 8 [[.v (.string ⟨#[97]⟩), .v (.string ⟨#[98]⟩), .v (.bool false), .v (.string ⟨#[120]⟩), .v (.string ⟨#[101]⟩), .v (.int .i64 0), .v (.string ⟨#[]⟩), .v (.slice none 0 0)],[.v (.string ⟨#[98]⟩), .v (.string ⟨#[99]⟩), .v (.bool ((i:Int).tmod 2==0)), .v (.string ⟨#[]⟩), .v (.string ⟨#[]⟩), .v (.int .i64 4), .v (.string ⟨#[]⟩), .an 3 [[.v (.int .i64 1), .v (.string ⟨#[121]⟩), .v (.slice none 0 0)]] 1]] 2, .an 13 [[.v (.int .i64 3), .v (.int .i64 2), .v (.string ⟨#[101]⟩), .v (.string ⟨#[107]⟩), .v (.int .i64 0), .v (.int .i64 0), .v (.string ⟨#[]⟩), .v (.int .i64 3), .v (.string ⟨#[]⟩), .v (.string ⟨#[]⟩), .v (.int .i64 1), .v (.int .i64 5), .v (.string ⟨#[]⟩)]] 1, .an 6 [[.v (.int .i64 1), .v (.string ⟨#[97]⟩), .v (.string ⟨#[]⟩), .v (.int .i64 0), .v (.int .i64 0), .v (.string ⟨#[]⟩)],[.v (.int .i64 2), .v (.string ⟨#[101]⟩), .v (.string ⟨#[107]⟩), .v (.int .i64 0), .v (.int .i64 0), .v (.string ⟨#[]⟩)]] 2, .v (.int .i64 5), .v (.int .i64 2)]] 7)] rfl ⟨⟨_,rfl,b8.v _⟩,⟨_,rfl,b8.of 40 (by rfl) (by simp only [go_sem,Nat.reduceLT,Nat.reduceLeDiff,Nat.reduceEqDiff,K7,K8,and_self])⟩,⟨_,rfl,b8.of 40 (by rfl) (by simp only [go_sem,Nat.reduceLT,Nat.reduceLeDiff,Nat.reduceEqDiff,K7,K8,and_self])⟩,⟨_,rfl,b8.v _⟩,⟨_,rfl, ?_⟩,trivial⟩) (by kernel_rfl) ?_
        ·refine b8.Fl (ob:=⟨26,5,true,_⟩) (by rfl) (by rfl) (by rfl) ?_
         refine ⟨?_, ?_, ?_, ?_, ?_, ?_, ?_,trivial⟩
         all_goals exact ⟨b8.DF (ob:=⟨45,8,true,_⟩) (by rfl) (by rfl) (by rfl) (by rfl),b8.DF (ob:=⟨37,13,true,_⟩) (by rfl) (by rfl) (by rfl) (by rfl),b8.DF (ob:=⟨34,6,true,_⟩) (by rfl) (by rfl) (by rfl) (by rfl),b8.v _,b8.v _,trivial⟩
        simp only [j0,I5,IZ,Nat.reduceAdd,Kn,Ko]
        simp only [aD,Ks,Kt,Kn,Ko,go_sem]
        repeat (first|(with_reducible first|refine ah.up ?_|refine fun (K:AK) hK=> ?_|refine wE ?_|refine wD ?_|refine wK ?_|refine wF ?_|refine af (by decide) ?_|refine ae (by decide) ?_|(refine hK _ ?_;clear hK K))|simp only [go_sem]|with_reducible refine wA ?_|clear hK K)
        refine bE (ι:=Nat) 17 (fun m=>[(11, .v (.int .i64 m))]) (fun m=>7 - m) (fun m=>m≤7) 0 (by omega) ?_ ?_
        ·(refine au ?_ ?_ ?_<;>simp only [aD,Ks,Kt,Kn,Ko,bu,bt,AV.v.injEq,Value.int.injEq,Value.bool.injEq,Value.string.injEq,AV.vec.injEq,AV.ptr.injEq,true_or,or_true,false_or,or_false,ab.mk.injEq,forall_eq_apply_imp_iff,forall_eq,forall_eq',go_sem])
         all_goals rfl
        ·intro m hm
         rcases (by omega:m=0∨m=1∨m=2∨m=3∨m=4∨m=5∨m=6∨m=7) with e2|e2|e2|e2|e2|e2|e2|e2
         case inr.inr.inr.inr.inr.inr.inr=>
          intro K hK
          simp only [e2]
          repeat (first|(with_reducible first|refine ah.up ?_|refine fun (K:AK) hK=> ?_|refine wE ?_|refine wD ?_|refine wK ?_|refine wF ?_|refine af (by decide) ?_|refine ae (by decide) ?_|(refine hK _ ?_;clear hK K))|simp only [go_sem,H7,decide_false]|with_reducible refine wA ?_|clear hK K)
          (refine au ?_ ?_ ?_<;>simp only [aD,Ks,Kt,Kn,Ko,bu,bt,AV.v.injEq,Value.int.injEq,Value.bool.injEq,Value.string.injEq,AV.vec.injEq,AV.ptr.injEq,true_or,or_true,false_or,or_false,ab.mk.injEq,forall_eq_apply_imp_iff,forall_eq,forall_eq',go_sem])
         all_goals
          as_aux_lemma=>
          intro K hK
          simp only [e2]
          repeat (first|(with_reducible first|refine ah.up ?_|refine fun (K:AK) hK=> ?_|refine wK ?_|refine wF ?_|refine af (by decide) ?_|refine ae (by decide) ?_|(refine hK _ ?_;clear hK K))|simp only [go_sem,H7,decide_true]|with_reducible refine wA ?_|clear hK K)
          refine wD ?_
          repeat (first|(with_reducible first|refine ah.up ?_|refine fun (K:AK) hK=> ?_|refine wK ?_|refine wF ?_|refine af (by decide) ?_|refine ae (by decide) ?_|(refine hK _ ?_;clear hK K))|simp only [go_sem,H7,decide_true]|with_reducible refine wA ?_|clear hK K)
          refine aw.one (r:= .v (.bool true)) (jj (fA (by simp only [vT,cg.ok,iI.ok];repeat' (first|exact trivial|refine And.intro ?_ ?_|exact bY (by rfl)))) (fA (by simp only [vT,cg.ok,iI.ok];repeat' (first|exact trivial|refine And.intro ?_ ?_|exact bY (by rfl)))) ⟨⟨_,_,_,⟨_,_,_⟩⟩,by simp only [vT,cg.ok,iI.ok];repeat' (first|exact trivial|refine And.intro ?_ ?_|exact bY (by rfl)),rfl⟩) ?_
          repeat (first|(with_reducible first|refine ah.up ?_|refine fun (K:AK) hK=> ?_|refine wK ?_|refine wF ?_|refine af (by decide) ?_|refine ae (by decide) ?_|(refine hK _ ?_;clear hK K))|simp only [go_sem,eWk]|with_reducible refine wA ?_|clear hK K)
          refine aC.mk (m+1) (by omega) (by omega) ?_
          simp only [e2]
          (refine au ?_ ?_ ?_<;>simp only [aD,Ks,Kt,Kn,Ko,bu,bt,AV.v.injEq,Value.int.injEq,Value.bool.injEq,Value.string.injEq,AV.vec.injEq,AV.ptr.injEq,true_or,or_true,false_or,or_false,ab.mk.injEq,forall_eq_apply_imp_iff,forall_eq,forall_eq',go_sem])
       ·as_aux_lemma=>
        obtain ⟨w,hw,eM⟩: ∃w:Nat,w≤8∧(if (0:Int) > (if 8<n then 8 else n) then 0 else (if 8<n then 8 else n))=(w:Int):=by
         refine ⟨(if (0:Int) > (if 8<n then 8 else n) then 0 else (if 8<n then 8 else n)).toNat, ?_, ?_⟩
         ·split<;>(try split)<;>omega
         ·rw [Int.toNat_of_nonneg]
          split<;>(try split)<;>omega
        simp only [aD,Ks,Kt,Kn,Ko,go_sem]
        repeat ((fail_if_success (with_reducible refine oS (i:=72) ?_));first|(with_reducible first|refine ah.up ?_|refine fun (K:AK) hK=> ?_|refine wK ?_|refine wF ?_|refine af (by decide) ?_|refine ae (by decide) ?_|(refine hK _ ?_;clear hK K))|simp only [go_sem,eG,eM]|with_reducible refine wA ?_|clear hK K)
        refine bw (ei (k:=4) (i:=0) (j:=0) 45 8 (by decide) rfl (La _) rfl rfl) (by kernel_rfl) ?_
        simp only [I5,IZ,Nat.reduceAdd,Kq,Kr,KM,KL]
        refine bw (ei (k:=4) (i:=0) (j:=1) 37 13 (by decide) rfl (La _) rfl rfl) (by kernel_rfl) ?_
        simp only [I5,IZ,Nat.reduceAdd,Kq,Kr,KM,KL]
        refine bw (ei (k:=4) (i:=0) (j:=2) 34 6 (by decide) rfl (La _) rfl rfl) (by kernel_rfl) ?_
        simp only [I5,IZ,Nat.reduceAdd,Kq,Kr,KM,KL]
        repeat (first|(with_reducible first|refine ah.up ?_|refine fun (K:AK) hK=> ?_|refine wE ?_|refine wD ?_|refine wK ?_|refine wF ?_|refine af (by decide) ?_|refine ae (by decide) ?_|(refine hK _ ?_;clear hK K))|simp only [go_sem]|with_reducible refine wA ?_|clear hK K)
        refine ec (ι:=Nat) 17 (fun m=>[(14, .v (.int .i64 m))]) (fun m=>[none,none,none,none,some ⟨26,5,false,[[.vec 5 m, .vec 6 m, .vec 7 m, .v (.int .i64 1), .v (.int .i64 1)]]⟩,some ⟨45,8,true,eD m⟩,some ⟨37,13,true,fE m⟩,some ⟨34,6,true,fY m⟩]) (fun m=>w - m) (fun m=>m≤w) 0 (by omega) ?_ ?_
        ·skip
         (refine au ?_ ?_ ?_<;>simp only [aD,Ks,Kt,Kn,Ko,bu,bt,AV.v.injEq,Value.int.injEq,Value.bool.injEq,Value.string.injEq,AV.vec.injEq,AV.ptr.injEq,true_or,or_true,false_or,or_false,ab.mk.injEq,forall_eq_apply_imp_iff,forall_eq,forall_eq',go_sem])
         all_goals first|rfl|exact ⟨⟨rfl,rfl⟩,⟨rfl,rfl⟩,rfl,rfl⟩
        ·as_aux_lemma=>
         intro m hm K hK
         skip
         repeat (first|(with_reducible first|refine ah.up ?_|refine fun (K:AK) hK=> ?_|refine wE ?_|refine wD ?_|refine wK ?_|refine wF ?_|refine af (by decide) ?_|refine ae (by decide) ?_|(refine hK _ ?_;clear hK K))|simp only [go_sem]|with_reducible refine wA ?_|clear hK K)
         refine aO.part (fun h4=> ?_) (fun h4=> ?_)
         ·have hlw:m<w:=by (try simp only [bne_iff_ne,ne_eq,bne_eq_false_iff_eq,beq_iff_eq,beq_eq_false_iff_ne,decide_eq_true_eq,decide_eq_false_iff_not,Ku,Kv,Kw,Kx] at h4);omega
          have eWm:=ar (k:=m) (by omega)
          have l1:=ix m
          have l2:=iJ m
          have l3:=iw m
          have w1: ∀n,ct n (eD m)=true:=fun n=>fN n m
          have w2: ∀n,ct n (fE m)=true:=fun n=>fD n m
          have w3: ∀n,ct n (fY m)=true:=fun n=>fT n m
          have t2:fE m++[Gi]=fE (m+1):=rfl
          have t3:fY m++[FX]=fY (m+1):=rfl
          have CA:=CV ⟨#[97]⟩
          rcases Nat.mod_two_eq_zero_or_one m with hp|hp
          ·have t1:eD m++[EU]=eD (m+1):=by rw [eD,if_pos hp]
           have eR:(m:Int).tmod 2=0:=by rw [Lk (by omega)];omega
           simp only [EU,FC,Gi,FX] at t1 t2 t3
           generalize eD m=rp at l1 w1 t1 ⊢
           generalize fE m=rc at l2 w2 t2 ⊢
           generalize fY m=ro at l3 w3 t3 ⊢
           repeat (first|(with_reducible first|refine ah.up ?_|refine fun (K:AK) hK=> ?_|refine wK ?_|refine wF ?_|refine af (by decide) ?_|refine ae (by decide) ?_|(refine hK _ ?_;clear hK K))|simp only [go_sem,h4,eR,l1,l2,l3]|with_reducible refine wA ?_|clear hK K)
           refine ck [9,11] [] (by decide+kernel) (by kernel_rfl) ?_
           repeat (first|(with_reducible first|refine ah.up ?_|refine fun (K:AK) hK=> ?_|refine wK ?_|refine wF ?_|refine af (by decide) ?_|refine ae (by decide) ?_|(refine hK _ ?_;clear hK K))|simp only [go_sem,eR,l1,l2,l3]|with_reducible refine wA ?_|clear hK K)
           refine ck [7,9] [] (by decide+kernel) (by kernel_rfl) ?_
           repeat (first|(with_reducible first|refine ah.up ?_|refine fun (K:AK) hK=> ?_|refine wK ?_|refine wF ?_|refine af (by decide) ?_|refine ae (by decide) ?_|(refine hK _ ?_;clear hK K))|simp only [go_sem,l1,l2,l3]|with_reducible refine wA ?_|clear hK K)
           refine ck [4,6] [] (by decide+kernel) (by kernel_rfl) ?_
           repeat (first|(with_reducible first|refine ah.up ?_|refine fun (K:AK) hK=> ?_|refine wK ?_|refine wF ?_|refine af (by decide) ?_|refine ae (by decide) ?_|(refine hK _ ?_;clear hK K))|simp only [go_sem,l1,l2,l3]|with_reducible refine wA ?_|clear hK K)
           refine aw.one CA ?_
           repeat (first|(with_reducible first|refine ah.up ?_|refine fun (K:AK) hK=> ?_|refine wK ?_|refine wF ?_|refine af (by decide) ?_|refine ae (by decide) ?_|(refine hK _ ?_;clear hK K))|simp only [go_sem,l1,l2,l3,eWm]|with_reducible refine wA ?_|clear hK K)
           refine aC.mk (m+1) (by omega) (by omega) ?_
           skip
           (refine au ?_ ?_ ?_<;>simp only [aD,Ks,Kt,Kn,Ko,bu,bt,AV.v.injEq,Value.int.injEq,Value.bool.injEq,Value.string.injEq,AV.vec.injEq,AV.ptr.injEq,true_or,or_true,false_or,or_false,ab.mk.injEq,forall_eq_apply_imp_iff,forall_eq,forall_eq',go_sem])
           exact ⟨⟨t1,fN _ _⟩,⟨t2,fD _ _⟩,t3,fT _ _⟩
          ·have t1:eD m++[FC]=eD (m+1):=by rw [eD,if_neg (by omega)]
           have eR:(m:Int).tmod 2=1:=by rw [Lk (by omega)];omega
           simp only [EU,FC,Gi,FX] at t1 t2 t3
           generalize eD m=rp at l1 w1 t1 ⊢
           generalize fE m=rc at l2 w2 t2 ⊢
           generalize fY m=ro at l3 w3 t3 ⊢
           repeat (first|(with_reducible first|refine ah.up ?_|refine fun (K:AK) hK=> ?_|refine wK ?_|refine wF ?_|refine af (by decide) ?_|refine ae (by decide) ?_|(refine hK _ ?_;clear hK K))|simp only [go_sem,h4,eR,l1,l2,l3]|with_reducible refine wA ?_|clear hK K)
           refine ck [9,11] [] (by decide+kernel) (by kernel_rfl) ?_
           repeat (first|(with_reducible first|refine ah.up ?_|refine fun (K:AK) hK=> ?_|refine wK ?_|refine wF ?_|refine af (by decide) ?_|refine ae (by decide) ?_|(refine hK _ ?_;clear hK K))|simp only [go_sem,eR,l1,l2,l3]|with_reducible refine wA ?_|clear hK K)
           refine ck [7,9] [] (by decide+kernel) (by kernel_rfl) ?_
           repeat (first|(with_reducible first|refine ah.up ?_|refine fun (K:AK) hK=> ?_|refine wK ?_|refine wF ?_|refine af (by decide) ?_|refine ae (by decide) ?_|(refine hK _ ?_;clear hK K))|simp only [go_sem,l1,l2,l3]|with_reducible refine wA ?_|clear hK K)
           refine ck [4,6] [] (by decide+kernel) (by kernel_rfl) ?_
           repeat (first|(with_reducible first|refine ah.up ?_|refine fun (K:AK) hK=> ?_|refine wK ?_|refine wF ?_|refine af (by decide) ?_|refine ae (by decide) ?_|(refine hK _ ?_;clear hK K))|simp only [go_sem,l1,l2,l3]|with_reducible refine wA ?_|clear hK K)
           refine aw.one CA ?_
           repeat (first|(with_reducible first|refine ah.up ?_|refine fun (K:AK) hK=> ?_|refine wK ?_|refine wF ?_|refine af (by decide) ?_|refine ae (by decide) ?_|(refine hK _ ?_;clear hK K))|simp only [go_sem,l1,l2,l3,eWm]|with_reducible refine wA ?_|clear hK K)
           refine aC.mk (m+1) (by omega) (by omega) ?_
           skip
           (refine au ?_ ?_ ?_<;>simp only [aD,Ks,Kt,Kn,Ko,bu,bt,AV.v.injEq,Value.int.injEq,Value.bool.injEq,Value.string.injEq,AV.vec.injEq,AV.ptr.injEq,true_or,or_true,false_or,or_false,ab.mk.injEq,forall_eq_apply_imp_iff,forall_eq,forall_eq',go_sem])
           exact ⟨⟨t1,fN _ _⟩,⟨t2,fD _ _⟩,t3,fT _ _⟩
         ·have hm':m=w:=by (try simp only [bne_iff_ne,ne_eq,bne_eq_false_iff_eq,beq_iff_eq,beq_eq_false_iff_ne,decide_eq_true_eq,decide_eq_false_iff_not,Ku,Kv,Kw,Kx] at h4);omega
          simp only [hm']
          repeat (first|(with_reducible first|refine ah.up ?_|refine fun (K:AK) hK=> ?_|refine wK ?_|refine wF ?_|refine af (by decide) ?_|refine ae (by decide) ?_|(refine hK _ ?_;clear hK K))|simp only [go_sem,h4]|with_reducible refine wA ?_|clear hK K)
          refine bw (ll 385 [(0, .v (.bool false)),(1, .vp [.an 8 [[.v (.string ⟨#[97]⟩), .v (.string ⟨#[98]⟩), .v (.bool false), .v (.string ⟨#[120]⟩), .v (.string ⟨#[101]⟩), .v (.int .i64 0), .v (.string ⟨#[]⟩), .v (.slice none 0 0)],[.v (.string ⟨#[98]⟩), .v (.string ⟨#[99]⟩), .v (.bool true), .v (.string ⟨#[]⟩), .v (.string ⟨#[]⟩), .v (.int .i64 4), .v (.string ⟨#[]⟩), .an 3 [[.v (.int .i64 1), .v (.string ⟨#[121]⟩), .v (.slice none 0 0)]] 1]] 2, .an 13 [[.v (.int .i64 3), .v (.int .i64 2), .v (.string ⟨#[101]⟩), .v (.string ⟨#[107]⟩), .v (.int .i64 0), .v (.int .i64 0), .v (.string ⟨#[]⟩), .v (.int .i64 3), .v (.string ⟨#[]⟩), .v (.string ⟨#[]⟩), .v (.int .i64 1), .v (.int .i64 5), .v (.string ⟨#[]⟩)]] 1, .an 6 [[.v (.int .i64 1), .v (.string ⟨#[97]⟩), .v (.string ⟨#[]⟩), .v (.int .i64 0), .v (.int .i64 0), .v (.string ⟨#[]⟩)],[.v (.int .i64 2), .v (.string ⟨#[101]⟩), .v (.string ⟨#[107]⟩), .v (.int .i64 0), .v (.int .i64 0), .v (.string ⟨#[]⟩)]] 2, .v (.int .i64 5), .v (.int .i64 2)]),(7, .an 1 [[.v (.int .i64 (-9223372036854775808))],[.v (.int .i64 (-1))],[.v (.int .i64 0)],[.v (.int .i64 1)],[.v (.int .i64 2)],[.v (.int .i64 3)],[.v (.int .i64 4)],[.v (.int .i64 6)],[.v (.int .i64 7)],[.v (.int .i64 1048576)],[.v (.int .i64 1048577)]] 11),(8, .v (.int .i64 i)),(13, .vp [.an 8 (eD w) w, .an 13 (fE w) w, .an 6 (fY w) w, .v (.int .i64 1), .v (.int .i64 1)]),(15, .vp [.an 8 [[.v (.string ⟨#[97]⟩), .v (.string ⟨#[98]⟩), .v (.bool false), .v (.string ⟨#[120]⟩), .v (.string ⟨#[101]⟩), .v (.int .i64 0), .v (.string ⟨#[]⟩), .v (.slice none 0 0)],[.v (.string ⟨#[98]⟩), .v (.string ⟨#[99]⟩), .v (.bool true), .v (.string ⟨#[]⟩), .v (.string ⟨#[]⟩), .v (.int .i64 4), .v (.string ⟨#[]⟩), .an 3 [[.v (.int .i64 1), .v (.string ⟨#[121]⟩), .v (.slice none 0 0)]] 1]] 2, .an 13 (fE w) w, .an 6 (fY w) w, .v (.int .i64 1), .v (.int .i64 1)]),(16, .vp [.an 8 [[.v (.string ⟨#[97]⟩), .v (.string ⟨#[98]⟩), .v (.bool false), .v (.string ⟨#[120]⟩), .v (.string ⟨#[101]⟩), .v (.int .i64 0), .v (.string ⟨#[]⟩), .v (.slice none 0 0)],[.v (.string ⟨#[98]⟩), .v (.string ⟨#[99]⟩), .v (.bool true), .v (.string ⟨#[]⟩), .v (.string ⟨#[]⟩), .v (.int .i64 4), .v (.string ⟨#[]⟩), .an 3 [[.v (.int .i64 1), .v (.string ⟨#[121]⟩), .v (.slice none 0 0)]] 1]] 2, .an 13 (fE w) w, .an 6 [[.v (.int .i64 1), .v (.string ⟨#[97]⟩), .v (.string ⟨#[]⟩), .v (.int .i64 0), .v (.int .i64 0), .v (.string ⟨#[]⟩)],[.v (.int .i64 2), .v (.string ⟨#[101]⟩), .v (.string ⟨#[107]⟩), .v (.int .i64 0), .v (.int .i64 0), .v (.string ⟨#[]⟩)]] 2, .v (.int .i64 1), .v (.int .i64 1)])] rfl ⟨⟨_,rfl,b8.v _⟩,⟨_,rfl,b8.of 40 (by rfl) (by simp only [go_sem,Nat.reduceLT,Nat.reduceLeDiff,Nat.reduceEqDiff,K7,K8,and_self])⟩,⟨_,rfl,b8.of 40 (by rfl) (by simp only [go_sem,Nat.reduceLT,Nat.reduceLeDiff,Nat.reduceEqDiff,K7,K8,and_self])⟩,⟨_,rfl,b8.v _⟩,⟨_,rfl,b8.of 40 (by rfl) (by simp only [go_sem,Nat.reduceLT,Nat.reduceLeDiff,Nat.reduceEqDiff,K7,K8,and_self,ix,iJ,iw,fN,fD,fT])⟩,⟨_,rfl,b8.of 40 (by rfl) (by simp only [go_sem,Nat.reduceLT,Nat.reduceLeDiff,Nat.reduceEqDiff,K7,K8,and_self,ix,iJ,iw,fN,fD,fT])⟩,⟨_,rfl,b8.of 40 (by rfl) (by simp only [go_sem,Nat.reduceLT,Nat.reduceLeDiff,Nat.reduceEqDiff,K7,K8,and_self,ix,iJ,iw,fN,fD,fT])⟩,trivial⟩) (by kernel_rfl) ?_
          simp only [j0,I5,IZ,Nat.reduceAdd,Kn,Ko]
          simp only [aD,Ks,Kt,Kn,Ko,go_sem]
          refine wD ?_
          repeat (first|(with_reducible first|refine ah.up ?_|refine fun (K:AK) hK=> ?_|refine wK ?_|refine wF ?_|refine af (by decide) ?_|refine ae (by decide) ?_|(refine hK _ ?_;clear hK K))|simp only [go_sem]|with_reducible refine wA ?_|clear hK K)
          refine aw.one (CV _) ?_
          repeat (first|(with_reducible first|refine ah.up ?_|refine fun (K:AK) hK=> ?_|refine wK ?_|refine wF ?_|refine af (by decide) ?_|refine ae (by decide) ?_|(refine hK _ ?_;clear hK K))|simp only [go_sem]|with_reducible refine wA ?_|clear hK K)
          refine aw.one (r:= .v (.bool true)) (jj (ee (qh w (by omega)) (iq w (by omega)) (lB w (by omega))) (ee nW (iq w (by omega)) (lB w (by omega))) ⟨⟨_,_,_,⟨_,_,_⟩⟩,⟨bY (by rfl),bY (by rfl),bY (by rfl)⟩,rfl⟩) ?_
          repeat (first|(with_reducible first|refine ah.up ?_|refine fun (K:AK) hK=> ?_|refine wK ?_|refine wF ?_|refine af (by decide) ?_|refine ae (by decide) ?_|(refine hK _ ?_;clear hK K))|simp only [go_sem]|with_reducible refine wA ?_|clear hK K)
          refine aw.one (CV _) ?_
          repeat (first|(with_reducible first|refine ah.up ?_|refine fun (K:AK) hK=> ?_|refine wK ?_|refine wF ?_|refine af (by decide) ?_|refine ae (by decide) ?_|(refine hK _ ?_;clear hK K))|simp only [go_sem]|with_reducible refine wA ?_|clear hK K)
          refine aw.one (r:= .v (.bool true)) (jj (ee nW (iq w (by omega)) (lB w (by omega))) (ee nW (iq w (by omega)) xn) ⟨⟨_,_,_,⟨_,_,_⟩⟩,⟨bY (by rfl),bY (by rfl),bY (by rfl)⟩,rfl⟩) ?_
          repeat (first|(with_reducible first|refine ah.up ?_|refine fun (K:AK) hK=> ?_|refine wK ?_|refine wF ?_|refine af (by decide) ?_|refine ae (by decide) ?_|(refine hK _ ?_;clear hK K))|simp only [go_sem]|with_reducible refine wA ?_|clear hK K)
          refine aw.one (CV _) ?_
          repeat (first|(with_reducible first|refine ah.up ?_|refine fun (K:AK) hK=> ?_|refine wK ?_|refine wF ?_|refine af (by decide) ?_|refine ae (by decide) ?_|(refine hK _ ?_;clear hK K))|simp only [go_sem]|with_reducible refine wA ?_|clear hK K)
          refine aw.one (r:= .v (.bool true)) (jj (ee nW (iq w (by omega)) xn) (ee (qh w (by omega)) (iq w (by omega)) (lB w (by omega))) ⟨⟨_,_,_,⟨_,_,_⟩⟩,⟨bY (by rfl),bY (by rfl),bY (by rfl)⟩,rfl⟩) ?_
          repeat (first|(with_reducible first|refine ah.up ?_|refine fun (K:AK) hK=> ?_|refine wK ?_|refine wF ?_|refine af (by decide) ?_|refine ae (by decide) ?_|(refine hK _ ?_;clear hK K))|simp only [go_sem,eW]|with_reducible refine wA ?_|clear hK K)
          refine aC.mk (i+1) (by omega) (by omega) ?_
          simp only [Lg,Lh,Li,Lj,Kq,Kr,Nat.reduceAdd]
          (refine au ?_ ?_ ?_<;>simp only [aD,Ks,Kt,Kn,Ko,bu,bt,AV.v.injEq,Value.int.injEq,Value.bool.injEq,Value.string.injEq,AV.vec.injEq,AV.ptr.injEq,true_or,or_true,false_or,or_false,ab.mk.injEq,forall_eq_apply_imp_iff,forall_eq,forall_eq',go_sem])
      all_goals
       as_aux_lemma=>
       intro K hK
       simp only [e,mr,qL,BK,Kq,Kr,Nat.reduceAdd,Nat.reduceMul,Nat.reduceSub]
       repeat (first|(with_reducible first|refine ah.up ?_|refine fun (K:AK) hK=> ?_|refine wE ?_|refine wD ?_|refine wK ?_|refine wF ?_|refine af (by decide) ?_|refine ae (by decide) ?_|(refine hK _ ?_;clear hK K))|simp only [go_sem,H7,decide_true]|with_reducible refine wA ?_|clear hK K)
       refine aj.fr [] CQ (by simp) ?_ ?_ ?_ ?_ ?_
       ·rfl
       ·repeat (first|(with_reducible first|refine ah.up ?_|refine fun (K:AK) hK=> ?_|refine wE ?_|refine wD ?_|refine wK ?_|refine wF ?_|refine af (by decide) ?_|refine ae (by decide) ?_|(refine hK _ ?_;clear hK K))|simp only [go_sem]|with_reducible refine wA ?_|clear hK K)
       ·repeat (first|(with_reducible first|refine ah.up ?_|refine fun (K:AK) hK=> ?_|refine wE ?_|refine wD ?_|refine wK ?_|refine wF ?_|refine af (by decide) ?_|refine ae (by decide) ?_|(refine hK _ ?_;clear hK K))|simp only [go_sem]|with_reducible refine wA ?_|clear hK K)
       ·intro k ob hk;simp at hk
       repeat (first|(with_reducible first|refine ah.up ?_|refine fun (K:AK) hK=> ?_|refine wE ?_|refine wD ?_|refine wK ?_|refine wF ?_|refine af (by decide) ?_|refine ae (by decide) ?_|(refine hK _ ?_;clear hK K))|simp only [go_sem,eWk]|with_reducible refine wA ?_|clear hK K)
       refine aC.mk (k+1) (by omega) (by omega) ?_
       simp only [e,mr,qL,BK,Kq,Kr,Nat.reduceAdd,Nat.reduceMul,Nat.reduceSub]
       (refine au ?_ ?_ ?_<;>simp only [aD,Ks,Kt,Kn,Ko,bu,bt,AV.v.injEq,Value.int.injEq,Value.bool.injEq,Value.string.injEq,AV.vec.injEq,AV.ptr.injEq,true_or,or_true,false_or,or_false,ab.mk.injEq,forall_eq_apply_imp_iff,forall_eq,forall_eq',go_sem])
    ·repeat (first|(with_reducible first|refine ah.up ?_|refine fun (K:AK) hK=> ?_|refine wE ?_|refine wD ?_|refine wK ?_|refine wF ?_|refine af (by decide) ?_|refine ae (by decide) ?_|(refine hK _ ?_;clear hK K))|simp only [go_sem,h2]|with_reducible refine wA ?_|clear hK K)
     refine aj.AH (r:= .v (.bool true)) ?_ 40 rfl (by simp only [go_sem,Nat.reduceLT,Nat.reduceLeDiff,Nat.reduceEqDiff,K7,K8,and_self]) rfl ?_
     ·exact j7 (fA (by simp only [vT];repeat' (first|exact trivial|refine And.intro ?_ ?_|exact bY (by rfl)))) (Cd _) Cr
     repeat (first|(with_reducible first|refine ah.up ?_|refine fun (K:AK) hK=> ?_|refine wE ?_|refine wD ?_|refine wK ?_|refine wF ?_|refine af (by decide) ?_|refine ae (by decide) ?_|(refine hK _ ?_;clear hK K))|simp only [go_sem]|with_reducible refine wA ?_|clear hK K)
     refine aj.AH (r:= .v (.bool true)) ?_ 40 rfl (by simp only [go_sem,Nat.reduceLT,Nat.reduceLeDiff,Nat.reduceEqDiff,K7,K8,and_self]) rfl ?_
     ·exact j7 (fA (by simp only [vT];repeat' (first|exact trivial|refine And.intro ?_ ?_|exact bY (by rfl)))) (kp _ _) (kp _ _)
     repeat (first|(with_reducible first|refine ah.up ?_|refine fun (K:AK) hK=> ?_|refine wE ?_|refine wD ?_|refine wK ?_|refine wF ?_|refine af (by decide) ?_|refine ae (by decide) ?_|(refine hK _ ?_;clear hK K))|simp only [go_sem]|with_reducible refine wA ?_|clear hK K)
     refine aj.AH (r:= .v (.bool true)) ?_ 40 rfl (by simp only [go_sem,Nat.reduceLT,Nat.reduceLeDiff,Nat.reduceEqDiff,K7,K8,and_self]) rfl ?_
     ·exact jj (ee xE BB xi) (ee xE Bc xi) ⟨⟨_,_,_,⟨_,_,_⟩⟩,⟨bY (by rfl),bY (by rfl),bY (by rfl)⟩,rfl⟩
     repeat (first|(with_reducible first|refine ah.up ?_|refine fun (K:AK) hK=> ?_|refine wE ?_|refine wD ?_|refine wK ?_|refine wF ?_|refine af (by decide) ?_|refine ae (by decide) ?_|(refine hK _ ?_;clear hK K))|simp only [go_sem]|with_reducible refine wA ?_|clear hK K)
     refine aj.one W ?_
     repeat (first|(with_reducible first|refine ah.up ?_|refine fun (K:AK) hK=> ?_|refine wE ?_|refine wD ?_|refine wK ?_|refine wF ?_|refine af (by decide) ?_|refine ae (by decide) ?_|(refine hK _ ?_;clear hK K))|simp only [go_sem]|with_reducible refine wA ?_|clear hK K)
end Go.Proofs.YtldnlbcibmmbbaaGreat
