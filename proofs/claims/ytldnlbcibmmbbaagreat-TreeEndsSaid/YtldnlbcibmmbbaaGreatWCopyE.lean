/- The statements' kit: CopyQuery of a query of two patterns (the second one with one kid), one condition, two entries: its lists are the caller's own. -/
import Derived.Test.YtldnlbcibmmbbaaGreatWRenW
import Derived.Test.YtldnlbcibmmbbaaGreatWFrz2
set_option linter.unusedSimpArgs false
set_option linter.unusedVariables false
open Bool renaming and_self → Km, and_true → Kh, true_and → Kj
open List renaming length_cons → I5, length_nil → IZ, replicate_succ → Kn, replicate_zero → Ko, cons_append → Kq, nil_append → Kr, foldl_cons → Ks, foldl_nil → Kt, take_zero → KN
open Nat renaming zero_le → I6
namespace Go.Proofs.YtldnlbcibmmbbaaGreat
open Go.RowKit
def Gz:AV:= .v (.slice none 0 0)
attribute [go_sem] Gz
set_option maxRecDepth 100000 in
theorem yo:ai Tryz.prog 107 [.v (.slice none 0 0)] (.v (.slice none 0 0)):=by
 (refine ai.enter Tryz.func107 rfl (by kernel_rfl) (by kernel_rfl) rfl (by first|rfl|(simp only [go_sem,Km,Kh,Kj])) (by first|rfl|(simp only [go_sem,Km,Kh,Kj])) ?_;simp only [Tryz.ntmps107,Tryz.results107,I5,IZ,Nat.reduceAdd,Nat.reduceSub,Kn,Ko,Kq,Kr])
 repeat (first|(with_reducible first|refine ah.up ?_|refine fun (K:AK) hK=> ?_|(refine hK _ ?_;clear hK K))|simp only [go_sem]|with_reducible refine wA ?_|clear hK K)
 refine bE (ι:=Nat) 5 (fun i=>[(3, .v (.slice none 0 0)),(4, .v (.int .i64 0))]) (fun i=>0) (fun i=>True) 0 trivial ?_ ?_
 ·(refine au ?_ ?_ ?_<;>simp only [aD,Ks,Kt,Kn,Ko,bu,bt,AV.v.injEq,Value.int.injEq,Value.bool.injEq,Value.string.injEq,AV.vec.injEq,AV.ptr.injEq,true_or,or_true,false_or,or_false,ab.mk.injEq,forall_eq_apply_imp_iff,forall_eq,forall_eq',go_sem])
  all_goals rfl
 ·rintro i hi K hK
  repeat (first|(with_reducible first|refine ah.up ?_|refine fun (K:AK) hK=> ?_|(refine hK _ ?_;clear hK K))|simp only [go_sem]|with_reducible refine wA ?_|clear hK K)
set_option maxRecDepth 100000 in
theorem pb (k:Int) (s:ByteArray):ai Tryz.prog 78 [.agg [.v (.int .i64 k), .v (.string s), .v (.slice none 0 0)]] (.agg [.v (.int .i64 k), .v (.string s), .v (.slice none 0 0)]):=by
 have C:=yo
 (refine ai.enter Tryz.func78 rfl (by kernel_rfl) (by kernel_rfl) rfl (by first|rfl|(simp only [go_sem,Km,Kh,Kj])) (by first|rfl|(simp only [go_sem,Km,Kh,Kj])) ?_;simp only [Tryz.ntmps78,Tryz.results78,I5,IZ,Nat.reduceAdd,Nat.reduceSub,Kn,Ko,Kq,Kr])
 repeat' (first|(with_reducible first|refine ah.up ?_|refine fun (K:AK) hK=> ?_|(refine hK _ ?_;clear hK K))|simp only [go_sem]|clear hK K|(with_reducible refine aj.one (by assumption) ?_)|(with_reducible refine aw.one (by assumption) ?_)|(refine aO.part (fun hb=> ?_) (fun hb=> ?_)<;>simp only [hb,go_sem])|(refine aO.part (fun hb=> ?_) (fun hb=> ?_))|(with_reducible refine bH.mk ?_ ?_))
 (refine ju.of 40 rfl ?_;simp only [go_sem])
set_option maxRecDepth 100000 in
theorem yg (k:Int) (s:ByteArray):dz Tryz.prog 107 [.an 3 [[.v (.int .i64 k), .v (.string s), .v (.slice none 0 0)]] 1] [] (.vec 0 1) [some ⟨43,3,true,[[.v (.int .i64 k), .v (.string s), .v (.slice none 0 0)]]⟩]:=by
 have C:=pb k s
 (refine dz.enter Tryz.func107 rfl (by kernel_rfl) (by kernel_rfl) rfl ?_;simp only [Tryz.ntmps107,Tryz.results107,I5,IZ,Nat.reduceAdd,Nat.reduceSub,Kn,Ko,Kq,Kr])
 repeat (first|(with_reducible first|refine ah.up ?_|refine fun (K:AK) hK=> ?_|(refine hK _ ?_;clear hK K))|simp only [go_sem]|with_reducible refine wA ?_|clear hK K)
 refine il (ι:=Nat) 3 43 3 rfl (by omega) 5 (fun i=>[(3, .vec 0 i),(4, .v (.int .i64 i))]) (fun i=>[some ⟨43,3,true,[[.v (.int .i64 k), .v (.string s), .v (.slice none 0 0)]].take i⟩]) (fun i=>1 - i) (fun i=>i≤1) 0 (by omega) ?_ ?_
 ·(refine au ?_ ?_ ?_<;>simp only [aD,Ks,Kt,Kn,Ko,bu,bt,AV.v.injEq,Value.int.injEq,Value.bool.injEq,Value.string.injEq,AV.vec.injEq,AV.ptr.injEq,true_or,or_true,false_or,or_false,ab.mk.injEq,forall_eq_apply_imp_iff,forall_eq,forall_eq',go_sem])
  all_goals rfl
 ·rintro i hi K hK
  rcases (by omega:i=0∨i=1) with rfl|rfl
  ·simp only [KN]
   have d0:decide (((0:Nat):Int)<((1:Nat):Int))=true:=rfl
   have eW:=ar (k:=0) (by omega)
   repeat (first|(with_reducible first|refine ah.up ?_|refine fun (K:AK) hK=> ?_|(refine hK _ ?_;clear hK K))|simp only [go_sem,d0]|with_reducible refine wA ?_|clear hK K)
   refine aj.one C ?_
   repeat (first|(with_reducible first|refine ah.up ?_|refine fun (K:AK) hK=> ?_|(refine hK _ ?_;clear hK K))|simp only [go_sem,eW]|with_reducible refine wA ?_|clear hK K)
   exact aC.mk 1 (by omega) (by omega) (by (refine au ?_ ?_ ?_<;>simp only [aD,Ks,Kt,Kn,Ko,bu,bt,AV.v.injEq,Value.int.injEq,Value.bool.injEq,Value.string.injEq,AV.vec.injEq,AV.ptr.injEq,true_or,or_true,false_or,or_false,ab.mk.injEq,forall_eq_apply_imp_iff,forall_eq,forall_eq',go_sem]))
  ·simp only [List.take_succ_cons,KN]
   have d1:decide (((1:Nat):Int)<((1:Nat):Int))=false:=rfl
   repeat (first|(with_reducible first|refine ah.up ?_|refine fun (K:AK) hK=> ?_|(refine hK _ ?_;clear hK K))|simp only [go_sem,d1]|with_reducible refine wA ?_|clear hK K)
   (refine ⟨?_, ?_, ?_⟩<;>simp only [bu,bt,AV.v.injEq,Value.int.injEq,Value.bool.injEq,Value.string.injEq,AV.vec.injEq,AV.ptr.injEq,true_or,or_true,false_or,or_false,ab.mk.injEq,forall_eq_apply_imp_iff,forall_eq,forall_eq',go_sem])
set_option maxRecDepth 100000 in
theorem vG (k:Int) (s:ByteArray) (k2:Int) (s2:ByteArray):dz Tryz.prog 78 [.agg [.v (.int .i64 k), .v (.string s), .an 3 [[.v (.int .i64 k2), .v (.string s2), .v (.slice none 0 0)]] 1]] [] (.agg [.v (.int .i64 k), .v (.string s), .vec 2 1]) [none,none,some ⟨43,3,true,[[.v (.int .i64 k2), .v (.string s2), .v (.slice none 0 0)]]⟩]:=by
 have C:=yg k2 s2
 (refine dz.enter Tryz.func78 rfl (by kernel_rfl) (by kernel_rfl) rfl ?_;simp only [Tryz.ntmps78,Tryz.results78,I5,IZ,Nat.reduceAdd,Nat.reduceSub,Kn,Ko,Kq,Kr])
 repeat (first|(with_reducible first|refine ah.up ?_|refine fun (K:AK) hK=> ?_|(refine hK _ ?_;clear hK K))|simp only [go_sem]|with_reducible refine wA ?_|clear hK K)
 refine aj.fr [] C (by simp) ?_ ?_ ?_ ?_ ?_
 ·rfl
 ·repeat (first|(with_reducible first|refine ah.up ?_|refine fun (K:AK) hK=> ?_|(refine hK _ ?_;clear hK K))|simp only [go_sem]|with_reducible refine wA ?_|clear hK K)
 ·repeat (first|(with_reducible first|refine ah.up ?_|refine fun (K:AK) hK=> ?_|(refine hK _ ?_;clear hK K))|simp only [go_sem]|with_reducible refine wA ?_|clear hK K)
 ·intro k ob hk;simp at hk
 repeat (first|(with_reducible first|refine ah.up ?_|refine fun (K:AK) hK=> ?_|(refine hK _ ?_;clear hK K))|simp only [go_sem]|with_reducible refine wA ?_|clear hK K)
 (refine ⟨?_, ?_, ?_⟩<;>simp only [bu,bt,AV.v.injEq,Value.int.injEq,Value.bool.injEq,Value.string.injEq,AV.vec.injEq,AV.ptr.injEq,true_or,or_true,false_or,or_false,ab.mk.injEq,forall_eq_apply_imp_iff,forall_eq,forall_eq',go_sem])
def gm (a b:ByteArray) (c:Bool) (d e:ByteArray) (k:Int) (s:ByteArray) (x:AV):List AV:=[.v (.string a), .v (.string b), .v (.bool c), .v (.string d), .v (.string e), .v (.int .i64 k), .v (.string s),x]
def kJ (k:Int) (s:ByteArray):List AV:=[.v (.int .i64 k), .v (.string s), .v (.slice none 0 0)]
attribute [go_sem] gm kJ
set_option maxRecDepth 100000 in
theorem wI (a b:ByteArray) (c:Bool) (d e:ByteArray) (k:Int) (s:ByteArray):ai Tryz.prog 35 [.agg (gm a b c d e k s (.v (.slice none 0 0)))] (.agg (gm a b c d e k s (.v (.slice none 0 0)))):=by
 have C:=pb k s
 simp only [gm]
 (refine ai.enter Tryz.func35 rfl (by kernel_rfl) (by kernel_rfl) rfl (by first|rfl|(simp only [go_sem,Km,Kh,Kj])) (by first|rfl|(simp only [go_sem,Km,Kh,Kj])) ?_;simp only [Tryz.ntmps35,Tryz.results35,I5,IZ,Nat.reduceAdd,Nat.reduceSub,Kn,Ko,Kq,Kr])
 repeat' (first|(with_reducible first|refine ah.up ?_|refine fun (K:AK) hK=> ?_|(refine hK _ ?_;clear hK K))|simp only [go_sem]|clear hK K|(with_reducible refine aj.one (by assumption) ?_)|(with_reducible refine aw.one (by assumption) ?_)|(refine aO.part (fun hb=> ?_) (fun hb=> ?_)<;>simp only [hb,go_sem])|(refine aO.part (fun hb=> ?_) (fun hb=> ?_))|(with_reducible refine bH.mk ?_ ?_))
 (refine ju.of 40 rfl ?_;simp only [go_sem])
set_option maxRecDepth 100000 in
theorem wT (a b:ByteArray) (c:Bool) (d e:ByteArray) (k:Int) (s:ByteArray) (k2:Int) (s2:ByteArray):dz Tryz.prog 35 [.agg (gm a b c d e k s (.an 3 [kJ k2 s2] 1))] [] (.agg (gm a b c d e k s (.vec 4 1))) [none,none,none,none,some ⟨43,3,true,[kJ k2 s2]⟩]:=by
 have C:=vG k s k2 s2
 simp only [gm,kJ]
 (refine dz.enter Tryz.func35 rfl (by kernel_rfl) (by kernel_rfl) rfl ?_;simp only [Tryz.ntmps35,Tryz.results35,I5,IZ,Nat.reduceAdd,Nat.reduceSub,Kn,Ko,Kq,Kr])
 repeat (first|(with_reducible first|refine ah.up ?_|refine fun (K:AK) hK=> ?_|(refine hK _ ?_;clear hK K))|simp only [go_sem]|with_reducible refine wA ?_|clear hK K)
 refine aj.fr [] C (by simp) ?_ ?_ ?_ ?_ ?_
 ·rfl
 ·repeat (first|(with_reducible first|refine ah.up ?_|refine fun (K:AK) hK=> ?_|(refine hK _ ?_;clear hK K))|simp only [go_sem]|with_reducible refine wA ?_|clear hK K)
 ·repeat (first|(with_reducible first|refine ah.up ?_|refine fun (K:AK) hK=> ?_|(refine hK _ ?_;clear hK K))|simp only [go_sem]|with_reducible refine wA ?_|clear hK K)
 ·intro k ob hk;simp at hk
 repeat (first|(with_reducible first|refine ah.up ?_|refine fun (K:AK) hK=> ?_|(refine hK _ ?_;clear hK K))|simp only [go_sem]|with_reducible refine wA ?_|clear hK K)
 (refine ⟨?_, ?_, ?_⟩<;>simp only [bu,bt,AV.v.injEq,Value.int.injEq,Value.bool.injEq,Value.string.injEq,AV.vec.injEq,AV.ptr.injEq,true_or,or_true,false_or,or_false,ab.mk.injEq,forall_eq_apply_imp_iff,forall_eq,forall_eq',go_sem])
set_option maxRecDepth 100000 in
theorem wU (a b:ByteArray) (c:Bool) (d e:ByteArray) (k:Int) (s:ByteArray) (a1 b1:ByteArray) (c1:Bool) (d1 e1:ByteArray) (k1:Int) (s1:ByteArray) (k2:Int) (s2:ByteArray) :
  dz Tryz.prog 11 [.an 8 [gm a b c d e k s (.v (.slice none 0 0)),gm a1 b1 c1 d1 e1 k1 s1 (.an 3 [kJ k2 s2] 1)] 2] [] (.vec 0 2) [some ⟨45,8,true,[gm a b c d e k s (.v (.slice none 0 0)),gm a1 b1 c1 d1 e1 k1 s1 (.vec 5 1)]⟩,none,none,none,none,some ⟨43,3,true,[kJ k2 s2]⟩]:=by
 have C0:=wI a b c d e k s
 have C1:=wT a1 b1 c1 d1 e1 k1 s1 k2 s2
 simp only [gm,kJ] at C0 C1 ⊢
 (refine dz.enter Tryz.func11 rfl (by kernel_rfl) (by kernel_rfl) rfl ?_;simp only [Tryz.ntmps11,Tryz.results11,I5,IZ,Nat.reduceAdd,Nat.reduceSub,Kn,Ko,Kq,Kr])
 repeat (first|(with_reducible first|refine ah.up ?_|refine fun (K:AK) hK=> ?_|(refine hK _ ?_;clear hK K))|simp only [go_sem]|with_reducible refine wA ?_|clear hK K)
 refine il (ι:=Nat) 3 45 8 rfl (by omega) 5 (fun i=>[(3, .vec 0 i),(4, .v (.int .i64 i))]) (fun i=>if i=2 then [some ⟨45,8,true,[gm a b c d e k s (.v (.slice none 0 0)),gm a1 b1 c1 d1 e1 k1 s1 (.vec 5 1)]⟩,none,none,none,none,some ⟨43,3,true,[kJ k2 s2]⟩] else [some ⟨45,8,true,[gm a b c d e k s (.v (.slice none 0 0))].take i⟩]) (fun i=>2 - i) (fun i=>i≤2) 0 (by omega) ?_ ?_
 ·(refine au ?_ ?_ ?_<;>simp only [aD,Ks,Kt,Kn,Ko,bu,bt,AV.v.injEq,Value.int.injEq,Value.bool.injEq,Value.string.injEq,AV.vec.injEq,AV.ptr.injEq,true_or,or_true,false_or,or_false,ab.mk.injEq,forall_eq_apply_imp_iff,forall_eq,forall_eq',go_sem])
  all_goals rfl
 ·rintro i hi K hK
  rcases (by omega:i=0∨i=1∨i=2) with rfl|rfl|rfl
  ·simp only [KN,gm,kJ,Nat.reduceEqDiff,if_false]
   have d0:decide (((0:Nat):Int)<((2:Nat):Int))=true:=rfl
   have eW:=ar (k:=0) (by omega)
   repeat (first|(with_reducible first|refine ah.up ?_|refine fun (K:AK) hK=> ?_|(refine hK _ ?_;clear hK K))|simp only [go_sem,d0]|with_reducible refine wA ?_|clear hK K)
   refine aj.one C0 ?_
   repeat (first|(with_reducible first|refine ah.up ?_|refine fun (K:AK) hK=> ?_|(refine hK _ ?_;clear hK K))|simp only [go_sem,eW]|with_reducible refine wA ?_|clear hK K)
   exact aC.mk 1 (by omega) (by omega) (by (refine au ?_ ?_ ?_<;>simp only [aD,Ks,Kt,Kn,Ko,bu,bt,AV.v.injEq,Value.int.injEq,Value.bool.injEq,Value.string.injEq,AV.vec.injEq,AV.ptr.injEq,true_or,or_true,false_or,or_false,ab.mk.injEq,forall_eq_apply_imp_iff,forall_eq,forall_eq',go_sem]))
  ·simp only [List.take_succ_cons,KN,gm,kJ,Nat.reduceEqDiff,if_false]
   have d0:decide (((1:Nat):Int)<((2:Nat):Int))=true:=rfl
   have eW:=ar (k:=1) (by omega)
   repeat (first|(with_reducible first|refine ah.up ?_|refine fun (K:AK) hK=> ?_|(refine hK _ ?_;clear hK K))|simp only [go_sem,d0]|with_reducible refine wA ?_|clear hK K)
   refine aj.fr [] C1 (by simp) ?_ ?_ ?_ ?_ ?_
   ·rfl
   ·repeat (first|(with_reducible first|refine ah.up ?_|refine fun (K:AK) hK=> ?_|(refine hK _ ?_;clear hK K))|simp only [go_sem]|with_reducible refine wA ?_|clear hK K)
   ·repeat (first|(with_reducible first|refine ah.up ?_|refine fun (K:AK) hK=> ?_|(refine hK _ ?_;clear hK K))|simp only [go_sem]|with_reducible refine wA ?_|clear hK K)
   ·intro k ob hk;simp at hk
   repeat (first|(with_reducible first|refine ah.up ?_|refine fun (K:AK) hK=> ?_|(refine hK _ ?_;clear hK K))|simp only [go_sem,eW]|with_reducible refine wA ?_|clear hK K)
   exact aC.mk 2 (by omega) (by omega) (by (refine au ?_ ?_ ?_<;>simp only [aD,Ks,Kt,Kn,Ko,bu,bt,AV.v.injEq,Value.int.injEq,Value.bool.injEq,Value.string.injEq,AV.vec.injEq,AV.ptr.injEq,true_or,or_true,false_or,or_false,ab.mk.injEq,forall_eq_apply_imp_iff,forall_eq,forall_eq',go_sem]))
  ·simp only [if_true,gm,kJ]
   have d0:decide (((2:Nat):Int)<((2:Nat):Int))=false:=rfl
   repeat (first|(with_reducible first|refine ah.up ?_|refine fun (K:AK) hK=> ?_|(refine hK _ ?_;clear hK K))|simp only [go_sem,d0]|with_reducible refine wA ?_|clear hK K)
   (refine ⟨?_, ?_, ?_⟩<;>simp only [bu,bt,AV.v.injEq,Value.int.injEq,Value.bool.injEq,Value.string.injEq,AV.vec.injEq,AV.ptr.injEq,true_or,or_true,false_or,or_false,ab.mk.injEq,forall_eq_apply_imp_iff,forall_eq,forall_eq',go_sem])
set_option maxRecDepth 100000 in
theorem tN (r:List AV) (hr:bB 0 r=true) (hl:r.length=13):dz Tryz.prog 12 [.an 13 [r] 1] [] (.vec 0 1) [some ⟨37,13,true,[r]⟩]:=by
 have hw: ∀n,bB n r=true:=fun n=>dT (I6 n) r hr
 (refine dz.enter Tryz.func12 rfl (by kernel_rfl) (by kernel_rfl) rfl ?_;simp only [Tryz.ntmps12,Tryz.results12,I5,IZ,Nat.reduceAdd,Nat.reduceSub,Kn,Ko,Kq,Kr])
 repeat (first|(with_reducible first|refine ah.up ?_|refine fun (K:AK) hK=> ?_|(refine hK _ ?_;clear hK K))|simp only [go_sem]|with_reducible refine wA ?_|clear hK K)
 (refine ⟨?_, ?_, ?_⟩<;>simp only [bu,bt,AV.v.injEq,Value.int.injEq,Value.bool.injEq,Value.string.injEq,AV.vec.injEq,AV.ptr.injEq,true_or,or_true,false_or,or_false,ab.mk.injEq,forall_eq_apply_imp_iff,forall_eq,forall_eq',go_sem])
 all_goals simp [ct,hw]
set_option maxRecDepth 100000 in
theorem y7 (r r2:List AV) (hr:bB 0 r=true) (hr2:bB 0 r2=true):dz Tryz.prog 13 [.an 6 [r,r2] 2] [] (.vec 0 2) [some ⟨34,6,true,[r,r2]⟩]:=by
 have hw: ∀n,bB n r=true:=fun n=>dT (I6 n) r hr
 have hw2: ∀n,bB n r2=true:=fun n=>dT (I6 n) r2 hr2
 (refine dz.enter Tryz.func13 rfl (by kernel_rfl) (by kernel_rfl) rfl ?_;simp only [Tryz.ntmps13,Tryz.results13,I5,IZ,Nat.reduceAdd,Nat.reduceSub,Kn,Ko,Kq,Kr])
 repeat (first|(with_reducible first|refine ah.up ?_|refine fun (K:AK) hK=> ?_|(refine hK _ ?_;clear hK K))|simp only [go_sem]|with_reducible refine wA ?_|clear hK K)
 (refine ⟨?_, ?_, ?_⟩<;>simp only [bu,bt,AV.v.injEq,Value.int.injEq,Value.bool.injEq,Value.string.injEq,AV.vec.injEq,AV.ptr.injEq,true_or,or_true,false_or,or_false,ab.mk.injEq,forall_eq_apply_imp_iff,forall_eq,forall_eq',go_sem])
 all_goals simp [ct,hw,hw2]
set_option maxRecDepth 100000 in
set_option maxHeartbeats 2000000 in
theorem By (a b:ByteArray) (c:Bool) (d e:ByteArray) (k:Int) (s:ByteArray) (a1 b1:ByteArray) (c1:Bool) (d1 e1:ByteArray) (k1:Int) (s1:ByteArray) (k2:Int) (s2:ByteArray) (cn o1 o2:List AV) (ra sl:Int) (h1:bB 0 cn=true) (h1l:cn.length=13) (h2:bB 0 o1=true) (h3:bB 0 o2=true) (hv1: ∀f,cH f cn=cn) (hv2: ∀f,cH f o1=o1) (hv3: ∀f,cH f o2=o2) :
  dz Tryz.prog 6 [.agg [.an 8 [gm a b c d e k s (.v (.slice none 0 0)),gm a1 b1 c1 d1 e1 k1 s1 (.an 3 [kJ k2 s2] 1)] 2, .an 13 [cn] 1, .an 6 [o1,o2] 2, .v (.int .i64 ra), .v (.int .i64 sl)]] []
   (.agg [.vec 2 2, .vec 8 1, .vec 9 2, .v (.int .i64 ra), .v (.int .i64 sl)]) [none,none,some ⟨45,8,true,[gm a b c d e k s (.v (.slice none 0 0)),gm a1 b1 c1 d1 e1 k1 s1 (.vec 7 1)]⟩,none,none,none,none,some ⟨43,3,true,[kJ k2 s2]⟩,some ⟨37,13,true,[cn]⟩,some ⟨34,6,true,[o1,o2]⟩]:=by
 have C1:=wU a b c d e k s a1 b1 c1 d1 e1 k1 s1 k2 s2
 have C2:=tN cn h1 h1l
 have C3:=y7 o1 o2 h2 h3
 have w1: ∀n,bB n cn=true:=fun n=>dT (I6 n) cn h1
 have w2: ∀n,bB n o1=true:=fun n=>dT (I6 n) o1 h2
 have w3: ∀n,bB n o2=true:=fun n=>dT (I6 n) o2 h3
 simp only [gm,kJ] at C1 ⊢
 (refine dz.enter Tryz.func6 rfl (by kernel_rfl) (by kernel_rfl) rfl ?_;simp only [Tryz.ntmps6,Tryz.results6,I5,IZ,Nat.reduceAdd,Nat.reduceSub,Kn,Ko,Kq,Kr])
 repeat (first|(with_reducible first|refine ah.up ?_|refine fun (K:AK) hK=> ?_|(refine hK _ ?_;clear hK K))|simp only [go_sem]|with_reducible refine wA ?_|clear hK K)
 refine aj.fr [] C1 (by simp) ?_ ?_ ?_ ?_ ?_
 ·rfl
 ·repeat (first|(with_reducible first|refine ah.up ?_|refine fun (K:AK) hK=> ?_|(refine hK _ ?_;clear hK K))|simp only [go_sem]|with_reducible refine wA ?_|clear hK K)
 ·repeat (first|(with_reducible first|refine ah.up ?_|refine fun (K:AK) hK=> ?_|(refine hK _ ?_;clear hK K))|simp only [go_sem]|with_reducible refine wA ?_|clear hK K)
 ·intro k ob hk;simp at hk
 repeat (first|(with_reducible first|refine ah.up ?_|refine fun (K:AK) hK=> ?_|(refine hK _ ?_;clear hK K))|simp only [go_sem]|with_reducible refine wA ?_|clear hK K)
 refine aj.fr [] C2 (by simp) ?_ ?_ ?_ ?_ ?_
 ·rfl
 ·simp only [cH,cX,AV.bF,hv1]
 ·simp only [bB,ct,AV.wf,w1,Km]
 ·intro k ob hk;simp at hk
 repeat (first|(with_reducible first|refine ah.up ?_|refine fun (K:AK) hK=> ?_|(refine hK _ ?_;clear hK K))|simp only [go_sem,hv1]|with_reducible refine wA ?_|clear hK K)
 refine aj.fr [] C3 (by simp) ?_ ?_ ?_ ?_ ?_
 ·rfl
 ·simp only [cH,cX,AV.bF,hv2,hv3]
 ·simp only [bB,ct,AV.wf,w2,w3,Km]
 ·intro k ob hk;simp at hk
 repeat (first|(with_reducible first|refine ah.up ?_|refine fun (K:AK) hK=> ?_|(refine hK _ ?_;clear hK K))|simp only [go_sem,hv2,hv3]|with_reducible refine wA ?_|clear hK K)
 (refine ⟨?_, ?_, ?_⟩<;>simp only [bu,bt,AV.v.injEq,Value.int.injEq,Value.bool.injEq,Value.string.injEq,AV.vec.injEq,AV.ptr.injEq,true_or,or_true,false_or,or_false,ab.mk.injEq,forall_eq_apply_imp_iff,forall_eq,forall_eq',go_sem])
 all_goals simp [ct,w1,w2,w3]
end Go.Proofs.YtldnlbcibmmbbaaGreat
