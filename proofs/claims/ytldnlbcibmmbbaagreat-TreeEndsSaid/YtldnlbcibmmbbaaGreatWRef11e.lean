/- kinescoperef11.Rename: the walk. -/
import Derived.Test.YtldnlbcibmmbbaaGreatWFlat
import Derived.Test.YtldnlbcibmmbbaaGreatWRenW
set_option linter.unusedSimpArgs false
set_option linter.unusedVariables false
open Bool renaming and_self → Km, and_true → Kh, true_and → Kj, not_eq_eq_eq_not → Ku
open Int renaming ofNat_lt → Kw
open List renaming take_succ_eq_append_getElem → KR, length_cons → I5, length_nil → IZ, replicate_succ → Kn, replicate_zero → Ko, cons_append → Kq, nil_append → Kr, foldl_cons → Ks, foldl_nil → Kt, set_cons_zero → KM, set_cons_succ → KL, length_map → JQ
open Nat renaming zero_lt_succ → La
namespace Go.Proofs.YtldnlbcibmmbbaaGreat
open Go.RowKit
theorem js {α:Type} {l:List α} {s:α} {i:Nat} (h:i<l.length) (h1:s∉l.take i) (h2:l[i]≠s):s∉l.take (i+1):=by
 rw [KR h,List.mem_append,not_or]
 exact ⟨h1,by simpa using fun e=>h2 e.symm⟩
theorem wY {a:List ByteArray} {s:ByteArray} {i:Nat} (h:i<a.length) (h1:s∉a.take i) (h2:a[i]=s):iT a s=(i:Int):=by
 subst h2
 refine yc h (by simp [dr]) (fun j hj h'=> ?_)
 rw [Bool.eq_false_iff]
 intro e
 have:a[i]=a[j]:=jJ (by simpa [dr] using e)
 exact h1 (by rw [this];exact List.mem_take_iff_getElem.2 ⟨j,by omega,rfl⟩)
set_option maxRecDepth 100000 in
set_option maxHeartbeats 2000000 in
theorem lG (a b:List ByteArray) (s:ByteArray) (hl:b.length=a.length) (ha:a.length≤1000000) :
  ai Tryz.prog 73 [.v (.string s),aB a,aB b] (.v (.string (aU a b s))):=by
 simp only [aB]
 (refine ai.enter Tryz.func73 rfl (by kernel_rfl) (by kernel_rfl) rfl (by first|rfl|(simp only [go_sem,Km,Kh,Kj])) (by first|rfl|(simp only [go_sem,Km,Kh,Kj])) ?_;simp only [Tryz.ntmps73,Tryz.results73,I5,IZ,Nat.reduceAdd,Nat.reduceSub,Kn,Ko,Kq,Kr])
 repeat (first|(with_reducible first|refine ah.up ?_|refine fun (K:AK) hK=> ?_|(refine hK _ ?_;clear hK K))|simp only [go_sem]|with_reducible refine wA ?_|clear hK K)
 refine bE (ι:=Nat) 8 (fun i=>[(7, .v (.int .i64 i))]) (fun i=>a.length - i) (fun i=>i≤a.length∧s∉a.take i) 0 ⟨by omega,by simp⟩ ?_ ?_
 ·(refine au ?_ ?_ ?_<;>simp only [aD,Ks,Kt,Kn,Ko,bu,bt,AV.v.injEq,Value.int.injEq,Value.bool.injEq,Value.string.injEq,AV.vec.injEq,AV.ptr.injEq,true_or,or_true,false_or,or_false,ab.mk.injEq,forall_eq_apply_imp_iff,forall_eq,forall_eq',go_sem])
  all_goals rfl
 ·rintro i ⟨hi,hno⟩ K hK
  repeat (first|(with_reducible first|refine ah.up ?_|refine fun (K:AK) hK=> ?_|(refine hK _ ?_;clear hK K))|simp only [go_sem]|with_reducible refine wA ?_|clear hK K)
  refine aO.part (fun h=> ?_) (fun h=> ?_)
  ·have hlt:i<a.length:=by (try simp only [bne_iff_ne,ne_eq,bne_eq_false_iff_eq,beq_iff_eq,beq_eq_false_iff_ne,decide_eq_true_eq,decide_eq_false_iff_not,Ku,Int.natCast_inj,Kw,Int.ofNat_le] at h);omega
   have eW:=ar (k:=i) (by omega)
   have eG:=getD_map aT a i [] hlt
   have eG2:=getD_map aT b i [] (by omega)
   simp only [aT] at eG eG2
   repeat (first|(with_reducible first|refine ah.up ?_|refine fun (K:AK) hK=> ?_|(refine hK _ ?_;clear hK K))|simp only [go_sem,eG,eG2,eW]|with_reducible refine wA ?_|clear hK K)
   refine aO.part (fun h2=> ?_) (fun h2=> ?_)
   ·have hx:a[i]=s:=jJ (by simpa using h2)
    have eR:aU a b s=b[i]'(by omega):=by
     rw [aU,wY hlt hno hx,if_neg (by omega),Int.toNat_natCast]
     simp [List.getD,show i<b.length by omega]
    repeat (first|(with_reducible first|refine ah.up ?_|refine fun (K:AK) hK=> ?_|(refine hK _ ?_;clear hK K))|simp only [go_sem,eG,eG2,eW]|with_reducible refine wA ?_|clear hK K)
    rw [eR]
   ·have hx:a[i]≠s:=fun e=>absurd (congrArg ByteArray.toList e) (by simpa using h2)
    repeat (first|(with_reducible first|refine ah.up ?_|refine fun (K:AK) hK=> ?_|(refine hK _ ?_;clear hK K))|simp only [go_sem,eG,eG2,eW]|with_reducible refine wA ?_|clear hK K)
    exact aC.mk (i+1) ⟨by omega,js hlt hno hx⟩ (by omega) (by (refine au ?_ ?_ ?_<;>simp only [aD,Ks,Kt,Kn,Ko,bu,bt,AV.v.injEq,Value.int.injEq,Value.bool.injEq,Value.string.injEq,AV.vec.injEq,AV.ptr.injEq,true_or,or_true,false_or,or_false,ab.mk.injEq,forall_eq_apply_imp_iff,forall_eq,forall_eq',go_sem]))
  ·have e:a.take i=a:=by rw [show i=a.length by (try simp only [bne_iff_ne,ne_eq,bne_eq_false_iff_eq,beq_iff_eq,beq_eq_false_iff_ne,decide_eq_true_eq,decide_eq_false_iff_not,Ku,Int.natCast_inj,Kw,Int.ofNat_le] at h);omega,List.take_length]
   rw [e] at hno
   repeat (first|(with_reducible first|refine ah.up ?_|refine fun (K:AK) hK=> ?_|(refine hK _ ?_;clear hK K))|simp only [go_sem]|with_reducible refine wA ?_|clear hK K)
   rw [A6 hno]
set_option maxRecDepth 100000 in
theorem kP (a b:List ByteArray) (x:cg) (hl:b.length=a.length) (ha:a.length≤1000000) :
  ai Tryz.prog 74 [.agg (aN x),aB a,aB b] (.agg (aN (ku a b x))):=by
 have C:=lG a b x.name hl ha
 obtain ⟨kd,nm,ky,vl⟩:=x
 have e1:kd=1∨kd=2→ku a b ⟨kd,nm,ky,vl⟩=⟨kd,aU a b nm,ky,vl⟩:=fun h=>by simp [ku,fg,h]
 have e2: ¬(kd=1∨kd=2)→ku a b ⟨kd,nm,ky,vl⟩=⟨kd,nm,ky,vl⟩:=fun h=>by simp only [ku,fg];rw [if_neg h]
 simp only [aB,aN] at C ⊢
 generalize ku a b ⟨kd,nm,ky,vl⟩=y at e1 e2 ⊢
 (refine ai.enter Tryz.func74 rfl (by kernel_rfl) (by kernel_rfl) rfl (by first|rfl|(simp only [go_sem,Km,Kh,Kj])) (by first|rfl|(simp only [go_sem,Km,Kh,Kj])) ?_;simp only [Tryz.ntmps74,Tryz.results74,I5,IZ,Nat.reduceAdd,Nat.reduceSub,Kn,Ko,Kq,Kr])
 repeat' (first|(with_reducible first|refine ah.up ?_|refine fun (K:AK) hK=> ?_|(refine hK _ ?_;clear hK K))|simp only [go_sem]|clear hK K|(with_reducible refine aj.one (by assumption) ?_)|(with_reducible refine aw.one (by assumption) ?_)|(refine aO.part (fun hb=> ?_) (fun hb=> ?_)<;>simp only [hb,go_sem])|(refine aO.part (fun hb=> ?_) (fun hb=> ?_))|(with_reducible refine bH.mk ?_ ?_))
 ·rw [e1 (.inl (by simpa using hb))];(refine ju.of 40 rfl ?_;simp only [go_sem])
 ·rw [e1 (.inr (by simpa using hb))];(refine ju.of 40 rfl ?_;simp only [go_sem])
 ·rename_i hb1
  rw [e2 (by simp at hb hb1;simp [hb,hb1])];(refine ju.of 40 rfl ?_;simp only [go_sem])
def zQ:List AV:=[.v (.slice none 0 0), .v (.slice none 0 0), .v (.slice none 0 0), .v (.int .i64 0), .v (.int .i64 0)]
set_option maxRecDepth 100000 in
set_option maxHeartbeats 2000000 in
theorem sy (q:dF) (a b:List ByteArray) (hl:b.length≠a.length) :
  ai Tryz.prog 32 [.agg (bI q),aB a,aB b] (.dN [.agg zQ, .v (.int .i64 2)]):=by
 have hd:((a.length:Int) !=(b.length:Int))=true:=by simp;omega
 simp only [bI,aB,zQ]
 (refine ai.enter Tryz.func32 rfl (by kernel_rfl) (by kernel_rfl) rfl (by first|rfl|(simp only [go_sem,Km,Kh,Kj])) (by first|rfl|(simp only [go_sem,Km,Kh,Kj])) ?_;simp only [Tryz.ntmps32,Tryz.results32,I5,IZ,Nat.reduceAdd,Nat.reduceSub,Kn,Ko,Kq,Kr])
 repeat (first|(with_reducible first|refine ah.up ?_|refine fun (K:AK) hK=> ?_|(refine hK _ ?_;clear hK K))|simp only [go_sem,hd]|clear hK K)
 (refine ju.of 40 rfl ?_;simp only [go_sem])
theorem nE {α:Type} {l:List α} {i:Nat} (h:i<l.length) (h1:(l.take i).Nodup) (h2:l[i]∉l.take i):(l.take (i+1)).Nodup:=by
 rw [KR h]
 exact List.nodup_append.2 ⟨h1,by simp,fun x hx y hy e=>h2 (by simp at hy;rw [←hy, ← e];exact hx)⟩
set_option maxRecDepth 100000 in
set_option maxHeartbeats 8000000 in
theorem nf (q:dF) (a b:List ByteArray) (R:AV) (hq:q.lens 1000000) (hl:b.length=a.length) (ha:a.length≤1000000) (hw:R.wf 0=true) (h1:a.Nodup→R = .dN [.agg (bI (kA (aU a b) q)), .v (.int .i64 0)]) (h2: ¬a.Nodup→R = .dN [.agg zQ, .v (.int .i64 2)]) :
  ai Tryz.prog 32 [.agg (bI q),aB a,aB b] R:=by
 obtain ⟨hq1,hq2,hq3,hq4⟩:=hq
 obtain ⟨ps,cs,rs,ra,sl⟩:=q
 simp only at hq1 hq2 hq3 hq4
 have hd:((a.length:Int) !=(b.length:Int))=false:=by simp [hl]
 simp only [bI,aB]
 refine ai.enter Tryz.func32 rfl (by kernel_rfl) (by kernel_rfl) rfl (by first|rfl|(simp only [go_sem,Km,Kh,Kj])) hw ?_
 simp only [Tryz.ntmps32,Tryz.results32,I5,IZ,Nat.reduceAdd,Nat.reduceSub,Kn,Ko,Kq,Kr]
 repeat (first|(with_reducible first|refine ah.up ?_|refine fun (K:AK) hK=> ?_|refine wD ?_|refine af (by decide) ?_|refine ae (by decide) ?_|(refine hK _ ?_;clear hK K))|simp only [go_sem,hd]|with_reducible refine wA ?_|clear hK K)
 refine bE (ι:=Nat) 22 (fun i=>[(8, .v (.int .i64 i)),(9, .undef)]) (fun i=>a.length - i) (fun i=>i≤a.length∧(a.take i).Nodup) 0 ⟨by omega,by simp⟩ ?_ ?_
 ·(refine au ?_ ?_ ?_<;>simp only [aD,Ks,Kt,Kn,Ko,bu,bt,AV.v.injEq,Value.int.injEq,Value.bool.injEq,Value.string.injEq,AV.vec.injEq,AV.ptr.injEq,true_or,or_true,false_or,or_false,ab.mk.injEq,forall_eq_apply_imp_iff,forall_eq,forall_eq',go_sem])
  all_goals rfl
 rintro i ⟨hi,hnd⟩ K hK
 repeat (first|(with_reducible first|refine ah.up ?_|refine fun (K:AK) hK=> ?_|refine wD ?_|refine af (by decide) ?_|refine ae (by decide) ?_|(refine hK _ ?_;clear hK K))|simp only [go_sem]|with_reducible refine wA ?_|clear hK K)
 refine aO.part (fun h=> ?_) (fun h=> ?_)
 ·have hlt:i<a.length:=by (try simp only [beq_iff_eq,beq_eq_false_iff_ne,decide_eq_true_eq,decide_eq_false_iff_not,Kw] at h);omega
  have eW:=ar (k:=i) (by omega)
  have eG:=getD_map aT a i [] hlt
  simp only [aT] at eG
  repeat (first|(with_reducible first|refine ah.up ?_|refine fun (K:AK) hK=> ?_|refine wD ?_|refine af (by decide) ?_|refine ae (by decide) ?_|(refine hK _ ?_;clear hK K))|simp only [go_sem,h]|with_reducible refine wA ?_|clear hK K)
  refine bE (ι:=Nat) 28 (fun k=>[(9, .v (.int .i64 k))]) (fun k=>i - k) (fun k=>k≤i∧a[i]∉a.take k) 0 ⟨by omega,by simp⟩ ?_ ?_
  ·(refine au ?_ ?_ ?_<;>simp only [aD,Ks,Kt,Kn,Ko,bu,bt,AV.v.injEq,Value.int.injEq,Value.bool.injEq,Value.string.injEq,AV.vec.injEq,AV.ptr.injEq,true_or,or_true,false_or,or_false,ab.mk.injEq,forall_eq_apply_imp_iff,forall_eq,forall_eq',go_sem])
   all_goals rfl
  ·rintro k ⟨hk,hno⟩ K hK
   repeat (first|(with_reducible first|refine ah.up ?_|refine fun (K:AK) hK=> ?_|refine wD ?_|refine af (by decide) ?_|refine ae (by decide) ?_|(refine hK _ ?_;clear hK K))|simp only [go_sem]|with_reducible refine wA ?_|clear hK K)
   refine aO.part (fun h3=> ?_) (fun h3=> ?_)
   ·have hlk:k<i:=by (try simp only [beq_iff_eq,beq_eq_false_iff_ne,decide_eq_true_eq,decide_eq_false_iff_not,Kw] at h3);omega
    have eW2:=ar (k:=k) (by omega)
    have eG2:=getD_map aT a k [] (by omega)
    simp only [aT] at eG2
    repeat (first|(with_reducible first|refine ah.up ?_|refine fun (K:AK) hK=> ?_|refine wD ?_|refine af (by decide) ?_|refine ae (by decide) ?_|(refine hK _ ?_;clear hK K))|simp only [go_sem,eG,eG2,eW2,h3]|with_reducible refine wA ?_|clear hK K)
    refine aO.part (fun h4=> ?_) (fun h4=> ?_)
    ·have hx:a[i]=a[k]'(by omega):=jJ (by simpa using h4)
     have hR:=h2 (fun hn=>List.pairwise_iff_getElem.1 hn k i (by omega) hlt hlk hx.symm)
     repeat (first|(with_reducible first|refine ah.up ?_|refine fun (K:AK) hK=> ?_|refine wD ?_|refine af (by decide) ?_|refine ae (by decide) ?_|(refine hK _ ?_;clear hK K))|simp only [go_sem,h4]|with_reducible refine wA ?_|clear hK K)
     rw [hR]
     simp only [zQ]
     (refine ju.of 40 rfl ?_;simp only [go_sem])
    ·have hx:a[i]≠a[k]'(by omega):=fun e=>absurd (congrArg ByteArray.toList e) (by simpa using h4)
     repeat (first|(with_reducible first|refine ah.up ?_|refine fun (K:AK) hK=> ?_|refine wD ?_|refine af (by decide) ?_|refine ae (by decide) ?_|(refine hK _ ?_;clear hK K))|simp only [go_sem,h4,eW2]|with_reducible refine wA ?_|clear hK K)
     exact aC.mk (k+1) ⟨by omega,js (by omega) hno (fun e=>hx e.symm)⟩ (by omega) (by (refine au ?_ ?_ ?_<;>simp only [aD,Ks,Kt,Kn,Ko,bu,bt,AV.v.injEq,Value.int.injEq,Value.bool.injEq,Value.string.injEq,AV.vec.injEq,AV.ptr.injEq,true_or,or_true,false_or,or_false,ab.mk.injEq,forall_eq_apply_imp_iff,forall_eq,forall_eq',go_sem]))
   ·have e:k=i:=by (try simp only [beq_iff_eq,beq_eq_false_iff_ne,decide_eq_true_eq,decide_eq_false_iff_not,Kw] at h3);omega
    rw [e] at hno
    repeat (first|(with_reducible first|refine ah.up ?_|refine fun (K:AK) hK=> ?_|refine wD ?_|refine af (by decide) ?_|refine ae (by decide) ?_|(refine hK _ ?_;clear hK K))|simp only [go_sem,h3,eW]|with_reducible refine wA ?_|clear hK K)
    exact aC.mk (i+1) ⟨by omega,nE hlt hnd hno⟩ (by omega) (by (refine au ?_ ?_ ?_<;>simp only [aD,Ks,Kt,Kn,Ko,bu,bt,AV.v.injEq,Value.int.injEq,Value.bool.injEq,Value.string.injEq,AV.vec.injEq,AV.ptr.injEq,true_or,or_true,false_or,or_false,ab.mk.injEq,forall_eq_apply_imp_iff,forall_eq,forall_eq',go_sem]))
 have e:a.take i=a:=by rw [show i=a.length by (try simp only [beq_iff_eq,beq_eq_false_iff_ne,decide_eq_true_eq,decide_eq_false_iff_not,Kw] at h);omega,List.take_length]
 rw [e] at hnd
 have hR:=h1 hnd
 clear h1 h2 hnd e hd
 repeat ((fail_if_success (with_reducible refine oS (i:=12) ?_));first|(with_reducible first|refine ah.up ?_|refine fun (K:AK) hK=> ?_|refine af (by decide) ?_|refine ae (by decide) ?_|(refine hK _ ?_;clear hK K))|simp only [go_sem,h]|with_reducible refine wA ?_|clear hK K)
 refine bw (ei (k:=2) (i:=0) (j:=0) 45 8 (by decide) rfl (La _) rfl rfl) (by kernel_rfl) ?_
 simp only [I5,IZ,Nat.reduceAdd,Kq,Kr,KM,KL]
 refine bw (ei (k:=2) (i:=0) (j:=1) 37 13 (by decide) rfl (La _) rfl rfl) (by kernel_rfl) ?_
 simp only [I5,IZ,Nat.reduceAdd,Kq,Kr,KM,KL]
 refine bw (ei (k:=2) (i:=0) (j:=2) 34 6 (by decide) rfl (La _) rfl rfl) (by kernel_rfl) ?_
 simp only [I5,IZ,Nat.reduceAdd,Kq,Kr,KM,KL]
 repeat (first|(with_reducible first|refine ah.up ?_|refine fun (K:AK) hK=> ?_|refine wD ?_|refine af (by decide) ?_|refine ae (by decide) ?_|(refine hK _ ?_;clear hK K))|simp only [go_sem]|with_reducible refine wA ?_|clear hK K)
 refine ec (ι:=Nat) 48 (fun i=>[(8, .undef),(9, .undef),(11, .v (.int .i64 i)),(12, .undef)]) (fun i=>[some ⟨26,5,false,[[.an 8 (ps.map bo) ps.length, .an 13 (cs.map bg) cs.length, .an 6 (rs.map aN) rs.length, .v (.int .i64 ra), .v (.int .i64 sl)]]⟩,some ⟨26,5,false,[[.v (.slice none 0 0), .v (.slice none 0 0), .v (.slice none 0 0), .v (.int .i64 0), .v (.int .i64 0)]]⟩,
  some ⟨26,5,false,[[.vec 3 i, .vec 4 0, .vec 5 0, .v (.int .i64 ra), .v (.int .i64 sl)]]⟩,some ⟨45,8,true,((ps.map (gj (aU a b))).take i).map bo⟩,some ⟨37,13,true,[]⟩,some ⟨34,6,true,[]⟩]) (fun i=>ps.length - i) (fun i=>i≤ps.length) 0 (by omega) ?_ ?_
 ·(refine au ?_ ?_ ?_<;>simp only [aD,Ks,Kt,Kn,Ko,bu,bt,AV.v.injEq,Value.int.injEq,Value.bool.injEq,Value.string.injEq,AV.vec.injEq,AV.ptr.injEq,true_or,or_true,false_or,or_false,ab.mk.injEq,forall_eq_apply_imp_iff,forall_eq,forall_eq',go_sem])
  all_goals rfl
 clear h hi
 rintro i hi K hK
 repeat (first|(with_reducible first|refine ah.up ?_|refine fun (K:AK) hK=> ?_|refine wD ?_|refine af (by decide) ?_|refine ae (by decide) ?_|(refine hK _ ?_;clear hK K))|simp only [go_sem]|with_reducible refine wA ?_|clear hK K)
 refine aO.part (fun h=> ?_) (fun h=> ?_)
 ·have hlt:i<ps.length:=by (try simp only [beq_iff_eq,beq_eq_false_iff_ne,decide_eq_true_eq,decide_eq_false_iff_not,Kw] at h);omega
  have eW:=ar (k:=i) (by omega)
  have eG:=getD_map bo ps i [] hlt
  have N1:=lG a b ps[i].aD hl ha
  have N2:=lG a b ps[i].to hl ha
  have N3:=lG a b ps[i].name hl ha
  have eL:((ps.map (gj (aU a b))).take i).length=i:=by simp;omega
  have eT:((ps.map (gj (aU a b))).take (i+1)).map bo=((ps.map (gj (aU a b))).take i).map bo++[bo (gj (aU a b) ps[i])]:=by
   rw [da bo (ps.map (gj (aU a b))) i (by simpa using hlt)];simp
  have wP: ∀n,ct n (((ps.map (gj (aU a b))).take i).map bo)=true:=fun n=>j8 n _
  have eLL:(((ps.map (gj (aU a b))).take i).map bo).length=i:=by rw [JQ,eL]
  generalize ((ps.map (gj (aU a b))).take i).map bo=rr at eT wP eLL ⊢
  generalize ps[i]=p at N1 N2 N3 eG eT
  simp only [bo,aY,gj] at eG eT
  simp only [aB] at N1 N2 N3
  repeat (first|(with_reducible first|refine ah.up ?_|refine fun (K:AK) hK=> ?_|refine wD ?_|refine af (by decide) ?_|refine ae (by decide) ?_|(refine hK _ ?_;clear hK K))|simp only [go_sem,eG,h]|with_reducible refine wA ?_|clear hK K)
  refine aj.one N1 ?_
  repeat (first|(with_reducible first|refine ah.up ?_|refine fun (K:AK) hK=> ?_|refine wD ?_|refine af (by decide) ?_|refine ae (by decide) ?_|(refine hK _ ?_;clear hK K))|simp only [go_sem]|with_reducible refine wA ?_|clear hK K)
  refine aj.one N2 ?_
  repeat (first|(with_reducible first|refine ah.up ?_|refine fun (K:AK) hK=> ?_|refine wD ?_|refine af (by decide) ?_|refine ae (by decide) ?_|(refine hK _ ?_;clear hK K))|simp only [go_sem]|with_reducible refine wA ?_|clear hK K)
  refine aO.part (fun h2=> ?_) (fun h2=> ?_)
  ·have hno:eh p.name=true:=by rw [kq];exact h2
   rw [hno] at eT
   simp only [if_true] at eT
   repeat (first|(with_reducible first|refine ah.up ?_|refine fun (K:AK) hK=> ?_|refine wD ?_|refine af (by decide) ?_|refine ae (by decide) ?_|(refine hK _ ?_;clear hK K))|simp only [go_sem,h2,eLL,eW]|with_reducible refine wA ?_|clear hK K)
   exact aC.mk (i+1) (by omega) (by omega) (by (refine au ?_ ?_ ?_<;>simp only [aD,Ks,Kt,Kn,Ko,bu,bt,AV.v.injEq,Value.int.injEq,Value.bool.injEq,Value.string.injEq,AV.vec.injEq,AV.ptr.injEq,true_or,or_true,false_or,or_false,ab.mk.injEq,forall_eq_apply_imp_iff,forall_eq,forall_eq',go_sem]);exact eT.symm)
  ·have hno:eh p.name=false:=by rw [kq];exact h2
   rw [hno] at eT
   simp only [Bool.false_eq_true,if_false] at eT
   repeat (first|(with_reducible first|refine ah.up ?_|refine fun (K:AK) hK=> ?_|refine wD ?_|refine af (by decide) ?_|refine ae (by decide) ?_|(refine hK _ ?_;clear hK K))|simp only [go_sem,h2]|with_reducible refine wA ?_|clear hK K)
   refine aj.one N3 ?_
   repeat (first|(with_reducible first|refine ah.up ?_|refine fun (K:AK) hK=> ?_|refine wD ?_|refine af (by decide) ?_|refine ae (by decide) ?_|(refine hK _ ?_;clear hK K))|simp only [go_sem,eLL,eW]|with_reducible refine wA ?_|clear hK K)
   exact aC.mk (i+1) (by omega) (by omega) (by (refine au ?_ ?_ ?_<;>simp only [aD,Ks,Kt,Kn,Ko,bu,bt,AV.v.injEq,Value.int.injEq,Value.bool.injEq,Value.string.injEq,AV.vec.injEq,AV.ptr.injEq,true_or,or_true,false_or,or_false,ab.mk.injEq,forall_eq_apply_imp_iff,forall_eq,forall_eq',go_sem]);exact eT.symm)
 have hi':i=ps.length:=by (try simp only [beq_iff_eq,beq_eq_false_iff_ne,decide_eq_true_eq,decide_eq_false_iff_not,Kw] at h);omega
 have eA:(ps.map (gj (aU a b))).take ps.length=ps.map (gj (aU a b)):=im (by simp)
 simp only [hi',eA]
 repeat (first|(with_reducible first|refine ah.up ?_|refine fun (K:AK) hK=> ?_|refine wD ?_|refine af (by decide) ?_|refine ae (by decide) ?_|(refine hK _ ?_;clear hK K))|simp only [go_sem,h]|with_reducible refine wA ?_|clear hK K)
 refine ec (ι:=Nat) 87 (fun i=>[(8, .undef),(9, .undef),(11, .undef),(12, .undef),(13, .v (.int .i64 i)),(14, .undef)]) (fun i=>[some ⟨26,5,false,[[.an 8 (ps.map bo) ps.length, .an 13 (cs.map bg) cs.length, .an 6 (rs.map aN) rs.length, .v (.int .i64 ra), .v (.int .i64 sl)]]⟩,some ⟨26,5,false,[[.v (.slice none 0 0), .v (.slice none 0 0), .v (.slice none 0 0), .v (.int .i64 0), .v (.int .i64 0)]]⟩,
  some ⟨26,5,false,[[.vec 3 ps.length, .vec 4 i, .vec 5 0, .v (.int .i64 ra), .v (.int .i64 sl)]]⟩,some ⟨45,8,true,(ps.map (gj (aU a b))).map bo⟩,some ⟨37,13,true,((cs.map (ib (aU a b))).take i).map bg⟩,some ⟨34,6,true,[]⟩]) (fun i=>cs.length - i) (fun i=>i≤cs.length) 0 (by omega) ?_ ?_
 ·(refine au ?_ ?_ ?_<;>simp only [aD,Ks,Kt,Kn,Ko,bu,bt,AV.v.injEq,Value.int.injEq,Value.bool.injEq,Value.string.injEq,AV.vec.injEq,AV.ptr.injEq,true_or,or_true,false_or,or_false,ab.mk.injEq,forall_eq_apply_imp_iff,forall_eq,forall_eq',go_sem])
  all_goals rfl
 clear h hi' hi
 rintro i hi K hK
 repeat (first|(with_reducible first|refine ah.up ?_|refine fun (K:AK) hK=> ?_|refine wD ?_|refine af (by decide) ?_|refine ae (by decide) ?_|(refine hK _ ?_;clear hK K))|simp only [go_sem]|with_reducible refine wA ?_|clear hK K)
 refine aO.part (fun h=> ?_) (fun h=> ?_)
 ·have hlt:i<cs.length:=by (try simp only [beq_iff_eq,beq_eq_false_iff_ne,decide_eq_true_eq,decide_eq_false_iff_not,Kw] at h);omega
  have eW:=ar (k:=i) (by omega)
  have eG:=getD_map bg cs i [] hlt
  have N1:=kP a b cs[i].left hl ha
  have N2:=kP a b cs[i].right hl ha
  have eL:((cs.map (ib (aU a b))).take i).length=i:=by simp;omega
  have eT:((cs.map (ib (aU a b))).take (i+1)).map bg=((cs.map (ib (aU a b))).take i).map bg++[bg (ib (aU a b) cs[i])]:=by
   rw [da bg (cs.map (ib (aU a b))) i (by simpa using hlt)];simp
  have wP: ∀n,ct n (((cs.map (ib (aU a b))).take i).map bg)=true:=fun n=>de n _
  have eLL:(((cs.map (ib (aU a b))).take i).map bg).length=i:=by rw [JQ,eL]
  generalize ((cs.map (ib (aU a b))).take i).map bg=rr at eT wP eLL ⊢
  generalize cs[i]=p at N1 N2 eG eT
  simp only [ku] at N1 N2
  simp only [bg,ib] at eG eT
  simp only [aN,aB] at N1 N2
  repeat (first|(with_reducible first|refine ah.up ?_|refine fun (K:AK) hK=> ?_|refine af (by decide) ?_|refine ae (by decide) ?_|(refine hK _ ?_;clear hK K))|simp only [go_sem,eG,h]|with_reducible refine wA ?_|clear hK K)
  refine ck [16,18] [] (by decide+kernel) (by kernel_rfl) ?_
  repeat (first|(with_reducible first|refine ah.up ?_|refine fun (K:AK) hK=> ?_|refine af (by decide) ?_|refine ae (by decide) ?_|(refine hK _ ?_;clear hK K))|simp only [go_sem,eG]|with_reducible refine wA ?_|clear hK K)
  refine aw.one N1 ?_
  repeat (first|(with_reducible first|refine ah.up ?_|refine fun (K:AK) hK=> ?_|refine af (by decide) ?_|refine ae (by decide) ?_|(refine hK _ ?_;clear hK K))|simp only [go_sem,eG]|with_reducible refine wA ?_|clear hK K)
  refine aw.one N2 ?_
  repeat (first|(with_reducible first|refine ah.up ?_|refine fun (K:AK) hK=> ?_|refine af (by decide) ?_|refine ae (by decide) ?_|(refine hK _ ?_;clear hK K))|simp only [go_sem,eLL,eW]|with_reducible refine wA ?_|clear hK K)
  exact aC.mk (i+1) (by omega) (by omega) (by (refine au ?_ ?_ ?_<;>simp only [aD,Ks,Kt,Kn,Ko,bu,bt,AV.v.injEq,Value.int.injEq,Value.bool.injEq,Value.string.injEq,AV.vec.injEq,AV.ptr.injEq,true_or,or_true,false_or,or_false,ab.mk.injEq,forall_eq_apply_imp_iff,forall_eq,forall_eq',go_sem]);exact eT.symm)
 have hi':i=cs.length:=by (try simp only [beq_iff_eq,beq_eq_false_iff_ne,decide_eq_true_eq,decide_eq_false_iff_not,Kw] at h);omega
 have eA:(cs.map (ib (aU a b))).take cs.length=cs.map (ib (aU a b)):=im (by simp)
 simp only [hi',eA]
 repeat (first|(with_reducible first|refine ah.up ?_|refine fun (K:AK) hK=> ?_|refine wD ?_|refine af (by decide) ?_|refine ae (by decide) ?_|(refine hK _ ?_;clear hK K))|simp only [go_sem,h]|with_reducible refine wA ?_|clear hK K)
 refine ec (ι:=Nat) 117 (fun i=>[(8, .undef),(9, .undef),(11, .undef),(12, .undef),(13, .undef),(14, .undef),(15, .v (.int .i64 i))]) (fun i=>[some ⟨26,5,false,[[.an 8 (ps.map bo) ps.length, .an 13 (cs.map bg) cs.length, .an 6 (rs.map aN) rs.length, .v (.int .i64 ra), .v (.int .i64 sl)]]⟩,some ⟨26,5,false,[[.v (.slice none 0 0), .v (.slice none 0 0), .v (.slice none 0 0), .v (.int .i64 0), .v (.int .i64 0)]]⟩,
  some ⟨26,5,false,[[.vec 3 ps.length, .vec 4 cs.length, .vec 5 i, .v (.int .i64 ra), .v (.int .i64 sl)]]⟩,some ⟨45,8,true,(ps.map (gj (aU a b))).map bo⟩,some ⟨37,13,true,(cs.map (ib (aU a b))).map bg⟩,some ⟨34,6,true,((rs.map (fg (aU a b))).take i).map aN⟩]) (fun i=>rs.length - i) (fun i=>i≤rs.length) 0 (by omega) ?_ ?_
 ·(refine au ?_ ?_ ?_<;>simp only [aD,Ks,Kt,Kn,Ko,bu,bt,AV.v.injEq,Value.int.injEq,Value.bool.injEq,Value.string.injEq,AV.vec.injEq,AV.ptr.injEq,true_or,or_true,false_or,or_false,ab.mk.injEq,forall_eq_apply_imp_iff,forall_eq,forall_eq',go_sem])
  all_goals rfl
 clear h hi' hi
 rintro i hi K hK
 repeat (first|(with_reducible first|refine ah.up ?_|refine fun (K:AK) hK=> ?_|refine wD ?_|refine af (by decide) ?_|refine ae (by decide) ?_|(refine hK _ ?_;clear hK K))|simp only [go_sem]|with_reducible refine wA ?_|clear hK K)
 refine aO.part (fun h=> ?_) (fun h=> ?_)
 ·have hlt:i<rs.length:=by (try simp only [beq_iff_eq,beq_eq_false_iff_ne,decide_eq_true_eq,decide_eq_false_iff_not,Kw] at h);omega
  have eW:=ar (k:=i) (by omega)
  have eG:=getD_map aN rs i [] hlt
  have N1:=kP a b rs[i] hl ha
  have eL:((rs.map (fg (aU a b))).take i).length=i:=by simp;omega
  have eT:((rs.map (fg (aU a b))).take (i+1)).map aN=((rs.map (fg (aU a b))).take i).map aN++[aN (fg (aU a b) rs[i])]:=by
   rw [da aN (rs.map (fg (aU a b))) i (by simpa using hlt)];simp
  have wP: ∀n,ct n (((rs.map (fg (aU a b))).take i).map aN)=true:=fun n=>dP n _
  have eLL:(((rs.map (fg (aU a b))).take i).map aN).length=i:=by rw [JQ,eL]
  generalize ((rs.map (fg (aU a b))).take i).map aN=rr at eT wP eLL ⊢
  simp only [ku] at N1
  simp only [aN,aB] at N1 eG eT
  repeat (first|(with_reducible first|refine ah.up ?_|refine fun (K:AK) hK=> ?_|refine af (by decide) ?_|refine ae (by decide) ?_|(refine hK _ ?_;clear hK K))|simp only [go_sem,eG,h]|with_reducible refine wA ?_|clear hK K)
  refine ck [11,13] [] (by decide+kernel) (by kernel_rfl) ?_
  repeat (first|(with_reducible first|refine ah.up ?_|refine fun (K:AK) hK=> ?_|refine af (by decide) ?_|refine ae (by decide) ?_|(refine hK _ ?_;clear hK K))|simp only [go_sem,eG]|with_reducible refine wA ?_|clear hK K)
  refine aw.one N1 ?_
  repeat (first|(with_reducible first|refine ah.up ?_|refine fun (K:AK) hK=> ?_|refine af (by decide) ?_|refine ae (by decide) ?_|(refine hK _ ?_;clear hK K))|simp only [go_sem,eLL,eW]|with_reducible refine wA ?_|clear hK K)
  exact aC.mk (i+1) (by omega) (by omega) (by (refine au ?_ ?_ ?_<;>simp only [aD,Ks,Kt,Kn,Ko,bu,bt,AV.v.injEq,Value.int.injEq,Value.bool.injEq,Value.string.injEq,AV.vec.injEq,AV.ptr.injEq,true_or,or_true,false_or,or_false,ab.mk.injEq,forall_eq_apply_imp_iff,forall_eq,forall_eq',go_sem]);exact eT.symm)
 have hi':i=rs.length:=by (try simp only [beq_iff_eq,beq_eq_false_iff_ne,decide_eq_true_eq,decide_eq_false_iff_not,Kw] at h);omega
 have eA:(rs.map (fg (aU a b))).take rs.length=rs.map (fg (aU a b)):=im (by simp)
 simp only [hi',eA]
 repeat (first|(with_reducible first|refine ah.up ?_|refine fun (K:AK) hK=> ?_|refine wD ?_|refine af (by decide) ?_|refine ae (by decide) ?_|(refine hK _ ?_;clear hK K))|simp only [go_sem,h]|with_reducible refine wA ?_|clear hK K)
 rw [hR]
 simp only [kA,bI,JQ]
 (refine ju.of 40 rfl ?_;simp only [go_sem])
end Go.Proofs.YtldnlbcibmmbbaaGreat
