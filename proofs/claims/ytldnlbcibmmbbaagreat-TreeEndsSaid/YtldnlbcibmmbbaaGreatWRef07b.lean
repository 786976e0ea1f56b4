/- The document's expressions (ref07): part, Right: the walks. Printed by gen_ref07b.py. -/
import Derived.Test.YtldnlbcibmmbbaaGreatWRef07
set_option linter.unusedSimpArgs false
set_option linter.unusedVariables false
open Bool renaming and_self → Km, and_true → Kh, true_and → Kj, not_eq_true → JJ, and_false → Ky, false_and → KB, not_eq_eq_eq_not → Ku
open Int renaming natCast_inj → Kv, ofNat_lt → Kw, ofNat_le → Kx
open List renaming replicate_succ → Kn, replicate_zero → Ko, foldl_cons → Ks, foldl_nil → Kt, getElem_mem → KA, all_eq_true → J2, getElem_of_mem → KC
open Nat renaming lt_or_ge → I2
namespace Go.Proofs.YtldnlbcibmmbbaaGreat
open Go.RowKit
def bR (x:Ex):Bool:=(ak x).all Ex.part
theorem sn (k:Int) (s:ByteArray) (l:List Ex):bR (.mk k s l)=(aM k s l.length&&l.all bR):=by
 unfold bR
 rw [ak,bJ,List.all_cons,List.all_flatMap];rfl
set_option maxRecDepth 100000 in
set_option maxHeartbeats 8000000 in
theorem zR (x:Ex):(∀z,z∈ak x→z.kids.length≤1000000∧z.label.size≤1000000000000000)→ai Tryz.prog 115 [.agg (bL x)] (.v (.bool (bR x))):=by
 induction x using Ex.ind with
 | h k s l ih=>
  intro hz
  have hs:l.length≤1000000∧s.size≤1000000000000000:=hz (.mk k s l) (by rw [ak];exact List.mem_cons_self)
  have hsub: ∀y,y∈l→ai Tryz.prog 115 [.agg (bL y)] (.v (.bool (bR y))):=fun y hy=>ih y hy (fun z hz'=>hz z (by rw [ak,bJ];exact List.mem_cons_of_mem _ (List.mem_flatMap.2 ⟨_,hy,hz'⟩)))
  have F:=gK s hs.2
  rw [aY,sn]
  simp only [Ex.kind,Ex.label,Ex.kids]
  (refine ai.enter Tryz.func115 rfl (by kernel_rfl) (by kernel_rfl) rfl (by first|rfl|(simp only [go_sem,Km,Kh,Kj])) (by first|rfl|(simp only [go_sem,Km,Kh,Kj])) ?_;simp only [Tryz.ntmps115,Tryz.results115,List.length_cons,List.length_nil,Nat.reduceAdd,Nat.reduceSub,Kn,Ko,List.cons_append,List.nil_append])
  repeat (first|(with_reducible first|refine ah.up ?_|refine fun (K:AK) hK=> ?_|(refine hK _ ?_;clear hK K))|simp only [go_sem]|with_reducible refine wA ?_|clear hK K)
  rcases (by by_cases a1:k=1<;>by_cases a2:k=2<;>by_cases a3:k=3<;>by_cases a4:k=4<;>by_cases a5:k=5<;>by_cases a6:k=6<;>simp_all:k=1∨k=2∨k=3∨k=4∨k=5∨k=6∨(k≠1∧k≠2∧k≠3∧k≠4∧k≠5∧k≠6)) with hk|hk|hk|hk|hk|hk|hk
  ·have e1:(k==1)=true:=by rw [beq_iff_eq];omega
   have e2:(k==2)=false:=by rw [←JJ,beq_iff_eq];omega
   have e3:(k==3)=false:=by rw [←JJ,beq_iff_eq];omega
   have e4:(k==4)=false:=by rw [←JJ,beq_iff_eq];omega
   have e5:(k==5)=false:=by rw [←JJ,beq_iff_eq];omega
   have e6:(k==6)=false:=by rw [←JJ,beq_iff_eq];omega
   repeat (first|(with_reducible first|refine ah.up ?_|refine fun (K:AK) hK=> ?_|(refine hK _ ?_;clear hK K))|simp only [go_sem,e1,e2,e3,e4,e5,e6]|with_reducible refine wA ?_|clear hK K)
   refine aj.one F ?_
   repeat (first|(with_reducible first|refine ah.up ?_|refine fun (K:AK) hK=> ?_|(refine hK _ ?_;clear hK K))|simp only [go_sem,e1,e2,e3,e4,e5,e6]|with_reducible refine wA ?_|clear hK K)
   cases hf:cz s with
   | false=>
    repeat (first|(with_reducible first|refine ah.up ?_|refine fun (K:AK) hK=> ?_|(refine hK _ ?_;clear hK K))|simp only [go_sem,hf,Go.undef]|with_reducible refine wA ?_|clear hK K)
    rw [aM];simp only [e1,if_true,hf,Ky,KB]
   | true=>
    repeat (first|(with_reducible first|refine ah.up ?_|refine fun (K:AK) hK=> ?_|(refine hK _ ?_;clear hK K))|simp only [go_sem,hf]|with_reducible refine wA ?_|clear hK K)
    rcases Nat.eq_zero_or_pos l.length with q|q
    ·have e:l=[]:=List.eq_nil_of_length_eq_zero q
     rw [e,aM];simp [e1,hf]
    ·have a:((l.length:Int)==0)=false:=by rw [←JJ,beq_iff_eq];omega
     have b:decide (l.length=0)=false:=decide_eq_false (by omega)
     rw [a,aM];simp only [e1,if_true,b,KB]
  ·have e1:(k==1)=false:=by rw [←JJ,beq_iff_eq];omega
   have e2:(k==2)=true:=by rw [beq_iff_eq];omega
   have e3:(k==3)=false:=by rw [←JJ,beq_iff_eq];omega
   have e4:(k==4)=false:=by rw [←JJ,beq_iff_eq];omega
   have e5:(k==5)=false:=by rw [←JJ,beq_iff_eq];omega
   have e6:(k==6)=false:=by rw [←JJ,beq_iff_eq];omega
   repeat (first|(with_reducible first|refine ah.up ?_|refine fun (K:AK) hK=> ?_|(refine hK _ ?_;clear hK K))|simp only [go_sem,e1,e2,e3,e4,e5,e6]|with_reducible refine wA ?_|clear hK K)
   refine aO.part (fun h0=> ?_) (fun h0=> ?_)
   ·have hl:l.length<2:=by (try simp only [bne_iff_ne,ne_eq,bne_eq_false_iff_eq,beq_iff_eq,beq_eq_false_iff_ne,decide_eq_true_eq,decide_eq_false_iff_not,Ku,Kv,Kw,Kx] at h0);omega
    repeat (first|(with_reducible first|refine ah.up ?_|refine fun (K:AK) hK=> ?_|(refine hK _ ?_;clear hK K))|simp only [go_sem,h0]|with_reducible refine wA ?_|clear hK K)
    have hd:decide (1<l.length)=false:=decide_eq_false (by omega)
    rw [aM];simp [e1,e2,e3,hd]
   ·have hl:1<l.length:=by (try simp only [bne_iff_ne,ne_eq,bne_eq_false_iff_eq,beq_iff_eq,beq_eq_false_iff_ne,decide_eq_true_eq,decide_eq_false_iff_not,Ku,Kv,Kw,Kx] at h0);omega
    repeat (first|(with_reducible first|refine ah.up ?_|refine fun (K:AK) hK=> ?_|(refine hK _ ?_;clear hK K))|simp only [go_sem,h0]|with_reducible refine wA ?_|clear hK K)
    refine aZ (ι:=Nat) (fun i=>[(1, .ptr 0 0 3 0 0),(2, .v (.bool false)),(3, .v (.int .i64 i))]) (fun _=>[some ⟨43,3,false,[[.v (.int .i64 k), .v (.string s), .an 3 (l.map bL) l.length]]⟩]) (fun i=>l.length - i) (fun i=>i≤l.length∧ ∀j (h:j<l.length),j<i→bR l[j]=true) 0 ⟨by omega,fun j _ h=>absurd h (by omega)⟩ ?_ ?_
    ·(refine au ?_ ?_ ?_<;>simp only [aD,Ks,Kt,Kn,Ko,bu,bt,AV.v.injEq,Value.int.injEq,Value.bool.injEq,Value.string.injEq,AV.vec.injEq,AV.ptr.injEq,true_or,or_true,false_or,or_false,ab.mk.injEq,forall_eq_apply_imp_iff,forall_eq,forall_eq',go_sem])
     rfl
    ·rintro i ⟨hi,hP⟩ K hK
     simp only [aD,Ks,Kt,Kn,Ko,go_sem]
     repeat (first|(with_reducible first|refine ah.up ?_|refine fun (K:AK) hK=> ?_|(refine hK _ ?_;clear hK K))|simp only [go_sem]|with_reducible refine wA ?_|clear hK K)
     refine aO.part (fun h=> ?_) (fun h=> ?_)
     ·have hlt:i<l.length:=by (try simp only [bne_iff_ne,ne_eq,bne_eq_false_iff_eq,beq_iff_eq,beq_eq_false_iff_ne,decide_eq_true_eq,decide_eq_false_iff_not,Ku,Kv,Kw,Kx] at h);omega
      have eW:=ar (k:=i) (by omega)
      have eG:=getD_map bL l i [] hlt
      have C:=hsub l[i] (KA hlt)
      simp only [aY] at C eG
      repeat (first|(with_reducible first|refine ah.up ?_|refine fun (K:AK) hK=> ?_|(refine hK _ ?_;clear hK K))|simp only [go_sem,eG]|with_reducible refine wA ?_|clear hK K)
      refine aj.one C ?_
      repeat (first|(with_reducible first|refine ah.up ?_|refine fun (K:AK) hK=> ?_|(refine hK _ ?_;clear hK K))|simp only [go_sem,eG]|with_reducible refine wA ?_|clear hK K)
      refine aO.part (fun h5=> ?_) (fun h5=> ?_)
      ·repeat (first|(with_reducible first|refine ah.up ?_|refine fun (K:AK) hK=> ?_|(refine hK _ ?_;clear hK K))|simp only [go_sem,eW]|with_reducible refine wA ?_|clear hK K)
       exact aC.mk (i+1) ⟨by omega,fun j hj h3=>(by
        rcases I2 j i with r|r
        ·exact hP j hj r
        ·have e:j=i:=by omega
         subst e
         exact h5)⟩ (by omega) (by (refine au ?_ ?_ ?_<;>simp only [aD,Ks,Kt,Kn,Ko,bu,bt,AV.v.injEq,Value.int.injEq,Value.bool.injEq,Value.string.injEq,AV.vec.injEq,AV.ptr.injEq,true_or,or_true,false_or,or_false,ab.mk.injEq,forall_eq_apply_imp_iff,forall_eq,forall_eq',go_sem]))
      ·repeat (first|(with_reducible first|refine ah.up ?_|refine fun (K:AK) hK=> ?_|(refine hK _ ?_;clear hK K))|simp only [go_sem,h5]|with_reducible refine wA ?_|clear hK K)
       have e:l.all bR=false:=by
        rw [←JJ,J2]
        intro hh
        rw [hh _ (KA hlt)] at h5;cases h5
       rw [e,Ky]
     ·have he:i=l.length:=by (try simp only [bne_iff_ne,ne_eq,bne_eq_false_iff_eq,beq_iff_eq,beq_eq_false_iff_ne,decide_eq_true_eq,decide_eq_false_iff_not,Ku,Kv,Kw,Kx] at h);omega
      have e:l.all bR=true:=J2.2 (fun y hy=>by
       obtain ⟨j,hj,rfl⟩:=KC hy
       exact hP j hj (by omega))
      repeat (first|(with_reducible first|refine ah.up ?_|refine fun (K:AK) hK=> ?_|(refine hK _ ?_;clear hK K))|simp only [go_sem]|with_reducible refine wA ?_|clear hK K)
      rw [e,fu,Kh,aM]
      simp only [e1,e2,e3,e4,e5,e6]
      have hd:decide (1<l.length)=true:=decide_eq_true (by omega)
      simp [hd]
  ·have e1:(k==1)=false:=by rw [←JJ,beq_iff_eq];omega
   have e2:(k==2)=false:=by rw [←JJ,beq_iff_eq];omega
   have e3:(k==3)=true:=by rw [beq_iff_eq];omega
   have e4:(k==4)=false:=by rw [←JJ,beq_iff_eq];omega
   have e5:(k==5)=false:=by rw [←JJ,beq_iff_eq];omega
   have e6:(k==6)=false:=by rw [←JJ,beq_iff_eq];omega
   repeat (first|(with_reducible first|refine ah.up ?_|refine fun (K:AK) hK=> ?_|(refine hK _ ?_;clear hK K))|simp only [go_sem,e1,e2,e3,e4,e5,e6]|with_reducible refine wA ?_|clear hK K)
   refine aO.part (fun h0=> ?_) (fun h0=> ?_)
   ·have hl:l.length<2:=by (try simp only [bne_iff_ne,ne_eq,bne_eq_false_iff_eq,beq_iff_eq,beq_eq_false_iff_ne,decide_eq_true_eq,decide_eq_false_iff_not,Ku,Kv,Kw,Kx] at h0);omega
    repeat (first|(with_reducible first|refine ah.up ?_|refine fun (K:AK) hK=> ?_|(refine hK _ ?_;clear hK K))|simp only [go_sem,h0]|with_reducible refine wA ?_|clear hK K)
    have hd:decide (1<l.length)=false:=decide_eq_false (by omega)
    rw [aM];simp [e1,e2,e3,hd]
   ·have hl:1<l.length:=by (try simp only [bne_iff_ne,ne_eq,bne_eq_false_iff_eq,beq_iff_eq,beq_eq_false_iff_ne,decide_eq_true_eq,decide_eq_false_iff_not,Ku,Kv,Kw,Kx] at h0);omega
    repeat (first|(with_reducible first|refine ah.up ?_|refine fun (K:AK) hK=> ?_|(refine hK _ ?_;clear hK K))|simp only [go_sem,h0]|with_reducible refine wA ?_|clear hK K)
    refine aZ (ι:=Nat) (fun i=>[(1, .ptr 0 0 3 0 0),(2, .v (.bool false)),(3, .v (.int .i64 i))]) (fun _=>[some ⟨43,3,false,[[.v (.int .i64 k), .v (.string s), .an 3 (l.map bL) l.length]]⟩]) (fun i=>l.length - i) (fun i=>i≤l.length∧ ∀j (h:j<l.length),j<i→bR l[j]=true) 0 ⟨by omega,fun j _ h=>absurd h (by omega)⟩ ?_ ?_
    ·(refine au ?_ ?_ ?_<;>simp only [aD,Ks,Kt,Kn,Ko,bu,bt,AV.v.injEq,Value.int.injEq,Value.bool.injEq,Value.string.injEq,AV.vec.injEq,AV.ptr.injEq,true_or,or_true,false_or,or_false,ab.mk.injEq,forall_eq_apply_imp_iff,forall_eq,forall_eq',go_sem])
     rfl
    ·rintro i ⟨hi,hP⟩ K hK
     simp only [aD,Ks,Kt,Kn,Ko,go_sem]
     repeat (first|(with_reducible first|refine ah.up ?_|refine fun (K:AK) hK=> ?_|(refine hK _ ?_;clear hK K))|simp only [go_sem]|with_reducible refine wA ?_|clear hK K)
     refine aO.part (fun h=> ?_) (fun h=> ?_)
     ·have hlt:i<l.length:=by (try simp only [bne_iff_ne,ne_eq,bne_eq_false_iff_eq,beq_iff_eq,beq_eq_false_iff_ne,decide_eq_true_eq,decide_eq_false_iff_not,Ku,Kv,Kw,Kx] at h);omega
      have eW:=ar (k:=i) (by omega)
      have eG:=getD_map bL l i [] hlt
      have C:=hsub l[i] (KA hlt)
      simp only [aY] at C eG
      repeat (first|(with_reducible first|refine ah.up ?_|refine fun (K:AK) hK=> ?_|(refine hK _ ?_;clear hK K))|simp only [go_sem,eG]|with_reducible refine wA ?_|clear hK K)
      refine aj.one C ?_
      repeat (first|(with_reducible first|refine ah.up ?_|refine fun (K:AK) hK=> ?_|(refine hK _ ?_;clear hK K))|simp only [go_sem,eG]|with_reducible refine wA ?_|clear hK K)
      refine aO.part (fun h5=> ?_) (fun h5=> ?_)
      ·repeat (first|(with_reducible first|refine ah.up ?_|refine fun (K:AK) hK=> ?_|(refine hK _ ?_;clear hK K))|simp only [go_sem,eW]|with_reducible refine wA ?_|clear hK K)
       exact aC.mk (i+1) ⟨by omega,fun j hj h3=>(by
        rcases I2 j i with r|r
        ·exact hP j hj r
        ·have e:j=i:=by omega
         subst e
         exact h5)⟩ (by omega) (by (refine au ?_ ?_ ?_<;>simp only [aD,Ks,Kt,Kn,Ko,bu,bt,AV.v.injEq,Value.int.injEq,Value.bool.injEq,Value.string.injEq,AV.vec.injEq,AV.ptr.injEq,true_or,or_true,false_or,or_false,ab.mk.injEq,forall_eq_apply_imp_iff,forall_eq,forall_eq',go_sem]))
      ·repeat (first|(with_reducible first|refine ah.up ?_|refine fun (K:AK) hK=> ?_|(refine hK _ ?_;clear hK K))|simp only [go_sem,h5]|with_reducible refine wA ?_|clear hK K)
       have e:l.all bR=false:=by
        rw [←JJ,J2]
        intro hh
        rw [hh _ (KA hlt)] at h5;cases h5
       rw [e,Ky]
     ·have he:i=l.length:=by (try simp only [bne_iff_ne,ne_eq,bne_eq_false_iff_eq,beq_iff_eq,beq_eq_false_iff_ne,decide_eq_true_eq,decide_eq_false_iff_not,Ku,Kv,Kw,Kx] at h);omega
      have e:l.all bR=true:=J2.2 (fun y hy=>by
       obtain ⟨j,hj,rfl⟩:=KC hy
       exact hP j hj (by omega))
      repeat (first|(with_reducible first|refine ah.up ?_|refine fun (K:AK) hK=> ?_|(refine hK _ ?_;clear hK K))|simp only [go_sem]|with_reducible refine wA ?_|clear hK K)
      rw [e,fu,Kh,aM]
      simp only [e1,e2,e3,e4,e5,e6]
      have hd:decide (1<l.length)=true:=decide_eq_true (by omega)
      simp [hd]
  ·have e1:(k==1)=false:=by rw [←JJ,beq_iff_eq];omega
   have e2:(k==2)=false:=by rw [←JJ,beq_iff_eq];omega
   have e3:(k==3)=false:=by rw [←JJ,beq_iff_eq];omega
   have e4:(k==4)=true:=by rw [beq_iff_eq];omega
   have e5:(k==5)=false:=by rw [←JJ,beq_iff_eq];omega
   have e6:(k==6)=false:=by rw [←JJ,beq_iff_eq];omega
   repeat (first|(with_reducible first|refine ah.up ?_|refine fun (K:AK) hK=> ?_|(refine hK _ ?_;clear hK K))|simp only [go_sem,e1,e2,e3,e4,e5,e6]|with_reducible refine wA ?_|clear hK K)
   refine aO.part (fun h0=> ?_) (fun h0=> ?_)
   ·have hl:l.length≠1:=by (try simp only [bne_iff_ne,ne_eq,bne_eq_false_iff_eq,beq_iff_eq,beq_eq_false_iff_ne,decide_eq_true_eq,decide_eq_false_iff_not,Ku,Kv,Kw,Kx] at h0);omega
    repeat (first|(with_reducible first|refine ah.up ?_|refine fun (K:AK) hK=> ?_|(refine hK _ ?_;clear hK K))|simp only [go_sem,h0]|with_reducible refine wA ?_|clear hK K)
    have hd:decide (l.length=1)=false:=decide_eq_false hl
    rw [aM];simp [e1,e2,e3,e4,e5,e6,hd]
   ·have hl:l.length=1:=by (try simp only [bne_iff_ne,ne_eq,bne_eq_false_iff_eq,beq_iff_eq,beq_eq_false_iff_ne,decide_eq_true_eq,decide_eq_false_iff_not,Ku,Kv,Kw,Kx] at h0);omega
    repeat (first|(with_reducible first|refine ah.up ?_|refine fun (K:AK) hK=> ?_|(refine hK _ ?_;clear hK K))|simp only [go_sem,h0]|with_reducible refine wA ?_|clear hK K)
    refine aZ (ι:=Nat) (fun i=>[(1, .ptr 0 0 3 0 0),(2, .v (.bool false)),(3, .v (.int .i64 i))]) (fun _=>[some ⟨43,3,false,[[.v (.int .i64 k), .v (.string s), .an 3 (l.map bL) l.length]]⟩]) (fun i=>l.length - i) (fun i=>i≤l.length∧ ∀j (h:j<l.length),j<i→bR l[j]=true) 0 ⟨by omega,fun j _ h=>absurd h (by omega)⟩ ?_ ?_
    ·(refine au ?_ ?_ ?_<;>simp only [aD,Ks,Kt,Kn,Ko,bu,bt,AV.v.injEq,Value.int.injEq,Value.bool.injEq,Value.string.injEq,AV.vec.injEq,AV.ptr.injEq,true_or,or_true,false_or,or_false,ab.mk.injEq,forall_eq_apply_imp_iff,forall_eq,forall_eq',go_sem])
     rfl
    ·rintro i ⟨hi,hP⟩ K hK
     simp only [aD,Ks,Kt,Kn,Ko,go_sem]
     repeat (first|(with_reducible first|refine ah.up ?_|refine fun (K:AK) hK=> ?_|(refine hK _ ?_;clear hK K))|simp only [go_sem]|with_reducible refine wA ?_|clear hK K)
     refine aO.part (fun h=> ?_) (fun h=> ?_)
     ·have hlt:i<l.length:=by (try simp only [bne_iff_ne,ne_eq,bne_eq_false_iff_eq,beq_iff_eq,beq_eq_false_iff_ne,decide_eq_true_eq,decide_eq_false_iff_not,Ku,Kv,Kw,Kx] at h);omega
      have eW:=ar (k:=i) (by omega)
      have eG:=getD_map bL l i [] hlt
      have C:=hsub l[i] (KA hlt)
      simp only [aY] at C eG
      repeat (first|(with_reducible first|refine ah.up ?_|refine fun (K:AK) hK=> ?_|(refine hK _ ?_;clear hK K))|simp only [go_sem,eG]|with_reducible refine wA ?_|clear hK K)
      refine aj.one C ?_
      repeat (first|(with_reducible first|refine ah.up ?_|refine fun (K:AK) hK=> ?_|(refine hK _ ?_;clear hK K))|simp only [go_sem,eG]|with_reducible refine wA ?_|clear hK K)
      refine aO.part (fun h5=> ?_) (fun h5=> ?_)
      ·repeat (first|(with_reducible first|refine ah.up ?_|refine fun (K:AK) hK=> ?_|(refine hK _ ?_;clear hK K))|simp only [go_sem,eW]|with_reducible refine wA ?_|clear hK K)
       exact aC.mk (i+1) ⟨by omega,fun j hj h3=>(by
        rcases I2 j i with r|r
        ·exact hP j hj r
        ·have e:j=i:=by omega
         subst e
         exact h5)⟩ (by omega) (by (refine au ?_ ?_ ?_<;>simp only [aD,Ks,Kt,Kn,Ko,bu,bt,AV.v.injEq,Value.int.injEq,Value.bool.injEq,Value.string.injEq,AV.vec.injEq,AV.ptr.injEq,true_or,or_true,false_or,or_false,ab.mk.injEq,forall_eq_apply_imp_iff,forall_eq,forall_eq',go_sem]))
      ·repeat (first|(with_reducible first|refine ah.up ?_|refine fun (K:AK) hK=> ?_|(refine hK _ ?_;clear hK K))|simp only [go_sem,h5]|with_reducible refine wA ?_|clear hK K)
       have e:l.all bR=false:=by
        rw [←JJ,J2]
        intro hh
        rw [hh _ (KA hlt)] at h5;cases h5
       rw [e,Ky]
     ·have he:i=l.length:=by (try simp only [bne_iff_ne,ne_eq,bne_eq_false_iff_eq,beq_iff_eq,beq_eq_false_iff_ne,decide_eq_true_eq,decide_eq_false_iff_not,Ku,Kv,Kw,Kx] at h);omega
      have e:l.all bR=true:=J2.2 (fun y hy=>by
       obtain ⟨j,hj,rfl⟩:=KC hy
       exact hP j hj (by omega))
      repeat (first|(with_reducible first|refine ah.up ?_|refine fun (K:AK) hK=> ?_|(refine hK _ ?_;clear hK K))|simp only [go_sem]|with_reducible refine wA ?_|clear hK K)
      rw [e,fu,Kh,aM]
      simp only [e1,e2,e3,e4,e5,e6]
      have hd:decide (l.length=1)=true:=decide_eq_true (by omega)
      simp [hd]
  ·have e1:(k==1)=false:=by rw [←JJ,beq_iff_eq];omega
   have e2:(k==2)=false:=by rw [←JJ,beq_iff_eq];omega
   have e3:(k==3)=false:=by rw [←JJ,beq_iff_eq];omega
   have e4:(k==4)=false:=by rw [←JJ,beq_iff_eq];omega
   have e5:(k==5)=true:=by rw [beq_iff_eq];omega
   have e6:(k==6)=false:=by rw [←JJ,beq_iff_eq];omega
   repeat (first|(with_reducible first|refine ah.up ?_|refine fun (K:AK) hK=> ?_|(refine hK _ ?_;clear hK K))|simp only [go_sem,e1,e2,e3,e4,e5,e6]|with_reducible refine wA ?_|clear hK K)
   refine aO.part (fun h0=> ?_) (fun h0=> ?_)
   ·have hl:l.length≠1:=by (try simp only [bne_iff_ne,ne_eq,bne_eq_false_iff_eq,beq_iff_eq,beq_eq_false_iff_ne,decide_eq_true_eq,decide_eq_false_iff_not,Ku,Kv,Kw,Kx] at h0);omega
    repeat (first|(with_reducible first|refine ah.up ?_|refine fun (K:AK) hK=> ?_|(refine hK _ ?_;clear hK K))|simp only [go_sem,h0]|with_reducible refine wA ?_|clear hK K)
    have hd:decide (l.length=1)=false:=decide_eq_false hl
    rw [aM];simp [e1,e2,e3,e4,e5,e6,hd]
   ·have hl:l.length=1:=by (try simp only [bne_iff_ne,ne_eq,bne_eq_false_iff_eq,beq_iff_eq,beq_eq_false_iff_ne,decide_eq_true_eq,decide_eq_false_iff_not,Ku,Kv,Kw,Kx] at h0);omega
    repeat (first|(with_reducible first|refine ah.up ?_|refine fun (K:AK) hK=> ?_|(refine hK _ ?_;clear hK K))|simp only [go_sem,h0]|with_reducible refine wA ?_|clear hK K)
    refine aZ (ι:=Nat) (fun i=>[(1, .ptr 0 0 3 0 0),(2, .v (.bool false)),(3, .v (.int .i64 i))]) (fun _=>[some ⟨43,3,false,[[.v (.int .i64 k), .v (.string s), .an 3 (l.map bL) l.length]]⟩]) (fun i=>l.length - i) (fun i=>i≤l.length∧ ∀j (h:j<l.length),j<i→bR l[j]=true) 0 ⟨by omega,fun j _ h=>absurd h (by omega)⟩ ?_ ?_
    ·(refine au ?_ ?_ ?_<;>simp only [aD,Ks,Kt,Kn,Ko,bu,bt,AV.v.injEq,Value.int.injEq,Value.bool.injEq,Value.string.injEq,AV.vec.injEq,AV.ptr.injEq,true_or,or_true,false_or,or_false,ab.mk.injEq,forall_eq_apply_imp_iff,forall_eq,forall_eq',go_sem])
     rfl
    ·rintro i ⟨hi,hP⟩ K hK
     simp only [aD,Ks,Kt,Kn,Ko,go_sem]
     repeat (first|(with_reducible first|refine ah.up ?_|refine fun (K:AK) hK=> ?_|(refine hK _ ?_;clear hK K))|simp only [go_sem]|with_reducible refine wA ?_|clear hK K)
     refine aO.part (fun h=> ?_) (fun h=> ?_)
     ·have hlt:i<l.length:=by (try simp only [bne_iff_ne,ne_eq,bne_eq_false_iff_eq,beq_iff_eq,beq_eq_false_iff_ne,decide_eq_true_eq,decide_eq_false_iff_not,Ku,Kv,Kw,Kx] at h);omega
      have eW:=ar (k:=i) (by omega)
      have eG:=getD_map bL l i [] hlt
      have C:=hsub l[i] (KA hlt)
      simp only [aY] at C eG
      repeat (first|(with_reducible first|refine ah.up ?_|refine fun (K:AK) hK=> ?_|(refine hK _ ?_;clear hK K))|simp only [go_sem,eG]|with_reducible refine wA ?_|clear hK K)
      refine aj.one C ?_
      repeat (first|(with_reducible first|refine ah.up ?_|refine fun (K:AK) hK=> ?_|(refine hK _ ?_;clear hK K))|simp only [go_sem,eG]|with_reducible refine wA ?_|clear hK K)
      refine aO.part (fun h5=> ?_) (fun h5=> ?_)
      ·repeat (first|(with_reducible first|refine ah.up ?_|refine fun (K:AK) hK=> ?_|(refine hK _ ?_;clear hK K))|simp only [go_sem,eW]|with_reducible refine wA ?_|clear hK K)
       exact aC.mk (i+1) ⟨by omega,fun j hj h3=>(by
        rcases I2 j i with r|r
        ·exact hP j hj r
        ·have e:j=i:=by omega
         subst e
         exact h5)⟩ (by omega) (by (refine au ?_ ?_ ?_<;>simp only [aD,Ks,Kt,Kn,Ko,bu,bt,AV.v.injEq,Value.int.injEq,Value.bool.injEq,Value.string.injEq,AV.vec.injEq,AV.ptr.injEq,true_or,or_true,false_or,or_false,ab.mk.injEq,forall_eq_apply_imp_iff,forall_eq,forall_eq',go_sem]))
      ·repeat (first|(with_reducible first|refine ah.up ?_|refine fun (K:AK) hK=> ?_|(refine hK _ ?_;clear hK K))|simp only [go_sem,h5]|with_reducible refine wA ?_|clear hK K)
       have e:l.all bR=false:=by
        rw [←JJ,J2]
        intro hh
        rw [hh _ (KA hlt)] at h5;cases h5
       rw [e,Ky]
     ·have he:i=l.length:=by (try simp only [bne_iff_ne,ne_eq,bne_eq_false_iff_eq,beq_iff_eq,beq_eq_false_iff_ne,decide_eq_true_eq,decide_eq_false_iff_not,Ku,Kv,Kw,Kx] at h);omega
      have e:l.all bR=true:=J2.2 (fun y hy=>by
       obtain ⟨j,hj,rfl⟩:=KC hy
       exact hP j hj (by omega))
      repeat (first|(with_reducible first|refine ah.up ?_|refine fun (K:AK) hK=> ?_|(refine hK _ ?_;clear hK K))|simp only [go_sem]|with_reducible refine wA ?_|clear hK K)
      rw [e,fu,Kh,aM]
      simp only [e1,e2,e3,e4,e5,e6]
      have hd:decide (l.length=1)=true:=decide_eq_true (by omega)
      simp [hd]
  ·have e1:(k==1)=false:=by rw [←JJ,beq_iff_eq];omega
   have e2:(k==2)=false:=by rw [←JJ,beq_iff_eq];omega
   have e3:(k==3)=false:=by rw [←JJ,beq_iff_eq];omega
   have e4:(k==4)=false:=by rw [←JJ,beq_iff_eq];omega
   have e5:(k==5)=false:=by rw [←JJ,beq_iff_eq];omega
   have e6:(k==6)=true:=by rw [beq_iff_eq];omega
   repeat (first|(with_reducible first|refine ah.up ?_|refine fun (K:AK) hK=> ?_|(refine hK _ ?_;clear hK K))|simp only [go_sem,e1,e2,e3,e4,e5,e6]|with_reducible refine wA ?_|clear hK K)
   refine aO.part (fun h0=> ?_) (fun h0=> ?_)
   ·have hl:l.length≠1:=by (try simp only [bne_iff_ne,ne_eq,bne_eq_false_iff_eq,beq_iff_eq,beq_eq_false_iff_ne,decide_eq_true_eq,decide_eq_false_iff_not,Ku,Kv,Kw,Kx] at h0);omega
    repeat (first|(with_reducible first|refine ah.up ?_|refine fun (K:AK) hK=> ?_|(refine hK _ ?_;clear hK K))|simp only [go_sem,h0]|with_reducible refine wA ?_|clear hK K)
    have hd:decide (l.length=1)=false:=decide_eq_false hl
    rw [aM];simp [e1,e2,e3,e4,e5,e6,hd]
   ·have hl:l.length=1:=by (try simp only [bne_iff_ne,ne_eq,bne_eq_false_iff_eq,beq_iff_eq,beq_eq_false_iff_ne,decide_eq_true_eq,decide_eq_false_iff_not,Ku,Kv,Kw,Kx] at h0);omega
    repeat (first|(with_reducible first|refine ah.up ?_|refine fun (K:AK) hK=> ?_|(refine hK _ ?_;clear hK K))|simp only [go_sem,h0]|with_reducible refine wA ?_|clear hK K)
    refine aZ (ι:=Nat) (fun i=>[(1, .ptr 0 0 3 0 0),(2, .v (.bool false)),(3, .v (.int .i64 i))]) (fun _=>[some ⟨43,3,false,[[.v (.int .i64 k), .v (.string s), .an 3 (l.map bL) l.length]]⟩]) (fun i=>l.length - i) (fun i=>i≤l.length∧ ∀j (h:j<l.length),j<i→bR l[j]=true) 0 ⟨by omega,fun j _ h=>absurd h (by omega)⟩ ?_ ?_
    ·(refine au ?_ ?_ ?_<;>simp only [aD,Ks,Kt,Kn,Ko,bu,bt,AV.v.injEq,Value.int.injEq,Value.bool.injEq,Value.string.injEq,AV.vec.injEq,AV.ptr.injEq,true_or,or_true,false_or,or_false,ab.mk.injEq,forall_eq_apply_imp_iff,forall_eq,forall_eq',go_sem])
     rfl
    ·rintro i ⟨hi,hP⟩ K hK
     simp only [aD,Ks,Kt,Kn,Ko,go_sem]
     repeat (first|(with_reducible first|refine ah.up ?_|refine fun (K:AK) hK=> ?_|(refine hK _ ?_;clear hK K))|simp only [go_sem]|with_reducible refine wA ?_|clear hK K)
     refine aO.part (fun h=> ?_) (fun h=> ?_)
     ·have hlt:i<l.length:=by (try simp only [bne_iff_ne,ne_eq,bne_eq_false_iff_eq,beq_iff_eq,beq_eq_false_iff_ne,decide_eq_true_eq,decide_eq_false_iff_not,Ku,Kv,Kw,Kx] at h);omega
      have eW:=ar (k:=i) (by omega)
      have eG:=getD_map bL l i [] hlt
      have C:=hsub l[i] (KA hlt)
      simp only [aY] at C eG
      repeat (first|(with_reducible first|refine ah.up ?_|refine fun (K:AK) hK=> ?_|(refine hK _ ?_;clear hK K))|simp only [go_sem,eG]|with_reducible refine wA ?_|clear hK K)
      refine aj.one C ?_
      repeat (first|(with_reducible first|refine ah.up ?_|refine fun (K:AK) hK=> ?_|(refine hK _ ?_;clear hK K))|simp only [go_sem,eG]|with_reducible refine wA ?_|clear hK K)
      refine aO.part (fun h5=> ?_) (fun h5=> ?_)
      ·repeat (first|(with_reducible first|refine ah.up ?_|refine fun (K:AK) hK=> ?_|(refine hK _ ?_;clear hK K))|simp only [go_sem,eW]|with_reducible refine wA ?_|clear hK K)
       exact aC.mk (i+1) ⟨by omega,fun j hj h3=>(by
        rcases I2 j i with r|r
        ·exact hP j hj r
        ·have e:j=i:=by omega
         subst e
         exact h5)⟩ (by omega) (by (refine au ?_ ?_ ?_<;>simp only [aD,Ks,Kt,Kn,Ko,bu,bt,AV.v.injEq,Value.int.injEq,Value.bool.injEq,Value.string.injEq,AV.vec.injEq,AV.ptr.injEq,true_or,or_true,false_or,or_false,ab.mk.injEq,forall_eq_apply_imp_iff,forall_eq,forall_eq',go_sem]))
      ·repeat (first|(with_reducible first|refine ah.up ?_|refine fun (K:AK) hK=> ?_|(refine hK _ ?_;clear hK K))|simp only [go_sem,h5]|with_reducible refine wA ?_|clear hK K)
       have e:l.all bR=false:=by
        rw [←JJ,J2]
        intro hh
        rw [hh _ (KA hlt)] at h5;cases h5
       rw [e,Ky]
     ·have he:i=l.length:=by (try simp only [bne_iff_ne,ne_eq,bne_eq_false_iff_eq,beq_iff_eq,beq_eq_false_iff_ne,decide_eq_true_eq,decide_eq_false_iff_not,Ku,Kv,Kw,Kx] at h);omega
      have e:l.all bR=true:=J2.2 (fun y hy=>by
       obtain ⟨j,hj,rfl⟩:=KC hy
       exact hP j hj (by omega))
      repeat (first|(with_reducible first|refine ah.up ?_|refine fun (K:AK) hK=> ?_|(refine hK _ ?_;clear hK K))|simp only [go_sem]|with_reducible refine wA ?_|clear hK K)
      rw [e,fu,Kh,aM]
      simp only [e1,e2,e3,e4,e5,e6]
      have hd:decide (l.length=1)=true:=decide_eq_true (by omega)
      simp [hd]
  ·have e1:(k==1)=false:=by rw [←JJ,beq_iff_eq];omega
   have e2:(k==2)=false:=by rw [←JJ,beq_iff_eq];omega
   have e3:(k==3)=false:=by rw [←JJ,beq_iff_eq];omega
   have e4:(k==4)=false:=by rw [←JJ,beq_iff_eq];omega
   have e5:(k==5)=false:=by rw [←JJ,beq_iff_eq];omega
   have e6:(k==6)=false:=by rw [←JJ,beq_iff_eq];omega
   repeat (first|(with_reducible first|refine ah.up ?_|refine fun (K:AK) hK=> ?_|(refine hK _ ?_;clear hK K))|simp only [go_sem,e1,e2,e3,e4,e5,e6]|with_reducible refine wA ?_|clear hK K)
   rw [aM];simp [e1,e2,e3,e4,e5,e6]
set_option maxRecDepth 100000 in
theorem zi (x:Ex) (h1:(ak x).length≤1000000) (hz: ∀z,z∈ak x→z.kids.length≤1000000∧z.label.size≤1000000000000000):ai Tryz.prog 91 [.agg (bL x)] (.v (.bool (gp x))):=by
 have S:=uv x h1
 have T:=zR x hz
 have e:gp x=(decide ((ak x).length≤24)&&bR x):=rfl
 rw [e]
 simp only [aY] at S T ⊢
 (refine ai.enter Tryz.func91 rfl (by kernel_rfl) (by kernel_rfl) rfl (by first|rfl|(simp only [go_sem,Km,Kh,Kj])) (by first|rfl|(simp only [go_sem,Km,Kh,Kj])) ?_;simp only [Tryz.ntmps91,Tryz.results91,List.length_cons,List.length_nil,Nat.reduceAdd,Nat.reduceSub,Kn,Ko,List.cons_append,List.nil_append])
 repeat (first|(with_reducible first|refine ah.up ?_|refine fun (K:AK) hK=> ?_|(refine hK _ ?_;clear hK K))|simp only [go_sem]|clear hK K)
 refine aj.one S ?_
 repeat (first|(with_reducible first|refine ah.up ?_|refine fun (K:AK) hK=> ?_|(refine hK _ ?_;clear hK K))|simp only [go_sem]|clear hK K)
 refine aO.part (fun h=> ?_) (fun h=> ?_)
 ·repeat (first|(with_reducible first|refine ah.up ?_|refine fun (K:AK) hK=> ?_|(refine hK _ ?_;clear hK K))|simp only [go_sem,h]|clear hK K)
  refine aj.one T ?_
  repeat (first|(with_reducible first|refine ah.up ?_|refine fun (K:AK) hK=> ?_|(refine hK _ ?_;clear hK K))|simp only [go_sem,h]|clear hK K)
  have hd:decide ((ak x).length≤24)=true:=by (try simp only [decide_eq_true_eq,decide_eq_false_iff_not] at h);exact decide_eq_true (by omega)
  rw [hd,Kj]
 ·repeat (first|(with_reducible first|refine ah.up ?_|refine fun (K:AK) hK=> ?_|(refine hK _ ?_;clear hK K))|simp only [go_sem,h,Go.undef]|clear hK K)
  have hd:decide ((ak x).length≤24)=false:=by (try simp only [decide_eq_true_eq,decide_eq_false_iff_not] at h);exact decide_eq_false (by omega)
  rw [hd,KB]
end Go.Proofs.YtldnlbcibmmbbaaGreat
