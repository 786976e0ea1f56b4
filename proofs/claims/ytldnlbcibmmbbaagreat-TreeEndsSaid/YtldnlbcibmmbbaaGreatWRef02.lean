/- The document's names (ref02): the walks. -/
import Derived.Test.YtldnlbcibmmbbaaGreatWTy
import Derived.Test.YtldnlbcibmmbbaaGreatWEnc
import Derived.Test.YtldnlbcibmmbbaaGreatWValue
set_option linter.unusedSimpArgs false
set_option linter.unusedVariables false
open Bool renaming and_self → Km, and_true → Kh, true_and → Kj, not_eq_eq_eq_not → Ku
open Int renaming natCast_inj → Kv, ofNat_lt → Kw, ofNat_le → Kx
open List renaming length_cons → I5, length_nil → IZ, replicate_succ → Kn, replicate_zero → Ko, cons_append → Kq, nil_append → Kr, foldl_cons → Ks, foldl_nil → Kt
namespace Go.Proofs.YtldnlbcibmmbbaaGreat
open Go.RowKit
set_option maxRecDepth 100000 in
theorem qe (c:Int):ai Tryz.prog 97 [.v (.int .u8 c)] (.v (.bool (jy c))):=by
 unfold jy
 (refine ai.enter Tryz.func97 rfl (by kernel_rfl) (by kernel_rfl) rfl (by first|rfl|(simp only [go_sem,Km,Kh,Kj])) (by first|rfl|(simp only [go_sem,Km,Kh,Kj])) ?_;simp only [Tryz.ntmps97,Tryz.results97,I5,IZ,Nat.reduceAdd,Nat.reduceSub,Kn,Ko,Kq,Kr])
 repeat (first|(with_reducible first|refine ah.up ?_|refine fun (K:AK) hK=> ?_|(refine hK _ ?_;clear hK K))|simp only [go_sem]|clear hK K)
 refine aO.part (fun h=> ?_) (fun h=> ?_)
 ·repeat (first|(with_reducible first|refine ah.up ?_|refine fun (K:AK) hK=> ?_|(refine hK _ ?_;clear hK K))|simp only [go_sem,h]|clear hK K)
 ·repeat (first|(with_reducible first|refine ah.up ?_|refine fun (K:AK) hK=> ?_|(refine hK _ ?_;clear hK K))|simp only [go_sem,h]|clear hK K)
set_option maxRecDepth 100000 in
theorem AD (c:Int):ai Tryz.prog 116 [.v (.int .u8 c)] (.v (.bool (dI c))):=by
 have L:=qe c
 (refine ai.enter Tryz.func116 rfl (by kernel_rfl) (by kernel_rfl) rfl (by first|rfl|(simp only [go_sem,Km,Kh,Kj])) (by first|rfl|(simp only [go_sem,Km,Kh,Kj])) ?_;simp only [Tryz.ntmps116,Tryz.results116,I5,IZ,Nat.reduceAdd,Nat.reduceSub,Kn,Ko,Kq,Kr])
 repeat (first|(with_reducible first|refine ah.up ?_|refine fun (K:AK) hK=> ?_|(refine hK _ ?_;clear hK K))|simp only [go_sem]|clear hK K)
 refine aj.one L ?_
 repeat (first|(with_reducible first|refine ah.up ?_|refine fun (K:AK) hK=> ?_|(refine hK _ ?_;clear hK K))|simp only [go_sem]|clear hK K)
 refine aO.part (fun h=> ?_) (fun h=> ?_)
 ·repeat (first|(with_reducible first|refine ah.up ?_|refine fun (K:AK) hK=> ?_|(refine hK _ ?_;clear hK K))|simp only [go_sem,h,Go.undef]|clear hK K)
  rw [dI,h];rfl
 ·repeat (first|(with_reducible first|refine ah.up ?_|refine fun (K:AK) hK=> ?_|(refine hK _ ?_;clear hK K))|simp only [go_sem,h,Go.undef]|clear hK K)
  refine aO.part (fun h2=> ?_) (fun h2=> ?_)
  ·repeat (first|(with_reducible first|refine ah.up ?_|refine fun (K:AK) hK=> ?_|(refine hK _ ?_;clear hK K))|simp only [go_sem,h,h2,Go.undef]|clear hK K)
   refine aO.part (fun h3=> ?_) (fun h3=> ?_)
   ·repeat (first|(with_reducible first|refine ah.up ?_|refine fun (K:AK) hK=> ?_|(refine hK _ ?_;clear hK K))|simp only [go_sem,h,h2,h3,Go.undef]|clear hK K)
    rw [dI,h,h2,h3];simp
   ·repeat (first|(with_reducible first|refine ah.up ?_|refine fun (K:AK) hK=> ?_|(refine hK _ ?_;clear hK K))|simp only [go_sem,h,h2,h3,Go.undef]|clear hK K)
    rw [dI,h,h2,h3];simp
  ·repeat (first|(with_reducible first|refine ah.up ?_|refine fun (K:AK) hK=> ?_|(refine hK _ ?_;clear hK K))|simp only [go_sem,h,h2,Go.undef]|clear hK K)
   rw [dI,h,h2];simp
theorem lI (s:ByteArray) (k:Nat) (h:k<s.size):fJ s k=s[k].toNat:=by
 unfold fJ
 rw [List.getD_eq_getElem?_getD,List.getElem?_eq_getElem (by simpa using h)]
 simp [ByteArray.getElem_eq_getElem_data]
set_option maxRecDepth 100000 in
set_option maxHeartbeats 2000000 in
theorem vR (s:ByteArray) (hs:s.size≤1000000000000000):ai Tryz.prog 96 [.v (.string s)] (.v (.bool (gJ s))):=by
 (refine ai.enter Tryz.func96 rfl (by kernel_rfl) (by kernel_rfl) rfl (by first|rfl|(simp only [go_sem,Km,Kh,Kj])) (by first|rfl|(simp only [go_sem,Km,Kh,Kj])) ?_;simp only [Tryz.ntmps96,Tryz.results96,I5,IZ,Nat.reduceAdd,Nat.reduceSub,Kn,Ko,Kq,Kr])
 repeat (first|(with_reducible first|refine ah.up ?_|refine fun (K:AK) hK=> ?_|(refine hK _ ?_;clear hK K))|simp only [go_sem]|with_reducible refine wA ?_|clear hK K)
 refine aZ (ι:=Nat) (fun i=>[(0, .v (.string s)),(2, .v (.bool false)),(3, .v (.int .i64 i))]) (fun _=>[]) (fun i=>s.size - i) (fun i=>i≤s.size∧ ∀j (h:j<s.size),j<i→dI s[j].toNat=true) 0 ⟨by omega,fun j _ h=>absurd h (by omega)⟩ ?_ ?_
 ·(refine au ?_ ?_ ?_<;>simp only [aD,Ks,Kt,Kn,Ko,bu,bt,AV.v.injEq,Value.int.injEq,Value.bool.injEq,Value.string.injEq,AV.vec.injEq,AV.ptr.injEq,true_or,or_true,false_or,or_false,ab.mk.injEq,forall_eq_apply_imp_iff,forall_eq,forall_eq',go_sem])
  rfl
 ·rintro i ⟨hi,hP⟩ K hK
  simp only [aD,Ks,Kt,Kn,Ko,go_sem]
  repeat (first|(with_reducible first|refine ah.up ?_|refine fun (K:AK) hK=> ?_|(refine hK _ ?_;clear hK K))|simp only [go_sem]|with_reducible refine wA ?_|clear hK K)
  refine aO.part (fun h=> ?_) (fun h=> ?_)
  ·have hlt:i<s.size:=by (try simp only [bne_iff_ne,ne_eq,bne_eq_false_iff_eq,beq_iff_eq,beq_eq_false_iff_ne,decide_eq_true_eq,decide_eq_false_iff_not,Ku,Kv,Kw,Kx] at h);omega
   have eW:=ar (k:=i) (by omega)
   have S:=AD (fJ s i)
   repeat (first|(with_reducible first|refine ah.up ?_|refine fun (K:AK) hK=> ?_|(refine hK _ ?_;clear hK K))|simp only [go_sem]|with_reducible refine wA ?_|clear hK K)
   refine aj.one S ?_
   repeat (first|(with_reducible first|refine ah.up ?_|refine fun (K:AK) hK=> ?_|(refine hK _ ?_;clear hK K))|simp only [go_sem]|with_reducible refine wA ?_|clear hK K)
   refine aO.part (fun h2=> ?_) (fun h2=> ?_)
   ·repeat (first|(with_reducible first|refine ah.up ?_|refine fun (K:AK) hK=> ?_|(refine hK _ ?_;clear hK K))|simp only [go_sem,eW]|with_reducible refine wA ?_|clear hK K)
    exact aC.mk (i+1) ⟨by omega,fun j hj h3=>(by
     rcases Nat.lt_or_ge j i with q|q
     ·exact hP j hj q
     ·obtain rfl:j=i:=by omega
      rw [←lI s j hj];exact h2)⟩ (by omega) (by (refine au ?_ ?_ ?_<;>simp only [aD,Ks,Kt,Kn,Ko,bu,bt,AV.v.injEq,Value.int.injEq,Value.bool.injEq,Value.string.injEq,AV.vec.injEq,AV.ptr.injEq,true_or,or_true,false_or,or_false,ab.mk.injEq,forall_eq_apply_imp_iff,forall_eq,forall_eq',go_sem]))
   ·repeat (first|(with_reducible first|refine ah.up ?_|refine fun (K:AK) hK=> ?_|(refine hK _ ?_;clear hK K))|simp only [go_sem,h2]|with_reducible refine wA ?_|clear hK K)
    have e:gJ s=false:=by
     rw [←Bool.not_eq_true,gJ,Bool.and_eq_true,Bool.and_eq_true,dw]
     intro hh
     have:=hh.1.1 i hlt
     rw [←lI s i hlt,h2] at this
     cases this
    rw [e]
  ·have he:i=s.size:=by (try simp only [bne_iff_ne,ne_eq,bne_eq_false_iff_eq,beq_iff_eq,beq_eq_false_iff_ne,decide_eq_true_eq,decide_eq_false_iff_not,Ku,Kv,Kw,Kx] at h);omega
   have ea:s.data.toList.all (fun b=>dI b.toNat)=true:=(dw _ _).2 (fun j hj=>hP j hj (by omega))
   repeat (first|(with_reducible first|refine ah.up ?_|refine fun (K:AK) hK=> ?_|(refine hK _ ?_;clear hK K))|simp only [go_sem]|with_reducible refine wA ?_|clear hK K)
   refine aO.part (fun h3=> ?_) (fun h3=> ?_)
   ·repeat (first|(with_reducible first|refine ah.up ?_|refine fun (K:AK) hK=> ?_|(refine hK _ ?_;clear hK K))|simp only [go_sem,h3]|with_reducible refine wA ?_|clear hK K)
    have h4:1≤s.size:=by (try simp only [bne_iff_ne,ne_eq,bne_eq_false_iff_eq,beq_iff_eq,beq_eq_false_iff_ne,decide_eq_true_eq,decide_eq_false_iff_not,Ku,Kv,Kw,Kx] at h3);omega
    rw [gJ,ea,decide_eq_true h4]
    simp
    omega
   ·repeat (first|(with_reducible first|refine ah.up ?_|refine fun (K:AK) hK=> ?_|(refine hK _ ?_;clear hK K))|simp only [go_sem,h3,Go.undef]|with_reducible refine wA ?_|clear hK K)
    rw [gJ,ea]
    (try simp only [bne_iff_ne,ne_eq,bne_eq_false_iff_eq,beq_iff_eq,beq_eq_false_iff_ne,decide_eq_true_eq,decide_eq_false_iff_not,Ku,Kv,Kw,Kx] at h3)
    simp;omega
theorem fm {s w:ByteArray} (hw:w∈words) (h:(s.toList==w.toList)=true):cz s=false:=by
 have e:words.any (fun x=>dr s x)=true:=List.any_eq_true.2 ⟨w,hw,h⟩
 rw [cz,e];simp
set_option maxRecDepth 100000 in
set_option maxHeartbeats 2000000 in
theorem gK (s:ByteArray) (hs:s.size≤1000000000000000):ai Tryz.prog 55 [.v (.string s)] (.v (.bool (cz s))):=by
 have V:=vR s hs
 (refine ai.enter Tryz.func55 rfl (by kernel_rfl) (by kernel_rfl) rfl (by first|rfl|(simp only [go_sem,Km,Kh,Kj])) (by first|rfl|(simp only [go_sem,Km,Kh,Kj])) ?_;simp only [Tryz.ntmps55,Tryz.results55,I5,IZ,Nat.reduceAdd,Nat.reduceSub,Kn,Ko,Kq,Kr])
 repeat (first|(with_reducible first|refine ah.up ?_|refine fun (K:AK) hK=> ?_|(refine hK _ ?_;clear hK K))|simp only [go_sem]|with_reducible refine wA ?_|clear hK K)
 refine aj.one V ?_
 repeat (first|(with_reducible first|refine ah.up ?_|refine fun (K:AK) hK=> ?_|(refine hK _ ?_;clear hK K))|simp only [go_sem]|with_reducible refine wA ?_|clear hK K)
 cases hv:gJ s with
 | false=>
  repeat (first|(with_reducible first|refine ah.up ?_|refine fun (K:AK) hK=> ?_|(refine hK _ ?_;clear hK K))|simp only [go_sem,hv,Go.undef]|with_reducible refine wA ?_|clear hK K)
  rw [cz,hv];rfl
 | true=>
  have hz:=oR hv
  have L:=qe (fJ s 0)
  have e0:kU s=(fJ s 0:Nat):=by rw [lI s 0 hz.1];simp [kU,hz.1]
  repeat (first|(with_reducible first|refine ah.up ?_|refine fun (K:AK) hK=> ?_|(refine hK _ ?_;clear hK K))|simp only [go_sem,hv]|with_reducible refine wA ?_|clear hK K)
  refine aj.one L ?_
  repeat (first|(with_reducible first|refine ah.up ?_|refine fun (K:AK) hK=> ?_|(refine hK _ ?_;clear hK K))|simp only [go_sem,hv]|with_reducible refine wA ?_|clear hK K)
  refine aO.part (fun h1=> ?_) (fun h1=> ?_)
  ·repeat (first|(with_reducible first|refine ah.up ?_|refine fun (K:AK) hK=> ?_|(refine hK _ ?_;clear hK K))|simp only [go_sem,h1]|with_reducible refine wA ?_|clear hK K)
   refine aO.part (fun w1=> ?_) (fun w1=> ?_)
   ·repeat (first|(with_reducible first|refine ah.up ?_|refine fun (K:AK) hK=> ?_|(refine hK _ ?_;clear hK K))|simp only [go_sem,w1]|with_reducible refine wA ?_|clear hK K)
    rw [fm (.head _) w1]
   ·repeat (first|(with_reducible first|refine ah.up ?_|refine fun (K:AK) hK=> ?_|(refine hK _ ?_;clear hK K))|simp only [go_sem,w1]|with_reducible refine wA ?_|clear hK K)
    refine aO.part (fun w2=> ?_) (fun w2=> ?_)
    ·repeat (first|(with_reducible first|refine ah.up ?_|refine fun (K:AK) hK=> ?_|(refine hK _ ?_;clear hK K))|simp only [go_sem,w2]|with_reducible refine wA ?_|clear hK K)
     rw [fm (.tail _ (.head _)) w2]
    ·repeat (first|(with_reducible first|refine ah.up ?_|refine fun (K:AK) hK=> ?_|(refine hK _ ?_;clear hK K))|simp only [go_sem,w2]|with_reducible refine wA ?_|clear hK K)
     refine aO.part (fun w3=> ?_) (fun w3=> ?_)
     ·repeat (first|(with_reducible first|refine ah.up ?_|refine fun (K:AK) hK=> ?_|(refine hK _ ?_;clear hK K))|simp only [go_sem,w3]|with_reducible refine wA ?_|clear hK K)
      rw [fm (.tail _ (.tail _ (.head _))) w3]
     ·repeat (first|(with_reducible first|refine ah.up ?_|refine fun (K:AK) hK=> ?_|(refine hK _ ?_;clear hK K))|simp only [go_sem,w3]|with_reducible refine wA ?_|clear hK K)
      refine aO.part (fun w4=> ?_) (fun w4=> ?_)
      ·repeat (first|(with_reducible first|refine ah.up ?_|refine fun (K:AK) hK=> ?_|(refine hK _ ?_;clear hK K))|simp only [go_sem,w4]|with_reducible refine wA ?_|clear hK K)
       rw [fm (.tail _ (.tail _ (.tail _ (.head _)))) w4]
      ·repeat (first|(with_reducible first|refine ah.up ?_|refine fun (K:AK) hK=> ?_|(refine hK _ ?_;clear hK K))|simp only [go_sem,w4]|with_reducible refine wA ?_|clear hK K)
       refine aO.part (fun w5=> ?_) (fun w5=> ?_)
       ·repeat (first|(with_reducible first|refine ah.up ?_|refine fun (K:AK) hK=> ?_|(refine hK _ ?_;clear hK K))|simp only [go_sem,w5]|with_reducible refine wA ?_|clear hK K)
        rw [fm (.tail _ (.tail _ (.tail _ (.tail _ (.head _))))) w5]
       ·repeat (first|(with_reducible first|refine ah.up ?_|refine fun (K:AK) hK=> ?_|(refine hK _ ?_;clear hK K))|simp only [go_sem,w5]|with_reducible refine wA ?_|clear hK K)
        refine aO.part (fun w6=> ?_) (fun w6=> ?_)
        ·repeat (first|(with_reducible first|refine ah.up ?_|refine fun (K:AK) hK=> ?_|(refine hK _ ?_;clear hK K))|simp only [go_sem,w6]|with_reducible refine wA ?_|clear hK K)
         rw [fm (.tail _ (.tail _ (.tail _ (.tail _ (.tail _ (.head _)))))) w6]
        ·repeat (first|(with_reducible first|refine ah.up ?_|refine fun (K:AK) hK=> ?_|(refine hK _ ?_;clear hK K))|simp only [go_sem,w6]|with_reducible refine wA ?_|clear hK K)
         refine aO.part (fun w7=> ?_) (fun w7=> ?_)
         ·repeat (first|(with_reducible first|refine ah.up ?_|refine fun (K:AK) hK=> ?_|(refine hK _ ?_;clear hK K))|simp only [go_sem,w7]|with_reducible refine wA ?_|clear hK K)
          rw [fm (.tail _ (.tail _ (.tail _ (.tail _ (.tail _ (.tail _ (.head _))))))) w7]
         ·repeat (first|(with_reducible first|refine ah.up ?_|refine fun (K:AK) hK=> ?_|(refine hK _ ?_;clear hK K))|simp only [go_sem,w7]|with_reducible refine wA ?_|clear hK K)
          rw [cz,hv,e0,h1]
          simp only [words,List.any_cons,List.any_nil,dr,w1,w2,w3,w4,w5,w6,w7]
          rfl
  ·repeat (first|(with_reducible first|refine ah.up ?_|refine fun (K:AK) hK=> ?_|(refine hK _ ?_;clear hK K))|simp only [go_sem,h1]|with_reducible refine wA ?_|clear hK K)
   rw [cz,hv,e0,h1];rfl
end Go.Proofs.YtldnlbcibmmbbaaGreat
