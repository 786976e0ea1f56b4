/- tree.once of any iterator; slices.Values; slices.Index, Contains, told so; a nil slice in a box, seen as an own row without elements. -/
import Derived.Test.YtldnlbcibmmbbaaGreatWAbsV
import Derived.Test.YtldnlbcibmmbbaaGreatWGood
set_option linter.unusedSimpArgs false
set_option linter.unusedVariables false
open Bool renaming and_self → Km, not_eq_eq_eq_not → Ku, and_true → Kh, true_and → Kj
open List renaming getElem?_eq_some_iff → I0, getElem?_set_self → Jm, getElem?_set_ne → Jl, length_cons → I5, length_nil → IZ, replicate_succ → Kn, replicate_zero → Ko, cons_append → Kq, nil_append → Kr, foldl_cons → Ks, foldl_nil → Kt, length_map → JQ
namespace Go.Proofs.YtldnlbcibmmbbaaGreat
open Go.RowKit
section
variable {P:Program}
theorem ei {s:AS} {k i j:Nat} {ob:ab} {row:List AV} (T':TypeId) (z':Nat) (hz':0<z') (hk:s.o[k]? = some (some ob)) (hz:0<ob.z) (hr:ob.rows[i]? = some row) (hj:row[j]? = some (.v (.slice none 0 0))) :
  yx s (AS.mk s.t ((s.o++[some (ab.mk T' z' true [])]).set k (some { ob with rows:=ob.rows.set i (row.set j (.vec s.o.length 0)) })) s.y):=by
 intro f D nu a w hs
 have hv: ∀b,cG (Value.slice none 0 0)=some b→w.heap.size≤b:=fun b e=>by cases e
 have hp:=fw (nu:=nu) (o:=s.o) (ob:=⟨T',z',true,[]⟩) (Below.refl w.heap.size w) hv
 have hro:=kf (ob:=⟨T',z',true,[]⟩) hs.ro (Below.refl _ _) hv (.inl ⟨rfl,rfl,rfl⟩)
 have hlt:=(I0.1 hk).1
 have hk':(s.o++[some (⟨T',z',true,[]⟩:ab)])[k]? = some (some ob):=by rw [List.getElem?_append_left hlt];exact hk
 have hh:ob.hl=({ ob with rows:=ob.rows.set i (row.set j (.vec s.o.length 0)) }:ab).hl:=by simp [ab.hl]
 obtain ⟨g,cur,hb⟩: ∃g cur,uc D (dn nu s.o.length (.slice none 0 0)) (s.o++[some ⟨T',z',true,[]⟩]) w k ob g cur:=by
  rcases hro.obj k ob hk' with ⟨_,e,_⟩|h|⟨g,es,cl,hm⟩
  ·rw [e] at hr;simp at hr
  ·exact h
  ·have:=hm.z;omega
 have hm:=jP (nu:=dn nu s.o.length (.slice none 0 0)) (o:=s.o++[some ⟨T',z',true,[]⟩]) (w:=w) (w':=w) (ob':={ ob with rows:=ob.rows.set i (row.set j (.vec s.o.length 0)) }) hk' hh.symm hb.bq rfl rfl rfl rfl (fun _ _=>rfl)
 refine ⟨dn nu s.o.length (.slice none 0 0),hp.trans hm,rfl, ?_,(hs.tm.mono hp (fun _ _ h=>h)).mono hm (fun _ _ h=>h),hs.fR⟩
 have hil:=(I0.1 hr).1
 have hjl:=(I0.1 hj).1
 have key: ∀(i' j':Nat) r c,(ob.rows.set i (row.set j (.vec s.o.length 0)))[i']? = some r→r[j']? = some c→ ∃r0 c0,ob.rows[i']? = some r0∧r0[j']? = some c0∧(c=c0∨(c = .vec s.o.length 0∧c0 = .v (.slice none 0 0))):=by
  intro i' j' r c h1 h2
  by_cases hi:i=i'
  ·subst hi
   rw [Jm hil] at h1;cases h1
   by_cases hj':j=j'
   ·subst hj'
    rw [Jm hjl] at h2;cases h2
    exact ⟨row,_,hr,hj, .inr ⟨rfl,rfl⟩⟩
   ·rw [Jl hj'] at h2
    exact ⟨row,c,hr,h2, .inl rfl⟩
  ·rw [Jl hi] at h1
   exact ⟨r,c,h1,h2, .inl rfl⟩
 refine rK hro hk' hh.symm hb.bq hm (fun _ _=>rfl) (cur:=cur) ⟨hb.b7,hb.ke,fun hv'=> ?_,fun hv'=> ?_,hb.z,fun i' r hi'=> ?_,fun i' j' r c x h1 h2 h3=> ?_,fun i' j' r c x h1 h2 h3=> ?_⟩
 ·obtain ⟨q1,q2,q3⟩:=hb.box hv'
  exact ⟨q1,by simpa using q2,q3⟩
 ·obtain ⟨cap,q1,q2,q3,q4⟩:=hb.vec hv'
  exact ⟨cap,by simpa using q1,by simpa using q2,q3,q4⟩
 ·by_cases hi:i=i'
  ·subst hi
   rw [Jm hil] at hi';cases hi'
   rw [List.length_set];exact hb.row i row hr
  ·rw [Jl hi] at hi'
   exact hb.row i' r hi'
 ·obtain ⟨r0,c0,k1,k2,e⟩:=key i' j' r c h1 h2
  have h0:=hb.cell i' j' r0 c0 x k1 k2 h3
  rcases e with rfl|⟨rfl,rfl⟩
  ·exact h0.mono hm (fun _ _ h=>h)
  ·obtain rfl:=h0.bj
   have:=RA.vec (D:=D) (nu:=dn nu s.o.length (.slice none 0 0)) (o:=(s.o++[some (⟨T',z',true,[]⟩:ab)])) (w:=w) s.o.length 0 ⟨_,List.getElem?_concat_length,fun x hx=>Nat.zero_le _⟩ (by rw [bb];rfl)
   rw [bb] at this
   exact this.mono hm (fun _ _ h=>h)
 ·obtain ⟨r0,c0,k1,k2,_⟩:=key i' j' r c h1 h2
  exact hb.one i' j' r0 c0 x k1 k2 h3
end
theorem Dd (xs:List ByteArray) (s:ByteArray):ai Tryz.prog 70 [aB xs, .v (.string s)] (.v (.int .i64 (iT xs s))):=
 .fq (by kernel_rfl) (by simp only [bB,aB,AV.wf,cu,Km]) (fun D nu w vargs h=>by
  obtain ⟨x,y,rfl,hx,hy⟩:=ja h
  obtain rfl:=hy.bj
  exact (rb xs x s w (nH hx)).mono (fun e w' ⟨h1,h2⟩=>⟨h1,h2 ▸ Below.refl _ _⟩))
theorem vv (xs:List ByteArray) (s:ByteArray):ai Tryz.prog 94 [aB xs, .v (.string s)] (.v (.bool (hasB xs s))):=
 .fq (by kernel_rfl) (by simp only [bB,aB,AV.wf,cu,Km]) (fun D nu w vargs h=>by
  obtain ⟨x,y,rfl,hx,hy⟩:=ja h
  obtain rfl:=hy.bj
  exact (iX xs x s w (nH hx)).mono (fun e w' ⟨h1,h2⟩=>⟨h1,h2 ▸ Below.refl _ _⟩))
def mC (l:List ByteArray):List (List AV):=l.map (fun s=>[.v (.string s)])
theorem Cu {l:List ByteArray} {i:Nat} (h:i<l.length):mC (l.drop i)=[.v (.string l[i])] :: mC (l.drop (i+1)):=by
 rw [mC,List.drop_eq_getElem_cons h];rfl
set_option maxRecDepth 100000 in
set_option maxHeartbeats 4000000 in
theorem mV (xs:List ByteArray) (hl:xs.length≤1000000):uM Tryz.prog 104 [.vp [aB xs]] [] (mC xs):=by
 have e0:mC xs=mC (xs.drop 0):=by rw [List.drop_zero]
 rw [e0]
 (refine uM.enter Tryz.func104 rfl (by kernel_rfl) (by kernel_rfl) rfl (fun l=> ?_);simp only [Tryz.ntmps104,Tryz.results104,I5,IZ,Nat.reduceAdd,Nat.reduceSub,Kn,Ko,Kq,Kr])
 simp only [aB] at *
 repeat (first|(with_reducible first|refine ah.up ?_|refine fun (K:AK) hK=> ?_|(refine hK _ ?_;clear hK K))|simp only [go_sem]|with_reducible refine wA ?_|clear hK K)
 refine y4 (ι:=Nat) 8 (fun i=>[(7, .v (.int .i64 i)),(4, .undef)]) (fun i=>[]) (fun i=> .run l (mC (xs.drop i))) (fun i=>xs.length - i) (fun i=>i≤xs.length) 0 (by omega) ?_ ?_
 ·(refine au ?_ ?_ ?_<;>simp only [aD,Ks,Kt,Kn,Ko,bu,bt,AV.v.injEq,Value.int.injEq,Value.bool.injEq,Value.string.injEq,AV.vec.injEq,AV.ptr.injEq,true_or,or_true,false_or,or_false,ab.mk.injEq,forall_eq_apply_imp_iff,forall_eq,forall_eq',go_sem])
  rfl
 ·rintro i hi K hK
  repeat (first|(with_reducible first|refine ah.up ?_|refine fun (K:AK) hK=> ?_|(refine hK _ ?_;clear hK K))|simp only [go_sem]|with_reducible refine wA ?_|clear hK K)
  refine aO.part (fun h=> ?_) (fun h=> ?_)
  ·have hlt:i<xs.length:=by (try simp only [bne_iff_ne,ne_eq,bne_eq_false_iff_eq,beq_iff_eq,beq_eq_false_iff_ne,decide_eq_true_eq,decide_eq_false_iff_not,Ku,Int.natCast_inj,Int.ofNat_lt,Int.ofNat_le] at h);omega
   have eW:=ar (k:=i) (by omega)
   have eG:=getD_map aT xs i [] hlt
   have eY:=Cu hlt
   simp only [aT] at eG
   repeat' (first|(with_reducible first|refine ah.up ?_|refine fun (K:AK) hK=> ?_|(refine hK _ ?_;clear hK K))|simp only [go_sem,eG,eW,eY,Go.undef]|with_reducible refine wA ?_|clear hK K|(with_reducible refine aj.one (by assumption) ?_)|(with_reducible refine aw.one (by assumption) ?_)|(refine aO.part (fun hb=> ?_) (fun hb=> ?_)<;>simp only [hb,go_sem,eG,eW,eY,Go.undef])|(refine aO.part (fun hb=> ?_) (fun hb=> ?_))|(with_reducible refine bH.mk ?_ ?_))
   ·exact aC.mk (i+1) (by omega) (by omega) (by (refine au ?_ ?_ ?_<;>simp only [aD,Ks,Kt,Kn,Ko,bu,bt,AV.v.injEq,Value.int.injEq,Value.bool.injEq,Value.string.injEq,AV.vec.injEq,AV.ptr.injEq,true_or,or_true,false_or,or_false,ab.mk.injEq,forall_eq_apply_imp_iff,forall_eq,forall_eq',go_sem]))
   ·exact .inr trivial
  ·have e1:xs.drop i=[]:=List.drop_eq_nil_of_le (by (try simp only [bne_iff_ne,ne_eq,bne_eq_false_iff_eq,beq_iff_eq,beq_eq_false_iff_ne,decide_eq_true_eq,decide_eq_false_iff_not,Ku,Int.natCast_inj,Int.ofNat_lt,Int.ofNat_le] at h);omega)
   simp only [e1,mC,List.map_nil]
   repeat (first|(with_reducible first|refine ah.up ?_|refine fun (K:AK) hK=> ?_|(refine hK _ ?_;clear hK K))|simp only [go_sem]|with_reducible refine wA ?_|clear hK K)
   exact .inl trivial
set_option maxRecDepth 100000 in
theorem qV (l:List ByteArray):ai Tryz.prog 68 [aB l] (.fn 104 [] [.vp [aB l]]):=by
 simp only [aB] at *
 (refine ai.enter Tryz.func68 rfl (by kernel_rfl) (by kernel_rfl) rfl (by first|rfl|(simp only [go_sem,Km,Kh,Kj])) (by first|rfl|(simp only [go_sem,Km,Kh,Kj])) ?_;simp only [Tryz.ntmps68,Tryz.results68,I5,IZ,Nat.reduceAdd,Nat.reduceSub,Kn,Ko,Kq,Kr])
 repeat' (first|(with_reducible first|refine ah.up ?_|refine fun (K:AK) hK=> ?_|(refine hK _ ?_;clear hK K))|simp only [go_sem]|clear hK K|(with_reducible refine aj.one (by assumption) ?_)|(with_reducible refine aw.one (by assumption) ?_)|(refine aO.part (fun hb=> ?_) (fun hb=> ?_)<;>simp only [hb,go_sem])|(refine aO.part (fun hb=> ?_) (fun hb=> ?_))|(with_reducible refine bH.mk ?_ ?_))
 (refine ju.of 40 rfl ?_;simp only [go_sem])
set_option maxRecDepth 100000 in
set_option maxHeartbeats 4000000 in
theorem Be {gf:FuncId} {caps:List AV} (l:List ByteArray) (hl:l.length≤1000000) (hs:uM Tryz.prog gf caps [] (mC l)) (hw:bB 0 caps=true):ai Tryz.prog 59 [.fn gf [] caps] (aB (aA l)):=by
 (refine ai.enter Tryz.func59 rfl (by kernel_rfl) (by kernel_rfl) rfl (by simp only [go_sem,bB,AV.wf,Km,Kh,Kj,hw]) (by simp only [go_sem,bB,AV.wf,cu,Km,Kh,Kj,hw]) ?_;simp only [Tryz.ntmps59,Tryz.results59,I5,IZ,Nat.reduceAdd,Nat.reduceSub,Kn,Ko,Kq,Kr])
 repeat (first|(with_reducible first|refine ah.up ?_|refine fun (K:AK) hK=> ?_|(refine hK _ ?_;clear hK K))|simp only [go_sem]|with_reducible refine wA ?_|clear hK K)
 refine qU (ei (k:=0) (i:=0) (j:=0) 9 1 (by decide) rfl (by decide) rfl rfl) (by kernel_rfl) ?_
 simp only [I5,IZ,Nat.reduceAdd,Kq,Kr,List.set_cons_zero]
 refine wJ hs 3 (fun k=>[some ⟨38,1,false,[[.vec 1 (aA (l.take k)).length]]⟩,some ⟨9,1,true,(aA (l.take k)).map aT⟩]) (fun _=>True) trivial ?_ ?_ ?_ (by kernel_rfl) (by kernel_rfl) ?_ ?_ ?_
 ·repeat (first|(with_reducible first|refine ah.up ?_|refine fun (K:AK) hK=> ?_|(refine hK _ ?_;clear hK K))|simp only [go_sem]|with_reducible refine wA ?_|clear hK K)
 ·exact hw
 ·(refine au ?_ ?_ ?_<;>simp only [aD,Ks,Kt,Kn,Ko,bu,bt,AV.v.injEq,Value.int.injEq,Value.bool.injEq,Value.string.injEq,AV.vec.injEq,AV.ptr.injEq,true_or,or_true,false_or,or_false,ab.mk.injEq,forall_eq_apply_imp_iff,forall_eq,forall_eq',go_sem])
  ·exact dT (by omega) _ hw
  ·exact ⟨rfl,rfl⟩
 ·intro x hx
  obtain ⟨o,_,rfl⟩:=List.mem_map.1 hx
  rfl
 ·intro k x hk hx
  obtain ⟨hlt,hx⟩: ∃h:k<l.length,x=[.v (.string l[k])]:=by
   have:=(I0.1 hx)
   obtain ⟨h1,h2⟩:=this
   simp only [mC,JQ] at h1
   exact ⟨h1,by rw [←h2];simp [mC]⟩
  subst hx
  have C:=vv (aA (l.take k)) l[k]
  have hS:=oN (l.take k) l[k]
  rw [←List.take_succ_eq_append_getElem hlt] at hS
  have hn:(aA (l.take k)).length≤1000000:=by have:=kg (l.take k);simp at this;omega
  simp only [aB] at C
  have hw2:bB 2 caps=true:=dT (by omega) _ hw
  repeat (first|(with_reducible first|refine ah.up ?_|refine fun (K:AK) hK=> ?_|(refine hK _ ?_;clear hK K))|simp only [go_sem]|with_reducible refine wA ?_|clear hK K)
  refine aj.AH C 6 rfl (by simp only [go_sem,cu,JQ]) rfl ?_
  cases hh:hasB (aA (l.take k)) l[k]
  ·rw [hh] at hS
   simp only [Bool.false_eq_true,if_false] at hS
   have eL:(aA (l.take (k+1))).length=(aA (l.take k)).length+1:=by rw [hS];simp
   have eM:(aA (l.take (k+1))).map aT=(aA (l.take k)).map aT++[[.v (.string l[k])]]:=by rw [hS];simp [aT]
   repeat (first|(with_reducible first|refine ah.up ?_|refine fun (K:AK) hK=> ?_|(refine hK _ ?_;clear hK K))|simp only [go_sem]|with_reducible refine wA ?_|clear hK K)
   rw [eL,eM]
   (refine au ?_ ?_ ?_<;>simp only [aD,Ks,Kt,Kn,Ko,bu,bt,AV.v.injEq,Value.int.injEq,Value.bool.injEq,Value.string.injEq,AV.vec.injEq,AV.ptr.injEq,true_or,or_true,false_or,or_false,ab.mk.injEq,forall_eq_apply_imp_iff,forall_eq,forall_eq',go_sem])
   all_goals first|exact hw2|(rw [←eM];simp only [cu])
  ·rw [hh] at hS
   simp only [if_true] at hS
   repeat (first|(with_reducible first|refine ah.up ?_|refine fun (K:AK) hK=> ?_|(refine hK _ ?_;clear hK K))|simp only [go_sem]|with_reducible refine wA ?_|clear hK K)
   rw [hS]
   (refine au ?_ ?_ ?_<;>simp only [aD,Ks,Kt,Kn,Ko,bu,bt,AV.v.injEq,Value.int.injEq,Value.bool.injEq,Value.string.injEq,AV.vec.injEq,AV.ptr.injEq,true_or,or_true,false_or,or_false,ab.mk.injEq,forall_eq_apply_imp_iff,forall_eq,forall_eq',go_sem])
   all_goals first|exact hw2|skip
 ·intro _
  have e1:l.take (mC l).length=l:=by rw [mC,JQ,List.take_length]
  repeat (first|(with_reducible first|refine ah.up ?_|refine fun (K:AK) hK=> ?_|(refine hK _ ?_;clear hK K))|simp only [go_sem,e1]|with_reducible refine wA ?_|clear hK K)
  (refine ju.of 40 rfl ?_;simp only [go_sem])
end Go.Proofs.YtldnlbcibmmbbaaGreat
