/- texts of one claim, one behind the other. -/
import Derived.Test.YtlhhccmopfamhaaGreatDoorWPart
import Derived.Shelf.Strconv.Itoa3
import Derived.Shelf.Strings.BuilderK
import Derived.Lib.AppendIntMem
import Derived.Test.YtlhhccmopfamhaaGreatDoorWHeapP
set_option linter.unusedSimpArgs false
set_option linter.unusedVariables false
set_option maxRecDepth 100000
set_option maxHeartbeats 16000000
open BitVec renaming getLsbD_and -> UZ
open Bool renaming and_self -> UM, and_true -> Um, true_and -> Us, and_eq_true -> TY, not_eq_eq_eq_not -> UR, eq_iff_iff -> Vc
open Int renaming natCast_inj -> VF, ofNat_lt -> VE, ofNat_le -> VG
open List renaming length_cons -> Tc, length_nil -> S6, replicate_succ -> UN, replicate_zero -> UO, cons_append -> UP, nil_append -> UQ, getD_eq_getElem?_getD -> T3, foldl_append -> Vt, foldl_cons -> UG, foldl_nil -> UH, take_succ_eq_append_getElem -> VB, mem_cons -> Uv, eq_nil_of_length_eq_zero -> TL, exists_mem_of_ne_nil -> VH, length_append -> Tb, mem_cons_of_mem -> T8, mem_cons_self -> Ua, eq_nil_iff_forall_not_mem -> VI, getElem?_eq_getElem -> Tn, getElem_mem -> Uy, getElem?_set_self -> Tw, getElem?_eq_some_iff -> S7, getElem?_set_ne -> Tv, contains_iff_mem -> VJ
open Option renaming map_eq_some_iff -> TS
namespace Go.Proofs.YtlhhccmopfamhaaGreatDoor
open Go.RowKit
def fO (s:bE):List AV:= .aI 1 (s.ae.map encS) s.ae.length :: (s.fs.map ay++[ay s.la, .v (.bool s.em)])
theorem vE (n:Nat) (s:bE):ba n (fO s)=true:=by simp only [fO,ay,ba,AV.wf,Ap,dc,UM]
attribute [go_sem] vE
theorem K4 (s:bE):af Tryz.prog 153 [.vp (fO s)] (.v (.int .i64 s.ae.length)):=by
 simp only [fO,ay]
 (refine af.enter Tryz.func153 rfl (by kernel_rfl) (by kernel_rfl) rfl (by first|rfl|(simp only [go_sem,UM,Um,Us])) (by first|rfl|(simp only [go_sem,UM,Um,Us])) ?_;simp only [Tryz.ntmps153,Tryz.results153,Tc,S6,Nat.reduceAdd,Nat.reduceSub,UN,UO,UP,UQ])
 repeat' (first|(with_reducible first|refine ag.up ?_|refine fun (K:AK) hK=> ?_|(refine hK _ ?_;clear hK K))|simp only [go_sem]|clear hK K|(with_reducible refine ab.one (by assumption) ?_)|(with_reducible refine bt.one (by assumption) ?_)|(refine fU.part (fun hb=> ?_) (fun hb=> ?_)<;>simp only [hb,go_sem])|(refine fU.part (fun hb=> ?_) (fun hb=> ?_))|(with_reducible refine jI.mk ?_ ?_))
theorem Ja (s:bE) (hf:s.fs.length=25):af Tryz.prog 117 [.vp (fO s)] (.aI 1 (aM (ai s.la)) (ai s.la).length):=by
 have C:=FH s.la
 have eD:List.drop 25 (s.fs.map ay++[.v (.int .u32 s.la.toNat), .v (.bool s.em)])=[.v (.int .u32 s.la.toNat), .v (.bool s.em)]:=by rw [List.drop_append_of_le_length (by simp [hf]),List.drop_eq_nil_of_le (by simp [hf])];rfl
 simp only [fO,ay] at *
 (refine af.enter Tryz.func117 rfl (by kernel_rfl) (by kernel_rfl) rfl (by first|rfl|(simp only [go_sem,UM,Um,Us])) (by first|rfl|(simp only [go_sem,UM,Um,Us])) ?_;simp only [Tryz.ntmps117,Tryz.results117,Tc,S6,Nat.reduceAdd,Nat.reduceSub,UN,UO,UP,UQ])
 repeat (first|(with_reducible first|refine ag.up ?_|refine fun (K:AK) hK=> ?_|(refine hK _ ?_;clear hK K))|simp only [go_sem,eD]|clear hK K)
 refine ab.one C ?_
 repeat (first|(with_reducible first|refine ag.up ?_|refine fun (K:AK) hK=> ?_|(refine hK _ ?_;clear hK K))|simp only [go_sem]|clear hK K)
 (refine nq.of 40 rfl ?_;simp only [go_sem])
theorem FP (s:bE) (hf:s.fs.length=25):af Tryz.prog 122 [.vp (fO s)] (.v (.bool s.em)):=by
 have eD:List.drop 26 (s.fs.map ay++[.v (.int .u32 s.la.toNat), .v (.bool s.em)])=[.v (.bool s.em)]:=by
  rw [show 26=s.fs.length+1 by omega,show (s.fs.length+1)=(s.fs.map ay).length+1 by simp,List.drop_append];simp
 simp only [fO,ay] at *
 (refine af.enter Tryz.func122 rfl (by kernel_rfl) (by kernel_rfl) rfl (by first|rfl|(simp only [go_sem,UM,Um,Us])) (by first|rfl|(simp only [go_sem,UM,Um,Us])) ?_;simp only [Tryz.ntmps122,Tryz.results122,Tc,S6,Nat.reduceAdd,Nat.reduceSub,UN,UO,UP,UQ])
 repeat (first|(with_reducible first|refine ag.up ?_|refine fun (K:AK) hK=> ?_|(refine hK _ ?_;clear hK K))|simp only [go_sem,eD,Go.undef]|clear hK K)
def e9 (s:bE) (p:Int):ByteArray:=if 1<=p∧p<=s.ae.length then s.ae.getD (p - 1).toNat ⟨#[]⟩ else ⟨#[]⟩
def Rq (s:bE) (p:Int):List Nat:=if 1<=p∧p<=s.ae.length then ai (s.fs.getD p.toNat 0#32) else []
theorem CR {s:bE} {p:Int} (h1:1<=p) (h2:p<=s.ae.length):(s.ae.map encS).getD (p - 1).toNat []=[.v (.string (e9 s p))]:=by
 have hlt:(p - 1).toNat<s.ae.length:=by omega
 rw [e9,if_pos ⟨h1,h2⟩];rw [T3,T3,List.getElem?_map,List.getElem?_eq_getElem hlt];rfl
theorem Fb {fs:List (BitVec 32)} {X:List AV} {p:Nat} (h:p<fs.length): ∃r,(fs.map ay++X).drop (p * 1)=ay (fs.getD p 0#32) :: r:=by
 obtain ⟨r,e⟩:=A6 (l:= .undef) (X:=X) h;rw [Nat.add_comm,List.drop_succ_cons] at e;exact ⟨r,e⟩
def l9 (s:bE) (l:List Nat):BitVec 32:=l.foldl (fun t p=>t ||| s.fs.getD p 0#32) 0#32
def qI (s:bE) (lab:ByteArray) (t:BitVec 32) (p:Nat):BitVec 32:=if (e9 s p).toList==lab.toList then t else t &&& ~~~ ofM p
def jN (s:bE) (lab:ByteArray) (l:List Nat) (t:BitVec 32):BitVec 32:=l.foldl (qI s lab) t
def gQ (s:bE) (aG:BitVec 32) (lab:ByteArray):BitVec 32:=jN s lab (ai (l9 s (ai aG))) (l9 s (ai aG))
theorem Dd (s:bE) (l:List Nat) (p:Nat):l9 s (l++[p])=l9 s l ||| s.fs.getD p 0#32:=by rw [l9,Vt];rfl
theorem zE (s:bE) (lab:ByteArray) (l:List Nat) (t:BitVec 32) (p:Nat):jN s lab (l++[p]) t=qI s lab (jN s lab l t) p:=by rw [jN,Vt];rfl
theorem LD (s:bE) (fr:BitVec 32) (lab:ByteArray) (hf:s.fs.length=25) (hn:s.ae.length<=24) (h1: ∀p∈ai fr,p<25) (h2: ∀p∈ai (l9 s (ai fr)),1<=p∧p<=s.ae.length) :
  af Tryz.prog 154 [.vp (fO s),ay fr, .v (.string lab)] (ay (gQ s fr lab)):=by
 have A1:=nf fr;have A2:=nf (l9 s (ai fr));have O:=fun p=>La p;have hV:=vE;obtain ⟨V,hVe⟩: ∃V,V=fO s:=⟨_,rfl⟩;simp only [lV,ay] at *
 (refine af.enter Tryz.func154 rfl (by kernel_rfl) (by kernel_rfl) rfl (by first|rfl|(simp only [go_sem,UM,Um,Us])) (by first|rfl|(simp only [go_sem,UM,Um,Us])) ?_;simp only [Tryz.ntmps154,Tryz.results154,Tc,S6,Nat.reduceAdd,Nat.reduceSub,UN,UO,UP,UQ])
 repeat (first|(with_reducible first|refine ag.up ?_|refine fun (K:AK) hK=> ?_|refine wE ?_|refine wD ?_|refine wK ?_|refine wF ?_|refine ah (by decide) ?_|refine ar (by decide) ?_|(refine hK _ ?_;clear hK K))|simp only [go_sem]|with_reducible refine wA ?_|clear hK K)
 refine ab.fr [] A1 (by simp) ?_ ?_ ?_ ?_ ?_
 ·rfl
 ·rfl
 ·rfl
 ·intro k ob hk;simp at hk
 repeat (first|(with_reducible first|refine ag.up ?_|refine fun (K:AK) hK=> ?_|refine wE ?_|refine wD ?_|refine wK ?_|refine wF ?_|refine ah (by decide) ?_|refine ar (by decide) ?_|(refine hK _ ?_;clear hK K))|simp only [go_sem]|with_reducible refine wA ?_|clear hK K)
 refine gu fr 3 (by simp only [lV,ay];rfl) 7 (fun k=>[some ⟨149,1,false,[[.vp (fO s)]]⟩,some ⟨9,1,false,[[.v (.string lab)]]⟩,some ⟨185,1,false,[[ay (l9 s ((ai fr).take k))]]⟩,none]) (fun _=>True) trivial ?_ rfl ?_ (by kernel_rfl) (by kernel_rfl) rfl ?_ ?_
 ·rfl
 ·simp only [ay]
  (refine aq ?_ ?_ ?_<;>simp only [aG,UG,UH,UN,UO,bd,bj,AV.v.injEq,Value.int.injEq,Value.bool.injEq,Value.string.injEq,AV.vec.injEq,AV.ptr.injEq,true_or,or_true,false_or,or_false,aa.mk.injEq,forall_eq_apply_imp_iff,forall_eq,forall_eq',go_sem])
  all_goals rfl
 ·intro k hk _;have hp:=h1 _ (List.getElem_mem hk);rw [VB hk,Dd];generalize l9 s ((ai fr).take k)=T at *;generalize (ai fr)[k]=p at *;obtain ⟨r,eD⟩:=Fb (X:=[.v (.int .u32 s.la.toNat), .v (.bool s.em)]) (fs:=s.fs) (p:=p) (by omega);simp only [ay,fO] at eD ⊢
  repeat (first|(with_reducible first|refine ag.up ?_|refine fun (K:AK) hK=> ?_|refine wE ?_|refine wD ?_|refine wK ?_|refine wF ?_|refine ah (by decide) ?_|refine ar (by decide) ?_|(refine hK _ ?_;clear hK K))|simp only [go_sem,eD,jv]|with_reducible refine wA ?_|clear hK K)
  (refine aq ?_ ?_ ?_<;>simp only [aG,UG,UH,UN,UO,bd,bj,AV.v.injEq,Value.int.injEq,Value.bool.injEq,Value.string.injEq,AV.vec.injEq,AV.ptr.injEq,true_or,or_true,false_or,or_false,aa.mk.injEq,forall_eq_apply_imp_iff,forall_eq,forall_eq',go_sem])
 ·intro _;have e1:(ai fr).take (ai fr).length=ai fr:=List.take_length;simp only [e1,ay,fO]
  repeat (first|(with_reducible first|refine ag.up ?_|refine fun (K:AK) hK=> ?_|refine wE ?_|refine wD ?_|refine wK ?_|refine wF ?_|refine ah (by decide) ?_|refine ar (by decide) ?_|(refine hK _ ?_;clear hK K))|simp only [go_sem]|with_reducible refine wA ?_|clear hK K)
  refine ab.fr [] A2 (by simp) ?_ ?_ ?_ ?_ ?_
  ·rfl
  ·rfl
  ·rfl
  ·intro k ob hk;simp at hk
  repeat (first|(with_reducible first|refine ag.up ?_|refine fun (K:AK) hK=> ?_|refine wE ?_|refine wD ?_|refine wK ?_|refine wF ?_|refine ah (by decide) ?_|refine ar (by decide) ?_|(refine hK _ ?_;clear hK K))|simp only [go_sem]|with_reducible refine wA ?_|clear hK K)
  have hS:gQ s fr lab=jN s lab (ai (l9 s (ai fr))) (l9 s (ai fr)):=rfl;generalize l9 s (ai fr)=T at *
  refine gu T 4 (by simp only [lV,ay];rfl) 7 (fun k=>[some ⟨149,1,false,[[.vp (fO s)]]⟩,some ⟨9,1,false,[[.v (.string lab)]]⟩,some ⟨185,1,false,[[ay (jN s lab ((ai T).take k) T)]]⟩,none,none]) (fun _=>True) trivial ?_ rfl ?_ (by kernel_rfl) (by kernel_rfl) rfl ?_ ?_
  ·rfl
  ·simp only [ay,fO]
   (refine aq ?_ ?_ ?_<;>simp only [aG,UG,UH,UN,UO,bd,bj,AV.v.injEq,Value.int.injEq,Value.bool.injEq,Value.string.injEq,AV.vec.injEq,AV.ptr.injEq,true_or,or_true,false_or,or_false,aa.mk.injEq,forall_eq_apply_imp_iff,forall_eq,forall_eq',go_sem])
   all_goals rfl
  ·intro k hk _;have hp:=h2 _ (List.getElem_mem hk);rw [VB hk,zE,qI];generalize jN s lab ((ai T).take k) T=U at *;generalize (ai T)[k]=p at *;have eG:=CR (s:=s) (p:=p) (by omega) (by omega);have eW:IntKind.i64.wrap ((p:Int) - 1)=(p:Int) - 1:=dQ (by omega) (by omega);have C:=O p;simp only [ay,fO]
   cases hq:(e9 s p).toList==lab.toList
   ·simp only [Bool.false_eq_true,if_false]
    repeat ((fail_if_success (with_reducible refine b5 (i:=7) ?_));first|(with_reducible first|refine ag.up ?_|refine fun (K:AK) hK=> ?_|refine wK ?_|refine wF ?_|refine ah (by decide) ?_|refine ar (by decide) ?_|(refine hK _ ?_;clear hK K))|simp only [go_sem,eG,eW,hq]|with_reducible refine wA ?_|clear hK K)
    refine wD ?_
    repeat (first|(with_reducible first|refine ag.up ?_|refine fun (K:AK) hK=> ?_|refine wK ?_|refine wF ?_|refine ah (by decide) ?_|refine ar (by decide) ?_|(refine hK _ ?_;clear hK K))|simp only [go_sem,eG,eW,hq]|with_reducible refine wA ?_|clear hK K)
    refine du [4] [] (by decide+kernel) (by kernel_rfl) ?_
    repeat (first|(with_reducible first|refine ag.up ?_|refine fun (K:AK) hK=> ?_|refine wK ?_|refine wF ?_|refine ah (by decide) ?_|refine ar (by decide) ?_|(refine hK _ ?_;clear hK K))|simp only [go_sem,eG,eW,hq]|with_reducible refine wA ?_|clear hK K)
    refine bt.one C ?_
    repeat (first|(with_reducible first|refine ag.up ?_|refine fun (K:AK) hK=> ?_|refine wK ?_|refine wF ?_|refine ah (by decide) ?_|refine ar (by decide) ?_|(refine hK _ ?_;clear hK K))|simp only [go_sem,I5]|with_reducible refine wA ?_|clear hK K)
    (refine aq ?_ ?_ ?_<;>simp only [aG,UG,UH,UN,UO,bd,bj,AV.v.injEq,Value.int.injEq,Value.bool.injEq,Value.string.injEq,AV.vec.injEq,AV.ptr.injEq,true_or,or_true,false_or,or_false,aa.mk.injEq,forall_eq_apply_imp_iff,forall_eq,forall_eq',go_sem])
    all_goals rfl
   ·simp only [if_true]
    repeat (first|(with_reducible first|refine ag.up ?_|refine fun (K:AK) hK=> ?_|refine wE ?_|refine wD ?_|refine wK ?_|refine wF ?_|refine ah (by decide) ?_|refine ar (by decide) ?_|(refine hK _ ?_;clear hK K))|simp only [go_sem,eG,eW,hq]|with_reducible refine wA ?_|clear hK K)
    (refine aq ?_ ?_ ?_<;>simp only [aG,UG,UH,UN,UO,bd,bj,AV.v.injEq,Value.int.injEq,Value.bool.injEq,Value.string.injEq,AV.vec.injEq,AV.ptr.injEq,true_or,or_true,false_or,or_false,aa.mk.injEq,forall_eq_apply_imp_iff,forall_eq,forall_eq',go_sem])
    all_goals rfl
  ·intro _;have e2:(ai T).take (ai T).length=ai T:=List.take_length;simp only [e2,ay,fO]
   repeat (first|(with_reducible first|refine ag.up ?_|refine fun (K:AK) hK=> ?_|refine wE ?_|refine wD ?_|refine wK ?_|refine wF ?_|refine ah (by decide) ?_|refine ar (by decide) ?_|(refine hK _ ?_;clear hK K))|simp only [go_sem]|with_reducible refine wA ?_|clear hK K)
   rw [hS]
structure vS (s:bE):Prop where
 len:s.fs.length=25
 n:s.ae.length<=24
 qv: ∀p q,(s.fs.getD p 0#32).getLsbD q=true->1<=q∧q<=s.ae.length
 la: ∀q,s.la.getLsbD q=true->1<=q∧q<=s.ae.length
theorem qx {f:Nat->BitVec 32} {q:Nat}: ∀(l:List Nat) (t:BitVec 32),(l.foldl (fun t p=>t ||| f p) t).getLsbD q=true↔t.getLsbD q=true∨ ∃p∈l,(f p).getLsbD q=true
 | [],t=>by simp
 | x :: l,t=>by
  rw [UG,qx l,BitVec.getLsbD_or,Bool.or_eq_true];simp only [Uv,exists_eq_or_imp,or_assoc]
theorem mS {s:bE} {l:List Nat} {q:Nat}:(l9 s l).getLsbD q=true ↔ ∃p∈l,(s.fs.getD p 0#32).getLsbD q=true:=by
 rw [l9,qx];simp
theorem nV {s:bE} {lab:ByteArray} {q:Nat} (hq:q<=24): ∀(l:List Nat) (t:BitVec 32),(jN s lab l t).getLsbD q=true↔t.getLsbD q=true∧(q∈l->((e9 s q).toList==lab.toList)=true)
 | [],t=>by simp [jN]
 | x :: l,t=>by
  rw [jN,UG, <- jN,nV hq l,qI]
  split
  ·rename_i h;simp only [Uv]
   constructor
   ·rintro ⟨h1,h2⟩;exact ⟨h1,fun hh=>hh.elim (fun e=>by rw [e];exact h) h2⟩
   ·rintro ⟨h1,h2⟩;exact ⟨h1,fun hh=>h2 (.inr hh)⟩
  ·rename_i h;rw [UZ,BitVec.getLsbD_not,mQ];simp only [Uv]
   constructor
   ·rintro ⟨h1,h2⟩;simp only [TY,Bool.not_eq_true',decide_eq_false_iff_not,decide_eq_true_eq] at h1;have hne:q≠x:=fun e=>h1.2.2 ⟨by omega,by omega,by omega⟩;exact ⟨h1.1,fun hh=>hh.elim (fun e=>absurd e hne) h2⟩
   ·rintro ⟨h1,h2⟩;have hne:q≠x:=fun e=>h (by rw [<-e];exact h2 (.inl e));refine ⟨?_,fun hh=>h2 (.inr hh)⟩;simp only [TY,Bool.not_eq_true',decide_eq_false_iff_not,decide_eq_true_eq];exact ⟨h1,by omega,fun hh=>hne (by omega)⟩
theorem ll {s:bE} (ok:vS s) {m:BitVec 32} {lab:ByteArray} {q:Nat}:(gQ s m lab).getLsbD q=true ↔ ∃p,m.getLsbD p=true∧(s.fs.getD p 0#32).getLsbD q=true∧(e9 s q).toList=lab.toList:=by
 have hb: ∀q,(l9 s (ai m)).getLsbD q=true->1<=q∧q<=s.ae.length:=fun q h=>by
  obtain ⟨p,_,h⟩:=mS.1 h;exact ok.qv p q h
 have sub: ∀(l:List Nat) (t:BitVec 32),(jN s lab l t).getLsbD q=true->t.getLsbD q=true:=fun l=>by
  induction l with
  | nil=>intro t h;exact h
  | cons x l ih=>
   intro t h
   have:=ih _ h
   rw [qI] at this
   split at this
   ·exact this
   ·rw [UZ,TY] at this;exact this.1
 constructor
 ·intro h;have h1:=sub _ _ h;have h2:=hb q h1;have h3:=ok.n
  have:=((nV (by omega) _ _).1 h).2 (aK.2 h1)
  obtain ⟨p,h4,h5⟩:=mS.1 h1;exact ⟨p,aK.1 h4,h5,by simpa using this⟩
 ·rintro ⟨p,h1,h2,h3⟩;have h4:=ok.qv p q h2;have h5:=ok.n;exact (nV (by omega) _ _).2 ⟨mS.2 ⟨p,aK.2 h1,h2⟩,fun _=>by simpa using h3⟩
theorem JI {s:bE} (ok:vS s) (m:BitVec 32) (lab:ByteArray) (h1: ∀p∈ai m,p<25):af Tryz.prog 154 [.vp (fO s),ay m, .v (.string lab)] (ay (gQ s m lab)):=
 LD s m lab ok.len ok.n h1 (fun p hp=>by
  obtain ⟨q,_,h⟩:=mS.1 (aK.1 hp)
  exact ok.qv _ _ h)
def qB (s:bE) (t:BitVec 32) (p:Int):BitVec 32:=if p<=s.ae.length then t ||| ofM p else t
def gm (s:bE) (l:List Int):BitVec 32:=l.foldl (qB s) 0#32
theorem zl (s:bE) (l:List Int) (p:Int):gm s (l++[p])=qB s (gm s l) p:=by rw [gm,Vt];rfl
theorem kS {s:bE} (ok:vS s) {q:Nat}: ∀(l:List Int) (t:BitVec 32),(l.foldl (qB s) t).getLsbD q=true↔t.getLsbD q=true∨((q:Int)∈l∧q<=s.ae.length)
 | [],t=>by simp
 | x :: l,t=>by
  have hn:=ok.n;rw [UG,kS ok l,qB,Uv]
  split
  ·rename_i h;rw [BitVec.getLsbD_or,Bool.or_eq_true,mQ,decide_eq_true_eq]
   constructor
   ·rintro ((h|h)|h)
    ·exact .inl h
    ·exact .inr ⟨.inl h.2.2,by omega⟩
    ·exact .inr ⟨.inr h.1,h.2⟩
   ·rintro (h|⟨h|h,h2⟩)
    ·exact .inl (.inl h)
    ·exact .inl (.inr ⟨by omega,by omega,h⟩)
    ·exact .inr ⟨h,h2⟩
  ·rename_i h
   constructor
   ·rintro (h|h)
    ·exact .inl h
    ·exact .inr ⟨.inr h.1,h.2⟩
   ·rintro (h|⟨h|h,h2⟩)
    ·exact .inl h
    ·exfalso;omega
    ·exact .inr ⟨h,h2⟩
theorem E8 {s:bE} (ok:vS s) (l:List Int): ∀p∈ai (gm s l),p<25:=fun p hp=>by
 have:=(kS ok l 0#32).1 (aK.1 hp)
 have:=ok.n
 simp at *; omega
theorem Jb {s:bE} (ok:vS s) (l:List Int) (lab:ByteArray) (hl:l.length<=1000000):af Tryz.prog 119 [.vp (fO s), .aI 1 (l.map encI) l.length, .v (.string lab)]
  (.aI 1 (aM (ai (gQ s (gm s l) lab))) (ai (gQ s (gm s l) lab)).length):=by
 have L:=K4 s;have S:=JI ok (gm s l) lab (E8 ok l);have B:=FH (gQ s (gm s l) lab);have O:=fun p=>La p;have eZ:ay 0#32 = .v (.int .u32 0):=rfl;generalize hR:gQ s (gm s l) lab=R at *;simp only [ay] at *
 (refine af.enter Tryz.func119 rfl (by kernel_rfl) (by kernel_rfl) rfl (by first|rfl|(simp only [go_sem,UM,Um,Us])) (by first|rfl|(simp only [go_sem,UM,Um,Us])) ?_;simp only [Tryz.ntmps119,Tryz.results119,Tc,S6,Nat.reduceAdd,Nat.reduceSub,UN,UO,UP,UQ])
 repeat (first|(with_reducible first|refine ag.up ?_|refine fun (K:AK) hK=> ?_|(refine hK _ ?_;clear hK K))|simp only [go_sem]|with_reducible refine wA ?_|clear hK K)
 refine kP (ι:=Nat) (fun k=>[(0, .vp (fO s)),(1, .aI 1 (l.map encI) l.length),(2, .v (.string lab)),(6, .v (.slice none 0 0)),(7,ay (gm s (l.take k))),(12, .aI 1 (l.map encI) l.length),(13, .v (.int .i64 l.length)),(14, .v (.int .i64 k))]) (fun k=>[]) (fun k=>l.length - k) (fun k=>k<=l.length) 0 (by omega) ?_ ?_
 ·simp only [ay]
  (refine aq ?_ ?_ ?_<;>simp only [aG,UG,UH,UN,UO,bd,bj,AV.v.injEq,Value.int.injEq,Value.bool.injEq,Value.string.injEq,AV.vec.injEq,AV.ptr.injEq,true_or,or_true,false_or,or_false,aa.mk.injEq,forall_eq_apply_imp_iff,forall_eq,forall_eq',go_sem])
  exact ⟨rfl,rfl⟩
 ·intro k hkl K hK;simp only [ay];simp only [aG,UG,UH,UN,UO,go_sem]
  repeat (first|(with_reducible first|refine ag.up ?_|refine fun (K:AK) hK=> ?_|(refine hK _ ?_;clear hK K))|simp only [go_sem]|with_reducible refine wA ?_|clear hK K)
  refine fU.part (fun h=> ?_) (fun h=> ?_)
  ·have hlt:k<l.length:=by (try simp only [bne_iff_ne,ne_eq,bne_eq_false_iff_eq,beq_iff_eq,beq_eq_false_iff_ne,decide_eq_true_eq,decide_eq_false_iff_not,UR,VF,VE,VG] at h);omega
   have eG:=getD_map encI l k [] hlt;have eW:=aD (k:=k) (by omega);have hN:=zl s (l.take k) l[k];rw [<-VB hlt,qB] at hN;have Ok:=O l[k];simp only [encI] at eG
   repeat (first|(with_reducible first|refine ag.up ?_|refine fun (K:AK) hK=> ?_|(refine hK _ ?_;clear hK K))|simp only [go_sem,eG]|with_reducible refine wA ?_|clear hK K)
   refine ab.one L ?_
   repeat (first|(with_reducible first|refine ag.up ?_|refine fun (K:AK) hK=> ?_|(refine hK _ ?_;clear hK K))|simp only [go_sem]|with_reducible refine wA ?_|clear hK K)
   refine fU.part (fun h=> ?_) (fun h=> ?_)
   ·rw [if_pos (by (try simp only [bne_iff_ne,ne_eq,bne_eq_false_iff_eq,beq_iff_eq,beq_eq_false_iff_ne,decide_eq_true_eq,decide_eq_false_iff_not,UR,VF,VE,VG] at h);omega)] at hN
    repeat (first|(with_reducible first|refine ag.up ?_|refine fun (K:AK) hK=> ?_|(refine hK _ ?_;clear hK K))|simp only [go_sem]|with_reducible refine wA ?_|clear hK K)
    refine ab.one Ok ?_
    repeat (first|(with_reducible first|refine ag.up ?_|refine fun (K:AK) hK=> ?_|(refine hK _ ?_;clear hK K))|simp only [go_sem,jv]|with_reducible refine wA ?_|clear hK K)
    refine aP.mk (k+1) (by omega) (by omega) ?_;rw [hN];simp only [ay]
    (refine aq ?_ ?_ ?_<;>simp only [aG,UG,UH,UN,UO,bd,bj,AV.v.injEq,Value.int.injEq,Value.bool.injEq,Value.string.injEq,AV.vec.injEq,AV.ptr.injEq,true_or,or_true,false_or,or_false,aa.mk.injEq,forall_eq_apply_imp_iff,forall_eq,forall_eq',go_sem])
    all_goals first|exact eW|skip
   ·rw [if_neg (by (try simp only [bne_iff_ne,ne_eq,bne_eq_false_iff_eq,beq_iff_eq,beq_eq_false_iff_ne,decide_eq_true_eq,decide_eq_false_iff_not,UR,VF,VE,VG] at h);omega)] at hN
    repeat (first|(with_reducible first|refine ag.up ?_|refine fun (K:AK) hK=> ?_|(refine hK _ ?_;clear hK K))|simp only [go_sem]|with_reducible refine wA ?_|clear hK K)
    refine aP.mk (k+1) (by omega) (by omega) ?_;rw [hN];simp only [ay]
    (refine aq ?_ ?_ ?_<;>simp only [aG,UG,UH,UN,UO,bd,bj,AV.v.injEq,Value.int.injEq,Value.bool.injEq,Value.string.injEq,AV.vec.injEq,AV.ptr.injEq,true_or,or_true,false_or,or_false,aa.mk.injEq,forall_eq_apply_imp_iff,forall_eq,forall_eq',go_sem])
    all_goals first|exact eW|skip
  ·have e1:l.take k=l:=List.take_of_length_le (by (try simp only [bne_iff_ne,ne_eq,bne_eq_false_iff_eq,beq_iff_eq,beq_eq_false_iff_ne,decide_eq_true_eq,decide_eq_false_iff_not,UR,VF,VE,VG] at h);omega);simp only [e1]
   repeat (first|(with_reducible first|refine ag.up ?_|refine fun (K:AK) hK=> ?_|(refine hK _ ?_;clear hK K))|simp only [go_sem]|with_reducible refine wA ?_|clear hK K)
   refine ab.one S ?_
   repeat (first|(with_reducible first|refine ag.up ?_|refine fun (K:AK) hK=> ?_|(refine hK _ ?_;clear hK K))|simp only [go_sem]|with_reducible refine wA ?_|clear hK K)
   refine ab.one B ?_
   repeat (first|(with_reducible first|refine ag.up ?_|refine fun (K:AK) hK=> ?_|(refine hK _ ?_;clear hK K))|simp only [go_sem]|with_reducible refine wA ?_|clear hK K)
   (refine nq.of 40 rfl ?_;simp only [go_sem])
def runM (s:bE) (w:List ByteArray):BitVec 32:=w.foldl (gQ s) (ofM 0)
def rF (s:bE) (w:List ByteArray):Bool:=if w.length=0 then s.em else runM s w &&& s.la !=0#32
theorem Fa {o:List (Option aa)}: ∀(L:List AV) (n:Nat),(∀c∈L, ∃x,c = .v x)->L.length+2<=n-> ∃p,eU o n L=some (p,L)∧p
 | [],n+1,_,_=>⟨True,rfl,trivial⟩
 | a :: l,n+2,hL,hn=>by
  obtain ⟨x,rfl⟩:=hL a (by simp);obtain ⟨p,h1,h2⟩:=Fa (o:=o) l (n+1) (fun c hc=>hL c (by simp [hc])) (by simp at hn;omega);exact ⟨((AV.v x).wf 0=true)∧p,by rw [eU,h1];rfl,rfl,h2⟩
 | a :: l,0,_,hn=>by simp at hn
 | a :: l,1,_,hn=>by simp at hn
 | [],0,_,hn=>by simp at hn
def vr (x:Ex):bE:=⟨[],List.replicate 25 0#32,0#32,di x⟩
def bR (x:Ex):bE:={ (mw x (vr x)).1 with fs:=(mw x (vr x)).1.fs.set 0 (mw x (vr x)).2.1,la:=(mw x (vr x)).2.2 }
theorem CV (x:Ex):(aX x).length<=(au x).length:=by
 induction x using Ex.ind with
 | h k s l ih=>
  have hl: ∀m:List Ex,(∀y∈m,(aX y).length<=(au y).length)->(aE m).length<=(bL m).length:=fun m=>by
   induction m with
   | nil=>intro _;simp [aE,bL]
   | cons y m ihm=>
    intro h;rw [aE,bL,List.length_append,List.length_append];have h1:=h y (by simp);have h2:=ihm (fun z hz=>h z (by simp [hz]));omega
  have:=hl l ih
  rw [aX,au,Tc]
  split
  ·simp
  ·omega
theorem FA {x:Ex} (h:aB x=true):(aX x).length<=24:=by
 simp only [aB,TY,decide_eq_true_eq] at h
 have:=CV x;omega
theorem Jc (ae:List ByteArray) (f1 l1:BitVec 32) (rest:List (BitVec 32)) (em:Bool) (hr:rest.length=24) (o:List (Option aa)) (h1:o[1]? = some (some ⟨188,28,false,[.vec 2 ae.length :: ay f1 :: (rest.map ay++[ay l1, .v (.bool em)])]⟩)) (h2:o[2]? = some (some ⟨9,1,true,ae.map encS⟩)) :
  nq o (.ct [.ptr 1 0 28 0 0, .v (.int .i64 0)]) (.ct [.vp (fO ⟨ae,f1 :: rest,l1,em⟩), .v (.int .i64 0)]):=by
 obtain ⟨p,hp,hp'⟩:=Fa (o:=o) (ay f1 :: (rest.map ay++[ay l1, .v (.bool em)])) 50 (fun c hc=>by
  simp only [List.mem_cons,List.mem_append,List.mem_map,List.not_mem_nil,or_false] at hc
  rcases hc with rfl|⟨y,_,rfl⟩|rfl|rfl
  ·exact ⟨_,rfl⟩
  ·exact ⟨_,rfl⟩
  ·exact ⟨_,rfl⟩
  ·exact ⟨_,rfl⟩) (by simp [hr])
 have e1:fJ o 50 (.vec 2 ae.length)=some (True∧(ae.map encS).length=ae.length∧bQ 0 (ae.map encS)=true, .aI 1 (ae.map encS) ae.length):=by
  rw [fJ,h2];simp
 have e2:eU o 51 (.vec 2 ae.length :: ay f1 :: (rest.map ay++[ay l1, .v (.bool em)]))=some ((True∧(ae.map encS).length=ae.length∧bQ 0 (ae.map encS)=true)∧p, .aI 1 (ae.map encS) ae.length :: ay f1 :: (rest.map ay++[ay l1, .v (.bool em)])):=by
  rw [eU,e1,hp]
 refine nq.of 54 (p:=((((True∧(ae.map encS).length=ae.length∧bQ 0 (ae.map encS)=true)∧p)∧aa.hl ⟨188,28,false,[.vec 2 ae.length :: ay f1 :: (rest.map ay++[ay l1, .v (.bool em)])]⟩=0∧28=28∧0<1)∧(AV.v (.int .i64 0)).wf 0=true∧True)) ?_ ⟨⟨⟨⟨trivial,by simp,dc 0 ae⟩,hp'⟩,rfl,rfl,by decide⟩,rfl,trivial⟩;rw [fJ,eU,fJ,h1];simp only [List.getD_cons_zero,e2]
 rfl
theorem Nh (x:Ex) (ho:x.ok):af Tryz.prog 82 [.agg (bH x)] (if aB x then .ct [.vp (fO (bR x)), .v (.int .i64 0)] else .ct [.v (.pointer none), .v (.int .i64 2)]):=by
 have R:=sN x ho;have E:=tV x ho
 cases hr:aB x
 ·rw [hr] at R;simp only [Bool.false_eq_true,if_false];simp only [aS] at *
  (refine af.enter Tryz.func82 rfl (by kernel_rfl) (by kernel_rfl) rfl (by first|rfl|(simp only [go_sem,UM,Um,Us])) (by first|rfl|(simp only [go_sem,UM,Um,Us])) ?_;simp only [Tryz.ntmps82,Tryz.results82,Tc,S6,Nat.reduceAdd,Nat.reduceSub,List.replicate_succ,List.replicate_zero,UP,UQ])
  repeat (first|(with_reducible first|refine ag.up ?_|refine fun (K:AK) hK=> ?_|refine ah (by decide) ?_|(refine hK _ ?_;clear hK K))|simp only [go_sem]|with_reducible refine wA ?_|(refine aH rfl ?_)|(refine aA rfl ?_)|clear hK K)
  refine ab.one R ?_
  repeat (first|(with_reducible first|refine ag.up ?_|refine fun (K:AK) hK=> ?_|refine ah (by decide) ?_|(refine hK _ ?_;clear hK K))|simp only [go_sem]|with_reducible refine wA ?_|(refine aH rfl ?_)|(refine aA rfl ?_)|clear hK K)
  (refine nq.of 40 rfl ?_;simp only [go_sem])
 ·rw [hr] at R;simp only [if_true];have hnl:(aX x).length<=24:=FA hr;have P:=Lf x ho hr (vr x) (by simp [vr]) (by simp [vr];exact hnl);have B:=my x (vr x) (by simp [vr]) (by simp [vr];exact hnl);simp only [bR];generalize mw x (vr x)=b at *;simp only [aS] at *
  (refine af.enter Tryz.func82 rfl (by kernel_rfl) (by kernel_rfl) rfl (by first|rfl|(simp only [go_sem,UM,Um,Us])) (by first|rfl|(simp only [go_sem,UM,Um,Us])) ?_;simp only [Tryz.ntmps82,Tryz.results82,Tc,S6,Nat.reduceAdd,Nat.reduceSub,List.replicate_succ,List.replicate_zero,UP,UQ])
  repeat (first|(with_reducible first|refine ag.up ?_|refine fun (K:AK) hK=> ?_|refine ah (by decide) ?_|(refine hK _ ?_;clear hK K))|simp only [go_sem]|with_reducible refine wA ?_|(refine aH rfl ?_)|(refine aA rfl ?_)|clear hK K)
  refine ab.one R ?_
  repeat (first|(with_reducible first|refine ag.up ?_|refine fun (K:AK) hK=> ?_|refine ah (by decide) ?_|(refine hK _ ?_;clear hK K))|simp only [go_sem]|with_reducible refine wA ?_|(refine aH rfl ?_)|(refine aA rfl ?_)|clear hK K)
  refine ab.one E ?_
  repeat ((fail_if_success (with_reducible refine b5 (i:=4) ?_));first|(with_reducible first|refine ag.up ?_|refine fun (K:AK) hK=> ?_|refine ah (by decide) ?_|(refine hK _ ?_;clear hK K))|simp only [go_sem]|with_reducible refine wA ?_|(refine aH rfl ?_)|(refine aA rfl ?_)|clear hK K)
  refine ck (eJ (k:=1) (i:=0) (j:=0) 9 1 (by decide) rfl (show 0<28 by decide) rfl rfl) (by kernel_rfl) ?_;simp only [Tc,S6,Nat.reduceAdd,UP,UQ,List.set_cons_zero,List.set_cons_succ]
  repeat ((fail_if_success (with_reducible refine b5 (i:=5) ?_));first|(with_reducible first|refine ag.up ?_|refine fun (K:AK) hK=> ?_|refine ah (by decide) ?_|(refine hK _ ?_;clear hK K))|simp only [go_sem]|with_reducible refine wA ?_|(refine aH rfl ?_)|(refine aA rfl ?_)|clear hK K)
  have wE:ba 2 [.ptr 0 0 28 0 0, .agg [.v (.int .i64 x.kind), .v (.string x.label), .aI 3 (x.kids.map bH) x.kids.length]]=true:=by simp only [ba,AV.wf,fF,UM,Us];rfl
  refine ab.fr [1,2] P (by decide) rfl ?_ wE ?_ ?_
  ·simp only [bo,AV.aO,bc _ _ (fF 0 x.kids)];rfl
  ·intro i ob hi
   match i,hi with
   | 0,hi=>cases hi;rfl
   | 1,hi=>cases hi;rfl
   | i+2,hi=>simp [bE.os] at hi
  simp only [bE.os,bE.row,ay,dE,List.map_cons,List.map_nil,Option.map_some,aa.aO,bI,bo,AV.aO,vg,tv,Tc,S6,List.set_cons_zero,List.set_cons_succ,List.append_nil];have e1:sig [1,2] 3 1=2:=rfl;simp only [Nat.reduceAdd,e1];obtain ⟨⟨ae,fs,la,em⟩,f1,l1⟩:=b
  obtain ⟨f0,rest,rfl⟩: ∃f0 rest,fs=f0 :: rest:=by
   cases fs with
   | nil=>have:=B.len;simp at this
   | cons a r=>exact ⟨a,r,rfl⟩
  have hr24:rest.length=24:=by have:=B.len;simpa using this
  have t24:List.take 24 (rest.map ay++[.v (.int .u32 la.toNat), .v (.bool em)])=rest.map ay:=by rw [List.take_append_of_le_length (by simp [hr24]),List.take_of_length_le (by simp [hr24])]
  have d25:List.drop 25 (rest.map ay++[.v (.int .u32 la.toNat), .v (.bool em)])=[.v (.bool em)]:=by
   rw [show 25=(rest.map ay).length+1 by simp [hr24],List.drop_append];simp
  simp only [List.map_cons,ay,UP]
  repeat ((fail_if_success (with_reducible refine b5 (i:=5) ?_));first|(with_reducible first|refine ag.up ?_|refine fun (K:AK) hK=> ?_|refine ah (by decide) ?_|(refine hK _ ?_;clear hK K))|simp only [go_sem]|with_reducible refine wA ?_|(refine aH rfl ?_)|(refine aA rfl ?_)|clear hK K)
  refine du [9,12] [(5,1000)] (by decide+kernel) (by kernel_rfl) ?_
  repeat (first|(with_reducible first|refine ag.up ?_|refine fun (K:AK) hK=> ?_|refine ah (by decide) ?_|(refine hK _ ?_;clear hK K))|simp only [go_sem,t24,d25]|with_reducible refine wA ?_|(refine aH rfl ?_)|(refine aA rfl ?_)|clear hK K)
  refine Jc ae f1 l1 rest em hr24 _ rfl rfl
structure KA (x:Ex) (s:bE):Prop where
 ae:s.ae=aX x
 ok:vS s
 fst: ∀q,(s.fs.getD 0 0#32).getLsbD q=true↔kL x 0 q
 qv: ∀p q,p≠0->((s.fs.getD p 0#32).getLsbD q=true↔iD x 0 p q)
 vI: ∀q,s.la.getLsbD q=true↔ja x 0 q
 em:s.em=aT x
theorem mP {x:Ex} (hr:aB x=true):KA x (bR x):=by
 have hn:=FA hr;have B:=my x (vr x) (by simp [vr]) (by simp [vr];exact hn)
 have hz: ∀p,(vr x).fs.getD p 0#32=0#32:=fun p=>by
  simp only [vr,T3,List.getElem?_replicate];split<;>rfl
 have hb:(vr x).ae.length=0:=rfl;have hl:(bR x).ae=aX x:=B.ae
 have hlen:(bR x).fs.length=25:=by simp only [bR,List.length_set];exact B.len
 have h0: ∀q,((bR x).fs.getD 0 0#32).getLsbD q=true↔kL x 0 q:=fun q=>by
  simp only [bR];rw [nR (by rw [B.len];decide),if_pos rfl,B.fst,hb]
 have hp: ∀p q,p≠0->(((bR x).fs.getD p 0#32).getLsbD q=true↔iD x 0 p q):=fun p q hp=>by
  simp only [bR];rw [nR (by rw [B.len];decide),if_neg hp,B.qv,hb,hz];simp
 have hla: ∀q,(bR x).la.getLsbD q=true↔ja x 0 q:=fun q=>by
  have:=B.vI q;rw [hb] at this;exact this
 refine ⟨hl,⟨hlen,by rw [hl];exact hn,fun p q h=> ?_,fun q h=> ?_⟩,h0,hp,hla, ?_⟩
 ·rw [hl]
  by_cases e:p=0
  ·subst e;have:=fq x ((h0 q).1 h);omega
  ·have:=(cY x ((hp p q e).1 h)).2;omega
 ·rw [hl];have:=eb x ((hla q).1 h);omega
 ·show (mw x (vr x)).1.em=_;rw [B.em];simp [vr,di,hr]
theorem run_get {s:bE} (ok:vS s) {q:Nat}: ∀(w:List ByteArray) (m:BitVec 32),(w.foldl (gQ s) m).getLsbD q=true ↔ ∃p,m.getLsbD p=true∧aQ (fun p q=>(s.fs.getD p 0#32).getLsbD q=true) (fun p=>e9 s p) p w q
 | [],m=>by simp [aQ]
 | a :: w,m=>by
  rw [List.foldl_cons,run_get ok w]
  constructor
  ·rintro ⟨r,h1,h2⟩;obtain ⟨p,k1,k2,k3⟩:=(ll ok).1 h1;exact ⟨p,k1,r,k2,toList_inj.1 (by simpa using k3),h2⟩
  ·rintro ⟨p,k1,r,k2,rfl,h2⟩;exact ⟨r,(ll ok).2 ⟨p,k1,k2,rfl⟩,h2⟩
theorem DH {x:Ex} (hr:aB x=true) (w:List ByteArray):rF (bR x) w=pC x w:=by
 have N:=mP hr;have F:=(lh hr).1
 by_cases h0:w.length=0
 ·obtain rfl:=TL h0;rw [rF,if_pos h0,N.em,Vc,ij F,oQ];simp [hr]
 ·rw [rF,if_neg h0,Vc,oQ];simp only [hr,true_and];have hw:w≠[]:=fun e=>h0 (by rw [e];rfl)
  have hg:ly (aX x) 0 (fun p=>e9 (bR x) p):=fun i a hi=>by
   have hlt:=(List.getElem?_eq_some_iff.1 hi).1;show e9 (bR x) ((0+1+i:Nat):Int)=a;rw [e9,if_pos (by rw [N.ae];omega),N.ae,T3,show (((0+1+i:Nat):Int) - 1).toNat=i by omega,hi];rfl
  rw [Sk F hg hw]
  have h1:(runM (bR x) w &&& (bR x).la !=0#32)=true ↔ ∃q,(runM (bR x) w).getLsbD q=true∧(bR x).la.getLsbD q=true:=by
   rw [bne_iff_ne]
   constructor
   ·intro h
    by_cases hb:ai (runM (bR x) w &&& (bR x).la)=[]
    ·exact absurd (nJ hb) h
    ·obtain ⟨q,hq⟩:=VH _ hb
     have:=aK.1 hq
     rw [UZ,TY] at this;exact ⟨q,this⟩
   ·rintro ⟨q,h1,h2⟩ e
    have:(runM (bR x) w &&& (bR x).la).getLsbD q=true:=by rw [UZ,h1,h2];rfl
    rw [e] at this;simp at this
  rw [h1]
  cases w with
  | nil=>exact absurd rfl hw
  | cons a v=>
   simp only [b8]
   have hst: ∀p,(ofM 0).getLsbD p=true↔p=0:=fun p=>by rw [mQ,decide_eq_true_eq];omega
   have hc: ∀(v:List ByteArray) p q,p≠0->(aQ (fun p q=>((bR x).fs.getD p 0#32).getLsbD q=true) (fun p=>e9 (bR x) p) p v q↔aQ (iD x 0) (fun p=>e9 (bR x) p) p v q):=fun v=>by
    induction v with
    | nil=>intro p q _;exact Iff.rfl
    | cons b v ih=>
     intro p q hp;simp only [aQ]
     constructor
     ·rintro ⟨r,k1,k2,k3⟩;have k4:=(N.qv p r hp).1 k1
      have:=(cY x k4).2
      exact ⟨r,k4,k2,(ih r q (by omega)).1 k3⟩
     ·rintro ⟨r,k1,k2,k3⟩
      have:=(cY x k1).2
      exact ⟨r,(N.qv p r hp).2 k1,k2,(ih r q (by omega)).2 k3⟩
   constructor
   ·rintro ⟨q,h2,h3⟩;obtain ⟨p,k1,r,k2,k3,k4⟩:=(run_get N.ok _ _).1 h2;obtain rfl:=(hst p).1 k1;have k5:=(N.fst r).1 k2
    have:=fq x k5
    exact ⟨r,q,k5,k3,(hc v r q (by omega)).1 k4,(N.vI q).1 h3⟩
   ·rintro ⟨r,q,k1,k2,k3,k4⟩
    have:=fq x k1
    exact ⟨q,(run_get N.ok _ _).2 ⟨0,(hst 0).2 rfl,r,(N.fst r).2 k1,k2,(hc v r q (by omega)).2 k3⟩,(N.vI q).2 k4⟩
theorem Ij {m n:BitVec 32} (h: ∀q,m.getLsbD q=true↔n.getLsbD q=true):m=n:=by
 refine BitVec.eq_of_getLsbD_eq fun q _=> ?_;exact Vc.2 (h q)
def jM (l:List Nat):List Int:=l.map (fun (p:Nat)=>(p:Int))
theorem Cp (l:List Nat):aM l=(jM l).map encI:=by rw [aM,jM,List.map_map];rfl
theorem sU (l:List Nat):(jM l).length=l.length:=by rw [jM,List.length_map]
theorem zk {s:bE} (ok:vS s) {m:BitVec 32} (h: ∀p,m.getLsbD p=true->p<=s.ae.length):gm s (jM (ai m))=m:=by
 refine Ij fun q=> ?_;rw [gm,kS ok,jM];simp only [BitVec.getLsbD_zero,Bool.false_eq_true,false_or,List.mem_map,Int.natCast_inj,exists_eq_right,aK];exact ⟨fun h=>h.1,fun k=>⟨k,h q k⟩⟩
theorem xr {p:Nat}:(ofM 0).getLsbD p=true↔p=0:=by rw [mQ,decide_eq_true_eq];omega
def HM (a b:List Nat):Bool:=a.any (fun p=>b.any (fun q=>(q:Int)==(p:Int)))
theorem pZ {a b:List Nat}:HM a b=true ↔ ∃p,p∈a∧p∈b:=by
 simp only [HM,List.any_eq_true,beq_iff_eq,Int.natCast_inj]
 constructor
 ·rintro ⟨p,h1,q,h2,rfl⟩;exact ⟨q,h1,h2⟩
 ·rintro ⟨p,h1,h2⟩;exact ⟨p,h1,p,h2,rfl⟩
theorem AL (m n:BitVec 32):(m &&& n !=0#32)=HM (ai m) (ai n):=by
 rw [Vc,pZ,bne_iff_ne];simp only [aK]
 constructor
 ·intro h
  by_cases hb:ai (m &&& n)=[]
  ·exact absurd (nJ hb) h
  ·obtain ⟨q,hq⟩:=VH _ hb
   have:=aK.1 hq
   rw [UZ,TY] at this;exact ⟨q,this⟩
 ·rintro ⟨q,h1,h2⟩ e
  have:(m &&& n).getLsbD q=true:=by rw [UZ,h1,h2];rfl
  rw [e] at this;simp at this
theorem E2 {s:bE} (ok:vS s) (w:List ByteArray):((w.length==0&&s.em)||HM (ai (runM s w)) (ai s.la))=rF s w:=by
 rw [rF, <- AL]
 by_cases h0:w.length=0
 ·rw [if_pos h0,h0];obtain rfl:=TL h0
  have:(runM s [] &&& s.la !=0#32)=false:=by
   rw [AL, <- Bool.not_eq_true,pZ];rintro ⟨p,h1,h2⟩;have h3:=xr.1 (aK.1 h1)
   have:=ok.la p (aK.1 h2)
   omega
  rw [this];simp
 ·rw [if_neg h0,beq_eq_false_iff_ne.2 h0];simp
theorem wU {x:Ex} (h:Fit x): ∀b, ∃q,kL x b q:=by
 induction h with
 | lab s=>intro b;exact ⟨b+1,by rw [kL,if_pos rfl]⟩
 | many k s l hk hl _ ih=>
  intro b
  cases l with
  | nil=>simp at hl
  | cons x l=>
   obtain ⟨q,hq⟩:=ih x (by simp) b;refine ⟨q, ?_⟩;rw [kL]
   rcases hk with rfl|rfl
   ·simp [fW,hq]
   ·simp [fG,hq]
 | one k s x hk _ ih=>
  intro b;obtain ⟨q,hq⟩:=ih b;refine ⟨q, ?_⟩;rw [kL]
  rcases hk with rfl|rfl|rfl<;>simp [fG,hq]
theorem uu {g:Nat->ByteArray}: ∀(l:List Ex),l≠[]->(∀x∈l,Fit x∧ ∀b p,b<p->p<=b+(aX x).length-> ∃w q,aQ (iD x b) g p w q∧ja x b q)-> ∀b p,b<p->p<=b+(aE l).length-> ∃w q,aQ (fV l b) g p w q∧iF l b q
 | [],h,_,_,_,_,_=>absurd rfl h
 | x :: xs,_,h,b,p,h1,h2=>by
  rw [aE,Tb] at h2;have hS: ∀w p q,aQ (fV xs (b+(aX x).length)) g p w q->aQ (fV (x :: xs) b) g p w q:=fun w p q hc=>hc.imp (fun p q hf=>by rw [fV];exact .inr (.inl hf));have hX: ∀w p q,aQ (iD x b) g p w q->aQ (fV (x :: xs) b) g p w q:=fun w p q hc=>hc.imp (fun p q hf=>by rw [fV];exact .inl hf)
  rcases Nat.lt_or_ge (b+(aX x).length) p with q|q
  ·have hne:xs≠[]:=by rintro rfl;simp [aE] at h2;omega
   obtain ⟨w,r,k1,k2⟩:=uu xs hne (fun y hy=>h y (T8 _ hy)) _ p q (by omega);exact ⟨w,r,hS _ _ _ k1,by rw [iF];exact .inr k2⟩
  ·obtain ⟨w,r,k1,k2⟩:=(h x Ua).2 b p h1 q
   cases hxs:xs with
   | nil=>subst hxs;exact ⟨w,r,hX _ _ _ k1,by rw [iF];exact .inl ⟨rfl,k2⟩⟩
   | cons y ys=>
    obtain ⟨f,hf⟩:=wU (h y (by rw [hxs];simp)).1 (b+(aX x).length)
    have hfS:fW xs (b+(aX x).length) f:=by rw [hxs,fW];exact .inl hf
    have hr:=dU (ny hfS);obtain ⟨w2,r2,m1,m2⟩:=uu xs (by rw [hxs];simp) (fun y hy=>h y (T8 _ hy)) _ f hr.1 hr.2;rw [<-hxs];exact ⟨w++g f :: w2,r2,aQ.app.2 ⟨r,hX _ _ _ k1,f,by rw [fV];exact .inr (.inr ⟨k2,hfS⟩),rfl,hS _ _ _ m1⟩,by rw [iF];exact .inr m2⟩
theorem ur {g:Nat->ByteArray}: ∀(l:List Ex),(∀x∈l, ∀b p,b<p->p<=b+(aX x).length-> ∃w q,aQ (iD x b) g p w q∧ja x b q)-> ∀b p,b<p->p<=b+(aE l).length-> ∃w q,aQ (gU l b) g p w q∧fH l b q
 | [],_,b,p,h1,h2=>by simp [aE] at h2;omega
 | x :: xs,h,b,p,h1,h2=>by
  rw [aE,Tb] at h2
  rcases Nat.lt_or_ge (b+(aX x).length) p with q|q
  ·obtain ⟨w,r,k1,k2⟩:=ur xs (fun y hy=>h y (T8 _ hy)) _ p q (by omega);exact ⟨w,r,k1.imp (fun p q hf=>by rw [gU];exact .inr hf),by rw [fH];exact .inr k2⟩
  ·obtain ⟨w,r,k1,k2⟩:=h x Ua b p h1 q;exact ⟨w,r,k1.imp (fun p q hf=>by rw [gU];exact .inl hf),by rw [fH];exact .inl k2⟩
theorem MT {g:Nat->ByteArray} {x:Ex} (h:Fit x): ∀b p,b<p->p<=b+(aX x).length-> ∃w q,aQ (iD x b) g p w q∧ja x b q:=by
 induction h with
 | lab s=>
  intro b p h1 h2;rw [aX,if_pos rfl] at h2;exact ⟨[],p,rfl,by rw [ja,if_pos rfl];simp at h2;omega⟩
 | many k s l hk hl hf ih=>
  intro b p h1 h2
  have hk1:k≠1:=by rcases hk with rfl|rfl<;>decide
  rw [db hk1] at h2
  rcases hk with rfl|rfl
  ·obtain ⟨w,r,k1,k2⟩:=uu l (by rintro rfl;simp at hl) (fun x hx=>⟨hf x hx,ih x hx⟩) b p h1 h2;exact ⟨w,r,k1.imp (fun p q hf=>by rw [iD,if_neg (by decide),if_pos rfl];exact hf),by rw [ja,if_neg (by decide),if_pos rfl];exact k2⟩
  ·obtain ⟨w,r,k1,k2⟩:=ur l ih b p h1 h2;exact ⟨w,r,k1.imp (fun p q hf=>by rw [iD,if_neg (by decide),if_neg (by decide)];exact .inl hf),by rw [ja,if_neg (by decide),if_neg (by decide)];exact k2⟩
 | one k s x hk hf ih=>
  intro b p h1 h2
  have hk1:k≠1:=by rcases hk with rfl|rfl|rfl<;>decide
  have hk2:k≠2:=by rcases hk with rfl|rfl|rfl<;>decide
  rw [db hk1] at h2;obtain ⟨w,r,k1,k2⟩:=ur [x] (fun y hy=>by simp only [List.mem_singleton] at hy;subst hy;exact ih) b p h1 h2;exact ⟨w,r,k1.imp (fun p q hf=>by rw [iD,if_neg hk1,if_neg hk2];exact .inl hf),by rw [ja,if_neg hk1,if_neg hk2];exact k2⟩
def bC (s:bE) (cur:List Nat) (lab:ByteArray):List Nat:=ai (gQ s (gm s (jM cur)) lab)
theorem sP {s:bE} (ok:vS s) {l:List Nat} {q:Nat}:(gm s (jM l)).getLsbD q=true↔q∈l∧q<=s.ae.length:=by
 rw [gm,kS ok]
 have:(q:Int)∈jM l↔q∈l:=by
  rw [jM,List.mem_map];exact ⟨fun ⟨a,h1,h2⟩=>by rw [<-Int.ofNat_inj.1 h2];exact h1,fun h=>⟨q,h,rfl⟩⟩
 simp [this]
theorem iT {s:bE} (ok:vS s) {cur:List Nat} {lab:ByteArray} {q:Nat}:q∈bC s cur lab ↔ ∃p,p∈cur∧p<=s.ae.length∧(s.fs.getD p 0#32).getLsbD q=true∧e9 s q=lab:=by
 rw [bC,aK,ll ok]
 constructor
 ·rintro ⟨p,h1,h2,h3⟩;obtain ⟨k1,k2⟩:=(sP ok).1 h1;exact ⟨p,k1,k2,h2,toList_inj.1 (by simpa using h3)⟩
 ·rintro ⟨p,h1,h2,h3,rfl⟩;exact ⟨p,(sP ok).2 ⟨h1,h2⟩,h3,rfl⟩
theorem Aj {s:bE} (ok:vS s) {m:BitVec 32} (hm: ∀p,m.getLsbD p=true->p<=s.ae.length) (lab:ByteArray):bC s (ai m) lab=ai (gQ s m lab):=by rw [bC,zk ok hm]
theorem GJ {s:bE} (ok:vS s) {m:BitVec 32} {lab:ByteArray}: ∀p,(gQ s m lab).getLsbD p=true->p<=s.ae.length:=fun p h=>by
 obtain ⟨_,_,h,_⟩:=(ll ok).1 h;exact (ok.qv _ _ h).2
theorem tK {s:bE} (ok:vS s): ∀(w:List ByteArray) (m:BitVec 32),(∀p,m.getLsbD p=true->p<=s.ae.length)->w.foldl (bC s) (ai m)=ai (w.foldl (gQ s) m)
 | [],m,_=>rfl
 | l :: w,m,h=>by rw [UG,UG,Aj ok h,tK ok w _ (GJ ok)]
structure nt where
 rows:List a7
 ends:List Bool
 ae:List ByteArray
noncomputable def tF (x:Ex) (ae:List ByteArray):Option mj:=rz (bC (bR x)) (bR x).em (ai (bR x).la) ae
def js (ae:List ByteArray) (st:mj):nt:=⟨(cL st.rows st.ends (cu st.rows st.ends)).rows,(cL st.rows st.ends (cu st.rows st.ends)).ends,ae⟩
noncomputable def ej (x:Ex) (ae:List ByteArray):nt ⊕ Int:=
 if aB x then match tF x ae with
  | some st=>if 32<(js ae st).rows.length then .inr 11 else .inl (js ae st)
  | none=> .inr 11
 else .inr 2
structure AOk (A:nt):Prop where
 pos:1<=A.rows.length
 max:A.rows.length<=32
 ends:A.ends.length=A.rows.length
 row: ∀r∈A.rows,(r.map Prod.fst).Sublist A.ae∧ ∀p∈r,p.2<A.rows.length
theorem tH {ae:List ByteArray} {st:mj} (ho:BV ae st) (hl:st.rows.length=st.all.length): ∀r∈st.rows, ∀p∈r,p.2<st.rows.length:=fun r hr p hp=>by rw [hl];exact (ho.row r hr).2 p hp
theorem JD {ae:List ByteArray} (hn:ae.Nodup) {st:mj} (ho:BV ae st): ∀r∈st.rows,(r.map Prod.fst).Nodup:=fun r hr=>(ho.row r hr).1.nodup hn
theorem tG {ae:List ByteArray} (hs: ∀l∈ae,32∉l.data.toList) {st:mj} (ho:BV ae st):Be st.rows:=fun r hr p hp=>hs _ ((ho.row r hr).1.subset (List.mem_map_of_mem hp))
structure JU (x:Ex) (A:nt):Prop extends AOk A where
 RM: ∀w,cR A.rows A.ends 0 w=pC x w
 alive: ∀s,s<A.rows.length-> ∃w,cR A.rows A.ends s w=true
theorem A5 {s:bE} (ok:vS s): ∀(w:List ByteArray) {cur:List Nat} {p q:Nat},p∈cur->p<=s.ae.length->aQ (fun p q=>(s.fs.getD p 0#32).getLsbD q=true) (fun p=>e9 s p) p w q->q∈w.foldl (bC s) cur
 | [],cur,p,q,h1,h2,h3=>by cases h3;exact h1
 | l :: w,cur,p,q,h1,h2,⟨r,k1,k2,k3⟩=>by
  rw [UG];exact A5 ok w ((iT ok).2 ⟨p,h1,h2,k1,k2⟩) (ok.qv _ _ k1).2 k3
theorem Cb {x:Ex} (hr:aB x=true) {ae:List ByteArray} (hn:ae.Nodup) (hs: ∀l∈ae,32∉l.data.toList) (hm: ∀l∈aX x,l∈ae) {A:nt} (h:ej x ae = .inl A):JU x A:=by
 have N:=mP hr;have F:=(lh hr).1;rw [ej,if_pos hr] at h
 split at h
 ·rename_i st hst
  split at h
  ·cases h
  ·rename_i h32;simp only [Sum.inl.injEq] at h;obtain ⟨ho,hl,hw⟩:=Bu (bC (bR x)) (bR x).em (ai (bR x).la) hn hst;have hz0:(st.all)[0]? = some [0]:=hw.zero
   have hpos:0<st.rows.length:=by rw [hl];exact (List.getElem?_eq_some_iff.1 hz0).1
   have hT:=tH ho hl;have hN:=JD hn ho;obtain ⟨hS,hpl⟩:=rh st.rows st.ends (tG hs ho) hT hpos ho.ends;obtain ⟨qo,ql,qw⟩:=FD (ends:=st.ends) hT hN hpos (cu st.rows st.ends)
   have ha: ∀l,bC (bR x) [] l=[]:=fun l=>VI.2 fun q hq=>by
    obtain ⟨p,hp,_⟩:=(iT N.ok).1 hq;simp at hp
   have hlab: ∀q,1<=q->q<=(bR x).ae.length->e9 (bR x) q∈ae:=fun q h1 h2=>by
    rw [e9,if_pos (by omega)];refine hm _ ?_;rw [<-N.ae];exact bM (by omega)
   have hx: ∀cur l,l∉ae->bC (bR x) cur l=[]:=fun cur l hl=>VI.2 fun q hq=>by
    obtain ⟨p,_,_,k,rfl⟩:=(iT N.ok).1 hq;obtain ⟨q1,q2⟩:=N.ok.qv _ _ k;exact hl (hlab q q1 q2)
   have h0: ∀cur l,0∉bC (bR x) cur l:=fun cur l hq=>by
    obtain ⟨p,_,_,k,_⟩:=(iT N.ok).1 hq
    have:=(N.ok.qv _ _ k).1;omega
   have hla:0∉ai (bR x).la:=fun hq=>by have:=(N.ok.la _ (aK.1 hq)).1;omega
   have hlen:A.rows.length=(cL st.rows st.ends (cu st.rows st.ends)).order.length:=by rw [<-h];exact ql
   have hA: ∀k w,k<A.rows.length->cR A.rows A.ends k w=cR st.rows st.ends ((cL st.rows st.ends (cu st.rows st.ends)).order.getD k 0) w:=fun k w hk=>by
    rw [<-h];exact oZ hT hS qo ql qw w (by rw [<-hlen];exact hk)
   have hp1:1<=A.rows.length:=by
    rw [hlen]
    have:=qo.le;rw [ql] at this
    refine Nat.one_le_iff_ne_zero.2 fun e=> ?_;have q0:=xG (rows:=st.rows) (part:=cu st.rows st.ends) (ends:=st.ends) (st.rows.length+1) (st:=q0)
    have:1<=(cL st.rows st.ends (cu st.rows st.ends)).order.length:=q0
    omega
   refine ⟨⟨hp1, ?_, ?_,fun r hr=> ?_⟩,fun w=> ?_,fun s hs=> ?_⟩
   ·have:=h32;rw [h] at this;omega
   ·rw [<-h];exact qo.ends
   ·obtain ⟨k,hk,rfl⟩:=List.getElem_of_mem hr
    have hk':k<(cL st.rows st.ends (cu st.rows st.ends)).rows.length:=by rw [<-h] at hk;exact hk
    obtain ⟨r1,r2⟩:=qo.row k hk'
    have e:A.rows[k]=(cL st.rows st.ends (cu st.rows st.ends)).rows.getD k []:=by
     subst h;rw [List.getD_eq_getElem?_getD,Tn hk'];rfl
    have hlabs:A.ae=ae:=by rw [<-h];rfl
    rw [e,r1,hlabs,hlen];exact ⟨(ho.row _ (bM (qo.lt _ (bM (by rw [<-ql];exact hk'))))).1,r2⟩
   ·rw [hA 0 w (by omega),qw.zero,Ag hl hw ha hx h0 hla, <- DH hr, <- E2 N.ok]
    have e0:([0]:List Nat)=ai (ofM 0):=by rfl
    rw [e0,tK N.ok w (ofM 0) (fun p hp=>by rw [xr] at hp;omega)]
    congr 1
    rw [Bool.eq_iff_iff,pZ,List.any_eq_true];simp [runM]
   ·rw [hlen] at hs;have hi:=qo.lt _ (bM (d:=0) hs)
    have hi':(cL st.rows st.ends (cu st.rows st.ends)).order.getD s 0<st.all.length:=by omega
    obtain ⟨hne,hmade⟩:=DD (bC (bR x)) (bR x).em (ai (bR x).la) hst _ (Uy hi');obtain ⟨p,hp⟩:=List.exists_mem_of_ne_nil _ hne
    have hpb:p<=(bR x).ae.length:=by
     rcases hmade with e|⟨cur,l,e⟩
     ·rw [e] at hp;simp at hp;omega
     ·rw [e] at hp;obtain ⟨_,_,_,k,_⟩:=(iT N.ok).1 hp;exact (N.ok.qv _ _ k).2
    obtain ⟨w,q,hc,hq⟩: ∃w q,aQ (fun p q=>((bR x).fs.getD p 0#32).getLsbD q=true) (fun p=>e9 (bR x) p) p w q∧ja x 0 q:=by
     have up: ∀p,0<p->p<=(bR x).ae.length-> ∃w q,aQ (fun p q=>((bR x).fs.getD p 0#32).getLsbD q=true) (fun p=>e9 (bR x) p) p w q∧ja x 0 q:=fun p h1 h2=>by
      obtain ⟨w,q,k1,k2⟩:=MT (g:=fun p=>e9 (bR x) p) F 0 p h1 (by rw [<-N.ae];omega)
      have:=aQ.stay (S:=fun p=>p≠0) (F:=fun p q=>((bR x).fs.getD p 0#32).getLsbD q=true) (fun p q hp hf=>⟨(N.qv p q hp).2 hf,by have:=(cY x hf).2;omega⟩) (by omega) k1
      exact ⟨w,q,this.1,k2⟩
     by_cases e:p=0
     ·subst e;obtain ⟨f,hf⟩:=wU F 0;have hfr:=fq x hf;obtain ⟨w,q,k1,k2⟩:=up f (by omega) (by rw [N.ae];omega);exact ⟨_ :: w,q,⟨f,(N.fst f).2 hf,rfl,k1⟩,k2⟩
     ·exact up p (by omega) hpb
    refine ⟨w, ?_⟩;rw [hA s w (by rw [hlen];exact hs)];exact DB hl hw ha hx w (Tn hi') hne (A5 N.ok w hp hpb hc) (aK.2 ((N.vI q).2 hq))
 ·cases h
def EI:Go.Shelf.Ren:=⟨fun|169=>152|n=>n,fun|70=>228|9=>9|0=>0|72=>231|37=>229|127=>278|3=>3|5=>5|n=>n,fun n=>n⟩
theorem Il:Lays.n169 Tryz.prog EI:={
 mixed:=by kernel_rfl
 f169:=Tryz.func152
 t0:=by kernel_rfl
 a0:=fun w=>by kernel_rfl
 z0:=fun w=>by kernel_rfl
 v0:=fun w=>by kernel_rfl
 t3:=by kernel_rfl
 a3:=fun w=>by kernel_rfl
 z3:=fun w=>by kernel_rfl
 v3:=fun w=>by kernel_rfl
 t9:=by kernel_rfl
 a9:=fun w=>by kernel_rfl
 z9:=fun w=>by kernel_rfl
 v9:=fun w=>by kernel_rfl
 t37:=by kernel_rfl
 a37:=fun w=>by kernel_rfl
 z37:=fun w=>by kernel_rfl
 v37:=fun w=>by kernel_rfl
 t70:=by kernel_rfl
 a70:=fun w=>by kernel_rfl
 z70:=fun w=>by kernel_rfl
 v70:=fun w=>by kernel_rfl
 t72:=by kernel_rfl
 a72:=fun w=>by kernel_rfl
 z72:=fun w=>by kernel_rfl
 v72:=fun w=>by kernel_rfl
 t127:=by kernel_rfl
 a127:=fun w=>by kernel_rfl
 z127:=fun w=>by kernel_rfl
 v127:=fun w=>by kernel_rfl }
def A8:Go.Shelf.Ren:=⟨fun|171=>151|243=>199|246=>219|283=>225|284=>226|285=>227|286=>228|129=>172|317=>233|318=>234|319=>235|320=>236|337=>214|338=>237|n=>n,fun|3=>3|9=>9|2=>2|4=>4|171=>303|0=>0|53=>256|37=>229|5=>5|173=>305|212=>311|51=>184|20=>20|213=>312|46=>212|232=>301|233=>313|n=>n,fun|17=>1|18=>0|19=>2|n=>n⟩
theorem sY:Lays.n171 Tryz.prog A8:={
 mixed:=by kernel_rfl
 f129:=Tryz.func172
 f171:=Tryz.func151
 f243:=Tryz.func199
 f246:=Tryz.func219
 f283:=Tryz.func225
 f284:=Tryz.func226
 f285:=Tryz.func227
 f286:=Tryz.func228
 f317:=Tryz.func233
 f318:=Tryz.func234
 f319:=Tryz.func235
 f320:=Tryz.func236
 f337:=Tryz.func214
 f338:=Tryz.func237
 t0:=by kernel_rfl
 a0:=fun w=>by kernel_rfl
 z0:=fun w=>by kernel_rfl
 v0:=fun w=>by kernel_rfl
 t2:=by kernel_rfl
 a2:=fun w=>by kernel_rfl
 z2:=fun w=>by kernel_rfl
 v2:=fun w=>by kernel_rfl
 t3:=by kernel_rfl
 a3:=fun w=>by kernel_rfl
 z3:=fun w=>by kernel_rfl
 v3:=fun w=>by kernel_rfl
 t4:=by kernel_rfl
 a4:=fun w=>by kernel_rfl
 z4:=fun w=>by kernel_rfl
 v4:=fun w=>by kernel_rfl
 t5:=by kernel_rfl
 a5:=fun w=>by kernel_rfl
 z5:=fun w=>by kernel_rfl
 v5:=fun w=>by kernel_rfl
 t9:=by kernel_rfl
 a9:=fun w=>by kernel_rfl
 z9:=fun w=>by kernel_rfl
 v9:=fun w=>by kernel_rfl
 t20:=by kernel_rfl
 a20:=fun w=>by kernel_rfl
 z20:=fun w=>by kernel_rfl
 v20:=fun w=>by kernel_rfl
 t37:=by kernel_rfl
 a37:=fun w=>by kernel_rfl
 z37:=fun w=>by kernel_rfl
 v37:=fun w=>by kernel_rfl
 t46:=by kernel_rfl
 a46:=fun w=>by kernel_rfl
 z46:=fun w=>by kernel_rfl
 v46:=fun w=>by kernel_rfl
 t51:=by kernel_rfl
 a51:=fun w=>by kernel_rfl
 z51:=fun w=>by kernel_rfl
 v51:=fun w=>by kernel_rfl
 t53:=by kernel_rfl
 a53:=fun w=>by kernel_rfl
 z53:=fun w=>by kernel_rfl
 v53:=fun w=>by kernel_rfl
 t171:=by kernel_rfl
 a171:=fun w=>by kernel_rfl
 z171:=fun w=>by kernel_rfl
 v171:=fun w=>by kernel_rfl
 t173:=by kernel_rfl
 a173:=fun w=>by kernel_rfl
 z173:=fun w=>by kernel_rfl
 v173:=fun w=>by kernel_rfl
 t212:=by kernel_rfl
 a212:=fun w=>by kernel_rfl
 z212:=fun w=>by kernel_rfl
 v212:=fun w=>by kernel_rfl
 t213:=by kernel_rfl
 a213:=fun w=>by kernel_rfl
 z213:=fun w=>by kernel_rfl
 t232:=by kernel_rfl
 a232:=fun w=>by kernel_rfl
 z232:=fun w=>by kernel_rfl
 v232:=fun w=>by kernel_rfl
 t233:=by kernel_rfl
 a233:=fun w=>by kernel_rfl
 z233:=fun w=>by kernel_rfl
 v233:=fun w=>by kernel_rfl
 g17:=by kernel_rfl
 g18:=by kernel_rfl
 g19:=by kernel_rfl }
theorem Fo:LaysM.n171 Tryz.prog A8:={ sY with
 i0:=by kernel_rfl
 i2:=by kernel_rfl
 i3:=by kernel_rfl
 i4:=by kernel_rfl
 i5:=by kernel_rfl
 i9:=by kernel_rfl
 i20:=by kernel_rfl
 i37:=by kernel_rfl
 i46:=by kernel_rfl
 i51:=by kernel_rfl
 i53:=by kernel_rfl
 i171:=by kernel_rfl
 i173:=by kernel_rfl
 i212:=by kernel_rfl
 i232:=by kernel_rfl
 i233:=by kernel_rfl
 m17:=by kernel_rfl
 m18:=by kernel_rfl
 m19:=by kernel_rfl }
theorem EE:(Tryz.prog.info? 231).map (·.size)=some 2:=by kernel_rfl
theorem J3:liesAt Tryz.prog Tryz.prog.depth 231 (2 / Tryz.prog.cellsOf 231) 0 231 1=true:=by kernel_rfl
theorem J2:(Tryz.prog.info? 5).map (fun i=>(i.zero,i.size,i.bytes))=some (some (.int .u8 0),1,1):=by kernel_rfl
theorem KM:Builder.Extra Tryz.prog EI:={ sizeBuilder:=EE,liesBuilder:=J3,t5:=by kernel_rfl,a5:=fun w=>by kernel_rfl,z5:=fun w=>by kernel_rfl,v5:=fun w=>by kernel_rfl,infoByte:=J2,cellsByte:=by kernel_rfl,sizeByte:=by kernel_rfl,neB5:=by decide }
theorem Q0:Tryz.prog.underlying 228=some (.pointer 231):=by kernel_rfl
theorem RN:Tryz.prog.underlying 292=some .unsafePointer:=by kernel_rfl
theorem rZ (b:Nat) (w:World) (h0:w.cell? ⟨b,0,none⟩=some (.pointer none)) (hsh:w.shape? b=some (231,2)) (hfz:w.frozen? ⟨b,0,none⟩=false) :
  Calls Tryz.prog 198 #[.pointer (some ⟨b,0,none⟩)] w fun e w'=>e = .returned (.tuple #[])∧w'=w.setCell ⟨b,0,none⟩ (.pointer (some ⟨b,0,none⟩)):=by
 obtain ⟨j,hj,hjs⟩:=TS.1 EE
 go_enter Tryz.func198,Tryz.ntmps198
 go_wp2
 rw [Lib.run_to_unsafe w ⟨b,0,none⟩ Q0 RN hj (by rw [hjs];decide) hsh (Nat.zero_lt_succ 1)];simp only [Result.andThen];rw [Oper.upon_value]
 go_wp2
 rw [run_callFunc_extern Tryz.func218 (by kernel_rfl) (by kernel_rfl) (by kernel_rfl) (e:=Extern.AbiNoEscape.same) (by kernel_rfl)];rw [Lib.run_noEscape];simp only [Result.andThen];rw [Oper.upon_value]
 go_wp2
 rw [Lib.run_from_unsafe w ⟨b,0,none⟩ RN Q0 hj hsh J3];simp only [Result.andThen];rw [Oper.upon_value]
 go_wp2
 go_end0
 exact ⟨rfl,rfl⟩
theorem uw (b:Nat) (w:World) (h0:w.cell? ⟨b,0,none⟩=some (.pointer (some ⟨b,0,none⟩))) :
  Calls Tryz.prog 198 #[.pointer (some ⟨b,0,none⟩)] w fun e w'=>e = .returned (.tuple #[])∧w'=w:=by
 obtain ⟨j,hj,_⟩:=TS.1 EE
 go_enter Tryz.func198,Tryz.ntmps198
 go_wp2
 rw [Lib.run_neq_ptr_same w _ Q0 hj]
 go_wp2
 go_end0
 exact ⟨rfl,rfl⟩
abbrev Mz (B b:Nat) (bs:List Value) (w:World):Prop:=Lib.IsBuilderF 231 5 B b bs w
theorem rY (B b:Nat) (bs:List Value) (w:World) (h:Mz B b bs w) :
  Calls Tryz.prog 198 #[.pointer (some ⟨b,0,none⟩)] w fun e w'=>e = .returned (.tuple #[])∧Lib.BuilderAtF 231 5 B b (.pointer (some ⟨b,0,none⟩)) bs w'∧Below B w w':=by
 rcases h with h|h
 ·refine (rZ b w h.cell0 h.shape h.frozen0).mono ?_;rintro e w' ⟨rfl,rfl⟩;exact ⟨rfl,h.used _,(Below.refl B w).setCell (p:=⟨b,0,none⟩) h.1 _⟩
 ·refine (uw b w h.cell0).mono ?_;rintro e w' ⟨rfl,rfl⟩;exact ⟨rfl,h,Below.refl B _⟩
theorem LM:Tryz.prog.underlying 229=some (.slice 5):=by kernel_rfl
theorem OA:Tryz.prog.underlying 9=some .string:=by kernel_rfl
theorem As (B b:Nat) (bs:List Value) (s:ByteArray) (w:World) (h:Mz B b bs w) (hlen:bs.length+s.size<=140737488355328) (hBw:B<=w.heap.size) :
  Calls Tryz.prog 150 #[.pointer (some ⟨b,0,none⟩), .string s] w fun e w'=>e = .returned (.tuple #[.int .i64 s.size, .nilIface])∧Mz B b (bs++Lib.strCells s) w'∧Below B w w':=by
 obtain ⟨i0,hi,hz0,hz1,hz2⟩:=info_parts J2
 go_enter Tryz.func150,Tryz.ntmps150
 go_wp2_with fail
 refine (rY B b bs _ h).mono ?_;rintro e w1 ⟨rfl,h1,hb1⟩;obtain ⟨hB,v,hbk,hown,hne⟩:=h1;have hlt:b<w1.heap.size:=(Array.getElem?_eq_some_iff.1 hbk).1
 have c0:w1.cell? ⟨b,0,none⟩=some (.pointer (some ⟨b,0,none⟩)):=by rw [Lib.cell_of_heap hbk];rfl
 have c1:w1.cell? ⟨b,1,none⟩=some v:=by rw [Lib.cell_of_heap hbk];rfl
 go_wp2_with (at_builtin;refine Lib.wpList_append_own_stringF _ rfl _ _ 229 9 rfl B 5 i0 LM OA hi hz0 hz1 hz2 _ _ _ rfl hown s rfl ?c3 ?c4 ?c5 ?_)
 case c3=>unfold maxLen;omega
 case c4=>omega
 case c5=>have:=hb1.size;omega
 intro v' w2 hown' hgrow _;have hb2:w2.heap[b]? = some (.cells #[.pointer (some ⟨b,0,none⟩),v] 231 (0,0)):=(hgrow.block b hlt (fun e=>hne e.symm)).trans hbk
 have d0:w2.cell? ⟨b,0,none⟩=some (.pointer (some ⟨b,0,none⟩)):=by rw [Lib.cell_of_heap hb2];rfl
 have d1:w2.cell? ⟨b,1,none⟩=some v:=by rw [Lib.cell_of_heap hb2];rfl
 have f1:w2.frozen? ⟨b,1,none⟩=false:=Lib.frozen_of_heap hb2 1
 obtain ⟨ao,n',cap,rfl⟩: ∃ao n' cap,v' = .slice ao n' cap:=by
  rcases hown'.2 with ⟨hv,_⟩|⟨g,cap,cur,fz,hv,_⟩<;>exact ⟨_,_,_,hv⟩
 go_wp2
 go_ret2
 refine ⟨rfl, .inr (Lib.BuilderAtF.put (T:=231) (e:=5) hB hb2 (bs':=bs++Lib.strCells s) (by simpa [Lib.strCells_length] using hown') (by decide)), ?_⟩;exact (hb1.grown hgrow (by have:=hb1.size;omega) (fun k hk=>(hown.lt k hk).1)).setCell (p:=⟨b,1,none⟩) hB _
def MG (n:Nat) (cs:List Value):Prop:=cs=[.int .i64 (n:Nat)]
abbrev Eg (w:World) (l:List Nat) (v:Value):Prop:=dD w 1 MG l v
theorem Du {w:World} {xs:List Nat} {p:Option Addr} {n cap:Nat} (h:Eg w xs (.slice p n cap)) {k:Nat} (hk:k<xs.length) :
  ∃b o,p=some ⟨b,o,none⟩∧w.cell? ⟨b,o+k,none⟩=some (.int .i64 (xs[k]:Nat)):=by
 obtain ⟨b,o,cs,hp,hr,hc⟩:=dD.at h hk;subst hr;rw [Nat.mul_one] at hc;replace hc:=ic hc;exact ⟨b,o,hp,by simpa using hc 0 _ rfl⟩
theorem CM (l:List Nat) (n:Nat):jr (l++[n])=jr l++(Lib.decDigits n++[32]):=by simp [jr]
theorem Fu (l:List Nat) (hs: ∀n∈l,n<1000):(jr l).length<=4 * l.length:=by
 induction l with
 | nil=>simp [jr]
 | cons a l ih=>
  have h1:=qj a (hs a Ua);have h2:=ih (fun n hn=>hs n (T8 _ hn));simp only [jr,List.flatMap_cons,Tb,List.length_cons,List.length_nil] at *;omega
theorem IQ (l:List Nat) (hs: ∀n∈l,n<100) (hl:l.length<=1000000) (v:Value) (w:World) (h1:Eg w l v):Calls Tryz.prog 118 #[v] w (BT w (.string (iC l))):=by
 obtain ⟨p,c,rfl,hc1,hc2⟩:=h1.shape;unfold maxLen at hc2;have H1:=Lib.hid h1;have HS:=Lib.hid hs;clear h1 hs
 go_enter Tryz.func118,Tryz.ntmps118
 go_wp2_with fail
 go_loopw [8] (fun i wr=> ∃k:Nat,k<=l.length∧i = .int .i64 k∧Below w.heap.size w wr∧Mz w.heap.size w.heap.size (Lib.byteCells (jr (l.take k))) wr) (fun i _=>l.length - (intOf i).toNat)
 case atStart=>exact ⟨0,Nat.zero_le _,rfl,(Below.refl _ w).alloc (Nat.le_refl _) _,by rw [List.take_zero];exact Lib.IsBuilderF.of (Lib.fresh_isBuilder 231 5 w)⟩
 case round=>
  obtain ⟨k,hk,rfl,hb,hI⟩:=hrel;have HB:=Lib.hid hb;have HI:=Lib.hid hI;clear hb hI
  by_cases hlt:k<l.length
  ·obtain ⟨b1,o1,rfl,a0⟩:=Du (dD.below H1.out HB.out) hlt;have CI:=Lib.hid (Any.strconv_Itoa_small sY l[k] (HS.out _ (Uy hlt)) wr)
   have hk1:(jr (l.take k)).length<=4 * k:=by
    have:=Fu (l.take k) (fun n hn=>by have:=HS.out n (List.mem_of_mem_take hn);omega)
    have h2:(l.take k).length<=k:=List.length_take_le _ _;omega
   have hk2:=qj l[k] (by have:=HS.out _ (Uy hlt);omega)
   have CW:=Lib.hid (As w.heap.size w.heap.size (Lib.byteCells (jr (l.take k))) (⟨(Lib.decDigits l[k]).toArray⟩++⟨#[32]⟩) wr HI.out (by
    rw [Lib.byteCells_length]
    have:(⟨(Lib.decDigits l[k]).toArray⟩++⟨#[32]⟩:ByteArray).size=(Lib.decDigits l[k]).length+1:=by simp [ByteArray.size]
    omega) HB.out.size)
   go_wp2_with fail
   refine CI.out.mono ?_;rintro e w1 ⟨rfl,rfl⟩
   go_wp2_with fail
   refine CW.out.mono ?_;rintro e w2 ⟨rfl,hI2,hb2⟩
   go_wp2_with fail
   go_roundw
   case rel=>
    refine ⟨k+1,by omega,by go_num,HB.out.trans hb2, ?_⟩
    have e1:Lib.byteCells (jr (l.take (k+1)))=Lib.byteCells (jr (l.take k))++Lib.strCells (⟨(Lib.decDigits l[k]).toArray⟩++⟨#[32]⟩):=by
     rw [List.take_succ_eq_append_getElem hlt,CM,Lib.byteCells_append,Lib.strCells_eq];simp
    rw [e1];exact hI2
   case measure=>simp [intOf];omega
  ·have hkl:k=l.length:=by omega
   subst hkl
   have hI3:Mz w.heap.size w.heap.size (Lib.byteCells (jr l)) wr:=by have:=HI.out;rwa [List.take_length] at this
   have CT:=Lib.hid (Any.Builder_String_any_k Il KM w.heap.size w.heap.size (jr l) wr hI3 HB.out.size)
   go_wp2_with fail
   refine CT.out.mono ?_;rintro e w1 ⟨rfl,_,hb2,_⟩
   go_wp2_with fail
   go_ret
   exact ⟨rfl,HB.out.trans hb2⟩
theorem J5 (l:List Nat) (hs: ∀n∈l,n<100) (hl:l.length<=1000000):af Tryz.prog 118 [.aI 1 (aM l) l.length] (.v (.string (iC l))):=
 .qT (by kernel_rfl) (by simp only [ba,AV.wf,iX,Bool.and_self]) (fun D nu w vargs hra=>by
  obtain ⟨x,rfl,hx⟩:=dP hra
  exact IQ l hs hl x w (RA.Nr hx (fun x _ cs hc=>Gq (vs:=[.int .i64 (x:Nat)]) hc)))
theorem Fp (n:Nat) (h:n<1000000):af Tryz.prog 151 [.v (.int .i64 (n:Nat))] (.v (.string ⟨(Lib.decDigits n).toArray⟩)):=by
 refine ⟨⟨rfl,rfl⟩,by kernel_rfl,fun D nu w vargs hro hra=> ?_⟩;obtain ⟨x,rfl,hx⟩:=dP hra;obtain rfl:=hx.bZ;obtain ⟨⟨t,hb⟩,_⟩:=hro.gl 1 _ _ rfl
 have htab:Lib.TabIs Tryz.prog w "internal/strconv.uint64pow10" .u64 Lib.pow10Tab:=by
  have hg:Tryz.prog.globalNamed "internal/strconv.uint64pow10" = some 1:=by kernel_rfl
  simp only [Lib.TabIs,World.var?,hg,Option.bind_some,hb]
  rfl
 refine (Any.strconv_Itoa Fo n (by omega) (by omega) w htab).mono ?_;rintro e w' ⟨rfl,k,os,rfl⟩
 have e1:Lib.itoa (n:Int)=Lib.decDigits n:=by rw [Lib.itoa,if_neg (by omega)];rfl
 rw [e1];have hbw:Below w.heap.size w (Go.Sort.grow (w.drewN k) os):=Go.Lib.below_grow _ w (Nat.le_refl _) k os;exact ⟨_,nu,[],_,rfl,ak hbw,hro.below hbw, .v _,rfl,rfl⟩
section
section
variable {D:Nat->Prop} {nu:Nat->Nat->Value} {o:List (Option aa)} {w:World} {P:Program}
theorem FN (h:RO D nu o w) {id:Nat} {ob:aa} (ho:o[id]? = some (some ob)) (hv:ob.dj=false) (hz:ob.z=0):RA D nu (o.set id none) w (.mp ob.rows) (nu id 0):=by
 rcases h.obj id ob ho with ⟨e1,_⟩|⟨g,cur,hb⟩|⟨g,es,cl,hm⟩
 ·rw [e1] at hv;cases hv
 ·have:=hb.z;omega
 ·rw [hm.pq]
  have hf:Fz D nu (o.set id none) w g:=by
   refine ⟨(Array.getElem?_eq_some_iff.1 hm.cZ).1, ?_,hm.j9⟩;rintro ⟨id',ob',k1,k2⟩
   by_cases he:id=id'
   ·subst he;rw [Tw (S7.1 ho).1] at k1;cases k1
   ·rw [Tv he] at k1;exact h.sep id id' ob ob' g ho k1 he hm.bn k2
  refine .mp _ g es cl hf hm.cZ hm.sz hm.row hm.born hm.jT (fun i j row c e k1 k2 k3=> ?_);have hl:=hm.row i row k1;have hj:=(S7.1 k2).1
  match j,hj,k2 with
  | 0,_,k2=>exact (hm.key i row c e k1 k2 k3).mono (c6 id) (fun _ _ h=>h)
  | 1,_,k2=>exact (hm.val i row c e k1 k2 k3).mono (c6 id) (fun _ _ h=>h)
  | j+2,hj,_=>omega
theorem rG {s:AS} (i id:Nat) {ob:aa} (hi:s.t[i]? = some (.vec id 0)) (ho:s.o[id]? = some (some ob)) (hv:ob.dj=false) (hz:ob.z=0):yK s (AS.mk (s.t.set i (.mp ob.rows)) (s.o.set id none) s.y):=by
 intro f D nu a w hs;have hm:=c6 (nu:=nu) (o:=s.o) (w:=w) id;refine ⟨nu,hm,rfl,kW hs.ro id,⟨by simpa using hs.tm.len,fun j c x h1 h2=> ?_⟩,hs.ig⟩
 by_cases hij:i=j
 ·subst hij;rw [Tw (S7.1 hi).1] at h1;cases h1;have hr:=hs.tm.at' i _ x hi h2;cases hr;exact FN hs.ro ho hv hz
 ·rw [Tv hij] at h1;exact (hs.tm.at' j c x h1 h2).mono hm (fun _ _ h=>h)
end
theorem JH {s:bE} (ok:vS s) (l:List Nat) (lab:ByteArray) (hl:l.length<=1000000):af Tryz.prog 119 [.vp (fO s), .aI 1 (aM l) l.length, .v (.string lab)] (.aI 1 (aM (bC s l lab)) (bC s l lab).length):=by
 have h:=Jb ok (jM l) lab (by rw [sU];exact hl);rw [sU, <- Cp] at h;exact h
theorem Fj (l:List Nat) (n:Nat) (hl:l.length<=1000000): ∃k:Int,(decide (0<=k)=l.contains n)∧af Tryz.prog 155 [.aI 1 (aM l) l.length, .v (.int .i64 n)] (.v (.int .i64 k)):=by
 refine ⟨if l.contains n then (l.idxOf n:Int) else -1,by split<;>simp_all<;>omega, ?_⟩
 (refine af.enter Tryz.func155 rfl (by kernel_rfl) (by kernel_rfl) rfl (by first|rfl|(simp only [go_sem,UM,Um,Us])) (by first|rfl|(simp only [go_sem,UM,Um,Us])) ?_;simp only [Tryz.ntmps155,Tryz.results155,Tc,S6,Nat.reduceAdd,Nat.reduceSub,UN,UO,UP,UQ])
 repeat (first|(with_reducible first|refine ag.up ?_|refine fun (K:AK) hK=> ?_|(refine hK _ ?_;clear hK K))|simp only [go_sem]|with_reducible refine wA ?_|clear hK K)
 refine cI (ι:=Nat) 8 (fun i=>[(5, .undef),(8, .v (.int .i64 i))]) (fun i=>l.length - i) (fun i=>i<=l.length∧n∉l.take i) 0 ⟨Nat.zero_le _,by simp⟩ ?_ ?_
 ·(refine aq ?_ ?_ ?_<;>simp only [aG,UG,UH,UN,UO,bd,bj,AV.v.injEq,Value.int.injEq,Value.bool.injEq,Value.string.injEq,AV.vec.injEq,AV.ptr.injEq,true_or,or_true,false_or,or_false,aa.mk.injEq,forall_eq_apply_imp_iff,forall_eq,forall_eq',go_sem])
  rfl
 rintro i ⟨hi,hn⟩ K hK
 repeat (first|(with_reducible first|refine ag.up ?_|refine fun (K:AK) hK=> ?_|(refine hK _ ?_;clear hK K))|simp only [go_sem]|with_reducible refine wA ?_|clear hK K)
 refine fU.part (fun h=> ?_) (fun h=> ?_)
 ·have hlt:i<l.length:=by (try simp only [bne_iff_ne,ne_eq,bne_eq_false_iff_eq,beq_iff_eq,beq_eq_false_iff_ne,decide_eq_true_eq,decide_eq_false_iff_not,UR,VF,VE,VG] at h);omega
  have eW:=aD (k:=i) (by omega)
  have eG:(aM l).getD i []=[.v (.int .i64 (l[i]:Nat))]:=by rw [aM,getD_map _ l i [] hlt]
  repeat (first|(with_reducible first|refine ag.up ?_|refine fun (K:AK) hK=> ?_|(refine hK _ ?_;clear hK K))|simp only [go_sem,h,eG]|with_reducible refine wA ?_|clear hK K)
  refine fU.part (fun h2=> ?_) (fun h2=> ?_)
  ·have hc:n=l[i]:=by (try simp only [bne_iff_ne,ne_eq,bne_eq_false_iff_eq,beq_iff_eq,beq_eq_false_iff_ne,decide_eq_true_eq,decide_eq_false_iff_not,UR,VF,VE,VG] at h2);omega
   have hm:l.contains n=true:=by rw [VJ,hc];exact List.getElem_mem hlt
   have hx:l.idxOf n=i:=by
    have h1:l.idxOf n<=i:=by
     exact w6 l n i (by rw [hc];exact List.getElem?_eq_getElem hlt)
    rcases Nat.lt_or_ge (l.idxOf n) i with q|q
    ·exfalso
     have hq:l.idxOf n<l.length:=by omega
     refine hn (List.mem_take_iff_getElem.2 ⟨l.idxOf n,by omega, ?_⟩);exact List.getElem_idxOf hq
    ·omega
   repeat (first|(with_reducible first|refine ag.up ?_|refine fun (K:AK) hK=> ?_|(refine hK _ ?_;clear hK K))|simp only [go_sem]|with_reducible refine wA ?_|clear hK K)
   rw [hm,if_pos rfl,hx]
  ·have hc:n≠l[i]:=by (try simp only [bne_iff_ne,ne_eq,bne_eq_false_iff_eq,beq_iff_eq,beq_eq_false_iff_ne,decide_eq_true_eq,decide_eq_false_iff_not,UR,VF,VE,VG] at h2);omega
   repeat (first|(with_reducible first|refine ag.up ?_|refine fun (K:AK) hK=> ?_|(refine hK _ ?_;clear hK K))|simp only [go_sem,eW]|with_reducible refine wA ?_|clear hK K)
   exact aP.mk (i+1) ⟨by omega,by
    rw [List.take_succ_eq_append_getElem hlt,List.mem_append]
    rintro (e|e)
    ·exact hn e
    ·exact hc (by simpa using e)⟩ (by omega) (by (refine aq ?_ ?_ ?_<;>simp only [aG,UG,UH,UN,UO,bd,bj,AV.v.injEq,Value.int.injEq,Value.bool.injEq,Value.string.injEq,AV.vec.injEq,AV.ptr.injEq,true_or,or_true,false_or,or_false,aa.mk.injEq,forall_eq_apply_imp_iff,forall_eq,forall_eq',go_sem]))
 ·have hm:l.contains n=false:=by
   have:i=l.length:=by (try simp only [bne_iff_ne,ne_eq,bne_eq_false_iff_eq,beq_iff_eq,beq_eq_false_iff_ne,decide_eq_true_eq,decide_eq_false_iff_not,UR,VF,VE,VG] at h);omega
   rw [this,List.take_length] at hn;rw [<-Bool.not_eq_true,VJ];exact hn
  repeat (first|(with_reducible first|refine ag.up ?_|refine fun (K:AK) hK=> ?_|(refine hK _ ?_;clear hK K))|simp only [go_sem]|with_reducible refine wA ?_|clear hK K)
  rw [hm,if_neg (by decide)]
theorem wB (l:List Nat) (n:Nat) (hl:l.length<=1000000):af Tryz.prog 121 [.aI 1 (aM l) l.length, .v (.int .i64 n)] (.v (.bool (l.contains n))):=by
 obtain ⟨k,hk,C⟩:=Fj l n hl
 (refine af.enter Tryz.func121 rfl (by kernel_rfl) (by kernel_rfl) rfl (by first|rfl|(simp only [go_sem,UM,Um,Us])) (by first|rfl|(simp only [go_sem,UM,Um,Us])) ?_;simp only [Tryz.ntmps121,Tryz.results121,Tc,S6,Nat.reduceAdd,Nat.reduceSub,UN,UO,UP,UQ])
 repeat (first|(with_reducible first|refine ag.up ?_|refine fun (K:AK) hK=> ?_|(refine hK _ ?_;clear hK K))|simp only [go_sem]|clear hK K)
 refine ab.one C ?_
 repeat (first|(with_reducible first|refine ag.up ?_|refine fun (K:AK) hK=> ?_|(refine hK _ ?_;clear hK K))|simp only [go_sem]|clear hK K)
 rw [<-hk]
def wZ (p:Nat->Bool):List Nat->Nat->Int
 | [],_=> -1
 | x :: xs,i=>if p x then (i:Int) else wZ p xs (i+1)
theorem w5 (p:Nat->Bool): ∀(l:List Nat) (i:Nat),decide (0<=wZ p l i)=l.any p
 | [],i=>rfl
 | x :: xs,i=>by
  rw [wZ,List.any_cons]
  cases p x with
  | true=>simp
  | false=>simpa using w5 p xs (i+1)
theorem uJ {g:FuncId} (caps:List AV) (hw:ba 0 caps=true) (p:Nat->Bool) (l:List Nat) (hl:l.length<=1000000) (H: ∀x:Nat,af Tryz.prog g (.v (.int .i64 x) :: caps) (.v (.bool (p x)))) :
  af Tryz.prog 156 [.aI 1 (aM l) l.length, .fn g [] caps] (.v (.int .i64 (wZ p l 0))):=by
 (refine af.enter Tryz.func156 rfl (by kernel_rfl) (by kernel_rfl) rfl (by simp only [go_sem,ba,AV.wf,UM,Um,Us,hw]) (by simp only [go_sem,ba,AV.wf,dc,UM,Um,Us,hw]) ?_;simp only [Tryz.ntmps156,Tryz.results156,Tc,S6,Nat.reduceAdd,Nat.reduceSub,UN,UO,UP,UQ])
 repeat (first|(with_reducible first|refine ag.up ?_|refine fun (K:AK) hK=> ?_|(refine hK _ ?_;clear hK K))|simp only [go_sem]|with_reducible refine wA ?_|clear hK K)
 refine cI (ι:=Nat) 8 (fun i=>[(5, .undef),(8, .v (.int .i64 i))]) (fun i=>l.length - i) (fun i=>i<=l.length∧wZ p l 0=wZ p (l.drop i) i) 0 ⟨Nat.zero_le _,rfl⟩ ?_ ?_
 ·(refine aq ?_ ?_ ?_<;>simp only [aG,UG,UH,UN,UO,bd,bj,AV.v.injEq,Value.int.injEq,Value.bool.injEq,Value.string.injEq,AV.vec.injEq,AV.ptr.injEq,true_or,or_true,false_or,or_false,aa.mk.injEq,forall_eq_apply_imp_iff,forall_eq,forall_eq',go_sem])
  all_goals first|exact hw|rfl|exact ⟨hw,rfl⟩
 rintro i ⟨hi,hx⟩ K hK
 repeat (first|(with_reducible first|refine ag.up ?_|refine fun (K:AK) hK=> ?_|(refine hK _ ?_;clear hK K))|simp only [go_sem]|with_reducible refine wA ?_|clear hK K)
 refine fU.part (fun h=> ?_) (fun h=> ?_)
 ·have hlt:i<l.length:=by (try simp only [decide_eq_true_eq,decide_eq_false_iff_not,VE] at h);omega
  have eW:=aD (k:=i) (by omega)
  have eG:(aM l).getD i []=[.v (.int .i64 (l[i]:Nat))]:=by rw [aM,getD_map _ l i [] hlt]
  have HX:=H l[i];rw [List.drop_eq_getElem_cons hlt,wZ] at hx
  repeat (first|(with_reducible first|refine ag.up ?_|refine fun (K:AK) hK=> ?_|(refine hK _ ?_;clear hK K))|simp only [go_sem,eG]|with_reducible refine wA ?_|clear hK K)
  refine ab.one HX ?_
  rcases Bool.eq_false_or_eq_true (p l[i]) with hp|hp
  ·rw [hp,if_pos rfl] at hx
   repeat (first|(with_reducible first|refine ag.up ?_|refine fun (K:AK) hK=> ?_|(refine hK _ ?_;clear hK K))|simp only [go_sem,hp]|with_reducible refine wA ?_|clear hK K)
   rw [hx]
  ·rw [hp,if_neg (by decide)] at hx
   repeat (first|(with_reducible first|refine ag.up ?_|refine fun (K:AK) hK=> ?_|(refine hK _ ?_;clear hK K))|simp only [go_sem,hp,eW]|with_reducible refine wA ?_|clear hK K)
   refine aP.mk (i+1) ⟨by omega,hx⟩ (by omega) ?_
   (refine aq ?_ ?_ ?_<;>simp only [aG,UG,UH,UN,UO,bd,bj,AV.v.injEq,Value.int.injEq,Value.bool.injEq,Value.string.injEq,AV.vec.injEq,AV.ptr.injEq,true_or,or_true,false_or,or_false,aa.mk.injEq,forall_eq_apply_imp_iff,forall_eq,forall_eq',go_sem])
   all_goals first|exact hw|rfl
 ·have:i=l.length:=by (try simp only [decide_eq_true_eq,decide_eq_false_iff_not,VE] at h);omega
  rw [this,List.drop_length,wZ] at hx
  repeat (first|(with_reducible first|refine ag.up ?_|refine fun (K:AK) hK=> ?_|(refine hK _ ?_;clear hK K))|simp only [go_sem]|with_reducible refine wA ?_|clear hK K)
  rw [hx]
theorem pk {g:FuncId} (caps:List AV) (hw:ba 0 caps=true) (p:Nat->Bool) (l:List Nat) (hl:l.length<=1000000) (H: ∀x:Nat,af Tryz.prog g (.v (.int .i64 x) :: caps) (.v (.bool (p x)))) :
  af Tryz.prog 123 [.aI 1 (aM l) l.length, .fn g [] caps] (.v (.bool (l.any p))):=by
 have C:=uJ caps hw p l hl H
 (refine af.enter Tryz.func123 rfl (by kernel_rfl) (by kernel_rfl) rfl (by simp only [go_sem,ba,AV.wf,UM,Um,Us,hw]) (by simp only [go_sem,ba,AV.wf,dc,UM,Um,Us,hw]) ?_;simp only [Tryz.ntmps123,Tryz.results123,Tc,S6,Nat.reduceAdd,Nat.reduceSub,UN,UO,UP,UQ])
 repeat (first|(with_reducible first|refine ag.up ?_|refine fun (K:AK) hK=> ?_|(refine hK _ ?_;clear hK K))|simp only [go_sem]|clear hK K)
 refine ab.one C ?_
 repeat (first|(with_reducible first|refine ag.up ?_|refine fun (K:AK) hK=> ?_|(refine hK _ ?_;clear hK K))|simp only [go_sem]|clear hK K)
 rw [w5]
theorem Fl (last:List Nat) (n:Nat) (hl:last.length<=1000000):af Tryz.prog 120 [.v (.int .i64 n), .vp [.aI 1 (aM last) last.length]] (.v (.bool (last.contains n))):=by
 have C:=wB last n hl
 (refine af.enter Tryz.func120 rfl (by kernel_rfl) (by kernel_rfl) rfl (by first|rfl|(simp only [go_sem,UM,Um,Us])) (by first|rfl|(simp only [go_sem,UM,Um,Us])) ?_;simp only [Tryz.ntmps120,Tryz.results120,Tc,S6,Nat.reduceAdd,Nat.reduceSub,UN,UO,UP,UQ])
 repeat (first|(with_reducible first|refine ag.up ?_|refine fun (K:AK) hK=> ?_|(refine hK _ ?_;clear hK K))|simp only [go_sem]|clear hK K)
 refine ab.one C ?_
 repeat (first|(with_reducible first|refine ag.up ?_|refine fun (K:AK) hK=> ?_|(refine hK _ ?_;clear hK K))|simp only [go_sem]|clear hK K)
def DR (l:List ByteArray):List (List AV):=cf (l.zipIdx)
theorem Ba (l:List ByteArray):(DR l).length=l.length:=by simp [DR,cf]
theorem xn (l:List ByteArray) (s:ByteArray): ∀k,look (l.zipIdx k) s=(pos l s).map (fun i=>i+k):=by
 induction l with
 | nil=>intro k;simp [look,pos]
 | cons a l ih=>
  intro k;rw [List.zipIdx_cons]
  have:=ih (k+1)
  simp only [look,pos,List.find?_cons,List.findIdx?_cons] at this ⊢
  cases h:dp s a
  ·simp only [Bool.false_eq_true,if_false];rw [this,Option.map_map]
   congr 1;funext i;simp;omega
  ·simp
theorem Ei (s:ByteArray) (l:List ByteArray):jQ .string (.string s) (DR l)=some ((pos l s).map (fun n=> .v (.int .i64 (n:Nat)))):=by
 rw [DR,ug,xn,Option.map_map];rfl
theorem Fx (l:List ByteArray) (s:ByteArray):DR (l++[s])=cf (l.zipIdx++[(s,l.length)]):=by rw [DR,List.zipIdx_append];simp
theorem Ek (s:ByteArray) (l:List ByteArray) (h:pos l s=none):jf .string (.string s) (.v (.int .i64 (l.length:Nat))) (DR l)=some (DR (l++[s])):=by
 rw [DR,nE s l.length _ (by rw [xn,h];rfl),Fx]
@[go_sem] theorem Rj (n:Nat) (l:List ByteArray):bQ n (DR l)=true:=pP n _
section
variable {P:Program}
theorem B7 {n0:Nat} {c:Code} {s:AS} {Q:aJ->AS->Prop} (s0:AS) (hok:a8 c=true) (h:bK P n0 c s (fun e s'=>e = .normal∧Wk n0 s' s0)) (k:Q .normal s0):yD P n0 c s Q:=fun f m D nu a w hZr hn hm hs hmx R hO hR=>by
 refine eV hmx m hZr hn c hok s a w D nu f.Z _ R hO hm hs h ?_;rintro e D' Z' s' a' w' nu' h1 h2 ⟨rfl,hk⟩;refine hR .normal D' Z' s0 a' w' nu' ?_ (gB hk h2) k;rw [<-hk.y];exact m.step h1 h2.ro hk.qQ (gB hk h2).ro (fun c v hr hc=>hk.ra hr hc) (fun _ h=> .inl h) (fun _ h=> .inl h) (fun b hb=>⟨((m.mi h1).1 b hb).1,((m.mi h1).1 b hb).2, .inl hb⟩) (Nat.le_trans hn hk.n)
theorem EB {n0 id:Nat} {s:AS} {ops:Array Oper} {d:Bool} {Q:aJ->AS->Prop} (s0:AS) (hok:c9 ops=true) (h:bK P n0 (.region id ops d) s (fun e s'=>e = .normal∧Wk n0 s' s0)) (k:Q .normal s0):bK P n0 (.region id ops d) s Q:=by
 have:=B7 (c:= .region id ops d) s0 hok h k
 cases d
 ·exact .inr this
 ·exact .inr this
theorem wi {n0:Nat} {x y:Code} {s:AS} {Q:aJ->AS->Prop} (s0:AS) (hx:a8 x=true) (hy:a8 y=true) (h:bK P n0 x s (fun e s'=>e = .normal∧Wk n0 s' s0)) (k:bK P n0 y s0 Q):bK P n0 (.seq x y) s Q:= .inr (fun f m D nu a w hZr hn hm hs hmx R hO hR=>by
 refine wpIn_seq (eV hmx (f:=f) m hZr hn x hx s a w D nu f.Z _ _ (fun a w h=>hO a w h) hm hs h ?_);rintro e D' Z' s' a' w' nu' h1 h2 ⟨rfl,hk⟩;refine eV hmx (f:=f) m hZr hn y hy s0 a' w' D' nu' Z' Q R hO ?_ (gB hk h2) k hR;rw [<-hk.y]
 exact m.step h1 h2.ro hk.qQ (gB hk h2).ro (fun c v hr hc=>hk.ra hr hc) (fun _ h=> .inl h) (fun _ h=> .inl h) (fun b hb=>⟨((m.mi h1).1 b hb).1,((m.mi h1).1 b hb).2, .inl hb⟩) (Nat.le_trans hn hk.n))
theorem Nv {n0 i:Nat} {ops:Array Oper} {d:Bool} {a b:Code} {s:AS} {Q:aJ->AS->Prop} (h:bK P n0 (.seq (.seq (.region i ops d) a) b) s Q):bK P n0 (.seq (.seq (.region i ops d) a) b) s Q:=h
end
end
end Go.Proofs.YtlhhccmopfamhaaGreatDoor
