/- texts of one claim, one behind the other. -/
import Derived.Test.YtjcobjgjjlahdaaGreatDoorJNfaP
import Derived.Shelf.Strconv.Itoa3
import Derived.Shelf.Strings.BuilderK
import Derived.Lib.AppendIntMem
import Derived.Test.YtjcobjgjjlahdaaGreatDoorJOrdB
import Derived.Test.YtjcobjgjjlahdaaGreatDoorJChk3
set_option linter.unusedSimpArgs false
set_option linter.unusedVariables false
set_option maxRecDepth 100000
set_option maxHeartbeats 16000000
open Bool renaming not_eq_eq_eq_not -> Tn, true_and -> SD, and_self -> Tg, and_true -> SA
open Int renaming ofNat_lt -> Tp, natCast_inj -> To, ofNat_le -> Tq
open List renaming map_cons -> TN, map_nil -> TT, cons_append -> Tl, nil_append -> Tm, take_append_drop -> TU, length_append -> Rf, drop_eq_getElem_cons -> Ss, take_succ_eq_append_getElem -> SR, length_cons -> Rg, length_nil -> Q9, replicate_succ -> Ti, replicate_zero -> Tj, foldl_cons -> SI, foldl_nil -> SL, getElem_mem -> S9, getD_eq_getElem?_getD -> R6, foldl_append -> SS, getElem?_set_self -> Rx, getElem?_eq_some_iff -> Ra, getElem?_set_ne -> Rw, contains_iff_mem -> TV
open Option renaming map_eq_some_iff -> RR
namespace Go.Proofs.YtjcobjgjjlahdaaGreatDoor
open Go.RowKit
theorem s7 (f:Nat->Nat) (l:List ByteArray):bW f (l.map encS)=l.map encS:=by
 induction l with
 | nil=>rfl
 | cons x l ih=>simp only [TN,bW,ih];rfl
theorem ck.FN (s:ck) (n:Nat):s.os.map (fun x=>some (x.map (aa.bc (sig [0,1] n))))=s.os.map some:=by
 simp only [ck.os,ck.row,aP,TN,TT,Option.map_some,aa.bc,bW,bV,AV.bc,uV,s7]
 rfl
theorem ab.KT {P:Program} {f:FuncId} {args:List AV} {s s':ck} {tl:List (Option aa)} {r0:AV} {K:AV->List (Option aa)->Prop} (h:bK P f args s.os r0 s'.os) (hargs:bV (sig [0,1] (tl.length+2)) args=args) (hwa:bn 2 args=true) (hr:r0.bc (sig [0,1] (tl.length+2))=r0)
  (k:K r0 (s'.os++tl)):ab P f args (s.os++tl) K:=by
 have hn:(s.os++tl).length=tl.length+2:=by simp [ck.os]
 refine ab.fr [0,1] h (by decide) ?_ ?_ hwa ?_ ?_
 ·rw [ck.FN];simp [ck.os]
 ·rw [hn,hargs]
 ·intro i ob hi
  match i,hi with
  | 0,hi=>cases hi;simp only [ck.row,aP,dA,bn,AV.wf,zR];rfl
  | 1,hi=>cases hi;exact bE _ (fun _=>rfl) _
  | i+2,hi=>simp [ck.os] at hi
 ·rw [hn,hr]
  have e:iq (sig [0,1] (tl.length+2)) [0,1] s'.os (s.os++tl)=s'.os++tl:=by
   have h:=s'.FN (tl.length+2);simp only [ck.os,TN,TT,List.cons.injEq,Option.some.injEq,and_true] at h;simp only [ck.os,iq,h.1,h.2,Tl,Tm,List.set_cons_zero,List.set_cons_succ,TT,List.append_nil]
  rw [e];exact k
def DK (x:Ex):Prop:= ∀st:ck,st.fs.length=25->st.ai.length+(cB x).length<=24 ->
 bK Tryz.prog 146 [.ptr 0 0 28 0 0, .agg (bg x)] st.os (.agg [aP (ma x st).2.1,aP (ma x st).2.2]) (ma x st).1.os
theorem nA: ∀(l m:List Ex),bp (l++m)=bp l++bp m
 | [],m=>by simp [bp]
 | x :: l,m=>by simp only [Tl,bp,nA l m,List.append_assoc]
structure Lq (l:List Ex) (r:Gn) (k:Nat) (S:Gn):Prop where
 len:S.st.fs.length=25
 ends: ∀p∈ay S.ends,p<25
 ai: ∀h:k<l.length,S.st.ai.length+(cB l[k]).length<=24
theorem Km {l:List Ex} {st:ck} (hf:st.fs.length=25) (hb:st.ai.length+(bp l).length<=24) (k:Nat):Lq l ⟨st,true,0#32,0#32⟩ k (fL (l.take k) ⟨st,true,0#32,0#32⟩):=by
 have e:bp l=bp (l.take k)++bp (l.drop k):=by rw [<-nA,TU]
 rw [e,Rf] at hb;have S:=pz (l.take k) ⟨st,true,0#32,0#32⟩ (fun x _=>mb x) hf (by rw [jn];intro p hp;cases hp) (by show st.ai.length+(bp (l.take k)).length<=24;omega)
 refine ⟨S.len,fun p hp=> ?_,fun h=> ?_⟩
 ·rcases (S.y8 p).1 (cu.1 hp) with h|h
  ·simp at h
  ·have h2:p<=st.ai.length+(bp (l.take k)).length:=(gY (yj h)).2;omega
 ·rw [S.ai,Rf];rw [Ss h,bp,Rf] at hb;simp only;omega
theorem BP {l:List Ex} {k:Nat} (h:k<l.length) (r:Gn):fL (l.take (k+1)) r=cP l[k] (ma l[k] (fL (l.take k) r).st) (fL (l.take k) r):=by
 rw [SR h,vP];rfl
theorem Kn (l:List Ex) (hl:l.length<=24) (hk: ∀x∈l,x.ok∧aT x=true) (H: ∀x∈l,DK x) (st:ck) (hf:st.fs.length=25) (hb:st.ai.length+(bp l).length<=24) :
  bK Tryz.prog 183 [.ptr 0 0 28 0 0, .aC 3 (l.map bg) l.length] st.os (.agg [aP (fL l ⟨st,true,0#32,0#32⟩).first,aP (fL l ⟨st,true,0#32,0#32⟩).ends]) (fL l ⟨st,true,0#32,0#32⟩).st.os:=by
 have e0:fL (l.take 0) ⟨st,true,0#32,0#32⟩=⟨st,true,0#32,0#32⟩:=rfl;have eZ:aP 0#32 = .v (.int .u32 0):=rfl;simp only [aP,ck.os,ck.row]
 (refine bK.enter Tryz.func183 rfl (by kernel_rfl) (by kernel_rfl) rfl ?_;simp only [Tryz.ntmps183,Tryz.results183,Rg,Q9,Nat.reduceAdd,Nat.reduceSub,Ti,Tj,Tl,Tm])
 repeat (first|(with_reducible first|refine af.up ?_|refine fun (K:AK) hK=> ?_|(refine hK _ ?_;clear hK K))|simp only [go_sem]|with_reducible refine wA ?_|clear hK K)
 refine ni (ι:=Nat) (fun k=>[(0, .ptr 0 0 28 0 0),(4, .ptr 2 0 2 0 0),(5, .v (.bool (fL (l.take k) ⟨st,true,0#32,0#32⟩).op)),(6,aP (fL (l.take k) ⟨st,true,0#32,0#32⟩).ends),(10, .aC 3 (l.map bg) l.length),(11, .v (.int .i64 l.length)),(12, .v (.int .i64 k))])
  (fun k=>(fL (l.take k) ⟨st,true,0#32,0#32⟩).st.os++[some ⟨185,2,false,[[aP (fL (l.take k) ⟨st,true,0#32,0#32⟩).first, .v (.int .u32 0)]]⟩]) (fun k=>l.length - k) (fun k=>k<=l.length) 0 (by omega) ?_ ?_
 ·simp only [e0,aP,ck.os,ck.row,Tl,Tm]
  (refine ak ?_ ?_ ?_<;>simp only [aR,SI,SL,Ti,Tj,aX,aW,AV.v.injEq,Value.int.injEq,Value.bool.injEq,Value.string.injEq,AV.vec.injEq,AV.ptr.injEq,true_or,or_true,false_or,or_false,aa.mk.injEq,forall_eq_apply_imp_iff,forall_eq,forall_eq',go_sem])
  ·exact ⟨rfl,rfl⟩
  ·rfl
 ·intro k hkl K hK;have A:=Km hf hb k;generalize hS:fL (l.take k) ⟨st,true,0#32,0#32⟩=S at A ⊢;simp only [aP,ck.os,ck.row,Tl,Tm];simp only [aR,SI,SL,Ti,Tj,go_sem]
  repeat (first|(with_reducible first|refine af.up ?_|refine fun (K:AK) hK=> ?_|(refine hK _ ?_;clear hK K))|simp only [go_sem]|with_reducible refine wA ?_|clear hK K)
  refine cL.part (fun h=> ?_) (fun h=> ?_)
  ·have hlt:k<l.length:=by (try simp only [bne_iff_ne,ne_eq,bne_eq_false_iff_eq,beq_iff_eq,beq_eq_false_iff_ne,decide_eq_true_eq,decide_eq_false_iff_not,Tn,Int.natCast_inj,Tp,Int.ofNat_le] at h);omega
   have eG:=getD_map bg l k [] hlt;have eW:=aD (k:=k) (by omega);have C1:=H l[k] (S9 hlt) S.st A.len (A.ai hlt);have B:=mb l[k] S.st A.len (A.ai hlt);have hx:=hk l[k] (S9 hlt);have C3:=zX l[k] hx.1;rw [j6,hx.2,SD] at C3
   have hNext:fL (l.take (k+1)) ⟨st,true,0#32,0#32⟩=cP l[k] (ma l[k] S.st) S:=by rw [BP hlt,hS]
   generalize l[k]=x at *;generalize ma x S.st=b at *;have C2:=E2 b.1 S.ends b.2.1 B.len A.ends;simp only [bI] at eG C1 C3;simp only [aP] at C1 C2
   have wE:bn 2 [.ptr 0 0 28 0 0, .agg [.v (.int .i64 x.kind), .v (.string x.label), .aC 3 (x.kids.map bg) x.kids.length]]=true:=by simp only [bn,AV.wf,dL,Tg,SD];rfl
   have rE: ∀f:Nat->Nat,f 0=0->bV f [.ptr 0 0 28 0 0, .agg [.v (.int .i64 x.kind), .v (.string x.label), .aC 3 (x.kids.map bg) x.kids.length]]=[.ptr 0 0 28 0 0, .agg [.v (.int .i64 x.kind), .v (.string x.label), .aC 3 (x.kids.map bg) x.kids.length]]:=fun f hf=>by
    simp only [bV,AV.bc,hf,bS f _ (dL 0 x.kids)]
   repeat (first|(with_reducible first|refine af.up ?_|refine fun (K:AK) hK=> ?_|(refine hK _ ?_;clear hK K))|simp only [go_sem,eG]|with_reducible refine wA ?_|clear hK K)
   refine ab.KT C1 (rE _ rfl) wE rfl ?_;simp only [ck.os,ck.row,aP,Tl,Tm];obtain ⟨sS,op,en,fi⟩:=S;simp only at *
   repeat (first|(with_reducible first|refine af.up ?_|refine fun (K:AK) hK=> ?_|(refine hK _ ?_;clear hK K))|simp only [go_sem]|with_reducible refine wA ?_|clear hK K)
   refine ab.KT C2 rfl rfl rfl ?_;simp only [ck.os,ck.row,aP,Tl,Tm];cases op<;>cases hem:cg x
   all_goals
    rw [hem] at C3
    repeat (first|(with_reducible first|refine af.up ?_|refine fun (K:AK) hK=> ?_|(refine hK _ ?_;clear hK K))|simp only [go_sem,jz]|with_reducible refine wA ?_|clear hK K)
    refine ab.one C3 ?_
    repeat (first|(with_reducible first|refine af.up ?_|refine fun (K:AK) hK=> ?_|(refine hK _ ?_;clear hK K))|simp only [go_sem,jz]|with_reducible refine wA ?_|clear hK K)
    refine aM.mk (k+1) (by omega) (by omega) ?_;rw [hNext];simp only [cP,hem,ck.os,ck.row,aP,Tl,Tm,if_true,if_false,Bool.false_eq_true]
    (refine ak ?_ ?_ ?_<;>simp only [aR,SI,SL,Ti,Tj,aX,aW,AV.v.injEq,Value.int.injEq,Value.bool.injEq,Value.string.injEq,AV.vec.injEq,AV.ptr.injEq,true_or,or_true,false_or,or_false,aa.mk.injEq,forall_eq_apply_imp_iff,forall_eq,forall_eq',go_sem])
    all_goals first|exact eW|exact ⟨jz 0#32 _,eW⟩|exact ⟨jz _ _,eW⟩
  ·have hkl':k=l.length:=by (try simp only [bne_iff_ne,ne_eq,bne_eq_false_iff_eq,beq_iff_eq,beq_eq_false_iff_ne,decide_eq_true_eq,decide_eq_false_iff_not,Tn,Int.natCast_inj,Tp,Int.ofNat_le] at h);omega
   have eT:fL l ⟨st,true,0#32,0#32⟩=S:=by rw [<-hS,hkl',List.take_length]
   repeat (first|(with_reducible first|refine af.up ?_|refine fun (K:AK) hK=> ?_|(refine hK _ ?_;clear hK K))|simp only [go_sem]|with_reducible refine wA ?_|clear hK K)
   (refine ⟨?_, ?_, ?_⟩<;>simp only [aX,aW,AV.v.injEq,Value.int.injEq,Value.bool.injEq,Value.string.injEq,AV.vec.injEq,AV.ptr.injEq,true_or,or_true,false_or,or_false,aa.mk.injEq,forall_eq_apply_imp_iff,forall_eq,forall_eq',go_sem])
   ·rw [eT]
   ·rw [eT];exact ⟨rfl,rfl⟩
theorem BO {l:List Ex} {k:Nat} (h:k<l.length) (r:ck×BitVec 32×BitVec 32):eX (l.take (k+1)) r=((ma l[k] (eX (l.take k) r).1).1,(eX (l.take k) r).2.1 ||| (ma l[k] (eX (l.take k) r).1).2.1,(eX (l.take k) r).2.2 ||| (ma l[k] (eX (l.take k) r).1).2.2):=by
 rw [SR h,vO];rfl
structure Li (l:List Ex) (k:Nat) (S:ck×BitVec 32×BitVec 32):Prop where
 len:S.1.fs.length=25
 y8: ∀p∈ay S.2.2,p<25
 ai: ∀h:k<l.length,S.1.ai.length+(cB l[k]).length<=24
theorem JP {l:List Ex} {st:ck} (hf:st.fs.length=25) (hb:st.ai.length+(bp l).length<=24) (k:Nat):Li l k (eX (l.take k) (st,0#32,0#32)):=by
 have e:bp l=bp (l.take k)++bp (l.drop k):=by rw [<-nA,TU]
 rw [e,Rf] at hb;have S:=py (l.take k) (st,0#32,0#32) (fun x _=>mb x) hf (by show st.ai.length+(bp (l.take k)).length<=24;omega)
 refine ⟨S.len,fun p hp=> ?_,fun h=> ?_⟩
 ·rcases (S.y8 p).1 (cu.1 hp) with h|h
  ·simp at h
  ·have h2:p<=st.ai.length+(bp (l.take k)).length:=(gY h).2;omega
 ·rw [S.ai,Rf];rw [Ss h,bp,Rf] at hb;simp only;omega
theorem zC {k:Int} {s:ByteArray} {l:List Ex} (h:aT (.mk k s l)=true): ∀x∈l,aT x=true:=fun x hx=>by
 simp only [aT,Bool.and_eq_true,decide_eq_true_eq,List.all_eq_true] at h ⊢
 have hs: ∀y,y∈az x->y∈az (.mk k s l):=fun y hy=>by
  rw [az,b8];exact List.mem_cons_of_mem _ (List.mem_flatMap.2 ⟨x,hx,hy⟩)
 refine ⟨?_,fun y hy=>h.2 y (hs y hy)⟩
 have:=nF (.mk k s l) x (hs x (by obtain ⟨k',s',l'⟩:=x;rw [az];exact List.mem_cons_self))
 omega
theorem AA: ∀ {l:List Ex},nZ l-> ∀x∈l,x.ok
 | [],_,x,hx=>by cases hx
 | y :: l,h,x,hx=>by
  rw [nZ] at h
  rcases List.mem_cons.1 hx with rfl|hx
  ·exact h.1
  ·exact AA h.2 x hx
theorem Kb (x:Ex) (ho:x.ok) (hr:aT x=true):DK x:=by
 induction x using Ex.ind with
 | h k s l ih=>
  intro st hf hb;have hkid: ∀x∈l,x.ok∧aT x=true:=fun x hx=>⟨AA (by rw [Ex.ok] at ho;exact ho.2) x hx,zC hr x hx⟩;have H: ∀x∈l,DK x:=fun x hx=>ih x hx (hkid x hx).1 (hkid x hx).2
  have hl:l.length<=24:=by
   simp only [aT,Bool.and_eq_true,decide_eq_true_eq] at hr
   have:=uh (.mk k s l);simp only [Ex.kids] at this;omega
  by_cases h1:k=1
  ·subst h1;rw [cB,if_pos rfl] at hb;simp only [List.length_singleton] at hb;have C:=J7 ((st.ai.length+1:Nat):Int)
   have eL:(st.ai++[s]).map encS=st.ai.map encS++[[.v (.string s)]]:=by simp [encS]
   have eN:(st.ai++[s]).length=st.ai.length+1:=by simp
   rw [ma,if_pos rfl];simp only [bI,Ex.kind,Ex.label,Ex.kids,aP,ck.os,ck.row,eL,eN] at C ⊢
   (refine bK.enter Tryz.func146 rfl (by kernel_rfl) (by kernel_rfl) rfl ?_;simp only [Tryz.ntmps146,Tryz.results146,Rg,Q9,Nat.reduceAdd,Nat.reduceSub,Ti,Tj,Tl,Tm])
   repeat ((fail_if_success (with_reducible refine bD (i:=3) ?_));first|(with_reducible first|refine af.up ?_|refine fun (K:AK) hK=> ?_|refine ar (by decide) ?_|refine bo (by decide) ?_|(refine hK _ ?_;clear hK K))|simp only [go_sem,Go.undef]|with_reducible refine wA ?_|(refine aI rfl ?_)|(refine aB rfl ?_)|clear hK K)
   refine fO [8,11] [] (by decide+kernel) (by kernel_rfl) ?_
   repeat (first|(with_reducible first|refine af.up ?_|refine fun (K:AK) hK=> ?_|refine ar (by decide) ?_|refine bo (by decide) ?_|(refine hK _ ?_;clear hK K))|simp only [go_sem]|with_reducible refine wA ?_|(refine aI rfl ?_)|(refine aB rfl ?_)|clear hK K)
   refine ab.one C ?_
   repeat (first|(with_reducible first|refine af.up ?_|refine fun (K:AK) hK=> ?_|refine ar (by decide) ?_|refine bo (by decide) ?_|(refine hK _ ?_;clear hK K))|simp only [go_sem]|with_reducible refine wA ?_|(refine aI rfl ?_)|(refine aB rfl ?_)|clear hK K)
   (refine ⟨?_, ?_, ?_⟩<;>simp only [aX,aW,AV.v.injEq,Value.int.injEq,Value.bool.injEq,Value.string.injEq,AV.vec.injEq,AV.ptr.injEq,true_or,or_true,false_or,or_false,aa.mk.injEq,forall_eq_apply_imp_iff,forall_eq,forall_eq',go_sem])
  ·have f1:(k==1)=false:=beq_false_of_ne h1;rw [fY h1] at hb;rw [ma,if_neg h1]
   have wE:bn 2 [.ptr 0 0 28 0 0, .aC 3 (l.map bg) l.length]=true:=by simp only [bn,AV.wf,dL,Tg,SD];rfl
   have rE: ∀f:Nat->Nat,f 0=0->bV f [.ptr 0 0 28 0 0, .aC 3 (l.map bg) l.length]=[.ptr 0 0 28 0 0, .aC 3 (l.map bg) l.length]:=fun f hf=>by
    simp only [bV,AV.bc,hf,bS f _ (dL 0 l)]
   by_cases h2:k=2
   ·subst h2;have C:=Kn l hl hkid H st hf hb;rw [if_pos rfl];generalize fL l ⟨st,true,0#32,0#32⟩=R at *;simp only [bI,Ex.kind,Ex.label,Ex.kids,aP] at C ⊢
    (refine bK.enter Tryz.func146 rfl (by kernel_rfl) (by kernel_rfl) rfl ?_;simp only [Tryz.ntmps146,Tryz.results146,Rg,Q9,Nat.reduceAdd,Nat.reduceSub,Ti,Tj,Tl,Tm])
    repeat ((fail_if_success (with_reducible refine bD (i:=3) ?_));first|(with_reducible first|refine af.up ?_|refine fun (K:AK) hK=> ?_|refine ar (by decide) ?_|refine bo (by decide) ?_|(refine hK _ ?_;clear hK K))|simp only [go_sem,f1,ck.os,ck.row,aP]|with_reducible refine wA ?_|(refine aI rfl ?_)|(refine aB rfl ?_)|clear hK K)
    refine ab.KT C (rE _ rfl) wE rfl ?_;simp only [ck.os,ck.row,aP,Tl,Tm]
    repeat (first|(with_reducible first|refine af.up ?_|refine fun (K:AK) hK=> ?_|refine ar (by decide) ?_|refine bo (by decide) ?_|(refine hK _ ?_;clear hK K))|simp only [go_sem]|with_reducible refine wA ?_|(refine aI rfl ?_)|(refine aB rfl ?_)|clear hK K)
    (refine ⟨?_, ?_, ?_⟩<;>simp only [aX,aW,AV.v.injEq,Value.int.injEq,Value.bool.injEq,Value.string.injEq,AV.vec.injEq,AV.ptr.injEq,true_or,or_true,false_or,or_false,aa.mk.injEq,forall_eq_apply_imp_iff,forall_eq,forall_eq',go_sem])
   ·have f2:(k==2)=false:=beq_false_of_ne h2;rw [if_neg h2];have e0:eX (l.take 0) (st,0#32,0#32)=(st,0#32,0#32):=rfl;simp only [bI,Ex.kind,Ex.label,Ex.kids,aP]
    (refine bK.enter Tryz.func146 rfl (by kernel_rfl) (by kernel_rfl) rfl ?_;simp only [Tryz.ntmps146,Tryz.results146,Rg,Q9,Nat.reduceAdd,Nat.reduceSub,Ti,Tj,Tl,Tm])
    repeat ((fail_if_success (with_reducible refine bD (i:=3) ?_));first|(with_reducible first|refine af.up ?_|refine fun (K:AK) hK=> ?_|refine ar (by decide) ?_|refine bo (by decide) ?_|(refine hK _ ?_;clear hK K))|simp only [go_sem,f1,f2,ck.os,ck.row,aP]|with_reducible refine wA ?_|(refine aI rfl ?_)|(refine aB rfl ?_)|clear hK K)
    refine ni (ι:=Nat) (fun j=>[(0, .ptr 0 0 28 0 0),(3, .ptr 2 0 3 0 0),(4, .ptr 3 0 2 0 0),(40, .aC 3 (l.map bg) l.length),(41, .v (.int .i64 l.length)),(42, .v (.int .i64 j))])
     (fun j=>(eX (l.take j) (st,0#32,0#32)).1.os++[some ⟨38,3,false,[[.v (.int .i64 k), .v (.string s), .aC 3 (l.map bg) l.length]]⟩,some ⟨185,2,false,[[aP (eX (l.take j) (st,0#32,0#32)).2.1,aP (eX (l.take j) (st,0#32,0#32)).2.2]]⟩]) (fun j=>l.length - j) (fun j=>j<=l.length) 0 (by omega) ?_ ?_
    ·simp only [e0,aP,ck.os,ck.row,Tl,Tm]
     (refine ak ?_ ?_ ?_<;>simp only [aR,SI,SL,Ti,Tj,aX,aW,AV.v.injEq,Value.int.injEq,Value.bool.injEq,Value.string.injEq,AV.vec.injEq,AV.ptr.injEq,true_or,or_true,false_or,or_false,aa.mk.injEq,forall_eq_apply_imp_iff,forall_eq,forall_eq',go_sem])
     all_goals first|rfl|exact ⟨rfl,rfl⟩
    ·intro j hjl K hK;have A:=JP hf hb j;generalize hS:eX (l.take j) (st,0#32,0#32)=S at A ⊢;simp only [aP,ck.os,ck.row,Tl,Tm];simp only [aR,SI,SL,Ti,Tj,go_sem]
     repeat (first|(with_reducible first|refine af.up ?_|refine fun (K:AK) hK=> ?_|refine ar (by decide) ?_|refine bo (by decide) ?_|(refine hK _ ?_;clear hK K))|simp only [go_sem]|with_reducible refine wA ?_|(refine aI rfl ?_)|(refine aB rfl ?_)|clear hK K)
     refine cL.part (fun h=> ?_) (fun h=> ?_)
     ·have hlt:j<l.length:=by (try simp only [decide_eq_true_eq,decide_eq_false_iff_not,Tp] at h);omega
      have eG:=getD_map bg l j [] hlt;have eW:=aD (k:=j) (by omega);have C1:=H l[j] (S9 hlt) S.1 A.len (A.ai hlt);have hNext:=BO hlt (st,0#32,0#32);rw [hS] at hNext;generalize l[j]=x at *;generalize ma x S.1=b at *;simp only [bI] at eG C1;simp only [aP] at C1
      have wX:bn 2 [.ptr 0 0 28 0 0, .agg [.v (.int .i64 x.kind), .v (.string x.label), .aC 3 (x.kids.map bg) x.kids.length]]=true:=by simp only [bn,AV.wf,dL,Tg,SD];rfl
      have rX: ∀f:Nat->Nat,f 0=0->bV f [.ptr 0 0 28 0 0, .agg [.v (.int .i64 x.kind), .v (.string x.label), .aC 3 (x.kids.map bg) x.kids.length]]=[.ptr 0 0 28 0 0, .agg [.v (.int .i64 x.kind), .v (.string x.label), .aC 3 (x.kids.map bg) x.kids.length]]:=fun f hf=>by
       simp only [bV,AV.bc,hf,bS f _ (dL 0 x.kids)]
      obtain ⟨sS,fi,la⟩:=S;simp only at *
      repeat (first|(with_reducible first|refine af.up ?_|refine fun (K:AK) hK=> ?_|refine ar (by decide) ?_|refine bo (by decide) ?_|(refine hK _ ?_;clear hK K))|simp only [go_sem,eG]|with_reducible refine wA ?_|(refine aI rfl ?_)|(refine aB rfl ?_)|clear hK K)
      refine ab.KT C1 (rX _ rfl) wX rfl ?_;simp only [ck.os,ck.row,aP,Tl,Tm]
      repeat ((fail_if_success (with_reducible refine bD (i:=12) ?_));first|(with_reducible first|refine af.up ?_|refine fun (K:AK) hK=> ?_|refine ar (by decide) ?_|refine bo (by decide) ?_|(refine hK _ ?_;clear hK K))|simp only [go_sem,jz]|with_reducible refine wA ?_|(refine aI rfl ?_)|(refine aB rfl ?_)|clear hK K)
      refine fO [11,13] [(8,1000)] (by decide+kernel) (by kernel_rfl) ?_
      repeat (first|(with_reducible first|refine af.up ?_|refine fun (K:AK) hK=> ?_|refine ar (by decide) ?_|refine bo (by decide) ?_|(refine hK _ ?_;clear hK K))|simp only [go_sem,jz]|with_reducible refine wA ?_|(refine aI rfl ?_)|(refine aB rfl ?_)|clear hK K)
      refine aM.mk (j+1) (by omega) (by omega) ?_;rw [hNext];simp only [ck.os,ck.row,aP,Tl,Tm]
      (refine ak ?_ ?_ ?_<;>simp only [aR,SI,SL,Ti,Tj,aX,aW,AV.v.injEq,Value.int.injEq,Value.bool.injEq,Value.string.injEq,AV.vec.injEq,AV.ptr.injEq,true_or,or_true,false_or,or_false,aa.mk.injEq,forall_eq_apply_imp_iff,forall_eq,forall_eq',go_sem])
      all_goals first|exact eW|skip
     ·have hjl':j=l.length:=by (try simp only [decide_eq_true_eq,decide_eq_false_iff_not,Tp] at h);omega
      have eT:eX l (st,0#32,0#32)=S:=by rw [<-hS,hjl',List.take_length]
      have C:=E2 S.1 S.2.2 S.2.1 A.len A.y8;obtain ⟨sS,fi,la⟩:=S;simp only at *;simp only [aP] at C
      by_cases h4:k=4
      ·subst h4
       repeat (first|(with_reducible first|refine af.up ?_|refine fun (K:AK) hK=> ?_|refine ar (by decide) ?_|refine bo (by decide) ?_|(refine hK _ ?_;clear hK K))|simp only [go_sem,Go.undef]|with_reducible refine wA ?_|(refine aI rfl ?_)|(refine aB rfl ?_)|clear hK K)
       refine ab.KT C rfl rfl rfl ?_;simp only [ck.os,ck.row,aP,Tl,Tm]
       repeat (first|(with_reducible first|refine af.up ?_|refine fun (K:AK) hK=> ?_|refine ar (by decide) ?_|refine bo (by decide) ?_|(refine hK _ ?_;clear hK K))|simp only [go_sem]|with_reducible refine wA ?_|(refine aI rfl ?_)|(refine aB rfl ?_)|clear hK K)
       rw [eT];simp only [true_or,if_true,ck.os,ck.row,aP]
       (refine ⟨?_, ?_, ?_⟩<;>simp only [aX,aW,AV.v.injEq,Value.int.injEq,Value.bool.injEq,Value.string.injEq,AV.vec.injEq,AV.ptr.injEq,true_or,or_true,false_or,or_false,aa.mk.injEq,forall_eq_apply_imp_iff,forall_eq,forall_eq',go_sem])
      ·by_cases h5:k=5
       ·subst h5
        repeat (first|(with_reducible first|refine af.up ?_|refine fun (K:AK) hK=> ?_|refine ar (by decide) ?_|refine bo (by decide) ?_|(refine hK _ ?_;clear hK K))|simp only [go_sem,Go.undef]|with_reducible refine wA ?_|(refine aI rfl ?_)|(refine aB rfl ?_)|clear hK K)
        refine ab.KT C rfl rfl rfl ?_;simp only [ck.os,ck.row,aP,Tl,Tm]
        repeat (first|(with_reducible first|refine af.up ?_|refine fun (K:AK) hK=> ?_|refine ar (by decide) ?_|refine bo (by decide) ?_|(refine hK _ ?_;clear hK K))|simp only [go_sem]|with_reducible refine wA ?_|(refine aI rfl ?_)|(refine aB rfl ?_)|clear hK K)
        rw [eT];simp only [or_true,if_true,ck.os,ck.row,aP]
        (refine ⟨?_, ?_, ?_⟩<;>simp only [aX,aW,AV.v.injEq,Value.int.injEq,Value.bool.injEq,Value.string.injEq,AV.vec.injEq,AV.ptr.injEq,true_or,or_true,false_or,or_false,aa.mk.injEq,forall_eq_apply_imp_iff,forall_eq,forall_eq',go_sem])
       ·have f4:(k==4)=false:=beq_false_of_ne h4;have f5:(k==5)=false:=beq_false_of_ne h5
        repeat (first|(with_reducible first|refine af.up ?_|refine fun (K:AK) hK=> ?_|refine ar (by decide) ?_|refine bo (by decide) ?_|(refine hK _ ?_;clear hK K))|simp only [go_sem,f4,f5,Go.undef]|with_reducible refine wA ?_|(refine aI rfl ?_)|(refine aB rfl ?_)|clear hK K)
        rw [eT];simp only [h4,h5,or_self,if_false,ck.os,ck.row,aP]
        (refine ⟨?_, ?_, ?_⟩<;>simp only [aX,aW,AV.v.injEq,Value.int.injEq,Value.bool.injEq,Value.string.injEq,AV.vec.injEq,AV.ptr.injEq,true_or,or_true,false_or,or_false,aa.mk.injEq,forall_eq_apply_imp_iff,forall_eq,forall_eq',go_sem])
def gu (s:ck):List AV:= .aC 1 (s.ai.map encS) s.ai.length :: (s.fs.map aP++[aP s.la, .v (.bool s.em)])
theorem vi (n:Nat) (s:ck):bn n (gu s)=true:=by simp only [gu,aP,bn,AV.wf,zR,aA,Tg]
attribute [go_sem] vi
theorem J4 (s:ck):ag Tryz.prog 193 [.vp (gu s)] (.v (.int .i64 s.ai.length)):=by
 simp only [gu,aP]
 (refine ag.enter Tryz.func193 rfl (by kernel_rfl) (by kernel_rfl) rfl (by first|rfl|(simp only [go_sem,Tg,SA,SD])) (by first|rfl|(simp only [go_sem,Tg,SA,SD])) ?_;simp only [Tryz.ntmps193,Tryz.results193,Rg,Q9,Nat.reduceAdd,Nat.reduceSub,Ti,Tj,Tl,Tm])
 repeat' (first|(with_reducible first|refine af.up ?_|refine fun (K:AK) hK=> ?_|(refine hK _ ?_;clear hK K))|simp only [go_sem]|clear hK K|(with_reducible refine ab.one (by assumption) ?_)|(with_reducible refine aQ.one (by assumption) ?_)|(refine cL.part (fun hb=> ?_) (fun hb=> ?_)<;>simp only [hb,go_sem])|(refine cL.part (fun hb=> ?_) (fun hb=> ?_))|(with_reducible refine dy.mk ?_ ?_))
theorem Ij (s:ck) (hf:s.fs.length=25):ag Tryz.prog 150 [.vp (gu s)] (.aC 1 (au (ay s.la)) (ay s.la).length):=by
 have C:=E3 s.la
 have eD:List.drop 25 (s.fs.map aP++[.v (.int .u32 s.la.toNat), .v (.bool s.em)])=[.v (.int .u32 s.la.toNat), .v (.bool s.em)]:=by rw [List.drop_append_of_le_length (by simp [hf]),List.drop_eq_nil_of_le (by simp [hf])];rfl
 simp only [gu,aP] at *
 (refine ag.enter Tryz.func150 rfl (by kernel_rfl) (by kernel_rfl) rfl (by first|rfl|(simp only [go_sem,Tg,SA,SD])) (by first|rfl|(simp only [go_sem,Tg,SA,SD])) ?_;simp only [Tryz.ntmps150,Tryz.results150,Rg,Q9,Nat.reduceAdd,Nat.reduceSub,Ti,Tj,Tl,Tm])
 repeat (first|(with_reducible first|refine af.up ?_|refine fun (K:AK) hK=> ?_|(refine hK _ ?_;clear hK K))|simp only [go_sem,eD]|clear hK K)
 refine ab.one C ?_
 repeat (first|(with_reducible first|refine af.up ?_|refine fun (K:AK) hK=> ?_|(refine hK _ ?_;clear hK K))|simp only [go_sem]|clear hK K)
 (refine kY.of 40 rfl ?_;simp only [go_sem])
theorem Fb (s:ck) (hf:s.fs.length=25):ag Tryz.prog 155 [.vp (gu s)] (.v (.bool s.em)):=by
 have eD:List.drop 26 (s.fs.map aP++[.v (.int .u32 s.la.toNat), .v (.bool s.em)])=[.v (.bool s.em)]:=by
  rw [show 26=s.fs.length+1 by omega,show (s.fs.length+1)=(s.fs.map aP).length+1 by simp,List.drop_append];simp
 simp only [gu,aP] at *
 (refine ag.enter Tryz.func155 rfl (by kernel_rfl) (by kernel_rfl) rfl (by first|rfl|(simp only [go_sem,Tg,SA,SD])) (by first|rfl|(simp only [go_sem,Tg,SA,SD])) ?_;simp only [Tryz.ntmps155,Tryz.results155,Rg,Q9,Nat.reduceAdd,Nat.reduceSub,Ti,Tj,Tl,Tm])
 repeat (first|(with_reducible first|refine af.up ?_|refine fun (K:AK) hK=> ?_|(refine hK _ ?_;clear hK K))|simp only [go_sem,eD,Go.undef]|clear hK K)
def Aq (s:ck) (p:Int):ByteArray:=if 1<=p∧p<=s.ai.length then s.ai.getD (p - 1).toNat ⟨#[]⟩ else ⟨#[]⟩
def PU (s:ck) (p:Int):List Nat:=if 1<=p∧p<=s.ai.length then ay (s.fs.getD p.toNat 0#32) else []
theorem Cl {s:ck} {p:Int} (h1:1<=p) (h2:p<=s.ai.length):(s.ai.map encS).getD (p - 1).toNat []=[.v (.string (Aq s p))]:=by
 have hlt:(p - 1).toNat<s.ai.length:=by omega
 rw [Aq,if_pos ⟨h1,h2⟩];rw [R6,R6,List.getElem?_map,List.getElem?_eq_getElem hlt];rfl
theorem EF {fs:List (BitVec 32)} {X:List AV} {p:Nat} (h:p<fs.length): ∃r,(fs.map aP++X).drop (p * 1)=aP (fs.getD p 0#32) :: r:=by
 obtain ⟨r,e⟩:=Am (l:= .undef) (X:=X) h;rw [Nat.add_comm,List.drop_succ_cons] at e;exact ⟨r,e⟩
def mB (s:ck) (l:List Nat):BitVec 32:=l.foldl (fun t p=>t ||| s.fs.getD p 0#32) 0#32
def y0 (s:ck) (lab:ByteArray) (t:BitVec 32) (p:Nat):BitVec 32:=if (Aq s p).toList==lab.toList then t else t &&& ~~~ ofM p
def qf (s:ck) (lab:ByteArray) (l:List Nat) (t:BitVec 32):BitVec 32:=l.foldl (y0 s lab) t
def lu (s:ck) (aR:BitVec 32) (lab:ByteArray):BitVec 32:=qf s lab (ay (mB s (ay aR))) (mB s (ay aR))
theorem Cz (s:ck) (l:List Nat) (p:Nat):mB s (l++[p])=mB s l ||| s.fs.getD p 0#32:=by rw [mB,SS];rfl
theorem y4 (s:ck) (lab:ByteArray) (l:List Nat) (t:BitVec 32) (p:Nat):qf s lab (l++[p]) t=y0 s lab (qf s lab l t) p:=by rw [qf,SS];rfl
theorem Ku (s:ck) (fr:BitVec 32) (lab:ByteArray) (hf:s.fs.length=25) (hn:s.ai.length<=24) (h1: ∀p∈ay fr,p<25) (h2: ∀p∈ay (mB s (ay fr)),1<=p∧p<=s.ai.length) :
  ag Tryz.prog 194 [.vp (gu s),aP fr, .v (.string lab)] (aP (lu s fr lab)):=by
 have A1:=mK fr;have A2:=mK (mB s (ay fr));have O:=fun p=>J7 p;have hV:=vi;obtain ⟨V,hVe⟩: ∃V,V=gu s:=⟨_,rfl⟩;simp only [lI,aP] at *
 (refine ag.enter Tryz.func194 rfl (by kernel_rfl) (by kernel_rfl) rfl (by first|rfl|(simp only [go_sem,Tg,SA,SD])) (by first|rfl|(simp only [go_sem,Tg,SA,SD])) ?_;simp only [Tryz.ntmps194,Tryz.results194,Rg,Q9,Nat.reduceAdd,Nat.reduceSub,Ti,Tj,Tl,Tm])
 repeat (first|(with_reducible first|refine af.up ?_|refine fun (K:AK) hK=> ?_|refine wE ?_|refine wD ?_|refine wK ?_|refine wF ?_|refine ar (by decide) ?_|refine bo (by decide) ?_|(refine hK _ ?_;clear hK K))|simp only [go_sem]|with_reducible refine wA ?_|clear hK K)
 refine ab.fr [] A1 (by simp) ?_ ?_ ?_ ?_ ?_
 ·rfl
 ·rfl
 ·rfl
 ·intro k ob hk;simp at hk
 repeat (first|(with_reducible first|refine af.up ?_|refine fun (K:AK) hK=> ?_|refine wE ?_|refine wD ?_|refine wK ?_|refine wF ?_|refine ar (by decide) ?_|refine bo (by decide) ?_|(refine hK _ ?_;clear hK K))|simp only [go_sem]|with_reducible refine wA ?_|clear hK K)
 refine gN fr 3 (by simp only [lI,aP];rfl) 7 (fun k=>[some ⟨152,1,false,[[.vp (gu s)]]⟩,some ⟨9,1,false,[[.v (.string lab)]]⟩,some ⟨180,1,false,[[aP (mB s ((ay fr).take k))]]⟩,none]) (fun _=>True) trivial ?_ rfl ?_ (by kernel_rfl) (by kernel_rfl) rfl ?_ ?_
 ·rfl
 ·simp only [aP]
  (refine ak ?_ ?_ ?_<;>simp only [aR,SI,SL,Ti,Tj,aX,aW,AV.v.injEq,Value.int.injEq,Value.bool.injEq,Value.string.injEq,AV.vec.injEq,AV.ptr.injEq,true_or,or_true,false_or,or_false,aa.mk.injEq,forall_eq_apply_imp_iff,forall_eq,forall_eq',go_sem])
  all_goals rfl
 ·intro k hk _;have hp:=h1 _ (List.getElem_mem hk);rw [SR hk,Cz];generalize mB s ((ay fr).take k)=T at *;generalize (ay fr)[k]=p at *;obtain ⟨r,eD⟩:=EF (X:=[.v (.int .u32 s.la.toNat), .v (.bool s.em)]) (fs:=s.fs) (p:=p) (by omega);simp only [aP,gu] at eD ⊢
  repeat (first|(with_reducible first|refine af.up ?_|refine fun (K:AK) hK=> ?_|refine wE ?_|refine wD ?_|refine wK ?_|refine wF ?_|refine ar (by decide) ?_|refine bo (by decide) ?_|(refine hK _ ?_;clear hK K))|simp only [go_sem,eD,jz]|with_reducible refine wA ?_|clear hK K)
  (refine ak ?_ ?_ ?_<;>simp only [aR,SI,SL,Ti,Tj,aX,aW,AV.v.injEq,Value.int.injEq,Value.bool.injEq,Value.string.injEq,AV.vec.injEq,AV.ptr.injEq,true_or,or_true,false_or,or_false,aa.mk.injEq,forall_eq_apply_imp_iff,forall_eq,forall_eq',go_sem])
 ·intro _;have e1:(ay fr).take (ay fr).length=ay fr:=List.take_length;simp only [e1,aP,gu]
  repeat (first|(with_reducible first|refine af.up ?_|refine fun (K:AK) hK=> ?_|refine wE ?_|refine wD ?_|refine wK ?_|refine wF ?_|refine ar (by decide) ?_|refine bo (by decide) ?_|(refine hK _ ?_;clear hK K))|simp only [go_sem]|with_reducible refine wA ?_|clear hK K)
  refine ab.fr [] A2 (by simp) ?_ ?_ ?_ ?_ ?_
  ·rfl
  ·rfl
  ·rfl
  ·intro k ob hk;simp at hk
  repeat (first|(with_reducible first|refine af.up ?_|refine fun (K:AK) hK=> ?_|refine wE ?_|refine wD ?_|refine wK ?_|refine wF ?_|refine ar (by decide) ?_|refine bo (by decide) ?_|(refine hK _ ?_;clear hK K))|simp only [go_sem]|with_reducible refine wA ?_|clear hK K)
  have hS:lu s fr lab=qf s lab (ay (mB s (ay fr))) (mB s (ay fr)):=rfl;generalize mB s (ay fr)=T at *
  refine gN T 4 (by simp only [lI,aP];rfl) 7 (fun k=>[some ⟨152,1,false,[[.vp (gu s)]]⟩,some ⟨9,1,false,[[.v (.string lab)]]⟩,some ⟨180,1,false,[[aP (qf s lab ((ay T).take k) T)]]⟩,none,none]) (fun _=>True) trivial ?_ rfl ?_ (by kernel_rfl) (by kernel_rfl) rfl ?_ ?_
  ·rfl
  ·simp only [aP,gu]
   (refine ak ?_ ?_ ?_<;>simp only [aR,SI,SL,Ti,Tj,aX,aW,AV.v.injEq,Value.int.injEq,Value.bool.injEq,Value.string.injEq,AV.vec.injEq,AV.ptr.injEq,true_or,or_true,false_or,or_false,aa.mk.injEq,forall_eq_apply_imp_iff,forall_eq,forall_eq',go_sem])
   all_goals rfl
  ·intro k hk _;have hp:=h2 _ (List.getElem_mem hk);rw [SR hk,y4,y0];generalize qf s lab ((ay T).take k) T=U at *;generalize (ay T)[k]=p at *;have eG:=Cl (s:=s) (p:=p) (by omega) (by omega);have eW:IntKind.i64.wrap ((p:Int) - 1)=(p:Int) - 1:=fK (by omega) (by omega);have C:=O p;simp only [aP,gu]
   cases hq:(Aq s p).toList==lab.toList
   ·simp only [Bool.false_eq_true,if_false]
    repeat ((fail_if_success (with_reducible refine bD (i:=7) ?_));first|(with_reducible first|refine af.up ?_|refine fun (K:AK) hK=> ?_|refine wK ?_|refine wF ?_|refine ar (by decide) ?_|refine bo (by decide) ?_|(refine hK _ ?_;clear hK K))|simp only [go_sem,eG,eW,hq]|with_reducible refine wA ?_|clear hK K)
    refine wD ?_
    repeat (first|(with_reducible first|refine af.up ?_|refine fun (K:AK) hK=> ?_|refine wK ?_|refine wF ?_|refine ar (by decide) ?_|refine bo (by decide) ?_|(refine hK _ ?_;clear hK K))|simp only [go_sem,eG,eW,hq]|with_reducible refine wA ?_|clear hK K)
    refine fO [4] [] (by decide+kernel) (by kernel_rfl) ?_
    repeat (first|(with_reducible first|refine af.up ?_|refine fun (K:AK) hK=> ?_|refine wK ?_|refine wF ?_|refine ar (by decide) ?_|refine bo (by decide) ?_|(refine hK _ ?_;clear hK K))|simp only [go_sem,eG,eW,hq]|with_reducible refine wA ?_|clear hK K)
    refine aQ.one C ?_
    repeat (first|(with_reducible first|refine af.up ?_|refine fun (K:AK) hK=> ?_|refine wK ?_|refine wF ?_|refine ar (by decide) ?_|refine bo (by decide) ?_|(refine hK _ ?_;clear hK K))|simp only [go_sem,Ic]|with_reducible refine wA ?_|clear hK K)
    (refine ak ?_ ?_ ?_<;>simp only [aR,SI,SL,Ti,Tj,aX,aW,AV.v.injEq,Value.int.injEq,Value.bool.injEq,Value.string.injEq,AV.vec.injEq,AV.ptr.injEq,true_or,or_true,false_or,or_false,aa.mk.injEq,forall_eq_apply_imp_iff,forall_eq,forall_eq',go_sem])
    all_goals rfl
   ·simp only [if_true]
    repeat (first|(with_reducible first|refine af.up ?_|refine fun (K:AK) hK=> ?_|refine wE ?_|refine wD ?_|refine wK ?_|refine wF ?_|refine ar (by decide) ?_|refine bo (by decide) ?_|(refine hK _ ?_;clear hK K))|simp only [go_sem,eG,eW,hq]|with_reducible refine wA ?_|clear hK K)
    (refine ak ?_ ?_ ?_<;>simp only [aR,SI,SL,Ti,Tj,aX,aW,AV.v.injEq,Value.int.injEq,Value.bool.injEq,Value.string.injEq,AV.vec.injEq,AV.ptr.injEq,true_or,or_true,false_or,or_false,aa.mk.injEq,forall_eq_apply_imp_iff,forall_eq,forall_eq',go_sem])
    all_goals rfl
  ·intro _;have e2:(ay T).take (ay T).length=ay T:=List.take_length;simp only [e2,aP,gu]
   repeat (first|(with_reducible first|refine af.up ?_|refine fun (K:AK) hK=> ?_|refine wE ?_|refine wD ?_|refine wK ?_|refine wF ?_|refine ar (by decide) ?_|refine bo (by decide) ?_|(refine hK _ ?_;clear hK K))|simp only [go_sem]|with_reducible refine wA ?_|clear hK K)
   rw [hS]
structure JK (s:ck):Prop where
 len:s.fs.length=25
 n:s.ai.length<=24
 B5: ∀p q,(s.fs.getD p 0#32).getLsbD q=true->1<=q∧q<=s.ai.length
 la: ∀q,s.la.getLsbD q=true->1<=q∧q<=s.ai.length
theorem pU {f:Nat->BitVec 32} {q:Nat}: ∀(l:List Nat) (t:BitVec 32),(l.foldl (fun t p=>t ||| f p) t).getLsbD q=true↔t.getLsbD q=true∨ ∃p∈l,(f p).getLsbD q=true
 | [],t=>by simp
 | x :: l,t=>by
  rw [SI,pU l,BitVec.getLsbD_or,Bool.or_eq_true];simp only [List.mem_cons,exists_eq_or_imp,or_assoc]
theorem Fu {s:ck} {l:List Nat} {q:Nat}:(mB s l).getLsbD q=true ↔ ∃p∈l,(s.fs.getD p 0#32).getLsbD q=true:=by
 rw [mB,pU];simp
theorem IU {s:ck} (ok:JK s) (m:BitVec 32) (lab:ByteArray) (h1: ∀p∈ay m,p<25):ag Tryz.prog 194 [.vp (gu s),aP m, .v (.string lab)] (aP (lu s m lab)):=
 Ku s m lab ok.len ok.n h1 (fun p hp=>by
  obtain ⟨q,_,h⟩:=Fu.1 (cu.1 hp)
  exact ok.B5 _ _ h)
def pX (s:ck) (t:BitVec 32) (p:Int):BitVec 32:=if p<=s.ai.length then t ||| ofM p else t
def jR (s:ck) (l:List Int):BitVec 32:=l.foldl (pX s) 0#32
theorem yR (s:ck) (l:List Int) (p:Int):jR s (l++[p])=pX s (jR s l) p:=by rw [jR,SS];rfl
theorem si {s:ck} (ok:JK s) {q:Nat}: ∀(l:List Int) (t:BitVec 32),(l.foldl (pX s) t).getLsbD q=true↔t.getLsbD q=true∨((q:Int)∈l∧q<=s.ai.length)
 | [],t=>by simp
 | x :: l,t=>by
  have hn:=ok.n;rw [SI,si ok l,pX,List.mem_cons]
  split
  ·rename_i h;rw [BitVec.getLsbD_or,Bool.or_eq_true,Ay,decide_eq_true_eq]
   constructor
   ·rintro ((h|h)|h)
    ·exact .inl h
    ·exact .inr ⟨.inl h.2.2,by omega⟩
    ·exact .inr ⟨.inr h.1,h.2⟩
   ·rintro (h|⟨h|h,h2⟩)
    ·exact .inl (.inl h)
    ·exact .inl (.inr ⟨by omega,by omega,h⟩)
    ·exact .inr ⟨h,h2⟩
  ·rename_i h
   constructor
   ·rintro (h|h)
    ·exact .inl h
    ·exact .inr ⟨.inr h.1,h.2⟩
   ·rintro (h|⟨h|h,h2⟩)
    ·exact .inl h
    ·exfalso;omega
    ·exact .inr ⟨h,h2⟩
theorem ED {s:ck} (ok:JK s) (l:List Int): ∀p∈ay (jR s l),p<25:=fun p hp=>by
 have:=(si ok l 0#32).1 (cu.1 hp)
 have:=ok.n
 simp at *; omega
theorem Ik {s:ck} (ok:JK s) (l:List Int) (lab:ByteArray) (hl:l.length<=1000000):ag Tryz.prog 152 [.vp (gu s), .aC 1 (l.map encI) l.length, .v (.string lab)]
  (.aC 1 (au (ay (lu s (jR s l) lab))) (ay (lu s (jR s l) lab)).length):=by
 have L:=J4 s;have S:=IU ok (jR s l) lab (ED ok l);have B:=E3 (lu s (jR s l) lab);have O:=fun p=>J7 p;have eZ:aP 0#32 = .v (.int .u32 0):=rfl;generalize hR:lu s (jR s l) lab=R at *;simp only [aP] at *
 (refine ag.enter Tryz.func152 rfl (by kernel_rfl) (by kernel_rfl) rfl (by first|rfl|(simp only [go_sem,Tg,SA,SD])) (by first|rfl|(simp only [go_sem,Tg,SA,SD])) ?_;simp only [Tryz.ntmps152,Tryz.results152,Rg,Q9,Nat.reduceAdd,Nat.reduceSub,Ti,Tj,Tl,Tm])
 repeat (first|(with_reducible first|refine af.up ?_|refine fun (K:AK) hK=> ?_|(refine hK _ ?_;clear hK K))|simp only [go_sem]|with_reducible refine wA ?_|clear hK K)
 refine ni (ι:=Nat) (fun k=>[(0, .vp (gu s)),(1, .aC 1 (l.map encI) l.length),(2, .v (.string lab)),(6, .v (.slice none 0 0)),(7,aP (jR s (l.take k))),(12, .aC 1 (l.map encI) l.length),(13, .v (.int .i64 l.length)),(14, .v (.int .i64 k))]) (fun k=>[]) (fun k=>l.length - k) (fun k=>k<=l.length) 0 (by omega) ?_ ?_
 ·simp only [aP]
  (refine ak ?_ ?_ ?_<;>simp only [aR,SI,SL,Ti,Tj,aX,aW,AV.v.injEq,Value.int.injEq,Value.bool.injEq,Value.string.injEq,AV.vec.injEq,AV.ptr.injEq,true_or,or_true,false_or,or_false,aa.mk.injEq,forall_eq_apply_imp_iff,forall_eq,forall_eq',go_sem])
  exact ⟨rfl,rfl⟩
 ·intro k hkl K hK;simp only [aP];simp only [aR,SI,SL,Ti,Tj,go_sem]
  repeat (first|(with_reducible first|refine af.up ?_|refine fun (K:AK) hK=> ?_|(refine hK _ ?_;clear hK K))|simp only [go_sem]|with_reducible refine wA ?_|clear hK K)
  refine cL.part (fun h=> ?_) (fun h=> ?_)
  ·have hlt:k<l.length:=by (try simp only [bne_iff_ne,ne_eq,bne_eq_false_iff_eq,beq_iff_eq,beq_eq_false_iff_ne,decide_eq_true_eq,decide_eq_false_iff_not,Tn,To,Tp,Tq] at h);omega
   have eG:=getD_map encI l k [] hlt;have eW:=aD (k:=k) (by omega);have hN:=yR s (l.take k) l[k];rw [<-SR hlt,pX] at hN;have Ok:=O l[k];simp only [encI] at eG
   repeat (first|(with_reducible first|refine af.up ?_|refine fun (K:AK) hK=> ?_|(refine hK _ ?_;clear hK K))|simp only [go_sem,eG]|with_reducible refine wA ?_|clear hK K)
   refine ab.one L ?_
   repeat (first|(with_reducible first|refine af.up ?_|refine fun (K:AK) hK=> ?_|(refine hK _ ?_;clear hK K))|simp only [go_sem]|with_reducible refine wA ?_|clear hK K)
   refine cL.part (fun h=> ?_) (fun h=> ?_)
   ·rw [if_pos (by (try simp only [bne_iff_ne,ne_eq,bne_eq_false_iff_eq,beq_iff_eq,beq_eq_false_iff_ne,decide_eq_true_eq,decide_eq_false_iff_not,Tn,To,Tp,Tq] at h);omega)] at hN
    repeat (first|(with_reducible first|refine af.up ?_|refine fun (K:AK) hK=> ?_|(refine hK _ ?_;clear hK K))|simp only [go_sem]|with_reducible refine wA ?_|clear hK K)
    refine ab.one Ok ?_
    repeat (first|(with_reducible first|refine af.up ?_|refine fun (K:AK) hK=> ?_|(refine hK _ ?_;clear hK K))|simp only [go_sem,jz]|with_reducible refine wA ?_|clear hK K)
    refine aM.mk (k+1) (by omega) (by omega) ?_;rw [hN];simp only [aP]
    (refine ak ?_ ?_ ?_<;>simp only [aR,SI,SL,Ti,Tj,aX,aW,AV.v.injEq,Value.int.injEq,Value.bool.injEq,Value.string.injEq,AV.vec.injEq,AV.ptr.injEq,true_or,or_true,false_or,or_false,aa.mk.injEq,forall_eq_apply_imp_iff,forall_eq,forall_eq',go_sem])
    all_goals first|exact eW|skip
   ·rw [if_neg (by (try simp only [bne_iff_ne,ne_eq,bne_eq_false_iff_eq,beq_iff_eq,beq_eq_false_iff_ne,decide_eq_true_eq,decide_eq_false_iff_not,Tn,To,Tp,Tq] at h);omega)] at hN
    repeat (first|(with_reducible first|refine af.up ?_|refine fun (K:AK) hK=> ?_|(refine hK _ ?_;clear hK K))|simp only [go_sem]|with_reducible refine wA ?_|clear hK K)
    refine aM.mk (k+1) (by omega) (by omega) ?_;rw [hN];simp only [aP]
    (refine ak ?_ ?_ ?_<;>simp only [aR,SI,SL,Ti,Tj,aX,aW,AV.v.injEq,Value.int.injEq,Value.bool.injEq,Value.string.injEq,AV.vec.injEq,AV.ptr.injEq,true_or,or_true,false_or,or_false,aa.mk.injEq,forall_eq_apply_imp_iff,forall_eq,forall_eq',go_sem])
    all_goals first|exact eW|skip
  ·have e1:l.take k=l:=List.take_of_length_le (by (try simp only [bne_iff_ne,ne_eq,bne_eq_false_iff_eq,beq_iff_eq,beq_eq_false_iff_ne,decide_eq_true_eq,decide_eq_false_iff_not,Tn,To,Tp,Tq] at h);omega);simp only [e1]
   repeat (first|(with_reducible first|refine af.up ?_|refine fun (K:AK) hK=> ?_|(refine hK _ ?_;clear hK K))|simp only [go_sem]|with_reducible refine wA ?_|clear hK K)
   refine ab.one S ?_
   repeat (first|(with_reducible first|refine af.up ?_|refine fun (K:AK) hK=> ?_|(refine hK _ ?_;clear hK K))|simp only [go_sem]|with_reducible refine wA ?_|clear hK K)
   refine ab.one B ?_
   repeat (first|(with_reducible first|refine af.up ?_|refine fun (K:AK) hK=> ?_|(refine hK _ ?_;clear hK K))|simp only [go_sem]|with_reducible refine wA ?_|clear hK K)
   (refine kY.of 40 rfl ?_;simp only [go_sem])
def runM (s:ck) (w:List ByteArray):BitVec 32:=w.foldl (lu s) (ofM 0)
def Pt (s:ck) (w:List ByteArray):Bool:=if w.length=0 then s.em else runM s w &&& s.la !=0#32
theorem EE {o:List (Option aa)}: ∀(L:List AV) (n:Nat),(∀c∈L, ∃x,c = .v x)->L.length+2<=n-> ∃p,fx o n L=some (p,L)∧p
 | [],n+1,_,_=>⟨True,rfl,trivial⟩
 | a :: l,n+2,hL,hn=>by
  obtain ⟨x,rfl⟩:=hL a (by simp);obtain ⟨p,h1,h2⟩:=EE (o:=o) l (n+1) (fun c hc=>hL c (by simp [hc])) (by simp at hn;omega);exact ⟨((AV.v x).wf 0=true)∧p,by rw [fx,h1];rfl,rfl,h2⟩
 | a :: l,0,_,hn=>by simp at hn
 | a :: l,1,_,hn=>by simp at hn
 | [],0,_,hn=>by simp at hn
def u5 (x:Ex):ck:=⟨[],List.replicate 25 0#32,0#32,j6 x⟩
def ja (x:Ex):ck:={ (ma x (u5 x)).1 with fs:=(ma x (u5 x)).1.fs.set 0 (ma x (u5 x)).2.1,la:=(ma x (u5 x)).2.2 }
theorem Cn (x:Ex):(cB x).length<=(az x).length:=by
 induction x using Ex.ind with
 | h k s l ih=>
  have hl: ∀m:List Ex,(∀y∈m,(cB y).length<=(az y).length)->(bp m).length<=(bR m).length:=fun m=>by
   induction m with
   | nil=>intro _;simp [bp,bR]
   | cons y m ihm=>
    intro h;rw [bp,bR,Rf,Rf];have h1:=h y (by simp);have h2:=ihm (fun z hz=>h z (by simp [hz]));omega
  have:=hl l ih
  rw [cB,az,Rg]
  split
  ·simp
  ·omega
theorem EX {x:Ex} (h:aT x=true):(cB x).length<=24:=by
 simp only [aT,Bool.and_eq_true,decide_eq_true_eq] at h
 have:=Cn x;omega
theorem Io (ai:List ByteArray) (f1 l1:BitVec 32) (rest:List (BitVec 32)) (em:Bool) (hr:rest.length=24) (o:List (Option aa)) (h1:o[1]? = some (some ⟨183,28,false,[.vec 2 ai.length :: aP f1 :: (rest.map aP++[aP l1, .v (.bool em)])]⟩)) (h2:o[2]? = some (some ⟨9,1,true,ai.map encS⟩)) :
  kY o (.dC [.ptr 1 0 28 0 0, .v (.int .i64 0)]) (.dC [.vp (gu ⟨ai,f1 :: rest,l1,em⟩), .v (.int .i64 0)]):=by
 obtain ⟨p,hp,hp'⟩:=EE (o:=o) (aP f1 :: (rest.map aP++[aP l1, .v (.bool em)])) 50 (fun c hc=>by
  simp only [List.mem_cons,List.mem_append,List.mem_map,List.not_mem_nil,or_false] at hc
  rcases hc with rfl|⟨y,_,rfl⟩|rfl|rfl
  ·exact ⟨_,rfl⟩
  ·exact ⟨_,rfl⟩
  ·exact ⟨_,rfl⟩
  ·exact ⟨_,rfl⟩) (by simp [hr])
 have e1:gk o 50 (.vec 2 ai.length)=some (True∧(ai.map encS).length=ai.length∧dA 0 (ai.map encS)=true, .aC 1 (ai.map encS) ai.length):=by
  rw [gk,h2];simp
 have e2:fx o 51 (.vec 2 ai.length :: aP f1 :: (rest.map aP++[aP l1, .v (.bool em)]))=some ((True∧(ai.map encS).length=ai.length∧dA 0 (ai.map encS)=true)∧p, .aC 1 (ai.map encS) ai.length :: aP f1 :: (rest.map aP++[aP l1, .v (.bool em)])):=by
  rw [fx,e1,hp]
 refine kY.of 54 (p:=((((True∧(ai.map encS).length=ai.length∧dA 0 (ai.map encS)=true)∧p)∧aa.hl ⟨183,28,false,[.vec 2 ai.length :: aP f1 :: (rest.map aP++[aP l1, .v (.bool em)])]⟩=0∧28=28∧0<1)∧(AV.v (.int .i64 0)).wf 0=true∧True)) ?_ ⟨⟨⟨⟨trivial,by simp,aA 0 ai⟩,hp'⟩,rfl,rfl,by decide⟩,rfl,trivial⟩;rw [gk,fx,gk,h1];simp only [List.getD_cons_zero,e2]
 rfl
theorem LV (x:Ex) (ho:x.ok):ag Tryz.prog 112 [.agg (bg x)] (if aT x then .dC [.vp (gu (ja x)), .v (.int .i64 0)] else .dC [.v (.pointer none), .v (.int .i64 2)]):=by
 have R:=sd x ho;have E:=zX x ho
 cases hr:aT x
 ·rw [hr] at R;simp only [Bool.false_eq_true,if_false];simp only [bI] at *
  (refine ag.enter Tryz.func112 rfl (by kernel_rfl) (by kernel_rfl) rfl (by first|rfl|(simp only [go_sem,Tg,SA,SD])) (by first|rfl|(simp only [go_sem,Tg,SA,SD])) ?_;simp only [Tryz.ntmps112,Tryz.results112,Rg,Q9,Nat.reduceAdd,Nat.reduceSub,List.replicate_succ,List.replicate_zero,Tl,Tm])
  repeat (first|(with_reducible first|refine af.up ?_|refine fun (K:AK) hK=> ?_|refine ar (by decide) ?_|(refine hK _ ?_;clear hK K))|simp only [go_sem]|with_reducible refine wA ?_|(refine aI rfl ?_)|(refine aB rfl ?_)|clear hK K)
  refine ab.one R ?_
  repeat (first|(with_reducible first|refine af.up ?_|refine fun (K:AK) hK=> ?_|refine ar (by decide) ?_|(refine hK _ ?_;clear hK K))|simp only [go_sem]|with_reducible refine wA ?_|(refine aI rfl ?_)|(refine aB rfl ?_)|clear hK K)
  (refine kY.of 40 rfl ?_;simp only [go_sem])
 ·rw [hr] at R;simp only [if_true];have hnl:(cB x).length<=24:=EX hr;have P:=Kb x ho hr (u5 x) (by simp [u5]) (by simp [u5];exact hnl);have B:=mb x (u5 x) (by simp [u5]) (by simp [u5];exact hnl);simp only [ja];generalize ma x (u5 x)=b at *;simp only [bI] at *
  (refine ag.enter Tryz.func112 rfl (by kernel_rfl) (by kernel_rfl) rfl (by first|rfl|(simp only [go_sem,Tg,SA,SD])) (by first|rfl|(simp only [go_sem,Tg,SA,SD])) ?_;simp only [Tryz.ntmps112,Tryz.results112,Rg,Q9,Nat.reduceAdd,Nat.reduceSub,List.replicate_succ,List.replicate_zero,Tl,Tm])
  repeat (first|(with_reducible first|refine af.up ?_|refine fun (K:AK) hK=> ?_|refine ar (by decide) ?_|(refine hK _ ?_;clear hK K))|simp only [go_sem]|with_reducible refine wA ?_|(refine aI rfl ?_)|(refine aB rfl ?_)|clear hK K)
  refine ab.one R ?_
  repeat (first|(with_reducible first|refine af.up ?_|refine fun (K:AK) hK=> ?_|refine ar (by decide) ?_|(refine hK _ ?_;clear hK K))|simp only [go_sem]|with_reducible refine wA ?_|(refine aI rfl ?_)|(refine aB rfl ?_)|clear hK K)
  refine ab.one E ?_
  repeat ((fail_if_success (with_reducible refine bD (i:=4) ?_));first|(with_reducible first|refine af.up ?_|refine fun (K:AK) hK=> ?_|refine ar (by decide) ?_|(refine hK _ ?_;clear hK K))|simp only [go_sem]|with_reducible refine wA ?_|(refine aI rfl ?_)|(refine aB rfl ?_)|clear hK K)
  refine aJ (bY (k:=1) (i:=0) (j:=0) 9 1 (by decide) rfl (show 0<28 by decide) rfl rfl) (by kernel_rfl) ?_;simp only [Rg,Q9,Nat.reduceAdd,Tl,Tm,List.set_cons_zero,List.set_cons_succ]
  repeat ((fail_if_success (with_reducible refine bD (i:=5) ?_));first|(with_reducible first|refine af.up ?_|refine fun (K:AK) hK=> ?_|refine ar (by decide) ?_|(refine hK _ ?_;clear hK K))|simp only [go_sem]|with_reducible refine wA ?_|(refine aI rfl ?_)|(refine aB rfl ?_)|clear hK K)
  have wE:bn 2 [.ptr 0 0 28 0 0, .agg [.v (.int .i64 x.kind), .v (.string x.label), .aC 3 (x.kids.map bg) x.kids.length]]=true:=by simp only [bn,AV.wf,dL,Tg,SD];rfl
  refine ab.fr [1,2] P (by decide) rfl ?_ wE ?_ ?_
  ·simp only [bV,AV.bc,bS _ _ (dL 0 x.kids)];rfl
  ·intro i ob hi
   match i,hi with
   | 0,hi=>cases hi;rfl
   | 1,hi=>cases hi;rfl
   | i+2,hi=>simp [ck.os] at hi
  simp only [ck.os,ck.row,aP,iq,List.map_cons,List.map_nil,Option.map_some,aa.bc,bW,bV,AV.bc,uV,s7,Rg,Q9,List.set_cons_zero,List.set_cons_succ,List.append_nil];have e1:sig [1,2] 3 1=2:=rfl;simp only [Nat.reduceAdd,e1];obtain ⟨⟨ai,fs,la,em⟩,f1,l1⟩:=b
  obtain ⟨f0,rest,rfl⟩: ∃f0 rest,fs=f0 :: rest:=by
   cases fs with
   | nil=>have:=B.len;simp at this
   | cons a r=>exact ⟨a,r,rfl⟩
  have hr24:rest.length=24:=by have:=B.len;simpa using this
  have t24:List.take 24 (rest.map aP++[.v (.int .u32 la.toNat), .v (.bool em)])=rest.map aP:=by rw [List.take_append_of_le_length (by simp [hr24]),List.take_of_length_le (by simp [hr24])]
  have d25:List.drop 25 (rest.map aP++[.v (.int .u32 la.toNat), .v (.bool em)])=[.v (.bool em)]:=by
   rw [show 25=(rest.map aP).length+1 by simp [hr24],List.drop_append];simp
  simp only [List.map_cons,aP,Tl]
  repeat ((fail_if_success (with_reducible refine bD (i:=5) ?_));first|(with_reducible first|refine af.up ?_|refine fun (K:AK) hK=> ?_|refine ar (by decide) ?_|(refine hK _ ?_;clear hK K))|simp only [go_sem]|with_reducible refine wA ?_|(refine aI rfl ?_)|(refine aB rfl ?_)|clear hK K)
  refine fO [9,12] [(5,1000)] (by decide+kernel) (by kernel_rfl) ?_
  repeat (first|(with_reducible first|refine af.up ?_|refine fun (K:AK) hK=> ?_|refine ar (by decide) ?_|(refine hK _ ?_;clear hK K))|simp only [go_sem,t24,d25]|with_reducible refine wA ?_|(refine aI rfl ?_)|(refine aB rfl ?_)|clear hK K)
  refine Io ai f1 l1 rest em hr24 _ rfl rfl
structure JL (x:Ex) (s:ck):Prop where
 ai:s.ai=cB x
 ok:JK s
 fst: ∀q,(s.fs.getD 0 0#32).getLsbD q=true↔Be x 0 q
 B5: ∀p q,p≠0->((s.fs.getD p 0#32).getLsbD q=true↔Dp x 0 p q)
 y8: ∀q,s.la.getLsbD q=true↔Bf x 0 q
 em:s.em=cg x
theorem wT {x:Ex} (hr:aT x=true):JL x (ja x):=by
 have hn:=EX hr;have B:=mb x (u5 x) (by simp [u5]) (by simp [u5];exact hn)
 have hz: ∀p,(u5 x).fs.getD p 0#32=0#32:=fun p=>by
  simp only [u5,List.getD_eq_getElem?_getD,List.getElem?_replicate];split<;>rfl
 have hb:(u5 x).ai.length=0:=rfl;have hl:(ja x).ai=cB x:=B.ai
 have hlen:(ja x).fs.length=25:=by simp only [ja,List.length_set];exact B.len
 have h0: ∀q,((ja x).fs.getD 0 0#32).getLsbD q=true↔Be x 0 q:=fun q=>by
  simp only [ja];rw [nv (by rw [B.len];decide),if_pos rfl,B.fst,hb]
 have hp: ∀p q,p≠0->(((ja x).fs.getD p 0#32).getLsbD q=true↔Dp x 0 p q):=fun p q hp=>by
  simp only [ja];rw [nv (by rw [B.len];decide),if_neg hp,B.B5,hb,hz];simp
 have hla: ∀q,(ja x).la.getLsbD q=true↔Bf x 0 q:=fun q=>by
  have:=B.y8 q;rw [hb] at this;exact this
 refine ⟨hl,⟨hlen,by rw [hl];exact hn,fun p q h=> ?_,fun q h=> ?_⟩,h0,hp,hla, ?_⟩
 ·rw [hl]
  by_cases e:p=0
  ·subst e;have:=rQ x ((h0 q).1 h);omega
  ·have:=(Bd x ((hp p q e).1 h)).2;omega
 ·rw [hl];have:=kG x ((hla q).1 h);omega
 ·show (ma x (u5 x)).1.em=_;rw [B.em];simp [u5,j6,hr]
def qb (l:List Nat):List Int:=l.map (fun (p:Nat)=>(p:Int))
theorem B1 (l:List Nat):au l=(qb l).map encI:=by rw [au,qb,List.map_map];rfl
theorem su (l:List Nat):(qb l).length=l.length:=by rw [qb,List.length_map]
def Qw (a b:List Nat):Bool:=a.any (fun p=>b.any (fun q=>(q:Int)==(p:Int)))
def c6 (s:ck) (cur:List Nat) (lab:ByteArray):List Nat:=ay (lu s (jR s (qb cur)) lab)
structure Gk where
 rows:List bP
 ends:List Bool
 ai:List ByteArray
noncomputable def tg (x:Ex) (ai:List ByteArray):Option oN:=tf (c6 (ja x)) (ja x).em (ay (ja x).la) ai
def jx (ai:List ByteArray) (st:oN):Gk:=⟨(iO st.rows st.ends (fG st.rows st.ends)).rows,(iO st.rows st.ends (fG st.rows st.ends)).ends,ai⟩
noncomputable def Ae (x:Ex) (ai:List ByteArray):Gk ⊕ Int:=
 if aT x then match tg x ai with
  | some st=>if 32<(jx ai st).rows.length then .inr 11 else .inl (jx ai st)
  | none=> .inr 11
 else .inr 2
structure PO (A:Gk):Prop where
 pos:1<=A.rows.length
 max:A.rows.length<=32
 ends:A.ends.length=A.rows.length
 row: ∀r∈A.rows,(r.map Prod.fst).Sublist A.ai∧ ∀p∈r,p.2<A.rows.length
theorem Dd {ai:List ByteArray} {st:oN} (ho:Bj ai st) (hl:st.rows.length=st.all.length): ∀r∈st.rows, ∀p∈r,p.2<st.rows.length:=fun r hr p hp=>by rw [hl];exact (ho.row r hr).2 p hp
theorem Db {ai:List ByteArray} (hs: ∀l∈ai,32∉l.data.toList) {st:oN} (ho:Bj ai st):Au st.rows:=fun r hr p hp=>hs _ ((ho.row r hr).1.subset (List.mem_map_of_mem hp))
structure PN (x:Ex) (A:Gk):Prop extends PO A where
 Qg: ∀w,EG A.rows A.ends 0 w=Hi x w
 alive: ∀s,s<A.rows.length-> ∃w,EG A.rows A.ends s w=true
def Ei:Go.Shelf.Ren:=⟨fun|169=>192|n=>n,fun|70=>227|9=>9|0=>0|72=>229|37=>145|127=>262|3=>3|5=>5|n=>n,fun n=>n⟩
theorem G8:Lays.n169 Tryz.prog Ei:={
 mixed:=by kernel_rfl
 f169:=Tryz.func192
 t0:=by kernel_rfl
 a0:=fun w=>by kernel_rfl
 z0:=fun w=>by kernel_rfl
 v0:=fun w=>by kernel_rfl
 t3:=by kernel_rfl
 a3:=fun w=>by kernel_rfl
 z3:=fun w=>by kernel_rfl
 v3:=fun w=>by kernel_rfl
 t9:=by kernel_rfl
 a9:=fun w=>by kernel_rfl
 z9:=fun w=>by kernel_rfl
 v9:=fun w=>by kernel_rfl
 t37:=by kernel_rfl
 a37:=fun w=>by kernel_rfl
 z37:=fun w=>by kernel_rfl
 v37:=fun w=>by kernel_rfl
 t70:=by kernel_rfl
 a70:=fun w=>by kernel_rfl
 z70:=fun w=>by kernel_rfl
 v70:=fun w=>by kernel_rfl
 t72:=by kernel_rfl
 a72:=fun w=>by kernel_rfl
 z72:=fun w=>by kernel_rfl
 v72:=fun w=>by kernel_rfl
 t127:=by kernel_rfl
 a127:=fun w=>by kernel_rfl
 z127:=fun w=>by kernel_rfl
 v127:=fun w=>by kernel_rfl }
def Ao:Go.Shelf.Ren:=⟨fun|171=>191|243=>224|246=>240|283=>244|284=>245|285=>246|286=>247|129=>222|317=>252|318=>253|319=>254|320=>255|337=>232|338=>256|n=>n,fun|3=>3|9=>9|2=>2|4=>4|171=>282|0=>0|53=>261|37=>145|5=>5|173=>284|212=>289|51=>179|20=>20|213=>290|46=>121|232=>278|233=>291|n=>n,fun|17=>1|18=>0|19=>2|n=>n⟩
theorem sx:Lays.n171 Tryz.prog Ao:={
 mixed:=by kernel_rfl
 f129:=Tryz.func222
 f171:=Tryz.func191
 f243:=Tryz.func224
 f246:=Tryz.func240
 f283:=Tryz.func244
 f284:=Tryz.func245
 f285:=Tryz.func246
 f286:=Tryz.func247
 f317:=Tryz.func252
 f318:=Tryz.func253
 f319:=Tryz.func254
 f320:=Tryz.func255
 f337:=Tryz.func232
 f338:=Tryz.func256
 t0:=by kernel_rfl
 a0:=fun w=>by kernel_rfl
 z0:=fun w=>by kernel_rfl
 v0:=fun w=>by kernel_rfl
 t2:=by kernel_rfl
 a2:=fun w=>by kernel_rfl
 z2:=fun w=>by kernel_rfl
 v2:=fun w=>by kernel_rfl
 t3:=by kernel_rfl
 a3:=fun w=>by kernel_rfl
 z3:=fun w=>by kernel_rfl
 v3:=fun w=>by kernel_rfl
 t4:=by kernel_rfl
 a4:=fun w=>by kernel_rfl
 z4:=fun w=>by kernel_rfl
 v4:=fun w=>by kernel_rfl
 t5:=by kernel_rfl
 a5:=fun w=>by kernel_rfl
 z5:=fun w=>by kernel_rfl
 v5:=fun w=>by kernel_rfl
 t9:=by kernel_rfl
 a9:=fun w=>by kernel_rfl
 z9:=fun w=>by kernel_rfl
 v9:=fun w=>by kernel_rfl
 t20:=by kernel_rfl
 a20:=fun w=>by kernel_rfl
 z20:=fun w=>by kernel_rfl
 v20:=fun w=>by kernel_rfl
 t37:=by kernel_rfl
 a37:=fun w=>by kernel_rfl
 z37:=fun w=>by kernel_rfl
 v37:=fun w=>by kernel_rfl
 t46:=by kernel_rfl
 a46:=fun w=>by kernel_rfl
 z46:=fun w=>by kernel_rfl
 v46:=fun w=>by kernel_rfl
 t51:=by kernel_rfl
 a51:=fun w=>by kernel_rfl
 z51:=fun w=>by kernel_rfl
 v51:=fun w=>by kernel_rfl
 t53:=by kernel_rfl
 a53:=fun w=>by kernel_rfl
 z53:=fun w=>by kernel_rfl
 v53:=fun w=>by kernel_rfl
 t171:=by kernel_rfl
 a171:=fun w=>by kernel_rfl
 z171:=fun w=>by kernel_rfl
 v171:=fun w=>by kernel_rfl
 t173:=by kernel_rfl
 a173:=fun w=>by kernel_rfl
 z173:=fun w=>by kernel_rfl
 v173:=fun w=>by kernel_rfl
 t212:=by kernel_rfl
 a212:=fun w=>by kernel_rfl
 z212:=fun w=>by kernel_rfl
 v212:=fun w=>by kernel_rfl
 t213:=by kernel_rfl
 a213:=fun w=>by kernel_rfl
 z213:=fun w=>by kernel_rfl
 t232:=by kernel_rfl
 a232:=fun w=>by kernel_rfl
 z232:=fun w=>by kernel_rfl
 v232:=fun w=>by kernel_rfl
 t233:=by kernel_rfl
 a233:=fun w=>by kernel_rfl
 z233:=fun w=>by kernel_rfl
 v233:=fun w=>by kernel_rfl
 g17:=by kernel_rfl
 g18:=by kernel_rfl
 g19:=by kernel_rfl }
theorem EN:LaysM.n171 Tryz.prog Ao:={ sx with
 i0:=by kernel_rfl
 i2:=by kernel_rfl
 i3:=by kernel_rfl
 i4:=by kernel_rfl
 i5:=by kernel_rfl
 i9:=by kernel_rfl
 i20:=by kernel_rfl
 i37:=by kernel_rfl
 i46:=by kernel_rfl
 i51:=by kernel_rfl
 i53:=by kernel_rfl
 i171:=by kernel_rfl
 i173:=by kernel_rfl
 i212:=by kernel_rfl
 i232:=by kernel_rfl
 i233:=by kernel_rfl
 m17:=by kernel_rfl
 m18:=by kernel_rfl
 m19:=by kernel_rfl }
theorem Ee:(Tryz.prog.info? 229).map (·.size)=some 2:=by kernel_rfl
theorem Ji:liesAt Tryz.prog Tryz.prog.depth 229 (2 / Tryz.prog.cellsOf 229) 0 229 1=true:=by kernel_rfl
theorem Jh:(Tryz.prog.info? 5).map (fun i=>(i.zero,i.size,i.bytes))=some (some (.int .u8 0),1,1):=by kernel_rfl
theorem JR:Builder.Extra Tryz.prog Ei:={ sizeBuilder:=Ee,liesBuilder:=Ji,t5:=by kernel_rfl,a5:=fun w=>by kernel_rfl,z5:=fun w=>by kernel_rfl,v5:=fun w=>by kernel_rfl,infoByte:=Jh,cellsByte:=by kernel_rfl,sizeByte:=by kernel_rfl,neB5:=by decide }
theorem Pw:Tryz.prog.underlying 227=some (.pointer 229):=by kernel_rfl
theorem Qi:Tryz.prog.underlying 273=some .unsafePointer:=by kernel_rfl
theorem rq (b:Nat) (w:World) (h0:w.cell? ⟨b,0,none⟩=some (.pointer none)) (hsh:w.shape? b=some (229,2)) (hfz:w.frozen? ⟨b,0,none⟩=false) :
  Calls Tryz.prog 223 #[.pointer (some ⟨b,0,none⟩)] w fun e w'=>e = .returned (.tuple #[])∧w'=w.setCell ⟨b,0,none⟩ (.pointer (some ⟨b,0,none⟩)):=by
 obtain ⟨j,hj,hjs⟩:=RR.1 Ee
 go_enter Tryz.func223,Tryz.ntmps223
 go_wp2
 rw [Lib.run_to_unsafe w ⟨b,0,none⟩ Pw Qi hj (by rw [hjs];decide) hsh (Nat.zero_lt_succ 1)];simp only [Result.andThen];rw [Oper.upon_value]
 go_wp2
 rw [run_callFunc_extern Tryz.func239 (by kernel_rfl) (by kernel_rfl) (by kernel_rfl) (e:=Extern.AbiNoEscape.same) (by kernel_rfl)];rw [Lib.run_noEscape];simp only [Result.andThen];rw [Oper.upon_value]
 go_wp2
 rw [Lib.run_from_unsafe w ⟨b,0,none⟩ Qi Pw hj hsh Ji];simp only [Result.andThen];rw [Oper.upon_value]
 go_wp2
 go_end0
 exact ⟨rfl,rfl⟩
theorem tO (b:Nat) (w:World) (h0:w.cell? ⟨b,0,none⟩=some (.pointer (some ⟨b,0,none⟩))) :
  Calls Tryz.prog 223 #[.pointer (some ⟨b,0,none⟩)] w fun e w'=>e = .returned (.tuple #[])∧w'=w:=by
 obtain ⟨j,hj,_⟩:=RR.1 Ee
 go_enter Tryz.func223,Tryz.ntmps223
 go_wp2
 rw [Lib.run_neq_ptr_same w _ Pw hj]
 go_wp2
 go_end0
 exact ⟨rfl,rfl⟩
abbrev Lj (B b:Nat) (bs:List Value) (w:World):Prop:=Lib.IsBuilderF 229 5 B b bs w
theorem rp (B b:Nat) (bs:List Value) (w:World) (h:Lj B b bs w) :
  Calls Tryz.prog 223 #[.pointer (some ⟨b,0,none⟩)] w fun e w'=>e = .returned (.tuple #[])∧Lib.BuilderAtF 229 5 B b (.pointer (some ⟨b,0,none⟩)) bs w'∧Below B w w':=by
 rcases h with h|h
 ·refine (rq b w h.cell0 h.shape h.frozen0).mono ?_;rintro e w' ⟨rfl,rfl⟩;exact ⟨rfl,h.used _,(Below.refl B w).setCell (p:=⟨b,0,none⟩) h.1 _⟩
 ·refine (tO b w h.cell0).mono ?_;rintro e w' ⟨rfl,rfl⟩;exact ⟨rfl,h,Below.refl B _⟩
theorem KF:Tryz.prog.underlying 145=some (.slice 5):=by kernel_rfl
theorem M0:Tryz.prog.underlying 9=some .string:=by kernel_rfl
theorem zT (B b:Nat) (bs:List Value) (s:ByteArray) (w:World) (h:Lj B b bs w) (hlen:bs.length+s.size<=140737488355328) (hBw:B<=w.heap.size) :
  Calls Tryz.prog 190 #[.pointer (some ⟨b,0,none⟩), .string s] w fun e w'=>e = .returned (.tuple #[.int .i64 s.size, .nilIface])∧Lj B b (bs++Lib.strCells s) w'∧Below B w w':=by
 obtain ⟨i0,hi,hz0,hz1,hz2⟩:=info_parts Jh
 go_enter Tryz.func190,Tryz.ntmps190
 go_wp2_with fail
 refine (rp B b bs _ h).mono ?_;rintro e w1 ⟨rfl,h1,hb1⟩;obtain ⟨hB,v,hbk,hown,hne⟩:=h1;have hlt:b<w1.heap.size:=(Array.getElem?_eq_some_iff.1 hbk).1
 have c0:w1.cell? ⟨b,0,none⟩=some (.pointer (some ⟨b,0,none⟩)):=by rw [Lib.cell_of_heap hbk];rfl
 have c1:w1.cell? ⟨b,1,none⟩=some v:=by rw [Lib.cell_of_heap hbk];rfl
 go_wp2_with (at_builtin;refine Lib.wpList_append_own_stringF _ rfl _ _ 145 9 rfl B 5 i0 KF M0 hi hz0 hz1 hz2 _ _ _ rfl hown s rfl ?c3 ?c4 ?c5 ?_)
 case c3=>unfold maxLen;omega
 case c4=>omega
 case c5=>have:=hb1.size;omega
 intro v' w2 hown' hgrow _;have hb2:w2.heap[b]? = some (.cells #[.pointer (some ⟨b,0,none⟩),v] 229 (0,0)):=(hgrow.block b hlt (fun e=>hne e.symm)).trans hbk
 have d0:w2.cell? ⟨b,0,none⟩=some (.pointer (some ⟨b,0,none⟩)):=by rw [Lib.cell_of_heap hb2];rfl
 have d1:w2.cell? ⟨b,1,none⟩=some v:=by rw [Lib.cell_of_heap hb2];rfl
 have f1:w2.frozen? ⟨b,1,none⟩=false:=Lib.frozen_of_heap hb2 1
 obtain ⟨ao,n',cap,rfl⟩: ∃ao n' cap,v' = .slice ao n' cap:=by
  rcases hown'.2 with ⟨hv,_⟩|⟨g,cap,cur,fz,hv,_⟩<;>exact ⟨_,_,_,hv⟩
 go_wp2
 go_ret2
 refine ⟨rfl, .inr (Lib.BuilderAtF.put (T:=229) (e:=5) hB hb2 (bs':=bs++Lib.strCells s) (by simpa [Lib.strCells_length] using hown') (by decide)), ?_⟩;exact (hb1.grown hgrow (by have:=hb1.size;omega) (fun k hk=>(hown.lt k hk).1)).setCell (p:=⟨b,1,none⟩) hB _
def Lp (n:Nat) (cs:List Value):Prop:=cs=[.int .i64 (n:Nat)]
abbrev DL (w:World) (l:List Nat) (v:Value):Prop:=ej w 1 Lp l v
theorem C7 {w:World} {xs:List Nat} {p:Option Addr} {n cap:Nat} (h:DL w xs (.slice p n cap)) {k:Nat} (hk:k<xs.length) :
  ∃b o,p=some ⟨b,o,none⟩∧w.cell? ⟨b,o+k,none⟩=some (.int .i64 (xs[k]:Nat)):=by
 obtain ⟨b,o,cs,hp,hr,hc⟩:=ej.at h hk;subst hr;rw [Nat.mul_one] at hc;replace hc:=dQ hc;exact ⟨b,o,hp,by simpa using hc 0 _ rfl⟩
theorem Ci (l:List Nat) (n:Nat):jw (l++[n])=jw l++(Lib.decDigits n++[32]):=by simp [jw]
theorem ER (l:List Nat) (hs: ∀n∈l,n<1000):(jw l).length<=4 * l.length:=by
 induction l with
 | nil=>simp [jw]
 | cons a l ih=>
  have h1:=pH a (hs a List.mem_cons_self);have h2:=ih (fun n hn=>hs n (List.mem_cons_of_mem _ hn));simp only [jw,List.flatMap_cons,Rf,Rg,Q9] at *;omega
theorem Hs (l:List Nat) (hs: ∀n∈l,n<100) (hl:l.length<=1000000) (v:Value) (w:World) (h1:DL w l v):Calls Tryz.prog 151 #[v] w (jW w (.string (iN l))):=by
 obtain ⟨p,c,rfl,hc1,hc2⟩:=h1.shape;unfold maxLen at hc2;have H1:=Lib.hid h1;have HS:=Lib.hid hs;clear h1 hs
 go_enter Tryz.func151,Tryz.ntmps151
 go_wp2_with fail
 go_loopw [8] (fun i wr=> ∃k:Nat,k<=l.length∧i = .int .i64 k∧Below w.heap.size w wr∧Lj w.heap.size w.heap.size (Lib.byteCells (jw (l.take k))) wr) (fun i _=>l.length - (intOf i).toNat)
 case atStart=>exact ⟨0,Nat.zero_le _,rfl,(Below.refl _ w).alloc (Nat.le_refl _) _,by rw [List.take_zero];exact Lib.IsBuilderF.of (Lib.fresh_isBuilder 229 5 w)⟩
 case round=>
  obtain ⟨k,hk,rfl,hb,hI⟩:=hrel;have HB:=Lib.hid hb;have HI:=Lib.hid hI;clear hb hI
  by_cases hlt:k<l.length
  ·obtain ⟨b1,o1,rfl,a0⟩:=C7 (ej.below H1.out HB.out) hlt;have CI:=Lib.hid (Any.strconv_Itoa_small sx l[k] (HS.out _ (List.getElem_mem hlt)) wr)
   have hk1:(jw (l.take k)).length<=4 * k:=by
    have:=ER (l.take k) (fun n hn=>by have:=HS.out n (List.mem_of_mem_take hn);omega)
    have h2:(l.take k).length<=k:=List.length_take_le _ _;omega
   have hk2:=pH l[k] (by have:=HS.out _ (List.getElem_mem hlt);omega)
   have CW:=Lib.hid (zT w.heap.size w.heap.size (Lib.byteCells (jw (l.take k))) (⟨(Lib.decDigits l[k]).toArray⟩++⟨#[32]⟩) wr HI.out (by
    rw [Lib.byteCells_length]
    have:(⟨(Lib.decDigits l[k]).toArray⟩++⟨#[32]⟩:ByteArray).size=(Lib.decDigits l[k]).length+1:=by simp [ByteArray.size]
    omega) HB.out.size)
   go_wp2_with fail
   refine CI.out.mono ?_;rintro e w1 ⟨rfl,rfl⟩
   go_wp2_with fail
   refine CW.out.mono ?_;rintro e w2 ⟨rfl,hI2,hb2⟩
   go_wp2_with fail
   go_roundw
   case rel=>
    refine ⟨k+1,by omega,by go_num,HB.out.trans hb2, ?_⟩
    have e1:Lib.byteCells (jw (l.take (k+1)))=Lib.byteCells (jw (l.take k))++Lib.strCells (⟨(Lib.decDigits l[k]).toArray⟩++⟨#[32]⟩):=by
     rw [List.take_succ_eq_append_getElem hlt,Ci,Lib.byteCells_append,Lib.strCells_eq];simp
    rw [e1];exact hI2
   case measure=>simp [intOf];omega
  ·have hkl:k=l.length:=by omega
   subst hkl
   have hI3:Lj w.heap.size w.heap.size (Lib.byteCells (jw l)) wr:=by have:=HI.out;rwa [List.take_length] at this
   have CT:=Lib.hid (Any.Builder_String_any_k G8 JR w.heap.size w.heap.size (jw l) wr hI3 HB.out.size)
   go_wp2_with fail
   refine CT.out.mono ?_;rintro e w1 ⟨rfl,_,hb2,_⟩
   go_wp2_with fail
   go_ret
   exact ⟨rfl,HB.out.trans hb2⟩
theorem Jk (l:List Nat) (hs: ∀n∈l,n<100) (hl:l.length<=1000000):ag Tryz.prog 151 [.aC 1 (au l) l.length] (.v (.string (iN l))):=
 .ki (by kernel_rfl) (by simp only [bn,AV.wf,jh,Tg]) (fun D nu w vargs hra=>by
  obtain ⟨x,rfl,hx⟩:=dK hra
  exact Hs l hs hl x w (RA.zu hx (fun x _ cs hc=>mH (vs:=[.int .i64 (x:Nat)]) hc)))
theorem EO (n:Nat) (h:n<1000000):ag Tryz.prog 191 [.v (.int .i64 (n:Nat))] (.v (.string ⟨(Lib.decDigits n).toArray⟩)):=by
 refine ⟨⟨rfl,rfl⟩,by kernel_rfl,fun D nu w vargs hro hra=> ?_⟩;obtain ⟨x,rfl,hx⟩:=dK hra;obtain rfl:=hx.cj;obtain ⟨⟨t,hb⟩,_⟩:=hro.gl 1 _ _ rfl
 have htab:Lib.TabIs Tryz.prog w "internal/strconv.uint64pow10" .u64 Lib.pow10Tab:=by
  have hg:Tryz.prog.globalNamed "internal/strconv.uint64pow10" = some 1:=by kernel_rfl
  simp only [Lib.TabIs,World.var?,hg,Option.bind_some,hb]
  rfl
 refine (Any.strconv_Itoa EN n (by omega) (by omega) w htab).mono ?_;rintro e w' ⟨rfl,k,os,rfl⟩
 have e1:Lib.itoa (n:Int)=Lib.decDigits n:=by rw [Lib.itoa,if_neg (by omega)];rfl
 rw [e1];have hbw:Below w.heap.size w (Go.Sort.grow (w.drewN k) os):=Go.Lib.below_grow _ w (Nat.le_refl _) k os;exact ⟨_,nu,[],_,rfl,aw hbw,hro.below hbw, .v _,rfl,rfl⟩
section
section
variable {D:Nat->Prop} {nu:Nat->Nat->Value} {o:List (Option aa)} {w:World} {P:Program}
theorem E9 (h:RO D nu o w) {id:Nat} {ob:aa} (ho:o[id]? = some (some ob)) (hv:ob.fw=false) (hz:ob.z=0):RA D nu (o.set id none) w (.mp ob.rows) (nu id 0):=by
 rcases h.obj id ob ho with ⟨e1,_⟩|⟨g,cur,hb⟩|⟨g,es,cl,hm⟩
 ·rw [e1] at hv;cases hv
 ·have:=hb.z;omega
 ·rw [hm.p9]
  have hf:Fz D nu (o.set id none) w g:=by
   refine ⟨(Array.getElem?_eq_some_iff.1 hm.blk).1, ?_,hm.kJ⟩;rintro ⟨id',ob',k1,k2⟩
   by_cases he:id=id'
   ·subst he;rw [Rx (Ra.1 ho).1] at k1;cases k1
   ·rw [Rw he] at k1;exact h.sep id id' ob ob' g ho k1 he hm.bJ k2
  refine .mp _ g es cl hf hm.blk hm.sz hm.row hm.born hm.rH (fun i j row c e k1 k2 k3=> ?_);have hl:=hm.row i row k1;have hj:=(Ra.1 k2).1
  match j,hj,k2 with
  | 0,_,k2=>exact (hm.key i row c e k1 k2 k3).mono (dH id) (fun _ _ h=>h)
  | 1,_,k2=>exact (hm.val i row c e k1 k2 k3).mono (dH id) (fun _ _ h=>h)
  | j+2,hj,_=>omega
theorem zM {s:AS} (i id:Nat) {ob:aa} (hi:s.t[i]? = some (.vec id 0)) (ho:s.o[id]? = some (some ob)) (hv:ob.fw=false) (hz:ob.z=0):vA s (AS.mk (s.t.set i (.mp ob.rows)) (s.o.set id none) s.y):=by
 intro f D nu a w hs;have hm:=dH (nu:=nu) (o:=s.o) (w:=w) id;refine ⟨nu,hm,rfl,kL hs.ro id,⟨by simpa using hs.tm.len,fun j c x h1 h2=> ?_⟩,hs.gG⟩
 by_cases hij:i=j
 ·subst hij;rw [Rx (Ra.1 hi).1] at h1;cases h1;have hr:=hs.tm.at' i _ x hi h2;cases hr;exact E9 hs.ro ho hv hz
 ·rw [Rw hij] at h1;exact (hs.tm.at' j c x h1 h2).mono hm (fun _ _ h=>h)
end
theorem IT {s:ck} (ok:JK s) (l:List Nat) (lab:ByteArray) (hl:l.length<=1000000):ag Tryz.prog 152 [.vp (gu s), .aC 1 (au l) l.length, .v (.string lab)] (.aC 1 (au (c6 s l lab)) (c6 s l lab).length):=by
 have h:=Ik ok (qb l) lab (by rw [su];exact hl);rw [su, <- B1] at h;exact h
theorem EK (l:List Nat) (n:Nat) (hl:l.length<=1000000): ∃k:Int,(decide (0<=k)=l.contains n)∧ag Tryz.prog 195 [.aC 1 (au l) l.length, .v (.int .i64 n)] (.v (.int .i64 k)):=by
 refine ⟨if l.contains n then (l.idxOf n:Int) else -1,by split<;>simp_all<;>omega, ?_⟩
 (refine ag.enter Tryz.func195 rfl (by kernel_rfl) (by kernel_rfl) rfl (by first|rfl|(simp only [go_sem,Tg,SA,SD])) (by first|rfl|(simp only [go_sem,Tg,SA,SD])) ?_;simp only [Tryz.ntmps195,Tryz.results195,Rg,Q9,Nat.reduceAdd,Nat.reduceSub,Ti,Tj,Tl,Tm])
 repeat (first|(with_reducible first|refine af.up ?_|refine fun (K:AK) hK=> ?_|(refine hK _ ?_;clear hK K))|simp only [go_sem]|with_reducible refine wA ?_|clear hK K)
 refine ct (ι:=Nat) 8 (fun i=>[(5, .undef),(8, .v (.int .i64 i))]) (fun i=>l.length - i) (fun i=>i<=l.length∧n∉l.take i) 0 ⟨Nat.zero_le _,by simp⟩ ?_ ?_
 ·(refine ak ?_ ?_ ?_<;>simp only [aR,SI,SL,Ti,Tj,aX,aW,AV.v.injEq,Value.int.injEq,Value.bool.injEq,Value.string.injEq,AV.vec.injEq,AV.ptr.injEq,true_or,or_true,false_or,or_false,aa.mk.injEq,forall_eq_apply_imp_iff,forall_eq,forall_eq',go_sem])
  rfl
 rintro i ⟨hi,hn⟩ K hK
 repeat (first|(with_reducible first|refine af.up ?_|refine fun (K:AK) hK=> ?_|(refine hK _ ?_;clear hK K))|simp only [go_sem]|with_reducible refine wA ?_|clear hK K)
 refine cL.part (fun h=> ?_) (fun h=> ?_)
 ·have hlt:i<l.length:=by (try simp only [bne_iff_ne,ne_eq,bne_eq_false_iff_eq,beq_iff_eq,beq_eq_false_iff_ne,decide_eq_true_eq,decide_eq_false_iff_not,Tn,To,Tp,Tq] at h);omega
  have eW:=aD (k:=i) (by omega)
  have eG:(au l).getD i []=[.v (.int .i64 (l[i]:Nat))]:=by rw [au,getD_map _ l i [] hlt]
  repeat (first|(with_reducible first|refine af.up ?_|refine fun (K:AK) hK=> ?_|(refine hK _ ?_;clear hK K))|simp only [go_sem,h,eG]|with_reducible refine wA ?_|clear hK K)
  refine cL.part (fun h2=> ?_) (fun h2=> ?_)
  ·have hc:n=l[i]:=by (try simp only [bne_iff_ne,ne_eq,bne_eq_false_iff_eq,beq_iff_eq,beq_eq_false_iff_ne,decide_eq_true_eq,decide_eq_false_iff_not,Tn,To,Tp,Tq] at h2);omega
   have hm:l.contains n=true:=by rw [TV,hc];exact List.getElem_mem hlt
   have hx:l.idxOf n=i:=by
    have h1:l.idxOf n<=i:=by
     exact wy l n i (by rw [hc];exact List.getElem?_eq_getElem hlt)
    rcases Nat.lt_or_ge (l.idxOf n) i with q|q
    ·exfalso
     have hq:l.idxOf n<l.length:=by omega
     refine hn (List.mem_take_iff_getElem.2 ⟨l.idxOf n,by omega, ?_⟩);exact List.getElem_idxOf hq
    ·omega
   repeat (first|(with_reducible first|refine af.up ?_|refine fun (K:AK) hK=> ?_|(refine hK _ ?_;clear hK K))|simp only [go_sem]|with_reducible refine wA ?_|clear hK K)
   rw [hm,if_pos rfl,hx]
  ·have hc:n≠l[i]:=by (try simp only [bne_iff_ne,ne_eq,bne_eq_false_iff_eq,beq_iff_eq,beq_eq_false_iff_ne,decide_eq_true_eq,decide_eq_false_iff_not,Tn,To,Tp,Tq] at h2);omega
   repeat (first|(with_reducible first|refine af.up ?_|refine fun (K:AK) hK=> ?_|(refine hK _ ?_;clear hK K))|simp only [go_sem,eW]|with_reducible refine wA ?_|clear hK K)
   exact aM.mk (i+1) ⟨by omega,by
    rw [List.take_succ_eq_append_getElem hlt,List.mem_append]
    rintro (e|e)
    ·exact hn e
    ·exact hc (by simpa using e)⟩ (by omega) (by (refine ak ?_ ?_ ?_<;>simp only [aR,SI,SL,Ti,Tj,aX,aW,AV.v.injEq,Value.int.injEq,Value.bool.injEq,Value.string.injEq,AV.vec.injEq,AV.ptr.injEq,true_or,or_true,false_or,or_false,aa.mk.injEq,forall_eq_apply_imp_iff,forall_eq,forall_eq',go_sem]))
 ·have hm:l.contains n=false:=by
   have:i=l.length:=by (try simp only [bne_iff_ne,ne_eq,bne_eq_false_iff_eq,beq_iff_eq,beq_eq_false_iff_ne,decide_eq_true_eq,decide_eq_false_iff_not,Tn,To,Tp,Tq] at h);omega
   rw [this,List.take_length] at hn;rw [<-Bool.not_eq_true,TV];exact hn
  repeat (first|(with_reducible first|refine af.up ?_|refine fun (K:AK) hK=> ?_|(refine hK _ ?_;clear hK K))|simp only [go_sem]|with_reducible refine wA ?_|clear hK K)
  rw [hm,if_neg (by decide)]
theorem vW (l:List Nat) (n:Nat) (hl:l.length<=1000000):ag Tryz.prog 154 [.aC 1 (au l) l.length, .v (.int .i64 n)] (.v (.bool (l.contains n))):=by
 obtain ⟨k,hk,C⟩:=EK l n hl
 (refine ag.enter Tryz.func154 rfl (by kernel_rfl) (by kernel_rfl) rfl (by first|rfl|(simp only [go_sem,Tg,SA,SD])) (by first|rfl|(simp only [go_sem,Tg,SA,SD])) ?_;simp only [Tryz.ntmps154,Tryz.results154,Rg,Q9,Nat.reduceAdd,Nat.reduceSub,Ti,Tj,Tl,Tm])
 repeat (first|(with_reducible first|refine af.up ?_|refine fun (K:AK) hK=> ?_|(refine hK _ ?_;clear hK K))|simp only [go_sem]|clear hK K)
 refine ab.one C ?_
 repeat (first|(with_reducible first|refine af.up ?_|refine fun (K:AK) hK=> ?_|(refine hK _ ?_;clear hK K))|simp only [go_sem]|clear hK K)
 rw [<-hk]
def wv (p:Nat->Bool):List Nat->Nat->Int
 | [],_=> -1
 | x :: xs,i=>if p x then (i:Int) else wv p xs (i+1)
theorem wx (p:Nat->Bool): ∀(l:List Nat) (i:Nat),decide (0<=wv p l i)=l.any p
 | [],i=>rfl
 | x :: xs,i=>by
  rw [wv,List.any_cons]
  cases p x with
  | true=>simp
  | false=>simpa using wx p xs (i+1)
theorem ud {g:FuncId} (caps:List AV) (hw:bn 0 caps=true) (p:Nat->Bool) (l:List Nat) (hl:l.length<=1000000) (H: ∀x:Nat,ag Tryz.prog g (.v (.int .i64 x) :: caps) (.v (.bool (p x)))) :
  ag Tryz.prog 111 [.aC 1 (au l) l.length, .fn g [] caps] (.v (.int .i64 (wv p l 0))):=by
 (refine ag.enter Tryz.func111 rfl (by kernel_rfl) (by kernel_rfl) rfl (by simp only [go_sem,bn,AV.wf,Tg,SA,SD,hw]) (by simp only [go_sem,bn,AV.wf,aA,Tg,SA,SD,hw]) ?_;simp only [Tryz.ntmps111,Tryz.results111,Rg,Q9,Nat.reduceAdd,Nat.reduceSub,Ti,Tj,Tl,Tm])
 repeat (first|(with_reducible first|refine af.up ?_|refine fun (K:AK) hK=> ?_|(refine hK _ ?_;clear hK K))|simp only [go_sem]|with_reducible refine wA ?_|clear hK K)
 refine ct (ι:=Nat) 8 (fun i=>[(5, .undef),(8, .v (.int .i64 i))]) (fun i=>l.length - i) (fun i=>i<=l.length∧wv p l 0=wv p (l.drop i) i) 0 ⟨Nat.zero_le _,rfl⟩ ?_ ?_
 ·(refine ak ?_ ?_ ?_<;>simp only [aR,SI,SL,Ti,Tj,aX,aW,AV.v.injEq,Value.int.injEq,Value.bool.injEq,Value.string.injEq,AV.vec.injEq,AV.ptr.injEq,true_or,or_true,false_or,or_false,aa.mk.injEq,forall_eq_apply_imp_iff,forall_eq,forall_eq',go_sem])
  all_goals first|exact hw|rfl|exact ⟨hw,rfl⟩
 rintro i ⟨hi,hx⟩ K hK
 repeat (first|(with_reducible first|refine af.up ?_|refine fun (K:AK) hK=> ?_|(refine hK _ ?_;clear hK K))|simp only [go_sem]|with_reducible refine wA ?_|clear hK K)
 refine cL.part (fun h=> ?_) (fun h=> ?_)
 ·have hlt:i<l.length:=by (try simp only [decide_eq_true_eq,decide_eq_false_iff_not,Tp] at h);omega
  have eW:=aD (k:=i) (by omega)
  have eG:(au l).getD i []=[.v (.int .i64 (l[i]:Nat))]:=by rw [au,getD_map _ l i [] hlt]
  have HX:=H l[i];rw [List.drop_eq_getElem_cons hlt,wv] at hx
  repeat (first|(with_reducible first|refine af.up ?_|refine fun (K:AK) hK=> ?_|(refine hK _ ?_;clear hK K))|simp only [go_sem,eG]|with_reducible refine wA ?_|clear hK K)
  refine ab.one HX ?_
  rcases Bool.eq_false_or_eq_true (p l[i]) with hp|hp
  ·rw [hp,if_pos rfl] at hx
   repeat (first|(with_reducible first|refine af.up ?_|refine fun (K:AK) hK=> ?_|(refine hK _ ?_;clear hK K))|simp only [go_sem,hp]|with_reducible refine wA ?_|clear hK K)
   rw [hx]
  ·rw [hp,if_neg (by decide)] at hx
   repeat (first|(with_reducible first|refine af.up ?_|refine fun (K:AK) hK=> ?_|(refine hK _ ?_;clear hK K))|simp only [go_sem,hp,eW]|with_reducible refine wA ?_|clear hK K)
   refine aM.mk (i+1) ⟨by omega,hx⟩ (by omega) ?_
   (refine ak ?_ ?_ ?_<;>simp only [aR,SI,SL,Ti,Tj,aX,aW,AV.v.injEq,Value.int.injEq,Value.bool.injEq,Value.string.injEq,AV.vec.injEq,AV.ptr.injEq,true_or,or_true,false_or,or_false,aa.mk.injEq,forall_eq_apply_imp_iff,forall_eq,forall_eq',go_sem])
   all_goals first|exact hw|rfl
 ·have:i=l.length:=by (try simp only [decide_eq_true_eq,decide_eq_false_iff_not,Tp] at h);omega
  rw [this,List.drop_length,wv] at hx
  repeat (first|(with_reducible first|refine af.up ?_|refine fun (K:AK) hK=> ?_|(refine hK _ ?_;clear hK K))|simp only [go_sem]|with_reducible refine wA ?_|clear hK K)
  rw [hx]
theorem oG {g:FuncId} (caps:List AV) (hw:bn 0 caps=true) (p:Nat->Bool) (l:List Nat) (hl:l.length<=1000000) (H: ∀x:Nat,ag Tryz.prog g (.v (.int .i64 x) :: caps) (.v (.bool (p x)))) :
  ag Tryz.prog 156 [.aC 1 (au l) l.length, .fn g [] caps] (.v (.bool (l.any p))):=by
 have C:=ud caps hw p l hl H
 (refine ag.enter Tryz.func156 rfl (by kernel_rfl) (by kernel_rfl) rfl (by simp only [go_sem,bn,AV.wf,Tg,SA,SD,hw]) (by simp only [go_sem,bn,AV.wf,aA,Tg,SA,SD,hw]) ?_;simp only [Tryz.ntmps156,Tryz.results156,Rg,Q9,Nat.reduceAdd,Nat.reduceSub,Ti,Tj,Tl,Tm])
 repeat (first|(with_reducible first|refine af.up ?_|refine fun (K:AK) hK=> ?_|(refine hK _ ?_;clear hK K))|simp only [go_sem]|clear hK K)
 refine ab.one C ?_
 repeat (first|(with_reducible first|refine af.up ?_|refine fun (K:AK) hK=> ?_|(refine hK _ ?_;clear hK K))|simp only [go_sem]|clear hK K)
 rw [wx]
theorem EM (last:List Nat) (n:Nat) (hl:last.length<=1000000):ag Tryz.prog 153 [.v (.int .i64 n), .vp [.aC 1 (au last) last.length]] (.v (.bool (last.contains n))):=by
 have C:=vW last n hl
 (refine ag.enter Tryz.func153 rfl (by kernel_rfl) (by kernel_rfl) rfl (by first|rfl|(simp only [go_sem,Tg,SA,SD])) (by first|rfl|(simp only [go_sem,Tg,SA,SD])) ?_;simp only [Tryz.ntmps153,Tryz.results153,Rg,Q9,Nat.reduceAdd,Nat.reduceSub,Ti,Tj,Tl,Tm])
 repeat (first|(with_reducible first|refine af.up ?_|refine fun (K:AK) hK=> ?_|(refine hK _ ?_;clear hK K))|simp only [go_sem]|clear hK K)
 refine ab.one C ?_
 repeat (first|(with_reducible first|refine af.up ?_|refine fun (K:AK) hK=> ?_|(refine hK _ ?_;clear hK K))|simp only [go_sem]|clear hK K)
def Ds (l:List ByteArray):List (List AV):=cZ (l.zipIdx)
theorem Ap (l:List ByteArray):(Ds l).length=l.length:=by simp [Ds,cZ]
theorem wP (l:List ByteArray) (s:ByteArray): ∀k,look (l.zipIdx k) s=(pos l s).map (fun i=>i+k):=by
 induction l with
 | nil=>intro k;simp [look,pos]
 | cons a l ih=>
  intro k;rw [List.zipIdx_cons]
  have:=ih (k+1)
  simp only [look,pos,List.find?_cons,List.findIdx?_cons] at this ⊢
  cases h:cf s a
  ·simp only [Bool.false_eq_true,if_false];rw [this,Option.map_map]
   congr 1;funext i;simp;omega
  ·simp
theorem DR (s:ByteArray) (l:List ByteArray):k9 .string (.string s) (Ds l)=some ((pos l s).map (fun n=> .v (.int .i64 (n:Nat)))):=by
 rw [Ds,yp,wP,Option.map_map];rfl
theorem EU (l:List ByteArray) (s:ByteArray):Ds (l++[s])=cZ (l.zipIdx++[(s,l.length)]):=by rw [Ds,List.zipIdx_append];simp
theorem DT (s:ByteArray) (l:List ByteArray) (h:pos l s=none):lz .string (.string s) (.v (.int .i64 (l.length:Nat))) (Ds l)=some (Ds (l++[s])):=by
 rw [Ds,mY s l.length _ (by rw [wP,h];rfl),EU]
@[go_sem] theorem PM (n:Nat) (l:List ByteArray):dA n (Ds l)=true:=o7 n _
end
end Go.Proofs.YtjcobjgjjlahdaaGreatDoor
