/- texts of one claim, one behind the other. -/
import Derived.Test.YtjcobjgjjlahdaaGreatDoorWDfaA
import Derived.Test.YtjcobjgjjlahdaaGreatDoorWOrdB
import Derived.Test.YtjcobjgjjlahdaaGreatDoorWVerts
set_option linter.unusedSimpArgs false
set_option linter.unusedVariables false
set_option maxRecDepth 100000
set_option maxHeartbeats 16000000
open BitVec renaming getLsbD_or -> Th
open Bool renaming and_self -> SE, and_true -> R0, true_and -> R3, or_eq_true -> RJ, not_eq_eq_eq_not -> SI
open Classical renaming byContradiction -> Tg
open List renaming cons_append -> SB, append_assoc -> Q6, mem_cons_of_mem -> RC, map_cons -> Tc, getD_eq_getElem?_getD -> Rw, pairwise_iff_getElem -> S6, length_map -> Rv, getElem?_eq_getElem -> QS, getElem_mem -> Su, length_cons -> QI, length_nil -> QC, replicate_succ -> SG, replicate_zero -> SH, nil_append -> SA, foldl_cons -> R8, foldl_nil -> Sb, take_succ_eq_append_getElem -> Sf, map_nil -> Ti, take_append_drop -> Tj, length_append -> QH, drop_eq_getElem_cons -> RT, foldl_append -> Sg
open List.cons renaming injEq -> S9
open Int renaming ofNat_lt -> SK, natCast_inj -> SJ, ofNat_le -> SL
namespace Go.Proofs.YtjcobjgjjlahdaaGreatDoor
open Go.RowKit
section
theorem Jj {a b x y:List UInt8} (h:a++32 :: x=b++32 :: y) (ha:32∉a) (hb:32∉b):a=b∧x=y:=by
 induction a generalizing b with
 | nil=>
  cases b with
  | nil=>simpa using h
  | cons c b=>simp at h hb;exact absurd h.1 hb.1
 | cons d a ih=>
  cases b with
  | nil=>simp at h ha;exact absurd h.1.symm ha.1
  | cons c b=>
   simp only [SB,S9,List.mem_cons,not_or] at h ha hb;obtain ⟨rfl,h⟩:=h;obtain ⟨h1,h2⟩:=ih h ha.2 hb.2;exact ⟨by rw [h1],h2⟩
section
variable (rows:List bL) (ends:List Bool)
def Cb (r:bL):Prop:= ∀p∈r,32∉p.1.data.toList
def Ar (part:List Nat) (r:bL):List Nat:=r.map (fun e=>part.getD e.2 0)
theorem xq {part:List Nat}: ∀ {r s:bL},Cb r->Cb s->r.flatMap (fun e=>32 :: (e.1.data.toList++32 :: Lib.decDigits (part.getD e.2 0)))=s.flatMap (fun e=>32 :: (e.1.data.toList++32 :: Lib.decDigits (part.getD e.2 0)))->r.map Prod.fst=s.map Prod.fst∧Ar part r=Ar part s
 | [],[],_,_,_=>⟨rfl,rfl⟩
 | [],b :: s,_,_,h=>by simp at h
 | a :: r,[],_,_,h=>by simp at h
 | a :: r,b :: s,h1,h2,h=>by
  simp only [List.flatMap_cons,SB,Q6,S9,true_and] at h;obtain ⟨k1,k2⟩:=Jj h (h1 a List.mem_cons_self) (h2 b List.mem_cons_self)
  have hh: ∀t:bL,(t.flatMap (fun e=>32 :: (e.1.data.toList++32 :: Lib.decDigits (part.getD e.2 0))))=[]∨(t.flatMap (fun e=>32 :: (e.1.data.toList++32 :: Lib.decDigits (part.getD e.2 0)))).head? = some 32:=fun t=>by
   cases t with
   | nil=>exact .inl rfl
   | cons a t=>exact .inr rfl
  obtain ⟨k3,k4⟩:=ma k2 (hh r) (hh s);obtain ⟨k5,k6⟩:=xq (fun p hp=>h1 p (RC _ hp)) (fun p hp=>h2 p (RC _ hp)) k4
  have:a.1=b.1:=by
   cases ha:a.1 with|mk x=>cases hb:b.1 with|mk y=>
   rw [ha,hb] at k1;exact congrArg ByteArray.mk (Array.toList_inj.1 k1)
  exact ⟨by rw [Tc,Tc,k5,this],by rw [Ar,Tc,k3];rw [Ar,Ar] at k6;rw [k6];rfl⟩
theorem Cf {part:List Nat} {p q:Nat} {r s:bL} (h1:Cb r) (h2:Cb s) (h:db part p r=db part q s):p=q∧r.map Prod.fst=s.map Prod.fst∧Ar part r=Ar part s:=by
 have e:ui part p r=ui part q s:=by
  have:(db part p r).data.toList=(db part q s).data.toList:=by rw [h]
  simpa [db] using this
 have hh: ∀t:bL,(t.flatMap (fun e=>32 :: (e.1.data.toList++32 :: Lib.decDigits (part.getD e.2 0))))=[]∨(t.flatMap (fun e=>32 :: (e.1.data.toList++32 :: Lib.decDigits (part.getD e.2 0)))).head? = some 32:=fun t=>by
  cases t with
  | nil=>exact .inl rfl
  | cons a t=>exact .inr rfl
 obtain ⟨k1,k2⟩:=ma e (hh r) (hh s);exact ⟨k1,xq h1 h2 k2⟩
structure Pj (part:List Nat):Prop where
 ends: ∀s t,s<rows.length->t<rows.length->part.getD s 0=part.getD t 0->ends.getD s false=ends.getD t false
 row: ∀s t,s<rows.length->t<rows.length->part.getD s 0=part.getD t 0->(rows.getD s []).map Prod.fst=(rows.getD t []).map Prod.fst∧Ar part (rows.getD s [])=Ar part (rows.getD t [])
def Ad:Prop:= ∀r∈rows,Cb r
theorem Ae (h:Ad rows) (s:Nat):Cb (rows.getD s []):=by
 rcases Nat.lt_or_ge s rows.length with q|q
 ·exact h _ (ia q)
 ·rw [Rw,List.getElem?_eq_none q];exact fun p hp=>by simp at hp
theorem sC {part:List Nat} {s t:Nat} (hs:s<rows.length) (ht:t<rows.length):(eb rows part).getD s 0=(eb rows part).getD t 0↔db part (part.getD s 0) (rows.getD s [])=db part (part.getD t 0) (rows.getD t []):=by
 have ok:=fT rows part rows.length;obtain ⟨q1,q2⟩:=ok.at' s hs;obtain ⟨r1,r2⟩:=ok.at' t ht
 constructor
 ·intro e;have e1:(dY rows part rows.length).2.getD s 0=(dY rows part rows.length).2.getD t 0:=e;rw [<-q2, <- r2];simp only [e1]
 ·intro e;rw [<-q2, <- r2] at e
  exact Tg fun hne=>by
   rcases Nat.lt_or_ge ((dY rows part rows.length).2.getD s 0) ((dY rows part rows.length).2.getD t 0) with h|h
   ·exact S6.1 ok.nd _ _ q1 r1 h e
   ·exact S6.1 ok.nd _ _ r1 q1 (Nat.lt_of_le_of_ne h (fun q=>hne q.symm)) e.symm
theorem lG {part:List Nat} {s t:Nat} (hs:s<rows.length) (ht:t<rows.length) (h:(eb rows part).getD s 0=(eb rows part).getD t 0):part.getD s 0=part.getD t 0:=
 qk ((sC rows hs ht).1 h)
theorem mo {part:List Nat} {s:Nat} (hs:s<rows.length):(eb rows part).getD s 0<gk rows part:=((fT rows part rows.length).at' s hs).1
theorem y4 {part:List Nat} {many:Nat} (h:KL rows part many) (hlt: ∀s,s<rows.length->part.getD s 0<many) (he:gk rows part=many) {s t:Nat} (hs:s<rows.length) (ht:t<rows.length) (hp:part.getD s 0=part.getD t 0):(eb rows part).getD s 0=(eb rows part).getD t 0:=by
 refine Tg fun hne=> ?_
 have hch: ∀k, ∃m,k<many-> ∃u,u<rows.length∧part.getD u 0=k∧(eb rows part).getD u 0=m:=fun k=>by
  by_cases hk:k<many
  ·obtain ⟨u,h1,h2⟩:=h.2 k hk;exact ⟨_,fun _=>⟨u,h1,h2,rfl⟩⟩
  ·exact ⟨0,fun q=>absurd q hk⟩
 obtain ⟨f,hf⟩:=Classical.axiomOfChoice hch
 have fin: ∀a b,a<many->b<many->f a=f b->a=b:=fun a b ha hb e=>by
  obtain ⟨u,k1,k2,k3⟩:=hf a ha;obtain ⟨v,m1,m2,m3⟩:=hf b hb
  have:=lG rows k1 m1 (k3.trans (e.trans m3.symm))
  rw [<-k2, <- m2];exact this
 have hk:=hlt s hs
 
 obtain ⟨z,hz,hz2⟩: ∃z,z<rows.length∧part.getD z 0=part.getD s 0∧(eb rows part).getD z 0≠f (part.getD s 0):=by
  by_cases q:(eb rows part).getD s 0=f (part.getD s 0)
  ·exact ⟨t,ht,hp.symm,fun e=>hne (q.trans e.symm)⟩
  ·exact ⟨s,hs,rfl,q⟩
 have:=Er (many+1) (gk rows part) (fun a=>if a<many then f a else (eb rows part).getD z 0) (fun a ha=>by
  split
  ·rename_i q;obtain ⟨u,k1,_,k3⟩:=hf a q;rw [<-k3];exact mo rows k1
  ·exact mo rows hz) (fun a b ha hb e=>by
  have side: ∀a,a<many->f a≠(eb rows part).getD z 0:=fun a q e=>by
   obtain ⟨u,k1,k2,k3⟩:=hf a q
   have:=lG rows k1 hz (k3.trans e)
   have ha':a=part.getD s 0:=by rw [<-k2,this,hz2.1]
   subst ha';exact hz2.2 e.symm
  split at e<;>split at e
  ·rename_i q1 q2;exact fin a b q1 q2 e
  ·rename_i q1 q2;exact absurd e (side a q1)
  ·rename_i q1 q2;exact absurd e.symm (side b q2)
  ·omega)
 omega
def IB (part:List Nat):Prop:= ∀s t,s<rows.length->t<rows.length->part.getD s 0=part.getD t 0->ends.getD s false=ends.getD t false
theorem wQ (hn:Ad rows) (hT: ∀r∈rows, ∀p∈r,p.2<rows.length) (h0:0<rows.length): ∀(f:Nat) {part:List Nat} {many:Nat},IB rows ends part->KL rows part many->many<=rows.length->(many≠0-> ∀s,s<rows.length->part.getD s 0<many)->rows.length+1<=f+many ->
  Pj rows ends (uk rows f part many)∧(uk rows f part many).length=rows.length
 | 0,part,many,_,_,_,_,hf=>by omega
 | f+1,part,many,he,ho,hm,hlt,hf=>by
  have hN:IB rows ends (eb rows part):=fun s t hs ht h=>he s t hs ht (lG rows hs ht h);have hpos:0<gk rows part:=Nat.lt_of_le_of_lt (Nat.zero_le _) (mo rows (part:=part) h0);rw [uk]
  split
  ·rename_i hq;refine ⟨⟨hN,fun s t hs ht h=> ?_⟩,(qn rows part).1⟩;obtain ⟨_,k2,k3⟩:=Cf (Ae rows hn s) (Ae rows hn t) ((sC rows hs ht).1 h);refine ⟨k2, ?_⟩
   
   have hlen:(rows.getD s []).length=(rows.getD t []).length:=by simpa using congrArg List.length k2
   refine List.ext_getElem (by simp only [Ar,Rv,hlen]) fun i h1 h2=> ?_
   have e:(Ar part (rows.getD s []))[i]? = (Ar part (rows.getD t []))[i]? :=by rw [k3]
   simp only [Ar,Rv] at h1 h2;simp only [Ar,List.getElem?_map,QS h1,QS h2,Option.map_some,Option.some.injEq,List.getElem_map] at e ⊢;exact y4 rows ho (hlt (by omega)) hq (hT _ (ia hs) _ (Su h1)) (hT _ (ia ht) _ (Su h2)) e
  ·rename_i hq
   have:=qm rows ho
   exact wQ hn hT h0 f hN (qn rows part) (wP rows part) (fun _ s hs=>mo rows hs) (by omega)
theorem y5 (hn:Ad rows) (hT: ∀r∈rows, ∀p∈r,p.2<rows.length) (h0:0<rows.length) (hl:ends.length=rows.length):Pj rows ends (fA rows ends)∧(fA rows ends).length=rows.length:=by
 refine wQ rows ends hn hT h0 (rows.length+2) (fun s t hs ht h=> ?_) ⟨by simp [p0,hl],fun k h=>by omega⟩ (Nat.zero_le _) (fun h=>absurd rfl h) (by omega)
 have hg: ∀u,u<rows.length->(p0 ends).getD u 0=if ends.getD u false then 1 else 0:=fun u hu=>by
  rw [p0,Rw,List.getElem?_map,QS (by omega),Rw,QS (by omega)];rfl
 rw [hg s hs,hg t ht] at h;cases h1:ends.getD s false<;>cases h2:ends.getD t false<;>simp_all
variable {rows ends}
def NG (part order:List Nat) (r r':bL):Prop:= ∀l,(look r l=none->look r' l=none)∧ ∀t,look r l=some t-> ∃k,look r' l=some k∧k<order.length∧part.getD (order.getD k 0) 0=part.getD t 0
structure QW (rows:List bL) (ends:List Bool) (part:List Nat) (st:C4):Prop where
 zero:st.order.getD 0 0=0
 row: ∀k,k<st.rows.length->NG part st.order (rows.getD (st.order.getD k 0) []) (st.rows.getD k [])
 Lb: ∀k,k<st.rows.length->st.ends.getD k false=ends.getD (st.order.getD k 0) false
end
theorem GH {l:List Nat} {k:Nat} {x:List AV} (h:(az l)[k]? = some x): ∃hk:k<l.length,x=[.v (.int .i64 (l[k]:Nat))]:=by
 obtain ⟨h1,h2⟩:=List.getElem?_eq_some_iff.1 h;simp only [az,Rv] at h1;exact ⟨h1,by rw [<-h2];simp [az]⟩
theorem gI {n0:Nat} {Q:ba->AS->Prop} {t:List AV} {o:List (Option aa)} {y:iO} {g:Operand} {ps:Array Tmp} {assign body:Code} (m:BitVec 32) (id:Nat) (ho:o[id]? = some (some (ly m))) (mm:Nat) (O:Nat->List (Option aa)) (ok:Nat->Prop) (h0:ok 0)
  (hg:(AS.mk t o y).ev g = .fn 231 [] [.ptr id 0 1 0 0]) (hdead:(O 0)[id]? = some none) (hwk:Wk n0 ⟨t,o,y⟩ ⟨cK mm t,O 0,y⟩) (hA:bX assign=true) (hB:bX body=true) (hps:ps.size=1)
  (hround: ∀k (hk:k<(ay m).length),ok k->cA Tryz.prog (O 0).length assign ⟨fN ps.toList [.v (.int .i64 ((ay m)[k]:Nat))] (cK mm t),O k,y⟩ (ld Tryz.prog (O 0).length body (kW (O 0).length (cK mm t) (ok (k+1)) (O (k+1)) y Q)))
  (hfin:ok (ay m).length->Q .normal ⟨cK mm t,O (ay m).length,y⟩):cA Tryz.prog n0 (.rangeFunc g ps assign body) ⟨t,o,y⟩ Q:=by
 have hl:(az (ay m)).length=(ay m).length:=by simp [az]
 refine pb (Gi m) [id] (by simp) ?_ ?_ O (fun _=>y) ok h0 (cK mm t) ?_ (by rfl) ?_ hwk hA hB ?_ ?_ (by rw [hl];exact hfin)
 ·simp only [Tc,List.map_nil,ho,Option.map_some];rfl
 ·intro k ob hk
  match k,hk with
  | 0,hk=>cases hk;rfl
  | k+1,hk=>simp at hk
 ·rw [hg];rfl
 ·intro i hi ob
  obtain rfl:i=id:=by simpa using hi
  rw [hdead];intro h;cases h
 ·intro x hx;obtain ⟨p,_,rfl⟩:=List.mem_map.1 hx;exact hps.symm
 ·intro k x hk hx;obtain ⟨hlt,rfl⟩:=GH hx;exact hround k hlt hk
def ofM (p:Int):BitVec 32:=if 0<=p∧p<=24 then 1#32 <<< p.toNat else 0#32
theorem Ag {p:Int} {i:Nat}:(ofM p).getLsbD i=decide (0<=p∧p<=24∧i=p):=by
 rw [ofM]
 split
 ·rename_i h;rw [BitVec.getLsbD_shiftLeft,BitVec.getLsbD_one,Bool.eq_iff_iff];simp;omega
 ·rename_i h;rw [BitVec.getLsbD_zero,eq_comm,decide_eq_false_iff_not];omega
theorem JA (p:Int):ah Tryz.prog 182 [.v (.int .i64 p)] (aP (ofM p)):=by
 have hS:0<=p∧p<=24->IntKind.u32.wrap (1 * 2 ^ min p.toNat 32)=((ofM p).toNat:Nat):=fun h=>by
  have e:min p.toNat 32=p.toNat:=by omega
  rw [ofM,if_pos h,e,Hd]
 have hZ: ¬(0<=p∧p<=24)->ofM p=0#32:=fun h=>by rw [ofM,if_neg h]
 simp only [aP]
 rcases Int.lt_or_le p 0 with h1|h1
 ·have b1:decide (p<0)=true:=decide_eq_true h1;rw [hZ (by omega)]
  (refine ah.enter Tryz.func182 rfl (by kernel_rfl) (by kernel_rfl) rfl (by first|rfl|(simp only [go_sem,SE,R0,R3])) (by first|rfl|(simp only [go_sem,SE,R0,R3])) ?_;simp only [Tryz.ntmps182,Tryz.results182,QI,QC,Nat.reduceAdd,Nat.reduceSub,SG,SH,SB,SA])
  repeat (first|(with_reducible first|refine af.up ?_|refine fun (K:AK) hK=> ?_|(refine hK _ ?_;clear hK K))|simp only [go_sem,b1,Go.undef]|with_reducible refine wA ?_|clear hK K)
  rfl
 ·have b1:decide (p<0)=false:=decide_eq_false (by omega)
  rcases Int.lt_or_le 24 p with h2|h2
  ·have b2:decide (24<p)=true:=decide_eq_true h2;rw [hZ (by omega)]
   (refine ah.enter Tryz.func182 rfl (by kernel_rfl) (by kernel_rfl) rfl (by first|rfl|(simp only [go_sem,SE,R0,R3])) (by first|rfl|(simp only [go_sem,SE,R0,R3])) ?_;simp only [Tryz.ntmps182,Tryz.results182,QI,QC,Nat.reduceAdd,Nat.reduceSub,SG,SH,SB,SA])
   repeat (first|(with_reducible first|refine af.up ?_|refine fun (K:AK) hK=> ?_|(refine hK _ ?_;clear hK K))|simp only [go_sem,b1,b2,Go.undef]|with_reducible refine wA ?_|clear hK K)
   rfl
  ·have b2:decide (24<p)=false:=decide_eq_false (by omega);have e:=hS ⟨h1,h2⟩;have e0:(0<=p)=True:=eq_true h1
   (refine ah.enter Tryz.func182 rfl (by kernel_rfl) (by kernel_rfl) rfl (by first|rfl|(simp only [go_sem,SE,R0,R3])) (by first|rfl|(simp only [go_sem,SE,R0,R3])) ?_;simp only [Tryz.ntmps182,Tryz.results182,QI,QC,Nat.reduceAdd,Nat.reduceSub,SG,SH,SB,SA])
   repeat (first|(with_reducible first|refine af.up ?_|refine fun (K:AK) hK=> ?_|(refine hK _ ?_;clear hK K))|simp only [go_sem,b1,b2,e,e0,Go.undef]|with_reducible refine wA ?_|clear hK K)
theorem EI (m:BitVec 32):ah Tryz.prog 189 [aP m] (.aE 1 (az (ay m)) (ay m).length):=by
 have A:=mB m;have hb:=Bt m;simp only [ly,aP] at *
 (refine ah.enter Tryz.func189 rfl (by kernel_rfl) (by kernel_rfl) rfl (by first|rfl|(simp only [go_sem,SE,R0,R3])) (by first|rfl|(simp only [go_sem,SE,R0,R3])) ?_;simp only [Tryz.ntmps189,Tryz.results189,QI,QC,Nat.reduceAdd,Nat.reduceSub,SG,SH,SB,SA])
 repeat (first|(with_reducible first|refine af.up ?_|refine fun (K:AK) hK=> ?_|(refine hK _ ?_;clear hK K))|simp only [go_sem]|with_reducible refine wA ?_|clear hK K)
 refine ae.fr [] A (by simp) ?_ ?_ ?_ ?_ ?_
 ·rfl
 ·rfl
 ·rfl
 ·intro k ob hk;simp at hk
 repeat (first|(with_reducible first|refine af.up ?_|refine fun (K:AK) hK=> ?_|(refine hK _ ?_;clear hK K))|simp only [go_sem]|with_reducible refine wA ?_|clear hK K)
 refine kB (b7 (k:=0) (i:=0) (j:=0) 3 1 (by decide) rfl (by decide) rfl rfl) (by kernel_rfl) ?_;simp only [QI,QC,Nat.reduceAdd,SB,SA,List.set_cons_zero]
 refine gI m 1 rfl 3 (fun k=>[some ⟨75,1,false,[[.vec 2 k]]⟩,none,some ⟨3,1,true,az ((ay m).take k)⟩]) (fun _=>True) trivial ?_ rfl ?_ (by kernel_rfl) (by kernel_rfl) rfl ?_ ?_
 ·rfl
 ·(refine aj ?_ ?_ ?_<;>simp only [aT,R8,Sb,SG,SH,bj,bg,AV.v.injEq,Value.int.injEq,Value.bool.injEq,Value.string.injEq,AV.vec.injEq,AV.ptr.injEq,true_or,or_true,false_or,or_false,aa.mk.injEq,forall_eq_apply_imp_iff,forall_eq,forall_eq',go_sem])
  rfl
 ·intro k hk _
  have eS:az ((ay m).take (k+1))=az ((ay m).take k)++[[.v (.int .i64 ((ay m)[k]:Nat))]]:=by rw [Sf hk,az,List.map_append];rfl
  have eL:(az ((ay m).take k)).length=k:=by simp [az];omega
  repeat (first|(with_reducible first|refine af.up ?_|refine fun (K:AK) hK=> ?_|(refine hK _ ?_;clear hK K))|simp only [go_sem]|with_reducible refine wA ?_|clear hK K)
  rw [eS]
  (refine aj ?_ ?_ ?_<;>simp only [aT,R8,Sb,SG,SH,bj,bg,AV.v.injEq,Value.int.injEq,Value.bool.injEq,Value.string.injEq,AV.vec.injEq,AV.ptr.injEq,true_or,or_true,false_or,or_false,aa.mk.injEq,forall_eq_apply_imp_iff,forall_eq,forall_eq',go_sem])
 ·intro _;have e1:(ay m).take (ay m).length=ay m:=List.take_length
  have eL:(az (ay m)).length=(ay m).length:=by simp [az]
  repeat (first|(with_reducible first|refine af.up ?_|refine fun (K:AK) hK=> ?_|(refine hK _ ?_;clear hK K))|simp only [go_sem,e1]|with_reducible refine wA ?_|clear hK K)
  rw [<-eL]
  (refine lR.of 40 rfl ?_;simp only [go_sem])
  trace_state
structure cg where
 ai:List ByteArray
 fs:List (BitVec 32)
 la:BitVec 32
 em:Bool
def cg.row (i:Nat) (s:cg):List AV:= .vec i s.ai.length :: (s.fs.map aP++[aP s.la, .v (.bool s.em)])
def cg.os (s:cg):List (Option aa):=[some ⟨183,28,false,[s.row 1]⟩,some ⟨9,1,true,s.ai.map encS⟩]
def B5 (b:BitVec 32) (fs:List (BitVec 32)) (p:Nat):List (BitVec 32):=fs.set p (fs.getD p 0#32 ||| b)
def jK (b:BitVec 32) (l:List Nat) (fs:List (BitVec 32)):List (BitVec 32):=l.foldl (B5 b) fs
theorem mg (b:BitVec 32): ∀(l:List Nat) (fs:List (BitVec 32)),(jK b l fs).length=fs.length
 | [],fs=>rfl
 | p :: l,fs=>by rw [jK,R8, <- jK,mg b l,B5,List.length_set]
theorem B6 (b:BitVec 32) (l:List Nat) (p:Nat) (fs:List (BitVec 32)):jK b (l++[p]) fs=B5 b (jK b l fs) p:=by
 rw [jK,List.foldl_append];rfl
theorem zY {fs:List (BitVec 32)} {l:AV} {X:List AV} {p:Nat} (h:p<fs.length): ∃r,(l :: (fs.map aP++X)).drop (1+p * 1)=aP (fs.getD p 0#32) :: r:=by
 refine ⟨(fs.map aP++X).drop (p+1), ?_⟩;rw [Nat.mul_one,Nat.add_comm,List.drop_succ_cons,List.drop_eq_getElem_cons (by simp;omega),List.getElem_append_left (by simpa using h),List.getElem_map];simp [List.getD,h]
theorem Jo {fs:List (BitVec 32)} {l:AV} {X:List AV} {p:Nat} (x:BitVec 32) (h:p<fs.length):(l :: (fs.map aP++X)).take (1+p * 1)++aP x :: (fs.map aP++X).drop (1+p * 1)=l :: ((fs.set p x).map aP++X):=by
 rw [Nat.mul_one,Nat.add_comm,List.take_succ_cons,SB,List.map_set, <- List.set_append_left p (aP x) (by simpa using h),List.set_eq_take_append_cons_drop,if_pos (by simp;omega)]
theorem zB (n:Nat) (fs:List (BitVec 32)) (x y:Value):bw n (fs.map aP++[.v x, .v y])=true:=by
 induction fs with
 | nil=>rfl
 | cons z l ih=>simp only [Tc,SB,bw,aP,AV.wf,R3];exact ih
theorem uA (f:Nat->Nat) (fs:List (BitVec 32)) (x y:Value):bQ f (fs.map aP++[.v x, .v y])=fs.map aP++[.v x, .v y]:=by
 induction fs with
 | nil=>rfl
 | cons z l ih=>simp only [Tc,SB,bQ,ih];rfl
attribute [go_sem] zB uA
theorem EH (s:cg) (a b:BitVec 32) (hl:s.fs.length=25) (ha: ∀p,p∈ay a->p<25) :
  bG Tryz.prog 184 [.ptr 0 0 28 0 0,aP a,aP b] s.os (.dA []) (cg.os { s with fs:=jK b (ay a) s.fs }):=by
 have A:=mB a;obtain ⟨ai,fs,la,em⟩:=s;simp only [cg.os,cg.row,ly] at *;simp only [aP] at A;simp only [aP]
 (refine bG.enter Tryz.func184 rfl (by kernel_rfl) (by kernel_rfl) rfl ?_;simp only [Tryz.ntmps184,Tryz.results184,QI,QC,Nat.reduceAdd,Nat.reduceSub,SG,SH,SB,SA])
 repeat (first|(with_reducible first|refine af.up ?_|refine fun (K:AK) hK=> ?_|refine wE ?_|refine wK ?_|refine wF ?_|(refine hK _ ?_;clear hK K))|simp only [go_sem]|with_reducible refine wA ?_|clear hK K)
 refine ae.fr [] A (by simp) ?_ ?_ ?_ ?_ ?_
 ·rfl
 ·rfl
 ·rfl
 ·intro k ob hk;simp at hk
 repeat (first|(with_reducible first|refine af.up ?_|refine fun (K:AK) hK=> ?_|refine wE ?_|refine wK ?_|refine wF ?_|(refine hK _ ?_;clear hK K))|simp only [go_sem]|with_reducible refine wA ?_|clear hK K)
 refine gI a 4 (by simp only [ly,aP];rfl) 6 (fun k=>[some ⟨183,28,false,[.vec 1 ai.length :: ((jK b ((ay a).take k) fs).map aP++[.v (.int .u32 la.toNat), .v (.bool em)])]⟩,some ⟨9,1,true,ai.map encS⟩,some ⟨152,1,false,[[.ptr 0 0 28 0 0]]⟩,some ⟨180,1,false,[[.v (.int .u32 b.toNat)]]⟩,none]) (fun _=>True) trivial ?_ rfl ?_ (by kernel_rfl) (by kernel_rfl) rfl ?_ ?_
 ·rfl
 ·(refine aj ?_ ?_ ?_<;>simp only [aT,R8,Sb,SG,SH,bj,bg,AV.v.injEq,Value.int.injEq,Value.bool.injEq,Value.string.injEq,AV.vec.injEq,AV.ptr.injEq,true_or,or_true,false_or,or_false,aa.mk.injEq,forall_eq_apply_imp_iff,forall_eq,forall_eq',go_sem])
  rfl
 ·intro k hk _;have hp:=ha _ (Su hk);rw [Sf hk,B6,B5]
  have hL:(jK b ((ay a).take k) fs).length=25:=by rw [mg];exact hl
  generalize jK b ((ay a).take k) fs=F at *;generalize (ay a)[k]=p at *;obtain ⟨r,eD⟩:=zY (l:= .vec 1 ai.length) (X:=[.v (.int .u32 la.toNat), .v (.bool em)]) (fs:=F) (p:=p) (by omega);have eS:=Jo (l:= .vec 1 ai.length) (X:=[.v (.int .u32 la.toNat), .v (.bool em)]) (fs:=F) (p:=p) (F.getD p 0#32 ||| b) (by omega);have eT:(p:Int).toNat=p:=Int.toNat_natCast p
  have eB:0<=(p:Int)∧(p:Int)<25:=by omega
  simp only [aP] at eD eS
  repeat (first|(with_reducible first|refine af.up ?_|refine fun (K:AK) hK=> ?_|refine wE ?_|refine wK ?_|refine wF ?_|(refine hK _ ?_;clear hK K))|simp only [go_sem,eD,js]|with_reducible refine wA ?_|clear hK K)
  rw [eS]
  (refine aj ?_ ?_ ?_<;>simp only [aT,R8,Sb,SG,SH,bj,bg,AV.v.injEq,Value.int.injEq,Value.bool.injEq,Value.string.injEq,AV.vec.injEq,AV.ptr.injEq,true_or,or_true,false_or,or_false,aa.mk.injEq,forall_eq_apply_imp_iff,forall_eq,forall_eq',go_sem])
 ·intro _;have e1:(ay a).take (ay a).length=ay a:=List.take_length
  repeat (first|(with_reducible first|refine af.up ?_|refine fun (K:AK) hK=> ?_|refine wE ?_|refine wK ?_|refine wF ?_|(refine hK _ ?_;clear hK K))|simp only [go_sem,e1]|with_reducible refine wA ?_|clear hK K)
  (refine ⟨?_, ?_, ?_⟩<;>simp only [bj,bg,AV.v.injEq,Value.int.injEq,Value.bool.injEq,Value.string.injEq,AV.vec.injEq,AV.ptr.injEq,true_or,or_true,false_or,or_false,aa.mk.injEq,forall_eq_apply_imp_iff,forall_eq,forall_eq',go_sem])
structure FU where
 st:cg
 op:Bool
 ends:BitVec 32
 first:BitVec 32
def cI (x:Ex) (b:cg×BitVec 32×BitVec 32) (r:FU):FU:=
 ⟨{ b.1 with fs:=jK b.2.1 (ay r.ends) b.1.fs },if b9 x then r.op else false,(if b9 x then r.ends else 0#32) ||| b.2.2,if r.op then r.first ||| b.2.1 else r.first⟩
mutual
def lX:Ex->cg->cg×BitVec 32×BitVec 32
 | .mk k s l,st=>
  if k=1 then ({ st with ai:=st.ai++[s] },ofM ((st.ai.length+1:Nat):Int),ofM ((st.ai.length+1:Nat):Int))
  else if k=2 then ((fG l ⟨st,true,0#32,0#32⟩).st,(fG l ⟨st,true,0#32,0#32⟩).first,(fG l ⟨st,true,0#32,0#32⟩).ends)
  else if k=4∨k=5 then ({ (eJ l (st,0#32,0#32)).1 with fs:=jK (eJ l (st,0#32,0#32)).2.1 (ay (eJ l (st,0#32,0#32)).2.2) (eJ l (st,0#32,0#32)).1.fs },(eJ l (st,0#32,0#32)).2.1,(eJ l (st,0#32,0#32)).2.2)
  else eJ l (st,0#32,0#32)
def fG:List Ex->FU->FU
 | [],r=>r
 | x :: xs,r=>fG xs (cI x (lX x r.st) r)
def eJ:List Ex->cg×BitVec 32×BitVec 32->cg×BitVec 32×BitVec 32
 | [],r=>r
 | x :: xs,r=>eJ xs ((lX x r.1).1,r.2.1 ||| (lX x r.1).2.1,r.2.2 ||| (lX x r.1).2.2)
end
theorem vu: ∀(l m:List Ex) (r:FU),fG (l++m) r=fG m (fG l r)
 | [],m,r=>by simp [fG]
 | x :: l,m,r=>by simp only [SB,fG];exact vu l m _
theorem vt: ∀(l m:List Ex) (r:cg×BitVec 32×BitVec 32),eJ (l++m) r=eJ m (eJ l r)
 | [],m,r=>by simp [eJ]
 | x :: l,m,r=>by simp only [SB,eJ];exact vt l m _
theorem nf {fs:List (BitVec 32)} {p q:Nat} {x:BitVec 32} (h:p<fs.length):(fs.set p x).getD q 0#32=if q=p then x else fs.getD q 0#32:=by
 simp only [List.getD,List.getElem?_set]
 by_cases e:p=q
 ·subst e;simp [h]
 ·rw [if_neg e,if_neg (fun h=>e h.symm)]
theorem p7 {b:BitVec 32}: ∀ {l:List Nat} {fs:List (BitVec 32)} {p q:Nat},(∀j∈l,j<fs.length)->(((jK b l fs).getD p 0#32).getLsbD q=true↔(fs.getD p 0#32).getLsbD q=true∨(p∈l∧b.getLsbD q=true))
 | [],fs,p,q,_=>by simp [jK]
 | j :: l,fs,p,q,hl=>by
  have hj:j<fs.length:=hl j (by simp);rw [jK,R8, <- jK,p7 (fun k hk=>by rw [B5,List.length_set];exact hl k (by simp [hk])),B5,nf hj,List.mem_cons]
  by_cases e:p=j
  ·subst e;simp only [if_true,Th,RJ,true_or,true_and]
   constructor
   ·rintro ((h|h)|⟨_,h⟩)
    ·exact .inl h
    ·exact .inr h
    ·exact .inr h
   ·rintro (h|h)
    ·exact .inl (.inl h)
    ·exact .inl (.inr h)
  ·rw [if_neg e];simp [e]
structure I7 (x:Ex) (st:cg) (r:cg×BitVec 32×BitVec 32):Prop where
 ai:r.1.ai=st.ai++cu x
 len:r.1.fs.length=25
 la:r.1.la=st.la
 em:r.1.em=st.em
 fst: ∀p,r.2.1.getLsbD p=true↔AX x st.ai.length p
 yP: ∀p,r.2.2.getLsbD p=true↔AZ x st.ai.length p
 BL: ∀p q,(r.1.fs.getD p 0#32).getLsbD q=true↔(st.fs.getD p 0#32).getLsbD q=true∨CY x st.ai.length p q
structure NI (l:List Ex) (r R:FU):Prop where
 ai:R.st.ai=r.st.ai++bt l
 len:R.st.fs.length=25
 la:R.st.la=r.st.la
 em:R.st.em=r.st.em
 op:R.op=(r.op&&ez l)
 fst: ∀p,R.first.getLsbD p=true↔r.first.getLsbD p=true∨(r.op=true∧oU l r.st.ai.length p)
 yP: ∀p,R.ends.getLsbD p=true↔(ez l=true∧r.ends.getLsbD p=true)∨xY l r.st.ai.length p
 BL: ∀p q,(R.st.fs.getD p 0#32).getLsbD q=true↔(r.st.fs.getD p 0#32).getLsbD q=true∨xW l r.st.ai.length p q∨(r.ends.getLsbD p=true∧oU l r.st.ai.length q)
structure NB (l:List Ex) (r R:cg×BitVec 32×BitVec 32):Prop where
 ai:R.1.ai=r.1.ai++bt l
 len:R.1.fs.length=25
 la:R.1.la=r.1.la
 em:R.1.em=r.1.em
 fst: ∀p,R.2.1.getLsbD p=true↔r.2.1.getLsbD p=true∨lS l r.1.ai.length p
 yP: ∀p,R.2.2.getLsbD p=true↔r.2.2.getLsbD p=true∨lT l r.1.ai.length p
 BL: ∀p q,(R.1.fs.getD p 0#32).getLsbD q=true↔(r.1.fs.getD p 0#32).getLsbD q=true∨xV l r.1.ai.length p q
theorem pd: ∀(l:List Ex) (r:FU),(∀x∈l, ∀st,st.fs.length=25->st.ai.length+(cu x).length<=24->I7 x st (lX x st))->r.st.fs.length=25->(∀p∈ay r.ends,p<25)->r.st.ai.length+(bt l).length<=24->NI l r (fG l r)
 | [],r,_,hf,he,hb=>by
  rw [fG];exact ⟨by simp [bt],hf,rfl,rfl,by simp [ez],fun p=>by simp [oU],fun p=>by simp [xY,ez],fun p q=>by simp [xW,oU]⟩
 | x :: xs,r,hx,hf,he,hb=>by
  rw [bt,List.length_append] at hb;have B:=hx x (by simp) r.st hf (by omega);generalize hbx:lX x r.st=b at B
  have hlen:(r.st.ai++cu x).length=r.st.ai.length+(cu x).length:=by simp
  have hends: ∀p∈ay ((cI x b r).ends),p<25:=fun p hp=>by
   have:=cq.1 hp
   simp only [cI] at this;rw [Th,RJ,B.yP] at this
   rcases this with h|h
   ·split at h
    ·exact he p (cq.2 h)
    ·simp at h
   ·have:=kz x h;omega
  have S:=pd xs (cI x b r) (fun y hy=>hx y (by simp [hy])) (by simp only [cI,mg];exact B.len) hends (by simp only [cI,B.ai,hlen];omega)
  have hfol: ∀p q,((cI x b r).st.fs.getD p 0#32).getLsbD q=true↔((r.st.fs.getD p 0#32).getLsbD q=true∨CY x r.st.ai.length p q)∨(r.ends.getLsbD p=true∧AX x r.st.ai.length q):=fun p q=>by
   show ((jK _ _ _).getD p 0#32).getLsbD q=true↔_;rw [p7 (fun j hj=>by rw [B.len];exact he j hj),B.BL,B.fst,cq]
  have hl2:(cI x b r).st.ai.length=r.st.ai.length+(cu x).length:=by simp only [cI,B.ai,hlen]
  have hE: ∀p,(cI x b r).ends.getLsbD p=true↔(b9 x=true∧r.ends.getLsbD p=true)∨AZ x r.st.ai.length p:=fun p=>by
   simp only [cI];rw [Th,RJ,B.yP];cases b9 x<;>simp
  have hF: ∀p,(cI x b r).first.getLsbD p=true↔r.first.getLsbD p=true∨(r.op=true∧AX x r.st.ai.length p):=fun p=>by
   simp only [cI]
   cases r.op
   ·simp
   ·simp only [if_true,Th,RJ,B.fst,true_and]
  have hO:(cI x b r).op=(r.op&&b9 x):=by simp only [cI];cases r.op<;>cases b9 x<;>rfl
  rw [fG,hbx]
  refine ⟨?_,S.len, ?_, ?_, ?_,fun p=> ?_,fun p=> ?_,fun p q=> ?_⟩
  ·rw [S.ai];simp only [cI];rw [B.ai,bt,Q6]
  ·rw [S.la];exact B.la
  ·rw [S.em];exact B.em
  ·rw [S.op,hO,ez,Bool.and_assoc]
  ·rw [S.fst,hF,hO,hl2,oU];grind
  ·rw [S.yP,hE,hl2,xY,ez];grind
  ·rw [S.BL,hfol,hE,hl2,oU,xW];grind
theorem pc: ∀(l:List Ex) (r:cg×BitVec 32×BitVec 32),(∀x∈l, ∀st,st.fs.length=25->st.ai.length+(cu x).length<=24->I7 x st (lX x st))->r.1.fs.length=25->r.1.ai.length+(bt l).length<=24->NB l r (eJ l r)
 | [],r,_,hf,hb=>by
  rw [eJ];exact ⟨by simp [bt],hf,rfl,rfl,fun p=>by simp [lS],fun p=>by simp [lT],fun p q=>by simp [xV]⟩
 | x :: xs,r,hx,hf,hb=>by
  rw [bt,List.length_append] at hb;have B:=hx x (by simp) r.1 hf (by omega);rw [eJ];generalize lX x r.1=b at B ⊢
  have hlen:b.1.ai.length=r.1.ai.length+(cu x).length:=by rw [B.ai];simp
  have A:=pc xs (b.1,r.2.1 ||| b.2.1,r.2.2 ||| b.2.2) (fun y hy=>hx y (by simp [hy])) B.len (by rw [hlen];omega)
  refine ⟨?_,A.len, ?_, ?_,fun p=> ?_,fun p=> ?_,fun p q=> ?_⟩
  ·rw [A.ai,B.ai,bt,Q6]
  ·rw [A.la];exact B.la
  ·rw [A.em];exact B.em
  ·rw [A.fst,hlen,lS,Th,RJ,B.fst];grind
  ·rw [A.yP,hlen,lT,Th,RJ,B.yP];grind
  ·rw [A.BL,hlen,xV,B.BL];grind
theorem lY (x:Ex): ∀st:cg,st.fs.length=25->st.ai.length+(cu x).length<=24->I7 x st (lX x st):=by
 induction x using Ex.ind with
 | h k s l ih=>
  intro st hf hb
  by_cases h1:k=1
  ·subst h1
   have hl:cu (.mk 1 s l)=[s]:=by rw [cu,if_pos rfl]
   rw [hl] at hb;simp only [List.length_singleton] at hb
   have hp: ∀p,(ofM ((st.ai.length+1:Nat):Int)).getLsbD p=true↔p=st.ai.length+1:=fun p=>by
    rw [Ag,decide_eq_true_eq];omega
   rw [lX,if_pos rfl];exact ⟨by rw [hl],hf,rfl,rfl,fun p=>by rw [AX,if_pos rfl];exact hp p,fun p=>by rw [AZ,if_pos rfl];exact hp p,fun p q=>by rw [CY,if_pos rfl,or_false]⟩
  ·rw [fR h1] at hb;rw [lX,if_neg h1]
   by_cases h2:k=2
   ·subst h2;rw [if_pos rfl];have S:=pd l ⟨st,true,0#32,0#32⟩ ih hf (by rw [ji];intro p hp;cases hp) hb
    refine ⟨by rw [fR h1];exact S.ai,S.len,S.la,S.em,fun p=> ?_,fun p=> ?_,fun p q=> ?_⟩
    ·rw [AX,if_neg h1,if_pos rfl,S.fst];simp
    ·rw [AZ,if_neg h1,if_pos rfl,S.yP];simp
    ·rw [CY,if_neg h1,if_pos rfl,S.BL];simp
   ·rw [if_neg h2];have A:=pc l (st,0#32,0#32) ih hf hb
    have hF: ∀p,AX (.mk k s l) st.ai.length p↔lS l st.ai.length p:=fun p=>by rw [AX,if_neg h1,if_neg h2]
    have hL: ∀p,AZ (.mk k s l) st.ai.length p↔lT l st.ai.length p:=fun p=>by rw [AZ,if_neg h1,if_neg h2]
    have aF: ∀p,(eJ l (st,0#32,0#32)).2.1.getLsbD p=true↔lS l st.ai.length p:=fun p=>by rw [A.fst];simp
    have aL: ∀p,(eJ l (st,0#32,0#32)).2.2.getLsbD p=true↔lT l st.ai.length p:=fun p=>by rw [A.yP];simp
    by_cases h4:k=4∨k=5
    ·rw [if_pos h4];refine ⟨by rw [fR h1];exact A.ai,by rw [mg];exact A.len,A.la,A.em,fun p=>by rw [hF,aF],fun p=>by rw [hL,aL],fun p q=> ?_⟩;show ((jK _ _ _).getD p 0#32).getLsbD q=true↔_
     rw [p7 (fun j hj=>by
      have:=gS ((aL j).1 (cq.1 hj))
      rw [A.len];omega),A.BL,aF,cq,aL,CY,if_neg h1,if_neg h2]
     grind
    ·rw [if_neg h4];refine ⟨by rw [fR h1];exact A.ai,A.len,A.la,A.em,fun p=>by rw [hF,aF],fun p=>by rw [hL,aL],fun p q=> ?_⟩;rw [A.BL,CY,if_neg h1,if_neg h2]
     grind
end
theorem sL (f:Nat->Nat) (l:List ByteArray):bR f (l.map encS)=l.map encS:=by
 induction l with
 | nil=>rfl
 | cons x l ih=>simp only [Tc,bR,ih];rfl
theorem cg.Fj (s:cg) (n:Nat):s.os.map (fun x=>some (x.map (aa.bl (sig [0,1] n))))=s.os.map some:=by
 simp only [cg.os,cg.row,aP,Tc,Ti,Option.map_some,aa.bl,bR,bQ,AV.bl,uA,sL]
 rfl
theorem ae.Kl {P:Program} {f:FuncId} {args:List AV} {s s':cg} {tl:List (Option aa)} {r0:AV} {K:AV->List (Option aa)->Prop} (h:bG P f args s.os r0 s'.os) (hargs:bQ (sig [0,1] (tl.length+2)) args=args) (hwa:bw 2 args=true) (hr:r0.bl (sig [0,1] (tl.length+2))=r0)
  (k:K r0 (s'.os++tl)):ae P f args (s.os++tl) K:=by
 have hn:(s.os++tl).length=tl.length+2:=by simp [cg.os]
 refine ae.fr [0,1] h (by decide) ?_ ?_ hwa ?_ ?_
 ·rw [cg.Fj];simp [cg.os]
 ·rw [hn,hargs]
 ·intro i ob hi
  match i,hi with
  | 0,hi=>cases hi;simp only [cg.row,aP,dz,bw,AV.wf,zB];rfl
  | 1,hi=>cases hi;exact bA _ (fun _=>rfl) _
  | i+2,hi=>simp [cg.os] at hi
 ·rw [hn,hr]
  have e:ig (sig [0,1] (tl.length+2)) [0,1] s'.os (s.os++tl)=s'.os++tl:=by
   have h:=s'.Fj (tl.length+2);simp only [cg.os,Tc,Ti,List.cons.injEq,Option.some.injEq,and_true] at h;simp only [cg.os,ig,h.1,h.2,SB,SA,List.set_cons_zero,List.set_cons_succ,Ti,List.append_nil]
  rw [e];exact k
def Dq (x:Ex):Prop:= ∀st:cg,st.fs.length=25->st.ai.length+(cu x).length<=24 ->
 bG Tryz.prog 146 [.ptr 0 0 28 0 0, .agg (bn x)] st.os (.agg [aP (lX x st).2.1,aP (lX x st).2.2]) (lX x st).1.os
theorem ni: ∀(l m:List Ex),bt (l++m)=bt l++bt m
 | [],m=>by simp [bt]
 | x :: l,m=>by simp only [SB,bt,ni l m,List.append_assoc]
structure KP (l:List Ex) (r:FU) (k:Nat) (S:FU):Prop where
 len:S.st.fs.length=25
 ends: ∀p∈ay S.ends,p<25
 ai: ∀h:k<l.length,S.st.ai.length+(cu l[k]).length<=24
theorem JQ {l:List Ex} {st:cg} (hf:st.fs.length=25) (hb:st.ai.length+(bt l).length<=24) (k:Nat):KP l ⟨st,true,0#32,0#32⟩ k (fG (l.take k) ⟨st,true,0#32,0#32⟩):=by
 have e:bt l=bt (l.take k)++bt (l.drop k):=by rw [<-ni,Tj]
 rw [e,QH] at hb;have S:=pd (l.take k) ⟨st,true,0#32,0#32⟩ (fun x _=>lY x) hf (by rw [ji];intro p hp;cases hp) (by show st.ai.length+(bt (l.take k)).length<=24;omega)
 refine ⟨S.len,fun p hp=> ?_,fun h=> ?_⟩
 ·rcases (S.yP p).1 (cq.1 hp) with h|h
  ·simp at h
  ·have h2:p<=st.ai.length+(bt (l.take k)).length:=(gS (xZ h)).2;omega
 ·rw [S.ai,QH];rw [RT h,bt,QH] at hb;simp only;omega
theorem Bw {l:List Ex} {k:Nat} (h:k<l.length) (r:FU):fG (l.take (k+1)) r=cI l[k] (lX l[k] (fG (l.take k) r).st) (fG (l.take k) r):=by
 rw [Sf h,vu];rfl
theorem JR (l:List Ex) (hl:l.length<=24) (hk: ∀x∈l,x.ok∧aV x=true) (H: ∀x∈l,Dq x) (st:cg) (hf:st.fs.length=25) (hb:st.ai.length+(bt l).length<=24) :
  bG Tryz.prog 183 [.ptr 0 0 28 0 0, .aE 3 (l.map bn) l.length] st.os (.agg [aP (fG l ⟨st,true,0#32,0#32⟩).first,aP (fG l ⟨st,true,0#32,0#32⟩).ends]) (fG l ⟨st,true,0#32,0#32⟩).st.os:=by
 have e0:fG (l.take 0) ⟨st,true,0#32,0#32⟩=⟨st,true,0#32,0#32⟩:=rfl;have eZ:aP 0#32 = .v (.int .u32 0):=rfl;simp only [aP,cg.os,cg.row]
 (refine bG.enter Tryz.func183 rfl (by kernel_rfl) (by kernel_rfl) rfl ?_;simp only [Tryz.ntmps183,Tryz.results183,QI,QC,Nat.reduceAdd,Nat.reduceSub,SG,SH,SB,SA])
 repeat (first|(with_reducible first|refine af.up ?_|refine fun (K:AK) hK=> ?_|(refine hK _ ?_;clear hK K))|simp only [go_sem]|with_reducible refine wA ?_|clear hK K)
 refine mU (ι:=Nat) (fun k=>[(0, .ptr 0 0 28 0 0),(4, .ptr 2 0 2 0 0),(5, .v (.bool (fG (l.take k) ⟨st,true,0#32,0#32⟩).op)),(6,aP (fG (l.take k) ⟨st,true,0#32,0#32⟩).ends),(10, .aE 3 (l.map bn) l.length),(11, .v (.int .i64 l.length)),(12, .v (.int .i64 k))])
  (fun k=>(fG (l.take k) ⟨st,true,0#32,0#32⟩).st.os++[some ⟨185,2,false,[[aP (fG (l.take k) ⟨st,true,0#32,0#32⟩).first, .v (.int .u32 0)]]⟩]) (fun k=>l.length - k) (fun k=>k<=l.length) 0 (by omega) ?_ ?_
 ·simp only [e0,aP,cg.os,cg.row,SB,SA]
  (refine aj ?_ ?_ ?_<;>simp only [aT,R8,Sb,SG,SH,bj,bg,AV.v.injEq,Value.int.injEq,Value.bool.injEq,Value.string.injEq,AV.vec.injEq,AV.ptr.injEq,true_or,or_true,false_or,or_false,aa.mk.injEq,forall_eq_apply_imp_iff,forall_eq,forall_eq',go_sem])
  ·exact ⟨rfl,rfl⟩
  ·rfl
 ·intro k hkl K hK;have A:=JQ hf hb k;generalize hS:fG (l.take k) ⟨st,true,0#32,0#32⟩=S at A ⊢;simp only [aP,cg.os,cg.row,SB,SA];simp only [aT,R8,Sb,SG,SH,go_sem]
  repeat (first|(with_reducible first|refine af.up ?_|refine fun (K:AK) hK=> ?_|(refine hK _ ?_;clear hK K))|simp only [go_sem]|with_reducible refine wA ?_|clear hK K)
  refine cQ.part (fun h=> ?_) (fun h=> ?_)
  ·have hlt:k<l.length:=by (try simp only [bne_iff_ne,ne_eq,bne_eq_false_iff_eq,beq_iff_eq,beq_eq_false_iff_ne,decide_eq_true_eq,decide_eq_false_iff_not,SI,Int.natCast_inj,SK,Int.ofNat_le] at h);omega
   have eG:=getD_map bn l k [] hlt;have eW:=aM (k:=k) (by omega);have C1:=H l[k] (Su hlt) S.st A.len (A.ai hlt);have B:=lY l[k] S.st A.len (A.ai hlt);have hx:=hk l[k] (Su hlt);have C3:=zH l[k] hx.1;rw [jV,hx.2,R3] at C3
   have hNext:fG (l.take (k+1)) ⟨st,true,0#32,0#32⟩=cI l[k] (lX l[k] S.st) S:=by rw [Bw hlt,hS]
   generalize l[k]=x at *;generalize lX x S.st=b at *;have C2:=EH b.1 S.ends b.2.1 B.len A.ends;simp only [bE] at eG C1 C3;simp only [aP] at C1 C2
   have wE:bw 2 [.ptr 0 0 28 0 0, .agg [.v (.int .i64 x.kind), .v (.string x.label), .aE 3 (x.kids.map bn) x.kids.length]]=true:=by simp only [bw,AV.wf,dJ,SE,R3];rfl
   have rE: ∀f:Nat->Nat,f 0=0->bQ f [.ptr 0 0 28 0 0, .agg [.v (.int .i64 x.kind), .v (.string x.label), .aE 3 (x.kids.map bn) x.kids.length]]=[.ptr 0 0 28 0 0, .agg [.v (.int .i64 x.kind), .v (.string x.label), .aE 3 (x.kids.map bn) x.kids.length]]:=fun f hf=>by
    simp only [bQ,AV.bl,hf,bN f _ (dJ 0 x.kids)]
   repeat (first|(with_reducible first|refine af.up ?_|refine fun (K:AK) hK=> ?_|(refine hK _ ?_;clear hK K))|simp only [go_sem,eG]|with_reducible refine wA ?_|clear hK K)
   refine ae.Kl C1 (rE _ rfl) wE rfl ?_;simp only [cg.os,cg.row,aP,SB,SA];obtain ⟨sS,op,en,fi⟩:=S;simp only at *
   repeat (first|(with_reducible first|refine af.up ?_|refine fun (K:AK) hK=> ?_|(refine hK _ ?_;clear hK K))|simp only [go_sem]|with_reducible refine wA ?_|clear hK K)
   refine ae.Kl C2 rfl rfl rfl ?_;simp only [cg.os,cg.row,aP,SB,SA];cases op<;>cases hem:b9 x
   all_goals
    rw [hem] at C3
    repeat (first|(with_reducible first|refine af.up ?_|refine fun (K:AK) hK=> ?_|(refine hK _ ?_;clear hK K))|simp only [go_sem,js]|with_reducible refine wA ?_|clear hK K)
    refine ae.one C3 ?_
    repeat (first|(with_reducible first|refine af.up ?_|refine fun (K:AK) hK=> ?_|(refine hK _ ?_;clear hK K))|simp only [go_sem,js]|with_reducible refine wA ?_|clear hK K)
    refine aQ.mk (k+1) (by omega) (by omega) ?_;rw [hNext];simp only [cI,hem,cg.os,cg.row,aP,SB,SA,if_true,if_false,Bool.false_eq_true]
    (refine aj ?_ ?_ ?_<;>simp only [aT,R8,Sb,SG,SH,bj,bg,AV.v.injEq,Value.int.injEq,Value.bool.injEq,Value.string.injEq,AV.vec.injEq,AV.ptr.injEq,true_or,or_true,false_or,or_false,aa.mk.injEq,forall_eq_apply_imp_iff,forall_eq,forall_eq',go_sem])
    all_goals first|exact eW|exact ⟨js 0#32 _,eW⟩|exact ⟨js _ _,eW⟩
  ·have hkl':k=l.length:=by (try simp only [bne_iff_ne,ne_eq,bne_eq_false_iff_eq,beq_iff_eq,beq_eq_false_iff_ne,decide_eq_true_eq,decide_eq_false_iff_not,SI,Int.natCast_inj,SK,Int.ofNat_le] at h);omega
   have eT:fG l ⟨st,true,0#32,0#32⟩=S:=by rw [<-hS,hkl',List.take_length]
   repeat (first|(with_reducible first|refine af.up ?_|refine fun (K:AK) hK=> ?_|(refine hK _ ?_;clear hK K))|simp only [go_sem]|with_reducible refine wA ?_|clear hK K)
   (refine ⟨?_, ?_, ?_⟩<;>simp only [bj,bg,AV.v.injEq,Value.int.injEq,Value.bool.injEq,Value.string.injEq,AV.vec.injEq,AV.ptr.injEq,true_or,or_true,false_or,or_false,aa.mk.injEq,forall_eq_apply_imp_iff,forall_eq,forall_eq',go_sem])
   ·rw [eT]
   ·rw [eT];exact ⟨rfl,rfl⟩
theorem Bv {l:List Ex} {k:Nat} (h:k<l.length) (r:cg×BitVec 32×BitVec 32):eJ (l.take (k+1)) r=((lX l[k] (eJ (l.take k) r).1).1,(eJ (l.take k) r).2.1 ||| (lX l[k] (eJ (l.take k) r).1).2.1,(eJ (l.take k) r).2.2 ||| (lX l[k] (eJ (l.take k) r).1).2.2):=by
 rw [Sf h,vt];rfl
structure KI (l:List Ex) (k:Nat) (S:cg×BitVec 32×BitVec 32):Prop where
 len:S.1.fs.length=25
 yP: ∀p∈ay S.2.2,p<25
 ai: ∀h:k<l.length,S.1.ai.length+(cu l[k]).length<=24
theorem Jf {l:List Ex} {st:cg} (hf:st.fs.length=25) (hb:st.ai.length+(bt l).length<=24) (k:Nat):KI l k (eJ (l.take k) (st,0#32,0#32)):=by
 have e:bt l=bt (l.take k)++bt (l.drop k):=by rw [<-ni,Tj]
 rw [e,QH] at hb;have S:=pc (l.take k) (st,0#32,0#32) (fun x _=>lY x) hf (by show st.ai.length+(bt (l.take k)).length<=24;omega)
 refine ⟨S.len,fun p hp=> ?_,fun h=> ?_⟩
 ·rcases (S.yP p).1 (cq.1 hp) with h|h
  ·simp at h
  ·have h2:p<=st.ai.length+(bt (l.take k)).length:=(gS h).2;omega
 ·rw [S.ai,QH];rw [RT h,bt,QH] at hb;simp only;omega
theorem zl {k:Int} {s:ByteArray} {l:List Ex} (h:aV (.mk k s l)=true): ∀x∈l,aV x=true:=fun x hx=>by
 simp only [aV,Bool.and_eq_true,decide_eq_true_eq,List.all_eq_true] at h ⊢
 have hs: ∀y,y∈aA x->y∈aA (.mk k s l):=fun y hy=>by
  rw [aA,bZ];exact List.mem_cons_of_mem _ (List.mem_flatMap.2 ⟨x,hx,hy⟩)
 refine ⟨?_,fun y hy=>h.2 y (hs y hy)⟩
 have:=nr (.mk k s l) x (hs x (by obtain ⟨k',s',l'⟩:=x;rw [aA];exact List.mem_cons_self))
 omega
theorem Ai: ∀ {l:List Ex},nR l-> ∀x∈l,x.ok
 | [],_,x,hx=>by cases hx
 | y :: l,h,x,hx=>by
  rw [nR] at h
  rcases List.mem_cons.1 hx with rfl|hx
  ·exact h.1
  ·exact Ai h.2 x hx
theorem JE (x:Ex) (ho:x.ok) (hr:aV x=true):Dq x:=by
 induction x using Ex.ind with
 | h k s l ih=>
  intro st hf hb;have hkid: ∀x∈l,x.ok∧aV x=true:=fun x hx=>⟨Ai (by rw [Ex.ok] at ho;exact ho.2) x hx,zl hr x hx⟩;have H: ∀x∈l,Dq x:=fun x hx=>ih x hx (hkid x hx).1 (hkid x hx).2
  have hl:l.length<=24:=by
   simp only [aV,Bool.and_eq_true,decide_eq_true_eq] at hr
   have:=tQ (.mk k s l);simp only [Ex.kids] at this;omega
  by_cases h1:k=1
  ·subst h1;rw [cu,if_pos rfl] at hb;simp only [List.length_singleton] at hb;have C:=JA ((st.ai.length+1:Nat):Int)
   have eL:(st.ai++[s]).map encS=st.ai.map encS++[[.v (.string s)]]:=by simp [encS]
   have eN:(st.ai++[s]).length=st.ai.length+1:=by simp
   rw [lX,if_pos rfl];simp only [bE,Ex.kind,Ex.label,Ex.kids,aP,cg.os,cg.row,eL,eN] at C ⊢
   (refine bG.enter Tryz.func146 rfl (by kernel_rfl) (by kernel_rfl) rfl ?_;simp only [Tryz.ntmps146,Tryz.results146,QI,QC,Nat.reduceAdd,Nat.reduceSub,SG,SH,SB,SA])
   repeat ((fail_if_success (with_reducible refine br (i:=3) ?_));first|(with_reducible first|refine af.up ?_|refine fun (K:AK) hK=> ?_|refine ag (by decide) ?_|refine aw (by decide) ?_|(refine hK _ ?_;clear hK K))|simp only [go_sem,Go.undef]|with_reducible refine wA ?_|(refine aI rfl ?_)|(refine aC rfl ?_)|clear hK K)
   refine dU [8,11] [] (by decide+kernel) (by kernel_rfl) ?_
   repeat (first|(with_reducible first|refine af.up ?_|refine fun (K:AK) hK=> ?_|refine ag (by decide) ?_|refine aw (by decide) ?_|(refine hK _ ?_;clear hK K))|simp only [go_sem]|with_reducible refine wA ?_|(refine aI rfl ?_)|(refine aC rfl ?_)|clear hK K)
   refine ae.one C ?_
   repeat (first|(with_reducible first|refine af.up ?_|refine fun (K:AK) hK=> ?_|refine ag (by decide) ?_|refine aw (by decide) ?_|(refine hK _ ?_;clear hK K))|simp only [go_sem]|with_reducible refine wA ?_|(refine aI rfl ?_)|(refine aC rfl ?_)|clear hK K)
   (refine ⟨?_, ?_, ?_⟩<;>simp only [bj,bg,AV.v.injEq,Value.int.injEq,Value.bool.injEq,Value.string.injEq,AV.vec.injEq,AV.ptr.injEq,true_or,or_true,false_or,or_false,aa.mk.injEq,forall_eq_apply_imp_iff,forall_eq,forall_eq',go_sem])
  ·have f1:(k==1)=false:=beq_false_of_ne h1;rw [fR h1] at hb;rw [lX,if_neg h1]
   have wE:bw 2 [.ptr 0 0 28 0 0, .aE 3 (l.map bn) l.length]=true:=by simp only [bw,AV.wf,dJ,SE,R3];rfl
   have rE: ∀f:Nat->Nat,f 0=0->bQ f [.ptr 0 0 28 0 0, .aE 3 (l.map bn) l.length]=[.ptr 0 0 28 0 0, .aE 3 (l.map bn) l.length]:=fun f hf=>by
    simp only [bQ,AV.bl,hf,bN f _ (dJ 0 l)]
   by_cases h2:k=2
   ·subst h2;have C:=JR l hl hkid H st hf hb;rw [if_pos rfl];generalize fG l ⟨st,true,0#32,0#32⟩=R at *;simp only [bE,Ex.kind,Ex.label,Ex.kids,aP] at C ⊢
    (refine bG.enter Tryz.func146 rfl (by kernel_rfl) (by kernel_rfl) rfl ?_;simp only [Tryz.ntmps146,Tryz.results146,QI,QC,Nat.reduceAdd,Nat.reduceSub,SG,SH,SB,SA])
    repeat ((fail_if_success (with_reducible refine br (i:=3) ?_));first|(with_reducible first|refine af.up ?_|refine fun (K:AK) hK=> ?_|refine ag (by decide) ?_|refine aw (by decide) ?_|(refine hK _ ?_;clear hK K))|simp only [go_sem,f1,cg.os,cg.row,aP]|with_reducible refine wA ?_|(refine aI rfl ?_)|(refine aC rfl ?_)|clear hK K)
    refine ae.Kl C (rE _ rfl) wE rfl ?_;simp only [cg.os,cg.row,aP,SB,SA]
    repeat (first|(with_reducible first|refine af.up ?_|refine fun (K:AK) hK=> ?_|refine ag (by decide) ?_|refine aw (by decide) ?_|(refine hK _ ?_;clear hK K))|simp only [go_sem]|with_reducible refine wA ?_|(refine aI rfl ?_)|(refine aC rfl ?_)|clear hK K)
    (refine ⟨?_, ?_, ?_⟩<;>simp only [bj,bg,AV.v.injEq,Value.int.injEq,Value.bool.injEq,Value.string.injEq,AV.vec.injEq,AV.ptr.injEq,true_or,or_true,false_or,or_false,aa.mk.injEq,forall_eq_apply_imp_iff,forall_eq,forall_eq',go_sem])
   ·have f2:(k==2)=false:=beq_false_of_ne h2;rw [if_neg h2];have e0:eJ (l.take 0) (st,0#32,0#32)=(st,0#32,0#32):=rfl;simp only [bE,Ex.kind,Ex.label,Ex.kids,aP]
    (refine bG.enter Tryz.func146 rfl (by kernel_rfl) (by kernel_rfl) rfl ?_;simp only [Tryz.ntmps146,Tryz.results146,QI,QC,Nat.reduceAdd,Nat.reduceSub,SG,SH,SB,SA])
    repeat ((fail_if_success (with_reducible refine br (i:=3) ?_));first|(with_reducible first|refine af.up ?_|refine fun (K:AK) hK=> ?_|refine ag (by decide) ?_|refine aw (by decide) ?_|(refine hK _ ?_;clear hK K))|simp only [go_sem,f1,f2,cg.os,cg.row,aP]|with_reducible refine wA ?_|(refine aI rfl ?_)|(refine aC rfl ?_)|clear hK K)
    refine mU (ι:=Nat) (fun j=>[(0, .ptr 0 0 28 0 0),(3, .ptr 2 0 3 0 0),(4, .ptr 3 0 2 0 0),(40, .aE 3 (l.map bn) l.length),(41, .v (.int .i64 l.length)),(42, .v (.int .i64 j))])
     (fun j=>(eJ (l.take j) (st,0#32,0#32)).1.os++[some ⟨38,3,false,[[.v (.int .i64 k), .v (.string s), .aE 3 (l.map bn) l.length]]⟩,some ⟨185,2,false,[[aP (eJ (l.take j) (st,0#32,0#32)).2.1,aP (eJ (l.take j) (st,0#32,0#32)).2.2]]⟩]) (fun j=>l.length - j) (fun j=>j<=l.length) 0 (by omega) ?_ ?_
    ·simp only [e0,aP,cg.os,cg.row,SB,SA]
     (refine aj ?_ ?_ ?_<;>simp only [aT,R8,Sb,SG,SH,bj,bg,AV.v.injEq,Value.int.injEq,Value.bool.injEq,Value.string.injEq,AV.vec.injEq,AV.ptr.injEq,true_or,or_true,false_or,or_false,aa.mk.injEq,forall_eq_apply_imp_iff,forall_eq,forall_eq',go_sem])
     all_goals first|rfl|exact ⟨rfl,rfl⟩
    ·intro j hjl K hK;have A:=Jf hf hb j;generalize hS:eJ (l.take j) (st,0#32,0#32)=S at A ⊢;simp only [aP,cg.os,cg.row,SB,SA];simp only [aT,R8,Sb,SG,SH,go_sem]
     repeat (first|(with_reducible first|refine af.up ?_|refine fun (K:AK) hK=> ?_|refine ag (by decide) ?_|refine aw (by decide) ?_|(refine hK _ ?_;clear hK K))|simp only [go_sem]|with_reducible refine wA ?_|(refine aI rfl ?_)|(refine aC rfl ?_)|clear hK K)
     refine cQ.part (fun h=> ?_) (fun h=> ?_)
     ·have hlt:j<l.length:=by (try simp only [decide_eq_true_eq,decide_eq_false_iff_not,SK] at h);omega
      have eG:=getD_map bn l j [] hlt;have eW:=aM (k:=j) (by omega);have C1:=H l[j] (Su hlt) S.1 A.len (A.ai hlt);have hNext:=Bv hlt (st,0#32,0#32);rw [hS] at hNext;generalize l[j]=x at *;generalize lX x S.1=b at *;simp only [bE] at eG C1;simp only [aP] at C1
      have wX:bw 2 [.ptr 0 0 28 0 0, .agg [.v (.int .i64 x.kind), .v (.string x.label), .aE 3 (x.kids.map bn) x.kids.length]]=true:=by simp only [bw,AV.wf,dJ,SE,R3];rfl
      have rX: ∀f:Nat->Nat,f 0=0->bQ f [.ptr 0 0 28 0 0, .agg [.v (.int .i64 x.kind), .v (.string x.label), .aE 3 (x.kids.map bn) x.kids.length]]=[.ptr 0 0 28 0 0, .agg [.v (.int .i64 x.kind), .v (.string x.label), .aE 3 (x.kids.map bn) x.kids.length]]:=fun f hf=>by
       simp only [bQ,AV.bl,hf,bN f _ (dJ 0 x.kids)]
      obtain ⟨sS,fi,la⟩:=S;simp only at *
      repeat (first|(with_reducible first|refine af.up ?_|refine fun (K:AK) hK=> ?_|refine ag (by decide) ?_|refine aw (by decide) ?_|(refine hK _ ?_;clear hK K))|simp only [go_sem,eG]|with_reducible refine wA ?_|(refine aI rfl ?_)|(refine aC rfl ?_)|clear hK K)
      refine ae.Kl C1 (rX _ rfl) wX rfl ?_;simp only [cg.os,cg.row,aP,SB,SA]
      repeat ((fail_if_success (with_reducible refine br (i:=12) ?_));first|(with_reducible first|refine af.up ?_|refine fun (K:AK) hK=> ?_|refine ag (by decide) ?_|refine aw (by decide) ?_|(refine hK _ ?_;clear hK K))|simp only [go_sem,js]|with_reducible refine wA ?_|(refine aI rfl ?_)|(refine aC rfl ?_)|clear hK K)
      refine dU [11,13] [(8,1000)] (by decide+kernel) (by kernel_rfl) ?_
      repeat (first|(with_reducible first|refine af.up ?_|refine fun (K:AK) hK=> ?_|refine ag (by decide) ?_|refine aw (by decide) ?_|(refine hK _ ?_;clear hK K))|simp only [go_sem,js]|with_reducible refine wA ?_|(refine aI rfl ?_)|(refine aC rfl ?_)|clear hK K)
      refine aQ.mk (j+1) (by omega) (by omega) ?_;rw [hNext];simp only [cg.os,cg.row,aP,SB,SA]
      (refine aj ?_ ?_ ?_<;>simp only [aT,R8,Sb,SG,SH,bj,bg,AV.v.injEq,Value.int.injEq,Value.bool.injEq,Value.string.injEq,AV.vec.injEq,AV.ptr.injEq,true_or,or_true,false_or,or_false,aa.mk.injEq,forall_eq_apply_imp_iff,forall_eq,forall_eq',go_sem])
      all_goals first|exact eW|skip
     ·have hjl':j=l.length:=by (try simp only [decide_eq_true_eq,decide_eq_false_iff_not,SK] at h);omega
      have eT:eJ l (st,0#32,0#32)=S:=by rw [<-hS,hjl',List.take_length]
      have C:=EH S.1 S.2.2 S.2.1 A.len A.yP;obtain ⟨sS,fi,la⟩:=S;simp only at *;simp only [aP] at C
      by_cases h4:k=4
      ·subst h4
       repeat (first|(with_reducible first|refine af.up ?_|refine fun (K:AK) hK=> ?_|refine ag (by decide) ?_|refine aw (by decide) ?_|(refine hK _ ?_;clear hK K))|simp only [go_sem,Go.undef]|with_reducible refine wA ?_|(refine aI rfl ?_)|(refine aC rfl ?_)|clear hK K)
       refine ae.Kl C rfl rfl rfl ?_;simp only [cg.os,cg.row,aP,SB,SA]
       repeat (first|(with_reducible first|refine af.up ?_|refine fun (K:AK) hK=> ?_|refine ag (by decide) ?_|refine aw (by decide) ?_|(refine hK _ ?_;clear hK K))|simp only [go_sem]|with_reducible refine wA ?_|(refine aI rfl ?_)|(refine aC rfl ?_)|clear hK K)
       rw [eT];simp only [true_or,if_true,cg.os,cg.row,aP]
       (refine ⟨?_, ?_, ?_⟩<;>simp only [bj,bg,AV.v.injEq,Value.int.injEq,Value.bool.injEq,Value.string.injEq,AV.vec.injEq,AV.ptr.injEq,true_or,or_true,false_or,or_false,aa.mk.injEq,forall_eq_apply_imp_iff,forall_eq,forall_eq',go_sem])
      ·by_cases h5:k=5
       ·subst h5
        repeat (first|(with_reducible first|refine af.up ?_|refine fun (K:AK) hK=> ?_|refine ag (by decide) ?_|refine aw (by decide) ?_|(refine hK _ ?_;clear hK K))|simp only [go_sem,Go.undef]|with_reducible refine wA ?_|(refine aI rfl ?_)|(refine aC rfl ?_)|clear hK K)
        refine ae.Kl C rfl rfl rfl ?_;simp only [cg.os,cg.row,aP,SB,SA]
        repeat (first|(with_reducible first|refine af.up ?_|refine fun (K:AK) hK=> ?_|refine ag (by decide) ?_|refine aw (by decide) ?_|(refine hK _ ?_;clear hK K))|simp only [go_sem]|with_reducible refine wA ?_|(refine aI rfl ?_)|(refine aC rfl ?_)|clear hK K)
        rw [eT];simp only [or_true,if_true,cg.os,cg.row,aP]
        (refine ⟨?_, ?_, ?_⟩<;>simp only [bj,bg,AV.v.injEq,Value.int.injEq,Value.bool.injEq,Value.string.injEq,AV.vec.injEq,AV.ptr.injEq,true_or,or_true,false_or,or_false,aa.mk.injEq,forall_eq_apply_imp_iff,forall_eq,forall_eq',go_sem])
       ·have f4:(k==4)=false:=beq_false_of_ne h4;have f5:(k==5)=false:=beq_false_of_ne h5
        repeat (first|(with_reducible first|refine af.up ?_|refine fun (K:AK) hK=> ?_|refine ag (by decide) ?_|refine aw (by decide) ?_|(refine hK _ ?_;clear hK K))|simp only [go_sem,f4,f5,Go.undef]|with_reducible refine wA ?_|(refine aI rfl ?_)|(refine aC rfl ?_)|clear hK K)
        rw [eT];simp only [h4,h5,or_self,if_false,cg.os,cg.row,aP]
        (refine ⟨?_, ?_, ?_⟩<;>simp only [bj,bg,AV.v.injEq,Value.int.injEq,Value.bool.injEq,Value.string.injEq,AV.vec.injEq,AV.ptr.injEq,true_or,or_true,false_or,or_false,aa.mk.injEq,forall_eq_apply_imp_iff,forall_eq,forall_eq',go_sem])
def gh (s:cg):List AV:= .aE 1 (s.ai.map encS) s.ai.length :: (s.fs.map aP++[aP s.la, .v (.bool s.em)])
theorem uR (n:Nat) (s:cg):bw n (gh s)=true:=by simp only [gh,aP,bw,AV.wf,zB,aD,SE]
attribute [go_sem] uR
theorem Ju (s:cg):ah Tryz.prog 193 [.vp (gh s)] (.v (.int .i64 s.ai.length)):=by
 simp only [gh,aP]
 (refine ah.enter Tryz.func193 rfl (by kernel_rfl) (by kernel_rfl) rfl (by first|rfl|(simp only [go_sem,SE,R0,R3])) (by first|rfl|(simp only [go_sem,SE,R0,R3])) ?_;simp only [Tryz.ntmps193,Tryz.results193,QI,QC,Nat.reduceAdd,Nat.reduceSub,SG,SH,SB,SA])
 repeat' (first|(with_reducible first|refine af.up ?_|refine fun (K:AK) hK=> ?_|(refine hK _ ?_;clear hK K))|simp only [go_sem]|clear hK K|(with_reducible refine ae.one (by assumption) ?_)|(with_reducible refine bc.one (by assumption) ?_)|(refine cQ.part (fun hb=> ?_) (fun hb=> ?_)<;>simp only [hb,go_sem])|(refine cQ.part (fun hb=> ?_) (fun hb=> ?_))|(with_reducible refine dZ.mk ?_ ?_))
theorem Hg (s:cg) (hf:s.fs.length=25):ah Tryz.prog 150 [.vp (gh s)] (.aE 1 (az (ay s.la)) (ay s.la).length):=by
 have C:=EI s.la
 have eD:List.drop 25 (s.fs.map aP++[.v (.int .u32 s.la.toNat), .v (.bool s.em)])=[.v (.int .u32 s.la.toNat), .v (.bool s.em)]:=by rw [List.drop_append_of_le_length (by simp [hf]),List.drop_eq_nil_of_le (by simp [hf])];rfl
 simp only [gh,aP] at *
 (refine ah.enter Tryz.func150 rfl (by kernel_rfl) (by kernel_rfl) rfl (by first|rfl|(simp only [go_sem,SE,R0,R3])) (by first|rfl|(simp only [go_sem,SE,R0,R3])) ?_;simp only [Tryz.ntmps150,Tryz.results150,QI,QC,Nat.reduceAdd,Nat.reduceSub,SG,SH,SB,SA])
 repeat (first|(with_reducible first|refine af.up ?_|refine fun (K:AK) hK=> ?_|(refine hK _ ?_;clear hK K))|simp only [go_sem,eD]|clear hK K)
 refine ae.one C ?_
 repeat (first|(with_reducible first|refine af.up ?_|refine fun (K:AK) hK=> ?_|(refine hK _ ?_;clear hK K))|simp only [go_sem]|clear hK K)
 (refine lR.of 40 rfl ?_;simp only [go_sem])
theorem EP (s:cg) (hf:s.fs.length=25):ah Tryz.prog 155 [.vp (gh s)] (.v (.bool s.em)):=by
 have eD:List.drop 26 (s.fs.map aP++[.v (.int .u32 s.la.toNat), .v (.bool s.em)])=[.v (.bool s.em)]:=by
  rw [show 26=s.fs.length+1 by omega,show (s.fs.length+1)=(s.fs.map aP).length+1 by simp,List.drop_append];simp
 simp only [gh,aP] at *
 (refine ah.enter Tryz.func155 rfl (by kernel_rfl) (by kernel_rfl) rfl (by first|rfl|(simp only [go_sem,SE,R0,R3])) (by first|rfl|(simp only [go_sem,SE,R0,R3])) ?_;simp only [Tryz.ntmps155,Tryz.results155,QI,QC,Nat.reduceAdd,Nat.reduceSub,SG,SH,SB,SA])
 repeat (first|(with_reducible first|refine af.up ?_|refine fun (K:AK) hK=> ?_|(refine hK _ ?_;clear hK K))|simp only [go_sem,eD,Go.undef]|clear hK K)
def z8 (s:cg) (p:Int):ByteArray:=if 1<=p∧p<=s.ai.length then s.ai.getD (p - 1).toNat ⟨#[]⟩ else ⟨#[]⟩
def Pm (s:cg) (p:Int):List Nat:=if 1<=p∧p<=s.ai.length then ay (s.fs.getD p.toNat 0#32) else []
theorem B2 {s:cg} {p:Int} (h1:1<=p) (h2:p<=s.ai.length):(s.ai.map encS).getD (p - 1).toNat []=[.v (.string (z8 s p))]:=by
 have hlt:(p - 1).toNat<s.ai.length:=by omega
 rw [z8,if_pos ⟨h1,h2⟩];rw [Rw,Rw,List.getElem?_map,List.getElem?_eq_getElem hlt];rfl
theorem Ek {fs:List (BitVec 32)} {X:List AV} {p:Nat} (h:p<fs.length): ∃r,(fs.map aP++X).drop (p * 1)=aP (fs.getD p 0#32) :: r:=by
 obtain ⟨r,e⟩:=zY (l:= .undef) (X:=X) h;rw [Nat.add_comm,List.drop_succ_cons] at e;exact ⟨r,e⟩
def mn (s:cg) (l:List Nat):BitVec 32:=l.foldl (fun t p=>t ||| s.fs.getD p 0#32) 0#32
def yK (s:cg) (lab:ByteArray) (t:BitVec 32) (p:Nat):BitVec 32:=if (z8 s p).toList==lab.toList then t else t &&& ~~~ ofM p
def pV (s:cg) (lab:ByteArray) (l:List Nat) (t:BitVec 32):BitVec 32:=l.foldl (yK s lab) t
def k9 (s:cg) (aT:BitVec 32) (lab:ByteArray):BitVec 32:=pV s lab (ay (mn s (ay aT))) (mn s (ay aT))
theorem Ce (s:cg) (l:List Nat) (p:Nat):mn s (l++[p])=mn s l ||| s.fs.getD p 0#32:=by rw [mn,Sg];rfl
theorem yL (s:cg) (lab:ByteArray) (l:List Nat) (t:BitVec 32) (p:Nat):pV s lab (l++[p]) t=yK s lab (pV s lab l t) p:=by rw [pV,Sg];rfl
theorem JY (s:cg) (fr:BitVec 32) (lab:ByteArray) (hf:s.fs.length=25) (hn:s.ai.length<=24) (h1: ∀p∈ay fr,p<25) (h2: ∀p∈ay (mn s (ay fr)),1<=p∧p<=s.ai.length) :
  ah Tryz.prog 194 [.vp (gh s),aP fr, .v (.string lab)] (aP (k9 s fr lab)):=by
 have A1:=mB fr;have A2:=mB (mn s (ay fr));have O:=fun p=>JA p;have hV:=uR;obtain ⟨V,hVe⟩: ∃V,V=gh s:=⟨_,rfl⟩;simp only [ly,aP] at *
 (refine ah.enter Tryz.func194 rfl (by kernel_rfl) (by kernel_rfl) rfl (by first|rfl|(simp only [go_sem,SE,R0,R3])) (by first|rfl|(simp only [go_sem,SE,R0,R3])) ?_;simp only [Tryz.ntmps194,Tryz.results194,QI,QC,Nat.reduceAdd,Nat.reduceSub,SG,SH,SB,SA])
 repeat (first|(with_reducible first|refine af.up ?_|refine fun (K:AK) hK=> ?_|refine wE ?_|refine wD ?_|refine wK ?_|refine wF ?_|refine ag (by decide) ?_|refine aw (by decide) ?_|(refine hK _ ?_;clear hK K))|simp only [go_sem]|with_reducible refine wA ?_|clear hK K)
 refine ae.fr [] A1 (by simp) ?_ ?_ ?_ ?_ ?_
 ·rfl
 ·rfl
 ·rfl
 ·intro k ob hk;simp at hk
 repeat (first|(with_reducible first|refine af.up ?_|refine fun (K:AK) hK=> ?_|refine wE ?_|refine wD ?_|refine wK ?_|refine wF ?_|refine ag (by decide) ?_|refine aw (by decide) ?_|(refine hK _ ?_;clear hK K))|simp only [go_sem]|with_reducible refine wA ?_|clear hK K)
 refine gI fr 3 (by simp only [ly,aP];rfl) 7 (fun k=>[some ⟨152,1,false,[[.vp (gh s)]]⟩,some ⟨9,1,false,[[.v (.string lab)]]⟩,some ⟨180,1,false,[[aP (mn s ((ay fr).take k))]]⟩,none]) (fun _=>True) trivial ?_ rfl ?_ (by kernel_rfl) (by kernel_rfl) rfl ?_ ?_
 ·rfl
 ·simp only [aP]
  (refine aj ?_ ?_ ?_<;>simp only [aT,R8,Sb,SG,SH,bj,bg,AV.v.injEq,Value.int.injEq,Value.bool.injEq,Value.string.injEq,AV.vec.injEq,AV.ptr.injEq,true_or,or_true,false_or,or_false,aa.mk.injEq,forall_eq_apply_imp_iff,forall_eq,forall_eq',go_sem])
  all_goals rfl
 ·intro k hk _;have hp:=h1 _ (List.getElem_mem hk);rw [Sf hk,Ce];generalize mn s ((ay fr).take k)=T at *;generalize (ay fr)[k]=p at *;obtain ⟨r,eD⟩:=Ek (X:=[.v (.int .u32 s.la.toNat), .v (.bool s.em)]) (fs:=s.fs) (p:=p) (by omega);simp only [aP,gh] at eD ⊢
  repeat (first|(with_reducible first|refine af.up ?_|refine fun (K:AK) hK=> ?_|refine wE ?_|refine wD ?_|refine wK ?_|refine wF ?_|refine ag (by decide) ?_|refine aw (by decide) ?_|(refine hK _ ?_;clear hK K))|simp only [go_sem,eD,js]|with_reducible refine wA ?_|clear hK K)
  (refine aj ?_ ?_ ?_<;>simp only [aT,R8,Sb,SG,SH,bj,bg,AV.v.injEq,Value.int.injEq,Value.bool.injEq,Value.string.injEq,AV.vec.injEq,AV.ptr.injEq,true_or,or_true,false_or,or_false,aa.mk.injEq,forall_eq_apply_imp_iff,forall_eq,forall_eq',go_sem])
 ·intro _;have e1:(ay fr).take (ay fr).length=ay fr:=List.take_length;simp only [e1,aP,gh]
  repeat (first|(with_reducible first|refine af.up ?_|refine fun (K:AK) hK=> ?_|refine wE ?_|refine wD ?_|refine wK ?_|refine wF ?_|refine ag (by decide) ?_|refine aw (by decide) ?_|(refine hK _ ?_;clear hK K))|simp only [go_sem]|with_reducible refine wA ?_|clear hK K)
  refine ae.fr [] A2 (by simp) ?_ ?_ ?_ ?_ ?_
  ·rfl
  ·rfl
  ·rfl
  ·intro k ob hk;simp at hk
  repeat (first|(with_reducible first|refine af.up ?_|refine fun (K:AK) hK=> ?_|refine wE ?_|refine wD ?_|refine wK ?_|refine wF ?_|refine ag (by decide) ?_|refine aw (by decide) ?_|(refine hK _ ?_;clear hK K))|simp only [go_sem]|with_reducible refine wA ?_|clear hK K)
  have hS:k9 s fr lab=pV s lab (ay (mn s (ay fr))) (mn s (ay fr)):=rfl;generalize mn s (ay fr)=T at *
  refine gI T 4 (by simp only [ly,aP];rfl) 7 (fun k=>[some ⟨152,1,false,[[.vp (gh s)]]⟩,some ⟨9,1,false,[[.v (.string lab)]]⟩,some ⟨180,1,false,[[aP (pV s lab ((ay T).take k) T)]]⟩,none,none]) (fun _=>True) trivial ?_ rfl ?_ (by kernel_rfl) (by kernel_rfl) rfl ?_ ?_
  ·rfl
  ·simp only [aP,gh]
   (refine aj ?_ ?_ ?_<;>simp only [aT,R8,Sb,SG,SH,bj,bg,AV.v.injEq,Value.int.injEq,Value.bool.injEq,Value.string.injEq,AV.vec.injEq,AV.ptr.injEq,true_or,or_true,false_or,or_false,aa.mk.injEq,forall_eq_apply_imp_iff,forall_eq,forall_eq',go_sem])
   all_goals rfl
  ·intro k hk _;have hp:=h2 _ (List.getElem_mem hk);rw [Sf hk,yL,yK];generalize pV s lab ((ay T).take k) T=U at *;generalize (ay T)[k]=p at *;have eG:=B2 (s:=s) (p:=p) (by omega) (by omega);have eW:IntKind.i64.wrap ((p:Int) - 1)=(p:Int) - 1:=fE (by omega) (by omega);have C:=O p;simp only [aP,gh]
   cases hq:(z8 s p).toList==lab.toList
   ·simp only [Bool.false_eq_true,if_false]
    repeat ((fail_if_success (with_reducible refine br (i:=7) ?_));first|(with_reducible first|refine af.up ?_|refine fun (K:AK) hK=> ?_|refine wK ?_|refine wF ?_|refine ag (by decide) ?_|refine aw (by decide) ?_|(refine hK _ ?_;clear hK K))|simp only [go_sem,eG,eW,hq]|with_reducible refine wA ?_|clear hK K)
    refine wD ?_
    repeat (first|(with_reducible first|refine af.up ?_|refine fun (K:AK) hK=> ?_|refine wK ?_|refine wF ?_|refine ag (by decide) ?_|refine aw (by decide) ?_|(refine hK _ ?_;clear hK K))|simp only [go_sem,eG,eW,hq]|with_reducible refine wA ?_|clear hK K)
    refine dU [4] [] (by decide+kernel) (by kernel_rfl) ?_
    repeat (first|(with_reducible first|refine af.up ?_|refine fun (K:AK) hK=> ?_|refine wK ?_|refine wF ?_|refine ag (by decide) ?_|refine aw (by decide) ?_|(refine hK _ ?_;clear hK K))|simp only [go_sem,eG,eW,hq]|with_reducible refine wA ?_|clear hK K)
    refine bc.one C ?_
    repeat (first|(with_reducible first|refine af.up ?_|refine fun (K:AK) hK=> ?_|refine wK ?_|refine wF ?_|refine ag (by decide) ?_|refine aw (by decide) ?_|(refine hK _ ?_;clear hK K))|simp only [go_sem,Hb]|with_reducible refine wA ?_|clear hK K)
    (refine aj ?_ ?_ ?_<;>simp only [aT,R8,Sb,SG,SH,bj,bg,AV.v.injEq,Value.int.injEq,Value.bool.injEq,Value.string.injEq,AV.vec.injEq,AV.ptr.injEq,true_or,or_true,false_or,or_false,aa.mk.injEq,forall_eq_apply_imp_iff,forall_eq,forall_eq',go_sem])
    all_goals rfl
   ·simp only [if_true]
    repeat (first|(with_reducible first|refine af.up ?_|refine fun (K:AK) hK=> ?_|refine wE ?_|refine wD ?_|refine wK ?_|refine wF ?_|refine ag (by decide) ?_|refine aw (by decide) ?_|(refine hK _ ?_;clear hK K))|simp only [go_sem,eG,eW,hq]|with_reducible refine wA ?_|clear hK K)
    (refine aj ?_ ?_ ?_<;>simp only [aT,R8,Sb,SG,SH,bj,bg,AV.v.injEq,Value.int.injEq,Value.bool.injEq,Value.string.injEq,AV.vec.injEq,AV.ptr.injEq,true_or,or_true,false_or,or_false,aa.mk.injEq,forall_eq_apply_imp_iff,forall_eq,forall_eq',go_sem])
    all_goals rfl
  ·intro _;have e2:(ay T).take (ay T).length=ay T:=List.take_length;simp only [e2,aP,gh]
   repeat (first|(with_reducible first|refine af.up ?_|refine fun (K:AK) hK=> ?_|refine wE ?_|refine wD ?_|refine wK ?_|refine wF ?_|refine ag (by decide) ?_|refine aw (by decide) ?_|(refine hK _ ?_;clear hK K))|simp only [go_sem]|with_reducible refine wA ?_|clear hK K)
   rw [hS]
structure Ja (s:cg):Prop where
 len:s.fs.length=25
 n:s.ai.length<=24
 BL: ∀p q,(s.fs.getD p 0#32).getLsbD q=true->1<=q∧q<=s.ai.length
 la: ∀q,s.la.getLsbD q=true->1<=q∧q<=s.ai.length
theorem pF {f:Nat->BitVec 32} {q:Nat}: ∀(l:List Nat) (t:BitVec 32),(l.foldl (fun t p=>t ||| f p) t).getLsbD q=true↔t.getLsbD q=true∨ ∃p∈l,(f p).getLsbD q=true
 | [],t=>by simp
 | x :: l,t=>by
  rw [R8,pF l,BitVec.getLsbD_or,Bool.or_eq_true];simp only [List.mem_cons,exists_eq_or_imp,or_assoc]
theorem E2 {s:cg} {l:List Nat} {q:Nat}:(mn s l).getLsbD q=true ↔ ∃p∈l,(s.fs.getD p 0#32).getLsbD q=true:=by
 rw [mn,pF];simp
theorem Ij {s:cg} (ok:Ja s) (m:BitVec 32) (lab:ByteArray) (h1: ∀p∈ay m,p<25):ah Tryz.prog 194 [.vp (gh s),aP m, .v (.string lab)] (aP (k9 s m lab)):=
 JY s m lab ok.len ok.n h1 (fun p hp=>by
  obtain ⟨q,_,h⟩:=E2.1 (cq.1 hp)
  exact ok.BL _ _ h)
def pI (s:cg) (t:BitVec 32) (p:Int):BitVec 32:=if p<=s.ai.length then t ||| ofM p else t
def jI (s:cg) (l:List Int):BitVec 32:=l.foldl (pI s) 0#32
theorem yB (s:cg) (l:List Int) (p:Int):jI s (l++[p])=pI s (jI s l) p:=by rw [jI,Sg];rfl
theorem rY {s:cg} (ok:Ja s) {q:Nat}: ∀(l:List Int) (t:BitVec 32),(l.foldl (pI s) t).getLsbD q=true↔t.getLsbD q=true∨((q:Int)∈l∧q<=s.ai.length)
 | [],t=>by simp
 | x :: l,t=>by
  have hn:=ok.n;rw [R8,rY ok l,pI,List.mem_cons]
  split
  ·rename_i h;rw [BitVec.getLsbD_or,Bool.or_eq_true,Ag,decide_eq_true_eq]
   constructor
   ·rintro ((h|h)|h)
    ·exact .inl h
    ·exact .inr ⟨.inl h.2.2,by omega⟩
    ·exact .inr ⟨.inr h.1,h.2⟩
   ·rintro (h|⟨h|h,h2⟩)
    ·exact .inl (.inl h)
    ·exact .inl (.inr ⟨by omega,by omega,h⟩)
    ·exact .inr ⟨h,h2⟩
  ·rename_i h
   constructor
   ·rintro (h|h)
    ·exact .inl h
    ·exact .inr ⟨.inr h.1,h.2⟩
   ·rintro (h|⟨h|h,h2⟩)
    ·exact .inl h
    ·exfalso;omega
    ·exact .inr ⟨h,h2⟩
theorem Ei {s:cg} (ok:Ja s) (l:List Int): ∀p∈ay (jI s l),p<25:=fun p hp=>by
 have:=(rY ok l 0#32).1 (cq.1 hp)
 have:=ok.n
 simp at *; omega
theorem Hh {s:cg} (ok:Ja s) (l:List Int) (lab:ByteArray) (hl:l.length<=1000000):ah Tryz.prog 152 [.vp (gh s), .aE 1 (l.map encI) l.length, .v (.string lab)]
  (.aE 1 (az (ay (k9 s (jI s l) lab))) (ay (k9 s (jI s l) lab)).length):=by
 have L:=Ju s;have S:=Ij ok (jI s l) lab (Ei ok l);have B:=EI (k9 s (jI s l) lab);have O:=fun p=>JA p;have eZ:aP 0#32 = .v (.int .u32 0):=rfl;generalize hR:k9 s (jI s l) lab=R at *;simp only [aP] at *
 (refine ah.enter Tryz.func152 rfl (by kernel_rfl) (by kernel_rfl) rfl (by first|rfl|(simp only [go_sem,SE,R0,R3])) (by first|rfl|(simp only [go_sem,SE,R0,R3])) ?_;simp only [Tryz.ntmps152,Tryz.results152,QI,QC,Nat.reduceAdd,Nat.reduceSub,SG,SH,SB,SA])
 repeat (first|(with_reducible first|refine af.up ?_|refine fun (K:AK) hK=> ?_|(refine hK _ ?_;clear hK K))|simp only [go_sem]|with_reducible refine wA ?_|clear hK K)
 refine mU (ι:=Nat) (fun k=>[(0, .vp (gh s)),(1, .aE 1 (l.map encI) l.length),(2, .v (.string lab)),(6, .v (.slice none 0 0)),(7,aP (jI s (l.take k))),(12, .aE 1 (l.map encI) l.length),(13, .v (.int .i64 l.length)),(14, .v (.int .i64 k))]) (fun k=>[]) (fun k=>l.length - k) (fun k=>k<=l.length) 0 (by omega) ?_ ?_
 ·simp only [aP]
  (refine aj ?_ ?_ ?_<;>simp only [aT,R8,Sb,SG,SH,bj,bg,AV.v.injEq,Value.int.injEq,Value.bool.injEq,Value.string.injEq,AV.vec.injEq,AV.ptr.injEq,true_or,or_true,false_or,or_false,aa.mk.injEq,forall_eq_apply_imp_iff,forall_eq,forall_eq',go_sem])
  exact ⟨rfl,rfl⟩
 ·intro k hkl K hK;simp only [aP];simp only [aT,R8,Sb,SG,SH,go_sem]
  repeat (first|(with_reducible first|refine af.up ?_|refine fun (K:AK) hK=> ?_|(refine hK _ ?_;clear hK K))|simp only [go_sem]|with_reducible refine wA ?_|clear hK K)
  refine cQ.part (fun h=> ?_) (fun h=> ?_)
  ·have hlt:k<l.length:=by (try simp only [bne_iff_ne,ne_eq,bne_eq_false_iff_eq,beq_iff_eq,beq_eq_false_iff_ne,decide_eq_true_eq,decide_eq_false_iff_not,SI,SJ,SK,SL] at h);omega
   have eG:=getD_map encI l k [] hlt;have eW:=aM (k:=k) (by omega);have hN:=yB s (l.take k) l[k];rw [<-Sf hlt,pI] at hN;have Ok:=O l[k];simp only [encI] at eG
   repeat (first|(with_reducible first|refine af.up ?_|refine fun (K:AK) hK=> ?_|(refine hK _ ?_;clear hK K))|simp only [go_sem,eG]|with_reducible refine wA ?_|clear hK K)
   refine ae.one L ?_
   repeat (first|(with_reducible first|refine af.up ?_|refine fun (K:AK) hK=> ?_|(refine hK _ ?_;clear hK K))|simp only [go_sem]|with_reducible refine wA ?_|clear hK K)
   refine cQ.part (fun h=> ?_) (fun h=> ?_)
   ·rw [if_pos (by (try simp only [bne_iff_ne,ne_eq,bne_eq_false_iff_eq,beq_iff_eq,beq_eq_false_iff_ne,decide_eq_true_eq,decide_eq_false_iff_not,SI,SJ,SK,SL] at h);omega)] at hN
    repeat (first|(with_reducible first|refine af.up ?_|refine fun (K:AK) hK=> ?_|(refine hK _ ?_;clear hK K))|simp only [go_sem]|with_reducible refine wA ?_|clear hK K)
    refine ae.one Ok ?_
    repeat (first|(with_reducible first|refine af.up ?_|refine fun (K:AK) hK=> ?_|(refine hK _ ?_;clear hK K))|simp only [go_sem,js]|with_reducible refine wA ?_|clear hK K)
    refine aQ.mk (k+1) (by omega) (by omega) ?_;rw [hN];simp only [aP]
    (refine aj ?_ ?_ ?_<;>simp only [aT,R8,Sb,SG,SH,bj,bg,AV.v.injEq,Value.int.injEq,Value.bool.injEq,Value.string.injEq,AV.vec.injEq,AV.ptr.injEq,true_or,or_true,false_or,or_false,aa.mk.injEq,forall_eq_apply_imp_iff,forall_eq,forall_eq',go_sem])
    all_goals first|exact eW|skip
   ·rw [if_neg (by (try simp only [bne_iff_ne,ne_eq,bne_eq_false_iff_eq,beq_iff_eq,beq_eq_false_iff_ne,decide_eq_true_eq,decide_eq_false_iff_not,SI,SJ,SK,SL] at h);omega)] at hN
    repeat (first|(with_reducible first|refine af.up ?_|refine fun (K:AK) hK=> ?_|(refine hK _ ?_;clear hK K))|simp only [go_sem]|with_reducible refine wA ?_|clear hK K)
    refine aQ.mk (k+1) (by omega) (by omega) ?_;rw [hN];simp only [aP]
    (refine aj ?_ ?_ ?_<;>simp only [aT,R8,Sb,SG,SH,bj,bg,AV.v.injEq,Value.int.injEq,Value.bool.injEq,Value.string.injEq,AV.vec.injEq,AV.ptr.injEq,true_or,or_true,false_or,or_false,aa.mk.injEq,forall_eq_apply_imp_iff,forall_eq,forall_eq',go_sem])
    all_goals first|exact eW|skip
  ·have e1:l.take k=l:=List.take_of_length_le (by (try simp only [bne_iff_ne,ne_eq,bne_eq_false_iff_eq,beq_iff_eq,beq_eq_false_iff_ne,decide_eq_true_eq,decide_eq_false_iff_not,SI,SJ,SK,SL] at h);omega);simp only [e1]
   repeat (first|(with_reducible first|refine af.up ?_|refine fun (K:AK) hK=> ?_|(refine hK _ ?_;clear hK K))|simp only [go_sem]|with_reducible refine wA ?_|clear hK K)
   refine ae.one S ?_
   repeat (first|(with_reducible first|refine af.up ?_|refine fun (K:AK) hK=> ?_|(refine hK _ ?_;clear hK K))|simp only [go_sem]|with_reducible refine wA ?_|clear hK K)
   refine ae.one B ?_
   repeat (first|(with_reducible first|refine af.up ?_|refine fun (K:AK) hK=> ?_|(refine hK _ ?_;clear hK K))|simp only [go_sem]|with_reducible refine wA ?_|clear hK K)
   (refine lR.of 40 rfl ?_;simp only [go_sem])
def runM (s:cg) (w:List ByteArray):BitVec 32:=w.foldl (k9 s) (ofM 0)
def OT (s:cg) (w:List ByteArray):Bool:=if w.length=0 then s.em else runM s w &&& s.la !=0#32
end Go.Proofs.YtjcobjgjjlahdaaGreatDoor
