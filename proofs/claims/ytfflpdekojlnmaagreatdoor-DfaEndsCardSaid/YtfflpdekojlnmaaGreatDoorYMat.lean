/- texts of one claim, one behind the other. -/
import Derived.Test.YtfflpdekojlnmaaGreatDoorYOnceC
import Derived.Test.YtfflpdekojlnmaaGreatDoorYDfaA
import Derived.Test.YtfflpdekojlnmaaGreatDoorYAbsV
import Derived.Shelf.Strconv.Itoa3
import Derived.Shelf.Strings.BuilderK
import Derived.Lib.AppendIntMem
set_option linter.unusedSimpArgs false
set_option linter.unusedVariables false
set_option maxRecDepth 100000
set_option maxHeartbeats 16000000
open BitVec renaming getLsbD_or -> Y4, getLsbD_and -> YJ
open Bool renaming or_eq_true -> X9, true_and -> Yg, and_self -> YY, false_eq_true -> Yk, and_eq_true -> XK, eq_iff_iff -> Y8, and_true -> Yb
open Classical renaming byContradiction -> Y2
open List renaming cons_append -> Y1, append_assoc -> Xp, mem_cons_of_mem -> XW, map_cons -> YW, getD_eq_getElem?_getD -> XR, pairwise_iff_getElem -> YM, length_map -> XQ, getElem?_eq_getElem -> Xb, getElem_mem -> Ym, length_append -> WX, take_succ_eq_append_getElem -> Y3, map_nil -> Y5, nil_append -> YR, take_append_drop -> Y6, drop_eq_getElem_cons -> X1, foldl_append -> YQ, foldl_cons -> Yw, mem_cons -> Yj, take_of_length_le -> Y7, length_cons -> WY, eq_nil_of_length_eq_zero -> Xy, exists_mem_of_ne_nil -> Y9, mem_cons_self -> XY, eq_nil_iff_forall_not_mem -> Za, getElem?_set_self -> Xj, getElem?_eq_some_iff -> WT, getElem?_set_ne -> Xi, contains_iff_mem -> Zb, length_nil -> WS, set_append_right -> Zc, getElem?_range' -> Zd, length_range' -> Ze, mem_of_getElem? -> Xw, ext_getElem -> Zf, getElem_map -> YN, getElem?_append_left -> WU, range_succ -> Zg, getElem?_map -> Xe, getElem?_range -> Xf, map_congr_left -> Zh, mem_range -> X8
open List.cons renaming injEq -> YS
open Nat renaming lt_or_ge -> WV, sub_self -> X3
open Option renaming map_some -> Xu, map_eq_some_iff -> XE
open Option.some renaming injEq -> W7, inj -> WL
open Array renaming getElem?_eq_some_iff -> WR
namespace Go.Proofs.YtfflpdekojlnmaaGreatDoor
open Go.RowKit
section
theorem PU {a b x y:List UInt8} (h:a++32 :: x=b++32 :: y) (ha:32∉a) (hb:32∉b):a=b∧x=y:=by
 induction a generalizing b with
 | nil=>
  cases b with
  | nil=>simpa using h
  | cons c b=>simp at h hb;exact absurd h.1 hb.1
 | cons d a ih=>
  cases b with
  | nil=>simp at h ha;exact absurd h.1.symm ha.1
  | cons c b=>
   simp only [Y1,YS,List.mem_cons,not_or] at h ha hb;obtain ⟨rfl,h⟩:=h;obtain ⟨h1,h2⟩:=ih h ha.2 hb.2;exact ⟨by rw [h1],h2⟩
section
variable (rows:List aX) (ends:List Bool)
def Ha (r:aX):Prop:= ∀p∈r,32∉p.1.data.toList
def ry (part:List Nat) (r:aX):List Nat:=r.map (fun e=>part.getD e.2 0)
theorem BZ {part:List Nat}: ∀ {r s:aX},Ha r->Ha s->r.flatMap (fun e=>32 :: (e.1.data.toList++32 :: Lib.decDigits (part.getD e.2 0)))=s.flatMap (fun e=>32 :: (e.1.data.toList++32 :: Lib.decDigits (part.getD e.2 0)))->r.map Prod.fst=s.map Prod.fst∧ry part r=ry part s
 | [],[],_,_,_=>⟨rfl,rfl⟩
 | [],b :: s,_,_,h=>by simp at h
 | a :: r,[],_,_,h=>by simp at h
 | a :: r,b :: s,h1,h2,h=>by
  simp only [List.flatMap_cons,Y1,Xp,YS,true_and] at h;obtain ⟨k1,k2⟩:=PU h (h1 a List.mem_cons_self) (h2 b List.mem_cons_self)
  have hh: ∀t:aX,(t.flatMap (fun e=>32 :: (e.1.data.toList++32 :: Lib.decDigits (part.getD e.2 0))))=[]∨(t.flatMap (fun e=>32 :: (e.1.data.toList++32 :: Lib.decDigits (part.getD e.2 0)))).head? = some 32:=fun t=>by
   cases t with
   | nil=>exact .inl rfl
   | cons a t=>exact .inr rfl
  obtain ⟨k3,k4⟩:=pJ k2 (hh r) (hh s);obtain ⟨k5,k6⟩:=BZ (fun p hp=>h1 p (XW _ hp)) (fun p hp=>h2 p (XW _ hp)) k4
  have:a.1=b.1:=by
   cases ha:a.1 with|mk x=>cases hb:b.1 with|mk y=>
   rw [ha,hb] at k1;exact congrArg ByteArray.mk (Array.toList_inj.1 k1)
  exact ⟨by rw [YW,YW,k5,this],by rw [ry,YW,k3];rw [ry,ry] at k6;rw [k6];rfl⟩
theorem xy {part:List Nat} {p q:Nat} {r s:aX} (h1:Ha r) (h2:Ha s) (h:b5 part p r=b5 part q s):p=q∧r.map Prod.fst=s.map Prod.fst∧ry part r=ry part s:=by
 have e:uZ part p r=uZ part q s:=by
  have:(b5 part p r).data.toList=(b5 part q s).data.toList:=by rw [h]
  simpa [b5] using this
 have hh: ∀t:aX,(t.flatMap (fun e=>32 :: (e.1.data.toList++32 :: Lib.decDigits (part.getD e.2 0))))=[]∨(t.flatMap (fun e=>32 :: (e.1.data.toList++32 :: Lib.decDigits (part.getD e.2 0)))).head? = some 32:=fun t=>by
  cases t with
  | nil=>exact .inl rfl
  | cons a t=>exact .inr rfl
 obtain ⟨k1,k2⟩:=pJ e (hh r) (hh s);exact ⟨k1,BZ h1 h2 k2⟩
structure TA (part:List Nat):Prop where
 ends: ∀s t,s<rows.length->t<rows.length->part.getD s 0=part.getD t 0->ends.getD s false=ends.getD t false
 row: ∀s t,s<rows.length->t<rows.length->part.getD s 0=part.getD t 0->(rows.getD s []).map Prod.fst=(rows.getD t []).map Prod.fst∧ry part (rows.getD s [])=ry part (rows.getD t [])
def p8:Prop:= ∀r∈rows,Ha r
theorem sT (h:p8 rows) (s:Nat):Ha (rows.getD s []):=by
 rcases WV s rows.length with q|q
 ·exact h _ (aW q)
 ·rw [XR,List.getElem?_eq_none q];exact fun p hp=>by simp at hp
theorem xB {part:List Nat} {s t:Nat} (hs:s<rows.length) (ht:t<rows.length):(dT rows part).getD s 0=(dT rows part).getD t 0↔b5 part (part.getD s 0) (rows.getD s [])=b5 part (part.getD t 0) (rows.getD t []):=by
 have ok:=gD rows part rows.length;obtain ⟨q1,q2⟩:=ok.at' s hs;obtain ⟨r1,r2⟩:=ok.at' t ht
 constructor
 ·intro e;have e1:(dB rows part rows.length).2.getD s 0=(dB rows part rows.length).2.getD t 0:=e;rw [<-q2, <- r2];simp only [e1]
 ·intro e;rw [<-q2, <- r2] at e
  exact Y2 fun hne=>by
   rcases WV ((dB rows part rows.length).2.getD s 0) ((dB rows part rows.length).2.getD t 0) with h|h
   ·exact YM.1 ok.nd _ _ q1 r1 h e
   ·exact YM.1 ok.nd _ _ r1 q1 (Nat.lt_of_le_of_ne h (fun q=>hne q.symm)) e.symm
theorem o6 {part:List Nat} {s t:Nat} (hs:s<rows.length) (ht:t<rows.length) (h:(dT rows part).getD s 0=(dT rows part).getD t 0):part.getD s 0=part.getD t 0:=
 u0 ((xB rows hs ht).1 h)
theorem jM {part:List Nat} {s:Nat} (hs:s<rows.length):(dT rows part).getD s 0<fu rows part:=((gD rows part rows.length).at' s hs).1
theorem DV {part:List Nat} {many:Nat} (h:Ra rows part many) (hlt: ∀s,s<rows.length->part.getD s 0<many) (he:fu rows part=many) {s t:Nat} (hs:s<rows.length) (ht:t<rows.length) (hp:part.getD s 0=part.getD t 0):(dT rows part).getD s 0=(dT rows part).getD t 0:=by
 refine Y2 fun hne=> ?_
 have hch: ∀k, ∃m,k<many-> ∃u,u<rows.length∧part.getD u 0=k∧(dT rows part).getD u 0=m:=fun k=>by
  by_cases hk:k<many
  ·obtain ⟨u,h1,h2⟩:=h.2 k hk;exact ⟨_,fun _=>⟨u,h1,h2,rfl⟩⟩
  ·exact ⟨0,fun q=>absurd q hk⟩
 obtain ⟨f,hf⟩:=Classical.axiomOfChoice hch
 have fin: ∀a b,a<many->b<many->f a=f b->a=b:=fun a b ha hb e=>by
  obtain ⟨u,k1,k2,k3⟩:=hf a ha;obtain ⟨v,m1,m2,m3⟩:=hf b hb
  have:=o6 rows k1 m1 (k3.trans (e.trans m3.symm))
  rw [<-k2, <- m2];exact this
 have hk:=hlt s hs
 
 obtain ⟨z,hz,hz2⟩: ∃z,z<rows.length∧part.getD z 0=part.getD s 0∧(dT rows part).getD z 0≠f (part.getD s 0):=by
  by_cases q:(dT rows part).getD s 0=f (part.getD s 0)
  ·exact ⟨t,ht,hp.symm,fun e=>hne (q.trans e.symm)⟩
  ·exact ⟨s,hs,rfl,q⟩
 have:=JR (many+1) (fu rows part) (fun a=>if a<many then f a else (dT rows part).getD z 0) (fun a ha=>by
  split
  ·rename_i q;obtain ⟨u,k1,_,k3⟩:=hf a q;rw [<-k3];exact jM rows k1
  ·exact jM rows hz) (fun a b ha hb e=>by
  have side: ∀a,a<many->f a≠(dT rows part).getD z 0:=fun a q e=>by
   obtain ⟨u,k1,k2,k3⟩:=hf a q
   have:=o6 rows k1 hz (k3.trans e)
   have ha':a=part.getD s 0:=by rw [<-k2,this,hz2.1]
   subst ha';exact hz2.2 e.symm
  split at e<;>split at e
  ·rename_i q1 q2;exact fin a b q1 q2 e
  ·rename_i q1 q2;exact absurd e (side a q1)
  ·rename_i q1 q2;exact absurd e.symm (side b q2)
  ·omega)
 omega
def ON (part:List Nat):Prop:= ∀s t,s<rows.length->t<rows.length->part.getD s 0=part.getD t 0->ends.getD s false=ends.getD t false
theorem Bt (hn:p8 rows) (hT: ∀r∈rows, ∀p∈r,p.2<rows.length) (h0:0<rows.length): ∀(f:Nat) {part:List Nat} {many:Nat},ON rows ends part->Ra rows part many->many<=rows.length->(many≠0-> ∀s,s<rows.length->part.getD s 0<many)->rows.length+1<=f+many ->
  TA rows ends (oa rows f part many)∧(oa rows f part many).length=rows.length
 | 0,part,many,_,_,_,_,hf=>by omega
 | f+1,part,many,he,ho,hm,hlt,hf=>by
  have hN:ON rows ends (dT rows part):=fun s t hs ht h=>he s t hs ht (o6 rows hs ht h);have hpos:0<fu rows part:=Nat.lt_of_le_of_lt (Nat.zero_le _) (jM rows (part:=part) h0);rw [oa]
  split
  ·rename_i hq;refine ⟨⟨hN,fun s t hs ht h=> ?_⟩,(mV rows part).1⟩;obtain ⟨_,k2,k3⟩:=xy (sT rows hn s) (sT rows hn t) ((xB rows hs ht).1 h);refine ⟨k2, ?_⟩
   
   have hlen:(rows.getD s []).length=(rows.getD t []).length:=by simpa using congrArg List.length k2
   refine List.ext_getElem (by simp only [ry,XQ,hlen]) fun i h1 h2=> ?_
   have e:(ry part (rows.getD s []))[i]? = (ry part (rows.getD t []))[i]? :=by rw [k3]
   simp only [ry,XQ] at h1 h2;simp only [ry,List.getElem?_map,Xb h1,Xb h2,Xu,W7,List.getElem_map] at e ⊢;exact DV rows ho (hlt (by omega)) hq (hT _ (aW hs) _ (Ym h1)) (hT _ (aW ht) _ (Ym h2)) e
  ·rename_i hq
   have:=lM rows ho
   exact Bt hn hT h0 f hN (mV rows part) (mU rows part) (fun _ s hs=>jM rows hs) (by omega)
theorem u6 (hn:p8 rows) (hT: ∀r∈rows, ∀p∈r,p.2<rows.length) (h0:0<rows.length) (hl:ends.length=rows.length):TA rows ends (bB rows ends)∧(bB rows ends).length=rows.length:=by
 refine Bt rows ends hn hT h0 (rows.length+2) (fun s t hs ht h=> ?_) ⟨by simp [p0,hl],fun k h=>by omega⟩ (Nat.zero_le _) (fun h=>absurd rfl h) (by omega)
 have hg: ∀u,u<rows.length->(p0 ends).getD u 0=if ends.getD u false then 1 else 0:=fun u hu=>by
  rw [p0,XR,List.getElem?_map,Xb (by omega),XR,Xb (by omega)];rfl
 rw [hg s hs,hg t ht] at h;cases h1:ends.getD s false<;>cases h2:ends.getD t false<;>simp_all
variable {rows ends}
theorem uI {part:List Nat}: ∀ {r s:aX},r.map Prod.fst=s.map Prod.fst->ry part r=ry part s-> ∀l,(look r l=none↔look s l=none)∧ ∀a b,look r l=some a->look s l=some b->part.getD a 0=part.getD b 0
 | [],[],_,_,l=>⟨Iff.rfl,fun a b h=>by simp [look] at h⟩
 | [],b :: s,h,_,l=>by simp at h
 | a :: r,[],h,_,l=>by simp at h
 | a :: r,b :: s,h1,h2,l=>by
  rw [YW,YW,YS] at h1;rw [ry,ry,YW,YW,YS] at h2;obtain ⟨k1,k2⟩:=uI h1.2 h2.2 l
  cases hh:cH l a.1
  ·have hb:cH l b.1=false:=by rw [<-h1.1];exact hh
   simp only [look,List.find?_cons,hh,hb] at k1 k2 ⊢;exact ⟨k1,k2⟩
  ·have hb:cH l b.1=true:=by rw [<-h1.1];exact hh
   simp only [look,List.find?_cons,hh,hb,Xu];exact ⟨by simp,fun x y hx hy=>by cases hx;cases hy;exact h2.1⟩
theorem yX (hT: ∀r∈rows, ∀p∈r,p.2<rows.length) {s:Nat} (hs:s<rows.length) {l:ByteArray} {t:Nat} (h:look (rows.getD s []) l=some t):t<rows.length:=hT _ (aW hs) _ (dH h)
theorem xO (hT: ∀r∈rows, ∀p∈r,p.2<rows.length) {part:List Nat} (h:TA rows ends part): ∀(w:List ByteArray) {s t:Nat},s<rows.length->t<rows.length->part.getD s 0=part.getD t 0->bO rows ends s w=bO rows ends t w
 | [],s,t,hs,ht,e=>h.ends s t hs ht e
 | l :: w,s,t,hs,ht,e=>by
  obtain ⟨h1,h2⟩:=h.row s t hs ht e;obtain ⟨k1,k2⟩:=uI h1 h2 l;rw [bO,bO,uj,uj]
  cases q1:look (rows.getD s []) l with
  | none=>rw [k1.1 q1]
  | some a=>
   cases q2:look (rows.getD t []) l with
   | none=>rw [k1.2 q2] at q1;cases q1
   | some b=>exact xO hT h w (yX hT hs q1) (yX hT ht q2) (k2 a b q1 q2)
def Iw (part order:List Nat) (r r':aX):Prop:= ∀l,(look r l=none->look r' l=none)∧ ∀t,look r l=some t-> ∃k,look r' l=some k∧k<order.length∧part.getD (order.getD k 0) 0=part.getD t 0
theorem Iw.mono {part order t:List Nat} {r r':aX} (h:Iw part order r r'):Iw part (order++t) r r':=fun l=>
 ⟨(h l).1,fun a ha=>by
  obtain ⟨k,k1,k2,k3⟩:=(h l).2 a ha
  exact ⟨k,k1,by rw [WX];omega,by rw [b7 k2];exact k3⟩⟩
theorem KP (part:List Nat) (order:List Nat): ∀r:aX,(r.map Prod.fst).Nodup->Iw part (dR part order r).1 r (dR part order r).2:=by
 refine fB (fun _ l=>⟨fun _=>by simp [dR,look],fun t h=>by simp [look] at h⟩) ?_;intro r e ih hn l;rw [List.map_append] at hn;have hn':=List.nodup_append.1 hn;have ih:=ih hn'.1;have hm:look r e.1=none:=c8.2 fun q=>hn'.2.2 e.1 q e.1 (by simp) rfl
 have key: ∀(o':List Nat) (k:Nat),(∃t,o'=(dR part order r).1++t)->k<o'.length->part.getD (o'.getD k 0) 0=part.getD e.2 0->(look (r++[e]) l=none->look ((dR part order r).2++[(e.1,k)]) l=none)∧ ∀t,look (r++[e]) l=some t-> ∃j,look ((dR part order r).2++[(e.1,k)]) l=some j∧j<o'.length∧part.getD (o'.getD j 0) 0=part.getD t 0:=by
  rintro _ k ⟨t2,rfl⟩ hk hp;have e2:r++[e]=r++[(e.1,e.2)]:=rfl;rw [e2,iE,iE,iF,iF]
  by_cases hl:l=e.1
  ·subst hl;rw [hm,(ih _).1 hm,if_pos rfl,if_pos rfl];refine ⟨fun h=>by simp at h,fun t h=> ?_⟩;simp only [Option.none_or,W7] at h;subst h;exact ⟨k,rfl,hk,hp⟩
  ·rw [if_neg hl,if_neg hl]
   refine ⟨fun h=> ?_,fun t h=> ?_⟩
   ·cases q:look r l with
    | none=>rw [(ih l).1 q];rfl
    | some t=>rw [q] at h;cases h
   ·cases q:look r l with
    | none=>rw [q] at h;cases h
    | some t'=>
     rw [q] at h;simp only [Option.some_or,W7] at h;subst h;obtain ⟨j,j1,j2,j3⟩:=(ih l).2 t' q;exact ⟨j,by rw [j1];rfl,by rw [WX];omega,by rw [b7 j2];exact j3⟩
 rw [kZ,Fi]
 split
 ·rename_i n hq;obtain ⟨q1,q2⟩:=xH part hq
  have q3:(dR part order r).1.getD n 0=(dR part order r).1[n]:=by rw [XR,Xb q1,Option.getD_some]
  exact key _ n ⟨[],by simp⟩ q1 (by show part.getD ((dR part order r).1.getD n 0) 0=_;rw [q3];exact q2)
 ·exact key _ _ ⟨_,rfl⟩ (by simp) (by rw [ep])
structure QW (rows:List aX) (ends:List Bool) (part:List Nat) (st:x7):Prop where
 zero:st.order.getD 0 0=0
 row: ∀k,k<st.rows.length->Iw part st.order (rows.getD (st.order.getD k 0) []) (st.rows.getD k [])
 Dk: ∀k,k<st.rows.length->st.ends.getD k false=ends.getD (st.order.getD k 0) false
theorem N5 (hT: ∀r∈rows, ∀p∈r,p.2<rows.length) (hN: ∀r∈rows,(r.map Prod.fst).Nodup) {part:List Nat} {st:x7} (ho:FP rows part st) (h:QW rows ends part st) (h1:st.rows.length<st.order.length):QW rows ends part (eh rows ends part st):=by
 have hc:dC st<rows.length:=ho.lt _ (aW h1);obtain ⟨_,_,_,k4,_,t,k6⟩:=sY part (n:=rows.length) ho.nd ho.lt (rows.getD (dC st) []) (hT _ (aW hc));have hr:=KP part st.order (rows.getD (dC st) []) (hN _ (aW hc))
 have hg: ∀k,k<st.order.length->(eh rows ends part st).order.getD k 0=st.order.getD k 0:=fun k hk=>by simp only [eh,k6];exact b7 hk
 refine ⟨by rw [hg 0 (by omega)];exact h.zero,fun k hk=> ?_,fun k hk=> ?_⟩
 ·have hk':k<st.rows.length+1:=by simpa [eh] using hk
  rw [hg k (by omega)]
  rcases WV k st.rows.length with q|q
  ·simp only [eh,k6,gv q];exact (h.row k q).mono
  ·obtain rfl:k=st.rows.length:=by omega
   simp only [eh,ep];exact hr
 ·have hk':k<st.rows.length+1:=by simpa [eh] using hk
  rw [hg k (by omega)]
  rcases WV k st.rows.length with q|q
  ·simp only [eh];rw [gv (by rw [ho.ends];exact q)];exact h.Dk k q
  ·obtain rfl:k=st.rows.length:=by omega
   simp only [eh];rw [<-ho.ends,ep,ho.ends];rfl
theorem KQ (hT: ∀r∈rows, ∀p∈r,p.2<rows.length) (hN: ∀r∈rows,(r.map Prod.fst).Nodup) {part:List Nat}: ∀(f:Nat) {st:x7},FP rows part st->QW rows ends part st->QW rows ends part (mv rows ends part f st)
 | 0,st,_,h=>h
 | f+1,st,ho,h=>by
  rw [mv]
  split
  ·rename_i h1;exact KQ hT hN f (qd rows ends part hT ho h1) (N5 hT hN ho h h1)
  ·exact h
theorem Ba (hT: ∀r∈rows, ∀p∈r,p.2<rows.length) (hN: ∀r∈rows,(r.map Prod.fst).Nodup) (h0:0<rows.length) (part:List Nat) :
  FP rows part (cA rows ends part)∧(cA rows ends part).rows.length=(cA rows ends part).order.length∧QW rows ends part (cA rows ends part):=by
 have h:=Fj rows ends part hT (rows.length+1) (Fh rows part h0) (by simp [q0]);exact ⟨h.1,h.2,KQ hT hN _ (Fh rows part h0) ⟨rfl,fun k hk=>by simp [q0] at hk,fun k hk=>by simp [q0] at hk⟩⟩
theorem Bz {part:List Nat}: ∀(f:Nat) {st:x7},st.order.length<=(mv rows ends part f st).order.length
 | 0,st=>Nat.le_refl _
 | f+1,st=>by
  rw [mv]
  split
  ·have hq: ∀(o:List Nat) (r:aX),o.length<=(dR part o r).1.length:=fun o=>by
    refine fB (by simp [dR]) ?_;intro r e ih;rw [kZ,Fi]
    split
    ·exact ih
    ·simp only [WX];omega
   exact Nat.le_trans (hq _ _) (Bz f (st:=eh rows ends part st))
  ·exact Nat.le_refl _
theorem sa (hT: ∀r∈rows, ∀p∈r,p.2<rows.length) {part:List Nat} (hS:TA rows ends part) {st:x7} (ho:FP rows part st) (hl:st.rows.length=st.order.length) (h:QW rows ends part st): ∀(w:List ByteArray) {k:Nat},k<st.order.length->bO st.rows st.ends k w=bO rows ends (st.order.getD k 0) w
 | [],k,hk=>h.Dk k (by omega)
 | l :: w,k,hk=>by
  have hr:=h.row k (by omega) l;have hs:st.order.getD k 0<rows.length:=ho.lt _ (aW hk);rw [bO,bO,uj,uj]
  cases q:look (rows.getD (st.order.getD k 0) []) l with
  | none=>rw [hr.1 q]
  | some t=>
   obtain ⟨j,j1,j2,j3⟩:=hr.2 t q;rw [j1]
   have:=sa hT hS ho hl h w j2
   rw [bO,bO] at this;simp only;rw [this];exact xO hT hS w (ho.lt _ (aW j2)) (yX hT hs q) j3
end
theorem MS {l:List Nat} {k:Nat} {x:List AV} (h:(aJ l)[k]? = some x): ∃hk:k<l.length,x=[.v (.int .i64 (l[k]:Nat))]:=by
 obtain ⟨h1,h2⟩:=List.getElem?_eq_some_iff.1 h;simp only [aJ,XQ] at h1;exact ⟨h1,by rw [<-h2];simp [aJ]⟩
theorem jg {n0:Nat} {Q:bd->AS->Prop} {t:List AV} {o:List (Option ab)} {y:jA} {g:Operand} {ps:Array Tmp} {assign body:Code} (m:BitVec 32) (id:Nat) (ho:o[id]? = some (some (oH m))) (mm:Nat) (O:Nat->List (Option ab)) (ok:Nat->Prop) (h0:ok 0)
  (hg:(AS.mk t o y).ev g = .fn 138 [] [.ptr id 0 1 0 0]) (hdead:(O 0)[id]? = some none) (hwk:Wk n0 ⟨t,o,y⟩ ⟨cQ mm t,O 0,y⟩) (hA:bT assign=true) (hB:bT body=true) (hps:ps.size=1)
  (hround: ∀k (hk:k<(ar m).length),ok k->cm Tryz.prog (O 0).length assign ⟨iX ps.toList [.v (.int .i64 ((ar m)[k]:Nat))] (cQ mm t),O k,y⟩ (qB Tryz.prog (O 0).length body (pj (O 0).length (cQ mm t) (ok (k+1)) (O (k+1)) y Q)))
  (hfin:ok (ar m).length->Q .normal ⟨cQ mm t,O (ar m).length,y⟩):cm Tryz.prog n0 (.rangeFunc g ps assign body) ⟨t,o,y⟩ Q:=by
 have hl:(aJ (ar m)).length=(ar m).length:=by simp [aJ]
 refine tF (Ms m) [id] (by simp) ?_ ?_ O (fun _=>y) ok h0 (cQ mm t) ?_ (by rfl) ?_ hwk hA hB ?_ ?_ (by rw [hl];exact hfin)
 ·simp only [YW,List.map_nil,ho,Xu];rfl
 ·intro k ob hk
  match k,hk with
  | 0,hk=>cases hk;rfl
  | k+1,hk=>simp at hk
 ·rw [hg];rfl
 ·intro i hi ob
  obtain rfl:i=id:=by simpa using hi
  rw [hdead];intro h;cases h
 ·intro x hx;obtain ⟨p,_,rfl⟩:=List.mem_map.1 hx;exact hps.symm
 ·intro k x hk hx;obtain ⟨hlt,rfl⟩:=MS hx;exact hround k hlt hk
def ofM (p:Int):BitVec 32:=if 0<=p∧p<=24 then 1#32 <<< p.toNat else 0#32
theorem p9 {p:Int} {i:Nat}:(ofM p).getLsbD i=decide (0<=p∧p<=24∧i=p):=by
 rw [ofM]
 split
 ·rename_i h;rw [BitVec.getLsbD_shiftLeft,BitVec.getLsbD_one,Bool.eq_iff_iff];simp;omega
 ·rename_i h;rw [BitVec.getLsbD_zero,eq_comm,decide_eq_false_iff_not];omega
theorem Qu (p:Int):aq Tryz.prog 83 [.v (.int .i64 p)] (aQ (ofM p)):=by
 have hS:0<=p∧p<=24->IntKind.u32.wrap (1 * 2 ^ min p.toNat 32)=((ofM p).toNat:Nat):=fun h=>by
  have e:min p.toNat 32=p.toNat:=by omega
  rw [ofM,if_pos h,e,NI]
 have hZ: ¬(0<=p∧p<=24)->ofM p=0#32:=fun h=>by rw [ofM,if_neg h]
 simp only [aQ]
 rcases Int.lt_or_le p 0 with h1|h1
 ·have b1:decide (p<0)=true:=decide_eq_true h1;rw [hZ (by omega)];refine gE Tryz.func83 Tryz.ntmps83 Tryz.results83 ?_;refine w9 b1 ?_
  rfl
 ·have b1:decide (p<0)=false:=decide_eq_false (by omega)
  rcases Int.lt_or_le 24 p with h2|h2
  ·have b2:decide (24<p)=true:=decide_eq_true h2;rw [hZ (by omega)];refine gE Tryz.func83 Tryz.ntmps83 Tryz.results83 ?_;refine E3 b1 b2 ?_
   rfl
  ·have b2:decide (24<p)=false:=decide_eq_false (by omega);have e:=hS ⟨h1,h2⟩;have e0:(0<=p)=True:=eq_true h1;refine gE Tryz.func83 Tryz.ntmps83 Tryz.results83 ?_;exact Qg b1 b2 e
theorem Kc (m:BitVec 32):aq Tryz.prog 88 [aQ m] (.aB 1 (aJ (ar m)) (ar m).length):=by
 have A:=qq m;have hb:=Gi m;simp only [oH,aQ] at *;refine gE Tryz.func88 Tryz.ntmps88 Tryz.results88 ?_
 (refine au ?_;intro K hK K hK K hK)
 refine aa.fr [] A (by simp) ?_ ?_ ?_ ?_ ?_
 ·rfl
 ·rfl
 ·rfl
 ·intro k ob hk;simp at hk
 ((iterate 3 revert K);refine au ?_;intro K hK)
 refine wO (c9 (k:=0) (i:=0) (j:=0) 3 1 (by decide) rfl (by decide) rfl rfl) (by kernel_rfl) ?_;simp only [List.length_cons,List.length_nil,Nat.reduceAdd,Y1,List.nil_append,List.set_cons_zero]
 refine jg m 1 rfl 3 (fun k=>[some ⟨79,1,false,[[.vec 2 k]]⟩,none,some ⟨3,1,true,aJ ((ar m).take k)⟩]) (fun _=>True) trivial ?_ rfl ?_ (by kernel_rfl) (by kernel_rfl) rfl ?_ ?_
 ·rfl
 ·refine mb ?_ ai
  rfl
 ·intro k hk _
  have eS:aJ ((ar m).take (k+1))=aJ ((ar m).take k)++[[.v (.int .i64 ((ar m)[k]:Nat))]]:=by rw [Y3 hk,aJ,List.map_append];rfl
  have eL:(aJ ((ar m).take k)).length=k:=by simp [aJ];omega
  repeat (first|(with_reducible first|refine aw.up ?_|refine fun (K:AK) hK=> ?_|(refine hK _ ?_;clear hK K))|simp only [go_sem]|with_reducible refine wA ?_|clear hK K)
  rw [eS];exact aR ai
 ·intro _;have e1:(ar m).take (ar m).length=ar m:=List.take_length
  have eL:(aJ (ar m)).length=(ar m).length:=by simp [aJ]
  (revert K;refine aP e1 ?_)
  rw [<-eL]
  (refine gd.of 40 rfl ?_;simp only [go_sem])
  trace_state
structure bW where
 labs:List ByteArray
 fs:List (BitVec 32)
 la:BitVec 32
 em:Bool
def bW.row (i:Nat) (s:bW):List AV:= .vec i s.labs.length :: (s.fs.map aQ++[aQ s.la, .v (.bool s.em)])
def bW.os (s:bW):List (Option ab):=[some ⟨99,28,false,[s.row 1]⟩,some ⟨9,1,true,s.labs.map encS⟩]
def G2 (b:BitVec 32) (fs:List (BitVec 32)) (p:Nat):List (BitVec 32):=fs.set p (fs.getD p 0#32 ||| b)
def mn (b:BitVec 32) (l:List Nat) (fs:List (BitVec 32)):List (BitVec 32):=l.foldl (G2 b) fs
theorem pV (b:BitVec 32): ∀(l:List Nat) (fs:List (BitVec 32)),(mn b l fs).length=fs.length
 | [],fs=>rfl
 | p :: l,fs=>by rw [mn,List.foldl_cons, <- mn,pV b l,G2,List.length_set]
theorem G3 (b:BitVec 32) (l:List Nat) (p:Nat) (fs:List (BitVec 32)):mn b (l++[p]) fs=G2 b (mn b l fs) p:=by
 rw [mn,List.foldl_append];rfl
theorem EZ {fs:List (BitVec 32)} {l:AV} {X:List AV} {p:Nat} (h:p<fs.length): ∃r,(l :: (fs.map aQ++X)).drop (1+p * 1)=aQ (fs.getD p 0#32) :: r:=by
 refine ⟨(fs.map aQ++X).drop (p+1), ?_⟩;rw [Nat.mul_one,Nat.add_comm,List.drop_succ_cons,List.drop_eq_getElem_cons (by simp;omega),List.getElem_append_left (by simpa using h),List.getElem_map];simp [List.getD,h]
theorem P0 {fs:List (BitVec 32)} {l:AV} {X:List AV} {p:Nat} (x:BitVec 32) (h:p<fs.length):(l :: (fs.map aQ++X)).take (1+p * 1)++aQ x :: (fs.map aQ++X).drop (1+p * 1)=l :: ((fs.set p x).map aQ++X):=by
 rw [Nat.mul_one,Nat.add_comm,List.take_succ_cons,Y1,List.map_set, <- List.set_append_left p (aQ x) (by simpa using h),List.set_eq_take_append_cons_drop,if_pos (by simp;omega)]
theorem Eo (n:Nat) (fs:List (BitVec 32)) (x y:Value):aN n (fs.map aQ++[.v x, .v y])=true:=by
 induction fs with
 | nil=>rfl
 | cons z l ih=>simp only [YW,Y1,aN,aQ,AV.wf,Bool.true_and];exact ih
theorem zh (f:Nat->Nat) (fs:List (BitVec 32)) (x y:Value):bP f (fs.map aQ++[.v x, .v y])=fs.map aQ++[.v x, .v y]:=by
 induction fs with
 | nil=>rfl
 | cons z l ih=>simp only [YW,Y1,bP,ih];rfl
attribute [go_sem] Eo zh
theorem Kb (s:bW) (a b:BitVec 32) (hl:s.fs.length=25) (ha: ∀p,p∈ar a->p<25) :
  da Tryz.prog 85 [.ptr 0 0 28 0 0,aQ a,aQ b] s.os (.cI []) (bW.os { s with fs:=mn b (ar a) s.fs }):=by
 have A:=qq a;obtain ⟨labs,fs,la,em⟩:=s;simp only [bW.os,bW.row,oH] at *;simp only [aQ] at A;simp only [aQ];refine gF Tryz.func85 Tryz.ntmps85 Tryz.results85 ?_
 (refine dZ ?_;intro K hK K hK)
 refine aa.fr [] A (by simp) ?_ ?_ ?_ ?_ ?_
 ·rfl
 ·rfl
 ·rfl
 ·intro k ob hk;simp at hk
 (revert K;revert K;refine dZ ?_)
 refine jg a 4 (by simp only [oH,aQ];rfl) 6 (fun k=>[some ⟨99,28,false,[.vec 1 labs.length :: ((mn b ((ar a).take k) fs).map aQ++[.v (.int .u32 la.toNat), .v (.bool em)])]⟩,some ⟨9,1,true,labs.map encS⟩,some ⟨61,1,false,[[.ptr 0 0 28 0 0]]⟩,some ⟨96,1,false,[[.v (.int .u32 b.toNat)]]⟩,none]) (fun _=>True) trivial ?_ rfl ?_ (by kernel_rfl) (by kernel_rfl) rfl ?_ ?_
 ·rfl
 ·refine mb ?_ ai
  rfl
 ·intro k hk _;have hp:=ha _ (Ym hk);rw [Y3 hk,G3,G2]
  have hL:(mn b ((ar a).take k) fs).length=25:=by rw [pV];exact hl
  generalize mn b ((ar a).take k) fs=F at *;generalize (ar a)[k]=p at *;obtain ⟨r,eD⟩:=EZ (l:= .vec 1 labs.length) (X:=[.v (.int .u32 la.toNat), .v (.bool em)]) (fs:=F) (p:=p) (by omega);have eS:=P0 (l:= .vec 1 labs.length) (X:=[.v (.int .u32 la.toNat), .v (.bool em)]) (fs:=F) (p:=p) (F.getD p 0#32 ||| b) (by omega);have eT:(p:Int).toNat=p:=Int.toNat_natCast p
  have eB:0<=(p:Int)∧(p:Int)<25:=by omega
  simp only [aQ] at eD eS
  repeat (first|(with_reducible first|refine aw.up ?_|refine fun (K:AK) hK=> ?_|refine wE ?_|refine wK ?_|refine wF ?_|(refine hK _ ?_;clear hK K))|simp only [go_sem,eD,lJ]|with_reducible refine wA ?_|clear hK K)
  rw [eS];exact aR ai
 ·intro _;have e1:(ar a).take (ar a).length=ar a:=List.take_length;refine kS e1 ?_
  (refine ⟨?_, ?_, ?_⟩<;>simp only [dv,ku,AV.v.injEq,Value.int.injEq,Value.bool.injEq,Value.string.injEq,AV.vec.injEq,AV.ptr.injEq,true_or,or_true,false_or,or_false,ab.mk.injEq,forall_eq_apply_imp_iff,forall_eq,forall_eq',go_sem])
structure LQ where
 st:bW
 op:Bool
 ends:BitVec 32
 first:BitVec 32
def cM (x:Ex) (b:bW×BitVec 32×BitVec 32) (r:LQ):LQ:=
 ⟨{ b.1 with fs:=mn b.2.1 (ar r.ends) b.1.fs },if aH x then r.op else false,(if aH x then r.ends else 0#32) ||| b.2.2,if r.op then r.first ||| b.2.1 else r.first⟩
mutual
def pC:Ex->bW->bW×BitVec 32×BitVec 32
 | .mk k s l,st=>
  if k=1 then ({ st with labs:=st.labs++[s] },ofM ((st.labs.length+1:Nat):Int),ofM ((st.labs.length+1:Nat):Int))
  else if k=2 then ((gS l ⟨st,true,0#32,0#32⟩).st,(gS l ⟨st,true,0#32,0#32⟩).first,(gS l ⟨st,true,0#32,0#32⟩).ends)
  else if k=4∨k=5 then ({ (fH l (st,0#32,0#32)).1 with fs:=mn (fH l (st,0#32,0#32)).2.1 (ar (fH l (st,0#32,0#32)).2.2) (fH l (st,0#32,0#32)).1.fs },(fH l (st,0#32,0#32)).2.1,(fH l (st,0#32,0#32)).2.2)
  else fH l (st,0#32,0#32)
def gS:List Ex->LQ->LQ
 | [],r=>r
 | x :: xs,r=>gS xs (cM x (pC x r.st) r)
def fH:List Ex->bW×BitVec 32×BitVec 32->bW×BitVec 32×BitVec 32
 | [],r=>r
 | x :: xs,r=>fH xs ((pC x r.1).1,r.2.1 ||| (pC x r.1).2.1,r.2.2 ||| (pC x r.1).2.2)
end
theorem Ae: ∀(l m:List Ex) (r:LQ),gS (l++m) r=gS m (gS l r)
 | [],m,r=>by simp [gS]
 | x :: l,m,r=>by simp only [Y1,gS];exact Ae l m _
theorem Ad: ∀(l m:List Ex) (r:bW×BitVec 32×BitVec 32),fH (l++m) r=fH m (fH l r)
 | [],m,r=>by simp [fH]
 | x :: l,m,r=>by simp only [Y1,fH];exact Ad l m _
theorem qY {fs:List (BitVec 32)} {p q:Nat} {x:BitVec 32} (h:p<fs.length):(fs.set p x).getD q 0#32=if q=p then x else fs.getD q 0#32:=by
 simp only [List.getD,List.getElem?_set]
 by_cases e:p=q
 ·subst e;simp [h]
 ·rw [if_neg e,if_neg (fun h=>e h.symm)]
theorem uH {b:BitVec 32}: ∀ {l:List Nat} {fs:List (BitVec 32)} {p q:Nat},(∀j∈l,j<fs.length)->(((mn b l fs).getD p 0#32).getLsbD q=true↔(fs.getD p 0#32).getLsbD q=true∨(p∈l∧b.getLsbD q=true))
 | [],fs,p,q,_=>by simp [mn]
 | j :: l,fs,p,q,hl=>by
  have hj:j<fs.length:=hl j (by simp);rw [mn,List.foldl_cons, <- mn,uH (fun k hk=>by rw [G2,List.length_set];exact hl k (by simp [hk])),G2,qY hj,List.mem_cons]
  by_cases e:p=j
  ·subst e;simp only [if_true,Y4,X9,true_or,true_and]
   constructor
   ·rintro ((h|h)|⟨_,h⟩)
    ·exact .inl h
    ·exact .inr h
    ·exact .inr h
   ·rintro (h|h)
    ·exact .inl (.inl h)
    ·exact .inl (.inr h)
  ·rw [if_neg e];simp [e]
structure PD (x:Ex) (st:bW) (r:bW×BitVec 32×BitVec 32):Prop where
 labs:r.1.labs=st.labs++aD x
 len:r.1.fs.length=25
 la:r.1.la=st.la
 em:r.1.em=st.em
 fst: ∀p,r.2.1.getLsbD p=true↔kq x st.labs.length p
 xu: ∀p,r.2.2.getLsbD p=true↔jz x st.labs.length p
 rY: ∀p q,(r.1.fs.getD p 0#32).getLsbD q=true↔(st.fs.getD p 0#32).getLsbD q=true∨je x st.labs.length p q
structure Ut (l:List Ex) (r R:LQ):Prop where
 labs:R.st.labs=r.st.labs++aK l
 len:R.st.fs.length=25
 la:R.st.la=r.st.la
 em:R.st.em=r.st.em
 op:R.op=(r.op&&cL l)
 fst: ∀p,R.first.getLsbD p=true↔r.first.getLsbD p=true∨(r.op=true∧gP l r.st.labs.length p)
 xu: ∀p,R.ends.getLsbD p=true↔(cL l=true∧r.ends.getLsbD p=true)∨jG l r.st.labs.length p
 rY: ∀p q,(R.st.fs.getD p 0#32).getLsbD q=true↔(r.st.fs.getD p 0#32).getLsbD q=true∨gO l r.st.labs.length p q∨(r.ends.getLsbD p=true∧gP l r.st.labs.length q)
structure Up (l:List Ex) (r R:bW×BitVec 32×BitVec 32):Prop where
 labs:R.1.labs=r.1.labs++aK l
 len:R.1.fs.length=25
 la:R.1.la=r.1.la
 em:R.1.em=r.1.em
 fst: ∀p,R.2.1.getLsbD p=true↔r.2.1.getLsbD p=true∨gh l r.1.labs.length p
 xu: ∀p,R.2.2.getLsbD p=true↔r.2.2.getLsbD p=true∨gj l r.1.labs.length p
 rY: ∀p q,(R.1.fs.getD p 0#32).getLsbD q=true↔(r.1.fs.getD p 0#32).getLsbD q=true∨iw l r.1.labs.length p q
theorem tI: ∀(l:List Ex) (r:LQ),(∀x∈l, ∀st,st.fs.length=25->st.labs.length+(aD x).length<=24->PD x st (pC x st))->r.st.fs.length=25->(∀p∈ar r.ends,p<25)->r.st.labs.length+(aK l).length<=24->Ut l r (gS l r)
 | [],r,_,hf,he,hb=>by
  rw [gS];exact ⟨by simp [aK],hf,rfl,rfl,by simp [cL],fun p=>by simp [gP],fun p=>by simp [jG,cL],fun p q=>by simp [gO,gP]⟩
 | x :: xs,r,hx,hf,he,hb=>by
  rw [aK,WX] at hb;have B:=hx x (by simp) r.st hf (by omega);generalize hbx:pC x r.st=b at B
  have hlen:(r.st.labs++aD x).length=r.st.labs.length+(aD x).length:=by simp
  have hends: ∀p∈ar ((cM x b r).ends),p<25:=fun p hp=>by
   have:=ba.1 hp
   simp only [cM] at this;rw [Y4,X9,B.xu] at this
   rcases this with h|h
   ·split at h
    ·exact he p (ba.2 h)
    ·simp at h
   ·have:=fO x h;omega
  have S:=tI xs (cM x b r) (fun y hy=>hx y (by simp [hy])) (by simp only [cM,pV];exact B.len) hends (by simp only [cM,B.labs,hlen];omega)
  have hfol: ∀p q,((cM x b r).st.fs.getD p 0#32).getLsbD q=true↔((r.st.fs.getD p 0#32).getLsbD q=true∨je x r.st.labs.length p q)∨(r.ends.getLsbD p=true∧kq x r.st.labs.length q):=fun p q=>by
   show ((mn _ _ _).getD p 0#32).getLsbD q=true↔_;rw [uH (fun j hj=>by rw [B.len];exact he j hj),B.rY,B.fst,ba]
  have hl2:(cM x b r).st.labs.length=r.st.labs.length+(aD x).length:=by simp only [cM,B.labs,hlen]
  have hE: ∀p,(cM x b r).ends.getLsbD p=true↔(aH x=true∧r.ends.getLsbD p=true)∨jz x r.st.labs.length p:=fun p=>by
   simp only [cM];rw [Y4,X9,B.xu];cases aH x<;>simp
  have hF: ∀p,(cM x b r).first.getLsbD p=true↔r.first.getLsbD p=true∨(r.op=true∧kq x r.st.labs.length p):=fun p=>by
   simp only [cM]
   cases r.op
   ·simp
   ·simp only [if_true,Y4,X9,B.fst,true_and]
  have hO:(cM x b r).op=(r.op&&aH x):=by simp only [cM];cases r.op<;>cases aH x<;>rfl
  rw [gS,hbx]
  refine ⟨?_,S.len, ?_, ?_, ?_,fun p=> ?_,fun p=> ?_,fun p q=> ?_⟩
  ·rw [S.labs];simp only [cM];rw [B.labs,aK,Xp]
  ·rw [S.la];exact B.la
  ·rw [S.em];exact B.em
  ·rw [S.op,hO,cL,Bool.and_assoc]
  ·rw [S.fst,hF,hO,hl2,gP];grind
  ·rw [S.xu,hE,hl2,jG,cL];grind
  ·rw [S.rY,hfol,hE,hl2,gP,gO];grind
theorem tH: ∀(l:List Ex) (r:bW×BitVec 32×BitVec 32),(∀x∈l, ∀st,st.fs.length=25->st.labs.length+(aD x).length<=24->PD x st (pC x st))->r.1.fs.length=25->r.1.labs.length+(aK l).length<=24->Up l r (fH l r)
 | [],r,_,hf,hb=>by
  rw [fH];exact ⟨by simp [aK],hf,rfl,rfl,fun p=>by simp [gh],fun p=>by simp [gj],fun p q=>by simp [iw]⟩
 | x :: xs,r,hx,hf,hb=>by
  rw [aK,WX] at hb;have B:=hx x (by simp) r.1 hf (by omega);rw [fH];generalize pC x r.1=b at B ⊢
  have hlen:b.1.labs.length=r.1.labs.length+(aD x).length:=by rw [B.labs];simp
  have A:=tH xs (b.1,r.2.1 ||| b.2.1,r.2.2 ||| b.2.2) (fun y hy=>hx y (by simp [hy])) B.len (by rw [hlen];omega)
  refine ⟨?_,A.len, ?_, ?_,fun p=> ?_,fun p=> ?_,fun p q=> ?_⟩
  ·rw [A.labs,B.labs,aK,Xp]
  ·rw [A.la];exact B.la
  ·rw [A.em];exact B.em
  ·rw [A.fst,hlen,gh,Y4,X9,B.fst];grind
  ·rw [A.xu,hlen,gj,Y4,X9,B.xu];grind
  ·rw [A.rY,hlen,iw,B.rY];grind
theorem pD (x:Ex): ∀st:bW,st.fs.length=25->st.labs.length+(aD x).length<=24->PD x st (pC x st):=by
 induction x using Ex.ind with
 | h k s l ih=>
  intro st hf hb
  by_cases h1:k=1
  ·subst h1
   have hl:aD (.mk 1 s l)=[s]:=by rw [aD,if_pos rfl]
   rw [hl] at hb;simp only [List.length_singleton] at hb
   have hp: ∀p,(ofM ((st.labs.length+1:Nat):Int)).getLsbD p=true↔p=st.labs.length+1:=fun p=>by
    rw [p9,decide_eq_true_eq];omega
   rw [pC,if_pos rfl];exact ⟨by rw [hl],hf,rfl,rfl,fun p=>by rw [kq,if_pos rfl];exact hp p,fun p=>by rw [jz,if_pos rfl];exact hp p,fun p q=>by rw [je,if_pos rfl,or_false]⟩
  ·rw [cW h1] at hb;rw [pC,if_neg h1]
   by_cases h2:k=2
   ·subst h2;rw [if_pos rfl];have S:=tI l ⟨st,true,0#32,0#32⟩ ih hf (by rw [lv];intro p hp;cases hp) hb
    refine ⟨by rw [cW h1];exact S.labs,S.len,S.la,S.em,fun p=> ?_,fun p=> ?_,fun p q=> ?_⟩
    ·rw [kq,if_neg h1,if_pos rfl,S.fst];simp
    ·rw [jz,if_neg h1,if_pos rfl,S.xu];simp
    ·rw [je,if_neg h1,if_pos rfl,S.rY];simp
   ·rw [if_neg h2];have A:=tH l (st,0#32,0#32) ih hf hb
    have hF: ∀p,kq (.mk k s l) st.labs.length p↔gh l st.labs.length p:=fun p=>by rw [kq,if_neg h1,if_neg h2]
    have hL: ∀p,jz (.mk k s l) st.labs.length p↔gj l st.labs.length p:=fun p=>by rw [jz,if_neg h1,if_neg h2]
    have aF: ∀p,(fH l (st,0#32,0#32)).2.1.getLsbD p=true↔gh l st.labs.length p:=fun p=>by rw [A.fst];simp
    have aL: ∀p,(fH l (st,0#32,0#32)).2.2.getLsbD p=true↔gj l st.labs.length p:=fun p=>by rw [A.xu];simp
    by_cases h4:k=4∨k=5
    ·rw [if_pos h4];refine ⟨by rw [cW h1];exact A.labs,by rw [pV];exact A.len,A.la,A.em,fun p=>by rw [hF,aF],fun p=>by rw [hL,aL],fun p q=> ?_⟩;show ((mn _ _ _).getD p 0#32).getLsbD q=true↔_
     rw [uH (fun j hj=>by
      have:=fF ((aL j).1 (ba.1 hj))
      rw [A.len];omega),A.rY,aF,ba,aL,je,if_neg h1,if_neg h2]
     grind
    ·rw [if_neg h4];refine ⟨by rw [cW h1];exact A.labs,A.len,A.la,A.em,fun p=>by rw [hF,aF],fun p=>by rw [hL,aL],fun p q=> ?_⟩;rw [A.rY,je,if_neg h1,if_neg h2]
     grind
end
theorem rA (f:Nat->Nat) (l:List ByteArray):cG f (l.map encS)=l.map encS:=by
 induction l with
 | nil=>rfl
 | cons x l ih=>simp only [YW,cG,ih];rfl
theorem bW.KW (s:bW) (n:Nat):s.os.map (fun x=>some (x.map (ab.bg (sig [0,1] n))))=s.os.map some:=by
 simp only [bW.os,bW.row,aQ,YW,Y5,Option.map_some,ab.bg,cG,bP,AV.bg,zh,rA]
 rfl
theorem aa.Rk {P:Program} {f:FuncId} {args:List AV} {s s':bW} {tl:List (Option ab)} {r0:AV} {K:AV->List (Option ab)->Prop} (h:da P f args s.os r0 s'.os) (hargs:bP (sig [0,1] (tl.length+2)) args=args) (hwa:aN 2 args=true) (hr:r0.bg (sig [0,1] (tl.length+2))=r0)
  (k:K r0 (s'.os++tl)):aa P f args (s.os++tl) K:=by
 have hn:(s.os++tl).length=tl.length+2:=by simp [bW.os]
 refine aa.fr [0,1] h (by decide) ?_ ?_ hwa ?_ ?_
 ·rw [bW.KW];simp [bW.os]
 ·rw [hn,hargs]
 ·intro i ob hi
  match i,hi with
  | 0,hi=>cases hi;simp only [bW.row,aQ,bj,aN,AV.wf,Eo];rfl
  | 1,hi=>cases hi;exact bw _ (fun _=>rfl) _
  | i+2,hi=>simp [bW.os] at hi
 ·rw [hn,hr]
  have e:eu (sig [0,1] (tl.length+2)) [0,1] s'.os (s.os++tl)=s'.os++tl:=by
   have h:=s'.KW (tl.length+2);simp only [bW.os,YW,Y5,List.cons.injEq,Option.some.injEq,and_true] at h;simp only [bW.os,eu,h.1,h.2,Y1,YR,List.set_cons_zero,List.set_cons_succ,Y5,List.append_nil]
  rw [e];exact k
def Iv (x:Ex):Prop:= ∀st:bW,st.fs.length=25->st.labs.length+(aD x).length<=24 ->
 da Tryz.prog 54 [.ptr 0 0 28 0 0, .agg (aM x)] st.os (.agg [aQ (pC x st).2.1,aQ (pC x st).2.2]) (pC x st).1.os
theorem ij: ∀(l m:List Ex),aK (l++m)=aK l++aK m
 | [],m=>by simp [aK]
 | x :: l,m=>by simp only [Y1,aK,ij l m,List.append_assoc]
structure RW (l:List Ex) (r:LQ) (k:Nat) (S:LQ):Prop where
 len:S.st.fs.length=25
 ends: ∀p∈ar S.ends,p<25
 labs: ∀h:k<l.length,S.st.labs.length+(aD l[k]).length<=24
theorem QI {l:List Ex} {st:bW} (hf:st.fs.length=25) (hb:st.labs.length+(aK l).length<=24) (k:Nat):RW l ⟨st,true,0#32,0#32⟩ k (gS (l.take k) ⟨st,true,0#32,0#32⟩):=by
 have e:aK l=aK (l.take k)++aK (l.drop k):=by rw [<-ij,Y6]
 rw [e,WX] at hb;have S:=tI (l.take k) ⟨st,true,0#32,0#32⟩ (fun x _=>pD x) hf (by rw [lv];intro p hp;cases hp) (by show st.labs.length+(aK (l.take k)).length<=24;omega)
 refine ⟨S.len,fun p hp=> ?_,fun h=> ?_⟩
 ·rcases (S.xu p).1 (ba.1 hp) with h|h
  ·simp at h
  ·have h2:p<=st.labs.length+(aK (l.take k)).length:=(fF (x6 h)).2;omega
 ·rw [S.labs,WX];rw [X1 h,aK,WX] at hb;simp only;omega
theorem Gk {l:List Ex} {k:Nat} (h:k<l.length) (r:LQ):gS (l.take (k+1)) r=cM l[k] (pC l[k] (gS (l.take k) r).st) (gS (l.take k) r):=by
 rw [Y3 h,Ae];rfl
theorem QJ (l:List Ex) (hl:l.length<=24) (hk: ∀x∈l,x.ok∧aC x=true) (H: ∀x∈l,Iv x) (st:bW) (hf:st.fs.length=25) (hb:st.labs.length+(aK l).length<=24) :
  da Tryz.prog 84 [.ptr 0 0 28 0 0, .aB 3 (l.map aM) l.length] st.os (.agg [aQ (gS l ⟨st,true,0#32,0#32⟩).first,aQ (gS l ⟨st,true,0#32,0#32⟩).ends]) (gS l ⟨st,true,0#32,0#32⟩).st.os:=by
 have e0:gS (l.take 0) ⟨st,true,0#32,0#32⟩=⟨st,true,0#32,0#32⟩:=rfl;have eZ:aQ 0#32 = .v (.int .u32 0):=rfl;simp only [aQ,bW.os,bW.row];refine gF Tryz.func84 Tryz.ntmps84 Tryz.results84 ?_
 (refine au ?_;intro K hK)
 refine bE (ι:=Nat) (fun k=>[(0, .ptr 0 0 28 0 0),(4, .ptr 2 0 2 0 0),(5, .v (.bool (gS (l.take k) ⟨st,true,0#32,0#32⟩).op)),(6,aQ (gS (l.take k) ⟨st,true,0#32,0#32⟩).ends),(10, .aB 3 (l.map aM) l.length),(11, .v (.int .i64 l.length)),(12, .v (.int .i64 k))])
  (fun k=>(gS (l.take k) ⟨st,true,0#32,0#32⟩).st.os++[some ⟨101,2,false,[[aQ (gS (l.take k) ⟨st,true,0#32,0#32⟩).first, .v (.int .u32 0)]]⟩]) (fun k=>l.length - k) (fun k=>k<=l.length) 0 (by omega) ?_ ?_
 ·simp only [e0,aQ,bW.os,bW.row,Y1,YR]
  refine fm ?_ ?_ ai
  ·exact ⟨rfl,rfl⟩
  ·rfl
 ·intro k hkl K hK;have A:=QI hf hb k;generalize hS:gS (l.take k) ⟨st,true,0#32,0#32⟩=S at A ⊢;simp only [aQ,bW.os,bW.row,Y1,YR];simp only [dV,List.foldl_cons,List.foldl_nil,List.replicate_succ,List.replicate_zero,go_sem]
  (revert K;revert K;refine au ?_;intro K hK K hK K hK)
  refine bD.part (fun h=> ?_) (fun h=> ?_)
  ·have hlt:k<l.length:=by replace h:=bG h;omega
   have eG:=getD_map aM l k [] hlt;have eW:=ak (k:=k) (by omega);have C1:=H l[k] (Ym hlt) S.st A.len (A.labs hlt);have B:=pD l[k] S.st A.len (A.labs hlt);have hx:=hk l[k] (Ym hlt);have C3:=Ew l[k] hx.1;rw [dy,hx.2,Yg] at C3
   have hNext:gS (l.take (k+1)) ⟨st,true,0#32,0#32⟩=cM l[k] (pC l[k] S.st) S:=by rw [Gk hlt,hS]
   generalize l[k]=x at *;generalize pC x S.st=b at *;have C2:=Kb b.1 S.ends b.2.1 B.len A.ends;simp only [aA] at eG C1 C3;simp only [aQ] at C1 C2
   have wE:aN 2 [.ptr 0 0 28 0 0, .agg [.v (.int .i64 x.kind), .v (.string x.label), .aB 3 (x.kids.map aM) x.kids.length]]=true:=by simp only [aN,AV.wf,br,YY,Yg];rfl
   have rE: ∀f:Nat->Nat,f 0=0->bP f [.ptr 0 0 28 0 0, .agg [.v (.int .i64 x.kind), .v (.string x.label), .aB 3 (x.kids.map aM) x.kids.length]]=[.ptr 0 0 28 0 0, .agg [.v (.int .i64 x.kind), .v (.string x.label), .aB 3 (x.kids.map aM) x.kids.length]]:=fun f hf=>by
    simp only [bP,AV.bg,hf,dJ f _ (br 0 x.kids)]
   repeat (first|(with_reducible first|refine aw.up ?_|refine fun (K:AK) hK=> ?_|(refine hK _ ?_;clear hK K))|simp only [go_sem,eG]|with_reducible refine wA ?_|clear hK K)
   refine aa.Rk C1 (rE _ rfl) wE rfl ?_;simp only [bW.os,bW.row,aQ,Y1,YR];obtain ⟨sS,op,en,fi⟩:=S;simp only at *
   ((iterate 5 revert K);refine au ?_;iterate 5 intro K hK)
   refine aa.Rk C2 rfl rfl rfl ?_;simp only [bW.os,bW.row,aQ,Y1,YR];cases op<;>cases hem:aH x
   all_goals
    rw [hem] at C3
    repeat (first|(with_reducible first|refine aw.up ?_|refine fun (K:AK) hK=> ?_|(refine hK _ ?_;clear hK K))|simp only [go_sem,lJ]|with_reducible refine wA ?_|clear hK K)
    refine aa.one C3 ?_
    repeat (first|(with_reducible first|refine aw.up ?_|refine fun (K:AK) hK=> ?_|(refine hK _ ?_;clear hK K))|simp only [go_sem,lJ]|with_reducible refine wA ?_|clear hK K)
    refine az.mk (k+1) (by omega) (by omega) ?_;rw [hNext];simp only [cM,hem,bW.os,bW.row,aQ,Y1,YR,if_true,if_false,Bool.false_eq_true];refine bl ?_ ai
    all_goals first|exact eW|exact ⟨lJ 0#32 _,eW⟩|exact ⟨lJ _ _,eW⟩
  ·have hkl':k=l.length:=by replace h:=bG h;omega
   have eT:gS l ⟨st,true,0#32,0#32⟩=S:=by rw [<-hS,hkl',List.take_length]
   ((iterate 3 revert K);refine au ?_)
   (refine ⟨?_, ?_, ?_⟩<;>simp only [dv,ku,AV.v.injEq,Value.int.injEq,Value.bool.injEq,Value.string.injEq,AV.vec.injEq,AV.ptr.injEq,true_or,or_true,false_or,or_false,ab.mk.injEq,forall_eq_apply_imp_iff,forall_eq,forall_eq',go_sem])
   ·rw [eT]
   ·rw [eT];exact ⟨rfl,rfl⟩
theorem Gj {l:List Ex} {k:Nat} (h:k<l.length) (r:bW×BitVec 32×BitVec 32):fH (l.take (k+1)) r=((pC l[k] (fH (l.take k) r).1).1,(fH (l.take k) r).2.1 ||| (pC l[k] (fH (l.take k) r).1).2.1,(fH (l.take k) r).2.2 ||| (pC l[k] (fH (l.take k) r).1).2.2):=by
 rw [Y3 h,Ad];rfl
structure RI (l:List Ex) (k:Nat) (S:bW×BitVec 32×BitVec 32):Prop where
 len:S.1.fs.length=25
 xu: ∀p∈ar S.2.2,p<25
 labs: ∀h:k<l.length,S.1.labs.length+(aD l[k]).length<=24
theorem PN {l:List Ex} {st:bW} (hf:st.fs.length=25) (hb:st.labs.length+(aK l).length<=24) (k:Nat):RI l k (fH (l.take k) (st,0#32,0#32)):=by
 have e:aK l=aK (l.take k)++aK (l.drop k):=by rw [<-ij,Y6]
 rw [e,WX] at hb;have S:=tH (l.take k) (st,0#32,0#32) (fun x _=>pD x) hf (by show st.labs.length+(aK (l.take k)).length<=24;omega)
 refine ⟨S.len,fun p hp=> ?_,fun h=> ?_⟩
 ·rcases (S.xu p).1 (ba.1 hp) with h|h
  ·simp at h
  ·have h2:p<=st.labs.length+(aK (l.take k)).length:=(fF h).2;omega
 ·rw [S.labs,WX];rw [X1 h,aK,WX] at hb;simp only;omega
theorem lW {k:Int} {s:ByteArray} {l:List Ex} (h:aC (.mk k s l)=true): ∀x∈l,aC x=true:=fun x hx=>by
 simp only [aC,Bool.and_eq_true,decide_eq_true_eq,List.all_eq_true] at h ⊢
 have hs: ∀y,y∈aj x->y∈aj (.mk k s l):=fun y hy=>by
  rw [aj,bo];exact List.mem_cons_of_mem _ (List.mem_flatMap.2 ⟨x,hx,hy⟩)
 refine ⟨?_,fun y hy=>h.2 y (hs y hy)⟩
 have:=fW (.mk k s l) x (hs x (by obtain ⟨k',s',l'⟩:=x;rw [aj];exact List.mem_cons_self))
 omega
theorem Ff: ∀ {l:List Ex},jb l-> ∀x∈l,x.ok
 | [],_,x,hx=>by cases hx
 | y :: l,h,x,hx=>by
  rw [jb] at h
  rcases List.mem_cons.1 hx with rfl|hx
  ·exact h.1
  ·exact Ff h.2 x hx
theorem Qz (x:Ex) (ho:x.ok) (hr:aC x=true):Iv x:=by
 induction x using Ex.ind with
 | h k s l ih=>
  intro st hf hb;have hkid: ∀x∈l,x.ok∧aC x=true:=fun x hx=>⟨Ff (by rw [Ex.ok] at ho;exact ho.2) x hx,lW hr x hx⟩;have H: ∀x∈l,Iv x:=fun x hx=>ih x hx (hkid x hx).1 (hkid x hx).2
  have hl:l.length<=24:=by
   simp only [aC,Bool.and_eq_true,decide_eq_true_eq] at hr
   have:=j8 (.mk k s l);simp only [Ex.kids] at this;omega
  by_cases h1:k=1
  ·subst h1;rw [aD,if_pos rfl] at hb;simp only [List.length_singleton] at hb;have C:=Qu ((st.labs.length+1:Nat):Int)
   have eL:(st.labs++[s]).map encS=st.labs.map encS++[[.v (.string s)]]:=by simp [encS]
   have eN:(st.labs++[s]).length=st.labs.length+1:=by simp
   rw [pC,if_pos rfl];simp only [aA,Ex.kind,Ex.label,Ex.kids,aQ,bW.os,bW.row,eL,eN] at C ⊢;refine gF Tryz.func54 Tryz.ntmps54 Tryz.results54 ?_
   repeat ((fail_if_success (with_reducible refine bm (i:=3) ?_));first|(with_reducible first|refine aw.up ?_|refine fun (K:AK) hK=> ?_|refine ae (by decide) ?_|refine ag (by decide) ?_|(refine hK _ ?_;clear hK K))|simp only [go_sem,Go.undef]|with_reducible refine wA ?_|(refine cP rfl ?_)|(refine cn rfl ?_)|clear hK K)
   refine bA [8,11] [] (by decide+kernel) (by kernel_rfl) ?_
   repeat (first|(with_reducible first|refine aw.up ?_|refine fun (K:AK) hK=> ?_|refine ae (by decide) ?_|refine ag (by decide) ?_|(refine hK _ ?_;clear hK K))|simp only [go_sem]|with_reducible refine wA ?_|(refine cP rfl ?_)|(refine cn rfl ?_)|clear hK K)
   refine aa.one C ?_
   ((iterate 3 revert K);refine uh ?_)
   (refine ⟨?_, ?_, ?_⟩<;>simp only [dv,ku,AV.v.injEq,Value.int.injEq,Value.bool.injEq,Value.string.injEq,AV.vec.injEq,AV.ptr.injEq,true_or,or_true,false_or,or_false,ab.mk.injEq,forall_eq_apply_imp_iff,forall_eq,forall_eq',go_sem])
  ·have f1:(k==1)=false:=beq_false_of_ne h1;rw [cW h1] at hb;rw [pC,if_neg h1]
   have wE:aN 2 [.ptr 0 0 28 0 0, .aB 3 (l.map aM) l.length]=true:=by simp only [aN,AV.wf,br,YY,Yg];rfl
   have rE: ∀f:Nat->Nat,f 0=0->bP f [.ptr 0 0 28 0 0, .aB 3 (l.map aM) l.length]=[.ptr 0 0 28 0 0, .aB 3 (l.map aM) l.length]:=fun f hf=>by
    simp only [bP,AV.bg,hf,dJ f _ (br 0 l)]
   by_cases h2:k=2
   ·subst h2;have C:=QJ l hl hkid H st hf hb;rw [if_pos rfl];generalize gS l ⟨st,true,0#32,0#32⟩=R at *;simp only [aA,Ex.kind,Ex.label,Ex.kids,aQ] at C ⊢;refine gF Tryz.func54 Tryz.ntmps54 Tryz.results54 ?_
    repeat ((fail_if_success (with_reducible refine bm (i:=3) ?_));first|(with_reducible first|refine aw.up ?_|refine fun (K:AK) hK=> ?_|refine ae (by decide) ?_|refine ag (by decide) ?_|(refine hK _ ?_;clear hK K))|simp only [go_sem,f1,bW.os,bW.row,aQ]|with_reducible refine wA ?_|(refine cP rfl ?_)|(refine cn rfl ?_)|clear hK K)
    refine aa.Rk C (rE _ rfl) wE rfl ?_;simp only [bW.os,bW.row,aQ,Y1,YR]
    ((iterate 3 revert K);refine uh ?_)
    (refine ⟨?_, ?_, ?_⟩<;>simp only [dv,ku,AV.v.injEq,Value.int.injEq,Value.bool.injEq,Value.string.injEq,AV.vec.injEq,AV.ptr.injEq,true_or,or_true,false_or,or_false,ab.mk.injEq,forall_eq_apply_imp_iff,forall_eq,forall_eq',go_sem])
   ·have f2:(k==2)=false:=beq_false_of_ne h2;rw [if_neg h2];have e0:fH (l.take 0) (st,0#32,0#32)=(st,0#32,0#32):=rfl;simp only [aA,Ex.kind,Ex.label,Ex.kids,aQ];refine gF Tryz.func54 Tryz.ntmps54 Tryz.results54 ?_
    repeat ((fail_if_success (with_reducible refine bm (i:=3) ?_));first|(with_reducible first|refine aw.up ?_|refine fun (K:AK) hK=> ?_|refine ae (by decide) ?_|refine ag (by decide) ?_|(refine hK _ ?_;clear hK K))|simp only [go_sem,f1,f2,bW.os,bW.row,aQ]|with_reducible refine wA ?_|(refine cP rfl ?_)|(refine cn rfl ?_)|clear hK K)
    refine bE (ι:=Nat) (fun j=>[(0, .ptr 0 0 28 0 0),(3, .ptr 2 0 3 0 0),(4, .ptr 3 0 2 0 0),(40, .aB 3 (l.map aM) l.length),(41, .v (.int .i64 l.length)),(42, .v (.int .i64 j))])
     (fun j=>(fH (l.take j) (st,0#32,0#32)).1.os++[some ⟨25,3,false,[[.v (.int .i64 k), .v (.string s), .aB 3 (l.map aM) l.length]]⟩,some ⟨101,2,false,[[aQ (fH (l.take j) (st,0#32,0#32)).2.1,aQ (fH (l.take j) (st,0#32,0#32)).2.2]]⟩]) (fun j=>l.length - j) (fun j=>j<=l.length) 0 (by omega) ?_ ?_
    ·simp only [e0,aQ,bW.os,bW.row,Y1,YR];refine fm ?_ ?_ ai
     all_goals first|rfl|exact ⟨rfl,rfl⟩
    ·intro j hjl K hK;have A:=PN hf hb j;generalize hS:fH (l.take j) (st,0#32,0#32)=S at A ⊢;simp only [aQ,bW.os,bW.row,Y1,YR];simp only [dV,List.foldl_cons,List.foldl_nil,List.replicate_succ,List.replicate_zero,go_sem]
     (revert K;revert K;refine uh ?_;intro K hK K hK K hK)
     refine bD.part (fun h=> ?_) (fun h=> ?_)
     ·have hlt:j<l.length:=by replace h:=pf h;omega
      have eG:=getD_map aM l j [] hlt;have eW:=ak (k:=j) (by omega);have C1:=H l[j] (Ym hlt) S.1 A.len (A.labs hlt);have hNext:=Gj hlt (st,0#32,0#32);rw [hS] at hNext;generalize l[j]=x at *;generalize pC x S.1=b at *;simp only [aA] at eG C1;simp only [aQ] at C1
      have wX:aN 2 [.ptr 0 0 28 0 0, .agg [.v (.int .i64 x.kind), .v (.string x.label), .aB 3 (x.kids.map aM) x.kids.length]]=true:=by simp only [aN,AV.wf,br,YY,Yg];rfl
      have rX: ∀f:Nat->Nat,f 0=0->bP f [.ptr 0 0 28 0 0, .agg [.v (.int .i64 x.kind), .v (.string x.label), .aB 3 (x.kids.map aM) x.kids.length]]=[.ptr 0 0 28 0 0, .agg [.v (.int .i64 x.kind), .v (.string x.label), .aB 3 (x.kids.map aM) x.kids.length]]:=fun f hf=>by
       simp only [bP,AV.bg,hf,dJ f _ (br 0 x.kids)]
      obtain ⟨sS,fi,la⟩:=S;simp only at *
      repeat (first|(with_reducible first|refine aw.up ?_|refine fun (K:AK) hK=> ?_|refine ae (by decide) ?_|refine ag (by decide) ?_|(refine hK _ ?_;clear hK K))|simp only [go_sem,eG]|with_reducible refine wA ?_|(refine cP rfl ?_)|(refine cn rfl ?_)|clear hK K)
      refine aa.Rk C1 (rX _ rfl) wX rfl ?_;simp only [bW.os,bW.row,aQ,Y1,YR]
      repeat ((fail_if_success (with_reducible refine bm (i:=12) ?_));first|(with_reducible first|refine aw.up ?_|refine fun (K:AK) hK=> ?_|refine ae (by decide) ?_|refine ag (by decide) ?_|(refine hK _ ?_;clear hK K))|simp only [go_sem,lJ]|with_reducible refine wA ?_|(refine cP rfl ?_)|(refine cn rfl ?_)|clear hK K)
      refine bA [11,13] [(8,1000)] (by decide+kernel) (by kernel_rfl) ?_
      repeat (first|(with_reducible first|refine aw.up ?_|refine fun (K:AK) hK=> ?_|refine ae (by decide) ?_|refine ag (by decide) ?_|(refine hK _ ?_;clear hK K))|simp only [go_sem,lJ]|with_reducible refine wA ?_|(refine cP rfl ?_)|(refine cn rfl ?_)|clear hK K)
      refine az.mk (j+1) (by omega) (by omega) ?_;rw [hNext];simp only [bW.os,bW.row,aQ,Y1,YR];refine bl ?_ ai
      all_goals first|exact eW|skip
     ·have hjl':j=l.length:=by replace h:=pf h;omega
      have eT:fH l (st,0#32,0#32)=S:=by rw [<-hS,hjl',List.take_length]
      have C:=Kb S.1 S.2.2 S.2.1 A.len A.xu;obtain ⟨sS,fi,la⟩:=S;simp only at *;simp only [aQ] at C
      by_cases h4:k=4
      ·subst h4
       ((iterate 3 revert K);refine JD ?_;intro K hK K hK)
       refine aa.Rk C rfl rfl rfl ?_;simp only [bW.os,bW.row,aQ,Y1,YR]
       (revert K;revert K;refine uh ?_)
       rw [eT];simp only [true_or,if_true,bW.os,bW.row,aQ]
       (refine ⟨?_, ?_, ?_⟩<;>simp only [dv,ku,AV.v.injEq,Value.int.injEq,Value.bool.injEq,Value.string.injEq,AV.vec.injEq,AV.ptr.injEq,true_or,or_true,false_or,or_false,ab.mk.injEq,forall_eq_apply_imp_iff,forall_eq,forall_eq',go_sem])
      ·by_cases h5:k=5
       ·subst h5
        ((iterate 3 revert K);refine JD ?_;intro K hK K hK)
        refine aa.Rk C rfl rfl rfl ?_;simp only [bW.os,bW.row,aQ,Y1,YR]
        (revert K;revert K;refine uh ?_)
        rw [eT];simp only [or_true,if_true,bW.os,bW.row,aQ]
        (refine ⟨?_, ?_, ?_⟩<;>simp only [dv,ku,AV.v.injEq,Value.int.injEq,Value.bool.injEq,Value.string.injEq,AV.vec.injEq,AV.ptr.injEq,true_or,or_true,false_or,or_false,ab.mk.injEq,forall_eq_apply_imp_iff,forall_eq,forall_eq',go_sem])
       ·have f4:(k==4)=false:=beq_false_of_ne h4;have f5:(k==5)=false:=beq_false_of_ne h5
        ((iterate 3 revert K);refine Qa f4 f5 ?_)
        rw [eT];simp only [h4,h5,or_self,if_false,bW.os,bW.row,aQ]
        (refine ⟨?_, ?_, ?_⟩<;>simp only [dv,ku,AV.v.injEq,Value.int.injEq,Value.bool.injEq,Value.string.injEq,AV.vec.injEq,AV.ptr.injEq,true_or,or_true,false_or,or_false,ab.mk.injEq,forall_eq_apply_imp_iff,forall_eq,forall_eq',go_sem])
def iJ (s:bW):List AV:= .aB 1 (s.labs.map encS) s.labs.length :: (s.fs.map aQ++[aQ s.la, .v (.bool s.em)])
theorem zB (n:Nat) (s:bW):aN n (iJ s)=true:=by simp only [iJ,aQ,aN,AV.wf,Eo,aO,Bool.and_self]
attribute [go_sem] zB
theorem Qq (s:bW):aq Tryz.prog 92 [.vp (iJ s)] (.v (.int .i64 s.labs.length)):=by
 simp only [iJ,aQ];refine gE Tryz.func92 Tryz.ntmps92 Tryz.results92 ?_
 repeat' (first|(with_reducible first|refine aw.up ?_|refine fun (K:AK) hK=> ?_|(refine hK _ ?_;clear hK K))|simp only [go_sem]|clear hK K|(with_reducible refine aa.one (by assumption) ?_)|(with_reducible refine aE.one (by assumption) ?_)|(refine bD.part (fun hb=> ?_) (fun hb=> ?_)<;>simp only [hb,go_sem])|(refine bD.part (fun hb=> ?_) (fun hb=> ?_))|(with_reducible refine mw.mk ?_ ?_))
theorem NL (s:bW) (hf:s.fs.length=25):aq Tryz.prog 57 [.vp (iJ s)] (.aB 1 (aJ (ar s.la)) (ar s.la).length):=by
 have C:=Kc s.la
 have eD:List.drop 25 (s.fs.map aQ++[.v (.int .u32 s.la.toNat), .v (.bool s.em)])=[.v (.int .u32 s.la.toNat), .v (.bool s.em)]:=by rw [List.drop_append_of_le_length (by simp [hf]),List.drop_eq_nil_of_le (by simp [hf])];rfl
 simp only [iJ,aQ] at *;refine gE Tryz.func57 Tryz.ntmps57 Tryz.results57 ?_
 (refine JB eD ?_;intro K hK K hK)
 refine aa.one C ?_
 (revert K;revert K;refine bq ?_)
 (refine gd.of 40 rfl ?_;simp only [go_sem])
theorem Ko (s:bW) (hf:s.fs.length=25):aq Tryz.prog 62 [.vp (iJ s)] (.v (.bool s.em)):=by
 have eD:List.drop 26 (s.fs.map aQ++[.v (.int .u32 s.la.toNat), .v (.bool s.em)])=[.v (.bool s.em)]:=by
  rw [show 26=s.fs.length+1 by omega,show (s.fs.length+1)=(s.fs.map aQ).length+1 by simp,List.drop_append];simp
 simp only [iJ,aQ] at *;refine gE Tryz.func62 Tryz.ntmps62 Tryz.results62 ?_;exact Pb eD
def e7 (s:bW) (p:Int):ByteArray:=if 1<=p∧p<=s.labs.length then s.labs.getD (p - 1).toNat ⟨#[]⟩ else ⟨#[]⟩
def Vy (s:bW) (p:Int):List Nat:=if 1<=p∧p<=s.labs.length then ar (s.fs.getD p.toNat 0#32) else []
theorem GW {s:bW} {p:Int} (h1:1<=p) (h2:p<=s.labs.length):(s.labs.map encS).getD (p - 1).toNat []=[.v (.string (e7 s p))]:=by
 have hlt:(p - 1).toNat<s.labs.length:=by omega
 rw [e7,if_pos ⟨h1,h2⟩];rw [XR,XR,List.getElem?_map,List.getElem?_eq_getElem hlt];rfl
theorem Jy {fs:List (BitVec 32)} {X:List AV} {p:Nat} (h:p<fs.length): ∃r,(fs.map aQ++X).drop (p * 1)=aQ (fs.getD p 0#32) :: r:=by
 obtain ⟨r,e⟩:=EZ (l:= .undef) (X:=X) h;rw [Nat.add_comm,List.drop_succ_cons] at e;exact ⟨r,e⟩
def o5 (s:bW) (l:List Nat):BitVec 32:=l.foldl (fun t p=>t ||| s.fs.getD p 0#32) 0#32
def uw (s:bW) (lab:ByteArray) (t:BitVec 32) (p:Nat):BitVec 32:=if (e7 s p).toList==lab.toList then t else t &&& ~~~ ofM p
def me (s:bW) (lab:ByteArray) (l:List Nat) (t:BitVec 32):BitVec 32:=l.foldl (uw s lab) t
def iO (s:bW) (dV:BitVec 32) (lab:ByteArray):BitVec 32:=me s lab (ar (o5 s (ar dV))) (o5 s (ar dV))
theorem Hf (s:bW) (l:List Nat) (p:Nat):o5 s (l++[p])=o5 s l ||| s.fs.getD p 0#32:=by rw [o5,YQ];rfl
theorem DG (s:bW) (lab:ByteArray) (l:List Nat) (t:BitVec 32) (p:Nat):me s lab (l++[p]) t=uw s lab (me s lab l t) p:=by rw [me,YQ];rfl
theorem QO (s:bW) (fr:BitVec 32) (lab:ByteArray) (hf:s.fs.length=25) (hn:s.labs.length<=24) (h1: ∀p∈ar fr,p<25) (h2: ∀p∈ar (o5 s (ar fr)),1<=p∧p<=s.labs.length) :
  aq Tryz.prog 93 [.vp (iJ s),aQ fr, .v (.string lab)] (aQ (iO s fr lab)):=by
 have A1:=qq fr;have A2:=qq (o5 s (ar fr));have O:=fun p=>Qu p;have hV:=zB;obtain ⟨V,hVe⟩: ∃V,V=iJ s:=⟨_,rfl⟩;simp only [oH,aQ] at *;refine gE Tryz.func93 Tryz.ntmps93 Tryz.results93 ?_
 (refine ui ?_;intro K hK K hK K hK)
 refine aa.fr [] A1 (by simp) ?_ ?_ ?_ ?_ ?_
 ·rfl
 ·rfl
 ·rfl
 ·intro k ob hk;simp at hk
 ((iterate 3 revert K);refine ui ?_;intro K hK)
 refine jg fr 3 (by simp only [oH,aQ];rfl) 7 (fun k=>[some ⟨61,1,false,[[.vp (iJ s)]]⟩,some ⟨9,1,false,[[.v (.string lab)]]⟩,some ⟨96,1,false,[[aQ (o5 s ((ar fr).take k))]]⟩,none]) (fun _=>True) trivial ?_ rfl ?_ (by kernel_rfl) (by kernel_rfl) rfl ?_ ?_
 ·rfl
 ·simp only [aQ];refine mb ?_ ai
  all_goals rfl
 ·intro k hk _;have hp:=h1 _ (List.getElem_mem hk);rw [Y3 hk,Hf];generalize o5 s ((ar fr).take k)=T at *;generalize (ar fr)[k]=p at *;obtain ⟨r,eD⟩:=Jy (X:=[.v (.int .u32 s.la.toNat), .v (.bool s.em)]) (fs:=s.fs) (p:=p) (by omega);simp only [aQ,iJ] at eD ⊢
  repeat (first|(with_reducible first|refine aw.up ?_|refine fun (K:AK) hK=> ?_|refine wE ?_|refine wD ?_|refine wK ?_|refine wF ?_|refine ae (by decide) ?_|refine ag (by decide) ?_|(refine hK _ ?_;clear hK K))|simp only [go_sem,eD,lJ]|with_reducible refine wA ?_|clear hK K)
  exact aR ai
 ·intro _;have e1:(ar fr).take (ar fr).length=ar fr:=List.take_length;simp only [e1,aQ,iJ]
  (revert K;refine ui ?_;intro K hK K hK K hK)
  refine aa.fr [] A2 (by simp) ?_ ?_ ?_ ?_ ?_
  ·rfl
  ·rfl
  ·rfl
  ·intro k ob hk;simp at hk
  ((iterate 3 revert K);refine ui ?_;intro K hK)
  have hS:iO s fr lab=me s lab (ar (o5 s (ar fr))) (o5 s (ar fr)):=rfl;generalize o5 s (ar fr)=T at *
  refine jg T 4 (by simp only [oH,aQ];rfl) 7 (fun k=>[some ⟨61,1,false,[[.vp (iJ s)]]⟩,some ⟨9,1,false,[[.v (.string lab)]]⟩,some ⟨96,1,false,[[aQ (me s lab ((ar T).take k) T)]]⟩,none,none]) (fun _=>True) trivial ?_ rfl ?_ (by kernel_rfl) (by kernel_rfl) rfl ?_ ?_
  ·rfl
  ·simp only [aQ,iJ];refine mb ?_ ai
   all_goals rfl
  ·intro k hk _;have hp:=h2 _ (List.getElem_mem hk);rw [Y3 hk,DG,uw];generalize me s lab ((ar T).take k) T=U at *;generalize (ar T)[k]=p at *;have eG:=GW (s:=s) (p:=p) (by omega) (by omega);have eW:IntKind.i64.wrap ((p:Int) - 1)=(p:Int) - 1:=bH (by omega) (by omega);have C:=O p;simp only [aQ,iJ]
   cases hq:(e7 s p).toList==lab.toList
   ·simp only [Yk,if_false]
    repeat ((fail_if_success (with_reducible refine bm (i:=7) ?_));first|(with_reducible first|refine aw.up ?_|refine fun (K:AK) hK=> ?_|refine wK ?_|refine wF ?_|refine ae (by decide) ?_|refine ag (by decide) ?_|(refine hK _ ?_;clear hK K))|simp only [go_sem,eG,eW,hq]|with_reducible refine wA ?_|clear hK K)
    refine wD ?_
    repeat (first|(with_reducible first|refine aw.up ?_|refine fun (K:AK) hK=> ?_|refine wK ?_|refine wF ?_|refine ae (by decide) ?_|refine ag (by decide) ?_|(refine hK _ ?_;clear hK K))|simp only [go_sem,eG,eW,hq]|with_reducible refine wA ?_|clear hK K)
    refine bA [4] [] (by decide+kernel) (by kernel_rfl) ?_
    (revert K;refine Qe eG eW hq ?_;intro K hK K hK)
    refine aE.one C ?_
    repeat (first|(with_reducible first|refine aw.up ?_|refine fun (K:AK) hK=> ?_|refine wK ?_|refine wF ?_|refine ae (by decide) ?_|refine ag (by decide) ?_|(refine hK _ ?_;clear hK K))|simp only [go_sem,NG]|with_reducible refine wA ?_|clear hK K)
    exact aR ai
    all_goals rfl
   ·simp only [if_true]
    repeat (first|(with_reducible first|refine aw.up ?_|refine fun (K:AK) hK=> ?_|refine wE ?_|refine wD ?_|refine wK ?_|refine wF ?_|refine ae (by decide) ?_|refine ag (by decide) ?_|(refine hK _ ?_;clear hK K))|simp only [go_sem,eG,eW,hq]|with_reducible refine wA ?_|clear hK K)
    exact aR ai
    all_goals rfl
  ·intro _;have e2:(ar T).take (ar T).length=ar T:=List.take_length;simp only [e2,aQ,iJ]
   (revert K;refine ui ?_)
   rw [hS]
structure zN (s:bW):Prop where
 len:s.fs.length=25
 n:s.labs.length<=24
 rY: ∀p q,(s.fs.getD p 0#32).getLsbD q=true->1<=q∧q<=s.labs.length
 la: ∀q,s.la.getLsbD q=true->1<=q∧q<=s.labs.length
theorem ua {f:Nat->BitVec 32} {q:Nat}: ∀(l:List Nat) (t:BitVec 32),(l.foldl (fun t p=>t ||| f p) t).getLsbD q=true↔t.getLsbD q=true∨ ∃p∈l,(f p).getLsbD q=true
 | [],t=>by simp
 | x :: l,t=>by
  rw [Yw,ua l,BitVec.getLsbD_or,Bool.or_eq_true];simp only [Yj,exists_eq_or_imp,or_assoc]
theorem qa {s:bW} {l:List Nat} {q:Nat}:(o5 s l).getLsbD q=true ↔ ∃p∈l,(s.fs.getD p 0#32).getLsbD q=true:=by
 rw [o5,ua];simp
theorem re {s:bW} {lab:ByteArray} {q:Nat} (hq:q<=24): ∀(l:List Nat) (t:BitVec 32),(me s lab l t).getLsbD q=true↔t.getLsbD q=true∧(q∈l->((e7 s q).toList==lab.toList)=true)
 | [],t=>by simp [me]
 | x :: l,t=>by
  rw [me,Yw, <- me,re hq l,uw]
  split
  ·rename_i h;simp only [Yj]
   constructor
   ·rintro ⟨h1,h2⟩;exact ⟨h1,fun hh=>hh.elim (fun e=>by rw [e];exact h) h2⟩
   ·rintro ⟨h1,h2⟩;exact ⟨h1,fun hh=>h2 (.inr hh)⟩
  ·rename_i h;rw [YJ,BitVec.getLsbD_not,p9];simp only [Yj]
   constructor
   ·rintro ⟨h1,h2⟩;simp only [XK,Bool.not_eq_true',decide_eq_false_iff_not,decide_eq_true_eq] at h1;have hne:q≠x:=fun e=>h1.2.2 ⟨by omega,by omega,by omega⟩;exact ⟨h1.1,fun hh=>hh.elim (fun e=>absurd e hne) h2⟩
   ·rintro ⟨h1,h2⟩;have hne:q≠x:=fun e=>h (by rw [<-e];exact h2 (.inl e));refine ⟨?_,fun hh=>h2 (.inr hh)⟩;simp only [XK,Bool.not_eq_true',decide_eq_false_iff_not,decide_eq_true_eq];exact ⟨h1,by omega,fun hh=>hne (by omega)⟩
theorem lg {s:bW} (ok:zN s) {m:BitVec 32} {lab:ByteArray} {q:Nat}:(iO s m lab).getLsbD q=true ↔ ∃p,m.getLsbD p=true∧(s.fs.getD p 0#32).getLsbD q=true∧(e7 s q).toList=lab.toList:=by
 have hb: ∀q,(o5 s (ar m)).getLsbD q=true->1<=q∧q<=s.labs.length:=fun q h=>by
  obtain ⟨p,_,h⟩:=qa.1 h;exact ok.rY p q h
 have sub: ∀(l:List Nat) (t:BitVec 32),(me s lab l t).getLsbD q=true->t.getLsbD q=true:=fun l=>by
  induction l with
  | nil=>intro t h;exact h
  | cons x l ih=>
   intro t h
   have:=ih _ h
   rw [uw] at this
   split at this
   ·exact this
   ·rw [YJ,XK] at this;exact this.1
 constructor
 ·intro h;have h1:=sub _ _ h;have h2:=hb q h1;have h3:=ok.n
  have:=((re (by omega) _ _).1 h).2 (ba.2 h1)
  obtain ⟨p,h4,h5⟩:=qa.1 h1;exact ⟨p,ba.1 h4,h5,by simpa using this⟩
 ·rintro ⟨p,h1,h2,h3⟩;have h4:=ok.rY p q h2;have h5:=ok.n;exact (re (by omega) _ _).2 ⟨qa.2 ⟨p,ba.2 h1,h2⟩,fun _=>by simpa using h3⟩
theorem Ol {s:bW} (ok:zN s) (m:BitVec 32) (lab:ByteArray) (h1: ∀p∈ar m,p<25):aq Tryz.prog 93 [.vp (iJ s),aQ m, .v (.string lab)] (aQ (iO s m lab)):=
 QO s m lab ok.len ok.n h1 (fun p hp=>by
  obtain ⟨q,_,h⟩:=qa.1 (ba.1 hp)
  exact ok.rY _ _ h)
def ud (s:bW) (t:BitVec 32) (p:Int):BitVec 32:=if p<=s.labs.length then t ||| ofM p else t
def fU (s:bW) (l:List Int):BitVec 32:=l.foldl (ud s) 0#32
theorem Dp (s:bW) (l:List Int) (p:Int):fU s (l++[p])=ud s (fU s l) p:=by rw [fU,YQ];rfl
theorem kQ {s:bW} (ok:zN s) {q:Nat}: ∀(l:List Int) (t:BitVec 32),(l.foldl (ud s) t).getLsbD q=true↔t.getLsbD q=true∨((q:Int)∈l∧q<=s.labs.length)
 | [],t=>by simp
 | x :: l,t=>by
  have hn:=ok.n;rw [Yw,kQ ok l,ud,Yj]
  split
  ·rename_i h;rw [BitVec.getLsbD_or,Bool.or_eq_true,p9,decide_eq_true_eq]
   constructor
   ·rintro ((h|h)|h)
    ·exact .inl h
    ·exact .inr ⟨.inl h.2.2,by omega⟩
    ·exact .inr ⟨.inr h.1,h.2⟩
   ·rintro (h|⟨h|h,h2⟩)
    ·exact .inl (.inl h)
    ·exact .inl (.inr ⟨by omega,by omega,h⟩)
    ·exact .inr ⟨h,h2⟩
  ·rename_i h
   constructor
   ·rintro (h|h)
    ·exact .inl h
    ·exact .inr ⟨.inr h.1,h.2⟩
   ·rintro (h|⟨h|h,h2⟩)
    ·exact .inl h
    ·exfalso;omega
    ·exact .inr ⟨h,h2⟩
theorem Jv {s:bW} (ok:zN s) (l:List Int): ∀p∈ar (fU s l),p<25:=fun p hp=>by
 have:=(kQ ok l 0#32).1 (ba.1 hp)
 have:=ok.n
 simp at *; omega
theorem NM {s:bW} (ok:zN s) (l:List Int) (lab:ByteArray) (hl:l.length<=1000000):aq Tryz.prog 59 [.vp (iJ s), .aB 1 (l.map encI) l.length, .v (.string lab)]
  (.aB 1 (aJ (ar (iO s (fU s l) lab))) (ar (iO s (fU s l) lab)).length):=by
 have L:=Qq s;have S:=Ol ok (fU s l) lab (Jv ok l);have B:=Kc (iO s (fU s l) lab);have O:=fun p=>Qu p;have eZ:aQ 0#32 = .v (.int .u32 0):=rfl;generalize hR:iO s (fU s l) lab=R at *;simp only [aQ] at *;refine gE Tryz.func59 Tryz.ntmps59 Tryz.results59 ?_
 (refine au ?_;intro K hK)
 refine bE (ι:=Nat) (fun k=>[(0, .vp (iJ s)),(1, .aB 1 (l.map encI) l.length),(2, .v (.string lab)),(6, .v (.slice none 0 0)),(7,aQ (fU s (l.take k))),(12, .aB 1 (l.map encI) l.length),(13, .v (.int .i64 l.length)),(14, .v (.int .i64 k))]) (fun k=>[]) (fun k=>l.length - k) (fun k=>k<=l.length) 0 (by omega) ?_ ?_
 ·simp only [aQ];refine bl ?_ ai;exact ⟨rfl,rfl⟩
 ·intro k hkl K hK;simp only [aQ];simp only [dV,Yw,List.foldl_nil,List.replicate_succ,List.replicate_zero,go_sem]
  (revert K;revert K;refine au ?_;intro K hK K hK K hK)
  refine bD.part (fun h=> ?_) (fun h=> ?_)
  ·have hlt:k<l.length:=by replace h:=bG h;omega
   have eG:=getD_map encI l k [] hlt;have eW:=ak (k:=k) (by omega);have hN:=Dp s (l.take k) l[k];rw [<-Y3 hlt,ud] at hN;have Ok:=O l[k];simp only [encI] at eG
   repeat (first|(with_reducible first|refine aw.up ?_|refine fun (K:AK) hK=> ?_|(refine hK _ ?_;clear hK K))|simp only [go_sem,eG]|with_reducible refine wA ?_|clear hK K)
   refine aa.one L ?_
   ((iterate 5 revert K);refine au ?_;intro K hK K hK K hK)
   refine bD.part (fun h=> ?_) (fun h=> ?_)
   ·rw [if_pos (by replace h:=bG h;omega)] at hN
    ((iterate 3 revert K);refine au ?_;iterate 4 intro K hK)
    refine aa.one Ok ?_
    ((iterate 4 revert K);refine P9 ?_)
    refine az.mk (k+1) (by omega) (by omega) ?_;rw [hN];simp only [aQ];refine bl ?_ ai
    all_goals first|exact eW|skip
   ·rw [if_neg (by replace h:=bG h;omega)] at hN
    ((iterate 3 revert K);refine au ?_)
    refine az.mk (k+1) (by omega) (by omega) ?_;rw [hN];simp only [aQ];refine bl ?_ ai
    all_goals first|exact eW|skip
  ·have e1:l.take k=l:=Y7 (by replace h:=bG h;omega);simp only [e1]
   ((iterate 3 revert K);refine au ?_;intro K hK K hK)
   refine aa.one S ?_
   (revert K;revert K;refine au ?_;intro K hK K hK)
   refine aa.one B ?_
   (revert K;revert K;refine au ?_)
   (refine gd.of 40 rfl ?_;simp only [go_sem])
def runM (s:bW) (w:List ByteArray):BitVec 32:=w.foldl (iO s) (ofM 0)
def vH (s:bW) (w:List ByteArray):Bool:=if w.length=0 then s.em else runM s w &&& s.la !=0#32
theorem Jw {o:List (Option ab)}: ∀(L:List AV) (n:Nat),(∀c∈L, ∃x,c = .v x)->L.length+2<=n-> ∃p,gk o n L=some (p,L)∧p
 | [],n+1,_,_=>⟨True,rfl,trivial⟩
 | a :: l,n+2,hL,hn=>by
  obtain ⟨x,rfl⟩:=hL a (by simp);obtain ⟨p,h1,h2⟩:=Jw (o:=o) l (n+1) (fun c hc=>hL c (by simp [hc])) (by simp at hn;omega);exact ⟨((AV.v x).wf 0=true)∧p,by rw [gk,h1];rfl,rfl,h2⟩
 | a :: l,0,_,hn=>by simp at hn
 | a :: l,1,_,hn=>by simp at hn
 | [],0,_,hn=>by simp at hn
def zs (x:Ex):bW:=⟨[],List.replicate 25 0#32,0#32,dy x⟩
def aT (x:Ex):bW:={ (pC x (zs x)).1 with fs:=(pC x (zs x)).1.fs.set 0 (pC x (zs x)).2.1,la:=(pC x (zs x)).2.2 }
theorem GY (x:Ex):(aD x).length<=(aj x).length:=by
 induction x using Ex.ind with
 | h k s l ih=>
  have hl: ∀m:List Ex,(∀y∈m,(aD y).length<=(aj y).length)->(aK m).length<=(bM m).length:=fun m=>by
   induction m with
   | nil=>intro _;simp [aK,bM]
   | cons y m ihm=>
    intro h;rw [aK,bM,List.length_append,List.length_append];have h1:=h y (by simp);have h2:=ihm (fun z hz=>h z (by simp [hz]));omega
  have:=hl l ih
  rw [aD,aj,WY]
  split
  ·simp
  ·omega
theorem ri {x:Ex} (h:aC x=true):(aD x).length<=24:=by
 simp only [aC,XK,decide_eq_true_eq] at h
 have:=GY x;omega
theorem NP (labs:List ByteArray) (f1 l1:BitVec 32) (rest:List (BitVec 32)) (em:Bool) (hr:rest.length=24) (o:List (Option ab)) (h1:o[1]? = some (some ⟨99,28,false,[.vec 2 labs.length :: aQ f1 :: (rest.map aQ++[aQ l1, .v (.bool em)])]⟩)) (h2:o[2]? = some (some ⟨9,1,true,labs.map encS⟩)) :
  gd o (.cI [.ptr 1 0 28 0 0, .v (.int .i64 0)]) (.cI [.vp (iJ ⟨labs,f1 :: rest,l1,em⟩), .v (.int .i64 0)]):=by
 obtain ⟨p,hp,hp'⟩:=Jw (o:=o) (aQ f1 :: (rest.map aQ++[aQ l1, .v (.bool em)])) 50 (fun c hc=>by
  simp only [Yj,List.mem_append,List.mem_map,List.not_mem_nil,or_false] at hc
  rcases hc with rfl|⟨y,_,rfl⟩|rfl|rfl
  ·exact ⟨_,rfl⟩
  ·exact ⟨_,rfl⟩
  ·exact ⟨_,rfl⟩
  ·exact ⟨_,rfl⟩) (by simp [hr])
 have e1:gY o 50 (.vec 2 labs.length)=some (True∧(labs.map encS).length=labs.length∧bj 0 (labs.map encS)=true, .aB 1 (labs.map encS) labs.length):=by
  rw [gY,h2];simp
 have e2:gk o 51 (.vec 2 labs.length :: aQ f1 :: (rest.map aQ++[aQ l1, .v (.bool em)]))=some ((True∧(labs.map encS).length=labs.length∧bj 0 (labs.map encS)=true)∧p, .aB 1 (labs.map encS) labs.length :: aQ f1 :: (rest.map aQ++[aQ l1, .v (.bool em)])):=by
  rw [gk,e1,hp]
 refine gd.of 54 (p:=((((True∧(labs.map encS).length=labs.length∧bj 0 (labs.map encS)=true)∧p)∧ab.hl ⟨99,28,false,[.vec 2 labs.length :: aQ f1 :: (rest.map aQ++[aQ l1, .v (.bool em)])]⟩=0∧28=28∧0<1)∧(AV.v (.int .i64 0)).wf 0=true∧True)) ?_ ⟨⟨⟨⟨trivial,by simp,aO 0 labs⟩,hp'⟩,rfl,rfl,by decide⟩,rfl,trivial⟩;rw [gY,gk,gY,h1];simp only [List.getD_cons_zero,e2]
 rfl
theorem SH (x:Ex) (ho:x.ok):aq Tryz.prog 32 [.agg (aM x)] (if aC x then .cI [.vp (iJ (aT x)), .v (.int .i64 0)] else .cI [.v (.pointer none), .v (.int .i64 2)]):=by
 have R:=wW x ho;have E:=Ew x ho
 cases hr:aC x
 ·rw [hr] at R;simp only [Yk,if_false];simp only [aA] at *;refine gE Tryz.func32 Tryz.ntmps32 Tryz.results32 ?_
  (refine yK ?_;intro K hK K hK K hK)
  refine aa.one R ?_
  ((iterate 3 revert K);refine yK ?_)
  (refine gd.of 40 rfl ?_;simp only [go_sem])
 ·rw [hr] at R;simp only [if_true];have hnl:(aD x).length<=24:=ri hr;have P:=Qz x ho hr (zs x) (by simp [zs]) (by simp [zs];exact hnl);have B:=pD x (zs x) (by simp [zs]) (by simp [zs];exact hnl);simp only [aT];generalize pC x (zs x)=b at *;simp only [aA] at *;refine gE Tryz.func32 Tryz.ntmps32 Tryz.results32 ?_
  (refine yK ?_;intro K hK K hK K hK)
  refine aa.one R ?_
  ((iterate 3 revert K);refine yK ?_;intro K hK K hK)
  refine aa.one E ?_
  repeat ((fail_if_success (with_reducible refine bm (i:=4) ?_));first|(with_reducible first|refine aw.up ?_|refine fun (K:AK) hK=> ?_|refine ae (by decide) ?_|(refine hK _ ?_;clear hK K))|simp only [go_sem]|with_reducible refine wA ?_|(refine cP rfl ?_)|(refine cn rfl ?_)|clear hK K)
  refine a7 (c9 (k:=1) (i:=0) (j:=0) 9 1 (by decide) rfl (show 0<28 by decide) rfl rfl) (by kernel_rfl) ?_;simp only [WY,List.length_nil,Nat.reduceAdd,List.cons_append,List.nil_append,List.set_cons_zero,List.set_cons_succ]
  repeat ((fail_if_success (with_reducible refine bm (i:=5) ?_));first|(with_reducible first|refine aw.up ?_|refine fun (K:AK) hK=> ?_|refine ae (by decide) ?_|(refine hK _ ?_;clear hK K))|simp only [go_sem]|with_reducible refine wA ?_|(refine cP rfl ?_)|(refine cn rfl ?_)|clear hK K)
  have wE:aN 2 [.ptr 0 0 28 0 0, .agg [.v (.int .i64 x.kind), .v (.string x.label), .aB 3 (x.kids.map aM) x.kids.length]]=true:=by simp only [aN,AV.wf,br,Bool.and_self,Bool.true_and];rfl
  refine aa.fr [1,2] P (by decide) rfl ?_ wE ?_ ?_
  ·simp only [bP,AV.bg,dJ _ _ (br 0 x.kids)];rfl
  ·intro i ob hi
   match i,hi with
   | 0,hi=>cases hi;rfl
   | 1,hi=>cases hi;rfl
   | i+2,hi=>simp [bW.os] at hi
  simp only [bW.os,bW.row,aQ,eu,List.map_cons,List.map_nil,Option.map_some,ab.bg,cG,bP,AV.bg,zh,rA,WY,List.length_nil,List.set_cons_zero,List.set_cons_succ,List.append_nil];have e1:sig [1,2] 3 1=2:=rfl;simp only [Nat.reduceAdd,e1];obtain ⟨⟨labs,fs,la,em⟩,f1,l1⟩:=b
  obtain ⟨f0,rest,rfl⟩: ∃f0 rest,fs=f0 :: rest:=by
   cases fs with
   | nil=>have:=B.len;simp at this
   | cons a r=>exact ⟨a,r,rfl⟩
  have hr24:rest.length=24:=by have:=B.len;simpa using this
  have t24:List.take 24 (rest.map aQ++[.v (.int .u32 la.toNat), .v (.bool em)])=rest.map aQ:=by rw [List.take_append_of_le_length (by simp [hr24]),Y7 (by simp [hr24])]
  have d25:List.drop 25 (rest.map aQ++[.v (.int .u32 la.toNat), .v (.bool em)])=[.v (.bool em)]:=by
   rw [show 25=(rest.map aQ).length+1 by simp [hr24],List.drop_append];simp
  simp only [List.map_cons,aQ,List.cons_append]
  repeat ((fail_if_success (with_reducible refine bm (i:=5) ?_));first|(with_reducible first|refine aw.up ?_|refine fun (K:AK) hK=> ?_|refine ae (by decide) ?_|(refine hK _ ?_;clear hK K))|simp only [go_sem]|with_reducible refine wA ?_|(refine cP rfl ?_)|(refine cn rfl ?_)|clear hK K)
  refine bA [9,12] [(5,1000)] (by decide+kernel) (by kernel_rfl) ?_
  repeat (first|(with_reducible first|refine aw.up ?_|refine fun (K:AK) hK=> ?_|refine ae (by decide) ?_|(refine hK _ ?_;clear hK K))|simp only [go_sem,t24,d25]|with_reducible refine wA ?_|(refine cP rfl ?_)|(refine cn rfl ?_)|clear hK K)
  refine NP labs f1 l1 rest em hr24 _ rfl rfl
structure PF (x:Ex) (s:bW):Prop where
 labs:s.labs=aD x
 ok:zN s
 fst: ∀q,(s.fs.getD 0 0#32).getLsbD q=true↔kq x 0 q
 rY: ∀p q,p≠0->((s.fs.getD p 0#32).getLsbD q=true↔je x 0 p q)
 xu: ∀q,s.la.getLsbD q=true↔jz x 0 q
 em:s.em=aH x
theorem iI {x:Ex} (hr:aC x=true):PF x (aT x):=by
 have hn:=ri hr;have B:=pD x (zs x) (by simp [zs]) (by simp [zs];exact hn)
 have hz: ∀p,(zs x).fs.getD p 0#32=0#32:=fun p=>by
  simp only [zs,XR,List.getElem?_replicate];split<;>rfl
 have hb:(zs x).labs.length=0:=rfl;have hl:(aT x).labs=aD x:=B.labs
 have hlen:(aT x).fs.length=25:=by simp only [aT,List.length_set];exact B.len
 have h0: ∀q,((aT x).fs.getD 0 0#32).getLsbD q=true↔kq x 0 q:=fun q=>by
  simp only [aT];rw [qY (by rw [B.len];decide),if_pos rfl,B.fst,hb]
 have hp: ∀p q,p≠0->(((aT x).fs.getD p 0#32).getLsbD q=true↔je x 0 p q):=fun p q hp=>by
  simp only [aT];rw [qY (by rw [B.len];decide),if_neg hp,B.rY,hb,hz];simp
 have hla: ∀q,(aT x).la.getLsbD q=true↔jz x 0 q:=fun q=>by
  have:=B.xu q;rw [hb] at this;exact this
 refine ⟨hl,⟨hlen,by rw [hl];exact hn,fun p q h=> ?_,fun q h=> ?_⟩,h0,hp,hla, ?_⟩
 ·rw [hl]
  by_cases e:p=0
  ·subst e;have:=fN x ((h0 q).1 h);omega
  ·have:=(dM x ((hp p q e).1 h)).2;omega
 ·rw [hl];have:=fO x ((hla q).1 h);omega
 ·show (pC x (zs x)).1.em=_;rw [B.em];simp [zs,dy,hr]
theorem run_get {s:bW} (ok:zN s) {q:Nat}: ∀(w:List ByteArray) (m:BitVec 32),(w.foldl (iO s) m).getLsbD q=true ↔ ∃p,m.getLsbD p=true∧bt (fun p q=>(s.fs.getD p 0#32).getLsbD q=true) (fun p=>e7 s p) p w q
 | [],m=>by simp [bt]
 | a :: w,m=>by
  rw [Yw,run_get ok w]
  constructor
  ·rintro ⟨r,h1,h2⟩;obtain ⟨p,k1,k2,k3⟩:=(lg ok).1 h1;exact ⟨p,k1,r,k2,toList_inj.1 (by simpa using k3),h2⟩
  ·rintro ⟨p,k1,r,k2,rfl,h2⟩;exact ⟨r,(lg ok).2 ⟨p,k1,k2,rfl⟩,h2⟩
theorem HY {x:Ex} (hr:aC x=true) (w:List ByteArray):vH (aT x) w=j6 x w:=by
 have N:=iI hr;have F:=(dN hr).1
 by_cases h0:w.length=0
 ·obtain rfl:=Xy h0;rw [vH,if_pos h0,N.em,Y8,fT F,iC];simp [hr]
 ·rw [vH,if_neg h0,Y8,iC];simp only [hr,true_and];have hw:w≠[]:=fun e=>h0 (by rw [e];rfl)
  have hg:oh (aD x) 0 (fun p=>e7 (aT x) p):=fun i a hi=>by
   have hlt:=(List.getElem?_eq_some_iff.1 hi).1;show e7 (aT x) ((0+1+i:Nat):Int)=a;rw [e7,if_pos (by rw [N.labs];omega),N.labs,XR,show (((0+1+i:Nat):Int) - 1).toNat=i by omega,hi];rfl
  rw [Wi F hg hw]
  have h1:(runM (aT x) w &&& (aT x).la !=0#32)=true ↔ ∃q,(runM (aT x) w).getLsbD q=true∧(aT x).la.getLsbD q=true:=by
   rw [bne_iff_ne]
   constructor
   ·intro h
    by_cases hb:ar (runM (aT x) w &&& (aT x).la)=[]
    ·exact absurd (qP hb) h
    ·obtain ⟨q,hq⟩:=Y9 _ hb
     have:=ba.1 hq
     rw [YJ,XK] at this;exact ⟨q,this⟩
   ·rintro ⟨q,h1,h2⟩ e
    have:(runM (aT x) w &&& (aT x).la).getLsbD q=true:=by rw [YJ,h1,h2];rfl
    rw [e] at this;simp at this
  rw [h1]
  cases w with
  | nil=>exact absurd rfl hw
  | cons a v=>
   simp only [cK]
   have hst: ∀p,(ofM 0).getLsbD p=true↔p=0:=fun p=>by rw [p9,decide_eq_true_eq];omega
   have hc: ∀(v:List ByteArray) p q,p≠0->(bt (fun p q=>((aT x).fs.getD p 0#32).getLsbD q=true) (fun p=>e7 (aT x) p) p v q↔bt (je x 0) (fun p=>e7 (aT x) p) p v q):=fun v=>by
    induction v with
    | nil=>intro p q _;exact Iff.rfl
    | cons b v ih=>
     intro p q hp;simp only [bt]
     constructor
     ·rintro ⟨r,k1,k2,k3⟩;have k4:=(N.rY p r hp).1 k1
      have:=(dM x k4).2
      exact ⟨r,k4,k2,(ih r q (by omega)).1 k3⟩
     ·rintro ⟨r,k1,k2,k3⟩
      have:=(dM x k1).2
      exact ⟨r,(N.rY p r hp).2 k1,k2,(ih r q (by omega)).2 k3⟩
   constructor
   ·rintro ⟨q,h2,h3⟩;obtain ⟨p,k1,r,k2,k3,k4⟩:=(run_get N.ok _ _).1 h2;obtain rfl:=(hst p).1 k1;have k5:=(N.fst r).1 k2
    have:=fN x k5
    exact ⟨r,q,k5,k3,(hc v r q (by omega)).1 k4,(N.xu q).1 h3⟩
   ·rintro ⟨r,q,k1,k2,k3,k4⟩
    have:=fN x k1
    exact ⟨q,(run_get N.ok _ _).2 ⟨0,(hst 0).2 rfl,r,(N.fst r).2 k1,k2,(hc v r q (by omega)).2 k3⟩,(N.xu q).2 k4⟩
theorem MH {m n:BitVec 32} (h: ∀q,m.getLsbD q=true↔n.getLsbD q=true):m=n:=by
 refine BitVec.eq_of_getLsbD_eq fun q _=> ?_;exact Y8.2 (h q)
def bz (l:List Nat):List Int:=l.map (fun (p:Nat)=>(p:Int))
theorem Gq (l:List Nat):aJ l=(bz l).map encI:=by rw [aJ,bz,List.map_map];rfl
theorem xj (l:List Nat):(bz l).length=l.length:=by rw [bz,List.length_map]
theorem Dn {s:bW} (ok:zN s) {m:BitVec 32} (h: ∀p,m.getLsbD p=true->p<=s.labs.length):fU s (bz (ar m))=m:=by
 refine MH fun q=> ?_;rw [fU,kQ ok,bz];simp only [BitVec.getLsbD_zero,Yk,false_or,List.mem_map,Int.natCast_inj,exists_eq_right,ba];exact ⟨fun h=>h.1,fun k=>⟨k,h q k⟩⟩
theorem Bo {p:Nat}:(ofM 0).getLsbD p=true↔p=0:=by rw [p9,decide_eq_true_eq];omega
def Mt (a b:List Nat):Bool:=a.any (fun p=>b.any (fun q=>(q:Int)==(p:Int)))
theorem tw {a b:List Nat}:Mt a b=true ↔ ∃p,p∈a∧p∈b:=by
 simp only [Mt,List.any_eq_true,beq_iff_eq,Int.natCast_inj]
 constructor
 ·rintro ⟨p,h1,q,h2,rfl⟩;exact ⟨q,h1,h2⟩
 ·rintro ⟨p,h1,h2⟩;exact ⟨p,h1,p,h2,rfl⟩
theorem EM (m n:BitVec 32):(m &&& n !=0#32)=Mt (ar m) (ar n):=by
 rw [Y8,tw,bne_iff_ne];simp only [ba]
 constructor
 ·intro h
  by_cases hb:ar (m &&& n)=[]
  ·exact absurd (qP hb) h
  ·obtain ⟨q,hq⟩:=Y9 _ hb
   have:=ba.1 hq
   rw [YJ,XK] at this;exact ⟨q,this⟩
 ·rintro ⟨q,h1,h2⟩ e
  have:(m &&& n).getLsbD q=true:=by rw [YJ,h1,h2];rfl
  rw [e] at this;simp at this
theorem Jo {s:bW} (ok:zN s) (w:List ByteArray):((w.length==0&&s.em)||Mt (ar (runM s w)) (ar s.la))=vH s w:=by
 rw [vH, <- EM]
 by_cases h0:w.length=0
 ·rw [if_pos h0,h0];obtain rfl:=Xy h0
  have:(runM s [] &&& s.la !=0#32)=false:=by
   rw [EM, <- Bool.not_eq_true,tw];rintro ⟨p,h1,h2⟩;have h3:=Bo.1 (ba.1 h1)
   have:=ok.la p (ba.1 h2)
   omega
  rw [this];simp
 ·rw [if_neg h0,beq_eq_false_iff_ne.2 h0];simp
theorem ue {x:Ex} (h:Fit x): ∀b, ∃q,kq x b q:=by
 induction h with
 | lab s=>intro b;exact ⟨b+1,by rw [kq,if_pos rfl]⟩
 | many k s l hk hl _ ih=>
  intro b
  cases l with
  | nil=>simp at hl
  | cons x l=>
   obtain ⟨q,hq⟩:=ih x (by simp) b;refine ⟨q, ?_⟩;rw [kq]
   rcases hk with rfl|rfl
   ·simp [gP,hq]
   ·simp [gh,hq]
 | one k s x hk _ ih=>
  intro b;obtain ⟨q,hq⟩:=ih b;refine ⟨q, ?_⟩;rw [kq]
  rcases hk with rfl|rfl|rfl<;>simp [gh,hq]
theorem yu {g:Nat->ByteArray}: ∀(l:List Ex),l≠[]->(∀x∈l,Fit x∧ ∀b p,b<p->p<=b+(aD x).length-> ∃w q,bt (je x b) g p w q∧jz x b q)-> ∀b p,b<p->p<=b+(aK l).length-> ∃w q,bt (gO l b) g p w q∧jG l b q
 | [],h,_,_,_,_,_=>absurd rfl h
 | x :: xs,_,h,b,p,h1,h2=>by
  rw [aK,WX] at h2;have hS: ∀w p q,bt (gO xs (b+(aD x).length)) g p w q->bt (gO (x :: xs) b) g p w q:=fun w p q hc=>hc.imp (fun p q hf=>by rw [gO];exact .inr (.inl hf));have hX: ∀w p q,bt (je x b) g p w q->bt (gO (x :: xs) b) g p w q:=fun w p q hc=>hc.imp (fun p q hf=>by rw [gO];exact .inl hf)
  rcases Nat.lt_or_ge (b+(aD x).length) p with q|q
  ·have hne:xs≠[]:=by rintro rfl;simp [aK] at h2;omega
   obtain ⟨w,r,k1,k2⟩:=yu xs hne (fun y hy=>h y (XW _ hy)) _ p q (by omega);exact ⟨w,r,hS _ _ _ k1,by rw [jG];exact .inr k2⟩
  ·obtain ⟨w,r,k1,k2⟩:=(h x XY).2 b p h1 q
   cases hxs:xs with
   | nil=>subst hxs;exact ⟨w,r,hX _ _ _ k1,by rw [jG];exact .inl ⟨rfl,k2⟩⟩
   | cons y ys=>
    obtain ⟨f,hf⟩:=ue (h y (by rw [hxs];simp)).1 (b+(aD x).length)
    have hfS:gP xs (b+(aD x).length) f:=by rw [hxs,gP];exact .inl hf
    have hr:=fE (qE hfS);obtain ⟨w2,r2,m1,m2⟩:=yu xs (by rw [hxs];simp) (fun y hy=>h y (XW _ hy)) _ f hr.1 hr.2;rw [<-hxs];exact ⟨w++g f :: w2,r2,bt.app.2 ⟨r,hX _ _ _ k1,f,by rw [gO];exact .inr (.inr ⟨k2,hfS⟩),rfl,hS _ _ _ m1⟩,by rw [jG];exact .inr m2⟩
theorem yt {g:Nat->ByteArray}: ∀(l:List Ex),(∀x∈l, ∀b p,b<p->p<=b+(aD x).length-> ∃w q,bt (je x b) g p w q∧jz x b q)-> ∀b p,b<p->p<=b+(aK l).length-> ∃w q,bt (iw l b) g p w q∧gj l b q
 | [],_,b,p,h1,h2=>by simp [aK] at h2;omega
 | x :: xs,h,b,p,h1,h2=>by
  rw [aK,WX] at h2
  rcases Nat.lt_or_ge (b+(aD x).length) p with q|q
  ·obtain ⟨w,r,k1,k2⟩:=yt xs (fun y hy=>h y (XW _ hy)) _ p q (by omega);exact ⟨w,r,k1.imp (fun p q hf=>by rw [iw];exact .inr hf),by rw [gj];exact .inr k2⟩
  ·obtain ⟨w,r,k1,k2⟩:=h x XY b p h1 q;exact ⟨w,r,k1.imp (fun p q hf=>by rw [iw];exact .inl hf),by rw [gj];exact .inl k2⟩
theorem R9 {g:Nat->ByteArray} {x:Ex} (h:Fit x): ∀b p,b<p->p<=b+(aD x).length-> ∃w q,bt (je x b) g p w q∧jz x b q:=by
 induction h with
 | lab s=>
  intro b p h1 h2;rw [aD,if_pos rfl] at h2;exact ⟨[],p,rfl,by rw [jz,if_pos rfl];simp at h2;omega⟩
 | many k s l hk hl hf ih=>
  intro b p h1 h2
  have hk1:k≠1:=by rcases hk with rfl|rfl<;>decide
  rw [cW hk1] at h2
  rcases hk with rfl|rfl
  ·obtain ⟨w,r,k1,k2⟩:=yu l (by rintro rfl;simp at hl) (fun x hx=>⟨hf x hx,ih x hx⟩) b p h1 h2;exact ⟨w,r,k1.imp (fun p q hf=>by rw [je,if_neg (by decide),if_pos rfl];exact hf),by rw [jz,if_neg (by decide),if_pos rfl];exact k2⟩
  ·obtain ⟨w,r,k1,k2⟩:=yt l ih b p h1 h2;exact ⟨w,r,k1.imp (fun p q hf=>by rw [je,if_neg (by decide),if_neg (by decide)];exact .inl hf),by rw [jz,if_neg (by decide),if_neg (by decide)];exact k2⟩
 | one k s x hk hf ih=>
  intro b p h1 h2
  have hk1:k≠1:=by rcases hk with rfl|rfl|rfl<;>decide
  have hk2:k≠2:=by rcases hk with rfl|rfl|rfl<;>decide
  rw [cW hk1] at h2;obtain ⟨w,r,k1,k2⟩:=yt [x] (fun y hy=>by simp only [List.mem_singleton] at hy;subst hy;exact ih) b p h1 h2;exact ⟨w,r,k1.imp (fun p q hf=>by rw [je,if_neg hk1,if_neg hk2];exact .inl hf),by rw [jz,if_neg hk1,if_neg hk2];exact k2⟩
def aU (s:bW) (cur:List Nat) (lab:ByteArray):List Nat:=ar (iO s (fU s (bz cur)) lab)
theorem wZ {s:bW} (ok:zN s) {l:List Nat} {q:Nat}:(fU s (bz l)).getLsbD q=true↔q∈l∧q<=s.labs.length:=by
 rw [fU,kQ ok]
 have:(q:Int)∈bz l↔q∈l:=by
  rw [bz,List.mem_map];exact ⟨fun ⟨a,h1,h2⟩=>by rw [<-Int.ofNat_inj.1 h2];exact h1,fun h=>⟨q,h,rfl⟩⟩
 simp [this]
theorem jF {s:bW} (ok:zN s) {cur:List Nat} {lab:ByteArray} {q:Nat}:q∈aU s cur lab ↔ ∃p,p∈cur∧p<=s.labs.length∧(s.fs.getD p 0#32).getLsbD q=true∧e7 s q=lab:=by
 rw [aU,ba,lg ok]
 constructor
 ·rintro ⟨p,h1,h2,h3⟩;obtain ⟨k1,k2⟩:=(wZ ok).1 h1;exact ⟨p,k1,k2,h2,toList_inj.1 (by simpa using h3)⟩
 ·rintro ⟨p,h1,h2,h3,rfl⟩;exact ⟨p,(wZ ok).2 ⟨h1,h2⟩,h3,rfl⟩
theorem Eg {s:bW} (ok:zN s) {m:BitVec 32} (hm: ∀p,m.getLsbD p=true->p<=s.labs.length) (lab:ByteArray):aU s (ar m) lab=ar (iO s m lab):=by rw [aU,Dn ok hm]
theorem Lj {s:bW} (ok:zN s) {m:BitVec 32} {lab:ByteArray}: ∀p,(iO s m lab).getLsbD p=true->p<=s.labs.length:=fun p h=>by
 obtain ⟨_,_,h,_⟩:=(lg ok).1 h;exact (ok.rY _ _ h).2
theorem xP {s:bW} (ok:zN s): ∀(w:List ByteArray) (m:BitVec 32),(∀p,m.getLsbD p=true->p<=s.labs.length)->w.foldl (aU s) (ar m)=ar (w.foldl (iO s) m)
 | [],m,_=>rfl
 | l :: w,m,h=>by rw [Yw,Yw,Eg ok h,xP ok w _ (Lj ok)]
structure oe where
 rows:List aX
 ends:List Bool
 labs:List ByteArray
noncomputable def ng (x:Ex) (labs:List ByteArray):Option nA:=ox (aU (aT x)) (aT x).em (ar (aT x).la) labs
def gy (labs:List ByteArray) (st:nA):oe:=⟨(cA st.rows st.ends (bB st.rows st.ends)).rows,(cA st.rows st.ends (bB st.rows st.ends)).ends,labs⟩
noncomputable def gU (x:Ex) (labs:List ByteArray):oe ⊕ Int:=
 if aC x then match ng x labs with
  | some st=>if 32<(gy labs st).rows.length then .inr 11 else .inl (gy labs st)
  | none=> .inr 11
 else .inr 2
structure AOk (A:oe):Prop where
 pos:1<=A.rows.length
 max:A.rows.length<=32
 ends:A.ends.length=A.rows.length
 row: ∀r∈A.rows,(r.map Prod.fst).Sublist A.labs∧ ∀p∈r,p.2<A.rows.length
theorem rI {labs:List ByteArray} {st:nA} (ho:Cx labs st) (hl:st.rows.length=st.all.length): ∀r∈st.rows, ∀p∈r,p.2<st.rows.length:=fun r hr p hp=>by rw [hl];exact (ho.row r hr).2 p hp
theorem Ft {labs:List ByteArray} (hn:labs.Nodup) {st:nA} (ho:Cx labs st): ∀r∈st.rows,(r.map Prod.fst).Nodup:=fun r hr=>(ho.row r hr).1.nodup hn
theorem rH {labs:List ByteArray} (hs: ∀l∈labs,32∉l.data.toList) {st:nA} (ho:Cx labs st):p8 st.rows:=fun r hr p hp=>hs _ ((ho.row r hr).1.subset (List.mem_map_of_mem hp))
structure OK (x:Ex) (A:oe):Prop extends AOk A where
 VS: ∀w,bO A.rows A.ends 0 w=j6 x w
 alive: ∀s,s<A.rows.length-> ∃w,bO A.rows A.ends s w=true
theorem EY {s:bW} (ok:zN s): ∀(w:List ByteArray) {cur:List Nat} {p q:Nat},p∈cur->p<=s.labs.length->bt (fun p q=>(s.fs.getD p 0#32).getLsbD q=true) (fun p=>e7 s p) p w q->q∈w.foldl (aU s) cur
 | [],cur,p,q,h1,h2,h3=>by cases h3;exact h1
 | l :: w,cur,p,q,h1,h2,⟨r,k1,k2,k3⟩=>by
  rw [Yw];exact EY ok w ((jF ok).2 ⟨p,h1,h2,k1,k2⟩) (ok.rY _ _ k1).2 k3
theorem F7 {x:Ex} (hr:aC x=true) {labs:List ByteArray} (hn:labs.Nodup) (hs: ∀l∈labs,32∉l.data.toList) (hm: ∀l∈aD x,l∈labs) {A:oe} (h:gU x labs = .inl A):OK x A:=by
 have N:=iI hr;have F:=(dN hr).1;rw [gU,if_pos hr] at h
 split at h
 ·rename_i st hst
  split at h
  ·cases h
  ·rename_i h32;simp only [Sum.inl.injEq] at h;obtain ⟨ho,hl,hw⟩:=zq (aU (aT x)) (aT x).em (ar (aT x).la) hn hst;have hz0:(st.all)[0]? = some [0]:=hw.zero
   have hpos:0<st.rows.length:=by rw [hl];exact (List.getElem?_eq_some_iff.1 hz0).1
   have hT:=rI ho hl;have hN:=Ft hn ho;obtain ⟨hS,hpl⟩:=u6 st.rows st.ends (rH hs ho) hT hpos ho.ends;obtain ⟨qo,ql,qw⟩:=Ba (ends:=st.ends) hT hN hpos (bB st.rows st.ends)
   have ha: ∀l,aU (aT x) [] l=[]:=fun l=>Za.2 fun q hq=>by
    obtain ⟨p,hp,_⟩:=(jF N.ok).1 hq;simp at hp
   have hlab: ∀q,1<=q->q<=(aT x).labs.length->e7 (aT x) q∈labs:=fun q h1 h2=>by
    rw [e7,if_pos (by omega)];refine hm _ ?_;rw [<-N.labs];exact aW (by omega)
   have hx: ∀cur l,l∉labs->aU (aT x) cur l=[]:=fun cur l hl=>Za.2 fun q hq=>by
    obtain ⟨p,_,_,k,rfl⟩:=(jF N.ok).1 hq;obtain ⟨q1,q2⟩:=N.ok.rY _ _ k;exact hl (hlab q q1 q2)
   have h0: ∀cur l,0∉aU (aT x) cur l:=fun cur l hq=>by
    obtain ⟨p,_,_,k,_⟩:=(jF N.ok).1 hq
    have:=(N.ok.rY _ _ k).1;omega
   have hla:0∉ar (aT x).la:=fun hq=>by have:=(N.ok.la _ (ba.1 hq)).1;omega
   have hlen:A.rows.length=(cA st.rows st.ends (bB st.rows st.ends)).order.length:=by rw [<-h];exact ql
   have hA: ∀k w,k<A.rows.length->bO A.rows A.ends k w=bO st.rows st.ends ((cA st.rows st.ends (bB st.rows st.ends)).order.getD k 0) w:=fun k w hk=>by
    rw [<-h];exact sa hT hS qo ql qw w (by rw [<-hlen];exact hk)
   have hp1:1<=A.rows.length:=by
    rw [hlen]
    have:=qo.le;rw [ql] at this
    refine Nat.one_le_iff_ne_zero.2 fun e=> ?_;have q0:=Bz (rows:=st.rows) (part:=bB st.rows st.ends) (ends:=st.ends) (st.rows.length+1) (st:=q0)
    have:1<=(cA st.rows st.ends (bB st.rows st.ends)).order.length:=q0
    omega
   refine ⟨⟨hp1, ?_, ?_,fun r hr=> ?_⟩,fun w=> ?_,fun s hs=> ?_⟩
   ·have:=h32;rw [h] at this;omega
   ·rw [<-h];exact qo.ends
   ·obtain ⟨k,hk,rfl⟩:=List.getElem_of_mem hr
    have hk':k<(cA st.rows st.ends (bB st.rows st.ends)).rows.length:=by rw [<-h] at hk;exact hk
    obtain ⟨r1,r2⟩:=qo.row k hk'
    have e:A.rows[k]=(cA st.rows st.ends (bB st.rows st.ends)).rows.getD k []:=by
     subst h;rw [List.getD_eq_getElem?_getD,Xb hk'];rfl
    have hlabs:A.labs=labs:=by rw [<-h];rfl
    rw [e,r1,hlabs,hlen];exact ⟨(ho.row _ (aW (qo.lt _ (aW (by rw [<-ql];exact hk'))))).1,r2⟩
   ·rw [hA 0 w (by omega),qw.zero,Ef hl hw ha hx h0 hla, <- HY hr, <- Jo N.ok]
    have e0:([0]:List Nat)=ar (ofM 0):=by rfl
    rw [e0,xP N.ok w (ofM 0) (fun p hp=>by rw [Bo] at hp;omega)]
    congr 1
    rw [Bool.eq_iff_iff,tw,List.any_eq_true];simp [runM]
   ·rw [hlen] at hs;have hi:=qo.lt _ (aW (d:=0) hs)
    have hi':(cA st.rows st.ends (bB st.rows st.ends)).order.getD s 0<st.all.length:=by omega
    obtain ⟨hne,hmade⟩:=Hx (aU (aT x)) (aT x).em (ar (aT x).la) hst _ (Ym hi');obtain ⟨p,hp⟩:=List.exists_mem_of_ne_nil _ hne
    have hpb:p<=(aT x).labs.length:=by
     rcases hmade with e|⟨cur,l,e⟩
     ·rw [e] at hp;simp at hp;omega
     ·rw [e] at hp;obtain ⟨_,_,_,k,_⟩:=(jF N.ok).1 hp;exact (N.ok.rY _ _ k).2
    obtain ⟨w,q,hc,hq⟩: ∃w q,bt (fun p q=>((aT x).fs.getD p 0#32).getLsbD q=true) (fun p=>e7 (aT x) p) p w q∧jz x 0 q:=by
     have up: ∀p,0<p->p<=(aT x).labs.length-> ∃w q,bt (fun p q=>((aT x).fs.getD p 0#32).getLsbD q=true) (fun p=>e7 (aT x) p) p w q∧jz x 0 q:=fun p h1 h2=>by
      obtain ⟨w,q,k1,k2⟩:=R9 (g:=fun p=>e7 (aT x) p) F 0 p h1 (by rw [<-N.labs];omega)
      have:=bt.stay (S:=fun p=>p≠0) (F:=fun p q=>((aT x).fs.getD p 0#32).getLsbD q=true) (fun p q hp hf=>⟨(N.rY p q hp).2 hf,by have:=(dM x hf).2;omega⟩) (by omega) k1
      exact ⟨w,q,this.1,k2⟩
     by_cases e:p=0
     ·subst e;obtain ⟨f,hf⟩:=ue F 0;have hfr:=fN x hf;obtain ⟨w,q,k1,k2⟩:=up f (by omega) (by rw [N.labs];omega);exact ⟨_ :: w,q,⟨f,(N.fst f).2 hf,rfl,k1⟩,k2⟩
     ·exact up p (by omega) hpb
    refine ⟨w, ?_⟩;rw [hA s w (by rw [hlen];exact hs)];exact Hw hl hw ha hx w (Xb hi') hne (EY N.ok w hp hpb hc) (ba.2 ((N.xu q).2 hq))
 ·cases h
def I8:Go.Shelf.Ren:=⟨fun|169=>91|n=>n,fun|70=>134|9=>9|0=>0|72=>136|37=>122|127=>179|3=>3|5=>5|n=>n,fun n=>n⟩
theorem MI:Lays.n169 Tryz.prog I8:={
 mixed:=by kernel_rfl
 f169:=Tryz.func91
 t0:=by kernel_rfl
 a0:=fun w=>by kernel_rfl
 z0:=fun w=>by kernel_rfl
 v0:=fun w=>by kernel_rfl
 t3:=by kernel_rfl
 a3:=fun w=>by kernel_rfl
 z3:=fun w=>by kernel_rfl
 v3:=fun w=>by kernel_rfl
 t9:=by kernel_rfl
 a9:=fun w=>by kernel_rfl
 z9:=fun w=>by kernel_rfl
 v9:=fun w=>by kernel_rfl
 t37:=by kernel_rfl
 a37:=fun w=>by kernel_rfl
 z37:=fun w=>by kernel_rfl
 v37:=fun w=>by kernel_rfl
 t70:=by kernel_rfl
 a70:=fun w=>by kernel_rfl
 z70:=fun w=>by kernel_rfl
 v70:=fun w=>by kernel_rfl
 t72:=by kernel_rfl
 a72:=fun w=>by kernel_rfl
 z72:=fun w=>by kernel_rfl
 v72:=fun w=>by kernel_rfl
 t127:=by kernel_rfl
 a127:=fun w=>by kernel_rfl
 z127:=fun w=>by kernel_rfl
 v127:=fun w=>by kernel_rfl }
def E6:Go.Shelf.Ren:=⟨fun|171=>90|243=>128|246=>147|283=>161|284=>162|285=>163|286=>164|129=>126|317=>173|318=>174|319=>175|320=>176|337=>139|338=>178|n=>n,fun|3=>3|9=>9|2=>2|4=>4|171=>207|0=>0|53=>178|37=>122|5=>5|173=>209|212=>217|51=>95|20=>20|213=>218|46=>121|232=>203|233=>220|n=>n,fun|17=>1|18=>0|19=>2|n=>n⟩
theorem xk:Lays.n171 Tryz.prog E6:={
 mixed:=by kernel_rfl
 f129:=Tryz.func126
 f171:=Tryz.func90
 f243:=Tryz.func128
 f246:=Tryz.func147
 f283:=Tryz.func161
 f284:=Tryz.func162
 f285:=Tryz.func163
 f286:=Tryz.func164
 f317:=Tryz.func173
 f318:=Tryz.func174
 f319:=Tryz.func175
 f320:=Tryz.func176
 f337:=Tryz.func139
 f338:=Tryz.func178
 t0:=by kernel_rfl
 a0:=fun w=>by kernel_rfl
 z0:=fun w=>by kernel_rfl
 v0:=fun w=>by kernel_rfl
 t2:=by kernel_rfl
 a2:=fun w=>by kernel_rfl
 z2:=fun w=>by kernel_rfl
 v2:=fun w=>by kernel_rfl
 t3:=by kernel_rfl
 a3:=fun w=>by kernel_rfl
 z3:=fun w=>by kernel_rfl
 v3:=fun w=>by kernel_rfl
 t4:=by kernel_rfl
 a4:=fun w=>by kernel_rfl
 z4:=fun w=>by kernel_rfl
 v4:=fun w=>by kernel_rfl
 t5:=by kernel_rfl
 a5:=fun w=>by kernel_rfl
 z5:=fun w=>by kernel_rfl
 v5:=fun w=>by kernel_rfl
 t9:=by kernel_rfl
 a9:=fun w=>by kernel_rfl
 z9:=fun w=>by kernel_rfl
 v9:=fun w=>by kernel_rfl
 t20:=by kernel_rfl
 a20:=fun w=>by kernel_rfl
 z20:=fun w=>by kernel_rfl
 v20:=fun w=>by kernel_rfl
 t37:=by kernel_rfl
 a37:=fun w=>by kernel_rfl
 z37:=fun w=>by kernel_rfl
 v37:=fun w=>by kernel_rfl
 t46:=by kernel_rfl
 a46:=fun w=>by kernel_rfl
 z46:=fun w=>by kernel_rfl
 v46:=fun w=>by kernel_rfl
 t51:=by kernel_rfl
 a51:=fun w=>by kernel_rfl
 z51:=fun w=>by kernel_rfl
 v51:=fun w=>by kernel_rfl
 t53:=by kernel_rfl
 a53:=fun w=>by kernel_rfl
 z53:=fun w=>by kernel_rfl
 v53:=fun w=>by kernel_rfl
 t171:=by kernel_rfl
 a171:=fun w=>by kernel_rfl
 z171:=fun w=>by kernel_rfl
 v171:=fun w=>by kernel_rfl
 t173:=by kernel_rfl
 a173:=fun w=>by kernel_rfl
 z173:=fun w=>by kernel_rfl
 v173:=fun w=>by kernel_rfl
 t212:=by kernel_rfl
 a212:=fun w=>by kernel_rfl
 z212:=fun w=>by kernel_rfl
 v212:=fun w=>by kernel_rfl
 t213:=by kernel_rfl
 a213:=fun w=>by kernel_rfl
 z213:=fun w=>by kernel_rfl
 t232:=by kernel_rfl
 a232:=fun w=>by kernel_rfl
 z232:=fun w=>by kernel_rfl
 v232:=fun w=>by kernel_rfl
 t233:=by kernel_rfl
 a233:=fun w=>by kernel_rfl
 z233:=fun w=>by kernel_rfl
 v233:=fun w=>by kernel_rfl
 g17:=by kernel_rfl
 g18:=by kernel_rfl
 g19:=by kernel_rfl }
theorem JT:LaysM.n171 Tryz.prog E6:={ xk with
 i0:=by kernel_rfl
 i2:=by kernel_rfl
 i3:=by kernel_rfl
 i4:=by kernel_rfl
 i5:=by kernel_rfl
 i9:=by kernel_rfl
 i20:=by kernel_rfl
 i37:=by kernel_rfl
 i46:=by kernel_rfl
 i51:=by kernel_rfl
 i53:=by kernel_rfl
 i171:=by kernel_rfl
 i173:=by kernel_rfl
 i212:=by kernel_rfl
 i232:=by kernel_rfl
 i233:=by kernel_rfl
 m17:=by kernel_rfl
 m18:=by kernel_rfl
 m19:=by kernel_rfl }
theorem I3:(Tryz.prog.info? 136).map (·.size)=some 2:=by kernel_rfl
theorem OS:liesAt Tryz.prog Tryz.prog.depth 136 (2 / Tryz.prog.cellsOf 136) 0 136 1=true:=by kernel_rfl
theorem OR:(Tryz.prog.info? 5).map (fun i=>(i.zero,i.size,i.bytes))=some (some (.int .u8 0),1,1):=by kernel_rfl
theorem PT:Builder.Extra Tryz.prog I8:={ sizeBuilder:=I3,liesBuilder:=OS,t5:=by kernel_rfl,a5:=fun w=>by kernel_rfl,z5:=fun w=>by kernel_rfl,v5:=fun w=>by kernel_rfl,infoByte:=OR,cellsByte:=by kernel_rfl,sizeByte:=by kernel_rfl,neB5:=by decide }
theorem Vk:Tryz.prog.underlying 134=some (.pointer 136):=by kernel_rfl
theorem VT:Tryz.prog.underlying 192=some .unsafePointer:=by kernel_rfl
theorem vY (b:Nat) (w:World) (h0:w.cell? ⟨b,0,none⟩=some (.pointer none)) (hsh:w.shape? b=some (136,2)) (hfz:w.frozen? ⟨b,0,none⟩=false) :
  Calls Tryz.prog 127 #[.pointer (some ⟨b,0,none⟩)] w fun e w'=>e = .returned (.tuple #[])∧w'=w.setCell ⟨b,0,none⟩ (.pointer (some ⟨b,0,none⟩)):=by
 obtain ⟨j,hj,hjs⟩:=XE.1 I3
 go_enter Tryz.func127,Tryz.ntmps127
 go_wp2
 rw [Lib.run_to_unsafe w ⟨b,0,none⟩ Vk VT hj (by rw [hjs];decide) hsh (Nat.zero_lt_succ 1)];simp only [Result.andThen];rw [Oper.upon_value]
 go_wp2
 rw [run_callFunc_extern Tryz.func146 (by kernel_rfl) (by kernel_rfl) (by kernel_rfl) (e:=Extern.AbiNoEscape.same) (by kernel_rfl)];rw [Lib.run_noEscape];simp only [Result.andThen];rw [Oper.upon_value]
 go_wp2
 rw [Lib.run_from_unsafe w ⟨b,0,none⟩ VT Vk hj hsh OS];simp only [Result.andThen];rw [Oper.upon_value]
 go_wp2
 go_end0
 exact ⟨rfl,rfl⟩
theorem yw (b:Nat) (w:World) (h0:w.cell? ⟨b,0,none⟩=some (.pointer (some ⟨b,0,none⟩))) :
  Calls Tryz.prog 127 #[.pointer (some ⟨b,0,none⟩)] w fun e w'=>e = .returned (.tuple #[])∧w'=w:=by
 obtain ⟨j,hj,_⟩:=XE.1 I3
 go_enter Tryz.func127,Tryz.ntmps127
 go_wp2
 rw [Lib.run_neq_ptr_same w _ Vk hj]
 go_wp2
 go_end0
 exact ⟨rfl,rfl⟩
abbrev RM (B b:Nat) (bs:List Value) (w:World):Prop:=Lib.IsBuilderF 136 5 B b bs w
theorem vX (B b:Nat) (bs:List Value) (w:World) (h:RM B b bs w) :
  Calls Tryz.prog 127 #[.pointer (some ⟨b,0,none⟩)] w fun e w'=>e = .returned (.tuple #[])∧Lib.BuilderAtF 136 5 B b (.pointer (some ⟨b,0,none⟩)) bs w'∧Below B w w':=by
 rcases h with h|h
 ·refine (vY b w h.cell0 h.shape h.frozen0).mono ?_;rintro e w' ⟨rfl,rfl⟩;exact ⟨rfl,h.used _,(Below.refl B w).setCell (p:=⟨b,0,none⟩) h.1 _⟩
 ·refine (yw b w h.cell0).mono ?_;rintro e w' ⟨rfl,rfl⟩;exact ⟨rfl,h,Below.refl B _⟩
theorem QX:Tryz.prog.underlying 122=some (.slice 5):=by kernel_rfl
theorem Tn:Tryz.prog.underlying 9=some .string:=by kernel_rfl
theorem Er (B b:Nat) (bs:List Value) (s:ByteArray) (w:World) (h:RM B b bs w) (hlen:bs.length+s.size<=140737488355328) (hBw:B<=w.heap.size) :
  Calls Tryz.prog 89 #[.pointer (some ⟨b,0,none⟩), .string s] w fun e w'=>e = .returned (.tuple #[.int .i64 s.size, .nilIface])∧RM B b (bs++Lib.strCells s) w'∧Below B w w':=by
 obtain ⟨i0,hi,hz0,hz1,hz2⟩:=info_parts OR
 go_enter Tryz.func89,Tryz.ntmps89
 go_wp2_with fail
 refine (vX B b bs _ h).mono ?_;rintro e w1 ⟨rfl,h1,hb1⟩;obtain ⟨hB,v,hbk,hown,hne⟩:=h1;have hlt:b<w1.heap.size:=(Array.getElem?_eq_some_iff.1 hbk).1
 have c0:w1.cell? ⟨b,0,none⟩=some (.pointer (some ⟨b,0,none⟩)):=by rw [Lib.cell_of_heap hbk];rfl
 have c1:w1.cell? ⟨b,1,none⟩=some v:=by rw [Lib.cell_of_heap hbk];rfl
 go_wp2_with (at_builtin;refine Lib.wpList_append_own_stringF _ rfl _ _ 122 9 rfl B 5 i0 QX Tn hi hz0 hz1 hz2 _ _ _ rfl hown s rfl ?c3 ?c4 ?c5 ?_)
 case c3=>unfold maxLen;omega
 case c4=>omega
 case c5=>have:=hb1.size;omega
 intro v' w2 hown' hgrow _;have hb2:w2.heap[b]? = some (.cells #[.pointer (some ⟨b,0,none⟩),v] 136 (0,0)):=(hgrow.block b hlt (fun e=>hne e.symm)).trans hbk
 have d0:w2.cell? ⟨b,0,none⟩=some (.pointer (some ⟨b,0,none⟩)):=by rw [Lib.cell_of_heap hb2];rfl
 have d1:w2.cell? ⟨b,1,none⟩=some v:=by rw [Lib.cell_of_heap hb2];rfl
 have f1:w2.frozen? ⟨b,1,none⟩=false:=Lib.frozen_of_heap hb2 1
 obtain ⟨ao,n',cap,rfl⟩: ∃ao n' cap,v' = .slice ao n' cap:=by
  rcases hown'.2 with ⟨hv,_⟩|⟨g,cap,cur,fz,hv,_⟩<;>exact ⟨_,_,_,hv⟩
 go_wp2
 go_ret2
 refine ⟨rfl, .inr (Lib.BuilderAtF.put (T:=136) (e:=5) hB hb2 (bs':=bs++Lib.strCells s) (by simpa [Lib.strCells_length] using hown') (by decide)), ?_⟩;exact (hb1.grown hgrow (by have:=hb1.size;omega) (fun k hk=>(hown.lt k hk).1)).setCell (p:=⟨b,1,none⟩) hB _
def RT (n:Nat) (cs:List Value):Prop:=cs=[.int .i64 (n:Nat)]
abbrev Iy (w:World) (l:List Nat) (v:Value):Prop:=iz w 1 RT l v
theorem Hn {w:World} {xs:List Nat} {p:Option Addr} {n cap:Nat} (h:Iy w xs (.slice p n cap)) {k:Nat} (hk:k<xs.length) :
  ∃b o,p=some ⟨b,o,none⟩∧w.cell? ⟨b,o+k,none⟩=some (.int .i64 (xs[k]:Nat)):=by
 obtain ⟨b,o,cs,hp,hr,hc⟩:=iz.at h hk;subst hr;rw [Nat.mul_one] at hc;replace hc:=j4 hc;exact ⟨b,o,hp,by simpa using hc 0 _ rfl⟩
theorem GR (l:List Nat) (n:Nat):lE (l++[n])=lE l++(Lib.decDigits n++[32]):=by simp [lE]
theorem JW (l:List Nat) (hs: ∀n∈l,n<1000):(lE l).length<=4 * l.length:=by
 induction l with
 | nil=>simp [lE]
 | cons a l ih=>
  have h1:=tN a (hs a XY);have h2:=ih (fun n hn=>hs n (XW _ hn));simp only [lE,List.flatMap_cons,WX,List.length_cons,List.length_nil] at *;omega
theorem Ni (l:List Nat) (hs: ∀n∈l,n<100) (hl:l.length<=1000000) (v:Value) (w:World) (h1:Iy w l v):Calls Tryz.prog 58 #[v] w (Cw w (.string (gx l))):=by
 obtain ⟨p,c,rfl,hc1,hc2⟩:=h1.shape;unfold maxLen at hc2;have H1:=Lib.hid h1;have HS:=Lib.hid hs;clear h1 hs
 go_enter Tryz.func58,Tryz.ntmps58
 go_wp2_with fail
 go_loopw [8] (fun i wr=> ∃k:Nat,k<=l.length∧i = .int .i64 k∧Below w.heap.size w wr∧RM w.heap.size w.heap.size (Lib.byteCells (lE (l.take k))) wr) (fun i _=>l.length - (intOf i).toNat)
 case atStart=>exact ⟨0,Nat.zero_le _,rfl,(Below.refl _ w).alloc (Nat.le_refl _) _,by rw [List.take_zero];exact Lib.IsBuilderF.of (Lib.fresh_isBuilder 136 5 w)⟩
 case round=>
  obtain ⟨k,hk,rfl,hb,hI⟩:=hrel;have HB:=Lib.hid hb;have HI:=Lib.hid hI;clear hb hI
  by_cases hlt:k<l.length
  ·obtain ⟨b1,o1,rfl,a0⟩:=Hn (iz.below H1.out HB.out) hlt;have CI:=Lib.hid (Any.strconv_Itoa_small xk l[k] (HS.out _ (Ym hlt)) wr)
   have hk1:(lE (l.take k)).length<=4 * k:=by
    have:=JW (l.take k) (fun n hn=>by have:=HS.out n (List.mem_of_mem_take hn);omega)
    have h2:(l.take k).length<=k:=List.length_take_le _ _;omega
   have hk2:=tN l[k] (by have:=HS.out _ (Ym hlt);omega)
   have CW:=Lib.hid (Er w.heap.size w.heap.size (Lib.byteCells (lE (l.take k))) (⟨(Lib.decDigits l[k]).toArray⟩++⟨#[32]⟩) wr HI.out (by
    rw [Lib.byteCells_length]
    have:(⟨(Lib.decDigits l[k]).toArray⟩++⟨#[32]⟩:ByteArray).size=(Lib.decDigits l[k]).length+1:=by simp [ByteArray.size]
    omega) HB.out.size)
   go_wp2_with fail
   refine CI.out.mono ?_;rintro e w1 ⟨rfl,rfl⟩
   go_wp2_with fail
   refine CW.out.mono ?_;rintro e w2 ⟨rfl,hI2,hb2⟩
   go_wp2_with fail
   go_roundw
   case rel=>
    refine ⟨k+1,by omega,by go_num,HB.out.trans hb2, ?_⟩
    have e1:Lib.byteCells (lE (l.take (k+1)))=Lib.byteCells (lE (l.take k))++Lib.strCells (⟨(Lib.decDigits l[k]).toArray⟩++⟨#[32]⟩):=by
     rw [List.take_succ_eq_append_getElem hlt,GR,Lib.byteCells_append,Lib.strCells_eq];simp
    rw [e1];exact hI2
   case measure=>simp [intOf];omega
  ·have hkl:k=l.length:=by omega
   subst hkl
   have hI3:RM w.heap.size w.heap.size (Lib.byteCells (lE l)) wr:=by have:=HI.out;rwa [List.take_length] at this
   have CT:=Lib.hid (Any.Builder_String_any_k MI PT w.heap.size w.heap.size (lE l) wr hI3 HB.out.size)
   go_wp2_with fail
   refine CT.out.mono ?_;rintro e w1 ⟨rfl,_,hb2,_⟩
   go_wp2_with fail
   go_ret
   exact ⟨rfl,HB.out.trans hb2⟩
theorem Pc (l:List Nat) (hs: ∀n∈l,n<100) (hl:l.length<=1000000):aq Tryz.prog 58 [.aB 1 (aJ l) l.length] (.v (.string (gx l))):=
 .za (by kernel_rfl) (by simp only [aN,AV.wf,gL,Bool.and_self]) (fun D nu w vargs hra=>by
  obtain ⟨x,rfl,hx⟩:=kf hra
  exact Ni l hs hl x w (RA.QF hx (fun x _ cs hc=>BI (vs:=[.int .i64 (x:Nat)]) hc)))
theorem JU (n:Nat) (h:n<1000000):aq Tryz.prog 90 [.v (.int .i64 (n:Nat))] (.v (.string ⟨(Lib.decDigits n).toArray⟩)):=by
 refine ⟨⟨rfl,rfl⟩,by kernel_rfl,fun D nu w vargs hro hra=> ?_⟩;obtain ⟨x,rfl,hx⟩:=kf hra;obtain rfl:=hx.c6;obtain ⟨⟨t,hb⟩,_⟩:=hro.gl 1 _ _ rfl
 have htab:Lib.TabIs Tryz.prog w "internal/strconv.uint64pow10" .u64 Lib.pow10Tab:=by
  have hg:Tryz.prog.globalNamed "internal/strconv.uint64pow10" = some 1:=by kernel_rfl
  simp only [Lib.TabIs,World.var?,hg,Option.bind_some,hb]
  rfl
 refine (Any.strconv_Itoa JT n (by omega) (by omega) w htab).mono ?_;rintro e w' ⟨rfl,k,os,rfl⟩
 have e1:Lib.itoa (n:Int)=Lib.decDigits n:=by rw [Lib.itoa,if_neg (by omega)];rfl
 rw [e1];have hbw:Below w.heap.size w (Go.Sort.grow (w.drewN k) os):=Go.Lib.below_grow _ w (Nat.le_refl _) k os;exact ⟨_,nu,[],_,rfl,ay hbw,hro.below hbw, .v _,rfl,rfl⟩
section
section
variable {D:Nat->Prop} {nu:Nat->Nat->Value} {o:List (Option ab)} {w:World} {P:Program}
theorem Kj (h:RO D nu o w) {id:Nat} {ob:ab} (ho:o[id]? = some (some ob)) (hv:ob.gw=false) (hz:ob.z=0):RA D nu (o.set id none) w (.mp ob.rows) (nu id 0):=by
 rcases h.obj id ob ho with ⟨e1,_⟩|⟨g,cur,hb⟩|⟨g,es,cl,hm⟩
 ·rw [e1] at hv;cases hv
 ·have:=hb.z;omega
 ·rw [hm.sI]
  have hf:Fz D nu (o.set id none) w g:=by
   refine ⟨(WR.1 hm.fl).1, ?_,hm.nY⟩;rintro ⟨id',ob',k1,k2⟩
   by_cases he:id=id'
   ·subst he;rw [Xj (WT.1 ho).1] at k1;cases k1
   ·rw [Xi he] at k1;exact h.sep id id' ob ob' g ho k1 he hm.bF k2
  refine .mp _ g es cl hf hm.fl hm.sz hm.row hm.born hm.wi (fun i j row c e k1 k2 k3=> ?_);have hl:=hm.row i row k1;have hj:=(WT.1 k2).1
  match j,hj,k2 with
  | 0,_,k2=>exact (hm.key i row c e k1 k2 k3).mono (c7 id) (fun _ _ h=>h)
  | 1,_,k2=>exact (hm.val i row c e k1 k2 k3).mono (c7 id) (fun _ _ h=>h)
  | j+2,hj,_=>omega
theorem Ei {s:AS} (i id:Nat) {ob:ab} (hi:s.t[i]? = some (.vec id 0)) (ho:s.o[id]? = some (some ob)) (hv:ob.gw=false) (hz:ob.z=0):x8 s (AS.mk (s.t.set i (.mp ob.rows)) (s.o.set id none) s.y):=by
 intro f D nu a w hs;have hm:=c7 (nu:=nu) (o:=s.o) (w:=w) id;refine ⟨nu,hm,rfl,lG hs.ro id,⟨by simpa using hs.tm.len,fun j c x h1 h2=> ?_⟩,hs.jj⟩
 by_cases hij:i=j
 ·subst hij;rw [Xj (WT.1 hi).1] at h1;cases h1;have hr:=hs.tm.at' i _ x hi h2;cases hr;exact Kj hs.ro ho hv hz
 ·rw [Xi hij] at h1;exact (hs.tm.at' j c x h1 h2).mono hm (fun _ _ h=>h)
end
theorem Oj {s:bW} (ok:zN s) (l:List Nat) (lab:ByteArray) (hl:l.length<=1000000):aq Tryz.prog 59 [.vp (iJ s), .aB 1 (aJ l) l.length, .v (.string lab)] (.aB 1 (aJ (aU s l lab)) (aU s l lab).length):=by
 have h:=NM ok (bz l) lab (by rw [xj];exact hl);rw [xj, <- Gq] at h;exact h
theorem JQ (l:List Nat) (n:Nat) (hl:l.length<=1000000): ∃k:Int,(decide (0<=k)=l.contains n)∧aq Tryz.prog 94 [.aB 1 (aJ l) l.length, .v (.int .i64 n)] (.v (.int .i64 k)):=by
 refine ⟨if l.contains n then (l.idxOf n:Int) else -1,by split<;>simp_all<;>omega, ?_⟩;refine gE Tryz.func94 Tryz.ntmps94 Tryz.results94 ?_
 (refine au ?_;intro K hK)
 refine bf (ι:=Nat) 8 (fun i=>[(5, .undef),(8, .v (.int .i64 i))]) (fun i=>l.length - i) (fun i=>i<=l.length∧n∉l.take i) 0 ⟨Nat.zero_le _,by simp⟩ ?_ ?_
 ·refine bl ?_ ai
  rfl
 rintro i ⟨hi,hn⟩ K hK
 (revert K;revert K;refine au ?_;intro K hK K hK K hK)
 refine bD.part (fun h=> ?_) (fun h=> ?_)
 ·have hlt:i<l.length:=by replace h:=bG h;omega
  have eW:=ak (k:=i) (by omega)
  have eG:(aJ l).getD i []=[.v (.int .i64 (l[i]:Nat))]:=by rw [aJ,getD_map _ l i [] hlt]
  repeat (first|(with_reducible first|refine aw.up ?_|refine fun (K:AK) hK=> ?_|(refine hK _ ?_;clear hK K))|simp only [go_sem,h,eG]|with_reducible refine wA ?_|clear hK K)
  refine bD.part (fun h2=> ?_) (fun h2=> ?_)
  ·have hc:n=l[i]:=by replace h2:=bG h2;omega
   have hm:l.contains n=true:=by rw [Zb,hc];exact List.getElem_mem hlt
   have hx:l.idxOf n=i:=by
    have h1:l.idxOf n<=i:=by
     exact AL l n i (by rw [hc];exact Xb hlt)
    rcases Nat.lt_or_ge (l.idxOf n) i with q|q
    ·exfalso
     have hq:l.idxOf n<l.length:=by omega
     refine hn (List.mem_take_iff_getElem.2 ⟨l.idxOf n,by omega, ?_⟩);exact List.getElem_idxOf hq
    ·omega
   ((iterate 3 revert K);refine au ?_)
   rw [hm,if_pos rfl,hx]
  ·have hc:n≠l[i]:=by replace h2:=bG h2;omega
   ((iterate 3 revert K);refine aP eW ?_)
   exact az.mk (i+1) ⟨by omega,by
    rw [List.take_succ_eq_append_getElem hlt,List.mem_append]
    rintro (e|e)
    ·exact hn e
    ·exact hc (by simpa using e)⟩ (by omega) (by exact aR ai)
 ·have hm:l.contains n=false:=by
   have:i=l.length:=by replace h:=bG h;omega
   rw [this,List.take_length] at hn;rw [<-Bool.not_eq_true,Zb];exact hn
  ((iterate 3 revert K);refine au ?_)
  rw [hm,if_neg (by decide)]
theorem Ak (l:List Nat) (n:Nat) (hl:l.length<=1000000):aq Tryz.prog 61 [.aB 1 (aJ l) l.length, .v (.int .i64 n)] (.v (.bool (l.contains n))):=by
 obtain ⟨k,hk,C⟩:=JQ l n hl;refine gE Tryz.func61 Tryz.ntmps61 Tryz.results61 ?_
 (refine bq ?_;intro K hK K hK)
 refine aa.one C ?_
 (revert K;revert K;refine bq ?_)
 rw [<-hk]
def AI (p:Nat->Bool):List Nat->Nat->Int
 | [],_=> -1
 | x :: xs,i=>if p x then (i:Int) else AI p xs (i+1)
theorem AJ (p:Nat->Bool): ∀(l:List Nat) (i:Nat),decide (0<=AI p l i)=l.any p
 | [],i=>rfl
 | x :: xs,i=>by
  rw [AI,List.any_cons]
  cases p x with
  | true=>simp
  | false=>simpa using AJ p xs (i+1)
theorem yM {g:FuncId} (caps:List AV) (hw:aN 0 caps=true) (p:Nat->Bool) (l:List Nat) (hl:l.length<=1000000) (H: ∀x:Nat,aq Tryz.prog g (.v (.int .i64 x) :: caps) (.v (.bool (p x)))) :
  aq Tryz.prog 95 [.aB 1 (aJ l) l.length, .fn g [] caps] (.v (.int .i64 (AI p l 0))):=by
 (refine aq.enter Tryz.func95 rfl (by kernel_rfl) (by kernel_rfl) rfl (by simp only [go_sem,aN,AV.wf,YY,Yb,Yg,hw]) (by simp only [go_sem,aN,AV.wf,aO,YY,Yb,Yg,hw]) ?_;simp only [Tryz.ntmps95,Tryz.results95,WY,WS,Nat.reduceAdd,Nat.reduceSub,List.replicate_succ,List.replicate_zero,Y1,YR])
 (refine au ?_;intro K hK)
 refine bf (ι:=Nat) 8 (fun i=>[(5, .undef),(8, .v (.int .i64 i))]) (fun i=>l.length - i) (fun i=>i<=l.length∧AI p l 0=AI p (l.drop i) i) 0 ⟨Nat.zero_le _,rfl⟩ ?_ ?_
 ·refine bl ?_ ai
  all_goals first|exact hw|rfl|exact ⟨hw,rfl⟩
 rintro i ⟨hi,hx⟩ K hK
 (revert K;revert K;refine au ?_;intro K hK K hK K hK)
 refine bD.part (fun h=> ?_) (fun h=> ?_)
 ·have hlt:i<l.length:=by replace h:=pf h;omega
  have eW:=ak (k:=i) (by omega)
  have eG:(aJ l).getD i []=[.v (.int .i64 (l[i]:Nat))]:=by rw [aJ,getD_map _ l i [] hlt]
  have HX:=H l[i];rw [List.drop_eq_getElem_cons hlt,AI] at hx
  repeat (first|(with_reducible first|refine aw.up ?_|refine fun (K:AK) hK=> ?_|(refine hK _ ?_;clear hK K))|simp only [go_sem,eG]|with_reducible refine wA ?_|clear hK K)
  refine aa.one HX ?_
  rcases Bool.eq_false_or_eq_true (p l[i]) with hp|hp
  ·rw [hp,if_pos rfl] at hx
   ((iterate 5 revert K);refine aP hp ?_)
   rw [hx]
  ·rw [hp,if_neg (by decide)] at hx
   ((iterate 5 revert K);refine rZ hp eW ?_)
   refine az.mk (i+1) ⟨by omega,hx⟩ (by omega) ?_;refine bl ?_ ai
   all_goals first|exact hw|rfl
 ·have:i=l.length:=by replace h:=pf h;omega
  rw [this,List.drop_length,AI] at hx
  ((iterate 3 revert K);refine au ?_)
  rw [hx]
theorem sr {g:FuncId} (caps:List AV) (hw:aN 0 caps=true) (p:Nat->Bool) (l:List Nat) (hl:l.length<=1000000) (H: ∀x:Nat,aq Tryz.prog g (.v (.int .i64 x) :: caps) (.v (.bool (p x)))) :
  aq Tryz.prog 63 [.aB 1 (aJ l) l.length, .fn g [] caps] (.v (.bool (l.any p))):=by
 have C:=yM caps hw p l hl H
 (refine aq.enter Tryz.func63 rfl (by kernel_rfl) (by kernel_rfl) rfl (by simp only [go_sem,aN,AV.wf,YY,Yb,Yg,hw]) (by simp only [go_sem,aN,AV.wf,aO,YY,Yb,Yg,hw]) ?_;simp only [Tryz.ntmps63,Tryz.results63,WY,WS,Nat.reduceAdd,Nat.reduceSub,List.replicate_succ,List.replicate_zero,Y1,YR])
 (refine bq ?_;intro K hK K hK)
 refine aa.one C ?_
 (revert K;revert K;refine bq ?_)
 rw [AJ]
theorem JS (last:List Nat) (n:Nat) (hl:last.length<=1000000):aq Tryz.prog 60 [.v (.int .i64 n), .vp [.aB 1 (aJ last) last.length]] (.v (.bool (last.contains n))):=by
 have C:=Ak last n hl;refine gE Tryz.func60 Tryz.ntmps60 Tryz.results60 ?_
 (refine bq ?_;intro K hK K hK)
 refine aa.one C ?_
 (revert K;revert K;exact pS)
def Ic (l:List ByteArray):List (List AV):=b9 (l.zipIdx)
theorem E8 (l:List ByteArray):(Ic l).length=l.length:=by simp [Ic,b9]
theorem Be (l:List ByteArray) (s:ByteArray): ∀k,look (l.zipIdx k) s=(pos l s).map (fun i=>i+k):=by
 induction l with
 | nil=>intro k;simp [look,pos]
 | cons a l ih=>
  intro k;rw [List.zipIdx_cons]
  have:=ih (k+1)
  simp only [look,pos,List.find?_cons,List.findIdx?_cons] at this ⊢
  cases h:cH s a
  ·simp only [Bool.false_eq_true,if_false];rw [this,Option.map_map]
   congr 1;funext i;simp;omega
  ·simp
theorem IC (s:ByteArray) (l:List ByteArray):pw .string (.string s) (Ic l)=some ((pos l s).map (fun n=> .v (.int .i64 (n:Nat)))):=by
 rw [Ic,yf,Be,Option.map_map];rfl
theorem JZ (l:List ByteArray) (s:ByteArray):Ic (l++[s])=b9 (l.zipIdx++[(s,l.length)]):=by rw [Ic,List.zipIdx_append];simp
theorem IE (s:ByteArray) (l:List ByteArray) (h:pos l s=none):qI .string (.string s) (.v (.int .i64 (l.length:Nat))) (Ic l)=some (Ic (l++[s])):=by
 rw [Ic,qJ s l.length _ (by rw [Be,h];rfl),JZ]
@[go_sem] theorem Vq (n:Nat) (l:List ByteArray):bj n (Ic l)=true:=qv n _
mutual
theorem rC {f:Nat->Nat} {m:Nat} (hf: ∀k,k<m->f k=k): ∀a:AV,a.wf m=true->a.bg f=a
 | .undef,_=>rfl
 | .v _,_=>rfl
 | .agg cs,h=>by rw [AV.bg,iv hf cs h]
 | .cI cs,h=>by rw [AV.bg,iv hf cs h]
 | .aB z rows len,h=>by rw [AV.bg,s5 hf rows h]
 | .vp cs,h=>by rw [AV.bg,iv hf cs h]
 | .ptr id _ _ _ _,h=>by simp [AV.wf] at h;rw [AV.bg,hf id h]
 | .vec id _,h=>by simp [AV.wf] at h;rw [AV.bg,hf id h]
 | .fn g a b,h=>by
  simp only [AV.wf,XK] at h;rw [AV.bg,iv hf a h.1,iv hf b h.2]
 | .full a,h=>by rw [AV.bg,rC hf a h]
 | .kF p a,h=>by rw [AV.bg,rC hf a h]
 | .mp rows,h=>by rw [AV.bg,s5 hf rows h]
theorem iv {f:Nat->Nat} {m:Nat} (hf: ∀k,k<m->f k=k): ∀l:List AV,aN m l=true->bP f l=l
 | [],_=>rfl
 | a :: l,h=>by
  simp only [aN,XK] at h;rw [bP,rC hf a h.1,iv hf l h.2]
theorem s5 {f:Nat->Nat} {m:Nat} (hf: ∀k,k<m->f k=k): ∀l:List (List AV),bj m l=true->cG f l=l
 | [],_=>rfl
 | a :: l,h=>by
  simp only [bj,XK] at h;rw [cG,iv hf a h.1,s5 hf l h.2]
end
theorem rp {f:Nat->Nat} {m:Nat} (hf: ∀k,k<m->f k=k): ∀l:List (Option ab),(∀ob,some ob∈l->bj m ob.rows=true)->l.map (Option.map (ab.bg f))=l
 | [],_=>rfl
 | none :: l,h=>by rw [List.map_cons,rp hf l (fun ob hb=>h ob (XW _ hb))];rfl
 | some ob :: l,h=>by
  rw [List.map_cons,rp hf l (fun ob hb=>h ob (XW _ hb)),Option.map_some,ab.bg,s5 hf _ (h ob List.mem_cons_self)]
theorem qc (f:Nat->Nat): ∀(l X pre post:List (Option ab)),l.length=X.length->eu f (List.range' pre.length l.length) l (pre++X++post)=pre++l.map (Option.map (ab.bg f))++post
 | [],[],pre,post,_=>by simp [eu]
 | [],_ :: _,_,_,h=>by simp at h
 | _ :: _,[],_,_,h=>by simp at h
 | a :: l,b :: X,pre,post,h=>by
  rw [WY,List.range'_succ,eu]
  have e1:(pre++b :: X++post).set pre.length (a.map (ab.bg f))=(pre++[a.map (ab.bg f)])++X++post:=by
   rw [List.append_assoc,Zc _ _ (Nat.le_refl _),X3,Y1,List.set_cons_zero];simp
  rw [e1]
  have:=qc f l X (pre++[a.map (ab.bg f)]) post (by simpa using h)
  rw [List.length_append,List.length_singleton] at this;rw [this];simp
theorem aa.sub {P:Program} {f:FuncId} {args:List AV} {o0 o1 post:List (Option ab)} {r0:AV} {K:AV->List (Option ab)->Prop} (h:da P f args o0 r0 o1) (hl:o1.length=o0.length)
  (hwa:aN o0.length args=true) (hw0: ∀ob,some ob∈o0->bj o0.length ob.rows=true) (hw1: ∀ob,some ob∈o1->bj o0.length ob.rows=true) (hr:r0.wf o0.length=true) (k:K r0 (o1++post)):aa P f args (o0++post) K:=by
 have hs: ∀j,j<o0.length->sig (List.range' 0 o0.length) (o0++post).length j=j:=fun j hj=>by
  rw [sig,if_pos (by simpa using hj),XR,Zd hj];simp
 refine aa.fr (List.range' 0 o0.length) h List.nodup_range' ?_ (iv hs _ hwa).symm (by rw [Ze];exact hwa) (fun j ob hj=>by rw [Ze];exact hw0 ob (Xw hj)) ?_
 ·have e:o0.map (fun x=>some (x.map (ab.bg (sig (List.range' 0 o0.length) (o0++post).length))))=o0.map some:=by
   have h1:o0.map some=(o0.map (Option.map (ab.bg (sig (List.range' 0 o0.length) (o0++post).length)))).map some:=by rw [rp hs o0 hw0]
   rw [h1,List.map_map];rfl
  rw [e];refine Zf (by simp) fun j h1 h2=> ?_
  have hj:j<o0.length:=by simpa using h2
  simp only [YN,List.getElem_range',Nat.zero_add,Nat.one_mul];rw [WU hj,Xb hj]
 ·have e:=qc (sig (List.range' 0 o0.length) (o0++post).length) o1 o0 [] post hl;rw [WS,hl,YR,YR] at e;rw [e,rC hs r0 hr,rp hs o1 hw1];exact k
theorem dW.sub {P:Program} {f:FuncId} {args:List AV} {o0 o1 post:List (Option ab)} {r0:AV} {K:AV->List (Option ab)->Prop} (h:da P f args o0 r0 o1) (hl:o1.length=o0.length)
  (hwa:aN o0.length args=true) (hw0: ∀ob,some ob∈o0->bj o0.length ob.rows=true) (hw1: ∀ob,some ob∈o1->bj o0.length ob.rows=true) (hr:r0.wf o0.length=true) (k:K r0 (o1++post)):dW P f args (o0++post) K:=by
 have hs: ∀j,j<o0.length->sig (List.range' 0 o0.length) (o0++post).length j=j:=fun j hj=>by
  rw [sig,if_pos (by simpa using hj),XR,Zd hj];simp
 refine dW.fr (List.range' 0 o0.length) h List.nodup_range' ?_ (iv hs _ hwa).symm (by rw [Ze];exact hwa) (fun j ob hj=>by rw [Ze];exact hw0 ob (Xw hj)) ?_
 ·have e:o0.map (fun x=>some (x.map (ab.bg (sig (List.range' 0 o0.length) (o0++post).length))))=o0.map some:=by
   have h1:o0.map some=(o0.map (Option.map (ab.bg (sig (List.range' 0 o0.length) (o0++post).length)))).map some:=by rw [rp hs o0 hw0]
   rw [h1,List.map_map];rfl
  rw [e];refine Zf (by simp) fun j h1 h2=> ?_
  have hj:j<o0.length:=by simpa using h2
  simp only [YN,List.getElem_range',Nat.zero_add,Nat.one_mul];rw [WU hj,Xb hj]
 ·have e:=qc (sig (List.range' 0 o0.length) (o0++post).length) o1 o0 [] post hl;rw [WS,hl,YR,YR] at e;rw [e,rC hs r0 hr,rp hs o1 hw1];exact k
section
variable {D:Nat->Prop} {nu:Nat->Nat->Value} {o:List (Option ab)} {w:World} {P:Program}
theorem dK {s:AS} {k i j id len:Nat} {ob ob2:ab} {row:List AV} (hne:id≠k) (hk:s.o[k]? = some (some ob)) (hz:0<ob.z) (hr:ob.rows[i]? = some row) (hj:row[j]? = some (.vec id len)) (ho:s.o[id]? = some (some ob2)) (hv:ob2.gw=true) (hl:ob2.rows.length=len) :
  x8 s (AS.mk s.t ((s.o.set id none).set k (some { ob with rows:=ob.rows.set i (row.set j (.aB ob2.z ob2.rows len)) })) s.y):=by
 intro f D nu a w hs;have hp:=c7 (nu:=nu) (o:=s.o) (w:=w) id;have hro:=lG hs.ro id
 have hk':(s.o.set id none)[k]? = some (some ob):=by rw [Xi hne];exact hk
 have hh:ob.hl=({ ob with rows:=ob.rows.set i (row.set j (.aB ob2.z ob2.rows len)) }:ab).hl:=by simp [ab.hl]
 obtain ⟨g,cur,hb⟩: ∃g cur,zP D nu (s.o.set id none) w k ob g cur:=by
  rcases hro.obj k ob hk' with ⟨_,e,_⟩|h|⟨g,es,cl,hm⟩
  ·rw [e] at hr;simp at hr
  ·exact h
  ·have:=hm.z;omega
 have hm:=lf (nu:=nu) (o:=s.o.set id none) (w:=w) (w':=w) (ob':={ ob with rows:=ob.rows.set i (row.set j (.aB ob2.z ob2.rows len)) }) hk' hh.symm hb.bF rfl rfl rfl rfl (fun _ _=>rfl);refine ⟨nu,hp.trans hm,rfl, ?_,(hs.tm.mono hp (fun _ _ h=>h)).mono hm (fun _ _ h=>h),hs.jj⟩;have hil:=(WT.1 hr).1;have hjl:=(WT.1 hj).1;have hsl:=l5 hs.ro ho hv;rw [hl] at hsl
 have key: ∀(i' j':Nat) r c,(ob.rows.set i (row.set j (.aB ob2.z ob2.rows len)))[i']? = some r->r[j']? = some c-> ∃r0 c0,ob.rows[i']? = some r0∧r0[j']? = some c0∧(c=c0∨(c = .aB ob2.z ob2.rows len∧c0 = .vec id len)):=by
  intro i' j' r c h1 h2
  by_cases hi:i=i'
  ·subst hi;rw [Xj hil] at h1;cases h1
   by_cases hj':j=j'
   ·subst hj';rw [Xj hjl] at h2;cases h2;exact ⟨row,_,hr,hj, .inr ⟨rfl,rfl⟩⟩
   ·rw [Xi hj'] at h2;exact ⟨row,c,hr,h2, .inl rfl⟩
  ·rw [Xi hi] at h1;exact ⟨r,c,h1,h2, .inl rfl⟩
 refine vr hro hk' hh.symm hb.bF hm (fun _ _=>rfl) (cur:=cur) ⟨hb.fl,hb.nY,fun hv'=> ?_,fun hv'=> ?_,hb.z,fun i' r hi'=> ?_,fun i' j' r c x h1 h2 h3=> ?_,fun i' j' r c x h1 h2 h3=> ?_⟩
 ·obtain ⟨q1,q2,q3⟩:=hb.box hv';exact ⟨q1,by simpa using q2,q3⟩
 ·obtain ⟨cap,q1,q2,q3,q4⟩:=hb.vec hv';exact ⟨cap,by simpa using q1,by simpa using q2,q3,q4⟩
 ·by_cases hi:i=i'
  ·subst hi;rw [Xj hil] at hi';cases hi';rw [List.length_set];exact hb.row i row hr
  ·rw [Xi hi] at hi';exact hb.row i' r hi'
 ·obtain ⟨r0,c0,k1,k2,e⟩:=key i' j' r c h1 h2;have h0:=hb.cell i' j' r0 c0 x k1 k2 h3
  rcases e with rfl|⟨rfl,rfl⟩
  ·exact h0.mono hm (fun _ _ h=>h)
  ·have hx:x=nu id len:=by
    cases h0 with
    | vec=>rfl
   rw [hx];exact hsl.mono hm (fun _ _ h=>h)
 ·obtain ⟨r0,c0,k1,k2,_⟩:=key i' j' r c h1 h2;exact hb.one i' j' r0 c0 x k1 k2 h3
end
section
variable {o:List (Option ab)}
theorem pk.Ov {id len:Nat} {ob:ab} (ho:o[id]? = some (some ob)) (hv:ob.gw=true) (hl:ob.rows.length=len) {rows':List (List AV)} (hlen:rows'.length=ob.rows.length)
  (hr: ∀(i:Nat) row row',ob.rows[i]? = some row->rows'[i]? = some row'->row'.length=row.length∧ ∀(j:Nat) c c',row[j]? = some c->row'[j]? = some c'->pk o c c'):pk o (.vec id len) (.aB ob.z rows' len):=fun D nu w x hro hra=>by
 have hx:x=nu id len:=by
  cases hra with
  | vec=>rfl
 subst hx;subst hl
 have get: ∀(i:Nat) row',rows'[i]? = some row'-> ∃row,ob.rows[i]? = some row∧row'.length=row.length∧ ∀(j:Nat) c',row'[j]? = some c'-> ∃c,row[j]? = some c∧pk o c c':=fun i row' h=>by
  have hi:i<ob.rows.length:=by rw [<-hlen];exact (WT.1 h).1
  obtain ⟨h1,h2⟩:=hr i _ row' (Xb hi) h;refine ⟨_,Xb hi,h1,fun j c' hc=> ?_⟩
  have hj:j<ob.rows[i].length:=by rw [<-h1];exact (WT.1 hc).1
  exact ⟨_,Xb hj,h2 j _ c' (Xb hj) hc⟩
 rcases hro.obj id ob ho with ⟨e1,e2,e3⟩|⟨g,cur,hb⟩|⟨g,es,cl,hmp⟩
 rotate_left 2
 ·rw [hmp.gw] at hv;cases hv
 ·rw [e2] at hlen ⊢;obtain rfl:=List.eq_nil_of_length_eq_zero hlen;simp only [WS];rw [e3];exact .bu _
 ·obtain ⟨cap,q1,q2,q3,q4⟩:=hb.vec hv;have hown:owned nu o g:=⟨id,ob,ho,hb.bF⟩;rw [q1]
  have hget: ∀(i j:Nat) row c,ob.rows[i]? = some row->row[j]? = some c->cur[i * ob.z+j]? = some (cur.getD (i * ob.z+j) Go.undef):=fun i j row c k1 k2=>by
   have:=hb.pI k1 (WT.1 k2).1
   simp [Array.getD,this]
  refine .aB _ _ _ g 0 cap (fun i j=>cur.getD (i * ob.z+j) Go.undef) (by omega) (by omega) q3 (fun _=>⟨(WR.1 hb.fl).1,bb _ _,hown⟩) (fun i row' k1=> ?_) (fun i j row' c' k1 k2=> ?_) (fun i j row' c' k1 k2=> ?_) (fun i j row' c' k1 k2=> ?_)
  ·obtain ⟨row,r1,r2,_⟩:=get i row' k1;rw [r2];exact hb.row i row r1
  all_goals
   obtain ⟨row,r1,r2,r3⟩:=get i row' k1;obtain ⟨c,r4,r5⟩:=r3 j c' k2
  ·rw [<-hget i j row c r1 r4]
   have:=hb.fl
   simp [World.cell?,this]
  ·exact r5 D nu w _ hro (hb.cell i j row c _ r1 r4 (hget i j row c r1 r4))
  ·exact hb.one i j row c _ r1 r4 (hget i j row c r1 r4)
end
def cV (N:Nat) (g:Nat->Bool):List (List AV):=(List.range N).map (fun j=>[.v (.bool (g j))])
def kE (N:Nat) (f:Nat->Nat->Bool):List (List AV):=(List.range N).map (fun i=>[.aB 1 (cV N (f i)) N])
def kC (k i:Nat):Nat:=k+1+2 * i
def bc (k N m:Nat):List (List AV):=(List.range m).map (fun i=>[.vec (kC k i) N])
def jO (N:Nat) (g:Nat->Bool):Option ab:=some ⟨4,1,true,cV N g⟩
def aZ (N:Nat) (f:Nat->Nat->Bool) (m:Nat):List (Option ab):=(List.range m).flatMap (fun i=>[jO N (f i),none])
def bS (k N m:Nat) (f:Nat->Nat->Bool):List (Option ab):=some ⟨54,1,true,bc k N m⟩ :: aZ N f m
theorem js (N:Nat) (g:Nat->Bool):(cV N g).length=N:=by simp [cV]
theorem sP (N:Nat) (f:Nat->Nat->Bool):(kE N f).length=N:=by simp [kE]
theorem cO (k N m:Nat):(bc k N m).length=m:=by simp [bc]
theorem ah (N:Nat) (f:Nat->Nat->Bool) (m:Nat):(aZ N f m).length=2 * m:=by
 induction m with
 | zero=>rfl
 | succ m ih=>rw [aZ,Zg,List.flatMap_append,List.length_append, <- aZ,ih];simp;omega
theorem ec (N:Nat) (f:Nat->Nat->Bool) (m:Nat):aZ N f (m+1)=aZ N f m++[jO N (f m),none]:=by
 rw [aZ,Zg,List.flatMap_append, <- aZ];simp
theorem dA (k N m:Nat):bc k N (m+1)=bc k N m++[[.vec (kC k m) N]]:=by rw [bc,Zg,List.map_append];rfl
theorem cZ {N j:Nat} {g:Nat->Bool} (h:j<N):(cV N g).getD j []=[.v (.bool (g j))]:=by
 rw [XR,cV,Xe,Xf h];rfl
theorem rl {N i:Nat} {f:Nat->Nat->Bool} (h:i<N):(kE N f).getD i []=[.aB 1 (cV N (f i)) N]:=by
 rw [XR,kE,Xe,Xf h];rfl
theorem jL {k N m i:Nat} (h:i<m):(bc k N m).getD i []=[.vec (kC k i) N]:=by
 rw [XR,bc,Xe,Xf h];rfl
theorem lY {N:Nat} {g h:Nat->Bool} (e: ∀j,j<N->g j=h j):cV N g=cV N h:=by
 refine Zh fun j hj=> ?_;rw [e j (X8.1 hj)]
theorem Qo {N:Nat} {g h:Nat->Nat->Bool} (e: ∀i j,i<N->j<N->g i j=h i j):kE N g=kE N h:=by
 refine Zh fun i hi=> ?_;rw [lY (fun j hj=>e i j (X8.1 hi) hj)]
theorem fq {N m:Nat} {g h:Nat->Nat->Bool} (e: ∀i j,i<m->j<N->g i j=h i j):aZ N g m=aZ N h m:=by
 rw [aZ,aZ,List.flatMap_def,List.flatMap_def]
 congr 1
 refine Zh fun i hi=> ?_;rw [jO,jO,lY (fun j hj=>e i j (X8.1 hi) hj)]
theorem jD (N:Nat):List.replicate N [AV.v (.bool false)]=cV N (fun _=>false):=by
 refine Zf (by simp [cV]) fun i h1 h2=>by simp [cV]
theorem q9 {N:Nat} {f:Nat->Nat->Bool}: ∀ {m i:Nat},i<m->(aZ N f m)[2 * i]? = some (jO N (f i))
 | 0,_,h=>by omega
 | m+1,i,h=>by
  rw [ec]
  by_cases hi:i<m
  ·rw [WU (by rw [ah];omega)];exact q9 hi
  ·obtain rfl:i=m:=by omega
   rw [List.getElem?_append_right (by rw [ah];omega),ah,X3];rfl
theorem kW {k N m i:Nat} {f:Nat->Nat->Bool} {x:Option ab} (h:i<m):(x :: aZ N f m)[kC 0 i]? = some (jO N (f i)):=by
 rw [show kC 0 i=2 * i+1 by unfold kC;omega,List.getElem?_cons_succ];exact q9 h
def lZ (f:Nat->Nat->Bool) (i j:Nat) (v:Bool):Nat->Nat->Bool:=fun p q=>if p=i∧q=j then v else f p q
theorem qk {N j:Nat} {g:Nat->Bool} {v:Bool}:(cV N g).set j [.v (.bool v)]=cV N (fun q=>if q=j then v else g q):=by
 refine Zf (by simp [cV]) fun q h1 h2=> ?_;rw [List.getElem_set];simp only [cV,YN,List.getElem_range]
 split
 ·rename_i e;subst e;rw [if_pos rfl]
 ·rename_i e;rw [if_neg (fun e'=>e e'.symm)]
theorem xh {N:Nat} {f:Nat->Nat->Bool} {j:Nat} {v:Bool}: ∀ {m i:Nat},i<m->(aZ N f m).set (2 * i) (some ⟨4,1,true,(cV N (f i)).set j [.v (.bool v)]⟩)=aZ N (lZ f i j v) m
 | 0,_,h=>by omega
 | m+1,i,h=>by
  rw [ec,ec]
  by_cases hi:i<m
  ·have e:jO N (lZ f i j v m)=jO N (f m):=by
    rw [jO,jO,lY (fun q _=>by rw [lZ,if_neg (by omega)])]
   rw [List.set_append_left _ _ (by rw [ah];omega),xh hi,e]
  ·obtain rfl:i=m:=by omega
   rw [Zc _ _ (by rw [ah];omega),ah,X3,List.set_cons_zero];rw [fq (g:=lZ f i j v) (h:=f) (fun p q hp _=>by rw [lZ,if_neg (by omega)])]
   congr 2
   rw [jO,qk]
   congr 2
   refine lY fun q _=> ?_;rw [lZ]
   by_cases hq:q=j
   ·rw [if_pos hq,if_pos ⟨rfl,hq⟩]
   ·rw [if_neg hq,if_neg (fun e=>hq e.2)]
theorem mS {N m i j:Nat} {f:Nat->Nat->Bool} {v:Bool} {x:Option ab} (h:i<m):(x :: aZ N f m).set (kC 0 i) (some ⟨4,1,true,(cV N (f i)).set j [.v (.bool v)]⟩)=x :: aZ N (lZ f i j v) m:=by
 rw [show kC 0 i=2 * i+1 by unfold kC;omega,List.set_cons_succ,xh h]
theorem aY (n N:Nat) (g:Nat->Bool):bj n (cV N g)=true:=bw _ (fun _=>rfl) _
theorem fg (n N:Nat) (f:Nat->Nat->Bool):bj n (kE N f)=true:=bw _ (fun i=>by simp only [aN,AV.wf,aY,YY]) _
attribute [go_sem] aY fg js sP cO
theorem Ca (n:Nat): ∀(a:List (List AV)) (b:List AV),bj n (a++[b])=(bj n a&&aN n b)
 | [],b=>by simp [bj]
 | x :: a,b=>by simp only [Y1,bj,Ca n a b,Bool.and_assoc]
theorem jQ {n k N:Nat}: ∀ {m:Nat},k+2 * m<=n->bj n (bc k N m)=true
 | 0,_=>rfl
 | m+1,h=>by
  rw [dA,Ca,jQ (by omega)]
  have hr:kC k m<n:=by unfold kC;omega
  simp [bj,aN,AV.wf,hr]
theorem pY (N:Nat) (f:Nat->Nat->Bool):pk (bS 0 N N f) (.vec 0 N) (.aB 1 (kE N f) N):=by
 refine pk.Ov (ob:=⟨54,1,true,bc 0 N N⟩) rfl rfl (cO _ _ _) (by rw [sP];exact (cO _ _ _).symm) fun i row row' h1 h2=> ?_
 have hi:i<N:=by have:=(WT.1 h1).1;rw [cO] at this;exact this
 have e1:(bc 0 N N)[i]? = some [.vec (kC 0 i) N]:=by rw [bc,Xe,Xf hi];rfl
 have e2:(kE N f)[i]? = some [.aB 1 (cV N (f i)) N]:=by rw [kE,Xe,Xf hi];rfl
 cases (WL (e1.symm.trans h1));cases (WL (e2.symm.trans h2));refine ⟨rfl,fun j c c' k1 k2=> ?_⟩
 match j,k1,k2 with
 | 0,k1,k2=>
  cases k1;cases k2;exact pk.vec (ob:=⟨4,1,true,cV N (f i)⟩) (kW (k:=0) hi) rfl (js _ _) (xD _ (fun s c hc=>by rw [List.mem_singleton] at hc;exact ⟨_,hc⟩) _)
 | j+1,k1,k2=>simp at k1
end
end Go.Proofs.YtfflpdekojlnmaaGreatDoor
