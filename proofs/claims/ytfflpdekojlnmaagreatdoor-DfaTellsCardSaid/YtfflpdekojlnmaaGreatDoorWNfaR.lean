/- texts of one claim, one behind the other. -/
import Derived.Test.YtfflpdekojlnmaaGreatDoorWDfaA
import Derived.Test.YtfflpdekojlnmaaGreatDoorWOpenX
import Derived.Test.YtfflpdekojlnmaaGreatDoorWLang
set_option linter.unusedSimpArgs false
set_option linter.unusedVariables false
set_option maxRecDepth 100000
set_option maxHeartbeats 16000000
open Classical renaming byContradiction -> WD
open List renaming mem_cons_of_mem -> Vv, map_cons -> Wy, getD_eq_getElem?_getD -> Vq, pairwise_iff_getElem -> Wo, getElem?_eq_getElem -> UM, length_append -> UC, cons_append -> WE, take_succ_eq_append_getElem -> WG, map_nil -> WI, nil_append -> Wt, take_append_drop -> WJ, drop_eq_getElem_cons -> VB, getElem_mem -> VU, foldl_append -> Ws, foldl_cons -> V7, mem_cons -> VR, take_of_length_le -> WK, length_cons -> UD, eq_nil_of_length_eq_zero -> U9, exists_mem_of_ne_nil -> WN
open List.cons renaming injEq -> Wu
open Nat renaming lt_or_ge -> UA
open Option.some renaming injEq -> UI
open BitVec renaming getLsbD_or -> WH, getLsbD_and -> Wl
open Bool renaming or_eq_true -> VJ, true_and -> VO, and_self -> WA, false_eq_true -> VS, and_eq_true -> Vj, eq_iff_iff -> WL
namespace Go.Proofs.YtfflpdekojlnmaaGreatDoor
open Go.RowKit
section
theorem Nw {a b x y:List UInt8} (h:a++32 :: x=b++32 :: y) (ha:32∉a) (hb:32∉b):a=b∧x=y:=by
 induction a generalizing b with
 | nil=>
  cases b with
  | nil=>simpa using h
  | cons c b=>simp at h hb;exact absurd h.1 hb.1
 | cons d a ih=>
  cases b with
  | nil=>simp at h ha;exact absurd h.1.symm ha.1
  | cons c b=>
   simp only [List.cons_append,Wu,List.mem_cons,not_or] at h ha hb;obtain ⟨rfl,h⟩:=h;obtain ⟨h1,h2⟩:=ih h ha.2 hb.2;exact ⟨by rw [h1],h2⟩
section
variable (rows:List aU) (ends:List Bool)
def Fv (r:aU):Prop:= ∀p∈r,32∉p.1.data.toList
def qn (part:List Nat) (r:aU):List Nat:=r.map (fun e=>part.getD e.2 0)
theorem Aq {part:List Nat}: ∀ {r s:aU},Fv r->Fv s->r.flatMap (fun e=>32 :: (e.1.data.toList++32 :: Lib.decDigits (part.getD e.2 0)))=s.flatMap (fun e=>32 :: (e.1.data.toList++32 :: Lib.decDigits (part.getD e.2 0)))->r.map Prod.fst=s.map Prod.fst∧qn part r=qn part s
 | [],[],_,_,_=>⟨rfl,rfl⟩
 | [],b :: s,_,_,h=>by simp at h
 | a :: r,[],_,_,h=>by simp at h
 | a :: r,b :: s,h1,h2,h=>by
  simp only [List.flatMap_cons,List.cons_append,List.append_assoc,Wu,true_and] at h;obtain ⟨k1,k2⟩:=Nw h (h1 a List.mem_cons_self) (h2 b List.mem_cons_self)
  have hh: ∀t:aU,(t.flatMap (fun e=>32 :: (e.1.data.toList++32 :: Lib.decDigits (part.getD e.2 0))))=[]∨(t.flatMap (fun e=>32 :: (e.1.data.toList++32 :: Lib.decDigits (part.getD e.2 0)))).head? = some 32:=fun t=>by
   cases t with
   | nil=>exact .inl rfl
   | cons a t=>exact .inr rfl
  obtain ⟨k3,k4⟩:=oW k2 (hh r) (hh s);obtain ⟨k5,k6⟩:=Aq (fun p hp=>h1 p (Vv _ hp)) (fun p hp=>h2 p (Vv _ hp)) k4
  have:a.1=b.1:=by
   cases ha:a.1 with|mk x=>cases hb:b.1 with|mk y=>
   rw [ha,hb] at k1;exact congrArg ByteArray.mk (Array.toList_inj.1 k1)
  exact ⟨by rw [Wy,Wy,k5,this],by rw [qn,Wy,k3];rw [qn,qn] at k6;rw [k6];rfl⟩
theorem vI {part:List Nat} {p q:Nat} {r s:aU} (h1:Fv r) (h2:Fv s) (h:bU part p r=bU part q s):p=q∧r.map Prod.fst=s.map Prod.fst∧qn part r=qn part s:=by
 have e:tB part p r=tB part q s:=by
  have:(bU part p r).data.toList=(bU part q s).data.toList:=by rw [h]
  simpa [bU] using this
 have hh: ∀t:aU,(t.flatMap (fun e=>32 :: (e.1.data.toList++32 :: Lib.decDigits (part.getD e.2 0))))=[]∨(t.flatMap (fun e=>32 :: (e.1.data.toList++32 :: Lib.decDigits (part.getD e.2 0)))).head? = some 32:=fun t=>by
  cases t with
  | nil=>exact .inl rfl
  | cons a t=>exact .inr rfl
 obtain ⟨k1,k2⟩:=oW e (hh r) (hh s);exact ⟨k1,Aq h1 h2 k2⟩
structure Q8 (part:List Nat):Prop where
 ends: ∀s t,s<rows.length->t<rows.length->part.getD s 0=part.getD t 0->ends.getD s false=ends.getD t false
 row: ∀s t,s<rows.length->t<rows.length->part.getD s 0=part.getD t 0->(rows.getD s []).map Prod.fst=(rows.getD t []).map Prod.fst∧qn part (rows.getD s [])=qn part (rows.getD t [])
def pc:Prop:= ∀r∈rows,Fv r
theorem rz (h:pc rows) (s:Nat):Fv (rows.getD s []):=by
 rcases UA s rows.length with q|q
 ·exact h _ (aZ q)
 ·rw [Vq,List.getElem?_eq_none q];exact fun p hp=>by simp at hp
theorem vK {part:List Nat} {s t:Nat} (hs:s<rows.length) (ht:t<rows.length):(dJ rows part).getD s 0=(dJ rows part).getD t 0↔bU part (part.getD s 0) (rows.getD s [])=bU part (part.getD t 0) (rows.getD t []):=by
 have ok:=gj rows part rows.length;obtain ⟨q1,q2⟩:=ok.at' s hs;obtain ⟨r1,r2⟩:=ok.at' t ht
 constructor
 ·intro e;have e1:(dp rows part rows.length).2.getD s 0=(dp rows part rows.length).2.getD t 0:=e;rw [<-q2, <- r2];simp only [e1]
 ·intro e;rw [<-q2, <- r2] at e
  exact WD fun hne=>by
   rcases UA ((dp rows part rows.length).2.getD s 0) ((dp rows part rows.length).2.getD t 0) with h|h
   ·exact Wo.1 ok.nd _ _ q1 r1 h e
   ·exact Wo.1 ok.nd _ _ r1 q1 (Nat.lt_of_le_of_ne h (fun q=>hne q.symm)) e.symm
theorem ot {part:List Nat} {s t:Nat} (hs:s<rows.length) (ht:t<rows.length) (h:(dJ rows part).getD s 0=(dJ rows part).getD t 0):part.getD s 0=part.getD t 0:=
 tC ((vK rows hs ht).1 h)
theorem jy {part:List Nat} {s:Nat} (hs:s<rows.length):(dJ rows part).getD s 0<e9 rows part:=((gj rows part rows.length).at' s hs).1
theorem BZ {part:List Nat} {many:Nat} (h:OW rows part many) (hlt: ∀s,s<rows.length->part.getD s 0<many) (he:e9 rows part=many) {s t:Nat} (hs:s<rows.length) (ht:t<rows.length) (hp:part.getD s 0=part.getD t 0):(dJ rows part).getD s 0=(dJ rows part).getD t 0:=by
 refine WD fun hne=> ?_
 have hch: ∀k, ∃m,k<many-> ∃u,u<rows.length∧part.getD u 0=k∧(dJ rows part).getD u 0=m:=fun k=>by
  by_cases hk:k<many
  ·obtain ⟨u,h1,h2⟩:=h.2 k hk;exact ⟨_,fun _=>⟨u,h1,h2,rfl⟩⟩
  ·exact ⟨0,fun q=>absurd q hk⟩
 obtain ⟨f,hf⟩:=Classical.axiomOfChoice hch
 have fin: ∀a b,a<many->b<many->f a=f b->a=b:=fun a b ha hb e=>by
  obtain ⟨u,k1,k2,k3⟩:=hf a ha;obtain ⟨v,m1,m2,m3⟩:=hf b hb
  have:=ot rows k1 m1 (k3.trans (e.trans m3.symm))
  rw [<-k2, <- m2];exact this
 have hk:=hlt s hs
 
 obtain ⟨z,hz,hz2⟩: ∃z,z<rows.length∧part.getD z 0=part.getD s 0∧(dJ rows part).getD z 0≠f (part.getD s 0):=by
  by_cases q:(dJ rows part).getD s 0=f (part.getD s 0)
  ·exact ⟨t,ht,hp.symm,fun e=>hne (q.trans e.symm)⟩
  ·exact ⟨s,hs,rfl,q⟩
 have:=H8 (many+1) (e9 rows part) (fun a=>if a<many then f a else (dJ rows part).getD z 0) (fun a ha=>by
  split
  ·rename_i q;obtain ⟨u,k1,_,k3⟩:=hf a q;rw [<-k3];exact jy rows k1
  ·exact jy rows hz) (fun a b ha hb e=>by
  have side: ∀a,a<many->f a≠(dJ rows part).getD z 0:=fun a q e=>by
   obtain ⟨u,k1,k2,k3⟩:=hf a q
   have:=ot rows k1 hz (k3.trans e)
   have ha':a=part.getD s 0:=by rw [<-k2,this,hz2.1]
   subst ha';exact hz2.2 e.symm
  split at e<;>split at e
  ·rename_i q1 q2;exact fin a b q1 q2 e
  ·rename_i q1 q2;exact absurd e (side a q1)
  ·rename_i q1 q2;exact absurd e.symm (side b q2)
  ·omega)
 omega
def Mx (part:List Nat):Prop:= ∀s t,s<rows.length->t<rows.length->part.getD s 0=part.getD t 0->ends.getD s false=ends.getD t false
theorem zR (hn:pc rows) (hT: ∀r∈rows, ∀p∈r,p.2<rows.length) (h0:0<rows.length): ∀(f:Nat) {part:List Nat} {many:Nat},Mx rows ends part->OW rows part many->many<=rows.length->(many≠0-> ∀s,s<rows.length->part.getD s 0<many)->rows.length+1<=f+many ->
  Q8 rows ends (nq rows f part many)∧(nq rows f part many).length=rows.length
 | 0,part,many,_,_,_,_,hf=>by omega
 | f+1,part,many,he,ho,hm,hlt,hf=>by
  have hN:Mx rows ends (dJ rows part):=fun s t hs ht h=>he s t hs ht (ot rows hs ht h);have hpos:0<e9 rows part:=Nat.lt_of_le_of_lt (Nat.zero_le _) (jy rows (part:=part) h0);rw [nq]
  split
  ·rename_i hq;refine ⟨⟨hN,fun s t hs ht h=> ?_⟩,(mv rows part).1⟩;obtain ⟨_,k2,k3⟩:=vI (rz rows hn s) (rz rows hn t) ((vK rows hs ht).1 h);refine ⟨k2, ?_⟩
   
   have hlen:(rows.getD s []).length=(rows.getD t []).length:=by simpa using congrArg List.length k2
   refine List.ext_getElem (by simp only [qn,List.length_map,hlen]) fun i h1 h2=> ?_
   have e:(qn part (rows.getD s []))[i]? = (qn part (rows.getD t []))[i]? :=by rw [k3]
   simp only [qn,List.length_map] at h1 h2;simp only [qn,List.getElem?_map,UM h1,UM h2,Option.map_some,UI,List.getElem_map] at e ⊢;exact BZ rows ho (hlt (by omega)) hq (hT _ (aZ hs) _ (List.getElem_mem h1)) (hT _ (aZ ht) _ (List.getElem_mem h2)) e
  ·rename_i hq
   have:=lg rows ho
   exact zR hn hT h0 f hN (mv rows part) (mr rows part) (fun _ s hs=>jy rows hs) (by omega)
theorem tF (hn:pc rows) (hT: ∀r∈rows, ∀p∈r,p.2<rows.length) (h0:0<rows.length) (hl:ends.length=rows.length):Q8 rows ends (bt rows ends)∧(bt rows ends).length=rows.length:=by
 refine zR rows ends hn hT h0 (rows.length+2) (fun s t hs ht h=> ?_) ⟨by simp [p0,hl],fun k h=>by omega⟩ (Nat.zero_le _) (fun h=>absurd rfl h) (by omega)
 have hg: ∀u,u<rows.length->(p0 ends).getD u 0=if ends.getD u false then 1 else 0:=fun u hu=>by
  rw [p0,Vq,List.getElem?_map,UM (by omega),Vq,UM (by omega)];rfl
 rw [hg s hs,hg t ht] at h;cases h1:ends.getD s false<;>cases h2:ends.getD t false<;>simp_all
variable {rows ends}
theorem s9 {part:List Nat}: ∀ {r s:aU},r.map Prod.fst=s.map Prod.fst->qn part r=qn part s-> ∀l,(look r l=none↔look s l=none)∧ ∀a b,look r l=some a->look s l=some b->part.getD a 0=part.getD b 0
 | [],[],_,_,l=>⟨Iff.rfl,fun a b h=>by simp [look] at h⟩
 | [],b :: s,h,_,l=>by simp at h
 | a :: r,[],h,_,l=>by simp at h
 | a :: r,b :: s,h1,h2,l=>by
  rw [Wy,Wy,Wu] at h1;rw [qn,qn,Wy,Wy,Wu] at h2;obtain ⟨k1,k2⟩:=s9 h1.2 h2.2 l
  cases hh:cw l a.1
  ·have hb:cw l b.1=false:=by rw [<-h1.1];exact hh
   simp only [look,List.find?_cons,hh,hb] at k1 k2 ⊢;exact ⟨k1,k2⟩
  ·have hb:cw l b.1=true:=by rw [<-h1.1];exact hh
   simp only [look,List.find?_cons,hh,hb,Option.map_some];exact ⟨by simp,fun x y hx hy=>by cases hx;cases hy;exact h2.1⟩
theorem xE (hT: ∀r∈rows, ∀p∈r,p.2<rows.length) {s:Nat} (hs:s<rows.length) {l:ByteArray} {t:Nat} (h:look (rows.getD s []) l=some t):t<rows.length:=hT _ (aZ hs) _ (jw h)
theorem vY (hT: ∀r∈rows, ∀p∈r,p.2<rows.length) {part:List Nat} (h:Q8 rows ends part): ∀(w:List ByteArray) {s t:Nat},s<rows.length->t<rows.length->part.getD s 0=part.getD t 0->c6 rows ends s w=c6 rows ends t w
 | [],s,t,hs,ht,e=>h.ends s t hs ht e
 | l :: w,s,t,hs,ht,e=>by
  obtain ⟨h1,h2⟩:=h.row s t hs ht e;obtain ⟨k1,k2⟩:=s9 h1 h2 l;rw [c6,c6,uB,uB]
  cases q1:look (rows.getD s []) l with
  | none=>rw [k1.1 q1]
  | some a=>
   cases q2:look (rows.getD t []) l with
   | none=>rw [k1.2 q2] at q1;cases q1
   | some b=>exact vY hT h w (xE hT hs q1) (xE hT ht q2) (k2 a b q1 q2)
def Gt (part order:List Nat) (r r':aU):Prop:= ∀l,(look r l=none->look r' l=none)∧ ∀t,look r l=some t-> ∃k,look r' l=some k∧k<order.length∧part.getD (order.getD k 0) 0=part.getD t 0
theorem Gt.mono {part order t:List Nat} {r r':aU} (h:Gt part order r r'):Gt part (order++t) r r':=fun l=>
 ⟨(h l).1,fun a ha=>by
  obtain ⟨k,k1,k2,k3⟩:=(h l).2 a ha
  exact ⟨k,k1,by rw [UC];omega,by rw [bW k2];exact k3⟩⟩
theorem I5 (part:List Nat) (order:List Nat): ∀r:aU,(r.map Prod.fst).Nodup->Gt part (dH part order r).1 r (dH part order r).2:=by
 refine fg (fun _ l=>⟨fun _=>by simp [dH,look],fun t h=>by simp [look] at h⟩) ?_;intro r e ih hn l;rw [List.map_append] at hn;have hn':=List.nodup_append.1 hn;have ih:=ih hn'.1;have hm:look r e.1=none:=gK.2 fun q=>hn'.2.2 e.1 q e.1 (by simp) rfl
 have key: ∀(o':List Nat) (k:Nat),(∃t,o'=(dH part order r).1++t)->k<o'.length->part.getD (o'.getD k 0) 0=part.getD e.2 0->(look (r++[e]) l=none->look ((dH part order r).2++[(e.1,k)]) l=none)∧ ∀t,look (r++[e]) l=some t-> ∃j,look ((dH part order r).2++[(e.1,k)]) l=some j∧j<o'.length∧part.getD (o'.getD j 0) 0=part.getD t 0:=by
  rintro _ k ⟨t2,rfl⟩ hk hp;have e2:r++[e]=r++[(e.1,e.2)]:=rfl;rw [e2,ik,ik,il,il]
  by_cases hl:l=e.1
  ·subst hl;rw [hm,(ih _).1 hm,if_pos rfl,if_pos rfl];refine ⟨fun h=>by simp at h,fun t h=> ?_⟩;simp only [Option.none_or,UI] at h;subst h;exact ⟨k,rfl,hk,hp⟩
  ·rw [if_neg hl,if_neg hl]
   refine ⟨fun h=> ?_,fun t h=> ?_⟩
   ·cases q:look r l with
    | none=>rw [(ih l).1 q];rfl
    | some t=>rw [q] at h;cases h
   ·cases q:look r l with
    | none=>rw [q] at h;cases h
    | some t'=>
     rw [q] at h;simp only [Option.some_or,UI] at h;subst h;obtain ⟨j,j1,j2,j3⟩:=(ih l).2 t' q;exact ⟨j,by rw [j1];rfl,by rw [UC];omega,by rw [bW j2];exact j3⟩
 rw [kG,Dz]
 split
 ·rename_i n hq;obtain ⟨q1,q2⟩:=vQ part hq
  have q3:(dH part order r).1.getD n 0=(dH part order r).1[n]:=by rw [Vq,UM q1,Option.getD_some]
  exact key _ n ⟨[],by simp⟩ q1 (by show part.getD ((dH part order r).1.getD n 0) 0=_;rw [q3];exact q2)
 ·exact key _ _ ⟨_,rfl⟩ (by simp) (by rw [dT])
structure QW (rows:List aU) (ends:List Bool) (part:List Nat) (st:wv):Prop where
 zero:st.order.getD 0 0=0
 row: ∀k,k<st.rows.length->Gt part st.order (rows.getD (st.order.getD k 0) []) (st.rows.getD k [])
 Br: ∀k,k<st.rows.length->st.ends.getD k false=ends.getD (st.order.getD k 0) false
theorem LV (hT: ∀r∈rows, ∀p∈r,p.2<rows.length) (hN: ∀r∈rows,(r.map Prod.fst).Nodup) {part:List Nat} {st:wv} (ho:D7 rows part st) (h:QW rows ends part st) (h1:st.rows.length<st.order.length):QW rows ends part (dQ rows ends part st):=by
 have hc:dq st<rows.length:=ho.lt _ (aZ h1);obtain ⟨_,_,_,k4,_,t,k6⟩:=rD part (n:=rows.length) ho.nd ho.lt (rows.getD (dq st) []) (hT _ (aZ hc));have hr:=I5 part st.order (rows.getD (dq st) []) (hN _ (aZ hc))
 have hg: ∀k,k<st.order.length->(dQ rows ends part st).order.getD k 0=st.order.getD k 0:=fun k hk=>by simp only [dQ,k6];exact bW hk
 refine ⟨by rw [hg 0 (by omega)];exact h.zero,fun k hk=> ?_,fun k hk=> ?_⟩
 ·have hk':k<st.rows.length+1:=by simpa [dQ] using hk
  rw [hg k (by omega)]
  rcases UA k st.rows.length with q|q
  ·simp only [dQ,k6,fX q];exact (h.row k q).mono
  ·obtain rfl:k=st.rows.length:=by omega
   simp only [dQ,dT];exact hr
 ·have hk':k<st.rows.length+1:=by simpa [dQ] using hk
  rw [hg k (by omega)]
  rcases UA k st.rows.length with q|q
  ·simp only [dQ];rw [fX (by rw [ho.ends];exact q)];exact h.Br k q
  ·obtain rfl:k=st.rows.length:=by omega
   simp only [dQ];rw [<-ho.ends,dT,ho.ends];rfl
theorem I6 (hT: ∀r∈rows, ∀p∈r,p.2<rows.length) (hN: ∀r∈rows,(r.map Prod.fst).Nodup) {part:List Nat}: ∀(f:Nat) {st:wv},D7 rows part st->QW rows ends part st->QW rows ends part (lV rows ends part f st)
 | 0,st,_,h=>h
 | f+1,st,ho,h=>by
  rw [lV]
  split
  ·rename_i h1;exact I6 hT hN f (ph rows ends part hT ho h1) (LV hT hN ho h h1)
  ·exact h
theorem zx (hT: ∀r∈rows, ∀p∈r,p.2<rows.length) (hN: ∀r∈rows,(r.map Prod.fst).Nodup) (h0:0<rows.length) (part:List Nat) :
  D7 rows part (cp rows ends part)∧(cp rows ends part).rows.length=(cp rows ends part).order.length∧QW rows ends part (cp rows ends part):=by
 have h:=DA rows ends part hT (rows.length+1) (Dy rows part h0) (by simp [q0]);exact ⟨h.1,h.2,I6 hT hN _ (Dy rows part h0) ⟨rfl,fun k hk=>by simp [q0] at hk,fun k hk=>by simp [q0] at hk⟩⟩
theorem zW {part:List Nat}: ∀(f:Nat) {st:wv},st.order.length<=(lV rows ends part f st).order.length
 | 0,st=>Nat.le_refl _
 | f+1,st=>by
  rw [lV]
  split
  ·have hq: ∀(o:List Nat) (r:aU),o.length<=(dH part o r).1.length:=fun o=>by
    refine fg (by simp [dH]) ?_;intro r e ih;rw [kG,Dz]
    split
    ·exact ih
    ·simp only [UC];omega
   exact Nat.le_trans (hq _ _) (zW f (st:=dQ rows ends part st))
  ·exact Nat.le_refl _
theorem qP (hT: ∀r∈rows, ∀p∈r,p.2<rows.length) {part:List Nat} (hS:Q8 rows ends part) {st:wv} (ho:D7 rows part st) (hl:st.rows.length=st.order.length) (h:QW rows ends part st): ∀(w:List ByteArray) {k:Nat},k<st.order.length->c6 st.rows st.ends k w=c6 rows ends (st.order.getD k 0) w
 | [],k,hk=>h.Br k (by omega)
 | l :: w,k,hk=>by
  have hr:=h.row k (by omega) l;have hs:st.order.getD k 0<rows.length:=ho.lt _ (aZ hk);rw [c6,c6,uB,uB]
  cases q:look (rows.getD (st.order.getD k 0) []) l with
  | none=>rw [hr.1 q]
  | some t=>
   obtain ⟨j,j1,j2,j3⟩:=hr.2 t q;rw [j1]
   have:=qP hT hS ho hl h w j2
   rw [c6,c6] at this;simp only;rw [this];exact vY hT hS w (ho.lt _ (aZ j2)) (xE hT hs q) j3
end
end
theorem KU {l:List Nat} {k:Nat} {x:List AV} (h:(aI l)[k]? = some x): ∃hk:k<l.length,x=[.v (.int .i64 (l[k]:Nat))]:=by
 obtain ⟨h1,h2⟩:=List.getElem?_eq_some_iff.1 h;simp only [aI,List.length_map] at h1;exact ⟨h1,by rw [<-h2];simp [aI]⟩
theorem iP {n0:Nat} {Q:aY->AS->Prop} {t:List AV} {o:List (Option aa)} {y:jo} {g:Operand} {ps:Array Tmp} {assign body:Code} (m:BitVec 32) (id:Nat) (ho:o[id]? = some (some (nL m))) (mm:Nat) (O:Nat->List (Option aa)) (ok:Nat->Prop) (h0:ok 0)
  (hg:(AS.mk t o y).ev g = .fn 138 [] [.ptr id 0 1 0 0]) (hdead:(O 0)[id]? = some none) (hwk:Wk n0 ⟨t,o,y⟩ ⟨cK mm t,O 0,y⟩) (hA:bR assign=true) (hB:bR body=true) (hps:ps.size=1)
  (hround: ∀k (hk:k<(aq m).length),ok k->cj Tryz.prog (O 0).length assign ⟨iE ps.toList [.v (.int .i64 ((aq m)[k]:Nat))] (cK mm t),O k,y⟩ (pL Tryz.prog (O 0).length body (oG (O 0).length (cK mm t) (ok (k+1)) (O (k+1)) y Q)))
  (hfin:ok (aq m).length->Q .normal ⟨cK mm t,O (aq m).length,y⟩):cj Tryz.prog n0 (.rangeFunc g ps assign body) ⟨t,o,y⟩ Q:=by
 have hl:(aI (aq m)).length=(aq m).length:=by simp [aI]
 refine rZ (Ku m) [id] (by simp) ?_ ?_ O (fun _=>y) ok h0 (cK mm t) ?_ (by rfl) ?_ hwk hA hB ?_ ?_ (by rw [hl];exact hfin)
 ·simp only [Wy,List.map_nil,ho,Option.map_some];rfl
 ·intro k ob hk
  match k,hk with
  | 0,hk=>cases hk;rfl
  | k+1,hk=>simp at hk
 ·rw [hg];rfl
 ·intro i hi ob
  obtain rfl:i=id:=by simpa using hi
  rw [hdead];intro h;cases h
 ·intro x hx;obtain ⟨p,_,rfl⟩:=List.mem_map.1 hx;exact hps.symm
 ·intro k x hk hx;obtain ⟨hlt,rfl⟩:=KU hx;exact hround k hlt hk
def ofM (p:Int):BitVec 32:=if 0<=p∧p<=24 then 1#32 <<< p.toNat else 0#32
theorem pd {p:Int} {i:Nat}:(ofM p).getLsbD i=decide (0<=p∧p<=24∧i=p):=by
 rw [ofM]
 split
 ·rename_i h;rw [BitVec.getLsbD_shiftLeft,BitVec.getLsbD_one,Bool.eq_iff_iff];simp;omega
 ·rename_i h;rw [BitVec.getLsbD_zero,eq_comm,decide_eq_false_iff_not];omega
theorem N8 (p:Int):ar Tryz.prog 83 [.v (.int .i64 p)] (aK (ofM p)):=by
 have hS:0<=p∧p<=24->IntKind.u32.wrap (1 * 2 ^ min p.toNat 32)=((ofM p).toNat:Nat):=fun h=>by
  have e:min p.toNat 32=p.toNat:=by omega
  rw [ofM,if_pos h,e,Ly]
 have hZ: ¬(0<=p∧p<=24)->ofM p=0#32:=fun h=>by rw [ofM,if_neg h]
 simp only [aK]
 rcases Int.lt_or_le p 0 with h1|h1
 ·have b1:decide (p<0)=true:=decide_eq_true h1;rw [hZ (by omega)];refine gE Tryz.func83 Tryz.ntmps83 Tryz.results83 ?_;refine vd b1 ?_
  rfl
 ·have b1:decide (p<0)=false:=decide_eq_false (by omega)
  rcases Int.lt_or_le 24 p with h2|h2
  ·have b2:decide (24<p)=true:=decide_eq_true h2;rw [hZ (by omega)];refine gE Tryz.func83 Tryz.ntmps83 Tryz.results83 ?_;refine Dj b1 b2 ?_
   rfl
  ·have b2:decide (24<p)=false:=decide_eq_false (by omega);have e:=hS ⟨h1,h2⟩;have e0:(0<=p)=True:=eq_true h1;refine gE Tryz.func83 Tryz.ntmps83 Tryz.results83 ?_
   repeat (first|(with_reducible first|refine aA.up ?_|refine fun (K:AK) hK=> ?_|(refine hK _ ?_;clear hK K))|simp only [go_sem,b1,b2,e,e0,Go.undef]|with_reducible refine wA ?_|clear hK K)
theorem Iu (m:BitVec 32):ar Tryz.prog 88 [aK m] (.aC 1 (aI (aq m)) (aq m).length):=by
 have A:=pC m;have hb:=EB m;simp only [nL,aK] at *;refine gE Tryz.func88 Tryz.ntmps88 Tryz.results88 ?_
 (refine aw ?_;intro K hK K hK K hK)
 refine ab.fr [] A (by simp) ?_ ?_ ?_ ?_ ?_
 ·rfl
 ·rfl
 ·rfl
 ·intro k ob hk;simp at hk
 ((iterate 3 revert K);refine aw ?_;intro K hK)
 refine uZ (dD (k:=0) (i:=0) (j:=0) 3 1 (by decide) rfl (by decide) rfl rfl) (by kernel_rfl) ?_;simp only [List.length_cons,List.length_nil,Nat.reduceAdd,WE,List.nil_append,List.set_cons_zero]
 refine iP m 1 rfl 3 (fun k=>[some ⟨79,1,false,[[.vec 2 k]]⟩,none,some ⟨3,1,true,aI ((aq m).take k)⟩]) (fun _=>True) trivial ?_ rfl ?_ (by kernel_rfl) (by kernel_rfl) rfl ?_ ?_
 ·rfl
 ·refine o5 ?_ aj
  rfl
 ·intro k hk _
  have eS:aI ((aq m).take (k+1))=aI ((aq m).take k)++[[.v (.int .i64 ((aq m)[k]:Nat))]]:=by rw [WG hk,aI,List.map_append];rfl
  have eL:(aI ((aq m).take k)).length=k:=by simp [aI];omega
  repeat (first|(with_reducible first|refine aA.up ?_|refine fun (K:AK) hK=> ?_|(refine hK _ ?_;clear hK K))|simp only [go_sem]|with_reducible refine wA ?_|clear hK K)
  rw [eS];exact aR aj
 ·intro _;have e1:(aq m).take (aq m).length=aq m:=List.take_length
  have eL:(aI (aq m)).length=(aq m).length:=by simp [aI]
  (revert K;refine aM e1 ?_)
  rw [<-eL]
  (refine jm.of 40 rfl ?_;simp only [go_sem])
  trace_state
structure bP where
 labs:List ByteArray
 fs:List (BitVec 32)
 la:BitVec 32
 em:Bool
def bP.row (i:Nat) (s:bP):List AV:= .vec i s.labs.length :: (s.fs.map aK++[aK s.la, .v (.bool s.em)])
def bP.os (s:bP):List (Option aa):=[some ⟨99,28,false,[s.row 1]⟩,some ⟨9,1,true,s.labs.map encS⟩]
def Fj (b:BitVec 32) (fs:List (BitVec 32)) (p:Nat):List (BitVec 32):=fs.set p (fs.getD p 0#32 ||| b)
def lQ (b:BitVec 32) (l:List Nat) (fs:List (BitVec 32)):List (BitVec 32):=l.foldl (Fj b) fs
theorem o7 (b:BitVec 32): ∀(l:List Nat) (fs:List (BitVec 32)),(lQ b l fs).length=fs.length
 | [],fs=>rfl
 | p :: l,fs=>by rw [lQ,List.foldl_cons, <- lQ,o7 b l,Fj,List.length_set]
theorem Fk (b:BitVec 32) (l:List Nat) (p:Nat) (fs:List (BitVec 32)):lQ b (l++[p]) fs=Fj b (lQ b l fs) p:=by
 rw [lQ,List.foldl_append];rfl
theorem Di {fs:List (BitVec 32)} {l:AV} {X:List AV} {p:Nat} (h:p<fs.length): ∃r,(l :: (fs.map aK++X)).drop (1+p * 1)=aK (fs.getD p 0#32) :: r:=by
 refine ⟨(fs.map aK++X).drop (p+1), ?_⟩;rw [Nat.mul_one,Nat.add_comm,List.drop_succ_cons,List.drop_eq_getElem_cons (by simp;omega),List.getElem_append_left (by simpa using h),List.getElem_map];simp [List.getD,h]
theorem NF {fs:List (BitVec 32)} {l:AV} {X:List AV} {p:Nat} (x:BitVec 32) (h:p<fs.length):(l :: (fs.map aK++X)).take (1+p * 1)++aK x :: (fs.map aK++X).drop (1+p * 1)=l :: ((fs.set p x).map aK++X):=by
 rw [Nat.mul_one,Nat.add_comm,List.take_succ_cons,WE,List.map_set, <- List.set_append_left p (aK x) (by simpa using h),List.set_eq_take_append_cons_drop,if_pos (by simp;omega)]
theorem Cl (n:Nat) (fs:List (BitVec 32)) (x y:Value):aV n (fs.map aK++[.v x, .v y])=true:=by
 induction fs with
 | nil=>rfl
 | cons z l ih=>simp only [Wy,WE,aV,aK,AV.wf,Bool.true_and];exact ih
theorem xT (f:Nat->Nat) (fs:List (BitVec 32)) (x y:Value):bM f (fs.map aK++[.v x, .v y])=fs.map aK++[.v x, .v y]:=by
 induction fs with
 | nil=>rfl
 | cons z l ih=>simp only [Wy,WE,bM,ih];rfl
attribute [go_sem] Cl xT
theorem It (s:bP) (a b:BitVec 32) (hl:s.fs.length=25) (ha: ∀p,p∈aq a->p<25) :
  c7 Tryz.prog 85 [.ptr 0 0 28 0 0,aK a,aK b] s.os (.cI []) (bP.os { s with fs:=lQ b (aq a) s.fs }):=by
 have A:=pC a;obtain ⟨labs,fs,la,em⟩:=s;simp only [bP.os,bP.row,nL] at *;simp only [aK] at A;simp only [aK];refine gF Tryz.func85 Tryz.ntmps85 Tryz.results85 ?_
 (refine dO ?_;intro K hK K hK)
 refine ab.fr [] A (by simp) ?_ ?_ ?_ ?_ ?_
 ·rfl
 ·rfl
 ·rfl
 ·intro k ob hk;simp at hk
 (revert K;revert K;refine dO ?_)
 refine iP a 4 (by simp only [nL,aK];rfl) 6 (fun k=>[some ⟨99,28,false,[.vec 1 labs.length :: ((lQ b ((aq a).take k) fs).map aK++[.v (.int .u32 la.toNat), .v (.bool em)])]⟩,some ⟨9,1,true,labs.map encS⟩,some ⟨61,1,false,[[.ptr 0 0 28 0 0]]⟩,some ⟨96,1,false,[[.v (.int .u32 b.toNat)]]⟩,none]) (fun _=>True) trivial ?_ rfl ?_ (by kernel_rfl) (by kernel_rfl) rfl ?_ ?_
 ·rfl
 ·refine o5 ?_ aj
  rfl
 ·intro k hk _;have hp:=ha _ (List.getElem_mem hk);rw [WG hk,Fk,Fj]
  have hL:(lQ b ((aq a).take k) fs).length=25:=by rw [o7];exact hl
  generalize lQ b ((aq a).take k) fs=F at *;generalize (aq a)[k]=p at *;obtain ⟨r,eD⟩:=Di (l:= .vec 1 labs.length) (X:=[.v (.int .u32 la.toNat), .v (.bool em)]) (fs:=F) (p:=p) (by omega);have eS:=NF (l:= .vec 1 labs.length) (X:=[.v (.int .u32 la.toNat), .v (.bool em)]) (fs:=F) (p:=p) (F.getD p 0#32 ||| b) (by omega);have eT:(p:Int).toNat=p:=Int.toNat_natCast p
  have eB:0<=(p:Int)∧(p:Int)<25:=by omega
  simp only [aK] at eD eS
  repeat (first|(with_reducible first|refine aA.up ?_|refine fun (K:AK) hK=> ?_|refine wE ?_|refine wK ?_|refine wF ?_|(refine hK _ ?_;clear hK K))|simp only [go_sem,eD,ld]|with_reducible refine wA ?_|clear hK K)
  rw [eS];exact aR aj
 ·intro _;have e1:(aq a).take (aq a).length=aq a:=List.take_length;refine kz e1 ?_
  (refine ⟨?_, ?_, ?_⟩<;>simp only [di,j7,AV.v.injEq,Value.int.injEq,Value.bool.injEq,Value.string.injEq,AV.vec.injEq,AV.ptr.injEq,true_or,or_true,false_or,or_false,aa.mk.injEq,forall_eq_apply_imp_iff,forall_eq,forall_eq',go_sem])
structure JZ where
 st:bP
 op:Bool
 ends:BitVec 32
 first:BitVec 32
def cC (x:Ex) (b:bP×BitVec 32×BitVec 32) (r:JZ):JZ:=
 ⟨{ b.1 with fs:=lQ b.2.1 (aq r.ends) b.1.fs },if aG x then r.op else false,(if aG x then r.ends else 0#32) ||| b.2.2,if r.op then r.first ||| b.2.1 else r.first⟩
mutual
def oP:Ex->bP->bP×BitVec 32×BitVec 32
 | .mk k s l,st=>
  if k=1 then ({ st with labs:=st.labs++[s] },ofM ((st.labs.length+1:Nat):Int),ofM ((st.labs.length+1:Nat):Int))
  else if k=2 then ((gw l ⟨st,true,0#32,0#32⟩).st,(gw l ⟨st,true,0#32,0#32⟩).first,(gw l ⟨st,true,0#32,0#32⟩).ends)
  else if k=4∨k=5 then ({ (fq l (st,0#32,0#32)).1 with fs:=lQ (fq l (st,0#32,0#32)).2.1 (aq (fq l (st,0#32,0#32)).2.2) (fq l (st,0#32,0#32)).1.fs },(fq l (st,0#32,0#32)).2.1,(fq l (st,0#32,0#32)).2.2)
  else fq l (st,0#32,0#32)
def gw:List Ex->JZ->JZ
 | [],r=>r
 | x :: xs,r=>gw xs (cC x (oP x r.st) r)
def fq:List Ex->bP×BitVec 32×BitVec 32->bP×BitVec 32×BitVec 32
 | [],r=>r
 | x :: xs,r=>fq xs ((oP x r.1).1,r.2.1 ||| (oP x r.1).2.1,r.2.2 ||| (oP x r.1).2.2)
end
theorem yI: ∀(l m:List Ex) (r:JZ),gw (l++m) r=gw m (gw l r)
 | [],m,r=>by simp [gw]
 | x :: l,m,r=>by simp only [WE,gw];exact yI l m _
theorem yH: ∀(l m:List Ex) (r:bP×BitVec 32×BitVec 32),fq (l++m) r=fq m (fq l r)
 | [],m,r=>by simp [fq]
 | x :: l,m,r=>by simp only [WE,fq];exact yH l m _
theorem qa {fs:List (BitVec 32)} {p q:Nat} {x:BitVec 32} (h:p<fs.length):(fs.set p x).getD q 0#32=if q=p then x else fs.getD q 0#32:=by
 simp only [List.getD,List.getElem?_set]
 by_cases e:p=q
 ·subst e;simp [h]
 ·rw [if_neg e,if_neg (fun h=>e h.symm)]
theorem s8 {b:BitVec 32}: ∀ {l:List Nat} {fs:List (BitVec 32)} {p q:Nat},(∀j∈l,j<fs.length)->(((lQ b l fs).getD p 0#32).getLsbD q=true↔(fs.getD p 0#32).getLsbD q=true∨(p∈l∧b.getLsbD q=true))
 | [],fs,p,q,_=>by simp [lQ]
 | j :: l,fs,p,q,hl=>by
  have hj:j<fs.length:=hl j (by simp);rw [lQ,List.foldl_cons, <- lQ,s8 (fun k hk=>by rw [Fj,List.length_set];exact hl k (by simp [hk])),Fj,qa hj,List.mem_cons]
  by_cases e:p=j
  ·subst e;simp only [if_true,WH,VJ,true_or,true_and]
   constructor
   ·rintro ((h|h)|⟨_,h⟩)
    ·exact .inl h
    ·exact .inr h
    ·exact .inr h
   ·rintro (h|h)
    ·exact .inl (.inl h)
    ·exact .inl (.inr h)
  ·rw [if_neg e];simp [e]
structure Nd (x:Ex) (st:bP) (r:bP×BitVec 32×BitVec 32):Prop where
 labs:r.1.labs=st.labs++aB x
 len:r.1.fs.length=25
 la:r.1.la=st.la
 em:r.1.em=st.em
 fst: ∀p,r.2.1.getLsbD p=true↔jX x st.labs.length p
 vF: ∀p,r.2.2.getLsbD p=true↔jg x st.labs.length p
 qK: ∀p q,(r.1.fs.getD p 0#32).getLsbD q=true↔(st.fs.getD p 0#32).getLsbD q=true∨iL x st.labs.length p q
structure R0 (l:List Ex) (r R:JZ):Prop where
 labs:R.st.labs=r.st.labs++aJ l
 len:R.st.fs.length=25
 la:R.st.la=r.st.la
 em:R.st.em=r.st.em
 op:R.op=(r.op&&cB l)
 fst: ∀p,R.first.getLsbD p=true↔r.first.getLsbD p=true∨(r.op=true∧gv l r.st.labs.length p)
 vF: ∀p,R.ends.getLsbD p=true↔(cB l=true∧r.ends.getLsbD p=true)∨jn l r.st.labs.length p
 qK: ∀p q,(R.st.fs.getD p 0#32).getLsbD q=true↔(r.st.fs.getD p 0#32).getLsbD q=true∨gu l r.st.labs.length p q∨(r.ends.getLsbD p=true∧gv l r.st.labs.length q)
structure RW (l:List Ex) (r R:bP×BitVec 32×BitVec 32):Prop where
 labs:R.1.labs=r.1.labs++aJ l
 len:R.1.fs.length=25
 la:R.1.la=r.1.la
 em:R.1.em=r.1.em
 fst: ∀p,R.2.1.getLsbD p=true↔r.2.1.getLsbD p=true∨fN l r.1.labs.length p
 vF: ∀p,R.2.2.getLsbD p=true↔r.2.2.getLsbD p=true∨fO l r.1.labs.length p
 qK: ∀p q,(R.1.fs.getD p 0#32).getLsbD q=true↔(r.1.fs.getD p 0#32).getLsbD q=true∨gW l r.1.labs.length p q
theorem r8: ∀(l:List Ex) (r:JZ),(∀x∈l, ∀st,st.fs.length=25->st.labs.length+(aB x).length<=24->Nd x st (oP x st))->r.st.fs.length=25->(∀p∈aq r.ends,p<25)->r.st.labs.length+(aJ l).length<=24->R0 l r (gw l r)
 | [],r,_,hf,he,hb=>by
  rw [gw];exact ⟨by simp [aJ],hf,rfl,rfl,by simp [cB],fun p=>by simp [gv],fun p=>by simp [jn,cB],fun p q=>by simp [gu,gv]⟩
 | x :: xs,r,hx,hf,he,hb=>by
  rw [aJ,List.length_append] at hb;have B:=hx x (by simp) r.st hf (by omega);generalize hbx:oP x r.st=b at B
  have hlen:(r.st.labs++aB x).length=r.st.labs.length+(aB x).length:=by simp
  have hends: ∀p∈aq ((cC x b r).ends),p<25:=fun p hp=>by
   have:=aW.1 hp
   simp only [cC] at this;rw [WH,VJ,B.vF] at this
   rcases this with h|h
   ·split at h
    ·exact he p (aW.2 h)
    ·simp at h
   ·have:=fB x h;omega
  have S:=r8 xs (cC x b r) (fun y hy=>hx y (by simp [hy])) (by simp only [cC,o7];exact B.len) hends (by simp only [cC,B.labs,hlen];omega)
  have hfol: ∀p q,((cC x b r).st.fs.getD p 0#32).getLsbD q=true↔((r.st.fs.getD p 0#32).getLsbD q=true∨iL x r.st.labs.length p q)∨(r.ends.getLsbD p=true∧jX x r.st.labs.length q):=fun p q=>by
   show ((lQ _ _ _).getD p 0#32).getLsbD q=true↔_;rw [s8 (fun j hj=>by rw [B.len];exact he j hj),B.qK,B.fst,aW]
  have hl2:(cC x b r).st.labs.length=r.st.labs.length+(aB x).length:=by simp only [cC,B.labs,hlen]
  have hE: ∀p,(cC x b r).ends.getLsbD p=true↔(aG x=true∧r.ends.getLsbD p=true)∨jg x r.st.labs.length p:=fun p=>by
   simp only [cC];rw [WH,VJ,B.vF];cases aG x<;>simp
  have hF: ∀p,(cC x b r).first.getLsbD p=true↔r.first.getLsbD p=true∨(r.op=true∧jX x r.st.labs.length p):=fun p=>by
   simp only [cC]
   cases r.op
   ·simp
   ·simp only [if_true,WH,VJ,B.fst,true_and]
  have hO:(cC x b r).op=(r.op&&aG x):=by simp only [cC];cases r.op<;>cases aG x<;>rfl
  rw [gw,hbx]
  refine ⟨?_,S.len, ?_, ?_, ?_,fun p=> ?_,fun p=> ?_,fun p q=> ?_⟩
  ·rw [S.labs];simp only [cC];rw [B.labs,aJ,List.append_assoc]
  ·rw [S.la];exact B.la
  ·rw [S.em];exact B.em
  ·rw [S.op,hO,cB,Bool.and_assoc]
  ·rw [S.fst,hF,hO,hl2,gv];grind
  ·rw [S.vF,hE,hl2,jn,cB];grind
  ·rw [S.qK,hfol,hE,hl2,gv,gu];grind
theorem r7: ∀(l:List Ex) (r:bP×BitVec 32×BitVec 32),(∀x∈l, ∀st,st.fs.length=25->st.labs.length+(aB x).length<=24->Nd x st (oP x st))->r.1.fs.length=25->r.1.labs.length+(aJ l).length<=24->RW l r (fq l r)
 | [],r,_,hf,hb=>by
  rw [fq];exact ⟨by simp [aJ],hf,rfl,rfl,fun p=>by simp [fN],fun p=>by simp [fO],fun p q=>by simp [gW]⟩
 | x :: xs,r,hx,hf,hb=>by
  rw [aJ,List.length_append] at hb;have B:=hx x (by simp) r.1 hf (by omega);rw [fq];generalize oP x r.1=b at B ⊢
  have hlen:b.1.labs.length=r.1.labs.length+(aB x).length:=by rw [B.labs];simp
  have A:=r7 xs (b.1,r.2.1 ||| b.2.1,r.2.2 ||| b.2.2) (fun y hy=>hx y (by simp [hy])) B.len (by rw [hlen];omega)
  refine ⟨?_,A.len, ?_, ?_,fun p=> ?_,fun p=> ?_,fun p q=> ?_⟩
  ·rw [A.labs,B.labs,aJ,List.append_assoc]
  ·rw [A.la];exact B.la
  ·rw [A.em];exact B.em
  ·rw [A.fst,hlen,fN,WH,VJ,B.fst];grind
  ·rw [A.vF,hlen,fO,WH,VJ,B.vF];grind
  ·rw [A.qK,hlen,gW,B.qK];grind
theorem oQ (x:Ex): ∀st:bP,st.fs.length=25->st.labs.length+(aB x).length<=24->Nd x st (oP x st):=by
 induction x using Ex.ind with
 | h k s l ih=>
  intro st hf hb
  by_cases h1:k=1
  ·subst h1
   have hl:aB (.mk 1 s l)=[s]:=by rw [aB,if_pos rfl]
   rw [hl] at hb;simp only [List.length_singleton] at hb
   have hp: ∀p,(ofM ((st.labs.length+1:Nat):Int)).getLsbD p=true↔p=st.labs.length+1:=fun p=>by
    rw [pd,decide_eq_true_eq];omega
   rw [oP,if_pos rfl];exact ⟨by rw [hl],hf,rfl,rfl,fun p=>by rw [jX,if_pos rfl];exact hp p,fun p=>by rw [jg,if_pos rfl];exact hp p,fun p q=>by rw [iL,if_pos rfl,or_false]⟩
  ·rw [cO h1] at hb;rw [oP,if_neg h1]
   by_cases h2:k=2
   ·subst h2;rw [if_pos rfl];have S:=r8 l ⟨st,true,0#32,0#32⟩ ih hf (by rw [kS];intro p hp;cases hp) hb
    refine ⟨by rw [cO h1];exact S.labs,S.len,S.la,S.em,fun p=> ?_,fun p=> ?_,fun p q=> ?_⟩
    ·rw [jX,if_neg h1,if_pos rfl,S.fst];simp
    ·rw [jg,if_neg h1,if_pos rfl,S.vF];simp
    ·rw [iL,if_neg h1,if_pos rfl,S.qK];simp
   ·rw [if_neg h2];have A:=r7 l (st,0#32,0#32) ih hf hb
    have hF: ∀p,jX (.mk k s l) st.labs.length p↔fN l st.labs.length p:=fun p=>by rw [jX,if_neg h1,if_neg h2]
    have hL: ∀p,jg (.mk k s l) st.labs.length p↔fO l st.labs.length p:=fun p=>by rw [jg,if_neg h1,if_neg h2]
    have aF: ∀p,(fq l (st,0#32,0#32)).2.1.getLsbD p=true↔fN l st.labs.length p:=fun p=>by rw [A.fst];simp
    have aL: ∀p,(fq l (st,0#32,0#32)).2.2.getLsbD p=true↔fO l st.labs.length p:=fun p=>by rw [A.vF];simp
    by_cases h4:k=4∨k=5
    ·rw [if_pos h4];refine ⟨by rw [cO h1];exact A.labs,by rw [o7];exact A.len,A.la,A.em,fun p=>by rw [hF,aF],fun p=>by rw [hL,aL],fun p q=> ?_⟩;show ((lQ _ _ _).getD p 0#32).getLsbD q=true↔_
     rw [s8 (fun j hj=>by
      have:=fp ((aL j).1 (aW.1 hj))
      rw [A.len];omega),A.qK,aF,aW,aL,iL,if_neg h1,if_neg h2]
     grind
    ·rw [if_neg h4];refine ⟨by rw [cO h1];exact A.labs,A.len,A.la,A.em,fun p=>by rw [hF,aF],fun p=>by rw [hL,aL],fun p q=> ?_⟩;rw [A.qK,iL,if_neg h1,if_neg h2]
     grind
theorem qq (f:Nat->Nat) (l:List ByteArray):cv f (l.map encS)=l.map encS:=by
 induction l with
 | nil=>rfl
 | cons x l ih=>simp only [Wy,cv,ih];rfl
theorem bP.Jc (s:bP) (n:Nat):s.os.map (fun x=>some (x.map (aa.bb (sig [0,1] n))))=s.os.map some:=by
 simp only [bP.os,bP.row,aK,Wy,WI,Option.map_some,aa.bb,cv,bM,AV.bb,xT,qq]
 rfl
theorem ab.O0 {P:Program} {f:FuncId} {args:List AV} {s s':bP} {tl:List (Option aa)} {r0:AV} {K:AV->List (Option aa)->Prop} (h:c7 P f args s.os r0 s'.os) (hargs:bM (sig [0,1] (tl.length+2)) args=args) (hwa:aV 2 args=true) (hr:r0.bb (sig [0,1] (tl.length+2))=r0)
  (k:K r0 (s'.os++tl)):ab P f args (s.os++tl) K:=by
 have hn:(s.os++tl).length=tl.length+2:=by simp [bP.os]
 refine ab.fr [0,1] h (by decide) ?_ ?_ hwa ?_ ?_
 ·rw [bP.Jc];simp [bP.os]
 ·rw [hn,hargs]
 ·intro i ob hi
  match i,hi with
  | 0,hi=>cases hi;simp only [bP.row,aK,bw,aV,AV.wf,Cl];rfl
  | 1,hi=>cases hi;exact bB _ (fun _=>rfl) _
  | i+2,hi=>simp [bP.os] at hi
 ·rw [hn,hr]
  have e:ej (sig [0,1] (tl.length+2)) [0,1] s'.os (s.os++tl)=s'.os++tl:=by
   have h:=s'.Jc (tl.length+2);simp only [bP.os,Wy,WI,List.cons.injEq,Option.some.injEq,and_true] at h;simp only [bP.os,ej,h.1,h.2,WE,Wt,List.set_cons_zero,List.set_cons_succ,WI,List.append_nil]
  rw [e];exact k
def Gr (x:Ex):Prop:= ∀st:bP,st.fs.length=25->st.labs.length+(aB x).length<=24 ->
 c7 Tryz.prog 54 [.ptr 0 0 28 0 0, .agg (aN x)] st.os (.agg [aK (oP x st).2.1,aK (oP x st).2.2]) (oP x st).1.os
theorem gJ: ∀(l m:List Ex),aJ (l++m)=aJ l++aJ m
 | [],m=>by simp [aJ]
 | x :: l,m=>by simp only [WE,aJ,gJ l m,List.append_assoc]
structure PE (l:List Ex) (r:JZ) (k:Nat) (S:JZ):Prop where
 len:S.st.fs.length=25
 ends: ∀p∈aq S.ends,p<25
 labs: ∀h:k<l.length,S.st.labs.length+(aB l[k]).length<=24
theorem On {l:List Ex} {st:bP} (hf:st.fs.length=25) (hb:st.labs.length+(aJ l).length<=24) (k:Nat):PE l ⟨st,true,0#32,0#32⟩ k (gw (l.take k) ⟨st,true,0#32,0#32⟩):=by
 have e:aJ l=aJ (l.take k)++aJ (l.drop k):=by rw [<-gJ,WJ]
 rw [e,UC] at hb;have S:=r8 (l.take k) ⟨st,true,0#32,0#32⟩ (fun x _=>oQ x) hf (by rw [kS];intro p hp;cases hp) (by show st.labs.length+(aJ (l.take k)).length<=24;omega)
 refine ⟨S.len,fun p hp=> ?_,fun h=> ?_⟩
 ·rcases (S.vF p).1 (aW.1 hp) with h|h
  ·simp at h
  ·have h2:p<=st.labs.length+(aJ (l.take k)).length:=(fp (wu h)).2;omega
 ·rw [S.labs,UC];rw [VB h,aJ,UC] at hb;simp only;omega
theorem ED {l:List Ex} {k:Nat} (h:k<l.length) (r:JZ):gw (l.take (k+1)) r=cC l[k] (oP l[k] (gw (l.take k) r).st) (gw (l.take k) r):=by
 rw [WG h,yI];rfl
theorem Oo (l:List Ex) (hl:l.length<=24) (hk: ∀x∈l,x.ok∧ay x=true) (H: ∀x∈l,Gr x) (st:bP) (hf:st.fs.length=25) (hb:st.labs.length+(aJ l).length<=24) :
  c7 Tryz.prog 84 [.ptr 0 0 28 0 0, .aC 3 (l.map aN) l.length] st.os (.agg [aK (gw l ⟨st,true,0#32,0#32⟩).first,aK (gw l ⟨st,true,0#32,0#32⟩).ends]) (gw l ⟨st,true,0#32,0#32⟩).st.os:=by
 have e0:gw (l.take 0) ⟨st,true,0#32,0#32⟩=⟨st,true,0#32,0#32⟩:=rfl;have eZ:aK 0#32 = .v (.int .u32 0):=rfl;simp only [aK,bP.os,bP.row];refine gF Tryz.func84 Tryz.ntmps84 Tryz.results84 ?_
 (refine aw ?_;intro K hK)
 refine cq (ι:=Nat) (fun k=>[(0, .ptr 0 0 28 0 0),(4, .ptr 2 0 2 0 0),(5, .v (.bool (gw (l.take k) ⟨st,true,0#32,0#32⟩).op)),(6,aK (gw (l.take k) ⟨st,true,0#32,0#32⟩).ends),(10, .aC 3 (l.map aN) l.length),(11, .v (.int .i64 l.length)),(12, .v (.int .i64 k))])
  (fun k=>(gw (l.take k) ⟨st,true,0#32,0#32⟩).st.os++[some ⟨101,2,false,[[aK (gw (l.take k) ⟨st,true,0#32,0#32⟩).first, .v (.int .u32 0)]]⟩]) (fun k=>l.length - k) (fun k=>k<=l.length) 0 (by omega) ?_ ?_
 ·simp only [e0,aK,bP.os,bP.row,WE,Wt]
  refine iI ?_ ?_ aj
  ·exact ⟨rfl,rfl⟩
  ·rfl
 ·intro k hkl K hK;have A:=On hf hb k;generalize hS:gw (l.take k) ⟨st,true,0#32,0#32⟩=S at A ⊢;simp only [aK,bP.os,bP.row,WE,Wt];simp only [gq,List.foldl_cons,List.foldl_nil,List.replicate_succ,List.replicate_zero,go_sem]
  (revert K;revert K;refine aw ?_;intro K hK K hK K hK)
  refine bH.part (fun h=> ?_) (fun h=> ?_)
  ·have hlt:k<l.length:=by replace h:=bI h;omega
   have eG:=getD_map aN l k [] hlt;have eW:=ak (k:=k) (by omega);have C1:=H l[k] (VU hlt) S.st A.len (A.labs hlt);have B:=oQ l[k] S.st A.len (A.labs hlt);have hx:=hk l[k] (VU hlt);have C3:=Cs l[k] hx.1;rw [dk,hx.2,VO] at C3
   have hNext:gw (l.take (k+1)) ⟨st,true,0#32,0#32⟩=cC l[k] (oP l[k] S.st) S:=by rw [ED hlt,hS]
   generalize l[k]=x at *;generalize oP x S.st=b at *;have C2:=It b.1 S.ends b.2.1 B.len A.ends;simp only [aD] at eG C1 C3;simp only [aK] at C1 C2
   have wE:aV 2 [.ptr 0 0 28 0 0, .agg [.v (.int .i64 x.kind), .v (.string x.label), .aC 3 (x.kids.map aN) x.kids.length]]=true:=by simp only [aV,AV.wf,bl,WA,VO];rfl
   have rE: ∀f:Nat->Nat,f 0=0->bM f [.ptr 0 0 28 0 0, .agg [.v (.int .i64 x.kind), .v (.string x.label), .aC 3 (x.kids.map aN) x.kids.length]]=[.ptr 0 0 28 0 0, .agg [.v (.int .i64 x.kind), .v (.string x.label), .aC 3 (x.kids.map aN) x.kids.length]]:=fun f hf=>by
    simp only [bM,AV.bb,hf,dy f _ (bl 0 x.kids)]
   repeat (first|(with_reducible first|refine aA.up ?_|refine fun (K:AK) hK=> ?_|(refine hK _ ?_;clear hK K))|simp only [go_sem,eG]|with_reducible refine wA ?_|clear hK K)
   refine ab.O0 C1 (rE _ rfl) wE rfl ?_;simp only [bP.os,bP.row,aK,WE,Wt];obtain ⟨sS,op,en,fi⟩:=S;simp only at *
   ((iterate 5 revert K);refine aw ?_;iterate 5 intro K hK)
   refine ab.O0 C2 rfl rfl rfl ?_;simp only [bP.os,bP.row,aK,WE,Wt];cases op<;>cases hem:aG x
   all_goals
    rw [hem] at C3
    repeat (first|(with_reducible first|refine aA.up ?_|refine fun (K:AK) hK=> ?_|(refine hK _ ?_;clear hK K))|simp only [go_sem,ld]|with_reducible refine wA ?_|clear hK K)
    refine ab.one C3 ?_
    repeat (first|(with_reducible first|refine aA.up ?_|refine fun (K:AK) hK=> ?_|(refine hK _ ?_;clear hK K))|simp only [go_sem,ld]|with_reducible refine wA ?_|clear hK K)
    refine az.mk (k+1) (by omega) (by omega) ?_;rw [hNext];simp only [cC,hem,bP.os,bP.row,aK,WE,Wt,if_true,if_false,Bool.false_eq_true];refine bo ?_ aj
    all_goals first|exact eW|exact ⟨ld 0#32 _,eW⟩|exact ⟨ld _ _,eW⟩
  ·have hkl':k=l.length:=by replace h:=bI h;omega
   have eT:gw l ⟨st,true,0#32,0#32⟩=S:=by rw [<-hS,hkl',List.take_length]
   ((iterate 3 revert K);refine aw ?_)
   (refine ⟨?_, ?_, ?_⟩<;>simp only [di,j7,AV.v.injEq,Value.int.injEq,Value.bool.injEq,Value.string.injEq,AV.vec.injEq,AV.ptr.injEq,true_or,or_true,false_or,or_false,aa.mk.injEq,forall_eq_apply_imp_iff,forall_eq,forall_eq',go_sem])
   ·rw [eT]
   ·rw [eT];exact ⟨rfl,rfl⟩
theorem EC {l:List Ex} {k:Nat} (h:k<l.length) (r:bP×BitVec 32×BitVec 32):fq (l.take (k+1)) r=((oP l[k] (fq (l.take k) r).1).1,(fq (l.take k) r).2.1 ||| (oP l[k] (fq (l.take k) r).1).2.1,(fq (l.take k) r).2.2 ||| (oP l[k] (fq (l.take k) r).1).2.2):=by
 rw [WG h,yH];rfl
structure Pv (l:List Ex) (k:Nat) (S:bP×BitVec 32×BitVec 32):Prop where
 len:S.1.fs.length=25
 vF: ∀p∈aq S.2.2,p<25
 labs: ∀h:k<l.length,S.1.labs.length+(aB l[k]).length<=24
theorem Nq {l:List Ex} {st:bP} (hf:st.fs.length=25) (hb:st.labs.length+(aJ l).length<=24) (k:Nat):Pv l k (fq (l.take k) (st,0#32,0#32)):=by
 have e:aJ l=aJ (l.take k)++aJ (l.drop k):=by rw [<-gJ,WJ]
 rw [e,UC] at hb;have S:=r7 (l.take k) (st,0#32,0#32) (fun x _=>oQ x) hf (by show st.labs.length+(aJ (l.take k)).length<=24;omega)
 refine ⟨S.len,fun p hp=> ?_,fun h=> ?_⟩
 ·rcases (S.vF p).1 (aW.1 hp) with h|h
  ·simp at h
  ·have h2:p<=st.labs.length+(aJ (l.take k)).length:=(fp h).2;omega
 ·rw [S.labs,UC];rw [VB h,aJ,UC] at hb;simp only;omega
theorem ln {k:Int} {s:ByteArray} {l:List Ex} (h:ay (.mk k s l)=true): ∀x∈l,ay x=true:=fun x hx=>by
 simp only [ay,Bool.and_eq_true,decide_eq_true_eq,List.all_eq_true] at h ⊢
 have hs: ∀y,y∈ah x->y∈ah (.mk k s l):=fun y hy=>by
  rw [ah,bf];exact List.mem_cons_of_mem _ (List.mem_flatMap.2 ⟨x,hx,hy⟩)
 refine ⟨?_,fun y hy=>h.2 y (hs y hy)⟩
 have:=fJ (.mk k s l) x (hs x (by obtain ⟨k',s',l'⟩:=x;rw [ah];exact List.mem_cons_self))
 omega
theorem Dv: ∀ {l:List Ex},nz l-> ∀x∈l,x.ok
 | [],_,x,hx=>by cases hx
 | y :: l,h,x,hx=>by
  rw [nz] at h
  rcases List.mem_cons.1 hx with rfl|hx
  ·exact h.1
  ·exact Dv h.2 x hx
theorem Od (x:Ex) (ho:x.ok) (hr:ay x=true):Gr x:=by
 induction x using Ex.ind with
 | h k s l ih=>
  intro st hf hb;have hkid: ∀x∈l,x.ok∧ay x=true:=fun x hx=>⟨Dv (by rw [Ex.ok] at ho;exact ho.2) x hx,ln hr x hx⟩;have H: ∀x∈l,Gr x:=fun x hx=>ih x hx (hkid x hx).1 (hkid x hx).2
  have hl:l.length<=24:=by
   simp only [ay,Bool.and_eq_true,decide_eq_true_eq] at hr
   have:=jP (.mk k s l);simp only [Ex.kids] at this;omega
  by_cases h1:k=1
  ·subst h1;rw [aB,if_pos rfl] at hb;simp only [List.length_singleton] at hb;have C:=N8 ((st.labs.length+1:Nat):Int)
   have eL:(st.labs++[s]).map encS=st.labs.map encS++[[.v (.string s)]]:=by simp [encS]
   have eN:(st.labs++[s]).length=st.labs.length+1:=by simp
   rw [oP,if_pos rfl];simp only [aD,Ex.kind,Ex.label,Ex.kids,aK,bP.os,bP.row,eL,eN] at C ⊢;refine gF Tryz.func54 Tryz.ntmps54 Tryz.results54 ?_
   repeat ((fail_if_success (with_reducible refine bF (i:=3) ?_));first|(with_reducible first|refine aA.up ?_|refine fun (K:AK) hK=> ?_|refine ae (by decide) ?_|refine ai (by decide) ?_|(refine hK _ ?_;clear hK K))|simp only [go_sem,Go.undef]|with_reducible refine wA ?_|(refine cJ rfl ?_)|(refine b7 rfl ?_)|clear hK K)
   refine b8 [8,11] [] (by decide+kernel) (by kernel_rfl) ?_
   repeat (first|(with_reducible first|refine aA.up ?_|refine fun (K:AK) hK=> ?_|refine ae (by decide) ?_|refine ai (by decide) ?_|(refine hK _ ?_;clear hK K))|simp only [go_sem]|with_reducible refine wA ?_|(refine cJ rfl ?_)|(refine b7 rfl ?_)|clear hK K)
   refine ab.one C ?_
   ((iterate 3 revert K);refine sF ?_)
   (refine ⟨?_, ?_, ?_⟩<;>simp only [di,j7,AV.v.injEq,Value.int.injEq,Value.bool.injEq,Value.string.injEq,AV.vec.injEq,AV.ptr.injEq,true_or,or_true,false_or,or_false,aa.mk.injEq,forall_eq_apply_imp_iff,forall_eq,forall_eq',go_sem])
  ·have f1:(k==1)=false:=beq_false_of_ne h1;rw [cO h1] at hb;rw [oP,if_neg h1]
   have wE:aV 2 [.ptr 0 0 28 0 0, .aC 3 (l.map aN) l.length]=true:=by simp only [aV,AV.wf,bl,WA,VO];rfl
   have rE: ∀f:Nat->Nat,f 0=0->bM f [.ptr 0 0 28 0 0, .aC 3 (l.map aN) l.length]=[.ptr 0 0 28 0 0, .aC 3 (l.map aN) l.length]:=fun f hf=>by
    simp only [bM,AV.bb,hf,dy f _ (bl 0 l)]
   by_cases h2:k=2
   ·subst h2;have C:=Oo l hl hkid H st hf hb;rw [if_pos rfl];generalize gw l ⟨st,true,0#32,0#32⟩=R at *;simp only [aD,Ex.kind,Ex.label,Ex.kids,aK] at C ⊢;refine gF Tryz.func54 Tryz.ntmps54 Tryz.results54 ?_
    repeat ((fail_if_success (with_reducible refine bF (i:=3) ?_));first|(with_reducible first|refine aA.up ?_|refine fun (K:AK) hK=> ?_|refine ae (by decide) ?_|refine ai (by decide) ?_|(refine hK _ ?_;clear hK K))|simp only [go_sem,f1,bP.os,bP.row,aK]|with_reducible refine wA ?_|(refine cJ rfl ?_)|(refine b7 rfl ?_)|clear hK K)
    refine ab.O0 C (rE _ rfl) wE rfl ?_;simp only [bP.os,bP.row,aK,WE,Wt]
    ((iterate 3 revert K);refine sF ?_)
    (refine ⟨?_, ?_, ?_⟩<;>simp only [di,j7,AV.v.injEq,Value.int.injEq,Value.bool.injEq,Value.string.injEq,AV.vec.injEq,AV.ptr.injEq,true_or,or_true,false_or,or_false,aa.mk.injEq,forall_eq_apply_imp_iff,forall_eq,forall_eq',go_sem])
   ·have f2:(k==2)=false:=beq_false_of_ne h2;rw [if_neg h2];have e0:fq (l.take 0) (st,0#32,0#32)=(st,0#32,0#32):=rfl;simp only [aD,Ex.kind,Ex.label,Ex.kids,aK];refine gF Tryz.func54 Tryz.ntmps54 Tryz.results54 ?_
    repeat ((fail_if_success (with_reducible refine bF (i:=3) ?_));first|(with_reducible first|refine aA.up ?_|refine fun (K:AK) hK=> ?_|refine ae (by decide) ?_|refine ai (by decide) ?_|(refine hK _ ?_;clear hK K))|simp only [go_sem,f1,f2,bP.os,bP.row,aK]|with_reducible refine wA ?_|(refine cJ rfl ?_)|(refine b7 rfl ?_)|clear hK K)
    refine cq (ι:=Nat) (fun j=>[(0, .ptr 0 0 28 0 0),(3, .ptr 2 0 3 0 0),(4, .ptr 3 0 2 0 0),(40, .aC 3 (l.map aN) l.length),(41, .v (.int .i64 l.length)),(42, .v (.int .i64 j))])
     (fun j=>(fq (l.take j) (st,0#32,0#32)).1.os++[some ⟨25,3,false,[[.v (.int .i64 k), .v (.string s), .aC 3 (l.map aN) l.length]]⟩,some ⟨101,2,false,[[aK (fq (l.take j) (st,0#32,0#32)).2.1,aK (fq (l.take j) (st,0#32,0#32)).2.2]]⟩]) (fun j=>l.length - j) (fun j=>j<=l.length) 0 (by omega) ?_ ?_
    ·simp only [e0,aK,bP.os,bP.row,WE,Wt];refine iI ?_ ?_ aj
     all_goals first|rfl|exact ⟨rfl,rfl⟩
    ·intro j hjl K hK;have A:=Nq hf hb j;generalize hS:fq (l.take j) (st,0#32,0#32)=S at A ⊢;simp only [aK,bP.os,bP.row,WE,Wt];simp only [gq,List.foldl_cons,List.foldl_nil,List.replicate_succ,List.replicate_zero,go_sem]
     (revert K;revert K;refine sF ?_;intro K hK K hK K hK)
     refine bH.part (fun h=> ?_) (fun h=> ?_)
     ·have hlt:j<l.length:=by replace h:=oE h;omega
      have eG:=getD_map aN l j [] hlt;have eW:=ak (k:=j) (by omega);have C1:=H l[j] (VU hlt) S.1 A.len (A.labs hlt);have hNext:=EC hlt (st,0#32,0#32);rw [hS] at hNext;generalize l[j]=x at *;generalize oP x S.1=b at *;simp only [aD] at eG C1;simp only [aK] at C1
      have wX:aV 2 [.ptr 0 0 28 0 0, .agg [.v (.int .i64 x.kind), .v (.string x.label), .aC 3 (x.kids.map aN) x.kids.length]]=true:=by simp only [aV,AV.wf,bl,WA,VO];rfl
      have rX: ∀f:Nat->Nat,f 0=0->bM f [.ptr 0 0 28 0 0, .agg [.v (.int .i64 x.kind), .v (.string x.label), .aC 3 (x.kids.map aN) x.kids.length]]=[.ptr 0 0 28 0 0, .agg [.v (.int .i64 x.kind), .v (.string x.label), .aC 3 (x.kids.map aN) x.kids.length]]:=fun f hf=>by
       simp only [bM,AV.bb,hf,dy f _ (bl 0 x.kids)]
      obtain ⟨sS,fi,la⟩:=S;simp only at *
      repeat (first|(with_reducible first|refine aA.up ?_|refine fun (K:AK) hK=> ?_|refine ae (by decide) ?_|refine ai (by decide) ?_|(refine hK _ ?_;clear hK K))|simp only [go_sem,eG]|with_reducible refine wA ?_|(refine cJ rfl ?_)|(refine b7 rfl ?_)|clear hK K)
      refine ab.O0 C1 (rX _ rfl) wX rfl ?_;simp only [bP.os,bP.row,aK,WE,Wt]
      repeat ((fail_if_success (with_reducible refine bF (i:=12) ?_));first|(with_reducible first|refine aA.up ?_|refine fun (K:AK) hK=> ?_|refine ae (by decide) ?_|refine ai (by decide) ?_|(refine hK _ ?_;clear hK K))|simp only [go_sem,ld]|with_reducible refine wA ?_|(refine cJ rfl ?_)|(refine b7 rfl ?_)|clear hK K)
      refine b8 [11,13] [(8,1000)] (by decide+kernel) (by kernel_rfl) ?_
      repeat (first|(with_reducible first|refine aA.up ?_|refine fun (K:AK) hK=> ?_|refine ae (by decide) ?_|refine ai (by decide) ?_|(refine hK _ ?_;clear hK K))|simp only [go_sem,ld]|with_reducible refine wA ?_|(refine cJ rfl ?_)|(refine b7 rfl ?_)|clear hK K)
      refine az.mk (j+1) (by omega) (by omega) ?_;rw [hNext];simp only [bP.os,bP.row,aK,WE,Wt];refine bo ?_ aj
      all_goals first|exact eW|skip
     ·have hjl':j=l.length:=by replace h:=oE h;omega
      have eT:fq l (st,0#32,0#32)=S:=by rw [<-hS,hjl',List.take_length]
      have C:=It S.1 S.2.2 S.2.1 A.len A.vF;obtain ⟨sS,fi,la⟩:=S;simp only at *;simp only [aK] at C
      by_cases h4:k=4
      ·subst h4
       ((iterate 3 revert K);refine Ht ?_;intro K hK K hK)
       refine ab.O0 C rfl rfl rfl ?_;simp only [bP.os,bP.row,aK,WE,Wt]
       (revert K;revert K;refine sF ?_)
       rw [eT];simp only [true_or,if_true,bP.os,bP.row,aK]
       (refine ⟨?_, ?_, ?_⟩<;>simp only [di,j7,AV.v.injEq,Value.int.injEq,Value.bool.injEq,Value.string.injEq,AV.vec.injEq,AV.ptr.injEq,true_or,or_true,false_or,or_false,aa.mk.injEq,forall_eq_apply_imp_iff,forall_eq,forall_eq',go_sem])
      ·by_cases h5:k=5
       ·subst h5
        ((iterate 3 revert K);refine Ht ?_;intro K hK K hK)
        refine ab.O0 C rfl rfl rfl ?_;simp only [bP.os,bP.row,aK,WE,Wt]
        (revert K;revert K;refine sF ?_)
        rw [eT];simp only [or_true,if_true,bP.os,bP.row,aK]
        (refine ⟨?_, ?_, ?_⟩<;>simp only [di,j7,AV.v.injEq,Value.int.injEq,Value.bool.injEq,Value.string.injEq,AV.vec.injEq,AV.ptr.injEq,true_or,or_true,false_or,or_false,aa.mk.injEq,forall_eq_apply_imp_iff,forall_eq,forall_eq',go_sem])
       ·have f4:(k==4)=false:=beq_false_of_ne h4;have f5:(k==5)=false:=beq_false_of_ne h5
        ((iterate 3 revert K);refine NN f4 f5 ?_)
        rw [eT];simp only [h4,h5,or_self,if_false,bP.os,bP.row,aK]
        (refine ⟨?_, ?_, ?_⟩<;>simp only [di,j7,AV.v.injEq,Value.int.injEq,Value.bool.injEq,Value.string.injEq,AV.vec.injEq,AV.ptr.injEq,true_or,or_true,false_or,or_false,aa.mk.injEq,forall_eq_apply_imp_iff,forall_eq,forall_eq',go_sem])
def ir (s:bP):List AV:= .aC 1 (s.labs.map encS) s.labs.length :: (s.fs.map aK++[aK s.la, .v (.bool s.em)])
theorem yc (n:Nat) (s:bP):aV n (ir s)=true:=by simp only [ir,aK,aV,AV.wf,Cl,a7,Bool.and_self]
attribute [go_sem] yc
theorem N4 (s:bP):ar Tryz.prog 92 [.vp (ir s)] (.v (.int .i64 s.labs.length)):=by
 simp only [ir,aK];refine gE Tryz.func92 Tryz.ntmps92 Tryz.results92 ?_
 repeat' (first|(with_reducible first|refine aA.up ?_|refine fun (K:AK) hK=> ?_|(refine hK _ ?_;clear hK K))|simp only [go_sem]|clear hK K|(with_reducible refine ab.one (by assumption) ?_)|(with_reducible refine bj.one (by assumption) ?_)|(refine bH.part (fun hb=> ?_) (fun hb=> ?_)<;>simp only [hb,go_sem])|(refine bH.part (fun hb=> ?_) (fun hb=> ?_))|(with_reducible refine nt.mk ?_ ?_))
theorem LB (s:bP) (hf:s.fs.length=25):ar Tryz.prog 57 [.vp (ir s)] (.aC 1 (aI (aq s.la)) (aq s.la).length):=by
 have C:=Iu s.la
 have eD:List.drop 25 (s.fs.map aK++[.v (.int .u32 s.la.toNat), .v (.bool s.em)])=[.v (.int .u32 s.la.toNat), .v (.bool s.em)]:=by rw [List.drop_append_of_le_length (by simp [hf]),List.drop_eq_nil_of_le (by simp [hf])];rfl
 simp only [ir,aK] at *;refine gE Tryz.func57 Tryz.ntmps57 Tryz.results57 ?_
 (refine Hs eD ?_;intro K hK K hK)
 refine ab.one C ?_
 (revert K;revert K;refine bq ?_)
 (refine jm.of 40 rfl ?_;simp only [go_sem])
theorem IF (s:bP) (hf:s.fs.length=25):ar Tryz.prog 62 [.vp (ir s)] (.v (.bool s.em)):=by
 have eD:List.drop 26 (s.fs.map aK++[.v (.int .u32 s.la.toNat), .v (.bool s.em)])=[.v (.bool s.em)]:=by
  rw [show 26=s.fs.length+1 by omega,show (s.fs.length+1)=(s.fs.map aK).length+1 by simp,List.drop_append];simp
 simp only [ir,aK] at *;refine gE Tryz.func62 Tryz.ntmps62 Tryz.results62 ?_;exact MN eD
def dY (s:bP) (p:Int):ByteArray:=if 1<=p∧p<=s.labs.length then s.labs.getD (p - 1).toNat ⟨#[]⟩ else ⟨#[]⟩
def Tb (s:bP) (p:Int):List Nat:=if 1<=p∧p<=s.labs.length then aq (s.fs.getD p.toNat 0#32) else []
theorem Fe {s:bP} {p:Int} (h1:1<=p) (h2:p<=s.labs.length):(s.labs.map encS).getD (p - 1).toNat []=[.v (.string (dY s p))]:=by
 have hlt:(p - 1).toNat<s.labs.length:=by omega
 rw [dY,if_pos ⟨h1,h2⟩];rw [Vq,Vq,List.getElem?_map,List.getElem?_eq_getElem hlt];rfl
theorem Hq {fs:List (BitVec 32)} {X:List AV} {p:Nat} (h:p<fs.length): ∃r,(fs.map aK++X).drop (p * 1)=aK (fs.getD p 0#32) :: r:=by
 obtain ⟨r,e⟩:=Di (l:= .undef) (X:=X) h;rw [Nat.add_comm,List.drop_succ_cons] at e;exact ⟨r,e⟩
def oq (s:bP) (l:List Nat):BitVec 32:=l.foldl (fun t p=>t ||| s.fs.getD p 0#32) 0#32
def sU (s:bP) (lab:ByteArray) (t:BitVec 32) (p:Nat):BitVec 32:=if (dY s p).toList==lab.toList then t else t &&& ~~~ ofM p
def lG (s:bP) (lab:ByteArray) (l:List Nat) (t:BitVec 32):BitVec 32:=l.foldl (sU s lab) t
def iw (s:bP) (gq:BitVec 32) (lab:ByteArray):BitVec 32:=lG s lab (aq (oq s (aq gq))) (oq s (aq gq))
theorem FB (s:bP) (l:List Nat) (p:Nat):oq s (l++[p])=oq s l ||| s.fs.getD p 0#32:=by rw [oq,Ws];rfl
theorem BM (s:bP) (lab:ByteArray) (l:List Nat) (t:BitVec 32) (p:Nat):lG s lab (l++[p]) t=sU s lab (lG s lab l t) p:=by rw [lG,Ws];rfl
theorem Ow (s:bP) (fr:BitVec 32) (lab:ByteArray) (hf:s.fs.length=25) (hn:s.labs.length<=24) (h1: ∀p∈aq fr,p<25) (h2: ∀p∈aq (oq s (aq fr)),1<=p∧p<=s.labs.length) :
  ar Tryz.prog 93 [.vp (ir s),aK fr, .v (.string lab)] (aK (iw s fr lab)):=by
 have A1:=pC fr;have A2:=pC (oq s (aq fr));have O:=fun p=>N8 p;have hV:=yc;obtain ⟨V,hVe⟩: ∃V,V=ir s:=⟨_,rfl⟩;simp only [nL,aK] at *;refine gE Tryz.func93 Tryz.ntmps93 Tryz.results93 ?_
 (refine sG ?_;intro K hK K hK K hK)
 refine ab.fr [] A1 (by simp) ?_ ?_ ?_ ?_ ?_
 ·rfl
 ·rfl
 ·rfl
 ·intro k ob hk;simp at hk
 ((iterate 3 revert K);refine sG ?_;intro K hK)
 refine iP fr 3 (by simp only [nL,aK];rfl) 7 (fun k=>[some ⟨61,1,false,[[.vp (ir s)]]⟩,some ⟨9,1,false,[[.v (.string lab)]]⟩,some ⟨96,1,false,[[aK (oq s ((aq fr).take k))]]⟩,none]) (fun _=>True) trivial ?_ rfl ?_ (by kernel_rfl) (by kernel_rfl) rfl ?_ ?_
 ·rfl
 ·simp only [aK];refine o5 ?_ aj
  all_goals rfl
 ·intro k hk _;have hp:=h1 _ (List.getElem_mem hk);rw [WG hk,FB];generalize oq s ((aq fr).take k)=T at *;generalize (aq fr)[k]=p at *;obtain ⟨r,eD⟩:=Hq (X:=[.v (.int .u32 s.la.toNat), .v (.bool s.em)]) (fs:=s.fs) (p:=p) (by omega);simp only [aK,ir] at eD ⊢
  repeat (first|(with_reducible first|refine aA.up ?_|refine fun (K:AK) hK=> ?_|refine wE ?_|refine wD ?_|refine wK ?_|refine wF ?_|refine ae (by decide) ?_|refine ai (by decide) ?_|(refine hK _ ?_;clear hK K))|simp only [go_sem,eD,ld]|with_reducible refine wA ?_|clear hK K)
  exact aR aj
 ·intro _;have e1:(aq fr).take (aq fr).length=aq fr:=List.take_length;simp only [e1,aK,ir]
  (revert K;refine sG ?_;intro K hK K hK K hK)
  refine ab.fr [] A2 (by simp) ?_ ?_ ?_ ?_ ?_
  ·rfl
  ·rfl
  ·rfl
  ·intro k ob hk;simp at hk
  ((iterate 3 revert K);refine sG ?_;intro K hK)
  have hS:iw s fr lab=lG s lab (aq (oq s (aq fr))) (oq s (aq fr)):=rfl;generalize oq s (aq fr)=T at *
  refine iP T 4 (by simp only [nL,aK];rfl) 7 (fun k=>[some ⟨61,1,false,[[.vp (ir s)]]⟩,some ⟨9,1,false,[[.v (.string lab)]]⟩,some ⟨96,1,false,[[aK (lG s lab ((aq T).take k) T)]]⟩,none,none]) (fun _=>True) trivial ?_ rfl ?_ (by kernel_rfl) (by kernel_rfl) rfl ?_ ?_
  ·rfl
  ·simp only [aK,ir];refine o5 ?_ aj
   all_goals rfl
  ·intro k hk _;have hp:=h2 _ (List.getElem_mem hk);rw [WG hk,BM,sU];generalize lG s lab ((aq T).take k) T=U at *;generalize (aq T)[k]=p at *;have eG:=Fe (s:=s) (p:=p) (by omega) (by omega);have eW:IntKind.i64.wrap ((p:Int) - 1)=(p:Int) - 1:=cF (by omega) (by omega);have C:=O p;simp only [aK,ir]
   cases hq:(dY s p).toList==lab.toList
   ·simp only [VS,if_false]
    repeat ((fail_if_success (with_reducible refine bF (i:=7) ?_));first|(with_reducible first|refine aA.up ?_|refine fun (K:AK) hK=> ?_|refine wK ?_|refine wF ?_|refine ae (by decide) ?_|refine ai (by decide) ?_|(refine hK _ ?_;clear hK K))|simp only [go_sem,eG,eW,hq]|with_reducible refine wA ?_|clear hK K)
    refine wD ?_
    repeat (first|(with_reducible first|refine aA.up ?_|refine fun (K:AK) hK=> ?_|refine wK ?_|refine wF ?_|refine ae (by decide) ?_|refine ai (by decide) ?_|(refine hK _ ?_;clear hK K))|simp only [go_sem,eG,eW,hq]|with_reducible refine wA ?_|clear hK K)
    refine b8 [4] [] (by decide+kernel) (by kernel_rfl) ?_
    (revert K;refine NR eG eW hq ?_;intro K hK K hK)
    refine bj.one C ?_
    repeat (first|(with_reducible first|refine aA.up ?_|refine fun (K:AK) hK=> ?_|refine wK ?_|refine wF ?_|refine ae (by decide) ?_|refine ai (by decide) ?_|(refine hK _ ?_;clear hK K))|simp only [go_sem,Lw]|with_reducible refine wA ?_|clear hK K)
    exact aR aj
    all_goals rfl
   ·simp only [if_true]
    repeat (first|(with_reducible first|refine aA.up ?_|refine fun (K:AK) hK=> ?_|refine wE ?_|refine wD ?_|refine wK ?_|refine wF ?_|refine ae (by decide) ?_|refine ai (by decide) ?_|(refine hK _ ?_;clear hK K))|simp only [go_sem,eG,eW,hq]|with_reducible refine wA ?_|clear hK K)
    exact aR aj
    all_goals rfl
  ·intro _;have e2:(aq T).take (aq T).length=aq T:=List.take_length;simp only [e2,aK,ir]
   (revert K;refine sG ?_)
   rw [hS]
structure yl (s:bP):Prop where
 len:s.fs.length=25
 n:s.labs.length<=24
 qK: ∀p q,(s.fs.getD p 0#32).getLsbD q=true->1<=q∧q<=s.labs.length
 la: ∀q,s.la.getLsbD q=true->1<=q∧q<=s.labs.length
theorem sx {f:Nat->BitVec 32} {q:Nat}: ∀(l:List Nat) (t:BitVec 32),(l.foldl (fun t p=>t ||| f p) t).getLsbD q=true↔t.getLsbD q=true∨ ∃p∈l,(f p).getLsbD q=true
 | [],t=>by simp
 | x :: l,t=>by
  rw [V7,sx l,BitVec.getLsbD_or,Bool.or_eq_true];simp only [VR,exists_eq_or_imp,or_assoc]
theorem pe {s:bP} {l:List Nat} {q:Nat}:(oq s l).getLsbD q=true ↔ ∃p∈l,(s.fs.getD p 0#32).getLsbD q=true:=by
 rw [oq,sx];simp
theorem qe {s:bP} {lab:ByteArray} {q:Nat} (hq:q<=24): ∀(l:List Nat) (t:BitVec 32),(lG s lab l t).getLsbD q=true↔t.getLsbD q=true∧(q∈l->((dY s q).toList==lab.toList)=true)
 | [],t=>by simp [lG]
 | x :: l,t=>by
  rw [lG,V7, <- lG,qe hq l,sU]
  split
  ·rename_i h;simp only [VR]
   constructor
   ·rintro ⟨h1,h2⟩;exact ⟨h1,fun hh=>hh.elim (fun e=>by rw [e];exact h) h2⟩
   ·rintro ⟨h1,h2⟩;exact ⟨h1,fun hh=>h2 (.inr hh)⟩
  ·rename_i h;rw [Wl,BitVec.getLsbD_not,pd];simp only [VR]
   constructor
   ·rintro ⟨h1,h2⟩;simp only [Vj,Bool.not_eq_true',decide_eq_false_iff_not,decide_eq_true_eq] at h1;have hne:q≠x:=fun e=>h1.2.2 ⟨by omega,by omega,by omega⟩;exact ⟨h1.1,fun hh=>hh.elim (fun e=>absurd e hne) h2⟩
   ·rintro ⟨h1,h2⟩;have hne:q≠x:=fun e=>h (by rw [<-e];exact h2 (.inl e));refine ⟨?_,fun hh=>h2 (.inr hh)⟩;simp only [Vj,Bool.not_eq_true',decide_eq_false_iff_not,decide_eq_true_eq];exact ⟨h1,by omega,fun hh=>hne (by omega)⟩
theorem kK {s:bP} (ok:yl s) {m:BitVec 32} {lab:ByteArray} {q:Nat}:(iw s m lab).getLsbD q=true ↔ ∃p,m.getLsbD p=true∧(s.fs.getD p 0#32).getLsbD q=true∧(dY s q).toList=lab.toList:=by
 have hb: ∀q,(oq s (aq m)).getLsbD q=true->1<=q∧q<=s.labs.length:=fun q h=>by
  obtain ⟨p,_,h⟩:=pe.1 h;exact ok.qK p q h
 have sub: ∀(l:List Nat) (t:BitVec 32),(lG s lab l t).getLsbD q=true->t.getLsbD q=true:=fun l=>by
  induction l with
  | nil=>intro t h;exact h
  | cons x l ih=>
   intro t h
   have:=ih _ h
   rw [sU] at this
   split at this
   ·exact this
   ·rw [Wl,Vj] at this;exact this.1
 constructor
 ·intro h;have h1:=sub _ _ h;have h2:=hb q h1;have h3:=ok.n
  have:=((qe (by omega) _ _).1 h).2 (aW.2 h1)
  obtain ⟨p,h4,h5⟩:=pe.1 h1;exact ⟨p,aW.1 h4,h5,by simpa using this⟩
 ·rintro ⟨p,h1,h2,h3⟩;have h4:=ok.qK p q h2;have h5:=ok.n;exact (qe (by omega) _ _).2 ⟨pe.2 ⟨p,aW.2 h1,h2⟩,fun _=>by simpa using h3⟩
theorem Mc {s:bP} (ok:yl s) (m:BitVec 32) (lab:ByteArray) (h1: ∀p∈aq m,p<25):ar Tryz.prog 93 [.vp (ir s),aK m, .v (.string lab)] (aK (iw s m lab)):=
 Ow s m lab ok.len ok.n h1 (fun p hp=>by
  obtain ⟨q,_,h⟩:=pe.1 (aW.1 hp)
  exact ok.qK _ _ h)
def sC (s:bP) (t:BitVec 32) (p:Int):BitVec 32:=if p<=s.labs.length then t ||| ofM p else t
def fH (s:bP) (l:List Int):BitVec 32:=l.foldl (sC s) 0#32
theorem Bv (s:bP) (l:List Int) (p:Int):fH s (l++[p])=sC s (fH s l) p:=by rw [fH,Ws];rfl
theorem kx {s:bP} (ok:yl s) {q:Nat}: ∀(l:List Int) (t:BitVec 32),(l.foldl (sC s) t).getLsbD q=true↔t.getLsbD q=true∨((q:Int)∈l∧q<=s.labs.length)
 | [],t=>by simp
 | x :: l,t=>by
  have hn:=ok.n;rw [V7,kx ok l,sC,VR]
  split
  ·rename_i h;rw [BitVec.getLsbD_or,Bool.or_eq_true,pd,decide_eq_true_eq]
   constructor
   ·rintro ((h|h)|h)
    ·exact .inl h
    ·exact .inr ⟨.inl h.2.2,by omega⟩
    ·exact .inr ⟨.inr h.1,h.2⟩
   ·rintro (h|⟨h|h,h2⟩)
    ·exact .inl (.inl h)
    ·exact .inl (.inr ⟨by omega,by omega,h⟩)
    ·exact .inr ⟨h,h2⟩
  ·rename_i h
   constructor
   ·rintro (h|h)
    ·exact .inl h
    ·exact .inr ⟨.inr h.1,h.2⟩
   ·rintro (h|⟨h|h,h2⟩)
    ·exact .inl h
    ·exfalso;omega
    ·exact .inr ⟨h,h2⟩
theorem Ho {s:bP} (ok:yl s) (l:List Int): ∀p∈aq (fH s l),p<25:=fun p hp=>by
 have:=(kx ok l 0#32).1 (aW.1 hp)
 have:=ok.n
 simp at *; omega
theorem LC {s:bP} (ok:yl s) (l:List Int) (lab:ByteArray) (hl:l.length<=1000000):ar Tryz.prog 59 [.vp (ir s), .aC 1 (l.map encI) l.length, .v (.string lab)]
  (.aC 1 (aI (aq (iw s (fH s l) lab))) (aq (iw s (fH s l) lab)).length):=by
 have L:=N4 s;have S:=Mc ok (fH s l) lab (Ho ok l);have B:=Iu (iw s (fH s l) lab);have O:=fun p=>N8 p;have eZ:aK 0#32 = .v (.int .u32 0):=rfl;generalize hR:iw s (fH s l) lab=R at *;simp only [aK] at *;refine gE Tryz.func59 Tryz.ntmps59 Tryz.results59 ?_
 (refine aw ?_;intro K hK)
 refine cq (ι:=Nat) (fun k=>[(0, .vp (ir s)),(1, .aC 1 (l.map encI) l.length),(2, .v (.string lab)),(6, .v (.slice none 0 0)),(7,aK (fH s (l.take k))),(12, .aC 1 (l.map encI) l.length),(13, .v (.int .i64 l.length)),(14, .v (.int .i64 k))]) (fun k=>[]) (fun k=>l.length - k) (fun k=>k<=l.length) 0 (by omega) ?_ ?_
 ·simp only [aK];refine bo ?_ aj;exact ⟨rfl,rfl⟩
 ·intro k hkl K hK;simp only [aK];simp only [gq,V7,List.foldl_nil,List.replicate_succ,List.replicate_zero,go_sem]
  (revert K;revert K;refine aw ?_;intro K hK K hK K hK)
  refine bH.part (fun h=> ?_) (fun h=> ?_)
  ·have hlt:k<l.length:=by replace h:=bI h;omega
   have eG:=getD_map encI l k [] hlt;have eW:=ak (k:=k) (by omega);have hN:=Bv s (l.take k) l[k];rw [<-WG hlt,sC] at hN;have Ok:=O l[k];simp only [encI] at eG
   repeat (first|(with_reducible first|refine aA.up ?_|refine fun (K:AK) hK=> ?_|(refine hK _ ?_;clear hK K))|simp only [go_sem,eG]|with_reducible refine wA ?_|clear hK K)
   refine ab.one L ?_
   ((iterate 5 revert K);refine aw ?_;intro K hK K hK K hK)
   refine bH.part (fun h=> ?_) (fun h=> ?_)
   ·rw [if_pos (by replace h:=bI h;omega)] at hN
    ((iterate 3 revert K);refine aw ?_;iterate 4 intro K hK)
    refine ab.one Ok ?_
    ((iterate 4 revert K);refine NM ?_)
    refine az.mk (k+1) (by omega) (by omega) ?_;rw [hN];simp only [aK];refine bo ?_ aj
    all_goals first|exact eW|skip
   ·rw [if_neg (by replace h:=bI h;omega)] at hN
    ((iterate 3 revert K);refine aw ?_)
    refine az.mk (k+1) (by omega) (by omega) ?_;rw [hN];simp only [aK];refine bo ?_ aj
    all_goals first|exact eW|skip
  ·have e1:l.take k=l:=WK (by replace h:=bI h;omega);simp only [e1]
   ((iterate 3 revert K);refine aw ?_;intro K hK K hK)
   refine ab.one S ?_
   (revert K;revert K;refine aw ?_;intro K hK K hK)
   refine ab.one B ?_
   (revert K;revert K;refine aw ?_)
   (refine jm.of 40 rfl ?_;simp only [go_sem])
def runM (s:bP) (w:List ByteArray):BitVec 32:=w.foldl (iw s) (ofM 0)
def uf (s:bP) (w:List ByteArray):Bool:=if w.length=0 then s.em else runM s w &&& s.la !=0#32
theorem Hp {o:List (Option aa)}: ∀(L:List AV) (n:Nat),(∀c∈L, ∃x,c = .v x)->L.length+2<=n-> ∃p,fQ o n L=some (p,L)∧p
 | [],n+1,_,_=>⟨True,rfl,trivial⟩
 | a :: l,n+2,hL,hn=>by
  obtain ⟨x,rfl⟩:=hL a (by simp);obtain ⟨p,h1,h2⟩:=Hp (o:=o) l (n+1) (fun c hc=>hL c (by simp [hc])) (by simp at hn;omega);exact ⟨((AV.v x).wf 0=true)∧p,by rw [fQ,h1];rfl,rfl,h2⟩
 | a :: l,0,_,hn=>by simp at hn
 | a :: l,1,_,hn=>by simp at hn
 | [],0,_,hn=>by simp at hn
def x5 (x:Ex):bP:=⟨[],List.replicate 25 0#32,0#32,dk x⟩
def aO (x:Ex):bP:={ (oP x (x5 x)).1 with fs:=(oP x (x5 x)).1.fs.set 0 (oP x (x5 x)).2.1,la:=(oP x (x5 x)).2.2 }
theorem Fg (x:Ex):(aB x).length<=(ah x).length:=by
 induction x using Ex.ind with
 | h k s l ih=>
  have hl: ∀m:List Ex,(∀y∈m,(aB y).length<=(ah y).length)->(aJ m).length<=(bE m).length:=fun m=>by
   induction m with
   | nil=>intro _;simp [aJ,bE]
   | cons y m ihm=>
    intro h;rw [aJ,bE,List.length_append,List.length_append];have h1:=h y (by simp);have h2:=ihm (fun z hz=>h z (by simp [hz]));omega
  have:=hl l ih
  rw [aB,ah,UD]
  split
  ·simp
  ·omega
theorem qg {x:Ex} (h:ay x=true):(aB x).length<=24:=by
 simp only [ay,Vj,decide_eq_true_eq] at h
 have:=Fg x;omega
theorem LG (labs:List ByteArray) (f1 l1:BitVec 32) (rest:List (BitVec 32)) (em:Bool) (hr:rest.length=24) (o:List (Option aa)) (h1:o[1]? = some (some ⟨99,28,false,[.vec 2 labs.length :: aK f1 :: (rest.map aK++[aK l1, .v (.bool em)])]⟩)) (h2:o[2]? = some (some ⟨9,1,true,labs.map encS⟩)) :
  jm o (.cI [.ptr 1 0 28 0 0, .v (.int .i64 0)]) (.cI [.vp (ir ⟨labs,f1 :: rest,l1,em⟩), .v (.int .i64 0)]):=by
 obtain ⟨p,hp,hp'⟩:=Hp (o:=o) (aK f1 :: (rest.map aK++[aK l1, .v (.bool em)])) 50 (fun c hc=>by
  simp only [VR,List.mem_append,List.mem_map,List.not_mem_nil,or_false] at hc
  rcases hc with rfl|⟨y,_,rfl⟩|rfl|rfl
  ·exact ⟨_,rfl⟩
  ·exact ⟨_,rfl⟩
  ·exact ⟨_,rfl⟩
  ·exact ⟨_,rfl⟩) (by simp [hr])
 have e1:gC o 50 (.vec 2 labs.length)=some (True∧(labs.map encS).length=labs.length∧bw 0 (labs.map encS)=true, .aC 1 (labs.map encS) labs.length):=by
  rw [gC,h2];simp
 have e2:fQ o 51 (.vec 2 labs.length :: aK f1 :: (rest.map aK++[aK l1, .v (.bool em)]))=some ((True∧(labs.map encS).length=labs.length∧bw 0 (labs.map encS)=true)∧p, .aC 1 (labs.map encS) labs.length :: aK f1 :: (rest.map aK++[aK l1, .v (.bool em)])):=by
  rw [fQ,e1,hp]
 refine jm.of 54 (p:=((((True∧(labs.map encS).length=labs.length∧bw 0 (labs.map encS)=true)∧p)∧aa.hl ⟨99,28,false,[.vec 2 labs.length :: aK f1 :: (rest.map aK++[aK l1, .v (.bool em)])]⟩=0∧28=28∧0<1)∧(AV.v (.int .i64 0)).wf 0=true∧True)) ?_ ⟨⟨⟨⟨trivial,by simp,a7 0 labs⟩,hp'⟩,rfl,rfl,by decide⟩,rfl,trivial⟩;rw [gC,fQ,gC,h1];simp only [List.getD_cons_zero,e2]
 rfl
theorem Qm (x:Ex) (ho:x.ok):ar Tryz.prog 32 [.agg (aN x)] (if ay x then .cI [.vp (ir (aO x)), .v (.int .i64 0)] else .cI [.v (.pointer none), .v (.int .i64 2)]):=by
 have R:=va x ho;have E:=Cs x ho
 cases hr:ay x
 ·rw [hr] at R;simp only [VS,if_false];simp only [aD] at *;refine gE Tryz.func32 Tryz.ntmps32 Tryz.results32 ?_
  (refine xo ?_;intro K hK K hK K hK)
  refine ab.one R ?_
  ((iterate 3 revert K);refine xo ?_)
  (refine jm.of 40 rfl ?_;simp only [go_sem])
 ·rw [hr] at R;simp only [if_true];have hnl:(aB x).length<=24:=qg hr;have P:=Od x ho hr (x5 x) (by simp [x5]) (by simp [x5];exact hnl);have B:=oQ x (x5 x) (by simp [x5]) (by simp [x5];exact hnl);simp only [aO];generalize oP x (x5 x)=b at *;simp only [aD] at *;refine gE Tryz.func32 Tryz.ntmps32 Tryz.results32 ?_
  (refine xo ?_;intro K hK K hK K hK)
  refine ab.one R ?_
  ((iterate 3 revert K);refine xo ?_;intro K hK K hK)
  refine ab.one E ?_
  repeat ((fail_if_success (with_reducible refine bF (i:=4) ?_));first|(with_reducible first|refine aA.up ?_|refine fun (K:AK) hK=> ?_|refine ae (by decide) ?_|(refine hK _ ?_;clear hK K))|simp only [go_sem]|with_reducible refine wA ?_|(refine cJ rfl ?_)|(refine b7 rfl ?_)|clear hK K)
  refine bc (dD (k:=1) (i:=0) (j:=0) 9 1 (by decide) rfl (show 0<28 by decide) rfl rfl) (by kernel_rfl) ?_;simp only [UD,List.length_nil,Nat.reduceAdd,List.cons_append,List.nil_append,List.set_cons_zero,List.set_cons_succ]
  repeat ((fail_if_success (with_reducible refine bF (i:=5) ?_));first|(with_reducible first|refine aA.up ?_|refine fun (K:AK) hK=> ?_|refine ae (by decide) ?_|(refine hK _ ?_;clear hK K))|simp only [go_sem]|with_reducible refine wA ?_|(refine cJ rfl ?_)|(refine b7 rfl ?_)|clear hK K)
  have wE:aV 2 [.ptr 0 0 28 0 0, .agg [.v (.int .i64 x.kind), .v (.string x.label), .aC 3 (x.kids.map aN) x.kids.length]]=true:=by simp only [aV,AV.wf,bl,Bool.and_self,Bool.true_and];rfl
  refine ab.fr [1,2] P (by decide) rfl ?_ wE ?_ ?_
  ·simp only [bM,AV.bb,dy _ _ (bl 0 x.kids)];rfl
  ·intro i ob hi
   match i,hi with
   | 0,hi=>cases hi;rfl
   | 1,hi=>cases hi;rfl
   | i+2,hi=>simp [bP.os] at hi
  simp only [bP.os,bP.row,aK,ej,List.map_cons,List.map_nil,Option.map_some,aa.bb,cv,bM,AV.bb,xT,qq,UD,List.length_nil,List.set_cons_zero,List.set_cons_succ,List.append_nil];have e1:sig [1,2] 3 1=2:=rfl;simp only [Nat.reduceAdd,e1];obtain ⟨⟨labs,fs,la,em⟩,f1,l1⟩:=b
  obtain ⟨f0,rest,rfl⟩: ∃f0 rest,fs=f0 :: rest:=by
   cases fs with
   | nil=>have:=B.len;simp at this
   | cons a r=>exact ⟨a,r,rfl⟩
  have hr24:rest.length=24:=by have:=B.len;simpa using this
  have t24:List.take 24 (rest.map aK++[.v (.int .u32 la.toNat), .v (.bool em)])=rest.map aK:=by rw [List.take_append_of_le_length (by simp [hr24]),WK (by simp [hr24])]
  have d25:List.drop 25 (rest.map aK++[.v (.int .u32 la.toNat), .v (.bool em)])=[.v (.bool em)]:=by
   rw [show 25=(rest.map aK).length+1 by simp [hr24],List.drop_append];simp
  simp only [List.map_cons,aK,List.cons_append]
  repeat ((fail_if_success (with_reducible refine bF (i:=5) ?_));first|(with_reducible first|refine aA.up ?_|refine fun (K:AK) hK=> ?_|refine ae (by decide) ?_|(refine hK _ ?_;clear hK K))|simp only [go_sem]|with_reducible refine wA ?_|(refine cJ rfl ?_)|(refine b7 rfl ?_)|clear hK K)
  refine b8 [9,12] [(5,1000)] (by decide+kernel) (by kernel_rfl) ?_
  repeat (first|(with_reducible first|refine aA.up ?_|refine fun (K:AK) hK=> ?_|refine ae (by decide) ?_|(refine hK _ ?_;clear hK K))|simp only [go_sem,t24,d25]|with_reducible refine wA ?_|(refine cJ rfl ?_)|(refine b7 rfl ?_)|clear hK K)
  refine LG labs f1 l1 rest em hr24 _ rfl rfl
structure Nh (x:Ex) (s:bP):Prop where
 labs:s.labs=aB x
 ok:yl s
 fst: ∀q,(s.fs.getD 0 0#32).getLsbD q=true↔jX x 0 q
 qK: ∀p q,p≠0->((s.fs.getD p 0#32).getLsbD q=true↔iL x 0 p q)
 vF: ∀q,s.la.getLsbD q=true↔jg x 0 q
 em:s.em=aG x
theorem iq {x:Ex} (hr:ay x=true):Nh x (aO x):=by
 have hn:=qg hr;have B:=oQ x (x5 x) (by simp [x5]) (by simp [x5];exact hn)
 have hz: ∀p,(x5 x).fs.getD p 0#32=0#32:=fun p=>by
  simp only [x5,Vq,List.getElem?_replicate];split<;>rfl
 have hb:(x5 x).labs.length=0:=rfl;have hl:(aO x).labs=aB x:=B.labs
 have hlen:(aO x).fs.length=25:=by simp only [aO,List.length_set];exact B.len
 have h0: ∀q,((aO x).fs.getD 0 0#32).getLsbD q=true↔jX x 0 q:=fun q=>by
  simp only [aO];rw [qa (by rw [B.len];decide),if_pos rfl,B.fst,hb]
 have hp: ∀p q,p≠0->(((aO x).fs.getD p 0#32).getLsbD q=true↔iL x 0 p q):=fun p q hp=>by
  simp only [aO];rw [qa (by rw [B.len];decide),if_neg hp,B.qK,hb,hz];simp
 have hla: ∀q,(aO x).la.getLsbD q=true↔jg x 0 q:=fun q=>by
  have:=B.vF q;rw [hb] at this;exact this
 refine ⟨hl,⟨hlen,by rw [hl];exact hn,fun p q h=> ?_,fun q h=> ?_⟩,h0,hp,hla, ?_⟩
 ·rw [hl]
  by_cases e:p=0
  ·subst e;have:=fA x ((h0 q).1 h);omega
  ·have:=(dB x ((hp p q e).1 h)).2;omega
 ·rw [hl];have:=fB x ((hla q).1 h);omega
 ·show (oP x (x5 x)).1.em=_;rw [B.em];simp [x5,dk,hr]
theorem run_get {s:bP} (ok:yl s) {q:Nat}: ∀(w:List ByteArray) (m:BitVec 32),(w.foldl (iw s) m).getLsbD q=true ↔ ∃p,m.getLsbD p=true∧bm (fun p q=>(s.fs.getD p 0#32).getLsbD q=true) (fun p=>dY s p) p w q
 | [],m=>by simp [bm]
 | a :: w,m=>by
  rw [V7,run_get ok w]
  constructor
  ·rintro ⟨r,h1,h2⟩;obtain ⟨p,k1,k2,k3⟩:=(kK ok).1 h1;exact ⟨p,k1,r,k2,toList_inj.1 (by simpa using k3),h2⟩
  ·rintro ⟨p,k1,r,k2,rfl,h2⟩;exact ⟨r,(kK ok).2 ⟨p,k1,k2,rfl⟩,h2⟩
theorem FZ {x:Ex} (hr:ay x=true) (w:List ByteArray):uf (aO x) w=jN x w:=by
 have N:=iq hr;have F:=(dC hr).1
 by_cases h0:w.length=0
 ·obtain rfl:=U9 h0;rw [uf,if_pos h0,N.em,WL,fG F,ig];simp [hr]
 ·rw [uf,if_neg h0,WL,ig];simp only [hr,true_and];have hw:w≠[]:=fun e=>h0 (by rw [e];rfl)
  have hg:nw (aB x) 0 (fun p=>dY (aO x) p):=fun i a hi=>by
   have hlt:=(List.getElem?_eq_some_iff.1 hi).1;show dY (aO x) ((0+1+i:Nat):Int)=a;rw [dY,if_pos (by rw [N.labs];omega),N.labs,Vq,show (((0+1+i:Nat):Int) - 1).toNat=i by omega,hi];rfl
  rw [TZ F hg hw]
  have h1:(runM (aO x) w &&& (aO x).la !=0#32)=true ↔ ∃q,(runM (aO x) w).getLsbD q=true∧(aO x).la.getLsbD q=true:=by
   rw [bne_iff_ne]
   constructor
   ·intro h
    by_cases hb:aq (runM (aO x) w &&& (aO x).la)=[]
    ·exact absurd (pX hb) h
    ·obtain ⟨q,hq⟩:=WN _ hb
     have:=aW.1 hq
     rw [Wl,Vj] at this;exact ⟨q,this⟩
   ·rintro ⟨q,h1,h2⟩ e
    have:(runM (aO x) w &&& (aO x).la).getLsbD q=true:=by rw [Wl,h1,h2];rfl
    rw [e] at this;simp at this
  rw [h1]
  cases w with
  | nil=>exact absurd rfl hw
  | cons a v=>
   simp only [cA]
   have hst: ∀p,(ofM 0).getLsbD p=true↔p=0:=fun p=>by rw [pd,decide_eq_true_eq];omega
   have hc: ∀(v:List ByteArray) p q,p≠0->(bm (fun p q=>((aO x).fs.getD p 0#32).getLsbD q=true) (fun p=>dY (aO x) p) p v q↔bm (iL x 0) (fun p=>dY (aO x) p) p v q):=fun v=>by
    induction v with
    | nil=>intro p q _;exact Iff.rfl
    | cons b v ih=>
     intro p q hp;simp only [bm]
     constructor
     ·rintro ⟨r,k1,k2,k3⟩;have k4:=(N.qK p r hp).1 k1
      have:=(dB x k4).2
      exact ⟨r,k4,k2,(ih r q (by omega)).1 k3⟩
     ·rintro ⟨r,k1,k2,k3⟩
      have:=(dB x k1).2
      exact ⟨r,(N.qK p r hp).2 k1,k2,(ih r q (by omega)).2 k3⟩
   constructor
   ·rintro ⟨q,h2,h3⟩;obtain ⟨p,k1,r,k2,k3,k4⟩:=(run_get N.ok _ _).1 h2;obtain rfl:=(hst p).1 k1;have k5:=(N.fst r).1 k2
    have:=fA x k5
    exact ⟨r,q,k5,k3,(hc v r q (by omega)).1 k4,(N.vF q).1 h3⟩
   ·rintro ⟨r,q,k1,k2,k3,k4⟩
    have:=fA x k1
    exact ⟨q,(run_get N.ok _ _).2 ⟨0,(hst 0).2 rfl,r,(N.fst r).2 k1,k2,(hc v r q (by omega)).2 k3⟩,(N.vF q).2 k4⟩
theorem KK {m n:BitVec 32} (h: ∀q,m.getLsbD q=true↔n.getLsbD q=true):m=n:=by
 refine BitVec.eq_of_getLsbD_eq fun q _=> ?_;exact WL.2 (h q)
def br (l:List Nat):List Int:=l.map (fun (p:Nat)=>(p:Int))
theorem EI (l:List Nat):aI l=(br l).map encI:=by rw [aI,br,List.map_map];rfl
theorem vu (l:List Nat):(br l).length=l.length:=by rw [br,List.length_map]
theorem Bu {s:bP} (ok:yl s) {m:BitVec 32} (h: ∀p,m.getLsbD p=true->p<=s.labs.length):fH s (br (aq m))=m:=by
 refine KK fun q=> ?_;rw [fH,kx ok,br];simp only [BitVec.getLsbD_zero,VS,false_or,List.mem_map,Int.natCast_inj,exists_eq_right,aW];exact ⟨fun h=>h.1,fun k=>⟨k,h q k⟩⟩
theorem zK {p:Nat}:(ofM 0).getLsbD p=true↔p=0:=by rw [pd,decide_eq_true_eq];omega
def Kv (a b:List Nat):Bool:=a.any (fun p=>b.any (fun q=>(q:Int)==(p:Int)))
theorem rT {a b:List Nat}:Kv a b=true ↔ ∃p,p∈a∧p∈b:=by
 simp only [Kv,List.any_eq_true,beq_iff_eq,Int.natCast_inj]
 constructor
 ·rintro ⟨p,h1,q,h2,rfl⟩;exact ⟨q,h1,h2⟩
 ·rintro ⟨p,h1,h2⟩;exact ⟨p,h1,p,h2,rfl⟩
theorem CX (m n:BitVec 32):(m &&& n !=0#32)=Kv (aq m) (aq n):=by
 rw [WL,rT,bne_iff_ne];simp only [aW]
 constructor
 ·intro h
  by_cases hb:aq (m &&& n)=[]
  ·exact absurd (pX hb) h
  ·obtain ⟨q,hq⟩:=WN _ hb
   have:=aW.1 hq
   rw [Wl,Vj] at this;exact ⟨q,this⟩
 ·rintro ⟨q,h1,h2⟩ e
  have:(m &&& n).getLsbD q=true:=by rw [Wl,h1,h2];rfl
  rw [e] at this;simp at this
theorem Hg {s:bP} (ok:yl s) (w:List ByteArray):((w.length==0&&s.em)||Kv (aq (runM s w)) (aq s.la))=uf s w:=by
 rw [uf, <- CX]
 by_cases h0:w.length=0
 ·rw [if_pos h0,h0];obtain rfl:=U9 h0
  have:(runM s [] &&& s.la !=0#32)=false:=by
   rw [CX, <- Bool.not_eq_true,rT];rintro ⟨p,h1,h2⟩;have h3:=zK.1 (aW.1 h1)
   have:=ok.la p (aW.1 h2)
   omega
  rw [this];simp
 ·rw [if_neg h0,beq_eq_false_iff_ne.2 h0];simp
theorem sD {x:Ex} (h:Fit x): ∀b, ∃q,jX x b q:=by
 induction h with
 | lab s=>intro b;exact ⟨b+1,by rw [jX,if_pos rfl]⟩
 | many k s l hk hl _ ih=>
  intro b
  cases l with
  | nil=>simp at hl
  | cons x l=>
   obtain ⟨q,hq⟩:=ih x (by simp) b;refine ⟨q, ?_⟩;rw [jX]
   rcases hk with rfl|rfl
   ·simp [gv,hq]
   ·simp [fN,hq]
 | one k s x hk _ ih=>
  intro b;obtain ⟨q,hq⟩:=ih b;refine ⟨q, ?_⟩;rw [jX]
  rcases hk with rfl|rfl|rfl<;>simp [fN,hq]
end Go.Proofs.YtfflpdekojlnmaaGreatDoor
