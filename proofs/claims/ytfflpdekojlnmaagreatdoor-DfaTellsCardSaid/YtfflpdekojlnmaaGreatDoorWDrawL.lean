/- texts of one claim, one behind the other. -/
import Derived.Test.YtfflpdekojlnmaaGreatDoorWNfaR
import Derived.Test.YtfflpdekojlnmaaGreatDoorWDfaA
import Derived.Shelf.Strconv.Itoa3
import Derived.Shelf.Strings.BuilderK
import Derived.Lib.AppendIntMem
import Derived.Test.YtfflpdekojlnmaaGreatDoorWOpenX
import Derived.Test.YtfflpdekojlnmaaGreatDoorWRef02
import Derived.Test.YtfflpdekojlnmaaGreatDoorWLang
set_option linter.unusedSimpArgs false
set_option linter.unusedVariables false
set_option maxRecDepth 100000
set_option maxHeartbeats 16000000
open List renaming length_append -> UC, mem_cons_of_mem -> Vv, mem_cons_self -> Vy, foldl_cons -> V7, eq_nil_iff_forall_not_mem -> WO, getElem?_eq_getElem -> UM, getElem_mem -> VU, getElem?_set_self -> UU, getElem?_eq_some_iff -> Uy, getElem?_set_ne -> UT, contains_iff_mem -> WQ, length_cons -> UD, length_nil -> Ux, cons_append -> WE, nil_append -> Wt, set_append_right -> WR, getD_eq_getElem?_getD -> Vq, getElem?_range' -> WS, length_range' -> WT, mem_of_getElem? -> U7, ext_getElem -> WU, getElem_map -> Wp, getElem?_append_left -> Uz, range_succ -> WV, getElem?_map -> UP, getElem?_range -> UQ, map_congr_left -> WW, mem_range -> VI, map_cons -> Wy, getElem?_toArray -> UO, size_toArray -> UX
open Option renaming map_eq_some_iff -> Vd, map_some -> U5
open Array renaming getElem?_eq_some_iff -> Uw, getElem?_eq_getElem -> UL
open Bool renaming and_self -> WA, and_true -> VZ, true_and -> VO, and_eq_true -> Vj
open Nat renaming sub_self -> VD
open Option.some renaming inj -> Us
namespace Go.Proofs.YtfflpdekojlnmaaGreatDoor
open Go.RowKit
theorem wY {g:Nat->ByteArray}: ∀(l:List Ex),l≠[]->(∀x∈l,Fit x∧ ∀b p,b<p->p<=b+(aB x).length-> ∃w q,bm (iL x b) g p w q∧jg x b q)-> ∀b p,b<p->p<=b+(aJ l).length-> ∃w q,bm (gu l b) g p w q∧jn l b q
 | [],h,_,_,_,_,_=>absurd rfl h
 | x :: xs,_,h,b,p,h1,h2=>by
  rw [aJ,UC] at h2;have hS: ∀w p q,bm (gu xs (b+(aB x).length)) g p w q->bm (gu (x :: xs) b) g p w q:=fun w p q hc=>hc.imp (fun p q hf=>by rw [gu];exact .inr (.inl hf));have hX: ∀w p q,bm (iL x b) g p w q->bm (gu (x :: xs) b) g p w q:=fun w p q hc=>hc.imp (fun p q hf=>by rw [gu];exact .inl hf)
  rcases Nat.lt_or_ge (b+(aB x).length) p with q|q
  ·have hne:xs≠[]:=by rintro rfl;simp [aJ] at h2;omega
   obtain ⟨w,r,k1,k2⟩:=wY xs hne (fun y hy=>h y (Vv _ hy)) _ p q (by omega);exact ⟨w,r,hS _ _ _ k1,by rw [jn];exact .inr k2⟩
  ·obtain ⟨w,r,k1,k2⟩:=(h x Vy).2 b p h1 q
   cases hxs:xs with
   | nil=>subst hxs;exact ⟨w,r,hX _ _ _ k1,by rw [jn];exact .inl ⟨rfl,k2⟩⟩
   | cons y ys=>
    obtain ⟨f,hf⟩:=sD (h y (by rw [hxs];simp)).1 (b+(aB x).length)
    have hfS:gv xs (b+(aB x).length) f:=by rw [hxs,gv];exact .inl hf
    have hr:=fm (pO hfS);obtain ⟨w2,r2,m1,m2⟩:=wY xs (by rw [hxs];simp) (fun y hy=>h y (Vv _ hy)) _ f hr.1 hr.2;rw [<-hxs];exact ⟨w++g f :: w2,r2,bm.app.2 ⟨r,hX _ _ _ k1,f,by rw [gu];exact .inr (.inr ⟨k2,hfS⟩),rfl,hS _ _ _ m1⟩,by rw [jn];exact .inr m2⟩
theorem wW {g:Nat->ByteArray}: ∀(l:List Ex),(∀x∈l, ∀b p,b<p->p<=b+(aB x).length-> ∃w q,bm (iL x b) g p w q∧jg x b q)-> ∀b p,b<p->p<=b+(aJ l).length-> ∃w q,bm (gW l b) g p w q∧fO l b q
 | [],_,b,p,h1,h2=>by simp [aJ] at h2;omega
 | x :: xs,h,b,p,h1,h2=>by
  rw [aJ,UC] at h2
  rcases Nat.lt_or_ge (b+(aB x).length) p with q|q
  ·obtain ⟨w,r,k1,k2⟩:=wW xs (fun y hy=>h y (Vv _ hy)) _ p q (by omega);exact ⟨w,r,k1.imp (fun p q hf=>by rw [gW];exact .inr hf),by rw [fO];exact .inr k2⟩
  ·obtain ⟨w,r,k1,k2⟩:=h x Vy b p h1 q;exact ⟨w,r,k1.imp (fun p q hf=>by rw [gW];exact .inl hf),by rw [fO];exact .inl k2⟩
theorem PS {g:Nat->ByteArray} {x:Ex} (h:Fit x): ∀b p,b<p->p<=b+(aB x).length-> ∃w q,bm (iL x b) g p w q∧jg x b q:=by
 induction h with
 | lab s=>
  intro b p h1 h2;rw [aB,if_pos rfl] at h2;exact ⟨[],p,rfl,by rw [jg,if_pos rfl];simp at h2;omega⟩
 | many k s l hk hl hf ih=>
  intro b p h1 h2
  have hk1:k≠1:=by rcases hk with rfl|rfl<;>decide
  rw [cO hk1] at h2
  rcases hk with rfl|rfl
  ·obtain ⟨w,r,k1,k2⟩:=wY l (by rintro rfl;simp at hl) (fun x hx=>⟨hf x hx,ih x hx⟩) b p h1 h2;exact ⟨w,r,k1.imp (fun p q hf=>by rw [iL,if_neg (by decide),if_pos rfl];exact hf),by rw [jg,if_neg (by decide),if_pos rfl];exact k2⟩
  ·obtain ⟨w,r,k1,k2⟩:=wW l ih b p h1 h2;exact ⟨w,r,k1.imp (fun p q hf=>by rw [iL,if_neg (by decide),if_neg (by decide)];exact .inl hf),by rw [jg,if_neg (by decide),if_neg (by decide)];exact k2⟩
 | one k s x hk hf ih=>
  intro b p h1 h2
  have hk1:k≠1:=by rcases hk with rfl|rfl|rfl<;>decide
  have hk2:k≠2:=by rcases hk with rfl|rfl|rfl<;>decide
  rw [cO hk1] at h2;obtain ⟨w,r,k1,k2⟩:=wW [x] (fun y hy=>by simp only [List.mem_singleton] at hy;subst hy;exact ih) b p h1 h2;exact ⟨w,r,k1.imp (fun p q hf=>by rw [iL,if_neg hk1,if_neg hk2];exact .inl hf),by rw [jg,if_neg hk1,if_neg hk2];exact k2⟩
def aP (s:bP) (cur:List Nat) (lab:ByteArray):List Nat:=aq (iw s (fH s (br cur)) lab)
theorem vc {s:bP} (ok:yl s) {l:List Nat} {q:Nat}:(fH s (br l)).getLsbD q=true↔q∈l∧q<=s.labs.length:=by
 rw [fH,kx ok]
 have:(q:Int)∈br l↔q∈l:=by
  rw [br,List.mem_map];exact ⟨fun ⟨a,h1,h2⟩=>by rw [<-Int.ofNat_inj.1 h2];exact h1,fun h=>⟨q,h,rfl⟩⟩
 simp [this]
theorem jl {s:bP} (ok:yl s) {cur:List Nat} {lab:ByteArray} {q:Nat}:q∈aP s cur lab ↔ ∃p,p∈cur∧p<=s.labs.length∧(s.fs.getD p 0#32).getLsbD q=true∧dY s q=lab:=by
 rw [aP,aW,kK ok]
 constructor
 ·rintro ⟨p,h1,h2,h3⟩;obtain ⟨k1,k2⟩:=(vc ok).1 h1;exact ⟨p,k1,k2,h2,toList_inj.1 (by simpa using h3)⟩
 ·rintro ⟨p,h1,h2,h3,rfl⟩;exact ⟨p,(vc ok).2 ⟨h1,h2⟩,h3,rfl⟩
theorem Cf {s:bP} (ok:yl s) {m:BitVec 32} (hm: ∀p,m.getLsbD p=true->p<=s.labs.length) (lab:ByteArray):aP s (aq m) lab=aq (iw s m lab):=by rw [aP,Bu ok hm]
theorem JB {s:bP} (ok:yl s) {m:BitVec 32} {lab:ByteArray}: ∀p,(iw s m lab).getLsbD p=true->p<=s.labs.length:=fun p h=>by
 obtain ⟨_,_,h,_⟩:=(kK ok).1 h;exact (ok.qK _ _ h).2
theorem vZ {s:bP} (ok:yl s): ∀(w:List ByteArray) (m:BitVec 32),(∀p,m.getLsbD p=true->p<=s.labs.length)->w.foldl (aP s) (aq m)=aq (w.foldl (iw s) m)
 | [],m,_=>rfl
 | l :: w,m,h=>by rw [V7,V7,Cf ok h,vZ ok w _ (JB ok)]
structure pJ where
 rows:List aU
 ends:List Bool
 labs:List ByteArray
noncomputable def mB (x:Ex) (labs:List ByteArray):Option mK:=nC (aP (aO x)) (aO x).em (aq (aO x).la) labs
def gb (labs:List ByteArray) (st:mK):pJ:=⟨(cp st.rows st.ends (bt st.rows st.ends)).rows,(cp st.rows st.ends (bt st.rows st.ends)).ends,labs⟩
noncomputable def jq (x:Ex) (labs:List ByteArray):pJ ⊕ Int:=
 if ay x then match mB x labs with
  | some st=>if 32<(gb labs st).rows.length then .inr 11 else .inl (gb labs st)
  | none=> .inr 11
 else .inr 2
structure AOk (A:pJ):Prop where
 pos:1<=A.rows.length
 max:A.rows.length<=32
 ends:A.ends.length=A.rows.length
 row: ∀r∈A.rows,(r.map Prod.fst).Sublist A.labs∧ ∀p∈r,p.2<A.rows.length
theorem qz {labs:List ByteArray} {st:mK} (ho:A0 labs st) (hl:st.rows.length=st.all.length): ∀r∈st.rows, ∀p∈r,p.2<st.rows.length:=fun r hr p hp=>by rw [hl];exact (ho.row r hr).2 p hp
theorem DJ {labs:List ByteArray} (hn:labs.Nodup) {st:mK} (ho:A0 labs st): ∀r∈st.rows,(r.map Prod.fst).Nodup:=fun r hr=>(ho.row r hr).1.nodup hn
theorem qy {labs:List ByteArray} (hs: ∀l∈labs,32∉l.data.toList) {st:mK} (ho:A0 labs st):pc st.rows:=fun r hr p hp=>hs _ ((ho.row r hr).1.subset (List.mem_map_of_mem hp))
structure Mu (x:Ex) (A:pJ):Prop extends AOk A where
 Ty: ∀w,c6 A.rows A.ends 0 w=jN x w
 alive: ∀s,s<A.rows.length-> ∃w,c6 A.rows A.ends s w=true
theorem Dh {s:bP} (ok:yl s): ∀(w:List ByteArray) {cur:List Nat} {p q:Nat},p∈cur->p<=s.labs.length->bm (fun p q=>(s.fs.getD p 0#32).getLsbD q=true) (fun p=>dY s p) p w q->q∈w.foldl (aP s) cur
 | [],cur,p,q,h1,h2,h3=>by cases h3;exact h1
 | l :: w,cur,p,q,h1,h2,⟨r,k1,k2,k3⟩=>by
  rw [V7];exact Dh ok w ((jl ok).2 ⟨p,h1,h2,k1,k2⟩) (ok.qK _ _ k1).2 k3
theorem En {x:Ex} (hr:ay x=true) {labs:List ByteArray} (hn:labs.Nodup) (hs: ∀l∈labs,32∉l.data.toList) (hm: ∀l∈aB x,l∈labs) {A:pJ} (h:jq x labs = .inl A):Mu x A:=by
 have N:=iq hr;have F:=(dC hr).1;rw [jq,if_pos hr] at h
 split at h
 ·rename_i st hst
  split at h
  ·cases h
  ·rename_i h32;simp only [Sum.inl.injEq] at h;obtain ⟨ho,hl,hw⟩:=x4 (aP (aO x)) (aO x).em (aq (aO x).la) hn hst;have hz0:(st.all)[0]? = some [0]:=hw.zero
   have hpos:0<st.rows.length:=by rw [hl];exact (List.getElem?_eq_some_iff.1 hz0).1
   have hT:=qz ho hl;have hN:=DJ hn ho;obtain ⟨hS,hpl⟩:=tF st.rows st.ends (qy hs ho) hT hpos ho.ends;obtain ⟨qo,ql,qw⟩:=zx (ends:=st.ends) hT hN hpos (bt st.rows st.ends)
   have ha: ∀l,aP (aO x) [] l=[]:=fun l=>WO.2 fun q hq=>by
    obtain ⟨p,hp,_⟩:=(jl N.ok).1 hq;simp at hp
   have hlab: ∀q,1<=q->q<=(aO x).labs.length->dY (aO x) q∈labs:=fun q h1 h2=>by
    rw [dY,if_pos (by omega)];refine hm _ ?_;rw [<-N.labs];exact aZ (by omega)
   have hx: ∀cur l,l∉labs->aP (aO x) cur l=[]:=fun cur l hl=>WO.2 fun q hq=>by
    obtain ⟨p,_,_,k,rfl⟩:=(jl N.ok).1 hq;obtain ⟨q1,q2⟩:=N.ok.qK _ _ k;exact hl (hlab q q1 q2)
   have h0: ∀cur l,0∉aP (aO x) cur l:=fun cur l hq=>by
    obtain ⟨p,_,_,k,_⟩:=(jl N.ok).1 hq
    have:=(N.ok.qK _ _ k).1;omega
   have hla:0∉aq (aO x).la:=fun hq=>by have:=(N.ok.la _ (aW.1 hq)).1;omega
   have hlen:A.rows.length=(cp st.rows st.ends (bt st.rows st.ends)).order.length:=by rw [<-h];exact ql
   have hA: ∀k w,k<A.rows.length->c6 A.rows A.ends k w=c6 st.rows st.ends ((cp st.rows st.ends (bt st.rows st.ends)).order.getD k 0) w:=fun k w hk=>by
    rw [<-h];exact qP hT hS qo ql qw w (by rw [<-hlen];exact hk)
   have hp1:1<=A.rows.length:=by
    rw [hlen]
    have:=qo.le;rw [ql] at this
    refine Nat.one_le_iff_ne_zero.2 fun e=> ?_;have q0:=zW (rows:=st.rows) (part:=bt st.rows st.ends) (ends:=st.ends) (st.rows.length+1) (st:=q0)
    have:1<=(cp st.rows st.ends (bt st.rows st.ends)).order.length:=q0
    omega
   refine ⟨⟨hp1, ?_, ?_,fun r hr=> ?_⟩,fun w=> ?_,fun s hs=> ?_⟩
   ·have:=h32;rw [h] at this;omega
   ·rw [<-h];exact qo.ends
   ·obtain ⟨k,hk,rfl⟩:=List.getElem_of_mem hr
    have hk':k<(cp st.rows st.ends (bt st.rows st.ends)).rows.length:=by rw [<-h] at hk;exact hk
    obtain ⟨r1,r2⟩:=qo.row k hk'
    have e:A.rows[k]=(cp st.rows st.ends (bt st.rows st.ends)).rows.getD k []:=by
     subst h;rw [List.getD_eq_getElem?_getD,UM hk'];rfl
    have hlabs:A.labs=labs:=by rw [<-h];rfl
    rw [e,r1,hlabs,hlen];exact ⟨(ho.row _ (aZ (qo.lt _ (aZ (by rw [<-ql];exact hk'))))).1,r2⟩
   ·rw [hA 0 w (by omega),qw.zero,Ce hl hw ha hx h0 hla, <- FZ hr, <- Hg N.ok]
    have e0:([0]:List Nat)=aq (ofM 0):=by rfl
    rw [e0,vZ N.ok w (ofM 0) (fun p hp=>by rw [zK] at hp;omega)]
    congr 1
    rw [Bool.eq_iff_iff,rT,List.any_eq_true];simp [runM]
   ·rw [hlen] at hs;have hi:=qo.lt _ (aZ (d:=0) hs)
    have hi':(cp st.rows st.ends (bt st.rows st.ends)).order.getD s 0<st.all.length:=by omega
    obtain ⟨hne,hmade⟩:=FW (aP (aO x)) (aO x).em (aq (aO x).la) hst _ (VU hi');obtain ⟨p,hp⟩:=List.exists_mem_of_ne_nil _ hne
    have hpb:p<=(aO x).labs.length:=by
     rcases hmade with e|⟨cur,l,e⟩
     ·rw [e] at hp;simp at hp;omega
     ·rw [e] at hp;obtain ⟨_,_,_,k,_⟩:=(jl N.ok).1 hp;exact (N.ok.qK _ _ k).2
    obtain ⟨w,q,hc,hq⟩: ∃w q,bm (fun p q=>((aO x).fs.getD p 0#32).getLsbD q=true) (fun p=>dY (aO x) p) p w q∧jg x 0 q:=by
     have up: ∀p,0<p->p<=(aO x).labs.length-> ∃w q,bm (fun p q=>((aO x).fs.getD p 0#32).getLsbD q=true) (fun p=>dY (aO x) p) p w q∧jg x 0 q:=fun p h1 h2=>by
      obtain ⟨w,q,k1,k2⟩:=PS (g:=fun p=>dY (aO x) p) F 0 p h1 (by rw [<-N.labs];omega)
      have:=bm.stay (S:=fun p=>p≠0) (F:=fun p q=>((aO x).fs.getD p 0#32).getLsbD q=true) (fun p q hp hf=>⟨(N.qK p q hp).2 hf,by have:=(dB x hf).2;omega⟩) (by omega) k1
      exact ⟨w,q,this.1,k2⟩
     by_cases e:p=0
     ·subst e;obtain ⟨f,hf⟩:=sD F 0;have hfr:=fA x hf;obtain ⟨w,q,k1,k2⟩:=up f (by omega) (by rw [N.labs];omega);exact ⟨_ :: w,q,⟨f,(N.fst f).2 hf,rfl,k1⟩,k2⟩
     ·exact up p (by omega) hpb
    refine ⟨w, ?_⟩;rw [hA s w (by rw [hlen];exact hs)];exact FV hl hw ha hx w (UM hi') hne (Dh N.ok w hp hpb hc) (aW.2 ((N.vF q).2 hq))
 ·cases h
def GY:Go.Shelf.Ren:=⟨fun|169=>91|n=>n,fun|70=>134|9=>9|0=>0|72=>136|37=>122|127=>179|3=>3|5=>5|n=>n,fun n=>n⟩
theorem KL:Lays.n169 Tryz.prog GY:={
 mixed:=by kernel_rfl
 f169:=Tryz.func91
 t0:=by kernel_rfl
 a0:=fun w=>by kernel_rfl
 z0:=fun w=>by kernel_rfl
 v0:=fun w=>by kernel_rfl
 t3:=by kernel_rfl
 a3:=fun w=>by kernel_rfl
 z3:=fun w=>by kernel_rfl
 v3:=fun w=>by kernel_rfl
 t9:=by kernel_rfl
 a9:=fun w=>by kernel_rfl
 z9:=fun w=>by kernel_rfl
 v9:=fun w=>by kernel_rfl
 t37:=by kernel_rfl
 a37:=fun w=>by kernel_rfl
 z37:=fun w=>by kernel_rfl
 v37:=fun w=>by kernel_rfl
 t70:=by kernel_rfl
 a70:=fun w=>by kernel_rfl
 z70:=fun w=>by kernel_rfl
 v70:=fun w=>by kernel_rfl
 t72:=by kernel_rfl
 a72:=fun w=>by kernel_rfl
 z72:=fun w=>by kernel_rfl
 v72:=fun w=>by kernel_rfl
 t127:=by kernel_rfl
 a127:=fun w=>by kernel_rfl
 z127:=fun w=>by kernel_rfl
 v127:=fun w=>by kernel_rfl }
def Dm:Go.Shelf.Ren:=⟨fun|171=>90|243=>128|246=>147|283=>161|284=>162|285=>163|286=>164|129=>126|317=>173|318=>174|319=>175|320=>176|337=>139|338=>178|n=>n,fun|3=>3|9=>9|2=>2|4=>4|171=>207|0=>0|53=>178|37=>122|5=>5|173=>209|212=>217|51=>95|20=>20|213=>218|46=>121|232=>203|233=>220|n=>n,fun|17=>1|18=>0|19=>2|n=>n⟩
theorem vv:Lays.n171 Tryz.prog Dm:={
 mixed:=by kernel_rfl
 f129:=Tryz.func126
 f171:=Tryz.func90
 f243:=Tryz.func128
 f246:=Tryz.func147
 f283:=Tryz.func161
 f284:=Tryz.func162
 f285:=Tryz.func163
 f286:=Tryz.func164
 f317:=Tryz.func173
 f318:=Tryz.func174
 f319:=Tryz.func175
 f320:=Tryz.func176
 f337:=Tryz.func139
 f338:=Tryz.func178
 t0:=by kernel_rfl
 a0:=fun w=>by kernel_rfl
 z0:=fun w=>by kernel_rfl
 v0:=fun w=>by kernel_rfl
 t2:=by kernel_rfl
 a2:=fun w=>by kernel_rfl
 z2:=fun w=>by kernel_rfl
 v2:=fun w=>by kernel_rfl
 t3:=by kernel_rfl
 a3:=fun w=>by kernel_rfl
 z3:=fun w=>by kernel_rfl
 v3:=fun w=>by kernel_rfl
 t4:=by kernel_rfl
 a4:=fun w=>by kernel_rfl
 z4:=fun w=>by kernel_rfl
 v4:=fun w=>by kernel_rfl
 t5:=by kernel_rfl
 a5:=fun w=>by kernel_rfl
 z5:=fun w=>by kernel_rfl
 v5:=fun w=>by kernel_rfl
 t9:=by kernel_rfl
 a9:=fun w=>by kernel_rfl
 z9:=fun w=>by kernel_rfl
 v9:=fun w=>by kernel_rfl
 t20:=by kernel_rfl
 a20:=fun w=>by kernel_rfl
 z20:=fun w=>by kernel_rfl
 v20:=fun w=>by kernel_rfl
 t37:=by kernel_rfl
 a37:=fun w=>by kernel_rfl
 z37:=fun w=>by kernel_rfl
 v37:=fun w=>by kernel_rfl
 t46:=by kernel_rfl
 a46:=fun w=>by kernel_rfl
 z46:=fun w=>by kernel_rfl
 v46:=fun w=>by kernel_rfl
 t51:=by kernel_rfl
 a51:=fun w=>by kernel_rfl
 z51:=fun w=>by kernel_rfl
 v51:=fun w=>by kernel_rfl
 t53:=by kernel_rfl
 a53:=fun w=>by kernel_rfl
 z53:=fun w=>by kernel_rfl
 v53:=fun w=>by kernel_rfl
 t171:=by kernel_rfl
 a171:=fun w=>by kernel_rfl
 z171:=fun w=>by kernel_rfl
 v171:=fun w=>by kernel_rfl
 t173:=by kernel_rfl
 a173:=fun w=>by kernel_rfl
 z173:=fun w=>by kernel_rfl
 v173:=fun w=>by kernel_rfl
 t212:=by kernel_rfl
 a212:=fun w=>by kernel_rfl
 z212:=fun w=>by kernel_rfl
 v212:=fun w=>by kernel_rfl
 t213:=by kernel_rfl
 a213:=fun w=>by kernel_rfl
 z213:=fun w=>by kernel_rfl
 t232:=by kernel_rfl
 a232:=fun w=>by kernel_rfl
 z232:=fun w=>by kernel_rfl
 v232:=fun w=>by kernel_rfl
 t233:=by kernel_rfl
 a233:=fun w=>by kernel_rfl
 z233:=fun w=>by kernel_rfl
 v233:=fun w=>by kernel_rfl
 g17:=by kernel_rfl
 g18:=by kernel_rfl
 g19:=by kernel_rfl }
theorem Ia:LaysM.n171 Tryz.prog Dm:={ vv with
 i0:=by kernel_rfl
 i2:=by kernel_rfl
 i3:=by kernel_rfl
 i4:=by kernel_rfl
 i5:=by kernel_rfl
 i9:=by kernel_rfl
 i20:=by kernel_rfl
 i37:=by kernel_rfl
 i46:=by kernel_rfl
 i51:=by kernel_rfl
 i53:=by kernel_rfl
 i171:=by kernel_rfl
 i173:=by kernel_rfl
 i212:=by kernel_rfl
 i232:=by kernel_rfl
 i233:=by kernel_rfl
 m17:=by kernel_rfl
 m18:=by kernel_rfl
 m19:=by kernel_rfl }
theorem GS:(Tryz.prog.info? 136).map (·.size)=some 2:=by kernel_rfl
theorem MD:liesAt Tryz.prog Tryz.prog.depth 136 (2 / Tryz.prog.cellsOf 136) 0 136 1=true:=by kernel_rfl
theorem MC:(Tryz.prog.info? 5).map (fun i=>(i.zero,i.size,i.bytes))=some (some (.int .u8 0),1,1):=by kernel_rfl
theorem Nv:Builder.Extra Tryz.prog GY:={ sizeBuilder:=GS,liesBuilder:=MD,t5:=by kernel_rfl,a5:=fun w=>by kernel_rfl,z5:=fun w=>by kernel_rfl,v5:=fun w=>by kernel_rfl,infoByte:=MC,cellsByte:=by kernel_rfl,sizeByte:=by kernel_rfl,neB5:=by decide }
theorem SU:Tryz.prog.underlying 134=some (.pointer 136):=by kernel_rfl
theorem Tz:Tryz.prog.underlying 192=some .unsafePointer:=by kernel_rfl
theorem uz (b:Nat) (w:World) (h0:w.cell? ⟨b,0,none⟩=some (.pointer none)) (hsh:w.shape? b=some (136,2)) (hfz:w.frozen? ⟨b,0,none⟩=false) :
  Calls Tryz.prog 127 #[.pointer (some ⟨b,0,none⟩)] w fun e w'=>e = .returned (.tuple #[])∧w'=w.setCell ⟨b,0,none⟩ (.pointer (some ⟨b,0,none⟩)):=by
 obtain ⟨j,hj,hjs⟩:=Vd.1 GS
 go_enter Tryz.func127,Tryz.ntmps127
 go_wp2
 rw [Lib.run_to_unsafe w ⟨b,0,none⟩ SU Tz hj (by rw [hjs];decide) hsh (Nat.zero_lt_succ 1)];simp only [Result.andThen];rw [Oper.upon_value]
 go_wp2
 rw [run_callFunc_extern Tryz.func146 (by kernel_rfl) (by kernel_rfl) (by kernel_rfl) (e:=Extern.AbiNoEscape.same) (by kernel_rfl)];rw [Lib.run_noEscape];simp only [Result.andThen];rw [Oper.upon_value]
 go_wp2
 rw [Lib.run_from_unsafe w ⟨b,0,none⟩ Tz SU hj hsh MD];simp only [Result.andThen];rw [Oper.upon_value]
 go_wp2
 go_end0
 exact ⟨rfl,rfl⟩
theorem w8 (b:Nat) (w:World) (h0:w.cell? ⟨b,0,none⟩=some (.pointer (some ⟨b,0,none⟩))) :
  Calls Tryz.prog 127 #[.pointer (some ⟨b,0,none⟩)] w fun e w'=>e = .returned (.tuple #[])∧w'=w:=by
 obtain ⟨j,hj,_⟩:=Vd.1 GS
 go_enter Tryz.func127,Tryz.ntmps127
 go_wp2
 rw [Lib.run_neq_ptr_same w _ SU hj]
 go_wp2
 go_end0
 exact ⟨rfl,rfl⟩
abbrev Px (B b:Nat) (bs:List Value) (w:World):Prop:=Lib.IsBuilderF 136 5 B b bs w
theorem uy (B b:Nat) (bs:List Value) (w:World) (h:Px B b bs w) :
  Calls Tryz.prog 127 #[.pointer (some ⟨b,0,none⟩)] w fun e w'=>e = .returned (.tuple #[])∧Lib.BuilderAtF 136 5 B b (.pointer (some ⟨b,0,none⟩)) bs w'∧Below B w w':=by
 rcases h with h|h
 ·refine (uz b w h.cell0 h.shape h.frozen0).mono ?_;rintro e w' ⟨rfl,rfl⟩;exact ⟨rfl,h.used _,(Below.refl B w).setCell (p:=⟨b,0,none⟩) h.1 _⟩
 ·refine (w8 b w h.cell0).mono ?_;rintro e w' ⟨rfl,rfl⟩;exact ⟨rfl,h,Below.refl B _⟩
theorem OI:Tryz.prog.underlying 122=some (.slice 5):=by kernel_rfl
theorem QV:Tryz.prog.underlying 9=some .string:=by kernel_rfl
theorem Cn (B b:Nat) (bs:List Value) (s:ByteArray) (w:World) (h:Px B b bs w) (hlen:bs.length+s.size<=140737488355328) (hBw:B<=w.heap.size) :
  Calls Tryz.prog 89 #[.pointer (some ⟨b,0,none⟩), .string s] w fun e w'=>e = .returned (.tuple #[.int .i64 s.size, .nilIface])∧Px B b (bs++Lib.strCells s) w'∧Below B w w':=by
 obtain ⟨i0,hi,hz0,hz1,hz2⟩:=info_parts MC
 go_enter Tryz.func89,Tryz.ntmps89
 go_wp2_with fail
 refine (uy B b bs _ h).mono ?_;rintro e w1 ⟨rfl,h1,hb1⟩;obtain ⟨hB,v,hbk,hown,hne⟩:=h1;have hlt:b<w1.heap.size:=(Array.getElem?_eq_some_iff.1 hbk).1
 have c0:w1.cell? ⟨b,0,none⟩=some (.pointer (some ⟨b,0,none⟩)):=by rw [Lib.cell_of_heap hbk];rfl
 have c1:w1.cell? ⟨b,1,none⟩=some v:=by rw [Lib.cell_of_heap hbk];rfl
 go_wp2_with (at_builtin;refine Lib.wpList_append_own_stringF _ rfl _ _ 122 9 rfl B 5 i0 OI QV hi hz0 hz1 hz2 _ _ _ rfl hown s rfl ?c3 ?c4 ?c5 ?_)
 case c3=>unfold maxLen;omega
 case c4=>omega
 case c5=>have:=hb1.size;omega
 intro v' w2 hown' hgrow _;have hb2:w2.heap[b]? = some (.cells #[.pointer (some ⟨b,0,none⟩),v] 136 (0,0)):=(hgrow.block b hlt (fun e=>hne e.symm)).trans hbk
 have d0:w2.cell? ⟨b,0,none⟩=some (.pointer (some ⟨b,0,none⟩)):=by rw [Lib.cell_of_heap hb2];rfl
 have d1:w2.cell? ⟨b,1,none⟩=some v:=by rw [Lib.cell_of_heap hb2];rfl
 have f1:w2.frozen? ⟨b,1,none⟩=false:=Lib.frozen_of_heap hb2 1
 obtain ⟨ao,n',cap,rfl⟩: ∃ao n' cap,v' = .slice ao n' cap:=by
  rcases hown'.2 with ⟨hv,_⟩|⟨g,cap,cur,fz,hv,_⟩<;>exact ⟨_,_,_,hv⟩
 go_wp2
 go_ret2
 refine ⟨rfl, .inr (Lib.BuilderAtF.put (T:=136) (e:=5) hB hb2 (bs':=bs++Lib.strCells s) (by simpa [Lib.strCells_length] using hown') (by decide)), ?_⟩;exact (hb1.grown hgrow (by have:=hb1.size;omega) (fun k hk=>(hown.lt k hk).1)).setCell (p:=⟨b,1,none⟩) hB _
def PB (n:Nat) (cs:List Value):Prop:=cs=[.int .i64 (n:Nat)]
abbrev Gu (w:World) (l:List Nat) (v:Value):Prop:=fP w 1 PB l v
theorem FJ {w:World} {xs:List Nat} {p:Option Addr} {n cap:Nat} (h:Gu w xs (.slice p n cap)) {k:Nat} (hk:k<xs.length) :
  ∃b o,p=some ⟨b,o,none⟩∧w.cell? ⟨b,o+k,none⟩=some (.int .i64 (xs[k]:Nat)):=by
 obtain ⟨b,o,cs,hp,hr,hc⟩:=fP.at h hk;subst hr;rw [Nat.mul_one] at hc;replace hc:=jM hc;exact ⟨b,o,hp,by simpa using hc 0 _ rfl⟩
theorem E9 (l:List Nat) (n:Nat):kW (l++[n])=kW l++(Lib.decDigits n++[32]):=by simp [kW]
theorem Ie (l:List Nat) (hs: ∀n∈l,n<1000):(kW l).length<=4 * l.length:=by
 induction l with
 | nil=>simp [kW]
 | cons a l ih=>
  have h1:=sc a (hs a Vy);have h2:=ih (fun n hn=>hs n (Vv _ hn));simp only [kW,List.flatMap_cons,UC,List.length_cons,List.length_nil] at *;omega
theorem Ld (l:List Nat) (hs: ∀n∈l,n<100) (hl:l.length<=1000000) (v:Value) (w:World) (h1:Gu w l v):Calls Tryz.prog 58 #[v] w (AZ w (.string (fZ l))):=by
 obtain ⟨p,c,rfl,hc1,hc2⟩:=h1.shape;unfold maxLen at hc2;have H1:=Lib.hid h1;have HS:=Lib.hid hs;clear h1 hs
 go_enter Tryz.func58,Tryz.ntmps58
 go_wp2_with fail
 go_loopw [8] (fun i wr=> ∃k:Nat,k<=l.length∧i = .int .i64 k∧Below w.heap.size w wr∧Px w.heap.size w.heap.size (Lib.byteCells (kW (l.take k))) wr) (fun i _=>l.length - (intOf i).toNat)
 case atStart=>exact ⟨0,Nat.zero_le _,rfl,(Below.refl _ w).alloc (Nat.le_refl _) _,by rw [List.take_zero];exact Lib.IsBuilderF.of (Lib.fresh_isBuilder 136 5 w)⟩
 case round=>
  obtain ⟨k,hk,rfl,hb,hI⟩:=hrel;have HB:=Lib.hid hb;have HI:=Lib.hid hI;clear hb hI
  by_cases hlt:k<l.length
  ·obtain ⟨b1,o1,rfl,a0⟩:=FJ (fP.below H1.out HB.out) hlt;have CI:=Lib.hid (Any.strconv_Itoa_small vv l[k] (HS.out _ (VU hlt)) wr)
   have hk1:(kW (l.take k)).length<=4 * k:=by
    have:=Ie (l.take k) (fun n hn=>by have:=HS.out n (List.mem_of_mem_take hn);omega)
    have h2:(l.take k).length<=k:=List.length_take_le _ _;omega
   have hk2:=sc l[k] (by have:=HS.out _ (VU hlt);omega)
   have CW:=Lib.hid (Cn w.heap.size w.heap.size (Lib.byteCells (kW (l.take k))) (⟨(Lib.decDigits l[k]).toArray⟩++⟨#[32]⟩) wr HI.out (by
    rw [Lib.byteCells_length]
    have:(⟨(Lib.decDigits l[k]).toArray⟩++⟨#[32]⟩:ByteArray).size=(Lib.decDigits l[k]).length+1:=by simp [ByteArray.size]
    omega) HB.out.size)
   go_wp2_with fail
   refine CI.out.mono ?_;rintro e w1 ⟨rfl,rfl⟩
   go_wp2_with fail
   refine CW.out.mono ?_;rintro e w2 ⟨rfl,hI2,hb2⟩
   go_wp2_with fail
   go_roundw
   case rel=>
    refine ⟨k+1,by omega,by go_num,HB.out.trans hb2, ?_⟩
    have e1:Lib.byteCells (kW (l.take (k+1)))=Lib.byteCells (kW (l.take k))++Lib.strCells (⟨(Lib.decDigits l[k]).toArray⟩++⟨#[32]⟩):=by
     rw [List.take_succ_eq_append_getElem hlt,E9,Lib.byteCells_append,Lib.strCells_eq];simp
    rw [e1];exact hI2
   case measure=>simp [intOf];omega
  ·have hkl:k=l.length:=by omega
   subst hkl
   have hI3:Px w.heap.size w.heap.size (Lib.byteCells (kW l)) wr:=by have:=HI.out;rwa [List.take_length] at this
   have CT:=Lib.hid (Any.Builder_String_any_k KL Nv w.heap.size w.heap.size (kW l) wr hI3 HB.out.size)
   go_wp2_with fail
   refine CT.out.mono ?_;rintro e w1 ⟨rfl,_,hb2,_⟩
   go_wp2_with fail
   go_ret
   exact ⟨rfl,HB.out.trans hb2⟩
theorem MO (l:List Nat) (hs: ∀n∈l,n<100) (hl:l.length<=1000000):ar Tryz.prog 58 [.aC 1 (aI l) l.length] (.v (.string (fZ l))):=
 .xN (by kernel_rfl) (by simp only [aV,AV.wf,gp,Bool.and_self]) (fun D nu w vargs hra=>by
  obtain ⟨x,rfl,hx⟩:=jR hra
  exact Ld l hs hl x w (RA.Oj hx (fun x _ cs hc=>Aa (vs:=[.int .i64 (x:Nat)]) hc)))
theorem Ib (n:Nat) (h:n<1000000):ar Tryz.prog 90 [.v (.int .i64 (n:Nat))] (.v (.string ⟨(Lib.decDigits n).toArray⟩)):=by
 refine ⟨⟨rfl,rfl⟩,by kernel_rfl,fun D nu w vargs hro hra=> ?_⟩;obtain ⟨x,rfl,hx⟩:=jR hra;obtain rfl:=hx.cU;obtain ⟨⟨t,hb⟩,_⟩:=hro.gl 1 _ _ rfl
 have htab:Lib.TabIs Tryz.prog w "internal/strconv.uint64pow10" .u64 Lib.pow10Tab:=by
  have hg:Tryz.prog.globalNamed "internal/strconv.uint64pow10" = some 1:=by kernel_rfl
  simp only [Lib.TabIs,World.var?,hg,Option.bind_some,hb]
  rfl
 refine (Any.strconv_Itoa Ia n (by omega) (by omega) w htab).mono ?_;rintro e w' ⟨rfl,k,os,rfl⟩
 have e1:Lib.itoa (n:Int)=Lib.decDigits n:=by rw [Lib.itoa,if_neg (by omega)];rfl
 rw [e1];have hbw:Below w.heap.size w (Go.Sort.grow (w.drewN k) os):=Go.Lib.below_grow _ w (Nat.le_refl _) k os;exact ⟨_,nu,[],_,rfl,au hbw,hro.below hbw, .v _,rfl,rfl⟩
section
section
variable {D:Nat->Prop} {nu:Nat->Nat->Value} {o:List (Option aa)} {w:World} {P:Program}
theorem IB (h:RO D nu o w) {id:Nat} {ob:aa} (ho:o[id]? = some (some ob)) (hv:ob.fY=false) (hz:ob.z=0):RA D nu (o.set id none) w (.mp ob.rows) (nu id 0):=by
 rcases h.obj id ob ho with ⟨e1,_⟩|⟨g,cur,hb⟩|⟨g,es,cl,hm⟩
 ·rw [e1] at hv;cases hv
 ·have:=hb.z;omega
 ·rw [hm.rm]
  have hf:Fz D nu (o.set id none) w g:=by
   refine ⟨(Uw.1 hm.ew).1, ?_,hm.nj⟩;rintro ⟨id',ob',k1,k2⟩
   by_cases he:id=id'
   ·subst he;rw [UU (Uy.1 ho).1] at k1;cases k1
   ·rw [UT he] at k1;exact h.sep id id' ob ob' g ho k1 he hm.bA k2
  refine .mp _ g es cl hf hm.ew hm.sz hm.row hm.born hm.uI (fun i j row c e k1 k2 k3=> ?_);have hl:=hm.row i row k1;have hj:=(Uy.1 k2).1
  match j,hj,k2 with
  | 0,_,k2=>exact (hm.key i row c e k1 k2 k3).mono (cV id) (fun _ _ h=>h)
  | 1,_,k2=>exact (hm.val i row c e k1 k2 k3).mono (cV id) (fun _ _ h=>h)
  | j+2,hj,_=>omega
theorem Ch {s:AS} (i id:Nat) {ob:aa} (hi:s.t[i]? = some (.vec id 0)) (ho:s.o[id]? = some (some ob)) (hv:ob.fY=false) (hz:ob.z=0):yq s (AS.mk (s.t.set i (.mp ob.rows)) (s.o.set id none) s.y):=by
 intro f D nu a w hs;have hm:=cV (nu:=nu) (o:=s.o) (w:=w) id;refine ⟨nu,hm,rfl,kY hs.ro id,⟨by simpa using hs.tm.len,fun j c x h1 h2=> ?_⟩,hs.js⟩
 by_cases hij:i=j
 ·subst hij;rw [UU (Uy.1 hi).1] at h1;cases h1;have hr:=hs.tm.at' i _ x hi h2;cases hr;exact IB hs.ro ho hv hz
 ·rw [UT hij] at h1;exact (hs.tm.at' j c x h1 h2).mono hm (fun _ _ h=>h)
end
theorem Mb {s:bP} (ok:yl s) (l:List Nat) (lab:ByteArray) (hl:l.length<=1000000):ar Tryz.prog 59 [.vp (ir s), .aC 1 (aI l) l.length, .v (.string lab)] (.aC 1 (aI (aP s l lab)) (aP s l lab).length):=by
 have h:=LC ok (br l) lab (by rw [vu];exact hl);rw [vu, <- EI] at h;exact h
theorem H7 (l:List Nat) (n:Nat) (hl:l.length<=1000000): ∃k:Int,(decide (0<=k)=l.contains n)∧ar Tryz.prog 94 [.aC 1 (aI l) l.length, .v (.int .i64 n)] (.v (.int .i64 k)):=by
 refine ⟨if l.contains n then (l.idxOf n:Int) else -1,by split<;>simp_all<;>omega, ?_⟩;refine gE Tryz.func94 Tryz.ntmps94 Tryz.results94 ?_
 (refine aw ?_;intro K hK)
 refine bz (ι:=Nat) 8 (fun i=>[(5, .undef),(8, .v (.int .i64 i))]) (fun i=>l.length - i) (fun i=>i<=l.length∧n∉l.take i) 0 ⟨Nat.zero_le _,by simp⟩ ?_ ?_
 ·refine bo ?_ aj
  rfl
 rintro i ⟨hi,hn⟩ K hK
 (revert K;revert K;refine aw ?_;intro K hK K hK K hK)
 refine bH.part (fun h=> ?_) (fun h=> ?_)
 ·have hlt:i<l.length:=by replace h:=bI h;omega
  have eW:=ak (k:=i) (by omega)
  have eG:(aI l).getD i []=[.v (.int .i64 (l[i]:Nat))]:=by rw [aI,getD_map _ l i [] hlt]
  repeat (first|(with_reducible first|refine aA.up ?_|refine fun (K:AK) hK=> ?_|(refine hK _ ?_;clear hK K))|simp only [go_sem,h,eG]|with_reducible refine wA ?_|clear hK K)
  refine bH.part (fun h2=> ?_) (fun h2=> ?_)
  ·have hc:n=l[i]:=by replace h2:=bI h2;omega
   have hm:l.contains n=true:=by rw [WQ,hc];exact List.getElem_mem hlt
   have hx:l.idxOf n=i:=by
    have h1:l.idxOf n<=i:=by
     exact zg l n i (by rw [hc];exact UM hlt)
    rcases Nat.lt_or_ge (l.idxOf n) i with q|q
    ·exfalso
     have hq:l.idxOf n<l.length:=by omega
     refine hn (List.mem_take_iff_getElem.2 ⟨l.idxOf n,by omega, ?_⟩);exact List.getElem_idxOf hq
    ·omega
   ((iterate 3 revert K);refine aw ?_)
   rw [hm,if_pos rfl,hx]
  ·have hc:n≠l[i]:=by replace h2:=bI h2;omega
   ((iterate 3 revert K);refine aM eW ?_)
   exact az.mk (i+1) ⟨by omega,by
    rw [List.take_succ_eq_append_getElem hlt,List.mem_append]
    rintro (e|e)
    ·exact hn e
    ·exact hc (by simpa using e)⟩ (by omega) (by exact aR aj)
 ·have hm:l.contains n=false:=by
   have:i=l.length:=by replace h:=bI h;omega
   rw [this,List.take_length] at hn;rw [<-Bool.not_eq_true,WQ];exact hn
  ((iterate 3 revert K);refine aw ?_)
  rw [hm,if_neg (by decide)]
theorem yO (l:List Nat) (n:Nat) (hl:l.length<=1000000):ar Tryz.prog 61 [.aC 1 (aI l) l.length, .v (.int .i64 n)] (.v (.bool (l.contains n))):=by
 obtain ⟨k,hk,C⟩:=H7 l n hl;refine gE Tryz.func61 Tryz.ntmps61 Tryz.results61 ?_
 (refine bq ?_;intro K hK K hK)
 refine ab.one C ?_
 (revert K;revert K;refine bq ?_)
 rw [<-hk]
def ze (p:Nat->Bool):List Nat->Nat->Int
 | [],_=> -1
 | x :: xs,i=>if p x then (i:Int) else ze p xs (i+1)
theorem zf (p:Nat->Bool): ∀(l:List Nat) (i:Nat),decide (0<=ze p l i)=l.any p
 | [],i=>rfl
 | x :: xs,i=>by
  rw [ze,List.any_cons]
  cases p x with
  | true=>simp
  | false=>simpa using zf p xs (i+1)
theorem xr {g:FuncId} (caps:List AV) (hw:aV 0 caps=true) (p:Nat->Bool) (l:List Nat) (hl:l.length<=1000000) (H: ∀x:Nat,ar Tryz.prog g (.v (.int .i64 x) :: caps) (.v (.bool (p x)))) :
  ar Tryz.prog 95 [.aC 1 (aI l) l.length, .fn g [] caps] (.v (.int .i64 (ze p l 0))):=by
 (refine ar.enter Tryz.func95 rfl (by kernel_rfl) (by kernel_rfl) rfl (by simp only [go_sem,aV,AV.wf,WA,VZ,VO,hw]) (by simp only [go_sem,aV,AV.wf,a7,WA,VZ,VO,hw]) ?_;simp only [Tryz.ntmps95,Tryz.results95,UD,Ux,Nat.reduceAdd,Nat.reduceSub,List.replicate_succ,List.replicate_zero,WE,Wt])
 (refine aw ?_;intro K hK)
 refine bz (ι:=Nat) 8 (fun i=>[(5, .undef),(8, .v (.int .i64 i))]) (fun i=>l.length - i) (fun i=>i<=l.length∧ze p l 0=ze p (l.drop i) i) 0 ⟨Nat.zero_le _,rfl⟩ ?_ ?_
 ·refine bo ?_ aj
  all_goals first|exact hw|rfl|exact ⟨hw,rfl⟩
 rintro i ⟨hi,hx⟩ K hK
 (revert K;revert K;refine aw ?_;intro K hK K hK K hK)
 refine bH.part (fun h=> ?_) (fun h=> ?_)
 ·have hlt:i<l.length:=by replace h:=oE h;omega
  have eW:=ak (k:=i) (by omega)
  have eG:(aI l).getD i []=[.v (.int .i64 (l[i]:Nat))]:=by rw [aI,getD_map _ l i [] hlt]
  have HX:=H l[i];rw [List.drop_eq_getElem_cons hlt,ze] at hx
  repeat (first|(with_reducible first|refine aA.up ?_|refine fun (K:AK) hK=> ?_|(refine hK _ ?_;clear hK K))|simp only [go_sem,eG]|with_reducible refine wA ?_|clear hK K)
  refine ab.one HX ?_
  rcases Bool.eq_false_or_eq_true (p l[i]) with hp|hp
  ·rw [hp,if_pos rfl] at hx
   ((iterate 5 revert K);refine aM hp ?_)
   rw [hx]
  ·rw [hp,if_neg (by decide)] at hx
   ((iterate 5 revert K);refine qL hp eW ?_)
   refine az.mk (i+1) ⟨by omega,hx⟩ (by omega) ?_;refine bo ?_ aj
   all_goals first|exact hw|rfl
 ·have:i=l.length:=by replace h:=oE h;omega
  rw [this,List.drop_length,ze] at hx
  ((iterate 3 revert K);refine aw ?_)
  rw [hx]
theorem q6 {g:FuncId} (caps:List AV) (hw:aV 0 caps=true) (p:Nat->Bool) (l:List Nat) (hl:l.length<=1000000) (H: ∀x:Nat,ar Tryz.prog g (.v (.int .i64 x) :: caps) (.v (.bool (p x)))) :
  ar Tryz.prog 63 [.aC 1 (aI l) l.length, .fn g [] caps] (.v (.bool (l.any p))):=by
 have C:=xr caps hw p l hl H
 (refine ar.enter Tryz.func63 rfl (by kernel_rfl) (by kernel_rfl) rfl (by simp only [go_sem,aV,AV.wf,WA,VZ,VO,hw]) (by simp only [go_sem,aV,AV.wf,a7,WA,VZ,VO,hw]) ?_;simp only [Tryz.ntmps63,Tryz.results63,UD,Ux,Nat.reduceAdd,Nat.reduceSub,List.replicate_succ,List.replicate_zero,WE,Wt])
 (refine bq ?_;intro K hK K hK)
 refine ab.one C ?_
 (revert K;revert K;refine bq ?_)
 rw [zf]
theorem H9 (last:List Nat) (n:Nat) (hl:last.length<=1000000):ar Tryz.prog 60 [.v (.int .i64 n), .vp [.aC 1 (aI last) last.length]] (.v (.bool (last.contains n))):=by
 have C:=yO last n hl;refine gE Tryz.func60 Tryz.ntmps60 Tryz.results60 ?_
 (refine bq ?_;intro K hK K hK)
 refine ab.one C ?_
 (revert K;revert K;exact vn)
def Ga (l:List ByteArray):List (List AV):=bY (l.zipIdx)
theorem Dp (l:List ByteArray):(Ga l).length=l.length:=by simp [Ga,bY]
theorem zB (l:List ByteArray) (s:ByteArray): ∀k,look (l.zipIdx k) s=(pos l s).map (fun i=>i+k):=by
 induction l with
 | nil=>intro k;simp [look,pos]
 | cons a l ih=>
  intro k;rw [List.zipIdx_cons]
  have:=ih (k+1)
  simp only [look,pos,List.find?_cons,List.findIdx?_cons] at this ⊢
  cases h:cw s a
  ·simp only [Bool.false_eq_true,if_false];rw [this,Option.map_map]
   congr 1;funext i;simp;omega
  ·simp
theorem Gy (s:ByteArray) (l:List ByteArray):oL .string (.string s) (Ga l)=some ((pos l s).map (fun n=> .v (.int .i64 (n:Nat)))):=by
 rw [Ga,wI,zB,Option.map_map];rfl
theorem Ii (l:List ByteArray) (s:ByteArray):Ga (l++[s])=bY (l.zipIdx++[(s,l.length)]):=by rw [Ga,List.zipIdx_append];simp
theorem GA (s:ByteArray) (l:List ByteArray) (h:pos l s=none):pS .string (.string s) (.v (.int .i64 (l.length:Nat))) (Ga l)=some (Ga (l++[s])):=by
 rw [Ga,pT s l.length _ (by rw [zB,h];rfl),Ii]
@[go_sem] theorem S4 (n:Nat) (l:List ByteArray):bw n (Ga l)=true:=pG n _
mutual
theorem qt {f:Nat->Nat} {m:Nat} (hf: ∀k,k<m->f k=k): ∀a:AV,a.wf m=true->a.bb f=a
 | .undef,_=>rfl
 | .v _,_=>rfl
 | .agg cs,h=>by rw [AV.bb,gU hf cs h]
 | .cI cs,h=>by rw [AV.bb,gU hf cs h]
 | .aC z rows len,h=>by rw [AV.bb,rG hf rows h]
 | .vp cs,h=>by rw [AV.bb,gU hf cs h]
 | .ptr id _ _ _ _,h=>by simp [AV.wf] at h;rw [AV.bb,hf id h]
 | .vec id _,h=>by simp [AV.wf] at h;rw [AV.bb,hf id h]
 | .fn g a b,h=>by
  simp only [AV.wf,Vj] at h;rw [AV.bb,gU hf a h.1,gU hf b h.2]
 | .full a,h=>by rw [AV.bb,qt hf a h]
 | .j9 p a,h=>by rw [AV.bb,qt hf a h]
 | .mp rows,h=>by rw [AV.bb,rG hf rows h]
theorem gU {f:Nat->Nat} {m:Nat} (hf: ∀k,k<m->f k=k): ∀l:List AV,aV m l=true->bM f l=l
 | [],_=>rfl
 | a :: l,h=>by
  simp only [aV,Vj] at h;rw [bM,qt hf a h.1,gU hf l h.2]
theorem rG {f:Nat->Nat} {m:Nat} (hf: ∀k,k<m->f k=k): ∀l:List (List AV),bw m l=true->cv f l=l
 | [],_=>rfl
 | a :: l,h=>by
  simp only [bw,Vj] at h;rw [cv,gU hf a h.1,rG hf l h.2]
end
theorem qj {f:Nat->Nat} {m:Nat} (hf: ∀k,k<m->f k=k): ∀l:List (Option aa),(∀ob,some ob∈l->bw m ob.rows=true)->l.map (Option.map (aa.bb f))=l
 | [],_=>rfl
 | none :: l,h=>by rw [List.map_cons,qj hf l (fun ob hb=>h ob (Vv _ hb))];rfl
 | some ob :: l,h=>by
  rw [List.map_cons,qj hf l (fun ob hb=>h ob (Vv _ hb)),Option.map_some,aa.bb,rG hf _ (h ob List.mem_cons_self)]
theorem pg (f:Nat->Nat): ∀(l X pre post:List (Option aa)),l.length=X.length->ej f (List.range' pre.length l.length) l (pre++X++post)=pre++l.map (Option.map (aa.bb f))++post
 | [],[],pre,post,_=>by simp [ej]
 | [],_ :: _,_,_,h=>by simp at h
 | _ :: _,[],_,_,h=>by simp at h
 | a :: l,b :: X,pre,post,h=>by
  rw [UD,List.range'_succ,ej]
  have e1:(pre++b :: X++post).set pre.length (a.map (aa.bb f))=(pre++[a.map (aa.bb f)])++X++post:=by
   rw [List.append_assoc,WR _ _ (Nat.le_refl _),VD,WE,List.set_cons_zero];simp
  rw [e1]
  have:=pg f l X (pre++[a.map (aa.bb f)]) post (by simpa using h)
  rw [List.length_append,List.length_singleton] at this;rw [this];simp
theorem ab.sub {P:Program} {f:FuncId} {args:List AV} {o0 o1 post:List (Option aa)} {r0:AV} {K:AV->List (Option aa)->Prop} (h:c7 P f args o0 r0 o1) (hl:o1.length=o0.length)
  (hwa:aV o0.length args=true) (hw0: ∀ob,some ob∈o0->bw o0.length ob.rows=true) (hw1: ∀ob,some ob∈o1->bw o0.length ob.rows=true) (hr:r0.wf o0.length=true) (k:K r0 (o1++post)):ab P f args (o0++post) K:=by
 have hs: ∀j,j<o0.length->sig (List.range' 0 o0.length) (o0++post).length j=j:=fun j hj=>by
  rw [sig,if_pos (by simpa using hj),Vq,WS hj];simp
 refine ab.fr (List.range' 0 o0.length) h List.nodup_range' ?_ (gU hs _ hwa).symm (by rw [WT];exact hwa) (fun j ob hj=>by rw [WT];exact hw0 ob (U7 hj)) ?_
 ·have e:o0.map (fun x=>some (x.map (aa.bb (sig (List.range' 0 o0.length) (o0++post).length))))=o0.map some:=by
   have h1:o0.map some=(o0.map (Option.map (aa.bb (sig (List.range' 0 o0.length) (o0++post).length)))).map some:=by rw [qj hs o0 hw0]
   rw [h1,List.map_map];rfl
  rw [e];refine WU (by simp) fun j h1 h2=> ?_
  have hj:j<o0.length:=by simpa using h2
  simp only [Wp,List.getElem_range',Nat.zero_add,Nat.one_mul];rw [Uz hj,UM hj]
 ·have e:=pg (sig (List.range' 0 o0.length) (o0++post).length) o1 o0 [] post hl;rw [Ux,hl,Wt,Wt] at e;rw [e,qt hs r0 hr,qj hs o1 hw1];exact k
theorem dL.sub {P:Program} {f:FuncId} {args:List AV} {o0 o1 post:List (Option aa)} {r0:AV} {K:AV->List (Option aa)->Prop} (h:c7 P f args o0 r0 o1) (hl:o1.length=o0.length)
  (hwa:aV o0.length args=true) (hw0: ∀ob,some ob∈o0->bw o0.length ob.rows=true) (hw1: ∀ob,some ob∈o1->bw o0.length ob.rows=true) (hr:r0.wf o0.length=true) (k:K r0 (o1++post)):dL P f args (o0++post) K:=by
 have hs: ∀j,j<o0.length->sig (List.range' 0 o0.length) (o0++post).length j=j:=fun j hj=>by
  rw [sig,if_pos (by simpa using hj),Vq,WS hj];simp
 refine dL.fr (List.range' 0 o0.length) h List.nodup_range' ?_ (gU hs _ hwa).symm (by rw [WT];exact hwa) (fun j ob hj=>by rw [WT];exact hw0 ob (U7 hj)) ?_
 ·have e:o0.map (fun x=>some (x.map (aa.bb (sig (List.range' 0 o0.length) (o0++post).length))))=o0.map some:=by
   have h1:o0.map some=(o0.map (Option.map (aa.bb (sig (List.range' 0 o0.length) (o0++post).length)))).map some:=by rw [qj hs o0 hw0]
   rw [h1,List.map_map];rfl
  rw [e];refine WU (by simp) fun j h1 h2=> ?_
  have hj:j<o0.length:=by simpa using h2
  simp only [Wp,List.getElem_range',Nat.zero_add,Nat.one_mul];rw [Uz hj,UM hj]
 ·have e:=pg (sig (List.range' 0 o0.length) (o0++post).length) o1 o0 [] post hl;rw [Ux,hl,Wt,Wt] at e;rw [e,qt hs r0 hr,qj hs o1 hw1];exact k
section
variable {D:Nat->Prop} {nu:Nat->Nat->Value} {o:List (Option aa)} {w:World} {P:Program}
theorem dz {s:AS} {k i j id len:Nat} {ob ob2:aa} {row:List AV} (hne:id≠k) (hk:s.o[k]? = some (some ob)) (hz:0<ob.z) (hr:ob.rows[i]? = some row) (hj:row[j]? = some (.vec id len)) (ho:s.o[id]? = some (some ob2)) (hv:ob2.fY=true) (hl:ob2.rows.length=len) :
  yq s (AS.mk s.t ((s.o.set id none).set k (some { ob with rows:=ob.rows.set i (row.set j (.aC ob2.z ob2.rows len)) })) s.y):=by
 intro f D nu a w hs;have hp:=cV (nu:=nu) (o:=s.o) (w:=w) id;have hro:=kY hs.ro id
 have hk':(s.o.set id none)[k]? = some (some ob):=by rw [UT hne];exact hk
 have hh:ob.hl=({ ob with rows:=ob.rows.set i (row.set j (.aC ob2.z ob2.rows len)) }:aa).hl:=by simp [aa.hl]
 obtain ⟨g,cur,hb⟩: ∃g cur,yn D nu (s.o.set id none) w k ob g cur:=by
  rcases hro.obj k ob hk' with ⟨_,e,_⟩|h|⟨g,es,cl,hm⟩
  ·rw [e] at hr;simp at hr
  ·exact h
  ·have:=hm.z;omega
 have hm:=kJ (nu:=nu) (o:=s.o.set id none) (w:=w) (w':=w) (ob':={ ob with rows:=ob.rows.set i (row.set j (.aC ob2.z ob2.rows len)) }) hk' hh.symm hb.bA rfl rfl rfl rfl (fun _ _=>rfl);refine ⟨nu,hp.trans hm,rfl, ?_,(hs.tm.mono hp (fun _ _ h=>h)).mono hm (fun _ _ h=>h),hs.js⟩;have hil:=(Uy.1 hr).1;have hjl:=(Uy.1 hj).1;have hsl:=lx hs.ro ho hv;rw [hl] at hsl
 have key: ∀(i' j':Nat) r c,(ob.rows.set i (row.set j (.aC ob2.z ob2.rows len)))[i']? = some r->r[j']? = some c-> ∃r0 c0,ob.rows[i']? = some r0∧r0[j']? = some c0∧(c=c0∨(c = .aC ob2.z ob2.rows len∧c0 = .vec id len)):=by
  intro i' j' r c h1 h2
  by_cases hi:i=i'
  ·subst hi;rw [UU hil] at h1;cases h1
   by_cases hj':j=j'
   ·subst hj';rw [UU hjl] at h2;cases h2;exact ⟨row,_,hr,hj, .inr ⟨rfl,rfl⟩⟩
   ·rw [UT hj'] at h2;exact ⟨row,c,hr,h2, .inl rfl⟩
  ·rw [UT hi] at h1;exact ⟨r,c,h1,h2, .inl rfl⟩
 refine tW hro hk' hh.symm hb.bA hm (fun _ _=>rfl) (cur:=cur) ⟨hb.ew,hb.nj,fun hv'=> ?_,fun hv'=> ?_,hb.z,fun i' r hi'=> ?_,fun i' j' r c x h1 h2 h3=> ?_,fun i' j' r c x h1 h2 h3=> ?_⟩
 ·obtain ⟨q1,q2,q3⟩:=hb.box hv';exact ⟨q1,by simpa using q2,q3⟩
 ·obtain ⟨cap,q1,q2,q3,q4⟩:=hb.vec hv';exact ⟨cap,by simpa using q1,by simpa using q2,q3,q4⟩
 ·by_cases hi:i=i'
  ·subst hi;rw [UU hil] at hi';cases hi';rw [List.length_set];exact hb.row i row hr
  ·rw [UT hi] at hi';exact hb.row i' r hi'
 ·obtain ⟨r0,c0,k1,k2,e⟩:=key i' j' r c h1 h2;have h0:=hb.cell i' j' r0 c0 x k1 k2 h3
  rcases e with rfl|⟨rfl,rfl⟩
  ·exact h0.mono hm (fun _ _ h=>h)
  ·have hx:x=nu id len:=by
    cases h0 with
    | vec=>rfl
   rw [hx];exact hsl.mono hm (fun _ _ h=>h)
 ·obtain ⟨r0,c0,k1,k2,_⟩:=key i' j' r c h1 h2;exact hb.one i' j' r0 c0 x k1 k2 h3
end
section
variable {o:List (Option aa)}
theorem oH.Mk {id len:Nat} {ob:aa} (ho:o[id]? = some (some ob)) (hv:ob.fY=true) (hl:ob.rows.length=len) {rows':List (List AV)} (hlen:rows'.length=ob.rows.length)
  (hr: ∀(i:Nat) row row',ob.rows[i]? = some row->rows'[i]? = some row'->row'.length=row.length∧ ∀(j:Nat) c c',row[j]? = some c->row'[j]? = some c'->oH o c c'):oH o (.vec id len) (.aC ob.z rows' len):=fun D nu w x hro hra=>by
 have hx:x=nu id len:=by
  cases hra with
  | vec=>rfl
 subst hx;subst hl
 have get: ∀(i:Nat) row',rows'[i]? = some row'-> ∃row,ob.rows[i]? = some row∧row'.length=row.length∧ ∀(j:Nat) c',row'[j]? = some c'-> ∃c,row[j]? = some c∧oH o c c':=fun i row' h=>by
  have hi:i<ob.rows.length:=by rw [<-hlen];exact (Uy.1 h).1
  obtain ⟨h1,h2⟩:=hr i _ row' (UM hi) h;refine ⟨_,UM hi,h1,fun j c' hc=> ?_⟩
  have hj:j<ob.rows[i].length:=by rw [<-h1];exact (Uy.1 hc).1
  exact ⟨_,UM hj,h2 j _ c' (UM hj) hc⟩
 rcases hro.obj id ob ho with ⟨e1,e2,e3⟩|⟨g,cur,hb⟩|⟨g,es,cl,hmp⟩
 rotate_left 2
 ·rw [hmp.fY] at hv;cases hv
 ·rw [e2] at hlen ⊢;obtain rfl:=List.eq_nil_of_length_eq_zero hlen;simp only [Ux];rw [e3];exact .bp _
 ·obtain ⟨cap,q1,q2,q3,q4⟩:=hb.vec hv;have hown:owned nu o g:=⟨id,ob,ho,hb.bA⟩;rw [q1]
  have hget: ∀(i j:Nat) row c,ob.rows[i]? = some row->row[j]? = some c->cur[i * ob.z+j]? = some (cur.getD (i * ob.z+j) Go.undef):=fun i j row c k1 k2=>by
   have:=hb.oV k1 (Uy.1 k2).1
   simp [Array.getD,this]
  refine .aC _ _ _ g 0 cap (fun i j=>cur.getD (i * ob.z+j) Go.undef) (by omega) (by omega) q3 (fun _=>⟨(Uw.1 hb.ew).1,bd _ _,hown⟩) (fun i row' k1=> ?_) (fun i j row' c' k1 k2=> ?_) (fun i j row' c' k1 k2=> ?_) (fun i j row' c' k1 k2=> ?_)
  ·obtain ⟨row,r1,r2,_⟩:=get i row' k1;rw [r2];exact hb.row i row r1
  all_goals
   obtain ⟨row,r1,r2,r3⟩:=get i row' k1;obtain ⟨c,r4,r5⟩:=r3 j c' k2
  ·rw [<-hget i j row c r1 r4]
   have:=hb.ew
   simp [World.cell?,this]
  ·exact r5 D nu w _ hro (hb.cell i j row c _ r1 r4 (hget i j row c r1 r4))
  ·exact hb.one i j row c _ r1 r4 (hget i j row c r1 r4)
end
def cM (N:Nat) (g:Nat->Bool):List (List AV):=(List.range N).map (fun j=>[.v (.bool (g j))])
def j8 (N:Nat) (f:Nat->Nat->Bool):List (List AV):=(List.range N).map (fun i=>[.aC 1 (cM N (f i)) N])
def j5 (k i:Nat):Nat:=k+1+2 * i
def aX (k N m:Nat):List (List AV):=(List.range m).map (fun i=>[.vec (j5 k i) N])
def jA (N:Nat) (g:Nat->Bool):Option aa:=some ⟨4,1,true,cM N g⟩
def aT (N:Nat) (f:Nat->Nat->Bool) (m:Nat):List (Option aa):=(List.range m).flatMap (fun i=>[jA N (f i),none])
def bN (k N m:Nat) (f:Nat->Nat->Bool):List (Option aa):=some ⟨54,1,true,aX k N m⟩ :: aT N f m
theorem iZ (N:Nat) (g:Nat->Bool):(cM N g).length=N:=by simp [cM]
theorem ry (N:Nat) (f:Nat->Nat->Bool):(j8 N f).length=N:=by simp [j8]
theorem cH (k N m:Nat):(aX k N m).length=m:=by simp [aX]
theorem ag (N:Nat) (f:Nat->Nat->Bool) (m:Nat):(aT N f m).length=2 * m:=by
 induction m with
 | zero=>rfl
 | succ m ih=>rw [aT,WV,List.flatMap_append,List.length_append, <- aT,ih];simp;omega
theorem dP (N:Nat) (f:Nat->Nat->Bool) (m:Nat):aT N f (m+1)=aT N f m++[jA N (f m),none]:=by
 rw [aT,WV,List.flatMap_append, <- aT];simp
theorem dn (k N m:Nat):aX k N (m+1)=aX k N m++[[.vec (j5 k m) N]]:=by rw [aX,WV,List.map_append];rfl
theorem cR {N j:Nat} {g:Nat->Bool} (h:j<N):(cM N g).getD j []=[.v (.bool (g j))]:=by
 rw [Vq,cM,UP,UQ h];rfl
theorem qi {N i:Nat} {f:Nat->Nat->Bool} (h:i<N):(j8 N f).getD i []=[.aC 1 (cM N (f i)) N]:=by
 rw [Vq,j8,UP,UQ h];rfl
theorem jx {k N m i:Nat} (h:i<m):(aX k N m).getD i []=[.vec (j5 k i) N]:=by
 rw [Vq,aX,UP,UQ h];rfl
theorem lq {N:Nat} {g h:Nat->Bool} (e: ∀j,j<N->g j=h j):cM N g=cM N h:=by
 refine WW fun j hj=> ?_;rw [e j (VI.1 hj)]
theorem NY {N:Nat} {g h:Nat->Nat->Bool} (e: ∀i j,i<N->j<N->g i j=h i j):j8 N g=j8 N h:=by
 refine WW fun i hi=> ?_;rw [lq (fun j hj=>e i j (VI.1 hi) hj)]
theorem e8 {N m:Nat} {g h:Nat->Nat->Bool} (e: ∀i j,i<m->j<N->g i j=h i j):aT N g m=aT N h m:=by
 rw [aT,aT,List.flatMap_def,List.flatMap_def]
 congr 1
 refine WW fun i hi=> ?_;rw [jA,jA,lq (fun j hj=>e i j (VI.1 hi) hj)]
theorem jj (N:Nat):List.replicate N [AV.v (.bool false)]=cM N (fun _=>false):=by
 refine WU (by simp [cM]) fun i h1 h2=>by simp [cM]
theorem qd {N:Nat} {f:Nat->Nat->Bool}: ∀ {m i:Nat},i<m->(aT N f m)[2 * i]? = some (jA N (f i))
 | 0,_,h=>by omega
 | m+1,i,h=>by
  rw [dP]
  by_cases hi:i<m
  ·rw [Uz (by rw [ag];omega)];exact qd hi
  ·obtain rfl:i=m:=by omega
   rw [List.getElem?_append_right (by rw [ag];omega),ag,VD];rfl
theorem kD {k N m i:Nat} {f:Nat->Nat->Bool} {x:Option aa} (h:i<m):(x :: aT N f m)[j5 0 i]? = some (jA N (f i)):=by
 rw [show j5 0 i=2 * i+1 by unfold j5;omega,List.getElem?_cons_succ];exact qd h
def lv (f:Nat->Nat->Bool) (i j:Nat) (v:Bool):Nat->Nat->Bool:=fun p q=>if p=i∧q=j then v else f p q
theorem py {N j:Nat} {g:Nat->Bool} {v:Bool}:(cM N g).set j [.v (.bool v)]=cM N (fun q=>if q=j then v else g q):=by
 refine WU (by simp [cM]) fun q h1 h2=> ?_;rw [List.getElem_set];simp only [cM,Wp,List.getElem_range]
 split
 ·rename_i e;subst e;rw [if_pos rfl]
 ·rename_i e;rw [if_neg (fun e'=>e e'.symm)]
theorem vr {N:Nat} {f:Nat->Nat->Bool} {j:Nat} {v:Bool}: ∀ {m i:Nat},i<m->(aT N f m).set (2 * i) (some ⟨4,1,true,(cM N (f i)).set j [.v (.bool v)]⟩)=aT N (lv f i j v) m
 | 0,_,h=>by omega
 | m+1,i,h=>by
  rw [dP,dP]
  by_cases hi:i<m
  ·have e:jA N (lv f i j v m)=jA N (f m):=by
    rw [jA,jA,lq (fun q _=>by rw [lv,if_neg (by omega)])]
   rw [List.set_append_left _ _ (by rw [ag];omega),vr hi,e]
  ·obtain rfl:i=m:=by omega
   rw [WR _ _ (by rw [ag];omega),ag,VD,List.set_cons_zero];rw [e8 (g:=lv f i j v) (h:=f) (fun p q hp _=>by rw [lv,if_neg (by omega)])]
   congr 2
   rw [jA,py]
   congr 2
   refine lq fun q _=> ?_;rw [lv]
   by_cases hq:q=j
   ·rw [if_pos hq,if_pos ⟨rfl,hq⟩]
   ·rw [if_neg hq,if_neg (fun e=>hq e.2)]
theorem ml {N m i j:Nat} {f:Nat->Nat->Bool} {v:Bool} {x:Option aa} (h:i<m):(x :: aT N f m).set (j5 0 i) (some ⟨4,1,true,(cM N (f i)).set j [.v (.bool v)]⟩)=x :: aT N (lv f i j v) m:=by
 rw [show j5 0 i=2 * i+1 by unfold j5;omega,List.set_cons_succ,vr h]
theorem aS (n N:Nat) (g:Nat->Bool):bw n (cM N g)=true:=bB _ (fun _=>rfl) _
theorem er (n N:Nat) (f:Nat->Nat->Bool):bw n (j8 N f)=true:=bB _ (fun i=>by simp only [aV,AV.wf,aS,WA]) _
attribute [go_sem] aS er iZ ry cH
theorem Ax (n:Nat): ∀(a:List (List AV)) (b:List AV),bw n (a++[b])=(bw n a&&aV n b)
 | [],b=>by simp [bw]
 | x :: a,b=>by simp only [WE,bw,Ax n a b,Bool.and_assoc]
theorem jC {n k N:Nat}: ∀ {m:Nat},k+2 * m<=n->bw n (aX k N m)=true
 | 0,_=>rfl
 | m+1,h=>by
  rw [dn,Ax,jC (by omega)]
  have hr:j5 k m<n:=by unfold j5;omega
  simp [bw,aV,AV.wf,hr]
theorem o9 (N:Nat) (f:Nat->Nat->Bool):oH (bN 0 N N f) (.vec 0 N) (.aC 1 (j8 N f) N):=by
 refine oH.Mk (ob:=⟨54,1,true,aX 0 N N⟩) rfl rfl (cH _ _ _) (by rw [ry];exact (cH _ _ _).symm) fun i row row' h1 h2=> ?_
 have hi:i<N:=by have:=(Uy.1 h1).1;rw [cH] at this;exact this
 have e1:(aX 0 N N)[i]? = some [.vec (j5 0 i) N]:=by rw [aX,UP,UQ hi];rfl
 have e2:(j8 N f)[i]? = some [.aC 1 (cM N (f i)) N]:=by rw [j8,UP,UQ hi];rfl
 cases (Us (e1.symm.trans h1));cases (Us (e2.symm.trans h2));refine ⟨rfl,fun j c c' k1 k2=> ?_⟩
 match j,k1,k2 with
 | 0,k1,k2=>
  cases k1;cases k2;exact oH.vec (ob:=⟨4,1,true,cM N (f i)⟩) (kD (k:=0) hi) rfl (iZ _ _) (vM _ (fun s c hc=>by rw [List.mem_singleton] at hc;exact ⟨_,hc⟩) _)
 | j+1,k1,k2=>simp at k1
end
section
section
variable {o:List (Option aa)} {P:Program}
theorem bK.v (x:Value):bK o (.v x) (.v x):=fun D nu w y hro hra=>by rw [hra.cU];exact .v x
theorem bK.cI {l m:List AV} (h:AU o l m):bK o (.cI l) (.cI m):=fun D nu w x hro hra=>by
 obtain ⟨h1,h2⟩:=h.at'
 cases hra with
 | cI _ xs k1 k2=>
  refine .cI _ _ (by omega) fun i c y q1 q2=> ?_
  have hi:i<l.length:=by rw [h1];exact (Uy.1 q1).1
  exact h2 i _ c (UM hi) q1 D nu w y hro (k2 i _ y (UM hi) q2)
theorem bK.ptr {id z:Nat} {ob:aa} {row cs:List AV} (ho:o[id]? = some (some ob)) (hv:ob.fY=false) (hr:ob.rows=[row]) (hz:ob.z≠0) (h:AU o row cs):bK o (.ptr id 0 z 0 0) (.vp cs):=fun D nu w x hro hra=>by
 obtain ⟨hl,hall⟩:=h.at'
 cases hra with
 | ptr _ _ _ _ _ b h1 h2=>
 rcases hro.obj id ob ho with ⟨e1,e2,e3⟩|⟨g,cur,hb⟩|⟨g,es,cl,hmp⟩
 ·rw [e2] at hr;cases hr
 ·have hb0:=hb.oR;rw [aa.hl,hv,if_neg (by decide)] at hb0;rw [hb0] at h2;cases h2
  have hrow:ob.rows[0]? = some row:=by rw [hr];rfl
  have hget: ∀(j:Nat) c,cs[j]? = some c-> ∃c0,row[j]? = some c0∧cur[0 * ob.z+j]? = some (cur.getD (0 * ob.z+j) Go.undef):=fun j c hc=>by
   have hj:j<row.length:=by rw [hl];exact (Uy.1 hc).1
   have:=hb.oV hrow hj
   refine ⟨_,UM hj, ?_⟩;rw [UL this,Array.getD,dif_pos this]
   rfl
  refine .vp _ b _ (fun j=>cur.getD (0 * ob.z+j) Go.undef) ⟨(Uw.1 hb.ew).1,bd _ _,hb.nj⟩ (fun j c hc=> ?_) (fun j c hc=> ?_) (fun j c hc=> ?_)
  all_goals obtain ⟨c0,k1,k2⟩:=hget j c hc
  ·have hblk:=hb.ew;simp only [Nat.zero_mul,Nat.zero_add] at k2 ⊢;rw [<-k2];simp [World.cell?,hblk]
  ·exact hall j c0 c k1 hc D nu w _ hro (hb.cell 0 j row c0 _ hrow k1 k2)
  ·exact hb.one 0 j row c0 _ hrow k1 k2
 ·exact absurd hmp.z hz
theorem bK.Mk {id len:Nat} {ob:aa} (ho:o[id]? = some (some ob)) (hv:ob.fY=true) (hl:ob.rows.length=len) {rows':List (List AV)} (hlen:rows'.length=ob.rows.length)
  (hr: ∀(i:Nat) row row',ob.rows[i]? = some row->rows'[i]? = some row'->AU o row row'):bK o (.vec id len) (.aC ob.z rows' len):=fun D nu w x hro hra=>by
 have hx:x=nu id len:=by
  cases hra with
  | vec=>rfl
 subst hx;subst hl
 have get: ∀(i:Nat) row',rows'[i]? = some row'-> ∃row,ob.rows[i]? = some row∧row'.length=row.length∧ ∀(j:Nat) c',row'[j]? = some c'-> ∃c,row[j]? = some c∧bK o c c':=fun i row' h=>by
  have hi:i<ob.rows.length:=by rw [<-hlen];exact (Uy.1 h).1
  obtain ⟨h1,h2⟩:=(hr i _ row' (UM hi) h).at';refine ⟨_,UM hi,h1.symm,fun j c' hc=> ?_⟩
  have hj:j<ob.rows[i].length:=by rw [h1];exact (Uy.1 hc).1
  exact ⟨_,UM hj,h2 j _ c' (UM hj) hc⟩
 rcases hro.obj id ob ho with ⟨e1,e2,e3⟩|⟨g,cur,hb⟩|⟨g,es,cl,hmp⟩
 rotate_left 2
 ·rw [hmp.fY] at hv;cases hv
 ·rw [e2] at hlen ⊢;obtain rfl:=List.eq_nil_of_length_eq_zero hlen;simp only [List.length_nil];rw [e3];exact .bp _
 ·obtain ⟨cap,q1,q2,q3,q4⟩:=hb.vec hv;rw [q1]
  have hget: ∀(i j:Nat) row c,ob.rows[i]? = some row->row[j]? = some c->cur[i * ob.z+j]? = some (cur.getD (i * ob.z+j) Go.undef):=fun i j row c k1 k2=>by
   have:=hb.oV k1 (Uy.1 k2).1
   simp [Array.getD,this]
  refine .aC _ _ _ g 0 cap (fun i j=>cur.getD (i * ob.z+j) Go.undef) (by omega) (by omega) q3 (fun _=>⟨(Uw.1 hb.ew).1,bd _ _,hb.nj⟩) (fun i row' k1=> ?_) (fun i j row' c' k1 k2=> ?_) (fun i j row' c' k1 k2=> ?_) (fun i j row' c' k1 k2=> ?_)
  ·obtain ⟨row,r1,r2,_⟩:=get i row' k1;rw [r2];exact hb.row i row r1
  all_goals
   obtain ⟨row,r1,r2,r3⟩:=get i row' k1;obtain ⟨c,r4,r5⟩:=r3 j c' k2
  ·rw [<-hget i j row c r1 r4]
   have:=hb.ew
   simp [World.cell?,this]
  ·exact r5 D nu w _ hro (hb.cell i j row c _ r1 r4 (hget i j row c r1 r4))
  ·exact hb.one i j row c _ r1 r4 (hget i j row c r1 r4)
theorem ar.mc {f:FuncId} {fn:Func} {c:Code} {args:List AV} {r:AV} (hf:P.funcs[f]? = some fn) (hb:fn.body=some c) (hc:eh P f=true) (hok:bR c=true) (hmx:P.follows .mixedOrders=true)
  (ha:aV 0 args=true) (hr:r.wf 0=true) (h:cj P 0 c ⟨args++List.replicate (fn.ntmps - args.length) .undef,[], .no⟩ (wi P fn.results.toList (fun r0 o=>bK o r0 r))):ar P f args r:=by
 obtain ⟨_,h2⟩:=gx.enter (o:=[]) hf hb hc hok hmx h;refine ⟨⟨ha,hr⟩,hc,fun D nu w vargs hro hra=>(h2 D nu w vargs hro hra).mono ?_⟩;rintro e w' ⟨v,nu',o',r0,rfl,hm,hro',hra',hz⟩;have hm':bG nu [] w nu' [] w':=⟨hm.os,hm.tape,hm.output,hm.size,fun id len hh=>by obtain ⟨x,k,_⟩:=hh;simp at k,fun b hb ho=>⟨(hm.keep b hb ho).1,bd _ _⟩⟩;exact ⟨v,nu',[],r,rfl,hm',(.nil _ _ _ hro'.up (hro'.gl.nil (fun _ _ h=>h))),hz _ _ _ _ hro' hra',rfl,rfl⟩
end
mutual
theorem xS {f g:Nat->Nat} {m:Nat} (hf: ∀k,k<m->f k=g k): ∀a:AV,a.wf m=true->a.bb f=a.bb g
 | .undef,_=>rfl
 | .v _,_=>rfl
 | .agg cs,h=>by rw [AV.bb,AV.bb,jS hf cs h]
 | .cI cs,h=>by rw [AV.bb,AV.bb,jS hf cs h]
 | .aC z rows len,h=>by rw [AV.bb,AV.bb,rF hf rows h]
 | .vp cs,h=>by rw [AV.bb,AV.bb,jS hf cs h]
 | .ptr id _ _ _ _,h=>by simp [AV.wf] at h;rw [AV.bb,AV.bb,hf id h]
 | .vec id _,h=>by simp [AV.wf] at h;rw [AV.bb,AV.bb,hf id h]
 | .fn g a b,h=>by
  simp only [AV.wf,Vj] at h;rw [AV.bb,AV.bb,jS hf a h.1,jS hf b h.2]
 | .full a,h=>by rw [AV.bb,AV.bb,xS hf a h]
 | .j9 p a,h=>by rw [AV.bb,AV.bb,xS hf a h]
 | .mp rows,h=>by rw [AV.bb,AV.bb,rF hf rows h]
theorem jS {f g:Nat->Nat} {m:Nat} (hf: ∀k,k<m->f k=g k): ∀l:List AV,aV m l=true->bM f l=bM g l
 | [],_=>rfl
 | a :: l,h=>by
  simp only [aV,Vj] at h;rw [bM,bM,xS hf a h.1,jS hf l h.2]
theorem rF {f g:Nat->Nat} {m:Nat} (hf: ∀k,k<m->f k=g k): ∀l:List (List AV),bw m l=true->cv f l=cv g l
 | [],_=>rfl
 | a :: l,h=>by
  simp only [bw,Vj] at h;rw [cv,cv,jS hf a h.1,rF hf l h.2]
end
theorem xM {f g:Nat->Nat} {m:Nat} (hf: ∀k,k<m->f k=g k): ∀l:List (Option aa),(∀ob,some ob∈l->bw m ob.rows=true)->l.map (Option.map (aa.bb f))=l.map (Option.map (aa.bb g))
 | [],_=>rfl
 | none :: l,h=>by rw [Wy,Wy,xM hf l (fun ob hb=>h ob (Vv _ hb))];rfl
 | some ob :: l,h=>by
  rw [Wy,Wy,xM hf l (fun ob hb=>h ob (Vv _ hb)),U5,U5,aa.bb,aa.bb,rF hf _ (h ob List.mem_cons_self)]
theorem ab.Sl {P:Program} {f:FuncId} {args0:List AV} {pre o0 o1 post:List (Option aa)} {r0:AV} {K:AV->List (Option aa)->Prop} (h:c7 P f args0 o0 r0 o1) (hl:o1.length=o0.length)
  (hwa:aV o0.length args0=true) (hw0: ∀ob,some ob∈o0->bw o0.length ob.rows=true) (hw1: ∀ob,some ob∈o1->bw o0.length ob.rows=true) (hr:r0.wf o0.length=true)
  (k:K (r0.bb (fun j=>pre.length+j)) (pre++o1.map (Option.map (aa.bb (fun j=>pre.length+j)))++post)):ab P f (bM (fun j=>pre.length+j) args0) (pre++o0.map (Option.map (aa.bb (fun j=>pre.length+j)))++post) K:=by
 have hs: ∀j,j<o0.length->sig (List.range' pre.length o0.length) (pre++o0.map (Option.map (aa.bb (fun j=>pre.length+j)))++post).length j=pre.length+j:=fun j hj=>by
  rw [sig,if_pos (by simpa using hj),List.getD_eq_getElem?_getD,List.getElem?_range' hj];simp
 refine ab.fr (List.range' pre.length o0.length) h List.nodup_range' ?_ (jS hs _ hwa).symm (by rw [List.length_range'];exact hwa) (fun j ob hj=>by rw [List.length_range'];exact hw0 ob (List.mem_of_getElem? hj)) ?_
 ·have e2:=xM hs o0 hw0
  have e3: ∀L:List (Option aa),pre++o0.map (Option.map (aa.bb (fun j=>pre.length+j)))++post=L->(List.range' pre.length o0.length).map (fun i=>L[i]?)=(o0.map (Option.map (aa.bb (fun j=>pre.length+j)))).map some:=by
   rintro L rfl;refine List.ext_getElem (by simp) fun j h1 h2=> ?_
   have hj:j<o0.length:=by simpa using h2
   simp only [List.getElem_map,List.getElem_range',Nat.one_mul];rw [List.append_assoc,List.getElem?_append_right (by omega),Nat.add_sub_cancel_left,List.getElem?_append_left (by simpa using hj),List.getElem?_map,UM hj,U5]
  rw [e3 _ rfl];refine (congrArg (List.map some) e2.symm).trans ?_;rw [List.map_map]
  rfl
 ·have e:=pg (sig (List.range' pre.length o0.length) (pre++o0.map (Option.map (aa.bb (fun j=>pre.length+j)))++post).length) o1 (o0.map (Option.map (aa.bb (fun j=>pre.length+j)))) pre post (by simpa using hl);rw [hl] at e;rw [e,xS hs r0 hr,xM hs o1 hw1];exact k
theorem bK.uK {o:List (Option aa)} {z len:Nat} {rows:List (List AV)} (h:bw 0 rows=true):bK o (.aC z rows len) (.aC z rows len):=bK.of 1 (p:=(AV.aC z rows len).wf 0=true) (by rw [gC]<;>simp) (by rw [AV.wf];exact h)
theorem bK.Au {o:List (Option aa)} {id len:Nat} {ob:aa} (ho:o[id]? = some (some ob)) (hv:ob.fY=true) (hl:ob.rows.length=len) (hw:bw 0 ob.rows=true):bK o (.vec id len) (.aC ob.z ob.rows len):=bK.of 1 (p:=ob.fY=true∧ob.rows.length=len∧bw 0 ob.rows=true) (by rw [gC,ho]) ⟨hv,hl,hw⟩
section
variable {P:Program}
theorem Eh {n0:Nat} {c:Code} {s:AS} {Q:aY->AS->Prop} (s0:AS) (hok:bR c=true) (h:cj P n0 c s (fun e s'=>e = .normal∧Wk n0 s' s0)) (k:Q .normal s0):D5 P n0 c s Q:=fun f m D nu a w hZr hn hm hs hmx R hO hR=>by
 refine ib hmx m hZr hn c hok s a w D nu f.Z _ R hO hm hs h ?_;rintro e D' Z' s' a' w' nu' h1 h2 ⟨rfl,hk⟩;refine hR .normal D' Z' s0 a' w' nu' ?_ (jf hk h2) k;rw [<-hk.y];exact m.step h1 h2.ro hk.tf (jf hk h2).ro (fun c v hr hc=>hk.ra hr hc) (fun _ h=> .inl h) (fun _ h=> .inl h) (fun b hb=>⟨((m.qX h1).1 b hb).1,((m.qX h1).1 b hb).2, .inl hb⟩) (Nat.le_trans hn hk.n)
theorem yF {n0 id:Nat} {s:AS} {ops:Array Oper} {d:Bool} {Q:aY->AS->Prop} (s0:AS) (hok:dw ops=true) (h:cj P n0 (.region id ops d) s (fun e s'=>e = .normal∧Wk n0 s' s0)) (k:Q .normal s0):cj P n0 (.region id ops d) s Q:=by
 have:=Eh (c:= .region id ops d) s0 hok h k
 cases d
 ·exact .inr this
 ·exact .inr this
theorem yG {n0:Nat} {x y:Code} {s:AS} {Q:aY->AS->Prop} (s0:AS) (hx:bR x=true) (hy:bR y=true) (h:cj P n0 x s (fun e s'=>e = .normal∧Wk n0 s' s0)) (k:cj P n0 y s0 Q):cj P n0 (.seq x y) s Q:= .inr (fun f m D nu a w hZr hn hm hs hmx R hO hR=>by
 refine wpIn_seq (ib hmx (f:=f) m hZr hn x hx s a w D nu f.Z _ _ (fun a w h=>hO a w h) hm hs h ?_);rintro e D' Z' s' a' w' nu' h1 h2 ⟨rfl,hk⟩;refine ib hmx (f:=f) m hZr hn y hy s0 a' w' D' nu' Z' Q R hO ?_ (jf hk h2) k hR;rw [<-hk.y]
 exact m.step h1 h2.ro hk.tf (jf hk h2).ro (fun c v hr hc=>hk.ra hr hc) (fun _ h=> .inl h) (fun _ h=> .inl h) (fun b hb=>⟨((m.qX h1).1 b hb).1,((m.qX h1).1 b hb).2, .inl hb⟩) (Nat.le_trans hn hk.n))
theorem Qv {n0 i:Nat} {ops:Array Oper} {d:Bool} {a b:Code} {s:AS} {Q:aY->AS->Prop} (h:cj P n0 (.seq (.seq (.region i ops d) a) b) s Q):cj P n0 (.seq (.seq (.region i ops d) a) b) s Q:=h
end
section
variable {P:Program} {ops:Array Oper}
def ic:List Oper->List Oper
 | []=>[]
 | o :: l=>o :: l.map (fun p=>{ p with after:=p.after.push ⟨0, .data⟩ })
theorem sg (l:List Oper):(ic l).length=l.length:=by cases l<;>simp [ic]
theorem oX (l:List Oper) (i:Nat):(ic l)[i]? = (l[i]?).map (fun p=>if i=0 then p else { p with after:=p.after.push ⟨0, .data⟩ }):=by
 cases l with
 | nil=>simp [ic]
 | cons o l=>
  cases i with
  | zero=>simp [ic]
  | succ i=>simp [ic]
theorem Bq (l:List Oper) (t:Array Value):yielded (ic l).toArray t=yielded l.toArray t:=by
 funext j
 simp only [yielded,UO,oX]
 cases l[j]? with
 | none=>rfl
 | some o=>by_cases h:j=0<;>simp only [U5,Option.bind_some,h,if_true,if_false]
theorem KQ {F:Fence} {n:Nat} {Q:Exit->Act->World->Prop} {l:List Oper} {i:Nat} {K:Act->World->Prop} {a:Act} {w:World} (h:wpOpIn F n P (ic l).toArray Q i K a w):wpOpIn F n P l.toArray Q i K a w:=by
 unfold wpOpIn at h ⊢;simp only [UO,oX,Bq] at h ⊢
 cases ho:l[i]? with
 | none=>simpa [ho] using h
 | some o=>
  simp only [ho,U5] at h ⊢
  split at h<;>exact h
theorem Db {F:Fence} {n:Nat} {Q:Exit->Act->World->Prop} {l:List Oper} {ops:Array Oper} {E:Act->World->Prop}: ∀(fuel:Nat) (listed:Array Bool) (a:Act) (w:World),nh (wpOpIn F n P (ic l).toArray Q) ops E fuel listed a w->nh (wpOpIn F n P l.toArray Q) ops E fuel listed a w
 | 0,_,_,_,h=>h
 | fuel+1,_,_,_,h=>⟨h.1,fun i hi=>KQ (wpOpIn_mono (fun _ _=>Db fuel _ _ _) (h.2 i hi))⟩
theorem sh {l:List Oper} {listed:Array Bool} (h0:listed.getD 0 false=true):Region.ready .any (ic l).toArray listed=Region.ready .any l.toArray listed:=by
 unfold Region.ready;simp only [UX,sg,UO,oX];refine List.filter_congr fun i _=> ?_
 congr 1
 cases l[i]? with
 | none=>rfl
 | some o=>
  simp only [U5,Option.getD_some]
  split
  ·rfl
  ·simp;intro _;right;simpa using h0
theorem yR {st:Nat->(Act->World->Prop)->Act->World->Prop} (hst: ∀(i:Nat) (K K':Act->World->Prop) (a:Act) (w:World),(∀a w,K a w->K' a w)->st i K a w->st i K' a w) {l:List Oper} {E:Act->World->Prop}: ∀(fuel:Nat) (listed:Array Bool) (a:Act) (w:World),listed.getD 0 false=true->nh st (ic l).toArray E fuel listed a w->nh st l.toArray E fuel listed a w
 | 0,listed,a,w,h0,h=>by
  rw [nh,sh h0] at h;exact h
 | fuel+1,listed,a,w,h0,h=>by
  rw [nh,sh h0] at h;refine ⟨h.1,fun i hi=>hst _ _ _ _ _ (fun a w=>yR hst fuel _ a w ?_) (h.2 i hi)⟩
  by_cases hi0:i=0
  ·subst hi0
   have:0<listed.size:=by
    rcases Nat.eq_zero_or_pos listed.size with q|q
    ·simp [q] at h0
    ·exact q
   simp [this]
  ·rw [getD_set_ne false hi0];exact h0
theorem ET {r:Option Nat} {n i:Nat} {o:Oper} {Q:Exit->Act->World->Prop} (hC:dw ops=true) (hns:Region.noSelect ops=true) (hP: ∀c a w, ¬Q (.panic c) a w) (ho:ops[i]? = some o) {d t:Tmp} {v:Value} {a:Act} {w:World} {K:Act->World->Prop} (hd:d∉o.looksAt ops) (hod:o.dst≠some d) (hot:o.dst≠some t) (h:wpOpIn (WF r) n P ops Q i K (a.put (some d) v) w) :
  wpOpIn (WF r) n P ops Q i (fun a' w'=>K (a'.put (some d) v) w'∧a'.eval (.tmp t)=a.eval (.tmp t)) a w:=by
 have hsel:=fun cs b=>Region.noSelect_spec hns i o cs b ho;have hput: ∀(a:Act) (u:Value),(a.put (some d) v).put o.dst u=(a.put o.dst u).put (some d) v:=fun a u=>Act.put_comm a v u (fun e he q=>hod (by rw [q,he]))
 have hev: ∀(a:Act) (u:Value),(a.put o.dst u).eval (.tmp t)=a.eval (.tmp t):=fun a u=>Act.eval_put fun e he hx=>hot (by
  rw [he];injection hx with hx;rw [hx])
 unfold wpOpIn at h ⊢;simp only [ho] at h ⊢;rw [wanted_put o a (some d) v (fun e he=>by injection he with he;exact he ▸ hd)] at h
 split at h
 ·rename_i hw;rw [if_pos hw];refine ⟨fun f _=>trivial, ?_⟩;have h:=h.2;rw [l8 hC ho,execOp_put o hsel a (some d) v (fun e he=>by injection he with he;exact he ▸ hd)] at h;rw [l8 hC ho];generalize (execOp a.eval o).run P w=res at h ⊢
  cases res with
  | ok x w'=>
   cases x<;>simp only [Oper.uponIn] at h ⊢
   case value=>exact ⟨hput _ _ ▸ h,hev _ _⟩
   case skip=>exact ⟨hput _ _ ▸ h,hev _ _⟩
   case enter=>
    refine ⟨h.1,CallsIn.mono h.2 fun e w'' he=> ?_⟩;cases e
    case returned=>exact ⟨hput _ _ ▸ he,hev _ _⟩
    case panicked=>exact absurd he (hP _ _ _)
    case outgrown=>exact he
   case defer q=>exact ⟨hput { a with defers:=q :: a.defers } undef ▸ h,hev { a with defers:=q :: a.defers } undef⟩
   case row=>exact ⟨h.1,RowsIn.mono h.2 fun _ _ he=>⟨hput _ _ ▸ he,hev _ _⟩⟩
   case round=>
    refine ⟨h.1,RoundIn.mono h.2 fun e w'' he=> ?_⟩;cases e
    case returned=>exact ⟨hput _ _ ▸ he,hev _ _⟩
    case panicked=>exact absurd he (hP _ _ _)
    case outgrown=>exact he
  | halt x w'=>
   cases x<;>simp only [Oper.uponIn] at h ⊢
   all_goals first|exact h|exact absurd h (hP _ _ _)
 ·rename_i hw;rw [if_neg hw];exact ⟨fun f _=>trivial,hput _ _ ▸ h.2,hev _ _⟩
def vD (ops:Array Oper) (d t:Tmp):Bool:=
 Region.noSelect ops&&dw ops&&(d !=t)&&(match ops[0]? with|some o=>(o.dst==some d)&&(match o.op with| .move (.tmp u)=>u==t|_=>false)&&o.guard.isNone&&(o.after.size==0)|none=>false) &&
 (List.range ops.size).all (fun j=>j==0||match ops[j]? with|some o=>(o.dst !=some d)&&(o.dst !=some t)&&(aE ops j 0 || !(o.looksAt ops).contains d)|none=>true)
theorem zt {r:Option Nat} {n:Nat} {Q:Exit->Act->World->Prop} {d t:Tmp} (hL:vD ops d t=true):0<ops.size∧(∀(l:List Oper) (listed:Array Bool),l.toArray=ops->listed.getD 0 true=false->0∈Region.ready .any (ic l).toArray listed)∧(∀(listed:Array Bool),listed.getD 0 true=false->0∈Region.ready .any ops listed)∧ ∀(K:Act->World->Prop) a w,wpOpIn (WF r) n P ops Q 0 K a w↔K (a.put (some d) (a.eval (.tmp t))) w:=by
 simp only [vD,Vj,List.all_eq_true,List.mem_range,bne_iff_ne] at hL;obtain ⟨⟨⟨⟨hns,hC⟩,hdt⟩,h0⟩,hall⟩:=hL
 obtain ⟨o0,ho0,hdst,hop,hg,haf⟩: ∃o0:Oper,ops[0]? = some o0∧o0.dst=some d∧o0.op = .move (.tmp t)∧o0.guard=none∧o0.after = #[]:=by
  cases ho:ops[0]? with
  | none=>simp [ho] at h0
  | some o=>
   simp only [ho,Vj,beq_iff_eq] at h0;refine ⟨o,rfl,h0.1.1.1, ?_,by simpa using h0.1.2,by simpa using h0.2⟩
   have:=h0.1.1.2
   split at this
   ·rename_i u hu;rw [hu];simp at this;rw [this]
   ·cases this
 have h0s:0<ops.size:=by
  rcases Nat.eq_zero_or_pos ops.size with q|q
  ·rw [Array.getElem?_eq_none (by omega)] at ho0;cases ho0
  ·exact q
 refine ⟨h0s,fun l listed hl' hl=>mem_ready.2 ⟨hl,o0,by subst hl';simp only [UO] at ho0;simp [oX,ho0],fun e he _=>by rw [haf] at he;simp at he⟩,fun listed hl=>mem_ready.2 ⟨hl,o0,ho0,fun e he _=>by rw [haf] at he;simp at he⟩, ?_⟩
 ·intro K a w;unfold wpOpIn;simp only [ho0];rw [if_pos (by simp [Region.wanted,hg])];unfold Oper.wpIn;rw [l8 hC ho0]
  have:(execOp a.eval o0).run P w = .ok (.value (a.eval (.tmp t))) w:=by unfold execOp;rw [hop];rfl
  rw [this];simp only [Oper.uponIn,hdst];exact ⟨fun h=>h.2,fun h=>⟨fun f _=>trivial,h⟩⟩
theorem BS {r:Option Nat} {n:Nat} {Q:Exit->Act->World->Prop} {E:Act->World->Prop} {d t:Tmp} (hL:vD ops d t=true) (hP: ∀c a w, ¬Q (.panic c) a w): ∀(fuel:Nat) (listed:Array Bool) (a:Act) (w:World),listed.size=ops.size->listed.getD 0 true=false->nh (wpOpIn (WF r) n P ops Q) ops E fuel (listed.setIfInBounds 0 true) (a.put (some d) (a.eval (.tmp t))) w->nh (wpOpIn (WF r) n P ops Q) ops E (fuel+1) listed a w:=by
 obtain ⟨h0s, -,hread,hrun⟩:=zt (P:=P) (Q:=Q) (r:=r) (n:=n) hL;simp only [vD,Vj,List.all_eq_true,List.mem_range,bne_iff_ne] at hL;obtain ⟨⟨⟨⟨hns,hC⟩,hdt⟩,h0⟩,hall⟩:=hL
 have hstep: ∀(listed:Array Bool),listed.size=ops.size->listed.getD 0 true=false-> ∀i∈Region.ready .any ops listed,i≠0->i∈Region.ready .any ops (listed.setIfInBounds 0 true)∧ ∀(K:Act->World->Prop) v a w,wpOpIn (WF r) n P ops Q i K (a.put (some d) v) w->wpOpIn (WF r) n P ops Q i (fun a' w'=>K (a'.put (some d) v) w'∧a'.eval (.tmp t)=a.eval (.tmp t)) a w:=by
  intro listed hs hl i hi hi0;obtain ⟨g1,o,g2,g3⟩:=mem_ready.1 hi;have hil:i<ops.size:=(Uw.1 g2).1
  refine ⟨mem_ready.2 ⟨by rw [getD_set_ne true (Ne.symm hi0)];exact g1,o,g2,fun e he hb=> ?_⟩, ?_⟩
  ·by_cases he0:e.on=0
   ·rw [he0];simp [hs,h0s]
   ·rw [getD_set_ne false (Ne.symm he0)];exact g3 e he hb
  ·have ha:=hall i hil;simp only [g2,Bool.or_eq_true,beq_iff_eq,hi0,false_or,Vj,bne_iff_ne] at ha;intro K v a w h;refine ET hC hns hP g2 ?_ ha.1.1 ha.1.2 h
   rcases ha.2 with hdep|hlook
   ·exfalso;simp only [aE,g2,Vj,beq_iff_eq,Array.any_eq_true'] at hdep;obtain ⟨e,he,hb,h00⟩:=hdep
    have:=g3 e he hb
    rw [h00] at this;simp only [Array.getD_eq_getD_getElem?] at this hl;rw [UL (by omega)] at this hl;simp at this hl;rw [this] at hl;cases hl
   ·intro hm;rw [List.contains_iff_mem.2 hm] at hlook;cases hlook
 intro fuel
 induction fuel with
 | zero=>
  intro listed a w hs hl h
  refine ⟨fun he=> ?_,fun i hi=> ?_⟩
  ·have:=hread listed hl;rw [he] at this;cases this
  ·by_cases hi0:i=0
   ·subst hi0;exact (hrun _ _ _).2 h
   ·have:=(hstep listed hs hl i hi hi0).1
    rw [h.1] at this;cases this
 | succ fuel ih=>
  intro listed a w hs hl h
  refine ⟨fun he=> ?_,fun i hi=> ?_⟩
  ·have:=hread listed hl;rw [he] at this;cases this
  ·by_cases hi0:i=0
   ·subst hi0;exact (hrun _ _ _).2 h
   ·obtain ⟨q1,q2⟩:=hstep listed hs hl i hi hi0;refine wpOpIn_mono (fun a' w' hk=> ?_) (q2 _ _ _ _ (h.2 i q1));have e:(listed.setIfInBounds 0 true).setIfInBounds i true=(listed.setIfInBounds i true).setIfInBounds 0 true:=Array.setIfInBounds_comm _ _ (Ne.symm hi0)
    refine ih _ a' w' (by simpa using hs) ?_ ?_
    ·rw [getD_set_ne true hi0];exact hl
    ·rw [<-e,hk.2];exact hk.1
theorem pV {n0 id:Nat} {s:AS} {l:List Oper} {Q:aY->AS->Prop} (m0 d t:Nat) (hL:vD l.toArray d t=true) (hB:gk (ic l).toArray m0=true) (hC:dw (ic l).toArray=true) (h:dF P (ic l) (fun s=>ke P (ic l) ((ic l).drop m0) s (Q .normal)) ((ic l).take m0) s):cj P n0 (.region id l.toArray true) s Q:=by
 refine .inr (fun f m D nu a w hZr hn hm hs hmx R hO hR=> ?_)
 have hCl:dw l.toArray=true:=by
  simp only [vD,Vj] at hL;exact hL.1.1.1.2
 have hm0:m0<=(ic l).length:=by
  simp only [gk,Vj,decide_eq_true_eq,UX] at hB;exact Nat.le_of_lt hB.1.1.2
 have hcalm: ∀oo,oo∈(ic l).drop m0-> ∀c,oo.op ≠ .defer c:=fun oo ho c e=>by
  unfold dw at hC;rw [Array.all_eq_true_iff_forall_mem] at hC;have h2:=hC oo (by simpa using List.mem_of_mem_drop ho);rw [e] at h2;cases h2
 obtain ⟨R',hR'⟩: ∃R':Exit->Act->World->Prop,R'=fun e a w=>(match e with| .panic _=>False|_=>True)∧R e a w:=⟨_,rfl⟩
 have hP: ∀c a w, ¬R' (.panic c) a w:=fun c a w q=>by rw [hR'] at q;exact q.1
 have hN: ∀a w,R .normal a w->R' .normal a w:=fun a w q=>by rw [hR'];exact ⟨trivial,q⟩
 obtain ⟨rs,hrel⟩:=ia (P:=P) (T:=fun k=>pB (wpOpIn (WF f.r) 9 P (ic l).toArray R') (R' .normal) (List.range' k ((ic l).length - k))) hm0 hB hs.drew (fun sk a' wr hE ho hy hsk hB'=>o6 _ _ _ _ (by omega) (kn m hZr _ sk a' wr D nu hcalm (by
  rw [ho,hy];exact m.own hm hs.ro ((au (cr w)).trans (au hE)) (ho ▸ hsk.ro)) hsk hB' (fun D' s' a2 w2 nu' q1 q2 q3=>hN _ _ (hR .normal D' f.Z s' a2 w2 nu' q1 q2 q3)))) ((ic l).take m0) 0 s [] (fun _=>a) (by simp) (Nat.zero_le _) ⟨rfl,rfl,rfl,fun _=>rfl,fun _=>hs.tm.len,fun x t c v h1 h2=> .inl ⟨h1,h2⟩⟩ h
 have hX:=gD _ (fun _=>false) (fun i v w h=>by cases h) m0 (DK hC R') hB (lk _ _ _ hrel);have hX:=Db _ _ _ _ hX
 have hlen:0<l.length:=by
  rw [<-sg];simp only [gk,Vj,decide_eq_true_eq,UX] at hB
  have:=hB.1.1.2;omega
 obtain ⟨fuel,hf⟩: ∃fuel,l.length=fuel+1:=⟨l.length - 1,by omega⟩
 have hX2:nh (wpOpIn (WF f.r) 9 P l.toArray R') l.toArray (R' .normal) (fuel+1) (Array.replicate (fuel+1) false) a w.drew:=by
  rw [UX,sg,hf] at hX;refine BS hL hP fuel _ a _ (by simp [hf]) (by simp) ?_;obtain ⟨-, he, -,hrun⟩:=zt (P:=P) (Q:=R') (r:=f.r) (n:=9) hL;exact yR (st:=wpOpIn (WF f.r) 9 P l.toArray R') (fun i K K' a w h k=>wpOpIn_mono h k) fuel ((Array.replicate (fuel+1) false).setIfInBounds 0 true) _ _ (by simp) ((hrun _ _ _).1 (hX.2 0 (he l _ rfl (by simp))))
 refine Code.wpIn_mono (Q:=R') (fun e a w q=>by rw [hR'] at q;exact q.2) (wpIn_region_any hmx (wS _ _ _ _ ?_));rw [UX,hf];exact hX2
end
end
end Go.Proofs.YtfflpdekojlnmaaGreatDoor
