/- texts of one claim, one behind the other. -/
import Derived.Test.YtlhhccmopfamhaaGreatDoorVLent
import Derived.Test.YtlhhccmopfamhaaGreatDoorVDfaK
import Derived.Test.YtlhhccmopfamhaaGreatDoorVMat
import Derived.Test.YtlhhccmopfamhaaGreatDoorVDfaQ
import Derived.Test.YtlhhccmopfamhaaGreatDoorVAbsV
import Derived.Shelf.Slices.CompactS
import Derived.Lib.RowBridge
set_option linter.unusedSimpArgs false
set_option linter.unusedVariables false
set_option maxRecDepth 100000
set_option maxHeartbeats 16000000
open Bool renaming and_self -> agp, and_true -> afe, true_and -> afi, eq_false_or_eq_true -> afQ, and_eq_true -> aeW, false_eq_true -> afq, false_and -> afA, and_false -> afL
open List renaming getElem?_set_self -> aew, getElem?_eq_some_iff -> aek, getElem?_set_ne -> aex, contains_iff_mem -> agK, getElem?_eq_getElem -> aes, mem_take_iff_getElem -> agL, take_succ_eq_append_getElem -> agD, length_cons -> ae0, length_nil -> aeg, replicate_succ -> afJ, replicate_zero -> afK, cons_append -> afz, nil_append -> afy, set_cons_zero -> afH, set_cons_succ -> afG, take_zero -> agM, getD_eq_getElem?_getD -> aeS, length_map -> agv, map_append -> agN, map_cons -> afZ, map_nil -> agt, length_append -> aem, push_toArray -> afw, drop_succ_cons -> agO, drop_zero -> agP, take_succ_cons -> agQ, length_singleton -> agz, mem_map -> agR, getElem?_map -> aeu, length_replicate -> agS, take_length -> agE, getElem_mem -> afm, mem_of_mem_take -> agU, getElem?_toArray -> aet, getElem?_cons_zero -> afr, getElem?_cons_succ -> afs, zip_cons_cons -> afB, zip_nil_left -> afC, foldl_cons -> afD, foldl_nil -> afE, setIfInBounds_toArray -> afF, filter_cons_of_neg -> af9, drop_eq_getElem_cons -> afW, drop_eq_nil_of_le -> aeL, mem_cons_self -> afg, mem_cons_of_mem -> aeX, mem_cons -> afO, getElem?_append_left -> aej, length_set -> agZ, mem_or_eq_of_mem_set -> ag0, mem_append -> af2, append_assoc -> agx, mem_singleton -> af3, getElem?_append_right -> aeA, nodup_nil -> ae1
open Nat renaming lt_add_one -> agq, zero_lt_one -> agr, zero_le -> aen, zero_lt_succ -> agT, le_refl -> aed, le_succ -> agV, lt_or_ge -> aei
open Option renaming map_some -> aeE, getD_none -> agW, isSome_none -> agX, getD_some -> agA, isSome_some -> agY
open Array renaming getElem?_eq_some_iff -> aeh
namespace Go.Proofs.YtlhhccmopfamhaaGreatDoor
open Go.RowKit
open Go.Proofs.Tryz
section
variable {D:Nat->Prop} {nu:EQ} {o:AC} {w:World} {P:Program}
theorem Qd(h:RO D nu o w){id:Nat}{ob:aa}(O:o[id]?=some (some ob))(W:ob.fc=false)(hz:ob.z=0):RA D nu (o.set id none) w (.mp ob.rows) (nu id 0):=by
 rcases h.obj id ob O with⟨e1,_⟩|⟨g,cur,hb⟩|⟨g,es,cl,q⟩
 ·rw[e1]at W;cases W
 ·have:=hb.z;omega
 ·rw[q.wH]
  have hf:Fz D nu (o.set id none) w g:=by
   refine⟨(Array.getElem?_eq_some_iff.1 q.ez).1,?_,q.o4⟩;rintro⟨H,ob',A,u⟩
   by_cases U:id=H
   ·subst U;rw[aew (aek.1 O).1]at A;cases A
   ·rw[aex U]at A;exact h.sep id H ob ob' g O A U q.b8 u
  refine .mp _ g es cl hf q.ez q.sz q.row q.born q.qT (λi j row c e A u V=>?_);have hl:=q.row i row A;have Y:=(aek.1 u).1
  match j,Y,u with
  |0,_,u=>exact(q.key i row c e A u V).mono (fh id) (λ_ _ h=>h)
  |1,_,u=>exact(q.val i row c e A u V).mono (fh id) (λ_ _ h=>h)
  |j+2,Y,_=>omega
theorem zG{s:AS}(i id:Nat){ob:aa}(hi:s.t[i]?=some (.vec id 0))(W:s.o[id]?=some (some ob))(U:ob.fc=false)(O:ob.z=0):Ek s (AS.mk (s.t.set i (.mp ob.rows)) (s.o.set id none) s.y):=by
 intro f D nu a w hs;have A:=fh (nu:=nu) (o:=s.o) (w:=w) id;refine⟨nu,A,rfl,n3 hs.ro id,⟨by simpa using hs.tm.len,λj c x u H=>?_⟩,hs.mh⟩
 by_cases q:i=j
 ·subst q;rw[aew (aek.1 hi).1]at u;cases u;have V:=hs.tm.at' i _ x hi H;cases V;exact Qd hs.ro W U O
 ·rw[aex q]at u;exact(hs.tm.at' j c x u H).mono A (λ_ _ h=>h)
end
theorem UW{s:cF}(ok:Eh s)(l:Do)(lab:ByteArray)(hl:l.length<=1000000):aj prog 119 [.vp (kn s),.aA 1 (aT l) l.length,.v (.string lab)] (.aA 1 (aT (bl s l lab)) (bl s l lab).length):=by
 have h:=Ue ok (b5 l) lab (by rw[A4];exact hl);rw[A4, <- LW]at h;exact h
theorem Pv(l:Do)(n:Nat)(hl:l.length<=1000000):∃k:Int,(decide (0<=k)=l.contains n)∧aj prog 155 [.aA 1 (aT l) l.length,.v (.int .i64 n)] (.v (.int .i64 k)):=by
 refine⟨if l.contains n then(l.idxOf n:Int)else -1,by split<;>simp_all<;>omega,?_⟩;refine gE func155 ntmps155 results155 ?_
 (refine ag ?_;intro K hK)
 refine aZ (ι:=Nat) 8 (λi=>[(5,.undef),(8,.v (.int .i64 i))]) (λi=>l.length-i) (λi=>i<=l.length∧n∉l.take i) 0 ⟨Nat.zero_le _,zk⟩ ?_ ?_
 ·refine ab (bF ?_) ar ar
  rfl
 rintro i ⟨hi,hn⟩ K hK
 (revert K;revert K;refine ag ?_;intro K hK K hK K hK)
 refine cn.part (λh=>?_) (λh=>?_)
 ·have u:i<l.length:=by replace h:=cq h;omega
  have eW:=ae (k:=i) zd
  have eG:(aT l).getD i []=[.v (.int .i64 (l[i]:Nat))]:=by rw[aT,getD_map _ l i [] u]
  ((iterate 3 revert K);refine fb h eG ?_;intro K hK K hK K hK)
  refine cn.part (λA=>?_) (λA=>?_)
  ·have H:n=l[i]:=by replace A:=cq A;omega
   have O:l.contains n=true:=by rw[agK,H];exact List.getElem_mem u
   have U:l.idxOf n=i:=by
    have W:l.idxOf n<=i:=by
     exact Fk l n i (by rw[H];exact aes u)
    rcases Nat.lt_or_ge (l.idxOf n) i with q|q
    ·exfalso
     have V:l.idxOf n<l.length:=zd
     refine hn (agL.2 ⟨l.idxOf n,zd,?_⟩);exact List.getElem_idxOf V
    ·omega
   ((iterate 3 revert K);refine ag ?_)
   rw[O,if_pos rfl,U]
  ·have H:n≠l[i]:=by replace A:=cq A;omega
   ((iterate 3 revert K);refine ak eW ?_)
   exact aw.mk (i+1) ⟨zd,by
    rw[agD u,List.mem_append]
    rintro(e|e)
    ·exact hn e
    ·exact H (by simpa using e)⟩ zd (by exact ab ar ar ar)
 ·have O:l.contains n=false:=by
   have:i=l.length:=by replace h:=cq h;omega
   rw[this,List.take_length]at hn;rw[<-Bool.not_eq_true,agK];exact hn
  ((iterate 3 revert K);refine ag ?_)
  rw[O,if_neg zs]
theorem EK(l:Do)(n:Nat)(hl:l.length<=1000000):aj prog 121 [.aA 1 (aT l) l.length,.v (.int .i64 n)] (.v (.bool (l.contains n))):=by
 obtain⟨k,q,C⟩:=Pv l n hl;refine gE func121 ntmps121 results121 ?_
 (refine ag ?_;intro K hK K hK)
 (revert K;revert K;refine aM C ?_)
 rw[<-q]
def Fi(p:Nat->Bool):Do->Nat->Int
 | [],_=> -1
 |x::xs,i=>if p x then(i:Int)else Fi p xs (i+1)
theorem Fj(p:Nat->Bool):∀(l:Do)(i:Nat),decide (0<=Fi p l i)=l.any p
 | [],i=>rfl
 |x::xs,i=>by
  rw[Fi,List.any_cons]
  cases p x with
  |true=>simp
  |false=>simpa using Fj p xs (i+1)
theorem C8{g:FuncId}(caps:C5)(u:aQ 0 caps=true)(p:Nat->Bool)(l:Do)(hl:l.length<=1000000)(H:∀x:Nat,aj prog g (.v (.int .i64 x)::caps) (.v (.bool (p x)))) :
  aj prog 156 [.aA 1 (aT l) l.length,.fn g [] caps] (.v (.int .i64 (Fi p l 0))):=by
 (refine aj.enter func156 rfl zo zo rfl (by simp only[go_sem,aQ,AV.wf,agp,afe,afi,u]) (by simp only[go_sem,aQ,AV.wf,bz,agp,afe,afi,u]) ?_;simp only[ntmps156,results156,ae0,aeg,Nat.reduceAdd,Nat.reduceSub,afJ,afK,afz,afy])
 (refine ag ?_;intro K hK)
 refine aZ (ι:=Nat) 8 (λi=>[(5,.undef),(8,.v (.int .i64 i))]) (λi=>l.length-i) (λi=>i<=l.length∧Fi p l 0=Fi p (l.drop i) i) 0 ⟨Nat.zero_le _,rfl⟩ ?_ ?_
 ·refine ab (bF ?_) ar ar
  all_goals first|exact u|rfl|exact⟨u,rfl⟩
 rintro i ⟨hi,q⟩ K hK
 (revert K;revert K;refine ag ?_;intro K hK K hK K hK)
 refine cn.part (λh=>?_) (λh=>?_)
 ·have O:i<l.length:=by replace h:=qv h;omega
  have eW:=ae (k:=i) zd
  have eG:(aT l).getD i []=[.v (.int .i64 (l[i]:Nat))]:=by rw[aT,getD_map _ l i [] O]
  have HX:=H l[i];rw[List.drop_eq_getElem_cons O,Fi]at q
  ((iterate 3 revert K);refine ak eG ?_;iterate 5 intro K hK)
  refine ah.one HX ?_
  rcases afQ (p l[i])with A|A
  ·rw[A,if_pos rfl]at q
   ((iterate 5 revert K);refine ak A ?_)
   rw[q]
  ·rw[A,if_neg zs]at q
   ((iterate 5 revert K);refine fb A eW ?_)
   refine aw.mk (i+1) ⟨zd,q⟩ zd ?_;refine ab (bF ?_) ar ar
   all_goals first|exact u|rfl
 ·have:i=l.length:=by replace h:=qv h;omega
  rw[this,List.drop_length,Fi]at q
  ((iterate 3 revert K);refine ag ?_)
  rw[q]
theorem wu{g:FuncId}(caps:C5)(q:aQ 0 caps=true)(p:Nat->Bool)(l:Do)(hl:l.length<=1000000)(H:∀x:Nat,aj prog g (.v (.int .i64 x)::caps) (.v (.bool (p x)))) :
  aj prog 123 [.aA 1 (aT l) l.length,.fn g [] caps] (.v (.bool (l.any p))):=by
 have C:=C8 caps q p l hl H
 (refine aj.enter func123 rfl zo zo rfl (by simp only[go_sem,aQ,AV.wf,agp,afe,afi,q]) (by simp only[go_sem,aQ,AV.wf,bz,agp,afe,afi,q]) ?_;simp only[ntmps123,results123,ae0,aeg,Nat.reduceAdd,Nat.reduceSub,afJ,afK,afz,afy])
 (refine ag ?_;intro K hK K hK)
 (revert K;revert K;refine aM C ?_)
 rw[Fj]
theorem Px(last:Do)(n:Nat)(hl:last.length<=1000000):aj prog 120 [.v (.int .i64 n),.vp [.aA 1 (aT last) last.length]] (.v (.bool (last.contains n))):=by
 have C:=EK last n hl;refine gE func120 ntmps120 results120 ?_
 (refine ag ?_;intro K hK K hK)
 (revert K;revert K;exact lH C)
def NF(l:B0):List C5:=dD (l.zipIdx)
theorem Kr(l:B0):(NF l).length=l.length:=by simp[NF,dD]
theorem FL(l:B0)(s:ByteArray):∀k,look (l.zipIdx k) s=(pos l s).map (λi=>i+k):=by
 induction l with
 |nil=>intro k;simp[look,pos]
 |cons a l ih=>
  intro k;rw[List.zipIdx_cons]
  have:=ih (k+1)
  simp only[look,pos,List.find?_cons,List.findIdx?_cons]at this⊢
  cases h:fR s a
  ·simp only[Bool.false_eq_true,if_false];rw[this,Option.map_map]
   congr 1;funext i;simp;omega
  ·simp
theorem Oa(s:ByteArray)(l:B0):o9 .string (.string s) (NF l)=some ((pos l s).map (λn=> .v (.int .i64 (n:Nat)))):=by
 rw[NF,Cf,FL,Option.map_map];rfl
theorem PK(l:B0)(s:ByteArray):NF (l++[s])=dD (l.zipIdx++[(s,l.length)]):=by rw[NF,List.zipIdx_append];simp
theorem Oc(s:ByteArray)(l:B0)(h:pos l s=none):nF .string (.string s) (.v (.int .i64 (l.length:Nat))) (NF l)=some (NF (l++[s])):=by
 rw[NF,uA s l.length _ (by rw[FL,h];rfl),PK]
@[go_sem] theorem ada(n:Nat)(l:B0):bE n (NF l)=true:=xr n _
section
variable {P:Program}
theorem Lx{n0:Nat}{c:Code}{s:AS}{Q:bg->AS->Prop}(s0:AS)(u:bY c=true)(h:cD P n0 c s (λe s'=>e=.normal∧Wk n0 s' s0))(k:Q .normal s0):Ha P n0 c s Q:=λf m D nu a w O hn hm W A R hO hR=>by
 refine gK A m O hn c u s a w D nu f.Z _ R hO hm W h ?_;rintro e D' Z' s' a' w' nu' V U ⟨rfl,q⟩;refine hR .normal D' Z' s0 a' w' nu' ?_ (ll q U) k;rw[<-q.y];exact m.step V U.ro q.yP (ll q U).ro (λc v Y hc=>q.ra Y hc) (λ_ h=> .inl h) (λ_ h=> .inl h) (λb H=>⟨((m.so V).1 b H).1,((m.so V).1 b H).2,.inl H⟩) (Nat.le_trans hn q.n)
theorem EA{n0 id:Nat}{s:AS}{ops:Array Oper}{d:Bool}{Q:bg->AS->Prop}(s0:AS)(q:dO ops=true)(h:cD P n0 (.region id ops d) s (λe s'=>e=.normal∧Wk n0 s' s0))(k:Q .normal s0):cD P n0 (.region id ops d) s Q:=by
 have:=Lx (c:= .region id ops d) s0 q h k
 cases d
 ·exact .inr this
 ·exact .inr this
theorem vQ{n0:Nat}{x y:Code}{s:AS}{Q:bg->AS->Prop}(s0:AS)(Y:bY x=true)(W:bY y=true)(h:cD P n0 x s (λe s'=>e=.normal∧Wk n0 s' s0))(k:cD P n0 y s0 Q):cD P n0 (.seq x y) s Q:= .inr (λf m D nu a w A hn hm hs u R V hR=>by
 refine wpIn_seq (gK u (f:=f) m A hn x Y s a w D nu f.Z _ _ (λa w h=>V a w h) hm hs h ?_);rintro e D' Z' s' a' w' nu' U O ⟨rfl,q⟩;refine gK u (f:=f) m A hn y W s0 a' w' D' nu' Z' Q R V ?_ (ll q O) k hR;rw[<-q.y]
 exact m.step U O.ro q.yP (ll q O).ro (λc v hr hc=>q.ra hr hc) (λ_ h=> .inl h) (λ_ h=> .inl h) (λb H=>⟨((m.so U).1 b H).1,((m.so U).1 b H).2,.inl H⟩) (Nat.le_trans hn q.n))
theorem Rt{n0 i:Nat}{ops:Array Oper}{d:Bool}{a b:Code}{s:AS}{Q:bg->AS->Prop}(h:cD P n0 (.seq (.seq (.region i ops d) a) b) s Q):cD P n0 (.seq (.seq (.region i ops d) a) b) s Q:=h
end
theorem Dr{l:B0}(hn:l.Nodup){i:Nat}(h:i<l.length):l[i]∉l.take i:=λq=>by
 obtain⟨j,u,e⟩:=agL.1 q;exact List.pairwise_iff_getElem.1 hn j i zd h zd e
theorem Qb:dD []=[]:=rfl
def sE(a:Do):C5:=[.aA 1 (aT a) a.length]
theorem qN(n:Nat)(a:Do):aQ n (sE a)=true:=by simp only[sE,aQ,AV.wf,jt,agp]
@[go_sem] theorem aaA(n:Nat)(l:List Do):bE n (l.map sE)=true:=bt _ (qN n) _
def wi:Option qk->AV
 |some st=> .ck [.vp (gV st.rows st.ends),.v (.bool true)]
 |none=> .ck [.v (.pointer none),.v (.bool false)]
theorem R4(o:Option qk):(wi o).wf 0=true:=by
 cases o with
 |none=>rfl
 |some st=>simp only[wi,AV.wf,aQ,gV,uj,ui,agp]
theorem nM(m:BitVec 32):(∀n∈az m,n<100)∧(az m).length<=1000:=by
 refine⟨λn hn=>?_,?_⟩
 ·rw[az,List.mem_filter,List.mem_range]at hn;omega
 ·have:=List.length_filter_le m.getLsbD (List.range 32)
  rw[List.length_range]at this;rw[az];omega
theorem rY{s:cF}{a:Do}(h:Made (bl s) a):(∀n∈a,n<100)∧a.length<=1000:=by
 rcases h.2 with rfl|⟨cur,l,rfl⟩
 ·simp
 ·exact nM _
def kq(s:cF)(st:qk):AC:=[some ⟨56,1,false,[[.aA 1 (aT (az s.la)) (az s.la).length]]⟩,some ⟨163,0,false,NF (st.all.map lJ)⟩,none,none,some ⟨56,1,true,st.all.map sE⟩,some ⟨123,2,false,[[.vec 6 st.rows.length,.vec 7 st.rows.length]]⟩,some ⟨164,1,true,st.rows.map (λr=>[.mp (dD r)])⟩,some ⟨4,1,true,st.ends.map (λb=>[.v (.bool b)])⟩]
theorem Xd{s:cF}(ok:Eh s)(labs:B0)(hn:labs.Nodup)(hl:labs.length<=1000)(hb:(az s.la).length<=1000):aj prog 84 [.vp (kn s),bZ labs] (wi (ri (bl s) s.em (az s.la) labs)):=by
 have CL:=Ud s ok.len;have CE:=Qg s ok.len;have CK0:=Vs [0] zk zk;have e0:aT [0]=[[.v (.int .i64 0)]]:=rfl;rw[e0]at CK0;simp only[ae0,aeg,Nat.reduceAdd]at CK0
 have hA:aQ 0 [AV.vp (kn s),bZ labs]=true:=by simp only[bZ,aQ,AV.wf,DZ,bz,agp]
 have hF:=R4 (ri (bl s) s.em (az s.la) labs);generalize hrv:wi (ri (bl s) s.em (az s.la) labs)=rv at hF⊢
 (refine aj.iy func84 rfl zo zo rfl hA hF ?_;simp only[ntmps84,results84,ae0,aeg,Nat.reduceAdd,Nat.reduceSub,afJ,afK,afz,afy])
 (refine ag ?_;intro K hK K hK)
 (revert K;revert K;refine aM CL ?_;intro K hK K hK)
 refine ah.CA CK0 8 rfl (by simp only[go_sem,Nat.reduceLT,Nat.reduceLeDiff,Nat.reduceEqDiff,agq,agr,and_self]) rfl ?_
 (revert K;revert K;refine dG 5 ?_;intro K hK K hK)
 refine bn (fL (k:=4) (i:=0) (j:=0) zs rfl (Nat.zero_lt_succ _) rfl rfl rfl rfl rfl) zo ?_;simp only[afH,afG,ae0,aeg,Nat.reduceAdd,afz,afy];refine bn (dS (k:=5) (i:=0) (j:=0) 164 1 zs rfl zs rfl rfl) zo ?_;simp only[afH,afG,ae0,aeg,Nat.reduceAdd,afz,afy];refine bn (dS (k:=5) (i:=0) (j:=1) 4 1 zs rfl zs rfl rfl) zo ?_;simp only[afH,afG,ae0,aeg,Nat.reduceAdd,afz,afy]
 (revert K;revert K;refine ag ?_;intro K hK)
 refine aN (ι:=qk) 10 (λst=>[(8,.vec 4 st.all.length),(10,.v (.int .i64 st.rows.length))]) (kq s) (λst=>257-st.rows.length) (λst=>Hi labs st∧(∀a∈st.all,Made (bl s) a)∧wi (qa (bl s) s.em (az s.la) labs (257-st.rows.length) st)=rv) s0
  ⟨UL labs,λa ha=>by simp only[s0,List.mem_singleton]at ha;subst ha;exact⟨zk,.inl rfl⟩,hrv⟩ ?_ ?_
 ·simp only[kq,s0]
  refine ab (bF ?_) (bF ?_) ar
  ·rfl
  ·exact⟨rfl,rfl,qN _ _⟩
 ·rintro st ⟨A,hmade,u⟩ K hK;have h257:=A.max;have hel:=A.ends;simp only[kq]
  (revert K;revert K;refine ag ?_;intro K hK K hK K hK)
  refine cn.part (λh=>?_) (λh=>?_)
  ·have V:st.rows.length<st.all.length:=by replace h:=cq h;omega
   rw[show 257-st.rows.length=(256-st.rows.length)+1 by have:=A.le;omega,qa,if_pos V]at u
   ((iterate 3 revert K);refine ak h ?_;iterate 4 intro K hK)
   obtain⟨hcm,hcl⟩:=rY (hmade _ (bK (d:=[]) V));rw[<-cd]at hcm hcl
   refine aN (ι:=Nat) 38 (λi=>[(8,.vec 4 (fK (bl s) (cd st) st.all (labs.take i)).1.length),(13,.undef),(14,.undef),(15,.undef),(16,.undef),(37,.v (.int .i64 i))]) (λi=>kq s {st with all:=(fK (bl s) (cd st) st.all (labs.take i)).1}++[some ⟨164,0,false,dD (fK (bl s) (cd st) st.all (labs.take i)).2⟩]) (λi=>labs.length-i) (λi=>i<=labs.length) 0 (Nat.zero_le _) ?_ ?_
   ·simp only[kq,agM,fK,List.foldl_nil,Qb,afz,afy];refine ab (bF ?_) ar ar
    all_goals rfl
   ·intro i hi K hK;obtain⟨k1,k2,k3,k4,k5,t,k6⟩:=xp (bl s) (cur:=cd st) A.nd (labs.take i);have hmd:=vt (bl s) hmade (cur:=cd st) (labs.take i);have hlk:∀l,l∉labs.take i->look (fK (bl s) (cd st) st.all (labs.take i)).2 l=none:=λl hl=>lx.2 λq=>hl (k5.subset q)
    rcases U:fK (bl s) (cd st) st.all (labs.take i)with⟨al,ro⟩
    rw[U]at k1 k2 k3 k4 k5 k6 hmd hlk;simp only at k1 k2 k3 k4 k5 k6 hmd hlk
    have hal:al.length<=2000:=by rw[List.length_take]at k4;omega
    simp only[kq,afz,afy]
    ((iterate 5 revert K);refine ag ?_;iterate 6 intro K hK)
    refine cn.part (λh2=>?_) (λh2=>?_)
    ·have hli:i<labs.length:=by replace h2:=cq h2;omega
     have eW:=ae (k:=i) zd;have eG:=getD_map encS labs i [] hli
     have eC:(al.map sE).getD st.rows.length []=[.aA 1 (aT (cd st)) (cd st).length]:=by
      have hx:al.getD st.rows.length []=cd st:=by rw[k6,dX V];rfl
      rw[aeS,List.getElem?_map,aes zd];rw[aeS,aes zd]at hx;simp only[aeE,Option.getD_some]at hx⊢;rw[hx];rfl
     have Y:=lB (bl s) (cd st) st.all (labs.take i) labs[i];rw[<-agD hli,U,G0]at Y;have CS:=UW ok (cd st) labs[i] zd;obtain⟨ts,tl⟩:=nM (kr s (iL s (b5 (cd st))) labs[i]);have CKy:=Vs (bl s (cd st) labs[i]) ts (by have:(bl s (cd st) labs[i]).length<=1000:=tl;omega);have tl':(bl s (cd st) labs[i]).length<=1000:=tl;generalize hto:bl s (cd st) labs[i]=to at *;simp only[encS]at eG
     repeat(first|(with_reducible first|refine bA.up ?_|refineλ(K:AK)hK=>?_|(refine hK _ ?_;clear hK K))|simp only[go_sem,eG,eC,h2]|with_reducible refine wA ?_|clear hK K)
     ((iterate 8 revert K);refine aM CS ?_;iterate 7 intro K hK)
     refine cn.part (λh3=>?_) (λh3=>?_)
     ·have hz:to=[]:=List.eq_nil_of_length_eq_zero (by replace h3:=cq h3;omega);rw[if_pos hz]at Y
      ((iterate 7 revert K);refine ak eW ?_)
      refine aw.mk (i+1) zd zd ?_;rw[Y];simp only[kq,afz,afy];exact ab ar ar ar
     ·have hz: ¬to=[]:=λe=>by subst e;simp at h3
      rw[if_neg hz]at Y;have eA:=Oa (lJ to) (al.map lJ)
      ((iterate 7 revert K);refine ag ?_;iterate 8 intro K hK)
      refine ah.one CKy ?_
      cases hp:pos (al.map lJ) (lJ to)with
      |some k=>
       rw[hp]at Y eA;simp only[aeE]at eA Y;have eS:=uA labs[i] k ro (hlk _ (Dr hn hli))
       ((iterate 8 revert K);refine ak (mQ eA eS eW) ?_)
       refine aw.mk (i+1) zd zd ?_;rw[Y];simp only[kq,afz,afy];exact ab ar ar ar
      |none=>
       rw[hp]at Y eA;simp only[Option.map_none]at eA Y;have eS:=uA labs[i] al.length ro (hlk _ (Dr hn hli));have eK:=Oc (lJ to) (al.map lJ) hp;rw[agv]at eK
       repeat(first|(with_reducible first|refine bA.up ?_|refineλ(K:AK)hK=>?_|(refine hK _ ?_;clear hK K))|simp only[go_sem,eA,eS,eW]|with_reducible refine wA ?_|clear hK K)
       refine ah.one CKy ?_
       repeat(first|(with_reducible first|refine bA.up ?_|refineλ(K:AK)hK=>?_|(refine hK _ ?_;clear hK K))|simp only[go_sem,eK,eS,eW]|with_reducible refine wA ?_|clear hK K)
       refine aw.mk (i+1) zd zd ?_;rw[Y];simp only[kq,afz,afy,agN,afZ,agt,aem,ae0,aeg];refine ab ar (bF ?_) ar
       all_goals exact⟨rfl,qN _ _⟩
    ·have hil:i=labs.length:=by replace h2:=cq h2;omega
     rw[hil,List.take_length]at U
     have H:(cR (bl s) s.em (az s.la) labs st).all=al:=by rw[cR,U]
     have hrow:(cR (bl s) s.em (az s.la) labs st).rows=st.rows++[ro]:=by rw[cR,U]
     rw[H]at u
     ((iterate 6 revert K);refine ag ?_;iterate 4 intro K hK)
     refine cn.part (λh3=>?_) (λh3=>?_)
     ·rw[if_pos (by replace h3:=cq h3;omega)]at u
      ((iterate 4 revert K);refine ag ?_)
      rw[<-u];exact bC.ck ⟨bC.v _,bC.v _,trivial⟩
     ·have h256: ¬ 256<al.length:=by replace h3:=cq h3;omega
      rw[if_neg h256]at u
      ((iterate 4 revert K);refine dG 24 ?_;iterate 4 intro K hK)
      refine bn (zG 11 8 rfl rfl rfl rfl) zo ?_;simp only[afH,afG]
      ((iterate 4 revert K);refine dG 25 ?_;intro K hK K hK K hK)
      have CF:=wu (g:=120) [.vp [.aA 1 (aT (az s.la)) (az s.la).length]] (by simp only[aQ,AV.wf,jt,agp]) (λn=>(az s.la).contains n) (cd st) zd (λn=>Px (az s.la) n zd)
      have eC:(al.map sE).getD st.rows.length []=[.aA 1 (aT (cd st)) (cd st).length]:=by
       have hx:al.getD st.rows.length []=cd st:=by rw[k6,dX V];rfl
       rw[aeS,List.getElem?_map,aes zd];rw[aeS,aes zd]at hx;simp only[aeE,Option.getD_some]at hx⊢;rw[hx];rfl
      have hE:ua s.em (az s.la) st=(((st.rows.length:Int)==0&&s.em)||(cd st).any (λn=>(az s.la).contains n)):=by
       rw[ua];congr 2;rw[Bool.eq_iff_iff,beq_iff_eq,beq_iff_eq];omega
      refine EA ⟨bN 112 [(0,.vp (kn s)),(1,.aA 1 (labs.map encS) labs.length),(4,.v (.pointer none)),(5,.v (.bool false)),(6,.ptr 0 0 1 0 0),(7,.vec 1 0),(8,.vec 4 al.length),(9,.ptr 5 0 2 0 0),(10,.v (.int .i64 st.rows.length))],kq s (cR (bl s) s.em (az s.la) labs st),.no⟩ zo ?_ ?_
      ·have hO:kq s (cR (bl s) s.em (az s.la) labs st)=kq s ⟨al,st.rows++[ro],st.ends++[ua s.em (az s.la) st]⟩:=by rw[cR,U]
       rw[hO]
       rcases(afQ ((st.rows.length:Int)==0)).symm with hZ|hZ
       ·have W:ua s.em (az s.la) st=(cd st).any (λn=>(az s.la).contains n):=by rw[hE,hZ,Bool.false_and,Bool.false_or]
        simp only[kq,agN,afZ,agt,aem,ae0,aeg,W]
        (refine qp 20 88 9 zo za zo ?_;simp only[iZ,afZ,agt,afw,afz,afy,agO,agP,agQ,agM])
        repeat(first|(with_reducible first|refine bA.up ?_|refineλ(K:AK)hK=>?_|(refine hK _ ?_;clear hK K))|simp only[go_sem,eC,hZ]|with_reducible refine wA ?_|clear hK K)
        refine bQ.CA CF 20 rfl (by simp only[go_sem,Nat.reduceLT,Nat.reduceLeDiff,Nat.reduceEqDiff,agq,agr,and_self]) rfl ?_
        repeat(first|(with_reducible first|refine bA.up ?_|refineλ(K:AK)hK=>?_|(refine hK _ ?_;clear hK K))|simp only[go_sem,eC,hZ]|with_reducible refine wA ?_|clear hK K)
        exact ab ar ar ar
       ·rcases(afQ s.em).symm with O|O
        ·have W:ua s.em (az s.la) st=(cd st).any (λn=>(az s.la).contains n):=by rw[hE,hZ,O];simp
         simp only[kq,agN,afZ,agt,aem,ae0,aeg,W]
         (refine qp 20 88 9 zo za zo ?_;simp only[iZ,afZ,agt,afw,afz,afy,agO,agP,agQ,agM])
         repeat(first|(with_reducible first|refine bA.up ?_|refineλ(K:AK)hK=>?_|(refine hK _ ?_;clear hK K))|simp only[go_sem,eC,hZ]|with_reducible refine wA ?_|clear hK K)
         refine bQ.one CE ?_
         repeat(first|(with_reducible first|refine bA.up ?_|refineλ(K:AK)hK=>?_|(refine hK _ ?_;clear hK K))|simp only[go_sem,eC,O]|with_reducible refine wA ?_|clear hK K)
         refine bQ.CA CF 20 rfl (by simp only[go_sem,Nat.reduceLT,Nat.reduceLeDiff,Nat.reduceEqDiff,agq,agr,and_self]) rfl ?_
         repeat(first|(with_reducible first|refine bA.up ?_|refineλ(K:AK)hK=>?_|(refine hK _ ?_;clear hK K))|simp only[go_sem,eC,O]|with_reducible refine wA ?_|clear hK K)
         exact ab ar ar ar
        ·have W:ua s.em (az s.la) st=true:=by rw[hE,hZ,O];simp
         simp only[kq,agN,afZ,agt,aem,ae0,aeg,W]
         (refine qp 20 88 9 zo za zo ?_;simp only[iZ,afZ,agt,afw,afz,afy,agO,agP,agQ,agM])
         repeat(first|(with_reducible first|refine bA.up ?_|refineλ(K:AK)hK=>?_|(refine hK _ ?_;clear hK K))|simp only[go_sem,eC,hZ]|with_reducible refine wA ?_|clear hK K)
         refine bQ.one CE ?_
         repeat(first|(with_reducible first|refine bA.up ?_|refineλ(K:AK)hK=>?_|(refine hK _ ?_;clear hK K))|simp only[go_sem,eC,O]|with_reducible refine wA ?_|clear hK K)
         exact ab ar ar ar
      ·have hlen:(cR (bl s) s.em (az s.la) labs st).rows.length=st.rows.length+1:=by rw[hrow,aem,List.length_singleton]
       have eW:=ae (k:=st.rows.length) zd;obtain⟨nx,hnx⟩:∃nx,nx=cR (bl s) s.em (az s.la) labs st:=⟨_,rfl⟩;have hnok:Hi labs nx:=hnx ▸ ub (bl s) s.em (az s.la) A V (by rw[H];exact h256);rw[<-hnx]at u hlen H⊢;simp only[kq];simp only[bN,List.foldl_cons,List.foldl_nil,afJ,afK,go_sem]
       ((iterate 3 revert K);refine ak eW ?_)
       refine aw.mk nx ⟨hnok,by rw[H];exact hmd,by rw[hlen,show 257-(st.rows.length+1)=256-st.rows.length by omega];exact u⟩ (by rw[hlen];have:=A.le;omega) ?_;simp only[kq,H,hlen];exact ab ar ar ar
  ·have hge:st.rows.length=st.all.length:=by have:=A.le;replace h:=cq h;omega
   rw[show 257-st.rows.length=(256-st.rows.length)+1 by omega,qa,if_neg zd]at u;have hel:=A.ends
   ((iterate 3 revert K);refine ag ?_)
   rw[<-u];simp only[wi,gV,hel];exact bC.ck ⟨bC.ptr (ob:=⟨123,2,false,[[.vec 6 st.rows.length,.vec 7 st.rows.length]]⟩) rfl rfl rfl (Nat.succ_ne_zero 1) ⟨bC.sj (ob:=⟨164,1,true,st.rows.map (λr=>[.mp (dD r)])⟩) rfl rfl (agv _) (uj _ _),bC.sj (ob:=⟨4,1,true,st.ends.map (λb=>[.v (.bool b)])⟩) rfl rfl ((agv _).trans hel) (ui _ _),trivial⟩,bC.v _,trivial⟩
structure GOk(rows:N3)(ends:N2):Prop where
 n:rows.length<=256
 e:ends.length=rows.length
 qT:∀r∈rows,l8 (r.map Prod.fst)
 len:∀r∈rows,r.length<=1000
 lab:∀r∈rows,∀p∈r,p.1.size<=1000∧p.2<rows.length
theorem sO(a b:ByteArray):(a++b).size=a.size+b.size:=ByteArray.size_append
theorem Ct(u:Nat)(h:u<1000):(⟨(Lib.decDigits u).toArray⟩:ByteArray).size<=3:=by
 have:=xY u h
 simpa [ByteArray.size]using this
theorem Bh(part:Do)(p:Nat):du part p []=⟨(Lib.decDigits p).toArray⟩:=by simp[du,y4]
theorem y6(part:Do)(p:Nat)(r:bD)(e:ByteArray×Nat):du part p (r++[e])=du part p r++(((⟨#[32]⟩++e.1)++⟨#[32]⟩)++⟨(Lib.decDigits (part.getD e.2 0)).toArray⟩):=by
 apply ByteArray.ext
 rw[du,MR];simp[du,ByteArray.data_append]
theorem I3(part:Do)(p:Nat)(A:p<1000)(u:∀s,part.getD s 0<1000):∀r:bD,(∀e∈r,e.1.size<=1000)->(du part p r).size<=3+1005*r.length:=by
 refine ij ?_ ?_
 ·intro _;rw[Bh];have:=Ct p A;simpa using this
 ·intro r e ih h;have V:=ih λx q=>h x (List.mem_append_left _ q);have U:=h e zk;have O:=Ct _ (u e.2);have H:(⟨#[32]⟩:ByteArray).size=1:=rfl;rw[y6,sO,sO,sO,sO,H,aem,agz];omega
theorem w8{l:Do}{b:Nat}(u:0<b)(h:∀v∈l,v<b)(s:Nat):l.getD s 0<b:=by
 rw[aeS]
 cases q:l[s]? with
 |none=>simpa using u
 |some v=>exact h v (List.mem_of_getElem? q)
theorem Zm(ends:N2):∀v∈p0 ends,v<1000:=λv q=>by
 rw[p0,agR]at q;obtain⟨b,_,rfl⟩:=q
 split<;>omega
theorem Uo(rows:N3)(part:Do)(n:Nat)(v:Nat)(q:v∈(fA rows part n).2):v<(fA rows part n).1.length:=by
 have ok:=jl rows part n;obtain⟨s,u,rfl⟩:=List.mem_iff_getElem.1 q
 have:=(ok.at' s (by have:=ok.len;omega)).1
 rw[aeS,aes u]at this;exact this
theorem WL{rows:N3}(hn:rows.length<=256)(part:Do):∀v∈gC rows part,v<1000:=λv q=>by
 have:=Uo rows part rows.length v q
 have:=(jl rows part rows.length).le
 omega
theorem KW(A:Do)(n i v:Nat)(q:A.length=i)(h:i<n):(aT (A++List.replicate (n-i) 0)).set i [.v (.int .i64 (v:Nat))]=aT ((A++[v])++List.replicate (n-(i+1)) 0):=by
 rw[show n-i=(n-(i+1))+1 by omega,afJ,aT,aT,agN,agN,agN,List.set_append,if_neg (by simp[q])];simp[q]
theorem Y4(A:Do)(n i:Nat)(q:A.length=i)(h:i<n):(aT (A++List.replicate (n-i) 0)).getD i []=[.v (.int .i64 0)]:=by
 rw[show n-i=(n-(i+1))+1 by omega,afJ,aT,agN,aeS,List.getElem?_append_right (by simp[q])];simp[q]
theorem Zv(A:Do)(n i:Nat)(h:i<n):A++List.replicate (n-i) 0=(A++[0])++List.replicate (n-(i+1)) 0:=by
 rw[show n-i=(n-(i+1))+1 by omega,afJ];simp
def QG(ends:N2)(i:Nat):AC:=[some ⟨3,1,true,aT (p0 (ends.take i)++List.replicate (ends.length-i) 0)⟩,some ⟨56,1,false,[[.vec 0 ends.length]]⟩]
def vj(n:Nat)(part:Do):AC:=[none,some ⟨56,1,false,[[.aA 1 (aT part) n]]⟩]
def Ac(rows:N3)(part:Do)(s:Nat):AC:=vj rows.length part++[some ⟨163,0,false,NF (fA rows part s).1⟩,some ⟨3,1,true,aT ((fA rows part s).2++List.replicate (rows.length-s) 0)⟩]
theorem Ur{rows:N3}{ends:N2}(ok:GOk rows ends):aj prog 124 [.vp (gV rows ends)] (.aA 1 (aT (b9 rows ends)) rows.length):=by
 have hN:=ok.n;have hE:=ok.e
 have hA:aQ 0 [AV.vp (gV rows ends)]=true:=by simp only[gV,aQ,AV.wf,uj,ui,agp]
 have hF:(AV.aA 1 (aT (b9 rows ends)) rows.length).wf 0=true:=by simp only[AV.wf,jt]
 generalize hrv:AV.aA 1 (aT (b9 rows ends)) rows.length=rv at hF⊢
 (refine aj.iy func124 rfl zo zo rfl hA hF ?_;simp only[ntmps124,results124,ae0,aeg,Nat.reduceAdd,Nat.reduceSub,afJ,List.replicate_zero,afz,afy])
 simp only[gV]
 (refine bc ?_;intro K hK)
 refine aN (ι:=Nat) 27 (λi=>[(4,.undef),(5,.undef),(26,.v (.int .i64 i))]) (QG ends) (λi=>ends.length-i) (λi=>i<=ends.length) 0 (aen _) ?_ ?_
 ·have e0:aT (p0 (ends.take 0)++List.replicate (ends.length-0) 0)=List.replicate rows.length [AV.v (.int .i64 0)]:=by
   rw[hE];simp[p0,aT]
  simp only[QG,e0,hE];refine ab (bF ?_) (bF ?_) ar
  all_goals first|rfl|simp[p0,aT]
 ·intro i hi K hK;simp only[QG]
  (revert K;revert K;refine bc ?_;intro K hK K hK K hK)
  refine cn.part (λh=>?_) (λh=>?_)
  ·have q:i<ends.length:=by replace h:=cq h;omega
   have eW:=ae (k:=i) zd
   have eG:(ends.map (λb=>[AV.v (.bool b)])).getD i []=[.v (.bool ends[i])]:=by
    rw[aeS,aeu,aes q];rfl
   have U:(p0 (ends.take i)).length=i:=by rw[p0,agv,List.length_take];omega
   have eL:(aT (p0 (ends.take i)++List.replicate (ends.length-i) 0)).length=ends.length:=by rw[aT,agv,aem,U,agS];omega
   have eN:p0 (ends.take (i+1))=p0 (ends.take i)++[if ends[i]then 1 else 0]:=by rw[p0,p0,agD q,agN];rfl
   rcases(Bool.eq_false_or_eq_true ends[i]).symm with hb|hb
   ·rw[hb]at eG eN;rw[if_neg zs]at eN
    ((iterate 3 revert K);refine aG (q9 eG h) ?_)
    refine aG eW ?_;refine aw.mk (i+1) zd zd ?_;simp only[QG,eN, <- Zv _ _ _ q];exact ab ar ar ar
   ·rw[hb]at eG eN;rw[if_pos rfl]at eN;have eS:=KW (p0 (ends.take i)) ends.length i 1 U q;have eS:=KW (p0 (ends.take i)) ends.length i 1 U q;have eQ:=Y4 (p0 (ends.take i)) ends.length i U q;have c1:((1:Nat):Int)=1:=rfl;rw[c1]at eS
    ((iterate 3 revert K);refine yr (qu eG h eL eQ eS) ?_)
    refine aG eW ?_;refine aw.mk (i+1) zd zd ?_;simp only[QG,eN];exact ab ar ar ar
    all_goals trace_state
  ·have h16:i=ends.length:=by replace h:=cq h;omega
   have e1:aT (p0 (ends.take i)++List.replicate (ends.length-i) 0)=aT (p0 ends):=by rw[h16,agE,Nat.sub_self];simp
   have l0:(aT (p0 ends)).length=ends.length:=by simp[aT,p0]
   have l1:(p0 ends).length=rows.length:=by simp[p0,hE]
   simp only[e1]
   ((iterate 3 revert K);refine dG 8 ?_;intro K hK)
   refine bn (fL (k:=1) (i:=0) (j:=0) zs rfl (agT _) rfl rfl rfl rfl l0) zo ?_;simp only[afH,afG,hE];clear hi h h16 e1 l0;have hs0:∃f,rows.length+2<=f+0∧AV.aA 1 (aT (qS rows f (p0 ends) 0)) rows.length=rv:=⟨rows.length+2,Nat.le_refl _,hrv⟩;clear hrv
   (revert K;refine bc ?_;intro K hK)
   refine aN (ι:=Do×Nat) 7 (λx=>[(4,.undef),(5,.undef),(6,.v (.int .i64 x.2))]) (λx=>vj rows.length x.1) (λx=>rows.length+1-x.2) (λx=>(∀v∈x.1,v<1000)∧x.2<=rows.length∧XF rows x.1 x.2∧∃f,rows.length+2<=f+x.2∧AV.aA 1 (aT (qS rows f x.1 x.2)) rows.length=rv) (p0 ends,0) ⟨Zm ends,aen _,⟨l1,λk hk=>absurd hk (Nat.not_lt_zero k)⟩,hs0⟩ ?_ ?_
   ·simp only[vj];refine ab (bF ?_) ar ar
    all_goals rfl
   ·rintro⟨part,many⟩ ⟨A,hml,hpo,f,hf,H⟩ K hK;simp only at A hml hpo hf H;have hpn:=hpo.1;simp only[vj]
    (revert K;revert K;refine bc ?_;intro K hK K hK K hK)
    have z0:List.replicate rows.length [AV.v (.int .i64 0)]=aT (List.replicate rows.length 0):=by simp[aT]
    refine aN (ι:=Nat) 46 (λs=>[(9,.undef),(10,.undef),(11,.undef),(12,.undef),(13,.undef),(14,.undef),(45,.v (.int .i64 s))]) (Ac rows part) (λs=>rows.length-s) (λs=>s<=rows.length) 0 (aen _) ?_ ?_
    ·simp only[Ac,vj,afz,afy];refine ab (bF ?_) (bF ?_) ar
     all_goals first|rfl|exact⟨rfl,z0⟩
    ·intro s hs K hK;have pok:=jl rows part s;simp only[Ac,vj,afz,afy]
     ((iterate 4 revert K);refine bc ?_;iterate 5 intro K hK)
     refine cn.part (λh=>?_) (λh=>?_)
     ·have q:s<rows.length:=by replace h:=cq h;omega
      have eW:=ae (k:=s) zd
      have eG:(aT part).getD s []=[.v (.int .i64 ((part.getD s 0:Nat):Int))]:=by
       rw[aT,aeS,aeu,aes zd,aeS,aes zd];rfl
      have CI:=PA (part.getD s 0) (by have:=w8 zd A s;omega);have CS:=K1 rows ends s;have O:=ok.lab _ (afm q);have hln:=ok.len _ (afm q);have u:=BK rows ends s q zd (λp hp=>Nat.le_trans (O p hp).1 zs) (ok.qT _ (afm q)) zd;simp only[gV,hE]at CS u;obtain⟨row,Y⟩:∃row,row=rows[s]:=⟨_,rfl⟩;rw[<-Y]at O hln u;have hq1:part.getD s 0<1000:=w8 zd A s
      ((iterate 5 revert K);refine aG (q9 eG h) ?_;iterate 7 intro K hK)
      ((iterate 7 revert K);refine lG CI ?_;iterate 8 intro K hK)
      ((iterate 8 revert K);refine lG CS ?_;iterate 6 intro K hK)
      refine rF u 58 (λk=>Ac rows part s++[some ⟨9,1,false,[[.v (.string (du part (part.getD s 0) (row.take k)))]]⟩]) (λk=>k<=row.length) (aen _) ?_ ?_ ?_ zo zo ?_ ?_ ?_
      ·((iterate 6 revert K);exact Fe)
      ·simp only[aQ,AV.wf,uj,ui,agp]
      ·simp only[Ac,vj,afz,afy,List.take_zero,Bh];exact ab ar ar ar
       all_goals trace_state
      ·intro x hx;obtain⟨o,_,rfl⟩:=agR.1 hx
       rfl
      ·intro k x hk hx
       obtain⟨hkl,hx⟩:∃h:k<row.length,x=[.v (.string row[k].1),.v (.int .i64 (row[k].2:Nat))]:=by
        obtain⟨h1,h2⟩:=aek.1 hx;simp only[dD,agv]at h1;exact⟨h1,by rw[<-h2];simp[dD]⟩
       subst hx;obtain⟨hz1,hz2⟩:=O _ (afm hkl)
       have eT:(aT part).getD row[k].2 []=[.v (.int .i64 ((part.getD row[k].2 0:Nat):Int))]:=by
        rw[aT,aeS,aeu,aes zd,aeS,aes zd];rfl
       have hq2:part.getD row[k].2 0<1000:=w8 zd A _;have CJ:=PA (part.getD row[k].2 0) zd;have hS:=y6 part (part.getD s 0) (row.take k) row[k];rw[<-agD hkl]at hS;simp only[Ac,vj,afz,afy];have h32:(⟨#[32]⟩:ByteArray).size=1:=rfl;have hd1:=Ct _ hq2;have hd2:=I3 part (part.getD s 0) hq1 (w8 zd A) (row.take k) (λe he=>(O _ (agU he)).1);rw[List.length_take]at hd2;have b1:(#[32]:Array UInt8).size=1:=rfl;have b2:(Lib.decDigits (part.getD row[k].2 0)).toArray.size<=3:=hd1
       ((iterate 6 revert K);refine aG eT ?_;iterate 7 intro K hK)
       ((iterate 7 revert K);refine pL CJ eT ?_)
       simp only[Ac,vj,afz,afy,hS];exact ab ar ar ar
      ·intro _
       have hmr:(dD row).length=row.length:=by simp[dD]
       simp only[hmr,agE,Ac,vj,afz,afy];have eA:=Oa (du part (part.getD s 0) row) (fA rows part s).1;have V:=vi rows part s
       have hg:rows.getD s []=row:=by rw[Y,aeS,aes q];rfl
       rw[Zn,hg]at V;have W:=pok.len;have l3:=pok.le
       rcases hps:fA rows part s with⟨ks,ns⟩
       rw[hps]at V eA W l3;simp only at V eA W l3
       have eL:(aT (ns++List.replicate (rows.length-s) 0)).length=rows.length:=by rw[aT,agv,aem,W,agS];omega
       have eQ:=Y4 ns rows.length s W q
       cases hp:pos ks (du part (part.getD s 0) row)with
       |some k=>
        rw[hp]at V eA;simp only[Option.map_some]at eA V;have eS:=KW ns rows.length s k W q
        ((iterate 6 revert K);refine yr (pt eA eL eQ eS) ?_)
        refine aG eW ?_;refine aw.mk (s+1) zd zd ?_;simp only[Ac,vj,afz,afy,V];exact ab ar ar ar
       |none=>
        rw[hp]at V eA;simp only[Option.map_none]at eA V;have eS:=KW ns rows.length s ks.length W q;have eK:=Oc (du part (part.getD s 0) row) ks hp;have eM:=Kr ks
        ((iterate 6 revert K);refine yr (nU eA eL eQ eS eK eM) ?_)
        refine aG eW ?_;refine aw.mk (s+1) zd zd ?_;simp only[Ac,vj,afz,afy,V];exact ab ar ar ar
     ·have hss:s=rows.length:=by replace h:=cq h;omega
      subst hss;have W:=pok.len
      have e1:(fA rows part rows.length).2++List.replicate (rows.length-rows.length) 0=gC rows part:=by rw[Nat.sub_self];simp[gC]
      have e2:=Kr (fA rows part rows.length).1;have e3:(fA rows part rows.length).1.length=gT rows part:=rfl;rw[e3]at e2
      have eL:(aT (gC rows part)).length=rows.length:=by rw[aT,agv];exact W
      simp only[e1];have hme:=pW rows part;have hmo:=oC rows hpo
      repeat((fail_if_success (with_reducible refine ku (i:=26) ?_));first|(with_reducible first|refine bA.up ?_|refineλ(K:AK)hK=>?_|refine wK ?_|refine wF ?_|(refine hK _ ?_;clear hK K))|simp only[go_sem]|with_reducible refine wA ?_|clear hK K)
      clear hK;clear hK;clear K;clear K
      repeat((fail_if_success (with_reducible refine ku (i:=26) ?_));first|(with_reducible first|refine bA.up ?_|refineλ(K:AK)hK=>?_|refine wK ?_|refine wF ?_|(refine hK _ ?_;clear hK K))|simp only[go_sem]|with_reducible refine wA ?_|clear hK K)
      refine bn (fL (k:=1) (i:=0) (j:=0) zs rfl (agT _) rfl rfl rfl rfl eL) zo ?_;simp only[afH,afG]
      ((iterate 4 revert K);refine aG e2 ?_;intro K hK K hK K hK)
      refine cn.part (λh2=>?_) (λh2=>?_)
      ·have hm:gT rows part=many:=by replace h2:=cq h2;omega
       obtain⟨f',rfl⟩:∃f',f=f'+1:=⟨f-1,zd⟩;rw[qS,if_pos hm]at H
       ((iterate 3 revert K);refine bc ?_)
       rw[<-H];exact bC.Ag (jt _ _)
      ·have hm:gT rows part≠many:=by replace h2:=cq h2;omega
       obtain⟨f',rfl⟩:∃f',f=f'+1:=⟨f-1,zd⟩;rw[qS,if_neg hm]at H
       ((iterate 3 revert K);refine aG e2 ?_)
       refine aw.mk (gC rows part,gT rows part) ⟨WL hN part,hme,pX rows part,f',?_,H⟩ ?_ ?_
       ·show rows.length+2<=f'+gT rows part;omega
       ·show rows.length+1-gT rows part<rows.length+1-many;omega
       ·simp only[vj];exact ab ar ar ar
section
variable {D:Nat->Prop} {nu:EQ} {o:AC} {w:World} {P:Program}
theorem U0{s:AS}{k i j id len:Nat}{ob:aa}{row:C5}(x':AV)(hto:∀(D:Nat->Prop)(nu:EQ)(w:World),RO D nu s.o w->RA D nu (s.o.set id none) w x' (nu id len))(hne:id≠k)(hk:s.o[k]?=some (some ob))(hz:0<ob.z)(hr:ob.rows[i]?=some row)(hj:row[j]?=some (.vec id len)) :
  Ek s (AS.mk s.t ((s.o.set id none).set k (some {ob with rows:=ob.rows.set i (row.set j x')})) s.y):=by
 intro f D nu a w hs;have hp:=fh (nu:=nu) (o:=s.o) (w:=w) id;have hro:=n3 hs.ro id
 have Y:(s.o.set id none)[k]?=some (some ob):=by rw[aex hne];exact hk
 have hh:ob.hl=({ob with rows:=ob.rows.set i (row.set j x')}:aa).hl:=by simp[aa.hl]
 obtain⟨g,cur,u⟩:∃g cur,B8 D nu (s.o.set id none) w k ob g cur:=by
  rcases hro.obj k ob Y with⟨_,e,_⟩|h|⟨g,es,cl,W⟩
  ·rw[e]at hr;simp at hr
  ·exact h
  ·have:=W.z;omega
 have W:=kp (nu:=nu) (o:=s.o.set id none) (w:=w) (w':=w) (ob':={ob with rows:=ob.rows.set i (row.set j x')}) Y hh.symm u.b8 rfl rfl rfl rfl (λ_ _=>rfl);refine⟨nu,hp.trans W,rfl,?_,(hs.tm.mono hp (λ_ _ h=>h)).mono W (λ_ _ h=>h),hs.mh⟩;have hil:=(aek.1 hr).1;have hjl:=(aek.1 hj).1;have hsl:=hto D nu w hs.ro
 have key:∀(q A:Nat)r c,(ob.rows.set i (row.set j x'))[q]?=some r->r[A]?=some c->∃r0 c0,ob.rows[q]?=some r0∧r0[A]?=some c0∧(c=c0∨(c=x'∧c0=.vec id len)):=by
  intro q A r c U O
  by_cases hi:i=q
  ·subst hi;rw[aew hil]at U;cases U
   by_cases hj':j=A
   ·subst hj';rw[aew hjl]at O;cases O;exact⟨row,_,hr,hj,.inr ⟨rfl,rfl⟩⟩
   ·rw[aex hj']at O;exact⟨row,c,hr,O,.inl rfl⟩
  ·rw[aex hi]at U;exact⟨r,c,U,O,.inl rfl⟩
 refine sg hro Y hh.symm u.b8 W (λ_ _=>rfl) (cur:=cur) ⟨u.ez,u.o4,λV=>?_,λV=>?_,u.z,λq r H=>?_,λq A r c x U O h3=>?_,λq A r c x U O h3=>?_⟩
 ·obtain⟨q1,q2,q3⟩:=u.box V;exact⟨q1,by simpa using q2,q3⟩
 ·obtain⟨cap,q1,q2,q3,q4⟩:=u.vec V;exact⟨cap,by simpa using q1,by simpa using q2,q3,q4⟩
 ·by_cases hi:i=q
  ·subst hi;rw[aew hil]at H;cases H;rw[List.length_set];exact u.row i row hr
  ·rw[aex hi]at H;exact u.row q r H
 ·obtain⟨r0,c0,k1,k2,e⟩:=key q A r c U O;have h0:=u.cell q A r0 c0 x k1 k2 h3
  rcases e with rfl|⟨rfl,rfl⟩
  ·exact h0.mono W (λ_ _ h=>h)
  ·have hx:x=nu id len:=by
    cases h0 with
    |vec=>rfl
   rw[hx];exact hsl.mono W (λ_ _ h=>h)
 ·obtain⟨r0,c0,k1,k2,_⟩:=key q A r c U O;exact u.one q A r0 c0 x k1 k2 h3
theorem BO{s:AS}{k i j id:Nat}{ob ob2:aa}{row:C5}(u:id≠k)(V:s.o[k]?=some (some ob))(A:0<ob.z)(O:ob.rows[i]?=some row)(W:row[j]?=some (.vec id 0))(U:s.o[id]?=some (some ob2))(H:ob2.fc=false)(q:ob2.z=0) :
  Ek s (AS.mk s.t ((s.o.set id none).set k (some {ob with rows:=ob.rows.set i (row.set j (.mp ob2.rows))})) s.y):=U0 (.mp ob2.rows) (λD nu w h=>Qd h U H q) u V A O W
end
def iM(l:Do):List C5:=l.zipIdx.map (λp=>[.v (.int .i64 (p.1:Nat)),.v (.int .i64 (p.2:Nat))])
@[go_sem] theorem adM(n:Nat)(l:Do):bE n (iM l)=true:=bt _ (λp=>rfl) _
theorem JS(x:Nat):∀(l:Do)(k:Nat),o9 (.int .i64) (.int .i64 (x:Nat)) ((l.zipIdx k).map (λp=>[.v (.int .i64 (p.1:Nat)),.v (.int .i64 (p.2:Nat))]))=some ((l.findIdx? (λy=>x==y)).map (λn=> .v (.int .i64 ((n+k:Nat):Int))))
 | [],k=>rfl
 |a::l,k=>by
  have ih:=JS x l (k+1);rw[List.zipIdx_cons,afZ,o9,if_pos (show dH (.int .i64) (.int .i64 (a:Nat))=true from rfl)]
  have e:fx (.int .i64 (x:Nat)) (.int .i64 (a:Nat))=(x==a):=by
   rw[fx,Bool.eq_iff_iff,beq_iff_eq,beq_iff_eq];omega
  rw[e,List.findIdx?_cons]
  cases h:x==a
  ·simp only[Bool.false_eq_true,if_false];rw[ih,Option.map_map]
   congr 2;funext i;simp;omega
  ·simp
theorem V7(x:Nat)(l:Do):o9 (.int .i64) (.int .i64 (x:Nat)) (iM l)=some ((l.findIdx? (λy=>x==y)).map (λn=> .v (.int .i64 (n:Nat)))):=JS x l 0
theorem JV(x:Nat)(v:AV):∀(l:Do)(k:Nat),l.findIdx? (λy=>x==y)=none->nF (.int .i64) (.int .i64 (x:Nat)) v ((l.zipIdx k).map (λp=>[.v (.int .i64 (p.1:Nat)),.v (.int .i64 (p.2:Nat))]))=some ((l.zipIdx k).map (λp=>[.v (.int .i64 (p.1:Nat)),.v (.int .i64 (p.2:Nat))])++[[.v (.int .i64 (x:Nat)),v]])
 | [],k,_=>rfl
 |a::l,k,h=>by
  rw[List.findIdx?_cons]at h
  have e:fx (.int .i64 (x:Nat)) (.int .i64 (a:Nat))=(x==a):=by
   rw[fx,Bool.eq_iff_iff,beq_iff_eq,beq_iff_eq];omega
  cases q:x==a
  ·rw[q]at h;simp only[Bool.false_eq_true,if_false,Option.map_eq_none_iff]at h;have ih:=JV x v l (k+1) h;rw[List.zipIdx_cons,afZ,nF,if_pos (show dH (.int .i64) (.int .i64 (a:Nat))=true from rfl),e,q,if_neg zs,ih];rfl
  ·rw[q]at h;simp at h
theorem V8(x:Nat)(l:Do)(h:l.findIdx? (λy=>x==y)=none):nF (.int .i64) (.int .i64 (x:Nat)) (.v (.int .i64 (l.length:Nat))) (iM l)=some (iM (l++[x])):=by
 rw[iM,JV x _ l 0 h,iM,List.zipIdx_append];simp
theorem TC{o:AC}{A O z2 H:Nat}{u q:List C5}(V:bE 0 u=true)(U:bE 0 q=true):bC o (.agg [.aA A u O,.aA z2 q H]) (.agg [.aA A u O,.aA z2 q H]):=
 bC.of 5 (p:=(AV.aA A u O).wf 0=true∧(AV.aA z2 q H).wf 0=true∧True) (by simp only[jD,iY]) ⟨by rw[AV.wf];exact V,by rw[AV.wf];exact U,trivial⟩
def gA(rows:N3)(ends:N2):AV:= .agg (gV rows ends)
def z8(n:Nat)(part:Do)(order:Do)(rows:N3)(ends:N2):AC:=[some ⟨123,2,false,[[.vec 6 rows.length,.vec 7 rows.length]]⟩,some ⟨56,1,false,[[.aA 1 (aT part) n]]⟩,some ⟨199,0,false,iM (order.map (λs=>part.getD s 0))⟩,some ⟨199,1,false,[[.vec 2 0]]⟩,some ⟨3,1,true,aT order⟩,some ⟨56,1,false,[[.vec 4 order.length]]⟩,some ⟨164,1,true,rows.map (λr=>[.mp (dD r)])⟩,some ⟨4,1,true,ends.map (λb=>[.v (.bool b)])⟩]
theorem TV{rows:N3}{ends:N2}(ok:GOk rows ends)(h0:0<rows.length)(hpt:(b9 rows ends).length=rows.length):aj prog 85 [.vp (gV rows ends)] (gA (da rows ends (b9 rows ends)).rows (da rows ends (b9 rows ends)).ends):=by
 have hN:=ok.n;have hE:=ok.e;have CP:=Ur ok;generalize hpart:b9 rows ends=part at CP hpt
 have hA:aQ 0 [AV.vp (gV rows ends)]=true:=by simp only[gV,aQ,AV.wf,uj,ui,agp]
 have hF:(gA (da rows ends part).rows (da rows ends part).ends).wf 0=true:=by simp only[gA,gV,aQ,AV.wf,uj,ui,agp]
 generalize hrv:gA (da rows ends part).rows (da rows ends part).ends=rv at hF⊢
 (refine aj.iy func85 rfl zo zo rfl hA hF ?_;simp only[ntmps85,results85,ae0,aeg,Nat.reduceAdd,Nat.reduceSub,afJ,List.replicate_zero,afz,afy])
 simp only[gV,hE]at CP hA⊢
 have eP:(aT part).getD 0 []=[.v (.int .i64 ((part.getD 0 0:Nat):Int))]:=by
  rw[aT,aeS,aeu,aes zd,aeS,aes zd];rfl
 (refine bc ?_;intro K hK K hK)
 refine ah.one CP ?_
 (revert K;revert K;refine jd 4 eP ?_;intro K hK K hK)
 refine bn (dS (k:=0) (i:=0) (j:=0) 164 1 zs rfl zs rfl rfl) zo ?_;simp only[afH,afG,ae0,aeg,Nat.reduceAdd,afz,afy];refine bn (dS (k:=0) (i:=0) (j:=1) 4 1 zs rfl zs rfl rfl) zo ?_;simp only[afH,afG,ae0,aeg,Nat.reduceAdd,afz,afy]
 (revert K;revert K;refine bc ?_;intro K hK)
 refine aN (ι:=B7) 7 (λst=>[(6,.v (.int .i64 st.rows.length))]) (λst=>z8 rows.length part st.order st.rows st.ends) (λst=>rows.length+1-st.rows.length) (λst=>Lk rows part st∧gA (pj rows ends part (rows.length+1-st.rows.length) st).rows (pj rows ends part (rows.length+1-st.rows.length) st).ends=rv) q0
  ⟨KL rows part h0,hrv⟩ ?_ ?_
 ·simp only[z8,q0];refine ab (bF ?_) (bF ?_) ar
  all_goals first|rfl|exact⟨rfl,rfl⟩|exact⟨rfl,rfl,rfl⟩|exact⟨⟨rfl,rfl⟩,rfl⟩
 ·rintro st ⟨u,A⟩ K hK;have hol:=mW part u.nd u.lt;have hle:=u.le;have hel:=u.ends
  have eL:∀l:Do,(aT l).length=l.length:=λl=>by simp[aT]
  simp only[z8]
  (revert K;revert K;refine aG eL ?_;intro K hK K hK K hK)
  refine cn.part (λh=>?_) (λh=>?_)
  ·have O:st.rows.length<st.order.length:=by replace h:=cq h;omega
   have U:fC st<rows.length:=u.lt _ (bK O);have eW:=ae (k:=st.rows.length) zd
   have eG:(aT st.order).getD st.rows.length []=[.v (.int .i64 ((fC st:Nat):Int))]:=by
    rw[fC,aT,aeS,aeu,aes O,aeS,aes O];rfl
   have CS:=K1 rows ends (fC st);have Y:=ok.lab _ (afm U);have hln:=ok.len _ (afm U);have V:=BK rows ends (fC st) U zd (λp H=>Nat.le_trans (Y p H).1 zs) (ok.qT _ (afm U)) zd;simp only[gV,hE]at CS V;have hri:=ok.qT _ (afm U)
   have hg:rows.getD (fC st) []=rows[fC st]:=by rw[aeS,aes U];rfl
   have W:gj rows ends part st=⟨(fX part st.order rows[fC st]).1,st.rows++[(fX part st.order rows[fC st]).2],st.ends++[ends.getD (fC st) false]⟩:=by rw[gj,hg]
   generalize rows[fC st]=row at Y hln V W hri hg;rw[show rows.length+1-st.rows.length=(rows.length-st.rows.length)+1 by omega,pj,if_pos O]at A
   ((iterate 3 revert K);refine aG (mQ eG eL h) ?_;iterate 6 intro K hK)
   ((iterate 6 revert K);refine lG CS ?_;iterate 4 intro K hK)
   refine rF V 35 (λk=>z8 rows.length part (fX part st.order (row.take k)).1 st.rows st.ends++[some ⟨164,0,false,dD (fX part st.order (row.take k)).2⟩,some ⟨164,1,false,[[.vec 8 0]]⟩]) (λk=>k<=row.length) (aen _) ?_ ?_ ?_ zo zo ?_ ?_ ?_
   ·((iterate 4 revert K);exact Fe)
   ·simp only[aQ,AV.wf,uj,ui,agp]
   ·simp only[z8,afz,afy,List.take_zero,fX,List.foldl_nil];refine ab ar (bF ?_) ar
    all_goals rfl
   ·intro x hx;obtain⟨o,_,rfl⟩:=agR.1 hx
    rfl
   ·intro k x hk hx
    obtain⟨hkl,hx⟩:∃h:k<row.length,x=[.v (.string row[k].1),.v (.int .i64 (row[k].2:Nat))]:=by
     obtain⟨h1,h2⟩:=aek.1 hx;simp only[dD,agv]at h1;exact⟨h1,by rw[<-h2];simp[dD]⟩
    subst hx;obtain⟨hz1,hz2⟩:=Y _ (afm hkl)
    have eT:(aT part).getD row[k].2 []=[.v (.int .i64 ((part.getD row[k].2 0:Nat):Int))]:=by
     rw[aT,aeS,aeu,aes zd,aeS,aes zd];rfl
    have hI:=nc part st.order (row.take k) row[k];rw[<-agD hkl,KM]at hI;obtain⟨k1,k2,k3,k4,k5,_⟩:=xl part (n:=rows.length) u.nd u.lt (row.take k) (λp H=>(Y _ (agU H)).2);have hdl:=mW part k1 k2
    have hnl:look (fX part st.order (row.take k)).2 row[k].1=none:=lx.2 λq=>by
     rw[k5]at q;exact Dr (l:=row.map Prod.fst) (oN hri) (i:=k) (by simpa using hkl) (by simpa [List.map_take]using q)
    rcases hqs:fX part st.order (row.take k)with⟨od,ow⟩
    rw[hqs]at hI k1 k2 k3 k4 k5 hdl hnl;simp only at hI k1 k2 k3 k4 k5 hdl hnl;have eA:=V7 (part.getD row[k].2 0) (od.map (λs=>part.getD s 0));have hqp:(od.map (λs=>part.getD s 0)).findIdx? (λy=>part.getD row[k].2 0==y)=kY part od (part.getD row[k].2 0):=rfl;simp only[z8,afz,afy]
    cases H:kY part od (part.getD row[k].2 0)with
    |some n=>
     rw[hqp,H]at eA;rw[H]at hI;simp only[Option.map_some]at eA hI;have eS:=uA row[k].1 n ow hnl
     ((iterate 4 revert K);refine aG (mQ eT eA eS) ?_)
     simp only[z8,afz,afy,hI];exact ab ar ar ar
    |none=>
     rw[hqp,H]at eA;rw[H]at hI;simp only[Option.map_none]at eA hI;have eS:=uA row[k].1 od.length ow hnl;have eK:=V8 (part.getD row[k].2 0) (od.map (λs=>part.getD s 0)) (hqp.trans H);rw[agv]at eK
     ((iterate 4 revert K);refine aG (qu eT eA eS eK eL) ?_)
     simp only[z8,afz,afy,hI];refine ab ar (bF ?_) ar;exact⟨by rw[agN];rfl,by simp[aT]⟩
   ·intro _
    have hmr:(dD row).length=row.length:=by simp[dD]
    simp only[hmr,agE];obtain⟨k1,k2,k3,k4,k5,t,k6⟩:=xl part (n:=rows.length) u.nd u.lt row (λp H=>(Y _ H).2);have hdl:=mW part k1 k2
    rcases hqs:fX part st.order row with⟨od,ow⟩
    rw[hqs]at k1 k2 k3 k4 k5 k6 hdl W;simp only at k1 k2 k3 k4 k5 k6 hdl W
    have eG2:(aT od).getD st.rows.length []=[.v (.int .i64 ((fC st:Nat):Int))]:=by
     rw[k6,aT,agN,dX (by rw[agv];exact O)];exact eG
    have eE:(ends.map (λb=>[AV.v (.bool b)])).getD (fC st) []=[.v (.bool (ends.getD (fC st) false))]:=by
     rw[aeS,aeu,aes zd,aeS,aes zd];rfl
    generalize ends.getD (fC st) false=be at eE W;simp only[z8,afz,afy]
    ((iterate 4 revert K);refine dG 17 ?_;iterate 4 intro K hK)
    refine bn (BO (k:=9) (i:=0) (j:=0) zs rfl (agT _) rfl rfl rfl rfl rfl) zo ?_;simp only[afH,afG]
    ((iterate 4 revert K);refine aG (pt eG2 eE eL eW) ?_)
    have hnok:Lk rows part (gj rows ends part st):=tP rows ends part (λr hr p H=>(ok.lab r hr p H).2) u O;rw[W]at hnok A
    refine aw.mk ⟨od,st.rows++[ow],st.ends++[be]⟩ ⟨hnok,?_⟩ ?_ ?_
    ·rw[show rows.length+1-(B7.rows ⟨od,st.rows++[ow],st.ends++[be]⟩).length=rows.length-st.rows.length by simp only[aem,agz];omega];exact A
    ·show rows.length+1-(st.rows++[ow]).length<rows.length+1-st.rows.length;rw[aem,agz];omega
    ·simp only[z8,aem,agz,agN,afZ,List.map_nil];exact ab ar ar ar
     all_goals trace_state
  ·have hge:st.rows.length=st.order.length:=by replace h:=cq h;omega
   rw[show rows.length+1-st.rows.length=(rows.length-st.rows.length)+1 by omega,pj,if_neg zd]at A;clear h
   ((iterate 3 revert K);refine dG 19 ?_;intro K hK)
   refine bn (fL (k:=0) (i:=0) (j:=0) zs rfl (agT _) rfl rfl rfl rfl (agv _)) zo ?_;simp only[afH,afG];refine bn (fL (k:=0) (i:=0) (j:=1) zs rfl (agT _) rfl rfl rfl rfl ((agv _).trans hel)) zo ?_;simp only[afH,afG]
   (revert K;refine bc ?_)
   rw[<-A];simp only[gA,gV,hel];exact TC (uj _ _) (ui _ _)
section
open Go.RowKit Go.Shelf
def Th:Go.Shelf.Ren:=⟨fun|194=>116|n=>n,fun|31=>55|9=>9|3=>3|4=>4|0=>0|n=>n,λn=>n⟩
theorem EI:Lays.n194 prog Th:={
 mixed:=zo
 f194:=func116
 t0:=zo
 a0:=λw=>zo
 z0:=λw=>zo
 v0:=λw=>zo
 t3:=zo
 a3:=λw=>zo
 z3:=λw=>zo
 v3:=λw=>zo
 t4:=zo
 a4:=λw=>zo
 z4:=λw=>zo
 v4:=λw=>zo
 t9:=zo
 a9:=λw=>zo
 z9:=λw=>zo
 v9:=λw=>zo
 t31:=zo
 a31:=λw=>zo
 z31:=λw=>zo
 v31:=λw=>by kernel_rfl}
attribute [local go_sem] Oper.semAt_some
def rT(l:Pi):B0:=(l.filter (λc=>c.kind==1)).map (λc=>c.label)
theorem Mx(l:Pi)(c:XC):rT (l++[c])=if c.kind=1 then rT l++[c.label]else rT l:=by
 grind[rT]
theorem FB(l:Pi):(rT l).length<=l.length:=by
 grind[rT,agv,List.length_filter_le]
def u6(x:Ex):List (List UInt8):=Go.Lib.compact (((aI x).map (λs=>s.data.toList)).mergeSort (λx y=>decide (x<=y)))
def ct(x:Ex):B0:=(u6 x).map (λl=>⟨l.toArray⟩)
open Go.Sort in
theorem IN(x:Ex)(cx:Id)(w:World)(hx:iv w x cx)(hok:x.ok)(hR:aD x=true)(hN:(aq x).length<=1000000)(hE:∀L:Pi,L.map XC.sig=(aq x).map Ex.sig->rT L=aI x) :
  Calls prog 83 #[.agg cx.toArray] w λe w'=>∃v,e=.returned v∧rq w' (ct x) v∧Below w.heap.size w w'∧∀b off n c,v=.slice (some ⟨b,off,none⟩) n c->w.heap.size<=b:=by
 have HRt:=Lib.hid (λW hb=>hR ▸ zN x cx W (hx.below hb) hok);obtain⟨k,s,kids⟩:=x;have hx':=hx;rw[iv]at hx;obtain⟨sv,rfl,hr⟩:=hx;obtain⟨p,c,rfl, -, -⟩:=hr.shape;refine(callsIn_wide (n:=9)).1 ?_;have HX:=Lib.hid hx';have HO:=Lib.hid hok;have HN:=Lib.hid hN;have HE:=Lib.hid hE;clear hx' hok hN hr hE;obtain⟨i0,hi,hz0,hz1,hz2⟩:=info_parts TJ;have HI:=Lib.hid (show _∧_∧_∧_ from⟨hi,hz0,hz1,hz2⟩);clear hi hz0 hz1 hz2;refine callsIn_of_wp_marks func83 rfl trivial ?_ rfl;simp only[ntmps83,List.size_toArray,List.length_cons,List.length_nil,Nat.reduceAdd,Nat.reduceSub,Array.replicate_succ,Array.replicate_zero,List.push_toArray,List.append_toArray,afy,afz]
 gi_wp2_with fail
 refine⟨trivial,(callsIn_wide.2 (HRt.out _ (((Below.refl w.heap.size w).alloc (aed _) _).alloc zk _))).mono ?_⟩;rintro e w1 ⟨rfl,hb1⟩;have HB1:=Lib.hid hb1;clear hb1;have hxb:w1.heap[w.heap.size]?=some (.cells #[.int .i64 k,.string s,.slice p kids.length c] 25 (0,0)):=(HB1.out.block w.heap.size ahn).trans (mf (gO w (.cells #[.int .i64 k,.string s,.slice p kids.length c] 25)) _);have A:w1.heap[w.heap.size+1]?=some (.cells #[.slice none 0 0] 55 (0,0)):=(HB1.out.block (w.heap.size+1) zk).trans (by have:=gO (w.alloc (.cells #[.int .i64 k,.string s,.slice p kids.length c] 25)) (.cells #[.slice none 0 0] 55);simp_all);have hx0:=aC hxb 0;have hx1:=aC hxb 1;have hx2:=aC hxb 2;simp only[aet,afr,afs]at hx0 hx1 hx2
 gi_wp2_with fail
 refine⟨trivial,?_⟩;refine(callsIn_wide.2 (Bj _ _ _ _ _ _)).mono ?_;rintro e w' ⟨rfl,rfl⟩
 gi_wp2_with fail
 have hn1:w.heap.size+2<=w1.heap.size:=by grind
 obtain⟨W0,hW0⟩:∃W0,w1.alloc (.cells #[.int .i64 k,.string s,.slice p kids.length c] 25)=W0:=⟨_,rfl⟩
 have hs0:W0.heap.size=w1.heap.size+1:=by rw[<-hW0];simp
 have hb01:Below w1.heap.size w1 W0:=by rw[<-hW0];exact(Below.refl _ _).alloc (aed _) _
 have hb0:Below w.heap.size w W0:=cV (cV (((Below.refl w.heap.size w).alloc (aed _) _).alloc zk _) HB1.out) hb01;have hbo:W0.heap[w.heap.size+1]?=some (.cells #[.slice none 0 0] 55 (0,0)):=(hb01.block _ zd).trans A
 have hbp:W0.heap[w1.heap.size]?=some (.cells #[.int .i64 k,.string s,.slice p kids.length c] 25 (0,0)):=by grind[gO]
 have hseq:=wc Fence.wide (λ_=>trivial) rfl rfl 8 w.heap.size (w.heap.size+2) w1.heap.size 9 zs _ _ w W0 (aed _) zd HX.out HO.out (.of hb0) hbp;rw[hW0];clear hxb A hx0 hx1 hx2 hbp
 refine QZ (lb:= #[.pointer (some ⟨w1.heap.size,0,none⟩)]) (gf:=109) rfl (enters_of func109 zo rfl) hseq (Below.refl _ _) (λ_=>rfl)
  (λpre W=>(∃v,Boxed W (w.heap.size+1) 55 v∧W.ownsRow w.heap.size 9 1 v (rT pre).length ((rT pre).map Value.string)∧True)∧(Below w.heap.size w W∧W0.heap.size<=W.heap.size)) (λ_ _ _=>False)
  (((holdsRow_own w.heap.size (w.heap.size+1) 55 9 1 (λpre:Pi=>(rT pre).length) (λpre=>(rT pre).map Value.string) (λ_ _=>True)).from _).and ((ownFrom_below (aed _) zd).and (λ_ _ _ _ hs hg _=>Nat.le_trans hs hg.size)))
  (λ_ _ _ _ _ hs _ _=>hs) ⟨⟨_,hbo,World.ownsRow_nil _ _ _ _,trivial⟩,hb0,aed _⟩ 3 (λc=> #[.int .i64 c.kind,.string c.label,.slice c.ptr c.len c.cap]) 25 (λ_ _ h=>h.2.2) ?assign ?body ?done ?stop
 case assign=>
  intro l x W K hK;simp only[handed,XC.val,afB,afC,afD,afE,afF,afG,afH];simp only[handed,XC.val,Act.sd,afB,afC,afD,afE,afF,afG,afH]at hK
  gi_wp2
  exact hK
 case body=>
  rintro l pre x B W hl hrec ⟨⟨v,Y,u, -⟩,hB,hsz⟩ hBB hbB hlen;have hvc:=Y.cell;have hvf:=Y.frozen;have hle:=FB pre;have hNN:=HN.out;have hp0:=aC hbB 0;have hp1:=aC hbB 1;simp only[aet,afr,afs]at hp0 hp1;have HS:=Lib.hid (Mx pre x);have hxl:=x.hl;simp only[handed,Act.sd,afB,afC,afD,afE,afF,afG,afH]
  by_cases hh:x.kind=1
  ·have HH:=Lib.hid hh;have HV:=Lib.hid Y;have HR:=Lib.hid u;have HB:=Lib.hid hB;have HZ:=Lib.hid hsz;clear Y u hB hsz
   gi_wp2_with (gi_at_builtin;refine wpListIn_append_own _ rfl _ _ 55 rfl w.heap.size 9 i0 (.string ⟨#[]⟩) 1 16 Tryz.underlying55 HI.out.1 HI.out.2.1 HI.out.2.2.1 HI.out.2.2.2 rfl zs _ _ _ rfl (HR.out.alloc _) ⟨W.heap.size,0,none⟩ 1 1 [.string x.label] rfl rfl (cell_one_new _ _ _) (by simp[Value.oneCell']) (by grind[maxLen]) zd (by have:=HB.out.size;simp;omega) ?_;intro v' w1' hown' hgrow _;obtain⟨g',cap',rfl⟩:=ownsRow_succ hown';obtain⟨hv1,hv2,hr2,hk2,hb2⟩:=HV.out.appended zs HR.out HB.out.size (agV _) hown' hgrow;have HKP:=Lib.hid (z6 (hi:=w.heap.size+2) HR.out hgrow (agV _) (Nat.lt_succ_self _) (.slice (some ⟨g',0,none⟩) ((rT pre).length+1) cap'));have hc1:=hv1.cell;have hf1:=hv1.frozen;have HV2:=Lib.hid hv2;have HR2:=Lib.hid hr2;have HK2:=Lib.hid hk2;have HB2:=Lib.hid hb2;clear hv1 hv2 hr2 hk2 hb2 hown' hgrow)
   refine⟨HK2.out.from _,HKP.out,⟨_,HV2.out,?_,trivial⟩,HB.out.trans HB2.out,Nat.le_trans HZ.out HK2.out.size⟩;rw[HS.out,if_pos HH.out];simpa using HR2.out
  ·have HH:=Lib.hid hh;have HV:=Lib.hid Y;have HR:=Lib.hid u;have HB:=Lib.hid hB;have HZ:=Lib.hid hsz;clear Y u hB hsz
   gi_wp2
   refine⟨KeepsFrom.refl _ _,Kept.refl _ _ _ _,⟨v,HV.out,?_,trivial⟩,HB.out,HZ.out⟩;rw[HS.out,if_neg HH.out];exact HR.out
 case done=>
  rintro D xs W hD hS ⟨⟨v,Y,u, -⟩,hB,hsz⟩ hK;rw[HE.out xs hS]at u
  have hne: ¬w.heap.size+1=D:=zd
  have hvc:=Y.cell;have hvf:=Y.frozen;have A:W.heap[w.heap.size+1]?=some (.cells #[v] 55 (0,0)):=Y
  have hlen:(aI (.mk k s kids)).length<=1000000:=by
   rw[<-HE.out xs hS];have h1:=FB xs;have h2:=HN.out
   have h3:xs.length=(aq (.mk k s kids)).length:=by simpa using congrArg List.length hS
   omega
  have HBw:=Lib.hid hB;have HKw:=Lib.hid hK
  have hD2:w1.heap.size+1<=D:=zd
  clear hB hK hS hsz hs0 hb01 hb0 hbo hseq
  rcases u.2 with⟨rfl,hz⟩|⟨g,cap,cur,rfl,hgb,hgh,r1,r2,r3,r4⟩
  ·have hnil:aI (.mk k s kids)=[]:=List.eq_nil_of_length_eq_zero hz;have HNil:=Lib.hid hnil;have HOb:=Lib.hid A;clear u Y A hnil hz
   gi_wp2_with fail
   refine⟨trivial,(callsIn_wide.2 (AnyM.slices_Sort_string_none qK none 0 _)).mono ?_⟩;rintro e w2 ⟨rfl,rfl⟩
   gi_wp2_with fail
   refine⟨trivial,(callsIn_wide.2 (Any.slices_Compact_string_empty EI none 0 _)).mono ?_⟩;rintro e w2 ⟨rfl,rfl⟩
   gi_wp2_with fail
   have hKs:=fF HKw.out (b:=w.heap.size+1) (o:=0) (.slice none 0 0) zd;refine⟨zk,.inl ⟨_,_,rfl,run_takeDeferred hKs,?_⟩⟩;have hbx:=fE (lr HOb.out (.slice none 0 0)) (.deferred none) (D:=D) hne;have hcf:=aC hbx 0;simp only[aet,afr]at hcf
   refine⟨.slice none 0 0,?_,_,rfl,?_,?_,λb off n c e=>by cases e⟩
   ·simp[results,results83,go_sem,hcf]
   ·have:ct (.mk k s kids)=[]:=by rw[ct,u6,HNil.out,List.map_nil,List.mergeSort_nil];rfl
    rw[this];exact .inl ⟨.inl rfl,rfl⟩
   ·exact nK (HBw.out.setCell (p:=⟨w.heap.size+1,0,none⟩) (agV _) _) zd _ hKs
  ·obtain⟨nm,hnm⟩:∃nm:List (List UInt8),(aI (.mk k s kids)).map (λs=>s.data.toList)=nm:=⟨_,rfl⟩
   have hl1:(aI (.mk k s kids)).length=nm.length:=by grind
   have hen:(aI (.mk k s kids)).map Value.string=nm.map encStr:=by
    grind[List.map_map,List.map_congr_left]
   have hU:u6 (.mk k s kids)=Go.Lib.compact (nm.mergeSort (λx y=>decide (x<=y))):=by rw[u6,hnm]
   rw[hl1]at hlen;simp only[hl1,hen]at r1 r4 hvc Y A u;rw[Nat.mul_one]at r4;have hgl:g<W.heap.size:=(aeh.1 hgh).1
   have hgo:w.heap.size+1≠g:=λe=>by
    grind
   have hgD:D≠g:=λe=>by
    subst e;have:=HKw.out;grind
   have hH:=holds_of_block hgh r4;have CS:=Lib.hid (AnyM.slices_Sort_string qK g 0 cap nm W hH hgl zd);have HOb:=Lib.hid A;have HG:=Lib.hid hgh;have HR:=Lib.hid (show _∧_∧_ from⟨r1,r2,r3⟩);have HU:=Lib.hid hU;clear u Y A hH r4 hnm hen hU r1 r2 r3 hgh;simp only[hl1];clear hl1
   gi_wp2_with fail
   refine⟨trivial,(callsIn_wide.2 CS.out).mono ?_⟩;rintro e w2 ⟨rfl,kk,os,rfl⟩;obtain⟨r1,r2,r3⟩:=HR.out;have hg2:=heap_sorted (n:=kk) (os:=os) (nm.mergeSort (λx y=>decide (x<=y))).toArray HG.out;have V:=grownBy_sorted (w:=W) (g:=g) (n:=kk) (os:=os) (nm.mergeSort (λx y=>decide (x<=y))).toArray;have hls:(nm.mergeSort (λx y=>decide (x<=y))).length=nm.length:=List.length_mergeSort _;have htk:=take_putCells cur (nm.mergeSort (λx y=>decide (x<=y))) zd
   have hsz2:(putCells encStr 0 (nm.mergeSort (λx y=>decide (x<=y))).toArray cur).size=cap:=by grind[putCells]
   have hDl:D<W.heap.size:=(aeh.1 HKw.out).1;generalize hW2:Go.Sort.grow (putRow encStr (Go.Sort.ahead W kk) g 0 (nm.mergeSort (λx y=>decide (x<=y))).toArray) os=W2 at *;have U:W2.heap[w.heap.size+1]?=some (.cells #[.slice (some ⟨g,0,none⟩) nm.length cap] 55 (0,0)):=(V.block _ (aeh.1 HOb.out).1 (by grind)).trans HOb.out;have hD3:W2.heap[D]?=some (.deferred (some [])):=(V.block _ hDl (by grind)).trans HKw.out;have hB2:Below w.heap.size w W2:=HBw.out.grown V HBw.out.size (λj e=>by grind);have hc2:=aC U 0;have hf2:=dq U 0;simp only[aet,afr]at hc2;have hH2:=holds_of_block hg2 htk;have CC:=Lib.hid (Any.slices_Compact_string EI g 0 cap (nm.mergeSort (λx y=>decide (x<=y))) W2 hH2 zd zd);rw[hls]at CC;have HG2:=Lib.hid hg2;have HOb2:=Lib.hid U;have HD3:=Lib.hid hD3;have HB2:=Lib.hid hB2;have HS2:=Lib.hid hsz2;clear hg2 V htk hsz2 hW2 U hD3 hB2 hH2 HOb HG HKw HBw CS hvc hvf
   gi_wp2_with fail
   refine⟨trivial,(callsIn_wide.2 CC.out).mono ?_⟩;rintro e w3 ⟨rfl,q,rfl⟩
   have hcl:(u6 (.mk k s kids)).length<=nm.length:=by rw[HU.out, <- hls];exact Go.Lib.compact_length_le _
   rw[<-HU.out];generalize hZ:(u6 (.mk k s kids)++List.replicate (nm.length-(u6 (.mk k s kids)).length) ([]:List UInt8))=Z
   have hZl:Z.length=nm.length:=by grind
   have hg3:=heap_sorted (n:=q) (os:= #[]) Z.toArray HG2.out;have H:=grownBy_sorted (w:=W2) (g:=g) (n:=q) (os:= #[]) Z.toArray;have htk:=take_putCells (putCells encStr 0 (nm.mergeSort (λx y=>decide (x<=y))).toArray cur) Z (by rw[hZl,HS2.out];omega);rw[grow_empty]at hg3 H;have hDl:D<W2.heap.size:=(aeh.1 HD3.out).1;generalize putRow encStr (Go.Sort.ahead W2 q) g 0 Z.toArray=W3 at *;have O:W3.heap[w.heap.size+1]?=some (.cells #[.slice (some ⟨g,0,none⟩) nm.length cap] 55 (0,0)):=(H.block _ (aeh.1 HOb2.out).1 (by grind)).trans HOb2.out;have hD4:W3.heap[D]?=some (.deferred (some [])):=(H.block _ hDl (by grind)).trans HD3.out;have hB3:Below w.heap.size w W3:=HB2.out.grown H HB2.out.size (λj e=>by grind);have hc3:=aC O 0;have hf3:=dq O 0;simp only[aet,afr]at hc3;have HG3:=Lib.hid hg3;have HOb3:=Lib.hid O;have HD4:=Lib.hid hD4;have HB3:=Lib.hid hB3;have HT:=Lib.hid htk;have HZ:=Lib.hid hZ;have HZl:=Lib.hid hZl;clear hg3 H htk O hD4 hB3 hZ hZl hc2 hf2
   gi_wp2_with fail
   have hKs:=fF HD4.out (b:=w.heap.size+1) (o:=0) (.slice (some ⟨g,0,none⟩) (u6 (.mk k s kids)).length cap) zd;refine⟨zk,.inl ⟨_,_,rfl,run_takeDeferred hKs,?_⟩⟩;have hbx:=fE (lr HOb3.out (.slice (some ⟨g,0,none⟩) (u6 (.mk k s kids)).length cap)) (.deferred none) (D:=D) hne;have hcf:=aC hbx 0;simp only[aet,afr]at hcf
   refine⟨.slice (some ⟨g,0,none⟩) (u6 (.mk k s kids)).length cap,?_,_,rfl,?_,?_,λb off n c e=>by grind⟩
   ·simp[results,results83,go_sem,hcf]
   ·have hg4:=fE (fF HG3.out (b:=w.heap.size+1) (o:=0) (.slice (some ⟨g,0,none⟩) (u6 (.mk k s kids)).length cap) hgo.symm) (.deferred none) (D:=D) hgD.symm;refine .inr ⟨g,0,cap,by rw[ct,agv],by grind[ct,agv],r2,λi x hx=>⟨[.string x],rfl,?_,trivial⟩⟩;rw[aC hg4]
    have hi:i<(u6 (.mk k s kids)).length:=by grind[ct,aek]
    have e1:=congrArg (λl:Id=>l[i]?) HT.out
    have hZi:Z[i]?=some (u6 (.mk k s kids))[i]:=by rw[<-HZ.out,List.getElem?_append_left hi,aes hi]
    rw[HZl.out,List.getElem?_take_of_lt zd,Array.getElem?_toList,List.getElem?_map,hZi]at e1;rw[Nat.zero_add,Nat.mul_one,e1];rw[ct,List.getElem?_map,aes hi]at hx
    grind
   ·exact nK (HB3.out.setCell (p:=⟨w.heap.size+1,0,none⟩) (agV _) _) zd _ hKs
 grind
section
open Go.Lib
theorem YP{α:Type} [Inhabited α] [DecidableEq α]{le:α->α->Prop}(tr:∀a b c,le a b->le b c->le a c)(an:∀a b,le a b->le b a->a=b)(rf:∀a,le a a)(d:Array α)(O:∀i j,i<=j->j<d.size->le d[i]! d[j]!) :
  ∀m,m<=d.size->(compactUpTo d m).Pairwise (λa b=>le a b∧a≠b)∧(∀x,x∈compactUpTo d m ↔ ∃j,j<m∧x=d[j]!)∧∀x,x∈compactUpTo d m->le x d[m-1]!
 |0,_=>⟨by simp[compactUpTo],λx=>by simp[compactUpTo],λx h=>by grind[compactUpTo]⟩
 |m+1,hm=>by
  obtain⟨Y,h2,h3⟩:=YP tr an rf d O m zd;rw[compactUpTo_succ]
  have hle:∀x,x∈compactUpTo d m->le x d[m]! :=λx H=>by
   grind
  by_cases u:keeps d m=true
  ·rw[if_pos u]
   refine⟨?_,λx=>?_,λx H=>?_⟩
   ·rw[List.pairwise_append];refine⟨Y,zk,λa W b A=>?_⟩;simp only[List.mem_cons,List.not_mem_nil,or_false]at A;subst A;refine⟨hle a W,λe=>?_⟩
    rcases Nat.eq_zero_or_pos m with q|q
    ·grind
    ·have U:d[m]! ≠ d[m-1]! :=by
      simp only[keeps,decide_eq_true_eq]at u
      grind
     grind
   ·grind
   grind
  ·rw[if_neg u,List.append_nil]
   have V:m≠0∧d[m]! = d[m-1]! :=by
    simp only[keeps,decide_eq_true_eq]at u
    grind
   grind
theorem mM(l:List (List UInt8)):(Go.Lib.compact (l.mergeSort (λx y=>decide (x<=y)))).Pairwise (λa b=>a<b)∧∀x,x∈Go.Lib.compact (l.mergeSort (λx y=>decide (x<=y)))↔x∈l:=by
 have hsort:(l.mergeSort (λx y=>decide (x<=y))).Pairwise (λx y=>decide (x<=y)=true):=List.pairwise_mergeSort (λa b c A u=>by grind) (λa b=>by grind) _;have hperm:=List.mergeSort_perm l (λx y=>decide (x<=y));generalize l.mergeSort (λx y=>decide (x<=y))=s at hsort hperm
 have H:∀i j,i<=j->j<s.toArray.size->s.toArray[i]! <= s.toArray[j]! :=λi j O q=>by
  grind[Nat.lt_or_ge,List.pairwise_iff_getElem,List.le_refl]
 obtain⟨A,u,_⟩:=YP (le:=λa b:List UInt8=>a<=b) (λ_ _ _=>List.le_trans) (λ_ _=>List.le_antisymm) (λ_=>List.le_refl _) s.toArray H s.length zk
 refine⟨?_,λx=>?_⟩
 ·show(compactUpTo s.toArray s.length).Pairwise _;refine A.imp λ{a b}⟨V,U⟩=>?_
  grind
 ·show x∈compactUpTo s.toArray s.length↔_;rw[u x, <- hperm.mem_iff]
  constructor
  ·grind
  ·intro hx;obtain⟨j,q,rfl⟩:=List.getElem_of_mem hx;exact⟨j,q,by grind⟩
end
theorem qB(x:Ex):l8 (ct x):=by
 rw[l8,ct,List.pairwise_map]
 exact(mM _).1.imp λh=>by simpa using h
theorem pO{x:Ex}{s:ByteArray}:s∈ct x↔s∈aI x:=by
 rw[ct,agR]
 constructor
 ·rintro⟨l,h,rfl⟩
  have:=((mM _).2 l).1 h
  obtain⟨t,q,rfl⟩:=agR.1 this;omega
 ·intro h;exact⟨s.data.toList,((mM _).2 _).2 (List.mem_map_of_mem h),zk⟩
theorem kT(x:Ex):(ct x).Nodup:=oN (qB x)
theorem PQ(x:Ex):(ct x).length<=(aI x).length:=(kT x).length_le_of_subset λ_ h=>pO.1 h
theorem yC{x:Ex}(h:Fit x):((aq x).filter (λy=>y.kind==1)).map Ex.label=aI x:=by
 induction h with
 |lab s=>simp[aq,bO,aI,Ex.kind,Ex.label]
 |many k s l H hl u ih=>
  have q: ¬k=1:=zd
  rw[aq,bO,dL q,af9 (by grind[Ex.kind])];clear hl u
  induction l with
  |nil=>rfl
  |cons a l A=>
   grind[aV]
 |one k s x H u ih=>
  have q: ¬k=1:=zd
  grind[aq,bO,dL,af9,Ex.kind,aV]
theorem IL{x:Ex}(h:Fit x)(L:Pi)(e:L.map XC.sig=(aq x).map Ex.sig):rT L=aI x:=by
 rw[<-yC h]
 have u:rT L=((L.map XC.sig).filter (λc=>c.1==1)).map (λc=>c.2.1):=by
  rw[rT,List.filter_map,List.map_map];rfl
 have q:((aq x).filter (λy=>y.kind==1)).map Ex.label=(((aq x).map Ex.sig).filter (λc=>c.1==1)).map (λc=>c.2.1):=by
  have H:((λc:Int×ByteArray×Nat=>c.1==1) ∘ Ex.sig)=λy=>y.kind==1:=by funext y;cases y;rfl
  have A:((λc:Int×ByteArray×Nat=>c.2.1) ∘ Ex.sig)=Ex.label:=by funext y;cases y;rfl
  grind
 grind
theorem PV(x:Ex)(h:x.ok)(q:aD x=true):aj prog 83 [.agg (aP x)] (bZ (ct x)):=
 .Kz zo (by grind[aQ,AV.wf,fp,agp]) (λD nu w vargs A=>by
  obtain⟨a,rfl,H⟩:=ic A;obtain⟨ca,rfl,ka⟩:=Dz H
  have u:(aq x).length<=1000000:=by
   have:=q
   simp only[aD,aeW,decide_eq_true_eq]at this;omega
  exact IN x ca w (DG x ca ka) h q u (IL (fO q).1))
theorem FC{x:Ex}(u:aD x=true){l:ByteArray}(h:l∈aI x):cB l=true:=by
 rw[<-yC (fO u).1,agR]at h;obtain⟨y,q,rfl⟩:=h;rw[List.mem_filter]at q
 have A:y.part=true:=by
  simp only[aD,aeW,List.all_eq_true]at u;exact u.2 y q.1
 obtain⟨k,s,kids⟩:=y
 have H:k=1:=by simpa [Ex.kind]using q.2
 subst H;simp only[Ex.part,bP,BEq.rfl,if_true,aeW]at A;exact A.2
theorem Mb{s:ByteArray}(h:cB s=true):s.size<=20:=by
 simp only[cB,fV,aeW,decide_eq_true_eq]at h;exact h.1.1.2
theorem TB{s:ByteArray}(h:cB s=true):32∉s.data.toList:=λq=>by
 simp only[cB,fV,aeW,List.all_eq_true]at h
 have:=h.1.1.1.1 32 q
 revert this;decide
theorem Dg{x:Ex}(q:aD x=true):∀l∈ct x,32∉l.data.toList:=λl hl=>TB (FC q (pO.1 hl))
theorem Ks{x:Ex}(q:aD x=true):∀l∈ct x,l.size<=20:=λl hl=>Mb (FC q (pO.1 hl))
theorem Df{x:Ex}(q:aD x=true):(ct x).length<=24:=by
 have N:=kj q
 have:=PQ x
 have:=N.ok.n
 rw[N.labs]at this;omega
theorem Rh{x:Ex}(O:aD x=true){st:qk}(h:qd x (ct x)=some st):GOk st.rows st.ends∧0<st.rows.length∧(b9 st.rows st.ends).length=st.rows.length:=by
 obtain⟨A,hl,Y⟩:=DP (bl (ba x)) (ba x).em (az (ba x).la) (kT x) h;have H:(st.all)[0]?=some [0]:=Y.zero
 have u:0<st.rows.length:=by rw[hl];exact(aek.1 H).1
 have W:=vv A hl;obtain⟨_,U⟩:=y9 st.rows st.ends (vu (Dg O) A) W u A.ends
 refine⟨⟨by have:=A.max;omega,A.ends,λr q=>(qB x).sublist (A.row r q).1,λr q=>?_,λr q p V=>⟨?_,W r q p V⟩⟩,u,U⟩
 ·have:=(A.row r q).1.length_le
  have:=Df O
  simp only[agv]at *; omega
 ·have:=Ks O _ ((A.row r q).1.subset (List.mem_map_of_mem V));omega
def c6(A:o8):C5:=gV A.rows A.ends++[bZ A.labs]
theorem gm(n:Nat)(A:o8):aQ n (c6 A)=true:=by simp only[c6,gV,bZ,afz,afy,aQ,AV.wf,uj,ui,bz,agp]
theorem Ie(A:o8):aj prog 59 [.vp (c6 A)] (.v (.int .i64 A.rows.length)):=by
 simp only[c6,gV,bZ,afz,afy];refine gE func59 ntmps59 results59 ?_;exact s8
noncomputable def IX(x:Ex):AV:=match gb x (ct x)with
 | .inl A=> .ck [.vp (c6 A),.v (.int .i64 0)]
 | .inr e=> .ck [.v (.pointer none),.v (.int .i64 e)]
theorem Va(x:Ex):(IX x).wf 0=true:=by
 unfold IX
 split
 ·simp only[AV.wf,aQ,gm,agp]
 ·rfl
theorem OX(x:Ex)(V:x.ok):aj prog 49 [.agg (aP x)] (IX x):=by
 have CN:=Zi x V;have A:=Va x
 have U:IX x=(if aD x then(match qd x (ct x)with
  |some st=>if 32<(jg (ct x) st).rows.length then .ck [.v (.pointer none),.v (.int .i64 11)]else .ck [.vp (c6 (jg (ct x) st)),.v (.int .i64 0)]
  |none=> .ck [.v (.pointer none),.v (.int .i64 11)])else .ck [.v (.pointer none),.v (.int .i64 2)]):=by
  unfold IX gb
  cases aD x
  ·rfl
  ·simp only[if_true]
   cases qd x (ct x)with
   |none=>rfl
   |some st=>
    by_cases q:32<(jg (ct x) st).rows.length
    ·simp only[if_pos q]
    ·simp only[if_neg q]
 rw[U]at A⊢;clear U
 cases H:aD x
 ·rw[H]at CN A;simp only[Bool.false_eq_true,if_false]at CN A⊢;simp only[aB]at *;refine gE func49 ntmps49 results49 ?_
  (refine ag ?_;intro K hK K hK)
  (revert K;revert K;refine aM CN ?_)
  (refine iE.of 40 rfl ?_;simp only[go_sem])
 ·have CL:=PV x V H;rw[H]at CN A;simp only[if_true]at CN A⊢;have ok:=(kj H).ok;have W:=Df H;have CS:=Xd ok (ct x) (kT x) zd (nM _).2;have O:ri (bl (ba x)) (ba x).em (az (ba x).la) (ct x)=qd x (ct x):=rfl;rw[O]at CS
  cases u:qd x (ct x)with
  |none=>
   rw[u]at CS A;simp only[wi]at CS;simp only[aB,bZ]at *;refine gE func49 ntmps49 results49 ?_
   (refine ag ?_;intro K hK K hK)
   (revert K;revert K;refine aM CN ?_;intro K hK K hK)
   (revert K;revert K;refine aM CL ?_;intro K hK K hK)
   (revert K;revert K;refine aM CS ?_)
   (refine iE.of 40 rfl ?_;simp only[go_sem])
  |some st=>
   rw[u]at CS A;obtain⟨g1,g2,g3⟩:=Rh H u;have CQ:=TV g1 g2 g3;have CZ:=Ie (jg (ct x) st);simp only[wi]at CS
   by_cases q:32<(jg (ct x) st).rows.length
   ·simp only[if_pos q]at A⊢;simp only[aB,bZ,c6,gA,jg,gV,afz,afy]at *;clear A g1 g2 g3 O u;generalize da st.rows st.ends (b9 st.rows st.ends)=L at CQ CZ q⊢;refine gE func49 ntmps49 results49 ?_
    (refine ag ?_;intro K hK K hK)
    (revert K;revert K;refine aM CN ?_;intro K hK K hK)
    (revert K;revert K;refine aM CL ?_;intro K hK K hK)
    (revert K;revert K;refine aM CS ?_;intro K hK K hK)
    (revert K;revert K;refine aM CQ ?_;intro K hK K hK K hK)
    refine ah.CA CZ 20 rfl (by simp only[go_sem,Nat.reduceLT,Nat.reduceLeDiff,Nat.reduceEqDiff,Nat.lt_add_one,Nat.zero_lt_one,and_self]) rfl ?_
    ((iterate 3 revert K);refine ag ?_;intro K hK)
    refine cn.part (λh=>?_) (λh=>?_)
    ·(revert K;refine ag ?_)
     (refine iE.of 40 rfl ?_;simp only[go_sem])
    ·exfalso;replace h:=cq h;omega
   ·simp only[if_neg q]at A⊢;simp only[aB,bZ,c6,gA,jg,gV,afz,afy]at *;clear A g1 g2 g3 O u;generalize da st.rows st.ends (b9 st.rows st.ends)=L at CQ CZ q⊢;refine gE func49 ntmps49 results49 ?_
    (refine ag ?_;intro K hK K hK)
    (revert K;revert K;refine aM CN ?_;intro K hK K hK)
    (revert K;revert K;refine aM CL ?_;intro K hK K hK)
    (revert K;revert K;refine aM CS ?_;intro K hK K hK)
    (revert K;revert K;refine aM CQ ?_;intro K hK K hK K hK)
    refine ah.CA CZ 20 rfl (by simp only[go_sem,Nat.reduceLT,Nat.reduceLeDiff,Nat.reduceEqDiff,Nat.lt_add_one,Nat.zero_lt_one,and_self]) rfl ?_
    ((iterate 3 revert K);refine ag ?_;intro K hK)
    refine cn.part (λh=>?_) (λh=>?_)
    ·exfalso;replace h:=cq h;omega
    ·(revert K;refine ag ?_)
     (refine iE.of 40 rfl ?_;simp only[go_sem])
end
def bM(A:o8)(s:Int):Bool:=decide (0<=s)&&decide (s<A.rows.length)&&A.ends.getD s.toNat false
def jr(A:o8)(s:Int)(l:ByteArray):Option Nat:=if 0<=s∧s<A.rows.length then look (A.rows.getD s.toNat []) l else none
def stepT(o:Option Nat):AV:= .ck [.v (.int .i64 ((o.getD 0:Nat):Int)),.v (.bool o.isSome)]
theorem R6(o:Option Nat):(stepT o).wf 0=true:=rfl
theorem OZ(A:o8)(U:A.ends.length=A.rows.length)(s:Int):aj prog 31 [.vp (c6 A),.v (.int .i64 s)] (.v (.bool (bM A s))):=by
 have CZ:=Ie A;simp only[c6,gV,bZ,afz,afy,U]at CZ⊢
 by_cases O:0<=s
 ·obtain⟨k,rfl⟩:∃k:Nat,s=k:=⟨s.toNat,zd⟩;have q:decide (0<=(k:Int))=true:=decide_eq_true O
  by_cases V:k<A.rows.length
  ·have H:decide ((k:Int)<(A.rows.length:Int))=true:=b0
   have u:bM A k=A.ends.getD k false:=by rw[bM,q,H];rfl
   have eG:(A.ends.map (λb=>[AV.v (.bool b)])).getD k []=[.v (.bool (A.ends.getD k false))]:=by
    rw[aeS,List.getElem?_map,aes zd,aeS,aes zd];rfl
   rw[u];refine gE func31 ntmps31 results31 ?_
   (refine ak q ?_;intro K hK K hK)
   (revert K;revert K;exact CH CZ H eG)
  ·have H:decide ((k:Int)<(A.rows.length:Int))=false:=bi
   have u:bM A k=false:=by rw[bM,H];simp
   rw[u];refine gE func31 ntmps31 results31 ?_
   (refine ak q ?_;intro K hK K hK)
   (revert K;revert K;exact Pm CZ H)
 ·have q:decide (0<=s)=false:=decide_eq_false O
  have u:bM A s=false:=by rw[bM,q];rfl
  rw[u];refine gE func31 ntmps31 results31 ?_;exact vW q
theorem Tn(A:o8)(s:Int)(l:ByteArray):aj prog 55 [.vp (c6 A),.v (.int .i64 s),.v (.string l)] (stepT (jr A s l)):=by
 have CZ:=Ie A;simp only[c6,gV,bZ,afz,afy]at *
 by_cases O:0<=s
 ·obtain⟨k,rfl⟩:∃k:Nat,s=k:=⟨s.toNat,zd⟩;have u:decide (0<=(k:Int))=true:=decide_eq_true O
  by_cases U:k<A.rows.length
  ·have H:decide ((k:Int)<(A.rows.length:Int))=true:=b0
   have q:jr A k l=look A.rows[k] l:=by
    rw[jr,if_pos ⟨O,zd⟩,Int.toNat_natCast,aeS,aes U];rfl
   have eG:(A.rows.map (λr=>[AV.mp (dD r)])).getD k []=[.mp (dD A.rows[k])]:=by
    rw[aeS,List.getElem?_map,aes U];rfl
   have eA:=Cf l A.rows[k];rw[q]
   cases hl:look A.rows[k] l with
   |none=>
    rw[hl]at eA;simp only[Option.map_none,stepT,agW,agX]at eA⊢;refine gE func55 ntmps55 results55 ?_
    (refine ak u ?_;intro K hK K hK K hK)
    ((iterate 3 revert K);refine dA CZ (mQ H eG eA) ?_)
    (refine iE.of 40 rfl ?_;simp only[go_sem])
   |some t=>
    rw[hl]at eA;simp only[aeE,stepT,agA,agY]at eA⊢;refine gE func55 ntmps55 results55 ?_
    (refine ak u ?_;intro K hK K hK K hK)
    ((iterate 3 revert K);refine dA CZ (mQ H eG eA) ?_)
    (refine iE.of 40 rfl ?_;simp only[go_sem])
  ·have H:decide ((k:Int)<(A.rows.length:Int))=false:=bi
   have q:jr A k l=none:=by rw[jr,if_neg zd]
   rw[q];simp only[stepT,agW,agX];refine gE func55 ntmps55 results55 ?_
   (refine ak u ?_;intro K hK K hK K hK)
   ((iterate 3 revert K);refine dA CZ H ?_)
   (refine iE.of 40 rfl ?_;simp only[go_sem])
 ·have u:decide (0<=s)=false:=decide_eq_false O
  have q:jr A s l=none:=by rw[jr,if_neg zd]
  rw[q];simp only[stepT,agW,agX];refine gE func55 ntmps55 results55 ?_;refine ak u ?_
  (refine iE.of 40 rfl ?_;simp only[go_sem])
def c8(p:xA):C5:=[.v (.string p.key),.v (.int .i64 p.val.kind),.v (.int .i64 p.val.num),.v (.string p.val.text)]
def aU(e:bH):C5:=[.v (.string e.bN),.v (.string e.to),.v (.string e.label),.v (.int .i64 e.time),.aA 4 (e.props.map c8) e.props.length]
theorem cM(n:Nat)(l:Rd):bE n (l.map c8)=true:=bt _ (λ_=>rfl) l
theorem Nz(n:Nat)(e:bH):aQ n (aU e)=true:=by simp only[aU,aQ,AV.wf,cM,afe]
theorem df(n:Nat)(l:IR):bE n (l.map aU)=true:=bt _ (Nz n) l
def gY(A:o8)(s:Nat)(l:ByteArray):Option Nat:=jr A s l
def np(S:DS):AC:=[some ⟨108,0,false,cg cJ S.known⟩,some ⟨108,1,false,[[.vec 0 0]]⟩,some ⟨79,2,true,S.nodes.map cJ⟩,some ⟨109,1,false,[[.vec 2 S.nodes.length]]⟩,
 some ⟨162,2,false,[[.vec 5 S.heap.length,.v (.bool true)]]⟩,some ⟨115,2,true,S.heap.map bf⟩,some ⟨110,1,false,[[.ptr 4 0 2 0 0]]⟩]
theorem kz(n:Nat)(l:T1):bE n (l.map cJ)=true:=bt _ (λ_=>rfl) l
theorem ec(n:Nat)(l:L1):bE n (cg cJ l)=true:=gp (λ_=>rfl) l
theorem DY(n:Nat)(l:LT):bE n (l.map bf)=true:=aR n l
theorem qx{l:IR}{i:Nat}(h:i<l.length):(l.map aU).getD i []=[.v (.string l[i].bN),.v (.string l[i].to),.v (.string l[i].label),.v (.int .i64 l[i].time),.aA 4 (l[i].props.map c8) l[i].props.length]:=by
 rw[getD_map aU l i [] h];rfl
def gk(G:List (ByteArray×IR)):List C5:=G.map (λp=>[.v (.string p.1),.aA 5 (p.2.map aU) p.2.length])
theorem AP(k:ByteArray):∀G,o9 .string (.string k) (gk G)=some ((qQ G k).map λl=> .aA 5 (l.map aU) l.length)
 | []=>rfl
 |p::G=>by
  rw[gk,afZ,o9,qQ];simp only[dH,if_true,fx,BL]
  by_cases e:p.1=k
  ·rw[if_pos e,decide_eq_true e.symm];rfl
  ·rw[if_neg e,decide_eq_false (Ne.symm e)];exact AP k G
theorem kA(n:Nat):∀G,bE n (gk G)=true
 | []=>rfl
 |p::G=>by
  simp only[gk,afZ,bE,aQ,AV.wf,df,afi,afe];exact kA n G
attribute [go_sem] ec DY kz kA gm df cM
theorem Xg(A:o8)(s:Nat)(l:ByteArray):jr A (s:Int) l=gY A s l:=rfl
theorem K0(A:o8)(E:IR)(G:List (ByteArray×IR))(a:Nd)(time:Int)(S:DS)(H:(qQ G a.1).getD []=kX E a.1)(hn:S.heap.length+(kX E a.1).length<=999999)(U:S.nodes.length+(kX E a.1).length<=999999)(ht:0<=time∧time<=1099511627776)(hE:∀e∈kX E a.1,0<=e.time∧e.time<=1099511627776) :
  bT prog 54 [.agg (cJ a),.v (.int .i64 time),.vp [.vp (c6 A),.mp (gk G)],.ptr 1 0 1 0 0,.ptr 6 0 1 0 0,.ptr 3 0 1 0 0] (np S) (.ck []) (np (pk (gY A) E a time S)):=by
 have g0:=AP a.1 G;simp only[cJ];rw[pk];generalize Y:(kX E a.1).foldl (wN (gY A) a time) S=R;generalize kX E a.1=L at *
 have d00:decide (((0:Nat):Int)<((0:Nat):Int))=false:=zs
 cases O:qQ G a.1 with
 |none=>
  rw[O]at g0 H;simp only[agW,Option.map_none]at H g0;subst H;simp only[List.foldl_nil]at Y;subst Y;simp only[np];refine gF func54 ntmps54 results54 ?_;refine aG g0 ?_
  refine aN (ι:=Unit) 6 (λ_=>[(18,.v (.int .i64 (0:Nat))),(19,.v (.int .i64 (0:Nat)))]) (λ_=>np S) (λ_=>0) (λ_=>True) () trivial ?_ ?_
  ·simp only[np];refine ab (bF ?_) ar ar
   all_goals first|rfl|exact ec _ _|exact DY _ _|exact kz _ _
  ·rintro _ _ K hK;simp only[np]
   (revert K;refine aG d00 ?_)
   exact⟨ej,ej,ej⟩
   all_goals first|rfl|exact ec _ _|exact DY _ _|exact kz _ _
 |some l=>
  rw[O]at g0 H;simp only[agA,aeE]at H g0;subst H;simp only[np];refine gF func54 ntmps54 results54 ?_;refine aG g0 ?_
  refine aN (ι:=DS×Nat) 6 (λx=>[(6,.ptr 7 0 2 0 0),(17,.aA 5 (l.map aU) l.length),(18,.v (.int .i64 (l.length:Nat))),(19,.v (.int .i64 (x.2:Nat)))]) (λx=>np x.1++[some ⟨79,2,false,[[.v (.string a.1),.v (.int .i64 (a.2:Nat))]]⟩]) (λx=>l.length-x.2)
   (λx=>x.2<=l.length∧(l.drop x.2).foldl (wN (gY A) a time) x.1=R∧x.1.heap.length+(l.length-x.2)<=999999∧x.1.nodes.length+(l.length-x.2)<=999999) (S,0) ⟨Nat.zero_le _,Y,hn,U⟩ ?_ ?_
  ·simp only[np,afz,afy];refine ab (bF ?_) ar ar
   all_goals first|rfl|exact rfl
  ·rintro⟨T,i⟩ ⟨W,u,hh,V⟩ K hK;simp only at W u hh V⊢;simp only[np,afz,afy]
   have eN:(l.map aU).length=l.length:=zk
   rcases Nat.lt_or_ge i l.length with hi|hi
   ·have d1:decide ((i:Int)<(l.length:Int))=true:=b0;have e1:=qx hi;have C:=Tn A a.2 l[i].label;simp only[stepT,Xg]at C;rw[afW hi,List.foldl_cons]at u;have hEt:=hE l[i] (List.getElem_mem hi);have ws:=ae (k:=i) zd;generalize l[i]=e at *;rw[wN]at u
    cases hs:gY A a.2 e.label with
    |none=>
     rw[hs]at C u;simp only[agW,agX]at C u
     (revert K;refine aG (mQ d1 e1 eN) ?_;iterate 4 intro K hK)
     ((iterate 4 revert K);refine CG C ws ?_)
     refine aw.mk (T,i+1) ⟨hi,u,(show T.heap.length+(l.length-(i+1))<=999999 by omega),(show T.nodes.length+(l.length-(i+1))<=999999 by omega)⟩ (show l.length-(i+1)<l.length-i by omega) ?_;simp only[np,afz,afy];exact ab ar ar ar
     all_goals first|rfl
    |some t=>
     rw[hs]at C u;simp only[agA,agY]at C u;have PU:=WZ T.known (e.to,t) (min time e.time);simp only[cJ]at PU;rw[gd]at PU;have eK:∀f l,cm f (cg cJ l)=cg cJ l:=λf l=>bj _ _ (ec _ _)
     have em:(if e.time<time then e.time else time)=min time e.time:=zd
     (revert K;refine aG (mQ d1 e1 eN) ?_;iterate 4 intro K hK)
     ((iterate 4 revert K);refine CG C em ?_;iterate 4 intro K hK)
     cases hb:dV T.known (e.to,t) (min time e.time)
     ·rw[hb]at PU u;simp only[afq,if_false]at PU u
      refine ah.fr [0] PU zk ?_ ?_ ?_ ?_ ?_
      ·simp only[afZ,agt,afr,aeE,aa.bb,eK]
      ·rfl
      ·rfl
      ·intro j ob q
       match j,q with
       |0,q=>cases q;exact ec _ _
       |j+1,q=>simp at q
      ((iterate 4 revert K);refine aG (q9 eK ws) ?_)
      refine aw.mk (T,i+1) ⟨hi,u,(show T.heap.length+(l.length-(i+1))<=999999 by omega),(show T.nodes.length+(l.length-(i+1))<=999999 by omega)⟩ (show l.length-(i+1)<l.length-i by omega) ?_;simp only[np,afz,afy];exact ab ar ar ar
      all_goals first|rfl
     ·rw[hb]at PU u;simp only[if_true]at PU u
      have tt:lW prog 79=some [.s,.i]:=zo
      have g1:=mR vX (e.to,t) (gL T.known (e.to,t) (min time e.time));have g3:=vX (e.to,t) (e.to,t);rw[decide_eq_true rfl]at g3;rw[j6,if_pos rfl]at g1;simp only[cJ,aeE]at g1 g3
      have wn:IntKind.i64.wrap (0-(min time e.time)) = -(min time e.time):=by rw[bS zd zd];omega
      have PS:=WX T.heap (-(min time e.time),(T.nodes.length:Int)) zd
      have eNn:(T.nodes.map cJ).length=T.nodes.length:=zk
      have hpl:(mY T.heap (-(min time e.time),(T.nodes.length:Int))).length=T.heap.length+1:=by have:=(jL T.heap (-(min time e.time),(T.nodes.length:Int))).length_eq;simpa using this
      simp only[bf,rP]at PS;have eI:∀f l,cm f (List.map bf l)=List.map bf l:=λf l=>bj _ _ (aR _ _)
      refine ah.fr [0] PU zk ?_ ?_ ?_ ?_ ?_
      ·simp only[afZ,agt,afr,aeE,aa.bb,eK]
      ·rfl
      ·rfl
      ·intro j ob q
       match j,q with
       |0,q=>cases q;exact ec _ _
       |j+1,q=>simp at q
      ((iterate 4 revert K);refine aG (qu eK g1 g3 tt wn) ?_;iterate 4 intro K hK)
      refine ah.fr [4,5] PS zk ?_ ?_ ?_ ?_ ?_
      ·simp only[afZ,agt,afr,List.getElem?_cons_succ,aeE,aa.bb,cm,bW,AV.bb,eI];rfl
      ·rfl
      ·rfl
      ·intro j ob q
       match j,q with
       |0,q=>cases q;rfl
       |1,q=>cases q;exact aR _ _
       |j+2,q=>simp at q
      ((iterate 4 revert K);refine aG (mQ eI eNn ws) ?_)
      have e5:(T.nodes++[(e.to,t)]).map cJ=T.nodes.map cJ++[[.v (.string e.to),.v (.int .i64 (t:Nat))]]:=by rw[List.map_append];rfl
      have e6:(T.nodes++[(e.to,t)]).length=T.nodes.length+1:=zk
      refine aw.mk (⟨gL T.known (e.to,t) (min time e.time),T.nodes++[(e.to,t)],mY T.heap (-(min time e.time),(T.nodes.length:Int))⟩,i+1) ⟨hi,u,(show(mY T.heap (-(min time e.time),(T.nodes.length:Int))).length+(l.length-(i+1))<=999999 by omega),(show(T.nodes++[(e.to,t)]).length+(l.length-(i+1))<=999999 by omega)⟩ (show l.length-(i+1)<l.length-i by omega) ?_;simp only[np,afz,afy,e5,e6];exact ab ar ar ar
      all_goals first|rfl
   ·have d1:decide ((i:Int)<(l.length:Int))=false:=bi;rw[aeL hi,List.foldl_nil]at u
    (revert K;refine aG d1 ?_)
    rw[u];exact⟨ej,ej,ej⟩
    all_goals first|rfl
theorem GJ(s:ByteArray)(A:s.size<=maxLen):aj prog 86 [.v (.string s)] (.v (.bool (fV s))):=aj.vg zo rfl (λD nu w vargs q=>by
 obtain⟨x,rfl,u⟩:=ic q;rw[u.di]
 exact v7 s w A)
theorem Pd(s:ByteArray)(A:s.size<=maxLen):aj prog 87 [.v (.string s)] (.v (.bool (cB s))):=aj.vg zo rfl (λD nu w vargs q=>by
 obtain⟨x,rfl,u⟩:=ic q;rw[u.di]
 exact E6 s w A)
theorem Jw(v:Hk)(A:v.text.size<=maxLen):aj prog 128 [.agg [.v (.int .i64 v.kind),.v (.int .i64 v.num),.v (.string v.text)]] (.v (.bool (bo v))):=aj.vg zo rfl (λD nu w vargs q=>by
 obtain⟨x,rfl,u⟩:=ic q;have e:x=.agg #[.int .i64 v.kind,.int .i64 v.num,.string v.text]:=j0 (xs:=[.int .i64 v.kind,.int .i64 v.num,.string v.text]) u;rw[e]
 exact DV v w A)
theorem R7(t:Int):aj prog 129 [.v (.int .i64 0),.v (.int .i64 1099511627776),.aA 1 [[.v (.int .i64 t)]] 1] (.v (.bool (decide (0<=t∧t<=1099511627776)))):=by
 have d0:decide (((0:Nat):Int)<((1:Nat):Int))=true:=zs
 have d1:decide (((1:Nat):Int)<((1:Nat):Int))=false:=zs
 have ws:=ae (k:=0) zd;refine gE func129 ntmps129 results129 ?_
 (refine ag ?_;intro K hK)
 refine aZ (ι:=Bool) 11 (λb=>[(8,.undef),(11,.v (.int .i64 ((if b then 1 else 0:Nat):Int)))]) (λb=>if b then 0 else 1) (λb=>b=true->0<=t∧t<=1099511627776) false (λh=>by cases h) ?_ ?_
 ·simp only[afq,if_false];refine ab (bF ?_) ar ar
  all_goals first|rfl
 ·rintro b U K hK
  cases b
  ·simp only[afq,if_false]
   by_cases H:t<0
   ·have q:decide (t<0)=true:=decide_eq_true H;rw[decide_eq_false (show ¬(0<=t∧t<=1099511627776) by omega)]
    (revert K;revert K;exact Vr d0 q)
   ·have q:decide (t<0)=false:=decide_eq_false H
    by_cases A:1099511627776<t
    ·have u:decide (1099511627776<t)=true:=decide_eq_true A;rw[decide_eq_false (show ¬(0<=t∧t<=1099511627776) by omega)]
     (revert K;revert K;exact vW (mQ d0 q u))
    ·have u:decide (1099511627776<t)=false:=decide_eq_false A
     (revert K;revert K;refine ak (pt d0 q u ws) ?_)
     refine aw.mk true (λ_=>zd) zk ?_;simp only[if_true];exact ab ar ar ar
     all_goals first|rfl
  ·have O:decide (0<=t∧t<=1099511627776)=true:=decide_eq_true (U rfl);simp only[if_true]
   (revert K;revert K;refine ak d1 ?_)
   rw[O]
theorem ab1(t:Int):aj prog 89 [.v (.int .i64 t)] (.v (.bool (decide (0<=t∧t<=1099511627776)))):=by
 have W:=R7 t;refine gE func89 ntmps89 results89 ?_
 (refine ag ?_;intro K hK K hK)
 refine ah.CA W 8 rfl (by simp only[go_sem,Nat.reduceLT,Nat.reduceLeDiff,Nat.reduceEqDiff,Nat.lt_add_one,Nat.zero_lt_one,and_self]) rfl ?_
 (revert K;revert K;exact s8)
def Vj(p:xA):Prop:=p.key.size<=maxLen∧p.val.text.size<=maxLen
structure xv(e:bH):Prop where
 bN:e.bN.size<=maxLen
 to:e.to.size<=maxLen
 label:e.label.size<=maxLen
 props:∀p∈e.props,Vj p
 len:e.props.length<=16777216
theorem KI{l:Rd}{last:ByteArray}{k:Nat}(h:k<l.length):wL last (l.drop k)=if Ku l[k].key last||l[k].key.toList==last.toList then false else cB l[k].key&&bo l[k].val&&wL l[k].key (l.drop (k+1)):=by
 rw[afW h,wL]
theorem CU{l:Rd}{i:Nat}(h:i<l.length):(l.map c8).getD i []=[.v (.string l[i].key),.v (.int .i64 l[i].val.kind),.v (.int .i64 l[i].val.num),.v (.string l[i].val.text)]:=by
 rw[getD_map c8 l i [] h];rfl
theorem Ux(l:Rd)(Y:∀p∈l,Vj p)(hl:l.length<=16777216):aj prog 88 [.aA 4 (l.map c8) l.length] (.v (.bool (Bp l))):=by
 have eN:(l.map c8).length=l.length:=zk
 generalize U:Bp l=R;rw[Bp]at U
 (refine aj.enter func88 rfl zo zo rfl (by simp only[go_sem,aQ,AV.wf,agp,afe,afi,cM]) (by simp only[go_sem,aQ,AV.wf,bz,agp,afe,afi,cM]) ?_;simp only[ntmps88,results88,List.length_cons,List.length_nil,Nat.reduceAdd,Nat.reduceSub,List.replicate_succ,List.replicate_zero,afz,afy])
 (refine ag ?_;intro K hK)
 refine aZ (ι:=Nat×ByteArray) 3 (λx=>[(3,.v (.string x.2)),(6,.aA 4 (l.map c8) l.length),(7,.v (.int .i64 (l.length:Nat))),(8,.v (.int .i64 (x.1:Nat)))]) (λx=>l.length-x.1) (λx=>x.1<=l.length∧(wL x.2 (l.drop x.1)&&decide (l.length<=8))=R) (0,⟨#[]⟩) ⟨Nat.zero_le _,U⟩ ?_ ?_
 ·refine ab (bF ?_) ar ar
  all_goals first|rfl|exact⟨cM _ _,rfl⟩
 ·rintro⟨i,last⟩ ⟨hi,q⟩ K hK;simp only at hi q⊢
  rcases Nat.lt_or_ge i l.length with h|h
  ·have d1:decide ((i:Int)<(l.length:Int))=true:=b0;have W:=CU h;have u:=Y _ (List.getElem_mem h);rw[KI h]at q;have ws:=ae (k:=i) zd;generalize l[i]=p at *;have F:=Pd p.key u.1;have V:=Jw p.val u.2;have lt:Ku p.key last=Op.bytesLess p.key.toList last.toList:=rfl;rw[lt]at q
   cases O:(Op.bytesLess p.key.toList last.toList||p.key.toList==last.toList)
   ·rw[O]at q;simp only[afq,if_false]at q
    (revert K;revert K;refine ak (pt d1 W eN O) ?_;iterate 6 intro K hK)
    refine ah.one F ?_
    cases H:cB p.key
    ·rw[H]at q;simp only[afA]at q
     ((iterate 6 revert K);refine ak H ?_)
     rw[q]
    ·rw[H]at q
     ((iterate 6 revert K);refine ak H ?_;iterate 6 intro K hK)
     refine ah.one V ?_
     cases A:bo p.val
     ·rw[A]at q;simp only[afL,afA]at q
      ((iterate 6 revert K);refine ak A ?_)
      rw[q]
     ·rw[A]at q;simp only[agp,afi]at q
      ((iterate 6 revert K);refine fb A ws ?_)
      refine aw.mk (i+1,p.key) ⟨h,q⟩ (show l.length-(i+1)<l.length-i by omega) ?_;exact ab ar ar ar
      all_goals first|rfl|exact cM _ _|exact⟨cM _ _,rfl⟩
   ·rw[O]at q;simp only[if_true,afA]at q
    (revert K;revert K;refine ak (pt d1 W eN O) ?_)
    rw[q]
  ·have d1:decide ((i:Int)<(l.length:Int))=false:=bi;rw[aeL h,wL,afi]at q
   (revert K;revert K;refine ak d1 ?_)
   rw[<-q]
   congr 1
   rw[decide_eq_decide];omega
theorem Te(e:bH)(u:xv e):aj prog 50 [.agg (aU e)] (.v (.int .i64 (nR e))):=by
 have C1:=GJ e.bN u.bN;have C2:=GJ e.to u.to;have C3:=Pd e.label u.label;have Y:=Ux e.props u.props u.len;have W:=ab1 e.time;generalize q:nR e=R;rw[nR]at q;simp only[aU]
 (refine aj.enter func50 rfl zo zo rfl (by simp only[go_sem,aQ,AV.wf,agp,afe,afi,cM]) (by simp only[go_sem,aQ,AV.wf,bz,agp,afe,afi,cM]) ?_;simp only[ntmps50,results50,List.length_cons,List.length_nil,Nat.reduceAdd,Nat.reduceSub,List.replicate_succ,List.replicate_zero,afz,afy])
 (refine ag ?_;iterate 4 intro K hK)
 refine ah.one C1 ?_
 cases V:fV e.bN
 ·rw[V]at q;simp only[afA,afq,if_false]at q
  ((iterate 4 revert K);refine ak V ?_)
  rw[<-q]
 rw[V]at q
 ((iterate 4 revert K);refine ak V ?_;iterate 4 intro K hK)
 refine ah.one C2 ?_
 cases U:fV e.to
 ·rw[U]at q;simp only[afA,afL,afq,if_false]at q
  ((iterate 4 revert K);refine ak U ?_)
  rw[<-q]
 rw[U]at q
 ((iterate 4 revert K);refine ak U ?_;iterate 4 intro K hK)
 refine ah.one C3 ?_
 cases O:cB e.label
 ·rw[O]at q;simp only[afA,afL,afq,if_false]at q
  ((iterate 4 revert K);refine ak O ?_)
  rw[<-q]
 rw[O]at q
 ((iterate 4 revert K);refine ak O ?_;intro K hK K hK K hK)
 refine ah.one Y ?_
 cases H:Bp e.props
 ·rw[H]at q;simp only[afL,afq,if_false]at q
  ((iterate 3 revert K);refine ak H ?_)
  rw[<-q]
 rw[H]at q;simp only[agp,if_true]at q
 ((iterate 3 revert K);refine ak H ?_;intro K hK K hK K hK)
 by_cases A:0<=e.time∧e.time<=1099511627776
 ·rw[decide_eq_true A]at W;rw[if_pos (show 0<=e.time∧e.time<=Ay from A)]at q
  ((iterate 3 revert K);refine aM W ?_)
  rw[<-q]
 ·rw[decide_eq_false A]at W;rw[if_neg (show ¬(0<=e.time∧e.time<=Ay)from A)]at q
  ((iterate 3 revert K);refine aM W ?_)
  rw[<-q]
def Ea(l:List ((ByteArray×IR)×Nat)):List C5:=l.map (λp=>[.v (.string p.1.1),.vec p.2 p.1.2.length])
def GZ(v:ByteArray):List ((ByteArray×IR)×Nat)->Option ((ByteArray×IR)×Nat)
 | []=>none
 |p::l=>if p.1.1=v then some p else GZ v l
theorem Qp(v:ByteArray):∀l,o9 .string (.string v) (Ea l)=some ((GZ v l).map λp=> .vec p.2 p.1.2.length)
 | []=>rfl
 |p::l=>by
  rw[Ea,afZ,o9,GZ];simp only[dH,if_true,fx,BL]
  by_cases e:p.1.1=v
  ·rw[if_pos e,decide_eq_true e.symm];rfl
  ·rw[if_neg e,decide_eq_false (Ne.symm e)];exact Qp v l
def Eb(e:bH)(id:Nat):List ((ByteArray×IR)×Nat)->List ((ByteArray×IR)×Nat)
 | []=>[((e.bN,[e]),id)]
 |p::l=>if p.1.1=e.bN then((p.1.1,p.1.2++[e]),p.2)::l else p::Eb e id l
theorem Dv(e:bH)(id:Nat):∀l,(Eb e id l).map Prod.fst=CM e (l.map Prod.fst)
 | []=>rfl
 |p::l=>by
  rw[Eb,afZ,CM]
  by_cases h:p.1.1=e.bN
  ·rw[if_pos h,if_pos h];rfl
  ·rw[if_neg h,if_neg h,afZ,Dv e id l]
theorem oA{e:bH}(id:Nat):∀{l},GZ e.bN l=none->nF .string (.string e.bN) (.vec id 1) (Ea l)=some (Ea (Eb e id l))∧Eb e id l=l++[((e.bN,[e]),id)]
 | [],_=>⟨rfl,rfl⟩
 |p::l,h=>by
  rw[GZ]at h
  split at h
  ·cases h
  ·rename_i hn;obtain⟨u,q⟩:=oA id h;rw[Ea,afZ,nF,Eb,if_neg hn];simp only[dH,if_true,fx,BL,decide_eq_false (Ne.symm hn),Bool.false_eq_true,if_false];refine⟨?_,by rw[q];rfl⟩;show Option.map _ (nF .string (.string e.bN) (.vec id 1) (Ea l))=_;rw[u];rfl
theorem yZ{e:bH}(id:Nat){q:(ByteArray×IR)×Nat}:∀{l},GZ e.bN l=some q->nF .string (.string e.bN) (.vec q.2 (q.1.2.length+1)) (Ea l)=some (Ea (Eb e id l))
 | [],h=>by cases h
 |p::l,h=>by
  rw[GZ]at h;rw[Ea,afZ,nF,Eb];simp only[dH,if_true,fx,BL]
  split at h
  ·rename_i hp;cases h;rw[decide_eq_true hp.symm,if_pos rfl,if_pos hp];simp only[Ea,afZ,aem,agz,hp]
  ·rename_i hn;rw[decide_eq_false (Ne.symm hn),if_neg hn];simp only[Bool.false_eq_true,if_false];show Option.map _ (nF .string (.string e.bN) _ (Ea l))=_;rw[yZ id h];rfl
theorem oz{v:ByteArray}{q:(ByteArray×IR)×Nat}:∀{l},GZ v l=some q->q∈l
 | [],h=>by cases h
 |p::l,h=>by
  rw[GZ]at h
  split at h
  ·cases h;exact afg
  ·exact aeX _ (oz h)
theorem KB{e:bH}(id:Nat){q:(ByteArray×IR)×Nat}:∀{l},GZ e.bN l=some q->(Eb e id l).map Prod.snd=l.map Prod.snd
 | [],h=>by cases h
 |p::l,h=>by
  rw[GZ]at h;rw[Eb]
  split at h
  ·rename_i hp;rw[if_pos hp];rfl
  ·rename_i hn;rw[if_neg hn,afZ,afZ,KB id h]
theorem tI{e:bH}(id:Nat){q:(ByteArray×IR)×Nat}:∀{l},(l.map Prod.snd).Nodup->GZ e.bN l=some q->∀p∈Eb e id l,p=((q.1.1,q.1.2++[e]),q.2)∨(p∈l∧p.2≠q.2)
 | [],_,h=>by cases h
 |a::l,hn,h=>by
  rw[GZ]at h;rw[Eb];rw[afZ,List.nodup_cons]at hn;intro p u
  split at h
  ·rename_i ha;cases h;rw[if_pos ha]at u
   rcases afO.1 u with rfl|u
   ·exact .inl rfl
   ·exact .inr ⟨aeX _ u,λe=>hn.1 (e ▸ agR.2 ⟨p,u,rfl⟩)⟩
  ·rename_i ha;rw[if_neg ha]at u
   rcases afO.1 u with rfl|u
   ·exact .inr ⟨afg,λe=>hn.1 (e ▸ agR.2 ⟨q,oz h,rfl⟩)⟩
   ·rcases tI id hn.2 h p u with k|⟨H,A⟩
    ·exact .inl k
    ·exact .inr ⟨aeX _ H,A⟩
structure Sv(r wv:aa)(o:AC)(l:List ((ByteArray×IR)×Nat)):Prop where
 r:o[1]?=some (some r)
 m:o[2]?=some (some ⟨64,0,false,Ea l⟩)
 w:o[3]?=some (some wv)
 nd:(l.map Prod.snd).Nodup
 lo:∀p∈l,4<=p.2
 row:∀p∈l,o[p.2]?=some (some ⟨35,5,true,p.1.2.map aU⟩)
 wf:∀ob,some ob∈o->bE o.length ob.rows=true
theorem JA{n:Nat}:∀{l:List ((ByteArray×IR)×Nat)},(∀p∈l,p.2<n)->bE n (Ea l)=true
 | [],_=>rfl
 |p::l,h=>by
  have H:=h p afg;have A:=JA (l:=l) λq u=>h q (aeX _ u);simp only[Ea,afZ,bE,aQ,AV.wf,decide_eq_true H,afe,Bool.true_and];exact A
theorem xD{n:Nat}:∀{o:AC},(∀ob,some ob∈o->bE n ob.rows=true)->zU n o o
 | [],_=>trivial
 |x::o,h=>⟨.inr ⟨rfl,λob e=>h ob (e ▸ afg)⟩,xD λob q=>h ob (aeX _ q)⟩
theorem Sv.lt{r wv:aa}{o:AC}{l:List ((ByteArray×IR)×Nat)}(h:Sv r wv o l):3<o.length:=(aek.1 h.w).1
theorem Sv.oy{r wv:aa}{o:AC}{l:List ((ByteArray×IR)×Nat)}{e:bH}{q:(ByteArray×IR)×Nat}{b:AC}(id:Nat)(W:∀ob,some ob∈b->∀n,bE n ob.rows=true)(h:Sv r wv o l)(H:GZ e.bN l=some q) :
  Sv r wv (((o++b).set q.2 (some ⟨35,5,true,q.1.2.map aU++[aU e]⟩)).set 2 (some ⟨64,0,false,Ea (Eb e id l)⟩)) (Eb e id l):=by
 have hl:=h.lt;have V:=h.lo q (oz H);have U:=h.row q (oz H);have hql:=(aek.1 U).1
 have ap:∀{k:Nat}{x:Option aa},o[k]?=some x->(o++b)[k]?=some x:=λ{k x}Y=>by rw[aej (aek.1 Y).1];exact Y
 refine⟨?_,?_,?_,by rw[KB id H];exact h.nd,λp O=>?_,λp O=>?_,λob u=>?_⟩
 ·rw[aex zd,aex zd];exact ap h.r
 ·rw[aew ahn]
 ·rw[aex zd,aex zd];exact ap h.w
 ·rcases tI id h.nd H p O with rfl|⟨A,_⟩
  ·exact V
  ·exact h.lo p A
 ·rcases tI id h.nd H p O with rfl|⟨A,k2⟩
  ·rw[aex zd,aew ahn];simp only[agN,afZ,agt]
  ·have:=h.lo p A
   rw[aex zd,aex (Ne.symm k2)];exact ap (h.row p A)
 ·simp only[agZ,aem]
  rcases ag0 u with u|u
  ·rcases ag0 u with u|u
   ·rcases af2.1 u with u|u
    ·exact zK zd _ (h.wf ob u)
    ·exact W ob u _
   ·cases u
    have:=df (o.length+b.length) (q.1.2++[e])
    simpa only[agN,afZ,agt]using this
  ·cases u;refine JA λp O=>?_
   rcases tI id h.nd H p O with rfl|⟨A,_⟩
   ·simp only;omega
   ·have:=(aek.1 (h.row p A)).1;omega
theorem Sv.new{r wv:aa}{o:AC}{l:List ((ByteArray×IR)×Nat)}{e:bH}{b:AC}(O:∀ob,some ob∈b->∀n,bE n ob.rows=true)(h:Sv r wv o l)(W:GZ e.bN l=none) :
  Sv r wv ((o++b++[some (⟨35,5,true,[aU e]⟩:aa)]).set 2 (some ⟨64,0,false,Ea (Eb e (o.length+b.length) l)⟩)) (Eb e (o.length+b.length) l):=by
 have hl:=h.lt
 have ap:∀{k:Nat}{x:Option aa},o[k]?=some x->(o++b++[some (⟨35,5,true,[aU e]⟩:aa)])[k]?=some x:=λ{k x}U=>by
  have H:=(aek.1 U).1;rw[agx,aej H];exact U
 have A:=(oA (e:=e) (o.length+b.length) W).2;have V:∀p∈l,p.2<o.length:=λp u=>(aek.1 (h.row p u)).1
 refine⟨?_,?_,?_,?_,λp u=>?_,λp u=>?_,λob q=>?_⟩
 ·rw[aex zd];exact ap h.r
 ·rw[aew ahn]
 ·rw[aex zd];exact ap h.w
 ·rw[A,agN];refine List.nodup_append.2 ⟨h.nd,zk,λa ha c Y e1=>?_⟩;obtain⟨p,u,rfl⟩:=agR.1 ha
  have:=V p u
  simp at Y;omega
 ·rw[A]at u
  rcases af2.1 u with u|u
  ·exact h.lo p u
  ·rw[af3.1 u];simp only;omega
 ·rw[A]at u
  rcases af2.1 u with u|u
  ·have:=h.lo p u
   rw[aex zd];exact ap (h.row p u)
  ·rw[af3.1 u];simp only;rw[aex zd,aeA zk];simp
 ·simp only[agZ,aem,agz]
  rcases ag0 q with q|q
  ·rcases af2.1 q with q|q
   ·rcases af2.1 q with q|q
    ·exact zK zd _ (h.wf ob q)
    ·exact O ob q _
   ·rw[af3]at q;cases q;exact df _ [e]
  ·cases q;refine JA λp u=>?_;rw[A]at u
   rcases af2.1 u with u|u
   ·have:=V p u;omega
   ·rw[af3.1 u];simp only;omega
theorem bC.mpR{o:AC}{id:Nat}{ob:aa}(ho:o[id]?=some (some ob))(hv:ob.fc=false)(hz:ob.z=0){rows':List C5}(hlen:rows'.length=ob.rows.length)
  (hr:∀(i:Nat)row row',ob.rows[i]?=some row->rows'[i]?=some row'->xw o row row'):bC o (.vec id 0) (.mp rows'):=λD nu w x u V=>by
 have hx:x=nu id 0:=by
  cases V with
  |vec=>rfl
 subst hx
 have get:∀(i:Nat)row',rows'[i]?=some row'->∃row,ob.rows[i]?=some row∧row'.length=row.length∧∀(j:Nat)H,row'[j]?=some H->∃c,row[j]?=some c∧bC o c H:=λi row' h=>by
  have hi:i<ob.rows.length:=by rw[<-hlen];exact(aek.1 h).1
  obtain⟨h1,h2⟩:=(hr i _ row' (aes hi) h).at';refine⟨_,aes hi,h1.symm,λj H hc=>?_⟩
  have U:j<ob.rows[i].length:=by rw[h1];exact(aek.1 hc).1
  exact⟨_,aes U,h2 j _ H (aes U) hc⟩
 rcases u.obj id ob ho with⟨e1,_⟩|⟨g,cur,hb⟩|⟨g,es,cl,q⟩
 ·rw[e1]at hv;cases hv
 ·have:=hb.z;omega
 ·rw[q.wH]
  refine .mp _ g es cl ⟨(Array.getElem?_eq_some_iff.1 q.ez).1,br _ _,q.o4⟩ q.ez (by rw[q.sz,hlen]) (λi row' h=>?_) q.born q.qT (λi j row' H e k1 k2 k3=>?_)
  ·obtain⟨row,O,Y,_⟩:=get i row' h;rw[Y];exact q.row i row O
  ·obtain⟨row,O,Y,r3⟩:=get i row' k1;obtain⟨c,A,W⟩:=r3 j H k2;have hl:=q.row i row O;have U:=(aek.1 A).1
   match j,U,A with
   |0,_,A=>exact W D nu w _ u (q.key i row c e O A k3)
   |1,_,A=>exact W D nu w _ u (q.val i row c e O A k3)
   |j+2,U,_=>omega
theorem bC.agg{o:AC}{l m:C5}(h:xw o l m):bC o (.agg l) (.agg m):=λD nu w x q u=>by
 obtain⟨V,U⟩:=h.at'
 cases u with
 |agg cs xs O H A=>
  have r:=h.ras q ⟨O,H⟩;exact .agg _ _ r.len r.at' A
def tJ(A:o8)(E:IR):AV:=if e9 E=0 then .ck [.agg [.vp (c6 A),.mp (gk (CX E))],.v (.int .i64 0)]else .ck [.agg [.v (.pointer none),.v (.map none)],.v (.int .i64 (e9 E))]
theorem R3(A:o8)(E:IR):(tJ A E).wf 0=true:=by
 unfold tJ
 split
 ·simp only[AV.wf,aQ,gm,kA,Bool.and_self]
 ·rfl
theorem Qq(x:Ex)(A:o8)(E:IR)(C:aj prog 49 [.agg (aP x)] (.ck [.vp (c6 A),.v (.int .i64 0)]))(hok:∀e∈E,xv e)(hl:E.length<=16777216):aj prog 27 [.agg (aP x),.aA 5 (E.map aU) E.length] (tJ A E):=by
 have hA:aQ 0 [.agg (aP x),.aA 5 (E.map aU) E.length]=true:=by simp only[aQ,AV.wf,fp,df,Bool.and_self]
 have hF:=R3 A E;generalize hR:tJ A E=R at *;rw[aB]at C⊢;rw[aB]at hA
 (refine aj.iy func27 rfl zo zo rfl hA hF ?_;simp only[ntmps27,results27,ae0,aeg,Nat.reduceAdd,Nat.reduceSub,List.replicate_succ,List.replicate_zero,afz,afy])
 (refine ag ?_;intro K hK K hK)
 (revert K;revert K;refine aM C ?_;intro K hK)
 refine aN (ι:=AC×Nat×List ((ByteArray×IR)×Nat)) 2 (λx=>[(4,.ptr 1 0 2 0 0),(5,.v (.int .i64 0)),(8,.ptr 3 0 2 0 0),(24,.aA 5 (E.map aU) E.length),(25,.v (.int .i64 (E.length:Nat))),(26,.v (.int .i64 (x.2.1:Nat)))]) (λx=>x.1) (λx=>E.length-x.2.1)
  (λx=>Sv ⟨66,2,false,[[.v (.pointer none),.v (.map none)]]⟩ ⟨66,2,false,[[.vp (c6 A),.vec 2 0]]⟩ x.1 x.2.2∧x.2.1<=E.length∧(E.drop x.2.1).foldl (λG e=>CM e G) (x.2.2.map Prod.fst)=CX E∧e9 (E.drop x.2.1)=e9 E∧∀p∈x.2.2,p.1.2.length<=x.2.1)
  ([none,some ⟨66,2,false,[[.v (.pointer none),.v (.map none)]]⟩,some ⟨64,0,false,[]⟩,some ⟨66,2,false,[[.vp (c6 A),.vec 2 0]]⟩],0,[]) ⟨⟨rfl,rfl,rfl,ae1,λp h=>(by cases h),λp h=>(by cases h),?_⟩,aen _,rfl,rfl,λp h=>(by cases h)⟩ ?_ ?_
 ·intro ob H;simp only[afO,Option.some.injEq,List.not_mem_nil,or_false,reduceCtorEq,false_or]at H
  rcases H with rfl|rfl|rfl
  ·rfl
  ·rfl
  ·simp only[bE,aQ,AV.wf,gm,afe];rfl
 ·refine ab (bF ?_) ar ar
  all_goals first|rfl
 ·rintro⟨o,i,l⟩ ⟨U,hi,Y,W,hle⟩ K hK;simp only at U hi Y W hle⊢;have hlt:=U.lt;have ow:∀b:AC,(o++b)[3]? = _:=λb=>(aej hlt).trans U.w;have om:∀b:AC,(o++b)[2]? = _:=λb=>(aej zd).trans U.m;have orr:∀b:AC,(o++b)[1]? = _:=λb=>(aej zd).trans U.r
  have oe:∀(b:Option aa)t,(o++b::t)[o.length]?=some b:=λb t=>by rw[aeA (Nat.le_refl _),Nat.sub_self];rfl
  have s23:∀(L:AC)x,(L.set 2 x)[3]?=L[3]? :=λL x=>aex zs;have s2l:∀(L:AC)x,(L.set 2 x)[o.length]?=L[o.length]? :=λL x=>aex zd
  have ot:∀a b:Option aa,(o++[a]).set o.length b=o++[b]:=λa b=>by rw[List.set_append_right _ _ (Nat.le_refl _),Nat.sub_self];rfl
  have eN:(E.map aU).length=E.length:=zk
  have iw:=U.w;have im:=U.m;have ir:=U.r
  rcases aei i E.length with h|h
  ·have d1:decide ((i:Int)<(E.length:Int))=true:=b0;have e1:=qx h;have CK:=Te _ (hok _ (List.getElem_mem h));have hq:=ER h;rw[hq]at W;rw[List.drop_eq_getElem_cons h,List.foldl_cons]at Y;have ws:=ae (k:=i) zd;generalize E[i]=e at *;simp only[aU]at CK
   (revert K;revert K;refine ak (qu d1 e1 eN oe ot) ?_;iterate 6 intro K hK)
   refine ah.one CK ?_
   by_cases h0:nR e=0
   ·have z0:(nR e !=0)=false:=by simp[h0]
    have og:=Qp e.bN l
    cases u:GZ e.bN l with
    |none=>
     rw[u]at og;simp only[Option.map_none]at og;have os:=(oA (e:=e) (o.length+1) u).1
     ((iterate 6 revert K);refine jd 11 z0 ?_;intro K hK K hK K hK)
     refine bG [11,12] [(1,1999),(3,1999)] za zo ?_
     ((iterate 3 revert K);refine ak (Me oe ow om og os s23 s2l) ?_)
     refine ak ws ?_;have O:=U.new (e:=e) (b:=[some ⟨35,5,false,[aU e]⟩]) (λob H n=>by rw[af3]at H;cases H;exact df n [e]) u;simp only[aU,agx,afz,afy,ae0,aeg,Nat.zero_add]at O;rw[<-Dv e (o.length+1)]at Y;rw[if_neg (by simp[h0])]at W
     refine aw.mk (_,i+1,Eb e (o.length+1) l) ⟨O,h,Y,W,λp V=>(by
      rw[(oA (e:=e) (o.length+1) u).2]at V
      rcases af2.1 V with V|V
      ·have:=hle p V;simp only;omega
      ·rw[af3.1 V];simp)⟩ (show E.length-(i+1)<E.length-i by omega) (ab ?_ (xD O.wf) (aen _))
     have h1:1<o.length:=zd
     simp only[go_sem,iT,true_or,or_true,true_and,and_true,agZ,aem,ae0,aeg];exact⟨.inr (b0),.inr (b0)⟩
    |some q=>
     rw[u]at og;simp only[aeE]at og;have os:=yZ (e:=e) 0 u;have hqr:=U.row q (oz u);have hq4:=U.lo q (oz u);have hql:=(aek.1 hqr).1;have hqle:=hle q (oz u);have oq:∀b:AC,(o++b)[q.2]? = _:=λb=>(aej hql).trans hqr;have sq3:∀(L:AC)x,(L.set q.2 x)[3]?=L[3]? :=λL x=>aex zd;have sq2:∀(L:AC)x,(L.set q.2 x)[2]?=L[2]? :=λL x=>aex zd;have sql:∀(L:AC)x,(L.set q.2 x)[o.length]?=L[o.length]? :=λL x=>aex zd
     ((iterate 6 revert K);refine jd 11 z0 ?_;intro K hK K hK K hK)
     refine bG [11,12] [(1,1999),(3,1999)] za zo ?_
     repeat(first|(with_reducible first|refine bA.up ?_|refineλ(K:AK)hK=>?_|refine au zs ?_|(refine hK _ ?_;clear hK K))|simp only[go_sem,oe,ow,om,og,os,s23,s2l,oq,sq3,sq2,sql]|with_reducible refine wA ?_|(refine aO rfl rfl ?_)|(refine aE rfl ?_)|clear hK K)
     refine ak ws ?_;have O:=U.oy (e:=e) (b:=[some ⟨35,5,false,[aU e]⟩]) 0 (λob H n=>by rw[af3]at H;cases H;exact df n [e]) u;simp only[aU,agx,afz,afy,ae0,aeg,Nat.zero_add]at O;rw[<-Dv e 0]at Y;rw[if_neg (by simp[h0])]at W
     refine aw.mk (_,i+1,Eb e 0 l) ⟨O,h,Y,W,λp V=>(by
      rcases tI 0 U.nd u p V with rfl|⟨k1,_⟩
      ·simp only[aem,agz];omega
      ·have:=hle p k1;simp only;omega)⟩ (show E.length-(i+1)<E.length-i by omega) (ab ?_ (xD O.wf) (aen _))
     simp only[go_sem,iT,true_or,or_true,true_and,and_true,agZ,aem,ae0,aeg];exact⟨.inr (b0),.inr (b0)⟩
   ·have z0:(nR e !=0)=true:=by simp[h0]
    have os1:∀a b:Option aa,((o++[a]).set 1 b)[1]?=some b:=λa b=>aew ahn
    ((iterate 6 revert K);refine ak (nU z0 oe ow om orr os1) ?_)
    rw[if_pos h0]at W;rw[<-hR,tJ,if_neg (by rw[<-W];exact h0), <- W];exact bC.ck ⟨bC.agg ⟨bC.v _,bC.v _,trivial⟩,bC.v _,trivial⟩
  ·have d1:decide ((i:Int)<(E.length:Int))=false:=bi;have os:∀b:Option aa,(o.set 1 b)[1]?=some b:=λb=>aew zd
   (revert K;revert K;refine ak (qu d1 iw im ir os) ?_)
   have he0:e9 E=0:=by rw[<-W,aeL h];rfl
   rw[aeL h,List.foldl_nil]at Y;rw[<-hR,tJ,if_pos he0, <- Y];have sm:∀x,(o.set 1 x)[2]?=o[2]? :=λx=>aex zs;refine bC.ck ⟨bC.agg ⟨bC.of 3 (p:=(AV.vp (c6 A)).wf 0=true) (by rw[jD]<;>simp) (by rw[AV.wf];exact gm _ _),bC.mpR ((sm _).trans im) rfl rfl (by simp[gk,Ea]) (λk row row' k1 k2=>?_),trivial⟩,bC.v _,trivial⟩;simp only[Ea,gk,List.map_map,List.getElem?_map]at k1 k2
   cases hk:l[k]? with
   |none=>rw[hk]at k1;cases k1
   |some p=>
    rw[hk]at k1 k2;cases k1;cases k2;have V:=List.mem_of_getElem? hk;have h4:=U.lo p V;have hr:=U.row p V;refine⟨bC.v _,bC.sj (ob:=⟨35,5,true,p.1.2.map aU⟩) ((aex zd).trans hr) rfl zk (df _ _),trivial⟩
def lS(x:Ex)(A:o8)(E:IR):PL:=pY (gY A) (λs=>bM A s) (cH x) A.rows.length E
noncomputable def iO(x:Ex)(E:IR):Int:=match gb x (ct x)with
 | .inl _=>e9 E
 | .inr e=>e
noncomputable def gU(x:Ex)(E:IR):PL:=match gb x (ct x)with
 | .inl A=>if e9 E=0 then lS x A E else []
 | .inr _=>[]
theorem uC{x:Ex}{e:Int}(h:gb x (ct x)=.inr e):e≠0:=by
 grind[gb]
theorem Ut{x:Ex}{E:IR}(h:iO x E=0):∃A,gb x (ct x)=.inl A∧e9 E=0∧gU x E=lS x A E:=by
 unfold iO at h;unfold gU
 cases q:gb x (ct x)with
 |inl A=>
  grind
 |inr e=>
  grind[uC]
theorem Jq{A:o8}(ok:AOk A):∀s l t,gY A s l=some t->t<A.rows.length:=λs l t h=>by
 unfold gY jr at h
 split at h
 ·rename_i hs
  have q:s<A.rows.length:=zd
  have e:((s:Nat):Int).toNat=s:=zk
  rw[e]at h;exact(ok.row _ (bK q)).2 _ (lL h)
 ·cases h
theorem yd{E:IR}(h:e9 E=0):∀e∈E,e.time<=Ay:=λe q=>(AG (uI h e q)).2
def adN(cut:Int)(E:IR):IR:=E.filter (λe=>decide (cut<e.time))
inductive Wlk(E:IR)(f:ByteArray):ByteArray->B0->Int->Prop where
 |one (e:bH):e∈E->e.bN=f->Wlk E f e.to [e.label] (min Ay e.time)
 |more (e:bH) (w:B0) (τ:Int):Wlk E f e.bN w τ->e∈E->Wlk E f e.to (w++[e.label]) (min τ e.time)
def aK(p:K2×Int):C5:=[.v (.string p.1.1),.v (.string p.1.2),.v (.int .i64 p.2)]
theorem bu(n:Nat)(l:PL):bE n (l.map aK)=true:=bt _ (λ_=>rfl) l
attribute [go_sem] bu
theorem LL{l:PL}(hn:(l.map Prod.fst).Nodup){p:K2×Int}(q:p∈cz l):bV l p.1=some p.2:=(j5 hn).2 ((cL l).mem_iff.1 q)
theorem KF(l:PL)(hn:(l.map Prod.fst).Nodup)(hl:l.length<=1000000):bT prog 32 [.mp (cg bJ l)] [] (.vec 2 (cz l).length) [none,none,some ⟨37,3,true,(cz l).map aK⟩]:=by
 have eW:∀n,bE n (cg bJ l)=true:=λn=>gp (λ_=>rfl) l;have KS:=Wu l;have SQ:=PH l;have SF:=DQ (gf:=99) (caps:=[.vp [.mp (cg bJ l)]]) l hn hl (by rw[gr,List.map_map];exact SQ) (by simp only[aQ,AV.wf,eW,afe]);have hlen:(cz l).length=l.length:=(cL l).length_eq
 have O:aQ 0 [.mp (cg bJ l)]=true:=by simp only[aQ,AV.wf,eW,afe]
 have eWK:∀n,bE n ((cz l).map λp=>bJ p.1)=true:=λn=>bt _ (λ_=>rfl) _
 have eL:((cz l).map λp=>bJ p.1).length=l.length:=by simp[hlen]
 rw[hlen];refine gF func32 ntmps32 results32 ?_
 (refine bc ?_;intro K hK K hK K hK)
 ((iterate 3 revert K);refine lG KS ?_;intro K hK K hK K hK)
 refine ah.fr [] SF ae1 rfl ?_ ?_ (λk ob h=>by simp at h) ?_
 ·simp only[bW,AV.bb,bj _ _ (eW 0)]
 ·simp only[aQ,AV.wf,eW,afe]
 simp only[fj,afZ,agt,aeE,Option.map_none,aa.bb,bj _ _ (eWK 0),afy,List.append_nil]
 ((iterate 3 revert K);refine bc ?_;intro K hK)
 refine fN (ι:=Nat) 2 37 3 rfl zs 11 (λi=>[(2,.vec 2 i),(5,.undef),(11,.v (.int .i64 i))]) (λi=>[none,some ⟨74,2,true,(cz l).map λp=>bJ p.1⟩,some ⟨37,3,true,((cz l).take i).map aK⟩]) (λi=>l.length-i) (λi=>i<=l.length) 0 (aen _) ?_ ?_
 ·refine ab (bF ?_) (bF ?_) ar
  all_goals first|exact⟨eW _,eW _,eW _,rfl⟩|exact eWK _
 ·rintro i hi K hK
  rcases aei i l.length with h|h
  ·have d1:decide ((i:Int)<(l.length:Int))=true:=b0
   have q:i<(cz l).length:=zd
   have H:((cz l).map λp=>bJ p.1).getD i []=[.v (.string (cz l)[i].1.1),.v (.string (cz l)[i].1.2)]:=by rw[getD_map (λp:K2×Int=>bJ p.1) (cz l) i [] q];rfl
   have g1:=mR PC (cz l)[i].1 l;rw[LL hn (List.getElem_mem q)]at g1;have g3:=PC (cz l)[i].1 (cz l)[i].1;rw[decide_eq_true rfl]at g3;simp only[bJ,aeE]at g1 g3
   have tt:lW prog 74=some [.s,.s]:=zo
   have ws:=ae (k:=i) zd
   have eM:((cz l).take (i+1)).map aK=((cz l).take i).map aK++[[.v (.string (cz l)[i].1.1),.v (.string (cz l)[i].1.2),.v (.int .i64 (cz l)[i].2)]]:=by rw[agD q,agN];rfl
   have eT:(((cz l).take i).map aK).length=i:=ahn
   have u:=bu 3 ((cz l).take (i+1))
   (revert K;revert K;refine aG (Y0 d1 H eL g1 g3 tt eT ws) ?_)
   refine aw.mk (i+1) h zd ?_;rw[eM]at u⊢;refine ab (bF ?_) (bF ?_) ar
   all_goals first|exact eW _|exact eWK _
  ·have e0:i=l.length:=zd
   have d1:decide ((l.length:Int)<(l.length:Int))=false:=bi;have A:(cz l).take l.length=cz l:=List.take_of_length_le zd;simp only[e0,A]
   (revert K;revert K;refine aG d1 ?_)
   exact⟨ej,ej,ej⟩
theorem Up(l:PL)(hn:(l.map Prod.fst).Nodup)(hl:l.length<=1000000):aj prog 32 [.mp (cg bJ l)] (.aA 3 ((cz l).map aK) (cz l).length):=
 .ofG (KF l hn hl) (by simp only[aQ,AV.wf,gp (enc:=bJ) (λ_=>rfl) l,afe]) (by simp only[AV.wf,bu]) (by
  rintro r o ⟨rfl,rfl⟩
  exact bC.sj (ob:=⟨37,3,true,(cz l).map aK⟩) rfl rfl zk (bu _ _))
theorem ah.Uz{id:Nat}{l:PL}{k:K2}{τ:Int}{o:AC}{K:AV->AC->Prop}(u:o[id]?=some (some ⟨70,0,false,cg bJ l⟩))
  (h:K (.v (.bool (dV l k τ))) (o.set id (some ⟨70,0,false,cg bJ (gd l k τ)⟩))):ah prog 29 [.vec id 0,.agg (bJ k),.v (.int .i64 τ)] o K:=by
 have eW:∀n l,bE n (cg bJ l)=true:=λn l=>gp (λ_=>rfl) l
 refine ah.fr [id] (WY l k τ) zk ?_ rfl rfl ?_ ?_
 ·simp only[afZ,agt,u,aeE,aa.bb,bj _ _ (eW 0 _)]
 ·intro j ob q
  match j,q with
  |0,q=>cases q;exact eW _ _
  |j+1,q=>simp at q
 ·simp only[fj,AV.bb,aeE,aa.bb,bj _ _ (eW 0 _)];have hl:id<o.length:=(aek.1 u).1;rw[agt,List.append_nil];exact h
theorem BQ(E:IR){i:Nat}(h:i<E.length):vE (E.take (i+1))=gd (gd (vE (E.take i)) (E[i].bN,E[i].bN) E[i].time) (E[i].to,E[i].to) E[i].time:=by
 rw[vE,vE,agD h,iS,List.flatMap_append,qD];rfl
theorem ED{K:Type} [DecidableEq K]:∀(l:List (K×Int))(k:K)(t:Int),(gL l k t).length<=l.length+1
 | [],k,t=>by simp[gL]
 |p::l,k,t=>by
  rw[gL]
  split
  ·simp
  ·have:=ED l k t;simp only[ae0];omega
theorem xR{K:Type} [DecidableEq K](l:List (K×Int))(k:K)(t:Int):(gd l k t).length<=l.length+1:=by
 rw[gd];split
 ·exact ED l k t
 ·omega
theorem l5(E:IR):∀i,i<=E.length->(vE (E.take i)).length<=2*i
 |0,_=>by simp[vE,iS,fH]
 |i+1,h=>by
  rw[BQ E zd];have A:=l5 E i zd;have u:=xR (vE (E.take i)) (E[i].bN,E[i].bN) E[i].time;have q:=xR (gd (vE (E.take i)) (E[i].bN,E[i].bN) E[i].time) (E[i].to,E[i].to) E[i].time;omega
theorem Dw(E:IR)(hl:E.length<=1000):aj prog 16 [.aA 5 (E.map aU) E.length] (.aA 3 ((aJ E).map aK) (aJ E).length):=by
 have eW:∀n l,bE n (cg bJ l)=true:=λn l=>gp (λ_=>rfl) l
 have eN:(E.map aU).length=E.length:=zk
 have q:=l5 E E.length (Nat.le_refl _);rw[List.take_length]at q;have PR:=Up (vE E) (jo _ [] ae1).1 zd;refine gE func16 ntmps16 results16 ?_
 (refine ag ?_;intro K hK)
 refine aN (ι:=Nat) 9 (λi=>[(5,.undef),(9,.v (.int .i64 i))]) (λi=>[some ⟨70,0,false,cg bJ (vE (E.take i))⟩]) (λi=>E.length-i) (λi=>i<=E.length) 0 (aen _) ?_ ?_
 ·refine ab (bF ?_) (bF ?_) ar
  all_goals first|rfl|exact⟨rfl,rfl⟩
 ·rintro i hi K hK
  rcases aei i E.length with h|h
  ·have d1:decide ((i:Int)<(E.length:Int))=true:=b0;have H:=qx h;have ws:=ae (k:=i) zd;have u:=BQ E h;generalize E[i]=e at *
   (revert K;revert K;refine ak (mQ d1 H eN) ?_;iterate 5 intro K hK)
   refine ah.Uz (k:=(e.bN,e.bN)) rfl ?_
   ((iterate 5 revert K);refine ag ?_;iterate 4 intro K hK)
   refine ah.Uz (k:=(e.to,e.to)) rfl ?_
   ((iterate 4 revert K);refine ak ws ?_)
   refine aw.mk (i+1) h zd ?_;rw[u];refine ab ar (bF ?_) ar
   all_goals first|exact eW _ _|exact df _ _
  ·have e0:i=E.length:=zd
   have d1:decide ((E.length:Int)<(E.length:Int))=false:=bi;have A:E.take E.length=E:=List.take_length;simp only[e0,A]
   (revert K;revert K;refine jd 8 d1 ?_;intro K hK)
   refine bn (zG 3 0 rfl rfl rfl rfl) zo ?_;simp only[List.set_cons_zero,List.set_cons_succ]
   (revert K;refine ag ?_;intro K hK K hK)
   (revert K;revert K;refine aM PR ?_)
   refine iE.of 40 rfl ?_;simp only[go_sem,bu]
end Go.Proofs.YtlhhccmopfamhaaGreatDoor
