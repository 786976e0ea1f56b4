/- texts of one claim, one behind the other. -/
import Derived.Test.YtlhhccmopfamhaaGreatDoorQGo
import Derived.Test.YtlhhccmopfamhaaGreatDoorQDfaK
import Derived.Test.YtlhhccmopfamhaaGreatDoorQExprC
import Derived.Test.YtlhhccmopfamhaaGreatDoorQDfaQ
import Derived.Test.YtlhhccmopfamhaaGreatDoorQMat
import Derived.Shelf.Slices.CompactS
import Derived.Lib.RowBridge
import Derived.Test.YtlhhccmopfamhaaGreatDoorQValue
set_option linter.unusedSimpArgs false
set_option linter.unusedVariables false
set_option maxRecDepth 100000
set_option maxHeartbeats 16000000
open Bool renaming and_self -> agA, and_true -> afo, true_and -> afu, eq_false_or_eq_true -> af1, and_eq_true -> ae6, false_eq_true -> afC, false_and -> afL, and_false -> afW
open List renaming getElem?_set_self -> aeG, getElem?_eq_some_iff -> aeu, getElem?_set_ne -> aeH, contains_iff_mem -> agV, getElem?_eq_getElem -> aeC, mem_take_iff_getElem -> agW, take_succ_eq_append_getElem -> agO, length_cons -> afa, length_nil -> aeq, replicate_succ -> afU, replicate_zero -> afV, cons_append -> afK, nil_append -> afJ, set_cons_zero -> afS, set_cons_succ -> afR, take_zero -> agX, getD_eq_getElem?_getD -> ae2, length_map -> agG, map_append -> agY, map_cons -> aga, map_nil -> agE, length_append -> aew, push_toArray -> afH, drop_succ_cons -> agZ, drop_zero -> ag0, take_succ_cons -> ag1, length_singleton -> agK, mem_map -> ag2, getElem?_map -> aeE, length_replicate -> ag3, take_length -> agP, getElem_mem -> afy, mem_of_mem_take -> ag5, getElem?_toArray -> aeD, getElem?_cons_zero -> afD, getElem?_cons_succ -> afE, zip_cons_cons -> afM, zip_nil_left -> afN, foldl_cons -> afO, foldl_nil -> afP, setIfInBounds_toArray -> afQ, filter_cons_of_neg -> agl, drop_eq_getElem_cons -> af7, drop_eq_nil_of_le -> aeV
open Nat renaming lt_add_one -> agB, zero_lt_one -> agC, zero_le -> aex, zero_lt_succ -> ag4, le_refl -> aen, le_succ -> ag6
open Option renaming map_some -> aeO, getD_none -> ag7, isSome_none -> ag8, getD_some -> agL, isSome_some -> ag9
open Array renaming getElem?_eq_some_iff -> aer
namespace Go.Proofs.YtlhhccmopfamhaaGreatDoor
open Go.RowKit
open Go.Proofs.Tryz
section
variable {D:Nat->Prop} {nu:EQ} {o:AC} {w:World} {P:Program}
theorem P6(h:RO D nu o w){id:Nat}{ob:aa}(O:o[id]?=some (some ob))(W:ob.fe=false)(hz:ob.z=0):RA D nu (o.set id none) w (.mp ob.rows) (nu id 0):=by
 rcases h.obj id ob O with⟨e1,_⟩|⟨g,cur,hb⟩|⟨g,es,cl,q⟩
 ·rw[e1]at W;cases W
 ·have:=hb.z;omega
 ·rw[q.wC]
  have hf:Fz D nu (o.set id none) w g:=by
   refine⟨(Array.getElem?_eq_some_iff.1 q.e9).1,?_,q.oR⟩;rintro⟨H,ob',A,u⟩
   by_cases U:id=H
   ·subst U;rw[aeG (aeu.1 O).1]at A;cases A
   ·rw[aeH U]at A;exact h.sep id H ob ob' g O A U q.b7 u
  refine .mp _ g es cl hf q.e9 q.sz q.row q.born q.qQ (λi j row c e A u V=>?_);have hl:=q.row i row A;have Y:=(aeu.1 u).1
  match j,Y,u with
  |0,_,u=>exact(q.key i row c e A u V).mono (fh id) (λ_ _ h=>h)
  |1,_,u=>exact(q.val i row c e A u V).mono (fh id) (λ_ _ h=>h)
  |j+2,Y,_=>omega
theorem zB{s:AS}(i id:Nat){ob:aa}(hi:s.t[i]?=some (.vec id 0))(W:s.o[id]?=some (some ob))(U:ob.fe=false)(O:ob.z=0):Ee s (AS.mk (s.t.set i (.mp ob.rows)) (s.o.set id none) s.y):=by
 intro f D nu a w hs;have A:=fh (nu:=nu) (o:=s.o) (w:=w) id;refine⟨nu,A,rfl,nU hs.ro id,⟨by simpa using hs.tm.len,λj c x u H=>?_⟩,hs.mb⟩
 by_cases q:i=j
 ·subst q;rw[aeG (aeu.1 hi).1]at u;cases u;have V:=hs.tm.at' i _ x hi H;cases V;exact P6 hs.ro W U O
 ·rw[aeH q]at u;exact(hs.tm.at' j c x u H).mono A (λ_ _ h=>h)
end
theorem UR{s:cF}(ok:Eb s)(l:Do)(lab:ByteArray)(hl:l.length<=1000000):aj prog 119 [.vp (kj s),.aB 1 (aT l) l.length,.v (.string lab)] (.aB 1 (aT (bf s l lab)) (bf s l lab).length):=by
 have h:=T9 ok (b4 l) lab (by rw[AQ];exact hl);rw[AQ, <- LN]at h;exact h
theorem Pr(l:Do)(n:Nat)(hl:l.length<=1000000):∃k:Int,(decide (0<=k)=l.contains n)∧aj prog 155 [.aB 1 (aT l) l.length,.v (.int .i64 n)] (.v (.int .i64 k)):=by
 refine⟨if l.contains n then(l.idxOf n:Int)else -1,by split<;>simp_all<;>omega,?_⟩;refine gE func155 ntmps155 results155 ?_
 (refine ae ?_;intro K hK)
 refine bg (ι:=Nat) 8 (λi=>[(5,.undef),(8,.v (.int .i64 i))]) (λi=>l.length-i) (λi=>i<=l.length∧n∉l.take i) 0 ⟨Nat.zero_le _,zk⟩ ?_ ?_
 ·refine ab (bJ ?_) ar ar
  rfl
 rintro i ⟨hi,hn⟩ K hK
 (revert K;revert K;refine ae ?_;intro K hK K hK K hK)
 refine cn.part (λh=>?_) (λh=>?_)
 ·have u:i<l.length:=by replace h:=cq h;omega
  have eW:=ag (k:=i) zd
  have eG:(aT l).getD i []=[.v (.int .i64 (l[i]:Nat))]:=by rw[aT,getD_map _ l i [] u]
  ((iterate 3 revert K);refine fc h eG ?_;intro K hK K hK K hK)
  refine cn.part (λA=>?_) (λA=>?_)
  ·have H:n=l[i]:=by replace A:=cq A;omega
   have O:l.contains n=true:=by rw[agV,H];exact List.getElem_mem u
   have U:l.idxOf n=i:=by
    have W:l.idxOf n<=i:=by
     exact Fe l n i (by rw[H];exact aeC u)
    rcases Nat.lt_or_ge (l.idxOf n) i with q|q
    ·exfalso
     have V:l.idxOf n<l.length:=zd
     refine hn (agW.2 ⟨l.idxOf n,zd,?_⟩);exact List.getElem_idxOf V
    ·omega
   ((iterate 3 revert K);refine ae ?_)
   rw[O,if_pos rfl,U]
  ·have H:n≠l[i]:=by replace A:=cq A;omega
   ((iterate 3 revert K);refine ak eW ?_)
   exact aw.mk (i+1) ⟨zd,by
    rw[agO u,List.mem_append]
    rintro(e|e)
    ·exact hn e
    ·exact H (by simpa using e)⟩ zd (by exact ab ar ar ar)
 ·have O:l.contains n=false:=by
   have:i=l.length:=by replace h:=cq h;omega
   rw[this,List.take_length]at hn;rw[<-Bool.not_eq_true,agV];exact hn
  ((iterate 3 revert K);refine ae ?_)
  rw[O,if_neg zs]
theorem EF(l:Do)(n:Nat)(hl:l.length<=1000000):aj prog 121 [.aB 1 (aT l) l.length,.v (.int .i64 n)] (.v (.bool (l.contains n))):=by
 obtain⟨k,q,C⟩:=Pr l n hl;refine gE func121 ntmps121 results121 ?_
 (refine ae ?_;intro K hK K hK)
 (revert K;revert K;refine aK C ?_)
 rw[<-q]
def Fb(p:Nat->Bool):Do->Nat->Int
 | [],_=> -1
 |x::xs,i=>if p x then(i:Int)else Fb p xs (i+1)
theorem Fc(p:Nat->Bool):∀(l:Do)(i:Nat),decide (0<=Fb p l i)=l.any p
 | [],i=>rfl
 |x::xs,i=>by
  rw[Fb,List.any_cons]
  cases p x with
  |true=>simp
  |false=>simpa using Fc p xs (i+1)
theorem CO{g:FuncId}(caps:C5)(u:aU 0 caps=true)(p:Nat->Bool)(l:Do)(hl:l.length<=1000000)(H:∀x:Nat,aj prog g (.v (.int .i64 x)::caps) (.v (.bool (p x)))) :
  aj prog 156 [.aB 1 (aT l) l.length,.fn g [] caps] (.v (.int .i64 (Fb p l 0))):=by
 (refine aj.enter func156 rfl zo zo rfl (by simp only[go_sem,aU,AV.wf,agA,afo,afu,u]) (by simp only[go_sem,aU,AV.wf,bz,agA,afo,afu,u]) ?_;simp only[ntmps156,results156,afa,aeq,Nat.reduceAdd,Nat.reduceSub,afU,afV,afK,afJ])
 (refine ae ?_;intro K hK)
 refine bg (ι:=Nat) 8 (λi=>[(5,.undef),(8,.v (.int .i64 i))]) (λi=>l.length-i) (λi=>i<=l.length∧Fb p l 0=Fb p (l.drop i) i) 0 ⟨Nat.zero_le _,rfl⟩ ?_ ?_
 ·refine ab (bJ ?_) ar ar
  all_goals first|exact u|rfl|exact⟨u,rfl⟩
 rintro i ⟨hi,q⟩ K hK
 (revert K;revert K;refine ae ?_;intro K hK K hK K hK)
 refine cn.part (λh=>?_) (λh=>?_)
 ·have O:i<l.length:=by replace h:=qs h;omega
  have eW:=ag (k:=i) zd
  have eG:(aT l).getD i []=[.v (.int .i64 (l[i]:Nat))]:=by rw[aT,getD_map _ l i [] O]
  have HX:=H l[i];rw[List.drop_eq_getElem_cons O,Fb]at q
  ((iterate 3 revert K);refine ak eG ?_;iterate 5 intro K hK)
  refine ai.one HX ?_
  rcases af1 (p l[i])with A|A
  ·rw[A,if_pos rfl]at q
   ((iterate 5 revert K);refine ak A ?_)
   rw[q]
  ·rw[A,if_neg zs]at q
   ((iterate 5 revert K);refine fc A eW ?_)
   refine aw.mk (i+1) ⟨zd,q⟩ zd ?_;refine ab (bJ ?_) ar ar
   all_goals first|exact u|rfl
 ·have:i=l.length:=by replace h:=qs h;omega
  rw[this,List.drop_length,Fb]at q
  ((iterate 3 revert K);refine ae ?_)
  rw[q]
theorem wq{g:FuncId}(caps:C5)(q:aU 0 caps=true)(p:Nat->Bool)(l:Do)(hl:l.length<=1000000)(H:∀x:Nat,aj prog g (.v (.int .i64 x)::caps) (.v (.bool (p x)))) :
  aj prog 123 [.aB 1 (aT l) l.length,.fn g [] caps] (.v (.bool (l.any p))):=by
 have C:=CO caps q p l hl H
 (refine aj.enter func123 rfl zo zo rfl (by simp only[go_sem,aU,AV.wf,agA,afo,afu,q]) (by simp only[go_sem,aU,AV.wf,bz,agA,afo,afu,q]) ?_;simp only[ntmps123,results123,afa,aeq,Nat.reduceAdd,Nat.reduceSub,afU,afV,afK,afJ])
 (refine ae ?_;intro K hK K hK)
 (revert K;revert K;refine aK C ?_)
 rw[Fc]
theorem Pt(last:Do)(n:Nat)(hl:last.length<=1000000):aj prog 120 [.v (.int .i64 n),.vp [.aB 1 (aT last) last.length]] (.v (.bool (last.contains n))):=by
 have C:=EF last n hl;refine gE func120 ntmps120 results120 ?_
 (refine ae ?_;intro K hK K hK)
 (revert K;revert K;exact lE C)
def Ny(l:B0):List C5:=dD (l.zipIdx)
theorem Ki(l:B0):(Ny l).length=l.length:=by simp[Ny,dD]
theorem FE(l:B0)(s:ByteArray):∀k,look (l.zipIdx k) s=(pos l s).map (λi=>i+k):=by
 induction l with
 |nil=>intro k;simp[look,pos]
 |cons a l ih=>
  intro k;rw[List.zipIdx_cons]
  have:=ih (k+1)
  simp only[look,pos,List.find?_cons,List.findIdx?_cons]at this⊢
  cases h:fQ s a
  ·simp only[Bool.false_eq_true,if_false];rw[this,Option.map_map]
   congr 1;funext i;simp;omega
  ·simp
theorem N5(s:ByteArray)(l:B0):o5 .string (.string s) (Ny l)=some ((pos l s).map (λn=> .v (.int .i64 (n:Nat)))):=by
 rw[Ny,B8,FE,Option.map_map];rfl
theorem PG(l:B0)(s:ByteArray):Ny (l++[s])=dD (l.zipIdx++[(s,l.length)]):=by rw[Ny,List.zipIdx_append];simp
theorem N7(s:ByteArray)(l:B0)(h:pos l s=none):nz .string (.string s) (.v (.int .i64 (l.length:Nat))) (Ny l)=some (Ny (l++[s])):=by
 rw[Ny,ux s l.length _ (by rw[FE,h];rfl),PG]
@[go_sem] theorem adn(n:Nat)(l:B0):bD n (Ny l)=true:=xp n _
section
variable {P:Program}
theorem Lp{n0:Nat}{c:Code}{s:AS}{Q:bd->AS->Prop}(s0:AS)(u:bX c=true)(h:cD P n0 c s (λe s'=>e=.normal∧Wk n0 s' s0))(k:Q .normal s0):G3 P n0 c s Q:=λf m D nu a w O hn hm W A R hO hR=>by
 refine gO A m O hn c u s a w D nu f.Z _ R hO hm W h ?_;rintro e D' Z' s' a' w' nu' V U ⟨rfl,q⟩;refine hR .normal D' Z' s0 a' w' nu' ?_ (lh q U) k;rw[<-q.y];exact m.step V U.ro q.yL (lh q U).ro (λc v Y hc=>q.ra Y hc) (λ_ h=> .inl h) (λ_ h=> .inl h) (λb H=>⟨((m.sj V).1 b H).1,((m.sj V).1 b H).2,.inl H⟩) (Nat.le_trans hn q.n)
theorem Eu{n0 id:Nat}{s:AS}{ops:Array Oper}{d:Bool}{Q:bd->AS->Prop}(s0:AS)(q:dP ops=true)(h:cD P n0 (.region id ops d) s (λe s'=>e=.normal∧Wk n0 s' s0))(k:Q .normal s0):cD P n0 (.region id ops d) s Q:=by
 have:=Lp (c:= .region id ops d) s0 q h k
 cases d
 ·exact .inr this
 ·exact .inr this
theorem vM{n0:Nat}{x y:Code}{s:AS}{Q:bd->AS->Prop}(s0:AS)(Y:bX x=true)(W:bX y=true)(h:cD P n0 x s (λe s'=>e=.normal∧Wk n0 s' s0))(k:cD P n0 y s0 Q):cD P n0 (.seq x y) s Q:= .inr (λf m D nu a w A hn hm hs u R V hR=>by
 refine wpIn_seq (gO u (f:=f) m A hn x Y s a w D nu f.Z _ _ (λa w h=>V a w h) hm hs h ?_);rintro e D' Z' s' a' w' nu' U O ⟨rfl,q⟩;refine gO u (f:=f) m A hn y W s0 a' w' D' nu' Z' Q R V ?_ (lh q O) k hR;rw[<-q.y]
 exact m.step U O.ro q.yL (lh q O).ro (λc v hr hc=>q.ra hr hc) (λ_ h=> .inl h) (λ_ h=> .inl h) (λb H=>⟨((m.sj U).1 b H).1,((m.sj U).1 b H).2,.inl H⟩) (Nat.le_trans hn q.n))
theorem Rl{n0 i:Nat}{ops:Array Oper}{d:Bool}{a b:Code}{s:AS}{Q:bd->AS->Prop}(h:cD P n0 (.seq (.seq (.region i ops d) a) b) s Q):cD P n0 (.seq (.seq (.region i ops d) a) b) s Q:=h
end
theorem Dj{l:B0}(hn:l.Nodup){i:Nat}(h:i<l.length):l[i]∉l.take i:=λq=>by
 obtain⟨j,u,e⟩:=agW.1 q;exact List.pairwise_iff_getElem.1 hn j i zd h zd e
theorem P4:dD []=[]:=rfl
def sy(a:Do):C5:=[.aB 1 (aT a) a.length]
theorem qJ(n:Nat)(a:Do):aU n (sy a)=true:=by simp only[sy,aU,AV.wf,jv,agA]
@[go_sem] theorem aaE(n:Nat)(l:List Do):bD n (l.map sy)=true:=bw _ (qJ n) _
def wg:Option qf->AV
 |some st=> .ck [.vp (gV st.rows st.ends),.v (.bool true)]
 |none=> .ck [.v (.pointer none),.v (.bool false)]
theorem RU(o:Option qf):(wg o).wf 0=true:=by
 cases o with
 |none=>rfl
 |some st=>simp only[wg,AV.wf,aU,gV,uf,ue,agA]
theorem nH(m:BitVec 32):(∀n∈az m,n<100)∧(az m).length<=1000:=by
 refine⟨λn hn=>?_,?_⟩
 ·rw[az,List.mem_filter,List.mem_range]at hn;omega
 ·have:=List.length_filter_le m.getLsbD (List.range 32)
  rw[List.length_range]at this;rw[az];omega
theorem rU{s:cF}{a:Do}(h:Made (bf s) a):(∀n∈a,n<100)∧a.length<=1000:=by
 rcases h.2 with rfl|⟨cur,l,rfl⟩
 ·simp
 ·exact nH _
def kp(s:cF)(st:qf):AC:=[some ⟨56,1,false,[[.aB 1 (aT (az s.la)) (az s.la).length]]⟩,some ⟨163,0,false,Ny (st.all.map lG)⟩,none,none,some ⟨56,1,true,st.all.map sy⟩,some ⟨123,2,false,[[.vec 6 st.rows.length,.vec 7 st.rows.length]]⟩,some ⟨164,1,true,st.rows.map (λr=>[.mp (dD r)])⟩,some ⟨4,1,true,st.ends.map (λb=>[.v (.bool b)])⟩]
theorem W8{s:cF}(ok:Eb s)(labs:B0)(hn:labs.Nodup)(hl:labs.length<=1000)(hb:(az s.la).length<=1000):aj prog 84 [.vp (kj s),bY labs] (wg (q8 (bf s) s.em (az s.la) labs)):=by
 have CL:=T8 s ok.len;have CE:=P9 s ok.len;have CK0:=Vm [0] zk zk;have e0:aT [0]=[[.v (.int .i64 0)]]:=rfl;rw[e0]at CK0;simp only[afa,aeq,Nat.reduceAdd]at CK0
 have hA:aU 0 [AV.vp (kj s),bY labs]=true:=by simp only[bY,aU,AV.wf,DT,bz,agA]
 have hF:=RU (q8 (bf s) s.em (az s.la) labs);generalize hrv:wg (q8 (bf s) s.em (az s.la) labs)=rv at hF⊢
 (refine aj.iA func84 rfl zo zo rfl hA hF ?_;simp only[ntmps84,results84,afa,aeq,Nat.reduceAdd,Nat.reduceSub,afU,afV,afK,afJ])
 (refine ae ?_;intro K hK K hK)
 (revert K;revert K;refine aK CL ?_;intro K hK K hK)
 refine ai.Ct CK0 8 rfl (by simp only[go_sem,Nat.reduceLT,Nat.reduceLeDiff,Nat.reduceEqDiff,agB,agC,and_self]) rfl ?_
 (revert K;revert K;refine dG 5 ?_;intro K hK K hK)
 refine bl (fM (k:=4) (i:=0) (j:=0) zs rfl (Nat.zero_lt_succ _) rfl rfl rfl rfl rfl) zo ?_;simp only[afS,afR,afa,aeq,Nat.reduceAdd,afK,afJ];refine bl (dT (k:=5) (i:=0) (j:=0) 164 1 zs rfl zs rfl rfl) zo ?_;simp only[afS,afR,afa,aeq,Nat.reduceAdd,afK,afJ];refine bl (dT (k:=5) (i:=0) (j:=1) 4 1 zs rfl zs rfl rfl) zo ?_;simp only[afS,afR,afa,aeq,Nat.reduceAdd,afK,afJ]
 (revert K;revert K;refine ae ?_;intro K hK)
 refine aO (ι:=qf) 10 (λst=>[(8,.vec 4 st.all.length),(10,.v (.int .i64 st.rows.length))]) (kp s) (λst=>257-st.rows.length) (λst=>Hb labs st∧(∀a∈st.all,Made (bf s) a)∧wg (pX (bf s) s.em (az s.la) labs (257-st.rows.length) st)=rv) s0
  ⟨UH labs,λa ha=>by simp only[s0,List.mem_singleton]at ha;subst ha;exact⟨zk,.inl rfl⟩,hrv⟩ ?_ ?_
 ·simp only[kp,s0]
  refine ab (bJ ?_) (bJ ?_) ar
  ·rfl
  ·exact⟨rfl,rfl,qJ _ _⟩
 ·rintro st ⟨A,hmade,u⟩ K hK;have h257:=A.max;have hel:=A.ends;simp only[kp]
  (revert K;revert K;refine ae ?_;intro K hK K hK K hK)
  refine cn.part (λh=>?_) (λh=>?_)
  ·have V:st.rows.length<st.all.length:=by replace h:=cq h;omega
   rw[show 257-st.rows.length=(256-st.rows.length)+1 by have:=A.le;omega,pX,if_pos V]at u
   ((iterate 3 revert K);refine ak h ?_;iterate 4 intro K hK)
   obtain⟨hcm,hcl⟩:=rU (hmade _ (bK (d:=[]) V));rw[<-cd]at hcm hcl
   refine aO (ι:=Nat) 38 (λi=>[(8,.vec 4 (fL (bf s) (cd st) st.all (labs.take i)).1.length),(13,.undef),(14,.undef),(15,.undef),(16,.undef),(37,.v (.int .i64 i))]) (λi=>kp s {st with all:=(fL (bf s) (cd st) st.all (labs.take i)).1}++[some ⟨164,0,false,dD (fL (bf s) (cd st) st.all (labs.take i)).2⟩]) (λi=>labs.length-i) (λi=>i<=labs.length) 0 (Nat.zero_le _) ?_ ?_
   ·simp only[kp,agX,fL,List.foldl_nil,P4,afK,afJ];refine ab (bJ ?_) ar ar
    all_goals rfl
   ·intro i hi K hK;obtain⟨k1,k2,k3,k4,k5,t,k6⟩:=xn (bf s) (cur:=cd st) A.nd (labs.take i);have hmd:=vn (bf s) hmade (cur:=cd st) (labs.take i);have hlk:∀l,l∉labs.take i->look (fL (bf s) (cd st) st.all (labs.take i)).2 l=none:=λl hl=>lq.2 λq=>hl (k5.subset q)
    rcases U:fL (bf s) (cd st) st.all (labs.take i)with⟨al,ro⟩
    rw[U]at k1 k2 k3 k4 k5 k6 hmd hlk;simp only at k1 k2 k3 k4 k5 k6 hmd hlk
    have hal:al.length<=2000:=by rw[List.length_take]at k4;omega
    simp only[kp,afK,afJ]
    ((iterate 5 revert K);refine ae ?_;iterate 6 intro K hK)
    refine cn.part (λh2=>?_) (λh2=>?_)
    ·have hli:i<labs.length:=by replace h2:=cq h2;omega
     have eW:=ag (k:=i) zd;have eG:=getD_map encS labs i [] hli
     have eC:(al.map sy).getD st.rows.length []=[.aB 1 (aT (cd st)) (cd st).length]:=by
      have hx:al.getD st.rows.length []=cd st:=by rw[k6,dY V];rfl
      rw[ae2,List.getElem?_map,aeC zd];rw[ae2,aeC zd]at hx;simp only[aeO,Option.getD_some]at hx⊢;rw[hx];rfl
     have Y:=lx (bf s) (cd st) st.all (labs.take i) labs[i];rw[<-agO hli,U,GV]at Y;have CS:=UR ok (cd st) labs[i] zd;obtain⟨ts,tl⟩:=nH (kq s (iO s (b4 (cd st))) labs[i]);have CKy:=Vm (bf s (cd st) labs[i]) ts (by have:(bf s (cd st) labs[i]).length<=1000:=tl;omega);have tl':(bf s (cd st) labs[i]).length<=1000:=tl;generalize hto:bf s (cd st) labs[i]=to at *;simp only[encS]at eG
     repeat(first|(with_reducible first|refine bG.up ?_|refineλ(K:AK)hK=>?_|(refine hK _ ?_;clear hK K))|simp only[go_sem,eG,eC,h2]|with_reducible refine wA ?_|clear hK K)
     ((iterate 8 revert K);refine aK CS ?_;iterate 7 intro K hK)
     refine cn.part (λh3=>?_) (λh3=>?_)
     ·have hz:to=[]:=List.eq_nil_of_length_eq_zero (by replace h3:=cq h3;omega);rw[if_pos hz]at Y
      ((iterate 7 revert K);refine ak eW ?_)
      refine aw.mk (i+1) zd zd ?_;rw[Y];simp only[kp,afK,afJ];exact ab ar ar ar
     ·have hz: ¬to=[]:=λe=>by subst e;simp at h3
      rw[if_neg hz]at Y;have eA:=N5 (lG to) (al.map lG)
      ((iterate 7 revert K);refine ae ?_;iterate 8 intro K hK)
      refine ai.one CKy ?_
      cases hp:pos (al.map lG) (lG to)with
      |some k=>
       rw[hp]at Y eA;simp only[aeO]at eA Y;have eS:=ux labs[i] k ro (hlk _ (Dj hn hli))
       ((iterate 8 revert K);refine ak (nq eA eS eW) ?_)
       refine aw.mk (i+1) zd zd ?_;rw[Y];simp only[kp,afK,afJ];exact ab ar ar ar
      |none=>
       rw[hp]at Y eA;simp only[Option.map_none]at eA Y;have eS:=ux labs[i] al.length ro (hlk _ (Dj hn hli));have eK:=N7 (lG to) (al.map lG) hp;rw[agG]at eK
       repeat(first|(with_reducible first|refine bG.up ?_|refineλ(K:AK)hK=>?_|(refine hK _ ?_;clear hK K))|simp only[go_sem,eA,eS,eW]|with_reducible refine wA ?_|clear hK K)
       refine ai.one CKy ?_
       repeat(first|(with_reducible first|refine bG.up ?_|refineλ(K:AK)hK=>?_|(refine hK _ ?_;clear hK K))|simp only[go_sem,eK,eS,eW]|with_reducible refine wA ?_|clear hK K)
       refine aw.mk (i+1) zd zd ?_;rw[Y];simp only[kp,afK,afJ,agY,aga,agE,aew,afa,aeq];refine ab ar (bJ ?_) ar
       all_goals exact⟨rfl,qJ _ _⟩
    ·have hil:i=labs.length:=by replace h2:=cq h2;omega
     rw[hil,List.take_length]at U
     have H:(cR (bf s) s.em (az s.la) labs st).all=al:=by rw[cR,U]
     have hrow:(cR (bf s) s.em (az s.la) labs st).rows=st.rows++[ro]:=by rw[cR,U]
     rw[H]at u
     ((iterate 6 revert K);refine ae ?_;iterate 4 intro K hK)
     refine cn.part (λh3=>?_) (λh3=>?_)
     ·rw[if_pos (by replace h3:=cq h3;omega)]at u
      ((iterate 4 revert K);refine ae ?_)
      rw[<-u];exact bB.ck ⟨bB.v _,bB.v _,trivial⟩
     ·have h256: ¬ 256<al.length:=by replace h3:=cq h3;omega
      rw[if_neg h256]at u
      ((iterate 4 revert K);refine dG 24 ?_;iterate 4 intro K hK)
      refine bl (zB 11 8 rfl rfl rfl rfl) zo ?_;simp only[afS,afR]
      ((iterate 4 revert K);refine dG 25 ?_;intro K hK K hK K hK)
      have CF:=wq (g:=120) [.vp [.aB 1 (aT (az s.la)) (az s.la).length]] (by simp only[aU,AV.wf,jv,agA]) (λn=>(az s.la).contains n) (cd st) zd (λn=>Pt (az s.la) n zd)
      have eC:(al.map sy).getD st.rows.length []=[.aB 1 (aT (cd st)) (cd st).length]:=by
       have hx:al.getD st.rows.length []=cd st:=by rw[k6,dY V];rfl
       rw[ae2,List.getElem?_map,aeC zd];rw[ae2,aeC zd]at hx;simp only[aeO,Option.getD_some]at hx⊢;rw[hx];rfl
      have hE:tW s.em (az s.la) st=(((st.rows.length:Int)==0&&s.em)||(cd st).any (λn=>(az s.la).contains n)):=by
       rw[tW];congr 2;rw[Bool.eq_iff_iff,beq_iff_eq,beq_iff_eq];omega
      refine Eu ⟨bP 112 [(0,.vp (kj s)),(1,.aB 1 (labs.map encS) labs.length),(4,.v (.pointer none)),(5,.v (.bool false)),(6,.ptr 0 0 1 0 0),(7,.vec 1 0),(8,.vec 4 al.length),(9,.ptr 5 0 2 0 0),(10,.v (.int .i64 st.rows.length))],kp s (cR (bf s) s.em (az s.la) labs st),.no⟩ zo ?_ ?_
      ·have hO:kp s (cR (bf s) s.em (az s.la) labs st)=kp s ⟨al,st.rows++[ro],st.ends++[tW s.em (az s.la) st]⟩:=by rw[cR,U]
       rw[hO]
       rcases(af1 ((st.rows.length:Int)==0)).symm with hZ|hZ
       ·have W:tW s.em (az s.la) st=(cd st).any (λn=>(az s.la).contains n):=by rw[hE,hZ,Bool.false_and,Bool.false_or]
        simp only[kp,agY,aga,agE,aew,afa,aeq,W]
        (refine qi 20 88 9 zo za zo ?_;simp only[jb,aga,agE,afH,afK,afJ,agZ,ag0,ag1,agX])
        repeat(first|(with_reducible first|refine bG.up ?_|refineλ(K:AK)hK=>?_|(refine hK _ ?_;clear hK K))|simp only[go_sem,eC,hZ]|with_reducible refine wA ?_|clear hK K)
        refine b8.Ct CF 20 rfl (by simp only[go_sem,Nat.reduceLT,Nat.reduceLeDiff,Nat.reduceEqDiff,agB,agC,and_self]) rfl ?_
        repeat(first|(with_reducible first|refine bG.up ?_|refineλ(K:AK)hK=>?_|(refine hK _ ?_;clear hK K))|simp only[go_sem,eC,hZ]|with_reducible refine wA ?_|clear hK K)
        exact ab ar ar ar
       ·rcases(af1 s.em).symm with O|O
        ·have W:tW s.em (az s.la) st=(cd st).any (λn=>(az s.la).contains n):=by rw[hE,hZ,O];simp
         simp only[kp,agY,aga,agE,aew,afa,aeq,W]
         (refine qi 20 88 9 zo za zo ?_;simp only[jb,aga,agE,afH,afK,afJ,agZ,ag0,ag1,agX])
         repeat(first|(with_reducible first|refine bG.up ?_|refineλ(K:AK)hK=>?_|(refine hK _ ?_;clear hK K))|simp only[go_sem,eC,hZ]|with_reducible refine wA ?_|clear hK K)
         refine b8.one CE ?_
         repeat(first|(with_reducible first|refine bG.up ?_|refineλ(K:AK)hK=>?_|(refine hK _ ?_;clear hK K))|simp only[go_sem,eC,O]|with_reducible refine wA ?_|clear hK K)
         refine b8.Ct CF 20 rfl (by simp only[go_sem,Nat.reduceLT,Nat.reduceLeDiff,Nat.reduceEqDiff,agB,agC,and_self]) rfl ?_
         repeat(first|(with_reducible first|refine bG.up ?_|refineλ(K:AK)hK=>?_|(refine hK _ ?_;clear hK K))|simp only[go_sem,eC,O]|with_reducible refine wA ?_|clear hK K)
         exact ab ar ar ar
        ·have W:tW s.em (az s.la) st=true:=by rw[hE,hZ,O];simp
         simp only[kp,agY,aga,agE,aew,afa,aeq,W]
         (refine qi 20 88 9 zo za zo ?_;simp only[jb,aga,agE,afH,afK,afJ,agZ,ag0,ag1,agX])
         repeat(first|(with_reducible first|refine bG.up ?_|refineλ(K:AK)hK=>?_|(refine hK _ ?_;clear hK K))|simp only[go_sem,eC,hZ]|with_reducible refine wA ?_|clear hK K)
         refine b8.one CE ?_
         repeat(first|(with_reducible first|refine bG.up ?_|refineλ(K:AK)hK=>?_|(refine hK _ ?_;clear hK K))|simp only[go_sem,eC,O]|with_reducible refine wA ?_|clear hK K)
         exact ab ar ar ar
      ·have hlen:(cR (bf s) s.em (az s.la) labs st).rows.length=st.rows.length+1:=by rw[hrow,aew,List.length_singleton]
       have eW:=ag (k:=st.rows.length) zd;obtain⟨nx,hnx⟩:∃nx,nx=cR (bf s) s.em (az s.la) labs st:=⟨_,rfl⟩;have hnok:Hb labs nx:=hnx ▸ tX (bf s) s.em (az s.la) A V (by rw[H];exact h256);rw[<-hnx]at u hlen H⊢;simp only[kp];simp only[bP,List.foldl_cons,List.foldl_nil,afU,afV,go_sem]
       ((iterate 3 revert K);refine ak eW ?_)
       refine aw.mk nx ⟨hnok,by rw[H];exact hmd,by rw[hlen,show 257-(st.rows.length+1)=256-st.rows.length by omega];exact u⟩ (by rw[hlen];have:=A.le;omega) ?_;simp only[kp,H,hlen];exact ab ar ar ar
  ·have hge:st.rows.length=st.all.length:=by have:=A.le;replace h:=cq h;omega
   rw[show 257-st.rows.length=(256-st.rows.length)+1 by omega,pX,if_neg zd]at u;have hel:=A.ends
   ((iterate 3 revert K);refine ae ?_)
   rw[<-u];simp only[wg,gV,hel];exact bB.ck ⟨bB.ptr (ob:=⟨123,2,false,[[.vec 6 st.rows.length,.vec 7 st.rows.length]]⟩) rfl rfl rfl (Nat.succ_ne_zero 1) ⟨bB.sg (ob:=⟨164,1,true,st.rows.map (λr=>[.mp (dD r)])⟩) rfl rfl (agG _) (uf _ _),bB.sg (ob:=⟨4,1,true,st.ends.map (λb=>[.v (.bool b)])⟩) rfl rfl ((agG _).trans hel) (ue _ _),trivial⟩,bB.v _,trivial⟩
structure GOk(rows:N3)(ends:N2):Prop where
 n:rows.length<=256
 e:ends.length=rows.length
 qQ:∀r∈rows,lZ (r.map Prod.fst)
 len:∀r∈rows,r.length<=1000
 lab:∀r∈rows,∀p∈r,p.1.size<=1000∧p.2<rows.length
theorem sI(a b:ByteArray):(a++b).size=a.size+b.size:=ByteArray.size_append
theorem Cm(u:Nat)(h:u<1000):(⟨(Lib.decDigits u).toArray⟩:ByteArray).size<=3:=by
 have:=xU u h
 simpa [ByteArray.size]using this
theorem Ba(part:Do)(p:Nat):du part p []=⟨(Lib.decDigits p).toArray⟩:=by simp[du,yW]
theorem yY(part:Do)(p:Nat)(r:bC)(e:ByteArray×Nat):du part p (r++[e])=du part p r++(((⟨#[32]⟩++e.1)++⟨#[32]⟩)++⟨(Lib.decDigits (part.getD e.2 0)).toArray⟩):=by
 apply ByteArray.ext
 rw[du,ML];simp[du,ByteArray.data_append]
theorem IT(part:Do)(p:Nat)(A:p<1000)(u:∀s,part.getD s 0<1000):∀r:bC,(∀e∈r,e.1.size<=1000)->(du part p r).size<=3+1005*r.length:=by
 refine iq ?_ ?_
 ·intro _;rw[Ba];have:=Cm p A;simpa using this
 ·intro r e ih h;have V:=ih λx q=>h x (List.mem_append_left _ q);have U:=h e zk;have O:=Cm _ (u e.2);have H:(⟨#[32]⟩:ByteArray).size=1:=rfl;rw[yY,sI,sI,sI,sI,H,aew,agK];omega
theorem wY{l:Do}{b:Nat}(u:0<b)(h:∀v∈l,v<b)(s:Nat):l.getD s 0<b:=by
 rw[ae2]
 cases q:l[s]? with
 |none=>simpa using u
 |some v=>exact h v (List.mem_of_getElem? q)
theorem Zn(ends:N2):∀v∈p0 ends,v<1000:=λv q=>by
 rw[p0,ag2]at q;obtain⟨b,_,rfl⟩:=q
 split<;>omega
theorem Uj(rows:N3)(part:Do)(n:Nat)(v:Nat)(q:v∈(fA rows part n).2):v<(fA rows part n).1.length:=by
 have ok:=jn rows part n;obtain⟨s,u,rfl⟩:=List.mem_iff_getElem.1 q
 have:=(ok.at' s (by have:=ok.len;omega)).1
 rw[ae2,aeC u]at this;exact this
theorem WH{rows:N3}(hn:rows.length<=256)(part:Do):∀v∈gG rows part,v<1000:=λv q=>by
 have:=Uj rows part rows.length v q
 have:=(jn rows part rows.length).le
 omega
theorem KM(A:Do)(n i v:Nat)(q:A.length=i)(h:i<n):(aT (A++List.replicate (n-i) 0)).set i [.v (.int .i64 (v:Nat))]=aT ((A++[v])++List.replicate (n-(i+1)) 0):=by
 rw[show n-i=(n-(i+1))+1 by omega,afU,aT,aT,agY,agY,agY,List.set_append,if_neg (by simp[q])];simp[q]
theorem Y5(A:Do)(n i:Nat)(q:A.length=i)(h:i<n):(aT (A++List.replicate (n-i) 0)).getD i []=[.v (.int .i64 0)]:=by
 rw[show n-i=(n-(i+1))+1 by omega,afU,aT,agY,ae2,List.getElem?_append_right (by simp[q])];simp[q]
theorem Zw(A:Do)(n i:Nat)(h:i<n):A++List.replicate (n-i) 0=(A++[0])++List.replicate (n-(i+1)) 0:=by
 rw[show n-i=(n-(i+1))+1 by omega,afU];simp
def Qy(ends:N2)(i:Nat):AC:=[some ⟨3,1,true,aT (p0 (ends.take i)++List.replicate (ends.length-i) 0)⟩,some ⟨56,1,false,[[.vec 0 ends.length]]⟩]
def vd(n:Nat)(part:Do):AC:=[none,some ⟨56,1,false,[[.aB 1 (aT part) n]]⟩]
def z6(rows:N3)(part:Do)(s:Nat):AC:=vd rows.length part++[some ⟨163,0,false,Ny (fA rows part s).1⟩,some ⟨3,1,true,aT ((fA rows part s).2++List.replicate (rows.length-s) 0)⟩]
theorem Um{rows:N3}{ends:N2}(ok:GOk rows ends):aj prog 124 [.vp (gV rows ends)] (.aB 1 (aT (b9 rows ends)) rows.length):=by
 have hN:=ok.n;have hE:=ok.e
 have hA:aU 0 [AV.vp (gV rows ends)]=true:=by simp only[gV,aU,AV.wf,uf,ue,agA]
 have hF:(AV.aB 1 (aT (b9 rows ends)) rows.length).wf 0=true:=by simp only[AV.wf,jv]
 generalize hrv:AV.aB 1 (aT (b9 rows ends)) rows.length=rv at hF⊢
 (refine aj.iA func124 rfl zo zo rfl hA hF ?_;simp only[ntmps124,results124,afa,aeq,Nat.reduceAdd,Nat.reduceSub,afU,List.replicate_zero,afK,afJ])
 simp only[gV]
 (refine bj ?_;intro K hK)
 refine aO (ι:=Nat) 27 (λi=>[(4,.undef),(5,.undef),(26,.v (.int .i64 i))]) (Qy ends) (λi=>ends.length-i) (λi=>i<=ends.length) 0 (aex _) ?_ ?_
 ·have e0:aT (p0 (ends.take 0)++List.replicate (ends.length-0) 0)=List.replicate rows.length [AV.v (.int .i64 0)]:=by
   rw[hE];simp[p0,aT]
  simp only[Qy,e0,hE];refine ab (bJ ?_) (bJ ?_) ar
  all_goals first|rfl|simp[p0,aT]
 ·intro i hi K hK;simp only[Qy]
  (revert K;revert K;refine bj ?_;intro K hK K hK K hK)
  refine cn.part (λh=>?_) (λh=>?_)
  ·have q:i<ends.length:=by replace h:=cq h;omega
   have eW:=ag (k:=i) zd
   have eG:(ends.map (λb=>[AV.v (.bool b)])).getD i []=[.v (.bool ends[i])]:=by
    rw[ae2,aeE,aeC q];rfl
   have U:(p0 (ends.take i)).length=i:=by rw[p0,agG,List.length_take];omega
   have eL:(aT (p0 (ends.take i)++List.replicate (ends.length-i) 0)).length=ends.length:=by rw[aT,agG,aew,U,ag3];omega
   have eN:p0 (ends.take (i+1))=p0 (ends.take i)++[if ends[i]then 1 else 0]:=by rw[p0,p0,agO q,agY];rfl
   rcases(Bool.eq_false_or_eq_true ends[i]).symm with hb|hb
   ·rw[hb]at eG eN;rw[if_neg zs]at eN
    ((iterate 3 revert K);refine aM (rL eG h) ?_)
    refine aM eW ?_;refine aw.mk (i+1) zd zd ?_;simp only[Qy,eN, <- Zw _ _ _ q];exact ab ar ar ar
   ·rw[hb]at eG eN;rw[if_pos rfl]at eN;have eS:=KM (p0 (ends.take i)) ends.length i 1 U q;have eS:=KM (p0 (ends.take i)) ends.length i 1 U q;have eQ:=Y5 (p0 (ends.take i)) ends.length i U q;have c1:((1:Nat):Int)=1:=rfl;rw[c1]at eS
    ((iterate 3 revert K);refine yn (qq eG h eL eQ eS) ?_)
    refine aM eW ?_;refine aw.mk (i+1) zd zd ?_;simp only[Qy,eN];exact ab ar ar ar
    all_goals trace_state
  ·have h16:i=ends.length:=by replace h:=cq h;omega
   have e1:aT (p0 (ends.take i)++List.replicate (ends.length-i) 0)=aT (p0 ends):=by rw[h16,agP,Nat.sub_self];simp
   have l0:(aT (p0 ends)).length=ends.length:=by simp[aT,p0]
   have l1:(p0 ends).length=rows.length:=by simp[p0,hE]
   simp only[e1]
   ((iterate 3 revert K);refine dG 8 ?_;intro K hK)
   refine bl (fM (k:=1) (i:=0) (j:=0) zs rfl (ag4 _) rfl rfl rfl rfl l0) zo ?_;simp only[afS,afR,hE];clear hi h h16 e1 l0;have hs0:∃f,rows.length+2<=f+0∧AV.aB 1 (aT (qP rows f (p0 ends) 0)) rows.length=rv:=⟨rows.length+2,Nat.le_refl _,hrv⟩;clear hrv
   (revert K;refine bj ?_;intro K hK)
   refine aO (ι:=Do×Nat) 7 (λx=>[(4,.undef),(5,.undef),(6,.v (.int .i64 x.2))]) (λx=>vd rows.length x.1) (λx=>rows.length+1-x.2) (λx=>(∀v∈x.1,v<1000)∧x.2<=rows.length∧XB rows x.1 x.2∧∃f,rows.length+2<=f+x.2∧AV.aB 1 (aT (qP rows f x.1 x.2)) rows.length=rv) (p0 ends,0) ⟨Zn ends,aex _,⟨l1,λk hk=>absurd hk (Nat.not_lt_zero k)⟩,hs0⟩ ?_ ?_
   ·simp only[vd];refine ab (bJ ?_) ar ar
    all_goals rfl
   ·rintro⟨part,many⟩ ⟨A,hml,hpo,f,hf,H⟩ K hK;simp only at A hml hpo hf H;have hpn:=hpo.1;simp only[vd]
    (revert K;revert K;refine bj ?_;intro K hK K hK K hK)
    have z0:List.replicate rows.length [AV.v (.int .i64 0)]=aT (List.replicate rows.length 0):=by simp[aT]
    refine aO (ι:=Nat) 46 (λs=>[(9,.undef),(10,.undef),(11,.undef),(12,.undef),(13,.undef),(14,.undef),(45,.v (.int .i64 s))]) (z6 rows part) (λs=>rows.length-s) (λs=>s<=rows.length) 0 (aex _) ?_ ?_
    ·simp only[z6,vd,afK,afJ];refine ab (bJ ?_) (bJ ?_) ar
     all_goals first|rfl|exact⟨rfl,z0⟩
    ·intro s hs K hK;have pok:=jn rows part s;simp only[z6,vd,afK,afJ]
     ((iterate 4 revert K);refine bj ?_;iterate 5 intro K hK)
     refine cn.part (λh=>?_) (λh=>?_)
     ·have q:s<rows.length:=by replace h:=cq h;omega
      have eW:=ag (k:=s) zd
      have eG:(aT part).getD s []=[.v (.int .i64 ((part.getD s 0:Nat):Int))]:=by
       rw[aT,ae2,aeE,aeC zd,ae2,aeC zd];rfl
      have CI:=Pw (part.getD s 0) (by have:=wY zd A s;omega);have CS:=KQ rows ends s;have O:=ok.lab _ (afy q);have hln:=ok.len _ (afy q);have u:=BB rows ends s q zd (λp hp=>Nat.le_trans (O p hp).1 zs) (ok.qQ _ (afy q)) zd;simp only[gV,hE]at CS u;obtain⟨row,Y⟩:∃row,row=rows[s]:=⟨_,rfl⟩;rw[<-Y]at O hln u;have hq1:part.getD s 0<1000:=wY zd A s
      ((iterate 5 revert K);refine aM (rL eG h) ?_;iterate 7 intro K hK)
      ((iterate 7 revert K);refine lD CI ?_;iterate 8 intro K hK)
      ((iterate 8 revert K);refine lD CS ?_;iterate 6 intro K hK)
      refine rA u 58 (λk=>z6 rows part s++[some ⟨9,1,false,[[.v (.string (du part (part.getD s 0) (row.take k)))]]⟩]) (λk=>k<=row.length) (aex _) ?_ ?_ ?_ zo zo ?_ ?_ ?_
      ·((iterate 6 revert K);exact E8)
      ·simp only[aU,AV.wf,uf,ue,agA]
      ·simp only[z6,vd,afK,afJ,List.take_zero,Ba];exact ab ar ar ar
       all_goals trace_state
      ·intro x hx;obtain⟨o,_,rfl⟩:=ag2.1 hx
       rfl
      ·intro k x hk hx
       obtain⟨hkl,hx⟩:∃h:k<row.length,x=[.v (.string row[k].1),.v (.int .i64 (row[k].2:Nat))]:=by
        obtain⟨h1,h2⟩:=aeu.1 hx;simp only[dD,agG]at h1;exact⟨h1,by rw[<-h2];simp[dD]⟩
       subst hx;obtain⟨hz1,hz2⟩:=O _ (afy hkl)
       have eT:(aT part).getD row[k].2 []=[.v (.int .i64 ((part.getD row[k].2 0:Nat):Int))]:=by
        rw[aT,ae2,aeE,aeC zd,ae2,aeC zd];rfl
       have hq2:part.getD row[k].2 0<1000:=wY zd A _;have CJ:=Pw (part.getD row[k].2 0) zd;have hS:=yY part (part.getD s 0) (row.take k) row[k];rw[<-agO hkl]at hS;simp only[z6,vd,afK,afJ];have h32:(⟨#[32]⟩:ByteArray).size=1:=rfl;have hd1:=Cm _ hq2;have hd2:=IT part (part.getD s 0) hq1 (wY zd A) (row.take k) (λe he=>(O _ (ag5 he)).1);rw[List.length_take]at hd2;have b1:(#[32]:Array UInt8).size=1:=rfl;have b2:(Lib.decDigits (part.getD row[k].2 0)).toArray.size<=3:=hd1
       ((iterate 6 revert K);refine aM eT ?_;iterate 7 intro K hK)
       ((iterate 7 revert K);refine uK CJ eT ?_)
       simp only[z6,vd,afK,afJ,hS];exact ab ar ar ar
      ·intro _
       have hmr:(dD row).length=row.length:=by simp[dD]
       simp only[hmr,agP,z6,vd,afK,afJ];have eA:=N5 (du part (part.getD s 0) row) (fA rows part s).1;have V:=vc rows part s
       have hg:rows.getD s []=row:=by rw[Y,ae2,aeC q];rfl
       rw[Zo,hg]at V;have W:=pok.len;have l3:=pok.le
       rcases hps:fA rows part s with⟨ks,ns⟩
       rw[hps]at V eA W l3;simp only at V eA W l3
       have eL:(aT (ns++List.replicate (rows.length-s) 0)).length=rows.length:=by rw[aT,agG,aew,W,ag3];omega
       have eQ:=Y5 ns rows.length s W q
       cases hp:pos ks (du part (part.getD s 0) row)with
       |some k=>
        rw[hp]at V eA;simp only[Option.map_some]at eA V;have eS:=KM ns rows.length s k W q
        ((iterate 6 revert K);refine yn (pG eA eL eQ eS) ?_)
        refine aM eW ?_;refine aw.mk (s+1) zd zd ?_;simp only[z6,vd,afK,afJ,V];exact ab ar ar ar
       |none=>
        rw[hp]at V eA;simp only[Option.map_none]at eA V;have eS:=KM ns rows.length s ks.length W q;have eK:=N7 (du part (part.getD s 0) row) ks hp;have eM:=Ki ks
        ((iterate 6 revert K);refine yn (oT eA eL eQ eS eK eM) ?_)
        refine aM eW ?_;refine aw.mk (s+1) zd zd ?_;simp only[z6,vd,afK,afJ,V];exact ab ar ar ar
     ·have hss:s=rows.length:=by replace h:=cq h;omega
      subst hss;have W:=pok.len
      have e1:(fA rows part rows.length).2++List.replicate (rows.length-rows.length) 0=gG rows part:=by rw[Nat.sub_self];simp[gG]
      have e2:=Ki (fA rows part rows.length).1;have e3:(fA rows part rows.length).1.length=gX rows part:=rfl;rw[e3]at e2
      have eL:(aT (gG rows part)).length=rows.length:=by rw[aT,agG];exact W
      simp only[e1];have hme:=pR rows part;have hmo:=ou rows hpo
      repeat((fail_if_success (with_reducible refine mn (i:=26) ?_));first|(with_reducible first|refine bG.up ?_|refineλ(K:AK)hK=>?_|refine wK ?_|refine wF ?_|(refine hK _ ?_;clear hK K))|simp only[go_sem]|with_reducible refine wA ?_|clear hK K)
      clear hK;clear hK;clear K;clear K
      repeat((fail_if_success (with_reducible refine mn (i:=26) ?_));first|(with_reducible first|refine bG.up ?_|refineλ(K:AK)hK=>?_|refine wK ?_|refine wF ?_|(refine hK _ ?_;clear hK K))|simp only[go_sem]|with_reducible refine wA ?_|clear hK K)
      refine bl (fM (k:=1) (i:=0) (j:=0) zs rfl (ag4 _) rfl rfl rfl rfl eL) zo ?_;simp only[afS,afR]
      ((iterate 4 revert K);refine aM e2 ?_;intro K hK K hK K hK)
      refine cn.part (λh2=>?_) (λh2=>?_)
      ·have hm:gX rows part=many:=by replace h2:=cq h2;omega
       obtain⟨f',rfl⟩:∃f',f=f'+1:=⟨f-1,zd⟩;rw[qP,if_pos hm]at H
       ((iterate 3 revert K);refine bj ?_)
       rw[<-H];exact bB.Ab (jv _ _)
      ·have hm:gX rows part≠many:=by replace h2:=cq h2;omega
       obtain⟨f',rfl⟩:∃f',f=f'+1:=⟨f-1,zd⟩;rw[qP,if_neg hm]at H
       ((iterate 3 revert K);refine aM e2 ?_)
       refine aw.mk (gG rows part,gX rows part) ⟨WH hN part,hme,pS rows part,f',?_,H⟩ ?_ ?_
       ·show rows.length+2<=f'+gX rows part;omega
       ·show rows.length+1-gX rows part<rows.length+1-many;omega
       ·simp only[vd];exact ab ar ar ar
section
variable {D:Nat->Prop} {nu:EQ} {o:AC} {w:World} {P:Program}
theorem UX{s:AS}{k i j id len:Nat}{ob:aa}{row:C5}(x':AV)(hto:∀(D:Nat->Prop)(nu:EQ)(w:World),RO D nu s.o w->RA D nu (s.o.set id none) w x' (nu id len))(hne:id≠k)(hk:s.o[k]?=some (some ob))(hz:0<ob.z)(hr:ob.rows[i]?=some row)(hj:row[j]?=some (.vec id len)) :
  Ee s (AS.mk s.t ((s.o.set id none).set k (some {ob with rows:=ob.rows.set i (row.set j x')})) s.y):=by
 intro f D nu a w hs;have hp:=fh (nu:=nu) (o:=s.o) (w:=w) id;have hro:=nU hs.ro id
 have Y:(s.o.set id none)[k]?=some (some ob):=by rw[aeH hne];exact hk
 have hh:ob.hl=({ob with rows:=ob.rows.set i (row.set j x')}:aa).hl:=by simp[aa.hl]
 obtain⟨g,cur,u⟩:∃g cur,B1 D nu (s.o.set id none) w k ob g cur:=by
  rcases hro.obj k ob Y with⟨_,e,_⟩|h|⟨g,es,cl,W⟩
  ·rw[e]at hr;simp at hr
  ·exact h
  ·have:=W.z;omega
 have W:=ko (nu:=nu) (o:=s.o.set id none) (w:=w) (w':=w) (ob':={ob with rows:=ob.rows.set i (row.set j x')}) Y hh.symm u.b7 rfl rfl rfl rfl (λ_ _=>rfl);refine⟨nu,hp.trans W,rfl,?_,(hs.tm.mono hp (λ_ _ h=>h)).mono W (λ_ _ h=>h),hs.mb⟩;have hil:=(aeu.1 hr).1;have hjl:=(aeu.1 hj).1;have hsl:=hto D nu w hs.ro
 have key:∀(q A:Nat)r c,(ob.rows.set i (row.set j x'))[q]?=some r->r[A]?=some c->∃r0 c0,ob.rows[q]?=some r0∧r0[A]?=some c0∧(c=c0∨(c=x'∧c0=.vec id len)):=by
  intro q A r c U O
  by_cases hi:i=q
  ·subst hi;rw[aeG hil]at U;cases U
   by_cases hj':j=A
   ·subst hj';rw[aeG hjl]at O;cases O;exact⟨row,_,hr,hj,.inr ⟨rfl,rfl⟩⟩
   ·rw[aeH hj']at O;exact⟨row,c,hr,O,.inl rfl⟩
  ·rw[aeH hi]at U;exact⟨r,c,U,O,.inl rfl⟩
 refine sb hro Y hh.symm u.b7 W (λ_ _=>rfl) (cur:=cur) ⟨u.e9,u.oR,λV=>?_,λV=>?_,u.z,λq r H=>?_,λq A r c x U O h3=>?_,λq A r c x U O h3=>?_⟩
 ·obtain⟨q1,q2,q3⟩:=u.box V;exact⟨q1,by simpa using q2,q3⟩
 ·obtain⟨cap,q1,q2,q3,q4⟩:=u.vec V;exact⟨cap,by simpa using q1,by simpa using q2,q3,q4⟩
 ·by_cases hi:i=q
  ·subst hi;rw[aeG hil]at H;cases H;rw[List.length_set];exact u.row i row hr
  ·rw[aeH hi]at H;exact u.row q r H
 ·obtain⟨r0,c0,k1,k2,e⟩:=key q A r c U O;have h0:=u.cell q A r0 c0 x k1 k2 h3
  rcases e with rfl|⟨rfl,rfl⟩
  ·exact h0.mono W (λ_ _ h=>h)
  ·have hx:x=nu id len:=by
    cases h0 with
    |vec=>rfl
   rw[hx];exact hsl.mono W (λ_ _ h=>h)
 ·obtain⟨r0,c0,k1,k2,_⟩:=key q A r c U O;exact u.one q A r0 c0 x k1 k2 h3
theorem BH{s:AS}{k i j id:Nat}{ob ob2:aa}{row:C5}(u:id≠k)(V:s.o[k]?=some (some ob))(A:0<ob.z)(O:ob.rows[i]?=some row)(W:row[j]?=some (.vec id 0))(U:s.o[id]?=some (some ob2))(H:ob2.fe=false)(q:ob2.z=0) :
  Ee s (AS.mk s.t ((s.o.set id none).set k (some {ob with rows:=ob.rows.set i (row.set j (.mp ob2.rows))})) s.y):=UX (.mp ob2.rows) (λD nu w h=>P6 h U H q) u V A O W
end
def iM(l:Do):List C5:=l.zipIdx.map (λp=>[.v (.int .i64 (p.1:Nat)),.v (.int .i64 (p.2:Nat))])
@[go_sem] theorem adX(n:Nat)(l:Do):bD n (iM l)=true:=bw _ (λp=>rfl) _
theorem JL(x:Nat):∀(l:Do)(k:Nat),o5 (.int .i64) (.int .i64 (x:Nat)) ((l.zipIdx k).map (λp=>[.v (.int .i64 (p.1:Nat)),.v (.int .i64 (p.2:Nat))]))=some ((l.findIdx? (λy=>x==y)).map (λn=> .v (.int .i64 ((n+k:Nat):Int))))
 | [],k=>rfl
 |a::l,k=>by
  have ih:=JL x l (k+1);rw[List.zipIdx_cons,aga,o5,if_pos (show dH (.int .i64) (.int .i64 (a:Nat))=true from rfl)]
  have e:fx (.int .i64 (x:Nat)) (.int .i64 (a:Nat))=(x==a):=by
   rw[fx,Bool.eq_iff_iff,beq_iff_eq,beq_iff_eq];omega
  rw[e,List.findIdx?_cons]
  cases h:x==a
  ·simp only[Bool.false_eq_true,if_false];rw[ih,Option.map_map]
   congr 2;funext i;simp;omega
  ·simp
theorem V1(x:Nat)(l:Do):o5 (.int .i64) (.int .i64 (x:Nat)) (iM l)=some ((l.findIdx? (λy=>x==y)).map (λn=> .v (.int .i64 (n:Nat)))):=JL x l 0
theorem JO(x:Nat)(v:AV):∀(l:Do)(k:Nat),l.findIdx? (λy=>x==y)=none->nz (.int .i64) (.int .i64 (x:Nat)) v ((l.zipIdx k).map (λp=>[.v (.int .i64 (p.1:Nat)),.v (.int .i64 (p.2:Nat))]))=some ((l.zipIdx k).map (λp=>[.v (.int .i64 (p.1:Nat)),.v (.int .i64 (p.2:Nat))])++[[.v (.int .i64 (x:Nat)),v]])
 | [],k,_=>rfl
 |a::l,k,h=>by
  rw[List.findIdx?_cons]at h
  have e:fx (.int .i64 (x:Nat)) (.int .i64 (a:Nat))=(x==a):=by
   rw[fx,Bool.eq_iff_iff,beq_iff_eq,beq_iff_eq];omega
  cases q:x==a
  ·rw[q]at h;simp only[Bool.false_eq_true,if_false,Option.map_eq_none_iff]at h;have ih:=JO x v l (k+1) h;rw[List.zipIdx_cons,aga,nz,if_pos (show dH (.int .i64) (.int .i64 (a:Nat))=true from rfl),e,q,if_neg zs,ih];rfl
  ·rw[q]at h;simp at h
theorem V2(x:Nat)(l:Do)(h:l.findIdx? (λy=>x==y)=none):nz (.int .i64) (.int .i64 (x:Nat)) (.v (.int .i64 (l.length:Nat))) (iM l)=some (iM (l++[x])):=by
 rw[iM,JO x _ l 0 h,iM,List.zipIdx_append];simp
theorem Tx{o:AC}{A O z2 H:Nat}{u q:List C5}(V:bD 0 u=true)(U:bD 0 q=true):bB o (.agg [.aB A u O,.aB z2 q H]) (.agg [.aB A u O,.aB z2 q H]):=
 bB.of 5 (p:=(AV.aB A u O).wf 0=true∧(AV.aB z2 q H).wf 0=true∧True) (by simp only[jF,ja]) ⟨by rw[AV.wf];exact V,by rw[AV.wf];exact U,trivial⟩
def gA(rows:N3)(ends:N2):AV:= .agg (gV rows ends)
def zX(n:Nat)(part:Do)(order:Do)(rows:N3)(ends:N2):AC:=[some ⟨123,2,false,[[.vec 6 rows.length,.vec 7 rows.length]]⟩,some ⟨56,1,false,[[.aB 1 (aT part) n]]⟩,some ⟨199,0,false,iM (order.map (λs=>part.getD s 0))⟩,some ⟨199,1,false,[[.vec 2 0]]⟩,some ⟨3,1,true,aT order⟩,some ⟨56,1,false,[[.vec 4 order.length]]⟩,some ⟨164,1,true,rows.map (λr=>[.mp (dD r)])⟩,some ⟨4,1,true,ends.map (λb=>[.v (.bool b)])⟩]
theorem TQ{rows:N3}{ends:N2}(ok:GOk rows ends)(h0:0<rows.length)(hpt:(b9 rows ends).length=rows.length):aj prog 85 [.vp (gV rows ends)] (gA (da rows ends (b9 rows ends)).rows (da rows ends (b9 rows ends)).ends):=by
 have hN:=ok.n;have hE:=ok.e;have CP:=Um ok;generalize hpart:b9 rows ends=part at CP hpt
 have hA:aU 0 [AV.vp (gV rows ends)]=true:=by simp only[gV,aU,AV.wf,uf,ue,agA]
 have hF:(gA (da rows ends part).rows (da rows ends part).ends).wf 0=true:=by simp only[gA,gV,aU,AV.wf,uf,ue,agA]
 generalize hrv:gA (da rows ends part).rows (da rows ends part).ends=rv at hF⊢
 (refine aj.iA func85 rfl zo zo rfl hA hF ?_;simp only[ntmps85,results85,afa,aeq,Nat.reduceAdd,Nat.reduceSub,afU,List.replicate_zero,afK,afJ])
 simp only[gV,hE]at CP hA⊢
 have eP:(aT part).getD 0 []=[.v (.int .i64 ((part.getD 0 0:Nat):Int))]:=by
  rw[aT,ae2,aeE,aeC zd,ae2,aeC zd];rfl
 (refine bj ?_;intro K hK K hK)
 refine ai.one CP ?_
 (revert K;revert K;refine jf 4 eP ?_;intro K hK K hK)
 refine bl (dT (k:=0) (i:=0) (j:=0) 164 1 zs rfl zs rfl rfl) zo ?_;simp only[afS,afR,afa,aeq,Nat.reduceAdd,afK,afJ];refine bl (dT (k:=0) (i:=0) (j:=1) 4 1 zs rfl zs rfl rfl) zo ?_;simp only[afS,afR,afa,aeq,Nat.reduceAdd,afK,afJ]
 (revert K;revert K;refine bj ?_;intro K hK)
 refine aO (ι:=BZ) 7 (λst=>[(6,.v (.int .i64 st.rows.length))]) (λst=>zX rows.length part st.order st.rows st.ends) (λst=>rows.length+1-st.rows.length) (λst=>La rows part st∧gA (pe rows ends part (rows.length+1-st.rows.length) st).rows (pe rows ends part (rows.length+1-st.rows.length) st).ends=rv) q0
  ⟨KC rows part h0,hrv⟩ ?_ ?_
 ·simp only[zX,q0];refine ab (bJ ?_) (bJ ?_) ar
  all_goals first|rfl|exact⟨rfl,rfl⟩|exact⟨rfl,rfl,rfl⟩|exact⟨⟨rfl,rfl⟩,rfl⟩
 ·rintro st ⟨u,A⟩ K hK;have hol:=mQ part u.nd u.lt;have hle:=u.le;have hel:=u.ends
  have eL:∀l:Do,(aT l).length=l.length:=λl=>by simp[aT]
  simp only[zX]
  (revert K;revert K;refine aM eL ?_;intro K hK K hK K hK)
  refine cn.part (λh=>?_) (λh=>?_)
  ·have O:st.rows.length<st.order.length:=by replace h:=cq h;omega
   have U:fC st<rows.length:=u.lt _ (bK O);have eW:=ag (k:=st.rows.length) zd
   have eG:(aT st.order).getD st.rows.length []=[.v (.int .i64 ((fC st:Nat):Int))]:=by
    rw[fC,aT,ae2,aeE,aeC O,ae2,aeC O];rfl
   have CS:=KQ rows ends (fC st);have Y:=ok.lab _ (afy U);have hln:=ok.len _ (afy U);have V:=BB rows ends (fC st) U zd (λp H=>Nat.le_trans (Y p H).1 zs) (ok.qQ _ (afy U)) zd;simp only[gV,hE]at CS V;have hri:=ok.qQ _ (afy U)
   have hg:rows.getD (fC st) []=rows[fC st]:=by rw[ae2,aeC U];rfl
   have W:gh rows ends part st=⟨(fW part st.order rows[fC st]).1,st.rows++[(fW part st.order rows[fC st]).2],st.ends++[ends.getD (fC st) false]⟩:=by rw[gh,hg]
   generalize rows[fC st]=row at Y hln V W hri hg;rw[show rows.length+1-st.rows.length=(rows.length-st.rows.length)+1 by omega,pe,if_pos O]at A
   ((iterate 3 revert K);refine aM (nq eG eL h) ?_;iterate 6 intro K hK)
   ((iterate 6 revert K);refine lD CS ?_;iterate 4 intro K hK)
   refine rA V 35 (λk=>zX rows.length part (fW part st.order (row.take k)).1 st.rows st.ends++[some ⟨164,0,false,dD (fW part st.order (row.take k)).2⟩,some ⟨164,1,false,[[.vec 8 0]]⟩]) (λk=>k<=row.length) (aex _) ?_ ?_ ?_ zo zo ?_ ?_ ?_
   ·((iterate 4 revert K);exact E8)
   ·simp only[aU,AV.wf,uf,ue,agA]
   ·simp only[zX,afK,afJ,List.take_zero,fW,List.foldl_nil];refine ab ar (bJ ?_) ar
    all_goals rfl
   ·intro x hx;obtain⟨o,_,rfl⟩:=ag2.1 hx
    rfl
   ·intro k x hk hx
    obtain⟨hkl,hx⟩:∃h:k<row.length,x=[.v (.string row[k].1),.v (.int .i64 (row[k].2:Nat))]:=by
     obtain⟨h1,h2⟩:=aeu.1 hx;simp only[dD,agG]at h1;exact⟨h1,by rw[<-h2];simp[dD]⟩
    subst hx;obtain⟨hz1,hz2⟩:=Y _ (afy hkl)
    have eT:(aT part).getD row[k].2 []=[.v (.int .i64 ((part.getD row[k].2 0:Nat):Int))]:=by
     rw[aT,ae2,aeE,aeC zd,ae2,aeC zd];rfl
    have hI:=mU part st.order (row.take k) row[k];rw[<-agO hkl,KD]at hI;obtain⟨k1,k2,k3,k4,k5,_⟩:=xj part (n:=rows.length) u.nd u.lt (row.take k) (λp H=>(Y _ (ag5 H)).2);have hdl:=mQ part k1 k2
    have hnl:look (fW part st.order (row.take k)).2 row[k].1=none:=lq.2 λq=>by
     rw[k5]at q;exact Dj (l:=row.map Prod.fst) (oF hri) (i:=k) (by simpa using hkl) (by simpa [List.map_take]using q)
    rcases hqs:fW part st.order (row.take k)with⟨od,ow⟩
    rw[hqs]at hI k1 k2 k3 k4 k5 hdl hnl;simp only at hI k1 k2 k3 k4 k5 hdl hnl;have eA:=V1 (part.getD row[k].2 0) (od.map (λs=>part.getD s 0));have hqp:(od.map (λs=>part.getD s 0)).findIdx? (λy=>part.getD row[k].2 0==y)=kV part od (part.getD row[k].2 0):=rfl;simp only[zX,afK,afJ]
    cases H:kV part od (part.getD row[k].2 0)with
    |some n=>
     rw[hqp,H]at eA;rw[H]at hI;simp only[Option.map_some]at eA hI;have eS:=ux row[k].1 n ow hnl
     ((iterate 4 revert K);refine aM (nq eT eA eS) ?_)
     simp only[zX,afK,afJ,hI];exact ab ar ar ar
    |none=>
     rw[hqp,H]at eA;rw[H]at hI;simp only[Option.map_none]at eA hI;have eS:=ux row[k].1 od.length ow hnl;have eK:=V2 (part.getD row[k].2 0) (od.map (λs=>part.getD s 0)) (hqp.trans H);rw[agG]at eK
     ((iterate 4 revert K);refine aM (qq eT eA eS eK eL) ?_)
     simp only[zX,afK,afJ,hI];refine ab ar (bJ ?_) ar;exact⟨by rw[agY];rfl,by simp[aT]⟩
   ·intro _
    have hmr:(dD row).length=row.length:=by simp[dD]
    simp only[hmr,agP];obtain⟨k1,k2,k3,k4,k5,t,k6⟩:=xj part (n:=rows.length) u.nd u.lt row (λp H=>(Y _ H).2);have hdl:=mQ part k1 k2
    rcases hqs:fW part st.order row with⟨od,ow⟩
    rw[hqs]at k1 k2 k3 k4 k5 k6 hdl W;simp only at k1 k2 k3 k4 k5 k6 hdl W
    have eG2:(aT od).getD st.rows.length []=[.v (.int .i64 ((fC st:Nat):Int))]:=by
     rw[k6,aT,agY,dY (by rw[agG];exact O)];exact eG
    have eE:(ends.map (λb=>[AV.v (.bool b)])).getD (fC st) []=[.v (.bool (ends.getD (fC st) false))]:=by
     rw[ae2,aeE,aeC zd,ae2,aeC zd];rfl
    generalize ends.getD (fC st) false=be at eE W;simp only[zX,afK,afJ]
    ((iterate 4 revert K);refine dG 17 ?_;iterate 4 intro K hK)
    refine bl (BH (k:=9) (i:=0) (j:=0) zs rfl (ag4 _) rfl rfl rfl rfl rfl) zo ?_;simp only[afS,afR]
    ((iterate 4 revert K);refine aM (pG eG2 eE eL eW) ?_)
    have hnok:La rows part (gh rows ends part st):=tK rows ends part (λr hr p H=>(ok.lab r hr p H).2) u O;rw[W]at hnok A
    refine aw.mk ⟨od,st.rows++[ow],st.ends++[be]⟩ ⟨hnok,?_⟩ ?_ ?_
    ·rw[show rows.length+1-(BZ.rows ⟨od,st.rows++[ow],st.ends++[be]⟩).length=rows.length-st.rows.length by simp only[aew,agK];omega];exact A
    ·show rows.length+1-(st.rows++[ow]).length<rows.length+1-st.rows.length;rw[aew,agK];omega
    ·simp only[zX,aew,agK,agY,aga,List.map_nil];exact ab ar ar ar
     all_goals trace_state
  ·have hge:st.rows.length=st.order.length:=by replace h:=cq h;omega
   rw[show rows.length+1-st.rows.length=(rows.length-st.rows.length)+1 by omega,pe,if_neg zd]at A;clear h
   ((iterate 3 revert K);refine dG 19 ?_;intro K hK)
   refine bl (fM (k:=0) (i:=0) (j:=0) zs rfl (ag4 _) rfl rfl rfl rfl (agG _)) zo ?_;simp only[afS,afR];refine bl (fM (k:=0) (i:=0) (j:=1) zs rfl (ag4 _) rfl rfl rfl rfl ((agG _).trans hel)) zo ?_;simp only[afS,afR]
   (revert K;refine bj ?_)
   rw[<-A];simp only[gA,gV,hel];exact Tx (uf _ _) (ue _ _)
section
open Go.RowKit Go.Shelf
def Ta:Go.Shelf.Ren:=⟨fun|194=>116|n=>n,fun|31=>55|9=>9|3=>3|4=>4|0=>0|n=>n,λn=>n⟩
theorem ED:Lays.n194 prog Ta:={
 mixed:=zo
 f194:=func116
 t0:=zo
 a0:=λw=>zo
 z0:=λw=>zo
 v0:=λw=>zo
 t3:=zo
 a3:=λw=>zo
 z3:=λw=>zo
 v3:=λw=>zo
 t4:=zo
 a4:=λw=>zo
 z4:=λw=>zo
 v4:=λw=>zo
 t9:=zo
 a9:=λw=>zo
 z9:=λw=>zo
 v9:=λw=>zo
 t31:=zo
 a31:=λw=>zo
 z31:=λw=>zo
 v31:=λw=>by kernel_rfl}
attribute [local go_sem] Oper.semAt_some
def rR(l:Pi):B0:=(l.filter (λc=>c.kind==1)).map (λc=>c.label)
theorem Mq(l:Pi)(c:XC):rR (l++[c])=if c.kind=1 then rR l++[c.label]else rR l:=by
 grind[rR]
theorem Fu(l:Pi):(rR l).length<=l.length:=by
 grind[rR,agG,List.length_filter_le]
def uY(x:Ex):List (List UInt8):=Go.Lib.compact (((aH x).map (λs=>s.data.toList)).mergeSort (λx y=>decide (x<=y)))
def ct(x:Ex):B0:=(uY x).map (λl=>⟨l.toArray⟩)
open Go.Sort in
theorem IE(x:Ex)(cx:IR)(w:World)(hx:fE w x cx)(hok:x.ok)(hR:aD x=true)(hN:(aq x).length<=1000000)(hE:∀L:Pi,L.map XC.sig=(aq x).map Ex.sig->rR L=aH x) :
  Calls prog 83 #[.agg cx.toArray] w λe w'=>∃v,e=.returned v∧rk w' (ct x) v∧Below w.heap.size w w'∧∀b off n c,v=.slice (some ⟨b,off,none⟩) n c->w.heap.size<=b:=by
 have HRt:=Lib.hid (λW hb=>hR ▸ zI x cx W (hx.below hb) hok);obtain⟨k,s,kids⟩:=x;have hx':=hx;rw[fE]at hx;obtain⟨sv,rfl,hr⟩:=hx;obtain⟨p,c,rfl, -, -⟩:=hr.shape;refine(callsIn_wide (n:=9)).1 ?_;have HX:=Lib.hid hx';have HO:=Lib.hid hok;have HN:=Lib.hid hN;have HE:=Lib.hid hE;clear hx' hok hN hr hE;obtain⟨i0,hi,hz0,hz1,hz2⟩:=info_parts TE;have HI:=Lib.hid (show _∧_∧_∧_ from⟨hi,hz0,hz1,hz2⟩);clear hi hz0 hz1 hz2;refine callsIn_of_wp_marks func83 rfl trivial ?_ rfl;simp only[ntmps83,List.size_toArray,List.length_cons,List.length_nil,Nat.reduceAdd,Nat.reduceSub,Array.replicate_succ,Array.replicate_zero,List.push_toArray,List.append_toArray,afJ,afK]
 gi_wp2_with fail
 refine⟨trivial,(callsIn_wide.2 (HRt.out _ (((Below.refl w.heap.size w).alloc (aen _) _).alloc zk _))).mono ?_⟩;rintro e w1 ⟨rfl,hb1⟩;have HB1:=Lib.hid hb1;clear hb1;have hxb:w1.heap[w.heap.size]?=some (.cells #[.int .i64 k,.string s,.slice p kids.length c] 25 (0,0)):=(HB1.out.block w.heap.size ahy).trans (l9 (gT w (.cells #[.int .i64 k,.string s,.slice p kids.length c] 25)) _);have A:w1.heap[w.heap.size+1]?=some (.cells #[.slice none 0 0] 55 (0,0)):=(HB1.out.block (w.heap.size+1) zk).trans (by have:=gT (w.alloc (.cells #[.int .i64 k,.string s,.slice p kids.length c] 25)) (.cells #[.slice none 0 0] 55);simp_all);have hx0:=aC hxb 0;have hx1:=aC hxb 1;have hx2:=aC hxb 2;simp only[aeD,afD,afE]at hx0 hx1 hx2
 gi_wp2_with fail
 refine⟨trivial,?_⟩;refine(callsIn_wide.2 (Bc _ _ _ _ _ _)).mono ?_;rintro e w' ⟨rfl,rfl⟩
 gi_wp2_with fail
 have hn1:w.heap.size+2<=w1.heap.size:=by grind
 obtain⟨W0,hW0⟩:∃W0,w1.alloc (.cells #[.int .i64 k,.string s,.slice p kids.length c] 25)=W0:=⟨_,rfl⟩
 have hs0:W0.heap.size=w1.heap.size+1:=by rw[<-hW0];simp
 have hb01:Below w1.heap.size w1 W0:=by rw[<-hW0];exact(Below.refl _ _).alloc (aen _) _
 have hb0:Below w.heap.size w W0:=cV (cV (((Below.refl w.heap.size w).alloc (aen _) _).alloc zk _) HB1.out) hb01;have hbo:W0.heap[w.heap.size+1]?=some (.cells #[.slice none 0 0] 55 (0,0)):=(hb01.block _ zd).trans A
 have hbp:W0.heap[w1.heap.size]?=some (.cells #[.int .i64 k,.string s,.slice p kids.length c] 25 (0,0)):=by grind[gT]
 have hseq:=v8 Fence.wide (λ_=>trivial) rfl rfl 8 w.heap.size (w.heap.size+2) w1.heap.size 9 zs _ _ w W0 (aen _) zd HX.out HO.out (.of hb0) hbp;rw[hW0];clear hxb A hx0 hx1 hx2 hbp
 refine QQ (lb:= #[.pointer (some ⟨w1.heap.size,0,none⟩)]) (gf:=109) rfl (enters_of func109 zo rfl) hseq (Below.refl _ _) (λ_=>rfl)
  (λpre W=>(∃v,Boxed W (w.heap.size+1) 55 v∧W.ownsRow w.heap.size 9 1 v (rR pre).length ((rR pre).map Value.string)∧True)∧(Below w.heap.size w W∧W0.heap.size<=W.heap.size)) (λ_ _ _=>False)
  (((holdsRow_own w.heap.size (w.heap.size+1) 55 9 1 (λpre:Pi=>(rR pre).length) (λpre=>(rR pre).map Value.string) (λ_ _=>True)).from _).and ((ownFrom_below (aen _) zd).and (λ_ _ _ _ hs hg _=>Nat.le_trans hs hg.size)))
  (λ_ _ _ _ _ hs _ _=>hs) ⟨⟨_,hbo,World.ownsRow_nil _ _ _ _,trivial⟩,hb0,aen _⟩ 3 (λc=> #[.int .i64 c.kind,.string c.label,.slice c.ptr c.len c.cap]) 25 (λ_ _ h=>h.2.2) ?assign ?body ?done ?stop
 case assign=>
  intro l x W K hK;simp only[handed,XC.val,afM,afN,afO,afP,afQ,afR,afS];simp only[handed,XC.val,Act.sa,afM,afN,afO,afP,afQ,afR,afS]at hK
  gi_wp2
  exact hK
 case body=>
  rintro l pre x B W hl hrec ⟨⟨v,Y,u, -⟩,hB,hsz⟩ hBB hbB hlen;have hvc:=Y.cell;have hvf:=Y.frozen;have hle:=Fu pre;have hNN:=HN.out;have hp0:=aC hbB 0;have hp1:=aC hbB 1;simp only[aeD,afD,afE]at hp0 hp1;have HS:=Lib.hid (Mq pre x);have hxl:=x.hl;simp only[handed,Act.sa,afM,afN,afO,afP,afQ,afR,afS]
  by_cases hh:x.kind=1
  ·have HH:=Lib.hid hh;have HV:=Lib.hid Y;have HR:=Lib.hid u;have HB:=Lib.hid hB;have HZ:=Lib.hid hsz;clear Y u hB hsz
   gi_wp2_with (gi_at_builtin;refine wpListIn_append_own _ rfl _ _ 55 rfl w.heap.size 9 i0 (.string ⟨#[]⟩) 1 16 Tryz.underlying55 HI.out.1 HI.out.2.1 HI.out.2.2.1 HI.out.2.2.2 rfl zs _ _ _ rfl (HR.out.alloc _) ⟨W.heap.size,0,none⟩ 1 1 [.string x.label] rfl rfl (cell_one_new _ _ _) (by simp[Value.oneCell']) (by grind[maxLen]) zd (by have:=HB.out.size;simp;omega) ?_;intro v' w1' hown' hgrow _;obtain⟨g',cap',rfl⟩:=ownsRow_succ hown';obtain⟨hv1,hv2,hr2,hk2,hb2⟩:=HV.out.appended zs HR.out HB.out.size (ag6 _) hown' hgrow;have HKP:=Lib.hid (zW (hi:=w.heap.size+2) HR.out hgrow (ag6 _) (Nat.lt_succ_self _) (.slice (some ⟨g',0,none⟩) ((rR pre).length+1) cap'));have hc1:=hv1.cell;have hf1:=hv1.frozen;have HV2:=Lib.hid hv2;have HR2:=Lib.hid hr2;have HK2:=Lib.hid hk2;have HB2:=Lib.hid hb2;clear hv1 hv2 hr2 hk2 hb2 hown' hgrow)
   refine⟨HK2.out.from _,HKP.out,⟨_,HV2.out,?_,trivial⟩,HB.out.trans HB2.out,Nat.le_trans HZ.out HK2.out.size⟩;rw[HS.out,if_pos HH.out];simpa using HR2.out
  ·have HH:=Lib.hid hh;have HV:=Lib.hid Y;have HR:=Lib.hid u;have HB:=Lib.hid hB;have HZ:=Lib.hid hsz;clear Y u hB hsz
   gi_wp2
   refine⟨KeepsFrom.refl _ _,Kept.refl _ _ _ _,⟨v,HV.out,?_,trivial⟩,HB.out,HZ.out⟩;rw[HS.out,if_neg HH.out];exact HR.out
 case done=>
  rintro D xs W hD hS ⟨⟨v,Y,u, -⟩,hB,hsz⟩ hK;rw[HE.out xs hS]at u
  have hne: ¬w.heap.size+1=D:=zd
  have hvc:=Y.cell;have hvf:=Y.frozen;have A:W.heap[w.heap.size+1]?=some (.cells #[v] 55 (0,0)):=Y
  have hlen:(aH (.mk k s kids)).length<=1000000:=by
   rw[<-HE.out xs hS];have h1:=Fu xs;have h2:=HN.out
   have h3:xs.length=(aq (.mk k s kids)).length:=by simpa using congrArg List.length hS
   omega
  have HBw:=Lib.hid hB;have HKw:=Lib.hid hK
  have hD2:w1.heap.size+1<=D:=zd
  clear hB hK hS hsz hs0 hb01 hb0 hbo hseq
  rcases u.2 with⟨rfl,hz⟩|⟨g,cap,cur,rfl,hgb,hgh,r1,r2,r3,r4⟩
  ·have hnil:aH (.mk k s kids)=[]:=List.eq_nil_of_length_eq_zero hz;have HNil:=Lib.hid hnil;have HOb:=Lib.hid A;clear u Y A hnil hz
   gi_wp2_with fail
   refine⟨trivial,(callsIn_wide.2 (AnyM.slices_Sort_string_none qH none 0 _)).mono ?_⟩;rintro e w2 ⟨rfl,rfl⟩
   gi_wp2_with fail
   refine⟨trivial,(callsIn_wide.2 (Any.slices_Compact_string_empty ED none 0 _)).mono ?_⟩;rintro e w2 ⟨rfl,rfl⟩
   gi_wp2_with fail
   have hKs:=fG HKw.out (b:=w.heap.size+1) (o:=0) (.slice none 0 0) zd;refine⟨zk,.inl ⟨_,_,rfl,run_takeDeferred hKs,?_⟩⟩;have hbx:=fF (ln HOb.out (.slice none 0 0)) (.deferred none) (D:=D) hne;have hcf:=aC hbx 0;simp only[aeD,afD]at hcf
   refine⟨.slice none 0 0,?_,_,rfl,?_,?_,λb off n c e=>by cases e⟩
   ·simp[results,results83,go_sem,hcf]
   ·have:ct (.mk k s kids)=[]:=by rw[ct,uY,HNil.out,List.map_nil,List.mergeSort_nil];rfl
    rw[this];exact .inl ⟨.inl rfl,rfl⟩
   ·exact nE (HBw.out.setCell (p:=⟨w.heap.size+1,0,none⟩) (ag6 _) _) zd _ hKs
  ·obtain⟨nm,hnm⟩:∃nm:List (List UInt8),(aH (.mk k s kids)).map (λs=>s.data.toList)=nm:=⟨_,rfl⟩
   have hl1:(aH (.mk k s kids)).length=nm.length:=by grind
   have hen:(aH (.mk k s kids)).map Value.string=nm.map encStr:=by
    grind[List.map_map,List.map_congr_left]
   have hU:uY (.mk k s kids)=Go.Lib.compact (nm.mergeSort (λx y=>decide (x<=y))):=by rw[uY,hnm]
   rw[hl1]at hlen;simp only[hl1,hen]at r1 r4 hvc Y A u;rw[Nat.mul_one]at r4;have hgl:g<W.heap.size:=(aer.1 hgh).1
   have hgo:w.heap.size+1≠g:=λe=>by
    grind
   have hgD:D≠g:=λe=>by
    subst e;have:=HKw.out;grind
   have hH:=holds_of_block hgh r4;have CS:=Lib.hid (AnyM.slices_Sort_string qH g 0 cap nm W hH hgl zd);have HOb:=Lib.hid A;have HG:=Lib.hid hgh;have HR:=Lib.hid (show _∧_∧_ from⟨r1,r2,r3⟩);have HU:=Lib.hid hU;clear u Y A hH r4 hnm hen hU r1 r2 r3 hgh;simp only[hl1];clear hl1
   gi_wp2_with fail
   refine⟨trivial,(callsIn_wide.2 CS.out).mono ?_⟩;rintro e w2 ⟨rfl,kk,os,rfl⟩;obtain⟨r1,r2,r3⟩:=HR.out;have hg2:=heap_sorted (n:=kk) (os:=os) (nm.mergeSort (λx y=>decide (x<=y))).toArray HG.out;have V:=grownBy_sorted (w:=W) (g:=g) (n:=kk) (os:=os) (nm.mergeSort (λx y=>decide (x<=y))).toArray;have hls:(nm.mergeSort (λx y=>decide (x<=y))).length=nm.length:=List.length_mergeSort _;have htk:=take_putCells cur (nm.mergeSort (λx y=>decide (x<=y))) zd
   have hsz2:(putCells encStr 0 (nm.mergeSort (λx y=>decide (x<=y))).toArray cur).size=cap:=by grind[putCells]
   have hDl:D<W.heap.size:=(aer.1 HKw.out).1;generalize hW2:Go.Sort.grow (putRow encStr (Go.Sort.ahead W kk) g 0 (nm.mergeSort (λx y=>decide (x<=y))).toArray) os=W2 at *;have U:W2.heap[w.heap.size+1]?=some (.cells #[.slice (some ⟨g,0,none⟩) nm.length cap] 55 (0,0)):=(V.block _ (aer.1 HOb.out).1 (by grind)).trans HOb.out;have hD3:W2.heap[D]?=some (.deferred (some [])):=(V.block _ hDl (by grind)).trans HKw.out;have hB2:Below w.heap.size w W2:=HBw.out.grown V HBw.out.size (λj e=>by grind);have hc2:=aC U 0;have hf2:=dq U 0;simp only[aeD,afD]at hc2;have hH2:=holds_of_block hg2 htk;have CC:=Lib.hid (Any.slices_Compact_string ED g 0 cap (nm.mergeSort (λx y=>decide (x<=y))) W2 hH2 zd zd);rw[hls]at CC;have HG2:=Lib.hid hg2;have HOb2:=Lib.hid U;have HD3:=Lib.hid hD3;have HB2:=Lib.hid hB2;have HS2:=Lib.hid hsz2;clear hg2 V htk hsz2 hW2 U hD3 hB2 hH2 HOb HG HKw HBw CS hvc hvf
   gi_wp2_with fail
   refine⟨trivial,(callsIn_wide.2 CC.out).mono ?_⟩;rintro e w3 ⟨rfl,q,rfl⟩
   have hcl:(uY (.mk k s kids)).length<=nm.length:=by rw[HU.out, <- hls];exact Go.Lib.compact_length_le _
   rw[<-HU.out];generalize hZ:(uY (.mk k s kids)++List.replicate (nm.length-(uY (.mk k s kids)).length) ([]:List UInt8))=Z
   have hZl:Z.length=nm.length:=by grind
   have hg3:=heap_sorted (n:=q) (os:= #[]) Z.toArray HG2.out;have H:=grownBy_sorted (w:=W2) (g:=g) (n:=q) (os:= #[]) Z.toArray;have htk:=take_putCells (putCells encStr 0 (nm.mergeSort (λx y=>decide (x<=y))).toArray cur) Z (by rw[hZl,HS2.out];omega);rw[grow_empty]at hg3 H;have hDl:D<W2.heap.size:=(aer.1 HD3.out).1;generalize putRow encStr (Go.Sort.ahead W2 q) g 0 Z.toArray=W3 at *;have O:W3.heap[w.heap.size+1]?=some (.cells #[.slice (some ⟨g,0,none⟩) nm.length cap] 55 (0,0)):=(H.block _ (aer.1 HOb2.out).1 (by grind)).trans HOb2.out;have hD4:W3.heap[D]?=some (.deferred (some [])):=(H.block _ hDl (by grind)).trans HD3.out;have hB3:Below w.heap.size w W3:=HB2.out.grown H HB2.out.size (λj e=>by grind);have hc3:=aC O 0;have hf3:=dq O 0;simp only[aeD,afD]at hc3;have HG3:=Lib.hid hg3;have HOb3:=Lib.hid O;have HD4:=Lib.hid hD4;have HB3:=Lib.hid hB3;have HT:=Lib.hid htk;have HZ:=Lib.hid hZ;have HZl:=Lib.hid hZl;clear hg3 H htk O hD4 hB3 hZ hZl hc2 hf2
   gi_wp2_with fail
   have hKs:=fG HD4.out (b:=w.heap.size+1) (o:=0) (.slice (some ⟨g,0,none⟩) (uY (.mk k s kids)).length cap) zd;refine⟨zk,.inl ⟨_,_,rfl,run_takeDeferred hKs,?_⟩⟩;have hbx:=fF (ln HOb3.out (.slice (some ⟨g,0,none⟩) (uY (.mk k s kids)).length cap)) (.deferred none) (D:=D) hne;have hcf:=aC hbx 0;simp only[aeD,afD]at hcf
   refine⟨.slice (some ⟨g,0,none⟩) (uY (.mk k s kids)).length cap,?_,_,rfl,?_,?_,λb off n c e=>by grind⟩
   ·simp[results,results83,go_sem,hcf]
   ·have hg4:=fF (fG HG3.out (b:=w.heap.size+1) (o:=0) (.slice (some ⟨g,0,none⟩) (uY (.mk k s kids)).length cap) hgo.symm) (.deferred none) (D:=D) hgD.symm;refine .inr ⟨g,0,cap,by rw[ct,agG],by grind[ct,agG],r2,λi x hx=>⟨[.string x],rfl,?_,trivial⟩⟩;rw[aC hg4]
    have hi:i<(uY (.mk k s kids)).length:=by grind[ct,aeu]
    have e1:=congrArg (λl:IR=>l[i]?) HT.out
    have hZi:Z[i]?=some (uY (.mk k s kids))[i]:=by rw[<-HZ.out,List.getElem?_append_left hi,aeC hi]
    rw[HZl.out,List.getElem?_take_of_lt zd,Array.getElem?_toList,List.getElem?_map,hZi]at e1;rw[Nat.zero_add,Nat.mul_one,e1];rw[ct,List.getElem?_map,aeC hi]at hx
    grind
   ·exact nE (HB3.out.setCell (p:=⟨w.heap.size+1,0,none⟩) (ag6 _) _) zd _ hKs
 grind
section
open Go.Lib
theorem YO{α:Type} [Inhabited α] [DecidableEq α]{le:α->α->Prop}(tr:∀a b c,le a b->le b c->le a c)(an:∀a b,le a b->le b a->a=b)(rf:∀a,le a a)(d:Array α)(O:∀i j,i<=j->j<d.size->le d[i]! d[j]!) :
  ∀m,m<=d.size->(compactUpTo d m).Pairwise (λa b=>le a b∧a≠b)∧(∀x,x∈compactUpTo d m ↔ ∃j,j<m∧x=d[j]!)∧∀x,x∈compactUpTo d m->le x d[m-1]!
 |0,_=>⟨by simp[compactUpTo],λx=>by simp[compactUpTo],λx h=>by grind[compactUpTo]⟩
 |m+1,hm=>by
  obtain⟨Y,h2,h3⟩:=YO tr an rf d O m zd;rw[compactUpTo_succ]
  have hle:∀x,x∈compactUpTo d m->le x d[m]! :=λx H=>by
   grind
  by_cases u:keeps d m=true
  ·rw[if_pos u]
   refine⟨?_,λx=>?_,λx H=>?_⟩
   ·rw[List.pairwise_append];refine⟨Y,zk,λa W b A=>?_⟩;simp only[List.mem_cons,List.not_mem_nil,or_false]at A;subst A;refine⟨hle a W,λe=>?_⟩
    rcases Nat.eq_zero_or_pos m with q|q
    ·grind
    ·have U:d[m]! ≠ d[m-1]! :=by
      simp only[keeps,decide_eq_true_eq]at u
      grind
     grind
   ·grind
   grind
  ·rw[if_neg u,List.append_nil]
   have V:m≠0∧d[m]! = d[m-1]! :=by
    simp only[keeps,decide_eq_true_eq]at u
    grind
   grind
theorem mH(l:List (List UInt8)):(Go.Lib.compact (l.mergeSort (λx y=>decide (x<=y)))).Pairwise (λa b=>a<b)∧∀x,x∈Go.Lib.compact (l.mergeSort (λx y=>decide (x<=y)))↔x∈l:=by
 have hsort:(l.mergeSort (λx y=>decide (x<=y))).Pairwise (λx y=>decide (x<=y)=true):=List.pairwise_mergeSort (λa b c A u=>by grind) (λa b=>by grind) _;have hperm:=List.mergeSort_perm l (λx y=>decide (x<=y));generalize l.mergeSort (λx y=>decide (x<=y))=s at hsort hperm
 have H:∀i j,i<=j->j<s.toArray.size->s.toArray[i]! <= s.toArray[j]! :=λi j O q=>by
  grind[Nat.lt_or_ge,List.pairwise_iff_getElem,List.le_refl]
 obtain⟨A,u,_⟩:=YO (le:=λa b:List UInt8=>a<=b) (λ_ _ _=>List.le_trans) (λ_ _=>List.le_antisymm) (λ_=>List.le_refl _) s.toArray H s.length zk
 refine⟨?_,λx=>?_⟩
 ·show(compactUpTo s.toArray s.length).Pairwise _;refine A.imp λ{a b}⟨V,U⟩=>?_
  grind
 ·show x∈compactUpTo s.toArray s.length↔_;rw[u x, <- hperm.mem_iff]
  constructor
  ·grind
  ·intro hx;obtain⟨j,q,rfl⟩:=List.getElem_of_mem hx;exact⟨j,q,by grind⟩
end
theorem qy(x:Ex):lZ (ct x):=by
 rw[lZ,ct,List.pairwise_map]
 exact(mH _).1.imp λh=>by simpa using h
theorem pJ{x:Ex}{s:ByteArray}:s∈ct x↔s∈aH x:=by
 rw[ct,ag2]
 constructor
 ·rintro⟨l,h,rfl⟩
  have:=((mH _).2 l).1 h
  obtain⟨t,q,rfl⟩:=ag2.1 this;omega
 ·intro h;exact⟨s.data.toList,((mH _).2 _).2 (List.mem_map_of_mem h),zk⟩
theorem kQ(x:Ex):(ct x).Nodup:=oF (qy x)
theorem PK(x:Ex):(ct x).length<=(aH x).length:=(kQ x).length_le_of_subset λ_ h=>pJ.1 h
theorem yx{x:Ex}(h:Fit x):((aq x).filter (λy=>y.kind==1)).map Ex.label=aH x:=by
 induction h with
 |lab s=>simp[aq,bN,aH,Ex.kind,Ex.label]
 |many k s l H hl u ih=>
  have q: ¬k=1:=zd
  rw[aq,bN,dM q,agl (by grind[Ex.kind])];clear hl u
  induction l with
  |nil=>rfl
  |cons a l A=>
   grind[aV]
 |one k s x H u ih=>
  have q: ¬k=1:=zd
  grind[aq,bN,dM,agl,Ex.kind,aV]
theorem IC{x:Ex}(h:Fit x)(L:Pi)(e:L.map XC.sig=(aq x).map Ex.sig):rR L=aH x:=by
 rw[<-yx h]
 have u:rR L=((L.map XC.sig).filter (λc=>c.1==1)).map (λc=>c.2.1):=by
  rw[rR,List.filter_map,List.map_map];rfl
 have q:((aq x).filter (λy=>y.kind==1)).map Ex.label=(((aq x).map Ex.sig).filter (λc=>c.1==1)).map (λc=>c.2.1):=by
  have H:((λc:Int×ByteArray×Nat=>c.1==1) ∘ Ex.sig)=λy=>y.kind==1:=by funext y;cases y;rfl
  have A:((λc:Int×ByteArray×Nat=>c.2.1) ∘ Ex.sig)=Ex.label:=by funext y;cases y;rfl
  grind
 grind
theorem PM(x:Ex)(h:x.ok)(q:aD x=true):aj prog 83 [.agg (aN x)] (bY (ct x)):=
 .Kr zo (by grind[aU,AV.wf,fp,agA]) (λD nu w vargs A=>by
  obtain⟨a,rfl,H⟩:=ik A;obtain⟨ca,rfl,ka⟩:=Ds H
  have u:(aq x).length<=1000000:=by
   have:=q
   simp only[aD,ae6,decide_eq_true_eq]at this;omega
  exact IE x ca w (Dy x ca ka) h q u (IC (fO q).1))
theorem Fv{x:Ex}(u:aD x=true){l:ByteArray}(h:l∈aH x):cB l=true:=by
 rw[<-yx (fO u).1,ag2]at h;obtain⟨y,q,rfl⟩:=h;rw[List.mem_filter]at q
 have A:y.part=true:=by
  simp only[aD,ae6,List.all_eq_true]at u;exact u.2 y q.1
 obtain⟨k,s,kids⟩:=y
 have H:k=1:=by simpa [Ex.kind]using q.2
 subst H;simp only[Ex.part,bO,BEq.rfl,if_true,ae6]at A;exact A.2
theorem L4{s:ByteArray}(h:cB s=true):s.size<=20:=by
 simp only[cB,fU,ae6,decide_eq_true_eq]at h;exact h.1.1.2
theorem Tw{s:ByteArray}(h:cB s=true):32∉s.data.toList:=λq=>by
 simp only[cB,fU,ae6,List.all_eq_true]at h
 have:=h.1.1.1.1 32 q
 revert this;decide
theorem C8{x:Ex}(q:aD x=true):∀l∈ct x,32∉l.data.toList:=λl hl=>Tw (Fv q (pJ.1 hl))
theorem Kj{x:Ex}(q:aD x=true):∀l∈ct x,l.size<=20:=λl hl=>L4 (Fv q (pJ.1 hl))
theorem C7{x:Ex}(q:aD x=true):(ct x).length<=24:=by
 have N:=ki q
 have:=PK x
 have:=N.ok.n
 rw[N.labs]at this;omega
theorem Q8{x:Ex}(O:aD x=true){st:qf}(h:p8 x (ct x)=some st):GOk st.rows st.ends∧0<st.rows.length∧(b9 st.rows st.ends).length=st.rows.length:=by
 obtain⟨A,hl,Y⟩:=DH (bf (aZ x)) (aZ x).em (az (aZ x).la) (kQ x) h;have H:(st.all)[0]?=some [0]:=Y.zero
 have u:0<st.rows.length:=by rw[hl];exact(aeu.1 H).1
 have W:=vq A hl;obtain⟨_,U⟩:=y4 st.rows st.ends (vo (C8 O) A) W u A.ends
 refine⟨⟨by have:=A.max;omega,A.ends,λr q=>(qy x).sublist (A.row r q).1,λr q=>?_,λr q p V=>⟨?_,W r q p V⟩⟩,u,U⟩
 ·have:=(A.row r q).1.length_le
  have:=C7 O
  simp only[agG]at *; omega
 ·have:=Kj O _ ((A.row r q).1.subset (List.mem_map_of_mem V));omega
def c7(A:oZ):C5:=gV A.rows A.ends++[bY A.labs]
theorem gk(n:Nat)(A:oZ):aU n (c7 A)=true:=by simp only[c7,gV,bY,afK,afJ,aU,AV.wf,uf,ue,bz,agA]
theorem H5(A:oZ):aj prog 59 [.vp (c7 A)] (.v (.int .i64 A.rows.length)):=by
 simp only[c7,gV,bY,afK,afJ];refine gE func59 ntmps59 results59 ?_;exact sY
noncomputable def IN(x:Ex):AV:=match fZ x (ct x)with
 | .inl A=> .ck [.vp (c7 A),.v (.int .i64 0)]
 | .inr e=> .ck [.v (.pointer none),.v (.int .i64 e)]
theorem U7(x:Ex):(IN x).wf 0=true:=by
 unfold IN
 split
 ·simp only[AV.wf,aU,gk,agA]
 ·rfl
theorem OR(x:Ex)(V:x.ok):aj prog 49 [.agg (aN x)] (IN x):=by
 have CN:=Zj x V;have A:=U7 x
 have U:IN x=(if aD x then(match p8 x (ct x)with
  |some st=>if 32<(ji (ct x) st).rows.length then .ck [.v (.pointer none),.v (.int .i64 11)]else .ck [.vp (c7 (ji (ct x) st)),.v (.int .i64 0)]
  |none=> .ck [.v (.pointer none),.v (.int .i64 11)])else .ck [.v (.pointer none),.v (.int .i64 2)]):=by
  unfold IN fZ
  cases aD x
  ·rfl
  ·simp only[if_true]
   cases p8 x (ct x)with
   |none=>rfl
   |some st=>
    by_cases q:32<(ji (ct x) st).rows.length
    ·simp only[if_pos q]
    ·simp only[if_neg q]
 rw[U]at A⊢;clear U
 cases H:aD x
 ·rw[H]at CN A;simp only[Bool.false_eq_true,if_false]at CN A⊢;simp only[aA]at *;refine gE func49 ntmps49 results49 ?_
  (refine ae ?_;intro K hK K hK)
  (revert K;revert K;refine aK CN ?_)
  (refine iG.of 40 rfl ?_;simp only[go_sem])
 ·have CL:=PM x V H;rw[H]at CN A;simp only[if_true]at CN A⊢;have ok:=(ki H).ok;have W:=C7 H;have CS:=W8 ok (ct x) (kQ x) zd (nH _).2;have O:q8 (bf (aZ x)) (aZ x).em (az (aZ x).la) (ct x)=p8 x (ct x):=rfl;rw[O]at CS
  cases u:p8 x (ct x)with
  |none=>
   rw[u]at CS A;simp only[wg]at CS;simp only[aA,bY]at *;refine gE func49 ntmps49 results49 ?_
   (refine ae ?_;intro K hK K hK)
   (revert K;revert K;refine aK CN ?_;intro K hK K hK)
   (revert K;revert K;refine aK CL ?_;intro K hK K hK)
   (revert K;revert K;refine aK CS ?_)
   (refine iG.of 40 rfl ?_;simp only[go_sem])
  |some st=>
   rw[u]at CS A;obtain⟨g1,g2,g3⟩:=Q8 H u;have CQ:=TQ g1 g2 g3;have CZ:=H5 (ji (ct x) st);simp only[wg]at CS
   by_cases q:32<(ji (ct x) st).rows.length
   ·simp only[if_pos q]at A⊢;simp only[aA,bY,c7,gA,ji,gV,afK,afJ]at *;clear A g1 g2 g3 O u;generalize da st.rows st.ends (b9 st.rows st.ends)=L at CQ CZ q⊢;refine gE func49 ntmps49 results49 ?_
    (refine ae ?_;intro K hK K hK)
    (revert K;revert K;refine aK CN ?_;intro K hK K hK)
    (revert K;revert K;refine aK CL ?_;intro K hK K hK)
    (revert K;revert K;refine aK CS ?_;intro K hK K hK)
    (revert K;revert K;refine aK CQ ?_;intro K hK K hK K hK)
    refine ai.Ct CZ 20 rfl (by simp only[go_sem,Nat.reduceLT,Nat.reduceLeDiff,Nat.reduceEqDiff,Nat.lt_add_one,Nat.zero_lt_one,and_self]) rfl ?_
    ((iterate 3 revert K);refine ae ?_;intro K hK)
    refine cn.part (λh=>?_) (λh=>?_)
    ·(revert K;refine ae ?_)
     (refine iG.of 40 rfl ?_;simp only[go_sem])
    ·exfalso;replace h:=cq h;omega
   ·simp only[if_neg q]at A⊢;simp only[aA,bY,c7,gA,ji,gV,afK,afJ]at *;clear A g1 g2 g3 O u;generalize da st.rows st.ends (b9 st.rows st.ends)=L at CQ CZ q⊢;refine gE func49 ntmps49 results49 ?_
    (refine ae ?_;intro K hK K hK)
    (revert K;revert K;refine aK CN ?_;intro K hK K hK)
    (revert K;revert K;refine aK CL ?_;intro K hK K hK)
    (revert K;revert K;refine aK CS ?_;intro K hK K hK)
    (revert K;revert K;refine aK CQ ?_;intro K hK K hK K hK)
    refine ai.Ct CZ 20 rfl (by simp only[go_sem,Nat.reduceLT,Nat.reduceLeDiff,Nat.reduceEqDiff,Nat.lt_add_one,Nat.zero_lt_one,and_self]) rfl ?_
    ((iterate 3 revert K);refine ae ?_;intro K hK)
    refine cn.part (λh=>?_) (λh=>?_)
    ·exfalso;replace h:=cq h;omega
    ·(revert K;refine ae ?_)
     (refine iG.of 40 rfl ?_;simp only[go_sem])
end
def bM(A:oZ)(s:Int):Bool:=decide (0<=s)&&decide (s<A.rows.length)&&A.ends.getD s.toNat false
def jt(A:oZ)(s:Int)(l:ByteArray):Option Nat:=if 0<=s∧s<A.rows.length then look (A.rows.getD s.toNat []) l else none
def stepT(o:Option Nat):AV:= .ck [.v (.int .i64 ((o.getD 0:Nat):Int)),.v (.bool o.isSome)]
theorem RX(o:Option Nat):(stepT o).wf 0=true:=rfl
theorem OT(A:oZ)(U:A.ends.length=A.rows.length)(s:Int):aj prog 31 [.vp (c7 A),.v (.int .i64 s)] (.v (.bool (bM A s))):=by
 have CZ:=H5 A;simp only[c7,gV,bY,afK,afJ,U]at CZ⊢
 by_cases O:0<=s
 ·obtain⟨k,rfl⟩:∃k:Nat,s=k:=⟨s.toNat,zd⟩;have q:decide (0<=(k:Int))=true:=decide_eq_true O
  by_cases V:k<A.rows.length
  ·have H:decide ((k:Int)<(A.rows.length:Int))=true:=b0
   have u:bM A k=A.ends.getD k false:=by rw[bM,q,H];rfl
   have eG:(A.ends.map (λb=>[AV.v (.bool b)])).getD k []=[.v (.bool (A.ends.getD k false))]:=by
    rw[ae2,List.getElem?_map,aeC zd,ae2,aeC zd];rfl
   rw[u];refine gE func31 ntmps31 results31 ?_
   (refine ak q ?_;intro K hK K hK)
   (revert K;revert K;exact Cx CZ H eG)
  ·have H:decide ((k:Int)<(A.rows.length:Int))=false:=bi
   have u:bM A k=false:=by rw[bM,H];simp
   rw[u];refine gE func31 ntmps31 results31 ?_
   (refine ak q ?_;intro K hK K hK)
   (revert K;revert K;exact Ph CZ H)
 ·have q:decide (0<=s)=false:=decide_eq_false O
  have u:bM A s=false:=by rw[bM,q];rfl
  rw[u];refine gE func31 ntmps31 results31 ?_;exact vT q
theorem Tg(A:oZ)(s:Int)(l:ByteArray):aj prog 55 [.vp (c7 A),.v (.int .i64 s),.v (.string l)] (stepT (jt A s l)):=by
 have CZ:=H5 A;simp only[c7,gV,bY,afK,afJ]at *
 by_cases O:0<=s
 ·obtain⟨k,rfl⟩:∃k:Nat,s=k:=⟨s.toNat,zd⟩;have u:decide (0<=(k:Int))=true:=decide_eq_true O
  by_cases U:k<A.rows.length
  ·have H:decide ((k:Int)<(A.rows.length:Int))=true:=b0
   have q:jt A k l=look A.rows[k] l:=by
    rw[jt,if_pos ⟨O,zd⟩,Int.toNat_natCast,ae2,aeC U];rfl
   have eG:(A.rows.map (λr=>[AV.mp (dD r)])).getD k []=[.mp (dD A.rows[k])]:=by
    rw[ae2,List.getElem?_map,aeC U];rfl
   have eA:=B8 l A.rows[k];rw[q]
   cases hl:look A.rows[k] l with
   |none=>
    rw[hl]at eA;simp only[Option.map_none,stepT,ag7,ag8]at eA⊢;refine gE func55 ntmps55 results55 ?_
    (refine ak u ?_;intro K hK K hK K hK)
    ((iterate 3 revert K);refine dA CZ (nq H eG eA) ?_)
    (refine iG.of 40 rfl ?_;simp only[go_sem])
   |some t=>
    rw[hl]at eA;simp only[aeO,stepT,agL,ag9]at eA⊢;refine gE func55 ntmps55 results55 ?_
    (refine ak u ?_;intro K hK K hK K hK)
    ((iterate 3 revert K);refine dA CZ (nq H eG eA) ?_)
    (refine iG.of 40 rfl ?_;simp only[go_sem])
  ·have H:decide ((k:Int)<(A.rows.length:Int))=false:=bi
   have q:jt A k l=none:=by rw[jt,if_neg zd]
   rw[q];simp only[stepT,ag7,ag8];refine gE func55 ntmps55 results55 ?_
   (refine ak u ?_;intro K hK K hK K hK)
   ((iterate 3 revert K);refine dA CZ H ?_)
   (refine iG.of 40 rfl ?_;simp only[go_sem])
 ·have u:decide (0<=s)=false:=decide_eq_false O
  have q:jt A s l=none:=by rw[jt,if_neg zd]
  rw[q];simp only[stepT,ag7,ag8];refine gE func55 ntmps55 results55 ?_;refine ak u ?_
  (refine iG.of 40 rfl ?_;simp only[go_sem])
def cX(p:uh):C5:=[.v (.string p.key),.v (.int .i64 p.val.kind),.v (.int .i64 p.val.num),.v (.string p.val.text)]
def aR(e:bH):C5:=[.v (.string e.bP),.v (.string e.to),.v (.string e.label),.v (.int .i64 e.time),.aB 4 (e.props.map cX) e.props.length]
theorem cM(n:Nat)(l:Rd):bD n (l.map cX)=true:=bw _ (λ_=>rfl) l
theorem Nu(n:Nat)(e:bH):aU n (aR e)=true:=by simp only[aR,aU,AV.wf,cM,afo]
theorem df(n:Nat)(l:Id):bD n (l.map aR)=true:=bw _ (Nu n) l
def ic(A:oZ)(s:Nat)(l:ByteArray):Option Nat:=jt A s l
def nf(S:DS):AC:=[some ⟨108,0,false,cg cJ S.known⟩,some ⟨108,1,false,[[.vec 0 0]]⟩,some ⟨79,2,true,S.nodes.map cJ⟩,some ⟨109,1,false,[[.vec 2 S.nodes.length]]⟩,
 some ⟨162,2,false,[[.vec 5 S.heap.length,.v (.bool true)]]⟩,some ⟨115,2,true,S.heap.map bc⟩,some ⟨110,1,false,[[.ptr 4 0 2 0 0]]⟩]
theorem ku(n:Nat)(l:T1):bD n (l.map cJ)=true:=bw _ (λ_=>rfl) l
theorem ei(n:Nat)(l:L1):bD n (cg cJ l)=true:=gn (λ_=>rfl) l
theorem DR(n:Nat)(l:LT):bD n (l.map bc)=true:=aQ n l
theorem qt{l:Id}{i:Nat}(h:i<l.length):(l.map aR).getD i []=[.v (.string l[i].bP),.v (.string l[i].to),.v (.string l[i].label),.v (.int .i64 l[i].time),.aB 4 (l[i].props.map cX) l[i].props.length]:=by
 rw[getD_map aR l i [] h];rfl
def gj(G:List (ByteArray×Id)):List C5:=G.map (λp=>[.v (.string p.1),.aB 5 (p.2.map aR) p.2.length])
theorem AH(k:ByteArray):∀G,o5 .string (.string k) (gj G)=some ((qN G k).map λl=> .aB 5 (l.map aR) l.length)
 | []=>rfl
 |p::G=>by
  rw[gj,aga,o5,qN];simp only[dH,if_true,fx,BC]
  by_cases e:p.1=k
  ·rw[if_pos e,decide_eq_true e.symm];rfl
  ·rw[if_neg e,decide_eq_false (Ne.symm e)];exact AH k G
theorem ky(n:Nat):∀G,bD n (gj G)=true
 | []=>rfl
 |p::G=>by
  simp only[gj,aga,bD,aU,AV.wf,df,afu,afo];exact ky n G
attribute [go_sem] ei DR ku ky gk df cM
theorem Xb(A:oZ)(s:Nat)(l:ByteArray):jt A (s:Int) l=ic A s l:=rfl
theorem KP(A:oZ)(E:Id)(G:List (ByteArray×Id))(a:Nd)(time:Int)(S:DS)(H:(qN G a.1).getD []=kU E a.1)(hn:S.heap.length+(kU E a.1).length<=999999)(U:S.nodes.length+(kU E a.1).length<=999999)(ht:0<=time∧time<=1099511627776)(hE:∀e∈kU E a.1,0<=e.time∧e.time<=1099511627776) :
  bR prog 54 [.agg (cJ a),.v (.int .i64 time),.vp [.vp (c7 A),.mp (gj G)],.ptr 1 0 1 0 0,.ptr 6 0 1 0 0,.ptr 3 0 1 0 0] (nf S) (.ck []) (nf (pf (ic A) E a time S)):=by
 have g0:=AH a.1 G;simp only[cJ];rw[pf];generalize Y:(kU E a.1).foldl (wL (ic A) a time) S=R;generalize kU E a.1=L at *
 have d00:decide (((0:Nat):Int)<((0:Nat):Int))=false:=zs
 cases O:qN G a.1 with
 |none=>
  rw[O]at g0 H;simp only[ag7,Option.map_none]at H g0;subst H;simp only[List.foldl_nil]at Y;subst Y;simp only[nf];refine gF func54 ntmps54 results54 ?_;refine aM g0 ?_
  refine aO (ι:=Unit) 6 (λ_=>[(18,.v (.int .i64 (0:Nat))),(19,.v (.int .i64 (0:Nat)))]) (λ_=>nf S) (λ_=>0) (λ_=>True) () trivial ?_ ?_
  ·simp only[nf];refine ab (bJ ?_) ar ar
   all_goals first|rfl|exact ei _ _|exact DR _ _|exact ku _ _
  ·rintro _ _ K hK;simp only[nf]
   (revert K;refine aM d00 ?_)
   exact⟨ek,ek,ek⟩
   all_goals first|rfl|exact ei _ _|exact DR _ _|exact ku _ _
 |some l=>
  rw[O]at g0 H;simp only[agL,aeO]at H g0;subst H;simp only[nf];refine gF func54 ntmps54 results54 ?_;refine aM g0 ?_
  refine aO (ι:=DS×Nat) 6 (λx=>[(6,.ptr 7 0 2 0 0),(17,.aB 5 (l.map aR) l.length),(18,.v (.int .i64 (l.length:Nat))),(19,.v (.int .i64 (x.2:Nat)))]) (λx=>nf x.1++[some ⟨79,2,false,[[.v (.string a.1),.v (.int .i64 (a.2:Nat))]]⟩]) (λx=>l.length-x.2)
   (λx=>x.2<=l.length∧(l.drop x.2).foldl (wL (ic A) a time) x.1=R∧x.1.heap.length+(l.length-x.2)<=999999∧x.1.nodes.length+(l.length-x.2)<=999999) (S,0) ⟨Nat.zero_le _,Y,hn,U⟩ ?_ ?_
  ·simp only[nf,afK,afJ];refine ab (bJ ?_) ar ar
   all_goals first|rfl|exact rfl
  ·rintro⟨T,i⟩ ⟨W,u,hh,V⟩ K hK;simp only at W u hh V⊢;simp only[nf,afK,afJ]
   have eN:(l.map aR).length=l.length:=zk
   rcases Nat.lt_or_ge i l.length with hi|hi
   ·have d1:decide ((i:Int)<(l.length:Int))=true:=b0;have e1:=qt hi;have C:=Tg A a.2 l[i].label;simp only[stepT,Xb]at C;rw[af7 hi,List.foldl_cons]at u;have hEt:=hE l[i] (List.getElem_mem hi);have ws:=ag (k:=i) zd;generalize l[i]=e at *;rw[wL]at u
    cases hs:ic A a.2 e.label with
    |none=>
     rw[hs]at C u;simp only[ag7,ag8]at C u
     (revert K;refine aM (nq d1 e1 eN) ?_;iterate 4 intro K hK)
     ((iterate 4 revert K);refine Cw C ws ?_)
     refine aw.mk (T,i+1) ⟨hi,u,(show T.heap.length+(l.length-(i+1))<=999999 by omega),(show T.nodes.length+(l.length-(i+1))<=999999 by omega)⟩ (show l.length-(i+1)<l.length-i by omega) ?_;simp only[nf,afK,afJ];exact ab ar ar ar
     all_goals first|rfl
    |some t=>
     rw[hs]at C u;simp only[agL,ag9]at C u;have PU:=WU T.known (e.to,t) (min time e.time);simp only[cJ]at PU;rw[gb]at PU;have eK:∀f l,cm f (cg cJ l)=cg cJ l:=λf l=>bn _ _ (ei _ _)
     have em:(if e.time<time then e.time else time)=min time e.time:=zd
     (revert K;refine aM (nq d1 e1 eN) ?_;iterate 4 intro K hK)
     ((iterate 4 revert K);refine Cw C em ?_;iterate 4 intro K hK)
     cases hb:dW T.known (e.to,t) (min time e.time)
     ·rw[hb]at PU u;simp only[afC,if_false]at PU u
      refine ai.fr [0] PU zk ?_ ?_ ?_ ?_ ?_
      ·simp only[aga,agE,afD,aeO,aa.ba,eK]
      ·rfl
      ·rfl
      ·intro j ob q
       match j,q with
       |0,q=>cases q;exact ei _ _
       |j+1,q=>simp at q
      ((iterate 4 revert K);refine aM (rL eK ws) ?_)
      refine aw.mk (T,i+1) ⟨hi,u,(show T.heap.length+(l.length-(i+1))<=999999 by omega),(show T.nodes.length+(l.length-(i+1))<=999999 by omega)⟩ (show l.length-(i+1)<l.length-i by omega) ?_;simp only[nf,afK,afJ];exact ab ar ar ar
      all_goals first|rfl
     ·rw[hb]at PU u;simp only[if_true]at PU u
      have tt:lS prog 79=some [.s,.i]:=zo
      have g1:=mL vU (e.to,t) (gP T.known (e.to,t) (min time e.time));have g3:=vU (e.to,t) (e.to,t);rw[decide_eq_true rfl]at g3;rw[j5,if_pos rfl]at g1;simp only[cJ,aeO]at g1 g3
      have wn:IntKind.i64.wrap (0-(min time e.time)) = -(min time e.time):=by rw[bT zd zd];omega
      have PS:=WS T.heap (-(min time e.time),(T.nodes.length:Int)) zd
      have eNn:(T.nodes.map cJ).length=T.nodes.length:=zk
      have hpl:(mS T.heap (-(min time e.time),(T.nodes.length:Int))).length=T.heap.length+1:=by have:=(jN T.heap (-(min time e.time),(T.nodes.length:Int))).length_eq;simpa using this
      simp only[bc,rN]at PS;have eI:∀f l,cm f (List.map bc l)=List.map bc l:=λf l=>bn _ _ (aQ _ _)
      refine ai.fr [0] PU zk ?_ ?_ ?_ ?_ ?_
      ·simp only[aga,agE,afD,aeO,aa.ba,eK]
      ·rfl
      ·rfl
      ·intro j ob q
       match j,q with
       |0,q=>cases q;exact ei _ _
       |j+1,q=>simp at q
      ((iterate 4 revert K);refine aM (qq eK g1 g3 tt wn) ?_;iterate 4 intro K hK)
      refine ai.fr [4,5] PS zk ?_ ?_ ?_ ?_ ?_
      ·simp only[aga,agE,afD,List.getElem?_cons_succ,aeO,aa.ba,cm,bV,AV.ba,eI];rfl
      ·rfl
      ·rfl
      ·intro j ob q
       match j,q with
       |0,q=>cases q;rfl
       |1,q=>cases q;exact aQ _ _
       |j+2,q=>simp at q
      ((iterate 4 revert K);refine aM (nq eI eNn ws) ?_)
      have e5:(T.nodes++[(e.to,t)]).map cJ=T.nodes.map cJ++[[.v (.string e.to),.v (.int .i64 (t:Nat))]]:=by rw[List.map_append];rfl
      have e6:(T.nodes++[(e.to,t)]).length=T.nodes.length+1:=zk
      refine aw.mk (⟨gP T.known (e.to,t) (min time e.time),T.nodes++[(e.to,t)],mS T.heap (-(min time e.time),(T.nodes.length:Int))⟩,i+1) ⟨hi,u,(show(mS T.heap (-(min time e.time),(T.nodes.length:Int))).length+(l.length-(i+1))<=999999 by omega),(show(T.nodes++[(e.to,t)]).length+(l.length-(i+1))<=999999 by omega)⟩ (show l.length-(i+1)<l.length-i by omega) ?_;simp only[nf,afK,afJ,e5,e6];exact ab ar ar ar
      all_goals first|rfl
   ·have d1:decide ((i:Int)<(l.length:Int))=false:=bi;rw[aeV hi,List.foldl_nil]at u
    (revert K;refine aM d1 ?_)
    rw[u];exact⟨ek,ek,ek⟩
    all_goals first|rfl
theorem GC(s:ByteArray)(A:s.size<=maxLen):aj prog 86 [.v (.string s)] (.v (.bool (fU s))):=aj.vb zo rfl (λD nu w vargs q=>by
 obtain⟨x,rfl,u⟩:=ik q;rw[u.di]
 exact vX s w A)
theorem Pa(s:ByteArray)(A:s.size<=maxLen):aj prog 87 [.v (.string s)] (.v (.bool (cB s))):=aj.vb zo rfl (λD nu w vargs q=>by
 obtain⟨x,rfl,u⟩:=ik q;rw[u.di]
 exact E2 s w A)
theorem Jp(v:Ef)(A:v.text.size<=maxLen):aj prog 128 [.agg [.v (.int .i64 v.kind),.v (.int .i64 v.num),.v (.string v.text)]] (.v (.bool (bo v))):=aj.vb zo rfl (λD nu w vargs q=>by
 obtain⟨x,rfl,u⟩:=ik q;have e:x=.agg #[.int .i64 v.kind,.int .i64 v.num,.string v.text]:=j0 (xs:=[.int .i64 v.kind,.int .i64 v.num,.string v.text]) u;rw[e]
 exact DP v w A)
theorem RY(t:Int):aj prog 129 [.v (.int .i64 0),.v (.int .i64 1099511627776),.aB 1 [[.v (.int .i64 t)]] 1] (.v (.bool (decide (0<=t∧t<=1099511627776)))):=by
 have d0:decide (((0:Nat):Int)<((1:Nat):Int))=true:=zs
 have d1:decide (((1:Nat):Int)<((1:Nat):Int))=false:=zs
 have ws:=ag (k:=0) zd;refine gE func129 ntmps129 results129 ?_
 (refine ae ?_;intro K hK)
 refine bg (ι:=Bool) 11 (λb=>[(8,.undef),(11,.v (.int .i64 ((if b then 1 else 0:Nat):Int)))]) (λb=>if b then 0 else 1) (λb=>b=true->0<=t∧t<=1099511627776) false (λh=>by cases h) ?_ ?_
 ·simp only[afC,if_false];refine ab (bJ ?_) ar ar
  all_goals first|rfl
 ·rintro b U K hK
  cases b
  ·simp only[afC,if_false]
   by_cases H:t<0
   ·have q:decide (t<0)=true:=decide_eq_true H;rw[decide_eq_false (show ¬(0<=t∧t<=1099511627776) by omega)]
    (revert K;revert K;exact Vl d0 q)
   ·have q:decide (t<0)=false:=decide_eq_false H
    by_cases A:1099511627776<t
    ·have u:decide (1099511627776<t)=true:=decide_eq_true A;rw[decide_eq_false (show ¬(0<=t∧t<=1099511627776) by omega)]
     (revert K;revert K;exact vT (nq d0 q u))
    ·have u:decide (1099511627776<t)=false:=decide_eq_false A
     (revert K;revert K;refine ak (pG d0 q u ws) ?_)
     refine aw.mk true (λ_=>zd) zk ?_;simp only[if_true];exact ab ar ar ar
     all_goals first|rfl
  ·have O:decide (0<=t∧t<=1099511627776)=true:=decide_eq_true (U rfl);simp only[if_true]
   (revert K;revert K;refine ak d1 ?_)
   rw[O]
theorem ab8(t:Int):aj prog 89 [.v (.int .i64 t)] (.v (.bool (decide (0<=t∧t<=1099511627776)))):=by
 have W:=RY t;refine gE func89 ntmps89 results89 ?_
 (refine ae ?_;intro K hK K hK)
 refine ai.Ct W 8 rfl (by simp only[go_sem,Nat.reduceLT,Nat.reduceLeDiff,Nat.reduceEqDiff,Nat.lt_add_one,Nat.zero_lt_one,and_self]) rfl ?_
 (revert K;revert K;exact sY)
def Ve(p:uh):Prop:=p.key.size<=maxLen∧p.val.text.size<=maxLen
structure xr(e:bH):Prop where
 bP:e.bP.size<=maxLen
 to:e.to.size<=maxLen
 label:e.label.size<=maxLen
 props:∀p∈e.props,Ve p
 len:e.props.length<=16777216
theorem Kz{l:Rd}{last:ByteArray}{k:Nat}(h:k<l.length):wI last (l.drop k)=if Kl l[k].key last||l[k].key.toList==last.toList then false else cB l[k].key&&bo l[k].val&&wI l[k].key (l.drop (k+1)):=by
 rw[af7 h,wI]
theorem CB{l:Rd}{i:Nat}(h:i<l.length):(l.map cX).getD i []=[.v (.string l[i].key),.v (.int .i64 l[i].val.kind),.v (.int .i64 l[i].val.num),.v (.string l[i].val.text)]:=by
 rw[getD_map cX l i [] h];rfl
theorem Us(l:Rd)(Y:∀p∈l,Ve p)(hl:l.length<=16777216):aj prog 88 [.aB 4 (l.map cX) l.length] (.v (.bool (Bh l))):=by
 have eN:(l.map cX).length=l.length:=zk
 generalize U:Bh l=R;rw[Bh]at U
 (refine aj.enter func88 rfl zo zo rfl (by simp only[go_sem,aU,AV.wf,agA,afo,afu,cM]) (by simp only[go_sem,aU,AV.wf,bz,agA,afo,afu,cM]) ?_;simp only[ntmps88,results88,List.length_cons,List.length_nil,Nat.reduceAdd,Nat.reduceSub,List.replicate_succ,List.replicate_zero,afK,afJ])
 (refine ae ?_;intro K hK)
 refine bg (ι:=Nat×ByteArray) 3 (λx=>[(3,.v (.string x.2)),(6,.aB 4 (l.map cX) l.length),(7,.v (.int .i64 (l.length:Nat))),(8,.v (.int .i64 (x.1:Nat)))]) (λx=>l.length-x.1) (λx=>x.1<=l.length∧(wI x.2 (l.drop x.1)&&decide (l.length<=8))=R) (0,⟨#[]⟩) ⟨Nat.zero_le _,U⟩ ?_ ?_
 ·refine ab (bJ ?_) ar ar
  all_goals first|rfl|exact⟨cM _ _,rfl⟩
 ·rintro⟨i,last⟩ ⟨hi,q⟩ K hK;simp only at hi q⊢
  rcases Nat.lt_or_ge i l.length with h|h
  ·have d1:decide ((i:Int)<(l.length:Int))=true:=b0;have W:=CB h;have u:=Y _ (List.getElem_mem h);rw[Kz h]at q;have ws:=ag (k:=i) zd;generalize l[i]=p at *;have F:=Pa p.key u.1;have V:=Jp p.val u.2;have lt:Kl p.key last=Op.bytesLess p.key.toList last.toList:=rfl;rw[lt]at q
   cases O:(Op.bytesLess p.key.toList last.toList||p.key.toList==last.toList)
   ·rw[O]at q;simp only[afC,if_false]at q
    (revert K;revert K;refine ak (pG d1 W eN O) ?_;iterate 6 intro K hK)
    refine ai.one F ?_
    cases H:cB p.key
    ·rw[H]at q;simp only[afL]at q
     ((iterate 6 revert K);refine ak H ?_)
     rw[q]
    ·rw[H]at q
     ((iterate 6 revert K);refine ak H ?_;iterate 6 intro K hK)
     refine ai.one V ?_
     cases A:bo p.val
     ·rw[A]at q;simp only[afW,afL]at q
      ((iterate 6 revert K);refine ak A ?_)
      rw[q]
     ·rw[A]at q;simp only[agA,afu]at q
      ((iterate 6 revert K);refine fc A ws ?_)
      refine aw.mk (i+1,p.key) ⟨h,q⟩ (show l.length-(i+1)<l.length-i by omega) ?_;exact ab ar ar ar
      all_goals first|rfl|exact cM _ _|exact⟨cM _ _,rfl⟩
   ·rw[O]at q;simp only[if_true,afL]at q
    (revert K;revert K;refine ak (pG d1 W eN O) ?_)
    rw[q]
  ·have d1:decide ((i:Int)<(l.length:Int))=false:=bi;rw[aeV h,wI,afu]at q
   (revert K;revert K;refine ak d1 ?_)
   rw[<-q]
   congr 1
   rw[decide_eq_decide];omega
theorem S7(e:bH)(u:xr e):aj prog 50 [.agg (aR e)] (.v (.int .i64 (nL e))):=by
 have C1:=GC e.bP u.bP;have C2:=GC e.to u.to;have C3:=Pa e.label u.label;have Y:=Us e.props u.props u.len;have W:=ab8 e.time;generalize q:nL e=R;rw[nL]at q;simp only[aR]
 (refine aj.enter func50 rfl zo zo rfl (by simp only[go_sem,aU,AV.wf,agA,afo,afu,cM]) (by simp only[go_sem,aU,AV.wf,bz,agA,afo,afu,cM]) ?_;simp only[ntmps50,results50,List.length_cons,List.length_nil,Nat.reduceAdd,Nat.reduceSub,List.replicate_succ,List.replicate_zero,afK,afJ])
 (refine ae ?_;iterate 4 intro K hK)
 refine ai.one C1 ?_
 cases V:fU e.bP
 ·rw[V]at q;simp only[afL,afC,if_false]at q
  ((iterate 4 revert K);refine ak V ?_)
  rw[<-q]
 rw[V]at q
 ((iterate 4 revert K);refine ak V ?_;iterate 4 intro K hK)
 refine ai.one C2 ?_
 cases U:fU e.to
 ·rw[U]at q;simp only[afL,afW,afC,if_false]at q
  ((iterate 4 revert K);refine ak U ?_)
  rw[<-q]
 rw[U]at q
 ((iterate 4 revert K);refine ak U ?_;iterate 4 intro K hK)
 refine ai.one C3 ?_
 cases O:cB e.label
 ·rw[O]at q;simp only[afL,afW,afC,if_false]at q
  ((iterate 4 revert K);refine ak O ?_)
  rw[<-q]
 rw[O]at q
 ((iterate 4 revert K);refine ak O ?_;intro K hK K hK K hK)
 refine ai.one Y ?_
 cases H:Bh e.props
 ·rw[H]at q;simp only[afW,afC,if_false]at q
  ((iterate 3 revert K);refine ak H ?_)
  rw[<-q]
 rw[H]at q;simp only[agA,if_true]at q
 ((iterate 3 revert K);refine ak H ?_;intro K hK K hK K hK)
 by_cases A:0<=e.time∧e.time<=1099511627776
 ·rw[decide_eq_true A]at W;rw[if_pos (show 0<=e.time∧e.time<=Ar from A)]at q
  ((iterate 3 revert K);refine aK W ?_)
  rw[<-q]
 ·rw[decide_eq_false A]at W;rw[if_neg (show ¬(0<=e.time∧e.time<=Ar)from A)]at q
  ((iterate 3 revert K);refine aK W ?_)
  rw[<-q]
end Go.Proofs.YtlhhccmopfamhaaGreatDoor
