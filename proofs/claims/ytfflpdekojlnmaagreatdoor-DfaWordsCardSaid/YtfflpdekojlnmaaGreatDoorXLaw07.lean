/- texts of one claim, one behind the other. -/
import Derived.Test.YtfflpdekojlnmaaGreatDoorXOpenX
import Derived.Test.YtfflpdekojlnmaaGreatDoorXDfaD
import Derived.Test.YtfflpdekojlnmaaGreatDoorXLens
import Derived.Test.YtfflpdekojlnmaaGreatDoorXAbsV
import Derived.Test.YtfflpdekojlnmaaGreatDoorXDfaR
import Derived.Test.YtfflpdekojlnmaaGreatDoorXDfaK
import Derived.Shelf.Slices.CompactS
import Derived.Lib.RowBridge
import Derived.Shelf.SlMaps.Equal
set_option linter.unusedSimpArgs false
set_option linter.unusedVariables false
set_option maxRecDepth 100000
set_option maxHeartbeats 16000000
open Array renaming getElem?_eq_some_iff -> Ua
open Bool renaming and_self -> Wc, and_eq_true -> UW, true_and -> Vq
open List renaming getElem?_set_ne -> Ux, getElem?_eq_some_iff -> Uc, getElem?_set_self -> Uy, map_cons -> Wa, length_cons -> Uh, length_nil -> Ub, cons_append -> VK, nil_append -> VJ, getD_eq_getElem?_getD -> U3, getElem?_map -> Ut, getElem?_eq_getElem -> Uq, set_cons_zero -> VR, set_cons_succ -> VQ, getElem_mem -> Vx, foldl_nil -> VO, length_map -> U2, map_append -> V7, length_append -> Ug, length_singleton -> V9, getElem?_toArray -> Us, getElem?_cons_zero -> Ve, getElem?_cons_succ -> VB, zip_cons_cons -> VL, zip_nil_left -> VM, foldl_cons -> VN, setIfInBounds_toArray -> VP, mem_cons -> Vt, not_mem_nil -> WH, append_nil -> Vn, mem_map -> WI, filter_cons_of_neg -> WJ, getElem_map -> V2, pairwise_map -> We, all_eq_true -> Vj, mem_map_of_mem -> WO, mem_cons_of_mem -> U8, findIdx?_cons -> WQ, foldl_append -> V5, map_nil -> Wi, mem_append -> V4, mem_singleton -> V3, mem_append_left -> V0, getElem?_eq_none -> Uv
open Nat renaming le_trans -> T8, zero_lt_succ -> WE, le_refl -> T7, le_succ -> WG, lt_or_ge -> Ue
open Classical renaming byContradiction -> Wf
open Option renaming getD_none -> WK, isSome_none -> WL, isSome_some -> WN
namespace Go.Proofs.YtfflpdekojlnmaaGreatDoor
open Go.RowKit
section
section
variable {D:Nat->Prop} {nu:Nat->Nat->Value} {o:List (Option aa)} {w:World} {P:Program}
theorem LS {s:AS} {k i j id len:Nat} {ob:aa} {row:List AV} (x':AV) (hto: ∀(D:Nat->Prop) (nu:Nat->Nat->Value) (w:World),RO D nu s.o w->RA D nu (s.o.set id none) w x' (nu id len)) (hne:id≠k) (hk:s.o[k]? = some (some ob)) (hz:0<ob.z) (hr:ob.rows[i]? = some row) (hj:row[j]? = some (.vec id len)) :
  yg s (AS.mk s.t ((s.o.set id none).set k (some { ob with rows:=ob.rows.set i (row.set j x') })) s.y):=by
 intro f D nu a w hs;have hp:=dC (nu:=nu) (o:=s.o) (w:=w) id;have hro:=mO hs.ro id
 have hk':(s.o.set id none)[k]? = some (some ob):=by rw [Ux hne];exact hk
 have hh:ob.hl=({ ob with rows:=ob.rows.set i (row.set j x') }:aa).hl:=by simp [aa.hl]
 obtain ⟨g,cur,hb⟩: ∃g cur,ye D nu (s.o.set id none) w k ob g cur:=by
  rcases hro.obj k ob hk' with ⟨_,e,_⟩|h|⟨g,es,cl,hm⟩
  ·rw [e] at hr;simp at hr
  ·exact h
  ·have:=hm.z;omega
 have hm:=kr (nu:=nu) (o:=s.o.set id none) (w:=w) (w':=w) (ob':={ ob with rows:=ob.rows.set i (row.set j x') }) hk' hh.symm hb.bD rfl rfl rfl rfl (fun _ _=>rfl);refine ⟨nu,hp.trans hm,rfl, ?_,(hs.tm.mono hp (fun _ _ h=>h)).mono hm (fun _ _ h=>h),hs.jm⟩;have hil:=(Uc.1 hr).1;have hjl:=(Uc.1 hj).1;have hsl:=hto D nu w hs.ro
 have key: ∀(i' j':Nat) r c,(ob.rows.set i (row.set j x'))[i']? = some r->r[j']? = some c-> ∃r0 c0,ob.rows[i']? = some r0∧r0[j']? = some c0∧(c=c0∨(c=x'∧c0 = .vec id len)):=by
  intro i' j' r c h1 h2
  by_cases hi:i=i'
  ·subst hi;rw [Uy hil] at h1;cases h1
   by_cases hj':j=j'
   ·subst hj';rw [Uy hjl] at h2;cases h2;exact ⟨row,_,hr,hj, .inr ⟨rfl,rfl⟩⟩
   ·rw [Ux hj'] at h2;exact ⟨row,c,hr,h2, .inl rfl⟩
  ·rw [Ux hi] at h1;exact ⟨r,c,h1,h2, .inl rfl⟩
 refine tT hro hk' hh.symm hb.bD hm (fun _ _=>rfl) (cur:=cur) ⟨hb.fL,hb.np,fun hv'=> ?_,fun hv'=> ?_,hb.z,fun i' r hi'=> ?_,fun i' j' r c x h1 h2 h3=> ?_,fun i' j' r c x h1 h2 h3=> ?_⟩
 ·obtain ⟨q1,q2,q3⟩:=hb.box hv';exact ⟨q1,by simpa using q2,q3⟩
 ·obtain ⟨cap,q1,q2,q3,q4⟩:=hb.vec hv';exact ⟨cap,by simpa using q1,by simpa using q2,q3,q4⟩
 ·by_cases hi:i=i'
  ·subst hi;rw [Uy hil] at hi';cases hi';rw [List.length_set];exact hb.row i row hr
  ·rw [Ux hi] at hi';exact hb.row i' r hi'
 ·obtain ⟨r0,c0,k1,k2,e⟩:=key i' j' r c h1 h2;have h0:=hb.cell i' j' r0 c0 x k1 k2 h3
  rcases e with rfl|⟨rfl,rfl⟩
  ·exact h0.mono hm (fun _ _ h=>h)
  ·have hx:x=nu id len:=by
    cases h0 with
    | vec=>rfl
   rw [hx];exact hsl.mono hm (fun _ _ h=>h)
 ·obtain ⟨r0,c0,k1,k2,_⟩:=key i' j' r c h1 h2;exact hb.one i' j' r0 c0 x k1 k2 h3
theorem FC {s:AS} {k i j id:Nat} {ob ob2:aa} {row:List AV} (hne:id≠k) (hk:s.o[k]? = some (some ob)) (hz:0<ob.z) (hr:ob.rows[i]? = some row) (hj:row[j]? = some (.vec id 0)) (ho:s.o[id]? = some (some ob2)) (hv:ob2.gk=false) (hz2:ob2.z=0) :
  yg s (AS.mk s.t ((s.o.set id none).set k (some { ob with rows:=ob.rows.set i (row.set j (.mp ob2.rows)) })) s.y):=LS (.mp ob2.rows) (fun D nu w h=>Ib h ho hv hz2) hne hk hz hr hj
end
def iM (l:List Nat):List (List AV):=l.zipIdx.map (fun p=>[.v (.int .i64 (p.1:Nat)), .v (.int .i64 (p.2:Nat))])
@[go_sem] theorem Tp (n:Nat) (l:List Nat):bw n (iM l)=true:=bz _ (fun p=>rfl) _
theorem Ck (x:Nat): ∀(l:List Nat) (k:Nat),oD (.int .i64) (.int .i64 (x:Nat)) ((l.zipIdx k).map (fun p=>[.v (.int .i64 (p.1:Nat)), .v (.int .i64 (p.2:Nat))]))=some ((l.findIdx? (fun y=>x==y)).map (fun n=> .v (.int .i64 ((n+k:Nat):Int))))
 | [],k=>rfl
 | a :: l,k=>by
  have ih:=Ck x l (k+1);rw [List.zipIdx_cons,Wa,oD,if_pos (show dk (.int .i64) (.int .i64 (a:Nat))=true from rfl)]
  have e:ft (.int .i64 (x:Nat)) (.int .i64 (a:Nat))=(x==a):=by
   rw [ft,Bool.eq_iff_iff,beq_iff_eq,beq_iff_eq];omega
  rw [e,List.findIdx?_cons]
  cases h:x==a
  ·simp only [Bool.false_eq_true,if_false];rw [ih,Option.map_map]
   congr 2;funext i;simp;omega
  ·simp
theorem MT (x:Nat) (l:List Nat):oD (.int .i64) (.int .i64 (x:Nat)) (iM l)=some ((l.findIdx? (fun y=>x==y)).map (fun n=> .v (.int .i64 (n:Nat)))):=Ck x l 0
theorem Cn (x:Nat) (v:AV): ∀(l:List Nat) (k:Nat),l.findIdx? (fun y=>x==y)=none->pM (.int .i64) (.int .i64 (x:Nat)) v ((l.zipIdx k).map (fun p=>[.v (.int .i64 (p.1:Nat)), .v (.int .i64 (p.2:Nat))]))=some ((l.zipIdx k).map (fun p=>[.v (.int .i64 (p.1:Nat)), .v (.int .i64 (p.2:Nat))])++[[.v (.int .i64 (x:Nat)),v]])
 | [],k,_=>rfl
 | a :: l,k,h=>by
  rw [List.findIdx?_cons] at h
  have e:ft (.int .i64 (x:Nat)) (.int .i64 (a:Nat))=(x==a):=by
   rw [ft,Bool.eq_iff_iff,beq_iff_eq,beq_iff_eq];omega
  cases hh:x==a
  ·rw [hh] at h;simp only [Bool.false_eq_true,if_false,Option.map_eq_none_iff] at h;have ih:=Cn x v l (k+1) h;rw [List.zipIdx_cons,Wa,pM,if_pos (show dk (.int .i64) (.int .i64 (a:Nat))=true from rfl),e,hh,if_neg (by decide),ih];rfl
  ·rw [hh] at h;simp at h
theorem MU (x:Nat) (l:List Nat) (h:l.findIdx? (fun y=>x==y)=none):pM (.int .i64) (.int .i64 (x:Nat)) (.v (.int .i64 (l.length:Nat))) (iM l)=some (iM (l++[x])):=by
 rw [iM,Cn x _ l 0 h,iM,List.zipIdx_append];simp
theorem KJ {o:List (Option aa)} {z1 l1 z2 l2:Nat} {r1 r2:List (List AV)} (h1:bw 0 r1=true) (h2:bw 0 r2=true):bH o (.agg [.aC z1 r1 l1, .aC z2 r2 l2]) (.agg [.aC z1 r1 l1, .aC z2 r2 l2]):=
 bH.of 5 (p:=(AV.aC z1 r1 l1).wf 0=true∧(AV.aC z2 r2 l2).wf 0=true∧True) (by simp only [gW,fQ]) ⟨by rw [AV.wf];exact h1,by rw [AV.wf];exact h2,trivial⟩
def gA (rows:List aR) (ends:List Bool):AV:= .agg (gV rows ends)
def uz (n:Nat) (part:List Nat) (order:List Nat) (rows:List aR) (ends:List Bool):List (Option aa):=[some ⟨70,2,false,[[.vec 6 rows.length, .vec 7 rows.length]]⟩,some ⟨79,1,false,[[.aC 1 (aI part) n]]⟩,some ⟨108,0,false,iM (order.map (fun s=>part.getD s 0))⟩,some ⟨108,1,false,[[.vec 2 0]]⟩,some ⟨3,1,true,aI order⟩,some ⟨79,1,false,[[.vec 4 order.length]]⟩,some ⟨84,1,true,rows.map (fun r=>[.mp (b4 r)])⟩,some ⟨4,1,true,ends.map (fun b=>[.v (.bool b)])⟩]
theorem KZ {rows:List aR} {ends:List Bool} (ok:Ru rows ends) (h0:0<rows.length) (hpt:(br rows ends).length=rows.length):ar Tryz.prog 35 [.vp (gV rows ends)] (gA (cq rows ends (br rows ends)).rows (cq rows ends (br rows ends)).ends):=by
 have hN:=ok.n;have hE:=ok.e;have CP:=Lq ok;generalize hpart:br rows ends=part at CP hpt
 have hA:aX 0 [AV.vp (gV rows ends)]=true:=by simp only [gV,aX,AV.wf,pz,py,Wc]
 have hF:(gA (cq rows ends part).rows (cq rows ends part).ends).wf 0=true:=by simp only [gA,gV,aX,AV.wf,pz,py,Wc]
 generalize hrv:gA (cq rows ends part).rows (cq rows ends part).ends=rv at hF ⊢
 (refine ar.l5 Tryz.func35 rfl (by kernel_rfl) (by kernel_rfl) rfl hA hF ?_;simp only [Tryz.ntmps35,Tryz.results35,Uh,Ub,Nat.reduceAdd,Nat.reduceSub,List.replicate_succ,List.replicate_zero,VK,VJ])
 simp only [gV,hE] at CP hA ⊢
 have eP:(aI part).getD 0 []=[.v (.int .i64 ((part.getD 0 0:Nat):Int))]:=by
  rw [aI,U3,Ut,Uq (by omega),U3,Uq (by omega)];rfl
 (refine xh ?_;intro K hK K hK)
 refine ab.one CP ?_
 repeat ((fail_if_success (with_reducible refine bB (i:=4) ?_));first|(with_reducible first|refine aA.up ?_|refine fun (K:AK) hK=> ?_|refine wK ?_|refine wF ?_|(refine hK _ ?_;clear hK K))|simp only [go_sem,eP]|with_reducible refine wA ?_|clear hK K)
 refine bb (dD (k:=0) (i:=0) (j:=0) 84 1 (by decide) rfl (by decide) rfl rfl) (by kernel_rfl) ?_;simp only [VR,VQ,Uh,Ub,Nat.reduceAdd,VK,VJ];refine bb (dD (k:=0) (i:=0) (j:=1) 4 1 (by decide) rfl (by decide) rfl rfl) (by kernel_rfl) ?_;simp only [VR,VQ,Uh,Ub,Nat.reduceAdd,VK,VJ]
 (revert K;revert K;refine xh ?_;intro K hK)
 refine aT (ι:=wo) 7 (fun st=>[(6, .v (.int .i64 st.rows.length))]) (fun st=>uz rows.length part st.order st.rows st.ends) (fun st=>rows.length+1 - st.rows.length) (fun st=>DH rows part st∧gA (lI rows ends part (rows.length+1 - st.rows.length) st).rows (lI rows ends part (rows.length+1 - st.rows.length) st).ends=rv) q0
  ⟨Db rows part h0,hrv⟩ ?_ ?_
 ·simp only [uz,q0];refine iG ?_ ?_ aj
  all_goals first|rfl|exact ⟨rfl,rfl⟩|exact ⟨rfl,rfl,rfl⟩|exact ⟨⟨rfl,rfl⟩,rfl⟩|trace_state
 ·rintro st ⟨hok,hrun⟩ K hK;have hol:=kj part hok.nd hok.lt;have hle:=hok.le;have hel:=hok.ends
  have eL: ∀l:List Nat,(aI l).length=l.length:=fun l=>by simp [aI]
  simp only [uz]
  (revert K;revert K;refine Nd eL ?_;intro K hK K hK K hK)
  refine bC.part (fun h=> ?_) (fun h=> ?_)
  ·have hlt:st.rows.length<st.order.length:=by replace h:=bJ h;omega
   have hcu:dp st<rows.length:=hok.lt _ (aQ hlt);have eW:=ak (k:=st.rows.length) (by omega)
   have eG:(aI st.order).getD st.rows.length []=[.v (.int .i64 ((dp st:Nat):Int))]:=by
    rw [dp,aI,U3,Ut,Uq hlt,U3,Uq hlt];rfl
   have CS:=Dn rows ends (dp st);have hlr:=ok.lab _ (Vx hcu);have hln:=ok.len _ (Vx hcu);have hseq:=vU rows ends (dp st) hcu (by omega) (fun p hp=>T8 (hlr p hp).1 (by decide)) (ok.uC _ (Vx hcu)) (by omega);simp only [gV,hE] at CS hseq;have hri:=ok.uC _ (Vx hcu)
   have hg:rows.getD (dp st) []=rows[dp st]:=by rw [U3,Uq hcu];rfl
   have hnx:dQ rows ends part st=⟨(dI part st.order rows[dp st]).1,st.rows++[(dI part st.order rows[dp st]).2],st.ends++[ends.getD (dp st) false]⟩:=by rw [dQ,hg]
   generalize rows[dp st]=row at hlr hln hseq hnx hri hg;rw [show rows.length+1 - st.rows.length=(rows.length - st.rows.length)+1 by omega,lI,if_pos hlt] at hrun
   repeat (first|(with_reducible first|refine aA.up ?_|refine fun (K:AK) hK=> ?_|refine wE ?_|refine wD ?_|refine wK ?_|refine wF ?_|(refine hK _ ?_;clear hK K))|simp only [go_sem,eG,eL,h]|with_reducible refine wA ?_|clear hK K)
   refine ab.one CS ?_
   ((iterate 6 revert K);refine xh ?_;iterate 4 intro K hK)
   refine rW hseq 35 (fun k=>uz rows.length part (dI part st.order (row.take k)).1 st.rows st.ends++[some ⟨84,0,false,b4 (dI part st.order (row.take k)).2⟩,some ⟨84,1,false,[[.vec 8 0]]⟩]) (fun k=>k<=row.length) (Nat.zero_le _) ?_ ?_ ?_ (by kernel_rfl) (by kernel_rfl) ?_ ?_ ?_
   ·((iterate 4 revert K);exact Nq)
   ·simp only [aX,AV.wf,pz,py,Wc]
   ·simp only [uz,VK,VJ,List.take_zero,dI,VO];refine qI ?_ aj
    all_goals rfl
   ·intro x hx;obtain ⟨o,_,rfl⟩:=List.mem_map.1 hx
    rfl
   ·intro k x hk hx
    obtain ⟨hkl,hx⟩: ∃h:k<row.length,x=[.v (.string row[k].1), .v (.int .i64 (row[k].2:Nat))]:=by
     obtain ⟨h1,h2⟩:=Uc.1 hx;simp only [b4,U2] at h1;exact ⟨h1,by rw [<-h2];simp [b4]⟩
    subst hx;obtain ⟨hz1,hz2⟩:=hlr _ (Vx hkl)
    have eT:(aI part).getD row[k].2 []=[.v (.int .i64 ((part.getD row[k].2 0:Nat):Int))]:=by
     rw [aI,U3,Ut,Uq (by omega),U3,Uq (by omega)];rfl
    have hI:=kn part st.order (row.take k) row[k];rw [<-List.take_succ_eq_append_getElem hkl,Dd] at hI;obtain ⟨k1,k2,k3,k4,k5,_⟩:=ru part (n:=rows.length) hok.nd hok.lt (row.take k) (fun p hp=>(hlr _ (List.mem_of_mem_take hp)).2);have hdl:=kj part k1 k2
    have hnl:look (dI part st.order (row.take k)).2 row[k].1=none:=cP.2 fun q=>by
     rw [k5] at q;exact xC (l:=row.map Prod.fst) (lf hri) (i:=k) (by simpa using hkl) (by simpa [List.map_take] using q)
    rcases hqs:dI part st.order (row.take k) with ⟨od,ow⟩
    rw [hqs] at hI k1 k2 k3 k4 k5 hdl hnl;simp only at hI k1 k2 k3 k4 k5 hdl hnl;have eA:=MT (part.getD row[k].2 0) (od.map (fun s=>part.getD s 0));have hqp:(od.map (fun s=>part.getD s 0)).findIdx? (fun y=>part.getD row[k].2 0==y)=iA part od (part.getD row[k].2 0):=rfl;simp only [uz,VK,VJ]
    cases hp:iA part od (part.getD row[k].2 0) with
    | some n=>
     rw [hqp,hp] at eA;rw [hp] at hI;simp only [Option.map_some] at eA hI;have eS:=pN row[k].1 n ow hnl
     repeat (first|(with_reducible first|refine aA.up ?_|refine fun (K:AK) hK=> ?_|refine wE ?_|refine wD ?_|refine wK ?_|refine wF ?_|(refine hK _ ?_;clear hK K))|simp only [go_sem,eT,eA,eS]|with_reducible refine wA ?_|clear hK K)
     simp only [uz,VK,VJ,hI];exact aO aj
    | none=>
     rw [hqp,hp] at eA;rw [hp] at hI;simp only [Option.map_none] at eA hI;have eS:=pN row[k].1 od.length ow hnl;have eK:=MU (part.getD row[k].2 0) (od.map (fun s=>part.getD s 0)) (hqp.trans hp);rw [U2] at eK
     repeat (first|(with_reducible first|refine aA.up ?_|refine fun (K:AK) hK=> ?_|refine wE ?_|refine wD ?_|refine wK ?_|refine wF ?_|(refine hK _ ?_;clear hK K))|simp only [go_sem,eT,eA,eS,eK,eL]|with_reducible refine wA ?_|clear hK K)
     simp only [uz,VK,VJ,hI];refine qI ?_ aj;exact ⟨by rw [V7];rfl,by simp [aI]⟩
   ·intro _
    have hmr:(b4 row).length=row.length:=by simp [b4]
    simp only [hmr,List.take_length];obtain ⟨k1,k2,k3,k4,k5,t,k6⟩:=ru part (n:=rows.length) hok.nd hok.lt row (fun p hp=>(hlr _ hp).2);have hdl:=kj part k1 k2
    rcases hqs:dI part st.order row with ⟨od,ow⟩
    rw [hqs] at k1 k2 k3 k4 k5 k6 hdl hnx;simp only at k1 k2 k3 k4 k5 k6 hdl hnx
    have eG2:(aI od).getD st.rows.length []=[.v (.int .i64 ((dp st:Nat):Int))]:=by
     rw [k6,aI,V7,bX (by rw [U2];exact hlt)];exact eG
    have eE:(ends.map (fun b=>[AV.v (.bool b)])).getD (dp st) []=[.v (.bool (ends.getD (dp st) false))]:=by
     rw [U3,Ut,Uq (by omega),U3,Uq (by omega)];rfl
    generalize ends.getD (dp st) false=be at eE hnx;simp only [uz,VK,VJ]
    repeat ((fail_if_success (with_reducible refine bB (i:=17) ?_));first|(with_reducible first|refine aA.up ?_|refine fun (K:AK) hK=> ?_|refine wK ?_|refine wF ?_|(refine hK _ ?_;clear hK K))|simp only [go_sem]|with_reducible refine wA ?_|clear hK K)
    refine bb (FC (k:=9) (i:=0) (j:=0) (by decide) rfl (WE _) rfl rfl rfl rfl rfl) (by kernel_rfl) ?_;simp only [VR,VQ]
    repeat (first|(with_reducible first|refine aA.up ?_|refine fun (K:AK) hK=> ?_|refine wE ?_|refine wD ?_|refine wK ?_|refine wF ?_|(refine hK _ ?_;clear hK K))|simp only [go_sem,eG2,eE,eL,eW]|with_reducible refine wA ?_|clear hK K)
    have hnok:DH rows part (dQ rows ends part st):=pb rows ends part (fun r hr p hp=>(ok.lab r hr p hp).2) hok hlt;rw [hnx] at hnok hrun
    refine az.mk ⟨od,st.rows++[ow],st.ends++[be]⟩ ⟨hnok, ?_⟩ ?_ ?_
    ·rw [show rows.length+1 - (wo.rows ⟨od,st.rows++[ow],st.ends++[be]⟩).length=rows.length - st.rows.length by simp only [Ug,V9];omega];exact hrun
    ·show rows.length+1 - (st.rows++[ow]).length<rows.length+1 - st.rows.length;rw [Ug,V9];omega
    ·simp only [uz,Ug,V9,V7,Wa,List.map_nil];exact aO aj
     all_goals trace_state
  ·have hge:st.rows.length=st.order.length:=by replace h:=bJ h;omega
   rw [show rows.length+1 - st.rows.length=(rows.length - st.rows.length)+1 by omega,lI,if_neg (by omega)] at hrun;clear h
   repeat ((fail_if_success (with_reducible refine bB (i:=19) ?_));first|(with_reducible first|refine aA.up ?_|refine fun (K:AK) hK=> ?_|refine wK ?_|refine wF ?_|(refine hK _ ?_;clear hK K))|simp only [go_sem]|with_reducible refine wA ?_|clear hK K)
   refine bb (dA (k:=0) (i:=0) (j:=0) (by decide) rfl (WE _) rfl rfl rfl rfl (U2 _)) (by kernel_rfl) ?_;simp only [VR,VQ];refine bb (dA (k:=0) (i:=0) (j:=1) (by decide) rfl (WE _) rfl rfl rfl rfl ((U2 _).trans hel)) (by kernel_rfl) ?_;simp only [VR,VQ]
   (revert K;refine xh ?_)
   rw [<-hrun];simp only [gA,gV,hel];exact KJ (pz _ _) (py _ _)
open Go.RowKit Go.Shelf
def Kt:Go.Shelf.Ren:=⟨fun|194=>56|n=>n,fun|31=>26|9=>9|3=>3|4=>4|0=>0|n=>n,fun n=>n⟩
theorem yC:Lays.n194 Tryz.prog Kt:={
 mixed:=by kernel_rfl
 f194:=Tryz.func56
 t0:=by kernel_rfl
 a0:=fun w=>by kernel_rfl
 z0:=fun w=>by kernel_rfl
 v0:=fun w=>by kernel_rfl
 t3:=by kernel_rfl
 a3:=fun w=>by kernel_rfl
 z3:=fun w=>by kernel_rfl
 v3:=fun w=>by kernel_rfl
 t4:=by kernel_rfl
 a4:=fun w=>by kernel_rfl
 z4:=fun w=>by kernel_rfl
 v4:=fun w=>by kernel_rfl
 t9:=by kernel_rfl
 a9:=fun w=>by kernel_rfl
 z9:=fun w=>by kernel_rfl
 v9:=fun w=>by kernel_rfl
 t31:=by kernel_rfl
 a31:=fun w=>by kernel_rfl
 z31:=fun w=>by kernel_rfl
 v31:=fun w=>by kernel_rfl }
attribute [local go_sem] Oper.semAt_some
def nU (l:List XC):List ByteArray:=(l.filter (fun c=>c.kind==1)).map (fun c=>c.label)
theorem EM (l:List XC) (c:XC):nU (l++[c])=if c.kind=1 then nU l++[c.label] else nU l:=by
 by_cases h:c.kind=1<;>simp [nU,h]
theorem zk (l:List XC):(nU l).length<=l.length:=by
 rw [nU,U2];exact List.length_filter_le _ _
def qa (x:Ex):List (List UInt8):=Go.Lib.compact (((aB x).map (fun s=>s.data.toList)).mergeSort (fun x y=>decide (x<=y)))
def bW (x:Ex):List ByteArray:=(qa x).map (fun l=>⟨l.toArray⟩)
open Go.Sort in
theorem Bz (x:Ex) (cx:List Value) (w:World) (hx:eu w x cx) (hok:x.ok) (hR:ay x=true) (hN:(ai x).length<=1000000) (hE: ∀L:List XC,L.map XC.sig=(ai x).map Ex.sig->nU L=aB x) :
  Calls Tryz.prog 33 #[.agg cx.toArray] w fun e w'=> ∃v,e = .returned v∧kF w' (bW x) v∧Below w.heap.size w w'∧ ∀b off n c,v = .slice (some ⟨b,off,none⟩) n c->w.heap.size<=b:=by
 have HRt:=Lib.hid (fun W hb=>hR ▸ uh x cx W (hx.below hb) hok);obtain ⟨k,s,kids⟩:=x;have hx':=hx;rw [eu] at hx;obtain ⟨sv,rfl,hr⟩:=hx;obtain ⟨p,c,rfl, -, -⟩:=hr.shape;refine (callsIn_wide (n:=9)).1 ?_;have HX:=Lib.hid hx';have HO:=Lib.hid hok;have HN:=Lib.hid hN;have HE:=Lib.hid hE;clear hx' hok hN hr hE;obtain ⟨i0,hi,hz0,hz1,hz2⟩:=info_parts KP;have HI:=Lib.hid (show _∧_∧_∧_ from ⟨hi,hz0,hz1,hz2⟩);clear hi hz0 hz1 hz2;refine callsIn_of_wp_marks Tryz.func33 rfl trivial ?_ rfl;simp only [Tryz.ntmps33,List.size_toArray,Uh,Ub,Nat.reduceAdd,Nat.reduceSub,Array.replicate_succ,Array.replicate_zero,List.push_toArray,List.append_toArray,VJ,VK]
 gi_wp2_with fail
 refine ⟨trivial,(callsIn_wide.2 (HRt.out _ (((Below.refl w.heap.size w).alloc (T7 _) _).alloc (by simp) _))).mono ?_⟩;rintro e w1 ⟨rfl,hb1⟩;have HB1:=Lib.hid hb1;clear hb1;have hxb:w1.heap[w.heap.size]? = some (.cells #[.int .i64 k, .string s, .slice p kids.length c] 25 (0,0)):=(HB1.out.block w.heap.size (by simp;omega)).trans (jF (ew w (.cells #[.int .i64 k, .string s, .slice p kids.length c] 25)) _);have hob:w1.heap[w.heap.size+1]? = some (.cells #[.slice none 0 0] 26 (0,0)):=(HB1.out.block (w.heap.size+1) (by simp)).trans (by have:=ew (w.alloc (.cells #[.int .i64 k, .string s, .slice p kids.length c] 25)) (.cells #[.slice none 0 0] 26);simpa using this);have hx0:=aH hxb 0;have hx1:=aH hxb 1;have hx2:=aH hxb 2;simp only [Us,Ve,VB] at hx0 hx1 hx2
 gi_wp2_with fail
 refine ⟨trivial, ?_⟩;refine (callsIn_wide.2 (vG _ _ _ _ _ _)).mono ?_;rintro e w' ⟨rfl,rfl⟩
 gi_wp2_with fail
 have hn1:w.heap.size+2<=w1.heap.size:=by simpa using HB1.out.size
 obtain ⟨W0,hW0⟩: ∃W0,w1.alloc (.cells #[.int .i64 k, .string s, .slice p kids.length c] 25)=W0:=⟨_,rfl⟩
 have hs0:W0.heap.size=w1.heap.size+1:=by rw [<-hW0];simp
 have hb01:Below w1.heap.size w1 W0:=by rw [<-hW0];exact (Below.refl _ _).alloc (T7 _) _
 have hb0:Below w.heap.size w W0:=cX (cX (((Below.refl w.heap.size w).alloc (T7 _) _).alloc (by simp) _) HB1.out) hb01;have hbo:W0.heap[w.heap.size+1]? = some (.cells #[.slice none 0 0] 26 (0,0)):=(hb01.block _ (by omega)).trans hob
 have hbp:W0.heap[w1.heap.size]? = some (.cells #[.int .i64 k, .string s, .slice p kids.length c] 25 (0,0)):=by rw [<-hW0];exact ew w1 _
 have hseq:=qM Fence.wide (fun _=>trivial) rfl rfl 8 w.heap.size (w.heap.size+2) w1.heap.size 9 (by decide) _ _ w W0 (T7 _) (by omega) HX.out HO.out (.of hb0) hbp;rw [hW0];clear hxb hob hx0 hx1 hx2 hbp
 refine IQ (lb:= #[.pointer (some ⟨w1.heap.size,0,none⟩)]) (gf:=74) rfl (enters_of Tryz.func74 (by kernel_rfl) rfl) hseq (Below.refl _ _) (fun _=>rfl)
  (fun pre W=>(∃v,Boxed W (w.heap.size+1) 26 v∧W.ownsRow w.heap.size 9 1 v (nU pre).length ((nU pre).map Value.string)∧True)∧(Below w.heap.size w W∧W0.heap.size<=W.heap.size)) (fun _ _ _=>False)
  (((holdsRow_own w.heap.size (w.heap.size+1) 26 9 1 (fun pre:List XC=>(nU pre).length) (fun pre=>(nU pre).map Value.string) (fun _ _=>True)).from _).and ((ownFrom_below (T7 _) (by omega)).and (fun _ _ _ _ hs hg _=>T8 hs hg.size)))
  (fun _ _ _ _ _ hs _ _=>hs) ⟨⟨_,hbo,World.ownsRow_nil _ _ _ _,trivial⟩,hb0,T7 _⟩ 3 (fun c=> #[.int .i64 c.kind, .string c.label, .slice c.ptr c.len c.cap]) 25 (fun _ _ h=>h.2.2) ?assign ?body ?done ?stop
 case assign=>
  intro l x W K hK;simp only [handed,XC.val,VL,VM,VN,VO,VP,VQ,VR];simp only [handed,XC.val,Act.oa,VL,VM,VN,VO,VP,VQ,VR] at hK
  gi_wp2
  exact hK
 case body=>
  rintro l pre x B W hl hrec ⟨⟨v,hv,hrow, -⟩,hB,hsz⟩ hBB hbB hlen;have hvc:=hv.cell;have hvf:=hv.frozen;have hle:=zk pre;have hNN:=HN.out;have hp0:=aH hbB 0;have hp1:=aH hbB 1;simp only [Us,Ve,VB] at hp0 hp1;have HS:=Lib.hid (EM pre x);have hxl:=x.hl;simp only [handed,Act.oa,VL,VM,VN,VO,VP,VQ,VR]
  by_cases hh:x.kind=1
  ·have HH:=Lib.hid hh;have HV:=Lib.hid hv;have HR:=Lib.hid hrow;have HB:=Lib.hid hB;have HZ:=Lib.hid hsz;clear hv hrow hB hsz
   gi_wp2_with (gi_at_builtin;refine wpListIn_append_own _ rfl _ _ 26 rfl w.heap.size 9 i0 (.string ⟨#[]⟩) 1 16 Tryz.underlying26 HI.out.1 HI.out.2.1 HI.out.2.2.1 HI.out.2.2.2 rfl (by decide) _ _ _ rfl (HR.out.alloc _) ⟨W.heap.size,0,none⟩ 1 1 [.string x.label] rfl rfl (cell_one_new _ _ _) (by simp [Value.oneCell']) (by unfold maxLen;omega) (by omega) (by have:=HB.out.size;simp;omega) ?_;intro v' w1' hown' hgrow _;obtain ⟨g',cap',rfl⟩:=ownsRow_succ hown';obtain ⟨hv1,hv2,hr2,hk2,hb2⟩:=HV.out.appended (by decide) HR.out HB.out.size (WG _) hown' hgrow;have HKP:=Lib.hid (ux (hi:=w.heap.size+2) HR.out hgrow (WG _) (Nat.lt_succ_self _) (.slice (some ⟨g',0,none⟩) ((nU pre).length+1) cap'));have hc1:=hv1.cell;have hf1:=hv1.frozen;have HV2:=Lib.hid hv2;have HR2:=Lib.hid hr2;have HK2:=Lib.hid hk2;have HB2:=Lib.hid hb2;clear hv1 hv2 hr2 hk2 hb2 hown' hgrow)
   refine ⟨HK2.out.from _,HKP.out,⟨_,HV2.out, ?_,trivial⟩,HB.out.trans HB2.out,T8 HZ.out HK2.out.size⟩;rw [HS.out,if_pos HH.out];simpa using HR2.out
  ·have HH:=Lib.hid hh;have HV:=Lib.hid hv;have HR:=Lib.hid hrow;have HB:=Lib.hid hB;have HZ:=Lib.hid hsz;clear hv hrow hB hsz
   gi_wp2
   refine ⟨KeepsFrom.refl _ _,Kept.refl _ _ _ _,⟨v,HV.out, ?_,trivial⟩,HB.out,HZ.out⟩;rw [HS.out,if_neg HH.out];exact HR.out
 case done=>
  rintro D xs W hD hS ⟨⟨v,hv,hrow, -⟩,hB,hsz⟩ hK;rw [HE.out xs hS] at hrow
  have hne: ¬w.heap.size+1=D:=by omega
  have hvc:=hv.cell;have hvf:=hv.frozen;have hob:W.heap[w.heap.size+1]? = some (.cells #[v] 26 (0,0)):=hv
  have hlen:(aB (.mk k s kids)).length<=1000000:=by
   rw [<-HE.out xs hS];have h1:=zk xs;have h2:=HN.out
   have h3:xs.length=(ai (.mk k s kids)).length:=by simpa using congrArg List.length hS
   omega
  have HBw:=Lib.hid hB;have HKw:=Lib.hid hK
  have hD2:w1.heap.size+1<=D:=by omega
  clear hB hK hS hsz hs0 hb01 hb0 hbo hseq
  rcases hrow.2 with ⟨rfl,hz⟩|⟨g,cap,cur,rfl,hgb,hgh,r1,r2,r3,r4⟩
  ·have hnil:aB (.mk k s kids)=[]:=List.eq_nil_of_length_eq_zero hz;have HNil:=Lib.hid hnil;have HOb:=Lib.hid hob;clear hrow hv hob hnil hz
   gi_wp2_with fail
   refine ⟨trivial,(callsIn_wide.2 (AnyM.slices_Sort_string_none mW none 0 _)).mono ?_⟩;rintro e w2 ⟨rfl,rfl⟩
   gi_wp2_with fail
   refine ⟨trivial,(callsIn_wide.2 (Any.slices_Compact_string_empty yC none 0 _)).mono ?_⟩;rintro e w2 ⟨rfl,rfl⟩
   gi_wp2_with fail
   have hKs:=dv HKw.out (b:=w.heap.size+1) (o:=0) (.slice none 0 0) (by omega);refine ⟨by simp, .inl ⟨_,_,rfl,run_takeDeferred hKs, ?_⟩⟩;have hbx:=du (je HOb.out (.slice none 0 0)) (.deferred none) (D:=D) hne;have hcf:=aH hbx 0;simp only [Us,Ve] at hcf
   refine ⟨.slice none 0 0, ?_,_,rfl, ?_, ?_,fun b off n c e=>by cases e⟩
   ·simp [results,Tryz.results33,go_sem,hcf]
   ·have:bW (.mk k s kids)=[]:=by rw [bW,qa,HNil.out,List.map_nil,List.mergeSort_nil];rfl
    rw [this];exact .inl ⟨.inl rfl,rfl⟩
   ·exact kJ (HBw.out.setCell (p:=⟨w.heap.size+1,0,none⟩) (WG _) _) (by omega) _ hKs
  ·obtain ⟨nm,hnm⟩: ∃nm:List (List UInt8),(aB (.mk k s kids)).map (fun s=>s.data.toList)=nm:=⟨_,rfl⟩
   have hl1:(aB (.mk k s kids)).length=nm.length:=by rw [<-hnm,U2]
   have hen:(aB (.mk k s kids)).map Value.string=nm.map encStr:=by
    rw [<-hnm,List.map_map];exact List.map_congr_left fun p _=>by simp [encStr]
   have hU:qa (.mk k s kids)=Go.Lib.compact (nm.mergeSort (fun x y=>decide (x<=y))):=by rw [qa,hnm]
   rw [hl1] at hlen;simp only [hl1,hen] at r1 r4 hvc hv hob hrow;rw [Nat.mul_one] at r4;have hgl:g<W.heap.size:=(Ua.1 hgh).1
   have hgo:w.heap.size+1≠g:=fun e=>by
    subst e;rw [hob] at hgh;cases hgh
   have hgD:D≠g:=fun e=>by
    subst e;have:=HKw.out;rw [this] at hgh;cases hgh
   have hH:=holds_of_block hgh r4;have CS:=Lib.hid (AnyM.slices_Sort_string mW g 0 cap nm W hH hgl (by omega));have HOb:=Lib.hid hob;have HG:=Lib.hid hgh;have HR:=Lib.hid (show _∧_∧_ from ⟨r1,r2,r3⟩);have HU:=Lib.hid hU;clear hrow hv hob hH r4 hnm hen hU r1 r2 r3 hgh;simp only [hl1];clear hl1
   gi_wp2_with fail
   refine ⟨trivial,(callsIn_wide.2 CS.out).mono ?_⟩;rintro e w2 ⟨rfl,kk,os,rfl⟩;obtain ⟨r1,r2,r3⟩:=HR.out;have hg2:=heap_sorted (n:=kk) (os:=os) (nm.mergeSort (fun x y=>decide (x<=y))).toArray HG.out;have hgr2:=grownBy_sorted (w:=W) (g:=g) (n:=kk) (os:=os) (nm.mergeSort (fun x y=>decide (x<=y))).toArray;have hls:(nm.mergeSort (fun x y=>decide (x<=y))).length=nm.length:=List.length_mergeSort _;have htk:=take_putCells cur (nm.mergeSort (fun x y=>decide (x<=y))) (by rw [hls,r3];omega)
   have hsz2:(putCells encStr 0 (nm.mergeSort (fun x y=>decide (x<=y))).toArray cur).size=cap:=by simp [putCells,r3]
   have hDl:D<W.heap.size:=(Ua.1 HKw.out).1;generalize hW2:Go.Sort.grow (putRow encStr (Go.Sort.ahead W kk) g 0 (nm.mergeSort (fun x y=>decide (x<=y))).toArray) os=W2 at *;have hob2:W2.heap[w.heap.size+1]? = some (.cells #[.slice (some ⟨g,0,none⟩) nm.length cap] 26 (0,0)):=(hgr2.block _ (Ua.1 HOb.out).1 (by simpa using hgo)).trans HOb.out;have hD3:W2.heap[D]? = some (.deferred (some [])):=(hgr2.block _ hDl (by simpa using hgD)).trans HKw.out;have hB2:Below w.heap.size w W2:=HBw.out.grown hgr2 HBw.out.size (fun j e=>by cases e;exact hgb);have hc2:=aH hob2 0;have hf2:=ct hob2 0;simp only [Us,Ve] at hc2;have hH2:=holds_of_block hg2 htk;have CC:=Lib.hid (Any.slices_Compact_string yC g 0 cap (nm.mergeSort (fun x y=>decide (x<=y))) W2 hH2 (by omega) (by omega));rw [hls] at CC;have HG2:=Lib.hid hg2;have HOb2:=Lib.hid hob2;have HD3:=Lib.hid hD3;have HB2:=Lib.hid hB2;have HS2:=Lib.hid hsz2;clear hg2 hgr2 htk hsz2 hW2 hob2 hD3 hB2 hH2 HOb HG HKw HBw CS hvc hvf
   gi_wp2_with fail
   refine ⟨trivial,(callsIn_wide.2 CC.out).mono ?_⟩;rintro e w3 ⟨rfl,q,rfl⟩
   have hcl:(qa (.mk k s kids)).length<=nm.length:=by rw [HU.out, <- hls];exact Go.Lib.compact_length_le _
   rw [<-HU.out];generalize hZ:(qa (.mk k s kids)++List.replicate (nm.length - (qa (.mk k s kids)).length) ([]:List UInt8))=Z
   have hZl:Z.length=nm.length:=by rw [<-hZ,Ug,List.length_replicate];omega
   have hg3:=heap_sorted (n:=q) (os:= #[]) Z.toArray HG2.out;have hgr3:=grownBy_sorted (w:=W2) (g:=g) (n:=q) (os:= #[]) Z.toArray;have htk:=take_putCells (putCells encStr 0 (nm.mergeSort (fun x y=>decide (x<=y))).toArray cur) Z (by rw [hZl,HS2.out];omega);rw [grow_empty] at hg3 hgr3;have hDl:D<W2.heap.size:=(Ua.1 HD3.out).1;generalize putRow encStr (Go.Sort.ahead W2 q) g 0 Z.toArray=W3 at *;have hob3:W3.heap[w.heap.size+1]? = some (.cells #[.slice (some ⟨g,0,none⟩) nm.length cap] 26 (0,0)):=(hgr3.block _ (Ua.1 HOb2.out).1 (by simpa using hgo)).trans HOb2.out;have hD4:W3.heap[D]? = some (.deferred (some [])):=(hgr3.block _ hDl (by simpa using hgD)).trans HD3.out;have hB3:Below w.heap.size w W3:=HB2.out.grown hgr3 HB2.out.size (fun j e=>by cases e;exact hgb);have hc3:=aH hob3 0;have hf3:=ct hob3 0;simp only [Us,Ve] at hc3;have HG3:=Lib.hid hg3;have HOb3:=Lib.hid hob3;have HD4:=Lib.hid hD4;have HB3:=Lib.hid hB3;have HT:=Lib.hid htk;have HZ:=Lib.hid hZ;have HZl:=Lib.hid hZl;clear hg3 hgr3 htk hob3 hD4 hB3 hZ hZl hc2 hf2
   gi_wp2_with fail
   have hKs:=dv HD4.out (b:=w.heap.size+1) (o:=0) (.slice (some ⟨g,0,none⟩) (qa (.mk k s kids)).length cap) (by omega);refine ⟨by simp, .inl ⟨_,_,rfl,run_takeDeferred hKs, ?_⟩⟩;have hbx:=du (je HOb3.out (.slice (some ⟨g,0,none⟩) (qa (.mk k s kids)).length cap)) (.deferred none) (D:=D) hne;have hcf:=aH hbx 0;simp only [Us,Ve] at hcf
   refine ⟨.slice (some ⟨g,0,none⟩) (qa (.mk k s kids)).length cap, ?_,_,rfl, ?_, ?_,fun b off n c e=>by cases e;exact hgb⟩
   ·simp [results,Tryz.results33,go_sem,hcf]
   ·have hg4:=du (dv HG3.out (b:=w.heap.size+1) (o:=0) (.slice (some ⟨g,0,none⟩) (qa (.mk k s kids)).length cap) hgo.symm) (.deferred none) (D:=D) hgD.symm;refine .inr ⟨g,0,cap,by rw [bW,U2],by rw [bW,U2];omega,r2,fun i x hx=>⟨[.string x],rfl, ?_,trivial⟩⟩;rw [aH hg4]
    have hi:i<(qa (.mk k s kids)).length:=by simpa [bW] using (Uc.1 hx).1
    have e1:=congrArg (fun l:List Value=>l[i]?) HT.out
    have hZi:Z[i]? = some (qa (.mk k s kids))[i]:=by rw [<-HZ.out,List.getElem?_append_left hi,Uq hi]
    rw [HZl.out,List.getElem?_take_of_lt (by omega),Array.getElem?_toList,Ut,hZi] at e1;rw [Nat.zero_add,Nat.mul_one,e1];rw [bW,Ut,Uq hi] at hx;simp only [Option.map_some,Option.some.injEq] at hx;simp [encStr, <- hx]
   ·exact kJ (HB3.out.setCell (p:=⟨w.heap.size+1,0,none⟩) (WG _) _) (by omega) _ hKs
 case stop=>
  rintro D c pre W _ _ h _;exact h.elim
end
section
section
open Go.Lib
theorem Pl {α:Type} [Inhabited α] [DecidableEq α] {le:α->α->Prop} (tr: ∀a b c,le a b->le b c->le a c) (an: ∀a b,le a b->le b a->a=b) (rf: ∀a,le a a) (d:Array α) (hs: ∀i j,i<=j->j<d.size->le d[i]! d[j]!) :
  ∀m,m<=d.size->(compactUpTo d m).Pairwise (fun a b=>le a b∧a≠b)∧(∀x,x∈compactUpTo d m ↔ ∃j,j<m∧x=d[j]!)∧ ∀x,x∈compactUpTo d m->le x d[m - 1]!
 | 0,_=>⟨by simp [compactUpTo],fun x=>by simp [compactUpTo],fun x h=>by simp [compactUpTo] at h⟩
 | m+1,hm=>by
  obtain ⟨h1,h2,h3⟩:=Pl tr an rf d hs m (by omega);rw [compactUpTo_succ]
  have hle: ∀x,x∈compactUpTo d m->le x d[m]! :=fun x hx=>by
   rcases Nat.eq_zero_or_pos m with e|e
   ·subst e;simp [compactUpTo] at hx
   ·exact tr _ _ _ (h3 x hx) (hs (m - 1) m (by omega) (by omega))
  by_cases hk:keeps d m=true
  ·rw [if_pos hk]
   refine ⟨?_,fun x=> ?_,fun x hx=> ?_⟩
   ·rw [List.pairwise_append];refine ⟨h1,by simp,fun a ha b hb=> ?_⟩;simp only [Vt,WH,or_false] at hb;subst hb;refine ⟨hle a ha,fun e=> ?_⟩
    rcases Nat.eq_zero_or_pos m with q|q
    ·subst q;simp [compactUpTo] at ha
    ·have hne:d[m]! ≠ d[m - 1]! :=by
      simp only [keeps,decide_eq_true_eq] at hk
      rcases hk with hk|hk
      ·omega
      ·exact hk
     have h4:=h3 a ha;have h5:=hs (m - 1) m (by omega) (by omega);rw [e] at h4;exact hne (an _ _ h4 h5)
   ·simp only [List.mem_append,Vt,WH,or_false,h2 x]
    constructor
    ·rintro (⟨j,hj,rfl⟩|rfl)
     ·exact ⟨j,by omega,rfl⟩
     ·exact ⟨m,by omega,rfl⟩
    ·rintro ⟨j,hj,rfl⟩
     rcases Ue j m with q|q
     ·exact .inl ⟨j,q,rfl⟩
     ·obtain rfl:j=m:=by omega
      exact .inr rfl
   ·rw [Nat.add_sub_cancel];simp only [List.mem_append,Vt,WH,or_false] at hx
    rcases hx with hx|rfl
    ·exact hle x hx
    ·exact rf _
  ·rw [if_neg hk,Vn]
   have hm0:m≠0∧d[m]! = d[m - 1]! :=by
    simp only [keeps,decide_eq_true_eq] at hk;exact ⟨fun e=>hk (.inl e),Wf fun e=>hk (.inr e)⟩
   refine ⟨h1,fun x=> ?_,fun x hx=>by rw [Nat.add_sub_cancel];exact hle x hx⟩;rw [h2 x]
   constructor
   ·rintro ⟨j,hj,rfl⟩;exact ⟨j,by omega,rfl⟩
   ·rintro ⟨j,hj,rfl⟩
    rcases Ue j m with q|q
    ·exact ⟨j,q,rfl⟩
    ·obtain rfl:j=m:=by omega
     exact ⟨j - 1,by omega,hm0.2⟩
theorem j6 (l:List (List UInt8)):(Go.Lib.compact (l.mergeSort (fun x y=>decide (x<=y)))).Pairwise (fun a b=>a<b)∧ ∀x,x∈Go.Lib.compact (l.mergeSort (fun x y=>decide (x<=y)))↔x∈l:=by
 have hsort:(l.mergeSort (fun x y=>decide (x<=y))).Pairwise (fun x y=>decide (x<=y)=true):=List.pairwise_mergeSort (fun a b c h1 h2=>by simp only [decide_eq_true_eq] at *; exact List.le_trans h1 h2) (fun a b=>by simp only [Bool.or_eq_true,decide_eq_true_eq];exact List.le_total a b) _;have hperm:=List.mergeSort_perm l (fun x y=>decide (x<=y));generalize l.mergeSort (fun x y=>decide (x<=y))=s at hsort hperm
 have hs: ∀i j,i<=j->j<s.toArray.size->s.toArray[i]! <= s.toArray[j]! :=fun i j hij hj=>by
  have hj':j<s.length:=by simpa using hj
  have hi':i<s.length:=by omega
  rw [getElem!_pos s.toArray i (by simpa using hi'),getElem!_pos s.toArray j hj];simp only [List.getElem_toArray]
  rcases Ue i j with q|q
  ·have:=List.pairwise_iff_getElem.1 hsort i j hi' hj' q
   simpa using this
  ·obtain rfl:i=j:=by omega
   exact List.le_refl _
 obtain ⟨h1,h2,_⟩:=Pl (le:=fun a b:List UInt8=>a<=b) (fun _ _ _=>List.le_trans) (fun _ _=>List.le_antisymm) (fun _=>List.le_refl _) s.toArray hs s.length (by simp)
 refine ⟨?_,fun x=> ?_⟩
 ·show (compactUpTo s.toArray s.length).Pairwise _;refine h1.imp fun {a b} ⟨q1,q2⟩=> ?_;exact Wf fun h=>q2 (List.le_antisymm q1 (List.not_lt.1 h))
 ·show x∈compactUpTo s.toArray s.length↔_;rw [h2 x, <- hperm.mem_iff]
  constructor
  ·rintro ⟨j,hj,rfl⟩;rw [getElem!_pos s.toArray j (by simpa using hj)];simp
  ·intro hx;obtain ⟨j,hj,rfl⟩:=List.getElem_of_mem hx;exact ⟨j,hj,by rw [getElem!_pos s.toArray j (by simpa using hj)];simp⟩
end
theorem mP (x:Ex):iJ (bW x):=by
 rw [iJ,bW,List.pairwise_map]
 exact (j6 _).1.imp fun h=>by simpa using h
theorem mb {x:Ex} {s:ByteArray}:s∈bW x↔s∈aB x:=by
 rw [bW,WI]
 constructor
 ·rintro ⟨l,h,rfl⟩
  have:=((j6 _).2 l).1 h
  obtain ⟨t,h1,rfl⟩:=WI.1 this;simpa using h1
 ·intro h;exact ⟨s.data.toList,((j6 _).2 _).2 (List.mem_map_of_mem h),by simp⟩
theorem iQ (x:Ex):(bW x).Nodup:=lf (mP x)
theorem Hx (x:Ex):(bW x).length<=(aB x).length:=(iQ x).length_le_of_subset fun _ h=>mb.1 h
theorem sW {x:Ex} (h:Fit x):((ai x).filter (fun y=>y.kind==1)).map Ex.label=aB x:=by
 induction h with
 | lab s=>simp [ai,bn,aB,Ex.kind,Ex.label]
 | many k s l hk hl hf ih=>
  have hk1: ¬k=1:=by rcases hk with rfl|rfl<;>decide
  rw [ai,bn,cK hk1,WJ (by simpa [Ex.kind] using hk1)];clear hl hf
  induction l with
  | nil=>rfl
  | cons a l ih2=>
   rw [List.flatMap_cons,List.filter_append,List.map_append,aJ,ih a (by simp),ih2 (fun y hy=>ih y (by simp [hy]))]
 | one k s x hk hf ih=>
  have hk1: ¬k=1:=by rcases hk with rfl|rfl|rfl<;>decide
  rw [ai,bn,cK hk1,WJ (by simpa [Ex.kind] using hk1),List.flatMap_cons,List.flatMap_nil,Vn,ih,aJ,aJ,Vn]
theorem Bw {x:Ex} (h:Fit x) (L:List XC) (e:L.map XC.sig=(ai x).map Ex.sig):nU L=aB x:=by
 rw [<-sW h]
 have h1:nU L=((L.map XC.sig).filter (fun c=>c.1==1)).map (fun c=>c.2.1):=by
  rw [nU,List.filter_map,List.map_map];rfl
 have h2:((ai x).filter (fun y=>y.kind==1)).map Ex.label=(((ai x).map Ex.sig).filter (fun c=>c.1==1)).map (fun c=>c.2.1):=by
  have e1:((fun c:Int×ByteArray×Nat=>c.1==1) ∘ Ex.sig)=fun y=>y.kind==1:=by funext y;cases y;rfl
  have e2:((fun c:Int×ByteArray×Nat=>c.2.1) ∘ Ex.sig)=Ex.label:=by funext y;cases y;rfl
  rw [List.filter_map,List.map_map,e1,e2]
 rw [h1,h2,e]
theorem Hy (x:Ex) (h:x.ok) (hr:ay x=true):ar Tryz.prog 33 [.agg (aS x)] (aZ (bW x)):=
 .C8 (by kernel_rfl) (by simp only [aX,AV.wf,fe,Wc]) (fun D nu w vargs hh=>by
  obtain ⟨a,rfl,ha⟩:=kX hh;obtain ⟨ca,rfl,ka⟩:=IK ha
  have hp:(ai x).length<=1000000:=by
   have:=hr
   simp only [ay,UW,decide_eq_true_eq] at this;omega
  exact Bz x ca w (IS x ca ka) h hr hp (Bw (dX hr).1))
theorem zl {x:Ex} (hr:ay x=true) {l:ByteArray} (h:l∈aB x):c6 l=true:=by
 rw [<-sW (dX hr).1,WI] at h;obtain ⟨y,hy,rfl⟩:=h;rw [List.mem_filter] at hy
 have hp:y.part=true:=by
  simp only [ay,UW,List.all_eq_true] at hr;exact hr.2 y hy.1
 obtain ⟨k,s,kids⟩:=y
 have hk:k=1:=by simpa [Ex.kind] using hy.2
 subst hk;simp only [Ex.part,bc,BEq.rfl,if_true,UW] at hp;exact hp.2
theorem Et {s:ByteArray} (h:c6 s=true):s.size<=20:=by
 simp only [c6,iv,UW,decide_eq_true_eq] at h;exact h.1.1.2
theorem KI {s:ByteArray} (h:c6 s=true):32∉s.data.toList:=fun hm=>by
 simp only [c6,iv,UW,List.all_eq_true] at h
 have:=h.1.1.1.1 32 hm
 revert this;decide
theorem xq {x:Ex} (hr:ay x=true): ∀l∈bW x,32∉l.data.toList:=fun l hl=>KI (zl hr (mb.1 hl))
theorem CY {x:Ex} (hr:ay x=true): ∀l∈bW x,l.size<=20:=fun l hl=>Et (zl hr (mb.1 hl))
theorem xo {x:Ex} (hr:ay x=true):(bW x).length<=24:=by
 have N:=ik hr
 have:=Hx x
 have:=N.ok.n
 rw [N.labs] at this;omega
theorem I6 {x:Ex} (hr:ay x=true) {st:mG} (h:my x (bW x)=some st):Ru st.rows st.ends∧0<st.rows.length∧(br st.rows st.ends).length=st.rows.length:=by
 obtain ⟨ho,hl,hw⟩:=xR (aP (aN x)) (aN x).em (aq (aN x).la) (iQ x) h;have hz0:(st.all)[0]? = some [0]:=hw.zero
 have hpos:0<st.rows.length:=by rw [hl];exact (List.getElem?_eq_some_iff.1 hz0).1
 have hT:=qq ho hl;obtain ⟨_,hpl⟩:=tG st.rows st.ends (qp (xq hr) ho) hT hpos ho.ends
 refine ⟨⟨by have:=ho.max;omega,ho.ends,fun r hr'=>(mP x).sublist (ho.row r hr').1,fun r hr'=> ?_,fun r hr' p hp=>⟨?_,hT r hr' p hp⟩⟩,hpos,hpl⟩
 ·have:=(ho.row r hr').1.length_le
  have:=xo hr
  simp only [List.length_map] at *; omega
 ·have:=CY hr _ ((ho.row r hr').1.subset (List.mem_map_of_mem hp));omega
def dc (A:pB):List AV:=gV A.rows A.ends++[aZ A.labs]
theorem kC (n:Nat) (A:pB):aX n (dc A)=true:=by simp only [dc,gV,aZ,VK,VJ,aX,AV.wf,pz,py,bm,Wc]
theorem pS (A:pB):ar Tryz.prog 28 [.vp (dc A)] (.v (.int .i64 A.rows.length)):=by
 simp only [dc,gV,aZ,VK,VJ];refine gE Tryz.func28 Tryz.ntmps28 Tryz.results28 ?_;exact y0
noncomputable def xD (x:Ex):AV:=match iF x (bW x) with
 | .inl A=> .cL [.vp (dc A), .v (.int .i64 0)]
 | .inr e=> .cL [.v (.pointer none), .v (.int .i64 e)]
theorem L6 (x:Ex):(xD x).wf 0=true:=by
 unfold xD
 split
 ·simp only [AV.wf,aX,kC,Wc]
 ·rfl
theorem sa (x:Ex) (ho:x.ok):ar Tryz.prog 9 [.agg (aS x)] (xD x):=by
 have CN:=PU x ho;have hF:=L6 x
 have hu:xD x=(if ay x then (match my x (bW x) with
  | some st=>if 32<(fX (bW x) st).rows.length then .cL [.v (.pointer none), .v (.int .i64 11)] else .cL [.vp (dc (fX (bW x) st)), .v (.int .i64 0)]
  | none=> .cL [.v (.pointer none), .v (.int .i64 11)]) else .cL [.v (.pointer none), .v (.int .i64 2)]):=by
  unfold xD iF
  cases ay x
  ·rfl
  ·simp only [if_true]
   cases my x (bW x) with
   | none=>rfl
   | some st=>
    by_cases h32:32<(fX (bW x) st).rows.length
    ·simp only [if_pos h32]
    ·simp only [if_neg h32]
 rw [hu] at hF ⊢;clear hu
 cases hr:ay x
 ·rw [hr] at CN hF;simp only [Bool.false_eq_true,if_false] at CN hF ⊢;simp only [aD] at *;refine gE Tryz.func9 Tryz.ntmps9 Tryz.results9 ?_
  (refine bF ?_;intro K hK K hK)
  refine ab.one CN ?_
  (revert K;revert K;refine bF ?_)
  (refine jB.of 40 rfl ?_;simp only [go_sem])
 ·have CL:=Hy x ho hr;rw [hr] at CN hF;simp only [if_true] at CN hF ⊢;have ok:=(ik hr).ok;have hln:=xo hr;have CS:=N0 ok (bW x) (iQ x) (by omega) (kL _).2;have hS:ny (aP (aN x)) (aN x).em (aq (aN x).la) (bW x)=my x (bW x):=rfl;rw [hS] at CS
  cases hst:my x (bW x) with
  | none=>
   rw [hst] at CS hF;simp only [qR] at CS;simp only [aD,aZ] at *;refine gE Tryz.func9 Tryz.ntmps9 Tryz.results9 ?_
   (refine bF ?_;intro K hK K hK)
   refine ab.one CN ?_
   (revert K;revert K;refine bF ?_;intro K hK K hK)
   refine ab.one CL ?_
   (revert K;revert K;refine bF ?_;intro K hK K hK)
   refine ab.one CS ?_
   (revert K;revert K;refine bF ?_)
   (refine jB.of 40 rfl ?_;simp only [go_sem])
  | some st=>
   rw [hst] at CS hF;obtain ⟨g1,g2,g3⟩:=I6 hr hst;have CQ:=KZ g1 g2 g3;have CZ:=pS (fX (bW x) st);simp only [qR] at CS
   by_cases h32:32<(fX (bW x) st).rows.length
   ·simp only [if_pos h32] at hF ⊢;simp only [aD,aZ,dc,gA,fX,gV,VK,VJ] at *;clear hF g1 g2 g3 hS hst;generalize cq st.rows st.ends (br st.rows st.ends)=L at CQ CZ h32 ⊢;refine gE Tryz.func9 Tryz.ntmps9 Tryz.results9 ?_
    (refine bF ?_;intro K hK K hK)
    refine ab.one CN ?_
    (revert K;revert K;refine bF ?_;intro K hK K hK)
    refine ab.one CL ?_
    (revert K;revert K;refine bF ?_;intro K hK K hK)
    refine ab.one CS ?_
    (revert K;revert K;refine bF ?_;intro K hK K hK)
    refine ab.one CQ ?_
    (revert K;revert K;refine bF ?_;intro K hK K hK K hK)
    refine ab.JK CZ 20 rfl (by simp only [go_sem,Nat.reduceLT,Nat.reduceLeDiff,Nat.reduceEqDiff,Nat.lt_add_one,Nat.zero_lt_one,and_self]) rfl ?_
    ((iterate 3 revert K);refine bF ?_;intro K hK)
    refine bC.part (fun h=> ?_) (fun h=> ?_)
    ·(revert K;refine bF ?_)
     (refine jB.of 40 rfl ?_;simp only [go_sem])
    ·exfalso;replace h:=bJ h;omega
   ·simp only [if_neg h32] at hF ⊢;simp only [aD,aZ,dc,gA,fX,gV,VK,VJ] at *;clear hF g1 g2 g3 hS hst;generalize cq st.rows st.ends (br st.rows st.ends)=L at CQ CZ h32 ⊢;refine gE Tryz.func9 Tryz.ntmps9 Tryz.results9 ?_
    (refine bF ?_;intro K hK K hK)
    refine ab.one CN ?_
    (revert K;revert K;refine bF ?_;intro K hK K hK)
    refine ab.one CL ?_
    (revert K;revert K;refine bF ?_;intro K hK K hK)
    refine ab.one CS ?_
    (revert K;revert K;refine bF ?_;intro K hK K hK)
    refine ab.one CQ ?_
    (revert K;revert K;refine bF ?_;intro K hK K hK K hK)
    refine ab.JK CZ 20 rfl (by simp only [go_sem,Nat.reduceLT,Nat.reduceLeDiff,Nat.reduceEqDiff,Nat.lt_add_one,Nat.zero_lt_one,and_self]) rfl ?_
    ((iterate 3 revert K);refine bF ?_;intro K hK)
    refine bC.part (fun h=> ?_) (fun h=> ?_)
    ·exfalso;replace h:=bJ h;omega
    ·(revert K;refine bF ?_)
     (refine jB.of 40 rfl ?_;simp only [go_sem])
def dh (A:pB) (s:Int):Bool:=decide (0<=s)&&decide (s<A.rows.length)&&A.ends.getD s.toNat false
def cb (A:pB) (s:Int) (l:ByteArray):Option Nat:=if 0<=s∧s<A.rows.length then look (A.rows.getD s.toNat []) l else none
def stepT (o:Option Nat):AV:= .cL [.v (.int .i64 ((o.getD 0:Nat):Int)), .v (.bool o.isSome)]
theorem JD (o:Option Nat):(stepT o).wf 0=true:=rfl
theorem sb (A:pB) (hE:A.ends.length=A.rows.length) (s:Int):ar Tryz.prog 29 [.vp (dc A), .v (.int .i64 s)] (.v (.bool (dh A s))):=by
 have CZ:=pS A;simp only [dc,gV,aZ,VK,VJ,hE] at CZ ⊢
 by_cases h0:0<=s
 ·obtain ⟨k,rfl⟩: ∃k:Nat,s=k:=⟨s.toNat,by omega⟩;have e1:decide (0<=(k:Int))=true:=decide_eq_true h0
  by_cases h1:k<A.rows.length
  ·have e2:decide ((k:Int)<(A.rows.length:Int))=true:=decide_eq_true (by omega)
   have e3:dh A k=A.ends.getD k false:=by rw [dh,e1,e2];rfl
   have eG:(A.ends.map (fun b=>[AV.v (.bool b)])).getD k []=[.v (.bool (A.ends.getD k false))]:=by
    rw [U3,List.getElem?_map,Uq (by omega),U3,Uq (by omega)];rfl
   rw [e3];refine gE Tryz.func29 Tryz.ntmps29 Tryz.results29 ?_
   (refine aK e1 ?_;intro K hK K hK)
   refine ab.one CZ ?_
   (revert K;revert K;exact He e2 eG)
  ·have e2:decide ((k:Int)<(A.rows.length:Int))=false:=decide_eq_false (by omega)
   have e3:dh A k=false:=by rw [dh,e2];simp
   rw [e3];refine gE Tryz.func29 Tryz.ntmps29 Tryz.results29 ?_
   (refine aK e1 ?_;intro K hK K hK)
   refine ab.one CZ ?_
   (revert K;revert K;exact CR e2)
 ·have e1:decide (0<=s)=false:=decide_eq_false h0
  have e3:dh A s=false:=by rw [dh,e1];rfl
  rw [e3];refine gE Tryz.func29 Tryz.ntmps29 Tryz.results29 ?_;exact CR e1
theorem q9 (A:pB) (s:Int) (l:ByteArray):ar Tryz.prog 30 [.vp (dc A), .v (.int .i64 s), .v (.string l)] (stepT (cb A s l)):=by
 have CZ:=pS A;simp only [dc,gV,aZ,VK,VJ] at *
 by_cases h0:0<=s
 ·obtain ⟨k,rfl⟩: ∃k:Nat,s=k:=⟨s.toNat,by omega⟩;have e1:decide (0<=(k:Int))=true:=decide_eq_true h0
  by_cases h1:k<A.rows.length
  ·have e2:decide ((k:Int)<(A.rows.length:Int))=true:=decide_eq_true (by omega)
   have e3:cb A k l=look A.rows[k] l:=by
    rw [cb,if_pos ⟨h0,by omega⟩,Int.toNat_natCast,U3,Uq h1];rfl
   have eG:(A.rows.map (fun r=>[AV.mp (b4 r)])).getD k []=[.mp (b4 A.rows[k])]:=by
    rw [U3,List.getElem?_map,Uq h1];rfl
   have eA:=wC l A.rows[k];rw [e3]
   cases hl:look A.rows[k] l with
   | none=>
    rw [hl] at eA;simp only [Option.map_none,stepT,WK,WL] at eA ⊢;refine gE Tryz.func30 Tryz.ntmps30 Tryz.results30 ?_
    (refine aK e1 ?_;intro K hK K hK K hK)
    refine ab.one CZ ?_
    repeat (first|(with_reducible first|refine aA.up ?_|refine fun (K:AK) hK=> ?_|(refine hK _ ?_;clear hK K))|simp only [go_sem,e2,eG,eA]|with_reducible refine wA ?_|clear hK K)
    (refine jB.of 40 rfl ?_;simp only [go_sem])
   | some t=>
    rw [hl] at eA;simp only [Option.map_some,stepT,Option.getD_some,WN] at eA ⊢;refine gE Tryz.func30 Tryz.ntmps30 Tryz.results30 ?_
    (refine aK e1 ?_;intro K hK K hK K hK)
    refine ab.one CZ ?_
    repeat (first|(with_reducible first|refine aA.up ?_|refine fun (K:AK) hK=> ?_|(refine hK _ ?_;clear hK K))|simp only [go_sem,e2,eG,eA]|with_reducible refine wA ?_|clear hK K)
    (refine jB.of 40 rfl ?_;simp only [go_sem])
  ·have e2:decide ((k:Int)<(A.rows.length:Int))=false:=decide_eq_false (by omega)
   have e3:cb A k l=none:=by rw [cb,if_neg (by omega)]
   rw [e3];simp only [stepT,WK,WL];refine gE Tryz.func30 Tryz.ntmps30 Tryz.results30 ?_
   (refine aK e1 ?_;intro K hK K hK K hK)
   refine ab.one CZ ?_
   ((iterate 3 revert K);refine aK e2 ?_)
   (refine jB.of 40 rfl ?_;simp only [go_sem])
 ·have e1:decide (0<=s)=false:=decide_eq_false h0
  have e3:cb A s l=none:=by rw [cb,if_neg (by omega)]
  rw [e3];simp only [stepT,WK,WL];refine gE Tryz.func30 Tryz.ntmps30 Tryz.results30 ?_;refine aK e1 ?_
  (refine jB.of 40 rfl ?_;simp only [go_sem])
theorem qH (rows:List aR) (ends:List Bool) (s:Nat) (l:ByteArray) (w:List ByteArray):bK rows ends s (l :: w)=match look (rows.getD s []) l with
 | some t=>bK rows ends t w
 | none=>false:=by
 rw [bK,sF];cases look (rows.getD s []) l<;>rfl
theorem Kv (A:pB) (ok:AOk A) (w:List ByteArray) (hw:w.length<=1000000):ar Tryz.prog 12 [.vp (dc A),aZ w] (.v (.bool (bK A.rows A.ends 0 w))):=by
 have CS:=fun (s:Int) l=>q9 A s l;have CT:=fun (s:Int)=>sb A ok.ends s;simp only [dc,gV,aZ,VK,VJ] at *;refine gE Tryz.func12 Tryz.ntmps12 Tryz.results12 ?_
 (refine au ?_;intro K hK)
 refine bo (ι:=Nat×Nat) 12 (fun x=>[(5, .v (.int .i64 x.2)),(6, .v (.bool true)),(8, .undef),(11, .v (.int .i64 x.1))]) (fun x=>w.length - x.1) (fun x=>x.1<=w.length∧x.2<A.rows.length∧bK A.rows A.ends 0 w=bK A.rows A.ends x.2 (w.drop x.1)) (0,0) ⟨Nat.zero_le _,ok.pos,by rw [List.drop_zero]⟩ ?_ ?_
 ·refine bp ?_ aj
  all_goals rfl
 ·rintro ⟨k,s⟩ ⟨hk,hs,hg⟩ K hK;simp only at hk hs hg
  (revert K;revert K;refine au ?_;intro K hK K hK K hK)
  refine bC.part (fun h=> ?_) (fun h=> ?_)
  ·have hlt:k<w.length:=by replace h:=bJ h;omega
   have eW:=ak (k:=k) (by omega);have eG:=getD_map encS w k [] hlt;rw [List.drop_eq_getElem_cons hlt,qH] at hg;have CK:=CS (s:Int) w[k]
   have e3:cb A s w[k]=look (A.rows.getD s []) w[k]:=by
    rw [cb,if_pos ⟨by omega,by omega⟩,Int.toNat_natCast]
   rw [e3] at CK;simp only [encS] at eG
   cases hl:look (A.rows.getD s []) w[k] with
   | none=>
    rw [hl] at CK hg;simp only [stepT,WK,WL] at CK hg
    repeat (first|(with_reducible first|refine aA.up ?_|refine fun (K:AK) hK=> ?_|(refine hK _ ?_;clear hK K))|simp only [go_sem,eG,h]|with_reducible refine wA ?_|clear hK K)
    refine ab.one CK ?_
    ((iterate 5 revert K);refine au ?_)
    rw [hg]
   | some t=>
    rw [hl] at CK hg;simp only [stepT,Option.getD_some,WN] at CK hg;have ht:t<A.rows.length:=(ok.row _ (aQ hs)).2 _ (dy hl)
    repeat (first|(with_reducible first|refine aA.up ?_|refine fun (K:AK) hK=> ?_|(refine hK _ ?_;clear hK K))|simp only [go_sem,eG,h]|with_reducible refine wA ?_|clear hK K)
    refine ab.one CK ?_
    ((iterate 5 revert K);refine aK eW ?_)
    refine az.mk (k+1,t) ⟨hlt,ht,hg⟩ (by show w.length - (k+1)<w.length - k;omega) ?_;exact aO aj
  ·have hkw:k=w.length:=by replace h:=bJ h;omega
   have hg2:bK A.rows A.ends 0 w=dh A s:=by
    rw [hg,hkw,List.drop_length,dh,decide_eq_true (by omega),decide_eq_true (by omega)];rfl
   ((iterate 3 revert K);refine au ?_;intro K hK K hK)
   refine ab.one (CT s) ?_
   (revert K;revert K;refine au ?_)
   rw [hg2]
end
section
open Go.RowKit Go.Shelf
def Ek:Go.Shelf.Ren:=⟨fun|6=>43|n=>n,fun|23=>84|24=>84|26=>9|27=>3|4=>4|3=>3|0=>0|36=>57|n=>n,fun|n=>n⟩
theorem Bc:SlLaysEq.n6 Tryz.prog Ek:={
 mixed:=by kernel_rfl
 f6:=⟨Tryz.f43.name,by decide,Tryz.func43⟩
 t0:=by kernel_rfl
 a0:=fun w=>by kernel_rfl
 z0:=fun w=>by kernel_rfl
 v0:=fun w=>by kernel_rfl
 t3:=by kernel_rfl
 a3:=fun w=>by kernel_rfl
 z3:=fun w=>by kernel_rfl
 v3:=fun w=>by kernel_rfl
 t4:=by kernel_rfl
 a4:=fun w=>by kernel_rfl
 z4:=fun w=>by kernel_rfl
 v4:=fun w=>by kernel_rfl
 t23:=by kernel_rfl
 a23:=fun w=>by kernel_rfl
 z23:=fun w=>by kernel_rfl
 v23:=fun w=>by kernel_rfl
 t24:=by kernel_rfl
 a24:=fun w=>by kernel_rfl
 z24:=fun w=>by kernel_rfl
 v24:=fun w=>by kernel_rfl
 a26:=fun w=>by kernel_rfl
 z26:=fun w=>by kernel_rfl
 a27:=fun w=>by kernel_rfl
 z27:=fun w=>by kernel_rfl
 t36:=by kernel_rfl
 a36:=fun w=>by kernel_rfl
 z36:=fun w=>by kernel_rfl }
section
open Go.Maps Go.Sort Go.WideElems
theorem Jr:Tryz.prog.underlying 3=some (.int .i64):=by kernel_rfl
theorem RK:Keyed Tryz.prog 9:=string_keyed Js
def tQ {H:Type}:DataW H->DataW H->Bool
 | .lit (.int _ x), .lit (.int _ y)=>x==y
 | _,_=>false
theorem Ih {H:Type} {P:Program} {e:TypeId} (he:P.underlying e=some (.int .i64)) (W:World) (x y:Value) (xd yd:DataW H) (xp yp:List MemPlace) (hx:plainElem P e x=some (xd,xp)) (hy:plainElem P e y=some (yd,yp)) :
  (binOp .neq e x y).run P W = .ok (.bool (!tQ xd yd)) W∧ ∀(a b:Operand),(eqGuard .neq e a b x y).run P W = .ok () W:=by
 obtain ⟨a,rfl,h1,_⟩:=plainElem_int_inv he hx;obtain ⟨b,rfl,h2,_⟩:=plainElem_int_inv he hy
 obtain rfl:xd = .lit (.int .i64 a):=by simpa using (congrArg Prod.fst h1)
 obtain rfl:yd = .lit (.int .i64 b):=by simpa using (congrArg Prod.fst h2)
 refine ⟨?_,fun _ _=>by rw [eqGuard_at_int];rfl⟩;simp [go_sem,tQ,binOp]
 rfl
def sj (r:aR):List (Lit×DataW Unit):=r.map (fun p=>(.string p.1.data.toList, .lit (.int .i64 (p.2:Nat))))
theorem NT {e:MapEntry} {s:ByteArray} {n:Nat} (hk:e.key = .string s) (hv:e.val = .int .i64 (n:Nat)) (hs:s.size<=maxLen) (hn:n<1000000):rd Tryz.prog 9 (plainElem (H:=Unit) Tryz.prog 3) e=some (.string s.data.toList, .lit (.int .i64 (n:Nat))):=by
 unfold WideElems.rd;rw [hk,Go.WideMaps.keyOf_string_mk Js hs,hv,plainElem_int Jr (by simp only [Lit.wf,UW,decide_eq_true_eq];exact ⟨by show (-9223372036854775808:Int)<=_;omega,by show _<=(9223372036854775807:Int);omega⟩)];rfl
theorem zw {D:Nat->Prop} {nu:Nat->Nat->Value} {o:List (Option aa)} {w:World} {r:aR} {x:Value} (h:RA D nu o w (.mp (b4 r)) x) (hs: ∀p∈r,p.1.size<=maxLen∧p.2<1000000) (hn:(r.map Prod.fst).Nodup) (hl:r.length<=1000000) :
  ∃b E,x = .map (some b)∧w.ownsMap Tryz.prog 9 (plainElem Tryz.prog 3) b r.length (.map E)∧E.Perm (sj r):=by
 cases h with
 | mp _ b es cl h1 h2 h3 h4 h5 h6 h7=>
 have hlen:es.size=r.length:=by rw [h3,zt]
 have hget: ∀(i:Nat) (hi:i<es.toList.length),es[i]? = some es.toList[i]:=fun i hi=>by rw [<-Array.getElem?_toList];exact Uq hi
 have hrow: ∀(i:Nat) (hi':i<r.length),(b4 r)[i]? = some [.v (.string r[i].1), .v (.int .i64 (r[i].2:Nat))]:=fun i hi'=>by rw [b4,Ut,Uq hi'];rfl
 have hk: ∀(i:Nat) (hi:i<es.toList.length) (hi':i<r.length),(es.toList[i]).key=Value.string r[i].1:=fun i hi hi'=>(h7 i 0 _ _ _ (hrow i hi') rfl (hget i hi)).plain;have hv: ∀(i:Nat) (hi:i<es.toList.length) (hi':i<r.length),(es.toList[i]).val=Value.int .i64 (r[i].2:Nat):=fun i hi hi'=>(h7 i 1 _ _ _ (hrow i hi') rfl (hget i hi)).plain
 have hkeys:es.toList.map (fun e=>e.key)=r.map (fun p=>Value.string p.1):=List.ext_getElem (by simp [hlen]) fun i k1 k2=>by
  rw [V2,V2];exact hk i (by simpa using k1) (by simpa using k2)
 have hrd: ∀(i:Nat) (hi:i<es.toList.length) (hi':i<r.length),rd Tryz.prog 9 (plainElem (H:=Unit) Tryz.prog 3) es.toList[i]=some (.string r[i].1.data.toList, .lit (.int .i64 (r[i].2:Nat))):=fun i hi hi'=>NT (hk i hi hi') (hv i hi hi') (hs _ (List.getElem_mem hi')).1 (hs _ (List.getElem_mem hi')).2
 refine ⟨b,_,rfl,⟨es,cl,h2,⟨by unfold maxLen;omega,⟨?_, ?_, ?_⟩, ?_⟩,by omega,rfl⟩, ?_⟩
 ·intro e he;obtain ⟨i,hi,rfl⟩:=List.getElem_of_mem he;exact h5 i _ (hget i hi)
 ·rw [List.Nodup,List.pairwise_iff_getElem];intro i j hi hj hij;rw [V2,V2]
  have:=h6 i j _ _ (hget i (by simpa using hi)) (hget j (by simpa using hj)) hij
  omega
 ·have e:es.toList.map (fun x=>x.key)=(r.map Prod.fst).map Value.string:=by rw [hkeys,List.map_map];rfl
  rw [e,List.Nodup,We];exact hn.imp fun hne e=>hne (by cases e;rfl)
 ·intro e he;obtain ⟨i,hi,rfl⟩:=List.getElem_of_mem he;exact ⟨_,hrd i hi (by simpa [hlen] using hi)⟩
 ·refine (WideShapes.sorted_perm _).trans (List.Perm.of_eq ?_);refine List.ext_getElem (by simp [sj,hlen]) fun i k1 k2=> ?_
  have hi:i<es.toList.length:=by simpa using k1
  simp only [sj,V2];rw [rg_of (hrd i hi (by simpa [hlen] using hi))]
def mo (r s:aR):Bool:=decide (r.length=s.length)&&r.all (fun p=>look s p.1==some p.2)
theorem M9 {r:aR} (hn:(r.map Prod.fst).Nodup) {E:List (Lit×DataW Unit)} (h:E.Perm (sj r)):E.Pairwise (fun p q=>p.1≠q.1):=by
 refine (h.pairwise_iff (fun {a b} (q:a.1≠b.1)=>Ne.symm q)).2 ?_;rw [sj,We];rw [List.Nodup,We] at hn;refine hn.imp fun {a b} hne e=>hne ?_
 injection e with e
 exact ByteArray.ext (Array.toList_inj.1 e)
theorem KB {r s:aR} (h1:(r.map Prod.fst).Nodup) (h2:(s.map Prod.fst).Nodup) {E1 E2:List (Lit×DataW Unit)} (p1:E1.Perm (sj r)) (p2:E2.Perm (sj s)):Lib.equalFuncD tQ (.map E1) (.map E2)=mo r s:=by
 have hap:=M9 h2 p2;rw [Lib.equalFuncD,mo,Bool.eq_iff_iff,UW,UW,decide_eq_true_eq,decide_eq_true_eq,Vj,Vj]
 have e1:Maps.size (DataW.map E1)=r.length:=by show E1.length=_;rw [p1.length_eq,sj,U2]
 have e2:Maps.size (DataW.map E2)=s.length:=by show E2.length=_;rw [p2.length_eq,sj,U2]
 rw [e1,e2]
 have key: ∀p∈r,(Lib.goodD tQ (.map E2) (.string p.1.data.toList, .lit (.int .i64 (p.2:Nat)))=true↔look s p.1=some p.2):=fun p hp=>by
  have hs:Maps.has (DataW.map E2) (.string p.1.data.toList)=true↔p.1∈s.map Prod.fst:=by
   rw [Maps.has,List.any_eq_true]
   constructor
   ·rintro ⟨q,hq,hk⟩;have hq':=(p2.mem_iff).1 hq;rw [sj,WI] at hq';obtain ⟨t,ht,rfl⟩:=hq'
    have:=WideAt.sameKey_eq hk
    injection this with this
    have e:t.1=p.1:=ByteArray.ext (Array.toList_inj.1 this);exact e ▸ WO ht
   ·intro hm;obtain ⟨t,ht,e⟩:=WI.1 hm;refine ⟨(.string t.1.data.toList, .lit (.int .i64 (t.2:Nat))),(p2.mem_iff).2 (WO ht), ?_⟩;rw [e];exact WideAt.sameKey_self trivial
  rw [Lib.goodD,UW,hs]
  constructor
  ·rintro ⟨hm,he⟩;obtain ⟨t,ht,e⟩:=WI.1 hm;have hat:(DataW.map E2).atKey (.string p.1.data.toList) .nil = .lit (.int .i64 (t.2:Nat)):=WideAt.atKey_mem .nil trivial hap ((p2.mem_iff).2 (by rw [<-e];exact WO (f:=fun p=>(Lit.string p.1.data.toList,DataW.lit (Lit.int .i64 (p.2:Nat)))) ht));rw [hat] at he
   have:(p.2:Int)=t.2:=by simpa [tQ] using he
   have e2:t.2=p.2:=by omega
   rw [<-e2, <- e];exact oX h2 ht
  ·intro hk;have hm:=dy hk;refine ⟨WO (f:=Prod.fst) hm, ?_⟩;have hat:(DataW.map E2).atKey (.string p.1.data.toList) .nil = .lit (.int .i64 (p.2:Nat)):=WideAt.atKey_mem .nil trivial hap ((p2.mem_iff).2 (WO (f:=fun p=>(Lit.string p.1.data.toList,DataW.lit (Lit.int .i64 (p.2:Nat)))) hm));rw [hat];simp [tQ]
 constructor
 ·rintro ⟨h,k⟩;refine ⟨h,fun p hp=> ?_⟩;rw [beq_iff_eq];exact (key p hp).1 (k _ ((p1.mem_iff).2 (WO (f:=fun p=>(Lit.string p.1.data.toList,DataW.lit (Lit.int .i64 (p.2:Nat)))) hp)))
 ·rintro ⟨h,k⟩;refine ⟨h,fun q hq=> ?_⟩;have hq':=(p1.mem_iff).1 hq;rw [sj,WI] at hq';obtain ⟨p,hp,rfl⟩:=hq';exact (key p hp).2 (by simpa using k p hp)
theorem KC (r s:aR) (hr: ∀p∈r,p.1.size<=maxLen∧p.2<1000000) (hs: ∀p∈s,p.1.size<=maxLen∧p.2<1000000) (nr:(r.map Prod.fst).Nodup) (ns:(s.map Prod.fst).Nodup) (lr:r.length<=1000000) (ls:s.length<=1000000) :
  ar Tryz.prog 43 [.mp (b4 r), .mp (b4 s)] (.v (.bool (mo r s))):=by
 refine ⟨⟨by simp only [aX,AV.wf,pA,Wc],rfl⟩,by kernel_rfl,fun D nu w vargs hro hra=> ?_⟩;obtain ⟨x,y,rfl,hx,hy⟩:=Lv hra;obtain ⟨b1,E1,rfl,o1,p1⟩:=zw hx hr nr lr;obtain ⟨b2,E2,rfl,o2,p2⟩:=zw hy hs ns ls;refine (AnyEq.maps_Equal Bc RK (plainElem Tryz.prog 3) (plainElem Tryz.prog 3) tQ b1 b2 r.length s.length (.map E1) (.map E2) w o1 o2 (.int .i64 0) (fun w=>by kernel_rfl) (.lit (.int .i64 0)) [] (plainElem_int Jr (by decide)) (Ih Jr)).mono ?_;rintro e w' ⟨rfl,hg⟩;rw [KB nr ns p1 p2];have hbw:Below w.heap.size w w':=⟨hg.os,hg.tape,hg.output,hg.size,fun k hk=>hg.block k hk (by simp)⟩;exact ⟨_,nu,[],_,rfl,aw hbw,hro.below hbw, .v _,rfl,rfl⟩
end
structure FI (A:pB):Prop extends AOk A where
 nd:A.labs.Nodup
 sz: ∀l∈A.labs,l.size<=20
 Pt:A.labs.length<=24
theorem FI.SS {A:pB} (h:FI A) {r:aR} (hr:r∈A.rows):(∀p∈r,p.1.size<=maxLen∧p.2<1000000)∧(r.map Prod.fst).Nodup∧r.length<=1000000:=by
 obtain ⟨h1,h2⟩:=h.row r hr
 refine ⟨fun p hp=>⟨?_, ?_⟩,h1.nodup h.nd, ?_⟩
 ·have:=h.sz _ (h1.subset (WO hp));unfold maxLen;omega
 ·have:=h2 p hp;have:=h.max;omega
 ·have:=h1.length_le;have:=h.Pt;rw [U2] at *; omega
def sameAt (A B:pB) (s:Nat):Bool:=(A.ends.getD s false==B.ends.getD s false)&&mo (A.rows.getD s []) (B.rows.getD s [])
def mv (A B:pB):Bool:=decide (A.rows.length=B.rows.length)&&(List.range A.rows.length).all (sameAt A B)
theorem wV {A B:pB} (ha:FI A) (hb:FI B):ar Tryz.prog 14 [.vp (dc A), .vp (dc B)] (.v (.bool (mv A B))):=by
 have CA:=pS A;have CB:=pS B;have ea:=ha.ends;have am:=ha.max;have eb:=hb.ends
 have CQ: ∀s,s<A.rows.length->s<B.rows.length->ar Tryz.prog 43 [.mp (b4 (A.rows.getD s [])), .mp (b4 (B.rows.getD s []))] (.v (.bool (mo (A.rows.getD s []) (B.rows.getD s [])))):=fun s h1 h2=>by
  obtain ⟨q1,q2,q3⟩:=ha.SS (aQ (d:=[]) h1);obtain ⟨k1,k2,k3⟩:=hb.SS (aQ (d:=[]) h2);exact KC _ _ q1 k1 q2 k2 q3 k3
 have gE: ∀(l:List Bool) (s:Nat),s<l.length->(l.map (fun b=>[AV.v (.bool b)])).getD s []=[.v (.bool (l.getD s false))]:=fun l s h=>by
  rw [U3,Ut,Uq h,U3,Uq h];rfl
 have gR: ∀(l:List aR) (s:Nat),s<l.length->(l.map (fun r=>[AV.mp (b4 r)])).getD s []=[.mp (b4 (l.getD s []))]:=fun l s h=>by
  rw [U3,Ut,Uq h,U3,Uq h];rfl
 simp only [dc,gV,aZ,List.cons_append,List.nil_append,ea,eb] at CA CB ⊢;generalize hrv:mv A B=rv
 (refine ar.enter Tryz.func14 rfl (by kernel_rfl) (by kernel_rfl) rfl (by first|rfl|(simp only [go_sem,Wc,Bool.and_true,Vq])) (by first|rfl|(simp only [go_sem,Wc,Bool.and_true,Vq])) ?_;simp only [Tryz.ntmps14,Tryz.results14,List.length_cons,List.length_nil,Nat.reduceAdd,Nat.reduceSub,List.replicate_succ,List.replicate_zero,List.cons_append,List.nil_append])
 (refine cn ?_;intro K hK K hK K hK)
 refine ab.one CA ?_
 ((iterate 3 revert K);refine cn ?_;intro K hK K hK K hK)
 refine ab.one CB ?_
 ((iterate 3 revert K);refine cn ?_;intro K hK)
 refine bC.part (fun h=> ?_) (fun h=> ?_)
 ·have hne:A.rows.length≠B.rows.length:=by replace h:=bJ h;omega
  have hf:rv=false:=by rw [<-hrv,mv,decide_eq_false hne];rfl
  (revert K;refine cn ?_)
  rw [hf]
 ·have heq:A.rows.length=B.rows.length:=by replace h:=bJ h;omega
  have hf:(List.range A.rows.length).all (sameAt A B)=rv:=by rw [<-hrv,mv,decide_eq_true heq];rfl
  (revert K;refine cn ?_;intro K hK K hK K hK)
  refine ab.one CA ?_
  ((iterate 3 revert K);refine cn ?_;intro K hK)
  refine bo (ι:=Nat) 14 (fun s=>[(5, .undef),(13, .v (.int .i64 s))]) (fun s=>A.rows.length - s) (fun s=>s<=A.rows.length∧ ∀t,t<s->sameAt A B t=true) 0 ⟨Nat.zero_le _,fun t h=>absurd h (Nat.not_lt_zero t)⟩ ?_ ?_
  ·refine bp ?_ aj
   all_goals rfl
  ·rintro s ⟨hs,hd⟩ K hK
   (revert K;revert K;refine cn ?_;intro K hK K hK K hK)
   refine bC.part (fun h2=> ?_) (fun h2=> ?_)
   ·have hlt:s<A.rows.length:=by replace h2:=bJ h2;omega
    have eW:=ak (k:=s) (by omega);have g1:=gE A.ends s (by omega);have g2:=gE B.ends s (by omega);have g3:=gR A.rows s hlt;have g4:=gR B.rows s (by omega);have C:=CQ s hlt (by omega);have hsm:sameAt A B s=((A.ends.getD s false==B.ends.getD s false)&&mo (A.rows.getD s []) (B.rows.getD s [])):=rfl;generalize A.ends.getD s false=e1 at *;generalize B.ends.getD s false=e2 at *
    have hin:sameAt A B s=false->rv=false:=fun hx=>by
     rw [<-hf, <- Bool.not_eq_true,Vj];intro hall
     have:=hall s (List.mem_range.2 hlt)
     rw [hx] at this;cases this
    repeat (first|(with_reducible first|refine aA.up ?_|refine fun (K:AK) hK=> ?_|refine wD ?_|(refine hK _ ?_;clear hK K))|simp only [go_sem,g1,g2,g3,g4,h2]|with_reducible refine wA ?_|clear hK K)
    refine bC.part (fun h3=> ?_) (fun h3=> ?_)
    ·rw [h3,Vq] at hsm;generalize mo (A.rows.getD s []) (B.rows.getD s [])=e3 at *
     repeat (first|(with_reducible first|refine aA.up ?_|refine fun (K:AK) hK=> ?_|refine wD ?_|(refine hK _ ?_;clear hK K))|simp only [go_sem,g1,g2,g3,g4,h3]|with_reducible refine wA ?_|clear hK K)
     refine ba.one C ?_
     ((iterate 5 revert K);refine Mk g1 g2 g3 g4 h3 ?_;intro K hK K hK K hK)
     refine bC.part (fun h4=> ?_) (fun h4=> ?_)
     ·rw [h4] at hsm
      ((iterate 3 revert K);refine Mj eW ?_)
      refine az.mk (s+1) ⟨hlt,fun t ht=> ?_⟩ (by omega) (by exact aO aj)
      rcases Nat.lt_succ_iff_lt_or_eq.1 ht with q|rfl
      ·exact hd t q
      ·exact hsm
     ·rw [h4] at hsm
      ((iterate 3 revert K);refine cn ?_)
      rw [hin hsm]
    ·rw [h3,Bool.false_and] at hsm
     ((iterate 5 revert K);refine Mk g1 g2 g3 g4 h3 ?_)
     rw [hin hsm]
   ·have hs':s=A.rows.length:=by replace h2:=bJ h2;omega
    have hf2:rv=true:=by
     rw [<-hf,Vj];intro t ht;exact hd t (by rw [List.mem_range] at ht;omega)
    ((iterate 3 revert K);refine cn ?_)
    rw [hf2]
theorem kp: ∀ {l m:List ByteArray},iJ l->iJ m->(∀s,s∈l↔s∈m)->l=m
 | [],[],_,_,_=>rfl
 | [],b :: m,_,_,h=>absurd ((h b).2 (by simp)) (by simp)
 | a :: l,[],_,_,h=>absurd ((h a).1 (by simp)) (by simp)
 | a :: l,b :: m,h1,h2,h=>by
  rw [iJ,List.pairwise_cons] at h1 h2;have irr: ∀x:List UInt8, ¬x<x:=fun x=>List.lt_irrefl _
  have hab:a=b:=by
   rcases Vt.1 ((h a).1 (by simp)) with e|ha
   ·exact e
   ·rcases Vt.1 ((h b).2 (by simp)) with e|hb
    ·exact e.symm
    ·exact absurd (List.lt_trans (h1.1 b hb) (h2.1 a ha)) (irr _)
  subst hab
  refine congrArg _ (kp h1.2 h2.2 fun s=>⟨fun hs=> ?_,fun hs=> ?_⟩)
  ·rcases Vt.1 ((h s).1 (U8 _ hs)) with e|q
   ·subst e;exact absurd (h1.1 _ hs) (irr _)
   ·exact q
  ·rcases Vt.1 ((h s).2 (U8 _ hs)) with e|q
   ·subst e;exact absurd (h2.1 _ hs) (irr _)
   ·exact q
theorem xn {x:Ex} {l:List ByteArray} (h:iJ l) (hm: ∀s,s∈aB x↔s∈l):bW x=l:=kp (mP x) h fun s=>mb.trans (hm s)
def ta:ByteArray:=⟨#[97]⟩
def tb:ByteArray:=⟨#[98]⟩
def JJ (s:ByteArray):Ex:= .mk 1 s []
def JG:Ex:= .mk 4 ⟨#[]⟩ [.mk 2 ⟨#[]⟩ [JJ ta,JJ tb]]
def JH:Ex:= .mk 3 ⟨#[]⟩ [JJ ta, .mk 2 ⟨#[]⟩ [JJ ta, .mk 4 ⟨#[]⟩ [JJ ta]]]
def JI:Ex:= .mk 5 ⟨#[]⟩ [JJ ta]
def Ap:pB:=⟨[[(ta,1)],[(tb,0)]],[true,false],[ta,tb]⟩
def M3:pB:=⟨[[(ta,1)],[(ta,1)]],[false,true],[ta]⟩
theorem PL:bW JG=[ta,tb]:=xn (by simp [iJ,ta,tb];decide) (fun s=>by rw [show aB JG=[ta,tb] by kernel_rfl])
theorem PM:bW JH=[ta]:=xn (by simp [iJ]) (fun s=>by rw [show aB JH=[ta,ta,ta] by kernel_rfl];simp)
theorem PN:bW JI=[ta]:=xn (by simp [iJ]) (fun s=>by rw [show aB JI=[ta] by kernel_rfl])
theorem Ph:iF JG (bW JG) = .inl Ap:=by rw [PL];kernel_rfl
theorem Pj:iF JH (bW JH) = .inl M3:=by rw [PM];kernel_rfl
theorem RC:iF JI (bW JI) = .inl M3:=by rw [PN];kernel_rfl
theorem Hr {part:List Nat}: ∀ {r s:aR},r.map Prod.fst=s.map Prod.fst->qg part r=qg part s->r.flatMap (fun e=>32 :: (e.1.data.toList++32 :: Lib.decDigits (part.getD e.2 0)))=s.flatMap (fun e=>32 :: (e.1.data.toList++32 :: Lib.decDigits (part.getD e.2 0)))
 | [],[],_,_=>rfl
 | [],b :: s,h,_=>by simp at h
 | a :: r,[],h,_=>by simp at h
 | a :: r,b :: s,h,k=>by
  simp only [List.map_cons,List.cons.injEq,qg] at h k;rw [List.flatMap_cons,List.flatMap_cons,Hr (r:=r) (s:=s) h.2 k.2,h.1,k.1]
theorem Iq {part:List Nat} {p:Nat} {r s:aR} (h:r.map Prod.fst=s.map Prod.fst) (k:qg part r=qg part s):bT part p r=bT part p s:=by
 rw [bT,bT,tC,tC,Hr h k]
def Tv (rows:List aR) (ends:List Bool) (part:List Nat):Prop:= ∀s t,s<rows.length->t<rows.length->part.getD s 0≠part.getD t 0-> ∃w,bK rows ends s w≠bK rows ends t w
end
section
section
variable {α β:Type} [DecidableEq α] [DecidableEq β]
def qY (st:List α×List Nat) (x:α):List α×List Nat:=match st.1.findIdx? (fun y=>decide (x=y)) with
 | some k=>(st.1,st.2++[k])
 | none=>(st.1++[x],st.2++[st.1.length])
theorem yR {γ:Type} {f:γ->α} {g:γ->β}: ∀(ds:List γ) (c:γ),(∀d∈ds,f c=f d↔g c=g d)->(ds.map f).findIdx? (fun y=>decide (f c=y))=(ds.map g).findIdx? (fun y=>decide (g c=y))
 | [],c,_=>rfl
 | d :: ds,c,h=>by
  rw [Wa,Wa,WQ,WQ,yR ds c (fun e he=>h e (U8 _ he))]
  have:=h d List.mem_cons_self
  by_cases e:f c=f d
  ·rw [decide_eq_true e,decide_eq_true (this.1 e)]
  ·rw [decide_eq_false e,decide_eq_false (fun k=>e (this.2 k))]
theorem KF {f:Nat->α} {g:Nat->β} {n:Nat} (h: ∀i j,i<n->j<n->(f i=f j↔g i=g j)): ∀m,m<=n-> ∃ds:List Nat,(∀d∈ds,d<n)∧((List.range m).map f).foldl qY ([],[])=(ds.map f,(((List.range m).map g).foldl qY ([],[])).2)∧(((List.range m).map g).foldl qY ([],[])).1=ds.map g:=fun m=>by
 induction m with
 | zero=>intro _;exact ⟨[],by simp,rfl,rfl⟩
 | succ m ih=>
  intro hm;obtain ⟨ds,h1,h2,h3⟩:=ih (by omega);rw [List.range_succ,V7,V7,V5,V5,h2];simp only [Wa,Wi,VN,VO];rw [qY,qY,h3];simp only;rw [yR ds m (fun d hd=>h m d (by omega) (h1 d hd))]
  cases q:(ds.map g).findIdx? (fun y=>decide (g m=y)) with
  | some k=>exact ⟨ds,h1,rfl,rfl⟩
  | none=>exact ⟨ds++[m],fun d hd=>by
    rcases V4.1 hd with hd|hd
    ·exact h1 d hd
    ·rw [V3] at hd;omega,by simp,by simp⟩
end
def fw (labs:List ByteArray) (r:aR):List Int:=labs.map (fun l=>match look r l with
 | some t=>(t:Int)
 | none=> -1)
theorem db (labs:List ByteArray) (r:aR):(fw labs r).length=labs.length:=by rw [fw,U2]
theorem ud {labs:List ByteArray} {l:ByteArray} {r r2:aR} (h: ∀m∈labs,look r2 m=look r m):fw (labs++[l]) r2=fw labs r++[match look r2 l with
 | some t=>(t:Int)
 | none=> -1]:=by
 rw [fw,V7,fw]
 congr 1
 exact List.map_congr_left fun m hm=>by rw [h m hm]
section
variable (stp:List Nat->ByteArray->List Nat)
def QQ (cur:List Nat) (st:List (List Nat)×List Int) (lab:ByteArray):List (List Nat)×List Int:=match st.1.findIdx? (fun y=>stp cur lab==y) with
 | some k=>(st.1,st.2++[(k:Int)])
 | none=>if stp cur lab=[] then (st.1,st.2++[-1]) else (st.1++[stp cur lab],st.2++[(st.1.length:Int)])
def tK (cur:List Nat) (all:List (List Nat)) (labs:List ByteArray):List (List Nat)×List Int:=labs.foldl (QQ stp cur) (all,[])
theorem vM (cur:List Nat) (all:List (List Nat)) (labs:List ByteArray) (l:ByteArray):tK stp cur all (labs++[l])=QQ stp cur (tK stp cur all labs) l:=by rw [tK,V5];rfl
theorem Lr (all:List (List Nat)) (s:List Nat):pos (all.map fW) (fW s)=all.findIdx? (fun y=>s==y):=by
 rw [pos]
 have: ∀l:List (List Nat),(l.map fW).findIdx? (fun x=>cZ (fW s) x)=l.findIdx? (fun y=>s==y):=fun l=>by
  induction l with
  | nil=>rfl
  | cons a l ih=>
   rw [Wa,WQ,WQ,ih]
   by_cases e:s=a
   ·subst e;rw [jt.2 rfl,beq_self_eq_true]
   ·have:cZ (fW s) (fW a)=false:=by
     cases hh:cZ (fW s) (fW a)
     ·rfl
     ·exact absurd (zf (jt.1 hh)) e
    rw [this,beq_eq_false_iff_ne.2 e]
 exact this all
theorem Fo (cur:List Nat) (all:List (List Nat)): ∀labs:List ByteArray, ∀l∈(dq stp cur all labs).2.map Prod.fst,l∈labs:=by
 refine fg (by simp [dq]) ?_;intro labs l ih;rw [jh,As]
 split
 ·intro m hm;exact V0 _ (ih m hm)
 ·split
  all_goals
   intro m hm;rw [V7,V4] at hm
   rcases hm with hm|hm
   ·exact V0 _ (ih m hm)
   ·simp only [Wa,Wi,V3] at hm;rw [hm];simp
theorem Df (cur:List Nat) {all:List (List Nat)} (h0:[]∉all): ∀labs:List ByteArray,labs.Nodup->tK stp cur all labs=((dq stp cur all labs).1,fw labs (dq stp cur all labs).2)∧[]∉(dq stp cur all labs).1:=by
 refine fg (fun _=>⟨rfl,h0⟩) ?_;intro labs l ih hn;rw [List.nodup_append] at hn;obtain ⟨e,h1⟩:=ih hn.1;have hl:look (dq stp cur all labs).2 l=none:=cP.2 fun hm=>hn.2.2 l (Fo stp cur all labs l hm) l (by simp) rfl
 have hother: ∀k m,m∈labs->look ((dq stp cur all labs).2++[(l,k)]) m=look (dq stp cur all labs).2 m:=fun k m hm=>by
  have:m≠l:=fun q=>hn.2.2 m hm l (by simp) q
  rw [ic,ig,if_neg this,Option.or_none]
 have hat: ∀k,look ((dq stp cur all labs).2++[(l,k)]) l=some k:=fun k=>by rw [ic,ig,if_pos rfl,hl];rfl
 rw [vM,jh,e,QQ,As,Lr];simp only
 by_cases hs:stp cur l=[]
 ·have hf:(dq stp cur all labs).1.findIdx? (fun y=>stp cur l==y)=none:=by
   rw [List.findIdx?_eq_none_iff];intro y hy;rw [beq_eq_false_iff_ne,hs];rintro rfl;exact h1 hy
  simp only [hf,if_pos hs];refine ⟨?_,h1⟩;rw [ud (r:=(dq stp cur all labs).2) (fun m _=>rfl),hl]
 ·simp only [if_neg hs]
  cases hf:(dq stp cur all labs).1.findIdx? (fun y=>stp cur l==y) with
  | some k=>
   refine ⟨?_,h1⟩;simp only;rw [ud (hother k),hat]
  | none=>
   refine ⟨?_,fun hm=> ?_⟩
   ·simp only;rw [ud (hother _),hat]
   ·rcases V4.1 hm with hm|hm
    ·exact h1 hm
    ·rw [V3] at hm;exact hs hm.symm
end
def gI (labs:List ByteArray) (rows:List aR) (part:List Nat) (i:Nat):List Int:=(part.getD i 0:Int) :: (fw labs (rows.getD i [])).map (fun t=>if t<0 then -1 else (part.getD t.toNat 0:Int))
theorem IJ {labs:List ByteArray} {rows:List aR} {part:List Nat} (hR: ∀r∈rows,iJ (r.map Prod.fst)) (hL: ∀r∈rows, ∀l∈r.map Prod.fst,l∈labs) (hn:o5 rows) {s t:Nat} (hs:s<rows.length) (ht:t<rows.length) :
  bT part (part.getD s 0) (rows.getD s [])=bT part (part.getD t 0) (rows.getD t [])↔gI labs rows part s=gI labs rows part t:=by
 have val: ∀i l,l∈labs-> ∀(j:Nat),labs[j]? = some l->((fw labs (rows.getD i [])).map (fun t=>if t<0 then -1 else (part.getD t.toNat 0:Int)))[j]? = some (match look (rows.getD i []) l with
   | some t=>(part.getD t 0:Int)
   | none=> -1):=fun i l hl j hj=>by
  rw [fw,List.map_map,List.getElem?_map,hj,Option.map_some,Function.comp]
  cases look (rows.getD i []) l with
  | none=>simp
  | some t=>simp [show ¬((t:Int)<0) by omega]
 constructor
 ·intro h;obtain ⟨h1,h2,h3⟩:=vD (rm _ hn s) (rm _ hn t) h;rw [gI,gI,h1]
  congr 1
  refine List.ext_getElem? fun j=> ?_
  by_cases hj:j<labs.length
  ·have e:=Uq hj;rw [val s _ (Vx hj) j e,val t _ (Vx hj) j e];obtain ⟨k1,k2⟩:=s9 h2 h3 labs[j]
   cases q1:look (rows.getD s []) labs[j] with
   | none=>rw [k1.1 q1]
   | some a=>
    cases q2:look (rows.getD t []) labs[j] with
    | none=>rw [k1.2 q2] at q1;cases q1
    | some b=>simp only [k2 a b q1 q2]
  ·rw [Uv (by rw [U2,db];omega),Uv (by rw [U2,db];omega)]
 ·intro h;rw [gI,gI,List.cons.injEq] at h;obtain ⟨h1,h2⟩:=h
  have hv: ∀l∈labs,(match look (rows.getD s []) l with|some t=>(part.getD t 0:Int)|none=> -1)=(match look (rows.getD t []) l with|some t=>(part.getD t 0:Int)|none=> -1):=fun l hl=>by
   obtain ⟨j,hj,e⟩:=List.getElem_of_mem hl;have e:=(Uq hj).trans (congrArg some e)
   have:=congrArg (fun l=>l[j]?) h2
   simp only [val s l hl j e,val t l hl j e,Option.some.injEq] at this;exact this
  have hrs:=hR _ (aQ (d:=[]) hs);have hrt:=hR _ (aQ (d:=[]) ht)
  have one: ∀ {a b:Nat},a<rows.length->(∀l∈labs,(match look (rows.getD a []) l with|some t=>(part.getD t 0:Int)|none=> -1)=(match look (rows.getD b []) l with|some t=>(part.getD t 0:Int)|none=> -1))-> ∀l,l∈(rows.getD a []).map Prod.fst->l∈(rows.getD b []).map Prod.fst:=fun {a b} ha hv l hl=>by
   have hll:=hL _ (aQ (d:=[]) ha) l hl
   have:=hv l hll
   refine Classical.byContradiction fun hn=> ?_;rw [cP.2 hn] at this
   cases q:look (rows.getD a []) l with
   | none=>exact absurd hl (cP.1 q)
   | some t=>
    rw [q] at this;have h5:((part.getD t 0:Nat):Int) = -1:=this;omega
  have he:=kp hrs hrt fun l=>⟨one hs hv l,one ht (fun l hl=>(hv l hl).symm) l⟩;refine Eq.trans (by rw [Int.ofNat_inj.1 h1]) (Iq he ?_)
  have hlen:(rows.getD s []).length=(rows.getD t []).length:=by simpa using congrArg List.length he
  refine List.ext_getElem (by rw [qg,qg,U2,U2];exact hlen) fun i k1 k2=> ?_
  have i1:i<(rows.getD s []).length:=by rw [qg,U2] at k1;exact k1
  have i2:i<(rows.getD t []).length:=by omega
  have hll:(rows.getD s [])[i].1=(rows.getD t [])[i].1:=by
   have:=List.getElem_of_eq he (i:=i) (by simpa using i1)
   simpa using this
  have hm:=hL _ (aQ (d:=[]) hs) _ (List.mem_map_of_mem (f:=Prod.fst) (Vx i1))
  have:=hv _ hm
  rw [oX (lf hrs) (show ((rows.getD s [])[i].1,(rows.getD s [])[i].2)∈_ from Vx i1),hll,oX (lf hrt) (show ((rows.getD t [])[i].1,(rows.getD t [])[i].2)∈_ from Vx i2)] at this;simp only [qg,List.getElem_map];exact Int.ofNat_inj.1 this
def fI (labs:List ByteArray) (rows:List aR) (part:List Nat) (n:Nat):List (List Int)×List Nat:=((List.range n).map (gI labs rows part)).foldl qY ([],[])
theorem Ln (rows:List aR) (part:List Nat) (n:Nat):dn rows part n=((List.range n).map (fun s=>bT part (part.getD s 0) (rows.getD s []))).foldl qY ([],[]):=by
 induction n with
 | zero=>rfl
 | succ n ih=>
  rw [qe,ih,List.range_succ,V7,V5];simp only [Wa,Wi,VN,VO];rw [PY,qY,pos]
  have:(fun x=>cZ (bT part (part.getD n 0) (rows.getD n [])) x)=(fun y=>decide (bT part (part.getD n 0) (rows.getD n [])=y)):=by
   funext x
   rw [Bool.eq_iff_iff,jt,decide_eq_true_eq]
  rw [this]
  rfl
theorem pf {labs:List ByteArray} {rows:List aR} {part:List Nat} (hR: ∀r∈rows,iJ (r.map Prod.fst)) (hL: ∀r∈rows, ∀l∈r.map Prod.fst,l∈labs) (hn:o5 rows) {n:Nat} (h:n<=rows.length):(fI labs rows part n).2=(dn rows part n).2∧(fI labs rows part n).1.length=(dn rows part n).1.length:=by
 obtain ⟨ds,_,h2,h3⟩:=KF (f:=fun s=>bT part (part.getD s 0) (rows.getD s [])) (g:=gI labs rows part) (n:=rows.length) (fun i j hi hj=>IJ hR hL hn hi hj) n h;rw [Ln,h2,fI,h3];simp
def nw (labs:List ByteArray) (rows:List aR):Nat->List Nat->Nat->Bool->List Nat
 | 0,part,_,_=>part
 | f+1,part,many,first=>if (fI labs rows part rows.length).1.length=many∧first=false then (fI labs rows part rows.length).2 else nw labs rows f (fI labs rows part rows.length).2 (fI labs rows part rows.length).1.length false
theorem zR {labs:List ByteArray} {rows:List aR} (hR: ∀r∈rows,iJ (r.map Prod.fst)) (hL: ∀r∈rows, ∀l∈r.map Prod.fst,l∈labs) (hn:o5 rows): ∀(f:Nat) {part:List Nat} {many:Nat},Ou rows part many->rows.length+1<=f+many->nw labs rows f part many false=nh rows (f+1) part many
 | 0,part,many,ho,hf=>by
  have:=kV rows ho
  have:=mj rows part
  omega
 | f+1,part,many,ho,hf=>by
  obtain ⟨e1,e2⟩:=pf hR hL hn (part:=part) (Nat.le_refl _);rw [nw,nh,e1,e2]
  by_cases h:e7 rows part=many
  ·rw [if_pos h,if_pos ⟨h,rfl⟩];rfl
  ·rw [if_neg h,if_neg (fun q=>h q.1)]
   have:=kV rows ho
   exact zR hR hL hn f (ml rows part) (by show rows.length+1<=f+e7 rows part;omega)
theorem E9 {labs:List ByteArray} {rows:List aR} {ends:List Bool} (hR: ∀r∈rows,iJ (r.map Prod.fst)) (hL: ∀r∈rows, ∀l∈r.map Prod.fst,l∈labs) (hn:o5 rows) (h0:0<rows.length):nw labs rows (rows.length+1) (p0 ends) 1 true=br rows ends:=by
 obtain ⟨e1,e2⟩:=pf hR hL hn (part:=p0 ends) (Nat.le_refl _);have hpos:0<e7 rows (p0 ends):=Nat.lt_of_le_of_lt (Nat.zero_le _) (jq rows (part:=p0 ends) h0);rw [nw,if_neg (fun q=>by cases q.2),br,nh,if_neg (by omega),e1,e2];exact zR hR hL hn rows.length (ml rows (p0 ends)) (by show rows.length+1<=rows.length+e7 rows (p0 ends);omega)
theorem mQ {σ:Type} (f:σ->Option Nat->σ) (hf: ∀s,f s none=s): ∀ {labs:List ByteArray} {row:aR} (s:σ),labs.Nodup->(row.map Prod.fst).Sublist labs->labs.foldl (fun s l=>f s (look row l)) s=row.foldl (fun s p=>f s (some p.2)) s
 | [],row,s,_,h=>by
  obtain rfl:row=[]:=by simpa using h
  rfl
 | l :: labs,row,s,hn,h=>by
  rw [List.nodup_cons] at hn;rw [VN]
  cases row with
  | nil=>
   show labs.foldl _ (f s none)=_;rw [hf];exact mQ f hf (row:=[]) s hn.2 (by simp)
  | cons e row=>
   rw [Wa] at h
   by_cases hl:l=e.1
   ·subst hl
    have hs:(row.map Prod.fst).Sublist labs:=by simpa using h
    have e1:look (e :: row) e.1=some e.2:=by rw [look,List.find?_cons,jt.2 rfl];rfl
    rw [e1,VN, <- mQ f hf (f s (some e.2)) hn.2 hs]
    have: ∀(ls:List ByteArray),(∀m∈ls,m∈labs)-> ∀s,ls.foldl (fun s l=>f s (look (e :: row) l)) s=ls.foldl (fun s l=>f s (look row l)) s:=fun ls=>by
     induction ls with
     | nil=>intro _ s;rfl
     | cons m ls ih=>
      intro hm s;rw [VN,VN];have hme:m≠e.1:=fun q=>hn.1 (q ▸ hm m List.mem_cons_self)
      have:look (e :: row) m=look row m:=by
       have hs:cZ m e.1=false:=by
        cases hh:cZ m e.1
        ·rfl
        ·exact absurd (jt.1 hh) hme
       rw [look,List.find?_cons,hs];rfl
      rw [this];exact ih (fun x hx=>hm x (U8 _ hx)) _
    exact this labs (fun m hm=>hm) _
   ·have hs:((e :: row).map Prod.fst).Sublist labs:=by
     rw [Wa]
     cases h with
     | cons _ h=>exact h
     | cons_cons _ h=>exact absurd rfl hl
    have hnl:look (e :: row) l=none:=cP.2 fun q=>hn.1 (hs.subset q);rw [hnl,hf];exact mQ f hf s hn.2 hs
def xN (part:List Nat) (order:List Nat) (o:Option Nat):List Nat:=match o with
 | none=>order
 | some t=>match iA part order (part.getD t 0) with
  | some _=>order
  | none=>order++[t]
theorem IV {part:List Nat}: ∀(row:aR) (order:List Nat),row.foldl (fun o p=>xN part o (some p.2)) order=(dI part order row).1:=by
 refine fg (fun order=>rfl) ?_;intro row e ih order;rw [V5,ih,kn];simp only [VN,VO];rw [xN,Dd];cases iA part (dI part order row).1 (part.getD e.2 0)<;>rfl
theorem Lw {labs:List ByteArray} {row:aR} (part order:List Nat) (hn:labs.Nodup) (h:(row.map Prod.fst).Sublist labs):labs.foldl (fun o l=>xN part o (look row l)) order=(dI part order row).1:=by
 rw [mQ (xN part) (fun _=>rfl) order hn h,IV]
theorem Lt {part order:List Nat} (hn:(order.map (fun s=>part.getD s 0)).Nodup) {k:Nat} (hk:k<order.length) {x:Nat} (h:part.getD (order.getD k 0) 0=x):iA part order x=some k:=by
 rw [iA,List.findIdx?_eq_some_iff_getElem]
 have hk':k<(order.map (fun s=>part.getD s 0)).length:=by simpa using hk
 have e:(order.map (fun s=>part.getD s 0))[k]=x:=by
  rw [List.getElem_map, <- h,List.getD_eq_getElem?_getD (l:=order),Uq hk,Option.getD_some]
 refine ⟨hk',by rw [e,beq_self_eq_true],fun j hj=> ?_⟩;rw [Bool.not_eq_true,beq_eq_false_iff_ne];intro q
 have:=List.pairwise_iff_getElem.1 hn j k (by omega) hk' hj
 exact this (q.symm.trans e.symm)
theorem Fy {labs:List ByteArray} {rows:List aR} {ends:List Bool} {part:List Nat} {st:wo} (ho:DH rows part st) (hw:QW rows ends part st) {k:Nat} (hk:k<st.rows.length):fw labs (st.rows.getD k [])=(fw labs (rows.getD (st.order.getD k 0) [])).map (fun t=>if t<0 then -1 else match iA part st.order (part.getD t.toNat 0) with
  | some j=>(j:Int)
  | none=> -1):=by
 rw [fw,fw,List.map_map];refine List.map_congr_left fun l _=> ?_;obtain ⟨h1,h2⟩:=hw.row k hk l;rw [Function.comp]
 cases q:look (rows.getD (st.order.getD k 0) []) l with
 | none=>rw [h1 q];simp
 | some t=>
  obtain ⟨j,j1,j2,j3⟩:=h2 t q;rw [j1];simp only [show ¬((t:Int)<0) by omega,if_false,Int.toNat_natCast,Lt ho.nd j2 j3]
mutual
def sX:Ex->Nat->Nat
 | .mk _ _ l,deep=>if 60<deep then 301 else sL l (deep+1) 1
def sL:List Ex->Nat->Nat->Nat
 | [],_,n=>n
 | x :: xs,d,n=>if n<=300 then sL xs d (n+sX x d) else n
end
theorem Dh: ∀(l:List Ex) (d n k:Nat) (h:k<l.length),sL (l.take k) d n<=300->sL (l.take (k+1)) d n=sL (l.take k) d n+sX l[k] d
 | [],_,_,_,h,_=>by simp at h
 | x :: xs,d,n,0,_,hn=>by
  simp only [List.take_zero,sL] at hn ⊢;simp [sL,hn]
 | x :: xs,d,n,k+1,h,hn=>by
  simp only [List.take_succ_cons,sL,List.getElem_cons_succ] at hn ⊢
  by_cases hc:n<=300
  ·rw [if_pos hc] at hn ⊢;rw [if_pos hc];exact Dh xs d _ k (by simpa using h) hn
  ·rw [if_neg hc] at hn;omega
theorem Dg: ∀(l:List Ex) (d n k:Nat),300<sL (l.take k) d n->sL l d n=sL (l.take k) d n
 | [],_,_,_,_=>by simp
 | x :: xs,d,n,0,hn=>by
  simp only [List.take_zero,sL] at hn ⊢;rw [if_neg (by omega)]
 | x :: xs,d,n,k+1,hn=>by
  simp only [List.take_succ_cons,sL] at hn ⊢
  by_cases hc:n<=300
  ·rw [if_pos hc] at hn ⊢;rw [if_pos hc];exact Dg xs d _ k hn
  ·rw [if_neg hc,if_neg hc]
mutual
theorem xQ: ∀(x:Ex) (d:Nat),d<=61->1<=sX x d∧sX x d<=301+300 * (61 - d)
 | .mk _ _ l,d,h=>by
  rw [sX]
  split
  ·omega
  ·have:=BW l (d+1) 1 (by omega);omega
theorem BW: ∀(l:List Ex) (d n:Nat),d<=61->n<=sL l d n∧sL l d n<=max n (601+300 * (61 - d))
 | [],d,n,h=>by rw [sL];omega
 | x :: xs,d,n,h=>by
  rw [sL]
  split
  ·have h1:=xQ x d h;have h2:=BW xs d (n+sX x d) h;omega
  ·omega
end
def TF (a b:Ex):Nat:=if sX a 0<=300 then sX a 0+sX b 0 else sX a 0
def RI (w:List ByteArray) (a b:Ex):Bool:=decide (300<TF a b)||decide (30<w.length)
noncomputable def partAt (p q:List ByteArray->Bool) (w:List ByteArray) (n:Nat):Bool:=(List.range n).any (fun k=>p (w.take k)&&q (w.drop k))
section
variable {a b:Ex} (ha:ay a=true) (hb:ay b=true) (na:(ai a).length<=11) (nb:(ai b).length<=11)
include ha hb na nb
omit hb nb
end
end
end Go.Proofs.YtfflpdekojlnmaaGreatDoor
