/- tree.Rename, walked once more: what it tells lies in blocks that are none of A: the query. -/
import Derived.Test.YtldnlbcibmmbbaaGreatWRenW
set_option linter.unusedSimpArgs false
set_option linter.unusedVariables false
open Bool renaming and_true → Kh, and_self → Km, not_eq_eq_eq_not → Ku
open Int renaming natCast_inj → Kv, ofNat_lt → Kw, ofNat_le → Kx
open List renaming length_cons → I5, length_nil → IZ, replicate_succ → Kn, replicate_zero → Ko, foldl_cons → Ks, foldl_nil → Kt, set_set → K9, length_set → J1
open Nat renaming lt_add_one → K7, zero_lt_one → K8
namespace Go.Proofs.YtldnlbcibmmbbaaGreat
open Go.RowKit
def gE (A:Nat→Prop) (p:cQ):List AV:=[.v (.string p.aD), .v (.string p.to), .v (.bool p.path), .v (.string p.label), .v (.string p.name), .v (.int .i64 p.expr.kind), .aV (nr A) (.v (.string p.expr.label)), .an 3 (p.expr.kids.map (fh A)) p.expr.kids.length]
def eZ (A:Nat→Prop) (p:cQ):List AV:=[.v (.string p.aD), .v (.string p.to), .v (.bool p.path), .v (.string p.label), .v (.string p.name), .v (.int .i64 p.expr.kind), .aV (nr A) (.v (.string p.expr.label)), .aV (E7 A) (.an 3 (p.expr.kids.map (dZ A)) p.expr.kids.length)]
def tE (A:Nat→Prop) (q:dF):List AV:=[.an 8 (q.ao.map (gE A)) q.ao.length, .an 13 (q.conds.map bg) q.conds.length, .an 6 (q.ret.map aN) q.ret.length, .aV (nr A) (.v (.int .i64 q.range)), .v (.int .i64 q.cU)]
def nd (A:Nat→Prop) (q:dF):List AV:=[.aV (FW A) (.an 8 (q.ao.map (eZ A)) q.ao.length), .aV (Fq A 37 13) (.an 13 (q.conds.map bg) q.conds.length), .aV (Fq A 34 6) (.an 6 (q.ret.map aN) q.ret.length), .v (.int .i64 q.range), .v (.int .i64 q.cU)]
theorem ld (A:Nat→Prop) (n:Nat) (l:List cQ):ct n (l.map (gE A))=true:=cV _ (fun p=>by simp only [gE,bB,AV.wf,jd,Kh]) l
theorem lJ (A:Nat→Prop) (n:Nat) (l:List cQ):ct n (l.map (eZ A))=true:=cV _ (fun p=>by simp only [eZ,bB,AV.wf,iN,Kh]) l
theorem tt (A:Nat→Prop) (n:Nat) (q:dF):bB n (tE A q)=true:=by simp only [tE,bB,AV.wf,ld,de,dP,Kh]
theorem o9 (A:Nat→Prop) (n:Nat) (q:dF):bB n (nd A q)=true:=by simp only [nd,bB,AV.wf,lJ,de,dP,Kh]
attribute [go_sem] ld lJ tt o9
theorem Bo (A:Nat→Prop) (p:cQ):jq (eZ A p) (bo p):=by
 have:=Le.rows (z:=3) (f:=dZ A) (g:=bL) (xs:=p.expr.kids) (more:=[]) (fun x _=>B2 A x)
 rw [List.append_nil] at this
 exact .cons (.refl _) (.cons (.refl _) (.cons (.refl _) (.cons (.refl _) (.cons (.refl _) (.cons (.refl _) (.cons (.aV _ _ _ (.refl _)) (.cons (.aV _ _ _ this) .nil)))))))
theorem A8 (A:Nat→Prop) (q:dF):jq (nd A q) (bI q):=by
 have:=Le.rows (z:=8) (f:=eZ A) (g:=bo) (xs:=q.ao) (more:=[]) (fun x _=>Bo A x)
 rw [List.append_nil] at this
 exact .cons (.aV _ _ _ this) (.cons (.aV _ _ _ (.refl _)) (.cons (.aV _ _ _ (.refl _)) (.cons (.refl _) (.cons (.refl _) .nil))))
def qj (A:Nat→Prop) (a b:List ByteArray) (ps:List cQ) (i:Nat):List (List AV):=gL (fun p=>eZ A (gj (aU a b) p)) (gE A) ps i
theorem nQ (A:Nat→Prop) (a b:List ByteArray) (ps:List cQ) (i n:Nat):ct n (qj A a b ps i)=true:=lz (by have:=lJ A n (ps.map (gj (aU a b)));rw [List.map_map] at this;exact this) (ld A n ps)
theorem AU (A:Nat→Prop) (a b:List ByteArray) (ps:List cQ):qj A a b ps ps.length=(ps.map (gj (aU a b))).map (eZ A):=by rw [qj,n8,List.map_map];rfl
section
variable {o:List (Option ab)} {A:Nat→Prop}
theorem A4 (l:List cQ) (hl:l.length≤1000000) {D:Nat→Prop} {nu:Nat→Nat→Value} {w:World} (h:RO D nu o w) (hev: ∀b,A b→Fz D nu o w b) {id:Nat} (ho:o[id]? = some (some ⟨45,8,true,l.map (eZ A)⟩)) :
  RA D nu [] w (.aV (FW A) (.an 8 (l.map (eZ A)) l.length)) (nu id l.length):=by
 have hlen:(l.map (eZ A)).length=l.length:=List.length_map _
 have:=ya (p:=FW A) h ho rfl (lJ A 0 l) hev (fun S w x=>TE S w x) 7 (fun i row hi=> ?_) (fun S S' w' x h1 h2 h3=>h1.keep h2 h3) (fun S w' hS=>⟨hS, .nil⟩) (fun S w' b cap C h1 h2 h3 h4 h5 h6 h7 h8=> ?_)
 ·simp only [hlen] at this;exact this
 ·rw [List.getElem?_map] at hi
  obtain ⟨y,hy,rfl⟩:=Option.map_eq_some_iff.1 hi
  exact ⟨_,rfl⟩
 ·simp only [hlen] at h5 h7 h8 ⊢
  refine ⟨h1, .mk b _ cap C h2 h3 h4 h5 h6 hl (fun i hi=>⟨fun j hj=> ?_,h7 i hi⟩)⟩
  have hr:(l.map (eZ A))[i]? = some (eZ A l[i]):=by simp [hi]
  exact h8 i j _ _ hr (List.getElem?_eq_getElem (by simp only [eZ,I5,IZ];omega))
theorem DK {D:Nat→Prop} {nu:Nat→Nat→Value} {w:World} (h:RO D nu o w) {m n:Nat} {Tb:TypeId} {zb:Nat} {row:List AV} {a:AV} (ho:o[m]? = some (some ⟨Tb,zb,false,[row]⟩)) (hz:zb≠0) (hr:row[n]? = some (.aV (nr A) a)): ∀b,A b→Fz D nu o w b:=by
 rcases h.obj m _ ho with ⟨e1,e2,e3⟩|⟨g,cur,hb⟩|⟨g,es,cl,hmp⟩
 ·cases e1
 ·have:=hb.lC (i:=0) rfl (List.getElem?_eq_some_iff.1 hr).1
  exact (hb.cell 0 n row _ _ rfl hr (Array.getElem?_eq_getElem this)).Ia
 ·exact absurd hmp.z hz
theorem yG (m i j k:Nat) {Tb:TypeId} {zb:Nat} {row:List AV} {a:AV} (hz:zb≠0) (o0:o[m]? = some (some ⟨Tb,zb,false,[row]⟩)) (h3:row[3]? = some (.aV (nr A) a)) (q:dF) (h1:q.ao.length≤1000000) (h2:q.conds.length≤1000000) (hr:q.ret.length≤1000000) (o1:o[i]? = some (some ⟨45,8,true,q.ao.map (eZ A)⟩)) (o2:o[j]? = some (some ⟨37,13,true,q.conds.map bg⟩)) (o3:o[k]? = some (some ⟨34,6,true,q.ret.map aN⟩)) :
  b8 o (.dN [.agg [.vec i q.ao.length, .vec j q.conds.length, .vec k q.ret.length, .v (.int .i64 q.range), .v (.int .i64 q.cU)], .v (.int .i64 0)]) (.dN [.agg (nd A q), .v (.int .i64 0)]):=by
 have key:b8 o (.agg [.vec i q.ao.length, .vec j q.conds.length, .vec k q.ret.length, .v (.int .i64 q.range), .v (.int .i64 q.cU)]) (.agg (nd A q)):=fun D nu w x hro hra=>by
  cases hra with
  | agg _ xs k1 k2 k3=>
   obtain ⟨xs⟩:=xs
   match xs,k1 with
   | [x0,x1,x2,x3,x4],_=>
    have r0:=k2 0 _ x0 rfl rfl
    have r1:=k2 1 _ x1 rfl rfl
    have r2:=k2 2 _ x2 rfl rfl
    have r3:=k2 3 _ x3 rfl rfl
    have r4:=k2 4 _ x4 rfl rfl
    have hev: ∀b,A b→Fz D nu o w b:=DK hro o0 hz h3
    have e0:x0=nu i q.ao.length:=by cases r0 with|vec=>rfl
    have e1:x1=nu j q.conds.length:=by cases r1 with|vec=>rfl
    have e2:x2=nu k q.ret.length:=by cases r2 with|vec=>rfl
    refine .agg _ _ rfl (fun n c y q1 q2=> ?_) k3
    match n with
    | 0=>cases q1;cases q2;rw [e0];exact A4 q.ao h1 hro hev o1
    | 1=>
     cases q1;cases q2;rw [e1]
     have:=tj (A:=A) hro o2 rfl (de 0 q.conds) hev (by simpa using h2)
     simpa using this
    | 2=>
     cases q1;cases q2;rw [e2]
     have:=tj (A:=A) hro o3 rfl (dP 0 q.ret) hev (by simpa using hr)
     simpa using this
    | 3=>cases q1;cases q2;rw [r3.bj];exact .v _
    | 4=>cases q1;cases q2;rw [r4.bj];exact .v _
    | n+5=>cases q1
 exact .dN ⟨key, .v _,trivial⟩
end
set_option maxRecDepth 100000 in
set_option maxHeartbeats 8000000 in
theorem yp (A:Nat→Prop) (q:dF) (a b:List ByteArray) (hq:q.lens 1000000) (hl:b.length=a.length) (ha:a.length≤1000000) (hn:(aA a).length=a.length) :
  ai Tryz.prog 31 [.agg (tE A q),aB a,aB b] (.dN [.agg (nd A (kA (aU a b) q)), .v (.int .i64 0)]):=by
 obtain ⟨hq1,hq2,hq3,hq4⟩:=hq
 have C1:=qV a
 have C2:=Be (gf:=104) (caps:=[.vp [aB a]]) a ha (mV a ha) (by simp only [bB,AV.wf,aB,cu,Km])
 obtain ⟨ps,cs,rs,ra,sl⟩:=q
 simp only at hq1 hq2 hq3 hq4
 have hd:decide (((aA a).length:Int)<(a.length:Int))=false:=by simp [hn]
 have hl2:((a.length:Int) !=(b.length:Int))=false:=by simp [hl]
 have hwf:bB 0 [.agg (tE A ⟨ps,cs,rs,ra,sl⟩),aB a,aB b]=true:=by simp only [bB,AV.wf,tt,aB,cu,Km]
 simp only [tE,aB] at C1 C2 hwf ⊢
 refine ai.wZ Tryz.func31 rfl (by kernel_rfl) (by kernel_rfl) rfl hwf (by simp only [AV.wf,bB,o9,Km]) ?_
 simp only [Tryz.ntmps31,Tryz.results31,I5,IZ,Nat.reduceAdd,Nat.reduceSub,Kn,Ko,List.cons_append,List.nil_append]
 repeat (first|(with_reducible first|refine ah.up ?_|refine fun (K:AK) hK=> ?_|refine af (by decide) ?_|refine ae (by decide) ?_|refine aK (by decide) ?_|(refine hK _ ?_;clear hK K))|simp only [go_sem]|with_reducible refine wA ?_|clear hK K)
 refine wD ?_
 repeat (first|(with_reducible first|refine ah.up ?_|refine fun (K:AK) hK=> ?_|refine af (by decide) ?_|refine ae (by decide) ?_|refine aK (by decide) ?_|(refine hK _ ?_;clear hK K))|simp only [go_sem,hl2]|with_reducible refine wA ?_|clear hK K)
 refine aw.one C1 ?_
 repeat (first|(with_reducible first|refine ah.up ?_|refine fun (K:AK) hK=> ?_|refine af (by decide) ?_|refine ae (by decide) ?_|refine aK (by decide) ?_|(refine hK _ ?_;clear hK K))|simp only [go_sem]|with_reducible refine wA ?_|clear hK K)
 refine aw.one C2 ?_
 repeat (first|(with_reducible first|refine ah.up ?_|refine fun (K:AK) hK=> ?_|refine af (by decide) ?_|refine ae (by decide) ?_|refine aK (by decide) ?_|(refine hK _ ?_;clear hK K))|simp only [go_sem,hd,hl2]|with_reducible refine wA ?_|clear hK K)
 clear C1 C2 hd hl2
 (refine zB 12 (by decide+kernel) (by kernel_rfl) ?_;simp only [List.drop_succ_cons,List.drop_zero,List.take_succ_cons,List.take_zero])
 have eT1:(ps.map (gE A)).take ps.length=ps.map (gE A):=im (by simp)
 have eT2:(cs.map bg).take cs.length=cs.map bg:=im (by simp)
 repeat (first|(with_reducible first|refine ah.up ?_|refine fun (K:AK) hK=> ?_|refine af (by decide) ?_|refine ae (by decide) ?_|refine aK (by decide) ?_|(refine hK _ ?_;clear hK K))|simp only [go_sem,eT1,eT2]|with_reducible refine wA ?_|clear hK K)
 clear eT1 eT2
 refine ec (ι:=Nat) 59 (fun i=>[(59, .v (.int .i64 i)),(10, .undef),(11, .undef)]) (fun i=>[some ⟨26,5,false,[[.an 8 (ps.map (gE A)) ps.length, .an 13 (cs.map bg) cs.length, .an 6 (rs.map aN) rs.length, .aV (nr A) (.v (.int .i64 ra)), .v (.int .i64 sl)]]⟩,
  some ⟨38,1,false,[[.an 1 (a.map aT) a.length]]⟩,some ⟨38,1,false,[[.an 1 (b.map aT) b.length]]⟩,some ⟨26,5,false,[[.vec 5 ps.length, .vec 6 cs.length, .v (.slice none 0 0), .v (.int .i64 ra), .v (.int .i64 sl)]]⟩,
  some ⟨90,1,false,[[.fn 69 [] [.ptr 1 0 1 0 0, .ptr 2 0 1 0 0]]]⟩,some ⟨45,8,true,qj A a b ps i⟩,some ⟨37,13,true,cs.map bg⟩]) (fun i=>ps.length - i) (fun i=>i≤ps.length) 0 (by omega) ?_ ?_
 ·(refine au ?_ ?_ ?_<;>simp only [aD,Ks,Kt,Kn,Ko,bu,bt,AV.v.injEq,Value.int.injEq,Value.bool.injEq,Value.string.injEq,AV.vec.injEq,AV.ptr.injEq,true_or,or_true,false_or,or_false,ab.mk.injEq,forall_eq_apply_imp_iff,forall_eq,forall_eq',go_sem])
  all_goals first|exact (p7 _ _ _).symm|rfl|(refine ⟨(p7 _ _ _).symm, ?_⟩;exact nQ _ _ _ _ _ _)|skip
 rintro i hi K hK
 repeat (first|(with_reducible first|refine ah.up ?_|refine fun (K:AK) hK=> ?_|refine af (by decide) ?_|refine ae (by decide) ?_|refine aK (by decide) ?_|(refine hK _ ?_;clear hK K))|simp only [go_sem]|with_reducible refine wA ?_|clear hK K)
 refine aO.part (fun h=> ?_) (fun h=> ?_)
 ·have hlt:i<ps.length:=by (try simp only [bne_iff_ne,ne_eq,bne_eq_false_iff_eq,beq_iff_eq,beq_eq_false_iff_ne,decide_eq_true_eq,decide_eq_false_iff_not,Ku,Kv,Kw,Kx] at h);omega
  have eW:=ar (k:=i) (by omega)
  have eL:(qj A a b ps i).length=ps.length:=pc _ _ _ _
  have eG:(qj A a b ps i).getD i []=gE A ps[i]:=oy _ _ _ _ hlt _
  have eS:(qj A a b ps i).set i (eZ A (gj (aU a b) ps[i]))=qj A a b ps (i+1):=p9 _ _ _ _ hlt
  have wP: ∀n,ct n (qj A a b ps i)=true:=fun n=>nQ _ _ _ _ _ _
  have N1:=nR a b ps[i].aD hl
  have N2:=nR a b ps[i].to hl
  have N3:=nR a b ps[i].name hl
  have HX:=zt A ps[i].expr (hq4 _ (List.getElem_mem hlt))
  have eGS: ∀X,((qj A a b ps i).set i X).getD i []=X:=fun X=>kF (by rw [eL];exact hlt) X []
  generalize qj A a b ps i=r at eL eG eS wP eGS ⊢
  generalize ps[i]=p at N1 N2 N3 HX eG eS
  simp only [gE,eZ,lR,gU,gj] at HX eG eS
  simp only [aB] at N1 N2 N3
  repeat (first|(with_reducible first|refine ah.up ?_|refine fun (K:AK) hK=> ?_|refine af (by decide) ?_|refine ae (by decide) ?_|refine aK (by decide) ?_|(refine hK _ ?_;clear hK K))|simp only [go_sem,h]|with_reducible refine wA ?_|clear hK K)
  refine ck [22,25,28] [] (by decide+kernel) (by kernel_rfl) ?_
  repeat (first|(with_reducible first|refine ah.up ?_|refine fun (K:AK) hK=> ?_|refine af (by decide) ?_|refine ae (by decide) ?_|refine aK (by decide) ?_|(refine hK _ ?_;clear hK K))|simp only [go_sem,eG,eL]|with_reducible refine wA ?_|clear hK K)
  refine aw.AH N1 40 rfl (by simp only [go_sem,Nat.reduceLT,Nat.reduceLeDiff,Nat.reduceEqDiff,K7,K8,and_self]) rfl ?_
  repeat (first|(with_reducible first|refine ah.up ?_|refine fun (K:AK) hK=> ?_|refine af (by decide) ?_|refine ae (by decide) ?_|refine aK (by decide) ?_|(refine hK _ ?_;clear hK K))|simp only [go_sem,eG,eL]|with_reducible refine wA ?_|clear hK K)
  refine aw.AH N2 40 rfl (by simp only [go_sem,Nat.reduceLT,Nat.reduceLeDiff,Nat.reduceEqDiff,K7,K8,and_self]) rfl ?_
  repeat (first|(with_reducible first|refine ah.up ?_|refine fun (K:AK) hK=> ?_|refine af (by decide) ?_|refine ae (by decide) ?_|refine aK (by decide) ?_|(refine hK _ ?_;clear hK K))|simp only [go_sem,eG,eL]|with_reducible refine wA ?_|clear hK K)
  refine aw.one HX ?_
  repeat (first|(with_reducible first|refine ah.up ?_|refine fun (K:AK) hK=> ?_|refine af (by decide) ?_|refine ae (by decide) ?_|refine aK (by decide) ?_|(refine hK _ ?_;clear hK K))|simp only [go_sem,eG,eL,eGS,K9,J1]|with_reducible refine wA ?_|clear hK K)
  refine aO.part (fun h2=> ?_) (fun h2=> ?_)
  ·have hno:eh p.name=true:=by rw [←h2];exact kq p.name
   rw [hno] at eS
   simp only [if_true] at eS
   repeat (first|(with_reducible first|refine ah.up ?_|refine fun (K:AK) hK=> ?_|refine af (by decide) ?_|refine ae (by decide) ?_|refine aK (by decide) ?_|(refine hK _ ?_;clear hK K))|simp only [go_sem,h2,eS,eW]|with_reducible refine wA ?_|clear hK K)
   exact aC.mk (i+1) (by omega) (by omega) (by (refine au ?_ ?_ ?_<;>simp only [aD,Ks,Kt,Kn,Ko,bu,bt,AV.v.injEq,Value.int.injEq,Value.bool.injEq,Value.string.injEq,AV.vec.injEq,AV.ptr.injEq,true_or,or_true,false_or,or_false,ab.mk.injEq,forall_eq_apply_imp_iff,forall_eq,forall_eq',go_sem]);exact nQ _ _ _ _ _ _)
  ·have hno:eh p.name=false:=by rw [←h2];exact kq p.name
   rw [hno] at eS
   simp only [Bool.false_eq_true,if_false] at eS
   repeat (first|(with_reducible first|refine ah.up ?_|refine fun (K:AK) hK=> ?_|refine af (by decide) ?_|refine ae (by decide) ?_|refine aK (by decide) ?_|(refine hK _ ?_;clear hK K))|simp only [go_sem,h2]|with_reducible refine wA ?_|clear hK K)
   refine ck [9] [] (by decide+kernel) (by kernel_rfl) ?_
   repeat (first|(with_reducible first|refine ah.up ?_|refine fun (K:AK) hK=> ?_|refine af (by decide) ?_|refine ae (by decide) ?_|refine aK (by decide) ?_|(refine hK _ ?_;clear hK K))|simp only [go_sem,eGS,eL,J1]|with_reducible refine wA ?_|clear hK K)
   refine aw.AH N3 8 rfl (by simp only [go_sem,Nat.reduceLT,Nat.reduceLeDiff,Nat.reduceEqDiff,K7,K8,and_self]) rfl ?_
   repeat (first|(with_reducible first|refine ah.up ?_|refine fun (K:AK) hK=> ?_|refine af (by decide) ?_|refine ae (by decide) ?_|refine aK (by decide) ?_|(refine hK _ ?_;clear hK K))|simp only [go_sem,eGS,eL,eS,eW,K9,J1]|with_reducible refine wA ?_|clear hK K)
   exact aC.mk (i+1) (by omega) (by omega) (by (refine au ?_ ?_ ?_<;>simp only [aD,Ks,Kt,Kn,Ko,bu,bt,AV.v.injEq,Value.int.injEq,Value.bool.injEq,Value.string.injEq,AV.vec.injEq,AV.ptr.injEq,true_or,or_true,false_or,or_false,ab.mk.injEq,forall_eq_apply_imp_iff,forall_eq,forall_eq',go_sem]);exact nQ _ _ _ _ _ _)
 have hi':i=ps.length:=by (try simp only [bne_iff_ne,ne_eq,bne_eq_false_iff_eq,beq_iff_eq,beq_eq_false_iff_ne,decide_eq_true_eq,decide_eq_false_iff_not,Ku,Kv,Kw,Kx] at h);omega
 simp only [hi',AU]
 repeat (first|(with_reducible first|refine ah.up ?_|refine fun (K:AK) hK=> ?_|refine af (by decide) ?_|refine ae (by decide) ?_|refine aK (by decide) ?_|(refine hK _ ?_;clear hK K))|simp only [go_sem,h]|with_reducible refine wA ?_|clear hK K)
 refine ec (ι:=Nat) 110 (fun i=>[(110, .v (.int .i64 i)),(12, .undef),(13, .undef)]) (fun i=>[some ⟨26,5,false,[[.an 8 (ps.map (gE A)) ps.length, .an 13 (cs.map bg) cs.length, .an 6 (rs.map aN) rs.length, .aV (nr A) (.v (.int .i64 ra)), .v (.int .i64 sl)]]⟩,
  some ⟨38,1,false,[[.an 1 (a.map aT) a.length]]⟩,some ⟨38,1,false,[[.an 1 (b.map aT) b.length]]⟩,some ⟨26,5,false,[[.vec 5 ps.length, .vec 6 cs.length, .v (.slice none 0 0), .v (.int .i64 ra), .v (.int .i64 sl)]]⟩,
  some ⟨90,1,false,[[.fn 69 [] [.ptr 1 0 1 0 0, .ptr 2 0 1 0 0]]]⟩,some ⟨45,8,true,(ps.map (gj (aU a b))).map (eZ A)⟩,some ⟨37,13,true,qm a b cs i⟩]) (fun i=>cs.length - i) (fun i=>i≤cs.length) 0 (by omega) ?_ ?_
 ·(refine au ?_ ?_ ?_<;>simp only [aD,Ks,Kt,Kn,Ko,bu,bt,AV.v.injEq,Value.int.injEq,Value.bool.injEq,Value.string.injEq,AV.vec.injEq,AV.ptr.injEq,true_or,or_true,false_or,or_false,ab.mk.injEq,forall_eq_apply_imp_iff,forall_eq,forall_eq',go_sem])
  all_goals first|rfl|(refine ⟨(p7 _ _ _).symm, ?_⟩;exact xx _ _ _ _ _)|skip
 clear h hi' hi i
 rintro i hi K hK
 repeat (first|(with_reducible first|refine ah.up ?_|refine fun (K:AK) hK=> ?_|refine af (by decide) ?_|refine ae (by decide) ?_|refine aK (by decide) ?_|(refine hK _ ?_;clear hK K))|simp only [go_sem]|with_reducible refine wA ?_|clear hK K)
 refine aO.part (fun h=> ?_) (fun h=> ?_)
 ·have hlt:i<cs.length:=by (try simp only [bne_iff_ne,ne_eq,bne_eq_false_iff_eq,beq_iff_eq,beq_eq_false_iff_ne,decide_eq_true_eq,decide_eq_false_iff_not,Ku,Kv,Kw,Kx] at h);omega
  have eW:=ar (k:=i) (by omega)
  have eL:(qm a b cs i).length=cs.length:=pc _ _ _ _
  have eG:(qm a b cs i).getD i []=bg cs[i]:=oy _ _ _ _ hlt _
  have eS:(qm a b cs i).set i (bg (ib (aU a b) cs[i]))=qm a b cs (i+1):=p9 _ _ _ _ hlt
  have N1:=kQ a b cs[i].left hl
  have N2:=kQ a b cs[i].right hl
  have eGS: ∀X,((qm a b cs i).set i X).getD i []=X:=fun X=>kF (by rw [eL];exact hlt) X []
  generalize qm a b cs i=r at eL eG eS eGS ⊢
  generalize cs[i]=c at N1 N2 eG eS
  simp only [ku] at N1 N2
  simp only [bg,ib] at eG eS
  simp only [aN,aB,BW] at N1 N2
  repeat (first|(with_reducible first|refine ah.up ?_|refine fun (K:AK) hK=> ?_|refine af (by decide) ?_|refine ae (by decide) ?_|refine aK (by decide) ?_|(refine hK _ ?_;clear hK K))|simp only [go_sem,h]|with_reducible refine wA ?_|clear hK K)
  refine ck [16,19] [] (by decide+kernel) (by kernel_rfl) ?_
  repeat (first|(with_reducible first|refine ah.up ?_|refine fun (K:AK) hK=> ?_|refine af (by decide) ?_|refine ae (by decide) ?_|refine aK (by decide) ?_|(refine hK _ ?_;clear hK K))|simp only [go_sem,eG,eL]|with_reducible refine wA ?_|clear hK K)
  refine aw.AH N1 40 rfl (by simp only [go_sem,Nat.reduceLT,Nat.reduceLeDiff,Nat.reduceEqDiff,K7,K8,and_self]) rfl ?_
  repeat (first|(with_reducible first|refine ah.up ?_|refine fun (K:AK) hK=> ?_|refine af (by decide) ?_|refine ae (by decide) ?_|refine aK (by decide) ?_|(refine hK _ ?_;clear hK K))|simp only [go_sem,eG,eL]|with_reducible refine wA ?_|clear hK K)
  refine aw.AH N2 40 rfl (by simp only [go_sem,Nat.reduceLT,Nat.reduceLeDiff,Nat.reduceEqDiff,K7,K8,and_self]) rfl ?_
  repeat (first|(with_reducible first|refine ah.up ?_|refine fun (K:AK) hK=> ?_|refine af (by decide) ?_|refine ae (by decide) ?_|refine aK (by decide) ?_|(refine hK _ ?_;clear hK K))|simp only [go_sem,eG,eL,eGS,eS,eW,K9,J1]|with_reducible refine wA ?_|clear hK K)
  exact aC.mk (i+1) (by omega) (by omega) (by (refine au ?_ ?_ ?_<;>simp only [aD,Ks,Kt,Kn,Ko,bu,bt,AV.v.injEq,Value.int.injEq,Value.bool.injEq,Value.string.injEq,AV.vec.injEq,AV.ptr.injEq,true_or,or_true,false_or,or_false,ab.mk.injEq,forall_eq_apply_imp_iff,forall_eq,forall_eq',go_sem]);exact xx _ _ _ _ _)
 have hi':i=cs.length:=by (try simp only [bne_iff_ne,ne_eq,bne_eq_false_iff_eq,beq_iff_eq,beq_eq_false_iff_ne,decide_eq_true_eq,decide_eq_false_iff_not,Ku,Kv,Kw,Kx] at h);omega
 simp only [hi',Ag]
 repeat ((fail_if_success (with_reducible refine oS (i:=22) ?_));first|(with_reducible first|refine ah.up ?_|refine fun (K:AK) hK=> ?_|refine af (by decide) ?_|refine ae (by decide) ?_|refine aK (by decide) ?_|(refine hK _ ?_;clear hK K))|simp only [go_sem,h]|with_reducible refine wA ?_|clear hK K)
 refine bw (ei (k:=3) (i:=0) (j:=2) 34 6 (by decide) rfl (Nat.zero_lt_succ _) rfl rfl) (by kernel_rfl) ?_
 simp only [I5,IZ,Nat.reduceAdd,List.cons_append,List.nil_append,List.set_cons_zero,List.set_cons_succ]
 repeat (first|(with_reducible first|refine ah.up ?_|refine fun (K:AK) hK=> ?_|refine af (by decide) ?_|refine ae (by decide) ?_|refine aK (by decide) ?_|(refine hK _ ?_;clear hK K))|simp only [go_sem]|with_reducible refine wA ?_|clear hK K)
 refine ec (ι:=Nat) 139 (fun i=>[(139, .v (.int .i64 i)),(14, .undef),(15, .undef)]) (fun i=>[some ⟨26,5,false,[[.an 8 (ps.map (gE A)) ps.length, .an 13 (cs.map bg) cs.length, .an 6 (rs.map aN) rs.length, .aV (nr A) (.v (.int .i64 ra)), .v (.int .i64 sl)]]⟩,
  some ⟨38,1,false,[[.an 1 (a.map aT) a.length]]⟩,some ⟨38,1,false,[[.an 1 (b.map aT) b.length]]⟩,some ⟨26,5,false,[[.vec 5 ps.length, .vec 6 cs.length, .vec 7 i, .v (.int .i64 ra), .v (.int .i64 sl)]]⟩,
  some ⟨90,1,false,[[.fn 69 [] [.ptr 1 0 1 0 0, .ptr 2 0 1 0 0]]]⟩,some ⟨45,8,true,(ps.map (gj (aU a b))).map (eZ A)⟩,some ⟨37,13,true,(cs.map (ib (aU a b))).map bg⟩,some ⟨34,6,true,((rs.map (fg (aU a b))).take i).map aN⟩]) (fun i=>rs.length - i) (fun i=>i≤rs.length) 0 (by omega) ?_ ?_
 ·(refine au ?_ ?_ ?_<;>simp only [aD,Ks,Kt,Kn,Ko,bu,bt,AV.v.injEq,Value.int.injEq,Value.bool.injEq,Value.string.injEq,AV.vec.injEq,AV.ptr.injEq,true_or,or_true,false_or,or_false,ab.mk.injEq,forall_eq_apply_imp_iff,forall_eq,forall_eq',go_sem])
  all_goals rfl
 clear h hi' hi i
 rintro i hi K hK
 repeat (first|(with_reducible first|refine ah.up ?_|refine fun (K:AK) hK=> ?_|refine af (by decide) ?_|refine ae (by decide) ?_|refine aK (by decide) ?_|(refine hK _ ?_;clear hK K))|simp only [go_sem]|with_reducible refine wA ?_|clear hK K)
 refine aO.part (fun h=> ?_) (fun h=> ?_)
 ·have hlt:i<rs.length:=by (try simp only [bne_iff_ne,ne_eq,bne_eq_false_iff_eq,beq_iff_eq,beq_eq_false_iff_ne,decide_eq_true_eq,decide_eq_false_iff_not,Ku,Kv,Kw,Kx] at h);omega
  have eW:=ar (k:=i) (by omega)
  have eG:=getD_map aN rs i [] hlt
  have N1:=kQ a b rs[i] hl
  have eL:((rs.map (fg (aU a b))).take i).length=i:=by simp;omega
  have eT:((rs.map (fg (aU a b))).take (i+1)).map aN=((rs.map (fg (aU a b))).take i).map aN++[aN (fg (aU a b) rs[i])]:=by
   rw [da aN (rs.map (fg (aU a b))) i (by simpa using hlt)];simp
  simp only [ku] at N1
  simp only [aN,aB,BW] at N1 eG eT
  repeat (first|(with_reducible first|refine ah.up ?_|refine fun (K:AK) hK=> ?_|refine af (by decide) ?_|refine ae (by decide) ?_|refine aK (by decide) ?_|(refine hK _ ?_;clear hK K))|simp only [go_sem,h,eG]|with_reducible refine wA ?_|clear hK K)
  refine ck [6,8] [] (by decide+kernel) (by kernel_rfl) ?_
  repeat (first|(with_reducible first|refine ah.up ?_|refine fun (K:AK) hK=> ?_|refine af (by decide) ?_|refine ae (by decide) ?_|refine aK (by decide) ?_|(refine hK _ ?_;clear hK K))|simp only [go_sem,eG,eL]|with_reducible refine wA ?_|clear hK K)
  refine aw.AH N1 40 rfl (by simp only [go_sem,Nat.reduceLT,Nat.reduceLeDiff,Nat.reduceEqDiff,K7,K8,and_self]) rfl ?_
  repeat (first|(with_reducible first|refine ah.up ?_|refine fun (K:AK) hK=> ?_|refine af (by decide) ?_|refine ae (by decide) ?_|refine aK (by decide) ?_|(refine hK _ ?_;clear hK K))|simp only [go_sem,eL,eW]|with_reducible refine wA ?_|clear hK K)
  exact aC.mk (i+1) (by omega) (by omega) (by (refine au ?_ ?_ ?_<;>simp only [aD,Ks,Kt,Kn,Ko,bu,bt,AV.v.injEq,Value.int.injEq,Value.bool.injEq,Value.string.injEq,AV.vec.injEq,AV.ptr.injEq,true_or,or_true,false_or,or_false,ab.mk.injEq,forall_eq_apply_imp_iff,forall_eq,forall_eq',go_sem]);exact eT.symm)
 have hi':i=rs.length:=by (try simp only [bne_iff_ne,ne_eq,bne_eq_false_iff_eq,beq_iff_eq,beq_eq_false_iff_ne,decide_eq_true_eq,decide_eq_false_iff_not,Ku,Kv,Kw,Kx] at h);omega
 have eA:(rs.map (fg (aU a b))).take rs.length=rs.map (fg (aU a b)):=im (by simp)
 simp only [hi',eA]
 repeat (first|(with_reducible first|refine ah.up ?_|refine fun (K:AK) hK=> ?_|refine af (by decide) ?_|refine ae (by decide) ?_|refine aK (by decide) ?_|(refine hK _ ?_;clear hK K))|simp only [go_sem,h]|with_reducible refine wA ?_|clear hK K)
 have F:=yG (o:=[some ⟨26,5,false,[[.an 8 (ps.map (gE A)) ps.length, .an 13 (cs.map bg) cs.length, .an 6 (rs.map aN) rs.length, .aV (nr A) (.v (.int .i64 ra)), .v (.int .i64 sl)]]⟩,
  some ⟨38,1,false,[[.an 1 (a.map aT) a.length]]⟩,some ⟨38,1,false,[[.an 1 (b.map aT) b.length]]⟩,some ⟨26,5,false,[[.vec 5 ps.length, .vec 6 cs.length, .vec 7 rs.length, .v (.int .i64 ra), .v (.int .i64 sl)]]⟩,
  some ⟨90,1,false,[[.fn 69 [] [.ptr 1 0 1 0 0, .ptr 2 0 1 0 0]]]⟩,some ⟨45,8,true,(ps.map (gj (aU a b))).map (eZ A)⟩,some ⟨37,13,true,(cs.map (ib (aU a b))).map bg⟩,some ⟨34,6,true,(rs.map (fg (aU a b))).map aN⟩])
  (A:=A) 0 5 6 7 (by decide) rfl rfl (kA (aU a b) ⟨ps,cs,rs,ra,sl⟩) (by simpa [kA] using hq1) (by simpa [kA] using hq2) (by simpa [kA] using hq3) rfl rfl rfl
 simp only [kA,List.length_map] at F ⊢
 exact F
end Go.Proofs.YtldnlbcibmmbbaaGreat
