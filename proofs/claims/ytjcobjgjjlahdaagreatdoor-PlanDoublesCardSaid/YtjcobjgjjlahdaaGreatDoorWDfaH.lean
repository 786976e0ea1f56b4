/- texts of one claim, one behind the other. -/
import Derived.Test.YtjcobjgjjlahdaaGreatDoorWDfaC
import Derived.Test.YtjcobjgjjlahdaaGreatDoorWEvery
import Derived.Test.YtjcobjgjjlahdaaGreatDoorWVerts
import Derived.Test.YtjcobjgjjlahdaaGreatDoorWDfaA
import Derived.Shelf.Slices.CompactS
import Derived.Lib.RowBridge
set_option linter.unusedSimpArgs false
set_option linter.unusedVariables false
set_option maxRecDepth 100000
set_option maxHeartbeats 16000000
open Bool renaming not_eq_eq_eq_not -> SI, and_self -> SE, and_eq_true -> Rq, and_true -> R0, true_and -> R3
open Int renaming natCast_inj -> SJ, ofNat_lt -> SK, ofNat_le -> SL
open List renaming length_append -> QH, getD_eq_getElem?_getD -> Rw, getElem?_eq_getElem -> QS, replicate_succ -> SG, map_append -> Ta, replicate_zero -> SH, cons_append -> SB, nil_append -> SA, foldl_cons -> R8, foldl_nil -> Sb, getElem?_map -> QV, length_map -> Rv, length_replicate -> To, take_succ_eq_append_getElem -> Sf, drop_succ_cons -> Tm, drop_zero -> Tn, getElem_mem -> Su, getElem?_set_ne -> Q0, getElem?_eq_some_iff -> QD, getElem?_set_self -> Q1, map_cons -> Tc, length_cons -> QI, length_nil -> QC, set_cons_zero -> Se, set_cons_succ -> Sd, length_singleton -> Sl, getElem?_toArray -> QU, getElem?_cons_zero -> RU, getElem?_cons_succ -> SC, zip_cons_cons -> R9, zip_nil_left -> Sa, setIfInBounds_toArray -> Sc, mem_cons -> Sj, not_mem_nil -> Sk, append_nil -> Tr, mem_map -> Tt, filter_cons_of_neg -> Tu
open Nat renaming zero_le -> QJ, zero_lt_succ -> Tp, le_refl -> Qy, le_succ -> Tq, lt_or_ge -> QF
open Array renaming getElem?_eq_some_iff -> QB
open Classical renaming byContradiction -> Tg
namespace Go.Proofs.YtjcobjgjjlahdaaGreatDoor
open Go.RowKit
structure NC (rows:List bL) (ends:List Bool):Prop where
 n:rows.length<=256
 e:ends.length=rows.length
 rm: ∀r∈rows,lU (r.map Prod.fst)
 len: ∀r∈rows,r.length<=1000
 lab: ∀r∈rows, ∀p∈r,p.1.size<=1000∧p.2<rows.length
theorem l8 (a b:ByteArray):(a++b).size=a.size+b.size:=ByteArray.size_append
theorem tw (u:Nat) (h:u<1000):(⟨(Lib.decDigits u).toArray⟩:ByteArray).size<=3:=by
 have:=pq u h
 simpa [ByteArray.size] using this
theorem sB (part:List Nat) (p:Nat):db part p []=⟨(Lib.decDigits p).toArray⟩:=by simp [db,ui]
theorem ql (part:List Nat) (p:Nat) (r:bL) (e:ByteArray×Nat):db part p (r++[e])=db part p r++(((⟨#[32]⟩++e.1)++⟨#[32]⟩)++⟨(Lib.decDigits (part.getD e.2 0)).toArray⟩):=by
 apply ByteArray.ext
 rw [db,Cg];simp [db,ByteArray.data_append]
theorem y0 (part:List Nat) (p:Nat) (hp:p<1000) (hq: ∀s,part.getD s 0<1000): ∀r:bL,(∀e∈r,e.1.size<=1000)->(db part p r).size<=3+1005 * r.length:=by
 refine mC ?_ ?_
 ·intro _;rw [sB];have:=tw p hp;simpa using this
 ·intro r e ih h;have h1:=ih fun x hx=>h x (List.mem_append_left _ hx);have h2:=h e (by simp);have h3:=tw _ (hq e.2);have h4:(⟨#[32]⟩:ByteArray).size=1:=rfl;rw [ql,l8,l8,l8,l8,h4,QH,List.length_singleton];omega
theorem oL {l:List Nat} {b:Nat} (hb:0<b) (h: ∀v∈l,v<b) (s:Nat):l.getD s 0<b:=by
 rw [Rw]
 cases hs:l[s]? with
 | none=>simpa using hb
 | some v=>exact h v (List.mem_of_getElem? hs)
theorem Lq (ends:List Bool): ∀v∈p0 ends,v<1000:=fun v hv=>by
 rw [p0,List.mem_map] at hv;obtain ⟨b,_,rfl⟩:=hv
 split<;>omega
theorem Ht (rows:List bL) (part:List Nat) (n:Nat) (v:Nat) (hv:v∈(dY rows part n).2):v<(dY rows part n).1.length:=by
 have ok:=fT rows part n;obtain ⟨s,hs,rfl⟩:=List.mem_iff_getElem.1 hv
 have:=(ok.at' s (by have:=ok.len;omega)).1
 rw [Rw,QS hs] at this;exact this
theorem JD {rows:List bL} (hn:rows.length<=256) (part:List Nat): ∀v∈eb rows part,v<1000:=fun v hv=>by
 have:=Ht rows part rows.length v hv
 have:=(fT rows part rows.length).le
 omega
theorem Aw (A:List Nat) (n i v:Nat) (hA:A.length=i) (h:i<n):(az (A++List.replicate (n - i) 0)).set i [.v (.int .i64 (v:Nat))]=az ((A++[v])++List.replicate (n - (i+1)) 0):=by
 rw [show n - i=(n - (i+1))+1 by omega,SG,az,az,Ta,Ta,Ta,List.set_append,if_neg (by simp [hA])];simp [hA]
theorem Li (A:List Nat) (n i:Nat) (hA:A.length=i) (h:i<n):(az (A++List.replicate (n - i) 0)).getD i []=[.v (.int .i64 0)]:=by
 rw [show n - i=(n - (i+1))+1 by omega,SG,az,Ta,Rw,List.getElem?_append_right (by simp [hA])];simp [hA]
theorem Lz (A:List Nat) (n i:Nat) (h:i<n):A++List.replicate (n - i) 0=(A++[0])++List.replicate (n - (i+1)) 0:=by
 rw [show n - i=(n - (i+1))+1 by omega,SG];simp
def Fb (ends:List Bool) (i:Nat):List (Option aa):=[some ⟨3,1,true,az (p0 (ends.take i)++List.replicate (ends.length - i) 0)⟩,some ⟨75,1,false,[[.vec 0 ends.length]]⟩]
def nz (n:Nat) (part:List Nat):List (Option aa):=[none,some ⟨75,1,false,[[.aE 1 (az part) n]]⟩]
def rl (rows:List bL) (part:List Nat) (s:Nat):List (Option aa):=nz rows.length part++[some ⟨192,0,false,C7 (dY rows part s).1⟩,some ⟨3,1,true,az ((dY rows part s).2++List.replicate (rows.length - s) 0)⟩]
theorem Hu {rows:List bL} {ends:List Bool} (ok:NC rows ends):ah Tryz.prog 157 [.vp (gV rows ends)] (.aE 1 (az (fA rows ends)) rows.length):=by
 have hN:=ok.n;have hE:=ok.e
 have hA:bw 0 [AV.vp (gV rows ends)]=true:=by simp only [gV,bw,AV.wf,mH,mG,Bool.and_self]
 have hF:(AV.aE 1 (az (fA rows ends)) rows.length).wf 0=true:=by simp only [AV.wf,jb]
 generalize hrv:AV.aE 1 (az (fA rows ends)) rows.length=rv at hF ⊢
 (refine ah.yv Tryz.func157 rfl (by kernel_rfl) (by kernel_rfl) rfl hA hF ?_;simp only [Tryz.ntmps157,Tryz.results157,List.length_cons,List.length_nil,Nat.reduceAdd,Nat.reduceSub,SG,SH,SB,SA])
 simp only [gV]
 repeat (first|(with_reducible first|refine af.up ?_|refine fun (K:AK) hK=> ?_|refine wE ?_|refine wK ?_|refine wF ?_|(refine hK _ ?_;clear hK K))|simp only [go_sem]|with_reducible refine wA ?_|clear hK K)
 refine cM (ι:=Nat) 27 (fun i=>[(4, .undef),(5, .undef),(26, .v (.int .i64 i))]) (Fb ends) (fun i=>ends.length - i) (fun i=>i<=ends.length) 0 (QJ _) ?_ ?_
 ·have e0:az (p0 (ends.take 0)++List.replicate (ends.length - 0) 0)=List.replicate rows.length [AV.v (.int .i64 0)]:=by
   rw [hE];simp [p0,az]
  simp only [Fb,e0,hE]
  (refine aj ?_ ?_ ?_<;>simp only [aT,R8,Sb,SG,SH,bj,bg,AV.v.injEq,Value.int.injEq,Value.bool.injEq,Value.string.injEq,AV.vec.injEq,AV.ptr.injEq,true_or,or_true,false_or,or_false,aa.mk.injEq,forall_eq_apply_imp_iff,forall_eq,forall_eq',go_sem])
  all_goals first|rfl|simp [p0,az]
 ·intro i hi K hK;simp only [Fb]
  repeat (first|(with_reducible first|refine af.up ?_|refine fun (K:AK) hK=> ?_|refine wE ?_|refine wK ?_|refine wF ?_|(refine hK _ ?_;clear hK K))|simp only [go_sem]|with_reducible refine wA ?_|clear hK K)
  refine cQ.part (fun h=> ?_) (fun h=> ?_)
  ·have hlt:i<ends.length:=by (try simp only [bne_iff_ne,ne_eq,bne_eq_false_iff_eq,beq_iff_eq,beq_eq_false_iff_ne,decide_eq_true_eq,decide_eq_false_iff_not,SI,SJ,SK,SL] at h);omega
   have eW:=aM (k:=i) (by omega)
   have eG:(ends.map (fun b=>[AV.v (.bool b)])).getD i []=[.v (.bool ends[i])]:=by
    rw [Rw,QV,QS hlt];rfl
   have hl0:(p0 (ends.take i)).length=i:=by rw [p0,Rv,List.length_take];omega
   have eL:(az (p0 (ends.take i)++List.replicate (ends.length - i) 0)).length=ends.length:=by rw [az,Rv,QH,hl0,To];omega
   have eN:p0 (ends.take (i+1))=p0 (ends.take i)++[if ends[i] then 1 else 0]:=by rw [p0,p0,Sf hlt,Ta];rfl
   rcases (Bool.eq_false_or_eq_true ends[i]).symm with hb|hb
   ·rw [hb] at eG eN;rw [if_neg (by decide)] at eN
    repeat (first|(with_reducible first|refine af.up ?_|refine fun (K:AK) hK=> ?_|refine wE ?_|refine wK ?_|refine wF ?_|(refine hK _ ?_;clear hK K))|simp only [go_sem,eG,h]|with_reducible refine wA ?_|clear hK K)
    repeat (first|(with_reducible first|refine af.up ?_|refine fun (K:AK) hK=> ?_|refine wE ?_|refine wK ?_|refine wF ?_|(refine hK _ ?_;clear hK K))|simp only [go_sem,eW]|with_reducible refine wA ?_|clear hK K)
    refine aQ.mk (i+1) (by omega) (by omega) ?_;simp only [Fb,eN, <- Lz _ _ _ hlt]
    (refine aj ?_ ?_ ?_<;>simp only [aT,R8,Sb,SG,SH,bj,bg,AV.v.injEq,Value.int.injEq,Value.bool.injEq,Value.string.injEq,AV.vec.injEq,AV.ptr.injEq,true_or,or_true,false_or,or_false,aa.mk.injEq,forall_eq_apply_imp_iff,forall_eq,forall_eq',go_sem])
   ·rw [hb] at eG eN;rw [if_pos rfl] at eN;have eS:=Aw (p0 (ends.take i)) ends.length i 1 hl0 hlt;have eS:=Aw (p0 (ends.take i)) ends.length i 1 hl0 hlt;have eQ:=Li (p0 (ends.take i)) ends.length i hl0 hlt;have c1:((1:Nat):Int)=1:=rfl;rw [c1] at eS
    repeat (first|(with_reducible first|refine af.up ?_|refine fun (K:AK) hK=> ?_|refine wE ?_|refine wK ?_|refine wF ?_|(refine hK _ ?_;clear hK K))|simp only [go_sem,eG,h,eL,eQ,Tm,Tn,eS]|with_reducible refine wA ?_|clear hK K)
    repeat (first|(with_reducible first|refine af.up ?_|refine fun (K:AK) hK=> ?_|refine wE ?_|refine wK ?_|refine wF ?_|(refine hK _ ?_;clear hK K))|simp only [go_sem,eW]|with_reducible refine wA ?_|clear hK K)
    refine aQ.mk (i+1) (by omega) (by omega) ?_;simp only [Fb,eN]
    (refine aj ?_ ?_ ?_<;>simp only [aT,R8,Sb,SG,SH,bj,bg,AV.v.injEq,Value.int.injEq,Value.bool.injEq,Value.string.injEq,AV.vec.injEq,AV.ptr.injEq,true_or,or_true,false_or,or_false,aa.mk.injEq,forall_eq_apply_imp_iff,forall_eq,forall_eq',go_sem])
    all_goals trace_state
  ·have h16:i=ends.length:=by (try simp only [bne_iff_ne,ne_eq,bne_eq_false_iff_eq,beq_iff_eq,beq_eq_false_iff_ne,decide_eq_true_eq,decide_eq_false_iff_not,SI,SJ,SK,SL] at h);omega
   have e1:az (p0 (ends.take i)++List.replicate (ends.length - i) 0)=az (p0 ends):=by rw [h16,List.take_length,Nat.sub_self];simp
   have l0:(az (p0 ends)).length=ends.length:=by simp [az,p0]
   have l1:(p0 ends).length=rows.length:=by simp [p0,hE]
   simp only [e1]
   repeat ((fail_if_success (with_reducible refine br (i:=8) ?_));first|(with_reducible first|refine af.up ?_|refine fun (K:AK) hK=> ?_|refine wK ?_|refine wF ?_|(refine hK _ ?_;clear hK K))|simp only [go_sem]|with_reducible refine wA ?_|clear hK K)
   refine aJ (cm (k:=1) (i:=0) (j:=0) (by decide) rfl (Nat.zero_lt_succ _) rfl rfl rfl rfl l0) (by kernel_rfl) ?_;simp only [List.set_cons_zero,List.set_cons_succ,hE];clear hi h h16 e1 l0;have hs0: ∃f,rows.length+2<=f+0∧AV.aE 1 (az (uk rows f (p0 ends) 0)) rows.length=rv:=⟨rows.length+2,Nat.le_refl _,hrv⟩;clear hrv
   repeat (first|(with_reducible first|refine af.up ?_|refine fun (K:AK) hK=> ?_|refine wE ?_|refine wK ?_|refine wF ?_|(refine hK _ ?_;clear hK K))|simp only [go_sem]|with_reducible refine wA ?_|clear hK K)
   refine cM (ι:=List Nat×Nat) 7 (fun x=>[(4, .undef),(5, .undef),(6, .v (.int .i64 x.2))]) (fun x=>nz rows.length x.1) (fun x=>rows.length+1 - x.2) (fun x=>(∀v∈x.1,v<1000)∧x.2<=rows.length∧KL rows x.1 x.2∧ ∃f,rows.length+2<=f+x.2∧AV.aE 1 (az (uk rows f x.1 x.2)) rows.length=rv) (p0 ends,0) ⟨Lq ends,QJ _,⟨l1,fun k hk=>absurd hk (Nat.not_lt_zero k)⟩,hs0⟩ ?_ ?_
   ·simp only [nz]
    (refine aj ?_ ?_ ?_<;>simp only [aT,R8,Sb,SG,SH,bj,bg,AV.v.injEq,Value.int.injEq,Value.bool.injEq,Value.string.injEq,AV.vec.injEq,AV.ptr.injEq,true_or,or_true,false_or,or_false,aa.mk.injEq,forall_eq_apply_imp_iff,forall_eq,forall_eq',go_sem])
    all_goals rfl
   ·rintro ⟨part,many⟩ ⟨hpl,hml,hpo,f,hf,hfr⟩ K hK;simp only at hpl hml hpo hf hfr;have hpn:=hpo.1;simp only [nz]
    repeat (first|(with_reducible first|refine af.up ?_|refine fun (K:AK) hK=> ?_|refine wE ?_|refine wK ?_|refine wF ?_|(refine hK _ ?_;clear hK K))|simp only [go_sem]|with_reducible refine wA ?_|clear hK K)
    have z0:List.replicate rows.length [AV.v (.int .i64 0)]=az (List.replicate rows.length 0):=by simp [az]
    refine cM (ι:=Nat) 46 (fun s=>[(9, .undef),(10, .undef),(11, .undef),(12, .undef),(13, .undef),(14, .undef),(45, .v (.int .i64 s))]) (rl rows part) (fun s=>rows.length - s) (fun s=>s<=rows.length) 0 (QJ _) ?_ ?_
    ·simp only [rl,nz,SB,SA]
     (refine aj ?_ ?_ ?_<;>simp only [aT,R8,Sb,SG,SH,bj,bg,AV.v.injEq,Value.int.injEq,Value.bool.injEq,Value.string.injEq,AV.vec.injEq,AV.ptr.injEq,true_or,or_true,false_or,or_false,aa.mk.injEq,forall_eq_apply_imp_iff,forall_eq,forall_eq',go_sem])
     all_goals first|rfl|exact ⟨rfl,z0⟩|trace_state
    ·intro s hs K hK;have pok:=fT rows part s;simp only [rl,nz,SB,SA]
     repeat (first|(with_reducible first|refine af.up ?_|refine fun (K:AK) hK=> ?_|refine wE ?_|refine wK ?_|refine wF ?_|(refine hK _ ?_;clear hK K))|simp only [go_sem]|with_reducible refine wA ?_|clear hK K)
     refine cQ.part (fun h=> ?_) (fun h=> ?_)
     ·have hlt:s<rows.length:=by (try simp only [bne_iff_ne,ne_eq,bne_eq_false_iff_eq,beq_iff_eq,beq_eq_false_iff_ne,decide_eq_true_eq,decide_eq_false_iff_not,SI,SJ,SK,SL] at h);omega
      have eW:=aM (k:=s) (by omega)
      have eG:(az part).getD s []=[.v (.int .i64 ((part.getD s 0:Nat):Int))]:=by
       rw [az,Rw,QV,QS (by omega),Rw,QS (by omega)];rfl
      have CI:=Eu (part.getD s 0) (by have:=oL (by omega) hpl s;omega);have CS:=AA rows ends s;have hlr:=ok.lab _ (Su hlt);have hln:=ok.len _ (Su hlt);have hseq:=sW rows ends s hlt (by omega) (fun p hp=>Nat.le_trans (hlr p hp).1 (by decide)) (ok.rm _ (Su hlt)) (by omega);simp only [gV,hE] at CS hseq;obtain ⟨row,hrow⟩: ∃row,row=rows[s]:=⟨_,rfl⟩;rw [<-hrow] at hlr hln hseq;have hq1:part.getD s 0<1000:=oL (by omega) hpl s
      repeat (first|(with_reducible first|refine af.up ?_|refine fun (K:AK) hK=> ?_|refine wE ?_|refine wK ?_|refine wF ?_|(refine hK _ ?_;clear hK K))|simp only [go_sem,eG,h]|with_reducible refine wA ?_|clear hK K)
      refine ae.one CI ?_
      repeat (first|(with_reducible first|refine af.up ?_|refine fun (K:AK) hK=> ?_|refine wE ?_|refine wK ?_|refine wF ?_|(refine hK _ ?_;clear hK K))|simp only [go_sem]|with_reducible refine wA ?_|clear hK K)
      refine ae.one CS ?_
      repeat (first|(with_reducible first|refine af.up ?_|refine fun (K:AK) hK=> ?_|refine wE ?_|refine wK ?_|refine wF ?_|(refine hK _ ?_;clear hK K))|simp only [go_sem]|with_reducible refine wA ?_|clear hK K)
      refine jh hseq 58 (fun k=>rl rows part s++[some ⟨9,1,false,[[.v (.string (db part (part.getD s 0) (row.take k)))]]⟩]) (fun k=>k<=row.length) (QJ _) ?_ ?_ ?_ (by kernel_rfl) (by kernel_rfl) ?_ ?_ ?_
      ·repeat (first|(with_reducible first|refine af.up ?_|refine fun (K:AK) hK=> ?_|refine wE ?_|refine wK ?_|refine wF ?_|(refine hK _ ?_;clear hK K))|simp only [go_sem]|with_reducible refine wA ?_|clear hK K)
      ·simp only [bw,AV.wf,mH,mG,Bool.and_self]
      ·simp only [rl,nz,SB,SA,List.take_zero,sB]
       (refine aj ?_ ?_ ?_<;>simp only [aT,R8,Sb,SG,SH,bj,bg,AV.v.injEq,Value.int.injEq,Value.bool.injEq,Value.string.injEq,AV.vec.injEq,AV.ptr.injEq,true_or,or_true,false_or,or_false,aa.mk.injEq,forall_eq_apply_imp_iff,forall_eq,forall_eq',go_sem])
       all_goals trace_state
      ·intro x hx;obtain ⟨o,_,rfl⟩:=List.mem_map.1 hx
       rfl
      ·intro k x hk hx
       obtain ⟨hkl,hx⟩: ∃h:k<row.length,x=[.v (.string row[k].1), .v (.int .i64 (row[k].2:Nat))]:=by
        obtain ⟨h1,h2⟩:=List.getElem?_eq_some_iff.1 hx;simp only [cU,Rv] at h1;exact ⟨h1,by rw [<-h2];simp [cU]⟩
       subst hx;obtain ⟨hz1,hz2⟩:=hlr _ (Su hkl)
       have eT:(az part).getD row[k].2 []=[.v (.int .i64 ((part.getD row[k].2 0:Nat):Int))]:=by
        rw [az,Rw,QV,QS (by omega),Rw,QS (by omega)];rfl
       have hq2:part.getD row[k].2 0<1000:=oL (by omega) hpl _;have CJ:=Eu (part.getD row[k].2 0) (by omega);have hS:=ql part (part.getD s 0) (row.take k) row[k];rw [<-Sf hkl] at hS;simp only [rl,nz,SB,SA];have h32:(⟨#[32]⟩:ByteArray).size=1:=rfl;have hd1:=tw _ hq2;have hd2:=y0 part (part.getD s 0) hq1 (oL (by omega) hpl) (row.take k) (fun e he=>(hlr _ (List.mem_of_mem_take he)).1);rw [List.length_take] at hd2;have b1:(#[32]:Array UInt8).size=1:=rfl;have b2:(Lib.decDigits (part.getD row[k].2 0)).toArray.size<=3:=hd1
       repeat (first|(with_reducible first|refine af.up ?_|refine fun (K:AK) hK=> ?_|refine wE ?_|refine wK ?_|refine wF ?_|(refine hK _ ?_;clear hK K))|simp only [go_sem,eT]|with_reducible refine wA ?_|clear hK K)
       refine bc.one CJ ?_
       repeat (first|(with_reducible first|refine af.up ?_|refine fun (K:AK) hK=> ?_|refine wE ?_|refine wK ?_|refine wF ?_|(refine hK _ ?_;clear hK K))|simp only [go_sem,eT]|with_reducible refine wA ?_|clear hK K)
       simp only [rl,nz,SB,SA,hS]
       (refine aj ?_ ?_ ?_<;>simp only [aT,R8,Sb,SG,SH,bj,bg,AV.v.injEq,Value.int.injEq,Value.bool.injEq,Value.string.injEq,AV.vec.injEq,AV.ptr.injEq,true_or,or_true,false_or,or_false,aa.mk.injEq,forall_eq_apply_imp_iff,forall_eq,forall_eq',go_sem])
      ·intro _
       have hmr:(cU row).length=row.length:=by simp [cU]
       simp only [hmr,List.take_length,rl,nz,SB,SA];have eA:=Dy (db part (part.getD s 0) row) (dY rows part s).1;have hI:=sA rows part s
       have hg:rows.getD s []=row:=by rw [hrow,Rw,QS hlt];rfl
       rw [ML,hg] at hI;have l2:=pok.len;have l3:=pok.le
       rcases hps:dY rows part s with ⟨ks,ns⟩
       rw [hps] at hI eA l2 l3;simp only at hI eA l2 l3
       have eL:(az (ns++List.replicate (rows.length - s) 0)).length=rows.length:=by rw [az,Rv,QH,l2,To];omega
       have eQ:=Li ns rows.length s l2 hlt
       cases hp:pos ks (db part (part.getD s 0) row) with
       | some k=>
        rw [hp] at hI eA;simp only [Option.map_some] at eA hI;have eS:=Aw ns rows.length s k l2 hlt
        repeat (first|(with_reducible first|refine af.up ?_|refine fun (K:AK) hK=> ?_|refine wE ?_|refine wK ?_|refine wF ?_|(refine hK _ ?_;clear hK K))|simp only [go_sem,eA,eL,eQ,Tm,Tn,eS]|with_reducible refine wA ?_|clear hK K)
        repeat (first|(with_reducible first|refine af.up ?_|refine fun (K:AK) hK=> ?_|refine wE ?_|refine wK ?_|refine wF ?_|(refine hK _ ?_;clear hK K))|simp only [go_sem,eW]|with_reducible refine wA ?_|clear hK K)
        refine aQ.mk (s+1) (by omega) (by omega) ?_;simp only [rl,nz,SB,SA,hI]
        (refine aj ?_ ?_ ?_<;>simp only [aT,R8,Sb,SG,SH,bj,bg,AV.v.injEq,Value.int.injEq,Value.bool.injEq,Value.string.injEq,AV.vec.injEq,AV.ptr.injEq,true_or,or_true,false_or,or_false,aa.mk.injEq,forall_eq_apply_imp_iff,forall_eq,forall_eq',go_sem])
       | none=>
        rw [hp] at hI eA;simp only [Option.map_none] at eA hI;have eS:=Aw ns rows.length s ks.length l2 hlt;have eK:=DA (db part (part.getD s 0) row) ks hp;have eM:=z7 ks
        repeat (first|(with_reducible first|refine af.up ?_|refine fun (K:AK) hK=> ?_|refine wE ?_|refine wK ?_|refine wF ?_|(refine hK _ ?_;clear hK K))|simp only [go_sem,eA,eL,eQ,Tm,Tn,eS,eK,eM]|with_reducible refine wA ?_|clear hK K)
        repeat (first|(with_reducible first|refine af.up ?_|refine fun (K:AK) hK=> ?_|refine wE ?_|refine wK ?_|refine wF ?_|(refine hK _ ?_;clear hK K))|simp only [go_sem,eW]|with_reducible refine wA ?_|clear hK K)
        refine aQ.mk (s+1) (by omega) (by omega) ?_;simp only [rl,nz,SB,SA,hI]
        (refine aj ?_ ?_ ?_<;>simp only [aT,R8,Sb,SG,SH,bj,bg,AV.v.injEq,Value.int.injEq,Value.bool.injEq,Value.string.injEq,AV.vec.injEq,AV.ptr.injEq,true_or,or_true,false_or,or_false,aa.mk.injEq,forall_eq_apply_imp_iff,forall_eq,forall_eq',go_sem])
     ·have hss:s=rows.length:=by (try simp only [bne_iff_ne,ne_eq,bne_eq_false_iff_eq,beq_iff_eq,beq_eq_false_iff_ne,decide_eq_true_eq,decide_eq_false_iff_not,SI,SJ,SK,SL] at h);omega
      subst hss;have l2:=pok.len
      have e1:(dY rows part rows.length).2++List.replicate (rows.length - rows.length) 0=eb rows part:=by rw [Nat.sub_self];simp [eb]
      have e2:=z7 (dY rows part rows.length).1;have e3:(dY rows part rows.length).1.length=gk rows part:=rfl;rw [e3] at e2
      have eL:(az (eb rows part)).length=rows.length:=by rw [az,Rv];exact l2
      simp only [e1];have hme:=wP rows part;have hmo:=qm rows hpo
      repeat ((fail_if_success (with_reducible refine br (i:=26) ?_));first|(with_reducible first|refine af.up ?_|refine fun (K:AK) hK=> ?_|refine wK ?_|refine wF ?_|(refine hK _ ?_;clear hK K))|simp only [go_sem]|with_reducible refine wA ?_|clear hK K)
      clear hK;clear hK;clear K;clear K
      repeat ((fail_if_success (with_reducible refine br (i:=26) ?_));first|(with_reducible first|refine af.up ?_|refine fun (K:AK) hK=> ?_|refine wK ?_|refine wF ?_|(refine hK _ ?_;clear hK K))|simp only [go_sem]|with_reducible refine wA ?_|clear hK K)
      refine aJ (cm (k:=1) (i:=0) (j:=0) (by decide) rfl (Nat.zero_lt_succ _) rfl rfl rfl rfl eL) (by kernel_rfl) ?_;simp only [List.set_cons_zero,List.set_cons_succ]
      repeat (first|(with_reducible first|refine af.up ?_|refine fun (K:AK) hK=> ?_|refine wE ?_|refine wK ?_|refine wF ?_|(refine hK _ ?_;clear hK K))|simp only [go_sem,e2]|with_reducible refine wA ?_|clear hK K)
      refine cQ.part (fun h2=> ?_) (fun h2=> ?_)
      ·have hm:gk rows part=many:=by (try simp only [bne_iff_ne,ne_eq,bne_eq_false_iff_eq,beq_iff_eq,beq_eq_false_iff_ne,decide_eq_true_eq,decide_eq_false_iff_not,SI,SJ,SK,SL] at h2);omega
       obtain ⟨f',rfl⟩: ∃f',f=f'+1:=⟨f - 1,by omega⟩;rw [uk,if_pos hm] at hfr
       repeat (first|(with_reducible first|refine af.up ?_|refine fun (K:AK) hK=> ?_|refine wE ?_|refine wK ?_|refine wF ?_|(refine hK _ ?_;clear hK K))|simp only [go_sem]|with_reducible refine wA ?_|clear hK K)
       rw [<-hfr];exact ej.N9 (jb _ _)
      ·have hm:gk rows part≠many:=by (try simp only [bne_iff_ne,ne_eq,bne_eq_false_iff_eq,beq_iff_eq,beq_eq_false_iff_ne,decide_eq_true_eq,decide_eq_false_iff_not,SI,SJ,SK,SL] at h2);omega
       obtain ⟨f',rfl⟩: ∃f',f=f'+1:=⟨f - 1,by omega⟩;rw [uk,if_neg hm] at hfr
       repeat (first|(with_reducible first|refine af.up ?_|refine fun (K:AK) hK=> ?_|refine wE ?_|refine wK ?_|refine wF ?_|(refine hK _ ?_;clear hK K))|simp only [go_sem,e2]|with_reducible refine wA ?_|clear hK K)
       refine aQ.mk (eb rows part,gk rows part) ⟨JD hN part,hme,qn rows part,f', ?_,hfr⟩ ?_ ?_
       ·show rows.length+2<=f'+gk rows part;omega
       ·show rows.length+1 - gk rows part<rows.length+1 - many;omega
       ·simp only [nz]
        (refine aj ?_ ?_ ?_<;>simp only [aT,R8,Sb,SG,SH,bj,bg,AV.v.injEq,Value.int.injEq,Value.bool.injEq,Value.string.injEq,AV.vec.injEq,AV.ptr.injEq,true_or,or_true,false_or,or_false,aa.mk.injEq,forall_eq_apply_imp_iff,forall_eq,forall_eq',go_sem])
section
section
variable {D:Nat->Prop} {nu:Nat->Nat->Value} {o:List (Option aa)} {w:World} {P:Program}
theorem Io {s:AS} {k i j id len:Nat} {ob:aa} {row:List AV} (x':AV) (hto: ∀(D:Nat->Prop) (nu:Nat->Nat->Value) (w:World),RO D nu s.o w->RA D nu (s.o.set id none) w x' (nu id len)) (hne:id≠k) (hk:s.o[k]? = some (some ob)) (hz:0<ob.z) (hr:ob.rows[i]? = some row) (hj:row[j]? = some (.vec id len)) :
  u7 s (AS.mk s.t ((s.o.set id none).set k (some { ob with rows:=ob.rows.set i (row.set j x') })) s.y):=by
 intro f D nu a w hs;have hp:=dE (nu:=nu) (o:=s.o) (w:=w) id;have hro:=kF hs.ro id
 have hk':(s.o.set id none)[k]? = some (some ob):=by rw [Q0 hne];exact hk
 have hh:ob.hl=({ ob with rows:=ob.rows.set i (row.set j x') }:aa).hl:=by simp [aa.hl]
 obtain ⟨g,cur,hb⟩: ∃g cur,rF D nu (s.o.set id none) w k ob g cur:=by
  rcases hro.obj k ob hk' with ⟨_,e,_⟩|h|⟨g,es,cl,hm⟩
  ·rw [e] at hr;simp at hr
  ·exact h
  ·have:=hm.z;omega
 have hm:=iZ (nu:=nu) (o:=s.o.set id none) (w:=w) (w':=w) (ob':={ ob with rows:=ob.rows.set i (row.set j x') }) hk' hh.symm hb.bC rfl rfl rfl rfl (fun _ _=>rfl);refine ⟨nu,hp.trans hm,rfl, ?_,(hs.tm.mono hp (fun _ _ h=>h)).mono hm (fun _ _ h=>h),hs.gy⟩;have hil:=(QD.1 hr).1;have hjl:=(QD.1 hj).1;have hsl:=hto D nu w hs.ro
 have key: ∀(i' j':Nat) r c,(ob.rows.set i (row.set j x'))[i']? = some r->r[j']? = some c-> ∃r0 c0,ob.rows[i']? = some r0∧r0[j']? = some c0∧(c=c0∨(c=x'∧c0 = .vec id len)):=by
  intro i' j' r c h1 h2
  by_cases hi:i=i'
  ·subst hi;rw [Q1 hil] at h1;cases h1
   by_cases hj':j=j'
   ·subst hj';rw [Q1 hjl] at h2;cases h2;exact ⟨row,_,hr,hj, .inr ⟨rfl,rfl⟩⟩
   ·rw [Q0 hj'] at h2;exact ⟨row,c,hr,h2, .inl rfl⟩
  ·rw [Q0 hi] at h1;exact ⟨r,c,h1,h2, .inl rfl⟩
 refine qF hro hk' hh.symm hb.bC hm (fun _ _=>rfl) (cur:=cur) ⟨hb.blk,hb.kD,fun hv'=> ?_,fun hv'=> ?_,hb.z,fun i' r hi'=> ?_,fun i' j' r c x h1 h2 h3=> ?_,fun i' j' r c x h1 h2 h3=> ?_⟩
 ·obtain ⟨q1,q2,q3⟩:=hb.box hv';exact ⟨q1,by simpa using q2,q3⟩
 ·obtain ⟨cap,q1,q2,q3,q4⟩:=hb.vec hv';exact ⟨cap,by simpa using q1,by simpa using q2,q3,q4⟩
 ·by_cases hi:i=i'
  ·subst hi;rw [Q1 hil] at hi';cases hi';rw [List.length_set];exact hb.row i row hr
  ·rw [Q0 hi] at hi';exact hb.row i' r hi'
 ·obtain ⟨r0,c0,k1,k2,e⟩:=key i' j' r c h1 h2;have h0:=hb.cell i' j' r0 c0 x k1 k2 h3
  rcases e with rfl|⟨rfl,rfl⟩
  ·exact h0.mono hm (fun _ _ h=>h)
  ·have hx:x=nu id len:=by
    cases h0 with
    | vec=>rfl
   rw [hx];exact hsl.mono hm (fun _ _ h=>h)
 ·obtain ⟨r0,c0,k1,k2,_⟩:=key i' j' r c h1 h2;exact hb.one i' j' r0 c0 x k1 k2 h3
theorem CG {s:AS} {k i j id:Nat} {ob ob2:aa} {row:List AV} (hne:id≠k) (hk:s.o[k]? = some (some ob)) (hz:0<ob.z) (hr:ob.rows[i]? = some row) (hj:row[j]? = some (.vec id 0)) (ho:s.o[id]? = some (some ob2)) (hv:ob2.fj=false) (hz2:ob2.z=0) :
  u7 s (AS.mk s.t ((s.o.set id none).set k (some { ob with rows:=ob.rows.set i (row.set j (.mp ob2.rows)) })) s.y):=Io (.mp ob2.rows) (fun D nu w h=>EN h ho hv hz2) hne hk hz hr hj
end
def iM (l:List Nat):List (List AV):=l.zipIdx.map (fun p=>[.v (.int .i64 (p.1:Nat)), .v (.int .i64 (p.2:Nat))])
@[go_sem] theorem PU (n:Nat) (l:List Nat):dz n (iM l)=true:=bA _ (fun p=>rfl) _
theorem zL (x:Nat): ∀(l:List Nat) (k:Nat),kS (.int .i64) (.int .i64 (x:Nat)) ((l.zipIdx k).map (fun p=>[.v (.int .i64 (p.1:Nat)), .v (.int .i64 (p.2:Nat))]))=some ((l.findIdx? (fun y=>x==y)).map (fun n=> .v (.int .i64 ((n+k:Nat):Int))))
 | [],k=>rfl
 | a :: l,k=>by
  have ih:=zL x l (k+1);rw [List.zipIdx_cons,Tc,kS,if_pos (show di (.int .i64) (.int .i64 (a:Nat))=true from rfl)]
  have e:dQ (.int .i64 (x:Nat)) (.int .i64 (a:Nat))=(x==a):=by
   rw [dQ,Bool.eq_iff_iff,beq_iff_eq,beq_iff_eq];omega
  rw [e,List.findIdx?_cons]
  cases h:x==a
  ·simp only [Bool.false_eq_true,if_false];rw [ih,Option.map_map]
   congr 2;funext i;simp;omega
  ·simp
theorem Jd (x:Nat) (l:List Nat):kS (.int .i64) (.int .i64 (x:Nat)) (iM l)=some ((l.findIdx? (fun y=>x==y)).map (fun n=> .v (.int .i64 (n:Nat)))):=zL x l 0
theorem zO (x:Nat) (v:AV): ∀(l:List Nat) (k:Nat),l.findIdx? (fun y=>x==y)=none->lj (.int .i64) (.int .i64 (x:Nat)) v ((l.zipIdx k).map (fun p=>[.v (.int .i64 (p.1:Nat)), .v (.int .i64 (p.2:Nat))]))=some ((l.zipIdx k).map (fun p=>[.v (.int .i64 (p.1:Nat)), .v (.int .i64 (p.2:Nat))])++[[.v (.int .i64 (x:Nat)),v]])
 | [],k,_=>rfl
 | a :: l,k,h=>by
  rw [List.findIdx?_cons] at h
  have e:dQ (.int .i64 (x:Nat)) (.int .i64 (a:Nat))=(x==a):=by
   rw [dQ,Bool.eq_iff_iff,beq_iff_eq,beq_iff_eq];omega
  cases hh:x==a
  ·rw [hh] at h;simp only [Bool.false_eq_true,if_false,Option.map_eq_none_iff] at h;have ih:=zO x v l (k+1) h;rw [List.zipIdx_cons,Tc,lj,if_pos (show di (.int .i64) (.int .i64 (a:Nat))=true from rfl),e,hh,if_neg (by decide),ih];rfl
  ·rw [hh] at h;simp at h
theorem Je (x:Nat) (l:List Nat) (h:l.findIdx? (fun y=>x==y)=none):lj (.int .i64) (.int .i64 (x:Nat)) (.v (.int .i64 (l.length:Nat))) (iM l)=some (iM (l++[x])):=by
 rw [iM,zO x _ l 0 h,iM,List.zipIdx_append];simp
theorem GN {o:List (Option aa)} {z1 l1 z2 l2:Nat} {r1 r2:List (List AV)} (h1:dz 0 r1=true) (h2:dz 0 r2=true):ej o (.agg [.aE z1 r1 l1, .aE z2 r2 l2]) (.agg [.aE z1 r1 l1, .aE z2 r2 l2]):=
 ej.of 5 (p:=(AV.aE z1 r1 l1).wf 0=true∧(AV.aE z2 r2 l2).wf 0=true∧True) (by simp only [fW,fl]) ⟨by rw [AV.wf];exact h1,by rw [AV.wf];exact h2,trivial⟩
def gA (rows:List bL) (ends:List Bool):AV:= .agg (gV rows ends)
def rh (n:Nat) (part:List Nat) (order:List Nat) (rows:List bL) (ends:List Bool):List (Option aa):=[some ⟨162,2,false,[[.vec 6 rows.length, .vec 7 rows.length]]⟩,some ⟨75,1,false,[[.aE 1 (az part) n]]⟩,some ⟨198,0,false,iM (order.map (fun s=>part.getD s 0))⟩,some ⟨198,1,false,[[.vec 2 0]]⟩,some ⟨3,1,true,az order⟩,some ⟨75,1,false,[[.vec 4 order.length]]⟩,some ⟨193,1,true,rows.map (fun r=>[.mp (cU r)])⟩,some ⟨4,1,true,ends.map (fun b=>[.v (.bool b)])⟩]
theorem GZ {rows:List bL} {ends:List Bool} (ok:NC rows ends) (h0:0<rows.length) (hpt:(fA rows ends).length=rows.length):ah Tryz.prog 115 [.vp (gV rows ends)] (gA (iK rows ends (fA rows ends)).rows (iK rows ends (fA rows ends)).ends):=by
 have hN:=ok.n;have hE:=ok.e;have CP:=Hu ok;generalize hpart:fA rows ends=part at CP hpt
 have hA:bw 0 [AV.vp (gV rows ends)]=true:=by simp only [gV,bw,AV.wf,mH,mG,SE]
 have hF:(gA (iK rows ends part).rows (iK rows ends part).ends).wf 0=true:=by simp only [gA,gV,bw,AV.wf,mH,mG,SE]
 generalize hrv:gA (iK rows ends part).rows (iK rows ends part).ends=rv at hF ⊢
 (refine ah.yv Tryz.func115 rfl (by kernel_rfl) (by kernel_rfl) rfl hA hF ?_;simp only [Tryz.ntmps115,Tryz.results115,QI,QC,Nat.reduceAdd,Nat.reduceSub,SG,SH,SB,SA])
 simp only [gV,hE] at CP hA ⊢
 have eP:(az part).getD 0 []=[.v (.int .i64 ((part.getD 0 0:Nat):Int))]:=by
  rw [az,Rw,QV,QS (by omega),Rw,QS (by omega)];rfl
 repeat (first|(with_reducible first|refine af.up ?_|refine fun (K:AK) hK=> ?_|refine wE ?_|refine wD ?_|refine wK ?_|refine wF ?_|(refine hK _ ?_;clear hK K))|simp only [go_sem]|with_reducible refine wA ?_|clear hK K)
 refine ae.one CP ?_
 repeat ((fail_if_success (with_reducible refine br (i:=4) ?_));first|(with_reducible first|refine af.up ?_|refine fun (K:AK) hK=> ?_|refine wK ?_|refine wF ?_|(refine hK _ ?_;clear hK K))|simp only [go_sem,eP]|with_reducible refine wA ?_|clear hK K)
 refine aJ (b7 (k:=0) (i:=0) (j:=0) 193 1 (by decide) rfl (by decide) rfl rfl) (by kernel_rfl) ?_;simp only [Se,Sd,QI,QC,Nat.reduceAdd,SB,SA];refine aJ (b7 (k:=0) (i:=0) (j:=1) 4 1 (by decide) rfl (by decide) rfl rfl) (by kernel_rfl) ?_;simp only [Se,Sd,QI,QC,Nat.reduceAdd,SB,SA]
 repeat (first|(with_reducible first|refine af.up ?_|refine fun (K:AK) hK=> ?_|refine wE ?_|refine wD ?_|refine wK ?_|refine wF ?_|(refine hK _ ?_;clear hK K))|simp only [go_sem]|with_reducible refine wA ?_|clear hK K)
 refine cM (ι:=C4) 7 (fun st=>[(6, .v (.int .i64 st.rows.length))]) (fun st=>rh rows.length part st.order st.rows st.ends) (fun st=>rows.length+1 - st.rows.length) (fun st=>KM rows part st∧gA (Co rows ends part (rows.length+1 - st.rows.length) st).rows (Co rows ends part (rows.length+1 - st.rows.length) st).ends=rv) q0
  ⟨Lv rows part h0,hrv⟩ ?_ ?_
 ·simp only [rh,q0]
  (refine aj ?_ ?_ ?_<;>simp only [aT,R8,Sb,SG,SH,bj,bg,AV.v.injEq,Value.int.injEq,Value.bool.injEq,Value.string.injEq,AV.vec.injEq,AV.ptr.injEq,true_or,or_true,false_or,or_false,aa.mk.injEq,forall_eq_apply_imp_iff,forall_eq,forall_eq',go_sem])
  all_goals first|rfl|exact ⟨rfl,rfl⟩|exact ⟨rfl,rfl,rfl⟩|exact ⟨⟨rfl,rfl⟩,rfl⟩|trace_state
 ·rintro st ⟨hok,hrun⟩ K hK;have hol:=qh part hok.nd hok.lt;have hle:=hok.le;have hel:=hok.ends
  have eL: ∀l:List Nat,(az l).length=l.length:=fun l=>by simp [az]
  simp only [rh]
  repeat (first|(with_reducible first|refine af.up ?_|refine fun (K:AK) hK=> ?_|refine wE ?_|refine wD ?_|refine wK ?_|refine wF ?_|(refine hK _ ?_;clear hK K))|simp only [go_sem,eL]|with_reducible refine wA ?_|clear hK K)
  refine cQ.part (fun h=> ?_) (fun h=> ?_)
  ·have hlt:st.rows.length<st.order.length:=by (try simp only [bne_iff_ne,ne_eq,bne_eq_false_iff_eq,beq_iff_eq,beq_eq_false_iff_ne,decide_eq_true_eq,decide_eq_false_iff_not,SI,Int.natCast_inj,Int.ofNat_lt,Int.ofNat_le] at h);omega
   have hcu:iY st<rows.length:=hok.lt _ (ia hlt);have eW:=aM (k:=st.rows.length) (by omega)
   have eG:(az st.order).getD st.rows.length []=[.v (.int .i64 ((iY st:Nat):Int))]:=by
    rw [iY,az,Rw,QV,QS hlt,Rw,QS hlt];rfl
   have CS:=AA rows ends (iY st);have hlr:=ok.lab _ (Su hcu);have hln:=ok.len _ (Su hcu);have hseq:=sW rows ends (iY st) hcu (by omega) (fun p hp=>Nat.le_trans (hlr p hp).1 (by decide)) (ok.rm _ (Su hcu)) (by omega);simp only [gV,hE] at CS hseq;have hri:=ok.rm _ (Su hcu)
   have hg:rows.getD (iY st) []=rows[iY st]:=by rw [Rw,QS hcu];rfl
   have hnx:nY rows ends part st=⟨(ij part st.order rows[iY st]).1,st.rows++[(ij part st.order rows[iY st]).2],st.ends++[ends.getD (iY st) false]⟩:=by rw [nY,hg]
   generalize rows[iY st]=row at hlr hln hseq hnx hri hg;rw [show rows.length+1 - st.rows.length=(rows.length - st.rows.length)+1 by omega,Co,if_pos hlt] at hrun
   repeat (first|(with_reducible first|refine af.up ?_|refine fun (K:AK) hK=> ?_|refine wE ?_|refine wD ?_|refine wK ?_|refine wF ?_|(refine hK _ ?_;clear hK K))|simp only [go_sem,eG,eL,h]|with_reducible refine wA ?_|clear hK K)
   refine ae.one CS ?_
   repeat (first|(with_reducible first|refine af.up ?_|refine fun (K:AK) hK=> ?_|refine wE ?_|refine wD ?_|refine wK ?_|refine wF ?_|(refine hK _ ?_;clear hK K))|simp only [go_sem]|with_reducible refine wA ?_|clear hK K)
   refine jh hseq 35 (fun k=>rh rows.length part (ij part st.order (row.take k)).1 st.rows st.ends++[some ⟨193,0,false,cU (ij part st.order (row.take k)).2⟩,some ⟨193,1,false,[[.vec 8 0]]⟩]) (fun k=>k<=row.length) (Nat.zero_le _) ?_ ?_ ?_ (by kernel_rfl) (by kernel_rfl) ?_ ?_ ?_
   ·repeat (first|(with_reducible first|refine af.up ?_|refine fun (K:AK) hK=> ?_|refine wE ?_|refine wD ?_|refine wK ?_|refine wF ?_|(refine hK _ ?_;clear hK K))|simp only [go_sem]|with_reducible refine wA ?_|clear hK K)
   ·simp only [bw,AV.wf,mH,mG,SE]
   ·simp only [rh,SB,SA,List.take_zero,ij,Sb]
    (refine aj ?_ ?_ ?_<;>simp only [aT,R8,Sb,SG,SH,bj,bg,AV.v.injEq,Value.int.injEq,Value.bool.injEq,Value.string.injEq,AV.vec.injEq,AV.ptr.injEq,true_or,or_true,false_or,or_false,aa.mk.injEq,forall_eq_apply_imp_iff,forall_eq,forall_eq',go_sem])
    all_goals rfl
   ·intro x hx;obtain ⟨o,_,rfl⟩:=List.mem_map.1 hx
    rfl
   ·intro k x hk hx
    obtain ⟨hkl,hx⟩: ∃h:k<row.length,x=[.v (.string row[k].1), .v (.int .i64 (row[k].2:Nat))]:=by
     obtain ⟨h1,h2⟩:=QD.1 hx;simp only [cU,Rv] at h1;exact ⟨h1,by rw [<-h2];simp [cU]⟩
    subst hx;obtain ⟨hz1,hz2⟩:=hlr _ (Su hkl)
    have eT:(az part).getD row[k].2 []=[.v (.int .i64 ((part.getD row[k].2 0:Nat):Int))]:=by
     rw [az,Rw,QV,QS (by omega),Rw,QS (by omega)];rfl
    have hI:=sI part st.order (row.take k) row[k];rw [<-List.take_succ_eq_append_getElem hkl,Fe] at hI;obtain ⟨k1,k2,k3,k4,k5,_⟩:=uq part (n:=rows.length) hok.nd hok.lt (row.take k) (fun p hp=>(hlr _ (List.mem_of_mem_take hp)).2);have hdl:=qh part k1 k2
    have hnl:look (ij part st.order (row.take k)).2 row[k].1=none:=si.2 fun q=>by
     rw [k5] at q;exact ua (l:=row.map Prod.fst) (oP hri) (i:=k) (by simpa using hkl) (by simpa [List.map_take] using q)
    rcases hqs:ij part st.order (row.take k) with ⟨od,ow⟩
    rw [hqs] at hI k1 k2 k3 k4 k5 hdl hnl;simp only at hI k1 k2 k3 k4 k5 hdl hnl;have eA:=Jd (part.getD row[k].2 0) (od.map (fun s=>part.getD s 0));have hqp:(od.map (fun s=>part.getD s 0)).findIdx? (fun y=>part.getD row[k].2 0==y)=za part od (part.getD row[k].2 0):=rfl;simp only [rh,SB,SA]
    cases hp:za part od (part.getD row[k].2 0) with
    | some n=>
     rw [hqp,hp] at eA;rw [hp] at hI;simp only [Option.map_some] at eA hI;have eS:=mP row[k].1 n ow hnl
     repeat (first|(with_reducible first|refine af.up ?_|refine fun (K:AK) hK=> ?_|refine wE ?_|refine wD ?_|refine wK ?_|refine wF ?_|(refine hK _ ?_;clear hK K))|simp only [go_sem,eT,eA,eS]|with_reducible refine wA ?_|clear hK K)
     simp only [rh,SB,SA,hI]
     (refine aj ?_ ?_ ?_<;>simp only [aT,R8,Sb,SG,SH,bj,bg,AV.v.injEq,Value.int.injEq,Value.bool.injEq,Value.string.injEq,AV.vec.injEq,AV.ptr.injEq,true_or,or_true,false_or,or_false,aa.mk.injEq,forall_eq_apply_imp_iff,forall_eq,forall_eq',go_sem])
    | none=>
     rw [hqp,hp] at eA;rw [hp] at hI;simp only [Option.map_none] at eA hI;have eS:=mP row[k].1 od.length ow hnl;have eK:=Je (part.getD row[k].2 0) (od.map (fun s=>part.getD s 0)) (hqp.trans hp);rw [Rv] at eK
     repeat (first|(with_reducible first|refine af.up ?_|refine fun (K:AK) hK=> ?_|refine wE ?_|refine wD ?_|refine wK ?_|refine wF ?_|(refine hK _ ?_;clear hK K))|simp only [go_sem,eT,eA,eS,eK,eL]|with_reducible refine wA ?_|clear hK K)
     simp only [rh,SB,SA,hI]
     (refine aj ?_ ?_ ?_<;>simp only [aT,R8,Sb,SG,SH,bj,bg,AV.v.injEq,Value.int.injEq,Value.bool.injEq,Value.string.injEq,AV.vec.injEq,AV.ptr.injEq,true_or,or_true,false_or,or_false,aa.mk.injEq,forall_eq_apply_imp_iff,forall_eq,forall_eq',go_sem])
     exact ⟨by rw [Ta];rfl,by simp [az]⟩
   ·intro _
    have hmr:(cU row).length=row.length:=by simp [cU]
    simp only [hmr,List.take_length];obtain ⟨k1,k2,k3,k4,k5,t,k6⟩:=uq part (n:=rows.length) hok.nd hok.lt row (fun p hp=>(hlr _ hp).2);have hdl:=qh part k1 k2
    rcases hqs:ij part st.order row with ⟨od,ow⟩
    rw [hqs] at k1 k2 k3 k4 k5 k6 hdl hnx;simp only at k1 k2 k3 k4 k5 k6 hdl hnx
    have eG2:(az od).getD st.rows.length []=[.v (.int .i64 ((iY st:Nat):Int))]:=by
     rw [k6,az,Ta,fc (by rw [Rv];exact hlt)];exact eG
    have eE:(ends.map (fun b=>[AV.v (.bool b)])).getD (iY st) []=[.v (.bool (ends.getD (iY st) false))]:=by
     rw [Rw,QV,QS (by omega),Rw,QS (by omega)];rfl
    generalize ends.getD (iY st) false=be at eE hnx;simp only [rh,SB,SA]
    repeat ((fail_if_success (with_reducible refine br (i:=17) ?_));first|(with_reducible first|refine af.up ?_|refine fun (K:AK) hK=> ?_|refine wK ?_|refine wF ?_|(refine hK _ ?_;clear hK K))|simp only [go_sem]|with_reducible refine wA ?_|clear hK K)
    refine aJ (CG (k:=9) (i:=0) (j:=0) (by decide) rfl (Tp _) rfl rfl rfl rfl rfl) (by kernel_rfl) ?_;simp only [Se,Sd]
    repeat (first|(with_reducible first|refine af.up ?_|refine fun (K:AK) hK=> ?_|refine wE ?_|refine wD ?_|refine wK ?_|refine wF ?_|(refine hK _ ?_;clear hK K))|simp only [go_sem,eG2,eE,eL,eW]|with_reducible refine wA ?_|clear hK K)
    have hnok:KM rows part (nY rows ends part st):=Ff rows ends part (fun r hr p hp=>(ok.lab r hr p hp).2) hok hlt;rw [hnx] at hnok hrun
    refine aQ.mk ⟨od,st.rows++[ow],st.ends++[be]⟩ ⟨hnok, ?_⟩ ?_ ?_
    ·rw [show rows.length+1 - (C4.rows ⟨od,st.rows++[ow],st.ends++[be]⟩).length=rows.length - st.rows.length by simp only [QH,Sl];omega];exact hrun
    ·show rows.length+1 - (st.rows++[ow]).length<rows.length+1 - st.rows.length;rw [QH,Sl];omega
    ·simp only [rh,QH,Sl,Ta,Tc,List.map_nil]
     (refine aj ?_ ?_ ?_<;>simp only [aT,R8,Sb,SG,SH,bj,bg,AV.v.injEq,Value.int.injEq,Value.bool.injEq,Value.string.injEq,AV.vec.injEq,AV.ptr.injEq,true_or,or_true,false_or,or_false,aa.mk.injEq,forall_eq_apply_imp_iff,forall_eq,forall_eq',go_sem])
     all_goals trace_state
  ·have hge:st.rows.length=st.order.length:=by (try simp only [bne_iff_ne,ne_eq,bne_eq_false_iff_eq,beq_iff_eq,beq_eq_false_iff_ne,decide_eq_true_eq,decide_eq_false_iff_not,SI,Int.natCast_inj,Int.ofNat_lt,Int.ofNat_le] at h);omega
   rw [show rows.length+1 - st.rows.length=(rows.length - st.rows.length)+1 by omega,Co,if_neg (by omega)] at hrun;clear h
   repeat ((fail_if_success (with_reducible refine br (i:=19) ?_));first|(with_reducible first|refine af.up ?_|refine fun (K:AK) hK=> ?_|refine wK ?_|refine wF ?_|(refine hK _ ?_;clear hK K))|simp only [go_sem]|with_reducible refine wA ?_|clear hK K)
   refine aJ (cm (k:=0) (i:=0) (j:=0) (by decide) rfl (Tp _) rfl rfl rfl rfl (Rv _)) (by kernel_rfl) ?_;simp only [Se,Sd];refine aJ (cm (k:=0) (i:=0) (j:=1) (by decide) rfl (Tp _) rfl rfl rfl rfl ((Rv _).trans hel)) (by kernel_rfl) ?_;simp only [Se,Sd]
   repeat (first|(with_reducible first|refine af.up ?_|refine fun (K:AK) hK=> ?_|refine wE ?_|refine wD ?_|refine wK ?_|refine wF ?_|(refine hK _ ?_;clear hK K))|simp only [go_sem]|with_reducible refine wA ?_|clear hK K)
   rw [<-hrun];simp only [gA,gV,hel];exact GN (mH _ _) (mG _ _)
end
section
open Go.RowKit Go.Shelf
def Gz:Go.Shelf.Ren:=⟨fun|194=>149|n=>n,fun|31=>43|9=>9|3=>3|4=>4|0=>0|n=>n,fun n=>n⟩
theorem vB:Lays.n194 Tryz.prog Gz:={
 mixed:=by kernel_rfl
 f194:=Tryz.func149
 t0:=by kernel_rfl
 a0:=fun w=>by kernel_rfl
 z0:=fun w=>by kernel_rfl
 v0:=fun w=>by kernel_rfl
 t3:=by kernel_rfl
 a3:=fun w=>by kernel_rfl
 z3:=fun w=>by kernel_rfl
 v3:=fun w=>by kernel_rfl
 t4:=by kernel_rfl
 a4:=fun w=>by kernel_rfl
 z4:=fun w=>by kernel_rfl
 v4:=fun w=>by kernel_rfl
 t9:=by kernel_rfl
 a9:=fun w=>by kernel_rfl
 z9:=fun w=>by kernel_rfl
 v9:=fun w=>by kernel_rfl
 t31:=by kernel_rfl
 a31:=fun w=>by kernel_rfl
 z31:=fun w=>by kernel_rfl
 v31:=fun w=>by kernel_rfl }
attribute [local go_sem] Oper.semAt_some
def lD (l:List XC):List ByteArray:=(l.filter (fun c=>c.kind==1)).map (fun c=>c.label)
theorem B3 (l:List XC) (c:XC):lD (l++[c])=if c.kind=1 then lD l++[c.label] else lD l:=by
 by_cases h:c.kind=1<;>simp [lD,h]
theorem we (l:List XC):(lD l).length<=l.length:=by
 rw [lD,Rv];exact List.length_filter_le _ _
def nj (x:Ex):List (List UInt8):=Go.Lib.compact (((cu x).map (fun s=>s.data.toList)).mergeSort (fun x y=>decide (x<=y)))
def dX (x:Ex):List ByteArray:=(nj x).map (fun l=>⟨l.toArray⟩)
open Go.Sort in
theorem yN (x:Ex) (cx:List Value) (w:World) (hx:cL w x cx) (hok:x.ok) (hR:aV x=true) (hN:(aA x).length<=1000000) (hE: ∀L:List XC,L.map XC.sig=(aA x).map Ex.sig->lD L=cu x) :
  Calls Tryz.prog 113 #[.agg cx.toArray] w fun e w'=> ∃v,e = .returned v∧gT w' (dX x) v∧Below w.heap.size w w'∧ ∀b off n c,v = .slice (some ⟨b,off,none⟩) n c->w.heap.size<=b:=by
 have HRt:=Lib.hid (fun W hb=>hR ▸ lQ x cx W (hx.below hb) hok);obtain ⟨k,s,kids⟩:=x;have hx':=hx;rw [cL] at hx;obtain ⟨sv,rfl,hr⟩:=hx;obtain ⟨p,c,rfl, -, -⟩:=hr.shape;refine (callsIn_wide (n:=9)).1 ?_;have HX:=Lib.hid hx';have HO:=Lib.hid hok;have HN:=Lib.hid hN;have HE:=Lib.hid hE;clear hx' hok hN hr hE;obtain ⟨i0,hi,hz0,hz1,hz2⟩:=info_parts zZ;have HI:=Lib.hid (show _∧_∧_∧_ from ⟨hi,hz0,hz1,hz2⟩);clear hi hz0 hz1 hz2;refine callsIn_of_wp_marks Tryz.func113 rfl trivial ?_ rfl;simp only [Tryz.ntmps113,List.size_toArray,List.length_cons,List.length_nil,Nat.reduceAdd,Nat.reduceSub,Array.replicate_succ,Array.replicate_zero,List.push_toArray,List.append_toArray,List.nil_append,List.cons_append]
 gi_wp2_with fail
 refine ⟨trivial,(callsIn_wide.2 (HRt.out _ (((Below.refl w.heap.size w).alloc (Qy _) _).alloc (by simp) _))).mono ?_⟩;rintro e w1 ⟨rfl,hb1⟩;have HB1:=Lib.hid hb1;clear hb1;have hxb:w1.heap[w.heap.size]? = some (.cells #[.int .i64 k, .string s, .slice p kids.length c] 38 (0,0)):=(HB1.out.block w.heap.size (by simp;omega)).trans (iw (cG w (.cells #[.int .i64 k, .string s, .slice p kids.length c] 38)) _);have hob:w1.heap[w.heap.size+1]? = some (.cells #[.slice none 0 0] 43 (0,0)):=(HB1.out.block (w.heap.size+1) (by simp)).trans (by have:=cG (w.alloc (.cells #[.int .i64 k, .string s, .slice p kids.length c] 38)) (.cells #[.slice none 0 0] 43);simpa using this);have hx0:=ax hxb 0;have hx1:=ax hxb 1;have hx2:=ax hxb 2;simp only [QU,RU,SC] at hx0 hx1 hx2
 gi_wp2_with fail
 refine ⟨trivial, ?_⟩;refine (callsIn_wide.2 (sD _ _ _ _ _ _)).mono ?_;rintro e w' ⟨rfl,rfl⟩
 gi_wp2_with fail
 have hn1:w.heap.size+2<=w1.heap.size:=by simpa using HB1.out.size
 obtain ⟨W0,hW0⟩: ∃W0,w1.alloc (.cells #[.int .i64 k, .string s, .slice p kids.length c] 38)=W0:=⟨_,rfl⟩
 have hs0:W0.heap.size=w1.heap.size+1:=by rw [<-hW0];simp
 have hb01:Below w1.heap.size w1 W0:=by rw [<-hW0];exact (Below.refl _ _).alloc (Qy _) _
 have hb0:Below w.heap.size w W0:=ab (ab (((Below.refl w.heap.size w).alloc (Qy _) _).alloc (by simp) _) HB1.out) hb01;have hbo:W0.heap[w.heap.size+1]? = some (.cells #[.slice none 0 0] 43 (0,0)):=(hb01.block _ (by omega)).trans hob
 have hbp:W0.heap[w1.heap.size]? = some (.cells #[.int .i64 k, .string s, .slice p kids.length c] 38 (0,0)):=by rw [<-hW0];exact cG w1 _
 have hseq:=nW Fence.wide (fun _=>trivial) rfl rfl 8 w.heap.size (w.heap.size+2) w1.heap.size 9 (by decide) _ _ w W0 (Qy _) (by omega) HX.out HO.out (.of hb0) hbp;rw [hW0];clear hxb hob hx0 hx1 hx2 hbp
 refine Fl (lb:= #[.pointer (some ⟨w1.heap.size,0,none⟩)]) (gf:=185) rfl (enters_of Tryz.func185 (by kernel_rfl) rfl) hseq (Below.refl _ _) (fun _=>rfl)
  (fun pre W=>(∃v,Boxed W (w.heap.size+1) 43 v∧W.ownsRow w.heap.size 9 1 v (lD pre).length ((lD pre).map Value.string)∧True)∧(Below w.heap.size w W∧W0.heap.size<=W.heap.size)) (fun _ _ _=>False)
  (((holdsRow_own w.heap.size (w.heap.size+1) 43 9 1 (fun pre:List XC=>(lD pre).length) (fun pre=>(lD pre).map Value.string) (fun _ _=>True)).from _).and ((ownFrom_below (Qy _) (by omega)).and (fun _ _ _ _ hs hg _=>Nat.le_trans hs hg.size)))
  (fun _ _ _ _ _ hs _ _=>hs) ⟨⟨_,hbo,World.ownsRow_nil _ _ _ _,trivial⟩,hb0,Qy _⟩ 3 (fun c=> #[.int .i64 c.kind, .string c.label, .slice c.ptr c.len c.cap]) 38 (fun _ _ h=>h.2.2) ?assign ?body ?done ?stop
 case assign=>
  intro l x W K hK;simp only [handed,XC.val,R9,Sa,R8,Sb,Sc,Sd,Se];simp only [handed,XC.val,Act.gx,R9,Sa,R8,Sb,Sc,Sd,Se] at hK
  gi_wp2
  exact hK
 case body=>
  rintro l pre x B W hl hrec ⟨⟨v,hv,hrow, -⟩,hB,hsz⟩ hBB hbB hlen;have hvc:=hv.cell;have hvf:=hv.frozen;have hle:=we pre;have hNN:=HN.out;have hp0:=ax hbB 0;have hp1:=ax hbB 1;simp only [QU,RU,SC] at hp0 hp1;have HS:=Lib.hid (B3 pre x);have hxl:=x.hl;simp only [handed,Act.gx,R9,Sa,R8,Sb,Sc,Sd,Se]
  by_cases hh:x.kind=1
  ·have HH:=Lib.hid hh;have HV:=Lib.hid hv;have HR:=Lib.hid hrow;have HB:=Lib.hid hB;have HZ:=Lib.hid hsz;clear hv hrow hB hsz
   gi_wp2_with (gi_at_builtin;refine wpListIn_append_own _ rfl _ _ 43 rfl w.heap.size 9 i0 (.string ⟨#[]⟩) 1 16 Tryz.underlying43 HI.out.1 HI.out.2.1 HI.out.2.2.1 HI.out.2.2.2 rfl (by decide) _ _ _ rfl (HR.out.alloc _) ⟨W.heap.size,0,none⟩ 1 1 [.string x.label] rfl rfl (cell_one_new _ _ _) (by simp [Value.oneCell']) (by unfold maxLen;omega) (by omega) (by have:=HB.out.size;simp;omega) ?_;intro v' w1' hown' hgrow _;obtain ⟨g',cap',rfl⟩:=ownsRow_succ hown';obtain ⟨hv1,hv2,hr2,hk2,hb2⟩:=HV.out.appended (by decide) HR.out HB.out.size (Tq _) hown' hgrow;have HKP:=Lib.hid (kY (hi:=w.heap.size+2) HR.out hgrow (Tq _) (Nat.lt_succ_self _) (.slice (some ⟨g',0,none⟩) ((lD pre).length+1) cap'));have hc1:=hv1.cell;have hf1:=hv1.frozen;have HV2:=Lib.hid hv2;have HR2:=Lib.hid hr2;have HK2:=Lib.hid hk2;have HB2:=Lib.hid hb2;clear hv1 hv2 hr2 hk2 hb2 hown' hgrow)
   refine ⟨HK2.out.from _,HKP.out,⟨_,HV2.out, ?_,trivial⟩,HB.out.trans HB2.out,Nat.le_trans HZ.out HK2.out.size⟩;rw [HS.out,if_pos HH.out];simpa using HR2.out
  ·have HH:=Lib.hid hh;have HV:=Lib.hid hv;have HR:=Lib.hid hrow;have HB:=Lib.hid hB;have HZ:=Lib.hid hsz;clear hv hrow hB hsz
   gi_wp2
   refine ⟨KeepsFrom.refl _ _,Kept.refl _ _ _ _,⟨v,HV.out, ?_,trivial⟩,HB.out,HZ.out⟩;rw [HS.out,if_neg HH.out];exact HR.out
 case done=>
  rintro D xs W hD hS ⟨⟨v,hv,hrow, -⟩,hB,hsz⟩ hK;rw [HE.out xs hS] at hrow
  have hne: ¬w.heap.size+1=D:=by omega
  have hvc:=hv.cell;have hvf:=hv.frozen;have hob:W.heap[w.heap.size+1]? = some (.cells #[v] 43 (0,0)):=hv
  have hlen:(cu (.mk k s kids)).length<=1000000:=by
   rw [<-HE.out xs hS];have h1:=we xs;have h2:=HN.out
   have h3:xs.length=(aA (.mk k s kids)).length:=by simpa using congrArg List.length hS
   omega
  have HBw:=Lib.hid hB;have HKw:=Lib.hid hK
  have hD2:w1.heap.size+1<=D:=by omega
  clear hB hK hS hsz hs0 hb01 hb0 hbo hseq
  rcases hrow.2 with ⟨rfl,hz⟩|⟨g,cap,cur,rfl,hgb,hgh,r1,r2,r3,r4⟩
  ·have hnil:cu (.mk k s kids)=[]:=List.eq_nil_of_length_eq_zero hz;have HNil:=Lib.hid hnil;have HOb:=Lib.hid hob;clear hrow hv hob hnil hz
   gi_wp2_with fail
   refine ⟨trivial,(callsIn_wide.2 (AnyM.slices_Sort_string_none kO none 0 _)).mono ?_⟩;rintro e w2 ⟨rfl,rfl⟩
   gi_wp2_with fail
   refine ⟨trivial,(callsIn_wide.2 (Any.slices_Compact_string_empty vB none 0 _)).mono ?_⟩;rintro e w2 ⟨rfl,rfl⟩
   gi_wp2_with fail
   have hKs:=cZ HKw.out (b:=w.heap.size+1) (o:=0) (.slice none 0 0) (by omega);refine ⟨by simp, .inl ⟨_,_,rfl,run_takeDeferred hKs, ?_⟩⟩;have hbx:=cY (fK HOb.out (.slice none 0 0)) (.deferred none) (D:=D) hne;have hcf:=ax hbx 0;simp only [QU,RU] at hcf
   refine ⟨.slice none 0 0, ?_,_,rfl, ?_, ?_,fun b off n c e=>by cases e⟩
   ·simp [results,Tryz.results113,go_sem,hcf]
   ·have:dX (.mk k s kids)=[]:=by rw [dX,nj,HNil.out,List.map_nil,List.mergeSort_nil];rfl
    rw [this];exact .inl ⟨.inl rfl,rfl⟩
   ·exact gY (HBw.out.setCell (p:=⟨w.heap.size+1,0,none⟩) (Tq _) _) (by omega) _ hKs
  ·obtain ⟨nm,hnm⟩: ∃nm:List (List UInt8),(cu (.mk k s kids)).map (fun s=>s.data.toList)=nm:=⟨_,rfl⟩
   have hl1:(cu (.mk k s kids)).length=nm.length:=by rw [<-hnm,Rv]
   have hen:(cu (.mk k s kids)).map Value.string=nm.map encStr:=by
    rw [<-hnm,List.map_map];exact List.map_congr_left fun p _=>by simp [encStr]
   have hU:nj (.mk k s kids)=Go.Lib.compact (nm.mergeSort (fun x y=>decide (x<=y))):=by rw [nj,hnm]
   rw [hl1] at hlen;simp only [hl1,hen] at r1 r4 hvc hv hob hrow;rw [Nat.mul_one] at r4;have hgl:g<W.heap.size:=(QB.1 hgh).1
   have hgo:w.heap.size+1≠g:=fun e=>by
    subst e;rw [hob] at hgh;cases hgh
   have hgD:D≠g:=fun e=>by
    subst e;have:=HKw.out;rw [this] at hgh;cases hgh
   have hH:=holds_of_block hgh r4;have CS:=Lib.hid (AnyM.slices_Sort_string kO g 0 cap nm W hH hgl (by omega));have HOb:=Lib.hid hob;have HG:=Lib.hid hgh;have HR:=Lib.hid (show _∧_∧_ from ⟨r1,r2,r3⟩);have HU:=Lib.hid hU;clear hrow hv hob hH r4 hnm hen hU r1 r2 r3 hgh;simp only [hl1];clear hl1
   gi_wp2_with fail
   refine ⟨trivial,(callsIn_wide.2 CS.out).mono ?_⟩;rintro e w2 ⟨rfl,kk,os,rfl⟩;obtain ⟨r1,r2,r3⟩:=HR.out;have hg2:=heap_sorted (n:=kk) (os:=os) (nm.mergeSort (fun x y=>decide (x<=y))).toArray HG.out;have hgr2:=grownBy_sorted (w:=W) (g:=g) (n:=kk) (os:=os) (nm.mergeSort (fun x y=>decide (x<=y))).toArray;have hls:(nm.mergeSort (fun x y=>decide (x<=y))).length=nm.length:=List.length_mergeSort _;have htk:=take_putCells cur (nm.mergeSort (fun x y=>decide (x<=y))) (by rw [hls,r3];omega)
   have hsz2:(putCells encStr 0 (nm.mergeSort (fun x y=>decide (x<=y))).toArray cur).size=cap:=by simp [putCells,r3]
   have hDl:D<W.heap.size:=(QB.1 HKw.out).1;generalize hW2:Go.Sort.grow (putRow encStr (Go.Sort.ahead W kk) g 0 (nm.mergeSort (fun x y=>decide (x<=y))).toArray) os=W2 at *;have hob2:W2.heap[w.heap.size+1]? = some (.cells #[.slice (some ⟨g,0,none⟩) nm.length cap] 43 (0,0)):=(hgr2.block _ (QB.1 HOb.out).1 (by simpa using hgo)).trans HOb.out;have hD3:W2.heap[D]? = some (.deferred (some [])):=(hgr2.block _ hDl (by simpa using hgD)).trans HKw.out;have hB2:Below w.heap.size w W2:=HBw.out.grown hgr2 HBw.out.size (fun j e=>by cases e;exact hgb);have hc2:=ax hob2 0;have hf2:=cF hob2 0;simp only [QU,RU] at hc2;have hH2:=holds_of_block hg2 htk;have CC:=Lib.hid (Any.slices_Compact_string vB g 0 cap (nm.mergeSort (fun x y=>decide (x<=y))) W2 hH2 (by omega) (by omega));rw [hls] at CC;have HG2:=Lib.hid hg2;have HOb2:=Lib.hid hob2;have HD3:=Lib.hid hD3;have HB2:=Lib.hid hB2;have HS2:=Lib.hid hsz2;clear hg2 hgr2 htk hsz2 hW2 hob2 hD3 hB2 hH2 HOb HG HKw HBw CS hvc hvf
   gi_wp2_with fail
   refine ⟨trivial,(callsIn_wide.2 CC.out).mono ?_⟩;rintro e w3 ⟨rfl,q,rfl⟩
   have hcl:(nj (.mk k s kids)).length<=nm.length:=by rw [HU.out, <- hls];exact Go.Lib.compact_length_le _
   rw [<-HU.out];generalize hZ:(nj (.mk k s kids)++List.replicate (nm.length - (nj (.mk k s kids)).length) ([]:List UInt8))=Z
   have hZl:Z.length=nm.length:=by rw [<-hZ,List.length_append,List.length_replicate];omega
   have hg3:=heap_sorted (n:=q) (os:= #[]) Z.toArray HG2.out;have hgr3:=grownBy_sorted (w:=W2) (g:=g) (n:=q) (os:= #[]) Z.toArray;have htk:=take_putCells (putCells encStr 0 (nm.mergeSort (fun x y=>decide (x<=y))).toArray cur) Z (by rw [hZl,HS2.out];omega);rw [grow_empty] at hg3 hgr3;have hDl:D<W2.heap.size:=(QB.1 HD3.out).1;generalize putRow encStr (Go.Sort.ahead W2 q) g 0 Z.toArray=W3 at *;have hob3:W3.heap[w.heap.size+1]? = some (.cells #[.slice (some ⟨g,0,none⟩) nm.length cap] 43 (0,0)):=(hgr3.block _ (QB.1 HOb2.out).1 (by simpa using hgo)).trans HOb2.out;have hD4:W3.heap[D]? = some (.deferred (some [])):=(hgr3.block _ hDl (by simpa using hgD)).trans HD3.out;have hB3:Below w.heap.size w W3:=HB2.out.grown hgr3 HB2.out.size (fun j e=>by cases e;exact hgb);have hc3:=ax hob3 0;have hf3:=cF hob3 0;simp only [QU,RU] at hc3;have HG3:=Lib.hid hg3;have HOb3:=Lib.hid hob3;have HD4:=Lib.hid hD4;have HB3:=Lib.hid hB3;have HT:=Lib.hid htk;have HZ:=Lib.hid hZ;have HZl:=Lib.hid hZl;clear hg3 hgr3 htk hob3 hD4 hB3 hZ hZl hc2 hf2
   gi_wp2_with fail
   have hKs:=cZ HD4.out (b:=w.heap.size+1) (o:=0) (.slice (some ⟨g,0,none⟩) (nj (.mk k s kids)).length cap) (by omega);refine ⟨by simp, .inl ⟨_,_,rfl,run_takeDeferred hKs, ?_⟩⟩;have hbx:=cY (fK HOb3.out (.slice (some ⟨g,0,none⟩) (nj (.mk k s kids)).length cap)) (.deferred none) (D:=D) hne;have hcf:=ax hbx 0;simp only [QU,RU] at hcf
   refine ⟨.slice (some ⟨g,0,none⟩) (nj (.mk k s kids)).length cap, ?_,_,rfl, ?_, ?_,fun b off n c e=>by cases e;exact hgb⟩
   ·simp [results,Tryz.results113,go_sem,hcf]
   ·have hg4:=cY (cZ HG3.out (b:=w.heap.size+1) (o:=0) (.slice (some ⟨g,0,none⟩) (nj (.mk k s kids)).length cap) hgo.symm) (.deferred none) (D:=D) hgD.symm;refine .inr ⟨g,0,cap,by rw [dX,Rv],by rw [dX,Rv];omega,r2,fun i x hx=>⟨[.string x],rfl, ?_,trivial⟩⟩;rw [ax hg4]
    have hi:i<(nj (.mk k s kids)).length:=by simpa [dX] using (List.getElem?_eq_some_iff.1 hx).1
    have e1:=congrArg (fun l:List Value=>l[i]?) HT.out
    have hZi:Z[i]? = some (nj (.mk k s kids))[i]:=by rw [<-HZ.out,List.getElem?_append_left hi,QS hi]
    rw [HZl.out,List.getElem?_take_of_lt (by omega),Array.getElem?_toList,List.getElem?_map,hZi] at e1;rw [Nat.zero_add,Nat.mul_one,e1];rw [dX,List.getElem?_map,QS hi] at hx;simp only [Option.map_some,Option.some.injEq] at hx;simp [encStr, <- hx]
   ·exact gY (HB3.out.setCell (p:=⟨w.heap.size+1,0,none⟩) (Tq _) _) (by omega) _ hKs
 case stop=>
  rintro D c pre W _ _ h _;exact h.elim
end
section
section
open Go.Lib
theorem K8 {α:Type} [Inhabited α] [DecidableEq α] {le:α->α->Prop} (tr: ∀a b c,le a b->le b c->le a c) (an: ∀a b,le a b->le b a->a=b) (rf: ∀a,le a a) (d:Array α) (hs: ∀i j,i<=j->j<d.size->le d[i]! d[j]!) :
  ∀m,m<=d.size->(compactUpTo d m).Pairwise (fun a b=>le a b∧a≠b)∧(∀x,x∈compactUpTo d m ↔ ∃j,j<m∧x=d[j]!)∧ ∀x,x∈compactUpTo d m->le x d[m - 1]!
 | 0,_=>⟨by simp [compactUpTo],fun x=>by simp [compactUpTo],fun x h=>by simp [compactUpTo] at h⟩
 | m+1,hm=>by
  obtain ⟨h1,h2,h3⟩:=K8 tr an rf d hs m (by omega);rw [compactUpTo_succ]
  have hle: ∀x,x∈compactUpTo d m->le x d[m]! :=fun x hx=>by
   rcases Nat.eq_zero_or_pos m with e|e
   ·subst e;simp [compactUpTo] at hx
   ·exact tr _ _ _ (h3 x hx) (hs (m - 1) m (by omega) (by omega))
  by_cases hk:keeps d m=true
  ·rw [if_pos hk]
   refine ⟨?_,fun x=> ?_,fun x hx=> ?_⟩
   ·rw [List.pairwise_append];refine ⟨h1,by simp,fun a ha b hb=> ?_⟩;simp only [Sj,Sk,or_false] at hb;subst hb;refine ⟨hle a ha,fun e=> ?_⟩
    rcases Nat.eq_zero_or_pos m with q|q
    ·subst q;simp [compactUpTo] at ha
    ·have hne:d[m]! ≠ d[m - 1]! :=by
      simp only [keeps,decide_eq_true_eq] at hk
      rcases hk with hk|hk
      ·omega
      ·exact hk
     have h4:=h3 a ha;have h5:=hs (m - 1) m (by omega) (by omega);rw [e] at h4;exact hne (an _ _ h4 h5)
   ·simp only [List.mem_append,Sj,Sk,or_false,h2 x]
    constructor
    ·rintro (⟨j,hj,rfl⟩|rfl)
     ·exact ⟨j,by omega,rfl⟩
     ·exact ⟨m,by omega,rfl⟩
    ·rintro ⟨j,hj,rfl⟩
     rcases QF j m with q|q
     ·exact .inl ⟨j,q,rfl⟩
     ·obtain rfl:j=m:=by omega
      exact .inr rfl
   ·rw [Nat.add_sub_cancel];simp only [List.mem_append,Sj,Sk,or_false] at hx
    rcases hx with hx|rfl
    ·exact hle x hx
    ·exact rf _
  ·rw [if_neg hk,Tr]
   have hm0:m≠0∧d[m]! = d[m - 1]! :=by
    simp only [keeps,decide_eq_true_eq] at hk;exact ⟨fun e=>hk (.inl e),Tg fun e=>hk (.inr e)⟩
   refine ⟨h1,fun x=> ?_,fun x hx=>by rw [Nat.add_sub_cancel];exact hle x hx⟩;rw [h2 x]
   constructor
   ·rintro ⟨j,hj,rfl⟩;exact ⟨j,by omega,rfl⟩
   ·rintro ⟨j,hj,rfl⟩
    rcases QF j m with q|q
    ·exact ⟨j,q,rfl⟩
    ·obtain rfl:j=m:=by omega
     exact ⟨j - 1,by omega,hm0.2⟩
theorem pk (l:List (List UInt8)):(Go.Lib.compact (l.mergeSort (fun x y=>decide (x<=y)))).Pairwise (fun a b=>a<b)∧ ∀x,x∈Go.Lib.compact (l.mergeSort (fun x y=>decide (x<=y)))↔x∈l:=by
 have hsort:(l.mergeSort (fun x y=>decide (x<=y))).Pairwise (fun x y=>decide (x<=y)=true):=List.pairwise_mergeSort (fun a b c h1 h2=>by simp only [decide_eq_true_eq] at *; exact List.le_trans h1 h2) (fun a b=>by simp only [Bool.or_eq_true,decide_eq_true_eq];exact List.le_total a b) _;have hperm:=List.mergeSort_perm l (fun x y=>decide (x<=y));generalize l.mergeSort (fun x y=>decide (x<=y))=s at hsort hperm
 have hs: ∀i j,i<=j->j<s.toArray.size->s.toArray[i]! <= s.toArray[j]! :=fun i j hij hj=>by
  have hj':j<s.length:=by simpa using hj
  have hi':i<s.length:=by omega
  rw [getElem!_pos s.toArray i (by simpa using hi'),getElem!_pos s.toArray j hj];simp only [List.getElem_toArray]
  rcases QF i j with q|q
  ·have:=List.pairwise_iff_getElem.1 hsort i j hi' hj' q
   simpa using this
  ·obtain rfl:i=j:=by omega
   exact List.le_refl _
 obtain ⟨h1,h2,_⟩:=K8 (le:=fun a b:List UInt8=>a<=b) (fun _ _ _=>List.le_trans) (fun _ _=>List.le_antisymm) (fun _=>List.le_refl _) s.toArray hs s.length (by simp)
 refine ⟨?_,fun x=> ?_⟩
 ·show (compactUpTo s.toArray s.length).Pairwise _;refine h1.imp fun {a b} ⟨q1,q2⟩=> ?_;exact Tg fun h=>q2 (List.le_antisymm q1 (List.not_lt.1 h))
 ·show x∈compactUpTo s.toArray s.length↔_;rw [h2 x, <- hperm.mem_iff]
  constructor
  ·rintro ⟨j,hj,rfl⟩;rw [getElem!_pos s.toArray j (by simpa using hj)];simp
  ·intro hx;obtain ⟨j,hj,rfl⟩:=List.getElem_of_mem hx;exact ⟨j,hj,by rw [getElem!_pos s.toArray j (by simpa using hj)];simp⟩
end
theorem nk (x:Ex):lU (dX x):=by
 rw [lU,dX,List.pairwise_map]
 exact (pk _).1.imp fun h=>by simpa using h
theorem me {x:Ex} {s:ByteArray}:s∈dX x↔s∈cu x:=by
 rw [dX,Tt]
 constructor
 ·rintro ⟨l,h,rfl⟩
  have:=((pk _).2 l).1 h
  obtain ⟨t,h1,rfl⟩:=Tt.1 this;simpa using h1
 ·intro h;exact ⟨s.data.toList,((pk _).2 _).2 (List.mem_map_of_mem h),by simp⟩
theorem tR (x:Ex):(dX x).Nodup:=oP (nk x)
theorem EA (x:Ex):(dX x).length<=(cu x).length:=(tR x).length_le_of_subset fun _ h=>me.1 h
theorem pX {x:Ex} (h:Fit x):((aA x).filter (fun y=>y.kind==1)).map Ex.label=cu x:=by
 induction h with
 | lab s=>simp [aA,bZ,cu,Ex.kind,Ex.label]
 | many k s l hk hl hf ih=>
  have hk1: ¬k=1:=by rcases hk with rfl|rfl<;>decide
  rw [aA,bZ,fR hk1,Tu (by simpa [Ex.kind] using hk1)];clear hl hf
  induction l with
  | nil=>rfl
  | cons a l ih2=>
   rw [List.flatMap_cons,List.filter_append,List.map_append,bt,ih a (by simp),ih2 (fun y hy=>ih y (by simp [hy]))]
 | one k s x hk hf ih=>
  have hk1: ¬k=1:=by rcases hk with rfl|rfl|rfl<;>decide
  rw [aA,bZ,fR hk1,Tu (by simpa [Ex.kind] using hk1),List.flatMap_cons,List.flatMap_nil,Tr,ih,bt,bt,Tr]
theorem yM {x:Ex} (h:Fit x) (L:List XC) (e:L.map XC.sig=(aA x).map Ex.sig):lD L=cu x:=by
 rw [<-pX h]
 have h1:lD L=((L.map XC.sig).filter (fun c=>c.1==1)).map (fun c=>c.2.1):=by
  rw [lD,List.filter_map,List.map_map];rfl
 have h2:((aA x).filter (fun y=>y.kind==1)).map Ex.label=(((aA x).map Ex.sig).filter (fun c=>c.1==1)).map (fun c=>c.2.1):=by
  have e1:((fun c:Int×ByteArray×Nat=>c.1==1) ∘ Ex.sig)=fun y=>y.kind==1:=by funext y;cases y;rfl
  have e2:((fun c:Int×ByteArray×Nat=>c.2.1) ∘ Ex.sig)=Ex.label:=by funext y;cases y;rfl
  rw [List.filter_map,List.map_map,e1,e2]
 rw [h1,h2,e]
theorem ED (x:Ex) (h:x.ok) (hr:aV x=true):ah Tryz.prog 113 [.agg (bn x)] (aS (dX x)):=
 .uc (by kernel_rfl) (by simp only [bw,AV.wf,kr,SE]) (fun D nu w vargs hh=>by
  obtain ⟨a,rfl,ha⟩:=dI hh;obtain ⟨ca,rfl,ka⟩:=lK ha
  have hp:(aA x).length<=1000000:=by
   have:=hr
   simp only [aV,Rq,decide_eq_true_eq] at this;omega
  exact yN x ca w (qB x ca ka) h hr hp (yM (sN hr).1))
theorem wg {x:Ex} (hr:aV x=true) {l:ByteArray} (h:l∈cu x):dn l=true:=by
 rw [<-pX (sN hr).1,Tt] at h;obtain ⟨y,hy,rfl⟩:=h;rw [List.mem_filter] at hy
 have hp:y.part=true:=by
  simp only [aV,Rq,List.all_eq_true] at hr;exact hr.2 y hy.1
 obtain ⟨k,s,kids⟩:=y
 have hk:k=1:=by simpa [Ex.kind] using hy.2
 subst hk;simp only [Ex.part,bO,BEq.rfl,if_true,Rq] at hp;exact hp.2
theorem BN {s:ByteArray} (h:dn s=true):s.size<=20:=by
 simp only [dn,kp,Rq,decide_eq_true_eq] at h;exact h.1.1.2
theorem GM {s:ByteArray} (h:dn s=true):32∉s.data.toList:=fun hm=>by
 simp only [dn,kp,Rq,List.all_eq_true] at h
 have:=h.1.1.1.1 32 hm
 revert this;decide
theorem GX {x:Ex} (hr:aV x=true): ∀l∈dX x,32∉l.data.toList:=fun l hl=>GM (wg hr (me.1 hl))
theorem GY {x:Ex} (hr:aV x=true): ∀l∈dX x,l.size<=20:=fun l hl=>BN (wg hr (me.1 hl))
theorem EB {x:Ex} (hr:aV x=true):(dX x).length<=24:=by
 have N:=wq hr
 have:=EA x
 have:=N.ok.n
 rw [N.ai] at this;omega
theorem JV {x:Ex} (hr:aV x=true) {st:oD} (h:sU x (dX x)=some st):NC st.rows st.ends∧0<st.rows.length∧(fA st.rows st.ends).length=st.rows.length:=by
 obtain ⟨ho,hl,hw⟩:=Ia (cV (iV x)) (iV x).em (ay (iV x).la) (tR x) h;have hz0:(st.all)[0]? = some [0]:=hw.zero
 have hpos:0<st.rows.length:=by rw [hl];exact (List.getElem?_eq_some_iff.1 hz0).1
 have hT:=Cx ho hl;obtain ⟨_,hpl⟩:=y5 st.rows st.ends (Cw (GX hr) ho) hT hpos ho.ends
 refine ⟨⟨by have:=ho.max;omega,ho.ends,fun r hr'=>(nk x).sublist (ho.row r hr').1,fun r hr'=> ?_,fun r hr' p hp=>⟨?_,hT r hr' p hp⟩⟩,hpos,hpl⟩
 ·have:=(ho.row r hr').1.length_le
  have:=EB hr
  simp only [List.length_map] at *; omega
 ·have:=GY hr _ ((ho.row r hr').1.subset (List.mem_map_of_mem hp));omega
def nM (A:FP):List AV:=gV A.rows A.ends++[aS A.ai]
theorem xF (n:Nat) (A:FP):bw n (nM A)=true:=by simp only [nM,gV,aS,SB,SA,bw,AV.wf,mH,mG,aD,SE]
theorem Jk (A:FP):ah Tryz.prog 116 [.vp (nM A)] (.v (.int .i64 A.rows.length)):=by
 simp only [nM,gV,aS,SB,SA]
 (refine ah.enter Tryz.func116 rfl (by kernel_rfl) (by kernel_rfl) rfl (by first|rfl|(simp only [go_sem,SE,R0,R3])) (by first|rfl|(simp only [go_sem,SE,R0,R3])) ?_;simp only [Tryz.ntmps116,Tryz.results116,QI,QC,Nat.reduceAdd,Nat.reduceSub,SG,SH,SB,SA])
 repeat (first|(with_reducible first|refine af.up ?_|refine fun (K:AK) hK=> ?_|(refine hK _ ?_;clear hK K))|simp only [go_sem]|clear hK K)
noncomputable def B8 (x:Ex):AV:=match zQ x (dX x) with
 | .inl A=> .dA [.vp (nM A), .v (.int .i64 0)]
 | .inr e=> .dA [.v (.pointer none), .v (.int .i64 e)]
theorem AG (x:Ex):(B8 x).wf 0=true:=by
 unfold B8
 split
 ·simp only [AV.wf,bw,xF,SE]
 ·rfl
theorem Jl (x:Ex) (ho:x.ok):ah Tryz.prog 70 [.agg (bn x)] (B8 x):=by
 have CN:=Ln x ho;have hF:=AG x
 have hu:B8 x=(if aV x then (match sU x (dX x) with
  | some st=>if 32<(jq (dX x) st).rows.length then .dA [.v (.pointer none), .v (.int .i64 11)] else .dA [.vp (nM (jq (dX x) st)), .v (.int .i64 0)]
  | none=> .dA [.v (.pointer none), .v (.int .i64 11)]) else .dA [.v (.pointer none), .v (.int .i64 2)]):=by
  unfold B8 zQ
  cases aV x
  ·rfl
  ·simp only [if_true]
   cases sU x (dX x) with
   | none=>rfl
   | some st=>
    by_cases h32:32<(jq (dX x) st).rows.length
    ·simp only [if_pos h32]
    ·simp only [if_neg h32]
 rw [hu] at hF ⊢;clear hu
 cases hr:aV x
 ·rw [hr] at CN hF;simp only [Bool.false_eq_true,if_false] at CN hF ⊢;simp only [bE] at *
  (refine ah.enter Tryz.func70 rfl (by kernel_rfl) (by kernel_rfl) rfl (by first|rfl|(simp only [go_sem,SE,R0,R3])) (by first|rfl|(simp only [go_sem,SE,R0,R3])) ?_;simp only [Tryz.ntmps70,Tryz.results70,QI,QC,Nat.reduceAdd,Nat.reduceSub,SG,SH,SB,SA])
  repeat (first|(with_reducible first|refine af.up ?_|refine fun (K:AK) hK=> ?_|(refine hK _ ?_;clear hK K))|simp only [go_sem]|clear hK K)
  refine ae.one CN ?_
  repeat (first|(with_reducible first|refine af.up ?_|refine fun (K:AK) hK=> ?_|(refine hK _ ?_;clear hK K))|simp only [go_sem]|clear hK K)
  (refine lR.of 40 rfl ?_;simp only [go_sem])
 ·have CL:=ED x ho hr;rw [hr] at CN hF;simp only [if_true] at CN hF ⊢;have ok:=(wq hr).ok;have hln:=EB hr;have CS:=JU ok (dX x) (tR x) (by omega) (lx _).2;have hS:sT (cV (iV x)) (iV x).em (ay (iV x).la) (dX x)=sU x (dX x):=rfl;rw [hS] at CS
  cases hst:sU x (dX x) with
  | none=>
   rw [hst] at CS hF;simp only [oe] at CS;simp only [bE,aS] at *
   (refine ah.enter Tryz.func70 rfl (by kernel_rfl) (by kernel_rfl) rfl (by first|rfl|(simp only [go_sem,SE,R0,R3])) (by first|rfl|(simp only [go_sem,SE,R0,R3])) ?_;simp only [Tryz.ntmps70,Tryz.results70,QI,QC,Nat.reduceAdd,Nat.reduceSub,SG,SH,SB,SA])
   repeat (first|(with_reducible first|refine af.up ?_|refine fun (K:AK) hK=> ?_|(refine hK _ ?_;clear hK K))|simp only [go_sem]|clear hK K)
   refine ae.one CN ?_
   repeat (first|(with_reducible first|refine af.up ?_|refine fun (K:AK) hK=> ?_|(refine hK _ ?_;clear hK K))|simp only [go_sem]|clear hK K)
   refine ae.one CL ?_
   repeat (first|(with_reducible first|refine af.up ?_|refine fun (K:AK) hK=> ?_|(refine hK _ ?_;clear hK K))|simp only [go_sem]|clear hK K)
   refine ae.one CS ?_
   repeat (first|(with_reducible first|refine af.up ?_|refine fun (K:AK) hK=> ?_|(refine hK _ ?_;clear hK K))|simp only [go_sem]|clear hK K)
   (refine lR.of 40 rfl ?_;simp only [go_sem])
  | some st=>
   rw [hst] at CS hF;obtain ⟨g1,g2,g3⟩:=JV hr hst;have CQ:=GZ g1 g2 g3;have CZ:=Jk (jq (dX x) st);simp only [oe] at CS
   by_cases h32:32<(jq (dX x) st).rows.length
   ·simp only [if_pos h32] at hF ⊢;simp only [bE,aS,nM,gA,jq,gV,SB,SA] at *;clear hF g1 g2 g3 hS hst;generalize iK st.rows st.ends (fA st.rows st.ends)=L at CQ CZ h32 ⊢
    (refine ah.enter Tryz.func70 rfl (by kernel_rfl) (by kernel_rfl) rfl (by first|rfl|(simp only [go_sem,SE,R0,R3])) (by first|rfl|(simp only [go_sem,SE,R0,R3])) ?_;simp only [Tryz.ntmps70,Tryz.results70,QI,QC,Nat.reduceAdd,Nat.reduceSub,SG,SH,SB,SA])
    repeat (first|(with_reducible first|refine af.up ?_|refine fun (K:AK) hK=> ?_|(refine hK _ ?_;clear hK K))|simp only [go_sem]|clear hK K)
    refine ae.one CN ?_
    repeat (first|(with_reducible first|refine af.up ?_|refine fun (K:AK) hK=> ?_|(refine hK _ ?_;clear hK K))|simp only [go_sem]|clear hK K)
    refine ae.one CL ?_
    repeat (first|(with_reducible first|refine af.up ?_|refine fun (K:AK) hK=> ?_|(refine hK _ ?_;clear hK K))|simp only [go_sem]|clear hK K)
    refine ae.one CS ?_
    repeat (first|(with_reducible first|refine af.up ?_|refine fun (K:AK) hK=> ?_|(refine hK _ ?_;clear hK K))|simp only [go_sem]|clear hK K)
    refine ae.one CQ ?_
    repeat (first|(with_reducible first|refine af.up ?_|refine fun (K:AK) hK=> ?_|(refine hK _ ?_;clear hK K))|simp only [go_sem]|clear hK K)
    refine ae.xL CZ 20 rfl (by simp only [go_sem,Nat.reduceLT,Nat.reduceLeDiff,Nat.reduceEqDiff,Nat.lt_add_one,Nat.zero_lt_one,and_self]) rfl ?_
    repeat (first|(with_reducible first|refine af.up ?_|refine fun (K:AK) hK=> ?_|(refine hK _ ?_;clear hK K))|simp only [go_sem]|clear hK K)
    refine cQ.part (fun h=> ?_) (fun h=> ?_)
    ·repeat (first|(with_reducible first|refine af.up ?_|refine fun (K:AK) hK=> ?_|(refine hK _ ?_;clear hK K))|simp only [go_sem]|clear hK K)
     (refine lR.of 40 rfl ?_;simp only [go_sem])
    ·exfalso;(try simp only [bne_iff_ne,ne_eq,bne_eq_false_iff_eq,beq_iff_eq,beq_eq_false_iff_ne,decide_eq_true_eq,decide_eq_false_iff_not,SI,Int.natCast_inj,Int.ofNat_lt,Int.ofNat_le] at h);omega
   ·simp only [if_neg h32] at hF ⊢;simp only [bE,aS,nM,gA,jq,gV,SB,SA] at *;clear hF g1 g2 g3 hS hst;generalize iK st.rows st.ends (fA st.rows st.ends)=L at CQ CZ h32 ⊢
    (refine ah.enter Tryz.func70 rfl (by kernel_rfl) (by kernel_rfl) rfl (by first|rfl|(simp only [go_sem,SE,R0,R3])) (by first|rfl|(simp only [go_sem,SE,R0,R3])) ?_;simp only [Tryz.ntmps70,Tryz.results70,QI,QC,Nat.reduceAdd,Nat.reduceSub,SG,SH,SB,SA])
    repeat (first|(with_reducible first|refine af.up ?_|refine fun (K:AK) hK=> ?_|(refine hK _ ?_;clear hK K))|simp only [go_sem]|clear hK K)
    refine ae.one CN ?_
    repeat (first|(with_reducible first|refine af.up ?_|refine fun (K:AK) hK=> ?_|(refine hK _ ?_;clear hK K))|simp only [go_sem]|clear hK K)
    refine ae.one CL ?_
    repeat (first|(with_reducible first|refine af.up ?_|refine fun (K:AK) hK=> ?_|(refine hK _ ?_;clear hK K))|simp only [go_sem]|clear hK K)
    refine ae.one CS ?_
    repeat (first|(with_reducible first|refine af.up ?_|refine fun (K:AK) hK=> ?_|(refine hK _ ?_;clear hK K))|simp only [go_sem]|clear hK K)
    refine ae.one CQ ?_
    repeat (first|(with_reducible first|refine af.up ?_|refine fun (K:AK) hK=> ?_|(refine hK _ ?_;clear hK K))|simp only [go_sem]|clear hK K)
    refine ae.xL CZ 20 rfl (by simp only [go_sem,Nat.reduceLT,Nat.reduceLeDiff,Nat.reduceEqDiff,Nat.lt_add_one,Nat.zero_lt_one,and_self]) rfl ?_
    repeat (first|(with_reducible first|refine af.up ?_|refine fun (K:AK) hK=> ?_|(refine hK _ ?_;clear hK K))|simp only [go_sem]|clear hK K)
    refine cQ.part (fun h=> ?_) (fun h=> ?_)
    ·exfalso;(try simp only [bne_iff_ne,ne_eq,bne_eq_false_iff_eq,beq_iff_eq,beq_eq_false_iff_ne,decide_eq_true_eq,decide_eq_false_iff_not,SI,Int.natCast_inj,Int.ofNat_lt,Int.ofNat_le] at h);omega
    ·repeat (first|(with_reducible first|refine af.up ?_|refine fun (K:AK) hK=> ?_|(refine hK _ ?_;clear hK K))|simp only [go_sem]|clear hK K)
     (refine lR.of 40 rfl ?_;simp only [go_sem])
def OU (A:FP) (s:Int):Bool:=decide (0<=s)&&decide (s<A.rows.length)&&A.ends.getD s.toNat false
def Pq (A:FP) (s:Int) (l:ByteArray):Option Nat:=if 0<=s∧s<A.rows.length then look (A.rows.getD s.toNat []) l else none
theorem K7 (l:List ByteArray) (hl:l.length<=1000000) (hne:l≠[]):bG Tryz.prog 75 [.aE 1 (l.map encS) l.length] [] (.vec 0 l.length) [some ⟨9,1,true,l.map encS⟩]:=by
 have hpos:0<l.length:=by cases l<;>simp_all
 have eL:(l.map encS).length=l.length:=by simp
 (refine bG.enter Tryz.func75 rfl (by kernel_rfl) (by kernel_rfl) rfl ?_;simp only [Tryz.ntmps75,Tryz.results75,QI,QC,Nat.reduceAdd,Nat.reduceSub,SG,SH,SB,SA])
 repeat (first|(with_reducible first|refine af.up ?_|refine fun (K:AK) hK=> ?_|(refine hK _ ?_;clear hK K))|simp only [go_sem,eL]|with_reducible refine wA ?_|clear hK K)
 refine ⟨fun e=>hne (by simpa using e), ?_⟩;have eT:(l.map encS).take l.length=l.map encS:=List.take_of_length_le (by omega)
 repeat (first|(with_reducible first|refine af.up ?_|refine fun (K:AK) hK=> ?_|(refine hK _ ?_;clear hK K))|simp only [go_sem,eL,eT]|with_reducible refine wA ?_|clear hK K)
 (refine ⟨?_, ?_, ?_⟩<;>simp only [bj,bg,AV.v.injEq,Value.int.injEq,Value.bool.injEq,Value.string.injEq,AV.vec.injEq,AV.ptr.injEq,true_or,or_true,false_or,or_false,aa.mk.injEq,forall_eq_apply_imp_iff,forall_eq,forall_eq',go_sem])
theorem K6:ah Tryz.prog 75 [.aE 1 [] 0] (.aE 1 [] 0):=by
 refine ⟨⟨rfl,rfl⟩,by kernel_rfl,fun D nu w vargs hro hra=> ?_⟩;obtain ⟨x,rfl,hx⟩:=dI hra;obtain ⟨a,c,rfl⟩:=Fh hx
 have key:Calls Tryz.prog 75 #[.slice a 0 c] w (fun e w'=> ∃b,e = .returned (.slice b 0 0)∧Below w.heap.size w w'):=by
  have hq: ∀w,(binOp .eql 43 (.slice a 0 c) (.slice none 0 0)).run Tryz.prog w = .ok (.bool a.isNone) w:=fun w=>(jC (by kernel_rfl)).1;have HB:=Lib.hid (fun ob=>((Below.refl w.heap.size w).alloc (Nat.le_refl _) ob))
  cases a with
  | none=>
   clear hx hra hro
   go_enter Tryz.func75,Tryz.ntmps75
   go_wp2
   go_ret
   exact ⟨none,rfl, .refl _ _⟩
  | some a=>
   clear hx hra hro
   go_enter Tryz.func75,Tryz.ntmps75
   go_wp2
   go_ret
   exact ⟨some _,rfl,HB.out _⟩
 refine key.mono ?_;rintro e w' ⟨b,rfl,hb⟩;refine ⟨_,nu,[], .aE 1 [] 0,rfl,ar hb,hro.below hb, ?_,rfl,rfl⟩
 cases b with
 | none=>exact .bm 1
 | some b=>exact .bz 1 b
theorem IK (l:List ByteArray) (hl:l.length<=1000000):ah Tryz.prog 75 [aS l] (aS l):=by
 by_cases h:l=[]
 ·subst h;exact K6
 ·exact (K7 l hl h).OV 8 rfl ⟨by simp,by simp,aD _ _⟩ (by simp only [go_sem]) (aD _ _)
end
end Go.Proofs.YtjcobjgjjlahdaaGreatDoor
