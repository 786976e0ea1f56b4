/- texts of one claim, one behind the other. -/
import Derived.Test.YtjcobjgjjlahdaaGreatDoorJNfaP
import Derived.Test.YtjcobjgjjlahdaaGreatDoorJPlanC
import Derived.Test.YtjcobjgjjlahdaaGreatDoorJPlanF
import Derived.Test.YtjcobjgjjlahdaaGreatDoorProg
import Derived.Test.YtjcobjgjjlahdaaGreatDoorJFen
import Derived.Test.YtjcobjgjjlahdaaGreatDoorJChk3
import Derived.Test.YtjcobjgjjlahdaaGreatDoorJOrdB
import Derived.Shelf.SlMaps.Equal
import Derived.Test.YtjcobjgjjlahdaaGreatDoorJEvery
import Derived.Test.YtjcobjgjjlahdaaGreatDoorJAbsV
import Derived.Test.YtjcobjgjjlahdaaGreatDoorJDfaE
set_option linter.unusedSimpArgs false
set_option linter.unusedVariables false
set_option maxRecDepth 100000
set_option maxHeartbeats 16000000
open Bool renaming and_self -> Tg, and_true -> SA, true_and -> SD, not_eq_eq_eq_not -> Tn
open List renaming length_cons -> Rg, length_nil -> Q9, replicate_succ -> Ti, replicate_zero -> Tj, cons_append -> Tl, nil_append -> Tm, foldl_cons -> SI, foldl_nil -> SL, getElem_mem -> S9, take_of_length_le -> TB, append_nil -> T3, map_nil -> TT, getElem?_cons_zero -> Su, getElem?_cons_succ -> Tc, mem_cons -> SZ, mem_cons_of_mem -> Sb, not_mem_nil -> S0, mem_cons_self -> Sd, length_pos_of_mem -> Ud, mem_erase_of_ne -> Ue, take_succ_eq_append_getElem -> SR, map_append -> TL, getElem?_eq_getElem -> Rp, sum_append -> Uf, mem_filter -> S5, all_eq_true -> Sg, length_append -> Rf, getElem?_map -> Rs, getElem?_take -> Rq
open Nat renaming le_refl -> Q5, lt_add_one -> TC, zero_lt_one -> TD
open Int renaming ofNat_lt -> Tp
open Option.some renaming inj -> Q4
namespace Go.Proofs.YtjcobjgjjlahdaaGreatDoor
open Go.RowKit
noncomputable def my (x:Ex):Int:=match Ae x (dZ x) with
 | .inl _=>0
 | .inr e=>e
theorem Fc (x:Ex) (ho:x.ok): ∃c:AV,c.wf 0=true∧ag Tryz.prog 70 [.agg (bg x)] (.dC [c, .v (.int .i64 (my x))]):=by
 have C:=JV x ho;have hF:=AZ x;unfold Cs at C hF;unfold my;generalize Ae x (dZ x)=y at C hF
 cases y with
 | inl A=>exact ⟨_,by simp only [AV.wf,bn,xW,Tg],C⟩
 | inr e=>exact ⟨.v (.pointer none),rfl,C⟩
noncomputable def nL:List bQ->Int
 | []=>0
 | p :: ps=>if p.path&&my p.expr !=0 then my p.expr else nL ps
theorem F0 {ps:List bQ} {k:Nat} (h:k<ps.length):nL (ps.drop k)=if ps[k].path&&my ps[k].expr !=0 then my ps[k].expr else nL (ps.drop (k+1)):=by
 rw [List.drop_eq_getElem_cons h,nL]
theorem CD (q:fg) (ho:q.ok) (h1:q.aj.length<=1000000):ag Tryz.prog 37 [.agg (cd q)] (.v (.int .i64 (nL q.aj))):=by
 have hok: ∀p∈q.aj,p.expr.ok:=fun p hp=>(ho.1 p hp).2.2.2.2;obtain ⟨ps,cs,rs,ra,sl⟩:=q;simp only [cd] at *
 (refine ag.enter Tryz.func37 rfl (by kernel_rfl) (by kernel_rfl) rfl (by first|rfl|(simp only [go_sem,Tg,SA,SD])) (by first|rfl|(simp only [go_sem,Tg,SA,SD])) ?_;simp only [Tryz.ntmps37,Tryz.results37,Rg,Q9,Nat.reduceAdd,Nat.reduceSub,Ti,Tj,Tl,Tm])
 repeat (first|(with_reducible first|refine af.up ?_|refine fun (K:AK) hK=> ?_|(refine hK _ ?_;clear hK K))|simp only [go_sem]|with_reducible refine wA ?_|clear hK K)
 refine ct (ι:=Nat) 11 (fun k=>[(4, .undef),(5, .undef),(6, .undef),(10, .v (.int .i64 k))]) (fun k=>ps.length - k) (fun k=>k<=ps.length∧nL (ps.drop k)=nL ps) 0 ⟨Nat.zero_le _,rfl⟩ ?_ ?_
 ·(refine ak ?_ ?_ ?_<;>simp only [aR,SI,SL,Ti,Tj,aX,aW,AV.v.injEq,Value.int.injEq,Value.bool.injEq,Value.string.injEq,AV.vec.injEq,AV.ptr.injEq,true_or,or_true,false_or,or_false,aa.mk.injEq,forall_eq_apply_imp_iff,forall_eq,forall_eq',go_sem])
  all_goals first|rfl|trace_state
 ·rintro k ⟨hk,he⟩ K hK;have eW:=aD (k:=k) (by omega)
  by_cases hlt:k<ps.length
  ·have e1:decide ((k:Int)<(ps.length:Int))=true:=decide_eq_true (by omega);have eG:=getD_map bM ps k [] hlt;obtain ⟨c,wc,CN⟩:=Fc ps[k].expr (hok _ (S9 hlt));rw [F0 hlt] at he;rw [bI] at CN;simp only [bM] at eG;generalize ps[k]=p at *
   cases hb:p.path
   ·rw [hb] at he;simp only [Bool.false_and,Bool.false_eq_true,if_false] at he
    repeat (first|(with_reducible first|refine af.up ?_|refine fun (K:AK) hK=> ?_|(refine hK _ ?_;clear hK K))|simp only [go_sem,e1,eG,hb]|with_reducible refine wA ?_|clear hK K)
    repeat (first|(with_reducible first|refine af.up ?_|refine fun (K:AK) hK=> ?_|(refine hK _ ?_;clear hK K))|simp only [go_sem,eW]|with_reducible refine wA ?_|clear hK K)
    exact aM.mk (k+1) ⟨hlt,he⟩ (by omega) (by (refine ak ?_ ?_ ?_<;>simp only [aR,SI,SL,Ti,Tj,aX,aW,AV.v.injEq,Value.int.injEq,Value.bool.injEq,Value.string.injEq,AV.vec.injEq,AV.ptr.injEq,true_or,or_true,false_or,or_false,aa.mk.injEq,forall_eq_apply_imp_iff,forall_eq,forall_eq',go_sem]))
   ·rw [hb] at he
    repeat (first|(with_reducible first|refine af.up ?_|refine fun (K:AK) hK=> ?_|(refine hK _ ?_;clear hK K))|simp only [go_sem,e1,eG,hb]|with_reducible refine wA ?_|clear hK K)
    refine ab.one CN ?_
    by_cases hz:my p.expr=0
    ·rw [hz] at he
     repeat (first|(with_reducible first|refine af.up ?_|refine fun (K:AK) hK=> ?_|(refine hK _ ?_;clear hK K))|simp only [go_sem,hz]|with_reducible refine wA ?_|clear hK K)
     repeat (first|(with_reducible first|refine af.up ?_|refine fun (K:AK) hK=> ?_|(refine hK _ ?_;clear hK K))|simp only [go_sem,eW]|with_reducible refine wA ?_|clear hK K)
     exact aM.mk (k+1) ⟨hlt,by simpa using he⟩ (by omega) (by (refine ak ?_ ?_ ?_<;>simp only [aR,SI,SL,Ti,Tj,aX,aW,AV.v.injEq,Value.int.injEq,Value.bool.injEq,Value.string.injEq,AV.vec.injEq,AV.ptr.injEq,true_or,or_true,false_or,or_false,aa.mk.injEq,forall_eq_apply_imp_iff,forall_eq,forall_eq',go_sem]))
    ·have f1:(my p.expr !=0)=true:=by simpa using hz
     have f2:(my p.expr==0)=false:=by simpa using hz
     rw [f1] at he
     repeat (first|(with_reducible first|refine af.up ?_|refine fun (K:AK) hK=> ?_|(refine hK _ ?_;clear hK K))|simp only [go_sem,f1,f2]|with_reducible refine wA ?_|clear hK K)
     rw [<-he]
     rfl
  ·have e1:decide ((k:Int)<(ps.length:Int))=false:=decide_eq_false (by omega)
   have e0:nL ps=0:=by rw [<-he,List.drop_of_length_le (by omega),nL]
   repeat (first|(with_reducible first|refine af.up ?_|refine fun (K:AK) hK=> ?_|(refine hK _ ?_;clear hK K))|simp only [go_sem,e1]|with_reducible refine wA ?_|clear hK K)
   rw [e0]
theorem s5 {z:Nat} {D:Nat->Prop} {nu:Nat->Nat->Value} {o:List (Option aa)} {w:World} {x:Value} (h:RA D nu o w (.aC z [] 0) x): ∃a c,x = .slice a 0 c:=by
 cases h with
 | bf=>exact ⟨_,_,rfl⟩
 | bC _ a=>exact ⟨_,_,rfl⟩
 | aC _ _ _ b off cap f=>exact ⟨_,_,rfl⟩
theorem LB (l:List ff) (hl:l.length<=1000000) (hne:l≠[]):bK Tryz.prog 38 [.aC 13 (l.map aH) l.length] [] (.vec 0 l.length) [some ⟨67,13,true,l.map aH⟩]:=by
 have hpos:0<l.length:=by cases l<;>simp_all
 have eL:(l.map aH).length=l.length:=by simp
 (refine bK.enter Tryz.func38 rfl (by kernel_rfl) (by kernel_rfl) rfl ?_;simp only [Tryz.ntmps38,Tryz.results38,Rg,Q9,Nat.reduceAdd,Nat.reduceSub,Ti,Tj,Tl,Tm])
 repeat (first|(with_reducible first|refine af.up ?_|refine fun (K:AK) hK=> ?_|(refine hK _ ?_;clear hK K))|simp only [go_sem,eL]|with_reducible refine wA ?_|clear hK K)
 refine ⟨fun e=>hne (by simpa using e), ?_⟩;have eT:(l.map aH).take l.length=l.map aH:=TB (by omega)
 repeat (first|(with_reducible first|refine af.up ?_|refine fun (K:AK) hK=> ?_|(refine hK _ ?_;clear hK K))|simp only [go_sem,eL,eT]|with_reducible refine wA ?_|clear hK K)
 (refine ⟨?_, ?_, ?_⟩<;>simp only [aX,aW,AV.v.injEq,Value.int.injEq,Value.bool.injEq,Value.string.injEq,AV.vec.injEq,AV.ptr.injEq,true_or,or_true,false_or,or_false,aa.mk.injEq,forall_eq_apply_imp_iff,forall_eq,forall_eq',go_sem])
theorem Lz:ag Tryz.prog 38 [.aC 13 [] 0] (.aC 13 [] 0):=by
 refine ⟨⟨rfl,rfl⟩,by kernel_rfl,fun D nu w vargs hro hra=> ?_⟩;obtain ⟨x,rfl,hx⟩:=dK hra;obtain ⟨a,c,rfl⟩:=s5 hx
 have key:Calls Tryz.prog 38 #[.slice a 0 c] w (fun e w'=> ∃b,e = .returned (.slice b 0 0)∧Below w.heap.size w w'):=by
  have hq: ∀w,(binOp .eql 23 (.slice a 0 c) (.slice none 0 0)).run Tryz.prog w = .ok (.bool a.isNone) w:=fun w=>(jK (by kernel_rfl)).1;have HB:=Lib.hid (fun ob=>((Below.refl w.heap.size w).alloc (Q5 _) ob))
  cases a with
  | none=>
   clear hx hra hro
   go_enter Tryz.func38,Tryz.ntmps38
   go_wp2
   go_ret
   exact ⟨none,rfl, .refl _ _⟩
  | some a=>
   clear hx hra hro
   go_enter Tryz.func38,Tryz.ntmps38
   go_wp2
   go_ret
   exact ⟨some _,rfl,HB.out _⟩
 refine key.mono ?_;rintro e w' ⟨b,rfl,hb⟩;refine ⟨_,nu,[], .aC 13 [] 0,rfl,aw hb,hro.below hb, ?_,rfl,rfl⟩
 cases b with
 | none=>exact .bf 13
 | some b=>exact .bC 13 b
theorem LA (l:List ff) (hl:l.length<=1000000):ag Tryz.prog 38 [.aC 13 (l.map aH) l.length] (.aC 13 (l.map aH) l.length):=by
 by_cases h:l=[]
 ·subst h;exact Lz
 ·exact (LB l hl h).MU 8 rfl ⟨by simp,by simp,bE _ (fun _=>rfl) _⟩ (by simp only [go_sem]) (bE _ (fun _=>rfl) _)
theorem LF (l:List dM) (hl:l.length<=1000000) (hne:l≠[]):bK Tryz.prog 40 [.aC 6 (l.map cz) l.length] [] (.vec 0 l.length) [some ⟨65,6,true,l.map cz⟩]:=by
 have hpos:0<l.length:=by cases l<;>simp_all
 have eL:(l.map cz).length=l.length:=by simp
 (refine bK.enter Tryz.func40 rfl (by kernel_rfl) (by kernel_rfl) rfl ?_;simp only [Tryz.ntmps40,Tryz.results40,Rg,Q9,Nat.reduceAdd,Nat.reduceSub,Ti,Tj,Tl,Tm])
 repeat (first|(with_reducible first|refine af.up ?_|refine fun (K:AK) hK=> ?_|(refine hK _ ?_;clear hK K))|simp only [go_sem,eL]|with_reducible refine wA ?_|clear hK K)
 refine ⟨fun e=>hne (by simpa using e), ?_⟩;have eT:(l.map cz).take l.length=l.map cz:=TB (by omega)
 repeat (first|(with_reducible first|refine af.up ?_|refine fun (K:AK) hK=> ?_|(refine hK _ ?_;clear hK K))|simp only [go_sem,eL,eT]|with_reducible refine wA ?_|clear hK K)
 (refine ⟨?_, ?_, ?_⟩<;>simp only [aX,aW,AV.v.injEq,Value.int.injEq,Value.bool.injEq,Value.string.injEq,AV.vec.injEq,AV.ptr.injEq,true_or,or_true,false_or,or_false,aa.mk.injEq,forall_eq_apply_imp_iff,forall_eq,forall_eq',go_sem])
theorem LC:ag Tryz.prog 40 [.aC 6 [] 0] (.aC 6 [] 0):=by
 refine ⟨⟨rfl,rfl⟩,by kernel_rfl,fun D nu w vargs hro hra=> ?_⟩;obtain ⟨x,rfl,hx⟩:=dK hra;obtain ⟨a,c,rfl⟩:=s5 hx
 have key:Calls Tryz.prog 40 #[.slice a 0 c] w (fun e w'=> ∃b,e = .returned (.slice b 0 0)∧Below w.heap.size w w'):=by
  have hq: ∀w,(binOp .eql 24 (.slice a 0 c) (.slice none 0 0)).run Tryz.prog w = .ok (.bool a.isNone) w:=fun w=>(jK (by kernel_rfl)).1;have HB:=Lib.hid (fun ob=>((Below.refl w.heap.size w).alloc (Q5 _) ob))
  cases a with
  | none=>
   clear hx hra hro
   go_enter Tryz.func40,Tryz.ntmps40
   go_wp2
   go_ret
   exact ⟨none,rfl, .refl _ _⟩
  | some a=>
   clear hx hra hro
   go_enter Tryz.func40,Tryz.ntmps40
   go_wp2
   go_ret
   exact ⟨some _,rfl,HB.out _⟩
 refine key.mono ?_;rintro e w' ⟨b,rfl,hb⟩;refine ⟨_,nu,[], .aC 6 [] 0,rfl,aw hb,hro.below hb, ?_,rfl,rfl⟩
 cases b with
 | none=>exact .bf 6
 | some b=>exact .bC 6 b
theorem LD (l:List dM) (hl:l.length<=1000000):ag Tryz.prog 40 [.aC 6 (l.map cz) l.length] (.aC 6 (l.map cz) l.length):=by
 by_cases h:l=[]
 ·subst h;exact LC
 ·exact (LF l hl h).MU 8 rfl ⟨by simp,by simp,bE _ (fun _=>rfl) _⟩ (by simp only [go_sem]) (bE _ (fun _=>rfl) _)
def bH (s:iT):List AV:=bM s.pat++[aK s.keys,aK s.binds, .aC 13 (s.conds.map aH) s.conds.length]
structure Nb where
 bound:List ByteArray
 waits:List ff
 steps:List iT
def fc (ps:List bQ) (d:Nb) (k:Nat):Nb:=⟨bB (eh ps k) d.bound,leftOf (eh ps k) d.bound d.waits,d.steps++[u7 (eh ps k) d.bound d.waits]⟩
def dq (ps:List bQ) (ks:List Nat) (cs:List ff) (k:Nat):Nb:=(ks.take k).foldl (fc ps) ⟨[],cs,[]⟩
theorem sV (ps:List bQ): ∀(ks:List Nat) (d:Nb),(ks.foldl (fc ps) d).steps=d.steps++nM ps ks d.bound d.waits
 | [],d=>by rw [SL,nM,T3]
 | k :: ks,d=>by rw [SI,sV ps ks,nM,fc,List.append_assoc];rfl
theorem kn (ps:List bQ) (ks:List Nat) (cs:List ff):(dq ps ks cs ks.length).steps=nM ps ks [] cs:=by
 rw [dq,List.take_length,sV];rfl
theorem da {ps:List bQ} {ks:List Nat} {cs:List ff} {k:Nat} (h:k<ks.length):dq ps ks cs (k+1)=fc ps (dq ps ks cs k) ks[k]:=by
 rw [dq,List.take_succ_eq_append_getElem h,List.foldl_append];rfl
theorem qj (p:bQ) (b:List ByteArray) (ws:List ff):(leftOf p b ws).length<=ws.length:=List.length_filter_le _ _
theorem im (ps:List bQ) (ks:List Nat) (cs:List ff): ∀k,k<=ks.length->(dq ps ks cs k).bound.length<=3 * k∧(dq ps ks cs k).waits.length<=cs.length∧(dq ps ks cs k).steps.length=k
 | 0,_=>⟨Q5 _,Q5 _,rfl⟩
 | k+1,h=>by
  obtain ⟨h1,h2,h3⟩:=im ps ks cs k (by omega);rw [da (by omega),fc];refine ⟨?_,Nat.le_trans (qj _ _ _) h2,by simp [h3]⟩
  have:=jb (eh ps ks[k]) (dq ps ks cs k).bound
  show (bB _ _).length<=_;omega
theorem kN: ∀(l acc:List ByteArray) (x:ByteArray),x∈acc∨x∈l->x∈l.foldl aq acc
 | [],acc,x,h=>by rcases h with h|h;exact h;cases h
 | a :: l,acc,x,h=>by
  rw [SI];refine kN l _ x ?_
  rcases h with h|h
  ·left;unfold aq;split
   ·exact h
   ·exact List.mem_append_left _ h
  ·rcases List.mem_cons.1 h with rfl|h
   ·left;unfold aq;split
    ·rename_i hb;exact dS.1 hb
    ·simp
   ·exact .inr h
theorem wV (p:bQ) (b:List ByteArray):bB p b≠[]:=by
 intro h
 have hm:p.aR∈bB p b:=by
  rw [bB];exact kN _ _ _ (.inr (by simp [aS]))
 rw [h] at hm;cases hm
theorem IC {ps:List bQ} {ks:List Nat} {cs:List ff} {k:Nat} (h:k<ks.length):(dq ps ks cs (k+1)).bound≠[]:=by
 rw [da h];exact wV _ _
noncomputable def gH (q:fg):Int:=if fR q≠0 then fR q else nL q.aj
def cm (q:fg):List iT:=nM q.aj (br q.aj) [] q.conds
noncomputable def jT (q:fg):AV:=if gH q≠0 then .dC [.agg [.v (.slice none 0 0), .v (.slice none 0 0), .v (.int .i64 0), .v (.int .i64 0)], .v (.int .i64 (gH q))] else .dC [.agg [.aC 11 ((cm q).map bH) (cm q).length, .aC 6 (q.ret.map cz) q.ret.length, .v (.int .i64 q.range), .v (.int .i64 q.kz)], .v (.int .i64 0)]
theorem xa (ps:List bQ):(br ps).length<=ps.length:=by
 have h:=(uD ps).len;have h2:=wW ps;simp at h;omega
theorem gU {ps:List bQ} {k:Nat} (h:k<ps.length):eh ps k=ps[k]:=by
 rw [eh,List.getD_eq_getElem?_getD,List.getElem?_eq_getElem h];rfl
theorem xV (n:Nat): ∀a b:List AV,bn n (a++b)=(bn n a&&bn n b)
 | [],b=>by simp [bn]
 | x :: a,b=>by rw [Tl,bn,bn,xV n a b,Bool.and_assoc]
theorem aO (n:Nat) (l:List iT):dA n (l.map bH)=true:=bE _ (fun d=>by simp only [bH,aK,xV,mO,bn,AV.wf,aA,jM,Tg,SA]) _
theorem xq (q:fg) (ho:q.ok) (h1:q.aj.length<=1000) (h2:q.conds.length<=1000) (h3:q.ret.length<=1000) (hx: ∀p∈q.aj,p.expr.lens 1000000):ag Tryz.prog 9 [.agg (cd q)] (jT q):=by
 have CQ:=sZ q ho (by omega) (by omega) (by omega);have CS:=CD q ho (by omega);have CO:=Lk q ho (by omega) (by omega) (by omega);have CC:=LA q.conds (by omega);have CR:=LD q.ret (by omega);have hol: ∀k∈br q.aj,k<q.aj.length:=fun k hk=>mA hk
 by_cases hc:fR q=0
 ·rw [if_pos hc] at CO;rw [hc] at CQ
  by_cases hs:nL q.aj=0
  ·have e0:gH q=0:=by rw [gH,if_neg (by simpa using hc)];exact hs
   have hR:jT q = .dC [.agg [.aC 11 ((cm q).map bH) (cm q).length, .aC 6 (q.ret.map cz) q.ret.length, .v (.int .i64 q.range), .v (.int .i64 q.kz)], .v (.int .i64 0)]:=by rw [jT,if_neg (by simpa using e0)]
   have hP:cm q=(dq q.aj (br q.aj) q.conds (br q.aj).length).steps:=(kn _ _ _).symm;rw [hR,hP];rw [hs] at CS;have hlen:=im q.aj (br q.aj) q.conds;have hsucc:=fun k (h:k<(br q.aj).length)=>da (ps:=q.aj) (cs:=q.conds) h;have hne:=fun k (h:k<(br q.aj).length)=>IC (ps:=q.aj) (cs:=q.conds) h;have h0:dq q.aj (br q.aj) q.conds 0=⟨[],q.conds,[]⟩:=rfl;have hle:(br q.aj).length<=1000:=Nat.le_trans (xa q.aj) h1;generalize dq q.aj (br q.aj) q.conds=pl at *;generalize br q.aj=ks at *;clear hR hP e0;obtain ⟨ps,cs,rs,ra,sl⟩:=q;simp only [cd] at *
   (refine ag.enter Tryz.func9 rfl (by kernel_rfl) (by kernel_rfl) rfl (by simp only [go_sem,bn,AV.wf,Tg,SA,SD,aO]) (by simp only [go_sem,bn,AV.wf,aA,Tg,SA,SD,aO]) ?_;simp only [Tryz.ntmps9,Tryz.results9,Rg,Q9,Nat.reduceAdd,Nat.reduceSub,Ti,Tj,Tl,Tm])
   repeat (first|(with_reducible first|refine af.up ?_|refine fun (K:AK) hK=> ?_|refine ar (by decide) ?_|(refine hK _ ?_;clear hK K))|simp only [go_sem]|with_reducible refine wA ?_|(refine aI rfl ?_)|(refine aB rfl ?_)|clear hK K)
   refine ab.one CQ ?_
   repeat (first|(with_reducible first|refine af.up ?_|refine fun (K:AK) hK=> ?_|refine ar (by decide) ?_|(refine hK _ ?_;clear hK K))|simp only [go_sem]|with_reducible refine wA ?_|(refine aI rfl ?_)|(refine aB rfl ?_)|clear hK K)
   refine ab.one CS ?_
   repeat (first|(with_reducible first|refine af.up ?_|refine fun (K:AK) hK=> ?_|refine ar (by decide) ?_|(refine hK _ ?_;clear hK K))|simp only [go_sem]|with_reducible refine wA ?_|(refine aI rfl ?_)|(refine aB rfl ?_)|clear hK K)
   refine ab.one CO ?_
   repeat (first|(with_reducible first|refine af.up ?_|refine fun (K:AK) hK=> ?_|refine ar (by decide) ?_|(refine hK _ ?_;clear hK K))|simp only [go_sem]|with_reducible refine wA ?_|(refine aI rfl ?_)|(refine aB rfl ?_)|clear hK K)
   refine ab.one CC ?_
   repeat ((fail_if_success (with_reducible refine bD (i:=12) ?_));first|(with_reducible first|refine af.up ?_|refine fun (K:AK) hK=> ?_|refine ar (by decide) ?_|(refine hK _ ?_;clear hK K))|simp only [go_sem]|with_reducible refine wA ?_|(refine aI rfl ?_)|(refine aB rfl ?_)|clear hK K)
   refine aJ (bY (k:=1) (i:=0) (j:=0) 45 11 (by decide) rfl (Nat.zero_lt_succ _) rfl rfl) (by kernel_rfl) ?_
   repeat (first|(with_reducible first|refine af.up ?_|refine fun (K:AK) hK=> ?_|refine ar (by decide) ?_|(refine hK _ ?_;clear hK K))|simp only [go_sem]|with_reducible refine wA ?_|(refine aI rfl ?_)|(refine aB rfl ?_)|clear hK K)
   refine cV (ι:=Nat) 39 (fun k=>[(8,if k=0 then .v (.slice none 0 0) else .vec 5 (pl k).bound.length),(10, .undef),(11, .undef),(38, .v (.int .i64 k))]) (fun k=>[some ⟨26,5,false,[[.aC 8 (ps.map bM) ps.length, .aC 13 (cs.map aH) cs.length, .aC 6 (rs.map cz) rs.length, .v (.int .i64 ra), .v (.int .i64 sl)]]⟩,some ⟨31,4,false,[[.vec 3 (pl k).steps.length, .v (.slice none 0 0), .v (.int .i64 0), .v (.int .i64 0)]]⟩,some ⟨23,1,false,[[.aC 13 ((pl k).waits.map aH) (pl k).waits.length]]⟩,some ⟨45,11,true,(pl k).steps.map bH⟩]++if k=0 then [] else [none,some ⟨9,1,true,(pl k).bound.map encS⟩]) (fun k=>ks.length - k) (fun k=>k<=ks.length) 0 (Nat.zero_le _) ?_ ?_
   ·simp only [h0,if_true,T3,TT,Q9]
    (refine ak ?_ ?_ ?_<;>simp only [aR,SI,SL,Ti,Tj,aX,aW,AV.v.injEq,Value.int.injEq,Value.bool.injEq,Value.string.injEq,AV.vec.injEq,AV.ptr.injEq,true_or,or_true,false_or,or_false,aa.mk.injEq,forall_eq_apply_imp_iff,forall_eq,forall_eq',go_sem])
    all_goals first|rfl|trace_state
   ·intro k hk K hK;have eW:=aD (k:=k) (by omega);have hl:=hlen k hk
    have eN:(au ks).length=ks.length:=by simp [au]
    by_cases hlt:k<ks.length
    ·have e1:decide ((k:Int)<(ks.length:Int))=true:=decide_eq_true (by omega);have hi:=hol ks[k] (S9 hlt)
     have eGk:(au ks).getD k []=[.v (.int .i64 (ks[k]:Nat))]:=by rw [au,getD_map _ ks k [] hlt]
     have eGp:=getD_map bM ps ks[k] [] hi;have eP:=gU hi;have hxp:=hx ps[ks[k]] (S9 hi);have hS:=hsucc k hlt;simp only [fc,eP] at hS;have hnl:=jb ps[ks[k]] (pl k).bound;have hpre:=jc ps[ks[k]] (pl k).bound;have hll:=qj ps[ks[k]] (pl k).bound (pl k).waits
     by_cases hk0:k=0
     ·have hb0:(pl k).bound=[]:=by rw [hk0,h0]
      have C:=IQ ps[ks[k]] (pl k).waits hxp (by omega);rw [hb0] at hS hnl hpre hll;have eSt:bH (u7 ps[ks[k]] [] (pl k).waits)=bM ps[ks[k]]++[aK (keysOf ps[ks[k]] []),aK (bB ps[ks[k]] []), .aC 13 (((pl k).waits.filter (fun c=>aN c (bB ps[ks[k]] []))).map aH) ((pl k).waits.filter (fun c=>aN c (bB ps[ks[k]] []))).length]:=rfl;have hne2:=wV ps[ks[k]] []
      have eKl:(((keysOf ps[ks[k]] []).map encS)).length=(keysOf ps[ks[k]] []).length:=by simp
      rw [<-eSt] at C
      have hSs:(pl (k+1)).steps.map bH=(pl k).steps.map bH++[bH (u7 ps[ks[k]] [] (pl k).waits)]:=by rw [hS];simp
      have hSb:(pl (k+1)).bound=bB ps[ks[k]] []:=by rw [hS]
      have hSw:(pl (k+1)).waits=leftOf ps[ks[k]] [] (pl k).waits:=by rw [hS]
      have hSl:(pl (k+1)).steps.length=(pl k).steps.length+1:=by rw [hS];simp
      rw [eSt] at C hSs;simp only [bM,aK,Tl,Tm] at C hSs;simp only [bM] at eGp;generalize ks[k]=kk at *;generalize (pl k).waits.filter (fun c=>aN c (bB ps[kk] []))=cn at *;generalize leftOf ps[kk] [] (pl k).waits=lf at *;generalize bB ps[kk] []=nw at *;generalize keysOf ps[kk] []=ky at *;generalize ps[kk]=p at *
      have eNw:(nw.map encS).length=nw.length:=by simp
      have eT:(nw.map encS).take nw.length=nw.map encS:=TB (by simp);simp only [Q9,Nat.zero_add] at hnl
      have eNs:((pl k).steps.map bH).length=(pl k).steps.length:=by simp
      have eZ: ∀f l,bW f (List.map encS l)=List.map encS l:=fun f l=>bS _ _ (aA _ _);have eZc: ∀f l,bW f (List.map aH l)=List.map aH l:=fun f l=>bS _ _ (jM _ _);have eZe: ∀f l,bW f (List.map bg l)=List.map bg l:=fun f l=>bS _ _ (dL _ _);simp only [if_pos hk0,T3]
      repeat (first|(with_reducible first|refine af.up ?_|refine fun (K:AK) hK=> ?_|refine ar (by decide) ?_|(refine hK _ ?_;clear hK K))|simp only [go_sem,e1,eGk,eGp]|with_reducible refine wA ?_|(refine aI rfl ?_)|(refine aB rfl ?_)|clear hK K)
      refine ab.fr [2] C (by simp) ?_ ?_ ?_ ?_ ?_
      ·simp only [List.map_cons,TT,Su,Tc,Option.map_some,aa.bc,bW,bV,AV.bc,eZc]
      ·simp only [bV,AV.bc,eZe];rfl
      ·simp only [bn,AV.wf,dL,Tg];rfl
      ·intro j ob hj
       match j,hj with
       | 0,hj=>cases hj;simp only [dA,bn,AV.wf,jM,Tg]
       | j+1,hj=>simp at hj
      repeat (first|(with_reducible first|refine af.up ?_|refine fun (K:AK) hK=> ?_|refine ar (by decide) ?_|(refine hK _ ?_;clear hK K))|simp only [go_sem,eZ,eZc,eZe,eNw,eNs,hne2,eT]|with_reducible refine wA ?_|(refine aI rfl ?_)|(refine aB rfl ?_)|clear hK K)
      repeat (first|(with_reducible first|refine af.up ?_|refine fun (K:AK) hK=> ?_|refine ar (by decide) ?_|(refine hK _ ?_;clear hK K))|simp only [go_sem,eW]|with_reducible refine wA ?_|(refine aI rfl ?_)|(refine aB rfl ?_)|clear hK K)
      refine aM.mk (k+1) hlt (by omega) ?_;simp only [if_neg (Nat.succ_ne_zero k),hSs,hSb,hSw,hSl]
      (refine ak ?_ ?_ ?_<;>simp only [aR,SI,SL,Ti,Tj,aX,aW,AV.v.injEq,Value.int.injEq,Value.bool.injEq,Value.string.injEq,AV.vec.injEq,AV.ptr.injEq,true_or,or_true,false_or,or_false,aa.mk.injEq,forall_eq_apply_imp_iff,forall_eq,forall_eq',go_sem])
      all_goals first|rfl|exact aO _ _|trace_state
     ·have hbn:(pl k).bound≠[]:=by
       have:=hne (k - 1) (by omega)
       rwa [show k - 1+1=k by omega] at this
      have C:=IS ps[ks[k]] (pl k).bound (pl k).waits hxp (by omega) hbn (by omega);have eSt:bH (u7 ps[ks[k]] (pl k).bound (pl k).waits)=bM ps[ks[k]]++[aK (keysOf ps[ks[k]] (pl k).bound),aK ((bB ps[ks[k]] (pl k).bound).drop (pl k).bound.length), .aC 13 (((pl k).waits.filter (fun c=>aN c (bB ps[ks[k]] (pl k).bound))).map aH) ((pl k).waits.filter (fun c=>aN c (bB ps[ks[k]] (pl k).bound))).length]:=rfl
      have hSs:(pl (k+1)).steps.map bH=(pl k).steps.map bH++[bH (u7 ps[ks[k]] (pl k).bound (pl k).waits)]:=by rw [hS];simp
      have hSb:(pl (k+1)).bound=bB ps[ks[k]] (pl k).bound:=by rw [hS]
      have hSw:(pl (k+1)).waits=leftOf ps[ks[k]] (pl k).bound (pl k).waits:=by rw [hS]
      have hSl:(pl (k+1)).steps.length=(pl k).steps.length+1:=by rw [hS];simp
      have hdl:(pl k).bound.length+((bB ps[ks[k]] (pl k).bound).drop (pl k).bound.length).length=(bB ps[ks[k]] (pl k).bound).length:=by
       have:=congrArg List.length hpre
       rw [List.length_append] at this;omega
      have hda:(pl k).bound.map encS++((bB ps[ks[k]] (pl k).bound).drop (pl k).bound.length).map encS=(bB ps[ks[k]] (pl k).bound).map encS:=by rw [<-List.map_append, <- hpre]
      clear hpre;rw [eSt] at hSs;simp only [bM,aK,Tl,Tm] at C hSs;simp only [bM] at eGp;generalize ks[k]=kk at *;generalize (pl k).waits.filter (fun c=>aN c (bB ps[kk] (pl k).bound))=cn at *;generalize leftOf ps[kk] (pl k).bound (pl k).waits=lf at *;generalize (bB ps[kk] (pl k).bound).drop (pl k).bound.length=bd at *;generalize bB ps[kk] (pl k).bound=nw at *;generalize keysOf ps[kk] (pl k).bound=ky at *;generalize ps[kk]=p at *
      have eNw:(nw.map encS).length=nw.length:=by simp
      have eNb:((pl k).bound.map encS).length=(pl k).bound.length:=by simp
      have eNd:(bd.map encS).length=bd.length:=by simp
      have eT:(bd.map encS).take bd.length=bd.map encS:=TB (by simp)
      have eNs:((pl k).steps.map bH).length=(pl k).steps.length:=by simp
      have eZ: ∀f l,bW f (List.map encS l)=List.map encS l:=fun f l=>bS _ _ (aA _ _);have eZc: ∀f l,bW f (List.map aH l)=List.map aH l:=fun f l=>bS _ _ (jM _ _);have eZe: ∀f l,bW f (List.map bg l)=List.map bg l:=fun f l=>bS _ _ (dL _ _);simp only [if_neg hk0,Tl,Tm]
      repeat (first|(with_reducible first|refine af.up ?_|refine fun (K:AK) hK=> ?_|refine ar (by decide) ?_|(refine hK _ ?_;clear hK K))|simp only [go_sem,e1,eGk,eGp]|with_reducible refine wA ?_|(refine aI rfl ?_)|(refine aB rfl ?_)|clear hK K)
      refine ab.fr [2,5] C (by simp) ?_ ?_ ?_ ?_ ?_
      ·simp only [List.map_cons,TT,Su,Tc,Option.map_some,aa.bc,bW,bV,AV.bc,eZc,eZ]
      ·simp only [bV,AV.bc,eZe];rfl
      ·simp only [bn,AV.wf,dL,Tg];rfl
      ·intro j ob hj
       match j,hj with
       | 0,hj=>cases hj;simp only [dA,bn,AV.wf,jM,Tg]
       | 1,hj=>cases hj;exact aA _ _
       | j+2,hj=>simp at hj
      repeat (first|(with_reducible first|refine af.up ?_|refine fun (K:AK) hK=> ?_|refine ar (by decide) ?_|(refine hK _ ?_;clear hK K))|simp only [go_sem,eZ,eZc,eZe,eNw,eNs,eNb,eNd,eT,hda,hdl]|with_reducible refine wA ?_|(refine aI rfl ?_)|(refine aB rfl ?_)|clear hK K)
      repeat (first|(with_reducible first|refine af.up ?_|refine fun (K:AK) hK=> ?_|refine ar (by decide) ?_|(refine hK _ ?_;clear hK K))|simp only [go_sem,eW]|with_reducible refine wA ?_|(refine aI rfl ?_)|(refine aB rfl ?_)|clear hK K)
      refine aM.mk (k+1) hlt (by omega) ?_;simp only [if_neg (Nat.succ_ne_zero k),hSs,hSb,hSw,hSl]
      (refine ak ?_ ?_ ?_<;>simp only [aR,SI,SL,Ti,Tj,aX,aW,AV.v.injEq,Value.int.injEq,Value.bool.injEq,Value.string.injEq,AV.vec.injEq,AV.ptr.injEq,true_or,or_true,false_or,or_false,aa.mk.injEq,forall_eq_apply_imp_iff,forall_eq,forall_eq',go_sem])
      all_goals first|rfl|exact aO _ _|trace_state
    ·have hkn:k=ks.length:=by omega
     have e1:decide ((k:Int)<(ks.length:Int))=false:=decide_eq_false (by omega);have eR:(pl k).steps.length=k:=hl.2.2
     by_cases hk0:k=0
     ·simp only [if_pos hk0,T3]
      repeat ((fail_if_success (with_reducible refine bD (i:=19) ?_));first|(with_reducible first|refine af.up ?_|refine fun (K:AK) hK=> ?_|refine ar (by decide) ?_|(refine hK _ ?_;clear hK K))|simp only [go_sem,e1]|with_reducible refine wA ?_|(refine aI rfl ?_)|(refine aB rfl ?_)|clear hK K)
      refine fO [8,10,12] [(4,1000),(6,1000)] (by decide+kernel) (by kernel_rfl) ?_
      repeat (first|(with_reducible first|refine af.up ?_|refine fun (K:AK) hK=> ?_|refine ar (by decide) ?_|(refine hK _ ?_;clear hK K))|simp only [go_sem]|with_reducible refine wA ?_|(refine aI rfl ?_)|(refine aB rfl ?_)|clear hK K)
      refine aQ.one CR ?_
      repeat (first|(with_reducible first|refine af.up ?_|refine fun (K:AK) hK=> ?_|refine ar (by decide) ?_|(refine hK _ ?_;clear hK K))|simp only [go_sem]|with_reducible refine wA ?_|(refine aI rfl ?_)|(refine aB rfl ?_)|clear hK K)
      rw [<-hkn]
      (refine kY.of 40 rfl ?_;simp only [go_sem])
      all_goals first|rfl|exact aO _ _|trace_state
     ·simp only [if_neg hk0,Tl,Tm]
      repeat ((fail_if_success (with_reducible refine bD (i:=19) ?_));first|(with_reducible first|refine af.up ?_|refine fun (K:AK) hK=> ?_|refine ar (by decide) ?_|(refine hK _ ?_;clear hK K))|simp only [go_sem,e1]|with_reducible refine wA ?_|(refine aI rfl ?_)|(refine aB rfl ?_)|clear hK K)
      refine fO [8,10,12] [(4,1000),(6,1000)] (by decide+kernel) (by kernel_rfl) ?_
      repeat (first|(with_reducible first|refine af.up ?_|refine fun (K:AK) hK=> ?_|refine ar (by decide) ?_|(refine hK _ ?_;clear hK K))|simp only [go_sem]|with_reducible refine wA ?_|(refine aI rfl ?_)|(refine aB rfl ?_)|clear hK K)
      refine aQ.one CR ?_
      repeat (first|(with_reducible first|refine af.up ?_|refine fun (K:AK) hK=> ?_|refine ar (by decide) ?_|(refine hK _ ?_;clear hK K))|simp only [go_sem]|with_reducible refine wA ?_|(refine aI rfl ?_)|(refine aB rfl ?_)|clear hK K)
      rw [<-hkn]
      (refine kY.of 40 rfl ?_;simp only [go_sem])
      all_goals first|rfl|exact aO _ _|trace_state
  ·have f1:(nL q.aj !=0)=true:=by simpa using hs
   have hR:jT q = .dC [.agg [.v (.slice none 0 0), .v (.slice none 0 0), .v (.int .i64 0), .v (.int .i64 0)], .v (.int .i64 (nL q.aj))]:=by
    have e:gH q=nL q.aj:=by rw [gH,if_neg (by simpa using hc)]
    rw [jT,e,if_pos hs]
   rw [hR];obtain ⟨ps,cs,rs,ra,sl⟩:=q;simp only [cd] at *
   (refine ag.enter Tryz.func9 rfl (by kernel_rfl) (by kernel_rfl) rfl (by first|rfl|(simp only [go_sem,Tg,SA,SD])) (by first|rfl|(simp only [go_sem,Tg,SA,SD])) ?_;simp only [Tryz.ntmps9,Tryz.results9,Rg,Q9,Nat.reduceAdd,Nat.reduceSub,Ti,Tj,Tl,Tm])
   repeat (first|(with_reducible first|refine af.up ?_|refine fun (K:AK) hK=> ?_|refine ar (by decide) ?_|(refine hK _ ?_;clear hK K))|simp only [go_sem]|with_reducible refine wA ?_|(refine aI rfl ?_)|(refine aB rfl ?_)|clear hK K)
   refine ab.one CQ ?_
   repeat (first|(with_reducible first|refine af.up ?_|refine fun (K:AK) hK=> ?_|refine ar (by decide) ?_|(refine hK _ ?_;clear hK K))|simp only [go_sem]|with_reducible refine wA ?_|(refine aI rfl ?_)|(refine aB rfl ?_)|clear hK K)
   refine ab.one CS ?_
   repeat (first|(with_reducible first|refine af.up ?_|refine fun (K:AK) hK=> ?_|refine ar (by decide) ?_|(refine hK _ ?_;clear hK K))|simp only [go_sem,f1]|with_reducible refine wA ?_|(refine aI rfl ?_)|(refine aB rfl ?_)|clear hK K)
   (refine kY.of 40 rfl ?_;simp only [go_sem])
 ·have f1:(fR q !=0)=true:=by simpa using hc
  have hR:jT q = .dC [.agg [.v (.slice none 0 0), .v (.slice none 0 0), .v (.int .i64 0), .v (.int .i64 0)], .v (.int .i64 (fR q))]:=by
   have e:gH q=fR q:=by rw [gH,if_pos hc]
   rw [jT,e,if_pos hc]
  rw [hR];obtain ⟨ps,cs,rs,ra,sl⟩:=q;simp only [cd] at *
  (refine ag.enter Tryz.func9 rfl (by kernel_rfl) (by kernel_rfl) rfl (by first|rfl|(simp only [go_sem,Tg,SA,SD])) (by first|rfl|(simp only [go_sem,Tg,SA,SD])) ?_;simp only [Tryz.ntmps9,Tryz.results9,Rg,Q9,Nat.reduceAdd,Nat.reduceSub,Ti,Tj,Tl,Tm])
  repeat (first|(with_reducible first|refine af.up ?_|refine fun (K:AK) hK=> ?_|refine ar (by decide) ?_|(refine hK _ ?_;clear hK K))|simp only [go_sem]|with_reducible refine wA ?_|(refine aI rfl ?_)|(refine aB rfl ?_)|clear hK K)
  refine ab.one CQ ?_
  repeat (first|(with_reducible first|refine af.up ?_|refine fun (K:AK) hK=> ?_|refine ar (by decide) ?_|(refine hK _ ?_;clear hK K))|simp only [go_sem,f1]|with_reducible refine wA ?_|(refine aI rfl ?_)|(refine aB rfl ?_)|clear hK K)
  (refine kY.of 40 rfl ?_;simp only [go_sem])
section
theorem FA (x:Ex): ∀b:Nat,b<=300->ag Tryz.prog 36 [.agg (bg x), .v (.int .i64 b)] (.v (.int .i64 (pE x b:Nat))):=by
 induction x using Ex.ind with
 | h k s l ih=>
  intro b hb;simp only [bI,pE,Ex.kind,Ex.label,Ex.kids]
  (refine ag.enter Tryz.func36 rfl (by kernel_rfl) (by kernel_rfl) rfl (by first|rfl|(simp only [go_sem,Tg,SA,SD])) (by first|rfl|(simp only [go_sem,Tg,SA,SD])) ?_;simp only [Tryz.ntmps36,Tryz.results36,Rg,Q9,Nat.reduceAdd,Nat.reduceSub,Ti,Tj,Tl,Tm])
  repeat (first|(with_reducible first|refine af.up ?_|refine fun (K:AK) hK=> ?_|(refine hK _ ?_;clear hK K))|simp only [go_sem]|with_reducible refine wA ?_|clear hK K)
  refine ct (ι:=Nat) 7 (fun i=>[(5, .v (.int .i64 (pL (l.take i) b 1:Nat))),(6, .v (.int .i64 i))]) (fun i=>l.length - i) (fun i=>i<=l.length∧i+1<=pL (l.take i) b 1) 0 ⟨Nat.zero_le _,Nat.le_refl _⟩ ?_ ?_
  ·(refine ak ?_ ?_ ?_<;>simp only [aR,SI,SL,Ti,Tj,aX,aW,AV.v.injEq,Value.int.injEq,Value.bool.injEq,Value.string.injEq,AV.vec.injEq,AV.ptr.injEq,true_or,or_true,false_or,or_false,aa.mk.injEq,forall_eq_apply_imp_iff,forall_eq,forall_eq',go_sem])
   exact ⟨rfl,rfl⟩
  rintro i ⟨hi,hin⟩ K hK;have hr:=uH (l.take i) b 1 (by omega)
  repeat (first|(with_reducible first|refine af.up ?_|refine fun (K:AK) hK=> ?_|(refine hK _ ?_;clear hK K))|simp only [go_sem]|with_reducible refine wA ?_|clear hK K)
  refine cL.part (fun h=> ?_) (fun h=> ?_)
  ·have hlt:i<l.length:=by (try simp only [bne_iff_ne,ne_eq,bne_eq_false_iff_eq,beq_iff_eq,beq_eq_false_iff_ne,decide_eq_true_eq,decide_eq_false_iff_not,Tn,Int.natCast_inj,Tp,Int.ofNat_le] at h);omega
   by_cases hb2:pL (l.take i) b 1<=b
   ·have eW:=aD (k:=i) (by omega);have eG:=getD_map bg l i [] hlt;have HX:=ih l[i] (List.getElem_mem hlt) (b - pL (l.take i) b 1) (by omega);have eT:=AE l b 1 i hlt hb2;have hr2:=qB l[i] (b - pL (l.take i) b 1);have hd:decide (((pL (l.take i) b 1:Nat):Int)<=(b:Int))=true:=decide_eq_true (by omega)
    have eB:IntKind.i64.wrap ((b:Int) - ((pL (l.take i) b 1:Nat):Int))=((b - pL (l.take i) b 1:Nat):Int):=by rw [fK (by omega) (by omega)];omega
    have eS:IntKind.i64.wrap (((pL (l.take i) b 1:Nat):Int)+((pE l[i] (b - pL (l.take i) b 1):Nat):Int))=((pL (l.take (i+1)) b 1:Nat):Int):=by rw [fK (by omega) (by omega),eT];omega
    simp only [bI] at HX eG
    repeat (first|(with_reducible first|refine af.up ?_|refine fun (K:AK) hK=> ?_|(refine hK _ ?_;clear hK K))|simp only [go_sem,hd,h,eG,bI,eB]|with_reducible refine wA ?_|clear hK K)
    refine ab.one HX ?_
    repeat (first|(with_reducible first|refine af.up ?_|refine fun (K:AK) hK=> ?_|(refine hK _ ?_;clear hK K))|simp only [go_sem,eS,eW]|with_reducible refine wA ?_|clear hK K)
    exact aM.mk (i+1) ⟨by omega,by omega⟩ (by omega) (by (refine ak ?_ ?_ ?_<;>simp only [aR,SI,SL,Ti,Tj,aX,aW,AV.v.injEq,Value.int.injEq,Value.bool.injEq,Value.string.injEq,AV.vec.injEq,AV.ptr.injEq,true_or,or_true,false_or,or_false,aa.mk.injEq,forall_eq_apply_imp_iff,forall_eq,forall_eq',go_sem]))
   ·have eT:=AD l b 1 i (by omega);have hd:decide (((pL (l.take i) b 1:Nat):Int)<=(b:Int))=false:=decide_eq_false (by omega)
    repeat (first|(with_reducible first|refine af.up ?_|refine fun (K:AK) hK=> ?_|(refine hK _ ?_;clear hK K))|simp only [go_sem,hd,h]|with_reducible refine wA ?_|clear hK K)
    rw [eT]
  ·have e1:l.take i=l:=by rw [show i=l.length by (try simp only [bne_iff_ne,ne_eq,bne_eq_false_iff_eq,beq_iff_eq,beq_eq_false_iff_ne,decide_eq_true_eq,decide_eq_false_iff_not,Tn,Int.natCast_inj,Tp,Int.ofNat_le] at h);omega,List.take_length]
   repeat (first|(with_reducible first|refine af.up ?_|refine fun (K:AK) hK=> ?_|(refine hK _ ?_;clear hK K))|simp only [go_sem,e1,h]|with_reducible refine wA ?_|clear hK K)
theorem FY (q:fg) (hq:q.small):ag Tryz.prog 8 [.agg (cd q)] (.v (.int .i64 (Df q:Nat))):=by
 obtain ⟨ps,cs,rs,ra,sl⟩:=q;obtain ⟨q1,q2,q3⟩:=hq;simp only [cd,Df] at q1 q2 q3 ⊢
 have w1:IntKind.i64.wrap ((ps.length:Int)+(cs.length:Int))=((ps.length+cs.length:Nat):Int):=by rw [fK (by omega) (by omega)];omega
 have w2:IntKind.i64.wrap (((ps.length+cs.length:Nat):Int)+(rs.length:Int))=((ps.length+cs.length+rs.length:Nat):Int):=by rw [fK (by omega) (by omega)];omega
 (refine ag.enter Tryz.func8 rfl (by kernel_rfl) (by kernel_rfl) rfl (by first|rfl|(simp only [go_sem,Tg,SA,SD])) (by first|rfl|(simp only [go_sem,Tg,SA,SD])) ?_;simp only [Tryz.ntmps8,Tryz.results8,Rg,Q9,Nat.reduceAdd,Nat.reduceSub,Ti,Tj,Tl,Tm])
 repeat (first|(with_reducible first|refine af.up ?_|refine fun (K:AK) hK=> ?_|(refine hK _ ?_;clear hK K))|simp only [go_sem,w1,w2]|with_reducible refine wA ?_|clear hK K)
 generalize hS:ps.length+cs.length+rs.length=S
 refine ct (ι:=Nat) 16 (fun i=>[(3, .v (.int .i64 (pQ (ps.take i) S:Nat))),(4, .v (.int .i64 i))]) (fun i=>ps.length - i) (fun i=>i<=ps.length) 0 (Nat.zero_le _) ?_ ?_
 ·(refine ak ?_ ?_ ?_<;>simp only [aR,SI,SL,Ti,Tj,aX,aW,AV.v.injEq,Value.int.injEq,Value.bool.injEq,Value.string.injEq,AV.vec.injEq,AV.ptr.injEq,true_or,or_true,false_or,or_false,aa.mk.injEq,forall_eq_apply_imp_iff,forall_eq,forall_eq',go_sem])
  exact ⟨rfl,rfl⟩
 rintro i hi K hK;have hr:=Jq (ps.take i) S
 repeat (first|(with_reducible first|refine af.up ?_|refine fun (K:AK) hK=> ?_|(refine hK _ ?_;clear hK K))|simp only [go_sem]|with_reducible refine wA ?_|clear hK K)
 refine cL.part (fun h=> ?_) (fun h=> ?_)
 ·have hlt:i<ps.length:=by (try simp only [decide_eq_true_eq,decide_eq_false_iff_not,Tp] at h);omega
  by_cases hb2:pQ (ps.take i) S<=300
  ·have eW:=aD (k:=i) (by omega);have eG:=getD_map bM ps i [] hlt;have HX:=FA ps[i].expr 300 (by omega);have eT:=AG ps S i hlt hb2;have hr2:=qB ps[i].expr 300;have hd:decide (((pQ (ps.take i) S:Nat):Int)<=300)=true:=decide_eq_true (by omega)
   have eS:IntKind.i64.wrap (((pQ (ps.take i) S:Nat):Int)+((pE ps[i].expr 300:Nat):Int))=((pQ (ps.take (i+1)) S:Nat):Int):=by rw [fK (by omega) (by omega),eT];omega
   generalize ps[i]=pp at eG HX eS hr2 eT;simp only [bM,bI] at HX eG;have c3:((300:Nat):Int)=300:=rfl;rw [c3] at HX
   repeat (first|(with_reducible first|refine af.up ?_|refine fun (K:AK) hK=> ?_|(refine hK _ ?_;clear hK K))|simp only [go_sem,hd,h,eG,bI]|with_reducible refine wA ?_|clear hK K)
   refine ab.one HX ?_
   repeat (first|(with_reducible first|refine af.up ?_|refine fun (K:AK) hK=> ?_|(refine hK _ ?_;clear hK K))|simp only [go_sem,eS,eW]|with_reducible refine wA ?_|clear hK K)
   exact aM.mk (i+1) (by omega) (by omega) (by (refine ak ?_ ?_ ?_<;>simp only [aR,SI,SL,Ti,Tj,aX,aW,AV.v.injEq,Value.int.injEq,Value.bool.injEq,Value.string.injEq,AV.vec.injEq,AV.ptr.injEq,true_or,or_true,false_or,or_false,aa.mk.injEq,forall_eq_apply_imp_iff,forall_eq,forall_eq',go_sem]))
  ·have eT:=AF ps S i (by omega);have hd:decide (((pQ (ps.take i) S:Nat):Int)<=300)=false:=decide_eq_false (by omega)
   repeat (first|(with_reducible first|refine af.up ?_|refine fun (K:AK) hK=> ?_|(refine hK _ ?_;clear hK K))|simp only [go_sem,hd,h]|with_reducible refine wA ?_|clear hK K)
   rw [hS,eT]
 ·have e1:ps.take i=ps:=by rw [show i=ps.length by (try simp only [decide_eq_true_eq,decide_eq_false_iff_not,Tp] at h);omega,List.take_length]
  repeat (first|(with_reducible first|refine af.up ?_|refine fun (K:AK) hK=> ?_|(refine hK _ ?_;clear hK K))|simp only [go_sem,e1,h]|with_reducible refine wA ?_|clear hK K)
  rw [hS]
def e0:ByteArray:=⟨#[]⟩
def Qx (nm:ByteArray) (l r o:dM):List AV:=[.aC 8 [[.v (.string ⟨#[97]⟩), .v (.string ⟨#[98]⟩), .v (.bool false), .v (.string ⟨#[120]⟩), .v (.string nm), .v (.int .i64 0), .v (.string e0), .v (.slice none 0 0)]] 1, .aC 13 [aH ⟨3,l,r⟩] 1, .aC 6 [cz o] 1, .v (.int .i64 5), .v (.int .i64 1)]
theorem Az {s:ByteArray} (h:decide (s.size<=100)=true):x7 s:=by unfold x7;have:=of_decide_eq_true h;omega
open Go.RowKit Go.Shelf
section
open Go.Maps Go.Sort Go.WideElems
def QC (r:bP):List (Lit×DataW Unit):=r.map (fun p=>(.string p.1.data.toList, .lit (.int .i64 (p.2:Nat))))
def PY (r s:bP):Bool:=decide (r.length=s.length)&&r.all (fun p=>look s p.1==some p.2)
end
structure QZ (A:Gk):Prop extends PO A where
 nd:A.ai.Nodup
 sz: ∀l∈A.ai,l.size<=20
 Nh:A.ai.length<=24
theorem tb: ∀ {l m:List ByteArray},l7 l->l7 m->(∀s,s∈l↔s∈m)->l=m
 | [],[],_,_,_=>rfl
 | [],b :: m,_,_,h=>absurd ((h b).2 (by simp)) (by simp)
 | a :: l,[],_,_,h=>absurd ((h a).1 (by simp)) (by simp)
 | a :: l,b :: m,h1,h2,h=>by
  rw [l7,List.pairwise_cons] at h1 h2;have irr: ∀x:List UInt8, ¬x<x:=fun x=>List.lt_irrefl _
  have hab:a=b:=by
   rcases SZ.1 ((h a).1 (by simp)) with e|ha
   ·exact e
   ·rcases SZ.1 ((h b).2 (by simp)) with e|hb
    ·exact e.symm
    ·exact absurd (List.lt_trans (h1.1 b hb) (h2.1 a ha)) (irr _)
  subst hab
  refine congrArg _ (tb h1.2 h2.2 fun s=>⟨fun hs=> ?_,fun hs=> ?_⟩)
  ·rcases SZ.1 ((h s).1 (Sb _ hs)) with e|q
   ·subst e;exact absurd (h1.1 _ hs) (irr _)
   ·exact q
  ·rcases SZ.1 ((h s).2 (Sb _ hs)) with e|q
   ·subst e;exact absurd (h2.1 _ hs) (irr _)
   ·exact q
theorem Hx {x:Ex} {l:List ByteArray} (h:l7 l) (hm: ∀s,s∈cB x↔s∈l):dZ x=l:=tb (nC x) h fun s=>mn.trans (hm s)
def En:ff:=⟨3,⟨2,⟨#[101]⟩,⟨#[107]⟩,⟨0,0,⟨#[]⟩⟩⟩,⟨3,⟨#[]⟩,⟨#[]⟩,⟨1,3,⟨#[]⟩⟩⟩⟩
def qI:List bQ:=[⟨⟨#[97]⟩,⟨#[98]⟩,true,⟨#[]⟩,⟨#[]⟩, .mk 1 ⟨#[120]⟩ []⟩,⟨⟨#[98]⟩,⟨#[99]⟩,false,⟨#[121]⟩,⟨#[101]⟩, .mk 0 ⟨#[]⟩ []⟩]
def mE:fg:=⟨qI,[En],[⟨1,⟨#[97]⟩,⟨#[]⟩,⟨0,0,⟨#[]⟩⟩⟩],5,5⟩
def xm (f t:ByteArray) (h:Bool) (l n:ByteArray) (k:Int) (s:ByteArray):List AV:=[.v (.string f), .v (.string t), .v (.bool h), .v (.string l), .v (.string n), .v (.int .i64 k), .v (.string s), .v (.slice none 0 0)]
theorem xn (f t:ByteArray) (h:Bool) (l n:ByteArray) (k:Int) (s:ByteArray):DI (xm f t h l n k s) (bM ⟨f,t,h,l,n, .mk k s []⟩):= .cons (.refl _) (.cons (.refl _) (.cons (.refl _) (.cons (.refl _) (.cons (.refl _) (.cons (.refl _) (.cons (.refl _) (.cons (.nil 3) .nil)))))))
def lQ:List (List AV):=[xm ⟨#[97]⟩ ⟨#[98]⟩ true ⟨#[]⟩ ⟨#[]⟩ 1 ⟨#[120]⟩,xm ⟨#[98]⟩ ⟨#[99]⟩ false ⟨#[121]⟩ ⟨#[101]⟩ 0 ⟨#[]⟩]
def xu:List AV:=[.aC 8 lQ 2, .aC 13 [aH En] 1, .aC 6 [cz ⟨1,⟨#[97]⟩,⟨#[]⟩,⟨0,0,⟨#[]⟩⟩⟩] 1, .v (.int .i64 5), .v (.int .i64 5)]
theorem FJ:DI xu (cd mE):=by
 refine .cons (.aC _ _ _ _ (by simp [lQ,mE,qI]) (by simp [lQ,mE,qI]) (fun i r r' h1 h2=> ?_) (fun i j r r' c c' h1 h2 h3 h4=> ?_)) (.cons (.refl _) (.cons (.refl _) (.cons (.refl _) (.cons (.refl _) .nil))))
 ·match i,h1,h2 with
  | 0,h1,h2=>cases h1;cases h2;rfl
  | 1,h1,h2=>cases h1;cases h2;rfl
  | i+2,h1,h2=>simp [lQ] at h1
 ·match i,h1,h2 with
  | 0,h1,h2=>cases h1;cases h2;exact (xn _ _ _ _ _ _ _).2 j c c' h3 h4
  | 1,h1,h2=>cases h1;cases h2;exact (xn _ _ _ _ _ _ _).2 j c c' h3 h4
  | i+2,h1,h2=>simp [lQ] at h1
theorem wi:ag Tryz.prog 28 [] (.agg xu):=by
 simp only [xu,lQ,xm,En,aH,cz]
 (refine ag.enter Tryz.func28 rfl (by kernel_rfl) (by kernel_rfl) rfl (by first|rfl|(simp only [go_sem,Tg,SA,SD])) (by first|rfl|(simp only [go_sem,Tg,SA,SD])) ?_;simp only [Tryz.ntmps28,Tryz.results28,Rg,Q9,Nat.reduceAdd,Nat.reduceSub,Ti,Tj,Tl,Tm])
 repeat (first|(with_reducible first|refine af.up ?_|refine fun (K:AK) hK=> ?_|(refine hK _ ?_;clear hK K))|simp only [go_sem]|clear hK K)
 (refine kY.of 40 rfl ?_;simp only [go_sem])
theorem OB:dZ (.mk 1 ⟨#[120]⟩ [])=[⟨#[120]⟩]:=Hx (by simp [l7]) (fun s=>by simp [cB])
theorem Kc:gH mE=0:=by
 have e1:fR mE=0:=by kernel_rfl
 have e2:my (.mk 1 ⟨#[120]⟩ [])=0:=by rw [my,OB];kernel_rfl
 have e3:nL qI=0:=by
  rw [qI,nL,e2,nL,nL];rfl
 rw [gH,if_neg (by simp [e1])];exact e3
theorem Kd:(cm mE).map bH=[bH ⟨⟨⟨#[98]⟩,⟨#[99]⟩,false,⟨#[121]⟩,⟨#[101]⟩, .mk 0 ⟨#[]⟩ []⟩,[],[⟨#[98]⟩,⟨#[99]⟩,⟨#[101]⟩],[En]⟩,bH ⟨⟨⟨#[97]⟩,⟨#[98]⟩,true,⟨#[]⟩,⟨#[]⟩, .mk 1 ⟨#[120]⟩ []⟩,[⟨#[98]⟩],[⟨#[97]⟩],[]⟩]:=by kernel_rfl
theorem Ke:(cm mE).length=2:=by kernel_rfl
theorem IE:mE.ok:=by
 refine ⟨fun p hp=> ?_,fun c hc=> ?_,fun x hx=> ?_⟩
 ·simp only [mE,qI,SZ,S0,or_false] at hp
  rcases hp with rfl|rfl
  all_goals exact ⟨Az (by rfl),Az (by rfl),Az (by rfl),Az (by rfl),by rw [Ex.ok,nZ];exact ⟨Az (by rfl),trivial⟩⟩
 ·simp only [mE,SZ,S0,or_false] at hc;subst hc;exact ⟨⟨Az (by rfl),Az (by rfl),Az (by rfl)⟩,⟨Az (by rfl),Az (by rfl),Az (by rfl)⟩⟩
 ·simp only [mE,SZ,S0,or_false] at hx;subst hx;exact ⟨Az (by rfl),Az (by rfl),Az (by rfl)⟩
theorem BC:ag Tryz.prog 7 [] (.v (.bool true)):=by
 have L1:=wi
 have O2:=xq mE IE (by decide) (by decide) (by decide) (fun p hp z hz=>by
  simp only [mE,qI,SZ,S0,or_false] at hp
  rcases hp with rfl|rfl
  all_goals
   rw [az,bR] at hz;simp only [SZ,S0,or_false] at hz;subst hz
   exact Nat.zero_le _)
 rw [jT,if_neg (by rw [Kc];simp),Kd,Ke] at O2;have O3:=O2.le (args':=[.agg xu]) (by rfl) (.cons FJ.agg .nil);have S1:=iH [⟨#[98]⟩,⟨#[99]⟩,⟨#[101]⟩] [⟨#[98]⟩,⟨#[99]⟩,⟨#[101]⟩];have S2:=iH [⟨#[98]⟩] [⟨#[98]⟩];have S3:=iH [⟨#[97]⟩] [⟨#[97]⟩];rw [show fy cf [⟨#[98]⟩,⟨#[99]⟩,⟨#[101]⟩] [⟨#[98]⟩,⟨#[99]⟩,⟨#[101]⟩]=true by kernel_rfl] at S1;rw [show fy cf [⟨#[98]⟩] [⟨#[98]⟩]=true by kernel_rfl] at S2;rw [show fy cf [⟨#[97]⟩] [⟨#[97]⟩]=true by kernel_rfl] at S3;simp only [bH,bM,aH,cz,encS,aK,xu,lQ,xm,En,mE,Ex.kind,Ex.label,Ex.kids,List.map_cons,List.map_nil,Rg,Q9,Tl,Tm,Nat.reduceAdd] at L1 O3 S1 S2 S3
 (refine ag.enter Tryz.func7 rfl (by kernel_rfl) (by kernel_rfl) rfl (by first|rfl|(simp only [go_sem,Tg,SA,SD])) (by first|rfl|(simp only [go_sem,Tg,SA,SD])) ?_;simp only [Tryz.ntmps7,Tryz.results7,Rg,Q9,Nat.reduceAdd,Nat.reduceSub,Ti,Tj,Tl,Tm])
 repeat (first|(with_reducible first|refine af.up ?_|refine fun (K:AK) hK=> ?_|refine bX (by kernel_rfl) (by kernel_rfl) (by kernel_rfl) ?_|refine bw (by decide) ?_|refine cN ?_|refine cO ?_|(refine hK _ ?_;clear hK K))|simp only [go_sem]|with_reducible refine wA ?_|clear hK K)
 refine ab.one L1 ?_
 repeat (first|(with_reducible first|refine af.up ?_|refine fun (K:AK) hK=> ?_|refine bX (by kernel_rfl) (by kernel_rfl) (by kernel_rfl) ?_|refine bw (by decide) ?_|refine cN ?_|refine cO ?_|(refine hK _ ?_;clear hK K))|simp only [go_sem]|with_reducible refine wA ?_|clear hK K)
 refine ab.one O3 ?_
 have n2:(((2:Nat):Int) !=2)=false:=by decide
 have n0:(((0:Nat):Int)==0)=true:=by decide
 have n1:(((1:Nat):Int)==1)=true:=by decide
 repeat (first|(with_reducible first|refine af.up ?_|refine fun (K:AK) hK=> ?_|refine bX (by kernel_rfl) (by kernel_rfl) (by kernel_rfl) ?_|refine bw (by decide) ?_|refine cN ?_|refine cO ?_|(refine hK _ ?_;clear hK K))|simp only [go_sem,n2,n0,n1]|with_reducible refine wA ?_|clear hK K)
 refine ab.x5 S1 8 rfl (by simp only [go_sem,Nat.reduceLT,Nat.reduceLeDiff,Nat.reduceEqDiff,TC,TD,and_self]) rfl ?_
 repeat (first|(with_reducible first|refine af.up ?_|refine fun (K:AK) hK=> ?_|refine bX (by kernel_rfl) (by kernel_rfl) (by kernel_rfl) ?_|refine bw (by decide) ?_|refine cN ?_|refine cO ?_|(refine hK _ ?_;clear hK K))|simp only [go_sem,n2,n0,n1]|with_reducible refine wA ?_|clear hK K)
 refine ab.x5 S2 8 rfl (by simp only [go_sem,Nat.reduceLT,Nat.reduceLeDiff,Nat.reduceEqDiff,TC,TD,and_self]) rfl ?_
 repeat (first|(with_reducible first|refine af.up ?_|refine fun (K:AK) hK=> ?_|refine bX (by kernel_rfl) (by kernel_rfl) (by kernel_rfl) ?_|refine bw (by decide) ?_|refine cN ?_|refine cO ?_|(refine hK _ ?_;clear hK K))|simp only [go_sem,n2,n0,n1]|with_reducible refine wA ?_|clear hK K)
 refine ab.x5 S3 8 rfl (by simp only [go_sem,Nat.reduceLT,Nat.reduceLeDiff,Nat.reduceEqDiff,TC,TD,and_self]) rfl ?_
 repeat (first|(with_reducible first|refine af.up ?_|refine fun (K:AK) hK=> ?_|refine bX (by kernel_rfl) (by kernel_rfl) (by kernel_rfl) ?_|refine bw (by decide) ?_|refine cN ?_|refine cO ?_|(refine hK _ ?_;clear hK K))|simp only [go_sem,n2,n0,n1]|with_reducible refine wA ?_|clear hK K)
end
section
theorem AT: ∀(l m:List Nat),l.Nodup->(∀x∈l,x∈m)->m.length<=l.length-> ∀x∈m,x∈l
 | [],m,_,_,h,x,hx=>by
  have:m=[]:=List.length_eq_zero_iff.1 (by simpa using h)
  rw [this] at hx;exact hx
 | a :: l,m,hn,hs,h,x,hx=>by
  rw [List.nodup_cons] at hn;have ha:=hs a Sd;have hl:=List.length_erase_of_mem ha;have hp:0<m.length:=Ud ha
  by_cases e:x=a
  ·rw [e];exact Sd
  ·refine Sb _ (AT l (m.erase a) hn.2 (fun y hy=> ?_) (by rw [hl];simp at h;omega) x ((Ue e).2 hx));exact (Ue (fun e=>by rw [e] at hy;exact hn.1 hy)).2 (hs y (Sb _ hy))
theorem qy {ps:List bQ} {k:Nat} (h:k∈gD ps):k∈br ps:=by
 have ok:=uD ps;exact AT (br ps) (gD ps) ok.Jp (fun x hx=>(ok.mem x hx).resolve_left (by simp)) (by have:=ok.len;simp at this;omega) k h
theorem Jo {l:List ByteArray} (h:l.Nodup) (k:Nat) (hk:k<l.length):hasB (l.take k) l[k]=false:=by
 rw [<-Bool.not_eq_true,dS];intro hm;obtain ⟨j,hj,e⟩:=List.mem_take_iff_getElem.1 hm
 have:=(List.getElem_inj h).1 e
 omega
theorem wj {α:Type} (f:α->Bool): ∀l:List α,(l.filter f).length+(l.filter (fun c=> !f c)).length=l.length
 | []=>rfl
 | a :: l=>by
  have:=wj f l
  cases h:f a<;>simp [h]<;>omega
section
variable (ps:List bQ) (ks:List Nat) (cs:List ff)
theorem qo (hk: ∀k∈ks,k<ps.length): ∀i,i<=ks.length->bA ps (gh (ks.take i))=(dq ps ks cs i).bound
 | 0,_=>rfl
 | i+1,h=>by
  have hlt:i<ks.length:=h;have ih:=qo hk i (by omega);have hb:=hk ks[i] (S9 hlt);rw [da hlt,fc,SR hlt,gh,TL,bA,List.foldl_append];rw [bA,gh] at ih;rw [ih];simp only [List.map_cons,List.map_nil,List.foldl_cons,List.foldl_nil,cH,Int.toNat_natCast];rw [if_pos ⟨by omega,by omega⟩,Rp hb,bB,gU hb]
theorem vQ: ∀i,i<=ks.length->(dq ps ks cs i).bound.Nodup
 | 0,_=>List.nodup_nil
 | i+1,h=>by
  rw [da h,fc];exact qw _ _ (vQ i (by omega))
theorem kU: ∀m k,k<=m->m<=ks.length->(dq ps ks cs m).steps.take k=(dq ps ks cs k).steps
 | 0,k,h,_=>by
  obtain rfl:k=0:=by omega
  rfl
 | m+1,k,h,hm=>by
  have hl:=(im ps ks cs m (by omega)).2.2
  by_cases e:k=m+1
  ·rw [e];exact List.take_of_length_le (by rw [(im ps ks cs (m+1) hm).2.2];omega)
  ·rw [da hm,fc];show List.take k (_++_)=_;rw [List.take_append_of_le_length (by omega),kU m k (by omega) (by omega)]
theorem F5 (m i:Nat) (h:i<m) (hm:m<=ks.length):(dq ps ks cs m).steps[i]? = some (u7 (eh ps ks[i]) (dq ps ks cs i).bound (dq ps ks cs i).waits):=by
 have h1:=kU ps ks cs m (i+1) (by omega) hm
 have h2:((dq ps ks cs m).steps.take (i+1))[i]? = (dq ps ks cs m).steps[i]? :=by rw [List.getElem?_take,if_pos (by omega)]
 rw [<-h2,h1,da (by omega),fc];have hl:=(im ps ks cs i (by omega)).2.2;show (_++_)[i]? = _;rw [List.getElem?_append_right (by omega),hl,Nat.sub_self];rfl
def bj (st:List iT):List ByteArray:=st.flatMap iT.binds
theorem jq: ∀k,k<=ks.length->bj (dq ps ks cs k).steps=(dq ps ks cs k).bound
 | 0,_=>rfl
 | k+1,h=>by
  have ih:=jq k (by omega);rw [da h,fc];show bj (_++_)=bB _ _;rw [bj,List.flatMap_append, <- bj,ih,jc];simp only [List.flatMap_cons,List.flatMap_nil,List.append_nil,u7]
  first|done|rw [<-jc]
def dJ (st:List iT):Nat:=(st.map (fun d=>d.conds.length)).sum
theorem sF: ∀k,k<=ks.length->dJ (dq ps ks cs k).steps+(dq ps ks cs k).waits.length=cs.length
 | 0,_=>by show 0+cs.length=_;omega
 | k+1,h=>by
  have ih:=sF k (by omega);have hb:=wj (fun c=>aN c (bB (eh ps ks[k]) (dq ps ks cs k).bound)) (dq ps ks cs k).waits;rw [da h,fc];show dJ (_++_)+(leftOf _ _ _).length=_;rw [dJ,TL,Uf, <- dJ,leftOf];simp only [List.map_cons,List.map_nil,List.sum_cons,List.sum_nil,u7];omega
theorem tj (k:Nat) (h:k<ks.length): ∀c∈(dq ps ks cs (k+1)).waits,aN c (dq ps ks cs (k+1)).bound=false:=by
 intro c hc;rw [da h,fc] at hc ⊢
 have:=(S5.1 hc).2
 simpa using this
theorem tk: ∀k,k<=ks.length-> ∀c∈(dq ps ks cs k).waits,c∈cs
 | 0,_,c,hc=>hc
 | k+1,h,c,hc=>by
  rw [da h,fc] at hc;exact tk k (by omega) c (S5.1 hc).1
theorem sI: ∀(ks:List Nat) (out:List ByteArray),(∀k∈ks,k<ps.length)-> ∀s,(s∈out∨ ∃k∈ks,s∈aS (eh ps k))->s∈(gh ks).foldl (cH ps) out
 | [],out,_,s,h=>by
  rcases h with h|⟨k,h,_⟩
  ·exact h
  ·cases h
 | k :: ks,out,hk,s,h=>by
  have hb:=hk k Sd;show s∈(gh ks).foldl (cH ps) (cH ps out (k:Int));refine sI ks _ (fun j hj=>hk j (Sb _ hj)) s ?_
  have e:cH ps out (k:Int)=(aS (eh ps k)).foldl aq out:=by
   rw [cH,if_pos ⟨by omega,by omega⟩,Int.toNat_natCast,Rp hb,gU hb]
  rw [e]
  rcases h with h|⟨j,hj,h⟩
  ·exact .inl (kN _ _ _ (.inl h))
  ·rcases List.mem_cons.1 hj with rfl|hj
   ·exact .inl (kN _ _ _ (.inr h))
   ·exact .inr ⟨j,hj,h⟩
end
theorem Ha {c:ff} {s:ByteArray} (h:s∈ew c): ∃o,o∈[c.left,c.right]∧fE o=true∧o.name=s:=by
 have key: ∀(l:List dM) (out:List ByteArray),s∈l.foldl fF out->s∈out∨ ∃o,o∈l∧fE o=true∧o.name=s:=by
  intro l
  induction l with
  | nil=>intro out h;exact .inl h
  | cons o l ih=>
   intro out h
   rcases ih _ h with h|⟨p,h1,h2⟩
   ·unfold fF at h
    split at h
    ·rename_i hn;unfold aq at h
     split at h
     ·exact .inl h
     ·rcases List.mem_append.1 h with h|h
      ·exact .inl h
      ·exact .inr ⟨o,Sd,hn,(List.mem_singleton.1 h).symm⟩
    ·exact .inl h
   ·exact .inr ⟨p,Sb _ h1,h2⟩
 rcases key _ _ h with h|h
 ·cases h
 ·exact h
theorem Bt {q:fg} (hc:fR q=0) {c:ff} (hm:c∈q.conds):aN c (bA q.aj (gh (br q.aj)))=true:=by
 have hlt: ∀k∈br q.aj,k<q.aj.length:=fun k hk=>mA hk;unfold fR at hc
 split at hc
 ·rename_i hr
  split at hc
  ·cases hc
  ·rename_i ns hns
   split at hc
   ·rename_i hk;rw [Sg] at hk;simp only [bt,Bool.and_eq_true,Sg] at hr;have hpat:=hr.1.1.2
    have hin: ∀k (h:k<q.aj.length) s,(s=q.aj[k].aR∨s=q.aj[k].to∨(fb q.aj[k].name=false∧s=q.aj[k].name))->s∈bA q.aj (gh (br q.aj)):=by
     intro k h s hs;have hpk:=hpat q.aj[k] (S9 h);refine sI q.aj (br q.aj) [] hlt s (.inr ?_)
     rcases qv h with hn|⟨j,hj,hn,hsm⟩
     ·refine ⟨k,qy hn, ?_⟩;rw [gU h,aS]
      rcases hs with hs|hs|⟨h1,h2⟩
      ·simp [hs]
      ·simp [hs]
      ·have hp:q.aj[k].path=false:=by
        cases hp:q.aj[k].path with
        | false=>rfl
        | true=>simp [bL,hp,h1] at hpk
       simp [hp,h1,h2]
     ·rw [oh] at hsm;obtain ⟨e1,e2,e3,e4⟩:=hsm;refine ⟨j,qy hn, ?_⟩;rw [gU (by omega),aS]
      rcases hs with hs|hs|⟨h1,h2⟩
      ·simp [hs,e1]
      ·simp [hs,e2]
      ·exfalso
       rcases e4 with ⟨hp,_⟩|⟨_,_,h3,_⟩
       ·rw [e3] at hp;simp [bL,hp,h1] at hpk
       ·rw [h1] at h3;cases h3
    rw [aN,Sg];intro s hs;rw [dS];obtain ⟨o,ho,hno,rfl⟩:=Ha hs;have hkn:=hk o (List.mem_append_left _ (List.mem_flatMap.2 ⟨c,hm,ho⟩))
    have hv: ∀s,hasB (bz (aV q.aj)) s=true->s∈bA q.aj (gh (br q.aj)):=by
     intro s h;rw [dS,bz,kO] at h;simp only [S0,false_or,aV,List.mem_flatMap] at h;obtain ⟨p,hp,h⟩:=h;obtain ⟨k,hk,rfl⟩:=List.getElem_of_mem hp;simp only [List.mem_cons,S0,or_false] at h;exact hin k hk s (h.imp id .inl)
    unfold dc at hkn
    split at hkn
    ·exact hv _ hkn
    ·split at hkn
     ·rw [<-Ff hns,dS,bz,kO] at hkn;simp only [S0,false_or,nn,List.mem_map,S5] at hkn;obtain ⟨p,⟨hp,hn⟩,e⟩:=hkn;obtain ⟨k,hk,rfl⟩:=List.getElem_of_mem hp;exact hin k hk _ (.inr (.inr ⟨by simpa using hn,e.symm⟩))
     ·rename_i k1 k2;simp [fE,k1,k2] at hno
   ·cases hc
 ·cases hc
theorem Ft {q:fg} (hc:fR q=0):0<(br q.aj).length:=by
 have hr:bt q=true:=by
  unfold fR at hc
  split at hc
  ·assumption
  ·cases hc
 simp only [bt,Bool.and_eq_true,nj,decide_eq_true_eq] at hr
 have hp:0<q.aj.length:=by have:=hr.1.1.1.1.1.1.1.1;omega
 have h0:0∈gD q.aj:=by
  rcases qv hp with h|⟨j,hj,_⟩
  ·exact h
  ·omega
 exact Ud (qy h0)
theorem E8 {q:fg} (hc:fR q=0):dJ (cm q)=q.conds.length:=by
 have hlt: ∀k∈br q.aj,k<q.aj.length:=fun k hk=>mA hk;have h:=sF q.aj (br q.aj) q.conds _ (Q5 _);have hp:=Ft hc;have hn:=qo q.aj (br q.aj) q.conds hlt _ (Q5 _);rw [List.take_length] at hn;rw [kn] at h
 have hw:(dq q.aj (br q.aj) q.conds (br q.aj).length).waits=[]:=by
  rw [List.eq_nil_iff_forall_not_mem];intro c hcm;have h1:=tk q.aj (br q.aj) q.conds _ (Q5 _) c hcm;have h2:=Bt hc h1;obtain ⟨m,hm⟩: ∃m,(br q.aj).length=m+1:=⟨(br q.aj).length - 1,by omega⟩;rw [hm] at hcm;have h3:=tj q.aj (br q.aj) q.conds m (by omega) c hcm;rw [<-hm, <- hn,h2] at h3;cases h3
 rw [hw] at h;simpa [cm] using h
theorem qh {p:bQ} {b:List ByteArray} {s:ByteArray}:s∈keysOf p b↔(s=p.aR∨s=p.to)∧hasB b s=true:=by
 rw [keysOf,S5,kO];simp
theorem Hu (p:bQ) (b:List ByteArray):(keysOf p b).Nodup:=(qw _ _ List.nodup_nil).filter _
theorem ES (p:bQ) (b:List ByteArray):hasB (keysOf p b) p.aR=hasB b p.aR:=by
 rw [Bool.eq_iff_iff,dS,qh];simp
theorem Hv (p:bQ) (b:List ByteArray):hasB (keysOf p b) p.to=hasB b p.to:=by
 rw [Bool.eq_iff_iff,dS,qh];simp
theorem BL {p:bQ} {b:List ByteArray} (h:(bB p b).Nodup):((bB p b).drop b.length).Nodup∧ ∀s∈(bB p b).drop b.length,hasB b s=false:=by
 rw [jc,List.nodup_append] at h;refine ⟨h.2.1,fun s hs=> ?_⟩;rw [<-Bool.not_eq_true,dS];exact fun hb=>h.2.2 s hb s hs rfl
structure pd (q:fg) (i:Nat) (d:iT) (ahead now:List ByteArray):Prop where
 pat: ∃h:i<(br q.aj).length,d.pat=eh q.aj (br q.aj)[i]
 keys: ∀k (h:k<d.keys.length),hasB ahead d.keys[k]=true∧(d.keys[k]=d.pat.aR∨d.keys[k]=d.pat.to)∧hasB (d.keys.take k) d.keys[k]=false
 aR:hasB d.keys d.pat.aR=hasB ahead d.pat.aR
 to:hasB d.keys d.pat.to=hasB ahead d.pat.to
 conds: ∀c∈d.conds,aN c now=true∧(0<i->aN c ahead=false)
 binds: ∀k (h:k<d.binds.length),hasB ahead d.binds[k]=false∧hasB (d.binds.take k) d.binds[k]=false
 Nh:d.keys.length<=2∧d.binds.length<=3
theorem Kv (q:fg) (i:Nat) (h:i<(br q.aj).length): ∃d,(cm q)[i]? = some d∧pd q i d (bj ((cm q).take i)) (bj ((cm q).take (i+1)))∧bj ((cm q).take (i+1))=bA q.aj (gh ((br q.aj).take (i+1))):=by
 have hlt: ∀k∈br q.aj,k<q.aj.length:=fun k hk=>mA hk;have hP:cm q=(dq q.aj (br q.aj) q.conds (br q.aj).length).steps:=(kn _ _ _).symm;have e1:=kU q.aj (br q.aj) q.conds _ i (by omega) (Q5 _);have e2:=kU q.aj (br q.aj) q.conds _ (i+1) (by omega) (Q5 _);have e3:=F5 q.aj (br q.aj) q.conds _ i h (Q5 _);have c1:=jq q.aj (br q.aj) q.conds i (by omega);have c2:=jq q.aj (br q.aj) q.conds (i+1) (by omega);have n2:=qo q.aj (br q.aj) q.conds hlt (i+1) (by omega);have d2:=vQ q.aj (br q.aj) q.conds (i+1) (by omega)
 have w1:0<i-> ∀c∈(dq q.aj (br q.aj) q.conds i).waits,aN c (dq q.aj (br q.aj) q.conds i).bound=false:=fun hi=>by
  obtain ⟨m,rfl⟩: ∃m,i=m+1:=⟨i - 1,by omega⟩;exact tj _ _ _ m (by omega)
 have hs:=da (ps:=q.aj) (cs:=q.conds) h
 have hb2:(dq q.aj (br q.aj) q.conds (i+1)).bound=bB (eh q.aj (br q.aj)[i]) (dq q.aj (br q.aj) q.conds i).bound:=by rw [hs,fc]
 rw [hP,e1,e2,c1,c2,n2];rw [hb2] at d2;obtain ⟨b1,b2⟩:=BL d2
 refine ⟨_,e3,⟨⟨h,rfl⟩,fun k hk=> ?_,ES _ _,Hv _ _,fun c hc=> ?_,fun k hk=> ?_, ?_, ?_⟩,rfl⟩
 ·have hm:(keysOf (eh q.aj (br q.aj)[i]) (dq q.aj (br q.aj) q.conds i).bound)[k]'hk∈keysOf (eh q.aj (br q.aj)[i]) (dq q.aj (br q.aj) q.conds i).bound:=S9 hk;obtain ⟨h1,h2⟩:=qh.1 hm;exact ⟨h2,h1,Jo (Hu _ _) k hk⟩
 ·obtain ⟨h1,h2⟩:=S5.1 hc;rw [hb2];exact ⟨h2,fun hi=>w1 hi c h1⟩
 ·exact ⟨b2 _ (S9 hk),Jo b1 k hk⟩
 ·have h1:=List.length_filter_le (hasB (dq q.aj (br q.aj) q.conds i).bound) ([(eh q.aj (br q.aj)[i]).aR,(eh q.aj (br q.aj)[i]).to].foldl aq []);have h2:=ea [(eh q.aj (br q.aj)[i]).aR,(eh q.aj (br q.aj)[i]).to] [];exact Nat.le_trans h1 h2
 ·have h1:=jb (eh q.aj (br q.aj)[i]) (dq q.aj (br q.aj) q.conds i).bound;show ((bB _ _).drop _).length<=3;rw [List.length_drop];omega
theorem CV (q:fg):(cm q).length=(br q.aj).length:=by
 rw [cm, <- kn];exact (im _ _ _ _ (Q5 _)).2.2
theorem Cq (st:List iT) {i:Nat} (h:i<st.length):dJ (st.take (i+1))=dJ (st.take i)+st[i].conds.length:=by
 rw [dJ,dJ,SR h,TL,Uf];simp
theorem H8 (st:List iT) (i:Nat):dJ (st.take i)<=dJ st:=by
 have:dJ st=dJ (st.take i)+dJ (st.drop i):=by
  rw [dJ,dJ,dJ, <- Uf, <- TL,List.take_append_drop]
 omega
theorem BU (st:List iT) {i:Nat} (h:i<st.length):bj (st.take (i+1))=bj (st.take i)++st[i].binds:=by
 rw [bj,bj,SR h,List.flatMap_append];simp
theorem rI (x y:bQ):ag Tryz.prog 12 [.agg (bM x), .agg (bM y)] (.v (.bool (fH x y))):=
 .ki (by kernel_rfl) (by simp only [bn,AV.wf,mO,Bool.and_self]) (fun D nu w vargs h=>by
  obtain ⟨a,b,rfl,ha,hb⟩:=mF h;obtain ⟨ca,rfl,ka⟩:=lS ha;obtain ⟨cb,rfl,kb⟩:=lS hb;obtain ⟨k1,s1,l1,v1,e1,r1,rfl⟩:=uX x ca ka;obtain ⟨k2,s2,l2,v2,e2,r2,rfl⟩:=uX y cb kb
  exact oM x y k1 s1 l1 v1 k2 s2 l2 v2 w e1 r1 e2 r2)
theorem uJ (x:bQ):fH x x=true:=(L0 x x).2 rfl
end
theorem zH (xs ys:List dM):ag Tryz.prog 31 [.aC 6 (xs.map cz) xs.length, .aC 6 (ys.map cz) ys.length] (.v (.bool (fy dM.mj xs ys))):=
 .ki (by kernel_rfl) (by simp only [bn,AV.wf,mN,Tg]) (fun D nu w vargs h=>by
  obtain ⟨x,y,rfl,hx,hy⟩:=mF h
  exact nK xs ys x y w (uO hx) (uO hy))
def oK (st:List iT):List (List AV):=st.zipIdx.map (fun p=>[.v (.int .i64 (p.2:Nat)), .agg (bH p.1)])
theorem iX (st:List iT):(oK st).length=st.length:=by simp [oK]
theorem pK {st:List iT} {i:Nat} (h:i<st.length):(oK st)[i]? = some [.v (.int .i64 (i:Nat)), .agg (bH st[i])]:=by
 simp [oK,Rp h]
theorem Hh {st:List iT} {i:Nat} (h:i<st.length):(oK st).drop i=[.v (.int .i64 (i:Nat)), .agg (bH st[i])] :: (oK st).drop (i+1):=by
 have hl:i<(oK st).length:=by rw [iX];exact h
 rw [List.drop_eq_getElem_cons hl]
 have:=pK h
 rw [Rp hl] at this;rw [Q4 this]
theorem qG (st:List iT) (rs:List dM) (ra sl:Int) (hl:st.length<=1000000):gy Tryz.prog 71 [.vp [.aC 11 (st.map bH) st.length, .aC 6 (rs.map cz) rs.length, .v (.int .i64 ra), .v (.int .i64 sl)]] [] (oK st):=by
 have e0:oK st=(oK st).drop 0:=rfl;rw [e0]
 (refine gy.enter Tryz.func71 rfl (by kernel_rfl) (by kernel_rfl) rfl (fun l=> ?_);simp only [Tryz.ntmps71,Tryz.results71,Rg,Q9,Nat.reduceAdd,Nat.reduceSub,Ti,Tj,Tl,Tm])
 repeat (first|(with_reducible first|refine af.up ?_|refine fun (K:AK) hK=> ?_|(refine hK _ ?_;clear hK K))|simp only [go_sem]|with_reducible refine wA ?_|clear hK K)
 refine fl (ι:=Nat) 9 (fun i=>[(8, .v (.int .i64 i)),(3, .undef),(4, .undef)]) (fun i=>[]) (fun i=> .run l ((oK st).drop i)) (fun i=>st.length - i) (fun i=>i<=st.length) 0 (by omega) ?_ ?_
 ·(refine ak ?_ ?_ ?_<;>simp only [aR,SI,SL,Ti,Tj,aX,aW,AV.v.injEq,Value.int.injEq,Value.bool.injEq,Value.string.injEq,AV.vec.injEq,AV.ptr.injEq,true_or,or_true,false_or,or_false,aa.mk.injEq,forall_eq_apply_imp_iff,forall_eq,forall_eq',go_sem])
  all_goals first|rfl|exact ⟨aO _ _,aO _ _,aO _ _,rfl⟩|trace_state
 ·rintro i hi K hK
  by_cases hlt:i<st.length
  ·have e1:decide ((i:Int)<(st.length:Int))=true:=decide_eq_true (by omega);have eW:=aD (k:=i) (by omega);have eG:=getD_map bH st i [] hlt;have eY:=Hh hlt;simp only [bH,bM,aK,Tl,Tm] at eG eY;generalize st[i]=d at *
   repeat' (first|(with_reducible first|refine af.up ?_|refine fun (K:AK) hK=> ?_|(refine hK _ ?_;clear hK K))|simp only [go_sem,e1,eG,eW,eY,Go.undef]|with_reducible refine wA ?_|clear hK K|(with_reducible refine ab.one (by assumption) ?_)|(with_reducible refine aQ.one (by assumption) ?_)|(refine cL.part (fun hb=> ?_) (fun hb=> ?_)<;>simp only [hb,go_sem,e1,eG,eW,eY,Go.undef])|(refine cL.part (fun hb=> ?_) (fun hb=> ?_))|(with_reducible refine dy.mk ?_ ?_))
   all_goals first|exact aM.mk (i+1) (by omega) (by omega) (by (refine ak ?_ ?_ ?_<;>simp only [aR,SI,SL,Ti,Tj,aX,aW,AV.v.injEq,Value.int.injEq,Value.bool.injEq,Value.string.injEq,AV.vec.injEq,AV.ptr.injEq,true_or,or_true,false_or,or_false,aa.mk.injEq,forall_eq_apply_imp_iff,forall_eq,forall_eq',go_sem]);all_goals first|rfl|exact aO _ _|exact ⟨aO _ _,rfl⟩|trace_state)|exact .inr trivial|trace_state
  ·have e1:decide ((i:Int)<(st.length:Int))=false:=decide_eq_false (by omega);have eY:(oK st).drop i=[]:=List.drop_eq_nil_of_le (by rw [iX];omega);rw [eY]
   repeat (first|(with_reducible first|refine af.up ?_|refine fun (K:AK) hK=> ?_|(refine hK _ ?_;clear hK K))|simp only [go_sem,e1]|with_reducible refine wA ?_|clear hK K)
   exact .inl trivial
theorem xi (st:List iT) (rs:List dM) (ra sl:Int):ag Tryz.prog 32 [.agg [.aC 11 (st.map bH) st.length, .aC 6 (rs.map cz) rs.length, .v (.int .i64 ra), .v (.int .i64 sl)]] (.fn 71 [] [.vp [.aC 11 (st.map bH) st.length, .aC 6 (rs.map cz) rs.length, .v (.int .i64 ra), .v (.int .i64 sl)]]):=by
 (refine ag.enter Tryz.func32 rfl (by kernel_rfl) (by kernel_rfl) rfl (by simp only [go_sem,bn,AV.wf,Tg,SA,SD,aO]) (by simp only [go_sem,bn,AV.wf,aA,Tg,SA,SD,aO]) ?_;simp only [Tryz.ntmps32,Tryz.results32,Rg,Q9,Nat.reduceAdd,Nat.reduceSub,Ti,Tj,Tl,Tm])
 repeat' (first|(with_reducible first|refine af.up ?_|refine fun (K:AK) hK=> ?_|(refine hK _ ?_;clear hK K))|simp only [go_sem]|clear hK K|(with_reducible refine ab.one (by assumption) ?_)|(with_reducible refine aQ.one (by assumption) ?_)|(refine cL.part (fun hb=> ?_) (fun hb=> ?_)<;>simp only [hb,go_sem])|(refine cL.part (fun hb=> ?_) (fun hb=> ?_))|(with_reducible refine dy.mk ?_ ?_))
 refine kY.of 40 rfl ?_;simp only [go_sem,aO,Nat.reduceLT,Nat.lt_add_one,Nat.zero_lt_one,and_self]
theorem BV (st:List iT) (rs:List dM) (ra sl n:Int) (hl:st.length<=1000000) (hb:(bj st).length<=1000000):ag Tryz.prog 23 [.agg [.aC 11 (st.map bH) st.length, .aC 6 (rs.map cz) rs.length, .v (.int .i64 ra), .v (.int .i64 sl)], .v (.int .i64 n)] (aK (bj (st.take n.toNat))):=by
 have ST:=xi st rs ra sl;have SQ:=qG st rs ra sl hl
 have hcl: ∀k,(bj (st.take k)).length<=1000000:=fun k=>by
  have:bj st=bj (st.take k)++bj (st.drop k):=by rw [bj,bj,bj, <- List.flatMap_append,List.take_append_drop]
  have:=congrArg List.length this
  rw [Rf] at this;omega
 have hw: ∀n,bn n [AV.vp [.aC 11 (st.map bH) st.length, .aC 6 (rs.map cz) rs.length, .v (.int .i64 ra), .v (.int .i64 sl)]]=true:=fun n=>by simp only [bn,AV.wf,aO,mN,Tg]
 simp only [aK] at *
 (refine ag.enter Tryz.func23 rfl (by kernel_rfl) (by kernel_rfl) rfl (by simp only [go_sem,bn,AV.wf,Tg,SA,SD,aO]) (by simp only [go_sem,bn,AV.wf,aA,Tg,SA,SD,aO]) ?_;simp only [Tryz.ntmps23,Tryz.results23,Rg,Q9,Nat.reduceAdd,Nat.reduceSub,Ti,Tj,Tl,Tm])
 repeat (first|(with_reducible first|refine af.up ?_|refine fun (K:AK) hK=> ?_|(refine hK _ ?_;clear hK K))|simp only [go_sem]|with_reducible refine wA ?_|clear hK K)
 refine ab.one ST ?_
 repeat (first|(with_reducible first|refine af.up ?_|refine fun (K:AK) hK=> ?_|(refine hK _ ?_;clear hK K))|simp only [go_sem]|with_reducible refine wA ?_|clear hK K)
 refine iW (bY (k:=2) (i:=0) (j:=0) 9 1 (by decide) rfl (by decide) rfl rfl) (by kernel_rfl) ?_;simp only [Rg,Q9,Nat.reduceAdd,Tl,Tm,List.set_cons_zero,List.set_cons_succ]
 refine fP SQ 5 (fun k=>[some ⟨31,4,false,[[.aC 11 (st.map bH) st.length, .aC 6 (rs.map cz) rs.length, .v (.int .i64 ra), .v (.int .i64 sl)]]⟩,some ⟨3,1,false,[[.v (.int .i64 n)]]⟩,some ⟨43,1,false,[[.vec 3 (bj (st.take k)).length]]⟩,some ⟨9,1,true,(bj (st.take k)).map encS⟩]) (fun k=>k<=n.toNat) (Nat.zero_le _) ?_ ?_ ?_ (by kernel_rfl) (by kernel_rfl) ?_ ?_ ?_
 ·repeat (first|(with_reducible first|refine af.up ?_|refine fun (K:AK) hK=> ?_|(refine hK _ ?_;clear hK K))|simp only [go_sem]|with_reducible refine wA ?_|clear hK K)
 ·exact hw 0
 ·(refine ak ?_ ?_ ?_<;>simp only [aR,SI,SL,Ti,Tj,aX,aW,AV.v.injEq,Value.int.injEq,Value.bool.injEq,Value.string.injEq,AV.vec.injEq,AV.ptr.injEq,true_or,or_true,false_or,or_false,aa.mk.injEq,forall_eq_apply_imp_iff,forall_eq,forall_eq',go_sem])
  all_goals first|rfl|exact hw _|exact ⟨aO _ _,rfl,rfl⟩|exact aO _ _|trace_state
 ·intro x hx;obtain ⟨p,_,rfl⟩:=List.mem_map.1 hx
  rfl
 ·intro k x hk hx
  obtain ⟨hlt,hx⟩: ∃h:k<st.length,x=[.v (.int .i64 (k:Nat)), .agg (bH st[k])]:=by
   have h1:=(List.getElem?_eq_some_iff.1 hx).1;rw [iX] at h1;rw [pK h1] at hx;exact ⟨h1,(Q4 hx).symm⟩
  subst hx;have hS:=BU st hlt;have h1:=hcl k;have h2:=hcl (k+1);simp only [bH,bM,aK,Tl,Tm];generalize st[k]=d at *
  by_cases hkn:k<n.toNat
  ·have e1:decide ((n:Int)<=(k:Int))=false:=decide_eq_false (by omega)
   have eL:(bj (st.take (k+1))).length=(bj (st.take k)).length+d.binds.length:=by rw [hS,Rf]
   have eM:(bj (st.take (k+1))).map encS=(bj (st.take k)).map encS++d.binds.map encS:=by rw [hS,List.map_append]
   have eT:(d.binds.map encS).take d.binds.length=d.binds.map encS:=TB (by simp)
   have eN:(d.binds.map encS).length=d.binds.length:=by simp
   have eC:((bj (st.take k)).map encS).length=(bj (st.take k)).length:=by simp
   repeat (first|(with_reducible first|refine af.up ?_|refine fun (K:AK) hK=> ?_|(refine hK _ ?_;clear hK K))|simp only [go_sem,e1,eT,eN,eC]|with_reducible refine wA ?_|clear hK K)
   rw [eL,eM]
   (refine ak ?_ ?_ ?_<;>simp only [aR,SI,SL,Ti,Tj,aX,aW,AV.v.injEq,Value.int.injEq,Value.bool.injEq,Value.string.injEq,AV.vec.injEq,AV.ptr.injEq,true_or,or_true,false_or,or_false,aa.mk.injEq,forall_eq_apply_imp_iff,forall_eq,forall_eq',go_sem])
   all_goals first|rfl|exact hkn|exact hw _|exact ⟨aO _ _,rfl⟩|exact aO _ _|trace_state
  ·have e1:decide ((n:Int)<=(k:Int))=true:=decide_eq_true (by omega)
   have e3:bj (st.take k)=bj (st.take n.toNat):=by rw [show n.toNat=k by omega]
   rw [e3]
   repeat (first|(with_reducible first|refine af.up ?_|refine fun (K:AK) hK=> ?_|(refine hK _ ?_;clear hK K))|simp only [go_sem,e1]|with_reducible refine wA ?_|clear hK K)
   (refine kY.of 40 rfl ?_;simp only [go_sem])
   all_goals first|rfl|trace_state
 ·intro hk;rw [iX] at hk ⊢
  have e3:bj (st.take st.length)=bj (st.take n.toNat):=by rw [List.take_length,TB hk]
  rw [e3]
  repeat (first|(with_reducible first|refine af.up ?_|refine fun (K:AK) hK=> ?_|(refine hK _ ?_;clear hK K))|simp only [go_sem]|with_reducible refine wA ?_|clear hK K)
  (refine kY.of 40 rfl ?_;simp only [go_sem])
  all_goals first|rfl|trace_state
theorem Cd (xs:List ByteArray) (s:ByteArray) {i:Nat} (h:i<xs.length):hasB (xs.take (i+1)) s=(hasB (xs.take i) s||cf s xs[i]):=by
 rw [List.take_succ_eq_append_getElem h,hasB,List.any_append];simp [hasB]
theorem jv (xs:List ByteArray) (s:ByteArray) (hx:xs.length<=1000000):ag Tryz.prog 35 [aK xs, .v (.string s)] (.v (.bool (hasB xs s))):=by
 simp only [aK]
 (refine ag.enter Tryz.func35 rfl (by kernel_rfl) (by kernel_rfl) rfl (by first|rfl|(simp only [go_sem,Tg,SA,SD])) (by first|rfl|(simp only [go_sem,Tg,SA,SD])) ?_;simp only [Tryz.ntmps35,Tryz.results35,Rg,Q9,Nat.reduceAdd,Nat.reduceSub,Ti,Tj,Tl,Tm])
 repeat (first|(with_reducible first|refine af.up ?_|refine fun (K:AK) hK=> ?_|(refine hK _ ?_;clear hK K))|simp only [go_sem]|with_reducible refine wA ?_|clear hK K)
 refine ct (ι:=Nat) 6 (fun i=>[(5, .v (.int .i64 i))]) (fun i=>xs.length - i) (fun i=>i<=xs.length∧hasB (xs.take i) s=false) 0 ⟨by omega,rfl⟩ ?_ ?_
 ·(refine ak ?_ ?_ ?_<;>simp only [aR,SI,SL,Ti,Tj,aX,aW,AV.v.injEq,Value.int.injEq,Value.bool.injEq,Value.string.injEq,AV.vec.injEq,AV.ptr.injEq,true_or,or_true,false_or,or_false,aa.mk.injEq,forall_eq_apply_imp_iff,forall_eq,forall_eq',go_sem])
  rfl
 ·rintro i ⟨hi,hP⟩ K hK
  repeat (first|(with_reducible first|refine af.up ?_|refine fun (K:AK) hK=> ?_|(refine hK _ ?_;clear hK K))|simp only [go_sem]|with_reducible refine wA ?_|clear hK K)
  refine cL.part (fun h=> ?_) (fun h=> ?_)
  ·have hlt:i<xs.length:=by (try simp only [bne_iff_ne,ne_eq,bne_eq_false_iff_eq,beq_iff_eq,beq_eq_false_iff_ne,decide_eq_true_eq,decide_eq_false_iff_not,Tn,Int.natCast_inj,Int.ofNat_lt,Int.ofNat_le] at h);omega
   have eW:=aD (k:=i) (by omega);have eG:=getD_map encS xs i [] hlt;simp only [encS] at eG
   repeat' (first|(with_reducible first|refine af.up ?_|refine fun (K:AK) hK=> ?_|(refine hK _ ?_;clear hK K))|simp only [go_sem,eG,eW]|with_reducible refine wA ?_|clear hK K|(with_reducible refine ab.one (by assumption) ?_)|(with_reducible refine aQ.one (by assumption) ?_)|(refine cL.part (fun hb=> ?_) (fun hb=> ?_)<;>simp only [hb,go_sem,eG,eW])|(refine cL.part (fun hb=> ?_) (fun hb=> ?_))|(with_reducible refine dy.mk ?_ ?_))
   ·have e:hasB xs s=true:=List.any_eq_true.2 ⟨_,List.getElem_mem hlt,beq_iff_eq.2 (beq_iff_eq.1 hb).symm⟩;rw [e]
   ·exact aM.mk (i+1) ⟨by omega,by rw [Cd _ _ hlt,hP,Bool.false_or];exact beq_eq_false_iff_ne.2 (fun e=>beq_eq_false_iff_ne.1 hb e.symm)⟩ (by omega) (by (refine ak ?_ ?_ ?_<;>simp only [aR,SI,SL,Ti,Tj,aX,aW,AV.v.injEq,Value.int.injEq,Value.bool.injEq,Value.string.injEq,AV.vec.injEq,AV.ptr.injEq,true_or,or_true,false_or,or_false,aa.mk.injEq,forall_eq_apply_imp_iff,forall_eq,forall_eq',go_sem]))
  ·have e:hasB xs s=false:=by rw [<-hP,show i=xs.length by (try simp only [bne_iff_ne,ne_eq,bne_eq_false_iff_eq,beq_iff_eq,beq_eq_false_iff_ne,decide_eq_true_eq,decide_eq_false_iff_not,Tn,Int.natCast_inj,Int.ofNat_lt,Int.ofNat_le] at h);omega,List.take_length]
   repeat (first|(with_reducible first|refine af.up ?_|refine fun (K:AK) hK=> ?_|(refine hK _ ?_;clear hK K))|simp only [go_sem]|with_reducible refine wA ?_|clear hK K)
   rw [e]
theorem sr (xs:List ByteArray) (k:Nat) (hk:k<=xs.length) (s:ByteArray) (hx:xs.length<=1000000):ag Tryz.prog 35 [.aC 1 (xs.map encS) k, .v (.string s)] (.v (.bool (hasB (xs.take k) s))):=by
 have C:=jv (xs.take k) s (by simp;omega)
 have hl:(xs.take k).length=k:=by simp;omega
 rw [aK,hl] at C;refine C.le (args':=[.aC 1 (xs.map encS) k, .v (.string s)]) (by simp only [bn,AV.wf,aA,Tg]) (.cons ?_ (.cons (.refl _) .nil))
 refine .aC _ _ _ _ (by simp;omega) (by simp;omega) (fun j r r' h1 h2=> ?_) (fun j i r r' c c' h1 h2 h3 h4=> ?_)
 ·simp only [Rs,Rq] at h1 h2
  split at h2
  ·rw [h1] at h2;rw [Q4 h2]
  ·simp at h2
 ·have:r=r':=by
   simp only [Rs,Rq] at h1 h2
   split at h2
   ·rw [h1] at h2;exact Q4 h2
   ·simp at h2
  subst this;rw [h3] at h4;cases h4;exact .refl _
theorem zI (q:fg) (ho:q.ok) (h1:q.aj.length<=1000000):ag Tryz.prog 30 [.agg (cd q)] (.v (.int .i64 (nL q.aj))):=by
 have hok: ∀p∈q.aj,p.expr.ok:=fun p hp=>(ho.1 p hp).2.2.2.2;obtain ⟨ps,cs,rs,ra,sl⟩:=q;simp only [cd] at *
 (refine ag.enter Tryz.func30 rfl (by kernel_rfl) (by kernel_rfl) rfl (by first|rfl|(simp only [go_sem,Tg,SA,SD])) (by first|rfl|(simp only [go_sem,Tg,SA,SD])) ?_;simp only [Tryz.ntmps30,Tryz.results30,Rg,Q9,Nat.reduceAdd,Nat.reduceSub,Ti,Tj,Tl,Tm])
 repeat (first|(with_reducible first|refine af.up ?_|refine fun (K:AK) hK=> ?_|(refine hK _ ?_;clear hK K))|simp only [go_sem]|with_reducible refine wA ?_|clear hK K)
 refine ct (ι:=Nat) 6 (fun k=>[(3, .v (.int .i64 k)),(4, .undef),(5, .undef)]) (fun k=>ps.length - k) (fun k=>k<=ps.length∧nL (ps.drop k)=nL ps) 0 ⟨Nat.zero_le _,rfl⟩ ?_ ?_
 ·(refine ak ?_ ?_ ?_<;>simp only [aR,SI,SL,Ti,Tj,aX,aW,AV.v.injEq,Value.int.injEq,Value.bool.injEq,Value.string.injEq,AV.vec.injEq,AV.ptr.injEq,true_or,or_true,false_or,or_false,aa.mk.injEq,forall_eq_apply_imp_iff,forall_eq,forall_eq',go_sem])
  all_goals first|rfl|trace_state
 ·rintro k ⟨hk,he⟩ K hK;have eW:=aD (k:=k) (by omega)
  by_cases hlt:k<ps.length
  ·have e1:decide ((k:Int)<(ps.length:Int))=true:=decide_eq_true (by omega);have eG:=getD_map bM ps k [] hlt;obtain ⟨c,wc,CN⟩:=Fc ps[k].expr (hok _ (List.getElem_mem hlt));rw [F0 hlt] at he;rw [bI] at CN;simp only [bM] at eG;generalize ps[k]=p at *
   cases hb:p.path
   ·rw [hb] at he;simp only [Bool.false_and,Bool.false_eq_true,if_false] at he
    repeat (first|(with_reducible first|refine af.up ?_|refine fun (K:AK) hK=> ?_|(refine hK _ ?_;clear hK K))|simp only [go_sem,e1,eG,hb]|with_reducible refine wA ?_|clear hK K)
    repeat (first|(with_reducible first|refine af.up ?_|refine fun (K:AK) hK=> ?_|(refine hK _ ?_;clear hK K))|simp only [go_sem,eW]|with_reducible refine wA ?_|clear hK K)
    exact aM.mk (k+1) ⟨hlt,he⟩ (by omega) (by (refine ak ?_ ?_ ?_<;>simp only [aR,SI,SL,Ti,Tj,aX,aW,AV.v.injEq,Value.int.injEq,Value.bool.injEq,Value.string.injEq,AV.vec.injEq,AV.ptr.injEq,true_or,or_true,false_or,or_false,aa.mk.injEq,forall_eq_apply_imp_iff,forall_eq,forall_eq',go_sem]))
   ·rw [hb] at he
    repeat (first|(with_reducible first|refine af.up ?_|refine fun (K:AK) hK=> ?_|(refine hK _ ?_;clear hK K))|simp only [go_sem,e1,eG,hb]|with_reducible refine wA ?_|clear hK K)
    refine ab.one CN ?_
    by_cases hz:my p.expr=0
    ·rw [hz] at he
     repeat (first|(with_reducible first|refine af.up ?_|refine fun (K:AK) hK=> ?_|(refine hK _ ?_;clear hK K))|simp only [go_sem,hz]|with_reducible refine wA ?_|clear hK K)
     repeat (first|(with_reducible first|refine af.up ?_|refine fun (K:AK) hK=> ?_|(refine hK _ ?_;clear hK K))|simp only [go_sem,eW]|with_reducible refine wA ?_|clear hK K)
     exact aM.mk (k+1) ⟨hlt,by simpa using he⟩ (by omega) (by (refine ak ?_ ?_ ?_<;>simp only [aR,SI,SL,Ti,Tj,aX,aW,AV.v.injEq,Value.int.injEq,Value.bool.injEq,Value.string.injEq,AV.vec.injEq,AV.ptr.injEq,true_or,or_true,false_or,or_false,aa.mk.injEq,forall_eq_apply_imp_iff,forall_eq,forall_eq',go_sem]))
    ·have f1:(my p.expr !=0)=true:=by simpa using hz
     have f2:(my p.expr==0)=false:=by simpa using hz
     rw [f1] at he
     repeat (first|(with_reducible first|refine af.up ?_|refine fun (K:AK) hK=> ?_|(refine hK _ ?_;clear hK K))|simp only [go_sem,f1,f2]|with_reducible refine wA ?_|clear hK K)
     rw [<-he]
     rfl
  ·have e1:decide ((k:Int)<(ps.length:Int))=false:=decide_eq_false (by omega)
   have e0:nL ps=0:=by rw [<-he,List.drop_of_length_le (by omega),nL]
   repeat (first|(with_reducible first|refine af.up ?_|refine fun (K:AK) hK=> ?_|(refine hK _ ?_;clear hK K))|simp only [go_sem,e1]|with_reducible refine wA ?_|clear hK K)
   rw [e0]
mutual
theorem xd: ∀(x:Ex) (b:Nat),pE x b<=b->(az x).length<=pE x b
 | .mk k s l,b,h=>by
  rw [pE] at h ⊢;have h2:=xe l b 1 h;rw [az,Rg];omega
theorem xe: ∀(l:List Ex) (b n:Nat),pL l b n<=b->n+(bR l).length<=pL l b n
 | [],b,n,h=>by rw [pL,bR];simp
 | x :: xs,b,n,h=>by
  rw [pL] at h ⊢
  split at h
  ·rename_i hn;rw [if_pos hn];have r1:=qB x (b - n);have r2:=uH xs b (n+pE x (b - n)) (by omega);have h1:=xd x (b - n) (by omega);have h2:=xe xs b _ h;rw [bR,Rf];omega
  ·omega
end
theorem Fx: ∀(l:List bQ) (n:Nat),pQ l n<=300-> ∀p∈l,pE p.expr 300<=300
 | [],_,_,p,hp=>by cases hp
 | a :: l,n,h,p,hp=>by
  rw [pQ] at h
  split at h
  ·have:=Fw l (n+pE a.expr 300)
   rcases SZ.1 hp with rfl|hp
   ·omega
   ·exact Fx l _ h p hp
  ·omega
theorem Al {z:Ex}: ∀ {l:List Ex},z∈l->(az z).length<=(l.flatMap az).length
 | [],h=>by cases h
 | a :: l,h=>by
  rw [List.flatMap_cons,Rf]
  rcases SZ.1 h with rfl|h
  ·omega
  ·have:=Al h;omega
theorem zm (x:Ex) (h:(az x).length<=1000000):x.lens 1000000:=by
 induction x using Ex.ind with
 | h k s l ih=>
  intro y hy;rw [az,b8] at hy h
  rcases SZ.1 hy with rfl|hy
  ·show l.length<=_
   have:l.length<=(l.flatMap az).length:=by
    clear ih hy h
    induction l with
    | nil=>simp
    | cons a l ih2=>
     rw [List.flatMap_cons,Rf,Rg]
     have:1<=(az a).length:=by obtain ⟨k,s,l⟩:=a;rw [az];simp
     omega
   simp only [Rg] at h;omega
  ·obtain ⟨z,hz,hy⟩:=List.mem_flatMap.1 hy;refine ih z hz ?_ y hy
   have:=Al hz
   simp only [Rg] at h;omega
theorem F8 {q:fg} (h:Df q<=300):q.aj.length+q.conds.length+q.ret.length<=300∧ ∀p∈q.aj,p.expr.lens 1000000:=by
 refine ⟨Nat.le_trans (Fw _ _) h,fun p hp=>zm _ ?_⟩;have h1:=Fx _ _ h p hp
 have:=xd _ _ h1
 omega
attribute [go_sem] bF
theorem Di (l:List Nat):ag Tryz.prog 34 [.aC 1 (au l) l.length] (.fn 73 [] [.vp [.aC 1 (au l) l.length]]):=by
 (refine ag.enter Tryz.func34 rfl (by kernel_rfl) (by kernel_rfl) rfl (by first|rfl|(simp only [go_sem,Tg,SA,SD])) (by first|rfl|(simp only [go_sem,Tg,SA,SD])) ?_;simp only [Tryz.ntmps34,Tryz.results34,Rg,Q9,Nat.reduceAdd,Nat.reduceSub,Ti,Tj,Tl,Tm])
 repeat' (first|(with_reducible first|refine af.up ?_|refine fun (K:AK) hK=> ?_|(refine hK _ ?_;clear hK K))|simp only [go_sem]|clear hK K|(with_reducible refine ab.one (by assumption) ?_)|(with_reducible refine aQ.one (by assumption) ?_)|(refine cL.part (fun hb=> ?_) (fun hb=> ?_)<;>simp only [hb,go_sem])|(refine cL.part (fun hb=> ?_) (fun hb=> ?_))|(with_reducible refine dy.mk ?_ ?_))
 (refine kY.of 40 rfl ?_;simp only [go_sem])
theorem Eu {L:List Nat} {i:Nat} (h:i<=L.length):Le (.aC 1 (au L) i) (.aC 1 (au (L.take i)) i):=by
 have key: ∀(j:Nat) r r',(au L)[j]? = some r->(au (L.take i))[j]? = some r'->r=r':=fun j r r' h1 h2=>by
  simp only [au,Rs,Rq] at h1 h2
  split at h2
  ·rw [h1] at h2;exact Q4 h2
  ·simp at h2
 refine .aC _ _ _ _ (by simp [au];omega) (by simp [au];omega) (fun j r r' h1 h2=>by rw [key j r r' h1 h2]) (fun j k r r' c c' h1 h2 h3 h4=> ?_)
 have:=key j r r' h1 h2
 subst this;rw [h3] at h4;cases h4;exact .refl _
end Go.Proofs.YtjcobjgjjlahdaaGreatDoor
