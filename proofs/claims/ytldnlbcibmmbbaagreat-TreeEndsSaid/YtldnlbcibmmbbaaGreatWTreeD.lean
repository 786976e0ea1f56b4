/- kinescopelaw11.exprSize, kinescopelaw11.size: how many parts a query has, as far as 401. -/
import Derived.Test.YtldnlbcibmmbbaaGreatProg
import Derived.Test.YtldnlbcibmmbbaaGreatWBase2
import Derived.Test.YtldnlbcibmmbbaaGreatWExprA
import Derived.StillTailTactics
set_option linter.unusedSimpArgs false
set_option linter.unusedVariables false
open Array renaming getElem?_eq_some_iff → IY
open List renaming take_zero → KN, take_succ_cons → KO, getElem_cons_succ → KP, getElem?_toArray → Jg, getElem?_cons_zero → Kd, take_of_length_le → KQ
open Nat renaming le_refl → IV
namespace Go.Proofs.YtldnlbcibmmbbaaGreat
open Go.RowKit
def uS (x:Ex):Prop:= ∀(deep:Nat) (cx:List Value) (w:World),cf w x cx→deep≤61→Calls Tryz.prog 36 #[.agg cx.toArray, .int .i64 deep] w (fU w (.int .i64 (tf x deep:Nat)))
theorem pz: ∀(l:List Ex) (deep n k:Nat) (h:k<l.length),kS (l.take k) deep n≤400→kS (l.take (k+1)) deep n=kS (l.take k) deep n+tf l[k] deep
 | [],_,_,_,h,_=>by simp at h
 | x :: xs,deep,n,0,_,hn=>by
  simp only [KN,kS] at hn ⊢
  simp [kS,hn]
 | x :: xs,deep,n,k+1,h,hn=>by
  simp only [KO,kS,KP] at hn ⊢
  by_cases hc:n≤400
  ·rw [if_pos hc] at hn ⊢
   rw [if_pos hc]
   exact pz xs deep _ k (by simpa using h) hn
  ·rw [if_neg hc] at hn;omega
theorem pF: ∀(l:List Ex) (deep n k:Nat),400<kS (l.take k) deep n→kS l deep n=kS (l.take k) deep n
 | [],_,_,_,_=>by simp
 | x :: xs,deep,n,0,hn=>by
  simp only [KN,kS] at hn ⊢
  rw [if_neg (by omega)]
 | x :: xs,deep,n,k+1,hn=>by
  simp only [KO,kS] at hn ⊢
  by_cases hc:n≤400
  ·rw [if_pos hc] at hn ⊢
   rw [if_pos hc]
   exact pF xs deep _ k hn
  ·rw [if_neg hc,if_neg hc]
set_option maxRecDepth 100000 in
set_option maxHeartbeats 4000000 in
theorem qi (x:Ex):uS x:=by
 induction x using Ex.ind with
 | h k s l ih=>
  intro deep cx w hx hdeep
  rw [cf] at hx
  obtain ⟨sv,rfl,hr⟩:=hx
  obtain ⟨p,c,rfl,hc1,hc2⟩:=hr.shape
  unfold maxLen at hc2
  rw [tf]
  have HB:=Lib.hid (fun ob=>((Below.refl w.heap.size w).alloc (IV _) ob))
  by_cases hd:60<deep
  ·rw [if_pos hd]
   clear ih hr
   go_enter Tryz.func36,Tryz.ntmps36
   go_wp2_with fail
   go_ret
   exact iz rfl rfl (HB.out _)
  ·rw [if_neg hd]
   have HX:=Lib.hid ih;have HR:=Lib.hid hr;have HD:=Lib.hid hd
   have hd':deep≤60:=by omega
   have hbox0:(w.alloc (.cells #[.int .i64 k, .string s, .slice p l.length c] 43)).heap[w.heap.size]? = _:=aX w _
   have HBX:=Lib.hid hbox0
   clear ih hr hd hbox0
   go_enter Tryz.func36,Tryz.ntmps36
   go_wp2_with fail
   go_loopw [5,6] (fun n i wr=> ∃j:Nat,i = .int .i64 j∧n = .int .i64 (kS (l.take j) (deep+1) 1:Nat)∧j≤l.length∧kS (l.take j) (deep+1) 1≤30000∧Below w.heap.size w wr∧wr.heap[w.heap.size]? = some (.cells #[.int .i64 k, .string s, .slice p l.length c] 43)) (fun _ i _=>l.length - (intOf i).toNat)
   case atStart=>exact ⟨0,rfl,by simp [kS],Nat.zero_le _,by simp [kS],HB.out _,HBX.out⟩
   case round=>
    obtain ⟨j,rfl,rfl,hj,hn,hb,hbx⟩:=hrel
    have hc0:=jB hbx 2
    simp only [Jg,List.getElem?_cons_succ,Kd] at hc0
    have HBL:=Lib.hid hb;have HBX2:=Lib.hid hbx
    clear hb hbx
    by_cases hlt:j<l.length
    ·by_cases h4:kS (l.take j) (deep+1) 1≤400
     ·obtain ⟨b1,o1,k1,s1,l1,v1,rfl,hx1,hr1,a0,a1,a2⟩:=(HR.out.below HBL.out).at hlt
      have HC:=Lib.hid (HX.out l[j] (List.getElem_mem _) (deep+1) [.int .i64 k1, .string s1,v1] wr (by rw [hx1,cf];exact ⟨v1,rfl,hr1⟩) (by omega))
      obtain ⟨h5,_⟩:=qk l[j] (deep+1) (by omega)
      have HT:=Lib.hid (pz l (deep+1) 1 j hlt h4)
      have h6:tf l[j] (deep+1)≤25000:=by omega
      clear hx1 hr1 h5
      generalize hs1:kS (l.take j) (deep+1) 1=n at *
      generalize hs2:tf l[j] (deep+1)=m at *
      have HS1:=Lib.hid hs1;clear hs1 hs2
      go_wp2_with fail
      refine HC.out.mono ?_
      rintro e w' ⟨rfl,hb'⟩
      go_wp2_with fail
      go_roundw
      case rel=>exact ⟨j+1,by go_num,by rw [HT.out];go_num,by omega,by rw [HT.out];omega,aa HBL.out hb',(hb'.block _ (IY.1 HBX2.out).1).trans HBX2.out⟩
      case measure=>simp [intOf];omega
     ·have HST:=Lib.hid (pF l (deep+1) 1 j (by omega))
      generalize hs1:kS (l.take j) (deep+1) 1=n at *
      have HS1:=Lib.hid hs1;clear hs1
      go_wp2_with fail
      go_ret
      exact iz rfl (by rw [HST.out]) HBL.out
    ·have HST:Hid (kS (l.take j) (deep+1) 1=kS l (deep+1) 1):=by show _=_;rw [KQ (by omega)]
     generalize hs1:kS (l.take j) (deep+1) 1=n at *
     have HS1:=Lib.hid hs1;clear hs1
     go_wp2_with fail
     go_ret
     exact iz rfl (by rw [HST.out]) HBL.out
theorem oW: ∀(l:List cQ) (n k:Nat) (h:k<l.length),mW (l.take k) n≤400→mW (l.take (k+1)) n=mW (l.take k) n+tf l[k].expr 0
 | [],_,_,h,_=>by simp at h
 | x :: xs,n,0,_,hn=>by
  simp only [KN,mW] at hn ⊢
  simp [mW,hn]
 | x :: xs,n,k+1,h,hn=>by
  simp only [KO,mW,KP] at hn ⊢
  by_cases hc:n≤400
  ·rw [if_pos hc] at hn ⊢
   rw [if_pos hc]
   exact oW xs _ k (by simpa using h) hn
  ·rw [if_neg hc] at hn;omega
theorem pf: ∀(l:List cQ) (n k:Nat),400<mW (l.take k) n→mW l n=mW (l.take k) n
 | [],_,_,_=>by simp
 | x :: xs,n,0,hn=>by
  simp only [KN,mW] at hn ⊢
  rw [if_neg (by omega)]
 | x :: xs,n,k+1,hn=>by
  simp only [KO,mW] at hn ⊢
  by_cases hc:n≤400
  ·rw [if_pos hc] at hn ⊢
   rw [if_pos hc]
   exact pf xs _ k hn
  ·rw [if_neg hc,if_neg hc]
set_option maxRecDepth 100000 in
set_option maxHeartbeats 4000000 in
theorem vA (q:dF) (cx:List Value) (w:World) (hx:eb w q cx) (hq:q.small):Calls Tryz.prog 14 #[.agg cx.toArray] w (fU w (.int .i64 (Di q:Nat))):=by
 obtain ⟨v1,v2,v3,r1,r2,r3,rfl⟩:=hx
 obtain ⟨q1,q2,q3⟩:=hq
 obtain ⟨p1,c1,rfl, -, -⟩:=r1.shape
 obtain ⟨p2,c2,rfl, -, -⟩:=r2.shape
 obtain ⟨p3,c3,rfl, -, -⟩:=r3.shape
 unfold Di
 have HB:=Lib.hid (fun ob=>((Below.refl w.heap.size w).alloc (IV _) ob))
 have HR:=Lib.hid r1
 have hbox0:(w.alloc (.cells #[.slice p1 q.ao.length c1, .slice p2 q.conds.length c2, .slice p3 q.ret.length c3, .int .i64 q.range, .int .i64 q.cU] 26)).heap[w.heap.size]? = _:=aX w _
 have HBX:=Lib.hid hbox0
 clear r1 r2 r3 hbox0
 obtain ⟨n0,hn0⟩: ∃n0,n0=q.ao.length+q.conds.length+q.ret.length:=⟨_,rfl⟩
 rw [←hn0]
 have hn0c:((n0:Nat):Int)=(q.ao.length:Int)+q.conds.length+q.ret.length:=by omega
 have hn0l:n0≤500000000000000:=by omega
 have HN0:=Lib.hid hn0c
 clear hn0 hn0c
 go_enter Tryz.func14,Tryz.ntmps14
 go_wp2_with fail
 rw [←HN0.out]
 go_loopw [3,4] (fun n i wr=> ∃j:Nat,i = .int .i64 j∧n = .int .i64 (mW (q.ao.take j) n0:Nat)∧j≤q.ao.length∧mW (q.ao.take j) n0≤600000000000000∧Below w.heap.size w wr∧wr.heap[w.heap.size]? = some (.cells #[.slice p1 q.ao.length c1, .slice p2 q.conds.length c2, .slice p3 q.ret.length c3, .int .i64 q.range, .int .i64 q.cU] 26)) (fun _ i _=>q.ao.length - (intOf i).toNat)
 case atStart=>exact ⟨0,rfl,by simp [mW],Nat.zero_le _,by simp [mW];omega,HB.out _,HBX.out⟩
 case round=>
  obtain ⟨j,rfl,rfl,hj,hn,hb,hbx⟩:=hrel
  have hc0:=jB hbx 0
  simp only [Jg,Kd] at hc0
  have HBL:=Lib.hid hb;have HBX2:=Lib.hid hbx
  clear hb hbx
  by_cases hlt:j<q.ao.length
  ·by_cases h4:mW (q.ao.take j) n0≤400
   ·obtain ⟨b1,o1,k1,s1,l1,v1,rfl,hx1,hr1,a0,a1,a2,a3,a4,a5,a6,a7⟩:=dv (bd HBL.out HR.out) hlt
    have HC:=Lib.hid (qi q.ao[j].expr 0 [.int .i64 k1, .string s1,v1] wr (by rw [hx1,cf];exact ⟨v1,rfl,hr1⟩) (by omega))
    obtain ⟨h5,_⟩:=qk q.ao[j].expr 0 (by omega)
    have HT:=Lib.hid (oW q.ao n0 j hlt h4)
    have h6:tf q.ao[j].expr 0≤25000:=by omega
    clear hx1 hr1 h5
    generalize hs1:mW (q.ao.take j) n0=n at *
    generalize hs2:tf q.ao[j].expr 0=m at *
    have HS1:=Lib.hid hs1;clear hs1 hs2
    go_wp2_with fail
    refine HC.out.mono ?_
    rintro e w' ⟨rfl,hb'⟩
    go_wp2_with fail
    go_roundw
    case rel=>exact ⟨j+1,by go_num,by rw [HT.out];go_num,by omega,by rw [HT.out];omega,aa HBL.out hb',(hb'.block _ (IY.1 HBX2.out).1).trans HBX2.out⟩
    case measure=>simp [intOf];omega
   ·have HST:=Lib.hid (pf q.ao n0 j (by omega))
    generalize hs1:mW (q.ao.take j) n0=n at *
    have HS1:=Lib.hid hs1;clear hs1
    go_wp2_with fail
    go_ret
    exact iz rfl (by rw [HST.out]) HBL.out
  ·have HST:Hid (mW (q.ao.take j) n0=mW q.ao n0):=by show _=_;rw [KQ (by omega)]
   generalize hs1:mW (q.ao.take j) n0=n at *
   have HS1:=Lib.hid hs1;clear hs1
   go_wp2_with fail
   go_ret
   exact iz rfl (by rw [HST.out]) HBL.out
def aE (p:cQ):Nat:=if p.path then (ak p.expr).length else 0
def j3 (q:dF):Nat:=q.ao.length+q.conds.length+q.ret.length+(q.ao.map aE).sum
set_option maxRecDepth 100000 in
set_option maxHeartbeats 4000000 in
theorem lf (q:dF) (cx:List Value) (w:World) (hx:eb w q cx) (hq:q.ok) (hN:q.ao.length+q.conds.length+q.ret.length≤1000) (hP: ∀p,p∈q.ao→(ak p.expr).length≤1000) :
  Calls Tryz.prog 22 #[.agg cx.toArray] w (fU w (.int .i64 (j3 q:Nat))):=by
 obtain ⟨v1,v2,v3,r1,r2,r3,rfl⟩:=hx
 obtain ⟨p1,c1,rfl, -, -⟩:=r1.shape
 obtain ⟨p2,c2,rfl, -, -⟩:=r2.shape
 obtain ⟨p3,c3,rfl, -, -⟩:=r3.shape
 have HB:=Lib.hid (fun ob=>((Below.refl w.heap.size w).alloc (IV _) ob))
 have HR:=Lib.hid r1;have HO:=Lib.hid hq.1;have HPP:=Lib.hid hP
 clear r1 r2 r3 hq hP
 obtain ⟨n0,hn0⟩: ∃n0,n0=q.ao.length+q.conds.length+q.ret.length:=⟨_,rfl⟩
 have hn0c:((n0:Nat):Int)=(q.ao.length:Int)+q.conds.length+q.ret.length:=by omega
 have hn0l:n0≤1000:=by omega
 have hpl:q.ao.length≤1000:=by omega
 have hcl:q.conds.length≤1000:=by omega
 have hrl:q.ret.length≤1000:=by omega
 have hfin:j3 q=n0+(q.ao.map aE).sum:=by rw [j3,hn0]
 rw [hfin]
 have HN0:=Lib.hid hn0c
 clear hn0 hn0c hfin hN
 go_enter Tryz.func22,Tryz.ntmps22
 go_wp2_with fail
 rw [←HN0.out]
 go_loopw [3,20] (fun n i wr=> ∃j:Nat,i = .int .i64 j∧n = .int .i64 (n0+((q.ao.take j).map aE).sum:Nat)∧j≤q.ao.length∧((q.ao.take j).map aE).sum≤1000 * j∧Below w.heap.size w wr) (fun _ i _=>q.ao.length - (intOf i).toNat)
 case atStart=>exact ⟨0,rfl,by simp,Nat.zero_le _,by simp,HB.out _⟩
 case round=>
  obtain ⟨j,rfl,rfl,hj,hn,hb⟩:=hrel
  have HBL:=Lib.hid hb
  clear hb
  by_cases hlt:j<q.ao.length
  ·obtain ⟨b1,o1,k1,s1,l1,v1,rfl,hx1,hr1,a0,a1,a2,a3,a4,a5,a6,a7⟩:=dv (bd HBL.out HR.out) hlt
   have hq1:=cr a0
   obtain ⟨pv1,cv1,rfl, -, -⟩:=hr1.shape
   have hmem:q.ao[j]∈q.ao:=List.getElem_mem _
   have h5:=HPP.out _ hmem
   have HC:=Lib.hid (fun W (hw:Below wr.heap.size wr W)=>sH q.ao[j].expr [.int .i64 k1, .string s1, .slice pv1 l1.length cv1] W (by rw [hx1,cf];exact ⟨_,rfl,hr1.below hw⟩) (HO.out _ hmem).2.2.2.2 (by omega))
   have hT:((q.ao.take (j+1)).map aE).sum=((q.ao.take j).map aE).sum+aE q.ao[j]:=by
    rw [List.take_succ_eq_append_getElem hlt,List.map_append,List.sum_append,List.map_cons,List.map_nil,List.sum_cons,List.sum_nil,Nat.add_zero]
   have HT:=Lib.hid hT
   have HW:=Lib.hid (fun ob=>((Below.refl wr.heap.size wr).alloc (IV _) ob))
   clear hx1 hr1 hmem hT
   cases hpt:q.ao[j].path
   ·have hpp:aE q.ao[j]=0:=by simp [aE,hpt]
    rw [hpt] at a2
    have HPT:=Lib.hid hpp;clear hpp hpt HC
    generalize hs1:((q.ao.take j).map aE).sum=n at *
    have HS1:=Lib.hid hs1;clear hs1
    go_wp2_with fail
    go_roundw
    case rel=>exact ⟨j+1,by go_num,by rw [HT.out,HPT.out];go_num,by omega,by rw [HT.out,HPT.out];omega,aa HBL.out (HW.out _)⟩
    case measure=>simp [intOf];omega
   ·have hpp:aE q.ao[j]=(ak q.ao[j].expr).length:=by simp [aE,hpt]
    rw [hpt] at a2
    have HPT:=Lib.hid hpp;clear hpp hpt
    generalize hs1:((q.ao.take j).map aE).sum=n at *
    generalize hs2:(ak q.ao[j].expr).length=m at *
    have HS1:=Lib.hid hs1;clear hs1 hs2
    go_wp2_with fail
    refine (HC.out _ (HW.out _)).mono ?_
    rintro e w' ⟨rfl,hb'⟩
    go_wp2_with fail
    go_roundw
    case rel=>exact ⟨j+1,by go_num,by rw [HT.out,HPT.out];go_num,by omega,by rw [HT.out,HPT.out];omega,aa HBL.out (aa (HW.out _) hb')⟩
    case measure=>simp [intOf];omega
  ·have HST:Hid (((q.ao.take j).map aE).sum=(q.ao.map aE).sum):=by show _=_;rw [KQ (by omega)]
   generalize hs1:((q.ao.take j).map aE).sum=n at *
   have HS1:=Lib.hid hs1;clear hs1
   go_wp2_with fail
   go_ret
   exact iz rfl (by rw [HST.out]) HBL.out
end Go.Proofs.YtldnlbcibmmbbaaGreat
