/- The statements' kit: numbers and texts that are lent, and kept: the walks. -/
import Derived.Test.YtldnlbcibmmbbaaGreatWLent
import Derived.Test.YtldnlbcibmmbbaaGreatWEnc
import Derived.Test.YtldnlbcibmmbbaaGreatWRenW
set_option linter.unusedSimpArgs false
set_option linter.unusedVariables false
open Bool renaming and_self → Km, and_true → Kh, true_and → Kj, not_eq_eq_eq_not → Ku
open Int renaming ofNat_lt → Kw, ofNat_le → Kx
open List renaming getD_eq_getElem?_getD → JR, getElem?_append_left → I1, getElem?_append_right → Jt, length_cons → I5, length_nil → IZ, replicate_succ → Kn, replicate_zero → Ko, cons_append → Kq, nil_append → Kr, foldl_cons → Ks, foldl_nil → Kt
namespace Go.Proofs.YtldnlbcibmmbbaaGreat
open Go.RowKit
def Dw (i:Nat):List AV:=[pN i]
theorem Dg {n:Nat} (h:n≤1000000):IntKind.i64.wrap ((n:Int)+12)=((n+12:Nat):Int):=by rw [cL (by omega) (by omega)];omega
@[go_sem] theorem FO (n k:Nat):ct n (dX Dw k)=true:=du n _ (fun _=>rfl) k
@[go_sem] theorem Ey (n:Nat):ct n (marksOf Dw)=true:=du n _ (fun _=>rfl) 12
theorem Fi {α:Type} (f:α→List AV) (l:List α) (m:List (List AV)) (i:Nat) (h:i<l.length):(l.map f++m).getD i []=f l[i]:=by
 rw [JR,I1 (by simpa using h)];simp [h]
theorem EM (f:Nat→List AV): ∀n i,i<n→(dX f n)[i]? = some (f i)
 | 0,i,h=>absurd h (by omega)
 | n+1,i,h=>by
  rw [dX]
  rcases Nat.lt_or_ge i n with q|q
  ·rw [I1 (by rw [fM];exact q)];exact EM f n i q
  ·obtain rfl:i=n:=by omega
   rw [Jt (by rw [fM];exact Nat.le_refl _),fM];simp
theorem Fh {α:Type} (f:α→List AV) (l:List α) (m:Nat→List AV) (j:Nat) (h:j<12):(l.map f++marksOf m).getD (l.length+j) []=m j:=by
 rw [JR,Jt (by simp),List.length_map,Nat.add_sub_cancel_left,marksOf,EM m 12 j h];rfl
set_option maxRecDepth 100000 in
set_option maxHeartbeats 2000000 in
theorem o8 (i:Nat) (hi:i<12):ai Tryz.prog 67 [.v (.int .i64 1), .v (.int .i64 i)] (.v (.string ⟨#[35,1,0,0,47,UInt8.ofNat i,0,0]⟩)):=by
 (refine ai.enter Tryz.func67 rfl (by kernel_rfl) (by kernel_rfl) rfl (by first|rfl|(simp only [go_sem,Km,Kh,Kj])) (by first|rfl|(simp only [go_sem,Km,Kh,Kj])) ?_;simp only [Tryz.ntmps67,Tryz.results67,I5,IZ,Nat.reduceAdd,Nat.reduceSub,Kn,Ko,Kq,Kr])
 repeat (first|(with_reducible first|refine ah.up ?_|refine fun (K:AK) hK=> ?_|(refine hK _ ?_;clear hK K))|simp only [go_sem]|clear hK K)
 rcases (by omega:i=0∨i=1∨i=2∨i=3∨i=4∨i=5∨i=6∨i=7∨i=8∨i=9∨i=10∨i=11) with rfl|rfl|rfl|rfl|rfl|rfl|rfl|rfl|rfl|rfl|rfl|rfl
 all_goals rfl
def Hx (i:Nat):ByteArray:=⟨#[35,1,0,0,47,UInt8.ofNat i,0,0]⟩
def cW (i:Nat):List AV:=[.v (.string (Hx i))]
theorem nP (n:Nat) (l:List ByteArray):ct n (l.map aT)=true:=cV _ (fun _=>rfl) l
@[go_sem] theorem FM (n k:Nat):ct n (dX cW k)=true:=du n _ (fun _=>rfl) k
@[go_sem] theorem ir (n:Nat):ct n (marksOf cW)=true:=du n _ (fun _=>rfl) 12
set_option maxRecDepth 100000 in
set_option maxHeartbeats 2000000 in
theorem nj (l:List ByteArray) (hl:l.length≤1000000) :
  ai Tryz.prog 30 [.an 1 (l.map aT) l.length] (.an 1 (l.map aT++marksOf cW) l.length):=by
 have e1:IntKind.i64.wrap ((l.length:Int)+12)=((l.length+12:Nat):Int):=Dg hl
 have eT:List.take l.length (l.map aT)=l.map aT:=by rw [List.take_of_length_le (by simp)]
 (refine ai.enter Tryz.func30 rfl (by kernel_rfl) (by kernel_rfl) rfl (by first|rfl|(simp only [go_sem,Km,Kh,Kj])) (by first|rfl|(simp only [go_sem,Km,Kh,Kj])) ?_;simp only [Tryz.ntmps30,Tryz.results30,I5,IZ,Nat.reduceAdd,Nat.reduceSub,Kn,Ko,Kq,Kr])
 repeat (first|(with_reducible first|refine ah.up ?_|refine fun (K:AK) hK=> ?_|(refine hK _ ?_;clear hK K))|simp only [go_sem,e1,eT]|with_reducible refine wA ?_|clear hK K)
 refine aZ (ι:=Nat) (fun i=>[(0, .an 1 (l.map aT) l.length),(2, .v (.slice none 0 0)),(3, .vec 0 (l.length+i)),(4, .v (.int .i64 i))]) (fun i=>[some ⟨9,1,true,l.map aT++dX cW i⟩]) (fun i=>12 - i) (fun i=>i≤12) 0 (by omega) ?_ ?_
 ·(refine au ?_ ?_ ?_<;>simp only [aD,Ks,Kt,Kn,Ko,bu,bt,AV.v.injEq,Value.int.injEq,Value.bool.injEq,Value.string.injEq,AV.vec.injEq,AV.ptr.injEq,true_or,or_true,false_or,or_false,ab.mk.injEq,forall_eq_apply_imp_iff,forall_eq,forall_eq',go_sem])
  ·exact ⟨rfl,rfl⟩
  ·simp [dX]
 ·intro i hi K hK
  simp only [aD,Ks,Kt,Kn,Ko,go_sem]
  repeat (first|(with_reducible first|refine ah.up ?_|refine fun (K:AK) hK=> ?_|(refine hK _ ?_;clear hK K))|simp only [go_sem]|with_reducible refine wA ?_|clear hK K)
  refine aO.part (fun h2=> ?_) (fun h2=> ?_)
  ·have hlt:i<12:=by (try simp only [bne_iff_ne,ne_eq,bne_eq_false_iff_eq,beq_iff_eq,beq_eq_false_iff_ne,decide_eq_true_eq,decide_eq_false_iff_not,Ku,Int.natCast_inj,Kw,Kx] at h2);omega
   have eW:=ar (k:=i) (by omega)
   have M:=o8 i (by omega)
   repeat (first|(with_reducible first|refine ah.up ?_|refine fun (K:AK) hK=> ?_|(refine hK _ ?_;clear hK K))|simp only [go_sem,eW]|with_reducible refine wA ?_|clear hK K)
   refine aj.one M ?_
   repeat (first|(with_reducible first|refine ah.up ?_|refine fun (K:AK) hK=> ?_|(refine hK _ ?_;clear hK K))|simp only [go_sem,eW]|with_reducible refine wA ?_|clear hK K)
   exact aC.mk (i+1) (by omega) (by omega) (by (refine au ?_ ?_ ?_<;>simp only [aD,Ks,Kt,Kn,Ko,bu,bt,AV.v.injEq,Value.int.injEq,Value.bool.injEq,Value.string.injEq,AV.vec.injEq,AV.ptr.injEq,true_or,or_true,false_or,or_false,ab.mk.injEq,forall_eq_apply_imp_iff,forall_eq,forall_eq',go_sem])<;>rfl)
  ·have h12:i=12:=by (try simp only [bne_iff_ne,ne_eq,bne_eq_false_iff_eq,beq_iff_eq,beq_eq_false_iff_ne,decide_eq_true_eq,decide_eq_false_iff_not,Ku,Int.natCast_inj,Kw,Kx] at h2);omega
   have eM:dX cW i=marksOf cW:=by rw [h12];rfl
   repeat (first|(with_reducible first|refine ah.up ?_|refine fun (K:AK) hK=> ?_|(refine hK _ ?_;clear hK K))|simp only [go_sem,eM]|with_reducible refine wA ?_|clear hK K)
   exact ju.an (by simp only [cD,nP,ir,Km])
set_option maxRecDepth 100000 in
set_option maxHeartbeats 4000000 in
theorem ng (l:List ByteArray) (hl:l.length≤1000000) :
  ai Tryz.prog 34 [.an 1 (l.map aT++marksOf cW) l.length, .an 1 (l.map aT) l.length] (.v (.bool true)):=by
 have e1:IntKind.i64.wrap ((l.length:Int)+12)=((l.length+12:Nat):Int):=Dg hl
 have w1:ct 0 (l.map aT++marksOf cW)=true:=by simp only [cD,nP,ir,Km]
 (refine ai.enter Tryz.func34 rfl (by kernel_rfl) (by kernel_rfl) rfl (by simp only [go_sem,bB,AV.wf,Km,Kh,Kj,w1,nP]) (by simp only [go_sem,bB,AV.wf,cu,Km,Kh,Kj,w1,nP]) ?_;simp only [Tryz.ntmps34,Tryz.results34,I5,IZ,Nat.reduceAdd,Nat.reduceSub,Kn,Ko,Kq,Kr])
 repeat (first|(with_reducible first|refine ah.up ?_|refine fun (K:AK) hK=> ?_|refine wD ?_|(refine hK _ ?_;clear hK K))|simp only [go_sem,e1]|with_reducible refine wA ?_|clear hK K)
 refine aZ (ι:=Nat) (fun i=>[(0, .an 1 (l.map aT++marksOf cW) l.length),(1, .an 1 (l.map aT) l.length),(4, .v (.bool false)),(5, .an 1 (l.map aT++marksOf cW) (l.length+12)),(6, .v (.int .i64 i))]) (fun _=>[]) (fun i=>l.length+12 - i) (fun i=>i≤l.length+12) 0 (by omega) ?_ ?_
 ·(refine au ?_ ?_ ?_<;>simp only [aD,Ks,Kt,Kn,Ko,bu,bt,AV.v.injEq,Value.int.injEq,Value.bool.injEq,Value.string.injEq,AV.vec.injEq,AV.ptr.injEq,true_or,or_true,false_or,or_false,ab.mk.injEq,forall_eq_apply_imp_iff,forall_eq,forall_eq',go_sem])
  rfl
 ·intro i hi K hK
  simp only [aD,Ks,Kt,Kn,Ko,go_sem]
  repeat (first|(with_reducible first|refine ah.up ?_|refine fun (K:AK) hK=> ?_|refine wD ?_|(refine hK _ ?_;clear hK K))|simp only [go_sem]|with_reducible refine wA ?_|clear hK K)
  refine aO.part (fun h=> ?_) (fun h=> ?_)
  ·have hlt:i<l.length+12:=by (try simp only [decide_eq_true_eq,decide_eq_false_iff_not,Kw,Kx] at h);omega
   have eW:=ar (k:=i) (by omega)
   rcases Nat.lt_or_ge i l.length with q|q
   ·have g1:decide ((i:Int)<(l.length:Int))=true:=by simpa using q
    have g2:decide ((l.length:Int)≤(i:Int))=false:=by simpa using q
    have eG:=Fi aT l (marksOf cW) i q
    have eH:=getD_map aT l i [] q
    simp only [aT] at eG eH
    repeat (first|(with_reducible first|refine ah.up ?_|refine fun (K:AK) hK=> ?_|refine wD ?_|(refine hK _ ?_;clear hK K))|simp only [go_sem,g1,g2,eG,eH,eW,Go.undef]|with_reducible refine wA ?_|clear hK K)
    exact aC.mk (i+1) (by omega) (by omega) (by (refine au ?_ ?_ ?_<;>simp only [aD,Ks,Kt,Kn,Ko,bu,bt,AV.v.injEq,Value.int.injEq,Value.bool.injEq,Value.string.injEq,AV.vec.injEq,AV.ptr.injEq,true_or,or_true,false_or,or_false,ab.mk.injEq,forall_eq_apply_imp_iff,forall_eq,forall_eq',go_sem]))
   ·obtain ⟨j,hj⟩: ∃j,i=l.length+j:=⟨i - l.length,by omega⟩
    have g1:decide ((i:Int)<(l.length:Int))=false:=decide_eq_false (by omega)
    have g2:decide ((l.length:Int)≤(i:Int))=true:=decide_eq_true (by omega)
    have eS:IntKind.i64.wrap ((i:Int) - (l.length:Int))=(j:Int):=by rw [cL (by omega) (by omega)];omega
    have eG:(l.map aT++marksOf cW).getD i []=cW j:=by rw [hj];exact Fh aT l cW j (by omega)
    have M:=o8 j (by omega)
    simp only [cW,Hx] at M eG
    repeat (first|(with_reducible first|refine ah.up ?_|refine fun (K:AK) hK=> ?_|refine wD ?_|(refine hK _ ?_;clear hK K))|simp only [go_sem,g1,g2,eG,eS,eW,Go.undef]|with_reducible refine wA ?_|clear hK K)
    refine aw.one M ?_
    repeat (first|(with_reducible first|refine ah.up ?_|refine fun (K:AK) hK=> ?_|refine wD ?_|(refine hK _ ?_;clear hK K))|simp only [go_sem,g1,g2,eG,eS,eW,Go.undef]|with_reducible refine wA ?_|clear hK K)
    exact aC.mk (i+1) (by omega) (by omega) (by (refine au ?_ ?_ ?_<;>simp only [aD,Ks,Kt,Kn,Ko,bu,bt,AV.v.injEq,Value.int.injEq,Value.bool.injEq,Value.string.injEq,AV.vec.injEq,AV.ptr.injEq,true_or,or_true,false_or,or_false,ab.mk.injEq,forall_eq_apply_imp_iff,forall_eq,forall_eq',go_sem]))
  ·repeat (first|(with_reducible first|refine ah.up ?_|refine fun (K:AK) hK=> ?_|refine wD ?_|(refine hK _ ?_;clear hK K))|simp only [go_sem]|with_reducible refine wA ?_|clear hK K)
theorem pL: ∀(l acc:List ByteArray),(l.foldl aJ acc).length≤acc.length+l.length
 | [],acc=>by simp
 | s :: l,acc=>by
  simp only [Ks,I5]
  have:=pL l (aJ acc s)
  have h2:(aJ acc s).length≤acc.length+1:=by unfold aJ;split<;>simp
  omega
theorem tR: ∀(l acc:List ByteArray),acc.Nodup→(l.foldl aJ acc).length=acc.length+l.length→(acc++l).Nodup
 | [],acc,h,_=>by simpa using h
 | s :: l,acc,h,e=>by
  simp only [Ks,I5] at e
  by_cases hs:hasB acc s=true
  ·have e1:aJ acc s=acc:=by rw [aJ,if_pos hs]
   rw [e1] at e
   have:=pL l acc
   omega
  ·have e1:aJ acc s=acc++[s]:=by rw [aJ,if_neg hs]
   rw [e1] at e
   have hn:(acc++[s]).Nodup:=List.nodup_append.2 ⟨h,by simp,fun x hx y hy e=>hs (uL.2 (by simp at hy;rw [←hy, ← e];exact hx))⟩
   have:=tR l (acc++[s]) hn (by rw [e];simp;omega)
   simpa using this
theorem pd: ∀(l acc:List ByteArray),(acc++l).Nodup→l.foldl aJ acc=acc++l
 | [],acc,_=>by simp
 | s :: l,acc,h=>by
  have hs: ¬hasB acc s=true:=fun hh=>by
   have:=(List.nodup_append.1 h).2.2 s (uL.1 hh) s (by simp)
   exact this rfl
  rw [Ks,aJ,if_neg hs,pd l (acc++[s]) (by simpa using h)]
  simp
theorem qM (l:List ByteArray):(aA l).length=l.length↔l.Nodup:=by
 constructor
 ·intro h
  have:=tR l [] (by simp) (by simpa [aA] using h)
  simpa using this
 ·intro h
  rw [aA,pd l [] (by simpa using h)];simp
theorem z7 {l:List ByteArray} (h: ¬l.Nodup):(aA l).length<l.length:=by
 have h1:=pL l []
 have h2:(aA l).length≠l.length:=fun e=>h ((qM l).1 e)
 simp only [IZ,Nat.zero_add] at h1
 unfold aA at h2 ⊢
 omega
set_option maxRecDepth 100000 in
set_option maxHeartbeats 2000000 in
theorem uE (q:dF) (a b:List ByteArray) (ha:a.length≤1000000) (h:b.length≠a.length∨ ¬a.Nodup) :
  ai Tryz.prog 31 [.agg (bI q),aB a,aB b] (.dN [.agg [.v (.slice none 0 0), .v (.slice none 0 0), .v (.slice none 0 0), .v (.int .i64 0), .v (.int .i64 0)], .v (.int .i64 2)]):=by
 have C1:=qV a
 have C2:=Be (gf:=104) (caps:=[.vp [aB a]]) a ha (mV a ha) (by simp only [bB,AV.wf,aB,cu,Km])
 obtain ⟨ps,cs,rs,ra,sl⟩:=q
 simp only [bI,aB] at C1 C2 ⊢
 by_cases hl:b.length=a.length
 ·have hd:decide (((aA a).length:Int)<(a.length:Int))=true:=by
   have:=z7 (h.resolve_left (fun e=>e hl))
   simp;omega
  have hl2:((a.length:Int) !=(b.length:Int))=false:=by simp [hl]
  (refine ai.enter Tryz.func31 rfl (by kernel_rfl) (by kernel_rfl) rfl (by first|rfl|(simp only [go_sem,Km,Kh,Kj])) (by first|rfl|(simp only [go_sem,Km,Kh,Kj])) ?_;simp only [Tryz.ntmps31,Tryz.results31,I5,IZ,Nat.reduceAdd,Nat.reduceSub,Kn,Ko,Kq,Kr])
  repeat (first|(with_reducible first|refine ah.up ?_|refine fun (K:AK) hK=> ?_|(refine hK _ ?_;clear hK K))|simp only [go_sem]|clear hK K)
  refine wD ?_
  repeat (first|(with_reducible first|refine ah.up ?_|refine fun (K:AK) hK=> ?_|(refine hK _ ?_;clear hK K))|simp only [go_sem,hl2]|clear hK K)
  refine aw.one C1 ?_
  repeat (first|(with_reducible first|refine ah.up ?_|refine fun (K:AK) hK=> ?_|(refine hK _ ?_;clear hK K))|simp only [go_sem]|clear hK K)
  refine aw.one C2 ?_
  repeat (first|(with_reducible first|refine ah.up ?_|refine fun (K:AK) hK=> ?_|refine wD ?_|(refine hK _ ?_;clear hK K))|simp only [go_sem,hd,hl2]|clear hK K)
  (refine ju.of 40 rfl ?_;simp only [go_sem])
 ·have hl2:((a.length:Int) !=(b.length:Int))=true:=by simp;omega
  (refine ai.enter Tryz.func31 rfl (by kernel_rfl) (by kernel_rfl) rfl (by first|rfl|(simp only [go_sem,Km,Kh,Kj])) (by first|rfl|(simp only [go_sem,Km,Kh,Kj])) ?_;simp only [Tryz.ntmps31,Tryz.results31,I5,IZ,Nat.reduceAdd,Nat.reduceSub,Kn,Ko,Kq,Kr])
  repeat (first|(with_reducible first|refine ah.up ?_|refine fun (K:AK) hK=> ?_|(refine hK _ ?_;clear hK K))|simp only [go_sem]|clear hK K)
  refine wD ?_
  repeat (first|(with_reducible first|refine ah.up ?_|refine fun (K:AK) hK=> ?_|refine wD ?_|(refine hK _ ?_;clear hK K))|simp only [go_sem,hl2,Go.undef]|clear hK K)
  (refine ju.of 40 rfl ?_;simp only [go_sem])
end Go.Proofs.YtldnlbcibmmbbaaGreat
