/- tree.Vertices$1, tree.Edges$1: iterators over the names of a query's patterns. -/
import Derived.Test.YtldnlbcibmmbbaaGreatProg
import Derived.Test.YtldnlbcibmmbbaaGreatWRange
import Derived.Test.YtldnlbcibmmbbaaGreatWBase2
import Derived.Maps.AppendAt
import Derived.Test.YtldnlbcibmmbbaaGreatWValue
set_option linter.unusedSimpArgs false
set_option linter.unusedVariables false
open Array renaming getElem?_eq_some_iff → IY, replicate_succ → KD, replicate_zero → KE
open List renaming take_succ_eq_append_getElem → KR, take_append_drop → KS, getElem?_toArray → Jg, getElem?_cons_zero → Kd, size_toArray → Jo, length_cons → I5, length_nil → IZ, push_toArray → KF, append_toArray → KG, nil_append → Kr, cons_append → Kq, length_append → I4, foldl_cons → Ks, zip_cons_cons → KI, zip_nil_left → KJ, foldl_nil → Kt, setIfInBounds_toArray → KK, set_cons_succ → KL, set_cons_zero → KM
open Nat renaming le_refl → IV
/-! tree.Vertices$1, tree.Edges$1: iterators over the names of a query's patterns. -/
namespace Go.Proofs.YtldnlbcibmmbbaaGreat
open Go.RowKit Go.Shelf
attribute [local go_sem] Oper.semAt_some
def ba (l:List cQ):List ByteArray:=l.flatMap (fun p=>[p.aD,p.to])
def bl (l:List cQ):List ByteArray:=(l.filter (fun p=> !eh p.name)).map cQ.name
theorem fI {l:List cQ} {k:Nat} (h:k<l.length):ba (l.take (k+1))=ba (l.take k)++[l[k].aD,l[k].to]:=by
 rw [ba,ba,KR h,List.flatMap_append];simp
theorem jY (l:List cQ) (k:Nat):ba l=ba (l.take k)++ba (l.drop k):=by
 rw [ba,ba,ba, ← List.flatMap_append,KS]
theorem fP {l:List cQ} {k:Nat} (h:k<l.length):bl (l.take (k+1))=bl (l.take k)++(if eh l[k].name then [] else [l[k].name]):=by
 rw [bl,bl,KR h,List.filter_append,List.map_append]
 congr 1
 cases hn:eh l[k].name<;>simp [hn]
theorem na (l:List cQ) (k:Nat):bl l=bl (l.take k)++bl (l.drop k):=by
 rw [bl,bl,bl, ← List.map_append, ← List.filter_append,KS]
set_option maxRecDepth 100000 in
set_option maxHeartbeats 8000000 in
theorem ow (F:Fence) (hF: ∀f,F.fn f) (hd:F.depth=none) (hro:F.round=none) (n lo hi B:Nat) (et:TypeId) (het:45≠et) (q:dF) (cx:List Value) (w0 w:World) (hlo:w0.heap.size≤lo) (hhi:hi≤w.heap.size)
  (hx:eb w0 q cx) (hc:Cells w0 w) (hB:w.heap[B]? = some (.cells cx.toArray 26)) :
  SeqStopsK F n Tryz.prog 60 #[.pointer (some ⟨B,0,none⟩)] (fun s:ByteArray=> #[Value.string s]) (Kept lo hi et) (fun L=>L=ba q.ao) (fun p=>p <+: ba q.ao) (ba q.ao).length w:=by
 intro l J Jx W hW hJ hJx hY h0
 obtain ⟨v1,v2,v3,r1,r2,r3,rfl⟩:=hx
 obtain ⟨p1,c1,rfl,hl1,hm1⟩:=r1.shape
 have hbw:=(hW.block B (IY.1 hB).1).trans hB
 have b0:=ag hbw 0
 simp only [Jg,Kd] at b0
 have hcW:Cells w0 W:=hc.trans (.of hW)
 have hhW:hi≤W.heap.size:=Nat.le_trans hhi hW.size
 unfold maxLen at hm1
 have hJa: ∀pre (W':World) o,J pre W'→J pre (W'.alloc o):=fun pre W' o h=>hJ pre _ _ none h (World.grownBy_alloc W' o none) (fun r e=>by cases e)
 have hYY: ∀pre s W1,J pre W1→pre.length<(ba q.ao).length→YieldAt F (n - 1) Tryz.prog l #[.string s] W1 (Hj J Jx (Kept lo hi et) pre s W1):=hY
 have HR:=Lib.hid r1;have HJ:=Lib.hid hJa;have HY:=Lib.hid hYY;have H0:=Lib.hid h0;have HC:=Lib.hid hcW
 clear r1 r2 r3 hbw hB hc hW hJ hJx hJa hYY hY h0 hcW hhi
 have hdd: ∀k:Nat,(F.depth.isSome=true→1≤k):=fun k h=>by rw [hd] at h;cases h
 refine callsIn_of_wp Tryz.func60 rfl (hF _) ?_ hro
 simp only [Tryz.ntmps60,Jo,I5,IZ,Nat.reduceAdd,Nat.reduceSub,KD,KE,KF,KG,Kr,Kq]
 gi_wp2_with fail
 gi_loopw [8] (fun i wr=> ∃k:Nat,i = .int .i64 k∧k≤q.ao.length∧Cells w0 wr∧hi≤wr.heap.size∧J (ba (q.ao.take k)) wr) (fun i _=>q.ao.length - (intOf i).toNat)
 case atStart=>exact ⟨0,rfl,Nat.zero_le _,HC.out,hhW,by simpa [ba] using H0.out⟩
 case round=>
  obtain ⟨k,rfl,hk,hcw,hhw,hjk⟩:=hrel
  have HCW:=Lib.hid hcw;have HJK:=Lib.hid hjk
  clear hcw hjk
  by_cases hlt:k<q.ao.length
  ·obtain ⟨b1,o1,k1,s1,l1,v1,rfl,hx1,hr1,a0,a1,a2,a3,a4,a5,a6,a7⟩:=dv HR.out hlt
   obtain ⟨pv,cv,rfl, -, -⟩:=hr1.shape
   replace a0:=HCW.out _ _ _ a0
   replace a1:=HCW.out _ _ _ a1
   replace a2:=HCW.out _ _ _ a2
   replace a3:=HCW.out _ _ _ a3
   replace a4:=HCW.out _ _ _ a4
   replace a5:=HCW.out _ _ _ a5
   replace a6:=HCW.out _ _ _ a6
   replace a7:=HCW.out _ _ _ a7
   have hq1:=cr a0
   clear hx1 hr1
   have hlen:=congrArg List.length (jY q.ao (k+1))
   rw [fI hlt] at hlen
   simp only [I4,I5,IZ] at hlen
   obtain ⟨W1,hW1⟩: ∃W1,W1=wr.alloc (.cells #[.string q.ao[k].aD, .string q.ao[k].to, .bool q.ao[k].path, .string q.ao[k].label, .string q.ao[k].name, .int .i64 k1, .string s1, .slice pv l1.length cv] 45):=⟨_,rfl⟩
   have hbx1:W1.heap[wr.heap.size]? = some (.cells #[.string q.ao[k].aD, .string q.ao[k].to, .bool q.ao[k].path, .string q.ao[k].label, .string q.ao[k].name, .int .i64 k1, .string s1, .slice pv l1.length cv] 45 (0,0)):=by rw [hW1];exact aX _ _
   have hj1:J (ba (q.ao.take k)) W1:=by rw [hW1];exact HJ.out _ _ _ HJK.out
   have hcw1:Cells w0 W1:=by rw [hW1];exact HCW.out.trans (.of ((Below.refl _ _).alloc (IV _) _))
   have hs1:W1.heap.size=wr.heap.size+1:=by rw [hW1];simp
   obtain ⟨fn,tmps,assign,body,hy,hR⟩:=HY.out (ba (q.ao.take k)) q.ao[k].aD W1 hj1 (by omega)
   rw [hW1] at hy
   have HR1:=Lib.hid hR;have HB1:=Lib.hid hbx1;have HC1:=Lib.hid hcw1;have HS1:=Lib.hid hs1;have HW1:=Lib.hid hW1;have HL:=Lib.hid hlen
   clear hR hbx1 hj1 hcw1 hs1 hW1 hlen
   gi_wp2_with fail
   rw [←HW1.out]
   refine HR1.out.mono ?_
   rintro e W2 (⟨rfl,hj2,hk2⟩|⟨rfl,hx2⟩)
   ·have hbx2:=hk2.box hhw het HB1.out
    have e0:=ag hbx2 1
    simp only [Jg,List.getElem?_cons_succ,Kd] at e0
    have hc2:=hk2.cells HC1.out hlo
    have hsz2:=hk2.size
    obtain ⟨fn2,tmps2,assign2,body2,hy2,hR2⟩:=HY.out _ q.ao[k].to W2 hj2 (by have:=HL.out;simp;omega)
    have HR2:=Lib.hid hR2;have HC2:=Lib.hid hc2;have HZ2:=Lib.hid hsz2
    clear hR2 hc2 hbx2 hj2 hk2 hsz2 hy
    gi_wp2_with fail
    refine HR2.out.mono ?_
    rintro e W3 (⟨rfl,hj3,hk3⟩|⟨rfl,hx3⟩)
    ·have HJ3:=Lib.hid hj3;have HC3:=Lib.hid (hk3.cells HC2.out hlo);have HZ3:=Lib.hid hk3.size
     clear hj3 hk3
     gi_wp2_with fail
     go_roundw
     case rel=>exact ⟨k+1,by go_num,by omega,HC3.out,by have:=HZ3.out;have:=HZ2.out;have:=HS1.out;omega,by rw [fI hlt];simpa using HJ3.out⟩
     case measure=>simp [intOf];omega
    ·have HX3:=Lib.hid hx3
     clear hx3
     gi_wp2_with fail
     refine bodyPost_ret (results_none rfl _ _ _) rfl ?_
     exact ⟨⟨_,rfl⟩, .inr ⟨_,⟨ba (q.ao.drop (k+1)),by rw [jY q.ao (k+1),fI hlt];simp⟩,HX3.out⟩⟩
   ·have HX2:=Lib.hid hx2
    clear hx2
    gi_wp2_with fail
    (try refine ⟨fun _ h=>(by cases h), ?_⟩)
    gi_wp2_with fail
    refine bodyPost_ret (results_none rfl _ _ _) rfl ?_
    exact ⟨⟨_,rfl⟩, .inr ⟨_,⟨q.ao[k].to :: ba (q.ao.drop (k+1)),by rw [jY q.ao (k+1),fI hlt];simp⟩,HX2.out⟩⟩
  ·gi_wp2_with fail
   go_end0
   obtain rfl:k=q.ao.length:=by omega
   exact ⟨⟨_,rfl⟩, .inl ⟨_,rfl,by simpa using HJK.out⟩⟩
set_option maxRecDepth 100000 in
set_option maxHeartbeats 8000000 in
theorem tp (F:Fence) (hF: ∀f,F.fn f) (hd:F.depth=none) (hro:F.round=none) (n lo hi B:Nat) (et:TypeId) (_het:45≠et) (q:dF) (cx:List Value) (w0 w:World) (hlo:w0.heap.size≤lo) (hhi:hi≤w.heap.size)
  (hx:eb w0 q cx) (hc:Cells w0 w) (hB:w.heap[B]? = some (.cells cx.toArray 26)) :
  SeqStopsK F n Tryz.prog 62 #[.pointer (some ⟨B,0,none⟩)] (fun s:ByteArray=> #[Value.string s]) (Kept lo hi et) (fun L=>L=bl q.ao) (fun p=>p <+: bl q.ao) (bl q.ao).length w:=by
 intro l J Jx W hW hJ hJx hY h0
 obtain ⟨v1,v2,v3,r1,r2,r3,rfl⟩:=hx
 obtain ⟨p1,c1,rfl,hl1,hm1⟩:=r1.shape
 have hbw:=(hW.block B (IY.1 hB).1).trans hB
 have b0:=ag hbw 0
 simp only [Jg,Kd] at b0
 have hcW:Cells w0 W:=hc.trans (.of hW)
 have hhW:hi≤W.heap.size:=Nat.le_trans hhi hW.size
 unfold maxLen at hm1
 have hJa: ∀pre (W':World) o,J pre W'→J pre (W'.alloc o):=fun pre W' o h=>hJ pre _ _ none h (World.grownBy_alloc W' o none) (fun r e=>by cases e)
 have hYY: ∀pre s W1,J pre W1→pre.length<(bl q.ao).length→YieldAt F (n - 1) Tryz.prog l #[.string s] W1 (Hj J Jx (Kept lo hi et) pre s W1):=hY
 have HR:=Lib.hid r1;have HJ:=Lib.hid hJa;have HY:=Lib.hid hYY;have H0:=Lib.hid h0;have HC:=Lib.hid hcW
 clear r1 r2 r3 hbw hB hc hW hJ hJx hJa hYY hY h0 hcW hhi
 have hdd: ∀k:Nat,(F.depth.isSome=true→1≤k):=fun k h=>by rw [hd] at h;cases h
 refine callsIn_of_wp Tryz.func62 rfl (hF _) ?_ hro
 simp only [Tryz.ntmps62,Jo,I5,IZ,Nat.reduceAdd,Nat.reduceSub,KD,KE,KF,KG,Kr,Kq]
 gi_wp2_with fail
 gi_loopw [8] (fun i wr=> ∃k:Nat,i = .int .i64 k∧k≤q.ao.length∧Cells w0 wr∧hi≤wr.heap.size∧J (bl (q.ao.take k)) wr) (fun i _=>q.ao.length - (intOf i).toNat)
 case atStart=>exact ⟨0,rfl,Nat.zero_le _,HC.out,hhW,by simpa [bl] using H0.out⟩
 case round=>
  obtain ⟨k,rfl,hk,hcw,hhw,hjk⟩:=hrel
  have HCW:=Lib.hid hcw;have HJK:=Lib.hid hjk
  clear hcw hjk
  by_cases hlt:k<q.ao.length
  ·obtain ⟨b1,o1,k1,s1,l1,v1,rfl,hx1,hr1,a0,a1,a2,a3,a4,a5,a6,a7⟩:=dv HR.out hlt
   obtain ⟨pv,cv,rfl, -, -⟩:=hr1.shape
   replace a0:=HCW.out _ _ _ a0
   replace a1:=HCW.out _ _ _ a1
   replace a2:=HCW.out _ _ _ a2
   replace a3:=HCW.out _ _ _ a3
   replace a4:=HCW.out _ _ _ a4
   replace a5:=HCW.out _ _ _ a5
   replace a6:=HCW.out _ _ _ a6
   replace a7:=HCW.out _ _ _ a7
   have hq1:=cr a0
   clear hx1 hr1
   have hlen:=congrArg List.length (na q.ao (k+1))
   rw [fP hlt] at hlen
   obtain ⟨W1,hW1⟩: ∃W1,W1=wr.alloc (.cells #[.string q.ao[k].aD, .string q.ao[k].to, .bool q.ao[k].path, .string q.ao[k].label, .string q.ao[k].name, .int .i64 k1, .string s1, .slice pv l1.length cv] 45):=⟨_,rfl⟩
   have hj1:J (bl (q.ao.take k)) W1:=by rw [hW1];exact HJ.out _ _ _ HJK.out
   have hcw1:Cells w0 W1:=by rw [hW1];exact HCW.out.trans (.of ((Below.refl _ _).alloc (IV _) _))
   have hs1:W1.heap.size=wr.heap.size+1:=by rw [hW1];simp
   have he:=fL q.ao[k].name
   cases hnb:eh q.ao[k].name
   ·rw [hnb] at he
    have hse:=fP hlt
    rw [hnb] at hse hlen
    simp only [Bool.false_eq_true,if_false,I4,I5,IZ] at hse hlen
    obtain ⟨fn,tmps,assign,body,hy,hR⟩:=HY.out (bl (q.ao.take k)) q.ao[k].name W1 hj1 (by omega)
    rw [hW1] at hy
    have HR1:=Lib.hid hR;have HC1:=Lib.hid hcw1;have HS1:=Lib.hid hs1;have HW1:=Lib.hid hW1;have HSE:=Lib.hid hse
    clear hR hj1 hcw1 hs1 hW1 hlen hnb hse
    gi_wp2_with fail
    rw [←HW1.out]
    refine HR1.out.mono ?_
    rintro e W2 (⟨rfl,hj2,hk2⟩|⟨rfl,hx2⟩)
    ·have HJ2:=Lib.hid hj2;have HC2:=Lib.hid (hk2.cells HC1.out hlo);have HZ2:=Lib.hid hk2.size
     clear hj2 hk2
     gi_wp2_with fail
     go_roundw
     case rel=>exact ⟨k+1,by go_num,by omega,HC2.out,by have:=HZ2.out;have:=HS1.out;omega,by rw [HSE.out];exact HJ2.out⟩
     case measure=>simp [intOf];omega
    ·have HX2:=Lib.hid hx2
     clear hx2
     gi_wp2_with fail
     refine bodyPost_ret (results_none rfl _ _ _) rfl ?_
     exact ⟨⟨_,rfl⟩, .inr ⟨_,⟨bl (q.ao.drop (k+1)),by rw [na q.ao (k+1),HSE.out]⟩,HX2.out⟩⟩
   ·rw [hnb] at he
    have hse:=fP hlt
    rw [hnb] at hse
    simp only [if_true,List.append_nil] at hse
    have HC1:=Lib.hid hcw1;have HS1:=Lib.hid hs1;have HW1:=Lib.hid hW1;have HSE:=Lib.hid hse;have HJ1:=Lib.hid hj1
    clear hj1 hcw1 hs1 hW1 hlen hnb hse
    gi_wp2_with fail
    (try refine ⟨fun _ h=>(by cases h), ?_⟩)
    gi_wp2_with fail
    rw [←HW1.out]
    go_roundw
    case rel=>exact ⟨k+1,by go_num,by omega,HC1.out,by have:=HS1.out;omega,by rw [HSE.out];exact HJ1.out⟩
    case measure=>simp [intOf];omega
  ·gi_wp2_with fail
   go_end0
   obtain rfl:k=q.ao.length:=by omega
   exact ⟨⟨_,rfl⟩, .inl ⟨_,rfl,by simpa using HJK.out⟩⟩
end Go.Proofs.YtldnlbcibmmbbaaGreat
/-! tree.once: each name once, as it comes first. -/
namespace Go.Proofs.YtldnlbcibmmbbaaGreat
open Go.RowKit Go.Shelf
attribute [local go_sem] Oper.semAt_some
def aJ (out:List ByteArray) (s:ByteArray):List ByteArray:=if hasB out s then out else out++[s]
def aA (xs:List ByteArray):List ByteArray:=xs.foldl aJ []
theorem oN (xs:List ByteArray) (s:ByteArray):aA (xs++[s])=if hasB (aA xs) s then aA xs else aA xs++[s]:=by
 rw [aA,List.foldl_append];rfl
theorem kg (xs:List ByteArray):(aA xs).length≤xs.length:=by
 have key: ∀(xs acc:List ByteArray),(xs.foldl aJ acc).length≤acc.length+xs.length:=by
  intro xs
  induction xs with
  | nil=>simp
  | cons x xs ih=>
   intro acc
   have:=ih (aJ acc x)
   have h2:(aJ acc x).length≤acc.length+1:=by unfold aJ;split<;>simp
   simp only [Ks,I5];omega
 have:=key xs []
 simpa [aA] using this
theorem CI:(Tryz.prog.info? 9).map (fun i=>(i.zero,i.size,i.bytes))=some (some (.string ⟨#[]⟩),1,16):=by kernel_rfl
theorem k9 {w:World} {base:Nat} {e:TypeId} {v:Value} {xs:List ByteArray} (h:w.ownsRow base e 1 v xs.length (xs.map Value.string)):ez w xs v:=by
 obtain ⟨_,h|⟨g,cap,cur,rfl,_,hg,h1,h2,h3,h4⟩⟩:=h
 ·exact .inl ⟨.inl h.1,List.length_eq_zero_iff.1 h.2⟩
 ·refine .inr ⟨g,0,cap,rfl,h1,h2,fun i x hx=>⟨[.string x],rfl, ?_,trivial⟩⟩
  rw [ag hg]
  have hi:=(List.getElem?_eq_some_iff.1 hx).1
  have:(cur.toList.take (xs.length * 1))[i]? = some (.string x):=by rw [h4];simp [hx]
  rw [List.getElem?_take_of_lt (by omega)] at this
  simpa using this
set_option maxRecDepth 100000 in
set_option maxHeartbeats 8000000 in
theorem uU (gf:Nat) (lb:Array Value) (names:List ByteArray) (w:World) (hN:names.length≤1000000) (eg: ∀args w,(callFunc gf args).run Tryz.prog w = .ok (.enter gf args) w)
  (hseq: ∀W,Below w.heap.size w W→w.heap.size+1≤W.heap.size→SeqStopsK Fence.wide 8 Tryz.prog gf lb (fun s:ByteArray=> #[Value.string s]) (Kept w.heap.size (w.heap.size+1) 9) (fun L=>L=names) (fun p=>p <+: names) names.length W) :
  Calls Tryz.prog 59 #[.func (.func gf) #[] lb] w fun e w'=> ∃v,e = .returned v∧w'.ownsRow w.heap.size 9 1 v (aA names).length ((aA names).map Value.string)∧Below w.heap.size w w':=by
 refine (callsIn_wide (n:=9)).1 ?_
 have HQ:=Lib.hid hseq;have HN:=Lib.hid hN;have HE:=Lib.hid eg
 clear hseq hN eg
 obtain ⟨i0,hi,hz0,hz1,hz2⟩:=info_parts CI
 have HI:=Lib.hid (show _∧_∧_∧_ from ⟨hi,hz0,hz1,hz2⟩)
 clear hi hz0 hz1 hz2
 refine callsIn_of_wp_marks Tryz.func59 rfl trivial ?_ rfl
 simp only [Tryz.ntmps59,Jo,I5,IZ,Nat.reduceAdd,Nat.reduceSub,KD,KE,KF,KG,Kr,Kq]
 gi_wp2_with fail
 refine tS ?_
 gi_wp2_with fail
 refine wpIn_label ?_
 gi_wp2_with fail
 have hs0:(w.alloc (.cells #[.slice none 0 0] 38)).heap.size=w.heap.size+1:=by simp
 have hb0:Below w.heap.size w (w.alloc (.cells #[.slice none 0 0] 38)):=(Below.refl _ _).alloc (IV _) _
 have hbx:=aX w (.cells #[.slice none 0 0] 38)
 generalize hW0:w.alloc (.cells #[.slice none 0 0] 38)=W0 at *
 clear hW0
 refine Ft (lb:=lb) (gf:=gf) (lo:=w.heap.size) (hi:=w.heap.size+1) (et:=9) rfl HE.out (HQ.out W0 hb0 (by omega)) (Below.refl _ _) (fun _=>rfl)
  (fun pre W=>(∃v,Boxed W w.heap.size 38 v∧W.ownsRow w.heap.size 9 1 v (aA pre).length ((aA pre).map Value.string)∧True)∧Below w.heap.size w W) (fun _ _ _=>False)
  (((holdsRow_own w.heap.size w.heap.size 38 9 1 (fun pre:List ByteArray=>(aA pre).length) (fun pre=>(aA pre).map Value.string) (fun _ _=>True)).from _).and (ownFrom_below (IV _) (by omega)))
  (fun _ _ _ _ _ hs _ _=>hs) ⟨⟨_,hbx,World.ownsRow_nil _ _ _ _,trivial⟩,hb0⟩ 3 (fun s=> .string s) ?assign ?body ?done ?stop
 case assign=>
  intro l x W K hK
  simp only [cA,KI,KJ,Ks,Kt,KK,KL,KM]
  simp only [cA,Act.ic,KI,KJ,Ks,Kt,KK,KL,KM] at hK
  gi_wp2
  exact hK
 case body=>
  rintro l pre x W hl hrec ⟨⟨v,hv,hrow, -⟩,hB⟩ hlen
  have hvc:=hv.cell
  have hvf:=hv.frozen
  have hle:=kg pre
  have hNN:=HN.out
  have HC:=Lib.hid (iX (aA pre) v x W (k9 hrow))
  have HS:=Lib.hid (oN pre x)
  simp only [cA,Act.ic,KI,KJ,Ks,Kt,KK,KL,KM]
  cases hh:hasB (aA pre) x
  ·rw [hh] at HC HS
   clear hh
   have HV:=Lib.hid hv;have HR:=Lib.hid hrow;have HB:=Lib.hid hB
   clear hv hrow hB
   gi_wp2_with fail
   refine ⟨trivial,(CallsIn.inRound l (callsIn_wide.2 HC.out)).mono ?_⟩
   rintro e w' ⟨rfl,rfl⟩
   gi_wp2_with (gi_at_builtin;refine wpListIn_append_own _ rfl _ _ 38 rfl w.heap.size 9 i0 (.string ⟨#[]⟩) 1 16 Tryz.underlying38 HI.out.1 HI.out.2.1 HI.out.2.2.1 HI.out.2.2.2 rfl (by decide) _ _ _ rfl (HR.out.alloc _) ⟨W.heap.size,0,none⟩ 1 1 [.string x] rfl rfl (cell_one_new _ _ _) (by simp [Value.oneCell']) (by unfold maxLen;omega) (by omega) (by have:=HB.out.size;simp;omega) ?_;intro v' w1 hown' hgrow _;obtain ⟨g',cap',rfl⟩:=ownsRow_succ hown';obtain ⟨hv1,hv2,hr2,hk2,hb2⟩:=HV.out.appended (by decide) HR.out HB.out.size (IV _) hown' hgrow;have HKP:=Lib.hid (qD (hi:=w.heap.size+1) HR.out hgrow (IV _) (Nat.lt_succ_self _) (.slice (some ⟨g',0,none⟩) ((aA pre).length+1) cap'));have hc1:=hv1.cell;have hf1:=hv1.frozen;have HV2:=Lib.hid hv2;have HR2:=Lib.hid hr2;have HK2:=Lib.hid hk2;have HB2:=Lib.hid hb2;clear hv1 hv2 hr2 hk2 hb2 hown' hgrow)
   refine ⟨HK2.out.from _,HKP.out,⟨_,HV2.out, ?_,trivial⟩,HB.out.trans HB2.out⟩
   rw [HS.out];simpa using HR2.out
  ·rw [hh] at HC HS
   clear hh
   have HV:=Lib.hid hv;have HR:=Lib.hid hrow;have HB:=Lib.hid hB
   clear hv hrow hB
   gi_wp2_with fail
   refine ⟨trivial,(CallsIn.inRound l (callsIn_wide.2 HC.out)).mono ?_⟩
   rintro e w' ⟨rfl,rfl⟩
   gi_wp2
   refine ⟨KeepsFrom.refl _ _,Kept.refl _ _ _ _,⟨v,HV.out, ?_,trivial⟩,HB.out⟩
   rw [HS.out,if_pos trivial];exact HR.out
 case done=>
  rintro D xs W hD rfl ⟨⟨v,hv,hrow, -⟩,hB⟩ hK
  have hvc:=hv.cell
  have hvf:=hv.frozen
  obtain ⟨pv,cv,rfl⟩: ∃pv cv,v = .slice pv (aA xs).length cv:=by
   rcases hrow.2 with ⟨rfl,h0⟩|⟨g,cap,_,rfl,_⟩
   ·exact ⟨none,0,by rw [h0]⟩
   ·exact ⟨_,_,rfl⟩
  have HV:=Lib.hid hv;have HR:=Lib.hid hrow;have HB:=Lib.hid hB;have HK:=Lib.hid hK;have HD:=Lib.hid hD;have H0:=Lib.hid hs0
  clear hv hrow hB hK hD hs0 hb0 hbx
  gi_wp2_with fail
  rw [Exit.noGoto_ret]
  have hD:=HD.out;have h0:=H0.out
  have hKs:=dQ HK.out (b:=w.heap.size) (o:=0) (.slice pv (aA xs).length cv) (by omega)
  refine ⟨by simp, .inl ⟨_,_,rfl,run_takeDeferred hKs, ?_⟩⟩
  have hrow2:(W.setCell ⟨w.heap.size,0,none⟩ (.slice pv (aA xs).length cv)).ownsRow w.heap.size 9 1 (.slice pv (aA xs).length cv) (aA xs).length ((aA xs).map Value.string):=HR.out.kept (grownBy_setCell' W w.heap.size _) (.inr (HV.out.not_row (by decide) HR.out).symm)
  have hbx:=dM (fl (show W.heap[w.heap.size]? = some (.cells #[.slice pv (aA xs).length cv] 38 (0,0)) from HV.out) (.slice pv (aA xs).length cv)) (.deferred none) (D:=D) (by omega)
  have hcf:=ag hbx 0
  simp only [Jg,Kd] at hcf
  refine ⟨.slice pv (aA xs).length cv, ?_,_,rfl,ownsRow_putObj hrow2 _ hKs rfl, ?_⟩
  ·simp [results,Tryz.results59,go_sem,hcf]
  ·exact iY (HB.out.setCell (p:=⟨w.heap.size,0,none⟩) (IV _) _) (by omega) _ hKs
 case stop=>
  rintro D c pre W _ _ h _
  exact h.elim
end Go.Proofs.YtldnlbcibmmbbaaGreat
/-! tree.Vertices, tree.Edges: their contracts. -/
namespace Go.Proofs.YtldnlbcibmmbbaaGreat
open Go.RowKit Go.Shelf
attribute [local go_sem] Oper.semAt_some
theorem pg (l:List cQ):(ba l).length=2 * l.length:=by
 induction l with
 | nil=>rfl
 | cons p l ih=>simp only [ba,List.flatMap_cons,I4,I5,IZ] at *; omega
theorem qS {w:World} {base:Nat} {e:TypeId} {z:Nat} {v:Value} {n:Nat} {xs:List Value} (h:w.ownsRow base e z v n xs): ∀b off n c,v = .slice (some ⟨b,off,none⟩) n c→base≤b:=by
 intro b off m c hv
 rcases h.2 with ⟨rfl,_⟩|⟨g,cap,cur,rfl,hg,_⟩
 ·cases hv
 ·cases hv;exact hg
theorem o7 (l:List cQ):(bl l).length≤l.length:=by
 rw [bl,List.length_map];exact List.length_filter_le _ _
set_option maxRecDepth 100000 in
set_option maxHeartbeats 8000000 in
theorem lj (q:dF) (cx:List Value) (w:World) (hx:eb w q cx) (hN:q.ao.length≤400000) :
  Calls Tryz.prog 25 #[.agg cx.toArray] w fun e w'=> ∃v,e = .returned v∧ez w' (aA (ba q.ao)) v∧Below w.heap.size w w'∧ ∀b off n c,v = .slice (some ⟨b,off,none⟩) n c→w.heap.size≤b:=by
 have hl:=pg q.ao
 have hs0:(w.alloc (.cells cx.toArray 26)).heap.size=w.heap.size+1:=by simp
 have hb0:Below w.heap.size w (w.alloc (.cells cx.toArray 26)):=(Below.refl _ _).alloc (IV _) _
 have hbx:=aX w (.cells cx.toArray 26)
 have H:=Lib.hid (uU 60 #[.pointer (some ⟨w.heap.size,0,none⟩)] (ba q.ao) (w.alloc (.cells cx.toArray 26)) (by omega) (fun _ _=>rfl)
  (fun W hW hZ=>ow Fence.wide (fun _=>trivial) rfl rfl 8 _ _ w.heap.size 9 (by decide) q cx w W (by omega) hZ hx ((Cells.of hb0).trans (.of hW)) ((hW.block w.heap.size (by omega)).trans hbx)))
 have HB:=Lib.hid hb0;have HS:=Lib.hid hs0
 obtain ⟨v1,v2,v3,r1,r2,r3,rfl⟩:=hx
 obtain ⟨p1,c1,rfl, -, -⟩:=r1.shape
 obtain ⟨p2,c2,rfl, -, -⟩:=r2.shape
 obtain ⟨p3,c3,rfl, -, -⟩:=r3.shape
 clear hN hl hs0 hb0 hbx r1 r2 r3
 go_enter Tryz.func25,Tryz.ntmps25
 go_wp2_with fail
 refine H.out.mono ?_
 rintro e w1 ⟨v,rfl,hrow,hb⟩
 have HR:=Lib.hid (k9 hrow);have HB1:=Lib.hid hb;have HF:=Lib.hid (qS hrow)
 clear hrow hb
 go_wp2_with fail
 go_ret
 exact ⟨v,rfl,HR.out,aa HB.out HB1.out,fun b off n c e=>by have:=HF.out b off n c e;have:=HS.out;omega⟩
set_option maxRecDepth 100000 in
set_option maxHeartbeats 8000000 in
theorem rE (q:dF) (cx:List Value) (w:World) (hx:eb w q cx) (hN:q.ao.length≤400000) :
  Calls Tryz.prog 27 #[.agg cx.toArray] w fun e w'=> ∃v,e = .returned v∧ez w' (aA (bl q.ao)) v∧Below w.heap.size w w'∧ ∀b off n c,v = .slice (some ⟨b,off,none⟩) n c→w.heap.size≤b:=by
 have hl:=o7 q.ao
 have hs0:(w.alloc (.cells cx.toArray 26)).heap.size=w.heap.size+1:=by simp
 have hb0:Below w.heap.size w (w.alloc (.cells cx.toArray 26)):=(Below.refl _ _).alloc (IV _) _
 have hbx:=aX w (.cells cx.toArray 26)
 have H:=Lib.hid (uU 62 #[.pointer (some ⟨w.heap.size,0,none⟩)] (bl q.ao) (w.alloc (.cells cx.toArray 26)) (by omega) (fun _ _=>rfl)
  (fun W hW hZ=>tp Fence.wide (fun _=>trivial) rfl rfl 8 _ _ w.heap.size 9 (by decide) q cx w W (by omega) hZ hx ((Cells.of hb0).trans (.of hW)) ((hW.block w.heap.size (by omega)).trans hbx)))
 have HB:=Lib.hid hb0;have HS:=Lib.hid hs0
 obtain ⟨v1,v2,v3,r1,r2,r3,rfl⟩:=hx
 obtain ⟨p1,c1,rfl, -, -⟩:=r1.shape
 obtain ⟨p2,c2,rfl, -, -⟩:=r2.shape
 obtain ⟨p3,c3,rfl, -, -⟩:=r3.shape
 clear hN hl hs0 hb0 hbx r1 r2 r3
 go_enter Tryz.func27,Tryz.ntmps27
 go_wp2_with fail
 refine H.out.mono ?_
 rintro e w1 ⟨v,rfl,hrow,hb⟩
 have HR:=Lib.hid (k9 hrow);have HB1:=Lib.hid hb;have HF:=Lib.hid (qS hrow)
 clear hrow hb
 go_wp2_with fail
 go_ret
 exact ⟨v,rfl,HR.out,aa HB.out HB1.out,fun b off n c e=>by have:=HF.out b off n c e;have:=HS.out;omega⟩
end Go.Proofs.YtldnlbcibmmbbaaGreat
