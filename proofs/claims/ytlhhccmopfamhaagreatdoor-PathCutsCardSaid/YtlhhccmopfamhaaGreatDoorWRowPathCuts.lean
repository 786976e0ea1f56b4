/- 'kinescopelaw15.PathCuts': for every input the call returns true and all read behind it as before. Three tables (two of math/bits, one of internal/strconv) are laid, and tied to the program's text. No condition beyond the row's own: the reading ends, and no text or slice that came in is longer than the form's reach. -/
import Derived.Test.YtlhhccmopfamhaaGreatDoorWPairsW
import Derived.Shelf.SlMaps.Equal
import Derived.Test.YtlhhccmopfamhaaGreatDoorWHeapP
import Derived.Test.YtlhhccmopfamhaaGreatDoorWPairsX
import Derived.Test.YtlhhccmopfamhaaGreatDoorWOpenX
import Derived.Test.YtlhhccmopfamhaaGreatDoorRows
import Derived.Test.YtlhhccmopfamhaaGreatDoorCards
import Derived.Test.YtlhhccmopfamhaaGreatDoorTie
import Derived.WalkKit
import Derived.ProofKit
import Derived.OpenShut
import Derived.Stop.Joined
import Derived.SevenTiedAt
import Derived.Carry
set_option linter.unusedSimpArgs false
set_option linter.unusedVariables false
set_option maxRecDepth 100000
set_option maxHeartbeats 16000000
open List renaming mem_cons -> Uv, mem_cons_of_mem -> T8, filter_cons_of_pos -> Ve, length_cons -> Tc, filter_cons_of_neg -> Vf, length_filter_le -> Wb, length_nil -> S6, replicate_succ -> UN, replicate_zero -> UO, cons_append -> UP, nil_append -> UQ, foldl_cons -> UG, foldl_nil -> UH, take_succ_eq_append_getElem -> VB, all_eq_true -> Ui
open Nat renaming lt_add_one -> Vm, zero_lt_one -> Vn
open Bool renaming and_self -> UM, and_true -> Um, true_and -> Us
open Option.some renaming inj -> SX
namespace Go.Proofs.YtlhhccmopfamhaaGreatDoor
open Go.RowKit
section
open Go.RowKit Go.Shelf
section
open Go.Maps Go.Sort Go.WideElems
def Si (r:a7):List (Lit×DataW Unit):=r.map (fun p=>(.string p.1.data.toList, .lit (.int .i64 (p.2:Nat))))
def Rv (r s:a7):Bool:=decide (r.length=s.length)&&r.all (fun p=>look s p.1==some p.2)
end
structure R7 (A:nt):Prop extends AOk A where
 nd:A.ae.Nodup
 sz: ∀l∈A.ae,l.size<=20
 Sj:A.ae.length<=24
theorem tA: ∀ {l m:List ByteArray},mn l->mn m->(∀s,s∈l↔s∈m)->l=m
 | [],[],_,_,_=>rfl
 | [],b :: m,_,_,h=>absurd ((h b).2 (by simp)) (by simp)
 | a :: l,[],_,_,h=>absurd ((h a).1 (by simp)) (by simp)
 | a :: l,b :: m,h1,h2,h=>by
  rw [mn,List.pairwise_cons] at h1 h2;have irr: ∀x:List UInt8, ¬x<x:=fun x=>List.lt_irrefl _
  have hab:a=b:=by
   rcases Uv.1 ((h a).1 (by simp)) with e|ha
   ·exact e
   ·rcases Uv.1 ((h b).2 (by simp)) with e|hb
    ·exact e.symm
    ·exact absurd (List.lt_trans (h1.1 b hb) (h2.1 a ha)) (irr _)
  subst hab
  refine congrArg _ (tA h1.2 h2.2 fun s=>⟨fun hs=> ?_,fun hs=> ?_⟩)
  ·rcases Uv.1 ((h s).1 (T8 _ hs)) with e|q
   ·subst e;exact absurd (h1.1 _ hs) (irr _)
   ·exact q
  ·rcases Uv.1 ((h s).2 (T8 _ hs)) with e|q
   ·subst e;exact absurd (h2.1 _ hs) (irr _)
   ·exact q
theorem IU {x:Ex} {l:List ByteArray} (h:mn l) (hm: ∀s,s∈aX x↔s∈l):cn x=l:=tA (nY x) h fun s=>kp.trans (hm s)
def ta:ByteArray:=⟨#[97]⟩
def tb:ByteArray:=⟨#[98]⟩
def Qb (s:ByteArray):Ex:= .mk 1 s []
mutual
def sX:Ex->Nat->Nat
 | .mk _ _ l,deep=>if 60<deep then 301 else sL l (deep+1) 1
def sL:List Ex->Nat->Nat->Nat
 | [],_,n=>n
 | x :: xs,d,n=>if n<=300 then sL xs d (n+sX x d) else n
end
mutual
theorem Lx: ∀(x:Ex) (d:Nat),d<=61->1<=sX x d∧sX x d<=301+300 * (61 - d)
 | .mk _ _ l,d,h=>by
  rw [sX]
  split
  ·omega
  ·have:=Gv l (d+1) 1 (by omega);omega
theorem Gv: ∀(l:List Ex) (d n:Nat),d<=61->n<=sL l d n∧sL l d n<=max n (601+300 * (61 - d))
 | [],d,n,h=>by rw [sL];omega
 | x :: xs,d,n,h=>by
  rw [sL]
  split
  ·have h1:=Lx x d h;have h2:=Gv xs d (n+sX x d) h;omega
  ·omega
end
def Sl (a b:Ex):Nat:=if sX a 0<=300 then sX a 0+sX b 0 else sX a 0
def Qc (w:List ByteArray) (a b:Ex):Bool:=decide (300<Sl a b)||decide (30<w.length)
noncomputable def partAt (p q:List ByteArray->Bool) (w:List ByteArray) (n:Nat):Bool:=(List.range n).any (fun k=>p (w.take k)&&q (w.drop k))
section
variable {a b:Ex} (ha:aB a=true) (hb:aB b=true) (na:(au a).length<=11) (nb:(au b).length<=11)
include ha hb na nb
omit hb nb
end
theorem Ia {x:Ex} {A:nt} (h:ej x (cn x) = .inl A):aB x=true∧A.ae=cn x∧JU x A∧R7 A:=by
 have hr:aB x=true:=by
  cases hr:aB x
  ·rw [ej,hr] at h;simp at h
  ·rfl
 have L:=Cb hr (mL x) (Bb hr) (fun l hl=>kp.2 hl) h
 have e:A.ae=cn x:=by
  rw [ej,if_pos hr] at h
  split at h
  ·split at h
   ·cases h
   ·simp only [Sum.inl.injEq] at h;rw [<-h];rfl
  ·cases h
 exact ⟨hr,e,L,{ L.toAOk with nd:=by rw [e];exact mL x,sz:=by rw [e];exact Bc hr,Sj:=by rw [e];exact zG hr }⟩
theorem Ka {s:ByteArray} (h:s.size<=100):sc s:=by unfold sc;omega
mutual
def zh:Ex->List AV
 | .mk k s l=>[.v (.int .i64 k), .v (.string s),if l.isEmpty then .v (.slice none 0 0) else .aI 3 (wL l) l.length]
def wL:List Ex->List (List AV)
 | []=>[]
 | x :: xs=>zh x :: wL xs
end
theorem wM: ∀l:List Ex,wL l=l.map zh
 | []=>rfl
 | x :: xs=>by rw [wL,wM xs];rfl
theorem IA (x:Ex):BQ (zh x) (bH x):=by
 induction x using Ex.ind with
 | h k s l ih=>
  rw [zh,aS];refine .cons (.refl _) (.cons (.refl _) (.cons ?_ .nil))
  cases l with
  | nil=>exact .nil 3
  | cons y l=>
   have:=Le.rows (z:=3) (f:=zh) (g:=bH) (xs:=y :: l) (more:=[]) ih
   rw [List.append_nil] at this;rw [wM];exact this
def tx:ByteArray:=⟨#[120]⟩
def tc:ByteArray:=⟨#[99]⟩
def AZ:Ex:= .mk 4 ⟨#[]⟩ [Qb tx]
def Ro:nt:=⟨[[(tx,0)]],[true],[tx]⟩
def EY:List aV:=[⟨ta,tb,tx,5,[]⟩,⟨tb,tc,tx,3,[]⟩]
def OT:PL:=[((ta,ta),5),((ta,tb),5),((ta,tc),3),((tb,tb),5),((tb,tc),3),((tc,tc),3)]
theorem Nc:cn AZ=[tx]:=IU (by simp [mn]) (fun s=>by rw [show aX AZ=[tx] by kernel_rfl])
theorem MO:ej AZ (cn AZ) = .inl Ro:=by rw [Nc];kernel_rfl
theorem Jj:gK AZ EY=0:=by rw [gK,MO];kernel_rfl
theorem Li:gL AZ EY=OT:=by
 rw [gL,MO];show (if dh EY=0 then kA AZ Ro EY else [])=OT;rw [if_pos (by kernel_rfl)]
 kernel_rfl
theorem kB (x:Ex): ∀A,ej x (cn x) = .inl A->AOk A:=fun A h=>(Ia h).2.2.1.toAOk
def L4 (a b l:ByteArray) (t:Int):List AV:=[.v (.string a), .v (.string b), .v (.string l), .v (.int .i64 t), .v (.slice none 0 0)]
theorem EX (a b l:ByteArray) (t:Int):BQ (L4 a b l t) (bu ⟨a,b,l,t,[]⟩):= .cons (.refl _) (.cons (.refl _) (.cons (.refl _) (.cons (.refl _) (.cons (.nil 4) .nil))))
theorem KR:Le (.aI 5 [L4 ta tb tx 5,L4 tb tc tx 3] 2) (.aI 5 (EY.map bu) EY.length):=by
 refine .aI _ _ _ _ (by simp [EY]) (by simp [EY]) (fun i r r' h1 h2=> ?_) (fun i j r r' c c' h1 h2 h3 h4=> ?_)
 ·match i,h1,h2 with
  | 0,h1,h2=>cases h1;cases h2;rfl
  | 1,h1,h2=>cases h1;cases h2;rfl
  | i+2,h1,h2=>simp at h1
 ·match i,h1,h2 with
  | 0,h1,h2=>cases h1;cases h2;exact (EX _ _ _ _).2 j c c' h3 h4
  | 1,h1,h2=>cases h1;cases h2;exact (EX _ _ _ _).2 j c c' h3 h4
  | i+2,h1,h2=>simp at h1
theorem Cc:af Tryz.prog 7 [] (.v (.bool true)):=by
 have oS:AZ.ok:=by simp only [AZ,Qb,Ex.ok,oR,and_true];exact ⟨Ka (by decide),Ka (by decide)⟩
 have oE: ∀e∈EY,sn e:=fun e he=>by
  simp only [EY,Uv,List.not_mem_nil,or_false] at he
  rcases he with rfl|rfl<;>exact ⟨by show _<=maxLen;unfold maxLen;decide,by show _<=maxLen;unfold maxLen;decide,by show _<=maxLen;unfold maxLen;decide,fun p hp=>(by cases hp),by simp⟩
 have PS:=(tY AZ EY oS oE (by decide) (kB AZ)).le (args':=[.agg (zh AZ), .aI 5 [L4 ta tb tx 5,L4 tb tc tx 3] 2]) rfl (.cons (IA AZ).agg (.cons KR .nil));rw [ti,Jj,if_pos rfl,Li] at PS;have L1:=CX tx;have S1:=xU ta tb tx 5;have S2:=xU tb tc tx 3;have O1:=K9 4 [[.v (.int .i64 1), .v (.string tx), .v (.slice none 0 0)]] 1 rfl;have SM:=Gx OT (by decide);simp only [AZ,Qb,zh,wL,List.isEmpty_nil,List.isEmpty_cons,List.length_cons,List.length_nil,Nat.reduceAdd,if_true,Bool.false_eq_true,if_false,L4,ta,tb,tc,tx,OT,cd,List.map_cons,List.map_nil] at PS L1 S1 S2 O1 SM
 (refine af.enter Tryz.func7 rfl (by kernel_rfl) (by kernel_rfl) rfl (by first|rfl|(simp only [go_sem,Bool.and_self,Bool.and_true,Bool.true_and])) (by first|rfl|(simp only [go_sem,Bool.and_self,Bool.and_true,Bool.true_and])) ?_;simp only [Tryz.ntmps7,Tryz.results7,List.length_cons,List.length_nil,Nat.reduceAdd,Nat.reduceSub,List.replicate_succ,List.replicate_zero,List.cons_append,List.nil_append])
 repeat (first|(with_reducible first|refine ag.up ?_|refine fun (K:AK) hK=> ?_|(refine hK _ ?_;clear hK K))|simp only [go_sem]|with_reducible refine wA ?_|clear hK K)
 refine ab.one L1 ?_
 repeat (first|(with_reducible first|refine ag.up ?_|refine fun (K:AK) hK=> ?_|(refine hK _ ?_;clear hK K))|simp only [go_sem]|with_reducible refine wA ?_|clear hK K)
 refine ab.IJ O1 rfl (by simp only [go_sem,Nat.reduceLT,Nat.reduceLeDiff,Nat.reduceEqDiff,Vm,Vn,and_self]) ?_
 repeat (first|(with_reducible first|refine ag.up ?_|refine fun (K:AK) hK=> ?_|(refine hK _ ?_;clear hK K))|simp only [go_sem]|with_reducible refine wA ?_|clear hK K)
 refine ab.one S1 ?_
 repeat (first|(with_reducible first|refine ag.up ?_|refine fun (K:AK) hK=> ?_|(refine hK _ ?_;clear hK K))|simp only [go_sem]|with_reducible refine wA ?_|clear hK K)
 refine ab.one S2 ?_
 repeat (first|(with_reducible first|refine ag.up ?_|refine fun (K:AK) hK=> ?_|(refine hK _ ?_;clear hK K))|simp only [go_sem]|with_reducible refine wA ?_|clear hK K)
 refine ab.IJ PS rfl (by simp only [go_sem,Nat.reduceLT,Nat.reduceLeDiff,Nat.reduceEqDiff,Vm,Vn,and_self]) ?_
 repeat (first|(with_reducible first|refine ag.up ?_|refine fun (K:AK) hK=> ?_|(refine hK _ ?_;clear hK K))|simp only [go_sem]|with_reducible refine wA ?_|clear hK K)
 refine ab.IJ SM rfl (by simp only [go_sem,Nat.reduceLT,Nat.reduceLeDiff,Nat.reduceEqDiff,Vm,Vn,and_self]) ?_
 repeat (first|(with_reducible first|refine ag.up ?_|refine fun (K:AK) hK=> ?_|(refine hK _ ?_;clear hK K))|simp only [go_sem]|with_reducible refine wA ?_|clear hK K)
open Go.ChangeShapes Go.WideShapes Go.ChangeAt Go.RowKit
section
variable {H:Type} {enc:TypeId×Value->H} {w:World}
instance:Inhabited tZ:=⟨⟨⟨#[]⟩,⟨0,0,⟨#[]⟩⟩⟩⟩
instance:Inhabited aV:=⟨⟨⟨#[]⟩,⟨#[]⟩,⟨#[]⟩,0,[]⟩⟩
def tZ.cells (p:tZ):List Value:=[.string p.key, .int .i64 p.val.kind, .int .i64 p.val.num, .string p.val.text]
def AB (p:tZ) (cs:List Value):Prop:=cs=p.cells
def tZ.ok (p:tZ):Prop:=sc p.key∧p.val.ok
def Ef (w:World) (e:aV) (cs:List Value):Prop:= ∃sv,dD w 4 AB e.props sv∧cs=[.string e.aG, .string e.to, .string e.label, .int .i64 e.time,sv]
structure aV.ok (e:aV):Prop where
 aG:sc e.aG
 to:sc e.to
 label:sc e.label
 props: ∀p∈e.props,p.ok
 len:e.props.length<=140737488355328
theorem aV.ok.Ou {e:aV} (h:e.ok) (hl:e.props.length<=16777216):sn e:=by
 have h1:=h.aG;have h2:=h.to;have h3:=h.label;unfold sc at h1 h2 h3;refine ⟨by unfold maxLen;omega,by unfold maxLen;omega,by unfold maxLen;omega,fun p hp=> ?_,hl⟩;obtain ⟨k1,k2⟩:=h.props p hp;unfold yL.ok at k2;unfold sc at k1 k2;exact ⟨by unfold maxLen;omega,by unfold maxLen;omega⟩
theorem Qm:DG Tryz.prog 173=some [(9,0,1),(171,1,3)]:=by kernel_rfl
theorem MQ:Tryz.prog.cellsOf 173=4:=by kernel_rfl
theorem Ql:DG Tryz.prog 35=some [(9,0,1),(9,1,1),(9,2,1),(3,3,1),(33,4,1)]:=by kernel_rfl
theorem MP:Tryz.prog.cellsOf 35=5:=by kernel_rfl
theorem Oy:Tryz.prog.underlying 33=some (.slice 173):=by kernel_rfl
theorem Kf:Tryz.prog.underlying 26=some (.slice 35):=by kernel_rfl
theorem P4:0<Tryz.prog.bytesOf 173:=of_decide_eq_true (by kernel_rfl)
theorem P3:0<Tryz.prog.bytesOf 35:=of_decide_eq_true (by kernel_rfl)
theorem LI {n:Nat} {cs:List Value} (h:Td enc Tryz.prog w n 173 cs): ∃x:tZ,AB x cs∧x.ok:=by
 obtain ⟨m,_,hl,hf⟩:=iU Qm h;rw [MQ] at hl
 match cs,hl with
 | [a,b,c,d],_=>
  obtain ⟨s,e0,h0⟩:=oz DJ (hf 0 _ _ _ rfl);obtain ⟨⟨v1,v2,v3⟩,e1,h1⟩:=LJ (hf 1 _ _ _ rfl)
  obtain rfl:a=_:=by simpa using e0
  simp only [List.drop_succ_cons,List.drop_zero,List.take_succ_cons,List.take_zero,yL.cells,List.cons.injEq,and_true] at e1;obtain ⟨rfl,rfl,rfl⟩:=e1;exact ⟨⟨s,v1,v2,v3⟩,rfl,h0,h1⟩
theorem LH {n:Nat} {cs:List Value} (h:Td enc Tryz.prog w n 35 cs): ∃x:aV,Ef w x cs∧x.ok:=by
 obtain ⟨m,_,hl,hf⟩:=iU Ql h;rw [MP] at hl
 match cs,hl with
 | [a,b,c,d,e],_=>
  obtain ⟨s0,e0,h0⟩:=oz DJ (hf 0 _ _ _ rfl);obtain ⟨s1,e1,h1⟩:=oz DJ (hf 1 _ _ _ rfl);obtain ⟨s2,e2,h2⟩:=oz DJ (hf 2 _ _ _ rfl);obtain ⟨k,e3,_⟩:=vu Ox (hf 3 _ _ _ rfl);obtain ⟨ps,h4,o4,l4⟩:=Ak Oy MQ (by omega) P4 (hf 4 _ _ _ rfl) (rd:=AB) (okx:=tZ.ok) (fun m' cs' hm hx=>LI hx);cases e0;cases e1;cases e2;cases e3;exact ⟨⟨s0,s1,s2,k,ps⟩,⟨e,h4,rfl⟩,h0,h1,h2,o4,l4⟩
theorem GV {a:Option Addr} {len cap:Nat} {d:DataW H} {ps:List MemPlace} (h:DataW.Trod enc Tryz.prog w 0 (fun _=>true) true 26 (.slice a len cap) d ps) (hw: ∀k∈d.weights Tryz.prog 26,k<=reachBytes) :
  ∃(l:List aV),dD w 5 (Ef w) l (.slice a len cap)∧(∀s,s∈l->s.ok)∧l.length<=140737488355328:=by
 obtain ⟨n,h⟩:=h;have ht:Td enc Tryz.prog w n 26 [.slice a len cap]:=⟨_,h,hw⟩;exact Ak Kf MP (by omega) P3 ht (rd:=Ef w) (okx:=aV.ok) (fun m' cs' hm hx=>LH hx)
variable {D:Nat->Prop} {nu:Nat->Nat->Value}
theorem Jp (hD: ∀b,b<w.heap.size->D b) {l:List tZ} {v:Value} (h:dD w 4 AB l v):RA D nu [] w (.aI 4 (l.map mI) l.length) v:=
 RA.uY hD (by omega) h (fun _=>rfl) (fun x _ cs hc=>by subst hc;exact ⟨pd x.cells,by simp [tZ.cells,Value.oneCell']⟩)
theorem MW (hD: ∀b,b<w.heap.size->D b) (e:aV) (cs:List Value) (h:Ef w e cs):Hp D nu [] w (bu e) cs∧ ∀y∈cs,y.oneCell'=true:=by
 obtain ⟨sv,h,rfl⟩:=h;have hs:=Jp (nu:=nu) hD h;have ho:=xI h
 refine ⟨⟨rfl,fun j c y h1 h2=> ?_⟩,fun y hy=>by
  simp only [Uv,List.not_mem_nil,or_false] at hy
  rcases hy with rfl|rfl|rfl|rfl|rfl<;>first|rfl|exact ho⟩
 match j,h1,h2 with
 | 0,h1,h2=>cases h1;cases h2;exact .v _
 | 1,h1,h2=>cases h1;cases h2;exact .v _
 | 2,h1,h2=>cases h1;cases h2;exact .v _
 | 3,h1,h2=>cases h1;cases h2;exact .v _
 | 4,h1,h2=>cases h1;cases h2;exact hs
 | j+5,h1,h2=>simp [bu] at h1
theorem KT (hD: ∀b,b<w.heap.size->D b) {l:List aV} {v:Value} (h:dD w 5 (Ef w) l v):RA D nu [] w (.aI 5 (l.map bu) l.length) v:=
 RA.uY hD (by omega) h (fun _=>rfl) (fun x _ cs hc=>MW hD x cs hc)
end
end
section
theorem A3 {α:Type} (p:α->Bool): ∀(l:List α) (i:Nat) (h:i<l.length),p l[i]=true->(l.filter p)[((l.take i).filter p).length]? = some l[i]
 | [],i,h,_=>by simp at h
 | a :: l,0,h,hp=>by
  simp only [List.getElem_cons_zero] at hp;simp [Ve hp]
 | a :: l,i+1,h,hp=>by
  simp only [List.getElem_cons_succ] at hp ⊢;have ih:=A3 p l i (by simpa using h) hp;rw [List.take_succ_cons]
  by_cases ha:p a=true
  ·rw [Ve ha,Ve ha,Tc,List.getElem?_cons_succ];exact ih
  ·rw [Vf ha,Vf ha];exact ih
def kK (cut:Int) (L:PL):PL:=L.filter (fun p=>decide (cut<p.2))
theorem r9 (x:Ex) (E:List aV) (cut:Int) (hx:x.ok) (hE: ∀e∈E,e.ok) (hl:E.length<=140737488355328):af Tryz.prog 3 [.agg (bH x), .aI 5 (E.map bu) E.length, .v (.int .i64 cut)] (.v (.bool true)):=by
 have W:=Cc;have GR:=Cz x E hl
 have eN:(E.map bu).length=E.length:=by simp
 cases hg:Fe x E
 ·rw [hg] at GR;obtain ⟨h30,hp⟩:=IK hg;have hok: ∀e∈E,sn e:=fun e he=>(hE e he).Ou (by have:=hp e he;omega);have PS:=tY x E hx hok (by omega) (kB x);have PM:=tY x (fj cut E) hx (fun e he=>hok e (List.mem_filter.1 he).1) (by have:=Wb (fun e:aV=>decide (cut<e.time)) E;simp only [fj];omega) (kB x)
  by_cases h0:gK x E=0
  ·obtain ⟨k1,k2⟩:=F5 cut (kB x) h0;rw [ti,if_pos h0] at PS;rw [ti,if_pos k1,k2] at PM;have hLl:=Di x E (by omega) (kB x);generalize gL x E=L at *;rw [aS] at GR PS PM ⊢
   (refine af.enter Tryz.func3 rfl (by kernel_rfl) (by kernel_rfl) rfl (by first|rfl|(simp only [go_sem,UM,Um,Us])) (by first|rfl|(simp only [go_sem,UM,Um,Us])) ?_;simp only [Tryz.ntmps3,Tryz.results3,Tc,S6,Nat.reduceAdd,Nat.reduceSub,UN,UO,UP,UQ])
   repeat (first|(with_reducible first|refine ag.up ?_|refine fun (K:AK) hK=> ?_|refine wD ?_|(refine hK _ ?_;clear hK K))|simp only [go_sem]|with_reducible refine wA ?_|clear hK K)
   refine ab.one W ?_
   repeat (first|(with_reducible first|refine ag.up ?_|refine fun (K:AK) hK=> ?_|refine wD ?_|(refine hK _ ?_;clear hK K))|simp only [go_sem]|with_reducible refine wA ?_|clear hK K)
   refine ab.one GR ?_
   repeat (first|(with_reducible first|refine ag.up ?_|refine fun (K:AK) hK=> ?_|refine wD ?_|(refine hK _ ?_;clear hK K))|simp only [go_sem]|with_reducible refine wA ?_|clear hK K)
   refine ab.one PS ?_
   repeat (first|(with_reducible first|refine ag.up ?_|refine fun (K:AK) hK=> ?_|refine wD ?_|(refine hK _ ?_;clear hK K))|simp only [go_sem]|with_reducible refine wA ?_|clear hK K)
   refine sC (ι:=Nat) 9 35 5 rfl (by decide) 10 (fun i=>[(9, .vec 1 (fj cut (E.take i)).length),(10, .v (.int .i64 (i:Nat)))]) (fun i=>[some ⟨25,3,false,[[.v (.int .i64 x.kind), .v (.string x.label), .aI 3 (x.kids.map bH) x.kids.length]]⟩,some ⟨35,5,true,(fj cut (E.take i)).map bu⟩]) (fun i=>E.length - i) (fun i=>i<=E.length) 0 (Nat.zero_le _) ?_ ?_
   ·(refine aq ?_ ?_ ?_<;>simp only [aG,UG,UH,UN,UO,bd,bj,AV.v.injEq,Value.int.injEq,Value.bool.injEq,Value.string.injEq,AV.vec.injEq,AV.ptr.injEq,true_or,or_true,false_or,or_false,aa.mk.injEq,forall_eq_apply_imp_iff,forall_eq,forall_eq',go_sem])
    all_goals first|rfl|exact ⟨rfl,rfl⟩|trace_state
   ·rintro i hi K hK
    rcases Nat.lt_or_ge i E.length with h|h
    ·have d1:decide ((i:Int)<(E.length:Int))=true:=decide_eq_true (by omega);have e1:=pD h;have ws:=aD (k:=i) (by omega)
     have eY:fj cut (E.take (i+1))=fj cut (E.take i)++if cut<E[i].time then [E[i]] else []:=by
      rw [fj,fj,VB h,List.filter_append]
      by_cases hc:cut<E[i].time
      ·simp [hc]
      ·simp [hc]
     have eM:((fj cut (E.take i)).map bu).length=(fj cut (E.take i)).length:=by simp
     have eW:=dN 2 (fj cut (E.take (i+1)));have hyl:(fj cut (E.take i)).length<=30:=Nat.le_trans (Wb _ _) (by rw [List.length_take];omega)
     have hb1:((fj cut (E.take i)).length+1) * 80<=140737488355328:=by omega
     have hb2:(fj cut (E.take i)).length<=140737488355327:=by omega
     generalize E[i]=e at *
     by_cases hc:cut<e.time
     ·have d2:decide (cut<e.time)=true:=decide_eq_true hc;rw [if_pos hc] at eY
      repeat (first|(with_reducible first|refine ag.up ?_|refine fun (K:AK) hK=> ?_|refine wD ?_|(refine hK _ ?_;clear hK K))|simp only [go_sem,d1,e1,eN,d2,eM,ws,hb1,hb2]|with_reducible refine wA ?_|clear hK K)
      refine aP.mk (i+1) h (show E.length - (i+1)<E.length - i by omega) ?_;rw [eY] at eW ⊢;simp only [List.map_append,List.map_cons,List.map_nil,List.length_append,Tc,S6,bu] at eW ⊢
      (refine aq ?_ ?_ ?_<;>simp only [aG,UG,UH,UN,UO,bd,bj,AV.v.injEq,Value.int.injEq,Value.bool.injEq,Value.string.injEq,AV.vec.injEq,AV.ptr.injEq,true_or,or_true,false_or,or_false,aa.mk.injEq,forall_eq_apply_imp_iff,forall_eq,forall_eq',go_sem])
      all_goals first|exact eW|exact ⟨rfl,eW⟩|trace_state
     ·have d2:decide (cut<e.time)=false:=decide_eq_false hc;rw [if_neg hc,List.append_nil] at eY
      repeat (first|(with_reducible first|refine ag.up ?_|refine fun (K:AK) hK=> ?_|refine wD ?_|(refine hK _ ?_;clear hK K))|simp only [go_sem,d1,e1,eN,d2,eM,ws]|with_reducible refine wA ?_|clear hK K)
      refine aP.mk (i+1) h (show E.length - (i+1)<E.length - i by omega) ?_;rw [eY] at eW ⊢
      (refine aq ?_ ?_ ?_<;>simp only [aG,UG,UH,UN,UO,bd,bj,AV.v.injEq,Value.int.injEq,Value.bool.injEq,Value.string.injEq,AV.vec.injEq,AV.ptr.injEq,true_or,or_true,false_or,or_false,aa.mk.injEq,forall_eq_apply_imp_iff,forall_eq,forall_eq',go_sem])
      all_goals first|exact eW|exact ⟨rfl,eW⟩|trace_state
    ·have e0:i=E.length:=by omega
     have d1:decide ((E.length:Int)<(E.length:Int))=false:=decide_eq_false (by omega);have e2:E.take E.length=E:=List.take_length;simp only [e0,e2]
     repeat (first|(with_reducible first|refine ag.up ?_|refine fun (K:AK) hK=> ?_|refine wD ?_|(refine hK _ ?_;clear hK K))|simp only [go_sem,d1]|with_reducible refine wA ?_|clear hK K)
     refine ab.IJ PM rfl (by simp only [go_sem,Nat.reduceLT,Nat.reduceLeDiff,Nat.reduceEqDiff,Nat.lt_add_one,Nat.zero_lt_one,and_self]) ?_
     repeat (first|(with_reducible first|refine ag.up ?_|refine fun (K:AK) hK=> ?_|refine wD ?_|(refine hK _ ?_;clear hK K))|simp only [go_sem]|with_reducible refine wA ?_|clear hK K)
     have fM:L.filter (fun p=>decide (cut<p.2))=kK cut L:=rfl;rw [fM]
     have eNL:(L.map cd).length=L.length:=by simp
     have eNM:((kK cut L).map cd).length=(kK cut L).length:=by simp
     refine cI (ι:=Nat) 13 (fun i=>[(13, .v (.int .i64 ((kK cut (L.take i)).length:Nat))),(14, .v (.int .i64 (i:Nat)))]) (fun i=>L.length - i) (fun i=>i<=L.length) 0 (Nat.zero_le _) ?_ ?_
     ·(refine aq ?_ ?_ ?_<;>simp only [aG,UG,UH,UN,UO,bd,bj,AV.v.injEq,Value.int.injEq,Value.bool.injEq,Value.string.injEq,AV.vec.injEq,AV.ptr.injEq,true_or,or_true,false_or,or_false,aa.mk.injEq,forall_eq_apply_imp_iff,forall_eq,forall_eq',go_sem])
      all_goals first|rfl|exact ⟨rfl,rfl⟩|trace_state
     ·rintro j hj K hK
      rcases Nat.lt_or_ge j L.length with h2|h2
      ·have d2:decide ((j:Int)<(L.length:Int))=true:=decide_eq_true (by omega);have e3:=getD_map cd L j [] h2;simp only [cd] at e3;have ws:=aD (k:=j) (by omega)
       have eY:kK cut (L.take (j+1))=kK cut (L.take j)++if cut<L[j].2 then [L[j]] else []:=by
        rw [kK,kK,VB h2,List.filter_append]
        by_cases hc:cut<L[j].2
        ·simp [hc]
        ·simp [hc]
       have hF:=A3 (fun p:K2×Int=>decide (cut<p.2)) L j h2
       by_cases hc:cut<L[j].2
       ·have hF:=hF (decide_eq_true hc);have q1:decide (L[j].2<=cut)=false:=decide_eq_false (by omega);rw [if_pos hc] at eY;have hb:=(List.getElem?_eq_some_iff.1 hF);obtain ⟨hb1,hb2⟩:=hb;have hb1:(kK cut (L.take j)).length<(kK cut L).length:=hb1;have hb2:(kK cut L)[(kK cut (L.take j)).length]=L[j]:=hb2;have q2:decide (((kK cut L).length:Int)<=((kK cut (L.take j)).length:Int))=false:=decide_eq_false (by omega);have e6:=getD_map cd (kK cut L) _ [] hb1;rw [hb2] at e6;simp only [cd] at e6;have ws2:=aD (k:=(kK cut (L.take j)).length) (by have:=Wb (fun p:K2×Int=>decide (cut<p.2)) (L.take j);rw [List.length_take] at this;simp only [kK];omega);generalize L[j]=p at *
        have tt:gS Tryz.prog 37=some [.s, .s, .i]:=by kernel_rfl
        have q3:fX [.s, .s, .i] [.v (.string p.1.1), .v (.string p.1.2), .v (.int .i64 p.2)] [.v (.string p.1.1), .v (.string p.1.2), .v (.int .i64 p.2)]=some true:=by simp [fX,kv]
        repeat (first|(with_reducible first|refine ag.up ?_|refine fun (K:AK) hK=> ?_|refine wD ?_|(refine hK _ ?_;clear hK K))|simp only [go_sem,d2,e3,eNL,eNM,q1,q2,q3,tt,e6,hb1,ws,ws2,Bool.not_true]|with_reducible refine wA ?_|clear hK K)
        refine aP.mk (j+1) h2 (show L.length - (j+1)<L.length - j by omega) ?_;rw [eY];simp only [List.length_append,Tc,S6]
        (refine aq ?_ ?_ ?_<;>simp only [aG,UG,UH,UN,UO,bd,bj,AV.v.injEq,Value.int.injEq,Value.bool.injEq,Value.string.injEq,AV.vec.injEq,AV.ptr.injEq,true_or,or_true,false_or,or_false,aa.mk.injEq,forall_eq_apply_imp_iff,forall_eq,forall_eq',go_sem])
       ·have q1:decide (L[j].2<=cut)=true:=decide_eq_true (by omega);rw [if_neg hc,List.append_nil] at eY
        repeat (first|(with_reducible first|refine ag.up ?_|refine fun (K:AK) hK=> ?_|refine wD ?_|(refine hK _ ?_;clear hK K))|simp only [go_sem,d2,e3,eNL,q1,ws]|with_reducible refine wA ?_|clear hK K)
        refine aP.mk (j+1) h2 (show L.length - (j+1)<L.length - j by omega) ?_;rw [eY]
        (refine aq ?_ ?_ ?_<;>simp only [aG,UG,UH,UN,UO,bd,bj,AV.v.injEq,Value.int.injEq,Value.bool.injEq,Value.string.injEq,AV.vec.injEq,AV.ptr.injEq,true_or,or_true,false_or,or_false,aa.mk.injEq,forall_eq_apply_imp_iff,forall_eq,forall_eq',go_sem])
      ·have e4:j=L.length:=by omega
       have d2:decide ((L.length:Int)<(L.length:Int))=false:=decide_eq_false (by omega);have e5:L.take L.length=L:=List.take_length;simp only [e4,e5]
       repeat (first|(with_reducible first|refine ag.up ?_|refine fun (K:AK) hK=> ?_|refine wD ?_|(refine hK _ ?_;clear hK K))|simp only [go_sem,d2,beq_self_eq_true]|with_reducible refine wA ?_|clear hK K)
  ·rw [ti,if_neg h0] at PS
   have z0:(gK x E !=0)=true:=by simp [h0]
   rw [aS] at GR PS ⊢
   (refine af.enter Tryz.func3 rfl (by kernel_rfl) (by kernel_rfl) rfl (by first|rfl|(simp only [go_sem,UM,Um,Us])) (by first|rfl|(simp only [go_sem,UM,Um,Us])) ?_;simp only [Tryz.ntmps3,Tryz.results3,Tc,S6,Nat.reduceAdd,Nat.reduceSub,UN,UO,UP,UQ])
   repeat (first|(with_reducible first|refine ag.up ?_|refine fun (K:AK) hK=> ?_|refine wD ?_|(refine hK _ ?_;clear hK K))|simp only [go_sem]|with_reducible refine wA ?_|clear hK K)
   refine ab.one W ?_
   repeat (first|(with_reducible first|refine ag.up ?_|refine fun (K:AK) hK=> ?_|refine wD ?_|(refine hK _ ?_;clear hK K))|simp only [go_sem]|with_reducible refine wA ?_|clear hK K)
   refine ab.one GR ?_
   repeat (first|(with_reducible first|refine ag.up ?_|refine fun (K:AK) hK=> ?_|refine wD ?_|(refine hK _ ?_;clear hK K))|simp only [go_sem]|with_reducible refine wA ?_|clear hK K)
   refine ab.one PS ?_
   repeat (first|(with_reducible first|refine ag.up ?_|refine fun (K:AK) hK=> ?_|refine wD ?_|(refine hK _ ?_;clear hK K))|simp only [go_sem,z0]|with_reducible refine wA ?_|clear hK K)
 ·rw [hg] at GR;rw [aS] at GR ⊢
  (refine af.enter Tryz.func3 rfl (by kernel_rfl) (by kernel_rfl) rfl (by first|rfl|(simp only [go_sem,UM,Um,Us])) (by first|rfl|(simp only [go_sem,UM,Um,Us])) ?_;simp only [Tryz.ntmps3,Tryz.results3,Tc,S6,Nat.reduceAdd,Nat.reduceSub,UN,UO,UP,UQ])
  repeat (first|(with_reducible first|refine ag.up ?_|refine fun (K:AK) hK=> ?_|refine wD ?_|(refine hK _ ?_;clear hK K))|simp only [go_sem]|with_reducible refine wA ?_|clear hK K)
  refine ab.one W ?_
  repeat (first|(with_reducible first|refine ag.up ?_|refine fun (K:AK) hK=> ?_|refine wD ?_|(refine hK _ ?_;clear hK K))|simp only [go_sem]|with_reducible refine wA ?_|clear hK K)
  refine ab.one GR ?_
  repeat (first|(with_reducible first|refine ag.up ?_|refine fun (K:AK) hK=> ?_|refine wD ?_|(refine hK _ ?_;clear hK K))|simp only [go_sem]|with_reducible refine wA ?_|clear hK K)
open Go.ChangeShapes Go.WideShapes Go.ChangeAt Go.WideMaps Go.WideElems Go.RowKit
namespace pathCuts
theorem own:ownKnob Tryz.prog.godebug=none:=by kernel_rfl
theorem laid:laidOutB Tryz.prog=true:=by kernel_rfl
theorem EP (H:Type) (enc:TypeId×Value->H) (W:World) (args:Array Value) (ds gs:List (DataW H)) (before:List MemPlace) (base:Nat)
  (hval: ∀(j:Nat) t v,Tryz.f3.params[j]? = some t->args[j]? = some v->Value.okWide Tryz.prog W .any base t v)
  (hW:DataW.Whole enc Tryz.prog Tryz.f3.params.toList Rows.pathCutsSpec.vars false W args.toList ds gs before)
  (hsz:(DataW.weightsEach Tryz.prog (Tryz.f3.params.toList++Rows.pathCutsSpec.plain.varTypes Tryz.prog) (ds++gs)).all (· <= reachBytes)=true)
  (hL:laidMetH Tryz.prog Rows.pathCutsRow.laid W) :
  Calls Tryz.prog 3 args W fun e W'=> ∃v,e = .returned v∧Rows.pathCutsSpec.post enc Tryz.prog Tryz.f3 false true false false W args v W':=by
 have hW':=hW;have hlt:=hW.lt;obtain ⟨p,q,hA,hV,rfl,hfz,hnd⟩:=hW;rw [Tryz.params3] at hA hsz hval;obtain ⟨v0,v1,v2,d0,d1,d2,p0,p1,p2,rfl,rfl,rfl,h0,h1,h2⟩:=trodAll_three hA;obtain ⟨rfl,rfl⟩:=trodVars_none hV
 have z0: ∀k∈d0.weights Tryz.prog 25,k<=reachBytes:=fun k hk=>by
  have:=Ui.1 hsz k (DataW.weights_mem_each (j:=0) (t:=25) (d:=d0) rfl rfl k hk)
  simpa using this
 have z1: ∀k∈d1.weights Tryz.prog 26,k<=reachBytes:=fun k hk=>by
  have:=Ui.1 hsz k (DataW.weights_mem_each (j:=1) (t:=26) (d:=d1) rfl rfl k hk)
  simpa using this
 obtain ⟨q0,c0,rfl,r0,o0⟩:=JK h0 z0;obtain ⟨a1,n1,m1,rfl⟩:=okWide_slice Kf (hval 1 26 v1 rfl rfl);obtain ⟨q1,r1,o1,s1⟩:=GV h1 z1;obtain ⟨q2,rfl,_,_,_⟩:=open_int Tryz.underlying3 (hval 2 3 v2 rfl rfl) h2
 refine ((r9 q0 q1 q2 o0 o1 s1).LK (w:=W) (vargs:= #[.agg c0.toArray, .slice a1 n1 m1, .int .i64 q2]) ⟨rfl,fun i c x hc hx=> ?_⟩ (Cv hL)).mono fun e W' he=> ?_
 ·match i,hc,hx with
  | 0,hc,hx=>cases hc;cases hx;exact E3 (fun _ _=>trivial) r0
  | 1,hc,hx=>cases hc;cases hx;exact KT (fun _ _=>trivial) r1
  | 2,hc,hx=>cases hc;cases hx;exact .v _
  | i+3,hc,hx=>simp at hc
 obtain ⟨rfl,hb⟩:=he
 refine ⟨_,rfl,_,_,_,[],p0++(p1++p2),[],hW', ?_, ?_,rfl,hb.frame _,fun h=>by cases h⟩
 ·exact trodAll_mk1 (shut_bool Tryz.underlying4 _)
 ·exact trodAll_mk3 (Below.trod laid (by kernel_rfl) (of_decide_eq_true (by kernel_rfl)) h0 hb (fun x hx=>hlt x (by simp [hx]))) (Below.trod laid (by kernel_rfl) (of_decide_eq_true (by kernel_rfl)) h1 hb (fun x hx=>hlt x (by simp [hx]))) (Below.trod laid (by kernel_rfl) (of_decide_eq_true (by kernel_rfl)) h2 hb (fun x hx=>hlt x (by simp [hx])))
theorem EV (os:Os) (args:Array Value):laidMetH Tryz.prog Rows.pathCutsRow.laid ((World.doorLaid Tryz.prog 400 os).forCall (fun _ _=>0) ⟨#[],args,[]⟩).memory:=
 laidMetH_of_parts3 (fuel:=8) (laidMet_of_run' 8 (by kernel_rfl) (by kernel_rfl)) (by kernel_rfl) (by kernel_rfl)
theorem lifted (os:Os) (started:os.Started) (H:Type) (enc:TypeId×Value->H) :
  ReturnsInHanded {} Tryz.checked os 3 .any (fun w args=>(Rows.pathCutsSpec.pre enc Tryz.prog Tryz.f3 [] false w args∧laidMetH Tryz.prog Rows.pathCutsRow.laid w)∧sizedMet enc Tryz.prog Tryz.f3 (OpenSpec.ofChange Rows.pathCutsSpec) false w args)
   (Rows.pathCutsSpec.post enc Tryz.prog Tryz.f3 false true false false):=by
 refine returnsInHanded_of_change_and (C:=Tryz.checked) (X:=fun w _=>laidMetH Tryz.prog Rows.pathCutsRow.laid w) (fun _ _ _ hh h=>h.of_heap hh) own started (by kernel_rfl) Tryz.func3
  (ChangeSpec.witness_shaped (enc:=enc) (C:=Tryz.checked) (os:=os) (X:=fun w _=>laidMetH Tryz.prog Rows.pathCutsRow.laid w) false (World.doorLaid Tryz.prog 400 os) #[.agg #[.int .i64 0, .string ⟨#[]⟩, .slice none 0 0], .slice none 0 0, .int .i64 0] 8 rfl (World.shaped_of_RefB (by kernel_rfl) (by kernel_rfl)) (by kernel_rfl) (by kernel_rfl) (by kernel_rfl) (EV os _)) ?_
 intro W base args ds gs before hval hW _ hsz hL _;exact EP H enc W args ds gs before base hval hW hsz hL
theorem over:Rows.pathCutsRow.holds Tryz.pinned (OpenSpec.ofChange Rows.pathCutsSpec):=
 OpenClaim.holds_of_wide 3 Tryz.f3 rfl rfl rfl rfl rfl rfl rfl ⟨rfl,rfl,rfl,rfl,rfl⟩ rfl rfl rfl rfl rfl (by kernel_rfl) Tryz.func3 (by kernel_rfl)
  (of_decide_eq_true (by kernel_rfl)) (by unfold Func.isWrapper;first|(rw [if_pos (by decide+kernel)];kernel_rfl)|(rw [if_neg (by decide+kernel)];exact ⟨rfl,rfl⟩))
  (fun os started H enc _=>lifted os started H enc)
theorem proved:Rows.PathCutsCardSaid:=
 Claim7.holds_tied_plain_at .later [] [.data, .data, .data] true _ false
  over (fun _ h=>by cases h) (by kernel_rfl) (fun _ h=>by cases h) pathCuts_row_tie rfl ⟨rfl,rfl⟩ (by kernel_rfl) rfl
  (fun f fn hf hfn=>by
   obtain rfl:f=3:=(SX ((show Tryz.prog.funcNamed "kinescope/kinescopelaw15.PathCuts" = some 3 by kernel_rfl).symm.trans hf)).symm
   obtain rfl:fn=Tryz.f3:=(SX (Tryz.func3.symm.trans hfn)).symm
   exact ⟨by kernel_rfl,fun j t ht=>by
    rw [Tryz.params3] at ht
    have hm:t∈[25,26,3]:=by simpa using Array.mem_of_getElem? ht
    have hall:([25,26,3].all fun u=> !Tryz.prog.wantsStandIn u)=true:=by kernel_rfl
    exact (show Tryz.prog.wantsStandIn t=false by simpa using Ui.1 hall t hm)⟩)
  (by kernel_rfl)
end pathCuts
theorem pathCuts_holds:Rows.PathCutsCardSaid:=pathCuts.proved
#print axioms pathCuts_holds
end
end Go.Proofs.YtlhhccmopfamhaaGreatDoor
