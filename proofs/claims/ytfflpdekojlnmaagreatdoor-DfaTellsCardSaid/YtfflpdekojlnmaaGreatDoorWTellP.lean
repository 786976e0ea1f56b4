/- texts of one claim, one behind the other. -/
import Derived.Test.YtfflpdekojlnmaaGreatDoorWOpenX
import Derived.Test.YtfflpdekojlnmaaGreatDoorWPart3
import Derived.Test.YtfflpdekojlnmaaGreatDoorWDrawL
import Derived.Test.YtfflpdekojlnmaaGreatDoorProg
import Derived.Test.YtfflpdekojlnmaaGreatDoorWFen
import Derived.Test.YtfflpdekojlnmaaGreatDoorWDfaA
import Derived.Test.YtfflpdekojlnmaaGreatDoorWWaysP
import Derived.Test.YtfflpdekojlnmaaGreatDoorWNfaR
set_option linter.unusedSimpArgs false
set_option linter.unusedVariables false
set_option maxRecDepth 100000
set_option maxHeartbeats 16000000
open List renaming getElem?_append_right -> U2, set_append_right -> WR, length_append -> UC, getElem?_cons_succ -> VY, length_cons -> UD, length_nil -> Ux, cons_append -> WE, nil_append -> Wt, getD_eq_getElem?_getD -> Vq, append_assoc -> U0, map_cons -> Wy, map_nil -> WI
open Nat renaming add_sub_cancel_left -> Xp, zero_le -> UE
open Bool renaming or_assoc -> Xq, and_self -> WA, eq_iff_iff -> WL, false_eq_true -> VS, or_eq_true -> VJ, and_eq_true -> Vj, true_and -> VO, eq_false_or_eq_true -> Wg, false_and -> V4
open Option.some renaming inj -> Us
open Option renaming map_some -> U5
namespace Go.Proofs.YtfflpdekojlnmaaGreatDoor
open Go.RowKit
section
open Classical in
noncomputable def j0 (x:Ex) (b q:Nat):Bool:=decide (jX x b (q+1))
open Classical in
noncomputable def ei (x:Ex) (b q:Nat):Bool:=decide (jg x b (q+1))
open Classical in
noncomputable def jZ (x:Ex) (b p q:Nat):Bool:=decide (iL x b (p+1) (q+1))
theorem ij {x:Ex} {b q:Nat}:j0 x b q=true↔jX x b (q+1):=by simp [j0]
theorem im {x:Ex} {b q:Nat}:ei x b q=true↔jg x b (q+1):=by simp [ei]
theorem ku {x:Ex} {b p q:Nat}:jZ x b p q=true↔iL x b (p+1) (q+1):=by simp [jZ]
theorem Kx {I:List (Option aa)} {z:Nat} (h:I.length=z) (tl:List (Option aa)) (j:Nat):(I++tl)[z+j]? = tl[j]? :=by
 rw [U2 (by omega),h,Xp]
theorem rV {I:List (Option aa)} {z:Nat} (h:I.length=z) (tl:List (Option aa)):(I++tl)[z]? = tl[0]? :=by
 rw [U2 (by omega),h,Nat.sub_self]
theorem Ky {I:List (Option aa)} {z:Nat} (h:I.length=z) (tl:List (Option aa)) (j:Nat) (x:Option aa):(I++tl).set (z+j) x=I++tl.set j x:=by
 rw [WR _ _ (by omega),h,Xp]
theorem rW {I:List (Option aa)} {z:Nat} (h:I.length=z) (tl:List (Option aa)) (x:Option aa):(I++tl).set z x=I++tl.set 0 x:=by
 rw [WR _ _ (by omega),h,Nat.sub_self]
theorem C0 {n0 id n:Nat} {s:AS} {Q:aY->AS->Prop} {l:List Oper} {ax:AV} {em:Bool} (hn:n<=1000)
  (hl:l=np 54 25 152 (.call ⟨.value (.func 100), #[.tmp 26], #[25]⟩) (fun i=>(l.getD i default).type) (fun i=>(l.getD i default).pos) (fun i=>(l.getD i default).after) (l.getD 8 default))
  (hB:gk l.toArray 8=true) (hC:dw l.toArray=true)
  (hdp:aE l.toArray 1 0=true∧aE l.toArray 3 2=true∧aE l.toArray 5 4=true∧aE l.toArray 6 1=true∧aE l.toArray 6 3=true∧aE l.toArray 6 5=true)
  (hlen:29<=s.t.length) (hmv:s.ev (.tmp 5) = .v (.int .i64 n))
  (hld:bS Tryz.prog (.load 25 (.tmp 3)) s (fun r=>r=ax)) (hcl:ar Tryz.prog 100 [ax] (.v (.bool em)))
  (h:dM Tryz.prog l [l.getD 8 default] ⟨qA s.t s.o.length n em,s.o++[some ⟨4,1,true,cM n (fun _=>false)⟩,some ⟨4,1,true,cM n (fun _=>false)⟩,some ⟨152,3,false,[[.v (.slice none 0 0), .v (.slice none 0 0), .v (.bool false)]]⟩],s.y⟩ (Q .normal)) :
  cj Tryz.prog n0 (.region id l.toArray true) s Q:=by
 have e1:wN Tryz.prog 54 (.v (.int .i64 n)) (.v (.int .i64 n))=some (0<=(n:Int)∧(n:Int)<=(n:Int)∧(n:Int).toNat * 1<=140737488355328∧(n:Int).toNat<=140737488355328,4,1,n,[.v (.bool false)]):=by
  simp only [go_sem]
 have e2:wC Tryz.prog 152=some (True,152,3,1,[.v (.slice none 0 0), .v (.slice none 0 0), .v (.bool false)]):=by
  first|(simp only [go_sem];done)|(simp only [go_sem];rfl)
 rw [<-jj] at h
 refine Bg 54 25 152 _ hl hB hC hdp hlen hmv e1 ⟨by omega,by omega,by omega,by omega⟩ e2 (by decide) hld ?_ (fun v1 v3 h1 h3=> ?_) h
 ·have ev:AS.ev ⟨ox s.t ax,s.o,s.y⟩ (.tmp 26)=ax:=by rw [ox];exact rj (by simp;omega)
  simp only [bS,List.map_cons,List.map_nil,ev];exact bj.one hcl rfl
 ·have c1:(AV.v v1).cells? = some [.v v1]:=by simp only [AV.cells?,h1,if_true]
  have c3:(AV.v v3).cells? = some [.v v3]:=by simp only [AV.cells?,h3,if_true]
  have c5:(AV.v (.bool em)).cells? = some [.v (.bool em)]:=rfl
  have tp:JG Tryz.prog 152=some ([(0,1),(1,1),(2,1)],[.v (.slice none 0 0), .v (.slice none 0 0), .v (.bool false)]):=by
   simp only [go_sem]
  simp [nH,tp,oK,c1,c3,c5,Al]
theorem CU {k:Nat} {y:Ex} {labs:List ByteArray} {n:Nat} {f:Nat->Nat->Bool} {tl:List (Option aa)} {r:AV} (hk:k<=2 * n+3) (hr: ∀m,r.wf m=true) :
  S6 k (some ⟨120,8,false,[lU 0 y labs.length n]⟩ :: some ⟨9,1,true,labs.map encS⟩ :: some ⟨54,1,true,aX 2 n n⟩ :: (aT n f n++tl)) r r (cu 0 y labs n f):=by
 refine ⟨⟨.inr ⟨rfl,hr _⟩,trivial⟩, ?_,by rw [bO];exact hk⟩
 have:=lz (n:=(cu 0 y labs n f).length) (a:=tl) (b:=[]) (l:=cu 0 y labs n f) (jd (by rw [bO];omega)) (by cases tl<;>exact trivial)
 rw [List.append_nil] at this;exact this
def Q7 (x:Ex):Prop:= ∀(y:Ex) (labs:List ByteArray) (n:Nat) (f:Nat->Nat->Bool),n<=1000->labs.length+(aB x).length<=n ->
 c7 Tryz.prog 102 [.ptr 0 0 8 0 0, .agg (aN x)] (cu 0 y labs n f) (.agg [.aC 1 (cM n (j0 x labs.length)) n, .aC 1 (cM n (ei x labs.length)) n, .v (.bool (aG x))]) (cu 0 y (labs++aB x) n (fun p q=>f p q||jZ x labs.length p q))
theorem N9 (s:ByteArray) (h1:ay (.mk 1 s [])=true) (hz: ∀z,z∈ah (.mk 1 s [])->z.kids.length<=1000000∧z.label.size<=1000000000000000):Q7 (.mk 1 s []):=by
 intro y labs n f hn hb;have E:=pY (.mk 1 s []) (by simp [ah,bE]) hz;rw [dk,h1,Bool.true_and] at E;simp only [aD,Ex.kind,Ex.label,Ex.kids,List.map_nil,List.length_nil] at E ⊢;refine gF Tryz.func102 Tryz.ntmps102 Tryz.results102 ?_;simp only [cu,bN,lU,Nat.zero_add];obtain ⟨I,hI⟩: ∃I,I=aT n f n:=⟨_,rfl⟩
 have hIl:I.length=2 * n:=by rw [hI,ag]
 rw [<-hI];generalize 2 * n=z at hIl;have g1:=fun tl j=>Kx hIl tl j;have g0:=fun tl=>rV hIl tl;have s1:=fun tl j x=>Ky hIl tl j x;have s0:=fun tl x=>rW hIl tl x
 repeat ((fail_if_success (with_reducible refine bF (i:=2) ?_));first|(with_reducible first|refine aA.up ?_|refine fun (K:AK) hK=> ?_|refine wK ?_|refine wF ?_|refine ae (by decide) ?_|refine ai (by decide) ?_|(refine hK _ ?_;clear hK K))|simp only [go_sem,hIl,g0,g1,s0,s1,UC]|with_reducible refine wA ?_|clear hK K)
 refine C0 (n:=n) (em:=aG (.mk 1 s [])) (ax:= .agg [.v (.int .i64 1), .v (.string s), .aC 3 [] 0]) hn rfl (by decide+kernel) (by kernel_rfl) (by decide+kernel) (by simp) rfl ?_ E ?_
 ·(revert K;exact Hz hIl g0 g1 s1)
 ·(revert K;refine Hu hIl g0 g1 s1 ?_;intro K hK K hK)
  repeat ((fail_if_success (with_reducible refine bF (i:=4) ?_));first|(with_reducible first|refine aA.up ?_|refine fun (K:AK) hK=> ?_|refine wK ?_|refine wF ?_|refine ae (by decide) ?_|refine ai (by decide) ?_|(refine hK _ ?_;clear hK K))|simp only [go_sem,hIl,g0,g1,s0,s1,UC]|with_reducible refine wA ?_|clear hK K)
  refine b8 [8,11] [] (by decide+kernel) (by kernel_rfl) ?_
  repeat (first|(with_reducible first|refine aA.up ?_|refine fun (K:AK) hK=> ?_|refine wK ?_|refine wF ?_|refine ae (by decide) ?_|refine ai (by decide) ?_|(refine hK _ ?_;clear hK K))|simp only [go_sem,hIl,g0,g1,s0,s1,UC]|with_reducible refine wA ?_|clear hK K)
  repeat ((fail_if_success (with_reducible refine bF (i:=5) ?_));first|(with_reducible first|refine aA.up ?_|refine fun (K:AK) hK=> ?_|refine wK ?_|refine wF ?_|refine ae (by decide) ?_|refine ai (by decide) ?_|(refine hK _ ?_;clear hK K))|simp only [go_sem,hIl,g0,g1,s0,s1,UC]|with_reducible refine wA ?_|clear hK K)
  have hlt:labs.length<n:=by simp [aB] at hb;omega
  have eN:IntKind.i64.wrap (((labs.length+1:Nat):Int) - 1)=(labs.length:Int):=by rw [cF (by omega) (by omega)];omega
  have eR:=cR (g:=fun _=>false) hlt;have eS:=py (N:=n) (j:=labs.length) (g:=fun _=>false) (v:=true);refine wE ?_
  repeat (first|(with_reducible first|refine aA.up ?_|refine fun (K:AK) hK=> ?_|refine wK ?_|refine wF ?_|refine ae (by decide) ?_|refine ai (by decide) ?_|(refine hK _ ?_;clear hK K))|simp only [go_sem,hIl,g0,g1,s0,s1,UC,eN,eR,eS]|with_reducible refine wA ?_|clear hK K)
  repeat ((fail_if_success (with_reducible refine bF (i:=6) ?_));first|(with_reducible first|refine aA.up ?_|refine fun (K:AK) hK=> ?_|refine wK ?_|refine wF ?_|refine ae (by decide) ?_|refine ai (by decide) ?_|(refine hK _ ?_;clear hK K))|simp only [go_sem,hIl,g0,g1,s0,s1,UC,eN,eR,eS]|with_reducible refine wA ?_|clear hK K)
  refine wE ?_
  repeat ((fail_if_success (with_reducible refine bF (i:=7) ?_));first|(with_reducible first|refine aA.up ?_|refine fun (K:AK) hK=> ?_|refine wK ?_|refine wF ?_|refine ae (by decide) ?_|refine ai (by decide) ?_|(refine hK _ ?_;clear hK K))|simp only [go_sem,hIl,g0,g1,s0,s1,UC,eN,eR,eS]|with_reducible refine wA ?_|clear hK K)
  refine bc (dz (k:=z+2+1+1+1+2) (i:=0) (j:=0) (id:=z+2+1+1+1) (len:=n) (ob:=⟨152,3,false,[[.vec (z+2+1+1+1) n, .vec (z+2+1+1+1+1) n, .v (.bool (aG (.mk 1 s [])))]]⟩) (row:=[.vec (z+2+1+1+1) n, .vec (z+2+1+1+1+1) n, .v (.bool (aG (.mk 1 s [])))]) (ob2:=⟨4,1,true,cM n (fun q=>if q=labs.length then true else false)⟩)
   (by omega) (by simp only [VY,g1];rfl) (show 0<3 by decide) rfl rfl (by simp only [VY,g1];rfl) rfl (iZ _ _)) (by kernel_rfl) ?_
  simp only [List.set_cons_succ,s1,List.set_cons_zero]
  refine bc (dz (k:=z+2+1+1+1+2) (i:=0) (j:=1) (id:=z+2+1+1+1+1) (len:=n) (ob:=⟨152,3,false,[[.aC 1 (cM n (fun q=>if q=labs.length then true else false)) n, .vec (z+2+1+1+1+1) n, .v (.bool (aG (.mk 1 s [])))]]⟩) (row:=[.aC 1 (cM n (fun q=>if q=labs.length then true else false)) n, .vec (z+2+1+1+1+1) n, .v (.bool (aG (.mk 1 s [])))]) (ob2:=⟨4,1,true,cM n (fun q=>if q=labs.length then true else false)⟩)
   (by omega) (by simp only [VY,g1];rfl) (show 0<3 by decide) rfl rfl (by simp only [VY,g1];rfl) rfl (iZ _ _)) (by kernel_rfl) ?_
  simp only [List.set_cons_succ,s1,List.set_cons_zero]
  (revert K;revert K;refine Hv hIl g0 g1 s1 ?_)
  have eF:j0 (.mk 1 s []) labs.length=fun q=>if q=labs.length then true else false:=by
   funext q
   rw [Bool.eq_iff_iff,ij];simp [jX]
  have eL:ei (.mk 1 s []) labs.length=fun q=>if q=labs.length then true else false:=by
   funext q
   rw [Bool.eq_iff_iff,im];simp [jg]
  have eO:aT n (fun p q=>f p q||jZ (.mk 1 s []) labs.length p q) n=I:=by
   rw [hI];refine e8 fun p q _ _=> ?_
   have:jZ (.mk 1 s []) labs.length p q=false:=by rw [<-Bool.not_eq_true,ku];simp [iL]
   rw [this,Bool.or_false]
  have e1':(labs++[s]).map encS=labs.map encS++[[.v (.string s)]]:=by simp [encS]
  have e2:aB (.mk 1 s [])=[s]:=by simp [aB]
  have e3:labs.length+[s].length=(labs++[s]).length:=by simp
  have e4:labs.length+1=(labs++[s]).length:=by simp
  rw [eF,eL,eO,e2,e3,e4, <- e1',hI];exact CU (by rw [<-ag n f n, <- hI,hIl];omega) (fun m=>by simp only [AV.wf,aV,aS,Bool.and_self])
end
noncomputable def kr (f:Nat->Nat->Bool) (b:Nat) (l:List Ex) (i p q:Nat):Bool:=f p q||(List.range i).any (fun j=>jZ (kX l j) (oD b l j) p q)
theorem KZ (f:Nat->Nat->Bool) (b:Nat) (l:List Ex):kr f b l 0=f:=by funext p q;simp [kr]
theorem Bt (f:Nat->Nat->Bool) (b:Nat) (l:List Ex) (i:Nat):(fun p q=>kr f b l i p q||jZ (kX l i) (oD b l i) p q)=kr f b l (i+1):=by
 funext p q
 rw [kr,kr,List.range_succ,List.any_append];simp [Xq]
def oF (labs:List ByteArray) (l:List Ex) (i:Nat):List ByteArray:=labs++aJ (l.take i)
theorem MP (labs:List ByteArray) (l:List Ex):oF labs l 0=labs:=by simp [oF,aJ]
theorem Lm (labs:List ByteArray) (l:List Ex) (i:Nat):(oF labs l i).length=oD labs.length l i:=by rw [oF,UC,oD]
theorem sZ {labs:List ByteArray} {l:List Ex} {i:Nat} (h:i<l.length):oF labs l i++aB l[i]=oF labs l (i+1):=by
 rw [oF,oF,List.take_succ_eq_append_getElem h,gJ,List.append_assoc];simp [aJ]
theorem Iq {labs:List ByteArray} {l:List Ex} {i n:Nat} (h:i<l.length) (hn:labs.length+(aJ l).length<=n):(oF labs l i).length+(aB l[i]).length<=n:=by
 have e:(aJ l).length=(aJ (l.take (i+1))).length+(aJ (l.drop (i+1))).length:=by rw [<-UC, <- gJ,List.take_append_drop]
 have e2:(oF labs l i).length+(aB l[i]).length=(oF labs l (i+1)).length:=by rw [<-UC,sZ h]
 rw [e2,oF,UC];omega
noncomputable def E7 (n b:Nat) (l:List Ex) (j:Nat):List AV:=[.aC 1 (cM n (j0 (kX l j) (oD b l j))) n, .aC 1 (cM n (ei (kX l j) (oD b l j))) n, .v (.bool (aG (kX l j)))]
noncomputable def lF (n b:Nat) (l:List Ex) (i:Nat):List (List AV):=(List.range i).map (E7 n b l)
theorem vw (n b:Nat) (l:List Ex) (i:Nat):(lF n b l i).length=i:=by simp [lF]
theorem BL (n b:Nat) (l:List Ex) (i:Nat):lF n b l (i+1)=lF n b l i++[E7 n b l i]:=by rw [lF,List.range_succ,List.map_append];rfl
theorem Ic {n b:Nat} {l:List Ex} {i j:Nat} (h:j<i):(lF n b l i).getD j []=E7 n b l j:=by
 rw [List.getD_eq_getElem?_getD,lF,List.getElem?_map,List.getElem?_range h];rfl
theorem Mp (m n b:Nat) (l:List Ex) (j:Nat):aV m (E7 n b l j)=true:=by simp only [E7,aV,AV.wf,aS,WA]
theorem Az (m n b:Nat) (l:List Ex) (i:Nat):bw m (lF n b l i)=true:=bB _ (Mp m n b l) _
theorem fx {m:Nat} {y:Ex} {labs:List ByteArray} {n:Nat} {f:Nat->Nat->Bool} {tl tl':List (Option aa)} (h:2 * n+3<=m) (ht:j7 m tl tl') :
  j7 m (some ⟨120,8,false,[lU 0 y labs.length n]⟩ :: some ⟨9,1,true,labs.map encS⟩ :: some ⟨54,1,true,aX 2 n n⟩ :: (aT n f n++tl))
   (some ⟨120,8,false,[lU 0 y labs.length n]⟩ :: some ⟨9,1,true,labs.map encS⟩ :: some ⟨54,1,true,aX 2 n n⟩ :: (aT n f n++tl')):=
 lz (n:=m) (a:=tl) (b:=tl') (l:=cu 0 y labs n f) (jd h) ht
theorem fy {m:Nat} {a b c d:aa} {ex:List (Option aa)} (ha:bw m a.rows=true) (hb:bw m b.rows=true) (hc:bw m c.rows=true) (hd:bw m d.rows=true) :
  j7 m (some a :: some b :: none :: none :: some c :: some d :: ex) [some a,some b,none,none,some c,some d]:=
 ⟨.inr ⟨rfl,fun ob e=>by cases e;exact ha⟩, .inr ⟨rfl,fun ob e=>by cases e;exact hb⟩, .inl rfl, .inl rfl, .inr ⟨rfl,fun ob e=>by cases e;exact hc⟩, .inr ⟨rfl,fun ob e=>by cases e;exact hd⟩,by cases ex<;>exact trivial⟩
theorem nG (n:Nat) (f:Nat->Nat->Bool) (tl:List (Option aa)) (j:Nat):(aT n f n++tl)[2 * n+j]? = tl[j]? :=Kx (ag _ _ _) tl j
theorem yg (n:Nat) (f:Nat->Nat->Bool) (tl:List (Option aa)):(aT n f n++tl)[2 * n]? = tl[0]? :=rV (ag _ _ _) tl
theorem nS (n:Nat) (f:Nat->Nat->Bool) (tl:List (Option aa)) (j:Nat) (x:Option aa):(aT n f n++tl).set (2 * n+j) x=aT n f n++tl.set j x:=Ky (ag _ _ _) tl j x
theorem yh (n:Nat) (f:Nat->Nat->Bool) (tl:List (Option aa)) (x:Option aa):(aT n f n++tl).set (2 * n) x=aT n f n++tl.set 0 x:=rW (ag _ _ _) tl x
theorem ab.Ql {F:FuncId} {args:List AV} {r0:AV} {K:AV->List (Option aa)->Prop} {y:Ex} {labs labs':List ByteArray} {n:Nat} {f f':Nat->Nat->Bool} {tl:List (Option aa)}
  (h:c7 Tryz.prog F (.ptr 0 0 8 0 0 :: args) (cu 0 y labs n f) r0 (cu 0 y labs' n f')) (hwa: ∀m,aV m args=true) (hr: ∀m,r0.wf m=true)
  (k:K r0 (some ⟨120,8,false,[lU 0 y labs'.length n]⟩ :: some ⟨9,1,true,labs'.map encS⟩ :: some ⟨54,1,true,aX 2 n n⟩ :: (aT n f' n++tl))) :
  ab Tryz.prog F (.ptr 0 0 8 0 0 :: args) (some ⟨120,8,false,[lU 0 y labs.length n]⟩ :: some ⟨9,1,true,labs.map encS⟩ :: some ⟨54,1,true,aX 2 n n⟩ :: (aT n f n++tl)) K:=by
 have e:(cu 0 y labs n f).length=2 * n+3:=bO _ _ _ _ _;refine ab.sub (o0:=cu 0 y labs n f) (post:=tl) h (by rw [bO,bO]) ?_ (jd (by omega)) (fun ob hb=>jd (by omega) ob hb) (hr _) k;rw [aV,hwa,Bool.and_true,AV.wf,e];exact decide_eq_true (by omega)
theorem dL.Ql {F:FuncId} {args:List AV} {r0:AV} {K:AV->List (Option aa)->Prop} {y:Ex} {labs labs':List ByteArray} {n:Nat} {f f':Nat->Nat->Bool} {tl:List (Option aa)}
  (h:c7 Tryz.prog F (.ptr 0 0 8 0 0 :: args) (cu 0 y labs n f) r0 (cu 0 y labs' n f')) (hwa: ∀m,aV m args=true) (hr: ∀m,r0.wf m=true)
  (k:K r0 (some ⟨120,8,false,[lU 0 y labs'.length n]⟩ :: some ⟨9,1,true,labs'.map encS⟩ :: some ⟨54,1,true,aX 2 n n⟩ :: (aT n f' n++tl))) :
  dL Tryz.prog F (.ptr 0 0 8 0 0 :: args) (some ⟨120,8,false,[lU 0 y labs.length n]⟩ :: some ⟨9,1,true,labs.map encS⟩ :: some ⟨54,1,true,aX 2 n n⟩ :: (aT n f n++tl)) K:=by
 have e:(cu 0 y labs n f).length=2 * n+3:=bO _ _ _ _ _;refine dL.sub (o0:=cu 0 y labs n f) (post:=tl) h (by rw [bO,bO]) ?_ (jd (by omega)) (fun ob hb=>jd (by omega) ob hb) (hr _) k;rw [aV,hwa,Bool.and_true,AV.wf,e];exact decide_eq_true (by omega)
theorem K5 {k:Int} {s:ByteArray} {l:List Ex} {b:Nat} (h1:k≠1):nU (k==2) (fun j=>aG (kX l j)) (fun j=>j0 (kX l j) (oD b l j)) l.length=j0 (.mk k s l) b:=by
 funext q
 rw [WL,Hi,ij,jX,if_neg h1]
 by_cases h2:k=2
 ·rw [if_pos h2,wo];simp only [h2,beq_self_eq_true,forall_const,ij]
 ·rw [if_neg h2,Cu];simp only [beq_false_of_ne h2,VS,false_implies,true_and,ij]
theorem Lq {k:Int} {s:ByteArray} {l:List Ex} {b:Nat} (h1:k≠1):nZ (k==2) l.length (fun j=>aG (kX l j)) (fun j=>ei (kX l j) (oD b l j)) l.length=ei (.mk k s l) b:=by
 funext q
 rw [WL,Ik,im,jg,if_neg h1]
 by_cases h2:k=2
 ·rw [if_pos h2,Cx];simp only [h2,beq_self_eq_true,forall_const,im]
 ·rw [if_neg h2,Cw];simp only [beq_false_of_ne h2,VS,false_implies,true_and,im]
theorem Dg {l:List Ex} {b p q:Nat}:(List.range l.length).any (fun j=>jZ (kX l j) (oD b l j) p q)=true↔gW l b (p+1) (q+1):=by
 rw [wm];simp only [List.any_eq_true,List.mem_range,ku]
theorem K2 {k:Int} {s:ByteArray} {l:List Ex} {b:Nat} {f:Nat->Nat->Bool} (h1:k≠1) (h4:k≠4) (h5:k≠5) :
  (fun p q=>kr f b l l.length p q||jG (k==2) l.length (fun j=>aG (kX l j)) (fun j=>j0 (kX l j) (oD b l j)) (fun j=>ei (kX l j) (oD b l j)) l.length p q)=fun p q=>f p q||jZ (.mk k s l) b p q:=by
 funext p q
 rw [kr,Xq]
 congr 1
 rw [WL,VJ,Dg,y8,ku,iL,if_neg h1]
 by_cases h2:k=2
 ·rw [if_pos h2,Ct,wm];simp only [h2,beq_self_eq_true,true_and,ij,im]
 ·rw [if_neg h2];simp only [beq_false_of_ne h2,VS,false_and,or_false,h4,h5,or_self]
theorem Hk {k:Int} {s:ByteArray} {l:List Ex} {b:Nat} {f:Nat->Nat->Bool} (h45:k=4∨k=5) :
  (fun p q=>(kr f b l l.length p q||jG (k==2) l.length (fun j=>aG (kX l j)) (fun j=>j0 (kX l j) (oD b l j)) (fun j=>ei (kX l j) (oD b l j)) l.length p q)||(ei (.mk k s l) b p&&j0 (.mk k s l) b q))=fun p q=>f p q||jZ (.mk k s l) b p q:=by
 have h1:k≠1:=by omega
 have h2:k≠2:=by omega
 funext p q
 rw [kr,Xq,Xq]
 congr 1
 rw [WL,VJ,VJ,Vj,Dg,y8,ku,iL,if_neg h1,if_neg h2,im,ij,jg,if_neg h1,if_neg h2,jX,if_neg h1,if_neg h2];simp only [beq_false_of_ne h2,VS,false_and,false_or,h45,true_and]
theorem Ll {k:Int} {s:ByteArray} {labs:List ByteArray} {l:List Ex} (h1:k≠1):oF labs l l.length=labs++aB (.mk k s l):=by rw [oF,List.take_length,cO h1]
theorem LH (k:Int) (h1:k≠1) (s:ByteArray) (l:List Ex) (hr:ay (.mk k s l)=true) (hp:(ah (.mk k s l)).length<=1000000) (hz: ∀z,z∈ah (.mk k s l)->z.kids.length<=1000000∧z.label.size<=1000000000000000) (H: ∀x,x∈l->Q7 x):Q7 (.mk k s l):=by
 intro y labs n f hn hb;have f1:(k==1)=false:=beq_false_of_ne h1;have E:=pY (.mk k s l) hp hz;rw [dk,hr,VO] at E;simp only [aD,Ex.kind,Ex.label,Ex.kids] at E ⊢;have hIl:(aT n f n).length=2 * n:=ag _ _ _;have g1:=fun tl j=>Kx hIl tl j;have g0:=fun tl=>rV hIl tl;have s1:=fun tl j x=>Ky hIl tl j x;have s0:=fun tl x=>rW hIl tl x;refine gF Tryz.func102 Tryz.ntmps102 Tryz.results102 ?_;simp only [cu,bN,lU,Nat.zero_add]
 repeat ((fail_if_success (with_reducible refine bF (i:=2) ?_));first|(with_reducible first|refine aA.up ?_|refine fun (K:AK) hK=> ?_|refine wK ?_|refine wF ?_|refine ae (by decide) ?_|refine ai (by decide) ?_|(refine hK _ ?_;clear hK K))|simp only [go_sem,hIl,g0,g1,s0,s1,UC]|with_reducible refine wA ?_|clear hK K)
 refine C0 (n:=n) (em:=aG (.mk k s l)) (ax:= .agg [.v (.int .i64 k), .v (.string s), .aC 3 (l.map aN) l.length]) hn rfl (by decide+kernel) (by kernel_rfl) (by decide+kernel) (by simp) rfl ?_ E ?_
 ·(revert K;exact Hz hIl g0 g1 s1)
 ·(revert K;refine Hu hIl g0 g1 s1 ?_;intro K hK)
  repeat ((fail_if_success (with_reducible refine bF (i:=8) ?_));first|(with_reducible first|refine aA.up ?_|refine fun (K:AK) hK=> ?_|refine wK ?_|refine wF ?_|refine ae (by decide) ?_|refine ai (by decide) ?_|(refine hK _ ?_;clear hK K))|simp only [go_sem,f1,hIl,g0,g1,s0,s1,UC]|with_reducible refine wA ?_|clear hK K)
  refine bc (dz (k:=2 * n+2+1+1+1+2) (i:=0) (j:=0) (id:=2 * n+2+1+1+1) (len:=n) (ob:=⟨152,3,false,[[.vec (2 * n+2+1+1+1) n, .vec (2 * n+2+1+1+1+1) n, .v (.bool (aG (.mk k s l)))]]⟩) (row:=[.vec (2 * n+2+1+1+1) n, .vec (2 * n+2+1+1+1+1) n, .v (.bool (aG (.mk k s l)))]) (ob2:=⟨4,1,true,cM n (fun _=>false)⟩)
   (by omega) (by simp only [VY,g1];rfl) (show 0<3 by decide) rfl rfl (by simp only [VY,g1];rfl) rfl (iZ _ _)) (by kernel_rfl) ?_
  simp only [List.set_cons_succ,s1,List.set_cons_zero]
  refine bc (dz (k:=2 * n+2+1+1+1+2) (i:=0) (j:=1) (id:=2 * n+2+1+1+1+1) (len:=n) (ob:=⟨152,3,false,[[.aC 1 (cM n (fun _=>false)) n, .vec (2 * n+2+1+1+1+1) n, .v (.bool (aG (.mk k s l)))]]⟩) (row:=[.aC 1 (cM n (fun _=>false)) n, .vec (2 * n+2+1+1+1+1) n, .v (.bool (aG (.mk k s l)))]) (ob2:=⟨4,1,true,cM n (fun _=>false)⟩)
   (by omega) (by simp only [VY,g1];rfl) (show 0<3 by decide) rfl rfl (by simp only [VY,g1];rfl) rfl (iZ _ _)) (by kernel_rfl) ?_
  simp only [List.set_cons_succ,s1,List.set_cons_zero]
  (revert K;refine Hv hIl g0 g1 s1 ?_;intro K hK)
  clear g1 g0 s1 s0 hIl
  have hl24:l.length<=24:=by
   simp only [ay,Vj,decide_eq_true_eq] at hr
   have:=jP (.mk k s l);simp only [Ex.kids] at this;omega
  have hlab:labs.length+(aJ l).length<=n:=by rw [cO h1] at hb;exact hb
  refine mL (ι:=Nat) 7 152 3 rfl (by decide) 62 (fun i=>[(7, .vec (2 * n+5+1+1+1) i),(8, .v (.int .i64 i)),(9, .undef)]) (fun i=>some ⟨120,8,false,[lU 0 y (oF labs l i).length n]⟩ :: some ⟨9,1,true,(oF labs l i).map encS⟩ :: some ⟨54,1,true,aX 2 n n⟩ :: (aT n (kr f labs.length l i) n++[some ⟨25,3,false,[[.v (.int .i64 k), .v (.string s), .aC 3 (l.map aN) l.length]]⟩,some ⟨152,3,false,[[.v (.slice none 0 0), .v (.slice none 0 0), .v (.bool false)]]⟩,none,none,some ⟨152,3,false,[[.aC 1 (cM n (fun _=>false)) n, .aC 1 (cM n (fun _=>false)) n, .v (.bool (aG (.mk k s l)))]]⟩,some ⟨152,3,true,lF n labs.length l i⟩])) (fun i=>l.length - i) (fun i=>i<=l.length) 0 (by omega) ?_ ?_
  ·refine aj ?_ ?_ ?_
   ·simp only [UD,UC,ag,Ux];simp only [go_sem,di,true_or,or_true,true_and,and_true,false_or,Vj,decide_eq_true_eq,AV.v.injEq,Value.int.injEq];omega
   ·simp only [MP,KZ,List.cons_append,List.append_assoc];exact fx (by simp only [UD,UC,ag,Ux];omega) (fy (by simp only [bw,aV,AV.wf,bl,WA]) rfl (by simp only [bw,aV,AV.wf,aS,WA]) rfl)
   ·simp only [UD,UC,ag,Ux];omega
  ·intro i hi K hK
   (revert K;revert K;refine Hx ?_;intro K hK K hK K hK)
   refine bH.part (fun h=> ?_) (fun h=> ?_)
   ·have hlt:i<l.length:=by replace h:=bI h;omega
    have eW:=ak (k:=i) (by omega);have eG:=getD_map aN l i [] hlt;have HX:=H l[i] (List.getElem_mem hlt) y (oF labs l i) n (kr f labs.length l i) hn (Iq hlt hlab);rw [Lm,sZ hlt, <- Ih hlt,Bt] at HX;have hkr:=BL n labs.length l i;simp only [E7] at hkr;rw [Ih hlt] at HX hkr;simp only [aD] at HX eG
    repeat (first|(with_reducible first|refine aA.up ?_|refine fun (K:AK) hK=> ?_|refine wE ?_|refine wK ?_|refine wF ?_|refine ae (by decide) ?_|refine ai (by decide) ?_|(refine hK _ ?_;clear hK K))|simp only [go_sem,eG,nG,yg,nS,yh,ag,UC]|with_reducible refine wA ?_|clear hK K)
    refine ab.Ql HX (fun m=>by simp only [aV,AV.wf,bl,WA]) (fun m=>by simp only [AV.wf,aV,aS,WA]) ?_
    repeat (first|(with_reducible first|refine aA.up ?_|refine fun (K:AK) hK=> ?_|refine wE ?_|refine wK ?_|refine wF ?_|refine ae (by decide) ?_|refine ai (by decide) ?_|(refine hK _ ?_;clear hK K))|simp only [go_sem,eW,nG,yg,nS,yh,ag,UC,vw]|with_reducible refine wA ?_|clear hK K)
    rw [<-hkr]
    refine az.mk (i+1) (by omega) (by omega) (aj ?_ ?_ ?_)
    ·simp only [UD,UC,ag,Ux];simp only [go_sem,di,true_or,or_true,true_and,and_true,false_or,Vj,decide_eq_true_eq,AV.v.injEq,Value.int.injEq];omega
    ·exact fx (by simp only [UD,UC,ag,Ux];omega) (fy (by simp only [bw,aV,AV.wf,bl,WA]) rfl (by simp only [bw,aV,AV.wf,aS,WA]) (Az _ _ _ _ _))
    ·simp only [UD,UC,ag,Ux];omega
   ·have hie:i=l.length:=by replace h:=bI h;omega
    simp only [hie];have hKR: ∀j,j<l.length->(lF n labs.length l l.length).getD j []=[.aC 1 (cM n ((fun j=>j0 (kX l j) (oD labs.length l j)) j)) n, .aC 1 (cM n ((fun j=>ei (kX l j) (oD labs.length l j)) j)) n, .v (.bool ((fun j=>aG (kX l j)) j))]:=fun j hj=>Ic hj;obtain ⟨F,hF⟩: ∃F:Nat->Nat->Bool,F=fun j=>j0 (kX l j) (oD labs.length l j):=⟨_,rfl⟩;obtain ⟨L,hL⟩: ∃L:Nat->Nat->Bool,L=fun j=>ei (kX l j) (oD labs.length l j):=⟨_,rfl⟩;obtain ⟨Em,hEm⟩: ∃Em:Nat->Bool,Em=fun j=>aG (kX l j):=⟨_,rfl⟩;rw [<-hF, <- hL, <- hEm] at hKR;have hKl:=vw n labs.length l l.length;have hwK: ∀m,bw m (lF n labs.length l l.length)=true:=fun m=>Az m _ _ _ _;obtain ⟨KR,hKe⟩: ∃KR,KR=lF n labs.length l l.length:=⟨_,rfl⟩;rw [<-hKe] at hKR hKl hwK ⊢;obtain ⟨fa,hfa⟩: ∃fa,fa=kr f labs.length l l.length:=⟨_,rfl⟩;rw [<-hfa];obtain ⟨sq,hsq⟩: ∃sq,sq=(k==2):=⟨_,rfl⟩
    have hsn:(k !=2) = !sq:=by rw [hsq];rfl
    have e0:(fun _=>false)=nU sq Em F 0:=by funext q;simp [nU]
    have e0':(fun _=>false)=nZ sq l.length Em L 0:=by funext q;simp [nZ]
    have ef0:fa=fun p q=>fa p q||jG sq l.length Em F L 0 p q:=by funext p q;simp [jG]
    ((iterate 3 revert K);refine vi hKl ?_;intro K hK)
    refine aQ (ι:=Nat) 80 (fun i=>[(10, .v (.int .i64 i)),(11, .undef),(12, .undef),(13, .undef),(14, .undef),(15, .undef),(16, .undef)]) (fun i=>some ⟨120,8,false,[lU 0 y (oF labs l l.length).length n]⟩ :: some ⟨9,1,true,(oF labs l l.length).map encS⟩ :: some ⟨54,1,true,aX 2 n n⟩ :: (aT n (fun p q=>fa p q||jG sq l.length Em F L i p q) n++[some ⟨25,3,false,[[.v (.int .i64 k), .v (.string s), .aC 3 (l.map aN) l.length]]⟩,some ⟨152,3,false,[[.v (.slice none 0 0), .v (.slice none 0 0), .v (.bool false)]]⟩,none,none,some ⟨152,3,false,[[.aC 1 (cM n (nU sq Em F i)) n, .aC 1 (cM n (nZ sq l.length Em L i)) n, .v (.bool (aG (.mk k s l)))]]⟩,some ⟨152,3,true,KR⟩])) (fun i=>l.length - i) (fun i=>i<=l.length) 0 (by omega) ?_ ?_
    ·simp only [<-e0, <- e0', <- ef0]
     refine aj ?_ ?_ ?_
     ·simp only [UD,UC,ag,Ux];simp only [go_sem,di,true_or,or_true,true_and,and_true,false_or,Vj,decide_eq_true_eq,AV.v.injEq,Value.int.injEq,Value.bool.injEq];omega
     ·exact fx (by simp only [UD,UC,ag,Ux];omega) (fy (by simp only [bw,aV,AV.wf,bl,WA]) rfl (by simp only [bw,aV,AV.wf,aS,WA]) (hwK _))
     ·simp only [UD,UC,ag,Ux];omega
    ·intro i hi K hK
     (revert K;revert K;refine vi hKl ?_;intro K hK K hK K hK)
     refine bH.part (fun h=> ?_) (fun h=> ?_)
     ·have hlt:i<l.length:=by replace h:=bI h;omega
      have eW:=ak (k:=i) (by omega);have eKi:=hKR i hlt
      ((iterate 3 revert K);refine vi hKl ?_;iterate 4 intro K hK)
      refine bz (ι:=Nat) 86 (fun j=>[(11, .v (.bool (pU sq Em i j))),(13, .v (.int .i64 j))]) (fun j=>i - j) (fun j=>j<=i) 0 (by omega) ?_ ?_
      ·have e3:pU sq Em i 0=true:=by simp [pU]
       rw [e3]
       refine aj ?_ ?_ ?_
       ·simp only [UD,UC,ag,Ux];simp only [go_sem,di,true_or,or_true,true_and,and_true,false_or,Vj,decide_eq_true_eq,AV.v.injEq,Value.int.injEq,Value.bool.injEq];omega
       ·exact fx (by simp only [UD,UC,ag,Ux];omega) (fy (by simp only [bw,aV,AV.wf,bl,WA]) rfl (by simp only [bw,aV,AV.wf,aS,WA]) (hwK _))
       ·simp only [UD,UC,ag,Ux];omega
      ·intro j hj K hK
       ((iterate 5 revert K);refine vi hKl ?_;iterate 6 intro K hK)
       refine bH.part (fun hc=> ?_) (fun hc=> ?_)
       ·have hji:j<i:=by replace hc:=bI hc;omega
        have eV:=ak (k:=j) (by omega);have eKj:=hKR j (by omega);have eA:=Ee sq Em i j
        rcases Wg (pU sq Em i j) with ha|ha
        rotate_left 1
        ·rw [ha,V4] at eA
         ((iterate 6 revert K);refine Dk ha eV ?_)
         refine az.mk (j+1) (by omega) (by omega) ?_;rw [eA]
         refine aj ?_ ?_ ?_
         ·simp only [UD,UC,ag,Ux];simp only [go_sem,di,true_or,or_true,true_and,and_true,false_or,Vj,decide_eq_true_eq,AV.v.injEq,Value.int.injEq,Value.bool.injEq];omega
         ·exact fx (by simp only [UD,UC,ag,Ux];omega) (fy (by simp only [bw,aV,AV.wf,bl,WA]) rfl (by simp only [bw,aV,AV.wf,aS,WA]) (hwK _))
         ·simp only [UD,UC,ag,Ux];omega
        ·rw [ha,VO] at eA
         rcases Wg sq with hs|hs
         ·rw [hs] at hsn;rw [show (!sq||Em j)=Em j by rw [hs];rfl] at eA;simp only [Bool.not_true] at hsn
          repeat (first|(with_reducible first|refine aA.up ?_|refine fun (K:AK) hK=> ?_|refine wE ?_|refine wK ?_|refine wF ?_|refine ae (by decide) ?_|refine ai (by decide) ?_|(refine hK _ ?_;clear hK K))|simp only [go_sem,nG,yg,nS,yh,ag,UC,ha,hsn,hKl,eKj,eV,Go.undef]|with_reducible refine wA ?_|clear hK K)
          refine az.mk (j+1) (by omega) (by omega) ?_;rw [eA]
          refine aj ?_ ?_ ?_
          ·simp only [UD,UC,ag,Ux];simp only [go_sem,di,true_or,or_true,true_and,and_true,false_or,Vj,decide_eq_true_eq,AV.v.injEq,Value.int.injEq,Value.bool.injEq];omega
          ·exact fx (by simp only [UD,UC,ag,Ux];omega) (fy (by simp only [bw,aV,AV.wf,bl,WA]) rfl (by simp only [bw,aV,AV.wf,aS,WA]) (hwK _))
          ·simp only [UD,UC,ag,Ux];omega
         ·rw [hs] at hsn;rw [show (!sq||Em j)=true by rw [hs];rfl] at eA;simp only [Bool.not_false] at hsn
          ((iterate 6 revert K);refine MK ha hsn hKl eKj eV ?_)
          refine az.mk (j+1) (by omega) (by omega) ?_;rw [eA]
          refine aj ?_ ?_ ?_
          ·simp only [UD,UC,ag,Ux];simp only [go_sem,di,true_or,or_true,true_and,and_true,false_or,Vj,decide_eq_true_eq,AV.v.injEq,Value.int.injEq,Value.bool.injEq];omega
          ·exact fx (by simp only [UD,UC,ag,Ux];omega) (fy (by simp only [bw,aV,AV.wf,bl,WA]) rfl (by simp only [bw,aV,AV.wf,aS,WA]) (hwK _))
          ·simp only [UD,UC,ag,Ux];omega
       ·have hje:j=i:=by replace hc:=bI hc;omega
        simp only [hje]
        ((iterate 6 revert K);refine vi eW ?_;iterate 4 intro K hK)
        refine bz (ι:=Nat) 106 (fun j=>[(12, .v (.bool (pW sq Em i j))),(14, .v (.int .i64 j))]) (fun j=>l.length - j) (fun j=>i+1<=j∧j<=l.length) (i+1) ⟨by omega,by omega⟩ ?_ ?_
        ·rw [GW]
         refine aj ?_ ?_ ?_
         ·simp only [UD,UC,ag,Ux];simp only [go_sem,di,true_or,or_true,true_and,and_true,false_or,Vj,decide_eq_true_eq,AV.v.injEq,Value.int.injEq,Value.bool.injEq];omega
         ·exact fx (by simp only [UD,UC,ag,Ux];omega) (fy (by simp only [bw,aV,AV.wf,bl,WA]) rfl (by simp only [bw,aV,AV.wf,aS,WA]) (hwK _))
         ·simp only [UD,UC,ag,Ux];omega
        ·rintro j ⟨hj1,hj2⟩ K hK
         ((iterate 5 revert K);refine vi hKl ?_;iterate 6 intro K hK)
         refine bH.part (fun hc=> ?_) (fun hc=> ?_)
         ·have hji:j<l.length:=by replace hc:=bI hc;omega
          have eV:=ak (k:=j) (by omega);have eKj:=hKR j (by omega);have eA:=EA sq Em (i:=i) (k:=j) (by omega)
          rcases Wg (pW sq Em i j) with ha|ha
          rotate_left 1
          ·rw [ha,V4] at eA
           ((iterate 6 revert K);refine Dk ha eV ?_)
           refine az.mk (j+1) (by omega) (by omega) ?_;rw [eA]
           refine aj ?_ ?_ ?_
           ·simp only [UD,UC,ag,Ux];simp only [go_sem,di,true_or,or_true,true_and,and_true,false_or,Vj,decide_eq_true_eq,AV.v.injEq,Value.int.injEq,Value.bool.injEq];omega
           ·exact fx (by simp only [UD,UC,ag,Ux];omega) (fy (by simp only [bw,aV,AV.wf,bl,WA]) rfl (by simp only [bw,aV,AV.wf,aS,WA]) (hwK _))
           ·simp only [UD,UC,ag,Ux];omega
          ·rw [ha,VO] at eA
           rcases Wg sq with hs|hs
           ·rw [hs] at hsn;rw [show (!sq||Em j)=Em j by rw [hs];rfl] at eA;simp only [Bool.not_true] at hsn
            repeat (first|(with_reducible first|refine aA.up ?_|refine fun (K:AK) hK=> ?_|refine wE ?_|refine wK ?_|refine wF ?_|refine ae (by decide) ?_|refine ai (by decide) ?_|(refine hK _ ?_;clear hK K))|simp only [go_sem,nG,yg,nS,yh,ag,UC,ha,hsn,hKl,eKj,eV,Go.undef]|with_reducible refine wA ?_|clear hK K)
            refine az.mk (j+1) (by omega) (by omega) ?_;rw [eA]
            refine aj ?_ ?_ ?_
            ·simp only [UD,UC,ag,Ux];simp only [go_sem,di,true_or,or_true,true_and,and_true,false_or,Vj,decide_eq_true_eq,AV.v.injEq,Value.int.injEq,Value.bool.injEq];omega
            ·exact fx (by simp only [UD,UC,ag,Ux];omega) (fy (by simp only [bw,aV,AV.wf,bl,WA]) rfl (by simp only [bw,aV,AV.wf,aS,WA]) (hwK _))
            ·simp only [UD,UC,ag,Ux];omega
           ·rw [hs] at hsn;rw [show (!sq||Em j)=true by rw [hs];rfl] at eA;simp only [Bool.not_false] at hsn
            ((iterate 6 revert K);refine MK ha hsn hKl eKj eV ?_)
            refine az.mk (j+1) (by omega) (by omega) ?_;rw [eA]
            refine aj ?_ ?_ ?_
            ·simp only [UD,UC,ag,Ux];simp only [go_sem,di,true_or,or_true,true_and,and_true,false_or,Vj,decide_eq_true_eq,AV.v.injEq,Value.int.injEq,Value.bool.injEq];omega
            ·exact fx (by simp only [UD,UC,ag,Ux];omega) (fy (by simp only [bw,aV,AV.wf,bl,WA]) rfl (by simp only [bw,aV,AV.wf,aS,WA]) (hwK _))
            ·simp only [UD,UC,ag,Ux];omega
         ·have hje2:j=l.length:=by replace hc:=bI hc;omega
          simp only [hje2];have C1:=si n (nU sq Em F i) (F i) hn;have C2:=si n (nZ sq l.length Em L i) (L i) hn
          have eF1:nU sq Em F (i+1)=fun q=>nU sq Em F i q||(pU sq Em i i&&F i q):=by funext q;exact EN sq Em F i q
          have eL1:nZ sq l.length Em L (i+1)=fun q=>nZ sq l.length Em L i q||(pW sq Em i l.length&&L i q):=by funext q;exact Fc sq l.length Em L i q
          have eg0:(fun p q=>(fa p q||jG sq l.length Em F L i p q)||lM sq Em F L i (i+1) p q)=fun p q=>fa p q||jG sq l.length Em F L i p q:=by funext p q;rw [Iv,Bool.or_false]
          have eX: ∀j,i<j->j<=l.length->(j=l.length∨ni sq Em i j=false)->(fun p q=>(fa p q||jG sq l.length Em F L i p q)||lM sq Em F L i j p q)=fun p q=>fa p q||jG sq l.length Em F L (i+1) p q:=fun j h1 h2 h3=>by
           funext p q
           rw [ES, <- Xq]
           rcases h3 with e|e
           ·rw [e]
           ·rw [Lo sq Em F L h1 e h2]
          have hbs:(k==2)=ni sq Em i (i+1):=by rw [GZ];exact hsq.symm
          rcases Wg (pU sq Em i i) with hA|hA<;>rcases Wg (pW sq Em i l.length) with hB|hB
          all_goals
           simp only [hA,hB,VO,V4,Bool.or_false] at eF1 eL1
           repeat (first|(with_reducible first|refine aA.up ?_|refine fun (K:AK) hK=> ?_|refine wE ?_|refine wK ?_|refine wF ?_|refine ae (by decide) ?_|refine ai (by decide) ?_|(refine hK _ ?_;clear hK K))|simp only [go_sem,nG,yg,nS,yh,ag,UC,hA,hB,hKl,eKi]|with_reducible refine wA ?_|clear hK K)
           (try ((first|(refine bj.one C1 ?_)|(refine bj.one C2 ?_));repeat (first|(with_reducible first|refine aA.up ?_|refine fun (K:AK) hK=> ?_|refine wE ?_|refine wK ?_|refine wF ?_|refine ae (by decide) ?_|refine ai (by decide) ?_|(refine hK _ ?_;clear hK K))|simp only [go_sem,nG,yg,nS,yh,ag,UC,hA,hB,hKl,eKi,eW]|with_reducible refine wA ?_|clear hK K)))
           (try ((refine bj.one C2 ?_);((iterate 5 revert K);refine P2 hA hB hKl eKi eW ?_;intro K hK K hK K hK)))
           refine aQ (ι:=Nat) 150 (fun j=>[(15, .v (.bool (ni sq Em i j))),(16, .v (.int .i64 j))]) (fun j=>some ⟨120,8,false,[lU 0 y (oF labs l l.length).length n]⟩ :: some ⟨9,1,true,(oF labs l l.length).map encS⟩ :: some ⟨54,1,true,aX 2 n n⟩ :: (aT n (fun p q=>(fa p q||jG sq l.length Em F L i p q)||lM sq Em F L i j p q) n++[some ⟨25,3,false,[[.v (.int .i64 k), .v (.string s), .aC 3 (l.map aN) l.length]]⟩,some ⟨152,3,false,[[.v (.slice none 0 0), .v (.slice none 0 0), .v (.bool false)]]⟩,none,none,some ⟨152,3,false,[[.aC 1 (cM n (nU sq Em F (i+1))) n, .aC 1 (cM n (nZ sq l.length Em L (i+1))) n, .v (.bool (aG (.mk k s l)))]]⟩,some ⟨152,3,true,KR⟩])) (fun j=>l.length - j) (fun j=>i+1<=j∧j<=l.length) (i+1) ⟨by omega,by omega⟩ ?_ ?_
           ·rw [eg0,eF1,eL1, <- hbs]
            refine aj ?_ ?_ ?_
            ·simp only [UD,UC,ag,Ux];simp only [go_sem,di,true_or,or_true,true_and,and_true,false_or,Vj,decide_eq_true_eq,AV.v.injEq,Value.int.injEq,Value.bool.injEq];omega
            ·exact fx (by simp only [UD,UC,ag,Ux];omega) (fy (by simp only [bw,aV,AV.wf,bl,WA]) rfl (by simp only [bw,aV,AV.wf,aS,WA]) (hwK _))
            ·simp only [UD,UC,ag,Ux];omega
           ·rintro j ⟨hj1,hj2⟩ K hK
            rcases Wg (decide ((j:Int)<(l.length:Int))) with hc|hc
            ·have hji:j<l.length:=by replace hc:=bI hc;omega
             rcases Wg (ni sq Em i j) with hbt|hbt
             ·have eV:=ak (k:=j) (by omega);have eKj:=hKR j hji;have eBt:=u4 sq Em (i:=i) (k:=j) (by omega);rw [hbt,VO] at eBt
              have eg:(fun p q=>((fa p q||jG sq l.length Em F L i p q)||lM sq Em F L i j p q)||(L i p&&F j q))=fun p q=>(fa p q||jG sq l.length Em F L i p q)||lM sq Em F L i (j+1) p q:=by
               funext p q;rw [vE sq Em F L (by omega),hbt,VO,Xq _ (lM sq Em F L i j p q)]
              have LK:=zy y (oF labs l l.length) n hn (fun p q=>(fa p q||jG sq l.length Em F L i p q)||lM sq Em F L i j p q) (L i) (F j);rw [eg] at LK
              repeat ((fail_if_success (with_reducible refine bF (i:=34) ?_));first|(with_reducible first|refine aA.up ?_|refine fun (K:AK) hK=> ?_|refine wK ?_|refine wF ?_|refine ae (by decide) ?_|refine ai (by decide) ?_|(refine hK _ ?_;clear hK K))|simp only [go_sem,nG,yg,nS,yh,ag,UC,hc,hbt,hKl,Go.undef]|with_reducible refine wA ?_|clear hK K)
              refine b8 [11] [] (by decide+kernel) (by kernel_rfl) ?_
              repeat (first|(with_reducible first|refine aA.up ?_|refine fun (K:AK) hK=> ?_|refine wK ?_|refine wF ?_|refine ae (by decide) ?_|refine ai (by decide) ?_|(refine hK _ ?_;clear hK K))|simp only [go_sem,nG,yg,nS,yh,ag,UC,hc,hbt,hKl,eKi,eKj,Go.undef]|with_reducible refine wA ?_|clear hK K)
              refine dL.Ql LK (fun m=>by simp only [aV,AV.wf,aS,WA]) (fun m=>rfl) ?_
              repeat (first|(with_reducible first|refine aA.up ?_|refine fun (K:AK) hK=> ?_|refine wE ?_|refine wK ?_|refine wF ?_|refine ae (by decide) ?_|refine ai (by decide) ?_|(refine hK _ ?_;clear hK K))|simp only [go_sem,nG,yg,nS,yh,ag,UC,hKl,eKj,eV,Go.undef]|with_reducible refine wA ?_|clear hK K)
              rw [<-eBt];refine az.mk (j+1) ⟨by omega,by omega⟩ (by omega) ?_
              refine aj ?_ ?_ ?_
              ·simp only [UD,UC,ag,Ux];simp only [go_sem,di,true_or,or_true,true_and,and_true,false_or,Vj,decide_eq_true_eq,AV.v.injEq,Value.int.injEq,Value.bool.injEq];omega
              ·exact fx (by simp only [UD,UC,ag,Ux];omega) (fy (by simp only [bw,aV,AV.wf,bl,WA]) rfl (by simp only [bw,aV,AV.wf,aS,WA]) (hwK _))
              ·simp only [UD,UC,ag,Ux];omega
             ·repeat (first|(with_reducible first|refine aA.up ?_|refine fun (K:AK) hK=> ?_|refine wE ?_|refine wK ?_|refine wF ?_|refine ae (by decide) ?_|refine ai (by decide) ?_|(refine hK _ ?_;clear hK K))|simp only [go_sem,nG,yg,nS,yh,ag,UC,hc,hbt,hKl,Go.undef,eW]|with_reducible refine wA ?_|clear hK K)
              rw [eX j (by omega) hj2 (.inr hbt)];refine az.mk (i+1) (by omega) (by omega) ?_
              refine aj ?_ ?_ ?_
              ·simp only [UD,UC,ag,Ux];simp only [go_sem,di,true_or,or_true,true_and,and_true,false_or,Vj,decide_eq_true_eq,AV.v.injEq,Value.int.injEq,Value.bool.injEq];omega
              ·exact fx (by simp only [UD,UC,ag,Ux];omega) (fy (by simp only [bw,aV,AV.wf,bl,WA]) rfl (by simp only [bw,aV,AV.wf,aS,WA]) (hwK _))
              ·simp only [UD,UC,ag,Ux];omega
            ·repeat (first|(with_reducible first|refine aA.up ?_|refine fun (K:AK) hK=> ?_|refine wE ?_|refine wK ?_|refine wF ?_|refine ae (by decide) ?_|refine ai (by decide) ?_|(refine hK _ ?_;clear hK K))|simp only [go_sem,nG,yg,nS,yh,ag,UC,hc,hKl,Go.undef,eW]|with_reducible refine wA ?_|clear hK K)
             rw [eX j (by omega) hj2 (.inl (by replace hc:=bI hc;omega))];refine az.mk (i+1) (by omega) (by omega) ?_
             refine aj ?_ ?_ ?_
             ·simp only [UD,UC,ag,Ux];simp only [go_sem,di,true_or,or_true,true_and,and_true,false_or,Vj,decide_eq_true_eq,AV.v.injEq,Value.int.injEq,Value.bool.injEq];omega
             ·exact fx (by simp only [UD,UC,ag,Ux];omega) (fy (by simp only [bw,aV,AV.wf,bl,WA]) rfl (by simp only [bw,aV,AV.wf,aS,WA]) (hwK _))
             ·simp only [UD,UC,ag,Ux];omega
     ·have hie2:i=l.length:=by replace h:=bI h;omega
      simp only [hie2]
      have hFI:nU sq Em F l.length=j0 (.mk k s l) labs.length:=by rw [hsq,hEm,hF];exact K5 h1
      have hLI:nZ sq l.length Em L l.length=ei (.mk k s l) labs.length:=by rw [hsq,hEm,hL];exact Lq h1
      rw [hFI,hLI];have elb:oF labs l l.length=labs++aB (.mk k s l):=Ll h1
      have e3:labs.length+(aB (.mk k s l)).length=(oF labs l l.length).length:=by rw [elb,UC]
      by_cases h45:k=4∨k=5
      ·have hM:(fun p q=>(fa p q||jG sq l.length Em F L l.length p q)||(ei (.mk k s l) labs.length p&&j0 (.mk k s l) labs.length q))=fun p q=>f p q||jZ (.mk k s l) labs.length p q:=by
        rw [hfa,hsq,hEm,hF,hL];exact Hk h45
       have LK:=zy y (oF labs l l.length) n hn (fun p q=>fa p q||jG sq l.length Em F L l.length p q) (ei (.mk k s l) labs.length) (j0 (.mk k s l) labs.length);rw [hM] at LK
       rcases h45 with h4|h5
       ·have c4:(k==4)=true:=by rw [h4];rfl
        ((iterate 3 revert K);refine P3 c4 ?_;intro K hK K hK)
        refine ab.Ql LK (fun m=>by simp only [aV,AV.wf,aS,WA]) (fun m=>rfl) ?_
        (revert K;revert K;refine Hx ?_)
        rw [e3, <- elb];exact CU (by omega) (fun m=>by simp only [AV.wf,aV,aS,WA])
       ·have c4:(k==4)=false:=by rw [h5];rfl
        have c5:(k==5)=true:=by rw [h5];rfl
        ((iterate 3 revert K);refine Dk c4 c5 ?_;intro K hK K hK)
        refine ab.Ql LK (fun m=>by simp only [aV,AV.wf,aS,WA]) (fun m=>rfl) ?_
        (revert K;revert K;refine Hx ?_)
        rw [e3, <- elb];exact CU (by omega) (fun m=>by simp only [AV.wf,aV,aS,WA])
      ·have c4:(k==4)=false:=beq_false_of_ne (fun e=>h45 (.inl e));have c5:(k==5)=false:=beq_false_of_ne (fun e=>h45 (.inr e))
       have hM:(fun p q=>fa p q||jG sq l.length Em F L l.length p q)=fun p q=>f p q||jZ (.mk k s l) labs.length p q:=by
        rw [hfa,hsq,hEm,hF,hL];exact K2 h1 (fun e=>h45 (.inl e)) (fun e=>h45 (.inr e))
       rw [hM]
       ((iterate 3 revert K);refine Dk c4 c5 ?_)
       rw [e3, <- elb];exact CU (by omega) (fun m=>by simp only [AV.wf,aV,aS,WA])
theorem N7 (x:Ex) (hr:ay x=true) (hp:(ah x).length<=1000000) (hz: ∀z,z∈ah x->z.kids.length<=1000000∧z.label.size<=1000000000000000):Q7 x:=by
 induction x using Ex.ind with
 | h k s l ih=>
  have hsub: ∀x,x∈l-> ∀z,z∈ah x->z∈ah (.mk k s l):=fun x hx z hz=>by
   rw [ah,bf];exact List.mem_cons_of_mem _ (List.mem_flatMap.2 ⟨x,hx,hz⟩)
  by_cases h1:k=1
  ·subst h1
   have hl:l=[]:=by
    have:=(dC hr).1
    cases this with
    | lab s=>rfl
    | many k s l h _ _=>omega
    | one k s x h _=>omega
   subst hl;exact N9 s hr hz
  ·refine LH k h1 s l hr hp hz fun x hx=>ih x hx (ln hr x hx) ?_ (fun z hzz=>hz z (hsub x hx z hzz))
   have:=fJ (.mk k s l) x (hsub x hx x (by obtain ⟨k',s',l'⟩:=x;rw [ah];exact List.mem_cons_self))
   omega
theorem pk (p k N:Nat): ∀m,cv (fun j=>p+j) (aX k N m)=aX (p+k) N m
 | 0=>rfl
 | m+1=>by
  rw [dn,dn,qs,pk p k N m];simp only [bM,AV.bb,j5];rw [show p+(k+1+2 * m)=p+k+1+2 * m by omega]
theorem vS (g:Nat->Nat) (N:Nat) (f:Nat->Nat->Bool): ∀m,(aT N f m).map (Option.map (aa.bb g))=aT N f m
 | 0=>rfl
 | m+1=>by
  rw [dP,List.map_append,vS g N f m];simp only [List.map_cons,List.map_nil,jA,Option.map_some,Option.map_none,aa.bb,jT]
theorem z6 (x:Ex) (labs:List ByteArray) (n:Nat) (f:Nat->Nat->Bool):(cu 0 x labs n f).map (Option.map (aa.bb (fun j=>1+j)))=cu 1 x labs n f:=by
 rw [cu,cu,bN,bN];simp only [List.map_cons,vS,Option.map_some,aa.bb,pk,qq,cv,lU,bM,AV.bb,dy _ _ (bl 0 x.kids)]
theorem ab.Sg {F:FuncId} {args:List AV} {r0:AV} {K:AV->List (Option aa)->Prop} {y:Ex} {labs labs':List ByteArray} {n:Nat} {f f':Nat->Nat->Bool} {xb:aa}
  (h:c7 Tryz.prog F (.ptr 0 0 8 0 0 :: args) (cu 0 y labs n f) r0 (cu 0 y labs' n f')) (hwa: ∀m,aV m args=true) (hr: ∀m,r0.wf m=true)
  (k:K r0 (some xb :: cu 1 y labs' n f')):ab Tryz.prog F (.ptr 1 0 8 0 0 :: args) (some xb :: cu 1 y labs n f) K:=by
 have hf: ∀k,k<0->(fun j=>1+j) k=k:=fun k h=>by omega
 have q:ab Tryz.prog F (bM (fun j=>[some xb].length+j) (.ptr 0 0 8 0 0 :: args)) ([some xb]++(cu 0 y labs n f).map (Option.map (aa.bb (fun j=>[some xb].length+j)))++[]) K:=by
  refine ab.Sl (o1:=cu 0 y labs' n f') (pre:=[some xb]) (post:=[]) h (by rw [bO,bO]) ?_ (jd (by rw [bO];omega)) (jd (by rw [bO];omega)) (hr _) ?_
  ·rw [aV,hwa,Bool.and_true,AV.wf];exact decide_eq_true (by rw [bO];omega)
  ·simp only [UD,Ux,Nat.zero_add,List.append_nil,z6,qt hf r0 (hr 0),WE,Wt];exact k
 simp only [UD,Ux,Nat.zero_add,List.append_nil,z6,bM,gU hf args (hwa 0),AV.bb,WE,Wt,Nat.add_zero] at q;exact q
noncomputable def tK (x:Ex):List AV:=[.aC 1 ((aB x).map encS) (aB x).length, .aC 1 (cM (aB x).length (j0 x 0)) (aB x).length, .aC 1 (cM (aB x).length (ei x 0)) (aB x).length, .aC 1 (j8 (aB x).length (jZ x 0)) (aB x).length, .v (.bool (dk x)), .v (.int .i64 x.kind), .v (.string x.label), .aC 3 (x.kids.map aN) x.kids.length]
theorem je (n:Nat) (x:Ex):aV n (tK x)=true:=by
 simp only [tK,aV,AV.wf,a7,aS,er,bl,WA]
theorem LD (x:Ex) (h1:(ah x).length<=1000000) (hz: ∀z,z∈ah x->z.kids.length<=1000000∧z.label.size<=1000000000000000) :
  ar Tryz.prog 69 [.agg (aN x)] (if ay x then .cI [.vp (tK x), .v (.int .i64 0)] else .cI [.v (.pointer none), .v (.int .i64 2)]):=by
 have R:=mY x h1 hz;have E:=pY x h1 hz
 cases hr:ay x
 ·rw [hr] at R;simp only [Bool.false_eq_true,if_false];simp only [aD] at *;refine gE Tryz.func69 Tryz.ntmps69 Tryz.results69 ?_
  (refine mf ?_;intro K hK K hK K hK)
  refine ab.one R ?_
  ((iterate 3 revert K);refine mf ?_)
  (refine jm.of 40 rfl ?_;simp only [go_sem])
 ·rw [hr] at R;simp only [if_true];have hnl:(aB x).length<=24:=qg hr;have M:=IA x hr;have O:=N7 x hr h1 hz x [] (aB x).length (fun _ _=>false) (by omega) (by simp);simp only [Wt,Ux,Bool.false_or] at O
  have hF:(AV.cI [.vp (tK x), .v (.int .i64 0)]).wf 0=true:=by simp only [AV.wf,aV,je,WA]
  have hA:aV 0 [AV.agg (aN x)]=true:=by simp only [AV.wf,aV,dA,WA]
  generalize hrv:AV.cI [.vp (tK x), .v (.int .i64 0)]=rv at hF;simp only [aD] at R E M O hA ⊢
  (refine ar.mc Tryz.func69 rfl (by kernel_rfl) (by kernel_rfl) rfl hA hF ?_;simp only [Tryz.ntmps69,Tryz.results69,UD,Ux,Nat.reduceAdd,Nat.reduceSub,List.replicate_succ,List.replicate_zero,WE,Wt])
  (refine mf ?_;intro K hK K hK K hK)
  refine ab.one R ?_
  repeat ((fail_if_success (with_reducible refine bF (i:=3) ?_));first|(with_reducible first|refine aA.up ?_|refine fun (K:AK) hK=> ?_|refine ae (by decide) ?_|refine ai (by decide) ?_|refine fT (by decide) ?_|(refine hK _ ?_;clear hK K))|simp only [go_sem]|with_reducible refine wA ?_|(refine fU rfl rfl ?_)|(refine dS rfl ?_)|clear hK K)
  refine b8 [4] [] (by decide+kernel) (by kernel_rfl) ?_
  (revert K;refine mf ?_;intro K hK K hK)
  refine bj.one E ?_
  repeat ((fail_if_success (with_reducible refine bF (i:=4) ?_));first|(with_reducible first|refine aA.up ?_|refine fun (K:AK) hK=> ?_|refine ae (by decide) ?_|refine ai (by decide) ?_|refine fT (by decide) ?_|(refine hK _ ?_;clear hK K))|simp only [go_sem]|with_reducible refine wA ?_|(refine fU rfl rfl ?_)|(refine dS rfl ?_)|clear hK K)
  refine bc (dD (k:=1) (i:=0) (j:=0) 9 1 (by decide) rfl (show 0<8 by decide) rfl rfl) (by kernel_rfl) ?_;simp only [UD,Ux,Nat.reduceAdd,WE,Wt,List.set_cons_zero,List.set_cons_succ];refine bc (dD (k:=1) (i:=0) (j:=3) 54 1 (by decide) rfl (show 0<8 by decide) rfl rfl) (by kernel_rfl) ?_;simp only [UD,Ux,Nat.reduceAdd,WE,Wt,List.set_cons_zero,List.set_cons_succ]
  (revert K;revert K;refine mf ?_;intro K hK K hK K hK)
  refine ab.one M ?_
  ((iterate 3 revert K);refine mf ?_;intro K hK)
  generalize hn:(aB x).length=n at *
  refine aQ (ι:=Nat) 7 (fun m=>[(5, .v (.int .i64 (n - m:Nat)))]) (fun m=>some ⟨25,3,false,[[.v (.int .i64 x.kind), .v (.string x.label), .aC 3 (x.kids.map aN) x.kids.length]]⟩ :: some ⟨120,8,false,[[.vec 2 0, .v (.slice none 0 0), .v (.slice none 0 0), .vec 3 m, .v (.bool (dk x)), .v (.int .i64 x.kind), .v (.string x.label), .aC 3 (x.kids.map aN) x.kids.length]]⟩ :: some ⟨9,1,true,[]⟩ :: bN 3 n m (fun _ _=>false)) (fun m=>n - m) (fun m=>m<=n) 0 (by omega) ?_ ?_
  ·have hd: ∀j,j<4->decide (j<(bN 3 n 0 (fun _ _=>false)).length+1+1+1)=true:=fun j hj=>decide_eq_true (by rw [gd];omega)
   refine iI ?_ ?_ aj
   ·exact ⟨hd 0 (by omega),hd 1 (by omega)⟩
   ·refine ⟨by rw [hd 2 (by omega),hd 3 (by omega)];rfl, ?_⟩;exact AD (by rw [gd];omega)
  ·intro m hm K hK;simp only [bN]
   repeat ((fail_if_success (with_reducible refine bF (i:=7) ?_));first|(with_reducible first|refine aA.up ?_|refine fun (K:AK) hK=> ?_|refine ae (by decide) ?_|refine ai (by decide) ?_|refine fT (by decide) ?_|(refine hK _ ?_;clear hK K))|simp only [go_sem]|with_reducible refine wA ?_|(refine fU rfl rfl ?_)|(refine dS rfl ?_)|clear hK K)
   refine bH.part (fun h=> ?_) (fun h=> ?_)
   ·have hlt:m<n:=by replace h:=bI h;omega
    have eW:IntKind.i64.wrap (((n - m:Nat):Int) - 1)=((n - (m+1):Nat):Int):=by rw [cF (by omega) (by omega)];omega
    have eL:List.replicate n [AV.v (.bool false)]=cM n (fun _=>false):=jj n
    repeat ((fail_if_success (with_reducible refine bF (i:=7) ?_));first|(with_reducible first|refine aA.up ?_|refine fun (K:AK) hK=> ?_|refine ae (by decide) ?_|refine ai (by decide) ?_|refine fT (by decide) ?_|(refine hK _ ?_;clear hK K))|simp only [go_sem]|with_reducible refine wA ?_|(refine fU rfl rfl ?_)|(refine dS rfl ?_)|clear hK K)
    refine Es [7,8,9,12] [(4,1009)] (by decide+kernel) (by kernel_rfl) ?_;have g1:=fun tl j=>Kx (ag n (fun _ _=>false) m) tl j;have g0:=fun tl=>rV (ag n (fun _ _=>false) m) tl;have s1:=fun tl j x=>Ky (ag n (fun _ _=>false) m) tl j x;have s0:=fun tl x=>rW (ag n (fun _ _=>false) m) tl x
    ((iterate 3 revert K);refine mf ?_;iterate 4 intro K hK)
    refine bj.one M ?_
    repeat (first|(with_reducible first|refine aA.up ?_|refine fun (K:AK) hK=> ?_|refine ae (by decide) ?_|refine ai (by decide) ?_|refine fT (by decide) ?_|(refine hK _ ?_;clear hK K))|simp only [go_sem,eL,g1,g0,s1,s0,ag,List.length_append]|with_reducible refine wA ?_|(refine fU rfl rfl ?_)|(refine dS rfl ?_)|clear hK K)
    refine NP eW eL g1 g0 s1 ?_
    refine az.mk (m+1) (by omega) (by omega) (aj ?_ ?_ ?_)
    ·have hd: ∀j,j<4->decide (j<(bN 3 n (m+1) (fun _ _=>false)).length+1+1+1)=true:=fun j hj=>decide_eq_true (by rw [gd];omega);simp only [UD];simp only [go_sem,di,true_or,or_true,true_and,and_true];exact ⟨.inr (hd 0 (by omega)), .inr (hd 1 (by omega))⟩
    ·have hd: ∀j,j<4->decide (j<(bN 3 n (m+1) (fun _ _=>false)).length+1+1+1)=true:=fun j hj=>decide_eq_true (by rw [gd];omega)
     have hz':(bN 3 n (m+1) (fun _ _=>false)).length+1+1+1=2 * (m+1)+4:=by rw [gd]
     have hwf:bw (2 * (m+1)+4) (aX 3 n (m+1))=true:=jC (by omega)
     have hor:aX 3 n (m+1)=aX 3 n m++[[.vec (2 * m+1+1+1+1) n]]:=by rw [dn,show j5 3 m=2 * m+1+1+1+1 by unfold j5;omega]
     simp only [UD];refine ⟨.inr ⟨rfl,fun ob e=>by cases e;simp only [bw,aV,AV.wf,bl,WA]⟩, .inr ⟨rfl,fun ob e=>by cases e;simp only [bw,aV,AV.wf,bl,WA,hd 2 (by omega),hd 3 (by omega)]⟩, .inr ⟨rfl,fun ob e=>by cases e;rfl⟩, ?_⟩;rw [hz'];simp only [bN,dP];exact ⟨.inr ⟨by rw [hor],fun ob e=>by cases e;exact hwf⟩,lz (fun ob h=>mF _ _ _ _ _ h) ⟨.inr ⟨rfl,fun ob e=>by cases e;exact aS _ _ _⟩, .inl rfl,trivial⟩⟩
    ·exact Nat.zero_le _
   ·have e1:m=n:=by replace h:=bI h;omega
    simp only [e1]
    repeat ((fail_if_success (with_reducible refine bF (i:=8) ?_));first|(with_reducible first|refine aA.up ?_|refine fun (K:AK) hK=> ?_|refine ae (by decide) ?_|refine ai (by decide) ?_|refine fT (by decide) ?_|(refine hK _ ?_;clear hK K))|simp only [go_sem]|with_reducible refine wA ?_|(refine fU rfl rfl ?_)|(refine dS rfl ?_)|clear hK K)
    (revert K;refine mf ?_;intro K hK K hK)
    refine ab.Sg (y:=x) (labs:=[]) (xb:=⟨25,3,false,[[.v (.int .i64 x.kind), .v (.string x.label), .aC 3 (x.kids.map aN) x.kids.length]]⟩) O (fun k=>by simp only [aV,AV.wf,bl,WA]) (fun k=>by simp only [AV.wf,aV,aS,WA]) ?_;simp only [cu,bN,lU,List.map_nil,Ux,Nat.reduceAdd];have g1:=fun f tl j=>nG n f tl j;have g0:=fun f tl=>yg n f tl;have s1:=fun f tl j x=>nS n f tl j x;have s0:=fun f tl x=>yh n f tl x
    (revert K;revert K;refine NO g1 g0 s1 ?_)
    rw [<-hrv];simp only [tK,hn];refine bK.cI ⟨bK.ptr (ob:=⟨120,8,false,[[.vec 2 n, .aC 1 (cM n (j0 x 0)) n, .aC 1 (cM n (ei x 0)) n, .vec 3 n, .v (.bool (dk x)), .v (.int .i64 x.kind), .v (.string x.label), .aC 3 (x.kids.map aN) x.kids.length]]⟩) rfl rfl rfl (Nat.succ_ne_zero 7) ?_,bK.v _,trivial⟩;refine ⟨bK.Au (ob:=⟨9,1,true,(aB x).map encS⟩) rfl rfl (by simp [encS,hn]) (a7 0 _),bK.uK (aS 0 _ _),bK.uK (aS 0 _ _), ?_,bK.v _,bK.v _,bK.v _,bK.uK (bl 0 _),trivial⟩;refine bK.Mk (ob:=⟨54,1,true,aX 3 n n⟩) rfl rfl (cH _ _ _) (by rw [ry];exact (cH _ _ _).symm) fun i row row' h1 h2=> ?_
    have hi:i<n:=by have:=(List.getElem?_eq_some_iff.1 h1).1;rw [cH] at this;exact this
    have e1:(aX 3 n n)[i]? = some [.vec (j5 3 i) n]:=by rw [aX,List.getElem?_map,List.getElem?_range hi];rfl
    have e2:(j8 n (jZ x 0))[i]? = some [.aC 1 (cM n (jZ x 0 i)) n]:=by rw [j8,List.getElem?_map,List.getElem?_range hi];rfl
    cases (Us (e1.symm.trans h1));cases (Us (e2.symm.trans h2));refine ⟨bK.Au (ob:=⟨4,1,true,cM n (jZ x 0 i)⟩) ?_ rfl (iZ _ _) (aS 0 _ _),trivial⟩;rw [show j5 3 i=2 * i+1+1+1+1 by unfold j5;omega,VY,VY,VY,VY,List.getElem?_append_left (by rw [ag];omega)];exact qd hi
theorem KV {l:List ByteArray} {i:Nat} (h:i<l.length):(l.map encS).getD i []=[.v (.string (l.getD i ⟨#[]⟩))]:=by
 rw [Vq,Vq,List.getElem?_map,List.getElem?_eq_getElem h];rfl
theorem sj (N:Nat) (a b:Nat->Bool) (hn:N<=1000):c7 Tryz.prog 103 [.vec 0 N, .aC 1 (cM N b) N] [some ⟨4,1,true,cM N a⟩] (.vec 1 N) [some ⟨4,1,true,cM N a⟩,some ⟨4,1,true,cM N (fun q=>a q||b q)⟩]:=by
 refine gF Tryz.func103 Tryz.ntmps103 Tryz.results103 ?_
 have e0:List.replicate N [AV.v (.bool false)]=cM N (lL a b 0):=by rw [jj];exact lq fun q _=>by simp [lL]
 repeat (first|(with_reducible first|refine aA.up ?_|refine fun (K:AK) hK=> ?_|(refine hK _ ?_;clear hK K))|simp only [go_sem,e0]|with_reducible refine wA ?_|clear hK K)
 refine aQ (ι:=Nat) 10 (fun i=>[(6, .v (.int .i64 i))]) (fun i=>[some ⟨4,1,true,cM N a⟩,some ⟨4,1,true,cM N (lL a b i)⟩]) (fun i=>N - i) (fun i=>i<=N) 0 (by omega) ?_ ?_
 ·refine bo ?_ aj
  rfl
 ·intro i hi K hK
  (revert K;revert K;refine aw ?_;intro K hK K hK K hK)
  refine bH.part (fun h=> ?_) (fun h=> ?_)
  ·have hlt:i<N:=by replace h:=bI h;omega
   have eW:=ak (k:=i) (by omega);have eA:=cR (g:=a) hlt;have eB:=cR (g:=b) hlt;have eR:=cR (g:=lL a b i) hlt;have eS:=fun v=>py (N:=N) (j:=i) (g:=lL a b i) (v:=v);have eU:=u6 a b i;cases ha:a i
   all_goals
    simp only [ha,Bool.false_or,Bool.true_or] at eU
    repeat (first|(with_reducible first|refine aA.up ?_|refine fun (K:AK) hK=> ?_|(refine hK _ ?_;clear hK K))|simp only [go_sem,eW,eA,eB,ha,eR,eS,eU,Go.undef]|with_reducible refine wA ?_|clear hK K)
    exact az.mk (i+1) (by omega) (by omega) (by exact aR aj)
  ·have e1:i=N:=by replace h:=bI h;omega
   have eE:cM N (lL a b N)=cM N (fun q=>a q||b q):=lq fun q hq=>by simp [lL,hq]
   simp only [e1]
   ((iterate 3 revert K);refine aw ?_)
   rw [eE]
   (refine ⟨?_, ?_, ?_⟩<;>simp only [di,j7,AV.v.injEq,Value.int.injEq,Value.bool.injEq,Value.string.injEq,AV.vec.injEq,AV.ptr.injEq,true_or,or_true,false_or,or_false,aa.mk.injEq,forall_eq_apply_imp_iff,forall_eq,forall_eq',go_sem])
   all_goals first|exact aS _ _ _|exact ⟨aS _ _ _,aS _ _ _⟩|skip
noncomputable def uA (x:Ex) (p:Int) (q:Nat):Bool:=if p=0 then j0 x 0 q else if 0<p∧p<=(aB x).length then jZ x 0 (p.toNat - 1) q else false
noncomputable def AH (x:Ex) (l:List Int) (q:Nat):Bool:=l.any (fun p=>uA x p q)
theorem Hl {x:Ex} {l:List Int} {i:Nat} (h:i<l.length):AH x (l.take (i+1))=fun q=>AH x (l.take i) q||uA x l[i] q:=by
 funext q
 rw [AH,List.take_succ_eq_append_getElem h,List.any_append,AH];simp
def Fb (g:Nat->Bool) (l:List ByteArray) (lab:ByteArray) (j q:Nat):Bool:=if q<j then g q&&((l.getD q ⟨#[]⟩).toList==lab.toList) else g q
theorem Qf (g:Nat->Bool) (l:List ByteArray) (lab:ByteArray):Fb g l lab 0=g:=by funext q;simp [Fb]
theorem NT (g:Nat->Bool) (l:List ByteArray) (lab:ByteArray) (j:Nat):Fb g l lab j j=g j:=by simp [Fb]
theorem Ij (g:Nat->Bool) (l:List ByteArray) (lab:ByteArray) (j:Nat):(fun q=>if q=j then (g j&&((l.getD j ⟨#[]⟩).toList==lab.toList)) else Fb g l lab j q)=Fb g l lab (j+1):=by
 funext q
 rw [Fb,Fb]
 by_cases h:q=j
 ·subst h;simp
 ·rw [if_neg h]
  by_cases h2:q<j
  ·rw [if_pos h2,if_pos (by omega)]
  ·rw [if_neg h2,if_neg (by omega)]
noncomputable def L9 (x:Ex) (l:List Int) (lab:ByteArray) (q:Nat):Bool:=AH x l q&&(((aB x).getD q ⟨#[]⟩).toList==lab.toList)
def oh (c:Nat):List (Option aa):=List.replicate c none
theorem cZ (c:Nat):(oh c).length=c:=by simp [oh]
theorem vH (c:Nat) (tl:List (Option aa)):oh (c+1)++tl=oh c++(none :: tl):=by
 rw [oh,List.replicate_succ',U0];rfl
theorem jD {n:Nat} {a b:List (Option aa)}: ∀(c:Nat),j7 n a b->j7 n (oh c++a) (oh c++b)
 | 0,h=>h
 | c+1,h=>⟨.inl rfl,jD c h⟩
theorem ab.either {c N:Nat} {a b:Nat->Bool} {K:AV->List (Option aa)->Prop} (hn:N<=1000) (k:K (.vec (c+1) N) (oh c++[some ⟨4,1,true,cM N a⟩,some ⟨4,1,true,cM N (fun q=>a q||b q)⟩])) :
  ab Tryz.prog 103 [.vec c N, .aC 1 (cM N b) N] (oh c++[some ⟨4,1,true,cM N a⟩]) K:=by
 have hl:(oh c++[some (⟨4,1,true,cM N a⟩:aa)]).length=c+1:=by rw [UC,cZ];rfl
 refine ab.fr [c] (sj N a b hn) (by simp) ?_ ?_ (by simp only [aV,AV.wf,aS,WA];rfl) ?_ ?_
 ·simp only [Wy,WI,rV (cZ c),U5,aa.bb,jT];rfl
 ·simp only [bM,AV.bb,jT];rfl
 ·intro k ob hk
  match k,hk with
  | 0,hk=>cases hk;exact aS _ _ _
  | k+1,hk=>simp at hk
 ·rw [hl]
  have e1:(AV.vec 1 N).bb (sig [c] (c+1)) = .vec (c+1) N:=by simp [AV.bb,sig]
  rw [e1];simp only [ej,U5,Option.map_none,aa.bb,jT,Wy,WI,rW (cZ c),List.set_cons_zero,U0,WE,Wt];exact k
theorem dL.either {c N:Nat} {a b:Nat->Bool} {K:AV->List (Option aa)->Prop} (hn:N<=1000) (k:K (.vec (c+1) N) (oh c++[some ⟨4,1,true,cM N a⟩,some ⟨4,1,true,cM N (fun q=>a q||b q)⟩])) :
  dL Tryz.prog 103 [.vec c N, .aC 1 (cM N b) N] (oh c++[some ⟨4,1,true,cM N a⟩]) K:=by
 have hl:(oh c++[some (⟨4,1,true,cM N a⟩:aa)]).length=c+1:=by rw [UC,cZ];rfl
 refine dL.fr [c] (sj N a b hn) (by simp) ?_ ?_ (by simp only [aV,AV.wf,aS,WA];rfl) ?_ ?_
 ·simp only [Wy,WI,rV (cZ c),U5,aa.bb,jT];rfl
 ·simp only [bM,AV.bb,jT];rfl
 ·intro k ob hk
  match k,hk with
  | 0,hk=>cases hk;exact aS _ _ _
  | k+1,hk=>simp at hk
 ·rw [hl]
  have e1:(AV.vec 1 N).bb (sig [c] (c+1)) = .vec (c+1) N:=by simp [AV.bb,sig]
  rw [e1];simp only [ej,U5,Option.map_none,aa.bb,jT,Wy,WI,rW (cZ c),List.set_cons_zero,U0,WE,Wt];exact k
theorem LX (x:Ex) (l:List Int) (lab:ByteArray) (hn:(aB x).length<=1000) (hl:l.length<=1000000):ar Tryz.prog 70 [.vp (tK x), .aC 1 (l.map encI) l.length, .v (.string lab)]
  (.aC 1 (aI (ja (aB x).length (L9 x l lab))) (ja (aB x).length (L9 x l lab)).length):=by
 have hw:=je 0 x;have hm:bw 0 (aI (ja (aB x).length (L9 x l lab)))=true:=bB _ (fun _=>rfl) _;have hi:bw 0 (l.map encI)=true:=bB _ (fun _=>rfl) _;have S:=L5 (aB x).length (L9 x l lab) hn;simp only [tK] at hw ⊢
 (refine ar.enter Tryz.func70 rfl (by kernel_rfl) (by kernel_rfl) rfl (by simp only [go_sem,aV,AV.wf,WA,Bool.and_true,VO,hw,hm,hi]) (by simp only [go_sem,aV,AV.wf,a7,WA,Bool.and_true,VO,hw,hm,hi]) ?_;simp only [Tryz.ntmps70,Tryz.results70,UD,Ux,Nat.reduceAdd,Nat.reduceSub,List.replicate_succ,List.replicate_zero,WE,Wt])
 have e0:List.replicate (aB x).length [AV.v (.bool false)]=cM (aB x).length (AH x (l.take 0)):=jj _
 repeat (first|(with_reducible first|refine aA.up ?_|refine fun (K:AK) hK=> ?_|refine wD ?_|refine ae (by decide) ?_|refine ai (by decide) ?_|(refine hK _ ?_;clear hK K))|simp only [go_sem,e0]|with_reducible refine wA ?_|clear hK K)
 refine aQ (ι:=Nat×Nat) 9 (fun s=>[(7, .vec s.2 (aB x).length),(8, .v (.int .i64 s.1))]) (fun s=>oh s.2++[some ⟨4,1,true,cM (aB x).length (AH x (l.take s.1))⟩]) (fun s=>l.length - s.1) (fun s=>s.1<=l.length) (0,0) (by simp) ?_ ?_
 ·refine iI ?_ ?_ aj
  ·exact ⟨rfl,rfl⟩
  ·exact ⟨.inr ⟨rfl,fun ob e=>by cases e;exact aS _ _ _⟩,trivial⟩
 ·rintro ⟨i,c⟩ hi K hK;simp only at hi ⊢;have g0:=fun tl=>rV (cZ c) tl;have s0:=fun tl x=>rW (cZ c) tl x
  (revert K;revert K;refine fI ?_;intro K hK K hK K hK)
  refine bH.part (fun h=> ?_) (fun h=> ?_)
  ·have hlt:i<l.length:=by replace h:=bI h;omega
   have eG:=getD_map encI l i [] hlt;have eW:=ak (k:=i) (by omega);have eF:=Hl (x:=x) hlt;simp only [encI] at eG;generalize hp:l[i]=p at eG eF
   by_cases h0:p=0
   ·have e1:uA x p=j0 x 0:=by funext q;rw [uA,if_pos h0]
    simp only [e1] at eF;subst h0
    repeat (first|(with_reducible first|refine aA.up ?_|refine fun (K:AK) hK=> ?_|refine wD ?_|refine ae (by decide) ?_|refine ai (by decide) ?_|(refine hK _ ?_;clear hK K))|simp only [go_sem,eG]|with_reducible refine wA ?_|clear hK K)
    refine ab.either hn ?_
    ((iterate 4 revert K);refine kA eW ?_)
    refine az.mk (i+1,c+1) (by simp only;omega) (by simp only;omega) (aj ?_ ?_ (UE _))
    ·simp only [go_sem,di,true_or,or_true,true_and,and_true,UC,cZ,UD,Ux];exact .inr (decide_eq_true (by omega))
    ·simp only [eF];rw [vH];exact jD c ⟨.inl rfl, .inr ⟨rfl,fun ob e=>by cases e;exact aS _ _ _⟩,trivial⟩
   ·have b0:(p==0)=false:=beq_false_of_ne h0
    by_cases h1:0<p∧p<=(aB x).length
    ·obtain ⟨j,rfl⟩: ∃j:Nat,p=(j:Int)+1:=⟨(p - 1).toNat,by omega⟩;have b1:decide ((0:Int)<(j:Int)+1)=true:=decide_eq_true (by omega);have b2:decide ((j:Int)+1<=((aB x).length:Int))=true:=decide_eq_true (by omega)
     have eV:IntKind.i64.wrap ((j:Int)+1 - 1)=(j:Int):=by rw [cF (by omega) (by omega)];omega
     have eM:=qi (N:=(aB x).length) (f:=jZ x 0) (i:=j) (by omega)
     have e1:uA x ((j:Int)+1)=jZ x 0 j:=by funext q;rw [uA,if_neg h0,if_pos h1,show ((j:Int)+1).toNat - 1=j by omega]
     simp only [e1] at eF
     repeat ((fail_if_success (with_reducible refine bF (i:=7) ?_));first|(with_reducible first|refine aA.up ?_|refine fun (K:AK) hK=> ?_|refine ae (by decide) ?_|refine ai (by decide) ?_|(refine hK _ ?_;clear hK K))|simp only [go_sem,eG,b0,b1,b2,eV,eM,Go.undef]|with_reducible refine wA ?_|clear hK K)
     first|refine wE ?_|refine wD ?_
     repeat (first|(with_reducible first|refine aA.up ?_|refine fun (K:AK) hK=> ?_|refine ae (by decide) ?_|refine ai (by decide) ?_|(refine hK _ ?_;clear hK K))|simp only [go_sem,eG,b0,b1,b2,eV,eM,Go.undef]|with_reducible refine wA ?_|clear hK K)
     refine b8 [12] [] (by decide+kernel) (by kernel_rfl) ?_
     repeat (first|(with_reducible first|refine aA.up ?_|refine fun (K:AK) hK=> ?_|refine ae (by decide) ?_|refine ai (by decide) ?_|(refine hK _ ?_;clear hK K))|simp only [go_sem,eG,b0,b1,b2,eV,eM,Go.undef]|with_reducible refine wA ?_|clear hK K)
     refine dL.either hn ?_
     ((iterate 4 revert K);refine kA eW ?_)
     refine az.mk (i+1,c+1) (by simp only;omega) (by simp only;omega) (aj ?_ ?_ (UE _))
     ·simp only [go_sem,di,true_or,or_true,true_and,and_true,UC,cZ,UD,Ux];exact .inr (decide_eq_true (by omega))
     ·simp only [eF];rw [vH];exact jD c ⟨.inl rfl, .inr ⟨rfl,fun ob e=>by cases e;exact aS _ _ _⟩,trivial⟩
    ·have e1:uA x p=fun _=>false:=by funext q;rw [uA,if_neg h0,if_neg h1]
     simp only [e1,Bool.or_false] at eF
     rcases Int.lt_or_le 0 p with b|b
     ·have b1:decide (0<p)=true:=decide_eq_true b;have b2:decide (p<=((aB x).length:Int))=false:=decide_eq_false (by omega)
      repeat (first|(with_reducible first|refine aA.up ?_|refine fun (K:AK) hK=> ?_|refine wD ?_|refine ae (by decide) ?_|refine ai (by decide) ?_|(refine hK _ ?_;clear hK K))|simp only [go_sem,eG,b0,b1,b2,eW,Go.undef]|with_reducible refine wA ?_|clear hK K)
      refine az.mk (i+1,c) (by simp only;omega) (by simp only;omega) (aj ?_ ?_ (UE _))
      ·simp only [go_sem,di,true_or,or_true,true_and,and_true,UC,cZ,UD,Ux];exact .inr (decide_eq_true (by omega))
      ·simp only [eF];exact jD c ⟨.inr ⟨rfl,fun ob e=>by cases e;exact aS _ _ _⟩,trivial⟩
     ·have b1:decide (0<p)=false:=decide_eq_false (by omega)
      repeat (first|(with_reducible first|refine aA.up ?_|refine fun (K:AK) hK=> ?_|refine wD ?_|refine ae (by decide) ?_|refine ai (by decide) ?_|(refine hK _ ?_;clear hK K))|simp only [go_sem,eG,b0,b1,eW,Go.undef]|with_reducible refine wA ?_|clear hK K)
      refine az.mk (i+1,c) (by simp only;omega) (by simp only;omega) (aj ?_ ?_ (UE _))
      ·simp only [go_sem,di,true_or,or_true,true_and,and_true,UC,cZ,UD,Ux];exact .inr (decide_eq_true (by omega))
      ·simp only [eF];exact jD c ⟨.inr ⟨rfl,fun ob e=>by cases e;exact aS _ _ _⟩,trivial⟩
  ·have e1:l.take i=l:=List.take_of_length_le (by replace h:=bI h;omega);simp only [e1]
   ((iterate 3 revert K);refine fI ?_;intro K hK)
   have ek0:=Qf (AH x l) (aB x) lab
   refine aQ (ι:=Nat) 10 (fun j=>[(9, .v (.int .i64 j))]) (fun j=>oh c++[some ⟨4,1,true,cM (aB x).length (Fb (AH x l) (aB x) lab j)⟩]) (fun j=>(aB x).length - j) (fun j=>j<=(aB x).length) 0 (by omega) ?_ ?_
   ·simp only [ek0]
    refine aj ?_ ?_ (UE _)
    ·simp only [go_sem,di,true_or,or_true,true_and,and_true,UC,cZ,UD,Ux];exact ⟨.inr (decide_eq_true (by omega)), .inr rfl⟩
    ·exact jD c ⟨.inr ⟨rfl,fun ob e=>by cases e;exact aS _ _ _⟩,trivial⟩
   ·intro j hj K hK
    repeat (first|(with_reducible first|refine aA.up ?_|refine fun (K:AK) hK=> ?_|refine wD ?_|refine ae (by decide) ?_|refine ai (by decide) ?_|(refine hK _ ?_;clear hK K))|simp only [go_sem,g0,s0]|with_reducible refine wA ?_|clear hK K)
    refine bH.part (fun h=> ?_) (fun h=> ?_)
    ·have hlt:j<(aB x).length:=by replace h:=bI h;omega
     have eW:=ak (k:=j) (by omega);have eR:=cR (g:=Fb (AH x l) (aB x) lab j) hlt;rw [NT] at eR;have eS:=fun v=>py (N:=(aB x).length) (j:=j) (g:=Fb (AH x l) (aB x) lab j) (v:=v);have eU:=Ij (AH x l) (aB x) lab j;have eL:=KV hlt;cases hg:AH x l j
     all_goals
      simp only [hg,Bool.false_and,VO] at eU eR
      repeat (first|(with_reducible first|refine aA.up ?_|refine fun (K:AK) hK=> ?_|refine wD ?_|refine ae (by decide) ?_|refine ai (by decide) ?_|(refine hK _ ?_;clear hK K))|simp only [go_sem,eW,eR,eS,eU,eL,g0,s0,Go.undef]|with_reducible refine wA ?_|clear hK K)
      refine az.mk (j+1) (by omega) (by omega) (aj ?_ ?_ (UE _))
      ·simp only [go_sem,di,true_or,or_true,true_and,and_true,UC,cZ,UD,Ux];exact .inr (decide_eq_true (by omega))
      ·exact jD c ⟨.inr ⟨rfl,fun ob e=>by cases e;exact aS _ _ _⟩,trivial⟩
    ·have e2:j=(aB x).length:=by replace h:=bI h;omega
     have eE:cM (aB x).length (Fb (AH x l) (aB x) lab (aB x).length)=cM (aB x).length (L9 x l lab):=lq fun q hq=>by rw [Fb,if_pos hq,L9]
     simp only [e2];simp only [eE]
     repeat ((fail_if_success (with_reducible refine bF (i:=13) ?_));first|(with_reducible first|refine aA.up ?_|refine fun (K:AK) hK=> ?_|refine ae (by decide) ?_|refine ai (by decide) ?_|(refine hK _ ?_;clear hK K))|simp only [go_sem]|with_reducible refine wA ?_|clear hK K)
     refine bc (gT 7 c rfl (g0 _) rfl (iZ _ _)) (by kernel_rfl) ?_
     (revert K;refine fI ?_;intro K hK K hK)
     refine ab.one S ?_
     (revert K;revert K;refine fI ?_)
     exact jm.aC hm
def e0:ByteArray:=⟨#[]⟩
def TT (nm:ByteArray) (l r o:uo):List AV:=[.aC 8 [[.v (.string ⟨#[97]⟩), .v (.string ⟨#[98]⟩), .v (.bool false), .v (.string ⟨#[120]⟩), .v (.string nm), .v (.int .i64 0), .v (.string e0), .v (.slice none 0 0)]] 1, .aC 13 [KT ⟨3,l,r⟩] 1, .aC 6 [Hd o] 1, .v (.int .i64 5), .v (.int .i64 1)]
def sA:ByteArray:=⟨#[97]⟩
def sB:ByteArray:=⟨#[98]⟩
def Uo:Ex:= .mk 4 e0 [.mk 2 e0 [.mk 1 sA [], .mk 1 sB []]]
def MR (i:Nat):List AV:=[IC i]
@[go_sem] theorem RP (n k:Nat):bw n (mn MR k)=true:=dX n _ (fun _=>rfl) k
@[go_sem] theorem Pl (n:Nat):bw n (marksOf MR)=true:=dX n _ (fun _=>rfl) 12
def T6 (i:Nat):ByteArray:=⟨#[35,1,0,0,47,UInt8.ofNat i,0,0]⟩
def MU (i:Nat):List AV:=[.v (.string (T6 i))]
@[go_sem] theorem RU (n k:Nat):bw n (mn MU k)=true:=dX n _ (fun _=>rfl) k
@[go_sem] theorem Po (n:Nat):bw n (marksOf MU)=true:=dX n _ (fun _=>rfl) 12
mutual
theorem Ag: ∀(x:Ex) (d:Nat),sX x d<=300->(ah x).length<=sX x d
 | .mk k s l,d,h=>by
  rw [sX] at h ⊢
  split at h
  ·omega
  ·rename_i hd;rw [if_neg hd]
   have:=Af l (d+1) 1 h
   rw [ah,UD];omega
theorem Af: ∀(l:List Ex) (d n:Nat),sL l d n<=300->n+(bE l).length<=sL l d n
 | [],d,n,h=>by rw [sL,bE];simp
 | x :: xs,d,n,h=>by
  rw [sL] at h ⊢
  split at h
  ·rename_i hn;rw [if_pos hn];have h2:=Af xs d (n+sX x d) h;have h1:=Ag x d (by omega);rw [bE,UC];omega
  ·omega
end
theorem Aj {x:Ex} (ko:x.ok) (h:sX x 0<=300):(ah x).length<=1000000∧ ∀z,z∈ah x->z.kids.length<=1000000∧z.label.size<=1000000000000000:=by
 have h1:=Ag x 0 h
 refine ⟨by omega,fun z hz=>⟨?_, ?_⟩⟩
 ·have h2:=fJ x z hz;have h3:=jP z;omega
 ·have:=LQ x ko z hz
  unfold zM at this;omega
theorem step_eq {x:Ex} (hr:ay x=true) (l:List Int) (lab:ByteArray):aq (iw (aO x) (fH (aO x) l) lab)=ja (aB x).length (L9 x l lab):=by
 have L:=iq hr;have ok:=L.ok;have hl:=L.labs;refine pq (jr _) (vX _ _) fun q=> ?_;rw [aW,kK ok,tU]
 have key: ∀(p:Nat),((aO x).fs.getD p 0#32).getLsbD q=true↔(if p=0 then jX x 0 q else iL x 0 p q):=fun p=>by
  by_cases hp:p=0
  ·subst hp;rw [if_pos rfl];exact L.fst q
  ·rw [if_neg hp];exact L.qK p q hp
 have gq: ∀(p:Nat),(fH (aO x) l).getLsbD p=true↔(p:Int)∈l∧p<=(aB x).length:=fun p=>by
  rw [fH,kx ok,hl];simp
 constructor
 ·rintro ⟨p,h1,h2,h3⟩;have hq:=ok.qK p q h2;rw [hl] at hq;obtain ⟨hpl,hpn⟩:=(gq p).1 h1;refine ⟨hq.1,hq.2, ?_⟩;rw [L9,Bool.and_eq_true]
  constructor
  ·rw [AH,List.any_eq_true];refine ⟨p,hpl, ?_⟩;have k:=(key p).1 h2;rw [uA]
   by_cases hp:p=0
   ·subst hp;rw [if_pos rfl] at k;rw [if_pos (show ((0:Nat):Int)=0 from rfl),ij,show q - 1+1=q by omega];exact k
   ·rw [if_neg hp] at k;rw [if_neg (by omega),if_pos ⟨by omega,by omega⟩,ku,show q - 1+1=q by omega,show (p:Int).toNat - 1+1=p by omega];exact k
  ·rw [dY,if_pos ⟨by omega,by rw [hl];omega⟩,hl,show ((q:Int) - 1).toNat=q - 1 by omega] at h3;rw [beq_iff_eq];exact h3
 ·rintro ⟨h1,h2,h3⟩;rw [L9,Bool.and_eq_true,AH,List.any_eq_true] at h3;obtain ⟨⟨p,hpl,hp⟩,h4⟩:=h3
  have hlab:(dY (aO x) q).toList=lab.toList:=by
   rw [dY,if_pos ⟨by omega,by rw [hl];omega⟩,hl,show ((q:Int) - 1).toNat=q - 1 by omega];rw [beq_iff_eq] at h4;exact h4
  rw [uA] at hp
  by_cases hp0:p=0
  ·subst hp0;rw [if_pos rfl,ij,show q - 1+1=q by omega] at hp;exact ⟨0,(gq 0).2 ⟨hpl,by omega⟩,(key 0).2 (by rw [if_pos rfl];exact hp),hlab⟩
  ·rw [if_neg hp0] at hp
   by_cases hp1:0<p∧p<=(aB x).length
   ·rw [if_pos hp1,ku,show q - 1+1=q by omega] at hp;obtain ⟨j,rfl⟩: ∃j:Nat,p=(j:Int):=⟨p.toNat,by omega⟩;rw [show (j:Int).toNat - 1+1=j by omega] at hp;exact ⟨j,(gq j).2 ⟨hpl,by omega⟩,(key j).2 (by rw [if_neg (by omega)];exact hp),hlab⟩
   ·rw [if_neg hp1] at hp;cases hp
theorem JJ {x:Ex} (hr:ay x=true):aq (aO x).la=ja (aB x).length (ei x 0):=by
 have L:=iq hr;refine pq (jr _) (vX _ _) fun q=> ?_;rw [aW,tU]
 constructor
 ·intro h1;have hq:=L.ok.la _ h1;rw [L.labs] at hq;refine ⟨hq.1,hq.2, ?_⟩;rw [im,show q - 1+1=q by omega];exact (L.vF _).1 h1
 ·rintro ⟨h1,h2,h3⟩;rw [im,show q - 1+1=q by omega] at h3;exact (L.vF _).2 h3
theorem Mf {x:Ex} (hr:ay x=true):(aO x).em=dk x:=by
 rw [(iq hr).em,dk,hr,VO]
end Go.Proofs.YtfflpdekojlnmaaGreatDoor
