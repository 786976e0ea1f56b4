/- texts of one claim, one behind the other. -/
import Derived.Test.YtfflpdekojlnmaaGreatDoorXOpenX
import Derived.Test.YtfflpdekojlnmaaGreatDoorXDfaK
import Derived.Test.YtfflpdekojlnmaaGreatDoorXLens
import Derived.Test.YtfflpdekojlnmaaGreatDoorXDfaR
import Derived.Test.YtfflpdekojlnmaaGreatDoorXLang
set_option linter.unusedSimpArgs false
set_option linter.unusedVariables false
set_option maxRecDepth 100000
set_option maxHeartbeats 16000000
open Array renaming getElem?_eq_some_iff -> Ua, getElem?_eq_getElem -> Up
open Bool renaming and_self -> Wc, and_true -> VC, true_and -> Vq, and_eq_true -> UW, eq_false_or_eq_true -> VT
open List renaming getElem?_set_self -> Uy, getElem?_eq_some_iff -> Uc, getElem?_set_ne -> Ux, contains_iff_mem -> Wp, getElem?_eq_getElem -> Uq, length_cons -> Uh, length_nil -> Ub, cons_append -> VK, nil_append -> VJ, mem_cons_of_mem -> U8, set_append_right -> Wq, getD_eq_getElem?_getD -> U3, getElem?_range' -> Wr, length_range' -> Ws, mem_of_getElem? -> UK, ext_getElem -> Wt, getElem_map -> V2, getElem?_append_left -> Ud, range_succ -> Wu, getElem?_map -> Ut, getElem?_range -> Uu, map_congr_left -> Wv, mem_range -> Vk, map_cons -> Wa, getElem?_toArray -> Us, size_toArray -> UA, set_cons_zero -> VR, set_cons_succ -> VQ, take_zero -> Wy, length_map -> U2, map_append -> V7, map_nil -> Wi, length_append -> Ug, push_toArray -> VH, drop_succ_cons -> Wz, drop_zero -> WA, take_succ_cons -> WB, replicate_succ -> WC, length_replicate -> WD, take_succ_eq_append_getElem -> Wg, getElem_mem -> Vx
open Nat renaming sub_self -> Vf, lt_add_one -> Ww, zero_lt_one -> Wx, zero_le -> Ui
open Option.some renaming inj -> T6
open Option renaming map_some -> UI
namespace Go.Proofs.YtfflpdekojlnmaaGreatDoor
open Go.RowKit
section
section
variable {D:Nat->Prop} {nu:Nat->Nat->Value} {o:List (Option aa)} {w:World} {P:Program}
theorem Ib (h:RO D nu o w) {id:Nat} {ob:aa} (ho:o[id]? = some (some ob)) (hv:ob.gk=false) (hz:ob.z=0):RA D nu (o.set id none) w (.mp ob.rows) (nu id 0):=by
 rcases h.obj id ob ho with ⟨e1,_⟩|⟨g,cur,hb⟩|⟨g,es,cl,hm⟩
 ·rw [e1] at hv;cases hv
 ·have:=hb.z;omega
 ·rw [hm.sM]
  have hf:Fz D nu (o.set id none) w g:=by
   refine ⟨(Ua.1 hm.fL).1, ?_,hm.np⟩;rintro ⟨id',ob',k1,k2⟩
   by_cases he:id=id'
   ·subst he;rw [Uy (Uc.1 ho).1] at k1;cases k1
   ·rw [Ux he] at k1;exact h.sep id id' ob ob' g ho k1 he hm.bD k2
  refine .mp _ g es cl hf hm.fL hm.sz hm.row hm.born hm.uC (fun i j row c e k1 k2 k3=> ?_);have hl:=hm.row i row k1;have hj:=(Uc.1 k2).1
  match j,hj,k2 with
  | 0,_,k2=>exact (hm.key i row c e k1 k2 k3).mono (dC id) (fun _ _ h=>h)
  | 1,_,k2=>exact (hm.val i row c e k1 k2 k3).mono (dC id) (fun _ _ h=>h)
  | j+2,hj,_=>omega
theorem B1 {s:AS} (i id:Nat) {ob:aa} (hi:s.t[i]? = some (.vec id 0)) (ho:s.o[id]? = some (some ob)) (hv:ob.gk=false) (hz:ob.z=0):yg s (AS.mk (s.t.set i (.mp ob.rows)) (s.o.set id none) s.y):=by
 intro f D nu a w hs;have hm:=dC (nu:=nu) (o:=s.o) (w:=w) id;refine ⟨nu,hm,rfl,mO hs.ro id,⟨by simpa using hs.tm.len,fun j c x h1 h2=> ?_⟩,hs.jm⟩
 by_cases hij:i=j
 ·subst hij;rw [Uy (Uc.1 hi).1] at h1;cases h1;have hr:=hs.tm.at' i _ x hi h2;cases hr;exact Ib hs.ro ho hv hz
 ·rw [Ux hij] at h1;exact (hs.tm.at' j c x h1 h2).mono hm (fun _ _ h=>h)
end
theorem LL {s:bP} (ok:yb s) (l:List Nat) (lab:ByteArray) (hl:l.length<=1000000):ar Tryz.prog 59 [.vp (il s), .aC 1 (aI l) l.length, .v (.string lab)] (.aC 1 (aI (aP s l lab)) (aP s l lab).length):=by
 have h:=Lf ok (bq l) lab (by rw [vg];exact hl);rw [vg, <- Eh] at h;exact h
theorem Hk (l:List Nat) (n:Nat) (hl:l.length<=1000000): ∃k:Int,(decide (0<=k)=l.contains n)∧ar Tryz.prog 94 [.aC 1 (aI l) l.length, .v (.int .i64 n)] (.v (.int .i64 k)):=by
 refine ⟨if l.contains n then (l.idxOf n:Int) else -1,by split<;>simp_all<;>omega, ?_⟩;refine gE Tryz.func94 Tryz.ntmps94 Tryz.results94 ?_
 (refine au ?_;intro K hK)
 refine bo (ι:=Nat) 8 (fun i=>[(5, .undef),(8, .v (.int .i64 i))]) (fun i=>l.length - i) (fun i=>i<=l.length∧n∉l.take i) 0 ⟨Nat.zero_le _,by simp⟩ ?_ ?_
 ·refine bp ?_ aj
  rfl
 rintro i ⟨hi,hn⟩ K hK
 (revert K;revert K;refine au ?_;intro K hK K hK K hK)
 refine bC.part (fun h=> ?_) (fun h=> ?_)
 ·have hlt:i<l.length:=by replace h:=bJ h;omega
  have eW:=ak (k:=i) (by omega)
  have eG:(aI l).getD i []=[.v (.int .i64 (l[i]:Nat))]:=by rw [aI,getD_map _ l i [] hlt]
  repeat (first|(with_reducible first|refine aA.up ?_|refine fun (K:AK) hK=> ?_|(refine hK _ ?_;clear hK K))|simp only [go_sem,h,eG]|with_reducible refine wA ?_|clear hK K)
  refine bC.part (fun h2=> ?_) (fun h2=> ?_)
  ·have hc:n=l[i]:=by replace h2:=bJ h2;omega
   have hm:l.contains n=true:=by rw [Wp,hc];exact List.getElem_mem hlt
   have hx:l.idxOf n=i:=by
    have h1:l.idxOf n<=i:=by
     exact y8 l n i (by rw [hc];exact Uq hlt)
    rcases Nat.lt_or_ge (l.idxOf n) i with q|q
    ·exfalso
     have hq:l.idxOf n<l.length:=by omega
     refine hn (List.mem_take_iff_getElem.2 ⟨l.idxOf n,by omega, ?_⟩);exact List.getElem_idxOf hq
    ·omega
   ((iterate 3 revert K);refine au ?_)
   rw [hm,if_pos rfl,hx]
  ·have hc:n≠l[i]:=by replace h2:=bJ h2;omega
   ((iterate 3 revert K);refine aK eW ?_)
   exact az.mk (i+1) ⟨by omega,by
    rw [List.take_succ_eq_append_getElem hlt,List.mem_append]
    rintro (e|e)
    ·exact hn e
    ·exact hc (by simpa using e)⟩ (by omega) (by exact aO aj)
 ·have hm:l.contains n=false:=by
   have:i=l.length:=by replace h:=bJ h;omega
   rw [this,List.take_length] at hn;rw [<-Bool.not_eq_true,Wp];exact hn
  ((iterate 3 revert K);refine au ?_)
  rw [hm,if_neg (by decide)]
theorem yD (l:List Nat) (n:Nat) (hl:l.length<=1000000):ar Tryz.prog 61 [.aC 1 (aI l) l.length, .v (.int .i64 n)] (.v (.bool (l.contains n))):=by
 obtain ⟨k,hk,C⟩:=Hk l n hl;refine gE Tryz.func61 Tryz.ntmps61 Tryz.results61 ?_
 (refine bF ?_;intro K hK K hK)
 refine ab.one C ?_
 (revert K;revert K;refine bF ?_)
 rw [<-hk]
def y6 (p:Nat->Bool):List Nat->Nat->Int
 | [],_=> -1
 | x :: xs,i=>if p x then (i:Int) else y6 p xs (i+1)
theorem y7 (p:Nat->Bool): ∀(l:List Nat) (i:Nat),decide (0<=y6 p l i)=l.any p
 | [],i=>rfl
 | x :: xs,i=>by
  rw [y6,List.any_cons]
  cases p x with
  | true=>simp
  | false=>simpa using y7 p xs (i+1)
theorem xl {g:FuncId} (caps:List AV) (hw:aX 0 caps=true) (p:Nat->Bool) (l:List Nat) (hl:l.length<=1000000) (H: ∀x:Nat,ar Tryz.prog g (.v (.int .i64 x) :: caps) (.v (.bool (p x)))) :
  ar Tryz.prog 95 [.aC 1 (aI l) l.length, .fn g [] caps] (.v (.int .i64 (y6 p l 0))):=by
 (refine ar.enter Tryz.func95 rfl (by kernel_rfl) (by kernel_rfl) rfl (by simp only [go_sem,aX,AV.wf,Wc,VC,Vq,hw]) (by simp only [go_sem,aX,AV.wf,bm,Wc,VC,Vq,hw]) ?_;simp only [Tryz.ntmps95,Tryz.results95,Uh,Ub,Nat.reduceAdd,Nat.reduceSub,List.replicate_succ,List.replicate_zero,VK,VJ])
 (refine au ?_;intro K hK)
 refine bo (ι:=Nat) 8 (fun i=>[(5, .undef),(8, .v (.int .i64 i))]) (fun i=>l.length - i) (fun i=>i<=l.length∧y6 p l 0=y6 p (l.drop i) i) 0 ⟨Nat.zero_le _,rfl⟩ ?_ ?_
 ·refine bp ?_ aj
  all_goals first|exact hw|rfl|exact ⟨hw,rfl⟩
 rintro i ⟨hi,hx⟩ K hK
 (revert K;revert K;refine au ?_;intro K hK K hK K hK)
 refine bC.part (fun h=> ?_) (fun h=> ?_)
 ·have hlt:i<l.length:=by replace h:=ot h;omega
  have eW:=ak (k:=i) (by omega)
  have eG:(aI l).getD i []=[.v (.int .i64 (l[i]:Nat))]:=by rw [aI,getD_map _ l i [] hlt]
  have HX:=H l[i];rw [List.drop_eq_getElem_cons hlt,y6] at hx
  repeat (first|(with_reducible first|refine aA.up ?_|refine fun (K:AK) hK=> ?_|(refine hK _ ?_;clear hK K))|simp only [go_sem,eG]|with_reducible refine wA ?_|clear hK K)
  refine ab.one HX ?_
  rcases Bool.eq_false_or_eq_true (p l[i]) with hp|hp
  ·rw [hp,if_pos rfl] at hx
   ((iterate 5 revert K);refine aK hp ?_)
   rw [hx]
  ·rw [hp,if_neg (by decide)] at hx
   ((iterate 5 revert K);refine qE hp eW ?_)
   refine az.mk (i+1) ⟨by omega,hx⟩ (by omega) ?_;refine bp ?_ aj
   all_goals first|exact hw|rfl
 ·have:i=l.length:=by replace h:=ot h;omega
  rw [this,List.drop_length,y6] at hx
  ((iterate 3 revert K);refine au ?_)
  rw [hx]
theorem qW {g:FuncId} (caps:List AV) (hw:aX 0 caps=true) (p:Nat->Bool) (l:List Nat) (hl:l.length<=1000000) (H: ∀x:Nat,ar Tryz.prog g (.v (.int .i64 x) :: caps) (.v (.bool (p x)))) :
  ar Tryz.prog 63 [.aC 1 (aI l) l.length, .fn g [] caps] (.v (.bool (l.any p))):=by
 have C:=xl caps hw p l hl H
 (refine ar.enter Tryz.func63 rfl (by kernel_rfl) (by kernel_rfl) rfl (by simp only [go_sem,aX,AV.wf,Wc,VC,Vq,hw]) (by simp only [go_sem,aX,AV.wf,bm,Wc,VC,Vq,hw]) ?_;simp only [Tryz.ntmps63,Tryz.results63,Uh,Ub,Nat.reduceAdd,Nat.reduceSub,List.replicate_succ,List.replicate_zero,VK,VJ])
 (refine bF ?_;intro K hK K hK)
 refine ab.one C ?_
 (revert K;revert K;refine bF ?_)
 rw [y7]
theorem Hm (last:List Nat) (n:Nat) (hl:last.length<=1000000):ar Tryz.prog 60 [.v (.int .i64 n), .vp [.aC 1 (aI last) last.length]] (.v (.bool (last.contains n))):=by
 have C:=yD last n hl;refine gE Tryz.func60 Tryz.ntmps60 Tryz.results60 ?_
 (refine bF ?_;intro K hK K hK)
 refine ab.one C ?_
 (revert K;revert K;exact y0)
def FL (l:List ByteArray):List (List AV):=b4 (l.zipIdx)
theorem CX (l:List ByteArray):(FL l).length=l.length:=by simp [FL,b4]
theorem zs (l:List ByteArray) (s:ByteArray): ∀k,look (l.zipIdx k) s=(pos l s).map (fun i=>i+k):=by
 induction l with
 | nil=>intro k;simp [look,pos]
 | cons a l ih=>
  intro k;rw [List.zipIdx_cons]
  have:=ih (k+1)
  simp only [look,pos,List.find?_cons,List.findIdx?_cons] at this ⊢
  cases h:cZ s a
  ·simp only [Bool.false_eq_true,if_false];rw [this,Option.map_map]
   congr 1;funext i;simp;omega
  ·simp
theorem Gb (s:ByteArray) (l:List ByteArray):oD .string (.string s) (FL l)=some ((pos l s).map (fun n=> .v (.int .i64 (n:Nat)))):=by
 rw [FL,wC,zs,Option.map_map];rfl
theorem Ht (l:List ByteArray) (s:ByteArray):FL (l++[s])=b4 (l.zipIdx++[(s,l.length)]):=by rw [FL,List.zipIdx_append];simp
theorem Gd (s:ByteArray) (l:List ByteArray) (h:pos l s=none):pM .string (.string s) (.v (.int .i64 (l.length:Nat))) (FL l)=some (FL (l++[s])):=by
 rw [FL,pN s l.length _ (by rw [zs,h];rfl),Ht]
@[go_sem] theorem SF (n:Nat) (l:List ByteArray):bw n (FL l)=true:=pA n _
mutual
theorem qj {f:Nat->Nat} {m:Nat} (hf: ∀k,k<m->f k=k): ∀a:AV,a.wf m=true->a.bd f=a
 | .undef,_=>rfl
 | .v _,_=>rfl
 | .agg cs,h=>by rw [AV.bd,gP hf cs h]
 | .cL cs,h=>by rw [AV.bd,gP hf cs h]
 | .aC z rows len,h=>by rw [AV.bd,rz hf rows h]
 | .vp cs,h=>by rw [AV.bd,gP hf cs h]
 | .ptr id _ _ _ _,h=>by simp [AV.wf] at h;rw [AV.bd,hf id h]
 | .vec id _,h=>by simp [AV.wf] at h;rw [AV.bd,hf id h]
 | .fn g a b,h=>by
  simp only [AV.wf,UW] at h;rw [AV.bd,gP hf a h.1,gP hf b h.2]
 | .full a,h=>by rw [AV.bd,qj hf a h]
 | .jU p a,h=>by rw [AV.bd,qj hf a h]
 | .mp rows,h=>by rw [AV.bd,rz hf rows h]
theorem gP {f:Nat->Nat} {m:Nat} (hf: ∀k,k<m->f k=k): ∀l:List AV,aX m l=true->bS f l=l
 | [],_=>rfl
 | a :: l,h=>by
  simp only [aX,UW] at h;rw [bS,qj hf a h.1,gP hf l h.2]
theorem rz {f:Nat->Nat} {m:Nat} (hf: ∀k,k<m->f k=k): ∀l:List (List AV),bw m l=true->cF f l=l
 | [],_=>rfl
 | a :: l,h=>by
  simp only [bw,UW] at h;rw [cF,gP hf a h.1,rz hf l h.2]
end
theorem qd {f:Nat->Nat} {m:Nat} (hf: ∀k,k<m->f k=k): ∀l:List (Option aa),(∀ob,some ob∈l->bw m ob.rows=true)->l.map (Option.map (aa.bd f))=l
 | [],_=>rfl
 | none :: l,h=>by rw [List.map_cons,qd hf l (fun ob hb=>h ob (U8 _ hb))];rfl
 | some ob :: l,h=>by
  rw [List.map_cons,qd hf l (fun ob hb=>h ob (U8 _ hb)),Option.map_some,aa.bd,rz hf _ (h ob List.mem_cons_self)]
theorem o9 (f:Nat->Nat): ∀(l X pre post:List (Option aa)),l.length=X.length->fM f (List.range' pre.length l.length) l (pre++X++post)=pre++l.map (Option.map (aa.bd f))++post
 | [],[],pre,post,_=>by simp [fM]
 | [],_ :: _,_,_,h=>by simp at h
 | _ :: _,[],_,_,h=>by simp at h
 | a :: l,b :: X,pre,post,h=>by
  rw [Uh,List.range'_succ,fM]
  have e1:(pre++b :: X++post).set pre.length (a.map (aa.bd f))=(pre++[a.map (aa.bd f)])++X++post:=by
   rw [List.append_assoc,Wq _ _ (Nat.le_refl _),Vf,VK,List.set_cons_zero];simp
  rw [e1]
  have:=o9 f l X (pre++[a.map (aa.bd f)]) post (by simpa using h)
  rw [List.length_append,List.length_singleton] at this;rw [this];simp
theorem ab.sub {P:Program} {f:FuncId} {args:List AV} {o0 o1 post:List (Option aa)} {r0:AV} {K:AV->List (Option aa)->Prop} (h:dN P f args o0 r0 o1) (hl:o1.length=o0.length)
  (hwa:aX o0.length args=true) (hw0: ∀ob,some ob∈o0->bw o0.length ob.rows=true) (hw1: ∀ob,some ob∈o1->bw o0.length ob.rows=true) (hr:r0.wf o0.length=true) (k:K r0 (o1++post)):ab P f args (o0++post) K:=by
 have hs: ∀j,j<o0.length->sig (List.range' 0 o0.length) (o0++post).length j=j:=fun j hj=>by
  rw [sig,if_pos (by simpa using hj),U3,Wr hj];simp
 refine ab.fr (List.range' 0 o0.length) h List.nodup_range' ?_ (gP hs _ hwa).symm (by rw [Ws];exact hwa) (fun j ob hj=>by rw [Ws];exact hw0 ob (UK hj)) ?_
 ·have e:o0.map (fun x=>some (x.map (aa.bd (sig (List.range' 0 o0.length) (o0++post).length))))=o0.map some:=by
   have h1:o0.map some=(o0.map (Option.map (aa.bd (sig (List.range' 0 o0.length) (o0++post).length)))).map some:=by rw [qd hs o0 hw0]
   rw [h1,List.map_map];rfl
  rw [e];refine Wt (by simp) fun j h1 h2=> ?_
  have hj:j<o0.length:=by simpa using h2
  simp only [V2,List.getElem_range',Nat.zero_add,Nat.one_mul];rw [Ud hj,Uq hj]
 ·have e:=o9 (sig (List.range' 0 o0.length) (o0++post).length) o1 o0 [] post hl;rw [Ub,hl,VJ,VJ] at e;rw [e,qj hs r0 hr,qd hs o1 hw1];exact k
theorem dL.sub {P:Program} {f:FuncId} {args:List AV} {o0 o1 post:List (Option aa)} {r0:AV} {K:AV->List (Option aa)->Prop} (h:dN P f args o0 r0 o1) (hl:o1.length=o0.length)
  (hwa:aX o0.length args=true) (hw0: ∀ob,some ob∈o0->bw o0.length ob.rows=true) (hw1: ∀ob,some ob∈o1->bw o0.length ob.rows=true) (hr:r0.wf o0.length=true) (k:K r0 (o1++post)):dL P f args (o0++post) K:=by
 have hs: ∀j,j<o0.length->sig (List.range' 0 o0.length) (o0++post).length j=j:=fun j hj=>by
  rw [sig,if_pos (by simpa using hj),U3,Wr hj];simp
 refine dL.fr (List.range' 0 o0.length) h List.nodup_range' ?_ (gP hs _ hwa).symm (by rw [Ws];exact hwa) (fun j ob hj=>by rw [Ws];exact hw0 ob (UK hj)) ?_
 ·have e:o0.map (fun x=>some (x.map (aa.bd (sig (List.range' 0 o0.length) (o0++post).length))))=o0.map some:=by
   have h1:o0.map some=(o0.map (Option.map (aa.bd (sig (List.range' 0 o0.length) (o0++post).length)))).map some:=by rw [qd hs o0 hw0]
   rw [h1,List.map_map];rfl
  rw [e];refine Wt (by simp) fun j h1 h2=> ?_
  have hj:j<o0.length:=by simpa using h2
  simp only [V2,List.getElem_range',Nat.zero_add,Nat.one_mul];rw [Ud hj,Uq hj]
 ·have e:=o9 (sig (List.range' 0 o0.length) (o0++post).length) o1 o0 [] post hl;rw [Ub,hl,VJ,VJ] at e;rw [e,qj hs r0 hr,qd hs o1 hw1];exact k
section
variable {D:Nat->Prop} {nu:Nat->Nat->Value} {o:List (Option aa)} {w:World} {P:Program}
theorem dA {s:AS} {k i j id len:Nat} {ob ob2:aa} {row:List AV} (hne:id≠k) (hk:s.o[k]? = some (some ob)) (hz:0<ob.z) (hr:ob.rows[i]? = some row) (hj:row[j]? = some (.vec id len)) (ho:s.o[id]? = some (some ob2)) (hv:ob2.gk=true) (hl:ob2.rows.length=len) :
  yg s (AS.mk s.t ((s.o.set id none).set k (some { ob with rows:=ob.rows.set i (row.set j (.aC ob2.z ob2.rows len)) })) s.y):=by
 intro f D nu a w hs;have hp:=dC (nu:=nu) (o:=s.o) (w:=w) id;have hro:=mO hs.ro id
 have hk':(s.o.set id none)[k]? = some (some ob):=by rw [Ux hne];exact hk
 have hh:ob.hl=({ ob with rows:=ob.rows.set i (row.set j (.aC ob2.z ob2.rows len)) }:aa).hl:=by simp [aa.hl]
 obtain ⟨g,cur,hb⟩: ∃g cur,ye D nu (s.o.set id none) w k ob g cur:=by
  rcases hro.obj k ob hk' with ⟨_,e,_⟩|h|⟨g,es,cl,hm⟩
  ·rw [e] at hr;simp at hr
  ·exact h
  ·have:=hm.z;omega
 have hm:=kr (nu:=nu) (o:=s.o.set id none) (w:=w) (w':=w) (ob':={ ob with rows:=ob.rows.set i (row.set j (.aC ob2.z ob2.rows len)) }) hk' hh.symm hb.bD rfl rfl rfl rfl (fun _ _=>rfl);refine ⟨nu,hp.trans hm,rfl, ?_,(hs.tm.mono hp (fun _ _ h=>h)).mono hm (fun _ _ h=>h),hs.jm⟩;have hil:=(Uc.1 hr).1;have hjl:=(Uc.1 hj).1;have hsl:=lj hs.ro ho hv;rw [hl] at hsl
 have key: ∀(i' j':Nat) r c,(ob.rows.set i (row.set j (.aC ob2.z ob2.rows len)))[i']? = some r->r[j']? = some c-> ∃r0 c0,ob.rows[i']? = some r0∧r0[j']? = some c0∧(c=c0∨(c = .aC ob2.z ob2.rows len∧c0 = .vec id len)):=by
  intro i' j' r c h1 h2
  by_cases hi:i=i'
  ·subst hi;rw [Uy hil] at h1;cases h1
   by_cases hj':j=j'
   ·subst hj';rw [Uy hjl] at h2;cases h2;exact ⟨row,_,hr,hj, .inr ⟨rfl,rfl⟩⟩
   ·rw [Ux hj'] at h2;exact ⟨row,c,hr,h2, .inl rfl⟩
  ·rw [Ux hi] at h1;exact ⟨r,c,h1,h2, .inl rfl⟩
 refine tT hro hk' hh.symm hb.bD hm (fun _ _=>rfl) (cur:=cur) ⟨hb.fL,hb.np,fun hv'=> ?_,fun hv'=> ?_,hb.z,fun i' r hi'=> ?_,fun i' j' r c x h1 h2 h3=> ?_,fun i' j' r c x h1 h2 h3=> ?_⟩
 ·obtain ⟨q1,q2,q3⟩:=hb.box hv';exact ⟨q1,by simpa using q2,q3⟩
 ·obtain ⟨cap,q1,q2,q3,q4⟩:=hb.vec hv';exact ⟨cap,by simpa using q1,by simpa using q2,q3,q4⟩
 ·by_cases hi:i=i'
  ·subst hi;rw [Uy hil] at hi';cases hi';rw [List.length_set];exact hb.row i row hr
  ·rw [Ux hi] at hi';exact hb.row i' r hi'
 ·obtain ⟨r0,c0,k1,k2,e⟩:=key i' j' r c h1 h2;have h0:=hb.cell i' j' r0 c0 x k1 k2 h3
  rcases e with rfl|⟨rfl,rfl⟩
  ·exact h0.mono hm (fun _ _ h=>h)
  ·have hx:x=nu id len:=by
    cases h0 with
    | vec=>rfl
   rw [hx];exact hsl.mono hm (fun _ _ h=>h)
 ·obtain ⟨r0,c0,k1,k2,_⟩:=key i' j' r c h1 h2;exact hb.one i' j' r0 c0 x k1 k2 h3
end
section
variable {o:List (Option aa)}
theorem ox.LW {id len:Nat} {ob:aa} (ho:o[id]? = some (some ob)) (hv:ob.gk=true) (hl:ob.rows.length=len) {rows':List (List AV)} (hlen:rows'.length=ob.rows.length)
  (hr: ∀(i:Nat) row row',ob.rows[i]? = some row->rows'[i]? = some row'->row'.length=row.length∧ ∀(j:Nat) c c',row[j]? = some c->row'[j]? = some c'->ox o c c'):ox o (.vec id len) (.aC ob.z rows' len):=fun D nu w x hro hra=>by
 have hx:x=nu id len:=by
  cases hra with
  | vec=>rfl
 subst hx;subst hl
 have get: ∀(i:Nat) row',rows'[i]? = some row'-> ∃row,ob.rows[i]? = some row∧row'.length=row.length∧ ∀(j:Nat) c',row'[j]? = some c'-> ∃c,row[j]? = some c∧ox o c c':=fun i row' h=>by
  have hi:i<ob.rows.length:=by rw [<-hlen];exact (Uc.1 h).1
  obtain ⟨h1,h2⟩:=hr i _ row' (Uq hi) h;refine ⟨_,Uq hi,h1,fun j c' hc=> ?_⟩
  have hj:j<ob.rows[i].length:=by rw [<-h1];exact (Uc.1 hc).1
  exact ⟨_,Uq hj,h2 j _ c' (Uq hj) hc⟩
 rcases hro.obj id ob ho with ⟨e1,e2,e3⟩|⟨g,cur,hb⟩|⟨g,es,cl,hmp⟩
 rotate_left 2
 ·rw [hmp.gk] at hv;cases hv
 ·rw [e2] at hlen ⊢;obtain rfl:=List.eq_nil_of_length_eq_zero hlen;simp only [Ub];rw [e3];exact .bu _
 ·obtain ⟨cap,q1,q2,q3,q4⟩:=hb.vec hv;have hown:owned nu o g:=⟨id,ob,ho,hb.bD⟩;rw [q1]
  have hget: ∀(i j:Nat) row c,ob.rows[i]? = some row->row[j]? = some c->cur[i * ob.z+j]? = some (cur.getD (i * ob.z+j) Go.undef):=fun i j row c k1 k2=>by
   have:=hb.oO k1 (Uc.1 k2).1
   simp [Array.getD,this]
  refine .aC _ _ _ g 0 cap (fun i j=>cur.getD (i * ob.z+j) Go.undef) (by omega) (by omega) q3 (fun _=>⟨(Ua.1 hb.fL).1,bl _ _,hown⟩) (fun i row' k1=> ?_) (fun i j row' c' k1 k2=> ?_) (fun i j row' c' k1 k2=> ?_) (fun i j row' c' k1 k2=> ?_)
  ·obtain ⟨row,r1,r2,_⟩:=get i row' k1;rw [r2];exact hb.row i row r1
  all_goals
   obtain ⟨row,r1,r2,r3⟩:=get i row' k1;obtain ⟨c,r4,r5⟩:=r3 j c' k2
  ·rw [<-hget i j row c r1 r4]
   have:=hb.fL
   simp [World.cell?,this]
  ·exact r5 D nu w _ hro (hb.cell i j row c _ r1 r4 (hget i j row c r1 r4))
  ·exact hb.one i j row c _ r1 r4 (hget i j row c r1 r4)
end
def cI (N:Nat) (g:Nat->Bool):List (List AV):=(List.range N).map (fun j=>[.v (.bool (g j))])
def jT (N:Nat) (f:Nat->Nat->Bool):List (List AV):=(List.range N).map (fun i=>[.aC 1 (cI N (f i)) N])
def jR (k i:Nat):Nat:=k+1+2 * i
def aY (k N m:Nat):List (List AV):=(List.range m).map (fun i=>[.vec (jR k i) N])
def js (N:Nat) (g:Nat->Bool):Option aa:=some ⟨4,1,true,cI N g⟩
def aV (N:Nat) (f:Nat->Nat->Bool) (m:Nat):List (Option aa):=(List.range m).flatMap (fun i=>[js N (f i),none])
def bN (k N m:Nat) (f:Nat->Nat->Bool):List (Option aa):=some ⟨54,1,true,aY k N m⟩ :: aV N f m
theorem iW (N:Nat) (g:Nat->Bool):(cI N g).length=N:=by simp [cI]
theorem rl (N:Nat) (f:Nat->Nat->Bool):(jT N f).length=N:=by simp [jT]
theorem cC (k N m:Nat):(aY k N m).length=m:=by simp [aY]
theorem ag (N:Nat) (f:Nat->Nat->Bool) (m:Nat):(aV N f m).length=2 * m:=by
 induction m with
 | zero=>rfl
 | succ m ih=>rw [aV,Wu,List.flatMap_append,List.length_append, <- aV,ih];simp;omega
theorem dP (N:Nat) (f:Nat->Nat->Bool) (m:Nat):aV N f (m+1)=aV N f m++[js N (f m),none]:=by
 rw [aV,Wu,List.flatMap_append, <- aV];simp
theorem dm (k N m:Nat):aY k N (m+1)=aY k N m++[[.vec (jR k m) N]]:=by rw [aY,Wu,List.map_append];rfl
theorem cN {N j:Nat} {g:Nat->Bool} (h:j<N):(cI N g).getD j []=[.v (.bool (g j))]:=by
 rw [U3,cI,Ut,Uu h];rfl
theorem qc {N i:Nat} {f:Nat->Nat->Bool} (h:i<N):(jT N f).getD i []=[.aC 1 (cI N (f i)) N]:=by
 rw [U3,jT,Ut,Uu h];rfl
theorem jo {k N m i:Nat} (h:i<m):(aY k N m).getD i []=[.vec (jR k i) N]:=by
 rw [U3,aY,Ut,Uu h];rfl
theorem lg {N:Nat} {g h:Nat->Bool} (e: ∀j,j<N->g j=h j):cI N g=cI N h:=by
 refine Wv fun j hj=> ?_;rw [e j (Vk.1 hj)]
theorem Nx {N:Nat} {g h:Nat->Nat->Bool} (e: ∀i j,i<N->j<N->g i j=h i j):jT N g=jT N h:=by
 refine Wv fun i hi=> ?_;rw [lg (fun j hj=>e i j (Vk.1 hi) hj)]
theorem ez {N m:Nat} {g h:Nat->Nat->Bool} (e: ∀i j,i<m->j<N->g i j=h i j):aV N g m=aV N h m:=by
 rw [aV,aV,List.flatMap_def,List.flatMap_def]
 congr 1
 refine Wv fun i hi=> ?_;rw [js,js,lg (fun j hj=>e i j (Vk.1 hi) hj)]
theorem jg (N:Nat):List.replicate N [AV.v (.bool false)]=cI N (fun _=>false):=by
 refine Wt (by simp [cI]) fun i h1 h2=>by simp [cI]
theorem p8 {N:Nat} {f:Nat->Nat->Bool}: ∀ {m i:Nat},i<m->(aV N f m)[2 * i]? = some (js N (f i))
 | 0,_,h=>by omega
 | m+1,i,h=>by
  rw [dP]
  by_cases hi:i<m
  ·rw [Ud (by rw [ag];omega)];exact p8 hi
  ·obtain rfl:i=m:=by omega
   rw [List.getElem?_append_right (by rw [ag];omega),ag,Vf];rfl
theorem kg {k N m i:Nat} {f:Nat->Nat->Bool} {x:Option aa} (h:i<m):(x :: aV N f m)[jR 0 i]? = some (js N (f i)):=by
 rw [show jR 0 i=2 * i+1 by unfold jR;omega,List.getElem?_cons_succ];exact p8 h
def lh (f:Nat->Nat->Bool) (i j:Nat) (v:Bool):Nat->Nat->Bool:=fun p q=>if p=i∧q=j then v else f p q
theorem pj {N j:Nat} {g:Nat->Bool} {v:Bool}:(cI N g).set j [.v (.bool v)]=cI N (fun q=>if q=j then v else g q):=by
 refine Wt (by simp [cI]) fun q h1 h2=> ?_;rw [List.getElem_set];simp only [cI,V2,List.getElem_range]
 split
 ·rename_i e;subst e;rw [if_pos rfl]
 ·rename_i e;rw [if_neg (fun e'=>e e'.symm)]
theorem vd {N:Nat} {f:Nat->Nat->Bool} {j:Nat} {v:Bool}: ∀ {m i:Nat},i<m->(aV N f m).set (2 * i) (some ⟨4,1,true,(cI N (f i)).set j [.v (.bool v)]⟩)=aV N (lh f i j v) m
 | 0,_,h=>by omega
 | m+1,i,h=>by
  rw [dP,dP]
  by_cases hi:i<m
  ·have e:js N (lh f i j v m)=js N (f m):=by
    rw [js,js,lg (fun q _=>by rw [lh,if_neg (by omega)])]
   rw [List.set_append_left _ _ (by rw [ag];omega),vd hi,e]
  ·obtain rfl:i=m:=by omega
   rw [Wq _ _ (by rw [ag];omega),ag,Vf,List.set_cons_zero];rw [ez (g:=lh f i j v) (h:=f) (fun p q hp _=>by rw [lh,if_neg (by omega)])]
   congr 2
   rw [js,pj]
   congr 2
   refine lg fun q _=> ?_;rw [lh]
   by_cases hq:q=j
   ·rw [if_pos hq,if_pos ⟨rfl,hq⟩]
   ·rw [if_neg hq,if_neg (fun e=>hq e.2)]
theorem mf {N m i j:Nat} {f:Nat->Nat->Bool} {v:Bool} {x:Option aa} (h:i<m):(x :: aV N f m).set (jR 0 i) (some ⟨4,1,true,(cI N (f i)).set j [.v (.bool v)]⟩)=x :: aV N (lh f i j v) m:=by
 rw [show jR 0 i=2 * i+1 by unfold jR;omega,List.set_cons_succ,vd h]
theorem aU (n N:Nat) (g:Nat->Bool):bw n (cI N g)=true:=bz _ (fun _=>rfl) _
theorem ep (n N:Nat) (f:Nat->Nat->Bool):bw n (jT N f)=true:=bz _ (fun i=>by simp only [aX,AV.wf,aU,Wc]) _
attribute [go_sem] aU ep iW rl cC
theorem Ah (n:Nat): ∀(a:List (List AV)) (b:List AV),bw n (a++[b])=(bw n a&&aX n b)
 | [],b=>by simp [bw]
 | x :: a,b=>by simp only [VK,bw,Ah n a b,Bool.and_assoc]
theorem jv {n k N:Nat}: ∀ {m:Nat},k+2 * m<=n->bw n (aY k N m)=true
 | 0,_=>rfl
 | m+1,h=>by
  rw [dm,Ah,jv (by omega)]
  have hr:jR k m<n:=by unfold jR;omega
  simp [bw,aX,AV.wf,hr]
theorem oZ (N:Nat) (f:Nat->Nat->Bool):ox (bN 0 N N f) (.vec 0 N) (.aC 1 (jT N f) N):=by
 refine ox.LW (ob:=⟨54,1,true,aY 0 N N⟩) rfl rfl (cC _ _ _) (by rw [rl];exact (cC _ _ _).symm) fun i row row' h1 h2=> ?_
 have hi:i<N:=by have:=(Uc.1 h1).1;rw [cC] at this;exact this
 have e1:(aY 0 N N)[i]? = some [.vec (jR 0 i) N]:=by rw [aY,Ut,Uu hi];rfl
 have e2:(jT N f)[i]? = some [.aC 1 (cI N (f i)) N]:=by rw [jT,Ut,Uu hi];rfl
 cases (T6 (e1.symm.trans h1));cases (T6 (e2.symm.trans h2));refine ⟨rfl,fun j c c' k1 k2=> ?_⟩
 match j,k1,k2 with
 | 0,k1,k2=>
  cases k1;cases k2;exact ox.vec (ob:=⟨4,1,true,cI N (f i)⟩) (kg (k:=0) hi) rfl (iW _ _) (vH _ (fun s c hc=>by rw [List.mem_singleton] at hc;exact ⟨_,hc⟩) _)
 | j+1,k1,k2=>simp at k1
end
section
section
variable {o:List (Option aa)} {P:Program}
theorem bH.v (x:Value):bH o (.v x) (.v x):=fun D nu w y hro hra=>by rw [hra.cO];exact .v x
theorem bH.cL {l m:List AV} (h:AB o l m):bH o (.cL l) (.cL m):=fun D nu w x hro hra=>by
 obtain ⟨h1,h2⟩:=h.at'
 cases hra with
 | cL _ xs k1 k2=>
  refine .cL _ _ (by omega) fun i c y q1 q2=> ?_
  have hi:i<l.length:=by rw [h1];exact (Uc.1 q1).1
  exact h2 i _ c (Uq hi) q1 D nu w y hro (k2 i _ y (Uq hi) q2)
theorem bH.ptr {id z:Nat} {ob:aa} {row cs:List AV} (ho:o[id]? = some (some ob)) (hv:ob.gk=false) (hr:ob.rows=[row]) (hz:ob.z≠0) (h:AB o row cs):bH o (.ptr id 0 z 0 0) (.vp cs):=fun D nu w x hro hra=>by
 obtain ⟨hl,hall⟩:=h.at'
 cases hra with
 | ptr _ _ _ _ _ b h1 h2=>
 rcases hro.obj id ob ho with ⟨e1,e2,e3⟩|⟨g,cur,hb⟩|⟨g,es,cl,hmp⟩
 ·rw [e2] at hr;cases hr
 ·have hb0:=hb.oK;rw [aa.hl,hv,if_neg (by decide)] at hb0;rw [hb0] at h2;cases h2
  have hrow:ob.rows[0]? = some row:=by rw [hr];rfl
  have hget: ∀(j:Nat) c,cs[j]? = some c-> ∃c0,row[j]? = some c0∧cur[0 * ob.z+j]? = some (cur.getD (0 * ob.z+j) Go.undef):=fun j c hc=>by
   have hj:j<row.length:=by rw [hl];exact (Uc.1 hc).1
   have:=hb.oO hrow hj
   refine ⟨_,Uq hj, ?_⟩;rw [Up this,Array.getD,dif_pos this]
   rfl
  refine .vp _ b _ (fun j=>cur.getD (0 * ob.z+j) Go.undef) ⟨(Ua.1 hb.fL).1,bl _ _,hb.np⟩ (fun j c hc=> ?_) (fun j c hc=> ?_) (fun j c hc=> ?_)
  all_goals obtain ⟨c0,k1,k2⟩:=hget j c hc
  ·have hblk:=hb.fL;simp only [Nat.zero_mul,Nat.zero_add] at k2 ⊢;rw [<-k2];simp [World.cell?,hblk]
  ·exact hall j c0 c k1 hc D nu w _ hro (hb.cell 0 j row c0 _ hrow k1 k2)
  ·exact hb.one 0 j row c0 _ hrow k1 k2
 ·exact absurd hmp.z hz
theorem bH.LW {id len:Nat} {ob:aa} (ho:o[id]? = some (some ob)) (hv:ob.gk=true) (hl:ob.rows.length=len) {rows':List (List AV)} (hlen:rows'.length=ob.rows.length)
  (hr: ∀(i:Nat) row row',ob.rows[i]? = some row->rows'[i]? = some row'->AB o row row'):bH o (.vec id len) (.aC ob.z rows' len):=fun D nu w x hro hra=>by
 have hx:x=nu id len:=by
  cases hra with
  | vec=>rfl
 subst hx;subst hl
 have get: ∀(i:Nat) row',rows'[i]? = some row'-> ∃row,ob.rows[i]? = some row∧row'.length=row.length∧ ∀(j:Nat) c',row'[j]? = some c'-> ∃c,row[j]? = some c∧bH o c c':=fun i row' h=>by
  have hi:i<ob.rows.length:=by rw [<-hlen];exact (Uc.1 h).1
  obtain ⟨h1,h2⟩:=(hr i _ row' (Uq hi) h).at';refine ⟨_,Uq hi,h1.symm,fun j c' hc=> ?_⟩
  have hj:j<ob.rows[i].length:=by rw [h1];exact (Uc.1 hc).1
  exact ⟨_,Uq hj,h2 j _ c' (Uq hj) hc⟩
 rcases hro.obj id ob ho with ⟨e1,e2,e3⟩|⟨g,cur,hb⟩|⟨g,es,cl,hmp⟩
 rotate_left 2
 ·rw [hmp.gk] at hv;cases hv
 ·rw [e2] at hlen ⊢;obtain rfl:=List.eq_nil_of_length_eq_zero hlen;simp only [List.length_nil];rw [e3];exact .bu _
 ·obtain ⟨cap,q1,q2,q3,q4⟩:=hb.vec hv;rw [q1]
  have hget: ∀(i j:Nat) row c,ob.rows[i]? = some row->row[j]? = some c->cur[i * ob.z+j]? = some (cur.getD (i * ob.z+j) Go.undef):=fun i j row c k1 k2=>by
   have:=hb.oO k1 (Uc.1 k2).1
   simp [Array.getD,this]
  refine .aC _ _ _ g 0 cap (fun i j=>cur.getD (i * ob.z+j) Go.undef) (by omega) (by omega) q3 (fun _=>⟨(Ua.1 hb.fL).1,bl _ _,hb.np⟩) (fun i row' k1=> ?_) (fun i j row' c' k1 k2=> ?_) (fun i j row' c' k1 k2=> ?_) (fun i j row' c' k1 k2=> ?_)
  ·obtain ⟨row,r1,r2,_⟩:=get i row' k1;rw [r2];exact hb.row i row r1
  all_goals
   obtain ⟨row,r1,r2,r3⟩:=get i row' k1;obtain ⟨c,r4,r5⟩:=r3 j c' k2
  ·rw [<-hget i j row c r1 r4]
   have:=hb.fL
   simp [World.cell?,this]
  ·exact r5 D nu w _ hro (hb.cell i j row c _ r1 r4 (hget i j row c r1 r4))
  ·exact hb.one i j row c _ r1 r4 (hget i j row c r1 r4)
theorem ar.l5 {f:FuncId} {fn:Func} {c:Code} {args:List AV} {r:AV} (hf:P.funcs[f]? = some fn) (hb:fn.body=some c) (hc:ei P f=true) (hok:b5 c=true) (hmx:P.follows .mixedOrders=true)
  (ha:aX 0 args=true) (hr:r.wf 0=true) (h:cr P 0 c ⟨args++List.replicate (fn.ntmps - args.length) .undef,[], .no⟩ (we P fn.results.toList (fun r0 o=>bH o r0 r))):ar P f args r:=by
 obtain ⟨_,h2⟩:=gr.enter (o:=[]) hf hb hc hok hmx h;refine ⟨⟨ha,hr⟩,hc,fun D nu w vargs hro hra=>(h2 D nu w vargs hro hra).mono ?_⟩;rintro e w' ⟨v,nu',o',r0,rfl,hm,hro',hra',hz⟩;have hm':bI nu [] w nu' [] w':=⟨hm.os,hm.tape,hm.output,hm.size,fun id len hh=>by obtain ⟨x,k,_⟩:=hh;simp at k,fun b hb ho=>⟨(hm.keep b hb ho).1,bl _ _⟩⟩;exact ⟨v,nu',[],r,rfl,hm',(.nil _ _ _ hro'.up (hro'.gl.nil (fun _ _ h=>h))),hz _ _ _ _ hro' hra',rfl,rfl⟩
end
mutual
theorem xJ {f g:Nat->Nat} {m:Nat} (hf: ∀k,k<m->f k=g k): ∀a:AV,a.wf m=true->a.bd f=a.bd g
 | .undef,_=>rfl
 | .v _,_=>rfl
 | .agg cs,h=>by rw [AV.bd,AV.bd,jJ hf cs h]
 | .cL cs,h=>by rw [AV.bd,AV.bd,jJ hf cs h]
 | .aC z rows len,h=>by rw [AV.bd,AV.bd,ry hf rows h]
 | .vp cs,h=>by rw [AV.bd,AV.bd,jJ hf cs h]
 | .ptr id _ _ _ _,h=>by simp [AV.wf] at h;rw [AV.bd,AV.bd,hf id h]
 | .vec id _,h=>by simp [AV.wf] at h;rw [AV.bd,AV.bd,hf id h]
 | .fn g a b,h=>by
  simp only [AV.wf,UW] at h;rw [AV.bd,AV.bd,jJ hf a h.1,jJ hf b h.2]
 | .full a,h=>by rw [AV.bd,AV.bd,xJ hf a h]
 | .jU p a,h=>by rw [AV.bd,AV.bd,xJ hf a h]
 | .mp rows,h=>by rw [AV.bd,AV.bd,ry hf rows h]
theorem jJ {f g:Nat->Nat} {m:Nat} (hf: ∀k,k<m->f k=g k): ∀l:List AV,aX m l=true->bS f l=bS g l
 | [],_=>rfl
 | a :: l,h=>by
  simp only [aX,UW] at h;rw [bS,bS,xJ hf a h.1,jJ hf l h.2]
theorem ry {f g:Nat->Nat} {m:Nat} (hf: ∀k,k<m->f k=g k): ∀l:List (List AV),bw m l=true->cF f l=cF g l
 | [],_=>rfl
 | a :: l,h=>by
  simp only [bw,UW] at h;rw [cF,cF,jJ hf a h.1,ry hf l h.2]
end
theorem xF {f g:Nat->Nat} {m:Nat} (hf: ∀k,k<m->f k=g k): ∀l:List (Option aa),(∀ob,some ob∈l->bw m ob.rows=true)->l.map (Option.map (aa.bd f))=l.map (Option.map (aa.bd g))
 | [],_=>rfl
 | none :: l,h=>by rw [Wa,Wa,xF hf l (fun ob hb=>h ob (U8 _ hb))];rfl
 | some ob :: l,h=>by
  rw [Wa,Wa,xF hf l (fun ob hb=>h ob (U8 _ hb)),UI,UI,aa.bd,aa.bd,ry hf _ (h ob List.mem_cons_self)]
theorem ab.RX {P:Program} {f:FuncId} {args0:List AV} {pre o0 o1 post:List (Option aa)} {r0:AV} {K:AV->List (Option aa)->Prop} (h:dN P f args0 o0 r0 o1) (hl:o1.length=o0.length)
  (hwa:aX o0.length args0=true) (hw0: ∀ob,some ob∈o0->bw o0.length ob.rows=true) (hw1: ∀ob,some ob∈o1->bw o0.length ob.rows=true) (hr:r0.wf o0.length=true)
  (k:K (r0.bd (fun j=>pre.length+j)) (pre++o1.map (Option.map (aa.bd (fun j=>pre.length+j)))++post)):ab P f (bS (fun j=>pre.length+j) args0) (pre++o0.map (Option.map (aa.bd (fun j=>pre.length+j)))++post) K:=by
 have hs: ∀j,j<o0.length->sig (List.range' pre.length o0.length) (pre++o0.map (Option.map (aa.bd (fun j=>pre.length+j)))++post).length j=pre.length+j:=fun j hj=>by
  rw [sig,if_pos (by simpa using hj),List.getD_eq_getElem?_getD,List.getElem?_range' hj];simp
 refine ab.fr (List.range' pre.length o0.length) h List.nodup_range' ?_ (jJ hs _ hwa).symm (by rw [List.length_range'];exact hwa) (fun j ob hj=>by rw [List.length_range'];exact hw0 ob (List.mem_of_getElem? hj)) ?_
 ·have e2:=xF hs o0 hw0
  have e3: ∀L:List (Option aa),pre++o0.map (Option.map (aa.bd (fun j=>pre.length+j)))++post=L->(List.range' pre.length o0.length).map (fun i=>L[i]?)=(o0.map (Option.map (aa.bd (fun j=>pre.length+j)))).map some:=by
   rintro L rfl;refine List.ext_getElem (by simp) fun j h1 h2=> ?_
   have hj:j<o0.length:=by simpa using h2
   simp only [List.getElem_map,List.getElem_range',Nat.one_mul];rw [List.append_assoc,List.getElem?_append_right (by omega),Nat.add_sub_cancel_left,List.getElem?_append_left (by simpa using hj),List.getElem?_map,Uq hj,UI]
  rw [e3 _ rfl];refine (congrArg (List.map some) e2.symm).trans ?_;rw [List.map_map]
  rfl
 ·have e:=o9 (sig (List.range' pre.length o0.length) (pre++o0.map (Option.map (aa.bd (fun j=>pre.length+j)))++post).length) o1 (o0.map (Option.map (aa.bd (fun j=>pre.length+j)))) pre post (by simpa using hl);rw [hl] at e;rw [e,xJ hs r0 hr,xF hs o1 hw1];exact k
theorem bH.uD {o:List (Option aa)} {z len:Nat} {rows:List (List AV)} (h:bw 0 rows=true):bH o (.aC z rows len) (.aC z rows len):=bH.of 1 (p:=(AV.aC z rows len).wf 0=true) (by rw [gW]<;>simp) (by rw [AV.wf];exact h)
theorem bH.Ae {o:List (Option aa)} {id len:Nat} {ob:aa} (ho:o[id]? = some (some ob)) (hv:ob.gk=true) (hl:ob.rows.length=len) (hw:bw 0 ob.rows=true):bH o (.vec id len) (.aC ob.z ob.rows len):=bH.of 1 (p:=ob.gk=true∧ob.rows.length=len∧bw 0 ob.rows=true) (by rw [gW,ho]) ⟨hv,hl,hw⟩
section
variable {P:Program}
theorem DR {n0:Nat} {c:Code} {s:AS} {Q:a7->AS->Prop} (s0:AS) (hok:b5 c=true) (h:cr P n0 c s (fun e s'=>e = .normal∧Wk n0 s' s0)) (k:Q .normal s0):DF P n0 c s Q:=fun f m D nu a w hZr hn hm hs hmx R hO hR=>by
 refine j4 hmx m hZr hn c hok s a w D nu f.Z _ R hO hm hs h ?_;rintro e D' Z' s' a' w' nu' h1 h2 ⟨rfl,hk⟩;refine hR .normal D' Z' s0 a' w' nu' ?_ (ln hk h2) k;rw [<-hk.y];exact m.step h1 h2.ro hk.vz (ln hk h2).ro (fun c v hr hc=>hk.ra hr hc) (fun _ h=> .inl h) (fun _ h=> .inl h) (fun b hb=>⟨((m.rF h1).1 b hb).1,((m.rF h1).1 b hb).2, .inl hb⟩) (Nat.le_trans hn hk.n)
theorem yu {n0 id:Nat} {s:AS} {ops:Array Oper} {d:Bool} {Q:a7->AS->Prop} (s0:AS) (hok:dw ops=true) (h:cr P n0 (.region id ops d) s (fun e s'=>e = .normal∧Wk n0 s' s0)) (k:Q .normal s0):cr P n0 (.region id ops d) s Q:=by
 have:=DR (c:= .region id ops d) s0 hok h k
 cases d
 ·exact .inr this
 ·exact .inr this
end
section
variable {P:Program} {ops:Array Oper}
def gY:List Oper->List Oper
 | []=>[]
 | o :: l=>o :: l.map (fun p=>{ p with after:=p.after.push ⟨0, .data⟩ })
theorem sc (l:List Oper):(gY l).length=l.length:=by cases l<;>simp [gY]
theorem oQ (l:List Oper) (i:Nat):(gY l)[i]? = (l[i]?).map (fun p=>if i=0 then p else { p with after:=p.after.push ⟨0, .data⟩ }):=by
 cases l with
 | nil=>simp [gY]
 | cons o l=>
  cases i with
  | zero=>simp [gY]
  | succ i=>simp [gY]
theorem Ba (l:List Oper) (t:Array Value):yielded (gY l).toArray t=yielded l.toArray t:=by
 funext j
 simp only [yielded,Us,oQ]
 cases l[j]? with
 | none=>rfl
 | some o=>by_cases h:j=0<;>simp only [UI,Option.bind_some,h,if_true,if_false]
theorem Kw {F:Fence} {n:Nat} {Q:Exit->Act->World->Prop} {l:List Oper} {i:Nat} {K:Act->World->Prop} {a:Act} {w:World} (h:wpOpIn F n P (gY l).toArray Q i K a w):wpOpIn F n P l.toArray Q i K a w:=by
 unfold wpOpIn at h ⊢;simp only [Us,oQ,Ba] at h ⊢
 cases ho:l[i]? with
 | none=>simpa [ho] using h
 | some o=>
  simp only [ho,UI] at h ⊢
  split at h<;>exact h
theorem Cv {F:Fence} {n:Nat} {Q:Exit->Act->World->Prop} {l:List Oper} {ops:Array Oper} {E:Act->World->Prop}: ∀(fuel:Nat) (listed:Array Bool) (a:Act) (w:World),mZ (wpOpIn F n P (gY l).toArray Q) ops E fuel listed a w->mZ (wpOpIn F n P l.toArray Q) ops E fuel listed a w
 | 0,_,_,_,h=>h
 | fuel+1,_,_,_,h=>⟨h.1,fun i hi=>Kw (wpOpIn_mono (fun _ _=>Cv fuel _ _ _) (h.2 i hi))⟩
theorem sd {l:List Oper} {listed:Array Bool} (h0:listed.getD 0 false=true):Region.ready .any (gY l).toArray listed=Region.ready .any l.toArray listed:=by
 unfold Region.ready;simp only [UA,sc,Us,oQ];refine List.filter_congr fun i _=> ?_
 congr 1
 cases l[i]? with
 | none=>rfl
 | some o=>
  simp only [UI,Option.getD_some]
  split
  ·rfl
  ·simp;intro _;right;simpa using h0
theorem yG {st:Nat->(Act->World->Prop)->Act->World->Prop} (hst: ∀(i:Nat) (K K':Act->World->Prop) (a:Act) (w:World),(∀a w,K a w->K' a w)->st i K a w->st i K' a w) {l:List Oper} {E:Act->World->Prop}: ∀(fuel:Nat) (listed:Array Bool) (a:Act) (w:World),listed.getD 0 false=true->mZ st (gY l).toArray E fuel listed a w->mZ st l.toArray E fuel listed a w
 | 0,listed,a,w,h0,h=>by
  rw [mZ,sd h0] at h;exact h
 | fuel+1,listed,a,w,h0,h=>by
  rw [mZ,sd h0] at h;refine ⟨h.1,fun i hi=>hst _ _ _ _ _ (fun a w=>yG hst fuel _ a w ?_) (h.2 i hi)⟩
  by_cases hi0:i=0
  ·subst hi0
   have:0<listed.size:=by
    rcases Nat.eq_zero_or_pos listed.size with q|q
    ·simp [q] at h0
    ·exact q
   simp [this]
  ·rw [getD_set_ne false hi0];exact h0
theorem Es {r:Option Nat} {n i:Nat} {o:Oper} {Q:Exit->Act->World->Prop} (hC:dw ops=true) (hns:Region.noSelect ops=true) (hP: ∀c a w, ¬Q (.panic c) a w) (ho:ops[i]? = some o) {d t:Tmp} {v:Value} {a:Act} {w:World} {K:Act->World->Prop} (hd:d∉o.looksAt ops) (hod:o.dst≠some d) (hot:o.dst≠some t) (h:wpOpIn (WF r) n P ops Q i K (a.put (some d) v) w) :
  wpOpIn (WF r) n P ops Q i (fun a' w'=>K (a'.put (some d) v) w'∧a'.eval (.tmp t)=a.eval (.tmp t)) a w:=by
 have hsel:=fun cs b=>Region.noSelect_spec hns i o cs b ho;have hput: ∀(a:Act) (u:Value),(a.put (some d) v).put o.dst u=(a.put o.dst u).put (some d) v:=fun a u=>Act.put_comm a v u (fun e he q=>hod (by rw [q,he]))
 have hev: ∀(a:Act) (u:Value),(a.put o.dst u).eval (.tmp t)=a.eval (.tmp t):=fun a u=>Act.eval_put fun e he hx=>hot (by
  rw [he];injection hx with hx;rw [hx])
 unfold wpOpIn at h ⊢;simp only [ho] at h ⊢;rw [wanted_put o a (some d) v (fun e he=>by injection he with he;exact he ▸ hd)] at h
 split at h
 ·rename_i hw;rw [if_pos hw];refine ⟨fun f _=>trivial, ?_⟩;have h:=h.2;rw [lX hC ho,execOp_put o hsel a (some d) v (fun e he=>by injection he with he;exact he ▸ hd)] at h;rw [lX hC ho];generalize (execOp a.eval o).run P w=res at h ⊢
  cases res with
  | ok x w'=>
   cases x<;>simp only [Oper.uponIn] at h ⊢
   case value=>exact ⟨hput _ _ ▸ h,hev _ _⟩
   case skip=>exact ⟨hput _ _ ▸ h,hev _ _⟩
   case enter=>
    refine ⟨h.1,CallsIn.mono h.2 fun e w'' he=> ?_⟩;cases e
    case returned=>exact ⟨hput _ _ ▸ he,hev _ _⟩
    case panicked=>exact absurd he (hP _ _ _)
    case outgrown=>exact he
   case defer q=>exact ⟨hput { a with defers:=q :: a.defers } undef ▸ h,hev { a with defers:=q :: a.defers } undef⟩
   case row=>exact ⟨h.1,RowsIn.mono h.2 fun _ _ he=>⟨hput _ _ ▸ he,hev _ _⟩⟩
   case round=>
    refine ⟨h.1,RoundIn.mono h.2 fun e w'' he=> ?_⟩;cases e
    case returned=>exact ⟨hput _ _ ▸ he,hev _ _⟩
    case panicked=>exact absurd he (hP _ _ _)
    case outgrown=>exact he
  | halt x w'=>
   cases x<;>simp only [Oper.uponIn] at h ⊢
   all_goals first|exact h|exact absurd h (hP _ _ _)
 ·rename_i hw;rw [if_neg hw];exact ⟨fun f _=>trivial,hput _ _ ▸ h.2,hev _ _⟩
def vq (ops:Array Oper) (d t:Tmp):Bool:=
 Region.noSelect ops&&dw ops&&(d !=t)&&(match ops[0]? with|some o=>(o.dst==some d)&&(match o.op with| .move (.tmp u)=>u==t|_=>false)&&o.guard.isNone&&(o.after.size==0)|none=>false) &&
 (List.range ops.size).all (fun j=>j==0||match ops[j]? with|some o=>(o.dst !=some d)&&(o.dst !=some t)&&(aE ops j 0 || !(o.looksAt ops).contains d)|none=>true)
theorem zm {r:Option Nat} {n:Nat} {Q:Exit->Act->World->Prop} {d t:Tmp} (hL:vq ops d t=true):0<ops.size∧(∀(l:List Oper) (listed:Array Bool),l.toArray=ops->listed.getD 0 true=false->0∈Region.ready .any (gY l).toArray listed)∧(∀(listed:Array Bool),listed.getD 0 true=false->0∈Region.ready .any ops listed)∧ ∀(K:Act->World->Prop) a w,wpOpIn (WF r) n P ops Q 0 K a w↔K (a.put (some d) (a.eval (.tmp t))) w:=by
 simp only [vq,UW,List.all_eq_true,List.mem_range,bne_iff_ne] at hL;obtain ⟨⟨⟨⟨hns,hC⟩,hdt⟩,h0⟩,hall⟩:=hL
 obtain ⟨o0,ho0,hdst,hop,hg,haf⟩: ∃o0:Oper,ops[0]? = some o0∧o0.dst=some d∧o0.op = .move (.tmp t)∧o0.guard=none∧o0.after = #[]:=by
  cases ho:ops[0]? with
  | none=>simp [ho] at h0
  | some o=>
   simp only [ho,UW,beq_iff_eq] at h0;refine ⟨o,rfl,h0.1.1.1, ?_,by simpa using h0.1.2,by simpa using h0.2⟩
   have:=h0.1.1.2
   split at this
   ·rename_i u hu;rw [hu];simp at this;rw [this]
   ·cases this
 have h0s:0<ops.size:=by
  rcases Nat.eq_zero_or_pos ops.size with q|q
  ·rw [Array.getElem?_eq_none (by omega)] at ho0;cases ho0
  ·exact q
 refine ⟨h0s,fun l listed hl' hl=>mem_ready.2 ⟨hl,o0,by subst hl';simp only [Us] at ho0;simp [oQ,ho0],fun e he _=>by rw [haf] at he;simp at he⟩,fun listed hl=>mem_ready.2 ⟨hl,o0,ho0,fun e he _=>by rw [haf] at he;simp at he⟩, ?_⟩
 ·intro K a w;unfold wpOpIn;simp only [ho0];rw [if_pos (by simp [Region.wanted,hg])];unfold Oper.wpIn;rw [lX hC ho0]
  have:(execOp a.eval o0).run P w = .ok (.value (a.eval (.tmp t))) w:=by unfold execOp;rw [hop];rfl
  rw [this];simp only [Oper.uponIn,hdst];exact ⟨fun h=>h.2,fun h=>⟨fun f _=>trivial,h⟩⟩
theorem BA {r:Option Nat} {n:Nat} {Q:Exit->Act->World->Prop} {E:Act->World->Prop} {d t:Tmp} (hL:vq ops d t=true) (hP: ∀c a w, ¬Q (.panic c) a w): ∀(fuel:Nat) (listed:Array Bool) (a:Act) (w:World),listed.size=ops.size->listed.getD 0 true=false->mZ (wpOpIn (WF r) n P ops Q) ops E fuel (listed.setIfInBounds 0 true) (a.put (some d) (a.eval (.tmp t))) w->mZ (wpOpIn (WF r) n P ops Q) ops E (fuel+1) listed a w:=by
 obtain ⟨h0s, -,hread,hrun⟩:=zm (P:=P) (Q:=Q) (r:=r) (n:=n) hL;simp only [vq,UW,List.all_eq_true,List.mem_range,bne_iff_ne] at hL;obtain ⟨⟨⟨⟨hns,hC⟩,hdt⟩,h0⟩,hall⟩:=hL
 have hstep: ∀(listed:Array Bool),listed.size=ops.size->listed.getD 0 true=false-> ∀i∈Region.ready .any ops listed,i≠0->i∈Region.ready .any ops (listed.setIfInBounds 0 true)∧ ∀(K:Act->World->Prop) v a w,wpOpIn (WF r) n P ops Q i K (a.put (some d) v) w->wpOpIn (WF r) n P ops Q i (fun a' w'=>K (a'.put (some d) v) w'∧a'.eval (.tmp t)=a.eval (.tmp t)) a w:=by
  intro listed hs hl i hi hi0;obtain ⟨g1,o,g2,g3⟩:=mem_ready.1 hi;have hil:i<ops.size:=(Ua.1 g2).1
  refine ⟨mem_ready.2 ⟨by rw [getD_set_ne true (Ne.symm hi0)];exact g1,o,g2,fun e he hb=> ?_⟩, ?_⟩
  ·by_cases he0:e.on=0
   ·rw [he0];simp [hs,h0s]
   ·rw [getD_set_ne false (Ne.symm he0)];exact g3 e he hb
  ·have ha:=hall i hil;simp only [g2,Bool.or_eq_true,beq_iff_eq,hi0,false_or,UW,bne_iff_ne] at ha;intro K v a w h;refine Es hC hns hP g2 ?_ ha.1.1 ha.1.2 h
   rcases ha.2 with hdep|hlook
   ·exfalso;simp only [aE,g2,UW,beq_iff_eq,Array.any_eq_true'] at hdep;obtain ⟨e,he,hb,h00⟩:=hdep
    have:=g3 e he hb
    rw [h00] at this;simp only [Array.getD_eq_getD_getElem?] at this hl;rw [Up (by omega)] at this hl;simp at this hl;rw [this] at hl;cases hl
   ·intro hm;rw [List.contains_iff_mem.2 hm] at hlook;cases hlook
 intro fuel
 induction fuel with
 | zero=>
  intro listed a w hs hl h
  refine ⟨fun he=> ?_,fun i hi=> ?_⟩
  ·have:=hread listed hl;rw [he] at this;cases this
  ·by_cases hi0:i=0
   ·subst hi0;exact (hrun _ _ _).2 h
   ·have:=(hstep listed hs hl i hi hi0).1
    rw [h.1] at this;cases this
 | succ fuel ih=>
  intro listed a w hs hl h
  refine ⟨fun he=> ?_,fun i hi=> ?_⟩
  ·have:=hread listed hl;rw [he] at this;cases this
  ·by_cases hi0:i=0
   ·subst hi0;exact (hrun _ _ _).2 h
   ·obtain ⟨q1,q2⟩:=hstep listed hs hl i hi hi0;refine wpOpIn_mono (fun a' w' hk=> ?_) (q2 _ _ _ _ (h.2 i q1));have e:(listed.setIfInBounds 0 true).setIfInBounds i true=(listed.setIfInBounds i true).setIfInBounds 0 true:=Array.setIfInBounds_comm _ _ (Ne.symm hi0)
    refine ih _ a' w' (by simpa using hs) ?_ ?_
    ·rw [getD_set_ne true hi0];exact hl
    ·rw [<-e,hk.2];exact hk.1
theorem pP {n0 id:Nat} {s:AS} {l:List Oper} {Q:a7->AS->Prop} (m0 d t:Nat) (hL:vq l.toArray d t=true) (hB:gd (gY l).toArray m0=true) (hC:dw (gY l).toArray=true) (h:dG P (gY l) (fun s=>jV P (gY l) ((gY l).drop m0) s (Q .normal)) ((gY l).take m0) s):cr P n0 (.region id l.toArray true) s Q:=by
 refine .inr (fun f m D nu a w hZr hn hm hs hmx R hO hR=> ?_)
 have hCl:dw l.toArray=true:=by
  simp only [vq,UW] at hL;exact hL.1.1.1.2
 have hm0:m0<=(gY l).length:=by
  simp only [gd,UW,decide_eq_true_eq,UA] at hB;exact Nat.le_of_lt hB.1.1.2
 have hcalm: ∀oo,oo∈(gY l).drop m0-> ∀c,oo.op ≠ .defer c:=fun oo ho c e=>by
  unfold dw at hC;rw [Array.all_eq_true_iff_forall_mem] at hC;have h2:=hC oo (by simpa using List.mem_of_mem_drop ho);rw [e] at h2;cases h2
 obtain ⟨R',hR'⟩: ∃R':Exit->Act->World->Prop,R'=fun e a w=>(match e with| .panic _=>False|_=>True)∧R e a w:=⟨_,rfl⟩
 have hP: ∀c a w, ¬R' (.panic c) a w:=fun c a w q=>by rw [hR'] at q;exact q.1
 have hN: ∀a w,R .normal a w->R' .normal a w:=fun a w q=>by rw [hR'];exact ⟨trivial,q⟩
 obtain ⟨rs,hrel⟩:=gX (P:=P) (T:=fun k=>pt (wpOpIn (WF f.r) 9 P (gY l).toArray R') (R' .normal) (List.range' k ((gY l).length - k))) hm0 hB hs.drew (fun sk a' wr hE ho hy hsk hB'=>oV _ _ _ _ (by omega) (j0 m hZr _ sk a' wr D nu hcalm (by
  rw [ho,hy];exact m.own hm hs.ro ((aw (cW w)).trans (aw hE)) (ho ▸ hsk.ro)) hsk hB' (fun D' s' a2 w2 nu' q1 q2 q3=>hN _ _ (hR .normal D' f.Z s' a2 w2 nu' q1 q2 q3)))) ((gY l).take m0) 0 s [] (fun _=>a) (by simp) (Nat.zero_le _) ⟨rfl,rfl,rfl,fun _=>rfl,fun _=>hs.tm.len,fun x t c v h1 h2=> .inl ⟨h1,h2⟩⟩ h
 have hX:=gx _ (fun _=>false) (fun i v w h=>by cases h) m0 (Dm hC R') hB (kZ _ _ _ hrel);have hX:=Cv _ _ _ _ hX
 have hlen:0<l.length:=by
  rw [<-sc];simp only [gd,UW,decide_eq_true_eq,UA] at hB
  have:=hB.1.1.2;omega
 obtain ⟨fuel,hf⟩: ∃fuel,l.length=fuel+1:=⟨l.length - 1,by omega⟩
 have hX2:mZ (wpOpIn (WF f.r) 9 P l.toArray R') l.toArray (R' .normal) (fuel+1) (Array.replicate (fuel+1) false) a w.drew:=by
  rw [UA,sc,hf] at hX;refine BA hL hP fuel _ a _ (by simp [hf]) (by simp) ?_;obtain ⟨-, he, -,hrun⟩:=zm (P:=P) (Q:=R') (r:=f.r) (n:=9) hL;exact yG (st:=wpOpIn (WF f.r) 9 P l.toArray R') (fun i K K' a w h k=>wpOpIn_mono h k) fuel ((Array.replicate (fuel+1) false).setIfInBounds 0 true) _ _ (by simp) ((hrun _ _ _).1 (hX.2 0 (he l _ rfl (by simp))))
 refine Code.wpIn_mono (Q:=R') (fun e a w q=>by rw [hR'] at q;exact q.2) (wpIn_region_any hmx (wN _ _ _ _ ?_));rw [UA,hf];exact hX2
end
end
theorem xC {l:List ByteArray} (hn:l.Nodup) {i:Nat} (h:i<l.length):l[i]∉l.take i:=fun q=>by
 obtain ⟨j,hj,e⟩:=List.mem_take_iff_getElem.1 q;exact List.pairwise_iff_getElem.1 hn j i (by omega) h (by omega) e
theorem H9:b4 []=[]:=rfl
def oF (a:List Nat):List AV:=[.aC 1 (aI a) a.length]
theorem mX (n:Nat) (a:List Nat):aX n (oF a)=true:=by simp only [oF,aX,AV.wf,gj,Wc]
@[go_sem] theorem Qx (n:Nat) (l:List (List Nat)):bw n (l.map oF)=true:=bz _ (mX n) _
def qR:Option mG->AV
 | some st=> .cL [.vp (gV st.rows st.ends), .v (.bool true)]
 | none=> .cL [.v (.pointer none), .v (.bool false)]
theorem JC (o:Option mG):(qR o).wf 0=true:=by
 cases o with
 | none=>rfl
 | some st=>simp only [qR,AV.wf,aX,gV,pz,py,Wc]
theorem kL (m:BitVec 32):(∀n∈aq m,n<100)∧(aq m).length<=1000:=by
 refine ⟨fun n hn=> ?_, ?_⟩
 ·rw [aq,List.mem_filter,List.mem_range] at hn;omega
 ·have:=List.length_filter_le m.getLsbD (List.range 32)
  rw [List.length_range] at this;rw [aq];omega
theorem nW {s:bP} {a:List Nat} (h:Made (aP s) a):(∀n∈a,n<100)∧a.length<=1000:=by
 rcases h.2 with rfl|⟨cur,l,rfl⟩
 ·simp
 ·exact kL _
def ir (s:bP) (st:mG):List (Option aa):=[some ⟨79,1,false,[[.aC 1 (aI (aq s.la)) (aq s.la).length]]⟩,some ⟨83,0,false,FL (st.all.map fW)⟩,none,none,some ⟨79,1,true,st.all.map oF⟩,some ⟨70,2,false,[[.vec 6 st.rows.length, .vec 7 st.rows.length]]⟩,some ⟨84,1,true,st.rows.map (fun r=>[.mp (b4 r)])⟩,some ⟨4,1,true,st.ends.map (fun b=>[.v (.bool b)])⟩]
theorem N0 {s:bP} (ok:yb s) (labs:List ByteArray) (hn:labs.Nodup) (hl:labs.length<=1000) (hb:(aq s.la).length<=1000):ar Tryz.prog 34 [.vp (il s),aZ labs] (qR (ny (aP s) s.em (aq s.la) labs)):=by
 have CL:=Ld s ok.len;have CE:=Ig s ok.len;have CK0:=Mo [0] (by simp) (by simp);have e0:aI [0]=[[.v (.int .i64 0)]]:=rfl;rw [e0] at CK0;simp only [Uh,Ub,Nat.reduceAdd] at CK0
 have hA:aX 0 [AV.vp (il s),aZ labs]=true:=by simp only [aZ,aX,AV.wf,x0,bm,Wc]
 have hF:=JC (ny (aP s) s.em (aq s.la) labs);generalize hrv:qR (ny (aP s) s.em (aq s.la) labs)=rv at hF ⊢
 (refine ar.l5 Tryz.func34 rfl (by kernel_rfl) (by kernel_rfl) rfl hA hF ?_;simp only [Tryz.ntmps34,Tryz.results34,Uh,Ub,Nat.reduceAdd,Nat.reduceSub,List.replicate_succ,List.replicate_zero,VK,VJ])
 (refine au ?_;intro K hK K hK)
 refine ab.one CL ?_
 (revert K;revert K;refine au ?_;intro K hK K hK)
 refine ab.JK CK0 8 rfl (by simp only [go_sem,Nat.reduceLT,Nat.reduceLeDiff,Nat.reduceEqDiff,Ww,Wx,and_self]) rfl ?_
 repeat ((fail_if_success (with_reducible refine bB (i:=5) ?_));first|(with_reducible first|refine aA.up ?_|refine fun (K:AK) hK=> ?_|(refine hK _ ?_;clear hK K))|simp only [go_sem]|with_reducible refine wA ?_|clear hK K)
 refine bb (dA (k:=4) (i:=0) (j:=0) (by decide) rfl (Nat.zero_lt_succ _) rfl rfl rfl rfl rfl) (by kernel_rfl) ?_;simp only [VR,VQ,Uh,Ub,Nat.reduceAdd,VK,VJ];refine bb (dD (k:=5) (i:=0) (j:=0) 84 1 (by decide) rfl (by decide) rfl rfl) (by kernel_rfl) ?_;simp only [VR,VQ,Uh,Ub,Nat.reduceAdd,VK,VJ];refine bb (dD (k:=5) (i:=0) (j:=1) 4 1 (by decide) rfl (by decide) rfl rfl) (by kernel_rfl) ?_;simp only [VR,VQ,Uh,Ub,Nat.reduceAdd,VK,VJ]
 (revert K;revert K;refine au ?_;intro K hK)
 refine aT (ι:=mG) 10 (fun st=>[(8, .vec 4 st.all.length),(10, .v (.int .i64 st.rows.length))]) (ir s) (fun st=>257 - st.rows.length) (fun st=>AG labs st∧(∀a∈st.all,Made (aP s) a)∧qR (mr (aP s) s.em (aq s.la) labs (257 - st.rows.length) st)=rv) s0
  ⟨LC labs,fun a ha=>by simp only [s0,List.mem_singleton] at ha;subst ha;exact ⟨by simp, .inl rfl⟩,hrv⟩ ?_ ?_
 ·simp only [ir,s0]
  refine iG ?_ ?_ aj
  ·rfl
  ·exact ⟨rfl,rfl,mX _ _⟩
 ·rintro st ⟨hok,hmade,hrun⟩ K hK;have h257:=hok.max;have hel:=hok.ends;simp only [ir]
  (revert K;revert K;refine au ?_;intro K hK K hK K hK)
  refine bC.part (fun h=> ?_) (fun h=> ?_)
  ·have hlt:st.rows.length<st.all.length:=by replace h:=bJ h;omega
   rw [show 257 - st.rows.length=(256 - st.rows.length)+1 by have:=hok.le;omega,mr,if_pos hlt] at hrun
   ((iterate 3 revert K);refine aK h ?_;iterate 4 intro K hK)
   obtain ⟨hcm,hcl⟩:=nW (hmade _ (aQ (d:=[]) hlt));rw [<-bt] at hcm hcl
   refine aT (ι:=Nat) 38 (fun i=>[(8, .vec 4 (dq (aP s) (bt st) st.all (labs.take i)).1.length),(13, .undef),(14, .undef),(15, .undef),(16, .undef),(37, .v (.int .i64 i))]) (fun i=>ir s { st with all:=(dq (aP s) (bt st) st.all (labs.take i)).1 }++[some ⟨84,0,false,b4 (dq (aP s) (bt st) st.all (labs.take i)).2⟩]) (fun i=>labs.length - i) (fun i=>i<=labs.length) 0 (Nat.zero_le _) ?_ ?_
   ·simp only [ir,Wy,dq,List.foldl_nil,H9,VK,VJ];refine bp ?_ aj
    all_goals rfl
   ·intro i hi K hK;obtain ⟨k1,k2,k3,k4,k5,t,k6⟩:=rB (aP s) (cur:=bt st) hok.nd (labs.take i);have hmd:=qm (aP s) hmade (cur:=bt st) (labs.take i);have hlk: ∀l,l∉labs.take i->look (dq (aP s) (bt st) st.all (labs.take i)).2 l=none:=fun l hl=>cP.2 fun q=>hl (k5.subset q)
    rcases hRi:dq (aP s) (bt st) st.all (labs.take i) with ⟨al,ro⟩
    rw [hRi] at k1 k2 k3 k4 k5 k6 hmd hlk;simp only at k1 k2 k3 k4 k5 k6 hmd hlk
    have hal:al.length<=2000:=by rw [List.length_take] at k4;omega
    simp only [ir,VK,VJ]
    ((iterate 5 revert K);refine au ?_;iterate 6 intro K hK)
    refine bC.part (fun h2=> ?_) (fun h2=> ?_)
    ·have hli:i<labs.length:=by replace h2:=bJ h2;omega
     have eW:=ak (k:=i) (by omega);have eG:=getD_map encS labs i [] hli
     have eC:(al.map oF).getD st.rows.length []=[.aC 1 (aI (bt st)) (bt st).length]:=by
      have hx:al.getD st.rows.length []=bt st:=by rw [k6,bX hlt];rfl
      rw [U3,List.getElem?_map,Uq (by omega)];rw [U3,Uq (by omega)] at hx;simp only [UI,Option.getD_some] at hx ⊢;rw [hx];rfl
     have hN:=jh (aP s) (bt st) st.all (labs.take i) labs[i];rw [<-List.take_succ_eq_append_getElem hli,hRi,As] at hN;have CS:=LL ok (bt st) labs[i] (by omega);obtain ⟨ts,tl⟩:=kL (iu s (fG s (bq (bt st))) labs[i]);have CKy:=Mo (aP s (bt st) labs[i]) ts (by have:(aP s (bt st) labs[i]).length<=1000:=tl;omega);have tl':(aP s (bt st) labs[i]).length<=1000:=tl;generalize hto:aP s (bt st) labs[i]=to at *;simp only [encS] at eG
     repeat (first|(with_reducible first|refine aA.up ?_|refine fun (K:AK) hK=> ?_|(refine hK _ ?_;clear hK K))|simp only [go_sem,eG,eC,h2]|with_reducible refine wA ?_|clear hK K)
     refine ab.one CS ?_
     ((iterate 8 revert K);refine au ?_;iterate 7 intro K hK)
     refine bC.part (fun h3=> ?_) (fun h3=> ?_)
     ·have hz:to=[]:=List.eq_nil_of_length_eq_zero (by replace h3:=bJ h3;omega);rw [if_pos hz] at hN
      ((iterate 7 revert K);refine aK eW ?_)
      refine az.mk (i+1) (by omega) (by omega) ?_;rw [hN];simp only [ir,VK,VJ];exact aO aj
     ·have hz: ¬to=[]:=fun e=>by subst e;simp at h3
      rw [if_neg hz] at hN;have eA:=Gb (fW to) (al.map fW)
      ((iterate 7 revert K);refine au ?_;iterate 8 intro K hK)
      refine ab.one CKy ?_
      cases hp:pos (al.map fW) (fW to) with
      | some k=>
       rw [hp] at hN eA;simp only [UI] at eA hN;have eS:=pN labs[i] k ro (hlk _ (xC hn hli))
       ((iterate 8 revert K);refine Pu eA eS eW ?_)
       refine az.mk (i+1) (by omega) (by omega) ?_;rw [hN];simp only [ir,VK,VJ];exact aO aj
      | none=>
       rw [hp] at hN eA;simp only [Option.map_none] at eA hN;have eS:=pN labs[i] al.length ro (hlk _ (xC hn hli));have eK:=Gd (fW to) (al.map fW) hp;rw [U2] at eK
       repeat (first|(with_reducible first|refine aA.up ?_|refine fun (K:AK) hK=> ?_|(refine hK _ ?_;clear hK K))|simp only [go_sem,eA,eS,eW]|with_reducible refine wA ?_|clear hK K)
       refine ab.one CKy ?_
       repeat (first|(with_reducible first|refine aA.up ?_|refine fun (K:AK) hK=> ?_|(refine hK _ ?_;clear hK K))|simp only [go_sem,eK,eS,eW]|with_reducible refine wA ?_|clear hK K)
       refine az.mk (i+1) (by omega) (by omega) ?_;rw [hN];simp only [ir,VK,VJ,V7,Wa,Wi,Ug,Uh,Ub];refine qI ?_ aj
       all_goals exact ⟨rfl,mX _ _⟩
    ·have hil:i=labs.length:=by replace h2:=bJ h2;omega
     rw [hil,List.take_length] at hRi
     have hall:(b9 (aP s) s.em (aq s.la) labs st).all=al:=by rw [b9,hRi]
     have hrow:(b9 (aP s) s.em (aq s.la) labs st).rows=st.rows++[ro]:=by rw [b9,hRi]
     rw [hall] at hrun
     ((iterate 6 revert K);refine au ?_;iterate 4 intro K hK)
     refine bC.part (fun h3=> ?_) (fun h3=> ?_)
     ·rw [if_pos (by replace h3:=bJ h3;omega)] at hrun
      ((iterate 4 revert K);refine au ?_)
      rw [<-hrun];exact bH.cL ⟨bH.v _,bH.v _,trivial⟩
     ·have h256: ¬ 256<al.length:=by replace h3:=bJ h3;omega
      rw [if_neg h256] at hrun
      repeat ((fail_if_success (with_reducible refine bB (i:=24) ?_));first|(with_reducible first|refine aA.up ?_|refine fun (K:AK) hK=> ?_|(refine hK _ ?_;clear hK K))|simp only [go_sem]|with_reducible refine wA ?_|clear hK K)
      refine bb (B1 11 8 rfl rfl rfl rfl) (by kernel_rfl) ?_;simp only [VR,VQ]
      repeat ((fail_if_success (with_reducible refine bB (i:=25) ?_));first|(with_reducible first|refine aA.up ?_|refine fun (K:AK) hK=> ?_|(refine hK _ ?_;clear hK K))|simp only [go_sem]|with_reducible refine wA ?_|clear hK K)
      have CF:=qW (g:=60) [.vp [.aC 1 (aI (aq s.la)) (aq s.la).length]] (by simp only [aX,AV.wf,gj,Wc]) (fun n=>(aq s.la).contains n) (bt st) (by omega) (fun n=>Hm (aq s.la) n (by omega))
      have eC:(al.map oF).getD st.rows.length []=[.aC 1 (aI (bt st)) (bt st).length]:=by
       have hx:al.getD st.rows.length []=bt st:=by rw [k6,bX hlt];rfl
       rw [U3,List.getElem?_map,Uq (by omega)];rw [U3,Uq (by omega)] at hx;simp only [UI,Option.getD_some] at hx ⊢;rw [hx];rfl
      have hE:pk s.em (aq s.la) st=(((st.rows.length:Int)==0&&s.em)||(bt st).any (fun n=>(aq s.la).contains n)):=by
       rw [pk];congr 2;rw [Bool.eq_iff_iff,beq_iff_eq,beq_iff_eq];omega
      refine yu ⟨gz 112 [(0, .vp (il s)),(1, .aC 1 (labs.map encS) labs.length),(4, .v (.pointer none)),(5, .v (.bool false)),(6, .ptr 0 0 1 0 0),(7, .vec 1 0),(8, .vec 4 al.length),(9, .ptr 5 0 2 0 0),(10, .v (.int .i64 st.rows.length))],ir s (b9 (aP s) s.em (aq s.la) labs st), .no⟩ (by kernel_rfl) ?_ ?_
      ·have hO:ir s (b9 (aP s) s.em (aq s.la) labs st)=ir s ⟨al,st.rows++[ro],st.ends++[pk s.em (aq s.la) st]⟩:=by rw [b9,hRi]
       rw [hO]
       rcases (VT ((st.rows.length:Int)==0)).symm with hZ|hZ
       ·have hE2:pk s.em (aq s.la) st=(bt st).any (fun n=>(aq s.la).contains n):=by rw [hE,hZ,Bool.false_and,Bool.false_or]
        simp only [ir,V7,Wa,Wi,Ug,Uh,Ub,hE2]
        (refine pP 20 88 9 (by kernel_rfl) (by decide+kernel) (by kernel_rfl) ?_;simp only [gY,Wa,Wi,VH,VK,VJ,Wz,WA,WB,Wy])
        repeat (first|(with_reducible first|refine aA.up ?_|refine fun (K:AK) hK=> ?_|(refine hK _ ?_;clear hK K))|simp only [go_sem,eC,hZ]|with_reducible refine wA ?_|clear hK K)
        refine ba.JK CF 20 rfl (by simp only [go_sem,Nat.reduceLT,Nat.reduceLeDiff,Nat.reduceEqDiff,Ww,Wx,and_self]) rfl ?_
        repeat (first|(with_reducible first|refine aA.up ?_|refine fun (K:AK) hK=> ?_|(refine hK _ ?_;clear hK K))|simp only [go_sem,eC,hZ]|with_reducible refine wA ?_|clear hK K)
        exact aO aj
       ·rcases (VT s.em).symm with hem|hem
        ·have hE2:pk s.em (aq s.la) st=(bt st).any (fun n=>(aq s.la).contains n):=by rw [hE,hZ,hem];simp
         simp only [ir,V7,Wa,Wi,Ug,Uh,Ub,hE2]
         (refine pP 20 88 9 (by kernel_rfl) (by decide+kernel) (by kernel_rfl) ?_;simp only [gY,Wa,Wi,VH,VK,VJ,Wz,WA,WB,Wy])
         ((iterate 3 revert K);refine qE eC hZ ?_;iterate 4 intro K hK)
         refine ba.one CE ?_
         repeat (first|(with_reducible first|refine aA.up ?_|refine fun (K:AK) hK=> ?_|(refine hK _ ?_;clear hK K))|simp only [go_sem,eC,hem]|with_reducible refine wA ?_|clear hK K)
         refine ba.JK CF 20 rfl (by simp only [go_sem,Nat.reduceLT,Nat.reduceLeDiff,Nat.reduceEqDiff,Ww,Wx,and_self]) rfl ?_
         repeat (first|(with_reducible first|refine aA.up ?_|refine fun (K:AK) hK=> ?_|(refine hK _ ?_;clear hK K))|simp only [go_sem,eC,hem]|with_reducible refine wA ?_|clear hK K)
         exact aO aj
        ·have hE2:pk s.em (aq s.la) st=true:=by rw [hE,hZ,hem];simp
         simp only [ir,V7,Wa,Wi,Ug,Uh,Ub,hE2]
         (refine pP 20 88 9 (by kernel_rfl) (by decide+kernel) (by kernel_rfl) ?_;simp only [gY,Wa,Wi,VH,VK,VJ,Wz,WA,WB,Wy])
         ((iterate 3 revert K);refine qE eC hZ ?_;iterate 4 intro K hK)
         refine ba.one CE ?_
         repeat (first|(with_reducible first|refine aA.up ?_|refine fun (K:AK) hK=> ?_|(refine hK _ ?_;clear hK K))|simp only [go_sem,eC,hem]|with_reducible refine wA ?_|clear hK K)
         exact aO aj
      ·have hlen:(b9 (aP s) s.em (aq s.la) labs st).rows.length=st.rows.length+1:=by rw [hrow,Ug,List.length_singleton]
       have eW:=ak (k:=st.rows.length) (by omega);obtain ⟨nx,hnx⟩: ∃nx,nx=b9 (aP s) s.em (aq s.la) labs st:=⟨_,rfl⟩;have hnok:AG labs nx:=hnx ▸ pq (aP s) s.em (aq s.la) hok hlt (by rw [hall];exact h256);rw [<-hnx] at hrun hlen hall ⊢;simp only [ir];simp only [gz,List.foldl_cons,List.foldl_nil,List.replicate_succ,List.replicate_zero,go_sem]
       ((iterate 3 revert K);refine aK eW ?_)
       refine az.mk nx ⟨hnok,by rw [hall];exact hmd,by rw [hlen,show 257 - (st.rows.length+1)=256 - st.rows.length by omega];exact hrun⟩ (by rw [hlen];have:=hok.le;omega) ?_;simp only [ir,hall,hlen];exact aO aj
  ·have hge:st.rows.length=st.all.length:=by have:=hok.le;replace h:=bJ h;omega
   rw [show 257 - st.rows.length=(256 - st.rows.length)+1 by omega,mr,if_neg (by omega)] at hrun;have hel:=hok.ends
   ((iterate 3 revert K);refine au ?_)
   rw [<-hrun];simp only [qR,gV,hel];exact bH.cL ⟨bH.ptr (ob:=⟨70,2,false,[[.vec 6 st.rows.length, .vec 7 st.rows.length]]⟩) rfl rfl rfl (Nat.succ_ne_zero 1) ⟨bH.Ae (ob:=⟨84,1,true,st.rows.map (fun r=>[.mp (b4 r)])⟩) rfl rfl (U2 _) (pz _ _),bH.Ae (ob:=⟨4,1,true,st.ends.map (fun b=>[.v (.bool b)])⟩) rfl rfl ((U2 _).trans hel) (py _ _),trivial⟩,bH.v _,trivial⟩
structure Ru (rows:List aR) (ends:List Bool):Prop where
 n:rows.length<=256
 e:ends.length=rows.length
 uC: ∀r∈rows,iJ (r.map Prod.fst)
 len: ∀r∈rows,r.length<=1000
 lab: ∀r∈rows, ∀p∈r,p.1.size<=1000∧p.2<rows.length
theorem oN (a b:ByteArray):(a++b).size=a.size+b.size:=ByteArray.size_append
theorem wU (u:Nat) (h:u<1000):(⟨(Lib.decDigits u).toArray⟩:ByteArray).size<=3:=by
 have:=r9 u h
 simpa [ByteArray.size] using this
theorem vE (part:List Nat) (p:Nat):bT part p []=⟨(Lib.decDigits p).toArray⟩:=by simp [bT,tC]
theorem tE (part:List Nat) (p:Nat) (r:aR) (e:ByteArray×Nat):bT part p (r++[e])=bT part p r++(((⟨#[32]⟩++e.1)++⟨#[32]⟩)++⟨(Lib.decDigits (part.getD e.2 0)).toArray⟩):=by
 apply ByteArray.ext
 rw [bT,E8];simp [bT,ByteArray.data_append]
theorem BF (part:List Nat) (p:Nat) (hp:p<1000) (hq: ∀s,part.getD s 0<1000): ∀r:aR,(∀e∈r,e.1.size<=1000)->(bT part p r).size<=3+1005 * r.length:=by
 refine fg ?_ ?_
 ·intro _;rw [vE];have:=wU p hp;simpa using this
 ·intro r e ih h;have h1:=ih fun x hx=>h x (List.mem_append_left _ hx);have h2:=h e (by simp);have h3:=wU _ (hq e.2);have h4:(⟨#[32]⟩:ByteArray).size=1:=rfl;rw [tE,oN,oN,oN,oN,h4,Ug,List.length_singleton];omega
theorem ri {l:List Nat} {b:Nat} (hb:0<b) (h: ∀v∈l,v<b) (s:Nat):l.getD s 0<b:=by
 rw [U3]
 cases hs:l[s]? with
 | none=>simpa using hb
 | some v=>exact h v (List.mem_of_getElem? hs)
theorem PX (ends:List Bool): ∀v∈p0 ends,v<1000:=fun v hv=>by
 rw [p0,List.mem_map] at hv;obtain ⟨b,_,rfl⟩:=hv
 split<;>omega
theorem Lo (rows:List aR) (part:List Nat) (n:Nat) (v:Nat) (hv:v∈(dn rows part n).2):v<(dn rows part n).1.length:=by
 have ok:=gb rows part n;obtain ⟨s,hs,rfl⟩:=List.mem_iff_getElem.1 hv
 have:=(ok.at' s (by have:=ok.len;omega)).1
 rw [U3,Uq hs] at this;exact this
theorem NL {rows:List aR} (hn:rows.length<=256) (part:List Nat): ∀v∈dJ rows part,v<1000:=fun v hv=>by
 have:=Lo rows part rows.length v hv
 have:=(gb rows part rows.length).le
 omega
theorem Dk (A:List Nat) (n i v:Nat) (hA:A.length=i) (h:i<n):(aI (A++List.replicate (n - i) 0)).set i [.v (.int .i64 (v:Nat))]=aI ((A++[v])++List.replicate (n - (i+1)) 0):=by
 rw [show n - i=(n - (i+1))+1 by omega,WC,aI,aI,V7,V7,V7,List.set_append,if_neg (by simp [hA])];simp [hA]
theorem PF (A:List Nat) (n i:Nat) (hA:A.length=i) (h:i<n):(aI (A++List.replicate (n - i) 0)).getD i []=[.v (.int .i64 0)]:=by
 rw [show n - i=(n - (i+1))+1 by omega,WC,aI,V7,U3,List.getElem?_append_right (by simp [hA])];simp [hA]
theorem P3 (A:List Nat) (n i:Nat) (h:i<n):A++List.replicate (n - i) 0=(A++[0])++List.replicate (n - (i+1)) 0:=by
 rw [show n - i=(n - (i+1))+1 by omega,WC];simp
def ID (ends:List Bool) (i:Nat):List (Option aa):=[some ⟨3,1,true,aI (p0 (ends.take i)++List.replicate (ends.length - i) 0)⟩,some ⟨79,1,false,[[.vec 0 ends.length]]⟩]
def qf (n:Nat) (part:List Nat):List (Option aa):=[none,some ⟨79,1,false,[[.aC 1 (aI part) n]]⟩]
def uB (rows:List aR) (part:List Nat) (s:Nat):List (Option aa):=qf rows.length part++[some ⟨83,0,false,FL (dn rows part s).1⟩,some ⟨3,1,true,aI ((dn rows part s).2++List.replicate (rows.length - s) 0)⟩]
theorem Lq {rows:List aR} {ends:List Bool} (ok:Ru rows ends):ar Tryz.prog 64 [.vp (gV rows ends)] (.aC 1 (aI (br rows ends)) rows.length):=by
 have hN:=ok.n;have hE:=ok.e
 have hA:aX 0 [AV.vp (gV rows ends)]=true:=by simp only [gV,aX,AV.wf,pz,py,Bool.and_self]
 have hF:(AV.aC 1 (aI (br rows ends)) rows.length).wf 0=true:=by simp only [AV.wf,gj]
 generalize hrv:AV.aC 1 (aI (br rows ends)) rows.length=rv at hF ⊢
 (refine ar.l5 Tryz.func64 rfl (by kernel_rfl) (by kernel_rfl) rfl hA hF ?_;simp only [Tryz.ntmps64,Tryz.results64,List.length_cons,List.length_nil,Nat.reduceAdd,Nat.reduceSub,WC,List.replicate_zero,VK,VJ])
 simp only [gV]
 repeat (first|(with_reducible first|refine aA.up ?_|refine fun (K:AK) hK=> ?_|refine wE ?_|refine wK ?_|refine wF ?_|(refine hK _ ?_;clear hK K))|simp only [go_sem]|with_reducible refine wA ?_|clear hK K)
 refine aT (ι:=Nat) 27 (fun i=>[(4, .undef),(5, .undef),(26, .v (.int .i64 i))]) (ID ends) (fun i=>ends.length - i) (fun i=>i<=ends.length) 0 (Ui _) ?_ ?_
 ·have e0:aI (p0 (ends.take 0)++List.replicate (ends.length - 0) 0)=List.replicate rows.length [AV.v (.int .i64 0)]:=by
   rw [hE];simp [p0,aI]
  simp only [ID,e0,hE];refine iG ?_ ?_ aj
  all_goals first|rfl|simp [p0,aI]
 ·intro i hi K hK;simp only [ID]
  (revert K;revert K;refine dO ?_;intro K hK K hK K hK)
  refine bC.part (fun h=> ?_) (fun h=> ?_)
  ·have hlt:i<ends.length:=by replace h:=bJ h;omega
   have eW:=ak (k:=i) (by omega)
   have eG:(ends.map (fun b=>[AV.v (.bool b)])).getD i []=[.v (.bool ends[i])]:=by
    rw [U3,Ut,Uq hlt];rfl
   have hl0:(p0 (ends.take i)).length=i:=by rw [p0,U2,List.length_take];omega
   have eL:(aI (p0 (ends.take i)++List.replicate (ends.length - i) 0)).length=ends.length:=by rw [aI,U2,Ug,hl0,WD];omega
   have eN:p0 (ends.take (i+1))=p0 (ends.take i)++[if ends[i] then 1 else 0]:=by rw [p0,p0,Wg hlt,V7];rfl
   rcases (Bool.eq_false_or_eq_true ends[i]).symm with hb|hb
   ·rw [hb] at eG eN;rw [if_neg (by decide)] at eN
    repeat (first|(with_reducible first|refine aA.up ?_|refine fun (K:AK) hK=> ?_|refine wE ?_|refine wK ?_|refine wF ?_|(refine hK _ ?_;clear hK K))|simp only [go_sem,eG,h]|with_reducible refine wA ?_|clear hK K)
    refine kb eW ?_;refine az.mk (i+1) (by omega) (by omega) ?_;simp only [ID,eN, <- P3 _ _ _ hlt];exact aO aj
   ·rw [hb] at eG eN;rw [if_pos rfl] at eN;have eS:=Dk (p0 (ends.take i)) ends.length i 1 hl0 hlt;have eS:=Dk (p0 (ends.take i)) ends.length i 1 hl0 hlt;have eQ:=PF (p0 (ends.take i)) ends.length i hl0 hlt;have c1:((1:Nat):Int)=1:=rfl;rw [c1] at eS
    repeat (first|(with_reducible first|refine aA.up ?_|refine fun (K:AK) hK=> ?_|refine wE ?_|refine wK ?_|refine wF ?_|(refine hK _ ?_;clear hK K))|simp only [go_sem,eG,h,eL,eQ,Wz,WA,eS]|with_reducible refine wA ?_|clear hK K)
    refine kb eW ?_;refine az.mk (i+1) (by omega) (by omega) ?_;simp only [ID,eN];exact aO aj
    all_goals trace_state
  ·have h16:i=ends.length:=by replace h:=bJ h;omega
   have e1:aI (p0 (ends.take i)++List.replicate (ends.length - i) 0)=aI (p0 ends):=by rw [h16,List.take_length,Nat.sub_self];simp
   have l0:(aI (p0 ends)).length=ends.length:=by simp [aI,p0]
   have l1:(p0 ends).length=rows.length:=by simp [p0,hE]
   simp only [e1]
   repeat ((fail_if_success (with_reducible refine bB (i:=8) ?_));first|(with_reducible first|refine aA.up ?_|refine fun (K:AK) hK=> ?_|refine wK ?_|refine wF ?_|(refine hK _ ?_;clear hK K))|simp only [go_sem]|with_reducible refine wA ?_|clear hK K)
   refine bb (dA (k:=1) (i:=0) (j:=0) (by decide) rfl (Nat.zero_lt_succ _) rfl rfl rfl rfl l0) (by kernel_rfl) ?_;simp only [List.set_cons_zero,List.set_cons_succ,hE];clear hi h h16 e1 l0;have hs0: ∃f,rows.length+2<=f+0∧AV.aC 1 (aI (nh rows f (p0 ends) 0)) rows.length=rv:=⟨rows.length+2,Nat.le_refl _,hrv⟩;clear hrv
   (revert K;refine dO ?_;intro K hK)
   refine aT (ι:=List Nat×Nat) 7 (fun x=>[(4, .undef),(5, .undef),(6, .v (.int .i64 x.2))]) (fun x=>qf rows.length x.1) (fun x=>rows.length+1 - x.2) (fun x=>(∀v∈x.1,v<1000)∧x.2<=rows.length∧Ou rows x.1 x.2∧ ∃f,rows.length+2<=f+x.2∧AV.aC 1 (aI (nh rows f x.1 x.2)) rows.length=rv) (p0 ends,0) ⟨PX ends,Ui _,⟨l1,fun k hk=>absurd hk (Nat.not_lt_zero k)⟩,hs0⟩ ?_ ?_
   ·simp only [qf];refine bp ?_ aj
    all_goals rfl
   ·rintro ⟨part,many⟩ ⟨hpl,hml,hpo,f,hf,hfr⟩ K hK;simp only at hpl hml hpo hf hfr;have hpn:=hpo.1;simp only [qf]
    repeat (first|(with_reducible first|refine aA.up ?_|refine fun (K:AK) hK=> ?_|refine wE ?_|refine wK ?_|refine wF ?_|(refine hK _ ?_;clear hK K))|simp only [go_sem]|with_reducible refine wA ?_|clear hK K)
    have z0:List.replicate rows.length [AV.v (.int .i64 0)]=aI (List.replicate rows.length 0):=by simp [aI]
    refine aT (ι:=Nat) 46 (fun s=>[(9, .undef),(10, .undef),(11, .undef),(12, .undef),(13, .undef),(14, .undef),(45, .v (.int .i64 s))]) (uB rows part) (fun s=>rows.length - s) (fun s=>s<=rows.length) 0 (Ui _) ?_ ?_
    ·simp only [uB,qf,VK,VJ];refine iG ?_ ?_ aj
     all_goals first|rfl|exact ⟨rfl,z0⟩|trace_state
    ·intro s hs K hK;have pok:=gb rows part s;simp only [uB,qf,VK,VJ]
     ((iterate 4 revert K);refine dO ?_;iterate 5 intro K hK)
     refine bC.part (fun h=> ?_) (fun h=> ?_)
     ·have hlt:s<rows.length:=by replace h:=bJ h;omega
      have eW:=ak (k:=s) (by omega)
      have eG:(aI part).getD s []=[.v (.int .i64 ((part.getD s 0:Nat):Int))]:=by
       rw [aI,U3,Ut,Uq (by omega),U3,Uq (by omega)];rfl
      have CI:=Ho (part.getD s 0) (by have:=ri (by omega) hpl s;omega);have CS:=Dn rows ends s;have hlr:=ok.lab _ (Vx hlt);have hln:=ok.len _ (Vx hlt);have hseq:=vU rows ends s hlt (by omega) (fun p hp=>Nat.le_trans (hlr p hp).1 (by decide)) (ok.uC _ (Vx hlt)) (by omega);simp only [gV,hE] at CS hseq;obtain ⟨row,hrow⟩: ∃row,row=rows[s]:=⟨_,rfl⟩;rw [<-hrow] at hlr hln hseq;have hq1:part.getD s 0<1000:=ri (by omega) hpl s
      repeat (first|(with_reducible first|refine aA.up ?_|refine fun (K:AK) hK=> ?_|refine wE ?_|refine wK ?_|refine wF ?_|(refine hK _ ?_;clear hK K))|simp only [go_sem,eG,h]|with_reducible refine wA ?_|clear hK K)
      refine ab.one CI ?_
      ((iterate 7 revert K);refine dO ?_;iterate 8 intro K hK)
      refine ab.one CS ?_
      ((iterate 8 revert K);refine dO ?_;iterate 6 intro K hK)
      refine rW hseq 58 (fun k=>uB rows part s++[some ⟨9,1,false,[[.v (.string (bT part (part.getD s 0) (row.take k)))]]⟩]) (fun k=>k<=row.length) (Ui _) ?_ ?_ ?_ (by kernel_rfl) (by kernel_rfl) ?_ ?_ ?_
      ·((iterate 6 revert K);exact PA)
      ·simp only [aX,AV.wf,pz,py,Bool.and_self]
      ·simp only [uB,qf,VK,VJ,List.take_zero,vE];exact aO aj
       all_goals trace_state
      ·intro x hx;obtain ⟨o,_,rfl⟩:=List.mem_map.1 hx
       rfl
      ·intro k x hk hx
       obtain ⟨hkl,hx⟩: ∃h:k<row.length,x=[.v (.string row[k].1), .v (.int .i64 (row[k].2:Nat))]:=by
        obtain ⟨h1,h2⟩:=List.getElem?_eq_some_iff.1 hx;simp only [b4,U2] at h1;exact ⟨h1,by rw [<-h2];simp [b4]⟩
       subst hx;obtain ⟨hz1,hz2⟩:=hlr _ (Vx hkl)
       have eT:(aI part).getD row[k].2 []=[.v (.int .i64 ((part.getD row[k].2 0:Nat):Int))]:=by
        rw [aI,U3,Ut,Uq (by omega),U3,Uq (by omega)];rfl
       have hq2:part.getD row[k].2 0<1000:=ri (by omega) hpl _;have CJ:=Ho (part.getD row[k].2 0) (by omega);have hS:=tE part (part.getD s 0) (row.take k) row[k];rw [<-Wg hkl] at hS;simp only [uB,qf,VK,VJ];have h32:(⟨#[32]⟩:ByteArray).size=1:=rfl;have hd1:=wU _ hq2;have hd2:=BF part (part.getD s 0) hq1 (ri (by omega) hpl) (row.take k) (fun e he=>(hlr _ (List.mem_of_mem_take he)).1);rw [List.length_take] at hd2;have b1:(#[32]:Array UInt8).size=1:=rfl;have b2:(Lib.decDigits (part.getD row[k].2 0)).toArray.size<=3:=hd1
       repeat (first|(with_reducible first|refine aA.up ?_|refine fun (K:AK) hK=> ?_|refine wE ?_|refine wK ?_|refine wF ?_|(refine hK _ ?_;clear hK K))|simp only [go_sem,eT]|with_reducible refine wA ?_|clear hK K)
       refine ba.one CJ ?_
       repeat (first|(with_reducible first|refine aA.up ?_|refine fun (K:AK) hK=> ?_|refine wE ?_|refine wK ?_|refine wF ?_|(refine hK _ ?_;clear hK K))|simp only [go_sem,eT]|with_reducible refine wA ?_|clear hK K)
       simp only [uB,qf,VK,VJ,hS];exact aO aj
      ·intro _
       have hmr:(b4 row).length=row.length:=by simp [b4]
       simp only [hmr,List.take_length,uB,qf,VK,VJ];have eA:=Gb (bT part (part.getD s 0) row) (dn rows part s).1;have hI:=qe rows part s
       have hg:rows.getD s []=row:=by rw [hrow,U3,Uq hlt];rfl
       rw [PY,hg] at hI;have l2:=pok.len;have l3:=pok.le
       rcases hps:dn rows part s with ⟨ks,ns⟩
       rw [hps] at hI eA l2 l3;simp only at hI eA l2 l3
       have eL:(aI (ns++List.replicate (rows.length - s) 0)).length=rows.length:=by rw [aI,U2,Ug,l2,WD];omega
       have eQ:=PF ns rows.length s l2 hlt
       cases hp:pos ks (bT part (part.getD s 0) row) with
       | some k=>
        rw [hp] at hI eA;simp only [Option.map_some] at eA hI;have eS:=Dk ns rows.length s k l2 hlt
        repeat (first|(with_reducible first|refine aA.up ?_|refine fun (K:AK) hK=> ?_|refine wE ?_|refine wK ?_|refine wF ?_|(refine hK _ ?_;clear hK K))|simp only [go_sem,eA,eL,eQ,Wz,WA,eS]|with_reducible refine wA ?_|clear hK K)
        refine kb eW ?_;refine az.mk (s+1) (by omega) (by omega) ?_;simp only [uB,qf,VK,VJ,hI];exact aO aj
       | none=>
        rw [hp] at hI eA;simp only [Option.map_none] at eA hI;have eS:=Dk ns rows.length s ks.length l2 hlt;have eK:=Gd (bT part (part.getD s 0) row) ks hp;have eM:=CX ks
        repeat (first|(with_reducible first|refine aA.up ?_|refine fun (K:AK) hK=> ?_|refine wE ?_|refine wK ?_|refine wF ?_|(refine hK _ ?_;clear hK K))|simp only [go_sem,eA,eL,eQ,Wz,WA,eS,eK,eM]|with_reducible refine wA ?_|clear hK K)
        refine kb eW ?_;refine az.mk (s+1) (by omega) (by omega) ?_;simp only [uB,qf,VK,VJ,hI];exact aO aj
     ·have hss:s=rows.length:=by replace h:=bJ h;omega
      subst hss;have l2:=pok.len
      have e1:(dn rows part rows.length).2++List.replicate (rows.length - rows.length) 0=dJ rows part:=by rw [Nat.sub_self];simp [dJ]
      have e2:=CX (dn rows part rows.length).1;have e3:(dn rows part rows.length).1.length=e7 rows part:=rfl;rw [e3] at e2
      have eL:(aI (dJ rows part)).length=rows.length:=by rw [aI,U2];exact l2
      simp only [e1];have hme:=mj rows part;have hmo:=kV rows hpo
      repeat ((fail_if_success (with_reducible refine bB (i:=26) ?_));first|(with_reducible first|refine aA.up ?_|refine fun (K:AK) hK=> ?_|refine wK ?_|refine wF ?_|(refine hK _ ?_;clear hK K))|simp only [go_sem]|with_reducible refine wA ?_|clear hK K)
      clear hK;clear hK;clear K;clear K
      repeat ((fail_if_success (with_reducible refine bB (i:=26) ?_));first|(with_reducible first|refine aA.up ?_|refine fun (K:AK) hK=> ?_|refine wK ?_|refine wF ?_|(refine hK _ ?_;clear hK K))|simp only [go_sem]|with_reducible refine wA ?_|clear hK K)
      refine bb (dA (k:=1) (i:=0) (j:=0) (by decide) rfl (Nat.zero_lt_succ _) rfl rfl rfl rfl eL) (by kernel_rfl) ?_;simp only [List.set_cons_zero,List.set_cons_succ]
      ((iterate 4 revert K);refine kb e2 ?_;intro K hK K hK K hK)
      refine bC.part (fun h2=> ?_) (fun h2=> ?_)
      ·have hm:e7 rows part=many:=by replace h2:=bJ h2;omega
       obtain ⟨f',rfl⟩: ∃f',f=f'+1:=⟨f - 1,by omega⟩;rw [nh,if_pos hm] at hfr
       ((iterate 3 revert K);refine dO ?_)
       rw [<-hfr];exact bH.uD (gj _ _)
      ·have hm:e7 rows part≠many:=by replace h2:=bJ h2;omega
       obtain ⟨f',rfl⟩: ∃f',f=f'+1:=⟨f - 1,by omega⟩;rw [nh,if_neg hm] at hfr
       ((iterate 3 revert K);refine kb e2 ?_)
       refine az.mk (dJ rows part,e7 rows part) ⟨NL hN part,hme,ml rows part,f', ?_,hfr⟩ ?_ ?_
       ·show rows.length+2<=f'+e7 rows part;omega
       ·show rows.length+1 - e7 rows part<rows.length+1 - many;omega
       ·simp only [qf];exact aO aj
end Go.Proofs.YtfflpdekojlnmaaGreatDoor
