/- texts of one claim, one behind the other. -/
import Derived.Test.YtfflpdekojlnmaaGreatDoorYAbsZ
import Derived.Test.YtfflpdekojlnmaaGreatDoorYAbsG
import Derived.ChangeArms
import Derived.Deep.Slices
import Derived.KernelRfl
import Derived.SizedLaws
import Derived.Test.YtfflpdekojlnmaaGreatDoorProg
import Derived.Test.YtfflpdekojlnmaaGreatDoorRows
import Derived.Test.YtfflpdekojlnmaaGreatDoorYAbsN
import Derived.WalkKit
import Derived.ProofKit
import Derived.OpenShut
import Derived.RangeFuncNested
import Derived.RangeFuncBound
import Derived.RangeFuncCalls
import Derived.RangeFuncLeaves
import Derived.Shelf.Abstract
import Derived.Shelf.RegionOpen
import Derived.OwnWalkIn
import Derived.TacticsInMore
import Derived.LoopNIn
import Derived.LoopIn
import Derived.Maps.AppendAt
import Derived.Lib.SlicesCompact
set_option linter.unusedSimpArgs false
set_option linter.unusedVariables false
set_option maxRecDepth 100000
set_option maxHeartbeats 16000000
open Bool renaming and_true -> Yb, true_and -> Yg, and_eq_true -> XK, false_eq_true -> Yk, or_eq_true -> X9, not_eq_true' -> Yo
open List renaming length_eq_zero_iff -> Yc, getElem?_map -> Xe, mem_of_getElem? -> Xw, getElem?_eq_some_iff -> WT, getElem?_eq_none -> Xg, getElem?_eq_getElem -> Xb, append_nil -> Yd, append_eq_nil_iff -> Ye, mem_cons_self -> XY, mem_cons_of_mem -> XW, length_append -> WX, exists_cons_of_ne_nil -> Yf, findIdx?_eq_some_iff_getElem -> Yh, findIdx?_eq_none_iff -> Yi, mem_cons -> Yj, getElem?_toArray -> Xd, getElem?_append_left -> WU, getElem?_append_right -> Xr, getElem?_inj -> Yl, all_eq_true -> X7, getElem_mem -> Ym, getD_eq_getElem?_getD -> XR, mem_range -> X8, size_toArray -> Xl, getElem?_of_mem -> Xk, getElem?_drop -> W9, getElem?_cons_zero -> X2
open Array renaming getElem?_eq_some_iff -> WR, getD_eq_getD_getElem? -> XM, getElem?_append_left -> Xx, getElem?_append_right -> XV
open Nat renaming le_refl -> WN, lt_or_ge -> WV, eq_zero_or_pos -> Yn
namespace Go.Proofs.YtfflpdekojlnmaaGreatDoor
open Go.RowKit
section
def encS (s:ByteArray):List AV:=[.v (.string s)]
def encI (n:Int):List AV:=[.v (.int .i64 n)]
def Jm (x:vQ):List AV:=[.v (.int .i64 x.kind), .v (.string x.name), .v (.string x.key), .v (.int .i64 x.val.kind), .v (.int .i64 x.val.num), .v (.string x.val.text)]
def Uy (x:Mj):List AV:=[.v (.int .i64 x.kind), .v (.int .i64 x.num), .v (.string x.text)]
def MR (x:Eu):List AV:=[.v (.int .i64 x.op), .v (.int .i64 x.left.kind), .v (.string x.left.name), .v (.string x.left.key), .v (.int .i64 x.left.val.kind), .v (.int .i64 x.left.val.num), .v (.string x.left.val.text),
 .v (.int .i64 x.right.kind), .v (.string x.right.name), .v (.string x.right.key), .v (.int .i64 x.right.val.kind), .v (.int .i64 x.right.val.num), .v (.string x.right.val.text)]
mutual
def aM:Ex->List AV
 | .mk k s l=>[.v (.int .i64 k), .v (.string s), .aB 3 (EU l) l.length]
def EU:List Ex->List (List AV)
 | []=>[]
 | x :: xs=>aM x :: EU xs
end
theorem pN: ∀l:List Ex,EU l=l.map aM
 | []=>rfl
 | x :: xs=>by rw [EU,pN xs,List.map_cons]
theorem aA (x:Ex):aM x=[.v (.int .i64 x.kind), .v (.string x.label), .aB 3 (x.kids.map aM) x.kids.length]:=by
 obtain ⟨k,s,l⟩:=x;rw [aM,pN];rfl
def Jn (p:om):List AV:=[.v (.string p.dV), .v (.string p.to), .v (.bool p.path), .v (.string p.label), .v (.string p.name), .v (.int .i64 p.expr.kind), .v (.string p.expr.label), .aB 3 (p.expr.kids.map aM) p.expr.kids.length]
def PV (q:FQ):List AV:=[.aB 8 (q.sD.map Jn) q.sD.length, .aB 13 (q.conds.map MR) q.conds.length, .aB 6 (q.ret.map Jm) q.ret.length, .v (.int .i64 q.range), .v (.int .i64 q.Ld)]
def aS (l:List ByteArray):AV:= .aB 1 (l.map encS) l.length
def Sv (l:List Int):AV:= .aB 1 (l.map encI) l.length
theorem aO (n:Nat) (l:List ByteArray):bj n (l.map encS)=true:=bw _ (fun _=>rfl) l
theorem Oy (n:Nat) (l:List Int):bj n (l.map encI)=true:=bw _ (fun _=>rfl) l
theorem FA (n:Nat) (l:List vQ):bj n (l.map Jm)=true:=bw _ (fun _=>rfl) l
theorem Fy (n:Nat) (l:List Eu):bj n (l.map MR)=true:=bw _ (fun _=>rfl) l
theorem dL (n:Nat) (x:Ex):aN n (aM x)=true:=by
 induction x using Ex.ind with
 | h k s l ih=>
  rw [aM,pN];simp only [aN,AV.wf,Yb,Bool.true_and];exact zA (fun r hr=>by obtain ⟨x,hx,rfl⟩:=List.mem_map.1 hr;exact ih x hx)
theorem br (n:Nat) (l:List Ex):bj n (l.map aM)=true:=bw _ (dL n) l
theorem Cb (n:Nat) (p:om):aN n (Jn p)=true:=by simp only [Jn,aN,AV.wf,br,Yb]
theorem FB (n:Nat) (l:List om):bj n (l.map Jn)=true:=bw _ (Cb n) l
theorem Oz (n:Nat) (q:FQ):aN n (PV q)=true:=by simp only [PV,aN,AV.wf,FB,Fy,FA,Yb]
attribute [go_sem] aS Sv encS encI Jm Uy MR Jn PV aO Oy FA Fy dL br Cb FB Oz
@[go_sem] theorem getD_map {α β:Type} (f:α->β) (l:List α) (k:Nat) (d:β) (h:k<l.length):(l.map f).getD k d=f l[k]:=by
 simp [List.getD,h]
section
variable {D:Nat->Prop} {nu:Nat->Nat->Value} {o:List (Option ab)} {w:World} {P:Program}
theorem tM {b:Nat}: ∀ {cs:List Value} {off:Nat},(∀(j:Nat) v,cs[j]? = some v->w.cell? ⟨b,off+j,none⟩=some v)->dm w b off cs
 | [],_,_=>trivial
 | y :: cs,off,h=>⟨by simpa using h 0 y rfl,tM (off:=off+1) (fun j v hj=>by rw [show off+1+j=off+(j+1) by omega];exact h (j+1) v (by simpa using hj))⟩
def Rb (D:Nat->Prop) (nu:Nat->Nat->Value) (o:List (Option ab)) (w:World) (cs:List AV) (xs:List Value):Prop:=cs.length=xs.length∧ ∀(j:Nat) c x,cs[j]? = some c->xs[j]? = some x->RA D nu o w c x
theorem RA.QF {α:Type} {z:Nat} {enc:α->List AV} {rd:α->List Value->Prop} {xs:List α} {v:Value} (h:RA D nu o w (.aB z (xs.map enc) xs.length) v) (hrd: ∀x,x∈xs-> ∀cs:List Value,Rb D nu o w (enc x) cs->rd x cs):iz w z rd xs v:=by
 generalize hn:xs.length=n at h;generalize hr:xs.map enc=rows at h
 cases h with
 | bu=>
  exact .inl ⟨.inl rfl,Yc.1 hn⟩
 | bL _ a=>
  exact .inl ⟨.inr ⟨a,rfl⟩,Yc.1 hn⟩
 | aB _ _ _ b off cap f h1 h2 h3 h4 h5 h6 h7 h8=>
  subst hr;simp only [List.length_map] at h2;refine .inr ⟨b,off,cap,by rw [hn],h2,h3,fun i x hx=> ?_⟩
  have hi:(xs.map enc)[i]? = some (enc x):=by rw [Xe,hx];rfl
  refine ⟨(List.range (enc x).length).map (f i),hrd x (Xw hx) _ ⟨by simp,fun j c y hc hy=> ?_⟩,tM (fun j y hy=> ?_)⟩
  ·have hj:=(WT.1 hc).1;rw [Xe,List.getElem?_range hj] at hy;cases hy;exact h7 i j _ c hi hc
  ·rw [Xe] at hy
   have hj:j<(enc x).length:=by
    rcases Nat.lt_or_ge j (enc x).length with q|q
    ·exact q
    ·rw [Xg (by simpa using q)] at hy;cases hy
   rw [List.getElem?_range hj] at hy;cases hy;exact h6 i j _ _ hi (Xb hj)
theorem BI {vs cs:List Value} (h:Rb D nu o w (vs.map AV.v) cs):cs=vs:=by
 apply List.ext_getElem?
 intro i;have hl:=h.1;simp only [List.length_map] at hl
 rcases Nat.lt_or_ge i vs.length with q|q
 ·have e1:(vs.map AV.v)[i]? = some (.v vs[i]):=by simp [q]
  have e2:cs[i]? = some cs[i]:=Xb (by omega)
  have:=(h.2 i _ _ e1 e2).c6
  rw [e2,this,Xb q]
 ·rw [Xg q,Xg (by omega)]
theorem Fl {l:List ByteArray} {v:Value} (h:RA D nu o w (aS l) v):kr w l v:=RA.QF h (fun x _ cs hc=>BI (vs:=[.string x]) hc)
theorem zj: ∀(x:Ex) (cs:List Value),Rb D nu o w (aM x) cs->fG w x cs:=by
 intro x
 induction x using Ex.ind with
 | h k s l ih=>
  intro cs h;rw [aM,pN] at h;obtain ⟨hl,hr⟩:=h
  match cs,hl with
  | [a,b,c],_=>
   have h0:=(hr 0 _ a rfl rfl).c6;have h1:=(hr 1 _ b rfl rfl).c6;have h2:=hr 2 _ c rfl rfl;rw [fG];exact ⟨c,by rw [h0,h1],im.2 (RA.QF h2 (fun y hy cs' hc=>ih y hy cs' hc))⟩
theorem zd {cs:List AV} {v:Value} (h:RA D nu o w (.agg cs) v): ∃xs:List Value,v = .agg xs.toArray∧Rb D nu o w cs xs:=by
 cases h with
 | agg _ xs h1 h2 h3=>exact ⟨xs.toList,by simp,by simpa using h1,fun j c x q1 q2=>h2 j c x q1 (by simpa using q2)⟩
theorem RA.Kx {α:Type} {z:Nat} (hz:0<z) {enc:α->List AV} {rd:α->List Value->Prop} {xs:List α} {v:Value} (hD: ∀b off n c,v = .slice (some ⟨b,off,none⟩) n c->b<w.heap.size->D b) (h:iz w z rd xs v) (hlen: ∀x,(enc x).length=z)
  (hrd: ∀x,x∈xs-> ∀cs:List Value,rd x cs->Rb D nu [] w (enc x) cs∧ ∀y∈cs,y.oneCell'=true):RA D nu [] w (.aB z (xs.map enc) xs.length) v:=by
 rcases h with ⟨rfl|⟨a,rfl⟩,rfl⟩|⟨b,off,cap,rfl,h1,h2,h3⟩
 ·exact .bu z
 ·exact .bL z a
 ·have hex: ∀i:Nat, ∃cs:List Value, ∀x,xs[i]? = some x->rd x cs∧dm w b (off+i * z) cs:=fun i=>by
   cases hx:xs[i]? with
   | none=>exact ⟨[],fun x hx=>by cases hx⟩
   | some x=>
    obtain ⟨cs,q⟩:=h3 i x hx;exact ⟨cs,fun y hy=>by cases hy;exact q⟩
  let g:Nat->List Value:=fun i=>Classical.choose (hex i)
  have hg: ∀i x,xs[i]? = some x->rd x (g i)∧dm w b (off+i * z) (g i):=fun i x hx=>Classical.choose_spec (hex i) x hx
  have key: ∀(i j:Nat) row c,(xs.map enc)[i]? = some row->row[j]? = some c-> ∃y,(g i)[j]? = some y∧w.cell? ⟨b,off+i * z+j,none⟩=some y∧RA D nu [] w c y∧y.oneCell'=true:=by
   intro i j row c hi hj;rw [Xe] at hi
   cases hx:xs[i]? with
   | none=>rw [hx] at hi;cases hi
   | some x=>
    rw [hx] at hi;cases hi;obtain ⟨q1,q2⟩:=hg i x hx;obtain ⟨q3,q4⟩:=hrd x (Xw hx) _ q1
    have hjl:j<(g i).length:=by rw [<-q3.1];exact (WT.1 hj).1
    have e:=Xb hjl;exact ⟨_,e,j4 q2 j _ e,q3.2 j c _ hj e,q4 _ (Xw e)⟩
  refine .aB z _ _ b off cap (fun i j=>(g i).getD j Go.undef) (by simp) (by simpa using h1) h2 (fun hne=> ?_) (fun i row hi=> ?_) (fun i j row c hi hj=> ?_) (fun i j row c hi hj=> ?_) (fun i j row c hi hj=> ?_)
  ·obtain ⟨x,xs',rfl⟩: ∃x xs',xs=x :: xs':=by
    cases xs with
    | nil=>exact absurd rfl hne
    | cons x xs'=>exact ⟨x,xs',rfl⟩
   obtain ⟨c,hc⟩: ∃c,(enc x)[0]? = some c:=⟨_,Xb (by rw [hlen x];exact hz)⟩;obtain ⟨y,_,q,_⟩:=key 0 0 (enc x) c (by simp) hc;have hlt:=lI q;exact ⟨hlt,bb _ _,hD _ _ _ _ rfl hlt⟩
  ·rw [Xe] at hi
   cases hx:xs[i]? with
   | none=>rw [hx] at hi;cases hi
   | some x=>rw [hx] at hi;cases hi;exact hlen x
  ·obtain ⟨y,q1,q2,_⟩:=key i j row c hi hj;rw [q2,getD_some q1]
  ·obtain ⟨y,q1,_,q3,_⟩:=key i j row c hi hj;rw [getD_some q1];exact q3
  ·obtain ⟨y,q1,_,_,q4⟩:=key i j row c hi hj;rw [getD_some q1];exact q4
theorem BH (vs:List Value):Rb D nu o w (vs.map AV.v) vs:=⟨by simp,fun j c x h1 h2=>by
 rw [Xe,h2] at h1;cases h1;exact .v x⟩
theorem Ll {l:List ByteArray} {v:Value} (hD: ∀b off n c,v = .slice (some ⟨b,off,none⟩) n c->D b) (h:kr w l v):RA D nu [] w (aS l) v:=
 RA.Kx (by omega) (fun b off n c e _=>hD b off n c e) h (fun _=>rfl) (fun x _ cs hc=>by subst hc;exact ⟨BH [.string x],by simp [Value.oneCell']⟩)
theorem M5 {D:Nat->Prop} {nu:Nat->Nat->Value} {w:World} {v:Value} (hro:RO D nu [] w) {e:Ending} {w':World} (h:Cw w v e w'):Is D nu [] w (fun r' o'=>r' = .v v∧o'=[]) e w':=by
 obtain ⟨rfl,hb⟩:=h;exact ⟨v,nu,[], .v v,rfl,ay hb,hro.below hb, .v v,rfl,rfl⟩
theorem aq.za {f:FuncId} {args:List AV} {v:Value} (hc:e9 P f=true) (ha:aN 0 args=true) (h: ∀D nu w vargs,gb D nu [] w args vargs->Calls P f vargs w (Cw w v)):aq P f args (.v v):=
 ⟨⟨ha,rfl⟩,hc,fun D nu w vargs hro hra=>(h D nu w vargs hra).mono (fun e w' hr=>M5 hro hr)⟩
theorem aq.Fe {f:FuncId} {args:List AV} {l:List ByteArray} (hc:e9 P f=true) (ha:aN 0 args=true)
  (h: ∀D nu w vargs,gb D nu [] w args vargs->Calls P f vargs w (fun e w'=> ∃v,e = .returned v∧kr w' l v∧Below w.heap.size w w'∧ ∀b off n c,v = .slice (some ⟨b,off,none⟩) n c->w.heap.size<=b)):aq P f args (aS l):=
 ⟨⟨ha,by simp only [aS,AV.wf,aO]⟩,hc,fun D nu w vargs hro hra=>(h D nu w vargs hra).mono (fun e w' hr=>by
  obtain ⟨v,rfl,h1,hb,h2⟩:=hr
  exact ⟨v,nu,[],aS l,rfl,ay hb,hro.below hb,Ll (fun b off n c e=>hro.up b (h2 b off n c e)) h1,rfl,rfl⟩)⟩
theorem aq.args {f:FuncId} {args args':List AV} {r:AV} (h:aq P f args r) (hw:aN 0 args'=true) (hl: ∀D nu w vargs,gb D nu [] w args' vargs->gb D nu [] w args vargs):aq P f args' r:=
 ⟨⟨hw,h.1.2⟩,h.2.1,fun D nu w vargs hro hra=>h.2.2 D nu w vargs hro (hl D nu w vargs hra)⟩
theorem kf {a:AV} {vargs:Array Value} (h:gb D nu o w [a] vargs): ∃x,vargs = #[x]∧RA D nu o w a x:=by
 obtain ⟨x,hx⟩:=List.length_eq_one_iff.1 (by simpa using h.len.symm:vargs.toList.length=1)
 have e:vargs = #[x]:=by apply Array.ext';simpa using hx
 subst e;exact ⟨x,rfl,h.at' 0 a x rfl rfl⟩
theorem ze {a b:AV} {vargs:Array Value} (h:gb D nu o w [a,b] vargs): ∃x y,vargs = #[x,y]∧RA D nu o w a x∧RA D nu o w b y:=by
 have hl:vargs.toList.length=2:=by simpa using h.len.symm
 match hv:vargs.toList,hl with
 | [x,y],_=>
  have e:vargs = #[x,y]:=by apply Array.ext';simpa using hv
  subst e;exact ⟨x,y,rfl,h.at' 0 a x rfl rfl,h.at' 1 b y rfl rfl⟩
end
open Go.RowKit Go.ChangeShapes Go.Deep
def Ww (P:Program) (t:TypeId):Option (List (TypeId×Nat×Nat)):=match P.underlying t with
 | some (.struct fs)=>some (fs.toList.map fun f=>(f.type,f.offset,P.cellsOf f.type))
 | _=>none
section
variable {H:Type} {enc:TypeId×Value->H} {P:Program} {w:World}
def Td (enc:TypeId×Value->H) (P:Program) (w:World) (n:Nat) (t:TypeId) (cs:List Value):Prop:= ∃y,DataW.trod enc P w 0 (fun _=>true) true n t cs=some y∧ ∀k∈y.1.weights P t,k<=reachBytes
end
section
variable {H:Type} {enc:TypeId×Value->H} {w:World}
instance:Inhabited Ex:=⟨.mk 0 ⟨#[]⟩ []⟩
instance:Inhabited vQ:=⟨⟨0,⟨#[]⟩,⟨#[]⟩,⟨0,0,⟨#[]⟩⟩⟩⟩
instance:Inhabited Eu:=⟨⟨0,default,default⟩⟩
instance:Inhabited om:=⟨⟨⟨#[]⟩,⟨#[]⟩,false,⟨#[]⟩,⟨#[]⟩,default⟩⟩
end
open Go.ChangeShapes Go.WideShapes Go.ChangeAt Go.RowKit
theorem aq.QU {P:Program} {f:FuncId} {args:List AV} {v:Value} (h:aq P f args (.v v)) {w:World} {vargs:Array Value} (hr:gb (fun _=>True) (fun _ _=>Go.undef) [] w args vargs) (hG:e8 (fun _=>True) (fun _ _=>Go.undef) [] w:=by exact fun g T cs hg=>by cases hg) :
  Calls P f vargs w (Cw w v):=by
 refine (h.2.2 _ _ w vargs (RO.nil _ _ _ (fun _ _=>trivial) hG) hr).mono fun e w' hf=> ?_;obtain ⟨x,nu',o',r,rfl,hm,_,hx,rfl,rfl⟩:=hf;have e1:=hx.c6;subst e1;exact ⟨rfl,hm.os,hm.tape,hm.output,hm.size,fun b hb=>(hm.keep b hb (bb _ _)).1⟩
section
variable {H:Type} {enc:TypeId×Value->H} {w:World}
end
open Go.ChangeShapes Go.WideShapes Go.ChangeAt Go.RowKit
section
variable {H:Type} {enc:TypeId×Value->H} {w:World}
end
inductive db (L:List ByteArray->Prop):List ByteArray->Prop
 | nil:db L []
 | cons (u v:List ByteArray):u≠[]->L u->db L v->db L (u++v)
theorem db.append {L:List ByteArray->Prop} {u v:List ByteArray} (h:db L u) (k:db L v):db L (u++v):=by
 induction h with
 | nil=>exact k
 | cons a b h1 h2 _ ih=>rw [List.append_assoc];exact .cons a _ h1 h2 ih
theorem db.one {L:List ByteArray->Prop} {u:List ByteArray} (h:L u):db L u:=by
 by_cases hu:u=[]
 ·subst hu;exact .nil
 ·have:=db.cons u [] hu h .nil
  rwa [Yd] at this
theorem db.inv {L:List ByteArray->Prop} {w:List ByteArray} (h:db L w):w=[]∨ ∃u v,w=u++v∧u≠[]∧L u∧db L v:=by
 cases h with
 | nil=>exact .inl rfl
 | cons a b h1 h2 h3=>exact .inr ⟨a,b,rfl,h1,h2,h3⟩
mutual
def Lg:Ex->List ByteArray->Prop
 | .mk k s l,w=>if k=1 then w=[s] else if k=2 then cY l w else if k=3 then ix l w else if k=4 then db (te l) w
  else if k=5 then ∃u v,w=u++v∧te l u∧db (te l) v else if k=6 then w=[]∨te l w else False
def cY:List Ex->List ByteArray->Prop
 | [],w=>w=[]
 | x :: xs,w=> ∃u v,w=u++v∧Lg x u∧cY xs v
def ix:List Ex->List ByteArray->Prop
 | [],_=>False
 | x :: xs,w=>Lg x w∨ix xs w
def te:List Ex->List ByteArray->Prop
 | [],_=>False
 | x :: _,w=>Lg x w
end
theorem ny: ∀ {l:List Ex} {w:List ByteArray},ix l w ↔ ∃x∈l,Lg x w
 | [],w=>by simp [ix]
 | x :: xs,w=>by simp [ix,ny (l:=xs)]
mutual
def aH:Ex->Bool
 | .mk k _ l=>if k=4 then true else if k=6 then true else if k=3 then sG l else if k=2 then cL l else if k=5 then cL l else false
def sG:List Ex->Bool
 | []=>false
 | x :: xs=>aH x||sG xs
def cL:List Ex->Bool
 | []=>true
 | x :: xs=>aH x&&cL xs
end
theorem oM: ∀l:List Ex,sG l=l.any aH
 | []=>rfl
 | x :: xs=>by rw [sG,oM xs];rfl
theorem lD: ∀l:List Ex,cL l=l.all aH
 | []=>rfl
 | x :: xs=>by rw [cL,lD xs];rfl
theorem nz: ∀ {l:List Ex},cY l [] ↔ ∀x∈l,Lg x []
 | []=>by simp [cY]
 | x :: xs=>by
  rw [cY]
  constructor
  ·rintro ⟨u,v,h,h1,h2⟩;obtain ⟨rfl,rfl⟩:=Ye.1 h.symm;intro y hy
   rcases List.mem_cons.1 hy with rfl|hy
   ·exact h1
   ·exact nz.1 h2 y hy
  ·intro h;exact ⟨[],[],rfl,h x XY,nz.2 (fun y hy=>h y (XW _ hy))⟩
inductive Fit:Ex->Prop
 | lab (s:ByteArray):Fit (.mk 1 s [])
 | many (k:Int) (s:ByteArray) (l:List Ex):(k=2∨k=3)->1<l.length->(∀x∈l,Fit x)->Fit (.mk k s l)
 | one (k:Int) (s:ByteArray) (x:Ex):(k=4∨k=5∨k=6)->Fit x->Fit (.mk k s [x])
theorem fT {x:Ex} (h:Fit x):aH x=true↔Lg x []:=by
 induction h with
 | lab s=>simp [aH,Lg]
 | many k s l hk hl _ ih=>
  rcases hk with rfl|rfl
  ·simp only [aH,Lg,lD,nz,Int.reduceEq,if_false,if_true];rw [List.all_eq_true]
   constructor
   ·intro h x hx;exact (ih x hx).1 (h x hx)
   ·intro h x hx;exact (ih x hx).2 (h x hx)
  ·simp only [aH,Lg,oM,ny,List.any_eq_true,Int.reduceEq,if_false,if_true]
   constructor
   ·rintro ⟨x,hx,h⟩;exact ⟨x,hx,(ih x hx).1 h⟩
   ·rintro ⟨x,hx,h⟩;exact ⟨x,hx,(ih x hx).2 h⟩
 | one k s x hk _ ih=>
  rcases hk with rfl|rfl|rfl
  ·simp [aH,Lg,db.nil]
  ·simp only [aH,Lg,cL,te,Int.reduceEq,if_false,if_true,Yb];rw [ih]
   constructor
   ·intro h;exact ⟨[],[],rfl,h, .nil⟩
   ·rintro ⟨u,v,h,h1,_⟩;obtain ⟨rfl,rfl⟩:=Ye.1 h.symm;exact h1
  ·simp [aH,Lg]
def Ag (w:List ByteArray) (i j:Nat):List ByteArray:=(w.drop i).take (j - i)
theorem Jb (w:List ByteArray) (i:Nat):Ag w i i=[]:=by simp [Ag]
theorem ES {w:List ByteArray} {i j k:Nat} (h1:i<=j) (h2:j<=k):Ag w i j++Ag w j k=Ag w i k:=by
 unfold Ag
 have:k - i=(j - i)+(k - j):=by omega
 rw [this,List.take_add,List.drop_drop,show i+(j - i)=j by omega]
theorem pF {w:List ByteArray} {i j:Nat} (h:j<=w.length):(Ag w i j).length=j - i:=by
 simp [Ag];omega
theorem Ja {w u v:List ByteArray} {i k:Nat} (h1:i<=k) (h2:k<=w.length) (h:Ag w i k=u++v): ∃j,i<=j∧j<=k∧Ag w i j=u∧Ag w j k=v:=by
 have hl:=pF (i:=i) h2;rw [h,WX] at hl;have e:=ES (w:=w) (i:=i) (j:=i+u.length) (k:=k) (by omega) (by omega);rw [h] at e
 have el:(Ag w i (i+u.length)).length=u.length:=by rw [pF (by omega)];omega
 obtain ⟨e1,e2⟩:=List.append_inj e el;exact ⟨i+u.length,by omega,by omega,e1,e2⟩
def Tk (L:List ByteArray->Prop) (w:List ByteArray) (i j:Nat):Prop:=i<=j∧j<=w.length∧L (Ag w i j)
theorem qF: ∀ {l m:List Ex} {w:List ByteArray},cY (l++m) w ↔ ∃u v,w=u++v∧cY l u∧cY m v
 | [],m,w=>by
  constructor
  ·intro h;exact ⟨[],w,rfl,by rw [cY],h⟩
  ·rintro ⟨u,v,rfl,h,k⟩;rw [cY] at h;subst h;exact k
 | x :: l,m,w=>by
  rw [List.cons_append,cY]
  constructor
  ·rintro ⟨u,v,rfl,h1,h2⟩;obtain ⟨a,b,rfl,h3,h4⟩:=qF.1 h2;exact ⟨u++a,b,by simp,by rw [cY];exact ⟨u,a,rfl,h1,h3⟩,h4⟩
  ·rintro ⟨u,v,rfl,h,k⟩;rw [cY] at h;obtain ⟨a,b,rfl,h1,h2⟩:=h;exact ⟨a,b++v,by simp,h1,qF.2 ⟨b,v,rfl,h2,k⟩⟩
theorem Tk.word {L:List ByteArray->Prop} {w:List ByteArray}:Tk L w 0 w.length↔L w:=by
 simp [Tk,Ag]
mutual
def aD:Ex->List ByteArray
 | .mk k s l=>if k=1 then [s] else aK l
def aK:List Ex->List ByteArray
 | []=>[]
 | x :: xs=>aD x++aK xs
end
mutual
def kq:Ex->Nat->Nat->Prop
 | .mk k _ l,b,p=>if k=1 then p=b+1 else if k=2 then gP l b p else gh l b p
def gP:List Ex->Nat->Nat->Prop
 | [],_,_=>False
 | x :: xs,b,p=>kq x b p∨(aH x=true∧gP xs (b+(aD x).length) p)
def gh:List Ex->Nat->Nat->Prop
 | [],_,_=>False
 | x :: xs,b,p=>kq x b p∨gh xs (b+(aD x).length) p
end
mutual
def jz:Ex->Nat->Nat->Prop
 | .mk k _ l,b,p=>if k=1 then p=b+1 else if k=2 then jG l b p else gj l b p
def jG:List Ex->Nat->Nat->Prop
 | [],_,_=>False
 | x :: xs,b,p=>(cL xs=true∧jz x b p)∨jG xs (b+(aD x).length) p
def gj:List Ex->Nat->Nat->Prop
 | [],_,_=>False
 | x :: xs,b,p=>jz x b p∨gj xs (b+(aD x).length) p
end
mutual
def je:Ex->Nat->Nat->Nat->Prop
 | .mk k _ l,b,p,q=>if k=1 then False else if k=2 then gO l b p q else iw l b p q∨((k=4∨k=5)∧gj l b p∧gh l b q)
def gO:List Ex->Nat->Nat->Nat->Prop
 | [],_,_,_=>False
 | x :: xs,b,p,q=>je x b p q∨gO xs (b+(aD x).length) p q∨(jz x b p∧gP xs (b+(aD x).length) q)
def iw:List Ex->Nat->Nat->Nat->Prop
 | [],_,_,_=>False
 | x :: xs,b,p,q=>je x b p q∨iw xs (b+(aD x).length) p q
end
theorem qE: ∀ {l:List Ex} {b p:Nat},gP l b p->gh l b p
 | [],_,_,h=>h
 | x :: xs,b,p,h=>by
  rw [gP] at h;rw [gh];exact h.imp id (fun h=>qE h.2)
theorem x6: ∀ {l:List Ex} {b p:Nat},jG l b p->gj l b p
 | [],_,_,h=>h
 | x :: xs,b,p,h=>by
  rw [jG] at h;rw [gj];exact h.imp (fun h=>h.2) x6
theorem cW {k:Int} (h:k≠1) (s:ByteArray) (l:List Ex):aD (.mk k s l)=aK l:=by rw [aD,if_neg h]
theorem fN (x:Ex): ∀ {b p:Nat},kq x b p->b<p∧p<=b+(aD x).length:=by
 induction x using Ex.ind with
 | h k s l ih=>
  intro b p h
  have key: ∀(m:List Ex),(∀x∈m,x∈l)-> ∀ {b p:Nat},gh m b p->b<p∧p<=b+(aK m).length:=by
   intro m
   induction m with
   | nil=>intro _ b p h;exact h.elim
   | cons x xs ihm=>
    intro hm b p h;rw [gh] at h;rw [aK,WX]
    rcases h with h|h
    ·have:=ih x (hm x XY) h;omega
    ·have:=ihm (fun y hy=>hm y (XW _ hy)) h;omega
  rw [kq] at h
  by_cases h1:k=1
  ·rw [if_pos h1] at h;rw [aD,if_pos h1];simp;omega
  ·rw [if_neg h1] at h;rw [cW h1]
   split at h
   ·exact key l (fun _ h=>h) (qE h)
   ·exact key l (fun _ h=>h) h
theorem fE: ∀ {l:List Ex} {b p:Nat},gh l b p->b<p∧p<=b+(aK l).length
 | [],b,p,h=>h.elim
 | x :: xs,b,p,h=>by
  rw [gh] at h;rw [aK,WX]
  rcases h with h|h
  ·have:=fN x h;omega
  ·have:=fE h;omega
theorem fO (x:Ex): ∀ {b p:Nat},jz x b p->b<p∧p<=b+(aD x).length:=by
 induction x using Ex.ind with
 | h k s l ih=>
  intro b p h
  have key: ∀(m:List Ex),(∀x∈m,x∈l)-> ∀ {b p:Nat},gj m b p->b<p∧p<=b+(aK m).length:=by
   intro m
   induction m with
   | nil=>intro _ b p h;exact h.elim
   | cons x xs ihm=>
    intro hm b p h;rw [gj] at h;rw [aK,WX]
    rcases h with h|h
    ·have:=ih x (hm x XY) h;omega
    ·have:=ihm (fun y hy=>hm y (XW _ hy)) h;omega
  rw [jz] at h
  by_cases h1:k=1
  ·rw [if_pos h1] at h;rw [aD,if_pos h1];simp;omega
  ·rw [if_neg h1] at h;rw [cW h1]
   split at h
   ·exact key l (fun _ h=>h) (x6 h)
   ·exact key l (fun _ h=>h) h
theorem fF: ∀ {l:List Ex} {b p:Nat},gj l b p->b<p∧p<=b+(aK l).length
 | [],b,p,h=>h.elim
 | x :: xs,b,p,h=>by
  rw [gj] at h;rw [aK,WX]
  rcases h with h|h
  ·have:=fO x h;omega
  ·have:=fF h;omega
theorem dM (x:Ex): ∀ {b p q:Nat},je x b p q->(b<p∧p<=b+(aD x).length)∧b<q∧q<=b+(aD x).length:=by
 induction x using Ex.ind with
 | h k s l ih=>
  intro b p q h
  have key: ∀(m:List Ex),(∀x∈m,x∈l)-> ∀ {b p q:Nat},iw m b p q->(b<p∧p<=b+(aK m).length)∧b<q∧q<=b+(aK m).length:=by
   intro m
   induction m with
   | nil=>intro _ b p q h;exact h.elim
   | cons x xs ihm=>
    intro hm b p q h;rw [iw] at h;rw [aK,WX]
    rcases h with h|h
    ·have:=ih x (hm x XY) h;omega
    ·have:=ihm (fun y hy=>hm y (XW _ hy)) h;omega
  have keyS: ∀(m:List Ex),(∀x∈m,x∈l)-> ∀ {b p q:Nat},gO m b p q->(b<p∧p<=b+(aK m).length)∧b<q∧q<=b+(aK m).length:=by
   intro m
   induction m with
   | nil=>intro _ b p q h;exact h.elim
   | cons x xs ihm=>
    intro hm b p q h;rw [gO] at h;rw [aK,WX]
    rcases h with h|h|⟨h,h'⟩
    ·have:=ih x (hm x XY) h;omega
    ·have:=ihm (fun y hy=>hm y (XW _ hy)) h;omega
    ·have:=fO x h;have:=fE (qE h');omega
  rw [je] at h
  by_cases h1:k=1
  ·rw [if_pos h1] at h;exact h.elim
  ·rw [if_neg h1] at h;rw [cW h1]
   split at h
   ·exact keyS l (fun _ h=>h) h
   ·rcases h with h|⟨_,h,h'⟩
    ·exact key l (fun _ h=>h) h
    ·exact ⟨fF h,fE h'⟩
theorem oz: ∀ {l:List Ex} {b p q:Nat},gO l b p q->(b<p∧p<=b+(aK l).length)∧b<q∧q<=b+(aK l).length
 | [],b,p,q,h=>h.elim
 | x :: xs,b,p,q,h=>by
  rw [gO] at h;rw [aK,WX]
  rcases h with h|h|⟨h,h'⟩
  ·have:=dM x h;omega
  ·have:=oz h;omega
  ·have:=fO x h;have:=fE (qE h');omega
theorem oy: ∀ {l:List Ex} {b p q:Nat},iw l b p q->(b<p∧p<=b+(aK l).length)∧b<q∧q<=b+(aK l).length
 | [],b,p,q,h=>h.elim
 | x :: xs,b,p,q,h=>by
  rw [iw] at h;rw [aK,WX]
  rcases h with h|h
  ·have:=dM x h;omega
  ·have:=oy h;omega
def bt (F:Nat->Nat->Prop) (g:Nat->ByteArray):Nat->List ByteArray->Nat->Prop
 | p,[],q=>p=q
 | p,a :: w,q=> ∃r,F p r∧g r=a∧bt F g r w q
theorem bt.imp {F G:Nat->Nat->Prop} {g:Nat->ByteArray} (h: ∀p q,F p q->G p q): ∀ {w:List ByteArray} {p q:Nat},bt F g p w q->bt G g p w q
 | [],_,_,hc=>hc
 | _ :: _,_,_,⟨r,h1,h2,h3⟩=>⟨r,h _ _ h1,h2,h3.imp h⟩
theorem bt.app {F:Nat->Nat->Prop} {g:Nat->ByteArray}: ∀ {u v:List ByteArray} {p q:Nat},bt F g p (u++v) q ↔ ∃r,bt F g p u r∧bt F g r v q
 | [],v,p,q=>⟨fun h=>⟨p,rfl,h⟩,fun ⟨_,h,k⟩=>by cases h;exact k⟩
 | a :: u,v,p,q=>by
  constructor
  ·rintro ⟨r,h1,h2,h3⟩;obtain ⟨s,h4,h5⟩:=bt.app.1 h3;exact ⟨s,⟨r,h1,h2,h4⟩,h5⟩
  ·rintro ⟨s,⟨r,h1,h2,h4⟩,h5⟩;exact ⟨r,h1,h2,bt.app.2 ⟨s,h4,h5⟩⟩
def cK (I:Nat->Prop) (F:Nat->Nat->Prop) (T:Nat->Prop) (g:Nat->ByteArray):List ByteArray->Prop
 | []=>False
 | a :: w=> ∃p q,I p∧g p=a∧bt F g p w q∧T q
theorem bt.split {F G:Nat->Nat->Prop} {I T:Nat->Prop} {g:Nat->ByteArray} (hG: ∀p q,G p q->F p q∨(T p∧I q)): ∀ {w:List ByteArray} {p q:Nat},bt G g p w q ->
  bt F g p w q∨ ∃u a v r s,w=u++a :: v∧bt F g p u r∧T r∧I s∧g s=a∧bt G g s v q
 | [],_,_,h=> .inl h
 | a :: w,p,q,⟨r,h1,h2,h3⟩=>by
  rcases hG p r h1 with h|⟨h,k⟩
  ·rcases bt.split hG h3 with h4|⟨u,b,v,r',s,rfl,h4,h5,h6,h7,h8⟩
   ·exact .inl ⟨r,h,h2,h4⟩
   ·exact .inr ⟨a :: u,b,v,r',s,rfl,⟨r,h,h2,h4⟩,h5,h6,h7,h8⟩
  ·exact .inr ⟨[],a,w,p,r,rfl,rfl,h,k,h2,h3⟩
theorem bt.stay {F G:Nat->Nat->Prop} {S:Nat->Prop} {g:Nat->ByteArray} (hG: ∀p q,S p->G p q->F p q∧S q): ∀ {w:List ByteArray} {p q:Nat},S p->bt G g p w q->bt F g p w q∧S q
 | [],_,_,hs,h=>by cases h;exact ⟨rfl,hs⟩
 | a :: w,p,q,hs,⟨r,h1,h2,h3⟩=>by
  obtain ⟨h4,h5⟩:=hG p r hs h1;obtain ⟨h6,h7⟩:=bt.stay hG h5 h3;exact ⟨⟨r,h4,h2,h6⟩,h7⟩
def oh (ls:List ByteArray) (b:Nat) (g:Nat->ByteArray):Prop:= ∀(i:Nat) s,ls[i]? = some s->g (b+1+i)=s
theorem oh.left {l m:List ByteArray} {b:Nat} {g:Nat->ByteArray} (h:oh (l++m) b g):oh l b g:=fun i s hi=>h i s (by rw [List.getElem?_append_left (WT.1 hi).1];exact hi)
theorem oh.right {l m:List ByteArray} {b:Nat} {g:Nat->ByteArray} (h:oh (l++m) b g):oh m (b+l.length) g:=fun i s hi=>by
 have:=h (l.length+i) s (by rw [List.getElem?_append_right (by omega),Nat.add_sub_cancel_left];exact hi)
 rw [<-this];congr 1;omega
theorem bt.Lh {F G:Nat->Nat->Prop} {I T S:Nat->Prop} {g:Nat->ByteArray} (hG: ∀p q,S p->G p q->(F p q∧S q)∨(T p∧I q)): ∀ {w:List ByteArray} {p q:Nat},S p->bt G g p w q ->
  (bt F g p w q∧S q)∨ ∃u a v r s,w=u++a :: v∧bt F g p u r∧T r∧I s∧g s=a∧bt G g s v q
 | [],_,_,hs,h=> .inl ⟨h,by cases h;exact hs⟩
 | a :: w,p,q,hs,⟨r,h1,h2,h3⟩=>by
  rcases hG p r hs h1 with ⟨h,k⟩|⟨h,k⟩
  ·rcases bt.Lh hG k h3 with ⟨h4,h5⟩|⟨u,b,v,r',s,rfl,h4,h5,h6,h7,h8⟩
   ·exact .inl ⟨⟨r,h,h2,h4⟩,h5⟩
   ·exact .inr ⟨a :: u,b,v,r',s,rfl,⟨r,h,h2,h4⟩,h5,h6,h7,h8⟩
  ·exact .inr ⟨[],a,w,p,r,rfl,rfl,h,k,h2,h3⟩
theorem KK {x:Ex} {xs:List Ex} {b:Nat} {g:Nat->ByteArray} {w:List ByteArray} (hw:w≠[]) :
  cK (gP (x :: xs) b) (gO (x :: xs) b) (jG (x :: xs) b) g w ↔
   (cK (kq x b) (je x b) (jz x b) g w∧cL xs=true)∨(aH x=true∧cK (gP xs (b+(aD x).length)) (gO xs (b+(aD x).length)) (jG xs (b+(aD x).length)) g w) ∨
   ∃u v,w=u++v∧cK (kq x b) (je x b) (jz x b) g u∧cK (gP xs (b+(aD x).length)) (gO xs (b+(aD x).length)) (jG xs (b+(aD x).length)) g v:=by
 obtain ⟨a,w,rfl⟩:=Yf hw;generalize hb':b+(aD x).length=b'
 have eS: ∀p q,gO (x :: xs) b p q↔je x b p q∨gO xs b' p q∨(jz x b p∧gP xs b' q):=fun p q=>by rw [gO,hb']
 have eL: ∀p,jG (x :: xs) b p↔(cL xs=true∧jz x b p)∨jG xs b' p:=fun p=>by rw [jG,hb']
 have eF: ∀p,gP (x :: xs) b p↔kq x b p∨(aH x=true∧gP xs b' p):=fun p=>by rw [gP,hb']
 have inX: ∀ {p},kq x b p->p<=b':=fun h=>by have:=fN x h;omega
 have inXs: ∀ {p},gP xs b' p->b'<p:=fun h=>by have:=fE (qE h);omega
 have stayR: ∀ {w p q},b'<p->bt (gO (x :: xs) b) g p w q->bt (gO xs b') g p w q∧b'<q:=fun hp h=>
  bt.stay (S:=fun p=>b'<p) (fun p q hp h=>by
   rcases (eS p q).1 h with h|h|⟨h,_⟩
   ·have:=dM x h;omega
   ·exact ⟨h,by have:=oz h;omega⟩
   ·have:=fO x h;omega) hp h
 have endR: ∀ {q},b'<q->jG (x :: xs) b q->jG xs b' q:=fun hq h=>by
  rcases (eL _).1 h with ⟨_,h⟩|h
  ·have:=fO x h;omega
  ·exact h
 constructor
 ·rintro ⟨p,q,hp,hg,hc,hq⟩
  rcases (eF p).1 hp with hp|⟨he,hp⟩
  ·rcases bt.Lh (F:=je x b) (I:=gP xs b') (T:=jz x b) (S:=fun p=>p<=b') (fun p q hs h=>by
    rcases (eS p q).1 h with h|h|h
    ·exact .inl ⟨h,by have:=dM x h;omega⟩
    ·have:=oz h;omega
    ·exact .inr h) (inX hp) hc with ⟨h1,h2⟩|⟨u,c,v,r,s,rfl,h1,h2,h3,h4,h5⟩
   ·left
    rcases (eL q).1 hq with ⟨h3,h4⟩|h
    ·exact ⟨⟨p,q,hp,hg,h1,h4⟩,h3⟩
    ·have:=fF (x6 h);omega
   ·right;right;obtain ⟨h6,h7⟩:=stayR (inXs h3) h5;exact ⟨a :: u,c :: v,rfl,⟨p,r,hp,hg,h1,h2⟩,s,q,h3,h4,h6,endR h7 hq⟩
  ·obtain ⟨h1,h2⟩:=stayR (inXs hp) hc;exact .inr (.inl ⟨he,p,q,hp,hg,h1,endR h2 hq⟩)
 ·rintro (⟨⟨p,q,hp,hg,hc,hq⟩,he⟩|⟨he,p,q,hp,hg,hc,hq⟩|⟨u,v,e,hu,hv⟩)
  ·exact ⟨p,q,(eF p).2 (.inl hp),hg,hc.imp (fun p q h=>(eS p q).2 (.inl h)),(eL q).2 (.inl ⟨he,hq⟩)⟩
  ·exact ⟨p,q,(eF p).2 (.inr ⟨he,hp⟩),hg,hc.imp (fun p q h=>(eS p q).2 (.inr (.inl h))),(eL q).2 (.inr hq)⟩
  ·cases u with
   | nil=>exact hu.elim
   | cons a' u=>
    obtain ⟨rfl,rfl⟩:a=a'∧w=u++v:=by simpa using e
    cases v with
    | nil=>exact hv.elim
    | cons c v=>
     obtain ⟨p,r,h1,h2,h3,h4⟩:=hu;obtain ⟨s,q,k1,k2,k3,k4⟩:=hv;refine ⟨p,q,(eF p).2 (.inl h1),h2,bt.app.2 ⟨r,h3.imp (fun p q h=>(eS p q).2 (.inl h)),s,(eS r s).2 (.inr (.inr ⟨h4,k1⟩)),k2,k3.imp (fun p q h=>(eS p q).2 (.inr (.inl h)))⟩,(eL q).2 (.inr k4)⟩
theorem KJ {x:Ex} {xs:List Ex} {b:Nat} {g:Nat->ByteArray} {w:List ByteArray} :
  cK (gh (x :: xs) b) (iw (x :: xs) b) (gj (x :: xs) b) g w ↔
   cK (kq x b) (je x b) (jz x b) g w∨cK (gh xs (b+(aD x).length)) (iw xs (b+(aD x).length)) (gj xs (b+(aD x).length)) g w:=by
 cases w with
 | nil=>simp [cK]
 | cons a w=>
  generalize hb':b+(aD x).length=b'
  have eS: ∀p q,iw (x :: xs) b p q↔je x b p q∨iw xs b' p q:=fun p q=>by rw [iw,hb']
  have eL: ∀p,gj (x :: xs) b p↔jz x b p∨gj xs b' p:=fun p=>by rw [gj,hb']
  have eF: ∀p,gh (x :: xs) b p↔kq x b p∨gh xs b' p:=fun p=>by rw [gh,hb']
  constructor
  ·rintro ⟨p,q,hp,hg,hc,hq⟩
   rcases (eF p).1 hp with hp|hp
   ·obtain ⟨h1,h2⟩:=bt.stay (F:=je x b) (S:=fun p=>p<=b') (fun p q hs h=>by
     rcases (eS p q).1 h with h|h
     ·exact ⟨h,by have:=dM x h;omega⟩
     ·have:=oy h;omega) (by have:=fN x hp;omega) hc
    rcases (eL q).1 hq with hq|hq
    ·exact .inl ⟨p,q,hp,hg,h1,hq⟩
    ·have:=fF hq;omega
   ·obtain ⟨h1,h2⟩:=bt.stay (F:=iw xs b') (S:=fun p=>b'<p) (fun p q hs h=>by
     rcases (eS p q).1 h with h|h
     ·have:=dM x h;omega
     ·exact ⟨h,by have:=oy h;omega⟩) (by have:=fE hp;omega) hc
    rcases (eL q).1 hq with hq|hq
    ·have:=fO x hq;omega
    ·exact .inr ⟨p,q,hp,hg,h1,hq⟩
  ·rintro (⟨p,q,hp,hg,hc,hq⟩|⟨p,q,hp,hg,hc,hq⟩)
   ·exact ⟨p,q,(eF p).2 (.inl hp),hg,hc.imp (fun p q h=>(eS p q).2 (.inl h)),(eL q).2 (.inl hq)⟩
   ·exact ⟨p,q,(eF p).2 (.inr hp),hg,hc.imp (fun p q h=>(eS p q).2 (.inr h)),(eL q).2 (.inr hq)⟩
theorem Hl {I T:Nat->Prop} {F:Nat->Nat->Prop} {g:Nat->ByteArray} {w:List ByteArray} (hw:w≠[]) :
  cK I (fun p q=>F p q∨(T p∧I q)) T g w↔db (cK I F T g) w:=by
 constructor
 ·generalize hn:w.length=n
  induction n using Nat.strongRecOn generalizing w with
  | ind n ih=>
   intro h
   cases w with
   | nil=>exact h.elim
   | cons a w=>
    obtain ⟨p,q,hp,hg,hc,hq⟩:=h
    rcases bt.split (F:=F) (I:=I) (T:=T) (fun _ _ h=>h) hc with h1|⟨u,c,v,r,s,rfl,h1,h2,h3,h4,h5⟩
    ·exact .one ⟨p,q,hp,hg,h1,hq⟩
    ·have:=ih (c :: v).length (by subst hn;simp;omega) (w:=c :: v) (by simp) rfl ⟨s,q,h3,h4,h5,hq⟩
     rw [show a :: (u++c :: v)=(a :: u)++(c :: v) from rfl];exact .cons _ _ (by simp) ⟨p,r,hp,hg,h1,h2⟩ this
 ·intro h
  have key:w=[]∨cK I (fun p q=>F p q∨(T p∧I q)) T g w:=by
   clear hw
   induction h with
   | nil=>exact .inl rfl
   | cons u v hu h1 _ ih=>
    right
    cases u with
    | nil=>exact absurd rfl hu
    | cons a u=>
     obtain ⟨p,q,hp,hg,hc,hq⟩:=h1;have hc':=hc.imp (G:=fun p q=>F p q∨(T p∧I q)) (fun p q h=> .inl h)
     rcases ih with rfl|ih
     ·rw [Yd];exact ⟨p,q,hp,hg,hc',hq⟩
     ·cases v with
      | nil=>exact ih.elim
      | cons c v=>
       obtain ⟨s,t,k1,k2,k3,k4⟩:=ih;exact ⟨p,t,hp,hg,bt.app.2 ⟨q,hc',s, .inr ⟨hq,k1⟩,k2,k3⟩,k4⟩
  exact key.resolve_left hw
theorem Wi {x:Ex} (hx:Fit x): ∀ {b:Nat} {g:Nat->ByteArray} {w:List ByteArray},oh (aD x) b g->w≠[]->(Lg x w↔cK (kq x b) (je x b) (jz x b) g w):=by
 induction hx with
 | lab s=>
  intro b g w hl hw
  have hg:g (b+1)=s:=by have:=hl 0 s (by simp [aD]);simpa using this
  cases w with
  | nil=>exact absurd rfl hw
  | cons a w=>
   simp only [Lg,if_true,cK,kq,jz]
   constructor
   ·intro h;simp only [List.cons.injEq] at h;obtain ⟨rfl,rfl⟩:=h;exact ⟨b+1,b+1,rfl,hg,rfl,rfl⟩
   ·rintro ⟨p,q,rfl,h1,h2,h3⟩
    cases w with
    | nil=>rw [<-h1,hg]
    | cons c w=>obtain ⟨r,h4,_⟩:=h2;simp [je] at h4
 | many k s l hk hl hf ih=>
  intro b g w hla hw
  have h1:k≠1:=by omega
  rw [cW h1] at hla
  rcases hk with rfl|rfl
  ·have key: ∀(m:List Ex),(∀x∈m,x∈l)-> ∀ {b:Nat} {w:List ByteArray},oh (aK m) b g->w≠[]->(cY m w↔cK (gP m b) (gO m b) (jG m b) g w):=by
    intro m
    induction m with
    | nil=>
     intro _ b w _ hw;obtain ⟨a,w,rfl⟩:=Yf hw;simp [cY,cK,gP]
    | cons x xs ihm=>
     intro hm b w hla hw;rw [aK] at hla;have hx:=hm x XY;have hxs: ∀y∈xs,y∈l:=fun y hy=>hm y (XW _ hy);have eE:=fT (hf x hx)
     have eA:cL xs=true↔cY xs []:=by
      rw [lD,List.all_eq_true,nz];exact ⟨fun h y hy=>(fT (hf y (hxs y hy))).1 (h y hy),fun h y hy=>(fT (hf y (hxs y hy))).2 (h y hy)⟩
     rw [KK hw,cY,eE,eA];have I1:=fun {w:List ByteArray} (hw:w≠[])=>ih x hx (b:=b) (g:=g) (w:=w) hla.left hw;have I2:=fun {w:List ByteArray} (hw:w≠[])=>ihm hxs (b:=b+(aD x).length) (w:=w) hla.right hw
     constructor
     ·rintro ⟨u,v,rfl,h2,h3⟩
      by_cases hu:u=[]
      ·subst hu;exact .inr (.inl ⟨h2,(I2 hw).1 h3⟩)
      ·by_cases hv:v=[]
       ·subst hv;rw [Yd] at hw ⊢;exact .inl ⟨(I1 hu).1 h2,h3⟩
       ·exact .inr (.inr ⟨u,v,rfl,(I1 hu).1 h2,(I2 hv).1 h3⟩)
     ·rintro (⟨h2,h3⟩|⟨h2,h3⟩|⟨u,v,rfl,h2,h3⟩)
      ·exact ⟨w,[],by simp,(I1 hw).2 h2,h3⟩
      ·exact ⟨[],w,rfl,h2,(I2 hw).2 h3⟩
      ·refine ⟨u,v,rfl,(I1 (fun e=> ?_)).2 h2,(I2 (fun e=> ?_)).2 h3⟩
       ·subst e;exact h2
       ·subst e;exact h3
   simp only [Lg,kq,jz,Int.reduceEq,if_false,if_true];rw [key l (fun _ h=>h) hla hw]
   have: ∀ {F G:Nat->Nat->Prop} {I T:Nat->Prop} {w},(∀p q,F p q↔G p q)->(cK I F T g w↔cK I G T g w):=fun {F G I T w} h=>by
    have:F=G:=funext fun p=>funext fun q=>propext (h p q)
    rw [this]
   exact this (fun p q=>by simp [je])
  ·have key: ∀(m:List Ex),(∀x∈m,x∈l)-> ∀ {b:Nat} {w:List ByteArray},oh (aK m) b g->w≠[]->(ix m w↔cK (gh m b) (iw m b) (gj m b) g w):=by
    intro m
    induction m with
    | nil=>
     intro _ b w _ hw;obtain ⟨a,w,rfl⟩:=Yf hw;simp [ix,cK,gh]
    | cons x xs ihm=>
     intro hm b w hla hw;rw [aK] at hla;rw [KJ,ix,ih x (hm x XY) hla.left hw,ihm (fun y hy=>hm y (XW _ hy)) hla.right hw]
   simp only [Lg,kq,jz,Int.reduceEq,if_false,if_true];rw [key l (fun _ h=>h) hla hw]
   have: ∀ {F G:Nat->Nat->Prop} {I T:Nat->Prop} {w},(∀p q,F p q↔G p q)->(cK I F T g w↔cK I G T g w):=fun {F G I T w} h=>by
    have:F=G:=funext fun p=>funext fun q=>propext (h p q)
    rw [this]
   exact this (fun p q=>by simp [je])
 | one k s x hk hx ih=>
  intro b g w hla hw
  have h1:k≠1:=by omega
  have h2:k≠2:=by omega
  rw [cW h1,aK,aK,Yd] at hla;have I:=fun {w:List ByteArray} (hw:w≠[])=>ih (b:=b) (g:=g) (w:=w) hla hw
  have eF:kq (.mk k s [x]) b=kq x b:=funext fun p=>by simp [kq,h1,h2,gh]
  have eL:jz (.mk k s [x]) b=jz x b:=funext fun p=>by simp [jz,h1,h2,gj]
  have star: ∀ {w:List ByteArray},w≠[]->(db (te [x]) w↔cK (kq x b) (fun p q=>je x b p q∨(jz x b p∧kq x b q)) (jz x b) g w):=fun {w} hw=>by
   rw [Hl hw]
   constructor
   ·intro h;clear hw
    induction h with
    | nil=>exact .nil
    | cons u v hu h1 _ ih=>exact .cons u v hu ((I hu).1 h1) ih
   ·intro h;clear hw
    induction h with
    | nil=>exact .nil
    | cons u v hu h1 _ ih=>exact .cons u v hu ((I hu).2 h1) ih
  rw [eF,eL]
  rcases hk with rfl|rfl|rfl
  ·have eFo:je (.mk 4 s [x]) b=(fun p q=>je x b p q∨(jz x b p∧kq x b q)):=funext fun p=>funext fun q=>by simp [je,iw,gj,gh]
   rw [eFo, <- star hw];simp [Lg]
  ·have eFo:je (.mk 5 s [x]) b=(fun p q=>je x b p q∨(jz x b p∧kq x b q)):=funext fun p=>funext fun q=>by simp [je,iw,gj,gh]
   rw [eFo, <- star hw];simp only [Lg,Int.reduceEq,if_false,if_true]
   constructor
   ·rintro ⟨u,v,rfl,h3,h4⟩;exact (db.one h3).append h4
   ·intro h
    rcases h.inv with e|⟨u,v,rfl,hu,h3,h4⟩
    ·exact absurd e hw
    ·exact ⟨u,v,rfl,h3,h4⟩
  ·have eFo:je (.mk 6 s [x]) b=je x b:=funext fun p=>funext fun q=>by simp [je,iw]
   rw [eFo, <- I hw];simp [Lg,te,hw]
end
section
open Go.RowKit Go.Shelf
theorem zk {F:Fence} (hd:F.depth=none) (k:Nat):F.room k:=fun d h=>by rw [hd] at h;cases h
theorem rD {F:Fence} (hd:F.depth=none) {m m':Nat} {P:Program} {l:Nat} {f:FuncId} {tmps:Array Value} {assign body:Code} {w:World} {R:Ending->World->Prop}
  (h:RoundIn F m P l f tmps assign body w R):RoundIn F m' P l f tmps assign body w R:=⟨h.1,fun c cs _=>h.2 c cs (zk hd _)⟩
theorem rO {F:Fence} (hd:F.depth=none) {m:Nat} (m':Nat) {P:Program} {l:Nat} {args:Array Value} {W:World} {R:Ending->World->Prop} (h:YieldAt F m P l args W R):YieldAt F m' P l args W R:=by
 obtain ⟨fn,tmps,assign,body,hy,hR⟩:=h;exact ⟨fn,tmps,assign,body,hy,rD hd hR⟩
def xm (lo hi:Nat) (e:TypeId) (k:Nat):Obj->Prop
 | .cells _ T _=>k<lo∨(hi<=k∧T≠e)
 | o=>o.isWalk=true∧(k<lo∨hi<=k)
structure Kept (lo hi:Nat) (e:TypeId) (W W':World):Prop where
 size:W.heap.size<=W'.heap.size
 same: ∀(k:Nat) (o:Obj),W.heap[k]? = some o->xm lo hi e k o->W'.heap[k]? = some o
theorem Kept.refl (lo hi:Nat) (e:TypeId) (W:World):Kept lo hi e W W:=⟨WN _,fun _ _ h _=>h⟩
theorem Kept.trans {lo hi:Nat} {e:TypeId} {A B C:World} (h:Kept lo hi e A B) (k:Kept lo hi e B C):Kept lo hi e A C:=
 ⟨Nat.le_trans h.size k.size,fun i o hx ho=>k.same i o (h.same i o hx ho) ho⟩
theorem Kept.below {lo hi:Nat} {e:TypeId} {W W':World} (h:Below W.heap.size W W'):Kept lo hi e W W':=
 ⟨h.size,fun k _ hk _=>(h.block k (WR.1 hk).1).trans hk⟩
theorem Kept.alloc {lo hi:Nat} {e:TypeId} (W:World) (o:Obj):Kept lo hi e W (W.alloc o):= .below ((Below.refl _ _).alloc (WN _) o)
theorem GQ {lo hi:Nat} {e:TypeId} {k:Nat} {o:Obj} (h:xm lo hi e k o):k<lo∨hi<=k:=by
 cases o<;>simp only [xm] at h<;>omega
theorem Kept.setCell {lo hi:Nat} {e:TypeId} (W:World) {b o:Nat} (h1:lo<=b) (h2:b<hi) (v:Value):Kept lo hi e W (W.setCell ⟨b,o,none⟩ v):=
 ⟨by show _<=(W.heap.modify _ _).size;rw [Array.size_modify];exact WN _,fun k _ hx hk=>(Below.heap_setCell W _ v k (fun e=>by have e2:k=b:=e;have:=GQ hk;omega)).trans hx⟩
theorem Kept.putObj {lo hi:Nat} {e:TypeId} (W:World) (l:Nat) (o o':Obj) (h:W.heap[l]? = some o) (hc:o.isCells=false) (hw:o.isWalk=false):Kept lo hi e W (W.putObj l o'):=
 ⟨by simp,fun k o'' hx ho=>(World.putObj_heap_other (fun e=>by
  subst e;rw [h] at hx;cases hx
  cases o<;>simp_all [xm,Obj.isCells])).trans hx⟩
theorem Kept.grown {lo hi:Nat} {e:TypeId} {W W':World} {row:Option Nat} (hg:W.grownBy W' row) (h: ∀r o,row=some r->W.heap[r]? = some o-> ¬xm lo hi e r o):Kept lo hi e W W':=
 ⟨hg.size,fun k o hx hk=>(hg.block k (WR.1 hx).1 (fun e=>h k o e.symm hx hk)).trans hx⟩
theorem Kept.cells {lo hi:Nat} {e:TypeId} {w0 W W':World} (h:Kept lo hi e W W') (hc:Cells w0 W) (hlo:w0.heap.size<=lo):Cells w0 W':=fun b o v hv=>by
 have hb:=lI hv;have h1:=hc b o v hv;unfold World.cell? at h1 ⊢
 cases hw:W.heap[b]? with
 | none=>simp [hw] at h1
 | some ob=>
  cases ob with
  | cells C T fz=>
   have:=h.same b _ hw (.inl (by omega))
   simp only [this];simpa [hw] using h1
  | _=>simp [hw] at h1
theorem Kept.box {lo hi:Nat} {e:TypeId} {W W':World} (h:Kept lo hi e W W') {k:Nat} {C:Array Value} {T:TypeId} {fz:Nat×Nat} (hk:hi<=k) (hT:T≠e) (hx:W.heap[k]? = some (.cells C T fz)):W'.heap[k]? = some (.cells C T fz):=
 h.same k _ hx (.inr ⟨hk,hT⟩)
def Wc {α:Type} (J Jx:List α->World->Prop) (Kp:World->World->Prop) (pre:List α) (x:α) (W:World) (e:Ending) (W':World):Prop:=
 (e = .returned (.bool true)∧J (pre++[x]) W'∧Kp W W')∨(e = .returned (.bool false)∧Jx (pre++[x]) W')
theorem aI {w:World} {k:Nat} {C:Array Value} {T:TypeId} {fz:Nat×Nat} (h:w.heap[k]? = some (.cells C T fz)) (o:Nat):w.cell? ⟨k,o,none⟩=C[o]? :=by simp [World.cell?,h]
theorem cD {w:World} {k:Nat} {C:Array Value} {T:TypeId} (h:w.heap[k]? = some (.cells C T (0,0))) (o:Nat):w.frozen? ⟨k,o,none⟩=false:=by simp [World.frozen?,h]
theorem j0 {w:World} {k:Nat} {ob:Obj} (h:w.heap[k]? = some ob) (o:Obj):(w.alloc o).heap[k]? = some ob:=(Below.heap_alloc w o k (WR.1 h).1).trans h
theorem dG {w:World} {k:Nat} {ob:Obj} (h:w.heap[k]? = some ob) {b o:Nat} (v:Value) (hne:k≠b):(w.setCell ⟨b,o,none⟩ v).heap[k]? = some ob:=(Below.heap_setCell w _ v k hne).trans h
theorem jB {w:World} {k:Nat} {v:Value} {T:TypeId} {fz:Nat×Nat} (h:w.heap[k]? = some (.cells #[v] T fz)) (u:Value):(w.setCell ⟨k,0,none⟩ u).heap[k]? = some (.cells #[u] T fz):=by
 simp [World.setCell,Array.getElem?_modify,h]
theorem dF {w:World} {k D:Nat} {ob:Obj} (h:w.heap[k]? = some ob) (o:Obj) (hne:k≠D):(w.putObj D o).heap[k]? = some ob:=(World.putObj_heap_other hne).trans h
theorem mf {B:Nat} {W W':World} (h:Below W.heap.size W W'):KeepsFrom B W W':=⟨h.size,fun k _ _ hk _=>(h.block k (WR.1 hk).1).trans hk⟩
theorem ke {β:Type} (B0 B:Nat) (C:β->Array Value) (T:TypeId):OwnFrom B0 (fun (s:β) W=>W.heap[B]? = some (.cells (C s) T (0,0))):=fun s X Y row hs hg hr=>by
 refine (hg.block B (WR.1 hs).1 (fun e=> ?_)).trans hs;obtain ⟨_,o,ho,hc⟩:=hr B e.symm;rw [hs] at ho;cases ho;cases hc
def handed {α:Type} (encs:α->Array Value) (ps:Array Tmp) (a:Act) (x:α):Act:={ tmps:=(ps.toList.zip (encs x).toList).foldl (fun t pv=>t.setIfInBounds pv.1 pv.2) a.tmps,defers:=[] }
theorem GL {α:Type} (encs:α->Array Value) (ps:Array Tmp) (a:Act) (x:α):handed encs ps a x={ tmps:=(ps.zip (encs x)).foldl (fun t (p,v)=>t.setIfInBounds p v) a.tmps,defers:=[] }:=by
 rw [handed, <- Array.toList_zip,Array.foldl_toList]
def Act.o7 (a:Act) (d:Nat) (v:Value):Act:={ a with tmps:=a.tmps.setIfInBounds d v }
section
variable {P:Program} {α:Type} {g:Operand} {ps:Array Tmp} {assign body:Code} {Q:Exit->Act->World->Prop} {a:Act} {w:World}
theorem KZ {lo hi gf:Nat} {et:TypeId} {lb:Array Value} (hg:a.eval g = .func (.func gf) #[] lb) (eg: ∀args w,(callFunc gf args).run P w = .ok (.enter gf args) w)
  {encs:α->Array Value} {S Sp:List α->Prop} {N:Nat} {w0:World} (hseq:SeqStopsK Fence.wide 8 P gf lb encs (Kept lo hi et) S Sp N w0)
  (hb0:Below w0.heap.size w0 w) (hps: ∀x,(encs x).size=ps.size)
  (I:List α->World->Prop) (Ix:Code->List α->World->Prop) (hI:OwnFrom w.heap.size I) (hIx: ∀c,OwnFrom w.heap.size (Ix c)) (h0:I [] w) (d:Nat) (C:α->Array Value) (T:TypeId)
  (hsz: ∀pre W,I pre W->w.heap.size<=W.heap.size)
  (hassign: ∀(l:Nat) (x:α) (W:World) (K:Act->World->Prop),K (Act.o7 (handed encs ps a x) d (.pointer (some ⟨W.heap.size,0,none⟩))) (W.alloc (.cells (C x) T)) ->
   assign.wpIn (Fence.wide.inRound l) 7 P (Exit.then K (fun _ _ _=>False)) (handed encs ps a x) W)
  (hbody: ∀(l:Nat) (pre:List α) (x:α) (B:Nat) (W:World),w.heap.size<=l->(∃r,W.heap[l]? = some (.loop r))->I pre W->w.heap.size<=B->W.heap[B]? = some (.cells (C x) T (0,0))->pre.length<N ->
   body.wpIn (Fence.wide.inRound l) 7 P (ownPostG w.heap.size (Kept lo hi et) I Ix (pre++[x]) W) (Act.o7 (handed encs ps a x) d (.pointer (some ⟨B,0,none⟩))) W)
  (hdone: ∀(D:Nat) (xs:List α) (W:World),w.heap.size<=D->S xs->I xs W->W.heap[D]? = some (.deferred (some []))->Q .normal { a with defers:={ target:= .collected D,args:= #[] } :: a.defers } W)
  (hstop: ∀(D:Nat) (c:Code) (pre:List α) (W:World),w.heap.size<=D->Sp pre->Ix c pre W->W.heap[D]? = some (.deferred (some []))->c.wpIn Fence.wide 9 P Q { a with defers:={ target:= .collected D,args:= #[] } :: a.defers } W) :
  (Code.rangeFunc g ps assign body).wpIn Fence.wide 9 P Q a w:=
 wpIn_rangeFunc_ownH (F:=Fence.wide) (n:=9) rfl (by omega) hg trivial eg hseq Kept.trans (fun W l o o' _ h hc hw=>Kept.putObj W l o o' h hc hw) hb0 hps I Ix hI hIx h0
  (fun x a' W=> ∃B,w.heap.size<=B∧a'=Act.o7 (handed encs ps a x) d (.pointer (some ⟨B,0,none⟩))∧W.heap[B]? = some (.cells (C x) T (0,0)))
  (fun x a' s X Y row hs hg' hr=>by
   obtain ⟨B,h1,h2,h3⟩:=hs
   exact ⟨B,h1,h2,ke (β:=Unit) w.heap.size B (fun _=>C x) T () X Y row h3 hg' hr⟩)
  (fun l pre x W K hi' hK=>GL encs ps a x ▸ hassign l x W K (hK _ _ (((KeepsOthers.alloc W _).from _)) (Kept.alloc W _) (hI.alloc _ hi') ⟨W.heap.size,hsz _ _ hi',rfl,fp W _⟩))
  (fun l pre x a' W hl hr hi' ha hn=>by
   obtain ⟨B,h1,rfl,h3⟩:=ha
   exact hbody l pre x B W hl hr hi' h1 h3 hn) hdone hstop
end
theorem v7 {W w1:World} {lo hi B size k:Nat} {e:TypeId} {v:Value} {xs:List Value} {tmp:Obj} (hrow:W.ownsRow lo e size v k xs) (hgrow:(W.alloc tmp).grownBy w1 v.ownBlock) (hlo:lo<=B) (hB:B<hi) (v':Value) :
  Kept lo hi e W (w1.setCell ⟨B,0,none⟩ v'):=by
 refine ((Kept.alloc W tmp).trans (Kept.grown hgrow fun r o hr ho hk=> ?_)).trans (Kept.setCell _ hlo hB _)
 rcases (hrow.alloc tmp).2 with ⟨rfl,_⟩|⟨g,cap,cur,rfl,hg,hgb,_⟩
 ·simp [Value.ownBlock] at hr
 ·obtain rfl:g=r:=by simpa [Value.ownBlock] using hr
  rw [hgb] at ho;cases ho;simp only [xm] at hk
  rcases hk with hk|hk
  ·omega
  ·exact hk.2 rfl
theorem lu {w W:World} (h:Below w.heap.size w W) {D:Nat} {o:Obj} (hD:w.heap.size<=D) (o':Obj) (_:W.heap[D]? = some o):Below w.heap.size w (W.putObj D o'):=
 h.grown (grownBy_putObj' W D o') (h.size) (fun k e=>by cases e;exact hD)
end
theorem oW (c:Int) (w:World):Calls Tryz.prog 108 #[.int .i32 c] w fun e w'=>e = .returned (.bool (mo c))∧w=w':=by
 unfold mo
 by_cases h1:97<=c
 ·have d1:decide (97<=c)=true:=by simpa using h1
  rw [d1,Yg]
  go_enter Tryz.func108,Tryz.ntmps108
  go_wp2_with fail
  go_ret
  exact ⟨rfl,rfl⟩
 ·have d1:decide (97<=c)=false:=by simpa using h1
  rw [d1,Bool.false_and]
  go_enter Tryz.func108,Tryz.ntmps108
  go_wp2_with fail
  go_ret
  exact ⟨rfl,rfl⟩
theorem BS (c:Int):(mo c=true∧fw c=true)∨(mo c=false∧(c !=95)=false∧fw c=true)∨(mo c=false∧(c !=95)=true∧c<48∧fw c=false) ∨
  (mo c=false∧(c !=95)=true∧48<=c∧57<c∧fw c=false)∨(mo c=false∧(c !=95)=true∧48<=c∧c<=57∧fw c=true):=by
 unfold fw
 cases h:mo c
 ·by_cases h1:c=95
  ·subst h1;exact .inr (.inl ⟨rfl,rfl,rfl⟩)
  ·have hn:(c==95)=false:=by simpa using h1
   have hn':(c !=95)=true:=by simpa using h1
   rw [hn,hn']
   by_cases h2:48<=c
   ·by_cases h3:c<=57
    ·exact .inr (.inr (.inr (.inr ⟨rfl,rfl,h2,h3,by simp [h2,h3]⟩)))
    ·exact .inr (.inr (.inr (.inl ⟨rfl,rfl,h2,by omega,by simp [h3]⟩)))
   ·exact .inr (.inr (.inl ⟨rfl,rfl,by omega,by simp [h2]⟩))
 ·exact .inl ⟨rfl,by simp⟩
theorem Bl (s:ByteArray) (w:World) (hs:s.size<=maxLen):Calls Tryz.prog 107 #[.string s] w (Cw w (.bool (iQ s))):=by
 unfold maxLen at hs;have hit: ∀pos,Below w.heap.size w (w.iter s pos):=fun pos=>(Below.refl _ _).alloc (WN _) _;have HI:=Lib.hid hit;clear hit
 go_enter Tryz.func107,Tryz.ntmps107
 go_wp2_with fail
 go_loopw [2] (fun r wr=>r = .bool false∧ ∃pos:Nat,wr=w.iter s pos∧pos<=s.size∧ ∀j (h:j<pos) (h':j<s.size),fw s[j].toNat=true) (fun _ wr=>s.size - wr.iterPos w.heap.size)
 case atStart=>exact ⟨rfl,0,rfl,Nat.zero_le _,fun j h=>by omega⟩
 case round=>
  obtain ⟨rfl,pos,rfl,hpos,hP⟩:=hrel;have HP:=Lib.hid hP;clear hP
  by_cases hp:pos<s.size
  ·by_cases ha:(s[pos]'hp).toNat<128
   ·have hnx: ∀ty,(Instr.next (.pointer (some ⟨w.heap.size,0,none⟩)) true ty).run Tryz.prog (w.iter s pos)=_:=fun ty=>run_next_ascii w s pos ty hp ha;have HV:=Lib.hid (@B8 s pos hp)
    have HS:Hid (∀(hv:fw (s[pos]'hp).toNat=true) j (h:j<pos+1) (h':j<s.size),fw s[j].toNat=true):=fun hv j h h'=>by
     by_cases e:j=pos
     ·subst e;exact hv
     ·exact HP.out j (by omega) h'
    have hL:=fun W=>oW (((s[pos]'hp).toNat:Nat):Int) W;generalize hn:(s[pos]'hp).toNat=n at hnx ha HV HS hL;have HN:=Lib.hid hn;clear hn;have HL:=Lib.hid hL;clear hL
    rcases BS (n:Int) with ⟨g1,g2⟩|⟨g1,g2,g3⟩|⟨g1,g2,g3,g4⟩|⟨g1,g2,g3,g4,g5⟩|⟨g1,g2,g3,g4,g5⟩
    ·rw [g1] at HL;clear g1;have HG:=Lib.hid g2;clear g2
     go_wp2_with (go_at_call 108;refine (HL.out _).mono ?_;rintro e w' ⟨rfl,rfl⟩)
     go_roundw
     case rel=>exact ⟨rfl,pos+1,rfl,by omega,HS.out HG.out⟩
     case measure=>simp;omega
    ·rw [g1] at HL;clear g1;have HG:=Lib.hid g3;clear g3
     go_wp2_with (go_at_call 108;refine (HL.out _).mono ?_;rintro e w' ⟨rfl,rfl⟩)
     go_roundw
     case rel=>exact ⟨rfl,pos+1,rfl,by omega,HS.out HG.out⟩
     case measure=>simp;omega
    ·rw [g1] at HL;clear g1;have HG:=Lib.hid g4;clear g4
     go_wp2_with (go_at_call 108;refine (HL.out _).mono ?_;rintro e w' ⟨rfl,rfl⟩)
     go_ret
     exact cr rfl (HV.out HG.out).symm (HI.out _)
    ·rw [g1] at HL;clear g1;have HG:=Lib.hid g5;clear g5
     go_wp2_with (go_at_call 108;refine (HL.out _).mono ?_;rintro e w' ⟨rfl,rfl⟩)
     go_ret
     exact cr rfl (HV.out HG.out).symm (HI.out _)
    ·rw [g1] at HL;clear g1;have HG:=Lib.hid g5;clear g5
     go_wp2_with (go_at_call 108;refine (HL.out _).mono ?_;rintro e w' ⟨rfl,rfl⟩)
     go_roundw
     case rel=>exact ⟨rfl,pos+1,rfl,by omega,HS.out HG.out⟩
     case measure=>simp;omega
   ·have hnx: ∀ty,(Instr.next (.pointer (some ⟨w.heap.size,0,none⟩)) true ty).run Tryz.prog (w.iter s pos)=_:=fun ty=>run_next_any w s pos ty hp;have hd:=(decode_high s pos hp (by omega)).1
    have HV:=Lib.hid (B8 hp (by
     have hl:mo (((s[pos]'hp).toNat:Nat):Int)=false:=by unfold mo;simp;omega
     unfold fw;rw [hl];simp;omega))
    have hL:=fun W=>oW (((Utf8.decode s pos).1:Nat):Int) W;generalize (Utf8.decode s pos).1=n at hnx hd hL;generalize (Utf8.decode s pos).2=m at hnx
    have hl:mo (n:Int)=false:=by unfold mo;simp;omega
    rw [hl] at hL
    have hn:((n:Int) !=95)=true:=by simp;omega
    have HL:=Lib.hid hL;clear hL hl ha
    go_wp2_with (go_at_call 108;refine (HL.out _).mono ?_;rintro e w' ⟨rfl,rfl⟩)
    go_ret
    exact cr rfl HV.out.symm (HI.out _)
  ·have hnx: ∀ty,(Instr.next (.pointer (some ⟨w.heap.size,0,none⟩)) true ty).run Tryz.prog (w.iter s pos)=_:=fun ty=>run_next_end w s pos ty hp;have HV:=Lib.hid (H8 (s:=s) (fun j h=>HP.out j (by omega) h));have he:=ni s
   by_cases h0:s.size=0
   ·rw [decide_eq_true h0] at he
    have hx:Hid ((decide (1<=s.size)&&decide (s.size<=20))=false):=by show _=_;simp [h0]
    clear h0
    go_wp2_with fail
    go_ret
    exact cr rfl (by rw [HV.out,hx.out]) (HI.out _)
   ·rw [decide_eq_false h0] at he
    have hx:Hid ((decide (1<=s.size)&&decide (s.size<=20))=decide (s.size<=20)):=by show _=_;rw [decide_eq_true (by omega),Yg]
    go_wp2_with fail
    go_ret
    exact cr rfl (by rw [HV.out,hx.out,decide_eq_decide];omega) (HI.out _)
def yL (xs:List ByteArray) (s:ByteArray):Int:=match xs.findIdx? (fun x=>cH s x) with|some k=>k|none=> -1
def hasB (xs:List ByteArray) (s:ByteArray):Bool:=xs.any (fun x=>cH s x)
theorem Nd {xs:List ByteArray} {s:ByteArray} {k:Nat} (hk:k<xs.length) (hx:cH s xs[k]=true) (h: ∀j (_:j<k) (h':j<xs.length),cH s xs[j]=false):yL xs s=k:=by
 have:xs.findIdx? (fun x=>cH s x)=some k:=by
  rw [Yh];exact ⟨hk,hx,fun j hj=>by rw [h j hj (by omega)];decide⟩
 rw [yL,this]
theorem GM {xs:List ByteArray} {s:ByteArray} (h: ∀j (h:j<xs.length),cH s xs[j]=false):yL xs s = -1:=by
 have:xs.findIdx? (fun x=>cH s x)=none:=by
  rw [Yi];intro x hx;obtain ⟨j,hj,rfl⟩:=List.getElem_of_mem hx;exact h j hj
 rw [yL,this]
theorem JP (xs:List ByteArray) (s:ByteArray):decide (0<=yL xs s)=hasB xs s:=by
 unfold yL hasB
 cases h:xs.findIdx? (fun x=>cH s x) with
 | none=>
  rw [Yi] at h;simp only [show decide ((0:Int) <= -1)=false by decide];rw [eq_comm,List.any_eq_false]
  exact fun x hx=>by rw [h x hx];decide
 | some k=>
  rw [Yh] at h;obtain ⟨h1,h2,_⟩:=h;rw [decide_eq_true (by simp),eq_comm,List.any_eq_true];exact ⟨xs[k],List.getElem_mem _,h2⟩
theorem GN (xs:List ByteArray) (v:Value) (s:ByteArray) (w:World) (h1:kr w xs v) :
  Calls Tryz.prog 135 #[v, .string s] w (Mg w (.int .i64 (yL xs s))):=by
 obtain ⟨p,c,rfl,hc1,hc2⟩:=h1.shape;unfold maxLen at hc2;have H1:=Lib.hid h1;clear h1
 go_enter Tryz.func135,Tryz.ntmps135
 go_wp2_with fail
 go_loop [4,8] (fun r i=>r = .int .i64 0∧ ∃k:Nat,k<=xs.length∧i = .int .i64 k∧ ∀j (h:j<k) (h':j<xs.length),cH s xs[j]=false) (fun _ i=>xs.length - (intOf i).toNat)
 case atStart=>exact ⟨rfl,0,Nat.zero_le _,rfl,fun j h=>by omega⟩
 case round=>
  obtain ⟨rfl,k,hk,rfl,hP⟩:=hrel;have HP:=Lib.hid hP;clear hP
  by_cases hlt:k<xs.length
  ·obtain ⟨b1,o1,rfl,a0⟩:=rz H1.out hlt
   cases hs:cH s xs[k]
   ·have HS:=Lib.hid hs;unfold cH at hs
    go_wp2_with fail
    go_round
    case rel=>exact ⟨rfl,k+1,by omega,by go_num,fun j h h'=>by
     by_cases e:j=k
     ·subst e;exact HS.out
     ·exact HP.out j (by omega) h'⟩
    case measure=>simp [intOf];omega
   ·have HS:=Lib.hid hs;unfold cH at hs
    go_wp2_with fail
    go_ret
    exact KY rfl (Nd hlt HS.out HP.out).symm
  ·go_wp2_with fail
   go_ret
   exact KY rfl (GM (fun j h=>HP.out j (by omega) h)).symm
theorem yv (xs:List ByteArray) (v:Value) (s:ByteArray) (w:World) (h1:kr w xs v) :
  Calls Tryz.prog 109 #[v, .string s] w (Mg w (.bool (hasB xs s))):=by
 have HC:=Lib.hid (GN xs v s w h1);clear h1;rw [<-JP]
 go_enter Tryz.func109,Tryz.ntmps109
 go_wp2_with fail
 refine HC.out.mono ?_;rintro e w' ⟨rfl,rfl⟩
 go_wp2_with fail
 go_ret
 exact ⟨rfl,rfl⟩
theorem Ju (s:ByteArray) (w:World) (hs:s.size<=maxLen):Calls Tryz.prog 76 #[.string s] w (Cw w (.bool (di s))):=by
 have HV:=Lib.hid (fun W=>Bl s W hs);have HB:=Lib.hid (fun o=>((Below.refl w.heap.size w).alloc (WN _) o))
 have HW:Hid (∀W1,Below (w.alloc (.cells (words.map Value.string).toArray 9)).heap.size (w.alloc (.cells (words.map Value.string).toArray 9)) W1->Calls Tryz.prog 109 #[.slice (some ⟨w.heap.size,0,none⟩) 7 7, .string s] W1 (Mg W1 (.bool (hasB words s)))):=fun W1 hb=>
  yv words _ s W1 (D4 (rd:=OO) (xs:=words) (sz:=1) ((hb.block _ (by simp)).trans (fp w _)) (fun x=>[Value.string x]) (fun x _=>rfl) (fun x _=>rfl) (by simp [List.flatMap,words]) rfl (by decide) (by unfold maxLen;decide))
 cases g1:iQ s
 ·rw [g1] at HV
  have hfin:di s=false:=by simp [di,g1]
  rw [hfin];clear hfin;have G1:=Lib.hid g1;clear g1 HW
  go_enter Tryz.func76,Tryz.ntmps76
  go_wp2_with fail
  refine (HV.out _).mono ?_;rintro e w1 ⟨rfl,hb1⟩
  go_wp2_with fail
  go_ret
  exact cr rfl rfl (cp (HB.out _) hb1)
 ·rw [g1] at HV;obtain ⟨h0,_⟩:=vL g1;have hl:=fun W=>oW (oQ s) W
  have hfin:di s=(mo (oQ s) && !hasB words s):=by simp [di,g1,hasB]
  rw [hfin];clear hfin
  have hfi:oQ s=((s[0]'h0).toNat:Int):=by simp [oQ,h0]
  rw [hfi] at hl;rw [hfi];have HL:=Lib.hid hl;clear hl hfi;have hby:(s[0]'h0).toNat<256:=UInt8.toNat_lt _
  cases g2:mo ((s[0]'h0).toNat:Int)
  ·rw [g2] at HL;rw [Bool.false_and];clear g2
   go_enter Tryz.func76,Tryz.ntmps76
   go_wp2_with fail
   refine (HV.out _).mono ?_;rintro e w1 ⟨rfl,hb1⟩
   go_wp2_with fail
   refine (HL.out _).mono ?_;rintro e w' ⟨rfl,rfl⟩
   go_wp2_with fail
   go_ret
   exact cr rfl rfl (cp (HB.out _) hb1)
  ·rw [g2] at HL;rw [Yg];clear g2
   go_enter Tryz.func76,Tryz.ntmps76
   go_wp2_with fail
   refine (HV.out _).mono ?_;rintro e w1 ⟨rfl,hb1⟩
   go_wp2_with fail
   refine (HL.out _).mono ?_;rintro e w' ⟨rfl,rfl⟩
   go_wp2_with fail
   refine (HW.out _ hb1).mono ?_;rintro e w' ⟨rfl,rfl⟩
   go_wp2_with fail
   go_ret
   exact cr rfl rfl (cp (HB.out _) hb1)
theorem KG (k:Int) (s:ByteArray) (p:Option Addr) (n c:Nat) (w:World) (hs:s.size<=maxLen) (hn:n<=maxLen) :
  Calls Tryz.prog 50 #[.agg #[.int .i64 k, .string s, .slice p n c]] w (Cw w (.bool (bp k s n))):=by
 have HF:=Lib.hid (fun W=>Ju s W hs);have HB:=Lib.hid (fun o=>((Below.refl w.heap.size w).alloc (WN _) o));unfold maxLen at hs hn;have he:=ni s
 cases h1:k==1
 ·cases h2:k==2
  ·cases h3:k==3
   ·cases h4:k==4
    ·cases h5:k==5
     ·cases h6:k==6
      ·have hfin:bp k s n=false:=by simp [bp,h1,h2,h3,h4,h5,h6]
       rw [hfin];clear hfin he HF
       go_enter Tryz.func50,Tryz.ntmps50
       go_wp2_with fail
       go_ret
       exact cr rfl rfl (HB.out _)
      ·skip
       by_cases h7:n=1
       ·have h8:((n:Int)==1)=true:=by simp [h7]
        cases h9:nZ s
        ·have hfin:bp k s n=false:=by simp [bp,h1,h2,h3,h4,h5,h6,h7,h9]
         rw [nZ] at h9;rw [h9] at he;rw [hfin];clear hfin HF h9
         go_enter Tryz.func50,Tryz.ntmps50
         go_wp2_with fail
         go_ret
         exact cr rfl rfl (HB.out _)
        ·have hfin:bp k s n=true:=by simp [bp,h1,h2,h3,h4,h5,h6,h7,h9]
         rw [nZ] at h9;rw [h9] at he;rw [hfin];clear hfin HF h9
         go_enter Tryz.func50,Tryz.ntmps50
         go_wp2_with fail
         go_ret
         exact cr rfl rfl (HB.out _)
       ·have h8:((n:Int)==1)=false:=by simp;omega
        have hfin:bp k s n=false:=by simp [bp,h1,h2,h3,h4,h5,h6,h7]
        rw [hfin];clear hfin he HF
        go_enter Tryz.func50,Tryz.ntmps50
        go_wp2_with fail
        go_ret
        exact cr rfl rfl (HB.out _)
     ·skip
      by_cases h7:n=1
      ·have h8:((n:Int)==1)=true:=by simp [h7]
       cases h9:nZ s
       ·have hfin:bp k s n=false:=by simp [bp,h1,h2,h3,h4,h5,h7,h9]
        rw [nZ] at h9;rw [h9] at he;rw [hfin];clear hfin HF h9
        go_enter Tryz.func50,Tryz.ntmps50
        go_wp2_with fail
        go_ret
        exact cr rfl rfl (HB.out _)
       ·have hfin:bp k s n=true:=by simp [bp,h1,h2,h3,h4,h5,h7,h9]
        rw [nZ] at h9;rw [h9] at he;rw [hfin];clear hfin HF h9
        go_enter Tryz.func50,Tryz.ntmps50
        go_wp2_with fail
        go_ret
        exact cr rfl rfl (HB.out _)
      ·have h8:((n:Int)==1)=false:=by simp;omega
       have hfin:bp k s n=false:=by simp [bp,h1,h2,h3,h4,h5,h7]
       rw [hfin];clear hfin he HF
       go_enter Tryz.func50,Tryz.ntmps50
       go_wp2_with fail
       go_ret
       exact cr rfl rfl (HB.out _)
    ·skip
     by_cases h7:n=1
     ·have h8:((n:Int)==1)=true:=by simp [h7]
      cases h9:nZ s
      ·have hfin:bp k s n=false:=by simp [bp,h1,h2,h3,h4,h7,h9]
       rw [nZ] at h9;rw [h9] at he;rw [hfin];clear hfin HF h9
       go_enter Tryz.func50,Tryz.ntmps50
       go_wp2_with fail
       go_ret
       exact cr rfl rfl (HB.out _)
      ·have hfin:bp k s n=true:=by simp [bp,h1,h2,h3,h4,h7,h9]
       rw [nZ] at h9;rw [h9] at he;rw [hfin];clear hfin HF h9
       go_enter Tryz.func50,Tryz.ntmps50
       go_wp2_with fail
       go_ret
       exact cr rfl rfl (HB.out _)
     ·have h8:((n:Int)==1)=false:=by simp;omega
      have hfin:bp k s n=false:=by simp [bp,h1,h2,h3,h4,h7]
      rw [hfin];clear hfin he HF
      go_enter Tryz.func50,Tryz.ntmps50
      go_wp2_with fail
      go_ret
      exact cr rfl rfl (HB.out _)
   ·skip
    by_cases h7:1<n
    ·skip
     cases h9:nZ s
     ·have hfin:bp k s n=false:=by simp [bp,h1,h2,h3,h7,h9]
      rw [nZ] at h9;rw [h9] at he;rw [hfin];clear hfin HF h9
      go_enter Tryz.func50,Tryz.ntmps50
      go_wp2_with fail
      go_ret
      exact cr rfl rfl (HB.out _)
     ·have hfin:bp k s n=true:=by simp [bp,h1,h2,h3,h7,h9]
      rw [nZ] at h9;rw [h9] at he;rw [hfin];clear hfin HF h9
      go_enter Tryz.func50,Tryz.ntmps50
      go_wp2_with fail
      go_ret
      exact cr rfl rfl (HB.out _)
    ·have hfin:bp k s n=false:=by simp [bp,h1,h2,h3,h7]
     rw [hfin];clear hfin he HF
     go_enter Tryz.func50,Tryz.ntmps50
     go_wp2_with fail
     go_ret
     exact cr rfl rfl (HB.out _)
  ·skip
   by_cases h7:1<n
   ·skip
    cases h9:nZ s
    ·have hfin:bp k s n=false:=by simp [bp,h1,h2,h7,h9]
     rw [nZ] at h9;rw [h9] at he;rw [hfin];clear hfin HF h9
     go_enter Tryz.func50,Tryz.ntmps50
     go_wp2_with fail
     go_ret
     exact cr rfl rfl (HB.out _)
    ·have hfin:bp k s n=true:=by simp [bp,h1,h2,h7,h9]
     rw [nZ] at h9;rw [h9] at he;rw [hfin];clear hfin HF h9
     go_enter Tryz.func50,Tryz.ntmps50
     go_wp2_with fail
     go_ret
     exact cr rfl rfl (HB.out _)
   ·have hfin:bp k s n=false:=by simp [bp,h1,h2,h7]
    rw [hfin];clear hfin he HF
    go_enter Tryz.func50,Tryz.ntmps50
    go_wp2_with fail
    go_ret
    exact cr rfl rfl (HB.out _)
 ·by_cases h7:n=0
  ·have h8:((n:Int)==0)=true:=by simp [h7]
   have hfin:bp k s n=di s:=by simp [bp,h1,h7]
   rw [hfin];clear hfin he h7
   go_enter Tryz.func50,Tryz.ntmps50
   go_wp2_with fail
   refine (HF.out _).mono ?_;rintro e w1 ⟨rfl,hb1⟩
   go_wp2_with fail
   go_ret
   exact cr rfl rfl (cp (HB.out _) hb1)
  ·have h8:((n:Int)==0)=false:=by simp;omega
   have hfin:bp k s n=false:=by simp [bp,h1,h7]
   rw [hfin];clear hfin he HF
   go_enter Tryz.func50,Tryz.ntmps50
   go_wp2_with fail
   go_ret
   exact cr rfl rfl (HB.out _)
section
open Go.RowKit Go.Shelf
attribute [local go_sem] Oper.semAt_some
def Lz (l:List om):List ByteArray:=l.flatMap (fun p=>[p.dV,p.to])
end
section
open Go.RowKit Go.Shelf
attribute [local go_sem] Oper.semAt_some
def Bp (out:List ByteArray) (s:ByteArray):List ByteArray:=if hasB out s then out else out++[s]
def Pm (xs:List ByteArray):List ByteArray:=xs.foldl Bp []
theorem Ng:(Tryz.prog.info? 9).map (fun i=>(i.zero,i.size,i.bytes))=some (some (.string ⟨#[]⟩),1,16):=by kernel_rfl
theorem D5 {w:World} {base:Nat} {e:TypeId} {v:Value} {xs:List ByteArray} (h:w.ownsRow base e 1 v xs.length (xs.map Value.string)):kr w xs v:=by
 obtain ⟨_,h|⟨g,cap,cur,rfl,_,hg,h1,h2,h3,h4⟩⟩:=h
 ·exact .inl ⟨.inl h.1,List.length_eq_zero_iff.1 h.2⟩
 ·refine .inr ⟨g,0,cap,rfl,h1,h2,fun i x hx=>⟨[.string x],rfl, ?_,trivial⟩⟩;rw [aI hg];have hi:=(WT.1 hx).1
  have:(cur.toList.take (xs.length * 1))[i]? = some (.string x):=by rw [h4];simp [hx]
  rw [List.getElem?_take_of_lt (by omega)] at this;simpa using this
end
section
open Go.RowKit Go.Shelf
attribute [local go_sem] Oper.semAt_some
theorem Hg {w:World} {base:Nat} {e:TypeId} {z:Nat} {v:Value} {n:Nat} {xs:List Value} (h:w.ownsRow base e z v n xs): ∀b off n c,v = .slice (some ⟨b,off,none⟩) n c->base<=b:=by
 intro b off m c hv
 rcases h.2 with ⟨rfl,_⟩|⟨g,cap,cur,rfl,hg,_⟩
 ·cases hv
 ·cases hv;exact hg
theorem toList_inj {s t:ByteArray}:(s.toList==t.toList)=true↔s=t:=by
 refine ⟨fun h=> ?_,fun h=>by subst h;simp⟩;have h:=eq_of_beq h;rw [ByteArray.toList_eq,ByteArray.toList_eq] at h;obtain ⟨⟨l⟩⟩:=s;obtain ⟨⟨m⟩⟩:=t;have h:l=m:=h;subst h;rfl
theorem ym {α:Type} {f:α->α->Bool}: ∀(xs ys:List α),(∀x∈xs, ∀y,f x y=true↔x=y)->(jS f xs ys=true↔xs=ys)
 | [],[],_=>by simp [jS]
 | [],_ :: _,_=>by simp [jS]
 | _ :: _,[],_=>by simp [jS]
 | x :: xs,y :: ys,h=>by
  rw [jS,XK,h x (by simp),ym xs ys (fun a ha=>h a (by simp [ha]))];simp
theorem Gv: ∀x y:Ex,gu x y=true↔x=y:=by
 intro x
 induction x using Ex.ind with
 | h k s l ih=>
  rintro ⟨k',s',l'⟩;rw [sw,XK,XK,toList_inj,ym l l' ih,beq_iff_eq];simp [and_assoc]
def UK (q:FQ):List vQ:=q.conds.flatMap (fun c=>[c.left,c.right])++q.ret
def E7 (o:vQ):Int:=if o.kind==1 then 2 else if o.kind==3 then o.val.kind else 0
def Qr (vs:List ByteArray):Option (List ByteArray)->om->Option (List ByteArray)
 | none,_=>none
 | some ns,p=>if nZ p.name then some ns else if hasB ns p.name||hasB vs p.name then none else some (ns++[p.name])
def Wo (vs:List ByteArray) (ps:List om):Option (List ByteArray):=ps.foldl (Qr vs) (some [])
def Wl (vs ns:List ByteArray):List (ByteArray×Int):=vs.map (·, 1)++ns.map (·, 2)
def NR (vs ns:List ByteArray) (o:vQ):Bool:=if o.kind==1 then hasB vs o.name else if o.kind==2 then hasB ns o.name else true
def Ot (c:Eu):Bool:=E7 c.left !=0&&E7 c.right !=0&&E7 c.left !=E7 c.right
def Wg (q:FQ):Int:=if KS q then
  match Wo (Pm (Lz q.sD)) q.sD with
  | none=>9
  | some ns=>if (UK q).all (NR (Pm (Lz q.sD)) ns) then (if q.conds.any Ot then 10 else 0) else 8
 else 2
def V9 (l:List ByteArray):Prop:= ∀k (h:k<l.length),hasB (l.take k) l[k]=false
def Wt (a b:List ByteArray) (s:ByteArray):ByteArray:=if yL a s<0 then s else b.getD (yL a s).toNat ⟨#[]⟩
def Wn (f:ByteArray->ByteArray) (x:vQ):vQ:=if x.kind=1∨x.kind=2 then { x with name:=f x.name } else x
structure WE (f:ByteArray->ByteArray):Prop where
 inj: ∀s t,f s=f t->s=t
 free: ∀s,di (f s)=di s
 no: ∀s,nZ (f s)=nZ s
def WJ {α:Type} (k:Nat) (l:List α):List α:=l.drop k++l.take k
def Ws:List ByteArray:=[⟨#[97]⟩,⟨#[98]⟩,⟨#[99]⟩,⟨#[100]⟩,⟨#[101]⟩,⟨#[102]⟩,⟨#[103]⟩]
def NS (p q:om):Bool:=if cH p.dV q.dV&&cH p.to q.to&&p.path==q.path then (if p.path then gu p.expr q.expr else nZ p.name&&nZ q.name&&cH p.label q.label) else false
def PM (ps:List om) (k:Nat):Bool:=match ps[k]? with
 | some p=>(ps.take k).any (fun a=>NS a p)
 | none=>false
def UJ (ps:List om) (i:Nat):List Nat:=((List.range ps.length).drop i).filter (fun k=> !PM ps k)
def SI (ps:List om):List Nat:=UJ ps 0
def MK (p:om):List ByteArray:=p.dV :: p.to :: (if !p.path && !nZ p.name then [p.name] else [])
def G9 (ps:List om) (out:List ByteArray) (k:Int):List ByteArray:=if 0<=k∧k<ps.length then (match ps[k.toNat]? with|some p=>(MK p).foldl Bp out|none=>out) else out
def uP (ps:List om) (ks:List Int):List ByteArray:=ks.foldl (G9 ps) []
def SJ (b:Bool):Nat:=if b then 1 else 0
def Sa (ps:List om) (names:List ByteArray) (k:Int):Nat:=if 0<=k∧k<ps.length then (match ps[k.toNat]? with|some p=>SJ (hasB names p.dV)+SJ (hasB names p.to)|none=>0) else 0
def QA (ps:List om) (k:Nat):Bool:=match ps[k]? with
 | some p=>p.path
 | none=>false
def BA (ps:List om) (names:List ByteArray) (k:Nat):Int:=2 * (Sa ps names k:Int)+(if QA ps k then 0 else 1)
def SD (r:Nat->Int):List Nat->Nat->Nat
 | [],m=>m
 | k :: l,m=>SD r l (if r k - r m > 0 then k else m)
def Tm (l:List Nat):List Int:=l.map (fun k:Nat=>(k:Int))
def Pl (ps:List om) (out:List Nat):List Nat->Nat
 | []=>0
 | a :: l=>SD (BA ps (uP ps (Tm out))) l a
def VB (ps:List om):Nat->List Nat->List Nat->List Nat
 | 0,out,_=>out
 | n+1,out,left=>if left.isEmpty then out else VB ps n (out++[Pl ps out left]) (left.filter (fun k=>k !=Pl ps out left))
structure Vt (ps:List om) (out left l:List Nat):Prop where
 len:l.length=out.length+left.length
 pre:l.take out.length=out
 mem: ∀k,k∈l->k∈out∨k∈left
 VA:l.Nodup
 We: ∀(i k:Nat) (hi:i<l.length) (hk:k<l.length),out.length<=i->i<k->BA ps (uP ps (Tm (l.take i))) l[k]<=BA ps (uP ps (Tm (l.take i))) l[i]∧(BA ps (uP ps (Tm (l.take i))) l[k]=BA ps (uP ps (Tm (l.take i))) l[i]->l[i]<l[k])
def Wr (ps:List om):List Nat:=VB ps (SI ps).length [] (SI ps)
theorem qg: ∀ {a b:List Nat},a.Pairwise (· < ·)->b.Pairwise (· < ·)->(∀j,j∈a↔j∈b)->a=b
 | [],[],_,_,_=>rfl
 | [],y :: b,_,_,h=>by have:=(h y).2 XY;simp at this
 | x :: a,[],_,_,h=>by have:=(h x).1 XY;simp at this
 | x :: a,y :: b,ha,hb,h=>by
  rw [List.pairwise_cons] at ha hb
  have hxy:x=y:=by
   rcases Yj.1 ((h x).1 XY) with e|e
   ·exact e
   ·rcases Yj.1 ((h y).2 XY) with e2|e2
    ·exact e2.symm
    ·have h1:=hb.1 x e;have h2:=ha.1 y e2;omega
  subst hxy;refine congrArg (x :: ·) (qg ha.2 hb.2 (fun j=> ?_))
  have:=h j
  simp only [Yj] at this
  constructor
  ·intro hj
   rcases this.1 (.inr hj) with e|e
   ·have:=ha.1 j hj;omega
   ·exact e
  ·intro hj
   rcases this.2 (.inr hj) with e|e
   ·have:=hb.1 j hj;omega
   ·exact e
def WK (l:List Nat):List Nat:=(List.range (l.foldr max 0+1)).filter (fun j=>l.contains j)
noncomputable def bh (w:List ByteArray) (L:List ByteArray->Prop) (fr:List Nat):List Nat:=(List.range (w.length+1)).filter (fun j=> @decide (∃i,i∈fr∧Tk L w i j) (Classical.propDecidable _))
def Wm (w:List ByteArray) (s:ByteArray) (fr:List Nat):List Nat:=(fr.filter (fun k=>decide (w[k]? = some s))).map (· + 1)
structure WC (w:List ByteArray) (L:List ByteArray->Prop) (fr out:List Nat):Prop where
 wi:out.Pairwise (· < ·)
 le: ∀j,j∈out->j<=w.length
 sub: ∀j,j∈fr->j∈out
 WG: ∀j,j∈out-> ∃i,i∈fr∧Tk (db L) w i j
section
variable {P:Program} {ops:Array Oper} {N:rQ}
def IA (P:Program) (ops:Array Oper) (S:jX N) (j:Nat) (o:Oper) (a:Act) (g:N.G):Prop:=
 (Region.wanted o (yielded ops a.tmps)=true∧Ur P S j g ((execOp a.eval o).run P (N.wd g)))∨(Region.wanted o (yielded ops a.tmps)=false∧ ∃g',N.wd g'=N.wd g∧N.R g g'∧(∀i,i≠j->N.pre i g->N.pre i g')∧S.p undef g')
def Kw (P:Program) (ops:Array Oper) (L:List (jX N)) (g0:N.G) (Q:Act->World->Prop):List Oper->Nat->((Nat->Value)->Act)->Prop
 | [],k,A=> ∀x g,N.R g0 g->(∀i,i<k->(vR L i).p (x i) g)->Q (A x) (N.wd g)
 | o :: l,k,A=>(∀x g,N.R g0 g->(∀i,aG ops k i=true->(vR L i).p (x i) g)->N.pre k g->IA P ops (vR L k) k o (A x) g)∧Kw P ops L g0 Q l (k+1) (fun x=>(A x).put o.dst (x k))
def Bu (ops:Array Oper) (i j:Nat):Bool:=
 match ops[i]?,ops[j]? with
 | some oi,some oj=>(aG ops j i||match oi.dst with|some d=> !(oj.looksAt ops).contains d|none=>true) && !aG ops i j&&(match oi.dst with|some d=>oj.dst !=some d|none=>true)&&(aG ops j i||match oj.dst with|some d=> !(oi.looksAt ops).contains d|none=>true)
 | _,_=>true
def ou (ops:Array Oper):Bool:=
 Region.noSelect ops&&(List.range ops.size).all (fun j=>(List.range j).all (fun i=>Bu ops i j)&&(!aG ops j j&&Ax ops j))
def Mi (P:Program) (l:List Oper) (L:List (jX N)) (g0:N.G) (a0:Act) (j:Nat) (o:Oper):Prop:=
 ∀x g,N.R g0 g->(∀i,aG l.toArray j i=true->(vR L i).p (x i) g)->N.pre j g->IA P l.toArray (vR L j) j o (dk (fun i=>decide (i<j)) x l 0 a0) g
theorem Bn {l:List Oper} {L:List (jX N)} {g0:N.G} {Q:Act->World->Prop} {a0:Act} (hA:mz l): ∀(l':List Oper) (k:Nat) (A:(Nat->Value)->Act),l.drop k=l'->(A=fun x=>dk (fun i=>decide (i<k)) x l 0 a0)->k<=l.length ->
  Kw P l.toArray L g0 Q l' k A->(∀j o,k<=j->l[j]? = some o->Mi P l L g0 a0 j o)∧(∀x g,N.R g0 g->(∀i,i<l.length->(vR L i).p (x i) g)->Q (dk (fun i=>decide (i<l.length)) x l 0 a0) (N.wd g))
 | [],k,A,hl,hAx,hk,h=>by
  have h1:l.length=k:=by have:=congrArg List.length hl;simp at this;omega
  subst hAx
  refine ⟨fun j o hj ho=> ?_,fun x g hg hs=> ?_⟩
  ·have:=(WT.1 ho).1;omega
  ·rw [h1] at hs ⊢; exact h x g hg hs
 | o :: l',k,A,hl,hAx,hk,h=>by
  have h1:l.length=k+(l'.length+1):=by have:=congrArg List.length hl;simp at this;omega
  have h2:l[k]? = some o:=by have:=congrArg (fun m=>m[0]?) hl;simpa using this
  subst hAx
  have rcr:=Bn hA l' (k+1) _ (by have:=congrArg List.tail hl;simpa using this) (by
    funext x
    have hi:=kn (s:=fun i=>decide (i<k)) (x:=x) (v:=x k) l 0 k a0 hA h2 (by simp);rw [Nat.zero_add] at hi;rw [<-hi];refine bN l 0 a0 (fun i _ _=> ?_)
    by_cases hik:i=k
    ·subst hik;simp [cd,iY]
    ·have:(i<k+1)=(i<k):=by apply propext;omega
     simp [cd,iY,hik,this]) (by omega) h.2
  refine ⟨fun j o' hj ho=> ?_,rcr.2⟩
  by_cases hjk:j=k
  ·subst hjk;rw [h2] at ho;cases ho;exact h.1
  ·exact rcr.1 j o' (by omega) ho
theorem kI {Q:Exit->Act->World->Prop} {a:Act} {w:World} {l:List Oper} (L:List (jX N)) (hB:ou l.toArray=true) (g0:N.G) (hg0:N.wd g0=w.drew) (hp0: ∀j,N.pre j g0)
  (h:Kw P l.toArray L g0 (Q .normal) l 0 (fun _=>a)):wpAny P .any l.toArray Q l.toArray.size (Array.replicate l.toArray.size false) a w.drew:=by
 simp only [ou,XK,List.all_eq_true,List.mem_range,List.size_toArray] at hB;obtain ⟨hns,hall⟩:=hB;have hsel:=Region.noSelect_spec hns
 have hpair: ∀i j oi oj,i<j->l[i]? = some oi->l[j]? = some oj->(aG l.toArray j i=true∨ ∀e,oi.dst=some e->e∉oj.looksAt l.toArray)∧aG l.toArray i j=false∧(∀e,oi.dst=some e->oj.dst≠some e)∧(aG l.toArray j i=true∨ ∀e,oj.dst=some e->e∉oi.looksAt l.toArray):=by
  intro i j oi oj hij hi hj;have hjn:=(WT.1 hj).1
  have:=(hall j hjn).1 i hij
  simp only [Bu,Xd,hi,hj,XK,Bool.or_eq_true,Bool.not_eq_true'] at this
  refine ⟨?_,this.1.1.2,fun e he=> ?_, ?_⟩
  ·rcases this.1.1.1 with h|h
   ·exact .inl h
   ·refine .inr (fun e he=> ?_);rw [he] at h;simpa using h
  ·have h3:=this.1.2;rw [he] at h3;simpa using h3
  ·rcases this.2 with h|h
   ·exact .inl h
   ·refine .inr (fun e he=> ?_);rw [he] at h;simpa using h
 have hself: ∀j,j<l.length->aG l.toArray j j=false:=fun j hj=>by simpa using (hall j hj).2.1
 have hfar: ∀(j:Nat) (o:Oper),l[j]? = some o-> ∀e∈o.after,e.on<l.length:=fun j o hj e he=>by
  have:=(hall j (WT.1 hj).1).2.2
  simp only [Ax,Xd,hj,Array.all_eq_true_iff_forall_mem] at this;simpa using this e he
 have hA:mz l:=fun i j oi oj hi hj hij e he=>by
  rcases Nat.lt_or_gt_of_ne hij with h|h
  ·exact (hpair i j oi oj h hi hj).2.2.1 e he
  ·intro h2;exact (hpair j i oj oi h hj hi).2.2.1 e h2 he
 obtain ⟨hO,hfin⟩:=Bn (P:=P) (L:=L) (g0:=g0) (Q:=Q .normal) (a0:=a) hA l 0 (fun _=>a) (by simp) (by
  funext x
  exact (show a=dk (fun _=>false) x l 0 a from by
   have: ∀(l:List Oper) k,a=dk (fun _=>false) x l k a:=by
    intro l
    induction l with
    | nil=>intro k;rfl
    | cons o l ih=>intro k;rw [dk];exact ih (k+1)
   exact this l 0).trans (bN l 0 a (fun i _ _=>by simp))) (Nat.zero_le _) h
 
 have hloose: ∀i j oi oj,l[i]? = some oi->l[j]? = some oj->i≠j->aG l.toArray j i=false->aG l.toArray i j=false-> ∀d,oi.dst=some d->d∉oj.looksAt l.toArray:=by
  intro i j oi oj hi hj hij hd hd'
  rcases Nat.lt_or_gt_of_ne hij with h|h
  ·rcases (hpair i j oi oj h hi hj).1 with h1|h1
   ·rw [hd] at h1;cases h1
   ·exact h1
  ·rcases (hpair j i oj oi h hj hi).2.2.2 with h1|h1
   ·rw [hd'] at h1;cases h1
   ·exact h1
 
 have hsee: ∀(s s':Nat->Bool) x j oj,l[j]? = some oj->s j=false->s' j=false->(∀i,i<l.length->aG l.toArray i j=true->s i=false∧s' i=false)->(∀i,i<l.length->aG l.toArray j i=true->s i=true∧s' i=true) ->
   execOp (dk s x l 0 a).eval oj=execOp (dk s' x l 0 a).eval oj∧Region.wanted oj (yielded l.toArray (dk s x l 0 a).tmps)=Region.wanted oj (yielded l.toArray (dk s' x l 0 a).tmps):=by
  intro s s' x j oj hj h1 h2 hbk hd
  have one:=fun (s:Nat->Bool) (hs:s j=false) (hs2: ∀i,i<l.length->aG l.toArray i j=true->s i=false)=>rG (ops:=l.toArray) (s:=s) (keep:=aG l.toArray j) (x:=x) (a:=a) hA (fun cs b=>hsel j oj cs b (by simpa using hj))
   (fun i oi hi hsi hk=>hloose i j oi oj hi hj (by intro e;subst e;rw [hsi] at hs;cases hs) hk (by
    cases hq:aG l.toArray i j
    ·rfl
    ·rw [hs2 i (WT.1 hi).1 hq] at hsi;cases hsi))
  obtain ⟨a1,a2⟩:=one s h1 (fun i hi hq=>(hbk i hi hq).1);obtain ⟨b1,b2⟩:=one s' h2 (fun i hi hq=>(hbk i hi hq).2)
  have e:dk (fun i=>s i&&aG l.toArray j i) x l 0 a=dk (fun i=>s' i&&aG l.toArray j i) x l 0 a:=bN l 0 a (fun i _ hi=>by
   refine ⟨?_,fun _=>rfl⟩
   cases hk:aG l.toArray j i
   ·simp
   ·obtain ⟨c1,c2⟩:=hd i (by omega) hk
    simp [c1,c2])
  exact ⟨by rw [a1,b1,e],by rw [a2,b2,e]⟩
 have full: ∀(listed:Array Bool),listed.size=l.length->(∀i,i<l.length->listed.getD i false=true)->Region.ready .any l.toArray listed=[]∧ ∀x,dk (fun i=>listed.getD i false) x l 0 a=dk (fun i=>decide (i<l.length)) x l 0 a:=fun listed hsz hall'=>by
  refine ⟨List.eq_nil_iff_forall_not_mem.2 (fun i hi=> ?_),fun x=>bN l 0 a (fun i _ hi=>⟨?_,fun _=>rfl⟩)⟩
  ·obtain ⟨g1,o,g2, -⟩:=mem_ready.1 hi;have hil:i<l.length:=(WT.1 (show l[i]? = some o by simpa using g2)).1;have g3:=hall' i hil
   have his:i<listed.size:=by omega
   simp only [XM,Array.getElem?_eq_getElem his,Option.getD_some] at g1 g3;rw [g3] at g1;cases g1
  ·have:i<l.length:=by omega
   rw [hall' i this];simp [this]
 have main: ∀fuel (listed:Array Bool) x g1,listed.size=l.length->N.R g0 g1->(∀i,listed.getD i false=true->(vR L i).p (x i) g1) ->
   (∀j i,listed.getD j false=true->aG l.toArray j i=true->listed.getD i false=true)->(∀j,listed.getD j false=false->N.pre j g1)->B2 (fun i=>listed.getD i false) l.length<=fuel ->
   wpAny P .any l.toArray Q fuel listed (dk (fun i=>listed.getD i false) x l 0 a) (N.wd g1):=by
  intro fuel
  induction fuel with
  | zero=>
   intro listed x g1 hsz hE hF hcl hpre hu
   have hall': ∀i,i<l.length->listed.getD i false=true:=fun i hi=>by
    cases hc:listed.getD i false
    ·have:=zx (s:=fun i=>listed.getD i false) l.length hi hc
     omega
    ·rfl
   exact wpAny_done (full listed hsz hall').1 (by rw [(full listed hsz hall').2 x];exact hfin x g1 hE (fun i hi=>hF i (hall' i hi))) 0
  | succ fuel ih=>
   intro listed x g1 hsz hE hF hcl hpre hu
   have hmemR: ∀j,j∈Region.ready .any l.toArray listed-> ∃oj,l[j]? = some oj∧listed.getD j false=false∧ ∀i,aG l.toArray j i=true->listed.getD i false=true:=by
    intro j hj;obtain ⟨h1,o,ho,h3⟩:=mem_ready.1 hj
    refine ⟨o,by simpa using ho, ?_,fun i hi=> ?_⟩
    ·rcases Nat.lt_or_ge j listed.size with h'|h'
     ·simp [h'] at h1 ⊢; exact h1
     ·simp [Array.getElem?_eq_none h']
    ·simp only [aG,ho,XK,beq_iff_eq,Array.any_eq_true'] at hi;obtain ⟨e,he,hb,rfl⟩:=hi;exact h3 e he hb
   refine ⟨fun h0=> ?_,fun j hj=> ?_⟩
   ·
    have hex:(∀i,i<l.length->listed.getD i false=true)∨ ∃m,m<l.length∧listed.getD m false=false∧ ∀i,i<m->listed.getD i false=true:=by
     have: ∀k,k<=l.length->(∀i,i<k->listed.getD i false=true)∨ ∃m,m<l.length∧listed.getD m false=false∧ ∀i,i<m->listed.getD i false=true:=by
      intro k
      induction k with
      | zero=>exact fun _=> .inl (fun i hi=>by omega)
      | succ k ihk=>
       intro hk
       rcases ihk (by omega) with h|h
       ·cases hc:listed.getD k false
        ·exact .inr ⟨k,by omega,hc,h⟩
        ·exact .inl (fun i hi=>by
          by_cases e:i=k
          ·subst e;exact hc
          ·exact h i (by omega))
       ·exact .inr h
     exact this l.length (Nat.le_refl _)
    rcases hex with hall'|hex
    ·rw [(full listed hsz hall').2 x];exact hfin x g1 hE (fun i hi=>hF i (hall' i hi))
    exfalso;obtain ⟨m,hm1,hm2,hm3⟩:=hex
    have hmem:m∈Region.ready .any l.toArray listed:=by
     refine mem_ready.2 ⟨?_,l[m],by simp [hm1],fun e he hb=> ?_⟩
     ·have hms:m<listed.size:=by omega
      simp [hms] at hm2 ⊢; exact hm2
     ·have hd:aG l.toArray m e.on=true:=by
       have:l.toArray[m]? = some l[m]:=by simp [hm1]
       simp only [aG,this];simp only [Array.any_eq_true',XK,beq_iff_eq];exact ⟨e,he,hb,rfl⟩
      rcases Nat.lt_trichotomy e.on m with h|h|h
      ·exact hm3 _ h
      ·rw [h,hself m hm1] at hd;cases hd
      ·by_cases hl:e.on<l.length
       ·have:=(hpair m e.on l[m] l[e.on] h (by simp [hm1]) (by simp [hl])).2.1
        rw [hd] at this;cases this
       ·exact absurd (hfar m l[m] (by simp [hm1]) e he) hl
    rw [h0] at hmem;cases hmem
   ·obtain ⟨oj,hoj,hun,hdeps⟩:=hmemR j hj;have hjl:=(WT.1 hoj).1
    have hsj:(listed.setIfInBounds j true).size=l.length:=by simpa using hsz
    have hgd: ∀i,(listed.setIfInBounds j true).getD i false=cd (fun i=>listed.getD i false) j i:=by
     intro i
     by_cases hij:i=j
     ·subst hij
      have:i<listed.size:=by omega
      simp [cd,this]
     ·simp only [cd,if_neg hij];exact getD_set_ne false (Ne.symm hij)
    have hO:=hO j oj (Nat.zero_le _) hoj;unfold wpOp;simp only [Xd,hoj];have hst:=hO x g1 hE (fun i hi=>hF i (hdeps i hi)) (hpre j hun)
    have hbk: ∀i,i<l.length->aG l.toArray i j=true->listed.getD i false=false∧decide (i<j)=false:=by
     intro i hi hq
     constructor
     ·cases hli:listed.getD i false
      ·rfl
      ·have:=hcl i j hli hq
       rw [hun] at this;cases this
     ·rcases Nat.lt_or_ge i j with h|h
      ·have:=(hpair i j l[i] oj h (by simp [hi]) hoj).2.1
       rw [hq] at this;cases this
      ·simpa using h
    obtain ⟨c1,c2⟩:=hsee (fun i=>listed.getD i false) (fun i=>decide (i<j)) x j oj hoj hun (by simp) hbk (fun i hi hd=>⟨hdeps i hd,by
      rcases Nat.lt_trichotomy i j with h|h|h
      ·simpa using h
      ·rw [h,hself j hjl] at hd;cases hd
      ·have:=(hpair j i oj l[i] h hoj (by simp [hi])).2.1
       rw [hd] at this;cases this⟩)
    have next: ∀v g2,N.R g1 g2->(∀i,i≠j->N.pre i g1->N.pre i g2)->(vR L j).p v g2->wpAny P .any l.toArray Q fuel (listed.setIfInBounds j true) ((dk (fun i=>listed.getD i false) x l 0 a).put oj.dst v) (N.wd g2):=by
     intro v g2 hb hpp hv;have hi:=kn (s:=fun i=>listed.getD i false) (x:=x) (v:=v) l 0 j a hA hoj (by simpa using hun);rw [Nat.zero_add] at hi;rw [<-hi, <- show (fun i=>(listed.setIfInBounds j true).getD i false)=cd (fun i=>listed.getD i false) j from funext hgd]
     refine ih _ _ g2 hsj (N.trans' _ _ _ hE hb) (fun i hi'=> ?_) (fun j' i hj' hd=> ?_) (fun j' hj'=> ?_) ?_
     ·rw [hgd] at hi'
      by_cases hij:i=j
      ·subst hij;simpa [iY] using hv
      ·simp only [cd,if_neg hij] at hi';simp only [iY,if_neg hij];exact (vR L i).st _ _ _ hb (hF i hi')
     ·rw [hgd] at hj' ⊢
      by_cases hij:i=j
      ·simp [cd,hij]
      ·simp only [cd,if_neg hij]
       by_cases hj2:j'=j
       ·subst hj2;exact hdeps i hd
       ·simp only [cd,if_neg hj2] at hj';exact hcl j' i hj' hd
     ·rw [hgd] at hj'
      by_cases hj2:j'=j
      ·simp [cd,hj2] at hj'
      ·simp only [cd,if_neg hj2] at hj';exact hpp j' hj2 (hpre j' hj')
     ·rw [lj (s':=cd (fun i=>listed.getD i false) j) l.length (fun i _=>hgd i)]
      have:=qs (s:=fun i=>listed.getD i false) (i:=j) l.length hjl hun
      omega
    unfold IA at hst;rw [<-c1, <- c2] at hst
    rcases hst with ⟨h1,h2⟩|⟨h1,h2⟩
    ·rw [if_pos h1];refine .inl ?_;unfold Oper.wp;generalize (execOp (dk (fun i=>listed.getD i false) x l 0 a).eval oj).run P (N.wd g1)=r at h2
     cases r with
     | halt _ _=>exact h2.elim
     | ok n w'=>
      cases n<;>first|exact h2.elim|skip
      case value u=>obtain ⟨g2,rfl,k1,k3,k2⟩:=h2;exact next _ _ k1 k3 k2
      case skip=>obtain ⟨g2,rfl,k1,k3,k2⟩:=h2;exact next _ _ k1 k3 k2
      case enter f args=>
       refine Calls.mono h2 fun e w'' he=> ?_;obtain ⟨v,g2,rfl,rfl,k1,k3,k2⟩:=he
       exact next _ _ k1 k3 k2
    ·rw [if_neg (by rw [h1];decide)];obtain ⟨g2,e2,k1,k3,k2⟩:=h2;rw [<-e2]
     exact next _ _ k1 k3 k2
 have hrep: ∀i,(Array.replicate l.toArray.size false).getD i false=false:=fun i=>by
  simp only [XM,Array.getElem?_replicate];split<;>rfl
 have h0:=main l.toArray.size (Array.replicate l.toArray.size false) (fun _=>undef) g0 (by simp) (N.UL _)
  (fun i hi=>by rw [hrep] at hi;cases hi) (fun j i hj=>by rw [hrep] at hj;cases hj) (fun j _=>hp0 j) (zw _)
 have e:dk (fun i=>(Array.replicate l.toArray.size false).getD i false) (fun _=>undef) l 0 a=a:=by
  have: ∀(l':List Oper) k,dk (fun i=>(Array.replicate l.toArray.size false).getD i false) (fun _=>undef) l' k a=a:=by
   intro l'
   induction l' with
   | nil=>intro k;rfl
   | cons o l' ih=>intro k;rw [dk,hrep];exact ih (k+1)
  exact this l 0
 rw [e,hg0] at h0;exact h0
end
end
section
section
variable {D:Nat->Prop} {nu:Nat->Nat->Value} {o:List (Option ab)} {w:World} {P:Program}
def DT:Op->Bool
 | .move _| .assign _| .nilCheck _| .build .. | .binOp .. | .unOp .. | .convert .. | .makeFunc .. | .fieldAddr .. | .field .. | .index .. | .extract .. | .pick .. | .box .. | .buildSlice .. =>true
 | _=>false
theorem wN {op:Op} (h:DT op=true) {t:List AV} {o o':List (Option ab)} {y:jA} {K:AV->Prop} (hd:bZ P op ⟨t,o,y⟩ K):bZ P op ⟨t,o',y⟩ K:=by
 cases op with
 | makeFunc fn a b=>cases fn<;>exact hd
 | _=>first|(cases h;done)|exact hd
def dW (P:Program) (f:FuncId) (args:List AV) (o:List (Option ab)) (K:AV->List (Option ab)->Prop):Prop:= ∃r o',da P f args o r o'∧K r o'
@[congr] theorem L5 {f:FuncId} {args args':List AV} {o o':List (Option ab)} {K:AV->List (Option ab)->Prop} (h:args=args') (k:o=o'):dW P f args o K=dW P f args' o' K:=by rw [h,k]
theorem dW.fr {f:FuncId} {args args0:List AV} {o0 o1:List (Option ab)} {r0:AV} {K:AV->List (Option ab)->Prop} (ids:List Nat) (h:da P f args0 o0 r0 o1) (hnd:ids.Nodup)
  (ho:ids.map (fun i=>o[i]?)=o0.map (fun x=>some (x.map (ab.bg (sig ids o.length)))))
  (hargs:args=bP (sig ids o.length) args0) (hwa:aN ids.length args0=true) (hwo: ∀(k:Nat) ob,o0[k]? = some (some ob)->bj ids.length ob.rows=true)
  (k:K (r0.bg (sig ids o.length)) (eu (sig ids o.length) ids o1 o)):dW P f args o K:=
 ⟨_,_,(gT.frame ids h hnd ho hargs hwa hwo).mono (fun r o' hh=>by
  obtain ⟨r1,o2,⟨rfl,rfl⟩,rfl,rfl⟩:=hh
  exact ⟨rfl,rfl⟩),k⟩
def FL (P:Program) (f:AV) (args:List AV) (o:List (Option ab)) (K:AV->List (Option ab)->Prop):Prop:=match f with
 | .fn g first caps=>dW P g (first++args++caps) o K
 | _=>False
@[congr] theorem Px {f f':AV} {args args':List AV} {o o':List (Option ab)} {K:AV->List (Option ab)->Prop} (h:f=f') (k:args=args') (l:o=o'):FL P f args o K=FL P f' args' o' K:=by rw [h,k,l]
theorem L8 (g:FuncId) (first caps args:List AV) (o:List (Option ab)) (K:AV->List (Option ab)->Prop):FL P (.fn g first caps) args o K=dW P g (first++args++caps) o K:=rfl
def qy (P:Program) (op:Op) (s:AS) (K:AV->List (Option ab)->Prop):Prop:=match op with
 | .pick _ _ _=>False
 | .call c=>match c.callee with
  | .value f=>FL P (s.ev f) (c.args.toList.map s.ev) s.o K
  | _=>AR (Mu P s.ev s.o (.call c)) K
 | op=>AR (Mu P s.ev s.o op) K
theorem EJ {s:AS} {op:Op} {K:AV->List (Option ab)->Prop} (h:qy P op s K): ∃r o',K r o'∧qy P op s (fun r' o''=>r'=r∧o''=o'):=by
 unfold qy at h ⊢
 split at h
 ·exact h.elim
 ·split at h
  ·unfold FL at h ⊢
   split at h
   ·obtain ⟨r,o',h1,h2⟩:=h;exact ⟨r,o',h2,r,o',h1,rfl,rfl⟩
   ·exact h.elim
  ·unfold AR at h ⊢
   split at h
   ·exact ⟨_,_,h.2,h.1,rfl,rfl⟩
   ·exact h.elim
 ·unfold AR at h ⊢
  split at h
  ·exact ⟨_,_,h.2,h.1,rfl,rfl⟩
  ·exact h.elim
theorem wM {s:AS} {rho:Operand->Value} {oo:Oper} {r:AV} {o':List (Option ab)} (h:RO D nu s.o w) (hev:Ir D nu s.o w s.ev rho oo.op) (hd:qy P oo.op s (fun r' o''=>r'=r∧o''=o')) :
  (∃v w' nu',((execOp rho oo).run P w = .ok (.value v) w'∨((execOp rho oo).run P w = .ok .skip w'∧v=Go.undef))∧bK nu s.o w nu' o' w'∧RO D nu' o' w'∧RA D nu' o' w' r v) ∨
  (∃g vargs,(execOp rho oo).run P w = .ok (.enter g vargs) w∧Calls P g vargs w (fun e w'=> ∃v nu',e = .returned v∧bK nu s.o w nu' o' w'∧RO D nu' o' w'∧RA D nu' o' w' r v)):=by
 have hop: ∀op,oo.op=op->AR (Mu P s.ev s.o op) (fun r' o''=>r'=r∧o''=o')->(∃v w' nu',((execOp rho oo).run P w = .ok (.value v) w'∨((execOp rho oo).run P w = .ok .skip w'∧v=Go.undef))∧bK nu s.o w nu' o' w'∧RO D nu' o' w'∧RA D nu' o' w' r v):=by
  intro op ho hh;subst ho;unfold AR at hh
  split at hh
  ·rename_i p r1 o1 e;obtain ⟨hp,rfl,rfl⟩:=hh;obtain ⟨v,w',nu',h1,h2,h3,h4⟩:=z6 (P:=P) h hev e hp;exact ⟨v,w',nu',h1,h2,h3,h4⟩
  ·exact hh.elim
 unfold qy at hd
 split at hd
 ·exact hd.elim
 ·rename_i c ho
  split at hd
  ·rename_i f hc;unfold FL at hd
   split at hd
   ·rename_i g first caps e
    obtain ⟨r1,o1,hcall,rfl,rfl⟩:=hd;have hf:=hev f (by rw [ho];simp [Op.operands,Call.operands,hc]);rw [e] at hf;generalize hq:rho f=vf at hf
    cases hf with
    | fn _ _ _ fi ca q1 q2 q3 q4=>
    have hargs: ∀x,x∈c.args.toList->RA D nu s.o w (s.ev x) (rho x):=fun x hx=>hev x (by rw [ho];simp only [Op.operands,Call.operands,hc];simp;exact .inr (by simpa using hx))
    have hra:gb D nu s.o w (first++c.args.toList.map s.ev++caps) (fi++c.args.map rho++ca):=by
     refine ⟨by simp [q1,q2],fun i cc x k1 k2=> ?_⟩;rw [List.append_assoc] at k1;rw [Array.append_assoc] at k2
     rcases WV i first.length with l1|l1
     ·rw [WU l1] at k1;rw [Xx (by omega)] at k2;exact q3 i cc x k1 k2
     ·rw [Xr l1] at k1;rw [XV (by omega)] at k2;rw [q1] at k1
      rcases WV (i - fi.size) c.args.size with l2|l2
      ·rw [WU (by simpa using l2),List.getElem?_map] at k1;rw [Xx (by simpa using l2),Array.getElem?_map] at k2
       have e2:c.args.toList[i - fi.size]? = c.args[i - fi.size]? :=by simp
       rw [e2] at k1
       cases hk2:c.args[i - fi.size]? with
       | none=>rw [hk2] at k1;cases k1
       | some y=>
        rw [hk2] at k1 k2;cases k1;cases k2;exact hargs y (Xw (by rw [e2];exact hk2))
      ·rw [Xr (by simpa using l2)] at k1;rw [XV (by simpa using l2)] at k2;simp only [List.length_map,Array.length_toList,Array.size_map] at k1 k2;exact q4 _ cc x k1 k2
    refine .inr ⟨g,_, ?_,(hcall.2 D nu w _ h hra).mono ?_⟩
    ·simp only [execOp,ho,resolve,hc,hq,Deferred.ofValue,Sem.run_bind,Sem.run_pure,Result.andThen_ok,invoke];exact jq hcall.1 _ w
    ·rintro e w' ⟨v,nu',o2,r2,rfl,m1,m2,m3,rfl,rfl⟩;exact ⟨v,nu',rfl,m1,m2,m3⟩
   ·exact hd.elim
  ·exact .inl (hop _ ho hd)
 ·exact .inl (hop _ rfl hd)
def fI:List (Nat×Nat)->Nat->Option Nat
 | [],_=>none
 | (j,lo) :: fs,k=>if j=k∧lo<1000 then some lo else fI fs k
def yS:List (Nat×Nat)->Nat->Bool
 | [],_=>false
 | (j,lo) :: fs,k=>decide (j=k∧lo=1000)||yS fs k
def QC:Option (List (Option ab)->Prop)->List (Option ab)->Prop
 | none,_=>True
 | some p,o=>p o
def cJ (P:Program) (all:List Oper) (es:List Nat) (fs:List (Nat×Nat)):List Oper->Nat->AS->List (List (Option ab))->Option (List (Option ab)->Prop)->(AS->Prop)->Prop
 | [],_,s,_,_,Q=>Q s
 | oo :: rest,k,s,hist,pn,Q=>if es.contains k then (match oo.guard with
   | none=>qy P oo.op s (fun r o'=>QC pn o'∧cJ P all es fs rest (k+1) (s.put oo.dst r o') (hist++[s.o]) pn Q)
   | some _=>False) else match fI fs k with
   | some lo=>oo.guard=none∧bZ P oo.op s (fun r=>(∀o',o'∈hist.drop lo->bZ P oo.op ⟨s.t,o',s.y⟩ (fun r'=>r'=r))∧cJ P all es fs rest (k+1) (s.put oo.dst r s.o) hist pn Q)
   | none=>if yS fs k=true then oo.guard=none∧bZ P oo.op s (fun r=>cJ P all es fs rest (k+1) (s.put oo.dst r s.o) hist (some fun o'=>QC pn o'∧bZ P oo.op ⟨s.t,o',s.y⟩ (fun r'=>r'=r)) Q)
    else dQ P all oo s (fun s'=>cJ P all es fs rest (k+1) s' hist pn Q)
def RX (P:Program) (all:List Oper) (es:List Nat) (fs:List (Nat×Nat)):List Oper->Nat->AS->List (List (Option ab))->List AV->List (List (Option ab))->AS->Prop
 | [],_,s,_,rs,os,sf=>rs=[]∧os=[]∧sf=s
 | oo :: rest,k,s,hist,rs,os,sf=> ∃r rs',rs=r :: rs' ∧
   ((es.contains k=true∧oo.guard=none∧ ∃o' os',os=o' :: os'∧qy P oo.op s (fun r' o''=>r'=r∧o''=o')∧RX P all es fs rest (k+1) (s.put oo.dst r o') (hist++[s.o]) rs' os' sf) ∨
   (es.contains k=false∧(((oo.guard=none∨ ∃j want b,oo.guard=some (j,want)∧jk all s j=some (some b)∧(b==want)=true)∧bZ P oo.op s (fun r'=>r'=r)∧(∀lo,fI fs k=some lo-> ∀o',o'∈hist.drop lo->bZ P oo.op ⟨s.t,o',s.y⟩ (fun r'=>r'=r))∧(fI fs k=none->yS fs k=true-> ∀o',o'∈os->bZ P oo.op ⟨s.t,o',s.y⟩ (fun r'=>r'=r))) ∨
    (fI fs k=none∧yS fs k=false∧r = .v Go.undef∧ ∃j want g,oo.guard=some (j,want)∧jk all s j=some g∧(g=none∨ ∃b,g=some b∧(b==want)=false)))∧RX P all es fs rest (k+1) (s.put oo.dst r s.o) hist rs' os sf))
theorem fR {all:List Oper} {es:List Nat} {fs:List (Nat×Nat)}: ∀(rest:List Oper) (k:Nat) (s:AS) (hist:List (List (Option ab))) {pn:Option (List (Option ab)->Prop)} {Q:AS->Prop},cJ P all es fs rest k s hist pn Q-> ∃rs os sf,RX P all es fs rest k s hist rs os sf∧(∀o',o'∈os->QC pn o')∧Q sf
 | [],k,s,hist,pn,Q,h=>⟨[],[],s,⟨rfl,rfl,rfl⟩,(fun _ h=>by cases h),h⟩
 | oo :: rest,k,s,hist,pn,Q,h=>by
  simp only [cJ] at h
  cases he:es.contains k
  ·rw [he] at h;simp only [Yk,if_false] at h
   cases hf:fI fs k with
   | some lo=>
    rw [hf] at h;obtain ⟨hg,h⟩:=h;obtain ⟨r,⟨hh,hk⟩,hr⟩:=gm h;obtain ⟨rs,os,sf,h1,h2⟩:=fR rest (k+1) _ hist hk;exact ⟨r :: rs,os,sf,⟨r,rs,rfl, .inr ⟨he, .inl ⟨.inl hg,hr,(fun lo' hl=>by rw [hf] at hl;cases hl;exact hh),fun hn=>by rw [hf] at hn;cases hn⟩,h1⟩⟩,h2⟩
   | none=>
   rw [hf] at h
   have hno: ∀r lo,fI fs k=some lo-> ∀o',o'∈hist.drop lo->bZ P oo.op ⟨s.t,o',s.y⟩ (fun r'=>r'=r):=fun r lo hl=>by rw [hf] at hl;cases hl
   simp only at h;cases hlt:yS fs k
   case true=>
    rw [hlt] at h;simp only [if_true] at h;obtain ⟨hg,h⟩:=h;obtain ⟨r,hk,hr⟩:=gm h;obtain ⟨rs,os,sf,h1,h0,h2⟩:=fR rest (k+1) _ hist hk;exact ⟨r :: rs,os,sf,⟨r,rs,rfl, .inr ⟨he, .inl ⟨.inl hg,hr,hno r,fun _ _ o' ho'=>(h0 o' ho').2⟩,h1⟩⟩,fun o' ho'=>(h0 o' ho').1,h2⟩
   have hla: ∀(r:AV) (os:List (List (Option ab))),fI fs k=none->yS fs k=true-> ∀o',o'∈os->bZ P oo.op ⟨s.t,o',s.y⟩ (fun r'=>r'=r):=fun r os _ h=>by rw [hlt] at h;cases h
   rw [hlt] at h;simp only [Yk,if_false] at h;simp only [dQ] at h
   split at h
   ·rename_i hg;obtain ⟨r,hk,hr⟩:=gm h;obtain ⟨rs,os,sf,h1,h2⟩:=fR rest (k+1) _ hist hk;exact ⟨r :: rs,os,sf,⟨r,rs,rfl, .inr ⟨he, .inl ⟨.inl hg,hr,hno r,hla r _⟩,h1⟩⟩,h2⟩
   ·rename_i j want hg;unfold vS at h
    split at h
    ·rename_i b e
     cases hb:b==want
     ·rw [hb,qA] at h;obtain ⟨rs,os,sf,h1,h2⟩:=fR rest (k+1) _ hist h;exact ⟨_ :: rs,os,sf,⟨_,rs,rfl, .inr ⟨he, .inr ⟨hf,hlt,rfl,j,want,_,hg,e, .inr ⟨b,rfl,hb⟩⟩,h1⟩⟩,h2⟩
     ·rw [hb,tc] at h;obtain ⟨r,hk,hr⟩:=gm h;obtain ⟨rs,os,sf,h1,h2⟩:=fR rest (k+1) _ hist hk;exact ⟨r :: rs,os,sf,⟨r,rs,rfl, .inr ⟨he, .inl ⟨.inr ⟨j,want,b,hg,e,hb⟩,hr,hno r,hla r _⟩,h1⟩⟩,h2⟩
    ·rename_i e;obtain ⟨rs,os,sf,h1,h2⟩:=fR rest (k+1) _ hist h;exact ⟨_ :: rs,os,sf,⟨_,rs,rfl, .inr ⟨he, .inr ⟨hf,hlt,rfl,j,want,_,hg,e, .inl rfl⟩,h1⟩⟩,h2⟩
    ·exact h.elim
  ·rw [he] at h;simp only [if_true] at h
   split at h
   ·rename_i hg;obtain ⟨r,o',⟨hpo,hk⟩,hr⟩:=EJ h;obtain ⟨rs,os,sf,h1,h0,h2⟩:=fR rest (k+1) _ _ hk;exact ⟨r :: rs,o' :: os,sf,⟨r,rs,rfl, .inl ⟨he,hg,o',os,rfl,hr,h1⟩⟩,fun o'' ho=>(List.mem_cons.1 ho).elim (fun e=>by rw [e];exact hpo) (h0 o''),h2⟩
   ·exact h.elim
def oS (ops:Array Oper):Nat->Nat->Nat->Bool
 | 0,_,_=>false
 | n+1,j,i=>aG ops j i||(List.range ops.size).any (fun k=>aG ops j k&&oS ops n k i)
def Gy (ops:Array Oper) (es:List Nat) (j:Nat):Bool:=es.all (fun e=>decide (e=j)||if e<j then oS ops ops.size j e else oS ops ops.size e j)
def mh:List Nat->Bool
 | []=>true
 | [_]=>true
 | a :: b :: l=>decide (a<b)&&mh (b :: l)
def Az (ops:Array Oper) (es:List Nat) (fs:List (Nat×Nat)) (j:Nat):Bool:=match fI fs j with
 | some lo=>decide (lo<=es.length)&&(es.take lo).all (fun e=>oS ops ops.size j e)&&es.all (fun e=>decide (e<j)||(e !=j&&oS ops ops.size e j))
 | none=>false
def J5 (ops:Array Oper) (es:List Nat) (fs:List (Nat×Nat)) (j:Nat):Bool:= !es.contains j&&(fI fs j).isNone&&yS fs j&&es.all (fun e=>decide (j<=e)||oS ops ops.size j e)
def uk (ops:Array Oper) (es:List Nat) (fs:List (Nat×Nat)):Bool:=ou ops&&mh es&&es.all (fun e=>decide (e<ops.size))&&(List.range ops.size).all (fun j=>(match ops[j]? with|some oo=>DT oo.op|none=>true) && !es.contains j||Gy ops es j||Az ops es fs j||J5 ops es fs j)
structure GG (D:Nat->Prop) (nu0:Nat->Nat->Value) (o0:List (Option ab)) (w0:World) (l:List Oper) (es:List Nat) (O:Nat->List (Option ab)) where
 w:World
 nu:Nat->Nat->Value
 done:Nat->Bool
 c:Nat
 ro:RO D nu (O c) w
 mono:bK nu0 o0 w0 nu (O c) w
 cl: ∀j i,done j=true->aG l.toArray j i=true->done i=true
 ef: ∀k e,es[k]? = some e->(done e=true↔k<c)
 le:c<=es.length
variable {nu0:Nat->Nat->Value} {o0:List (Option ab)} {w0:World} {l:List Oper} {es:List Nat} {O:Nat->List (Option ab)}
def bJ (D:Nat->Prop) (nu0:Nat->Nat->Value) (o0:List (Option ab)) (w0:World) (l:List Oper) (es:List Nat) (O:Nat->List (Option ab)):rQ:=
 ⟨GG D nu0 o0 w0 l es O,GG.w,fun g g'=>bK g.nu (O g.c) g.w g'.nu (O g'.c) g'.w∧ ∀j,g.done j=true->g'.done j=true,fun g=>⟨.refl _ _ _,fun _ h=>h⟩,fun _ _ _ h k=>⟨h.1.trans k.1,fun j hj=>k.2 j (h.2 j hj)⟩,fun j g=>g.done j=false⟩
def fY (D:Nat->Prop) (nu0:Nat->Nat->Value) (o0:List (Option ab)) (w0:World) (l:List Oper) (es:List Nat) (O:Nat->List (Option ab)) (k:Nat) (r:AV):jX (bJ D nu0 o0 w0 l es O):=
 ⟨fun v g=>RA D g.nu (O g.c) g.w r v∧g.done k=true,fun v g g' hR h=>⟨h.1.mono hR.1 (fun _ _ h=>h),hR.2 k h.2⟩⟩
def GG.next (g:GG D nu0 o0 w0 l es O) (k:Nat) (w':World) (hb:Below g.w.heap.size g.w w') (hd: ∀i,aG l.toArray k i=true->g.done i=true) (he:es.contains k=false):GG D nu0 o0 w0 l es O where
 w:=w'
 nu:=g.nu
 done:=fun j=>if j=k then true else g.done j
 c:=g.c
 ro:=g.ro.below hb
 mono:=g.mono.trans (ay hb)
 cl:=fun j i h1 h2=>by
  by_cases hi:i=k
  ·simp [hi]
  ·simp only [if_neg hi]
   by_cases hj:j=k
   ·subst hj;exact hd i h2
   ·simp only [if_neg hj] at h1;exact g.cl j i h1 h2
 ef:=fun m e h=>by
  have hne:e≠k:=fun hh=>by
   subst hh
   have:=Xw h
   simp [this] at he
  simp only [if_neg hne];exact g.ef m e h
 le:=g.le
theorem GG.Kr (g:GG D nu0 o0 w0 l es O) (k:Nat) (w':World) (hb:Below g.w.heap.size g.w w') (hd: ∀i,aG l.toArray k i=true->g.done i=true) (he:es.contains k=false) :
  (bJ D nu0 o0 w0 l es O).R g (g.next k w' hb hd he)∧ ∀i,i≠k->(bJ D nu0 o0 w0 l es O).pre i g->(bJ D nu0 o0 w0 l es O).pre i (g.next k w' hb hd he):=by
 refine ⟨⟨ay hb,fun j hj=> ?_⟩,fun i hi h=> ?_⟩
 ·show (if j=k then true else g.done j)=true
  by_cases hjk:j=k
  ·simp [hjk]
  ·simp [hjk,hj]
 ·show (if i=k then true else g.done i)=false;simp [hi];exact h
def GG.TE (g:GG D nu0 o0 w0 l es O) (k:Nat) (w':World) (nu':Nat->Nat->Value) (hm:bK g.nu (O g.c) g.w nu' (O (g.c+1)) w') (hr:RO D nu' (O (g.c+1)) w') (hd: ∀i,aG l.toArray k i=true->g.done i=true) (he:es[g.c]? = some k) (hn:es.Nodup):GG D nu0 o0 w0 l es O where
 w:=w'
 nu:=nu'
 done:=fun j=>if j=k then true else g.done j
 c:=g.c+1
 ro:=hr
 mono:=g.mono.trans hm
 cl:=fun j i h1 h2=>by
  by_cases hi:i=k
  ·simp [hi]
  ·simp only [if_neg hi]
   by_cases hj:j=k
   ·subst hj;exact hd i h2
   ·simp only [if_neg hj] at h1;exact g.cl j i h1 h2
 ef:=fun m e h=>by
  by_cases hek:e=k
  ·subst hek
   have:m=g.c:=(Yl (WT.1 h).1 hn).1 (h.trans he.symm)
   simp [this]
  ·simp only [if_neg hek]
   have hne:m≠g.c:=fun hh=>by subst hh;rw [he] at h;cases h;exact hek rfl
   rw [g.ef m e h];omega
 le:=(WT.1 he).1
theorem GG.OW (g:GG D nu0 o0 w0 l es O) (k:Nat) (w':World) (nu':Nat->Nat->Value) (hm:bK g.nu (O g.c) g.w nu' (O (g.c+1)) w') (hr:RO D nu' (O (g.c+1)) w') (hd: ∀i,aG l.toArray k i=true->g.done i=true) (he:es[g.c]? = some k) (hn:es.Nodup) :
  (bJ D nu0 o0 w0 l es O).R g (g.TE k w' nu' hm hr hd he hn)∧ ∀i,i≠k->(bJ D nu0 o0 w0 l es O).pre i g->(bJ D nu0 o0 w0 l es O).pre i (g.TE k w' nu' hm hr hd he hn):=by
 refine ⟨⟨hm,fun j hj=> ?_⟩,fun i hi h=> ?_⟩
 ·show (if j=k then true else g.done j)=true
  by_cases hjk:j=k
  ·simp [hjk]
  ·simp [hjk,hj]
 ·show (if i=k then true else g.done i)=false;simp [hi];exact h
theorem kU (g:GG D nu0 o0 w0 l es O): ∀(n j i:Nat),oS l.toArray n j i=true->g.done j=true->g.done i=true
 | 0,_,_,h,_=>by cases h
 | n+1,j,i,h,hj=>by
  simp only [oS,X9,List.any_eq_true,XK] at h
  rcases h with h|⟨k,_,h1,h2⟩
  ·exact g.cl j i hj h
  ·exact kU g n k i h2 (g.cl j k hj h1)
theorem nH (g:GG D nu0 o0 w0 l es O) {n j i:Nat} (h:oS l.toArray n j i=true) (hd: ∀i,aG l.toArray j i=true->g.done i=true):g.done i=true:=by
 cases n with
 | zero=>cases h
 | succ n=>
  simp only [oS,X9,List.any_eq_true,XK] at h
  rcases h with h|⟨k,_,h1,h2⟩
  ·exact hd i h
  ·exact kU g n k i h2 (hd k h1)
theorem GG.pA (g:GG D nu0 o0 w0 l es O) {k m:Nat} (hf:Gy l.toArray es k=true) (hd: ∀i,aG l.toArray k i=true->g.done i=true) (hk:g.done k=false) (hm: ∀m' e,es[m']? = some e->(e<k↔m'<m)) (hml:m<=es.length):g.c=m:=by
 simp only [Gy,X7,X9,decide_eq_true_eq] at hf
 have h1:g.c<=m:=by
  rcases WV m g.c with q|q
  ·exfalso;have hlt:m<es.length:=Nat.lt_of_lt_of_le q g.le;have he:es[m]? = some es[m]:=Xb hlt;have hdn:=(g.ef m _ he).2 q
   have hge: ¬es[m]<k:=fun hh=>by have:=(hm m _ he).1 hh;omega
   rcases hf _ (Ym hlt) with h|h
   ·rw [h,hk] at hdn;cases hdn
   ·rw [if_neg hge] at h
    have:=kU g _ _ _ h hdn
    rw [hk] at this;cases this
  ·exact q
 have h2:m<=g.c:=by
  rcases Yn m with q|q
  ·omega
  ·have hlt:m - 1<es.length:=by omega
   have he:es[m - 1]? = some es[m - 1]:=Xb hlt;have hlk:=(hm _ _ he).2 (by omega)
   rcases hf _ (Ym hlt) with h|h
   ·omega
   ·rw [if_pos hlk] at h
    have:=(g.ef _ _ he).1 (nH g h hd)
    omega
 omega
theorem GG.MB (g:GG D nu0 o0 w0 l es O) {k m:Nat} {fs:List (Nat×Nat)} (hf:J5 l.toArray es fs k=true) (hd: ∀i,aG l.toArray k i=true->g.done i=true) (hm: ∀m' e,es[m']? = some e->(e<k↔m'<m)) (hml:m<=es.length):m<=g.c:=by
 simp only [J5,XK,X7,X9,decide_eq_true_eq] at hf
 rcases Yn m with q|q
 ·omega
 ·have hlt:m - 1<es.length:=by omega
  have he:es[m - 1]? = some es[m - 1]:=Xb hlt;have hlk:=(hm _ _ he).2 (by omega)
  rcases hf.2 _ (Ym hlt) with h|h
  ·omega
  ·have:=(g.ef _ _ he).1 (nH g h hd)
   omega
theorem GG.Aa (g:GG D nu0 o0 w0 l es O) {k m lo:Nat} {fs:List (Nat×Nat)} (hf:Az l.toArray es fs k=true) (hlo:fI fs k=some lo) (hd: ∀i,aG l.toArray k i=true->g.done i=true) (hk:g.done k=false) (hm: ∀m' e,es[m']? = some e->(e<k↔m'<m)):lo<=g.c∧g.c<=m:=by
 simp only [Az,hlo,XK,X7,X9,decide_eq_true_eq] at hf;obtain ⟨⟨h0,h1⟩,h2⟩:=hf
 constructor
 ·rcases Yn lo with q|q
  ·omega
  ·have hlt:lo - 1<es.length:=by omega
   have he:es[lo - 1]? = some es[lo - 1]:=Xb hlt;have hmem:es[lo - 1]∈es.take lo:=List.mem_take_iff_getElem.2 ⟨lo - 1,by omega,rfl⟩
   have:=(g.ef _ _ he).1 (nH g (h1 _ hmem) hd)
   omega
 ·rcases WV m g.c with q|q
  ·exfalso;have hlt:m<es.length:=Nat.lt_of_lt_of_le q g.le;have he:es[m]? = some es[m]:=Xb hlt;have hdn:=(g.ef m _ he).2 q
   have hge: ¬es[m]<k:=fun hh=>by have:=(hm m _ he).1 hh;omega
   rcases h2 _ (Ym hlt) with h|h
   ·exact hge h
   ·have:=kU g _ _ _ h.2 hdn
    rw [hk] at this;cases this
  ·exact q
theorem tE {N:rQ} {f:Nat->AV->jX N} {rs:List AV} {i:Nat} {e:AV} (h:rs[i]? = some e):vR (rs.mapIdx f) i=f i e:=by
 rw [vR,XR,List.getElem?_mapIdx,h];rfl
theorem EN {N:rQ} {f:Nat->AV->jX N} {rs:List AV} {i:Nat} {e:AV} (h:rs[i]? = some e):vR (rs.mapIdx f) i=f i e:=tE h
structure It (l:List Oper) (s:AS) (a:Act) (k:Nat) (sk:AS) (rs:List AV) (A:(Nat->Value)->Act):Prop where
 y:sk.y=s.y
 len:rs.length=k
 jj: ∀x,(A x).defers=a.defers
 size: ∀x,sk.t.length=(A x).tmps.size
 val: ∀x (t:Nat) c v,sk.t[t]? = some c->(A x).tmps[t]? = some v->(s.t[t]? = some c∧a.tmps[t]? = some v)∨ ∃i,i<k∧(∃oi,l[i]? = some oi∧oi.dst=some t)∧rs[i]? = some c∧v=x i
theorem It.step {l:List Oper} {s:AS} {a:Act} {k:Nat} {sk:AS} {rs:List AV} {A:(Nat->Value)->Act} (h:It l s a k sk rs A) {oo:Oper} (ho:l[k]? = some oo) (r:AV) (o':List (Option ab)) :
  It l s a (k+1) (sk.put oo.dst r o') (rs++[r]) (fun x=>(A x).put oo.dst (x k)):=by
 refine ⟨h.y,by simp [h.len],fun x=> ?_,fun x=> ?_,fun x t c v h1 h2=> ?_⟩
 ·have:=h.jj x;cases oo.dst<;>simpa [Act.put] using this
 ·have:=h.size x;cases oo.dst<;>simpa [Act.put,AS.put] using this
 ·have old:sk.t[t]? = some c->(A x).tmps[t]? = some v->(s.t[t]? = some c∧a.tmps[t]? = some v)∨ ∃i,i<k+1∧(∃oi,l[i]? = some oi∧oi.dst=some t)∧(rs++[r])[i]? = some c∧v=x i:=by
   intro h1 h2
   rcases h.val x t c v h1 h2 with h3|⟨i,q1,q2,q3,q4⟩
   ·exact .inl h3
   ·exact .inr ⟨i,by omega,q2,by rw [WU (by rw [h.len];exact q1)];exact q3,q4⟩
  cases hd:oo.dst with
  | none=>rw [hd] at h1 h2;exact old h1 h2
  | some d=>
   rw [hd] at h1 h2;simp only [AS.put,Act.put] at h1 h2
   by_cases hdt:d=t
   ·subst hdt;have hlt:=(WT.1 h1).1;simp only [List.length_set] at hlt;rw [List.getElem?_set_self hlt] at h1;rw [Array.getElem?_setIfInBounds_self_of_lt (by have:=h.size x;omega)] at h2;cases h1;cases h2;exact .inr ⟨k,by omega,⟨oo,ho,hd⟩,by rw [Xr (by rw [h.len];exact Nat.le_refl _),h.len,Nat.sub_self];rfl,rfl⟩
   ·rw [List.getElem?_set_ne hdt] at h1;rw [Array.getElem?_setIfInBounds_ne hdt] at h2;exact old h1 h2
theorem um {l:List Oper} (hB:ou l.toArray=true) {i j:Nat} {oi oj:Oper} (hij:i<j) (hi:l[i]? = some oi) (hj:l[j]? = some oj):aG l.toArray j i=true∨ ∀d,oi.dst=some d->d∉oj.looksAt l.toArray:=by
 simp only [ou,XK,X7,X8,Xl] at hB;have hjn:=(WT.1 hj).1
 have:=(hB.2 j hjn).1 i hij
 simp only [Bu,Xd,hi,hj,XK,X9,Yo] at this
 rcases this.1.1.1 with h|h
 ·exact .inl h
 ·refine .inr (fun e he=> ?_);rw [he] at h;simpa using h
theorem iL: ∀ {l:List Nat},mh l=true-> ∀(i j x y:Nat),i<j->l[i]? = some x->l[j]? = some y->x<y
 | [],_,i,j,x,y,_,h,_=>by simp at h
 | [a],_,i,j,x,y,hij,h1,h2=>by
  have:=(WT.1 h2).1
  simp at this;omega
 | a :: b :: l,h,i,j,x,y,hij,h1,h2=>by
  simp only [mh,XK,decide_eq_true_eq] at h
  match i,j,h1,h2 with
  | 0,1,h1,h2=>cases h1;cases h2;exact h.1
  | 0,j+2,h1,h2=>
   cases h1
   have:=iL h.2 0 (j+1) b y (by omega) rfl (by simpa using h2)
   omega
  | i+1,j+1,h1,h2=>exact iL h.2 i j x y (by omega) (by simpa using h1) (by simpa using h2)
theorem dx {l:List Nat} (h:mh l=true):l.Nodup:=by
 refine List.pairwise_iff_getElem.2 (fun i j hi hj hij=> ?_)
 have:=iL h i j _ _ hij (Xb hi) (Xb hj)
 omega
theorem Eh {l:List Oper} {es:List Nat} {fs:List (Nat×Nat)} (hsz: ∀e,e∈es->e<l.length) (hrise:mh es=true): ∀(rest:List Oper) (k m:Nat) (s:AS) (hist:List (List (Option ab))) (rs:List AV) (os:List (List (Option ab))) (sf:AS),l.drop k=rest->k<=l.length->RX P l es fs rest k s hist rs os sf->m<=es.length ->
  (∀m' e,es[m']? = some e->(e<k↔m'<m))->os.length+m=es.length
 | [],k,m,s,hist,rs,os,sf,hl,hk,ht,hm,hme=>by
  obtain ⟨rfl,rfl,rfl⟩:=ht
  have hkl:k=l.length:=by have:=congrArg List.length hl;simp at this;omega
  rcases WV m es.length with q|q
  ·have he:es[m]? = some es[m]:=Xb q
   have:=(hme m _ he).1 (by rw [hkl];exact hsz _ (Ym q))
   omega
  ·simp;omega
 | oo :: rest,k,m,s,hist,rs,os,sf,hl,hk,ht,hm,hme=>by
  have hlt:k<l.length:=by have:=congrArg List.length hl;simp at this;omega
  have hl':l.drop (k+1)=rest:=by have:=congrArg List.tail hl;simpa using this
  obtain ⟨r,rs',rfl,ht⟩:=ht
  rcases ht with ⟨he,hg,o',os',rfl,hd,htr⟩|⟨he,hstep,htr⟩
  ·have hkm:k∈es:=by simpa using he
   obtain ⟨mk,hmk⟩:=Xk hkm
   have hmke:mk=m:=by
    have h1: ¬mk<m:=fun hh=>by have:=(hme mk k hmk).2 hh;omega
    rcases WV m mk with q|q
    ·have hlt2:m<es.length:=by have:=(WT.1 hmk).1;omega
     have hem:es[m]? = some es[m]:=Xb hlt2;have hlt3:=iL hrise m mk _ _ q hem hmk
     have:=(hme m _ hem).1 hlt3
     omega
    ·omega
   subst hmke;have hmlt:=(WT.1 hmk).1
   have:=Eh hsz hrise rest (k+1) (mk+1) _ _ _ _ _ hl' hlt htr (by omega) (fun m' e h=>by
    by_cases hek:e=k
    ·subst hek
     have:m'=mk:=(Yl (WT.1 h).1 (dx hrise)).1 (h.trans hmk.symm)
     omega
    ·have:=hme m' e h
     have hne:m'≠mk:=fun hh=>by subst hh;rw [hmk] at h;cases h;exact hek rfl
     omega)
   simp only [List.length_cons];omega
  ·exact Eh hsz hrise rest (k+1) m _ _ _ _ _ hl' hlt htr hm (fun m' e h=>by
    have hne:e≠k:=fun hh=>by
     subst hh
     have:=Xw h
     simp [this] at he
    rw [<-hme m' e h];omega)
theorem mD {f:Fr} {fs:List (Nat×Nat)} (hB:uk l.toArray es fs=true) {s sf:AS} {a:Act} {w0:World} {rs:List AV} {os:List (List (Option ab))} {R:Exit->Act->World->Prop} {g0:GG D nu s.o w0 l es (fun c=>(s.o :: os).getD c [])} (hs:RS f D nu s a w0)
  (hR: ∀a' w' nu',bK nu s.o w0 nu' sf.o w'->sf.y=s.y->RS f D nu' sf a' w'->R .normal a' w') :
  ∀(rest:List Oper) (k m:Nat) (sk:AS) (hist:List (List (Option ab))) (rs1 rs2:List AV) (os2:List (List (Option ab))) (A:(Nat->Value)->Act),l.drop k=rest->RX P l es fs rest k sk hist rs2 os2 sf->(s.o :: os).take m=hist->rs=rs1++rs2->It l s a k sk rs1 A->(s.o :: os).drop m=sk.o :: os2 ->
   m<=es.length->(∀m' e,es[m']? = some e->(e<k↔m'<m))->k<=l.length ->
   Kw (N:=bJ D nu s.o w0 l es (fun c=>(s.o :: os).getD c [])) P l.toArray (rs.mapIdx (fun k r=>fY D nu s.o w0 l es (fun c=>(s.o :: os).getD c []) k r)) g0 (R .normal) rest k A
 | [],k,m,sk,hist,rs1,rs2,os2,A,hl,ht,hhi,hrs,hI,hO,hml,hme,hk=>by
  obtain ⟨rfl,rfl,rfl⟩:=ht;intro x g hE hD
  have hkl:k=l.length:=by have:=congrArg List.length hl;simp at this;omega
  have hspec: ∀i r,rs1[i]? = some r->(fY D nu s.o w0 l es (fun c=>(s.o :: os).getD c []) i r).p (x i) g:=fun i r hr=>by
   have hik:i<k:=by rw [<-hI.len];exact (WT.1 hr).1
   have:=hD i hik
   rw [hrs,List.append_nil,EN hr] at this;exact this
  have hdone: ∀i,i<k->g.done i=true:=fun i hi=>by
   have hlt:i<rs1.length:=by rw [hI.len];exact hi
   exact (hspec i _ (Xb hlt)).2
  have hsz: ∀e,e∈es->e<l.length:=by
   simp only [uk,XK,X7,decide_eq_true_eq,Xl] at hB;exact hB.1.2
  have hm:m=es.length:=by
   rcases WV m es.length with q|q
   ·have he:es[m]? = some es[m]:=Xb q
    have:=(hme m _ he).1 (by rw [hkl];exact hsz _ (Ym q))
    omega
   ·omega
  have hc:g.c=m:=by
   have h1:=g.le
   rcases Yn m with q|q
   ·omega
   ·have hlt:m - 1<es.length:=by omega
    have he:es[m - 1]? = some es[m - 1]:=Xb hlt
    have:=(g.ef _ _ he).1 (hdone _ (by rw [hkl];exact hsz _ (Ym hlt)))
    omega
  have hOm:(s.o :: os).getD m []=sf.o:=by
   have:=congrArg (fun l=>l[0]?) hO
   simp only [W9,Nat.add_zero,X2] at this;rw [XR,this];rfl
  have hro:=g.ro;have hmo:=g.mono;simp only [hc,hOm] at hro hmo;refine hR (A x) g.w g.nu hmo hI.y ⟨hro,⟨hI.size x,fun t c v h1 h2=> ?_⟩,by rw [hI.jj x];exact hs.jj.mono hs.ro hmo⟩
  rcases hI.val x t c v h1 h2 with ⟨h3,h4⟩|⟨i,q1,q2,q3,q4⟩
  ·exact (hs.tm.at' t c v h3 h4).mono hmo (fun _ _ h=>h)
  ·have:=(hspec i c q3).1
   simp only [hc,hOm] at this;rw [q4];exact this
 | oo :: rest,k,m,sk,hist,rs1,rs2,os2,A,hl,ht,hhi,hrs,hI,hO,hml,hme,hk=>by
  have hB':=hB;simp only [uk,XK,X7,decide_eq_true_eq,Xl,X8,X9] at hB';obtain ⟨⟨⟨hrel,hrise⟩,hszs⟩,hfix⟩:=hB'
  have hlt:k<l.length:=by have:=congrArg List.length hl;simp at this;omega
  have hok:l[k]? = some oo:=by have:=congrArg (fun m=>m[0]?) hl;simpa using this
  have hl':l.drop (k+1)=rest:=by have:=congrArg List.tail hl;simpa using this
  have hOm:(s.o :: os).getD m []=sk.o:=by
   have:=congrArg (fun l=>l[0]?) hO
   simp only [W9,Nat.add_zero,X2] at this;rw [XR,this];rfl
  obtain ⟨r,rs',rfl,ht⟩:=ht
  have hrs':rs=(rs1++[r])++rs':=by rw [hrs];simp
  have hspecK:vR (rs.mapIdx (fun k r=>fY D nu s.o w0 l es (fun c=>(s.o :: os).getD c []) k r)) k=fY D nu s.o w0 l es (fun c=>(s.o :: os).getD c []) k r:=by
   rw [hrs];exact tE (by rw [Xr (by rw [hI.len];exact Nat.le_refl _),hI.len,Nat.sub_self];rfl)
  have hspec: ∀(x:Nat->Value) (g:GG D nu s.o w0 l es (fun c=>(s.o :: os).getD c [])) i rr,(vR (rs.mapIdx (fun k r=>fY D nu s.o w0 l es (fun c=>(s.o :: os).getD c []) k r)) i).p (x i) g->rs1[i]? = some rr->RA D g.nu ((s.o :: os).getD g.c []) g.w rr (x i)∧g.done i=true:=fun x g i rr h hr=>by
   rw [hrs,tE (by rw [WU (WT.1 hr).1];exact hr)] at h;exact h
  have hdep: ∀i,aG l.toArray k i=true->i<k:=fun i hi=>by
   simp only [ou,XK,X7,X8,Xl] at hrel
   rcases Nat.lt_trichotomy i k with h|h|h
   ·exact h
   ·subst h
    have:=(hrel.2 i hlt).2.1
    rw [hi] at this;cases this
   ·exfalso;simp only [aG,Xd,hok,Array.any_eq_true',XK,beq_iff_eq] at hi;obtain ⟨e,he,hb,rfl⟩:=hi;have hfar:=(hrel.2 k hlt).2.2;simp only [Ax,Xd,hok,Array.all_eq_true_iff_forall_mem] at hfar
    have hel:e.on<l.length:=by simpa using hfar e he
    have:=(hrel.2 e.on hel).1 k h
    simp only [Bu,Xd,hok,Xb hel,XK,Yo] at this;have h2:=this.1.1.2;simp only [aG,Xd,hok] at h2
    have:oo.after.any (fun e_1=>Region.binds .any e_1&&e_1.on==e.on)=true:=by
     simp only [Array.any_eq_true',XK,beq_iff_eq];exact ⟨e,he,hb,rfl⟩
    rw [this] at h2;cases h2
  have hdoneD: ∀(x:Nat->Value) (g:GG D nu s.o w0 l es (fun c=>(s.o :: os).getD c [])),(∀i,aG l.toArray k i=true->(vR (rs.mapIdx (fun k r=>fY D nu s.o w0 l es (fun c=>(s.o :: os).getD c []) k r)) i).p (x i) g)-> ∀i,aG l.toArray k i=true->g.done i=true:=fun x g hD i hi=>by
   have hlt:i<rs1.length:=by rw [hI.len];exact hdep i hi
   exact (hspec x g i _ (hD i hi) (Xb hlt)).2
  
  have hlook: ∀(x:Nat->Value) (g:GG D nu s.o w0 l es (fun c=>(s.o :: os).getD c [])),(∀i,aG l.toArray k i=true->(vR (rs.mapIdx (fun k r=>fY D nu s.o w0 l es (fun c=>(s.o :: os).getD c []) k r)) i).p (x i) g)-> ∀(t:Nat) c v,t∈oo.looksAt l.toArray->sk.t[t]? = some c->(A x).tmps[t]? = some v->RA D g.nu ((s.o :: os).getD g.c []) g.w c v:=by
   intro x g hD t c v ht h1 h2
   rcases hI.val x t c v h1 h2 with ⟨h3,h4⟩|⟨i,q1,⟨oi,q2,q5⟩,q3,q4⟩
   ·exact (hs.tm.at' t c v h3 h4).mono g.mono (fun _ _ h=>h)
   ·rcases um hrel q1 q2 hok with h5|h5
    ·have:=(hspec x g i c (hD i h5) q3).1
     rw [q4];exact this
    ·exact absurd ht (h5 t q5)
  have hevs: ∀(x:Nat->Value) (g:GG D nu s.o w0 l es (fun c=>(s.o :: os).getD c [])),(∀i,aG l.toArray k i=true->(vR (rs.mapIdx (fun k r=>fY D nu s.o w0 l es (fun c=>(s.o :: os).getD c []) k r)) i).p (x i) g)->Ir D g.nu ((s.o :: os).getD g.c []) g.w sk.ev (A x).eval oo.op:=by
   intro x g hD y hy
   cases y with
   | tmp t=>
    simp only [AS.ev,Act.eval]
    rcases WV t sk.t.length with hlt|hge
    ·have e1:sk.t[t]? = some sk.t[t]:=Xb hlt
     have hlt':t<(A x).tmps.size:=by rw [<-hI.size x];exact hlt
     have hx:(A x).tmps[t]? = some (A x).tmps[t]:=Array.getElem?_eq_getElem hlt';rw [getD_some e1]
     have:(A x).tmps.getD t Go.undef=(A x).tmps[t]:=by simp [Array.getD,hlt']
     rw [this];exact hlook x g hD t _ _ (List.mem_append_left _ (List.mem_filterMap.2 ⟨.tmp t,hy,rfl⟩)) e1 hx
    ·have e0:sk.t.getD t .undef = .undef:=by rw [XR,List.getElem?_eq_none hge];rfl
     rw [e0];exact .undef _
   | const v=>exact .v v
   | global gi=>exact (nE hs.ro sk gi).mono g.mono (fun _ _ h=>h)
   | func f=>exact .fn f [] [] #[] #[] rfl rfl (fun i c x h=>by simp at h) (fun i c x h=>by simp at h)
  have hcont: ∀(x:Nat->Value),es.contains k=false-> ∀m' e,es[m']? = some e->(e<k+1↔m'<m):=fun _ he m' e h=>by
   have hne:e≠k:=fun hh=>by
    subst hh
    have:=Xw h
    simp [this] at he
   rw [<-hme m' e h];omega
  rcases ht with ⟨he,hg,o',os',rfl,hd,htr⟩|⟨he,hstep,htr⟩
  ·
   have hkm:k∈es:=by simpa using he
   obtain ⟨mk,hmk⟩:=Xk hkm
   have hmke:mk=m:=by
    have h1: ¬mk<m:=fun hh=>by have:=(hme mk k hmk).2 hh;omega
    rcases WV m mk with q|q
    ·have hlt2:m<es.length:=by have:=(WT.1 hmk).1;omega
     have hem:es[m]? = some es[m]:=Xb hlt2;have hlt3:=iL hrise m mk _ _ q hem hmk
     have:=(hme m _ hem).1 hlt3
     omega
    ·omega
   subst hmke
   have hOm1:(s.o :: os).getD (mk+1) []=o':=by
    have h1:=congrArg (fun (l:List (List (Option ab)))=>l[1]?) hO;simp only [W9] at h1;rw [XR,h1];rfl
   refine ⟨fun x g hE hD hp=> ?_, ?_⟩
   ·have hdd:=hdoneD x g hD
    have hfx:Gy l.toArray es k=true:=by
     rcases hfix k hlt with ((h|h)|h)|h
     ·have:=h.2;simp [hkm] at this
     ·exact h
     ·exfalso;simp only [Az] at h
      split at h
      ·simp only [XK,X7,X9,decide_eq_true_eq] at h
       rcases h.2 k hkm with q|q
       ·omega
       ·simp at q
      ·cases h
     ·exfalso;simp only [J5,XK] at h
      have:=h.1.1.1;simp [hkm] at this
    have hc:g.c=mk:=g.pA hfx hdd hp hme hml;have hev:=hevs x g hD;have hro:=g.ro;simp only [hc,hOm] at hev hro;refine .inl ⟨by simp [Region.wanted,hg], ?_⟩;rw [hspecK]
    have hgo: ∀(v:Value) (w':World) (nu':Nat->Nat->Value),bK g.nu sk.o g.w nu' o' w'->RO D nu' o' w'->RA D nu' o' w' r v ->
      ∃g':GG D nu s.o w0 l es (fun c=>(s.o :: os).getD c []),(bJ D nu s.o w0 l es (fun c=>(s.o :: os).getD c [])).wd g'=w'∧(bJ D nu s.o w0 l es (fun c=>(s.o :: os).getD c [])).R g g'∧(∀i,i≠k->(bJ D nu s.o w0 l es (fun c=>(s.o :: os).getD c [])).pre i g->(bJ D nu s.o w0 l es (fun c=>(s.o :: os).getD c [])).pre i g')∧(fY D nu s.o w0 l es (fun c=>(s.o :: os).getD c []) k r).p v g':=by
     intro v w' nu' m1 m2 m3
     have hm':bK g.nu ((s.o :: os).getD g.c []) g.w nu' ((s.o :: os).getD (g.c+1) []) w':=by rw [hc,hOm,hOm1];exact m1
     have hr':RO D nu' ((s.o :: os).getD (g.c+1) []) w':=by rw [hc,hOm1];exact m2
     have hek:es[g.c]? = some k:=by rw [hc];exact hmk
     have hR2:=g.OW k w' nu' hm' hr' hdd hek (dx hrise)
     refine ⟨g.TE k w' nu' hm' hr' hdd hek (dx hrise),rfl,hR2.1,hR2.2, ?_, ?_⟩
     ·show RA D nu' ((s.o :: os).getD (g.c+1) []) w' r v;rw [hc,hOm1];exact m3
     ·show (if k=k then true else g.done k)=true;simp
    rcases wM (P:=P) (rho:=(A x).eval) hro hev hd with ⟨v,w',nu',h1,m1,m2,m3⟩|⟨gf,vargs,h1,h2⟩
    ·rcases h1 with h1|⟨h1,rfl⟩
     ·have e1:(execOp (A x).eval oo).run P ((bJ D nu s.o w0 l es (fun c=>(s.o :: os).getD c [])).wd g) = .ok (.value v) w':=h1;rw [e1];exact hgo v w' nu' m1 m2 m3
     ·have e1:(execOp (A x).eval oo).run P ((bJ D nu s.o w0 l es (fun c=>(s.o :: os).getD c [])).wd g) = .ok .skip w':=h1;rw [e1];exact hgo _ w' nu' m1 m2 m3
    ·have e1:(execOp (A x).eval oo).run P ((bJ D nu s.o w0 l es (fun c=>(s.o :: os).getD c [])).wd g) = .ok (.enter gf vargs) g.w:=h1;rw [e1];refine h2.mono ?_;rintro e w' ⟨v,nu',rfl,m1,m2,m3⟩;obtain ⟨g',k1,k2,k3,k4⟩:=hgo v w' nu' m1 m2 m3;exact ⟨v,g',rfl,k1,k2,k3,k4⟩
   ·refine mD hB hs hR rest (k+1) (mk+1) (sk.put oo.dst r o') (hist++[sk.o]) (rs1++[r]) rs' os' _ hl' htr (by rw [List.take_succ_eq_append_getElem (by have:=congrArg List.length hO;simp at this ⊢; omega),hhi];congr 1;have:=hOm;rw [XR,Xb (by have:=congrArg List.length hO;simp at this ⊢; omega)] at this;simpa using this) hrs' (hI.step hok r o') ?_ ((WT.1 hmk).1) (fun m' e h=> ?_) hlt
    ·have:=congrArg List.tail hO
     rw [List.tail_drop] at this;exact this
    ·by_cases hek:e=k
     ·subst hek
      have:m'=mk:=(Yl (WT.1 h).1 (dx hrise)).1 (h.trans hmk.symm)
      omega
     ·have:=hme m' e h
      have hne:m'≠mk:=fun hh=>by subst hh;rw [hmk] at h;cases h;exact hek rfl
      omega
  ·refine ⟨fun x g hE hD hp=> ?_, ?_⟩
   ·have hdd:=hdoneD x g hD;rw [hspecK]
    have hnext: ∀(v:Value) (w':World),RA D g.nu ((s.o :: os).getD g.c []) w' r v->Below g.w.heap.size g.w w' ->
      ∃g':GG D nu s.o w0 l es (fun c=>(s.o :: os).getD c []),(bJ D nu s.o w0 l es (fun c=>(s.o :: os).getD c [])).wd g'=w'∧(bJ D nu s.o w0 l es (fun c=>(s.o :: os).getD c [])).R g g'∧(∀i,i≠k->(bJ D nu s.o w0 l es (fun c=>(s.o :: os).getD c [])).pre i g->(bJ D nu s.o w0 l es (fun c=>(s.o :: os).getD c [])).pre i g')∧(fY D nu s.o w0 l es (fun c=>(s.o :: os).getD c []) k r).p v g':=by
     intro v w' hr hb;have hR2:=g.Kr k w' hb hdd he;refine ⟨g.next k w' hb hdd he,rfl,hR2.1,hR2.2,hr, ?_⟩;show (if k=k then true else g.done k)=true;simp
    have hyv: ∀j want,oo.guard=some (j,want)-> ∀gg,jk l sk j=some gg->yielded l.toArray (A x).tmps j=gg:=fun j want hg gg hgv=>
     ig (s:=⟨sk.t,(s.o :: os).getD g.c [],sk.y⟩) (D:=D) (nu:=g.nu) (w:=g.w) (fun d c v hd h1 h2=>by
      refine hlook x g hD d c v ?_ h1 h2;obtain ⟨og,q1,q2⟩:=hd;refine List.mem_append_right _ ?_;simp only [hg,Xd,q1,Option.bind_some,q2]
      simp) (hI.size x) (show jk l ⟨sk.t,_,sk.y⟩ j=some gg from hgv)
    rcases hstep with ⟨hw,hd,hfl,hlat⟩|⟨_,_,rfl,j,want,gg,hg,hgv,hno⟩
    ·have hwant:Region.wanted oo (yielded l.toArray (A x).tmps)=true:=by
      rcases hw with hg|⟨j,want,b,hg,hgv,hb⟩
      ·simp [Region.wanted,hg]
      ·simp only [Region.wanted,hg,hyv j want hg _ hgv];simpa using hb
     refine .inl ⟨hwant, ?_⟩
     have hd':bZ P oo.op ⟨sk.t,(s.o :: os).getD g.c [],sk.y⟩ (fun r'=>r'=r):=by
      rcases hfix k hlt with ((h|h)|h)|h
      ·rw [show l.toArray[k]? = some oo by simpa using hok] at h;exact wN (by simpa using h.1) (show bZ P oo.op ⟨sk.t,sk.o,sk.y⟩ (fun r'=>r'=r) from hd)
      ·have hc:g.c=m:=g.pA h hdd hp hme hml;rw [hc,hOm];exact hd
      ·have hlo: ∃lo,fI fs k=some lo:=by
        simp only [Az] at h
        split at h
        ·exact ⟨_, ‹_›⟩
        ·cases h
       obtain ⟨lo,hlo⟩:=hlo;obtain ⟨c1,c2⟩:=g.Aa h hlo hdd hp hme
       rcases Nat.eq_or_lt_of_le c2 with hc|hc
       ·rw [hc,hOm];exact hd
       ·have hgl:g.c<(s.o :: os).length:=by have:=congrArg List.length hO;simp at this ⊢; omega
        refine hfl lo hlo _ ?_;rw [<-hhi,XR,Xb hgl];refine List.mem_drop_iff_getElem.2 ⟨g.c - lo,by simp at hgl ⊢; omega, ?_⟩;rw [List.getElem_take];simp only [Option.getD_some]
        congr 1
        omega
      ·have hc:=g.MB h hdd hme hml;simp only [J5,XK] at h
       rcases Nat.eq_or_lt_of_le hc with hc|hc
       ·rw [<-hc,hOm];exact hd
       ·have hle:=g.le;refine hlat (by simpa using h.1.1.2) h.1.2 _ ?_;have hln:=Eh hszs hrise rest (k+1) m _ _ _ _ _ hl' (by omega) htr hml (hcont (fun _=>Go.undef) he);have e1:=congrArg (fun (l:List (List (Option ab)))=>l[g.c - m]?) hO;obtain ⟨d,hd1⟩: ∃d,g.c - m=d+1:=⟨g.c - m - 1,by omega⟩;simp only [W9,show m+(g.c - m)=g.c by omega] at e1;rw [hd1,List.getElem?_cons_succ,Xb (l:=os2) (by omega)] at e1;rw [XR,e1];exact Ym _
     obtain ⟨r',rfl,hout⟩:=fQ (P:=P) (s:=⟨sk.t,(s.o :: os).getD g.c [],sk.y⟩) (rho:=(A x).eval) g.ro (hevs x g hD) hd';have e0:(execOp (A x).eval oo).run P ((bJ D nu s.o w0 l es (fun c=>(s.o :: os).getD c [])).wd g)=(execOp (A x).eval oo).run P g.w:=rfl;rw [e0];generalize (execOp (A x).eval oo).run P g.w=res at hout
     cases res with
     | halt _ _=>exact hout.elim
     | ok n w'=>
      cases n<;>first|exact hout.elim|skip
      case value u=>exact hnext u w' hout.1.2 hout.2
      case skip=>exact hnext _ w' hout.1.2 hout.2
      case enter gf vargs=>
       refine Calls.mono hout ?_;rintro e w'' ⟨v,rfl,hv,hb⟩;obtain ⟨g',k1,k2,k3,k4⟩:=hnext v w'' hv.2 hb;exact ⟨v,g',rfl,k1,k2,k3,k4⟩
    ·refine .inr ⟨?_, ?_⟩
     ·simp only [Region.wanted,hg,hyv j want hg _ hgv]
      rcases hno with rfl|⟨b,rfl,hb⟩
      ·rfl
      ·simpa using hb
     ·obtain ⟨g',k1,k2,k3,k4⟩:=hnext Go.undef g.w (.v _) (.refl _ _);exact ⟨g',k1,k2,k3,k4⟩
   ·have hO':(s.o :: os).drop m=(sk.put oo.dst r s.o).o :: os2->True:=fun _=>trivial;refine mD hB hs hR rest (k+1) m (sk.put oo.dst r sk.o) hist (rs1++[r]) rs' os2 _ hl' ?_ hhi hrs' (hI.step hok r sk.o) hO hml (hcont (fun _=>Go.undef) he) hlt;exact htr
theorem bA {n0 id:Nat} {s:AS} {l:List Oper} {Q:bd->AS->Prop} (es:List Nat) (fs:List (Nat×Nat)) (hB:uk l.toArray es fs=true) (hC:dw l.toArray=true) (h:cJ P l es fs l 0 s [] none (Q .normal)):cm P n0 (.region id l.toArray true) s Q:=by
 refine .inr (fun f m D nu a w hZr hn hm hs hmx R hO hR=> ?_);obtain ⟨rs,os,sf,htr,_,hq⟩:=fR l 0 s [] h;have hs':=hs.drew
 have hrel:ou l.toArray=true:=by
  simp only [uk,XK] at hB;exact hB.1.1.1
 let g0:GG D nu s.o w.drew l es (fun c=>(s.o :: os).getD c []):=⟨w.drew,nu,fun _=>false,0,hs'.ro, .refl _ _ _,(fun _ _ h=>by cases h),(fun _ _ _=>by simp),Nat.zero_le _⟩
 have hobl:=mD (P:=P) (R:=R) (rs:=rs) (g0:=g0) hB hs' (fun a' w' nu' h1 hy h2=>hR .normal D f.Z sf a' w' nu' (by rw [hy];exact m.own hm hs.ro ((ay (cC w)).trans h1) h2.ro) h2 hq) l 0 0 s [] [] rs os (fun _=>a) (by simp) htr (by simp) (by simp) ⟨rfl,rfl,fun _=>rfl,fun _=>hs.tm.len,fun x t c v h1 h2=> .inl ⟨h1,h2⟩⟩ (by simp) (Nat.zero_le _) (fun m' e _=>by simp) (Nat.zero_le _);exact nt hmx hC hO (kI (N:=bJ D nu s.o w.drew l es (fun c=>(s.o :: os).getD c [])) _ hrel g0 rfl (fun _=>rfl) hobl)
theorem ae {all rest:List Oper} {es:List Nat} {fs:List (Nat×Nat)} {oo:Oper} {k:Nat} {s:AS} {hist:List (List (Option ab))} {pn:Option (List (Option ab)->Prop)} {Q:AS->Prop} (he:(es.contains k||(fI fs k).isSome||yS fs k)=false) (h: ∀K:AS->Prop,(∀s',cJ P all es fs rest (k+1) s' hist pn Q->K s')->dQ P all oo s K):cJ P all es fs (oo :: rest) k s hist pn Q:=by
 simp only [Bool.or_eq_false_iff] at he;simp only [cJ,he.1.1,Yk,if_false]
 cases hf:fI fs k with
 | some lo=>rw [hf] at he;simp at he
 | none=>rw [he.2];exact h _ (fun _ h=>h)
theorem ag {all rest:List Oper} {es:List Nat} {fs:List (Nat×Nat)} {dst:Option Tmp} {op:Op} {ty:TypeId} {pos:String} {aft:Array Edge} {k:Nat} {s:AS} {hist:List (List (Option ab))} {Q:AS->Prop} (he:es.contains k=true) (h: ∀K:AS->Prop,(∀s',cJ P all es fs rest (k+1) s' (hist++[s.o]) none Q->K s')->qy P op s (fun r o'=>K (s.put dst r o'))):cJ P all es fs (⟨dst,op,ty,pos,aft,none⟩ :: rest) k s hist none Q:=by
 simp only [cJ,he,if_true,QC,true_and];exact h _ (fun _ h=>h)
theorem cn {all rest:List Oper} {es:List Nat} {fs:List (Nat×Nat)} {dst:Option Tmp} {op:Op} {ty:TypeId} {pos:String} {aft:Array Edge} {k:Nat} {s:AS} {hist:List (List (Option ab))} {p:List (Option ab)->Prop} {Q:AS->Prop} (he:es.contains k=true) (h: ∀K:AS->Prop,(∀s',cJ P all es fs rest (k+1) s' (hist++[s.o]) (some p) Q->K s')->qy P op s (fun r o'=>p o'∧K (s.put dst r o'))):cJ P all es fs (⟨dst,op,ty,pos,aft,none⟩ :: rest) k s hist (some p) Q:=by
 simp only [cJ,he,if_true,QC];exact h _ (fun _ h=>h)
theorem cv {all rest:List Oper} {es:List Nat} {fs:List (Nat×Nat)} {dst:Option Tmp} {op:Op} {ty:TypeId} {pos:String} {aft:Array Edge} {k lo:Nat} {s:AS} {hist:List (List (Option ab))} {pn:Option (List (Option ab)->Prop)} {Q:AS->Prop} (he:(if es.contains k then none else fI fs k)=some lo) (h: ∀K:AS->Prop,(∀s',cJ P all es fs rest (k+1) s' hist pn Q->K s')->bZ P op s (fun r=>(∀o',o'∈hist.drop lo->bZ P op ⟨s.t,o',s.y⟩ (fun r'=>r'=r))∧K (s.put dst r s.o))):cJ P all es fs (⟨dst,op,ty,pos,aft,none⟩ :: rest) k s hist pn Q:=by
 have hc:es.contains k=false:=by cases hc:es.contains k<;>simp_all
 simp only [hc,Yk,if_false] at he;simp only [cJ,hc,Yk,if_false,he];exact ⟨trivial,h _ (fun _ h=>h)⟩
theorem cP {all rest:List Oper} {es:List Nat} {fs:List (Nat×Nat)} {dst:Option Tmp} {op:Op} {ty:TypeId} {pos:String} {aft:Array Edge} {k:Nat} {s:AS} {hist:List (List (Option ab))} {pn:Option (List (Option ab)->Prop)} {Q:AS->Prop} (he:(!es.contains k&&(fI fs k).isNone&&yS fs k)=true) (h:bZ P op s (fun r=>cJ P all es fs rest (k+1) (s.put dst r s.o) hist (some fun o'=>QC pn o'∧bZ P op ⟨s.t,o',s.y⟩ (fun r'=>r'=r)) Q)):cJ P all es fs (⟨dst,op,ty,pos,aft,none⟩ :: rest) k s hist pn Q:=by
 simp only [XK,Yo] at he;simp only [cJ,he.1.1,Yk,if_false]
 cases hf:fI fs k with
 | some lo=>rw [hf] at he;simp at he
 | none=>rw [he.2];exact ⟨trivial,h⟩
theorem CO {all:List Oper} {es:List Nat} {fs:List (Nat×Nat)} {k:Nat} {s:AS} {hist:List (List (Option ab))} {pn:Option (List (Option ab)->Prop)} {Q:AS->Prop} (h:Q s):cJ P all es fs [] k s hist pn Q:=h
instance {all:List Oper} {es:List Nat} {fs:List (Nat×Nat)} {k:Nat} {s:AS} {hist:List (List (Option ab))} {pn:Option (List (Option ab)->Prop)} {Q:AS->Prop}:aw (cJ P all es fs [] k s hist pn Q) (Q s):=⟨CO⟩
end
attribute [go_sem] QC qy L8 List.forall_mem_cons List.not_mem_nil false_implies implies_true
end
end Go.Proofs.YtfflpdekojlnmaaGreatDoor
