/- texts of one claim, one behind the other. -/
import Derived.Test.YtjcobjgjjlahdaaGreatDoorJAbsZ
import Derived.Test.YtjcobjgjjlahdaaGreatDoorJFen
import Derived.ChangeArms
import Derived.Deep.Slices
import Derived.KernelRfl
import Derived.SizedLaws
import Derived.Test.YtjcobjgjjlahdaaGreatDoorProg
import Derived.Test.YtjcobjgjjlahdaaGreatDoorRows
import Derived.Test.YtjcobjgjjlahdaaGreatDoorJAbsN
import Derived.WalkKit
import Derived.ProofKit
import Derived.OpenShut
import Derived.RangeFuncNested
import Derived.RangeFuncBound
import Derived.RangeFuncCalls
import Derived.RangeFuncLeaves
import Derived.Shelf.Abstract
import Derived.Shelf.RegionOpen
import Derived.OwnWalkIn
import Derived.TacticsInMore
import Derived.LoopNIn
import Derived.LoopIn
import Derived.Maps.AppendAt
set_option linter.unusedSimpArgs false
set_option linter.unusedVariables false
set_option maxRecDepth 100000
set_option maxHeartbeats 16000000
open Bool renaming and_true -> SA, true_and -> SD
open List renaming length_eq_zero_iff -> SB, getElem?_map -> Rs, mem_of_getElem? -> RK, getElem?_eq_some_iff -> Ra, getElem?_eq_none -> Ru, getElem?_eq_getElem -> Rp, getElem?_toArray -> Rr, mem_cons_of_mem -> Sb, length_append -> Rf, mem_cons_self -> Sd, findIdx?_eq_some_iff_getElem -> SE, findIdx?_eq_none_iff -> SF, getElem?_cons_zero -> Su, length_cons -> Rg, length_nil -> Q9, foldl_cons -> SI, zip_cons_cons -> SJ, zip_nil_left -> SK, foldl_nil -> SL, setIfInBounds_toArray -> SM, set_cons_succ -> SN, set_cons_zero -> SP
open Option renaming bind_eq_some_iff -> SC
open Array renaming getElem?_eq_some_iff -> Q8, replicate_succ -> SG, replicate_zero -> SH
open Nat renaming le_refl -> Q5
namespace Go.Proofs.YtjcobjgjjlahdaaGreatDoor
open Go.RowKit
section
def encS (s:ByteArray):List AV:=[.v (.string s)]
def encI (n:Int):List AV:=[.v (.int .i64 n)]
def cz (x:dM):List AV:=[.v (.int .i64 x.kind), .v (.string x.name), .v (.string x.key), .v (.int .i64 x.val.kind), .v (.int .i64 x.val.num), .v (.string x.val.text)]
def Ov (x:pe):List AV:=[.v (.int .i64 x.kind), .v (.int .i64 x.num), .v (.string x.text)]
def aH (x:ff):List AV:=[.v (.int .i64 x.op), .v (.int .i64 x.left.kind), .v (.string x.left.name), .v (.string x.left.key), .v (.int .i64 x.left.val.kind), .v (.int .i64 x.left.val.num), .v (.string x.left.val.text),
 .v (.int .i64 x.right.kind), .v (.string x.right.name), .v (.string x.right.key), .v (.int .i64 x.right.val.kind), .v (.int .i64 x.right.val.num), .v (.string x.right.val.text)]
mutual
def bg:Ex->List AV
 | .mk k s l=>[.v (.int .i64 k), .v (.string s), .aC 3 (Ai l) l.length]
def Ai:List Ex->List (List AV)
 | []=>[]
 | x :: xs=>bg x :: Ai xs
end
theorem j7: ∀l:List Ex,Ai l=l.map bg
 | []=>rfl
 | x :: xs=>by rw [Ai,j7 xs,List.map_cons]
theorem bI (x:Ex):bg x=[.v (.int .i64 x.kind), .v (.string x.label), .aC 3 (x.kids.map bg) x.kids.length]:=by
 obtain ⟨k,s,l⟩:=x;rw [bg,j7];rfl
def bM (p:bQ):List AV:=[.v (.string p.aR), .v (.string p.to), .v (.bool p.path), .v (.string p.label), .v (.string p.name), .v (.int .i64 p.expr.kind), .v (.string p.expr.label), .aC 3 (p.expr.kids.map bg) p.expr.kids.length]
def cd (q:fg):List AV:=[.aC 8 (q.aj.map bM) q.aj.length, .aC 13 (q.conds.map aH) q.conds.length, .aC 6 (q.ret.map cz) q.ret.length, .v (.int .i64 q.range), .v (.int .i64 q.kz)]
def aK (l:List ByteArray):AV:= .aC 1 (l.map encS) l.length
def LU (l:List Int):AV:= .aC 1 (l.map encI) l.length
theorem aA (n:Nat) (l:List ByteArray):dA n (l.map encS)=true:=bE _ (fun _=>rfl) l
theorem I2 (n:Nat) (l:List Int):dA n (l.map encI)=true:=bE _ (fun _=>rfl) l
theorem mN (n:Nat) (l:List dM):dA n (l.map cz)=true:=bE _ (fun _=>rfl) l
theorem jM (n:Nat) (l:List ff):dA n (l.map aH)=true:=bE _ (fun _=>rfl) l
theorem kE (n:Nat) (x:Ex):bn n (bg x)=true:=by
 induction x using Ex.ind with
 | h k s l ih=>
  rw [bg,j7];simp only [bn,AV.wf,SA,Bool.true_and];exact vd (fun r hr=>by obtain ⟨x,hx,rfl⟩:=List.mem_map.1 hr;exact ih x hx)
theorem dL (n:Nat) (l:List Ex):dA n (l.map bg)=true:=bE _ (kE n) l
theorem mO (n:Nat) (p:bQ):bn n (bM p)=true:=by simp only [bM,bn,AV.wf,dL,SA]
theorem AW (n:Nat) (l:List bQ):dA n (l.map bM)=true:=bE _ (mO n) l
theorem vg (n:Nat) (q:fg):bn n (cd q)=true:=by simp only [cd,bn,AV.wf,AW,jM,mN,SA]
attribute [go_sem] aK LU encS encI cz Ov aH bM cd aA I2 mN jM kE dL mO AW vg
@[go_sem] theorem getD_map {α β:Type} (f:α->β) (l:List α) (k:Nat) (d:β) (h:k<l.length):(l.map f).getD k d=f l[k]:=by
 simp [List.getD,h]
section
variable {D:Nat->Prop} {nu:Nat->Nat->Value} {o:List (Option aa)} {w:World} {P:Program}
theorem pD {b:Nat}: ∀ {cs:List Value} {off:Nat},(∀(j:Nat) v,cs[j]? = some v->w.cell? ⟨b,off+j,none⟩=some v)->cY w b off cs
 | [],_,_=>trivial
 | y :: cs,off,h=>⟨by simpa using h 0 y rfl,pD (off:=off+1) (fun j v hj=>by rw [show off+1+j=off+(j+1) by omega];exact h (j+1) v (by simpa using hj))⟩
def Gm (D:Nat->Prop) (nu:Nat->Nat->Value) (o:List (Option aa)) (w:World) (cs:List AV) (xs:List Value):Prop:=cs.length=xs.length∧ ∀(j:Nat) c x,cs[j]? = some c->xs[j]? = some x->RA D nu o w c x
theorem RA.zu {α:Type} {z:Nat} {enc:α->List AV} {rd:α->List Value->Prop} {xs:List α} {v:Value} (h:RA D nu o w (.aC z (xs.map enc) xs.length) v) (hrd: ∀x,x∈xs-> ∀cs:List Value,Gm D nu o w (enc x) cs->rd x cs):ej w z rd xs v:=by
 generalize hn:xs.length=n at h;generalize hr:xs.map enc=rows at h
 cases h with
 | bf=>
  exact .inl ⟨.inl rfl,SB.1 hn⟩
 | bC _ a=>
  exact .inl ⟨.inr ⟨a,rfl⟩,SB.1 hn⟩
 | aC _ _ _ b off cap f h1 h2 h3 h4 h5 h6 h7 h8=>
  subst hr;simp only [List.length_map] at h2;refine .inr ⟨b,off,cap,by rw [hn],h2,h3,fun i x hx=> ?_⟩
  have hi:(xs.map enc)[i]? = some (enc x):=by rw [Rs,hx];rfl
  refine ⟨(List.range (enc x).length).map (f i),hrd x (RK hx) _ ⟨by simp,fun j c y hc hy=> ?_⟩,pD (fun j y hy=> ?_)⟩
  ·have hj:=(Ra.1 hc).1;rw [Rs,List.getElem?_range hj] at hy;cases hy;exact h7 i j _ c hi hc
  ·rw [Rs] at hy
   have hj:j<(enc x).length:=by
    rcases Nat.lt_or_ge j (enc x).length with q|q
    ·exact q
    ·rw [Ru (by simpa using q)] at hy;cases hy
   rw [List.getElem?_range hj] at hy;cases hy;exact h6 i j _ _ hi (Rp hj)
theorem mH {vs cs:List Value} (h:Gm D nu o w (vs.map AV.v) cs):cs=vs:=by
 apply List.ext_getElem?
 intro i;have hl:=h.1;simp only [List.length_map] at hl
 rcases Nat.lt_or_ge i vs.length with q|q
 ·have e1:(vs.map AV.v)[i]? = some (.v vs[i]):=by simp [q]
  have e2:cs[i]? = some cs[i]:=Rp (by omega)
  have:=(h.2 i _ _ e1 e2).cj
  rw [e2,this,Rp q]
 ·rw [Ru q,Ru (by omega)]
theorem uP {l:List ByteArray} {v:Value} (h:RA D nu o w (aK l) v):gZ w l v:=RA.zu h (fun x _ cs hc=>mH (vs:=[.string x]) hc)
theorem uO {l:List dM} {v:Value} (h:RA D nu o w (.aC 6 (l.map cz) l.length) v):jj w l v:=RA.zu h (fun x _ cs hc=>mH (vs:=x.cells) hc)
theorem IF {l:List ff} {v:Value} (h:RA D nu o w (.aC 13 (l.map aH) l.length) v):ly w l v:=RA.zu h (fun x _ cs hc=>mH (vs:=x.cells) hc)
theorem qP: ∀(x:Ex) (cs:List Value),Gm D nu o w (bg x) cs->cU w x cs:=by
 intro x
 induction x using Ex.ind with
 | h k s l ih=>
  intro cs h;rw [bg,j7] at h;obtain ⟨hl,hr⟩:=h
  match cs,hl with
  | [a,b,c],_=>
   have h0:=(hr 0 _ a rfl rfl).cj;have h1:=(hr 1 _ b rfl rfl).cj;have h2:=hr 2 _ c rfl rfl;rw [cU];exact ⟨c,by rw [h0,h1],cI.2 (RA.zu h2 (fun y hy cs' hc=>ih y hy cs' hc))⟩
theorem Kj {l:List Ex} {v:Value} (h:RA D nu o w (.aC 3 (l.map bg) l.length) v):dm w l v:=cI.2 (RA.zu h (fun y _ cs' hc=>qP y cs' hc))
theorem uX (p:bQ) (cs:List Value) (h:Gm D nu o w (bM p) cs):lp w p cs:=by
 obtain ⟨hl,hr⟩:=h
 match cs,hl with
 | [a,b,c,d,e,f,g,i],_=>
  have h0:=(hr 0 _ a rfl rfl).cj;have h1:=(hr 1 _ b rfl rfl).cj;have h2:=(hr 2 _ c rfl rfl).cj;have h3:=(hr 3 _ d rfl rfl).cj;have h4:=(hr 4 _ e rfl rfl).cj;have h5:=(hr 5 _ f rfl rfl).cj;have h6:=(hr 6 _ g rfl rfl).cj;have h7:=hr 7 _ i rfl rfl
  obtain ⟨k,s,l⟩: ∃k s l,p.expr = .mk k s l:=by rcases p.expr with ⟨k,s,l⟩;exact ⟨k,s,l,rfl⟩
  refine ⟨p.expr.kind,p.expr.label,p.expr.kids,i,by rcases p.expr with ⟨k,s,l⟩;rfl,Kj h7,by rw [h0,h1,h2,h3,h4,h5,h6]⟩
theorem IG {l:List bQ} {v:Value} (h:RA D nu o w (.aC 8 (l.map bM) l.length) v):jk w l v:=RA.zu h (fun x _ cs hc=>uX x cs hc)
theorem lS {cs:List AV} {v:Value} (h:RA D nu o w (.agg cs) v): ∃xs:List Value,v = .agg xs.toArray∧Gm D nu o w cs xs:=by
 cases h with
 | agg _ xs h1 h2 h3=>exact ⟨xs.toList,by simp,by simpa using h1,fun j c x q1 q2=>h2 j c x q1 (by simpa using q2)⟩
theorem IH {q:fg} {cs:List Value} (h:Gm D nu o w (cd q) cs):nQ w q cs:=by
 obtain ⟨hl,hr⟩:=h
 match cs,hl with
 | [a,b,c,d,e],_=>
  have h3:=(hr 3 _ d rfl rfl).cj;have h4:=(hr 4 _ e rfl rfl).cj;exact ⟨a,b,c,IG (hr 0 _ a rfl rfl),IF (hr 1 _ b rfl rfl),uO (hr 2 _ c rfl rfl),by rw [h3,h4]⟩
theorem FM {q:fg} {v:Value} (h:RA D nu o w (.agg (cd q)) v): ∃cx:List Value,v = .agg cx.toArray∧nQ w q cx:=by
 obtain ⟨xs,h1,h2⟩:=lS h;exact ⟨xs,h1,IH h2⟩
theorem RA.w8 {α:Type} {z:Nat} (hz:0<z) {enc:α->List AV} {rd:α->List Value->Prop} {xs:List α} {v:Value} (hD: ∀b off n c,v = .slice (some ⟨b,off,none⟩) n c->b<w.heap.size->D b) (h:ej w z rd xs v) (hlen: ∀x,(enc x).length=z)
  (hrd: ∀x,x∈xs-> ∀cs:List Value,rd x cs->Gm D nu [] w (enc x) cs∧ ∀y∈cs,y.oneCell'=true):RA D nu [] w (.aC z (xs.map enc) xs.length) v:=by
 rcases h with ⟨rfl|⟨a,rfl⟩,rfl⟩|⟨b,off,cap,rfl,h1,h2,h3⟩
 ·exact .bf z
 ·exact .bC z a
 ·have hex: ∀i:Nat, ∃cs:List Value, ∀x,xs[i]? = some x->rd x cs∧cY w b (off+i * z) cs:=fun i=>by
   cases hx:xs[i]? with
   | none=>exact ⟨[],fun x hx=>by cases hx⟩
   | some x=>
    obtain ⟨cs,q⟩:=h3 i x hx;exact ⟨cs,fun y hy=>by cases hy;exact q⟩
  let g:Nat->List Value:=fun i=>Classical.choose (hex i)
  have hg: ∀i x,xs[i]? = some x->rd x (g i)∧cY w b (off+i * z) (g i):=fun i x hx=>Classical.choose_spec (hex i) x hx
  have key: ∀(i j:Nat) row c,(xs.map enc)[i]? = some row->row[j]? = some c-> ∃y,(g i)[j]? = some y∧w.cell? ⟨b,off+i * z+j,none⟩=some y∧RA D nu [] w c y∧y.oneCell'=true:=by
   intro i j row c hi hj;rw [Rs] at hi
   cases hx:xs[i]? with
   | none=>rw [hx] at hi;cases hi
   | some x=>
    rw [hx] at hi;cases hi;obtain ⟨q1,q2⟩:=hg i x hx;obtain ⟨q3,q4⟩:=hrd x (RK hx) _ q1
    have hjl:j<(g i).length:=by rw [<-q3.1];exact (Ra.1 hj).1
    have e:=Rp hjl;exact ⟨_,e,dQ q2 j _ e,q3.2 j c _ hj e,q4 _ (RK e)⟩
  refine .aC z _ _ b off cap (fun i j=>(g i).getD j Go.undef) (by simp) (by simpa using h1) h2 (fun hne=> ?_) (fun i row hi=> ?_) (fun i j row c hi hj=> ?_) (fun i j row c hi hj=> ?_) (fun i j row c hi hj=> ?_)
  ·obtain ⟨x,xs',rfl⟩: ∃x xs',xs=x :: xs':=by
    cases xs with
    | nil=>exact absurd rfl hne
    | cons x xs'=>exact ⟨x,xs',rfl⟩
   obtain ⟨c,hc⟩: ∃c,(enc x)[0]? = some c:=⟨_,Rp (by rw [hlen x];exact hz)⟩;obtain ⟨y,_,q,_⟩:=key 0 0 (enc x) c (by simp) hc;have hlt:=fa q;exact ⟨hlt,ba _ _,hD _ _ _ _ rfl hlt⟩
  ·rw [Rs] at hi
   cases hx:xs[i]? with
   | none=>rw [hx] at hi;cases hi
   | some x=>rw [hx] at hi;cases hi;exact hlen x
  ·obtain ⟨y,q1,q2,_⟩:=key i j row c hi hj;rw [q2,getD_some q1]
  ·obtain ⟨y,q1,_,q3,_⟩:=key i j row c hi hj;rw [getD_some q1];exact q3
  ·obtain ⟨y,q1,_,_,q4⟩:=key i j row c hi hj;rw [getD_some q1];exact q4
theorem RA.mz (hD: ∀b,b<w.heap.size->D b) {α:Type} {z:Nat} (hz:0<z) {enc:α->List AV} {rd:α->List Value->Prop} {xs:List α} {v:Value} (h:ej w z rd xs v) (hlen: ∀x,(enc x).length=z)
  (hrd: ∀x,x∈xs-> ∀cs:List Value,rd x cs->Gm D nu [] w (enc x) cs∧ ∀y∈cs,y.oneCell'=true):RA D nu [] w (.aC z (xs.map enc) xs.length) v:=RA.w8 hz (fun b _ _ _ _ hb=>hD b hb) h hlen hrd
theorem kr (vs:List Value):Gm D nu o w (vs.map AV.v) vs:=⟨by simp,fun j c x h1 h2=>by
 rw [Rs,h2] at h1;cases h1;exact .v x⟩
theorem ko {α:Type} {z:Nat} {rd:α->List Value->Prop} {xs:List α} {v:Value} (h:ej w z rd xs v):v.oneCell'=true:=by
 rcases h with ⟨rfl|⟨a,rfl⟩,_⟩|⟨b,off,cap,rfl,_⟩<;>rfl
theorem F7 {l:List ByteArray} {v:Value} (hD: ∀b off n c,v = .slice (some ⟨b,off,none⟩) n c->D b) (h:gZ w l v):RA D nu [] w (aK l) v:=
 RA.w8 (by omega) (fun b off n c e _=>hD b off n c e) h (fun _=>rfl) (fun x _ cs hc=>by subst hc;exact ⟨kr [.string x],by simp [Value.oneCell']⟩)
theorem It (hD: ∀b,b<w.heap.size->D b) {l:List dM} {v:Value} (h:jj w l v):RA D nu [] w (.aC 6 (l.map cz) l.length) v:=
 RA.mz hD (by omega) h (fun _=>rfl) (fun x _ cs hc=>by subst hc;exact ⟨kr x.cells,by simp [dM.cells,Value.oneCell']⟩)
theorem Hb (hD: ∀b,b<w.heap.size->D b) {l:List ff} {v:Value} (h:ly w l v):RA D nu [] w (.aC 13 (l.map aH) l.length) v:=
 RA.mz hD (by omega) h (fun _=>rfl) (fun x _ cs hc=>by subst hc;exact ⟨kr x.cells,by simp [ff.cells,Value.oneCell']⟩)
theorem v7 (x:Ex):(bg x).length=3:=by rw [bI];rfl
theorem LN (hD: ∀b,b<w.heap.size->D b): ∀(x:Ex) (cs:List Value),cU w x cs->Gm D nu [] w (bg x) cs∧ ∀y∈cs,y.oneCell'=true:=by
 intro x
 induction x using Ex.ind with
 | h k s l ih=>
  intro cs h;rw [cU] at h;obtain ⟨sv,rfl,h⟩:=h;have h':=cI.1 h;have hs:=RA.mz (nu:=nu) hD (by omega:0<3) h' v7 (fun y hy cs hc=>ih y hy cs hc);have ho:=ko h';rw [bg,j7];refine ⟨⟨rfl,fun j c y h1 h2=> ?_⟩,by simp [Value.oneCell'] at ho ⊢; exact ho⟩
  match j,h1,h2 with
  | 0,h1,h2=>cases h1;cases h2;exact .v _
  | 1,h1,h2=>cases h1;cases h2;exact .v _
  | 2,h1,h2=>cases h1;cases h2;exact hs
  | j+3,h1,h2=>simp at h1
theorem JX (hD: ∀b,b<w.heap.size->D b) {l:List Ex} {v:Value} (h:dm w l v):RA D nu [] w (.aC 3 (l.map bg) l.length) v:=
 RA.mz hD (by omega) (cI.1 h) v7 (fun x _ cs hc=>LN hD x cs hc)
theorem IA (hD: ∀b,b<w.heap.size->D b) {l:List bQ} {v:Value} (h:jk w l v):RA D nu [] w (.aC 8 (l.map bM) l.length) v:=
 RA.mz hD (by omega) h (fun _=>rfl) (fun p _ cs hc=>by
  obtain ⟨k,s,l,sv,he,hx,rfl⟩:=hc;have hs:=JX (nu:=nu) hD hx;have ho:=ko (cI.1 hx)
  have e1:p.expr.kind=k:=by rw [he];rfl
  have e2:p.expr.label=s:=by rw [he];rfl
  have e3:p.expr.kids=l:=by rw [he];rfl
  unfold bM;rw [e1,e2,e3];refine ⟨⟨rfl,fun j c y h1 h2=> ?_⟩,by simp [Value.oneCell'] at ho ⊢; exact ho⟩
  match j,h1,h2 with
  | 0,h1,h2=>cases h1;cases h2;exact .v _
  | 1,h1,h2=>cases h1;cases h2;exact .v _
  | 2,h1,h2=>cases h1;cases h2;exact .v _
  | 3,h1,h2=>cases h1;cases h2;exact .v _
  | 4,h1,h2=>cases h1;cases h2;exact .v _
  | 5,h1,h2=>cases h1;cases h2;exact .v _
  | 6,h1,h2=>cases h1;cases h2;exact .v _
  | 7,h1,h2=>cases h1;cases h2;exact hs
  | j+8,h1,h2=>simp at h1)
theorem Ki (hD: ∀b,b<w.heap.size->D b) {q:fg} {cx:List Value} (h:nQ w q cx):RA D nu [] w (.agg (cd q)) (.agg cx.toArray):=by
 obtain ⟨v1,v2,v3,h1,h2,h3,rfl⟩:=h;have k1:=IA (nu:=nu) hD h1;have k2:=Hb (nu:=nu) hD h2;have k3:=It (nu:=nu) hD h3
 refine .agg _ _ rfl (fun j c y q1 q2=> ?_) (fun j y q2=> ?_)
 ·simp only [Rr] at q2
  match j,q1,q2 with
  | 0,q1,q2=>cases q1;cases q2;exact k1
  | 1,q1,q2=>cases q1;cases q2;exact k2
  | 2,q1,q2=>cases q1;cases q2;exact k3
  | 3,q1,q2=>cases q1;cases q2;exact .v _
  | 4,q1,q2=>cases q1;cases q2;exact .v _
  | j+5,q1,q2=>simp [cd] at q1
 ·simp only [Rr] at q2
  match j,q2 with
  | 0,q2=>cases q2;exact ko h1
  | 1,q2=>cases q2;exact ko h2
  | 2,q2=>cases q2;exact ko h3
  | 3,q2=>cases q2;rfl
  | 4,q2=>cases q2;rfl
  | j+5,q2=>simp at q2
theorem Hj {D:Nat->Prop} {nu:Nat->Nat->Value} {w:World} {v:Value} (hro:RO D nu [] w) {e:Ending} {w':World} (h:jW w v e w'):DG D nu [] w (fun r' o'=>r' = .v v∧o'=[]) e w':=by
 obtain ⟨rfl,hb⟩:=h;exact ⟨v,nu,[], .v v,rfl,aw hb,hro.below hb, .v v,rfl,rfl⟩
theorem ag.ki {f:FuncId} {args:List AV} {v:Value} (hc:dO P f=true) (ha:bn 0 args=true) (h: ∀D nu w vargs,fX D nu [] w args vargs->Calls P f vargs w (jW w v)):ag P f args (.v v):=
 ⟨⟨ha,rfl⟩,hc,fun D nu w vargs hro hra=>(h D nu w vargs hra).mono (fun e w' hr=>Hj hro hr)⟩
theorem ag.uz {f:FuncId} {args:List AV} {l:List ByteArray} (hc:dO P f=true) (ha:bn 0 args=true)
  (h: ∀D nu w vargs,fX D nu [] w args vargs->Calls P f vargs w (fun e w'=> ∃v,e = .returned v∧gZ w' l v∧Below w.heap.size w w'∧ ∀b off n c,v = .slice (some ⟨b,off,none⟩) n c->w.heap.size<=b)):ag P f args (aK l):=
 ⟨⟨ha,by simp only [aK,AV.wf,aA]⟩,hc,fun D nu w vargs hro hra=>(h D nu w vargs hra).mono (fun e w' hr=>by
  obtain ⟨v,rfl,h1,hb,h2⟩:=hr
  exact ⟨v,nu,[],aK l,rfl,aw hb,hro.below hb,F7 (fun b off n c e=>hro.up b (h2 b off n c e)) h1,rfl,rfl⟩)⟩
theorem ag.args {f:FuncId} {args args':List AV} {r:AV} (h:ag P f args r) (hw:bn 0 args'=true) (hl: ∀D nu w vargs,fX D nu [] w args' vargs->fX D nu [] w args vargs):ag P f args' r:=
 ⟨⟨hw,h.1.2⟩,h.2.1,fun D nu w vargs hro hra=>h.2.2 D nu w vargs hro (hl D nu w vargs hra)⟩
theorem dK {a:AV} {vargs:Array Value} (h:fX D nu o w [a] vargs): ∃x,vargs = #[x]∧RA D nu o w a x:=by
 obtain ⟨x,hx⟩:=List.length_eq_one_iff.1 (by simpa using h.len.symm:vargs.toList.length=1)
 have e:vargs = #[x]:=by apply Array.ext';simpa using hx
 subst e;exact ⟨x,rfl,h.at' 0 a x rfl rfl⟩
theorem mF {a b:AV} {vargs:Array Value} (h:fX D nu o w [a,b] vargs): ∃x y,vargs = #[x,y]∧RA D nu o w a x∧RA D nu o w b y:=by
 have hl:vargs.toList.length=2:=by simpa using h.len.symm
 match hv:vargs.toList,hl with
 | [x,y],_=>
  have e:vargs = #[x,y]:=by apply Array.ext';simpa using hv
  subst e;exact ⟨x,y,rfl,h.at' 0 a x rfl rfl,h.at' 1 b y rfl rfl⟩
end
end
section
open Go.RowKit Go.ChangeShapes Go.Deep
def xH (P:Program) (t:TypeId):Option (List (TypeId×Nat×Nat)):=match P.underlying t with
 | some (.struct fs)=>some (fs.toList.map fun f=>(f.type,f.offset,P.cellsOf f.type))
 | _=>none
section
variable {H:Type} {enc:TypeId×Value->H} {P:Program} {w:World}
def Td (enc:TypeId×Value->H) (P:Program) (w:World) (n:Nat) (t:TypeId) (cs:List Value):Prop:= ∃y,DataW.trod enc P w 0 (fun _=>true) true n t cs=some y∧ ∀k∈y.1.weights P t,k<=reachBytes
theorem oB {t:TypeId}: ∀ {l:List (DataW H)} {d:DataW H},d∈l-> ∀k∈d.weights P t,k∈DataW.weightsAll P t l
 | y :: l,d,hd,k,hk=>by
  rw [DataW.weightsAll,List.mem_append]
  rcases List.mem_cons.1 hd with rfl|hd
  ·exact .inl hk
  ·exact .inr (oB hd k hk)
theorem lV {n:Nat} {t:TypeId} {cs:List Value} (ht:P.underlying t=some (.int .i64)) (h:Td enc P w n t cs): ∃k,cs=[.int .i64 k]∧(Lit.int .i64 k).wf=true:=by
 obtain ⟨y,h,_⟩:=h;obtain ⟨k,rfl,_,hk⟩:=DataW.trod_int ht h;exact ⟨k,rfl,hk⟩
theorem IX {n:Nat} {t:TypeId} {cs:List Value} (ht:P.underlying t=some .bool) (h:Td enc P w n t cs): ∃k,cs=[.bool k]:=by
 obtain ⟨y,h,_⟩:=h;obtain ⟨k,rfl,_⟩:=DataW.trod_bool ht h;exact ⟨k,rfl⟩
theorem kA {n:Nat} {t:TypeId} {cs:List Value} (ht:P.underlying t=some .string) (h:Td enc P w n t cs): ∃s,cs=[.string s]∧x7 s:=by
 obtain ⟨y,h,hy⟩:=h;obtain ⟨s,rfl,rfl,hs⟩:=DataW.trod_string ht h;refine ⟨s,rfl, ?_⟩
 have:=hy s.data.toList.length (by rw [DataW.weights];exact List.mem_singleton.2 rfl)
 unfold reachBytes at this;unfold x7;have e:s.size=s.data.toList.length:=rfl;omega
theorem fW {n:Nat} {t:TypeId} {cs:List Value} {l:List (TypeId×Nat×Nat)} (hs:xH P t=some l) (h:Td enc P w n t cs) :
  ∃m,n=m+1∧cs.length=P.cellsOf t∧ ∀(i:Nat) T off sz,l[i]? = some (T,off,sz)->Td enc P w m T ((cs.drop off).take sz):=by
 obtain ⟨y,h,hy⟩:=h;unfold xH at hs
 split at hs
 ·rename_i fs ht;cases hs;obtain ⟨xs,m,rfl,rfl,h1,h2,h3⟩:=DataW.trod_struct ht h;refine ⟨m,rfl,h1,fun i T off sz hi=> ?_⟩;rw [List.getElem?_map] at hi
  cases hf:fs[i]? with
  | none=>simp [hf] at hi
  | some f=>
   simp [hf] at hi;obtain ⟨rfl,rfl,rfl⟩:=hi
   have:=h3 i f hf
   have hlt:i<xs.length:=by rw [h2];exact (Array.getElem?_eq_some_iff.1 hf).1
   rw [Rp hlt] at this;refine ⟨_,this,fun k hk=>hy k ?_⟩;simp only [DataW.weights,ht];exact DataW.weights_mem_each (j:=i) (t:=f.type) (d:=xs[i].1) (by simp [hf]) (by simp [hlt]) k hk
 ·cases hs
theorem u9 {α:Type} [Inhabited α] {n:Nat} {t e:TypeId} {z:Nat} {v:Value} {rd:α->List Value->Prop} {okx:α->Prop} (ht:P.underlying t=some (.slice e)) (hz:P.cellsOf e=z) (hz0:0<z) (hby:0<P.bytesOf e)
  (h:Td enc P w n t [v]) (hrd: ∀m cs,n=m+1->Td enc P w m e cs-> ∃x,rd x cs∧okx x): ∃xs:List α,ej w z rd xs v∧(∀x,x∈xs->okx x)∧xs.length<=140737488355328:=by
 obtain ⟨y,h,hy⟩:=h
 rcases DataW.trod_slice ht h with ⟨h0,_⟩|⟨a,len,cap,elems,rest,m,rfl,h0,rfl,hb,hl,hm,hlen,hel,hsp,_⟩
 ·cases h0;exact ⟨[], .inl ⟨.inl rfl,rfl⟩,fun x hx=>(by cases hx),by simp⟩
 ·cases h0;rw [hz] at hel hsp;obtain ⟨hrl,hre⟩:=hsp rfl;have hw:=hy ((elems.length+rest.length) * P.bytesOf e) (by simp [DataW.weights,ht])
  have hln:len<=140737488355328:=by
   unfold reachBytes at hw
   have:elems.length+rest.length<=(elems.length+rest.length) * P.bytesOf e:=Nat.le_mul_of_pos_right _ hby
   omega
  by_cases hc:cap=0
  ·subst hc
   obtain rfl:len=0:=by omega
   exact ⟨[], .inl ⟨.inr ⟨a,rfl⟩,rfl⟩,fun x hx=>(by cases hx),by simp⟩
  ·have hspot:a.spot=none:=by
    have k: ∃u,((w.cells? 0 (a.add (0 * z)) z).bind (DataW.trod enc P w 0 (fun _=>true) true m e))=some u:=by
     rcases Nat.eq_zero_or_pos len with q|q
     ·subst q
      have:=hre 0 (by omega)
      rw [Rp (by omega)] at this;exact ⟨_,this⟩
     ·have:=hel 0 q
      rw [Rp (by omega)] at this;exact ⟨_,this⟩
    obtain ⟨u,hu⟩:=k;obtain ⟨cs,h1,_⟩:=SC.1 hu;obtain ⟨_,h2,h3⟩:=World.cells?_some h1;have h4:=h3 0 hz0;rw [Rp (by omega)] at h4
    have:=World.cell?_spot h4
    simpa [Addr.add] using this
   obtain ⟨b,o,sp⟩:=a;cases hspot
   have hx: ∀i,i<len-> ∃x:α,okx x∧ ∃cs,rd x cs∧cY w b (o+i * z) cs:=fun i hi=>by
    have h1:=hel i hi;rw [Rp (by omega)] at h1;obtain ⟨cs,h2,h3⟩:=SC.1 h1
    obtain ⟨x,q1,q2⟩:=hrd m cs rfl ⟨_,h3,fun k hk=>hy k (by
     simp only [DataW.weights,ht]
     refine Sb _ (List.mem_append_left _ (oB (List.mem_map_of_mem (List.getElem_mem (l:=elems) (n:=i) (by omega))) k hk)))⟩
    obtain ⟨_,h4,h5⟩:=World.cells?_some h2;refine ⟨x,q2,cs,q1, ?_⟩
    have key: ∀(l:List Value) (off:Nat),(∀(j:Nat) v,l[j]? = some v->w.cell? ⟨b,off+j,none⟩=some v)->cY w b off l:=by
     intro l
     induction l with
     | nil=>exact fun _ _=>trivial
     | cons y l ih=>exact fun off h=>⟨by simpa using h 0 y rfl,ih (off+1) (fun j v hj=>by rw [show off+1+j=off+(j+1) by omega];exact h (j+1) v (by simpa using hj))⟩
    refine key cs _ (fun j v hj=> ?_);have hjl:=(List.getElem?_eq_some_iff.1 hj).1;have h6:=h5 j (by omega);rw [hj,Addr.add_lit,Addr.add_lit] at h6;exact h6
   obtain ⟨f,hf⟩:=choose_lt hx
   refine ⟨(List.range len).map f, .inr ⟨b,o,cap,by simp,by simpa using hl,hm,fun i x hi=> ?_⟩,fun x hx=> ?_,by simp;omega⟩
   ·rw [List.getElem?_map] at hi
    have hil:i<len:=by
     rcases Nat.lt_or_ge i len with q|q
     ·exact q
     ·rw [List.getElem?_eq_none (by simpa using q)] at hi;cases hi
    rw [List.getElem?_range hil] at hi;cases hi;exact (hf i hil).2
   ·obtain ⟨i,hi,rfl⟩:=List.mem_map.1 hx;exact (hf i (List.mem_range.1 hi)).1
end
section
variable {H:Type} {enc:TypeId×Value->H} {w:World}
instance:Inhabited Ex:=⟨.mk 0 ⟨#[]⟩ []⟩
instance:Inhabited dM:=⟨⟨0,⟨#[]⟩,⟨#[]⟩,⟨0,0,⟨#[]⟩⟩⟩⟩
instance:Inhabited ff:=⟨⟨0,default,default⟩⟩
instance:Inhabited bQ:=⟨⟨⟨#[]⟩,⟨#[]⟩,false,⟨#[]⟩,⟨#[]⟩,default⟩⟩
theorem KG:Tryz.prog.underlying 3=some (.int .i64):=by kernel_rfl
theorem xN:Tryz.prog.underlying 9=some .string:=by kernel_rfl
theorem MV:Tryz.prog.underlying 4=some .bool:=by kernel_rfl
theorem QQ:Tryz.prog.underlying 61=some (.int .i64):=by kernel_rfl
theorem QP:Tryz.prog.underlying 60=some (.int .i64):=by kernel_rfl
theorem QN:Tryz.prog.underlying 59=some (.int .i64):=by kernel_rfl
theorem QO:Tryz.prog.underlying 35=some (.int .i64):=by kernel_rfl
theorem OK:xH Tryz.prog 63=some [(61,0,1),(3,1,1),(9,2,1)]:=by kernel_rfl
theorem Oq:Tryz.prog.cellsOf 63=3:=by kernel_rfl
theorem OI:xH Tryz.prog 65=some [(60,0,1),(9,1,1),(9,2,1),(63,3,3)]:=by kernel_rfl
theorem Lv:Tryz.prog.cellsOf 65=6:=by kernel_rfl
theorem OH:xH Tryz.prog 67=some [(59,0,1),(65,1,6),(65,7,6)]:=by kernel_rfl
theorem Lu:Tryz.prog.cellsOf 67=13:=by kernel_rfl
theorem QK:xH Tryz.prog 38=some [(35,0,1),(9,1,1),(36,2,1)]:=by kernel_rfl
theorem PT:Tryz.prog.cellsOf 38=3:=by kernel_rfl
theorem OJ:xH Tryz.prog 40=some [(9,0,1),(9,1,1),(4,2,1),(9,3,1),(9,4,1),(38,5,3)]:=by kernel_rfl
theorem Lw:Tryz.prog.cellsOf 40=8:=by kernel_rfl
theorem L8:xH Tryz.prog 26=some [(22,0,1),(23,1,1),(24,2,1),(3,3,1),(3,4,1)]:=by kernel_rfl
theorem Lx:Tryz.prog.cellsOf 26=5:=by kernel_rfl
theorem Px:Tryz.prog.underlying 36=some (.slice 38):=by kernel_rfl
theorem MY:Tryz.prog.underlying 22=some (.slice 40):=by kernel_rfl
theorem MW:Tryz.prog.underlying 23=some (.slice 67):=by kernel_rfl
theorem MX:Tryz.prog.underlying 24=some (.slice 65):=by kernel_rfl
theorem Qy:0<Tryz.prog.bytesOf 38:=of_decide_eq_true (by kernel_rfl)
theorem Oo:0<Tryz.prog.bytesOf 40:=of_decide_eq_true (by kernel_rfl)
theorem Om:0<Tryz.prog.bytesOf 67:=of_decide_eq_true (by kernel_rfl)
theorem On:0<Tryz.prog.bytesOf 65:=of_decide_eq_true (by kernel_rfl)
theorem KC {n:Nat} {cs:List Value} (h:Td enc Tryz.prog w n 63 cs): ∃x:pe,cs=x.cells∧x.ok:=by
 obtain ⟨m,_,hl,hf⟩:=fW OK h;rw [Oq] at hl
 match cs,hl with
 | [a,b,c],_=>
  obtain ⟨k,e0,_⟩:=lV QQ (hf 0 _ _ _ rfl);obtain ⟨l,e1,_⟩:=lV KG (hf 1 _ _ _ rfl);obtain ⟨s,e2,hs⟩:=kA xN (hf 2 _ _ _ rfl);cases e0;cases e1;cases e2;exact ⟨⟨k,l,s⟩,rfl,hs⟩
theorem zK {n:Nat} {cs:List Value} (h:Td enc Tryz.prog w n 65 cs): ∃x:dM,cs=x.cells∧x.ok:=by
 obtain ⟨m,_,hl,hf⟩:=fW OI h;rw [Lv] at hl
 match cs,hl with
 | [a,b,c,d,e,f],_=>
  obtain ⟨k,e0,_⟩:=lV QP (hf 0 _ _ _ rfl);obtain ⟨l,e1,h1⟩:=kA xN (hf 1 _ _ _ rfl);obtain ⟨s,e2,h2⟩:=kA xN (hf 2 _ _ _ rfl);obtain ⟨⟨v1,v2,v3⟩,e3,h3⟩:=KC (hf 3 _ _ _ rfl);cases e0;cases e1;cases e2;cases e3;exact ⟨⟨k,l,s,v1,v2,v3⟩,rfl,h1,h2,h3⟩
theorem Kz {n:Nat} {cs:List Value} (h:Td enc Tryz.prog w n 67 cs): ∃x:ff,cs=x.cells∧x.ok:=by
 obtain ⟨m,_,hl,hf⟩:=fW OH h;rw [Lu] at hl
 match cs,hl with
 | [a,b,c,d,e,f,g,b',c',d',e',f',g'],_=>
  obtain ⟨k,e0,_⟩:=lV QN (hf 0 _ _ _ rfl);obtain ⟨⟨l1,l2,l3,l4,l5,l6⟩,e1,h1⟩:=zK (hf 1 _ _ _ rfl);obtain ⟨⟨r1,r2,r3,r4,r5,r6⟩,e2,h2⟩:=zK (hf 2 _ _ _ rfl)
  obtain rfl:a=_:=by simpa using e0
  simp only [List.drop_succ_cons,List.drop_zero,List.take_succ_cons,List.take_zero,dM.cells,List.cons.injEq,and_true] at e1 e2;obtain ⟨rfl,rfl,rfl,rfl,rfl,rfl⟩:=e1;obtain ⟨rfl,rfl,rfl,rfl,rfl,rfl⟩:=e2;exact ⟨⟨k,⟨l1,l2,l3,l4,l5,l6⟩,⟨r1,r2,r3,r4,r5,r6⟩⟩,rfl,h1,h2⟩
theorem MT: ∀(n:Nat) {cs:List Value},Td enc Tryz.prog w n 38 cs-> ∃x:Ex,cU w x cs∧x.ok:=by
 intro n
 induction n using Nat.strongRecOn with
 | _ n ih=>
  intro cs h;obtain ⟨m,rfl,hl,hf⟩:=fW QK h;rw [PT] at hl
  obtain ⟨a,b,c,rfl⟩: ∃a b c,cs=[a,b,c]:=by
   rcases cs with _|⟨a,_|⟨b,_|⟨c,_|⟨d,cs⟩⟩⟩⟩
   ·cases hl
   ·cases hl
   ·cases hl
   ·exact ⟨a,b,c,rfl⟩
   ·simp at hl
  obtain ⟨k,e0,_⟩:=lV QO (hf 0 _ _ _ rfl);obtain ⟨s,e1,h1⟩:=kA xN (hf 1 _ _ _ rfl);obtain ⟨xs,h2,h3,_⟩:=u9 Px PT (by omega) Qy (hf 2 _ _ _ rfl) (rd:=cU w) (okx:=Ex.ok) (fun m' cs' hm hx=>ih m' (by omega) hx);cases e0;cases e1;exact ⟨.mk k s xs,by rw [cU];exact ⟨_,rfl,cI.2 h2⟩,by rw [Ex.ok];exact ⟨h1,np.2 h3⟩⟩
theorem KA {n:Nat} {cs:List Value} (h:Td enc Tryz.prog w n 40 cs): ∃x:bQ,lp w x cs∧x.ok:=by
 obtain ⟨m,_,hl,hf⟩:=fW OJ h;rw [Lw] at hl
 match cs,hl with
 | [a,b,c,d,e,f,g,i],_=>
  obtain ⟨s0,e0,h0⟩:=kA xN (hf 0 _ _ _ rfl);obtain ⟨s1,e1,h1⟩:=kA xN (hf 1 _ _ _ rfl);obtain ⟨b2,e2⟩:=IX MV (hf 2 _ _ _ rfl);obtain ⟨s3,e3,h3⟩:=kA xN (hf 3 _ _ _ rfl);obtain ⟨s4,e4,h4⟩:=kA xN (hf 4 _ _ _ rfl);obtain ⟨⟨k,s,l⟩,h5,h6⟩:=MT m (hf 5 _ _ _ rfl);rw [cU] at h5;obtain ⟨sv,e5,h5⟩:=h5;cases e0;cases e1;cases e2;cases e3;cases e4;cases e5;exact ⟨⟨s0,s1,b2,s3,s4, .mk k s l⟩,⟨k,s,l,_,rfl,h5,rfl⟩,h0,h1,h3,h4,h6⟩
theorem KB {n:Nat} {cs:List Value} (h:Td enc Tryz.prog w n 26 cs): ∃q:fg,nQ w q cs∧q.small∧q.ok:=by
 obtain ⟨m,_,hl,hf⟩:=fW L8 h;rw [Lx] at hl
 match cs,hl with
 | [a,b,c,d,e],_=>
  obtain ⟨ps,h0,o0,l0⟩:=u9 MY Lw (by omega) Oo (hf 0 _ _ _ rfl) (rd:=lp w) (okx:=bQ.ok) (fun m' cs' hm hx=>KA hx);obtain ⟨qs,h1,o1,l1⟩:=u9 MW Lu (by omega) Om (hf 1 _ _ _ rfl) (rd:=Jb) (okx:=ff.ok) (fun m' cs' hm hx=>Kz hx);obtain ⟨rs,h2,o2,l2⟩:=u9 MX Lv (by omega) On (hf 2 _ _ _ rfl) (rd:=Jc) (okx:=dM.ok) (fun m' cs' hm hx=>zK hx);obtain ⟨k,e3,_⟩:=lV KG (hf 3 _ _ _ rfl);obtain ⟨l,e4,_⟩:=lV KG (hf 4 _ _ _ rfl);cases e3;cases e4;exact ⟨⟨ps,qs,rs,k,l⟩,⟨a,b,c,h0,h1,h2,rfl⟩,⟨l0,l1,l2⟩,o0,o1,o2⟩
theorem Ge {v:Value} {d:DataW H} {ps:List MemPlace} (h:DataW.Trod enc Tryz.prog w 0 (fun _=>true) true 26 v d ps) (hw: ∀k∈d.weights Tryz.prog 26,k<=reachBytes) :
  ∃(q:fg) (cx:List Value),v = .agg cx.toArray∧nQ w q cx∧q.small∧q.ok:=by
 obtain ⟨n,h⟩:=h;have ht:Td enc Tryz.prog w n 26 v.cells.toList:=⟨_,h,hw⟩;obtain ⟨m,_,hl,_⟩:=fW L8 ht;rw [Lx] at hl;obtain ⟨q,h1,h2,h3⟩:=KB ht
 cases v with
 | agg cs=>exact ⟨q,cs.toList,by simp,h1,h2,h3⟩
 | _=>simp [Value.cells] at hl
end
open Go.ChangeShapes Go.WideShapes Go.ChangeAt Go.RowKit
theorem ag.KD {P:Program} {f:FuncId} {args:List AV} {v:Value} (h:ag P f args (.v v)) {w:World} {vargs:Array Value} (hr:fX (fun _=>True) (fun _ _=>Go.undef) [] w args vargs) (hG:ei (fun _=>True) (fun _ _=>Go.undef) [] w:=by exact fun g T cs hg=>by cases hg) :
  Calls P f vargs w (jW w v):=by
 refine (h.2.2 _ _ w vargs (RO.nil _ _ _ (fun _ _=>trivial) hG) hr).mono fun e w' hf=> ?_;obtain ⟨x,nu',o',r,rfl,hm,_,hx,rfl,rfl⟩:=hf;have e1:=hx.cj;subst e1;exact ⟨rfl,hm.os,hm.tape,hm.output,hm.size,fun b hb=>(hm.keep b hb (ba _ _)).1⟩
section
variable {H:Type} {enc:TypeId×Value->H} {w:World}
end
open Go.ChangeShapes Go.WideShapes Go.ChangeAt Go.RowKit
section
variable {H:Type} {enc:TypeId×Value->H} {w:World}
end
inductive rT (L:List ByteArray->Prop):List ByteArray->Prop
 | nil:rT L []
 | cons (u v:List ByteArray):u≠[]->L u->rT L v->rT L (u++v)
mutual
def Lg:Ex->List ByteArray->Prop
 | .mk k s l,w=>if k=1 then w=[s] else if k=2 then I8 l w else if k=3 then I7 l w else if k=4 then rT (GB l) w
  else if k=5 then ∃u v,w=u++v∧GB l u∧rT (GB l) v else if k=6 then w=[]∨GB l w else False
def I8:List Ex->List ByteArray->Prop
 | [],w=>w=[]
 | x :: xs,w=> ∃u v,w=u++v∧Lg x u∧I8 xs v
def I7:List Ex->List ByteArray->Prop
 | [],_=>False
 | x :: xs,w=>Lg x w∨I7 xs w
def GB:List Ex->List ByteArray->Prop
 | [],_=>False
 | x :: _,w=>Lg x w
end
mutual
def cg:Ex->Bool
 | .mk k _ l=>if k=4 then true else if k=6 then true else if k=3 then oS l else if k=2 then eO l else if k=5 then eO l else false
def oS:List Ex->Bool
 | []=>false
 | x :: xs=>cg x||oS xs
def eO:List Ex->Bool
 | []=>true
 | x :: xs=>cg x&&eO xs
end
theorem pP: ∀l:List Ex,oS l=l.any cg
 | []=>rfl
 | x :: xs=>by rw [oS,pP xs];rfl
theorem pO: ∀l:List Ex,eO l=l.all cg
 | []=>rfl
 | x :: xs=>by rw [eO,pO xs];rfl
inductive Fit:Ex->Prop
 | lab (s:ByteArray):Fit (.mk 1 s [])
 | many (k:Int) (s:ByteArray) (l:List Ex):(k=2∨k=3)->1<l.length->(∀x∈l,Fit x)->Fit (.mk k s l)
 | one (k:Int) (s:ByteArray) (x:Ex):(k=4∨k=5∨k=6)->Fit x->Fit (.mk k s [x])
def QA (w:List ByteArray) (i j:Nat):List ByteArray:=(w.drop i).take (j - i)
def Tk (L:List ByteArray->Prop) (w:List ByteArray) (i j:Nat):Prop:=i<=j∧j<=w.length∧L (QA w i j)
mutual
def cB:Ex->List ByteArray
 | .mk k s l=>if k=1 then [s] else bp l
def bp:List Ex->List ByteArray
 | []=>[]
 | x :: xs=>cB x++bp xs
end
mutual
def Be:Ex->Nat->Nat->Prop
 | .mk k _ l,b,p=>if k=1 then p=b+1 else if k=2 then pb l b p else lY l b p
def pb:List Ex->Nat->Nat->Prop
 | [],_,_=>False
 | x :: xs,b,p=>Be x b p∨(cg x=true∧pb xs (b+(cB x).length) p)
def lY:List Ex->Nat->Nat->Prop
 | [],_,_=>False
 | x :: xs,b,p=>Be x b p∨lY xs (b+(cB x).length) p
end
mutual
def Bf:Ex->Nat->Nat->Prop
 | .mk k _ l,b,p=>if k=1 then p=b+1 else if k=2 then yi l b p else lZ l b p
def yi:List Ex->Nat->Nat->Prop
 | [],_,_=>False
 | x :: xs,b,p=>(eO xs=true∧Bf x b p)∨yi xs (b+(cB x).length) p
def lZ:List Ex->Nat->Nat->Prop
 | [],_,_=>False
 | x :: xs,b,p=>Bf x b p∨lZ xs (b+(cB x).length) p
end
mutual
def Dp:Ex->Nat->Nat->Nat->Prop
 | .mk k _ l,b,p,q=>if k=1 then False else if k=2 then yg l b p q else yf l b p q∨((k=4∨k=5)∧lZ l b p∧lY l b q)
def yg:List Ex->Nat->Nat->Nat->Prop
 | [],_,_,_=>False
 | x :: xs,b,p,q=>Dp x b p q∨yg xs (b+(cB x).length) p q∨(Bf x b p∧pb xs (b+(cB x).length) q)
def yf:List Ex->Nat->Nat->Nat->Prop
 | [],_,_,_=>False
 | x :: xs,b,p,q=>Dp x b p q∨yf xs (b+(cB x).length) p q
end
theorem yh: ∀ {l:List Ex} {b p:Nat},pb l b p->lY l b p
 | [],_,_,h=>h
 | x :: xs,b,p,h=>by
  rw [pb] at h;rw [lY];exact h.imp id (fun h=>yh h.2)
theorem yj: ∀ {l:List Ex} {b p:Nat},yi l b p->lZ l b p
 | [],_,_,h=>h
 | x :: xs,b,p,h=>by
  rw [yi] at h;rw [lZ];exact h.imp (fun h=>h.2) yj
theorem fY {k:Int} (h:k≠1) (s:ByteArray) (l:List Ex):cB (.mk k s l)=bp l:=by rw [cB,if_neg h]
theorem rQ (x:Ex): ∀ {b p:Nat},Be x b p->b<p∧p<=b+(cB x).length:=by
 induction x using Ex.ind with
 | h k s l ih=>
  intro b p h
  have key: ∀(m:List Ex),(∀x∈m,x∈l)-> ∀ {b p:Nat},lY m b p->b<p∧p<=b+(bp m).length:=by
   intro m
   induction m with
   | nil=>intro _ b p h;exact h.elim
   | cons x xs ihm=>
    intro hm b p h;rw [lY] at h;rw [bp,Rf]
    rcases h with h|h
    ·have:=ih x (hm x Sd) h;omega
    ·have:=ihm (fun y hy=>hm y (Sb _ hy)) h;omega
  rw [Be] at h
  by_cases h1:k=1
  ·rw [if_pos h1] at h;rw [cB,if_pos h1];simp;omega
  ·rw [if_neg h1] at h;rw [fY h1]
   split at h
   ·exact key l (fun _ h=>h) (yh h)
   ·exact key l (fun _ h=>h) h
theorem lx: ∀ {l:List Ex} {b p:Nat},lY l b p->b<p∧p<=b+(bp l).length
 | [],b,p,h=>h.elim
 | x :: xs,b,p,h=>by
  rw [lY] at h;rw [bp,Rf]
  rcases h with h|h
  ·have:=rQ x h;omega
  ·have:=lx h;omega
theorem kG (x:Ex): ∀ {b p:Nat},Bf x b p->b<p∧p<=b+(cB x).length:=by
 induction x using Ex.ind with
 | h k s l ih=>
  intro b p h
  have key: ∀(m:List Ex),(∀x∈m,x∈l)-> ∀ {b p:Nat},lZ m b p->b<p∧p<=b+(bp m).length:=by
   intro m
   induction m with
   | nil=>intro _ b p h;exact h.elim
   | cons x xs ihm=>
    intro hm b p h;rw [lZ] at h;rw [bp,Rf]
    rcases h with h|h
    ·have:=ih x (hm x Sd) h;omega
    ·have:=ihm (fun y hy=>hm y (Sb _ hy)) h;omega
  rw [Bf] at h
  by_cases h1:k=1
  ·rw [if_pos h1] at h;rw [cB,if_pos h1];simp;omega
  ·rw [if_neg h1] at h;rw [fY h1]
   split at h
   ·exact key l (fun _ h=>h) (yj h)
   ·exact key l (fun _ h=>h) h
theorem gY: ∀ {l:List Ex} {b p:Nat},lZ l b p->b<p∧p<=b+(bp l).length
 | [],b,p,h=>h.elim
 | x :: xs,b,p,h=>by
  rw [lZ] at h;rw [bp,Rf]
  rcases h with h|h
  ·have:=kG x h;omega
  ·have:=gY h;omega
theorem Bd (x:Ex): ∀ {b p q:Nat},Dp x b p q->(b<p∧p<=b+(cB x).length)∧b<q∧q<=b+(cB x).length:=by
 induction x using Ex.ind with
 | h k s l ih=>
  intro b p q h
  have key: ∀(m:List Ex),(∀x∈m,x∈l)-> ∀ {b p q:Nat},yf m b p q->(b<p∧p<=b+(bp m).length)∧b<q∧q<=b+(bp m).length:=by
   intro m
   induction m with
   | nil=>intro _ b p q h;exact h.elim
   | cons x xs ihm=>
    intro hm b p q h;rw [yf] at h;rw [bp,Rf]
    rcases h with h|h
    ·have:=ih x (hm x Sd) h;omega
    ·have:=ihm (fun y hy=>hm y (Sb _ hy)) h;omega
  have keyS: ∀(m:List Ex),(∀x∈m,x∈l)-> ∀ {b p q:Nat},yg m b p q->(b<p∧p<=b+(bp m).length)∧b<q∧q<=b+(bp m).length:=by
   intro m
   induction m with
   | nil=>intro _ b p q h;exact h.elim
   | cons x xs ihm=>
    intro hm b p q h;rw [yg] at h;rw [bp,Rf]
    rcases h with h|h|⟨h,h'⟩
    ·have:=ih x (hm x Sd) h;omega
    ·have:=ihm (fun y hy=>hm y (Sb _ hy)) h;omega
    ·have:=kG x h;have:=lx (yh h');omega
  rw [Dp] at h
  by_cases h1:k=1
  ·rw [if_pos h1] at h;exact h.elim
  ·rw [if_neg h1] at h;rw [fY h1]
   split at h
   ·exact keyS l (fun _ h=>h) h
   ·rcases h with h|⟨_,h,h'⟩
    ·exact key l (fun _ h=>h) h
    ·exact ⟨gY h,lx h'⟩
def I5 (F:Nat->Nat->Prop) (g:Nat->ByteArray):Nat->List ByteArray->Nat->Prop
 | p,[],q=>p=q
 | p,a :: w,q=> ∃r,F p r∧g r=a∧I5 F g r w q
def Og (I:Nat->Prop) (F:Nat->Nat->Prop) (T:Nat->Prop) (g:Nat->ByteArray):List ByteArray->Prop
 | []=>False
 | a :: w=> ∃p q,I p∧g p=a∧I5 F g p w q∧T q
def PQ (ls:List ByteArray) (b:Nat) (g:Nat->ByteArray):Prop:= ∀(i:Nat) s,ls[i]? = some s->g (b+1+i)=s
end
section
open Go.RowKit Go.Shelf
theorem uY {F:Fence} (hd:F.depth=none) (k:Nat):F.room k:=fun d h=>by rw [hd] at h;cases h
theorem nJ {F:Fence} (hd:F.depth=none) {m m':Nat} {P:Program} {l:Nat} {f:FuncId} {tmps:Array Value} {assign body:Code} {w:World} {R:Ending->World->Prop}
  (h:RoundIn F m P l f tmps assign body w R):RoundIn F m' P l f tmps assign body w R:=⟨h.1,fun c cs _=>h.2 c cs (uY hd _)⟩
theorem nP {F:Fence} (hd:F.depth=none) {m:Nat} (m':Nat) {P:Program} {l:Nat} {args:Array Value} {W:World} {R:Ending->World->Prop} (h:YieldAt F m P l args W R):YieldAt F m' P l args W R:=by
 obtain ⟨fn,tmps,assign,body,hy,hR⟩:=h;exact ⟨fn,tmps,assign,body,hy,nJ hd hR⟩
def sy (lo hi:Nat) (e:TypeId) (k:Nat):Obj->Prop
 | .cells _ T _=>k<lo∨(hi<=k∧T≠e)
 | o=>o.isWalk=true∧(k<lo∨hi<=k)
structure Kept (lo hi:Nat) (e:TypeId) (W W':World):Prop where
 size:W.heap.size<=W'.heap.size
 same: ∀(k:Nat) (o:Obj),W.heap[k]? = some o->sy lo hi e k o->W'.heap[k]? = some o
theorem Kept.refl (lo hi:Nat) (e:TypeId) (W:World):Kept lo hi e W W:=⟨Nat.le_refl _,fun _ _ h _=>h⟩
theorem Kept.trans {lo hi:Nat} {e:TypeId} {A B C:World} (h:Kept lo hi e A B) (k:Kept lo hi e B C):Kept lo hi e A C:=
 ⟨Nat.le_trans h.size k.size,fun i o hx ho=>k.same i o (h.same i o hx ho) ho⟩
theorem Kept.below {lo hi:Nat} {e:TypeId} {W W':World} (h:Below W.heap.size W W'):Kept lo hi e W W':=
 ⟨h.size,fun k _ hk _=>(h.block k (Q8.1 hk).1).trans hk⟩
theorem Kept.alloc {lo hi:Nat} {e:TypeId} (W:World) (o:Obj):Kept lo hi e W (W.alloc o):= .below ((Below.refl _ _).alloc (Nat.le_refl _) o)
theorem Ch {lo hi:Nat} {e:TypeId} {k:Nat} {o:Obj} (h:sy lo hi e k o):k<lo∨hi<=k:=by
 cases o<;>simp only [sy] at h<;>omega
theorem Kept.setCell {lo hi:Nat} {e:TypeId} (W:World) {b o:Nat} (h1:lo<=b) (h2:b<hi) (v:Value):Kept lo hi e W (W.setCell ⟨b,o,none⟩ v):=
 ⟨by show _<=(W.heap.modify _ _).size;rw [Array.size_modify];exact Nat.le_refl _,fun k _ hx hk=>(Below.heap_setCell W _ v k (fun e=>by have e2:k=b:=e;have:=Ch hk;omega)).trans hx⟩
theorem Kept.putObj {lo hi:Nat} {e:TypeId} (W:World) (l:Nat) (o o':Obj) (h:W.heap[l]? = some o) (hc:o.isCells=false) (hw:o.isWalk=false):Kept lo hi e W (W.putObj l o'):=
 ⟨by simp,fun k o'' hx ho=>(World.putObj_heap_other (fun e=>by
  subst e;rw [h] at hx;cases hx
  cases o<;>simp_all [sy,Obj.isCells])).trans hx⟩
theorem Kept.grown {lo hi:Nat} {e:TypeId} {W W':World} {row:Option Nat} (hg:W.grownBy W' row) (h: ∀r o,row=some r->W.heap[r]? = some o-> ¬sy lo hi e r o):Kept lo hi e W W':=
 ⟨hg.size,fun k o hx hk=>(hg.block k (Q8.1 hx).1 (fun e=>h k o e.symm hx hk)).trans hx⟩
theorem Kept.cells {lo hi:Nat} {e:TypeId} {w0 W W':World} (h:Kept lo hi e W W') (hc:Cells w0 W) (hlo:w0.heap.size<=lo):Cells w0 W':=fun b o v hv=>by
 have hb:=fa hv;have h1:=hc b o v hv;unfold World.cell? at h1 ⊢
 cases hw:W.heap[b]? with
 | none=>simp [hw] at h1
 | some ob=>
  cases ob with
  | cells C T fz=>
   have:=h.same b _ hw (.inl (by omega))
   simp only [this];simpa [hw] using h1
  | _=>simp [hw] at h1
theorem Kept.box {lo hi:Nat} {e:TypeId} {W W':World} (h:Kept lo hi e W W') {k:Nat} {C:Array Value} {T:TypeId} {fz:Nat×Nat} (hk:hi<=k) (hT:T≠e) (hx:W.heap[k]? = some (.cells C T fz)):W'.heap[k]? = some (.cells C T fz):=
 h.same k _ hx (.inr ⟨hk,hT⟩)
def PS {α:Type} (J Jx:List α->World->Prop) (Kp:World->World->Prop) (pre:List α) (x:α) (W:World) (e:Ending) (W':World):Prop:=
 (e = .returned (.bool true)∧J (pre++[x]) W'∧Kp W W')∨(e = .returned (.bool false)∧Jx (pre++[x]) W')
theorem ax {w:World} {k:Nat} {C:Array Value} {T:TypeId} {fz:Nat×Nat} (h:w.heap[k]? = some (.cells C T fz)) (o:Nat):w.cell? ⟨k,o,none⟩=C[o]? :=by simp [World.cell?,h]
theorem cK {w:World} {k:Nat} {C:Array Value} {T:TypeId} (h:w.heap[k]? = some (.cells C T (0,0))) (o:Nat):w.frozen? ⟨k,o,none⟩=false:=by simp [World.frozen?,h]
theorem iA {w:World} {k:Nat} {ob:Obj} (h:w.heap[k]? = some ob) (o:Obj):(w.alloc o).heap[k]? = some ob:=(Below.heap_alloc w o k (Q8.1 h).1).trans h
theorem c9 {w:World} {k:Nat} {ob:Obj} (h:w.heap[k]? = some ob) {b o:Nat} (v:Value) (hne:k≠b):(w.setCell ⟨b,o,none⟩ v).heap[k]? = some ob:=(Below.heap_setCell w _ v k hne).trans h
theorem fQ {w:World} {k:Nat} {v:Value} {T:TypeId} {fz:Nat×Nat} (h:w.heap[k]? = some (.cells #[v] T fz)) (u:Value):(w.setCell ⟨k,0,none⟩ u).heap[k]? = some (.cells #[u] T fz):=by
 simp [World.setCell,Array.getElem?_modify,h]
theorem c8 {w:World} {k D:Nat} {ob:Obj} (h:w.heap[k]? = some ob) (o:Obj) (hne:k≠D):(w.putObj D o).heap[k]? = some ob:=(World.putObj_heap_other hne).trans h
theorem jS {B:Nat} {W W':World} (h:Below W.heap.size W W'):KeepsFrom B W W':=⟨h.size,fun k _ _ hk _=>(h.block k (Q8.1 hk).1).trans hk⟩
theorem iD {β:Type} (B0 B:Nat) (C:β->Array Value) (T:TypeId):OwnFrom B0 (fun (s:β) W=>W.heap[B]? = some (.cells (C s) T (0,0))):=fun s X Y row hs hg hr=>by
 refine (hg.block B (Q8.1 hs).1 (fun e=> ?_)).trans hs;obtain ⟨_,o,ho,hc⟩:=hr B e.symm;rw [hs] at ho;cases ho;cases hc
def handed {α:Type} (encs:α->Array Value) (ps:Array Tmp) (a:Act) (x:α):Act:={ tmps:=(ps.toList.zip (encs x).toList).foldl (fun t pv=>t.setIfInBounds pv.1 pv.2) a.tmps,defers:=[] }
theorem sq {α:Type} (encs:α->Array Value) (ps:Array Tmp) (a:Act) (x:α):handed encs ps a x={ tmps:=(ps.zip (encs x)).foldl (fun t (p,v)=>t.setIfInBounds p v) a.tmps,defers:=[] }:=by
 rw [handed, <- Array.toList_zip,Array.foldl_toList]
def Act.gF (a:Act) (d:Nat) (v:Value):Act:={ a with tmps:=a.tmps.setIfInBounds d v }
section
variable {P:Program} {α:Type} {g:Operand} {ps:Array Tmp} {assign body:Code} {Q:Exit->Act->World->Prop} {a:Act} {w:World}
theorem FQ {lo hi gf:Nat} {et:TypeId} {lb:Array Value} (hg:a.eval g = .func (.func gf) #[] lb) (eg: ∀args w,(callFunc gf args).run P w = .ok (.enter gf args) w)
  {encs:α->Array Value} {S Sp:List α->Prop} {N:Nat} {w0:World} (hseq:SeqStopsK Fence.wide 8 P gf lb encs (Kept lo hi et) S Sp N w0)
  (hb0:Below w0.heap.size w0 w) (hps: ∀x,(encs x).size=ps.size)
  (I:List α->World->Prop) (Ix:Code->List α->World->Prop) (hI:OwnFrom w.heap.size I) (hIx: ∀c,OwnFrom w.heap.size (Ix c)) (h0:I [] w) (a₁:α->Act)
  (hassign: ∀(l:Nat) (x:α) (W:World) (K:Act->World->Prop),K (a₁ x) W ->
   assign.wpIn (Fence.wide.inRound l) 7 P (Exit.then K (fun _ _ _=>False)) (handed encs ps a x) W)
  (hbody: ∀(l:Nat) (pre:List α) (x:α) (W:World),w.heap.size<=l->(∃r,W.heap[l]? = some (.loop r))->I pre W->pre.length<N->body.wpIn (Fence.wide.inRound l) 7 P (ownPostG w.heap.size (Kept lo hi et) I Ix (pre++[x]) W) (a₁ x) W)
  (hdone: ∀(D:Nat) (xs:List α) (W:World),w.heap.size<=D->S xs->I xs W->W.heap[D]? = some (.deferred (some []))->Q .normal { a with defers:={ target:= .collected D,args:= #[] } :: a.defers } W)
  (hstop: ∀(D:Nat) (c:Code) (pre:List α) (W:World),w.heap.size<=D->Sp pre->Ix c pre W->W.heap[D]? = some (.deferred (some []))->c.wpIn Fence.wide 9 P Q { a with defers:={ target:= .collected D,args:= #[] } :: a.defers } W) :
  (Code.rangeFunc g ps assign body).wpIn Fence.wide 9 P Q a w:=
 wpIn_rangeFunc_ownH (F:=Fence.wide) (n:=9) rfl (by omega) hg trivial eg hseq Kept.trans (fun W l o o' _ h hc hw=>Kept.putObj W l o o' h hc hw) hb0 hps I Ix hI hIx h0
  (fun x a' _=>a'=a₁ x) (fun x a' _ _ _ _ hs _ _=>hs)
  (fun l pre x W K hi' hK=>sq encs ps a x ▸ hassign l x W K (hK _ W (KeepsFrom.refl _ W) (Kept.refl _ _ _ W) hi' rfl))
  (fun l pre x a' W hl hr hi' ha hn=>by subst ha;exact hbody l pre x W hl hr hi' hn) hdone hstop
theorem L6 {lo hi gf:Nat} {et:TypeId} {lb:Array Value} (hg:a.eval g = .func (.func gf) #[] lb) (eg: ∀args w,(callFunc gf args).run P w = .ok (.enter gf args) w)
  {encs:α->Array Value} {S Sp:List α->Prop} {N:Nat} {w0:World} (hseq:SeqStopsK Fence.wide 8 P gf lb encs (Kept lo hi et) S Sp N w0)
  (hb0:Below w0.heap.size w0 w) (hps: ∀x,(encs x).size=ps.size)
  (I:List α->World->Prop) (Ix:Code->List α->World->Prop) (hI:OwnFrom w.heap.size I) (hIx: ∀c,OwnFrom w.heap.size (Ix c)) (h0:I [] w) (d:Nat) (v:α->Value)
  (hassign: ∀(l:Nat) (x:α) (W:World) (K:Act->World->Prop),K (Act.gF (handed encs ps a x) d (v x)) W ->
   assign.wpIn (Fence.wide.inRound l) 7 P (Exit.then K (fun _ _ _=>False)) (handed encs ps a x) W)
  (hbody: ∀(l:Nat) (pre:List α) (x:α) (W:World),w.heap.size<=l->(∃r,W.heap[l]? = some (.loop r))->I pre W->pre.length<N->body.wpIn (Fence.wide.inRound l) 7 P (ownPostG w.heap.size (Kept lo hi et) I Ix (pre++[x]) W) (Act.gF (handed encs ps a x) d (v x)) W)
  (hdone: ∀(D:Nat) (xs:List α) (W:World),w.heap.size<=D->S xs->I xs W->W.heap[D]? = some (.deferred (some []))->Q .normal { a with defers:={ target:= .collected D,args:= #[] } :: a.defers } W)
  (hstop: ∀(D:Nat) (c:Code) (pre:List α) (W:World),w.heap.size<=D->Sp pre->Ix c pre W->W.heap[D]? = some (.deferred (some []))->c.wpIn Fence.wide 9 P Q { a with defers:={ target:= .collected D,args:= #[] } :: a.defers } W) :
  (Code.rangeFunc g ps assign body).wpIn Fence.wide 9 P Q a w:=
 FQ hg eg hseq hb0 hps I Ix hI hIx h0 (fun x=>Act.gF (handed encs ps a x) d (v x)) hassign hbody hdone hstop
theorem FP {lo hi gf:Nat} {et:TypeId} {lb:Array Value} (hg:a.eval g = .func (.func gf) #[] lb) (eg: ∀args w,(callFunc gf args).run P w = .ok (.enter gf args) w)
  {encs:α->Array Value} {S Sp:List α->Prop} {N:Nat} {w0:World} (hseq:SeqStopsK Fence.wide 8 P gf lb encs (Kept lo hi et) S Sp N w0)
  (hb0:Below w0.heap.size w0 w) (hps: ∀x,(encs x).size=ps.size)
  (I:List α->World->Prop) (Ix:Code->List α->World->Prop) (hI:OwnFrom w.heap.size I) (hIx: ∀c,OwnFrom w.heap.size (Ix c)) (h0:I [] w) (d:Nat) (C:α->Array Value) (T:TypeId)
  (hsz: ∀pre W,I pre W->w.heap.size<=W.heap.size)
  (hassign: ∀(l:Nat) (x:α) (W:World) (K:Act->World->Prop),K (Act.gF (handed encs ps a x) d (.pointer (some ⟨W.heap.size,0,none⟩))) (W.alloc (.cells (C x) T)) ->
   assign.wpIn (Fence.wide.inRound l) 7 P (Exit.then K (fun _ _ _=>False)) (handed encs ps a x) W)
  (hbody: ∀(l:Nat) (pre:List α) (x:α) (B:Nat) (W:World),w.heap.size<=l->(∃r,W.heap[l]? = some (.loop r))->I pre W->w.heap.size<=B->W.heap[B]? = some (.cells (C x) T (0,0))->pre.length<N ->
   body.wpIn (Fence.wide.inRound l) 7 P (ownPostG w.heap.size (Kept lo hi et) I Ix (pre++[x]) W) (Act.gF (handed encs ps a x) d (.pointer (some ⟨B,0,none⟩))) W)
  (hdone: ∀(D:Nat) (xs:List α) (W:World),w.heap.size<=D->S xs->I xs W->W.heap[D]? = some (.deferred (some []))->Q .normal { a with defers:={ target:= .collected D,args:= #[] } :: a.defers } W)
  (hstop: ∀(D:Nat) (c:Code) (pre:List α) (W:World),w.heap.size<=D->Sp pre->Ix c pre W->W.heap[D]? = some (.deferred (some []))->c.wpIn Fence.wide 9 P Q { a with defers:={ target:= .collected D,args:= #[] } :: a.defers } W) :
  (Code.rangeFunc g ps assign body).wpIn Fence.wide 9 P Q a w:=
 wpIn_rangeFunc_ownH (F:=Fence.wide) (n:=9) rfl (by omega) hg trivial eg hseq Kept.trans (fun W l o o' _ h hc hw=>Kept.putObj W l o o' h hc hw) hb0 hps I Ix hI hIx h0
  (fun x a' W=> ∃B,w.heap.size<=B∧a'=Act.gF (handed encs ps a x) d (.pointer (some ⟨B,0,none⟩))∧W.heap[B]? = some (.cells (C x) T (0,0)))
  (fun x a' s X Y row hs hg' hr=>by
   obtain ⟨B,h1,h2,h3⟩:=hs
   exact ⟨B,h1,h2,iD (β:=Unit) w.heap.size B (fun _=>C x) T () X Y row h3 hg' hr⟩)
  (fun l pre x W K hi' hK=>sq encs ps a x ▸ hassign l x W K (hK _ _ (((KeepsOthers.alloc W _).from _)) (Kept.alloc W _) (hI.alloc _ hi') ⟨W.heap.size,hsz _ _ hi',rfl,cM W _⟩))
  (fun l pre x a' W hl hr hi' ha hn=>by
   obtain ⟨B,h1,rfl,h3⟩:=ha
   exact hbody l pre x B W hl hr hi' h1 h3 hn) hdone hstop
end
theorem lq {W w1:World} {lo hi B size k:Nat} {e:TypeId} {v:Value} {xs:List Value} {tmp:Obj} (hrow:W.ownsRow lo e size v k xs) (hgrow:(W.alloc tmp).grownBy w1 v.ownBlock) (hlo:lo<=B) (hB:B<hi) (v':Value) :
  Kept lo hi e W (w1.setCell ⟨B,0,none⟩ v'):=by
 refine ((Kept.alloc W tmp).trans (Kept.grown hgrow fun r o hr ho hk=> ?_)).trans (Kept.setCell _ hlo hB _)
 rcases (hrow.alloc tmp).2 with ⟨rfl,_⟩|⟨g,cap,cur,rfl,hg,hgb,_⟩
 ·simp [Value.ownBlock] at hr
 ·obtain rfl:g=r:=by simpa [Value.ownBlock] using hr
  rw [hgb] at ho;cases ho;simp only [sy] at hk
  rcases hk with hk|hk
  ·omega
  ·exact hk.2 rfl
theorem x4 {P:Program} {n:Nat} {c:Code} {Q:Exit->Act->World->Prop} {a:Act} {w:World} (h:c.wpIn Fence.wide n P (Exit.noGoto Q) a w):(Code.scope c).wpIn Fence.wide n P Q a w:=
 wpIn_wide.2 (wp_scope_straight (wpIn_wide.1 h))
theorem ic {w W:World} (h:Below w.heap.size w W) {D:Nat} {o:Obj} (hD:w.heap.size<=D) (o':Obj) (_:W.heap[D]? = some o):Below w.heap.size w (W.putObj D o'):=
 h.grown (grownBy_putObj' W D o') (h.size) (fun k e=>by cases e;exact hD)
end
theorem lO (c:Int) (w:World):Calls Tryz.prog 161 #[.int .i32 c] w fun e w'=>e = .returned (.bool (lj c))∧w=w':=by
 unfold lj
 by_cases h1:97<=c
 ·have d1:decide (97<=c)=true:=by simpa using h1
  rw [d1,SD]
  go_enter Tryz.func161,Tryz.ntmps161
  go_wp2_with fail
  go_ret
  exact ⟨rfl,rfl⟩
 ·have d1:decide (97<=c)=false:=by simpa using h1
  rw [d1,Bool.false_and]
  go_enter Tryz.func161,Tryz.ntmps161
  go_wp2_with fail
  go_ret
  exact ⟨rfl,rfl⟩
theorem xE (c:Int):(lj c=true∧iI c=true)∨(lj c=false∧(c !=95)=false∧iI c=true)∨(lj c=false∧(c !=95)=true∧c<48∧iI c=false) ∨
  (lj c=false∧(c !=95)=true∧48<=c∧57<c∧iI c=false)∨(lj c=false∧(c !=95)=true∧48<=c∧c<=57∧iI c=true):=by
 unfold iI
 cases h:lj c
 ·by_cases h1:c=95
  ·subst h1;exact .inr (.inl ⟨rfl,rfl,rfl⟩)
  ·have hn:(c==95)=false:=by simpa using h1
   have hn':(c !=95)=true:=by simpa using h1
   rw [hn,hn']
   by_cases h2:48<=c
   ·by_cases h3:c<=57
    ·exact .inr (.inr (.inr (.inr ⟨rfl,rfl,h2,h3,by simp [h2,h3]⟩)))
    ·exact .inr (.inr (.inr (.inl ⟨rfl,rfl,h2,by omega,by simp [h3]⟩)))
   ·exact .inr (.inr (.inl ⟨rfl,rfl,by omega,by simp [h2]⟩))
 ·exact .inl ⟨rfl,by simp⟩
theorem wZ (s:ByteArray) (w:World) (hs:s.size<=maxLen):Calls Tryz.prog 160 #[.string s] w (jW w (.bool (kC s))):=by
 unfold maxLen at hs;have hit: ∀pos,Below w.heap.size w (w.iter s pos):=fun pos=>(Below.refl _ _).alloc (Q5 _) _;have HI:=Lib.hid hit;clear hit
 go_enter Tryz.func160,Tryz.ntmps160
 go_wp2_with fail
 go_loopw [2] (fun r wr=>r = .bool false∧ ∃pos:Nat,wr=w.iter s pos∧pos<=s.size∧ ∀j (h:j<pos) (h':j<s.size),iI s[j].toNat=true) (fun _ wr=>s.size - wr.iterPos w.heap.size)
 case atStart=>exact ⟨rfl,0,rfl,Nat.zero_le _,fun j h=>by omega⟩
 case round=>
  obtain ⟨rfl,pos,rfl,hpos,hP⟩:=hrel;have HP:=Lib.hid hP;clear hP
  by_cases hp:pos<s.size
  ·by_cases ha:(s[pos]'hp).toNat<128
   ·have hnx: ∀ty,(Instr.next (.pointer (some ⟨w.heap.size,0,none⟩)) true ty).run Tryz.prog (w.iter s pos)=_:=fun ty=>run_next_ascii w s pos ty hp ha;have HV:=Lib.hid (@xS s pos hp)
    have HS:Hid (∀(hv:iI (s[pos]'hp).toNat=true) j (h:j<pos+1) (h':j<s.size),iI s[j].toNat=true):=fun hv j h h'=>by
     by_cases e:j=pos
     ·subst e;exact hv
     ·exact HP.out j (by omega) h'
    have hL:=fun W=>lO (((s[pos]'hp).toNat:Nat):Int) W;generalize hn:(s[pos]'hp).toNat=n at hnx ha HV HS hL;have HN:=Lib.hid hn;clear hn;have HL:=Lib.hid hL;clear hL
    rcases xE (n:Int) with ⟨g1,g2⟩|⟨g1,g2,g3⟩|⟨g1,g2,g3,g4⟩|⟨g1,g2,g3,g4,g5⟩|⟨g1,g2,g3,g4,g5⟩
    ·rw [g1] at HL;clear g1;have HG:=Lib.hid g2;clear g2
     go_wp2_with (go_at_call 161;refine (HL.out _).mono ?_;rintro e w' ⟨rfl,rfl⟩)
     go_roundw
     case rel=>exact ⟨rfl,pos+1,rfl,by omega,HS.out HG.out⟩
     case measure=>simp;omega
    ·rw [g1] at HL;clear g1;have HG:=Lib.hid g3;clear g3
     go_wp2_with (go_at_call 161;refine (HL.out _).mono ?_;rintro e w' ⟨rfl,rfl⟩)
     go_roundw
     case rel=>exact ⟨rfl,pos+1,rfl,by omega,HS.out HG.out⟩
     case measure=>simp;omega
    ·rw [g1] at HL;clear g1;have HG:=Lib.hid g4;clear g4
     go_wp2_with (go_at_call 161;refine (HL.out _).mono ?_;rintro e w' ⟨rfl,rfl⟩)
     go_ret
     exact aG rfl (HV.out HG.out).symm (HI.out _)
    ·rw [g1] at HL;clear g1;have HG:=Lib.hid g5;clear g5
     go_wp2_with (go_at_call 161;refine (HL.out _).mono ?_;rintro e w' ⟨rfl,rfl⟩)
     go_ret
     exact aG rfl (HV.out HG.out).symm (HI.out _)
    ·rw [g1] at HL;clear g1;have HG:=Lib.hid g5;clear g5
     go_wp2_with (go_at_call 161;refine (HL.out _).mono ?_;rintro e w' ⟨rfl,rfl⟩)
     go_roundw
     case rel=>exact ⟨rfl,pos+1,rfl,by omega,HS.out HG.out⟩
     case measure=>simp;omega
   ·have hnx: ∀ty,(Instr.next (.pointer (some ⟨w.heap.size,0,none⟩)) true ty).run Tryz.prog (w.iter s pos)=_:=fun ty=>run_next_any w s pos ty hp;have hd:=(decode_high s pos hp (by omega)).1
    have HV:=Lib.hid (xS hp (by
     have hl:lj (((s[pos]'hp).toNat:Nat):Int)=false:=by unfold lj;simp;omega
     unfold iI;rw [hl];simp;omega))
    have hL:=fun W=>lO (((Utf8.decode s pos).1:Nat):Int) W;generalize (Utf8.decode s pos).1=n at hnx hd hL;generalize (Utf8.decode s pos).2=m at hnx
    have hl:lj (n:Int)=false:=by unfold lj;simp;omega
    rw [hl] at hL
    have hn:((n:Int) !=95)=true:=by simp;omega
    have HL:=Lib.hid hL;clear hL hl ha
    go_wp2_with (go_at_call 161;refine (HL.out _).mono ?_;rintro e w' ⟨rfl,rfl⟩)
    go_ret
    exact aG rfl HV.out.symm (HI.out _)
  ·have hnx: ∀ty,(Instr.next (.pointer (some ⟨w.heap.size,0,none⟩)) true ty).run Tryz.prog (w.iter s pos)=_:=fun ty=>run_next_end w s pos ty hp;have HV:=Lib.hid (Dk (s:=s) (fun j h=>HP.out j (by omega) h));have he:=dV s
   by_cases h0:s.size=0
   ·rw [decide_eq_true h0] at he
    have hx:Hid ((decide (1<=s.size)&&decide (s.size<=20))=false):=by show _=_;simp [h0]
    clear h0
    go_wp2_with fail
    go_ret
    exact aG rfl (by rw [HV.out,hx.out]) (HI.out _)
   ·rw [decide_eq_false h0] at he
    have hx:Hid ((decide (1<=s.size)&&decide (s.size<=20))=decide (s.size<=20)):=by show _=_;rw [decide_eq_true (by omega),SD]
    go_wp2_with fail
    go_ret
    exact aG rfl (by rw [HV.out,hx.out,decide_eq_decide];omega) (HI.out _)
def tY (xs:List ByteArray) (s:ByteArray):Int:=match xs.findIdx? (fun x=>cf s x) with|some k=>k|none=> -1
def hasB (xs:List ByteArray) (s:ByteArray):Bool:=xs.any (fun x=>cf s x)
theorem Hq {xs:List ByteArray} {s:ByteArray} {k:Nat} (hk:k<xs.length) (hx:cf s xs[k]=true) (h: ∀j (_:j<k) (h':j<xs.length),cf s xs[j]=false):tY xs s=k:=by
 have:xs.findIdx? (fun x=>cf s x)=some k:=by
  rw [SE];exact ⟨hk,hx,fun j hj=>by rw [h j hj (by omega)];decide⟩
 rw [tY,this]
theorem Cf {xs:List ByteArray} {s:ByteArray} (h: ∀j (h:j<xs.length),cf s xs[j]=false):tY xs s = -1:=by
 have:xs.findIdx? (fun x=>cf s x)=none:=by
  rw [SF];intro x hx;obtain ⟨j,hj,rfl⟩:=List.getElem_of_mem hx;exact h j hj
 rw [tY,this]
theorem EJ (xs:List ByteArray) (s:ByteArray):decide (0<=tY xs s)=hasB xs s:=by
 unfold tY hasB
 cases h:xs.findIdx? (fun x=>cf s x) with
 | none=>
  rw [SF] at h;simp only [show decide ((0:Int) <= -1)=false by decide];rw [eq_comm,List.any_eq_false]
  exact fun x hx=>by rw [h x hx];decide
 | some k=>
  rw [SE] at h;obtain ⟨h1,h2,_⟩:=h;rw [decide_eq_true (by simp),eq_comm,List.any_eq_true];exact ⟨xs[k],List.getElem_mem _,h2⟩
theorem Cg (xs:List ByteArray) (v:Value) (s:ByteArray) (w:World) (h1:gZ w xs v) :
  Calls Tryz.prog 102 #[v, .string s] w (yk w (.int .i64 (tY xs s))):=by
 obtain ⟨p,c,rfl,hc1,hc2⟩:=h1.shape;unfold maxLen at hc2;have H1:=Lib.hid h1;clear h1
 go_enter Tryz.func102,Tryz.ntmps102
 go_wp2_with fail
 go_loop [4,8] (fun r i=>r = .int .i64 0∧ ∃k:Nat,k<=xs.length∧i = .int .i64 k∧ ∀j (h:j<k) (h':j<xs.length),cf s xs[j]=false) (fun _ i=>xs.length - (intOf i).toNat)
 case atStart=>exact ⟨rfl,0,Nat.zero_le _,rfl,fun j h=>by omega⟩
 case round=>
  obtain ⟨rfl,k,hk,rfl,hP⟩:=hrel;have HP:=Lib.hid hP;clear hP
  by_cases hlt:k<xs.length
  ·obtain ⟨b1,o1,rfl,a0⟩:=nI H1.out hlt
   cases hs:cf s xs[k]
   ·have HS:=Lib.hid hs;unfold cf at hs
    go_wp2_with fail
    go_round
    case rel=>exact ⟨rfl,k+1,by omega,by go_num,fun j h h'=>by
     by_cases e:j=k
     ·subst e;exact HS.out
     ·exact HP.out j (by omega) h'⟩
    case measure=>simp [intOf];omega
   ·have HS:=Lib.hid hs;unfold cf at hs
    go_wp2_with fail
    go_ret
    exact FO rfl (Hq hlt HS.out HP.out).symm
  ·go_wp2_with fail
   go_ret
   exact FO rfl (Cf (fun j h=>HP.out j (by omega) h)).symm
theorem jr (xs:List ByteArray) (v:Value) (s:ByteArray) (w:World) (h1:gZ w xs v) :
  Calls Tryz.prog 60 #[v, .string s] w (yk w (.bool (hasB xs s))):=by
 have HC:=Lib.hid (Cg xs v s w h1);clear h1;rw [<-EJ]
 go_enter Tryz.func60,Tryz.ntmps60
 go_wp2_with fail
 refine HC.out.mono ?_;rintro e w' ⟨rfl,rfl⟩
 go_wp2_with fail
 go_ret
 exact ⟨rfl,rfl⟩
theorem ig (s:ByteArray) (w:World) (hs:s.size<=maxLen):Calls Tryz.prog 120 #[.string s] w (jW w (.bool (dp s))):=by
 have HV:=Lib.hid (fun W=>wZ s W hs);have HB:=Lib.hid (fun o=>((Below.refl w.heap.size w).alloc (Q5 _) o))
 have HW:Hid (∀W1,Below (w.alloc (.cells (words.map Value.string).toArray 9)).heap.size (w.alloc (.cells (words.map Value.string).toArray 9)) W1->Calls Tryz.prog 60 #[.slice (some ⟨w.heap.size,0,none⟩) 7 7, .string s] W1 (yk W1 (.bool (hasB words s)))):=fun W1 hb=>
  jr words _ s W1 (zw (rd:=Jd) (xs:=words) (sz:=1) ((hb.block _ (by simp)).trans (cM w _)) (fun x=>[Value.string x]) (fun x _=>rfl) (fun x _=>rfl) (by simp [List.flatMap,words]) rfl (by decide) (by unfold maxLen;decide))
 cases g1:kC s
 ·rw [g1] at HV
  have hfin:dp s=false:=by simp [dp,g1]
  rw [hfin];clear hfin;have G1:=Lib.hid g1;clear g1 HW
  go_enter Tryz.func120,Tryz.ntmps120
  go_wp2_with fail
  refine (HV.out _).mono ?_;rintro e w1 ⟨rfl,hb1⟩
  go_wp2_with fail
  go_ret
  exact aG rfl rfl (ae (HB.out _) hb1)
 ·rw [g1] at HV;obtain ⟨h0,_⟩:=zO g1;have hl:=fun W=>lO (pT s) W
  have hfin:dp s=(lj (pT s) && !hasB words s):=by simp [dp,g1,hasB]
  rw [hfin];clear hfin
  have hfi:pT s=((s[0]'h0).toNat:Int):=by simp [pT,h0]
  rw [hfi] at hl;rw [hfi];have HL:=Lib.hid hl;clear hl hfi;have hby:(s[0]'h0).toNat<256:=UInt8.toNat_lt _
  cases g2:lj ((s[0]'h0).toNat:Int)
  ·rw [g2] at HL;rw [Bool.false_and];clear g2
   go_enter Tryz.func120,Tryz.ntmps120
   go_wp2_with fail
   refine (HV.out _).mono ?_;rintro e w1 ⟨rfl,hb1⟩
   go_wp2_with fail
   refine (HL.out _).mono ?_;rintro e w' ⟨rfl,rfl⟩
   go_wp2_with fail
   go_ret
   exact aG rfl rfl (ae (HB.out _) hb1)
  ·rw [g2] at HL;rw [SD];clear g2
   go_enter Tryz.func120,Tryz.ntmps120
   go_wp2_with fail
   refine (HV.out _).mono ?_;rintro e w1 ⟨rfl,hb1⟩
   go_wp2_with fail
   refine (HL.out _).mono ?_;rintro e w' ⟨rfl,rfl⟩
   go_wp2_with fail
   refine (HW.out _ hb1).mono ?_;rintro e w' ⟨rfl,rfl⟩
   go_wp2_with fail
   go_ret
   exact aG rfl rfl (ae (HB.out _) hb1)
theorem CM (s:ByteArray) (w:World) (hs:s.size<=maxLen):Calls Tryz.prog 199 #[.string s] w (yk w (.bool (lR s))):=by
 unfold maxLen at hs
 go_enter Tryz.func199,Tryz.ntmps199
 go_wp2_with fail
 go_loop [2,7] (fun r i=>r = .bool false∧ ∃k:Nat,i = .int .i64 k∧k<=s.size∧ ∀j (h:j<k) (h':j<s.size),fT s[j].toNat=true) (fun _ i=>s.size - (intOf i).toNat)
 case atStart=>exact ⟨rfl,0,rfl,Nat.zero_le _,fun j h=>by omega⟩
 case round=>
  obtain ⟨rfl,k,rfl,hk,hP⟩:=hrel;have HP:=Lib.hid hP;clear hP
  by_cases hlt:k<s.size
  ·have HV:=Lib.hid (@CH s k hlt)
   have HS:Hid (∀(hv:fT (s[k]'hlt).toNat=true) j (h:j<k+1) (h':j<s.size),fT s[j].toNat=true):=fun hv j h h'=>by
    by_cases e:j=k
    ·subst e;exact hv
    ·exact HP.out j (by omega) h'
   have hc:=uA (s[k]'hlt).toNat;have hby:(s[k]'hlt).toNat<256:=UInt8.toNat_lt _
   rcases hc with ⟨g1,g2⟩|⟨g1,g2,g3⟩|⟨g1,g2,g3,g4⟩|⟨g1,g2,g3,g4,g5⟩|⟨g1,g2,g3,g4,g5⟩
   ·have HG:=Lib.hid g2;clear g2
    go_wp2_with fail
    go_ret
    exact lU rfl (HV.out HG.out).symm
   ·have HG:=Lib.hid g3;clear g3
    go_wp2_with fail
    go_ret
    exact lU rfl (HV.out HG.out).symm
   ·have HG:=Lib.hid g4;clear g4
    go_wp2_with fail
    go_ret
    exact lU rfl (HV.out HG.out).symm
   ·have HG:=Lib.hid g5;clear g5
    go_wp2_with fail
    go_ret
    exact lU rfl (HV.out HG.out).symm
   ·have HG:=Lib.hid g5;clear g5
    go_wp2_with fail
    go_round
    case rel=>exact ⟨rfl,k+1,by go_num,by omega,HS.out HG.out⟩
    case measure=>simp [intOf];omega
  ·go_wp2_with fail
   go_ret
   exact lU rfl (zn (fun j h=>HP.out j (by omega) h)).symm
theorem vb (v:pe) (w:World) (hs:v.text.size<=maxLen):Calls Tryz.prog 165 #[.agg #[.int .i64 v.kind, .int .i64 v.num, .string v.text]] w (jW w (.bool (cr v))):=by
 obtain ⟨k,n,s⟩:=v;simp only at hs;have HP:=Lib.hid (fun W=>CM s W hs);have HB:=Lib.hid (fun o=>((Below.refl w.heap.size w).alloc (Q5 _) o));have he:=dV s
 cases h1:k==1
 ·cases h2:k==2
  ·have hfin:cr ⟨k,n,s⟩=false:=by simp [cr,h1,h2]
   rw [hfin];clear hfin he HP
   go_enter Tryz.func165,Tryz.ntmps165
   go_wp2_with fail
   go_ret
   exact aG rfl rfl (HB.out _)
  ·cases h3:n==0
   ·have hfin:cr ⟨k,n,s⟩=false:=by simp [cr,h1,h2,h3]
    rw [hfin];clear hfin he HP
    go_enter Tryz.func165,Tryz.ntmps165
    go_wp2_with fail
    go_ret
    exact aG rfl rfl (HB.out _)
   ·by_cases h4:s.size<=40
    ·have hfin:cr ⟨k,n,s⟩=lR s:=by simp [cr,h1,h2,h3,h4]
     rw [hfin];clear hfin he
     go_enter Tryz.func165,Tryz.ntmps165
     go_wp2_with fail
     refine (HP.out _).mono ?_;rintro e w' ⟨rfl,rfl⟩
     go_wp2_with fail
     go_ret
     exact aG rfl rfl (HB.out _)
    ·have hfin:cr ⟨k,n,s⟩=false:=by simp [cr,h1,h2,h3,h4]
     rw [hfin];clear hfin he HP
     go_enter Tryz.func165,Tryz.ntmps165
     go_wp2_with fail
     go_ret
     exact aG rfl rfl (HB.out _)
 ·cases h3:fb s
  ·have hfin:cr ⟨k,n,s⟩=false:=by simp [cr,h1,h3]
   rw [fb] at h3;rw [h3] at he;rw [hfin];clear hfin HP h3
   go_enter Tryz.func165,Tryz.ntmps165
   go_wp2_with fail
   go_ret
   exact aG rfl rfl (HB.out _)
  ·by_cases h4: -kM<=n
   ·have hfin:cr ⟨k,n,s⟩=decide (n<=kM):=by simp [cr,h1,h3,h4]
    rw [fb] at h3;rw [h3] at he;rw [hfin];clear hfin HP h3;unfold kM at h4 ⊢
    go_enter Tryz.func165,Tryz.ntmps165
    go_wp2_with fail
    go_ret
    exact aG rfl rfl (HB.out _)
   ·have hfin:cr ⟨k,n,s⟩=false:=by simp [cr,h1,h3,h4]
    rw [fb] at h3;rw [h3] at he;rw [hfin];clear hfin HP h3;unfold kM at h4
    go_enter Tryz.func165,Tryz.ntmps165
    go_wp2_with fail
    go_ret
    exact aG rfl rfl (HB.out _)
theorem FB (k:Int) (s:ByteArray) (p:Option Addr) (n c:Nat) (w:World) (hs:s.size<=maxLen) (hn:n<=maxLen) :
  Calls Tryz.prog 162 #[.agg #[.int .i64 k, .string s, .slice p n c]] w (jW w (.bool (bT k s n))):=by
 have HF:=Lib.hid (fun W=>ig s W hs);have HB:=Lib.hid (fun o=>((Below.refl w.heap.size w).alloc (Q5 _) o));unfold maxLen at hs hn;have he:=dV s
 cases h1:k==1
 ·cases h2:k==2
  ·cases h3:k==3
   ·cases h4:k==4
    ·cases h5:k==5
     ·cases h6:k==6
      ·have hfin:bT k s n=false:=by simp [bT,h1,h2,h3,h4,h5,h6]
       rw [hfin];clear hfin he HF
       go_enter Tryz.func162,Tryz.ntmps162
       go_wp2_with fail
       go_ret
       exact aG rfl rfl (HB.out _)
      ·skip
       by_cases h7:n=1
       ·have h8:((n:Int)==1)=true:=by simp [h7]
        cases h9:fb s
        ·have hfin:bT k s n=false:=by simp [bT,h1,h2,h3,h4,h5,h6,h7,h9]
         rw [fb] at h9;rw [h9] at he;rw [hfin];clear hfin HF h9
         go_enter Tryz.func162,Tryz.ntmps162
         go_wp2_with fail
         go_ret
         exact aG rfl rfl (HB.out _)
        ·have hfin:bT k s n=true:=by simp [bT,h1,h2,h3,h4,h5,h6,h7,h9]
         rw [fb] at h9;rw [h9] at he;rw [hfin];clear hfin HF h9
         go_enter Tryz.func162,Tryz.ntmps162
         go_wp2_with fail
         go_ret
         exact aG rfl rfl (HB.out _)
       ·have h8:((n:Int)==1)=false:=by simp;omega
        have hfin:bT k s n=false:=by simp [bT,h1,h2,h3,h4,h5,h6,h7]
        rw [hfin];clear hfin he HF
        go_enter Tryz.func162,Tryz.ntmps162
        go_wp2_with fail
        go_ret
        exact aG rfl rfl (HB.out _)
     ·skip
      by_cases h7:n=1
      ·have h8:((n:Int)==1)=true:=by simp [h7]
       cases h9:fb s
       ·have hfin:bT k s n=false:=by simp [bT,h1,h2,h3,h4,h5,h7,h9]
        rw [fb] at h9;rw [h9] at he;rw [hfin];clear hfin HF h9
        go_enter Tryz.func162,Tryz.ntmps162
        go_wp2_with fail
        go_ret
        exact aG rfl rfl (HB.out _)
       ·have hfin:bT k s n=true:=by simp [bT,h1,h2,h3,h4,h5,h7,h9]
        rw [fb] at h9;rw [h9] at he;rw [hfin];clear hfin HF h9
        go_enter Tryz.func162,Tryz.ntmps162
        go_wp2_with fail
        go_ret
        exact aG rfl rfl (HB.out _)
      ·have h8:((n:Int)==1)=false:=by simp;omega
       have hfin:bT k s n=false:=by simp [bT,h1,h2,h3,h4,h5,h7]
       rw [hfin];clear hfin he HF
       go_enter Tryz.func162,Tryz.ntmps162
       go_wp2_with fail
       go_ret
       exact aG rfl rfl (HB.out _)
    ·skip
     by_cases h7:n=1
     ·have h8:((n:Int)==1)=true:=by simp [h7]
      cases h9:fb s
      ·have hfin:bT k s n=false:=by simp [bT,h1,h2,h3,h4,h7,h9]
       rw [fb] at h9;rw [h9] at he;rw [hfin];clear hfin HF h9
       go_enter Tryz.func162,Tryz.ntmps162
       go_wp2_with fail
       go_ret
       exact aG rfl rfl (HB.out _)
      ·have hfin:bT k s n=true:=by simp [bT,h1,h2,h3,h4,h7,h9]
       rw [fb] at h9;rw [h9] at he;rw [hfin];clear hfin HF h9
       go_enter Tryz.func162,Tryz.ntmps162
       go_wp2_with fail
       go_ret
       exact aG rfl rfl (HB.out _)
     ·have h8:((n:Int)==1)=false:=by simp;omega
      have hfin:bT k s n=false:=by simp [bT,h1,h2,h3,h4,h7]
      rw [hfin];clear hfin he HF
      go_enter Tryz.func162,Tryz.ntmps162
      go_wp2_with fail
      go_ret
      exact aG rfl rfl (HB.out _)
   ·skip
    by_cases h7:1<n
    ·skip
     cases h9:fb s
     ·have hfin:bT k s n=false:=by simp [bT,h1,h2,h3,h7,h9]
      rw [fb] at h9;rw [h9] at he;rw [hfin];clear hfin HF h9
      go_enter Tryz.func162,Tryz.ntmps162
      go_wp2_with fail
      go_ret
      exact aG rfl rfl (HB.out _)
     ·have hfin:bT k s n=true:=by simp [bT,h1,h2,h3,h7,h9]
      rw [fb] at h9;rw [h9] at he;rw [hfin];clear hfin HF h9
      go_enter Tryz.func162,Tryz.ntmps162
      go_wp2_with fail
      go_ret
      exact aG rfl rfl (HB.out _)
    ·have hfin:bT k s n=false:=by simp [bT,h1,h2,h3,h7]
     rw [hfin];clear hfin he HF
     go_enter Tryz.func162,Tryz.ntmps162
     go_wp2_with fail
     go_ret
     exact aG rfl rfl (HB.out _)
  ·skip
   by_cases h7:1<n
   ·skip
    cases h9:fb s
    ·have hfin:bT k s n=false:=by simp [bT,h1,h2,h7,h9]
     rw [fb] at h9;rw [h9] at he;rw [hfin];clear hfin HF h9
     go_enter Tryz.func162,Tryz.ntmps162
     go_wp2_with fail
     go_ret
     exact aG rfl rfl (HB.out _)
    ·have hfin:bT k s n=true:=by simp [bT,h1,h2,h7,h9]
     rw [fb] at h9;rw [h9] at he;rw [hfin];clear hfin HF h9
     go_enter Tryz.func162,Tryz.ntmps162
     go_wp2_with fail
     go_ret
     exact aG rfl rfl (HB.out _)
   ·have hfin:bT k s n=false:=by simp [bT,h1,h2,h7]
    rw [hfin];clear hfin he HF
    go_enter Tryz.func162,Tryz.ntmps162
    go_wp2_with fail
    go_ret
    exact aG rfl rfl (HB.out _)
 ·by_cases h7:n=0
  ·have h8:((n:Int)==0)=true:=by simp [h7]
   have hfin:bT k s n=dp s:=by simp [bT,h1,h7]
   rw [hfin];clear hfin he h7
   go_enter Tryz.func162,Tryz.ntmps162
   go_wp2_with fail
   refine (HF.out _).mono ?_;rintro e w1 ⟨rfl,hb1⟩
   go_wp2_with fail
   go_ret
   exact aG rfl rfl (ae (HB.out _) hb1)
  ·have h8:((n:Int)==0)=false:=by simp;omega
   have hfin:bT k s n=false:=by simp [bT,h1,h7]
   rw [hfin];clear hfin he HF
   go_enter Tryz.func162,Tryz.ntmps162
   go_wp2_with fail
   go_ret
   exact aG rfl rfl (HB.out _)
section
open Go.RowKit Go.Shelf
attribute [local go_sem] Oper.semAt_some
def aV (l:List bQ):List ByteArray:=l.flatMap (fun p=>[p.aR,p.to])
def nn (l:List bQ):List ByteArray:=(l.filter (fun p=> !fb p.name)).map bQ.name
theorem iK {l:List bQ} {k:Nat} (h:k<l.length):aV (l.take (k+1))=aV (l.take k)++[l[k].aR,l[k].to]:=by
 rw [aV,aV,List.take_succ_eq_append_getElem h,List.flatMap_append];simp
theorem kD (l:List bQ) (k:Nat):aV l=aV (l.take k)++aV (l.drop k):=by
 rw [aV,aV,aV, <- List.flatMap_append,List.take_append_drop]
theorem rb (F:Fence) (hF: ∀f,F.fn f) (hd:F.depth=none) (hro:F.round=none) (n lo hi B:Nat) (et:TypeId) (het:40≠et) (q:fg) (cx:List Value) (w0 w:World) (hlo:w0.heap.size<=lo) (hhi:hi<=w.heap.size)
  (hx:nQ w0 q cx) (hc:Cells w0 w) (hB:w.heap[B]? = some (.cells cx.toArray 26)) :
  SeqStopsK F n Tryz.prog 168 #[.pointer (some ⟨B,0,none⟩)] (fun s:ByteArray=> #[Value.string s]) (Kept lo hi et) (fun L=>L=aV q.aj) (fun p=>p <+: aV q.aj) (aV q.aj).length w:=by
 intro l J Jx W hW hJ hJx hY h0;obtain ⟨v1,v2,v3,r1,r2,r3,rfl⟩:=hx;obtain ⟨p1,c1,rfl,hl1,hm1⟩:=r1.shape;have hbw:=(hW.block B (Array.getElem?_eq_some_iff.1 hB).1).trans hB;have b0:=ax hbw 0;simp only [Rr,Su] at b0;have hcW:Cells w0 W:=hc.trans (.of hW);have hhW:hi<=W.heap.size:=Nat.le_trans hhi hW.size;unfold maxLen at hm1;have hJa: ∀pre (W':World) o,J pre W'->J pre (W'.alloc o):=fun pre W' o h=>hJ pre _ _ none h (World.grownBy_alloc W' o none) (fun r e=>by cases e);have hYY: ∀pre s W1,J pre W1->pre.length<(aV q.aj).length->YieldAt F (n - 1) Tryz.prog l #[.string s] W1 (PS J Jx (Kept lo hi et) pre s W1):=hY;have HR:=Lib.hid r1;have HJ:=Lib.hid hJa;have HY:=Lib.hid hYY;have H0:=Lib.hid h0;have HC:=Lib.hid hcW;clear r1 r2 r3 hbw hB hc hW hJ hJx hJa hYY hY h0 hcW hhi
 have hdd: ∀k:Nat,(F.depth.isSome=true->1<=k):=fun k h=>by rw [hd] at h;cases h
 refine callsIn_of_wp Tryz.func168 rfl (hF _) ?_ hro;simp only [Tryz.ntmps168,List.size_toArray,Rg,Q9,Nat.reduceAdd,Nat.reduceSub,SG,SH,List.push_toArray,List.append_toArray,List.nil_append,List.cons_append]
 gi_wp2_with fail
 gi_loopw [8] (fun i wr=> ∃k:Nat,i = .int .i64 k∧k<=q.aj.length∧Cells w0 wr∧hi<=wr.heap.size∧J (aV (q.aj.take k)) wr) (fun i _=>q.aj.length - (intOf i).toNat)
 case atStart=>exact ⟨0,rfl,Nat.zero_le _,HC.out,hhW,by simpa [aV] using H0.out⟩
 case round=>
  obtain ⟨k,rfl,hk,hcw,hhw,hjk⟩:=hrel;have HCW:=Lib.hid hcw;have HJK:=Lib.hid hjk;clear hcw hjk
  by_cases hlt:k<q.aj.length
  ·obtain ⟨b1,o1,k1,s1,l1,v1,rfl,hx1,hr1,a0,a1,a2,a3,a4,a5,a6,a7⟩:=s6 HR.out hlt;obtain ⟨pv,cv,rfl, -, -⟩:=hr1.shape
   replace a0:=HCW.out _ _ _ a0
   replace a1:=HCW.out _ _ _ a1
   replace a2:=HCW.out _ _ _ a2
   replace a3:=HCW.out _ _ _ a3
   replace a4:=HCW.out _ _ _ a4
   replace a5:=HCW.out _ _ _ a5
   replace a6:=HCW.out _ _ _ a6
   replace a7:=HCW.out _ _ _ a7
   have hq1:=fa a0;clear hx1 hr1;have hlen:=congrArg List.length (kD q.aj (k+1));rw [iK hlt] at hlen;simp only [List.length_append,Rg,Q9] at hlen;obtain ⟨W1,hW1⟩: ∃W1,W1=wr.alloc (.cells #[.string q.aj[k].aR, .string q.aj[k].to, .bool q.aj[k].path, .string q.aj[k].label, .string q.aj[k].name, .int .i64 k1, .string s1, .slice pv l1.length cv] 40):=⟨_,rfl⟩
   have hbx1:W1.heap[wr.heap.size]? = some (.cells #[.string q.aj[k].aR, .string q.aj[k].to, .bool q.aj[k].path, .string q.aj[k].label, .string q.aj[k].name, .int .i64 k1, .string s1, .slice pv l1.length cv] 40 (0,0)):=by rw [hW1];exact cM _ _
   have hj1:J (aV (q.aj.take k)) W1:=by rw [hW1];exact HJ.out _ _ _ HJK.out
   have hcw1:Cells w0 W1:=by rw [hW1];exact HCW.out.trans (.of ((Below.refl _ _).alloc (Q5 _) _))
   have hs1:W1.heap.size=wr.heap.size+1:=by rw [hW1];simp
   obtain ⟨fn,tmps,assign,body,hy,hR⟩:=HY.out (aV (q.aj.take k)) q.aj[k].aR W1 hj1 (by omega);rw [hW1] at hy;have HR1:=Lib.hid hR;have HB1:=Lib.hid hbx1;have HC1:=Lib.hid hcw1;have HS1:=Lib.hid hs1;have HW1:=Lib.hid hW1;have HL:=Lib.hid hlen;clear hR hbx1 hj1 hcw1 hs1 hW1 hlen
   gi_wp2_with fail
   rw [<-HW1.out];refine HR1.out.mono ?_
   rintro e W2 (⟨rfl,hj2,hk2⟩|⟨rfl,hx2⟩)
   ·have hbx2:=hk2.box hhw het HB1.out;have e0:=ax hbx2 1;simp only [Rr,List.getElem?_cons_succ,Su] at e0;have hc2:=hk2.cells HC1.out hlo;have hsz2:=hk2.size;obtain ⟨fn2,tmps2,assign2,body2,hy2,hR2⟩:=HY.out _ q.aj[k].to W2 hj2 (by have:=HL.out;simp;omega);have HR2:=Lib.hid hR2;have HC2:=Lib.hid hc2;have HZ2:=Lib.hid hsz2;clear hR2 hc2 hbx2 hj2 hk2 hsz2 hy
    gi_wp2_with fail
    refine HR2.out.mono ?_
    rintro e W3 (⟨rfl,hj3,hk3⟩|⟨rfl,hx3⟩)
    ·have HJ3:=Lib.hid hj3;have HC3:=Lib.hid (hk3.cells HC2.out hlo);have HZ3:=Lib.hid hk3.size;clear hj3 hk3
     gi_wp2_with fail
     go_roundw
     case rel=>exact ⟨k+1,by go_num,by omega,HC3.out,by have:=HZ3.out;have:=HZ2.out;have:=HS1.out;omega,by rw [iK hlt];simpa using HJ3.out⟩
     case measure=>simp [intOf];omega
    ·have HX3:=Lib.hid hx3;clear hx3
     gi_wp2_with fail
     refine bodyPost_ret (results_none rfl _ _ _) rfl ?_;exact ⟨⟨_,rfl⟩, .inr ⟨_,⟨aV (q.aj.drop (k+1)),by rw [kD q.aj (k+1),iK hlt];simp⟩,HX3.out⟩⟩
   ·have HX2:=Lib.hid hx2;clear hx2
    gi_wp2_with fail
    (try refine ⟨fun _ h=>(by cases h), ?_⟩)
    gi_wp2_with fail
    refine bodyPost_ret (results_none rfl _ _ _) rfl ?_;exact ⟨⟨_,rfl⟩, .inr ⟨_,⟨q.aj[k].to :: aV (q.aj.drop (k+1)),by rw [kD q.aj (k+1),iK hlt];simp⟩,HX2.out⟩⟩
  ·gi_wp2_with fail
   go_end0
   obtain rfl:k=q.aj.length:=by omega
   exact ⟨⟨_,rfl⟩, .inl ⟨_,rfl,by simpa using HJK.out⟩⟩
end
section
open Go.RowKit Go.Shelf
attribute [local go_sem] Oper.semAt_some
def aq (out:List ByteArray) (s:ByteArray):List ByteArray:=if hasB out s then out else out++[s]
def bz (xs:List ByteArray):List ByteArray:=xs.foldl aq []
theorem zh (xs:List ByteArray) (s:ByteArray):bz (xs++[s])=if hasB (bz xs) s then bz xs else bz xs++[s]:=by
 rw [bz,List.foldl_append];rfl
theorem sN (xs:List ByteArray):(bz xs).length<=xs.length:=by
 have key: ∀(xs acc:List ByteArray),(xs.foldl aq acc).length<=acc.length+xs.length:=by
  intro xs
  induction xs with
  | nil=>simp
  | cons x xs ih=>
   intro acc
   have:=ih (aq acc x)
   have h2:(aq acc x).length<=acc.length+1:=by unfold aq;split<;>simp
   simp only [SI,Rg];omega
 have:=key xs []
 simpa [bz] using this
theorem An:(Tryz.prog.info? 9).map (fun i=>(i.zero,i.size,i.bytes))=some (some (.string ⟨#[]⟩),1,16):=by kernel_rfl
theorem lT {w:World} {base:Nat} {e:TypeId} {v:Value} {xs:List ByteArray} (h:w.ownsRow base e 1 v xs.length (xs.map Value.string)):gZ w xs v:=by
 obtain ⟨_,h|⟨g,cap,cur,rfl,_,hg,h1,h2,h3,h4⟩⟩:=h
 ·exact .inl ⟨.inl h.1,List.length_eq_zero_iff.1 h.2⟩
 ·refine .inr ⟨g,0,cap,rfl,h1,h2,fun i x hx=>⟨[.string x],rfl, ?_,trivial⟩⟩;rw [ax hg];have hi:=(List.getElem?_eq_some_iff.1 hx).1
  have:(cur.toList.take (xs.length * 1))[i]? = some (.string x):=by rw [h4];simp [hx]
  rw [List.getElem?_take_of_lt (by omega)] at this;simpa using this
theorem Fo (gf:Nat) (lb:Array Value) (names:List ByteArray) (w:World) (hN:names.length<=1000000) (eg: ∀args w,(callFunc gf args).run Tryz.prog w = .ok (.enter gf args) w)
  (hseq: ∀W,Below w.heap.size w W->w.heap.size+1<=W.heap.size->SeqStopsK Fence.wide 8 Tryz.prog gf lb (fun s:ByteArray=> #[Value.string s]) (Kept w.heap.size (w.heap.size+1) 9) (fun L=>L=names) (fun p=>p <+: names) names.length W) :
  Calls Tryz.prog 167 #[.func (.func gf) #[] lb] w fun e w'=> ∃v,e = .returned v∧w'.ownsRow w.heap.size 9 1 v (bz names).length ((bz names).map Value.string)∧Below w.heap.size w w':=by
 refine (callsIn_wide (n:=9)).1 ?_;have HQ:=Lib.hid hseq;have HN:=Lib.hid hN;have HE:=Lib.hid eg;clear hseq hN eg;obtain ⟨i0,hi,hz0,hz1,hz2⟩:=info_parts An;have HI:=Lib.hid (show _∧_∧_∧_ from ⟨hi,hz0,hz1,hz2⟩);clear hi hz0 hz1 hz2;refine callsIn_of_wp_marks Tryz.func167 rfl trivial ?_ rfl;simp only [Tryz.ntmps167,List.size_toArray,Rg,Q9,Nat.reduceAdd,Nat.reduceSub,SG,SH,List.push_toArray,List.append_toArray,List.nil_append,List.cons_append]
 gi_wp2_with fail
 refine x4 ?_
 gi_wp2_with fail
 refine wpIn_label ?_
 gi_wp2_with fail
 have hs0:(w.alloc (.cells #[.slice none 0 0] 43)).heap.size=w.heap.size+1:=by simp
 have hb0:Below w.heap.size w (w.alloc (.cells #[.slice none 0 0] 43)):=(Below.refl _ _).alloc (Q5 _) _;have hbx:=cM w (.cells #[.slice none 0 0] 43);generalize hW0:w.alloc (.cells #[.slice none 0 0] 43)=W0 at *;clear hW0
 refine L6 (lb:=lb) (gf:=gf) (lo:=w.heap.size) (hi:=w.heap.size+1) (et:=9) rfl HE.out (HQ.out W0 hb0 (by omega)) (Below.refl _ _) (fun _=>rfl)
  (fun pre W=>(∃v,Boxed W w.heap.size 43 v∧W.ownsRow w.heap.size 9 1 v (bz pre).length ((bz pre).map Value.string)∧True)∧Below w.heap.size w W) (fun _ _ _=>False)
  (((holdsRow_own w.heap.size w.heap.size 43 9 1 (fun pre:List ByteArray=>(bz pre).length) (fun pre=>(bz pre).map Value.string) (fun _ _=>True)).from _).and (ownFrom_below (Q5 _) (by omega)))
  (fun _ _ _ _ _ hs _ _=>hs) ⟨⟨_,hbx,World.ownsRow_nil _ _ _ _,trivial⟩,hb0⟩ 3 (fun s=> .string s) ?assign ?body ?done ?stop
 case assign=>
  intro l x W K hK;simp only [handed,SJ,SK,SI,SL,SM,SN,SP];simp only [handed,Act.gF,SJ,SK,SI,SL,SM,SN,SP] at hK
  gi_wp2
  exact hK
 case body=>
  rintro l pre x W hl hrec ⟨⟨v,hv,hrow, -⟩,hB⟩ hlen;have hvc:=hv.cell;have hvf:=hv.frozen;have hle:=sN pre;have hNN:=HN.out;have HC:=Lib.hid (jr (bz pre) v x W (lT hrow));have HS:=Lib.hid (zh pre x);simp only [handed,Act.gF,SJ,SK,SI,SL,SM,SN,SP]
  cases hh:hasB (bz pre) x
  ·rw [hh] at HC HS;clear hh;have HV:=Lib.hid hv;have HR:=Lib.hid hrow;have HB:=Lib.hid hB;clear hv hrow hB
   gi_wp2_with fail
   refine ⟨trivial,(CallsIn.inRound l (callsIn_wide.2 HC.out)).mono ?_⟩;rintro e w' ⟨rfl,rfl⟩
   gi_wp2_with (gi_at_builtin;refine wpListIn_append_own _ rfl _ _ 43 rfl w.heap.size 9 i0 (.string ⟨#[]⟩) 1 16 Tryz.underlying43 HI.out.1 HI.out.2.1 HI.out.2.2.1 HI.out.2.2.2 rfl (by decide) _ _ _ rfl (HR.out.alloc _) ⟨W.heap.size,0,none⟩ 1 1 [.string x] rfl rfl (cell_one_new _ _ _) (by simp [Value.oneCell']) (by unfold maxLen;omega) (by omega) (by have:=HB.out.size;simp;omega) ?_;intro v' w1 hown' hgrow _;obtain ⟨g',cap',rfl⟩:=ownsRow_succ hown';obtain ⟨hv1,hv2,hr2,hk2,hb2⟩:=HV.out.appended (by decide) HR.out HB.out.size (Q5 _) hown' hgrow;have HKP:=Lib.hid (lq (hi:=w.heap.size+1) HR.out hgrow (Q5 _) (Nat.lt_succ_self _) (.slice (some ⟨g',0,none⟩) ((bz pre).length+1) cap'));have hc1:=hv1.cell;have hf1:=hv1.frozen;have HV2:=Lib.hid hv2;have HR2:=Lib.hid hr2;have HK2:=Lib.hid hk2;have HB2:=Lib.hid hb2;clear hv1 hv2 hr2 hk2 hb2 hown' hgrow)
   refine ⟨HK2.out.from _,HKP.out,⟨_,HV2.out, ?_,trivial⟩,HB.out.trans HB2.out⟩;rw [HS.out];simpa using HR2.out
  ·rw [hh] at HC HS;clear hh;have HV:=Lib.hid hv;have HR:=Lib.hid hrow;have HB:=Lib.hid hB;clear hv hrow hB
   gi_wp2_with fail
   refine ⟨trivial,(CallsIn.inRound l (callsIn_wide.2 HC.out)).mono ?_⟩;rintro e w' ⟨rfl,rfl⟩
   gi_wp2
   refine ⟨KeepsFrom.refl _ _,Kept.refl _ _ _ _,⟨v,HV.out, ?_,trivial⟩,HB.out⟩;rw [HS.out,if_pos trivial];exact HR.out
 case done=>
  rintro D xs W hD rfl ⟨⟨v,hv,hrow, -⟩,hB⟩ hK;have hvc:=hv.cell;have hvf:=hv.frozen
  obtain ⟨pv,cv,rfl⟩: ∃pv cv,v = .slice pv (bz xs).length cv:=by
   rcases hrow.2 with ⟨rfl,h0⟩|⟨g,cap,_,rfl,_⟩
   ·exact ⟨none,0,by rw [h0]⟩
   ·exact ⟨_,_,rfl⟩
  have HV:=Lib.hid hv;have HR:=Lib.hid hrow;have HB:=Lib.hid hB;have HK:=Lib.hid hK;have HD:=Lib.hid hD;have H0:=Lib.hid hs0;clear hv hrow hB hK hD hs0 hb0 hbx
  gi_wp2_with fail
  rw [Exit.noGoto_ret];have hD:=HD.out;have h0:=H0.out;have hKs:=c9 HK.out (b:=w.heap.size) (o:=0) (.slice pv (bz xs).length cv) (by omega);refine ⟨by simp, .inl ⟨_,_,rfl,run_takeDeferred hKs, ?_⟩⟩;have hrow2:(W.setCell ⟨w.heap.size,0,none⟩ (.slice pv (bz xs).length cv)).ownsRow w.heap.size 9 1 (.slice pv (bz xs).length cv) (bz xs).length ((bz xs).map Value.string):=HR.out.kept (grownBy_setCell' W w.heap.size _) (.inr (HV.out.not_row (by decide) HR.out).symm);have hbx:=c8 (fQ (show W.heap[w.heap.size]? = some (.cells #[.slice pv (bz xs).length cv] 43 (0,0)) from HV.out) (.slice pv (bz xs).length cv)) (.deferred none) (D:=D) (by omega);have hcf:=ax hbx 0;simp only [Rr,Su] at hcf
  refine ⟨.slice pv (bz xs).length cv, ?_,_,rfl,ownsRow_putObj hrow2 _ hKs rfl, ?_⟩
  ·simp [results,Tryz.results167,go_sem,hcf]
  ·exact ic (HB.out.setCell (p:=⟨w.heap.size,0,none⟩) (Q5 _) _) (by omega) _ hKs
 case stop=>
  rintro D c pre W _ _ h _;exact h.elim
end
section
open Go.RowKit Go.Shelf
attribute [local go_sem] Oper.semAt_some
theorem re (l:List bQ):(aV l).length=2 * l.length:=by
 induction l with
 | nil=>rfl
 | cons p l ih=>simp only [aV,List.flatMap_cons,List.length_append,Rg,Q9] at *; omega
theorem sO {w:World} {base:Nat} {e:TypeId} {z:Nat} {v:Value} {n:Nat} {xs:List Value} (h:w.ownsRow base e z v n xs): ∀b off n c,v = .slice (some ⟨b,off,none⟩) n c->base<=b:=by
 intro b off m c hv
 rcases h.2 with ⟨rfl,_⟩|⟨g,cap,cur,rfl,hg,_⟩
 ·cases hv
 ·cases hv;exact hg
theorem vc (q:fg) (cx:List Value) (w:World) (hx:nQ w q cx) (hN:q.aj.length<=400000) :
  Calls Tryz.prog 128 #[.agg cx.toArray] w fun e w'=> ∃v,e = .returned v∧gZ w' (bz (aV q.aj)) v∧Below w.heap.size w w'∧ ∀b off n c,v = .slice (some ⟨b,off,none⟩) n c->w.heap.size<=b:=by
 have hl:=re q.aj
 have hs0:(w.alloc (.cells cx.toArray 26)).heap.size=w.heap.size+1:=by simp
 have hb0:Below w.heap.size w (w.alloc (.cells cx.toArray 26)):=(Below.refl _ _).alloc (Q5 _) _;have hbx:=cM w (.cells cx.toArray 26)
 have H:=Lib.hid (Fo 168 #[.pointer (some ⟨w.heap.size,0,none⟩)] (aV q.aj) (w.alloc (.cells cx.toArray 26)) (by omega) (fun _ _=>rfl)
  (fun W hW hZ=>rb Fence.wide (fun _=>trivial) rfl rfl 8 _ _ w.heap.size 9 (by decide) q cx w W (by omega) hZ hx ((Cells.of hb0).trans (.of hW)) ((hW.block w.heap.size (by omega)).trans hbx)))
 have HB:=Lib.hid hb0;have HS:=Lib.hid hs0;obtain ⟨v1,v2,v3,r1,r2,r3,rfl⟩:=hx;obtain ⟨p1,c1,rfl, -, -⟩:=r1.shape;obtain ⟨p2,c2,rfl, -, -⟩:=r2.shape;obtain ⟨p3,c3,rfl, -, -⟩:=r3.shape;clear hN hl hs0 hb0 hbx r1 r2 r3
 go_enter Tryz.func128,Tryz.ntmps128
 go_wp2_with fail
 refine H.out.mono ?_;rintro e w1 ⟨v,rfl,hrow,hb⟩;have HR:=Lib.hid (lT hrow);have HB1:=Lib.hid hb;have HF:=Lib.hid (sO hrow);clear hrow hb
 go_wp2_with fail
 go_ret
 exact ⟨v,rfl,HR.out,ae HB.out HB1.out,fun b off n c e=>by have:=HF.out b off n c e;have:=HS.out;omega⟩
end
end Go.Proofs.YtjcobjgjjlahdaaGreatDoor
