/- Calls that see what is owned and leave it as it is; results that are new; own rows that are written over in place and cut. -/
import Derived.Test.YtldnlbcibmmbbaaGreatWAbsV
import Derived.Test.YtldnlbcibmmbbaaGreatWAbsW
import Derived.Sort.Grow
import Derived.Test.YtldnlbcibmmbbaaGreatWOnceC
import Derived.Test.YtldnlbcibmmbbaaGreatWTy
import Derived.Test.YtldnlbcibmmbbaaGreatWEnc
set_option linter.unusedSimpArgs false
set_option linter.unusedVariables false
open Bool renaming and_eq_true → JL
open List renaming getElem?_set_ne → Jl, getElem?_eq_some_iff → I0, getElem?_set_self → Jm, getElem?_eq_getElem → Je
namespace Go.Proofs.YtldnlbcibmmbbaaGreat
open Go.RowKit
section
variable {D:Nat→Prop} {nu:Nat→Nat→Value} {o:List (Option ab)} {w:World} {P:Program}
def b8 (o:List (Option ab)) (a r:AV):Prop:= ∀(D:Nat→Prop) (nu:Nat→Nat→Value) (w:World) (x:Value),RO D nu o w→RA D nu o w a x→RA D nu [] w r x
def ti (o:List (Option ab)):List AV→List AV→Prop
 | [],[]=>True
 | a :: l,b :: m=>b8 o a b∧ti o l m
 | _,_=>False
theorem b8.of {a r:AV} (n:Nat) {p:Prop} (hz:iL o n a=some (p,r)) (hp:p):b8 o a r:=fun _ _ _ x hro hra=>(iH hro n).1 a x p r hz hp hra
theorem ti.bA: ∀ {l m:List AV},ti o l m→l.length=m.length∧ ∀(i:Nat) a b,l[i]? = some a→m[i]? = some b→b8 o a b
 | [],[],_=>⟨rfl,fun i a b h=>by simp at h⟩
 | a :: l,b :: m,h=>by
  obtain ⟨h1,h2⟩:=ti.bA h.2
  refine ⟨by simp [h1],fun i x y k1 k2=> ?_⟩
  cases i with
  | zero=>simp at k1 k2;subst k1;subst k2;exact h.1
  | succ i=>exact h2 i x y (by simpa using k1) (by simpa using k2)
def Hs (P:Program) (f:FuncId) (args:List AV) (r:AV):Prop:=(bB 0 args=true∧r.wf 0=true)∧dH P f=true∧ ∀D nu w vargs,RO D nu [] w→gb D nu [] w args vargs→Calls P f vargs w (fun e w'=> ∃v,e = .returned v∧Below w.heap.size w w'∧RA (fun b=>w.heap.size≤b) nu [] w' r v)
def IF (o:List (Option ab)) (r0 r:AV):Prop:= ∀(D:Nat→Prop) (nu:Nat→Nat→Value) (w:World) (x:Value),RO D nu o w→RA D nu o w r0 x→RA (owned nu o) nu [] w r x
/-! ### own rows of plain values, written over in place -/
def Is {α:Type} (enc:α→Value) (l:List α):List (List AV):=l.map (fun a=>[.v (enc a)])
/-! ### own objects, picked and numbered anew -/
def G5 (f:Nat→Nat) (n:Nat):List AV→List AV→Prop
 | [],[]=>True
 | a :: l,c :: m=>(c = .undef∨(a=c.bF f∧c.wf n=true))∧G5 f n l m
 | _,_=>False
end
mutual
theorem wo {f:Nat→Nat} {m:Nat} (hf: ∀k,k<m→f k=k): ∀a:AV,a.wf m=true→a.bF f=a
 | .undef,_=>rfl
 | .v _,_=>rfl
 | .agg cs,h=>by rw [AV.bF,jb hf cs h]
 | .dN cs,h=>by rw [AV.bF,jb hf cs h]
 | .an z rows len,h=>by rw [AV.bF,sN hf rows h]
 | .vp cs,h=>by rw [AV.bF,jb hf cs h]
 | .ptr id _ _ _ _,h=>by simp [AV.wf] at h;rw [AV.bF,hf id h]
 | .vec id _,h=>by simp [AV.wf] at h;rw [AV.bF,hf id h]
 | .fn g a b,h=>by
  simp only [AV.wf,JL] at h
  rw [AV.bF,jb hf a h.1,jb hf b h.2]
 | .full a,h=>by rw [AV.bF,wo hf a h]
 | .aV p a,h=>by rw [AV.bF,wo hf a h]
 | .mp rows,h=>by rw [AV.bF,sN hf rows h]
theorem jb {f:Nat→Nat} {m:Nat} (hf: ∀k,k<m→f k=k): ∀l:List AV,bB m l=true→cH f l=l
 | [],_=>rfl
 | a :: l,h=>by
  simp only [bB,JL] at h
  rw [cH,wo hf a h.1,jb hf l h.2]
theorem sN {f:Nat→Nat} {m:Nat} (hf: ∀k,k<m→f k=k): ∀l:List (List AV),ct m l=true→cX f l=l
 | [],_=>rfl
 | a :: l,h=>by
  simp only [ct,JL] at h
  rw [cX,jb hf a h.1,sN hf l h.2]
end
section
variable {D:Nat→Prop} {nu:Nat→Nat→Value} {o:List (Option ab)} {w:World} {P:Program}
theorem eU {s:AS} {k i j id len:Nat} {ob ob2:ab} {row:List AV} (hne:id≠k) (hk:s.o[k]? = some (some ob)) (hz:0<ob.z) (hr:ob.rows[i]? = some row) (hj:row[j]? = some (.vec id len)) (ho:s.o[id]? = some (some ob2)) (hv:ob2.eu=true) (hl:ob2.rows.length=len) :
  yx s (AS.mk s.t ((s.o.set id none).set k (some { ob with rows:=ob.rows.set i (row.set j (.an ob2.z ob2.rows len)) })) s.y):=by
 intro f D nu a w hs
 have hp:=iu (nu:=nu) (o:=s.o) (w:=w) id
 have hro:=sQ hs.ro id
 have hk':(s.o.set id none)[k]? = some (some ob):=by rw [Jl hne];exact hk
 have hh:ob.hl=({ ob with rows:=ob.rows.set i (row.set j (.an ob2.z ob2.rows len)) }:ab).hl:=by simp [ab.hl]
 obtain ⟨g,cur,hb⟩: ∃g cur,uc D nu (s.o.set id none) w k ob g cur:=by
  rcases hro.obj k ob hk' with ⟨_,e,_⟩|h|⟨g,es,cl,hm⟩
  ·rw [e] at hr;simp at hr
  ·exact h
  ·have:=hm.z;omega
 have hm:=jP (nu:=nu) (o:=s.o.set id none) (w:=w) (w':=w) (ob':={ ob with rows:=ob.rows.set i (row.set j (.an ob2.z ob2.rows len)) }) hk' hh.symm hb.bq rfl rfl rfl rfl (fun _ _=>rfl)
 refine ⟨nu,hp.trans hm,rfl, ?_,(hs.tm.mono hp (fun _ _ h=>h)).mono hm (fun _ _ h=>h),hs.fR⟩
 have hil:=(I0.1 hr).1
 have hjl:=(I0.1 hj).1
 have hsl:=ly hs.ro ho hv
 rw [hl] at hsl
 have key: ∀(i' j':Nat) r c,(ob.rows.set i (row.set j (.an ob2.z ob2.rows len)))[i']? = some r→r[j']? = some c→ ∃r0 c0,ob.rows[i']? = some r0∧r0[j']? = some c0∧(c=c0∨(c = .an ob2.z ob2.rows len∧c0 = .vec id len)):=by
  intro i' j' r c h1 h2
  by_cases hi:i=i'
  ·subst hi
   rw [Jm hil] at h1;cases h1
   by_cases hj':j=j'
   ·subst hj'
    rw [Jm hjl] at h2;cases h2
    exact ⟨row,_,hr,hj, .inr ⟨rfl,rfl⟩⟩
   ·rw [Jl hj'] at h2
    exact ⟨row,c,hr,h2, .inl rfl⟩
  ·rw [Jl hi] at h1
   exact ⟨r,c,h1,h2, .inl rfl⟩
 refine rK hro hk' hh.symm hb.bq hm (fun _ _=>rfl) (cur:=cur) ⟨hb.b7,hb.ke,fun hv'=> ?_,fun hv'=> ?_,hb.z,fun i' r hi'=> ?_,fun i' j' r c x h1 h2 h3=> ?_,fun i' j' r c x h1 h2 h3=> ?_⟩
 ·obtain ⟨q1,q2,q3⟩:=hb.box hv'
  exact ⟨q1,by simpa using q2,q3⟩
 ·obtain ⟨cap,q1,q2,q3,q4⟩:=hb.vec hv'
  exact ⟨cap,by simpa using q1,by simpa using q2,q3,q4⟩
 ·by_cases hi:i=i'
  ·subst hi
   rw [Jm hil] at hi';cases hi'
   rw [List.length_set];exact hb.row i row hr
  ·rw [Jl hi] at hi'
   exact hb.row i' r hi'
 ·obtain ⟨r0,c0,k1,k2,e⟩:=key i' j' r c h1 h2
  have h0:=hb.cell i' j' r0 c0 x k1 k2 h3
  rcases e with rfl|⟨rfl,rfl⟩
  ·exact h0.mono hm (fun _ _ h=>h)
  ·have hx:x=nu id len:=by
    cases h0 with
    | vec=>rfl
   rw [hx]
   exact hsl.mono hm (fun _ _ h=>h)
 ·obtain ⟨r0,c0,k1,k2,_⟩:=key i' j' r c h1 h2
  exact hb.one i' j' r0 c0 x k1 k2 h3
end
section
variable {o:List (Option ab)}
end
def FL (N:Nat) (g:Nat→Bool):List (List AV):=(List.range N).map (fun j=>[.v (.bool (g j))])
def GB (N:Nat) (f:Nat→Nat→Bool):List (List AV):=(List.range N).map (fun i=>[.an 1 (FL N (f i)) N])
def IM (k i:Nat):Nat:=k+1+2 * i
def xN (k N m:Nat):List (List AV):=(List.range m).map (fun i=>[.vec (IM k i) N])
theorem CE (N:Nat) (g:Nat→Bool):(FL N g).length=N:=by simp [FL]
theorem BU (N:Nat) (f:Nat→Nat→Bool):(GB N f).length=N:=by simp [GB]
theorem tY (k N m:Nat):(xN k N m).length=m:=by simp [xN]
def IS (f:Nat→Nat→Bool) (i j:Nat) (v:Bool):Nat→Nat→Bool:=fun p q=>if p=i∧q=j then v else f p q
theorem An (n N:Nat) (g:Nat→Bool):ct n (FL N g)=true:=cV _ (fun _=>rfl) _
theorem DP (n N:Nat) (f:Nat→Nat→Bool):ct n (GB N f)=true:=cV _ (fun i=>by simp only [bB,AV.wf,An,Bool.and_self]) _
attribute [go_sem] An DP CE BU tY
section
variable {o:List (Option ab)} {P:Program}
theorem b8.v (x:Value):b8 o (.v x) (.v x):=fun D nu w y hro hra=>by rw [hra.bj];exact .v x
theorem b8.dN {l m:List AV} (h:ti o l m):b8 o (.dN l) (.dN m):=fun D nu w x hro hra=>by
 obtain ⟨h1,h2⟩:=h.bA
 cases hra with
 | dN _ xs k1 k2=>
  refine .dN _ _ (by omega) fun i c y q1 q2=> ?_
  have hi:i<l.length:=by rw [h1];exact (I0.1 q1).1
  exact h2 i _ c (Je hi) q1 D nu w y hro (k2 i _ y (Je hi) q2)
theorem b8.GL {id len:Nat} {ob:ab} (ho:o[id]? = some (some ob)) (hv:ob.eu=true) (hl:ob.rows.length=len) {rows':List (List AV)} (hlen:rows'.length=ob.rows.length)
  (hr: ∀(i:Nat) row row',ob.rows[i]? = some row→rows'[i]? = some row'→ti o row row'):b8 o (.vec id len) (.an ob.z rows' len):=fun D nu w x hro hra=>by
 have hx:x=nu id len:=by
  cases hra with
  | vec=>rfl
 subst hx
 subst hl
 have get: ∀(i:Nat) row',rows'[i]? = some row'→ ∃row,ob.rows[i]? = some row∧row'.length=row.length∧ ∀(j:Nat) c',row'[j]? = some c'→ ∃c,row[j]? = some c∧b8 o c c':=fun i row' h=>by
  have hi:i<ob.rows.length:=by rw [←hlen];exact (I0.1 h).1
  obtain ⟨h1,h2⟩:=(hr i _ row' (Je hi) h).bA
  refine ⟨_,Je hi,h1.symm,fun j c' hc=> ?_⟩
  have hj:j<ob.rows[i].length:=by rw [h1];exact (I0.1 hc).1
  exact ⟨_,Je hj,h2 j _ c' (Je hj) hc⟩
 rcases hro.obj id ob ho with ⟨e1,e2,e3⟩|⟨g,cur,hb⟩|⟨g,es,cl,hmp⟩
 rotate_left 2
 ·rw [hmp.eu] at hv;cases hv
 ·rw [e2] at hlen ⊢
  obtain rfl:=List.eq_nil_of_length_eq_zero hlen
  simp only [List.length_nil];rw [e3];exact .aL _
 ·obtain ⟨cap,q1,q2,q3,q4⟩:=hb.vec hv
  rw [q1]
  have hget: ∀(i j:Nat) row c,ob.rows[i]? = some row→row[j]? = some c→cur[i * ob.z+j]? = some (cur.getD (i * ob.z+j) Go.undef):=fun i j row c k1 k2=>by
   have:=hb.lC k1 (I0.1 k2).1
   simp [Array.getD,this]
  refine .an _ _ _ g 0 cap (fun i j=>cur.getD (i * ob.z+j) Go.undef) (by omega) (by omega) q3 (fun _=>⟨(Array.getElem?_eq_some_iff.1 hb.b7).1,bf _ _,hb.ke⟩) (fun i row' k1=> ?_) (fun i j row' c' k1 k2=> ?_) (fun i j row' c' k1 k2=> ?_) (fun i j row' c' k1 k2=> ?_)
  ·obtain ⟨row,r1,r2,_⟩:=get i row' k1
   rw [r2];exact hb.row i row r1
  all_goals
   obtain ⟨row,r1,r2,r3⟩:=get i row' k1
   obtain ⟨c,r4,r5⟩:=r3 j c' k2
  ·rw [←hget i j row c r1 r4]
   have:=hb.b7
   simp [World.cell?,this]
  ·exact r5 D nu w _ hro (hb.cell i j row c _ r1 r4 (hget i j row c r1 r4))
  ·exact hb.one i j row c _ r1 r4 (hget i j row c r1 r4)
theorem ai.wZ {f:FuncId} {fn:Func} {c:Code} {args:List AV} {r:AV} (hf:P.funcs[f]? = some fn) (hb:fn.body=some c) (hc:dH P f=true) (hok:bC c=true) (hmx:P.follows .mixedOrders=true)
  (ha:bB 0 args=true) (hr:r.wf 0=true) (h:bZ P 0 c ⟨args++List.replicate (fn.ntmps - args.length) .undef,[], .no⟩ (tW P fn.results.toList (fun r0 o=>b8 o r0 r))):ai P f args r:=by
 obtain ⟨_,h2⟩:=fZ.enter (o:=[]) hf hb hc hok hmx h
 refine ⟨⟨ha,hr⟩,hc,fun D nu w vargs hro hra=>(h2 D nu w vargs hro hra).mono ?_⟩
 rintro e w' ⟨v,nu',o',r0,rfl,hm,hro',hra',hz⟩
 have hm':bp nu [] w nu' [] w':=⟨hm.os,hm.tape,hm.output,hm.size,fun id len hh=>by obtain ⟨x,k,_⟩:=hh;simp at k,fun b hb ho=>⟨(hm.keep b hb ho).1,bf _ _⟩⟩
 exact ⟨v,nu',[],r,rfl,hm',(.nil _ _ _ hro'.up (hro'.gl.nil (fun _ _ h=>h))),hz _ _ _ _ hro' hra',rfl,rfl⟩
end
mutual
theorem vW {f g:Nat→Nat} {m:Nat} (hf: ∀k,k<m→f k=g k): ∀a:AV,a.wf m=true→a.bF f=a.bF g
 | .undef,_=>rfl
 | .v _,_=>rfl
 | .agg cs,h=>by rw [AV.bF,AV.bF,iQ hf cs h]
 | .dN cs,h=>by rw [AV.bF,AV.bF,iQ hf cs h]
 | .an z rows len,h=>by rw [AV.bF,AV.bF,rT hf rows h]
 | .vp cs,h=>by rw [AV.bF,AV.bF,iQ hf cs h]
 | .ptr id _ _ _ _,h=>by simp [AV.wf] at h;rw [AV.bF,AV.bF,hf id h]
 | .vec id _,h=>by simp [AV.wf] at h;rw [AV.bF,AV.bF,hf id h]
 | .fn g a b,h=>by
  simp only [AV.wf,JL] at h
  rw [AV.bF,AV.bF,iQ hf a h.1,iQ hf b h.2]
 | .full a,h=>by rw [AV.bF,AV.bF,vW hf a h]
 | .aV p a,h=>by rw [AV.bF,AV.bF,vW hf a h]
 | .mp rows,h=>by rw [AV.bF,AV.bF,rT hf rows h]
theorem iQ {f g:Nat→Nat} {m:Nat} (hf: ∀k,k<m→f k=g k): ∀l:List AV,bB m l=true→cH f l=cH g l
 | [],_=>rfl
 | a :: l,h=>by
  simp only [bB,JL] at h
  rw [cH,cH,vW hf a h.1,iQ hf l h.2]
theorem rT {f g:Nat→Nat} {m:Nat} (hf: ∀k,k<m→f k=g k): ∀l:List (List AV),ct m l=true→cX f l=cX g l
 | [],_=>rfl
 | a :: l,h=>by
  simp only [ct,JL] at h
  rw [cX,cX,iQ hf a h.1,rT hf l h.2]
end
theorem b8.DF {o:List (Option ab)} {id len:Nat} {ob:ab} (ho:o[id]? = some (some ob)) (hv:ob.eu=true) (hl:ob.rows.length=len) (hw:ct 0 ob.rows=true):b8 o (.vec id len) (.an ob.z ob.rows len):=b8.of 1 (p:=ob.eu=true∧ob.rows.length=len∧ct 0 ob.rows=true) (by rw [iL,ho]) ⟨hv,hl,hw⟩
end Go.Proofs.YtldnlbcibmmbbaaGreat
