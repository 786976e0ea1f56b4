/- Expressions, operands, conditions, patterns, queries told as data of the abstract walk; what that says in words of the older readings. -/
import Derived.Test.YtldnlbcibmmbbaaGreatWAbsZ
import Derived.Test.YtldnlbcibmmbbaaGreatWBase2
set_option linter.unusedSimpArgs false
set_option linter.unusedVariables false
open Bool renaming and_true → Kh
open List renaming length_eq_zero_iff → Ki, getElem?_map → Jh, mem_of_getElem? → Jz, getElem?_eq_some_iff → I0, getElem?_eq_none → Jj, getElem?_eq_getElem → Je
namespace Go.Proofs.YtldnlbcibmmbbaaGreat
open Go.RowKit
def aT (s:ByteArray):List AV:=[.v (.string s)]
def Eg (n:Int):List AV:=[.v (.int .i64 n)]
def aN (x:cg):List AV:=[.v (.int .i64 x.kind), .v (.string x.name), .v (.string x.key), .v (.int .i64 x.val.kind), .v (.int .i64 x.val.num), .v (.string x.val.text)]
def Ce (x:iI):List AV:=[.v (.int .i64 x.kind), .v (.int .i64 x.num), .v (.string x.text)]
def bg (x:ew):List AV:=[.v (.int .i64 x.op), .v (.int .i64 x.left.kind), .v (.string x.left.name), .v (.string x.left.key), .v (.int .i64 x.left.val.kind), .v (.int .i64 x.left.val.num), .v (.string x.left.val.text),
 .v (.int .i64 x.right.kind), .v (.string x.right.name), .v (.string x.right.key), .v (.int .i64 x.right.val.kind), .v (.int .i64 x.right.val.num), .v (.string x.right.val.text)]
mutual
def bL:Ex→List AV
 | .mk k s l=>[.v (.int .i64 k), .v (.string s), .an 3 (xI l) l.length]
def xI:List Ex→List (List AV)
 | []=>[]
 | x :: xs=>bL x :: xI xs
end
theorem lh: ∀l:List Ex,xI l=l.map bL
 | []=>rfl
 | x :: xs=>by rw [xI,lh xs,List.map_cons]
theorem aY (x:Ex):bL x=[.v (.int .i64 x.kind), .v (.string x.label), .an 3 (x.kids.map bL) x.kids.length]:=by
 obtain ⟨k,s,l⟩:=x;rw [bL,lh];rfl
def bo (p:cQ):List AV:=[.v (.string p.aD), .v (.string p.to), .v (.bool p.path), .v (.string p.label), .v (.string p.name), .v (.int .i64 p.expr.kind), .v (.string p.expr.label), .an 3 (p.expr.kids.map bL) p.expr.kids.length]
def bI (q:dF):List AV:=[.an 8 (q.ao.map bo) q.ao.length, .an 13 (q.conds.map bg) q.conds.length, .an 6 (q.ret.map aN) q.ret.length, .v (.int .i64 q.range), .v (.int .i64 q.cU)]
def aB (l:List ByteArray):AV:= .an 1 (l.map aT) l.length
def EG (l:List Int):AV:= .an 1 (l.map Eg) l.length
theorem cu (n:Nat) (l:List ByteArray):ct n (l.map aT)=true:=cV _ (fun _=>rfl) l
theorem CW (n:Nat) (l:List Int):ct n (l.map Eg)=true:=cV _ (fun _=>rfl) l
theorem dP (n:Nat) (l:List cg):ct n (l.map aN)=true:=cV _ (fun _=>rfl) l
theorem de (n:Nat) (l:List ew):ct n (l.map bg)=true:=cV _ (fun _=>rfl) l
theorem jH (n:Nat) (x:Ex):bB n (bL x)=true:=by
 induction x using Ex.ind with
 | h k s l ih=>
  rw [bL,lh]
  simp only [bB,AV.wf,Kh,Bool.true_and]
  exact mH (fun r hr=>by obtain ⟨x,hx,rfl⟩:=List.mem_map.1 hr;exact ih x hx)
theorem xj (n:Nat) (l:List Ex):ct n (l.map bL)=true:=cV _ (jH n) l
theorem lA (n:Nat) (p:cQ):bB n (bo p)=true:=by simp only [bo,bB,AV.wf,xj,Kh]
theorem j8 (n:Nat) (l:List cQ):ct n (l.map bo)=true:=cV _ (lA n) l
theorem ff (n:Nat) (q:dF):bB n (bI q)=true:=by simp only [bI,bB,AV.wf,j8,de,dP,Kh]
attribute [go_sem] aB EG aT Eg aN Ce bg bo bI cu CW dP de jH xj lA j8 ff
@[go_sem] theorem getD_map {α β:Type} (f:α→β) (l:List α) (k:Nat) (d:β) (h:k<l.length):(l.map f).getD k d=f l[k]:=by
 simp [List.getD,h]
section
variable {D:Nat→Prop} {nu:Nat→Nat→Value} {o:List (Option ab)} {w:World} {P:Program}
theorem oE {b:Nat}: ∀ {cs:List Value} {off:Nat},(∀(j:Nat) v,cs[j]? = some v→w.cell? ⟨b,off+j,none⟩=some v)→cM w b off cs
 | [],_,_=>trivial
 | y :: cs,off,h=>⟨by simpa using h 0 y rfl,oE (off:=off+1) (fun j v hj=>by rw [show off+1+j=off+(j+1) by omega];exact h (j+1) v (by simpa using hj))⟩
def Dk (D:Nat→Prop) (nu:Nat→Nat→Value) (o:List (Option ab)) (w:World) (cs:List AV) (xs:List Value):Prop:=cs.length=xs.length∧ ∀(j:Nat) c x,cs[j]? = some c→xs[j]? = some x→RA D nu o w c x
theorem RA.yr {α:Type} {z:Nat} {enc:α→List AV} {rd:α→List Value→Prop} {xs:List α} {v:Value} (h:RA D nu o w (.an z (xs.map enc) xs.length) v) (hrd: ∀x,x∈xs→ ∀cs:List Value,Dk D nu o w (enc x) cs→rd x cs):dW w z rd xs v:=by
 generalize hn:xs.length=n at h
 generalize hr:xs.map enc=rows at h
 cases h with
 | aL=>
  exact .inl ⟨.inl rfl,Ki.1 hn⟩
 | aW _ a=>
  exact .inl ⟨.inr ⟨a,rfl⟩,Ki.1 hn⟩
 | an _ _ _ b off cap f h1 h2 h3 h4 h5 h6 h7 h8=>
  subst hr
  simp only [List.length_map] at h2
  refine .inr ⟨b,off,cap,by rw [hn],h2,h3,fun i x hx=> ?_⟩
  have hi:(xs.map enc)[i]? = some (enc x):=by rw [Jh,hx];rfl
  refine ⟨(List.range (enc x).length).map (f i),hrd x (Jz hx) _ ⟨by simp,fun j c y hc hy=> ?_⟩,oE (fun j y hy=> ?_)⟩
  ·have hj:=(I0.1 hc).1
   rw [Jh,List.getElem?_range hj] at hy
   cases hy
   exact h7 i j _ c hi hc
  ·rw [Jh] at hy
   have hj:j<(enc x).length:=by
    rcases Nat.lt_or_ge j (enc x).length with q|q
    ·exact q
    ·rw [Jj (by simpa using q)] at hy;cases hy
   rw [List.getElem?_range hj] at hy
   cases hy
   exact h6 i j _ _ hi (Je hj)
theorem lF {vs cs:List Value} (h:Dk D nu o w (vs.map AV.v) cs):cs=vs:=by
 apply List.ext_getElem?
 intro i
 have hl:=h.1
 simp only [List.length_map] at hl
 rcases Nat.lt_or_ge i vs.length with q|q
 ·have e1:(vs.map AV.v)[i]? = some (.v vs[i]):=by simp [q]
  have e2:cs[i]? = some cs[i]:=Je (by omega)
  have:=(h.2 i _ _ e1 e2).bj
  rw [e2,this,Je q]
 ·rw [Jj q,Jj (by omega)]
theorem nH {l:List ByteArray} {v:Value} (h:RA D nu o w (aB l) v):ez w l v:=RA.yr h (fun x _ cs hc=>lF (vs:=[.string x]) hc)
theorem B8 {l:List cg} {v:Value} (h:RA D nu o w (.an 6 (l.map aN) l.length) v):gG w l v:=RA.yr h (fun x _ cs hc=>lF (vs:=x.cells) hc)
theorem CG {l:List ew} {v:Value} (h:RA D nu o w (.an 13 (l.map bg) l.length) v):ij w l v:=RA.yr h (fun x _ cs hc=>lF (vs:=x.cells) hc)
theorem vQ: ∀(x:Ex) (cs:List Value),Dk D nu o w (bL x) cs→cf w x cs:=by
 intro x
 induction x using Ex.ind with
 | h k s l ih=>
  intro cs h
  rw [bL,lh] at h
  obtain ⟨hl,hr⟩:=h
  match cs,hl with
  | [a,b,c],_=>
   have h0:=(hr 0 _ a rfl rfl).bj
   have h1:=(hr 1 _ b rfl rfl).bj
   have h2:=hr 2 _ c rfl rfl
   rw [cf]
   exact ⟨c,by rw [h0,h1],cZ.2 (RA.yr h2 (fun y hy cs' hc=>ih y hy cs' hc))⟩
theorem DW {l:List Ex} {v:Value} (h:RA D nu o w (.an 3 (l.map bL) l.length) v):cm w l v:=cZ.2 (RA.yr h (fun y _ cs' hc=>vQ y cs' hc))
theorem s5 (p:cQ) (cs:List Value) (h:Dk D nu o w (bo p) cs):mZ w p cs:=by
 obtain ⟨hl,hr⟩:=h
 match cs,hl with
 | [a,b,c,d,e,f,g,i],_=>
  have h0:=(hr 0 _ a rfl rfl).bj
  have h1:=(hr 1 _ b rfl rfl).bj
  have h2:=(hr 2 _ c rfl rfl).bj
  have h3:=(hr 3 _ d rfl rfl).bj
  have h4:=(hr 4 _ e rfl rfl).bj
  have h5:=(hr 5 _ f rfl rfl).bj
  have h6:=(hr 6 _ g rfl rfl).bj
  have h7:=hr 7 _ i rfl rfl
  obtain ⟨k,s,l⟩: ∃k s l,p.expr = .mk k s l:=by rcases p.expr with ⟨k,s,l⟩;exact ⟨k,s,l,rfl⟩
  refine ⟨p.expr.kind,p.expr.label,p.expr.kids,i,by rcases p.expr with ⟨k,s,l⟩;rfl,DW h7,by rw [h0,h1,h2,h3,h4,h5,h6]⟩
theorem Cf {l:List cQ} {v:Value} (h:RA D nu o w (.an 8 (l.map bo) l.length) v):cP w l v:=RA.yr h (fun x _ cs hc=>s5 x cs hc)
theorem mA {cs:List AV} {v:Value} (h:RA D nu o w (.agg cs) v): ∃xs:List Value,v = .agg xs.toArray∧Dk D nu o w cs xs:=by
 cases h with
 | agg _ xs h1 h2 h3=>exact ⟨xs.toList,by simp,by simpa using h1,fun j c x q1 q2=>h2 j c x q1 (by simpa using q2)⟩
theorem Co {q:dF} {cs:List Value} (h:Dk D nu o w (bI q) cs):eb w q cs:=by
 obtain ⟨hl,hr⟩:=h
 match cs,hl with
 | [a,b,c,d,e],_=>
  have h3:=(hr 3 _ d rfl rfl).bj
  have h4:=(hr 4 _ e rfl rfl).bj
  exact ⟨a,b,c,Cf (hr 0 _ a rfl rfl),CG (hr 1 _ b rfl rfl),B8 (hr 2 _ c rfl rfl),by rw [h3,h4]⟩
theorem iV {q:dF} {v:Value} (h:RA D nu o w (.agg (bI q)) v): ∃cx:List Value,v = .agg cx.toArray∧eb w q cx:=by
 obtain ⟨xs,h1,h2⟩:=mA h
 exact ⟨xs,h1,Co h2⟩
/-! ### the other way, where nothing is owned -/
theorem RA.A1 {α:Type} {z:Nat} (hz:0<z) {enc:α→List AV} {rd:α→List Value→Prop} {xs:List α} {v:Value} (hD: ∀b off n c,v = .slice (some ⟨b,off,none⟩) n c→b<w.heap.size→D b) (h:dW w z rd xs v) (hlen: ∀x,(enc x).length=z)
  (hrd: ∀x,x∈xs→ ∀cs:List Value,rd x cs→Dk D nu [] w (enc x) cs∧ ∀y∈cs,y.oneCell'=true):RA D nu [] w (.an z (xs.map enc) xs.length) v:=by
 rcases h with ⟨rfl|⟨a,rfl⟩,rfl⟩|⟨b,off,cap,rfl,h1,h2,h3⟩
 ·exact .aL z
 ·exact .aW z a
 ·have hex: ∀i:Nat, ∃cs:List Value, ∀x,xs[i]? = some x→rd x cs∧cM w b (off+i * z) cs:=fun i=>by
   cases hx:xs[i]? with
   | none=>exact ⟨[],fun x hx=>by cases hx⟩
   | some x=>
    obtain ⟨cs,q⟩:=h3 i x hx
    exact ⟨cs,fun y hy=>by cases hy;exact q⟩
  let g:Nat→List Value:=fun i=>Classical.choose (hex i)
  have hg: ∀i x,xs[i]? = some x→rd x (g i)∧cM w b (off+i * z) (g i):=fun i x hx=>Classical.choose_spec (hex i) x hx
  have key: ∀(i j:Nat) row c,(xs.map enc)[i]? = some row→row[j]? = some c→ ∃y,(g i)[j]? = some y∧w.cell? ⟨b,off+i * z+j,none⟩=some y∧RA D nu [] w c y∧y.oneCell'=true:=by
   intro i j row c hi hj
   rw [Jh] at hi
   cases hx:xs[i]? with
   | none=>rw [hx] at hi;cases hi
   | some x=>
    rw [hx] at hi
    cases hi
    obtain ⟨q1,q2⟩:=hg i x hx
    obtain ⟨q3,q4⟩:=hrd x (Jz hx) _ q1
    have hjl:j<(g i).length:=by rw [←q3.1];exact (I0.1 hj).1
    have e:=Je hjl
    exact ⟨_,e,en q2 j _ e,q3.2 j c _ hj e,q4 _ (Jz e)⟩
  refine .an z _ _ b off cap (fun i j=>(g i).getD j Go.undef) (by simp) (by simpa using h1) h2 (fun hne=> ?_) (fun i row hi=> ?_) (fun i j row c hi hj=> ?_) (fun i j row c hi hj=> ?_) (fun i j row c hi hj=> ?_)
  ·obtain ⟨x,xs',rfl⟩: ∃x xs',xs=x :: xs':=by
    cases xs with
    | nil=>exact absurd rfl hne
    | cons x xs'=>exact ⟨x,xs',rfl⟩
   obtain ⟨c,hc⟩: ∃c,(enc x)[0]? = some c:=⟨_,Je (by rw [hlen x];exact hz)⟩
   obtain ⟨y,_,q,_⟩:=key 0 0 (enc x) c (by simp) hc
   have hlt:=cr q
   exact ⟨hlt,bf _ _,hD _ _ _ _ rfl hlt⟩
  ·rw [Jh] at hi
   cases hx:xs[i]? with
   | none=>rw [hx] at hi;cases hi
   | some x=>rw [hx] at hi;cases hi;exact hlen x
  ·obtain ⟨y,q1,q2,_⟩:=key i j row c hi hj
   rw [q2,getD_some q1]
  ·obtain ⟨y,q1,_,q3,_⟩:=key i j row c hi hj
   rw [getD_some q1];exact q3
  ·obtain ⟨y,q1,_,_,q4⟩:=key i j row c hi hj
   rw [getD_some q1];exact q4
theorem uF (vs:List Value):Dk D nu o w (vs.map AV.v) vs:=⟨by simp,fun j c x h1 h2=>by
 rw [Jh,h2] at h1;cases h1;exact .v x⟩
theorem AQ {l:List ByteArray} {v:Value} (hD: ∀b off n c,v = .slice (some ⟨b,off,none⟩) n c→D b) (h:ez w l v):RA D nu [] w (aB l) v:=
 RA.A1 (by omega) (fun b off n c e _=>hD b off n c e) h (fun _=>rfl) (fun x _ cs hc=>by subst hc;exact ⟨uF [.string x],by simp [Value.oneCell']⟩)
/-! ### the older contracts, told so -/
theorem BN {D:Nat→Prop} {nu:Nat→Nat→Value} {w:World} {v:Value} (hro:RO D nu [] w) {e:Ending} {w':World} (h:fU w v e w'):Bq D nu [] w (fun r' o'=>r' = .v v∧o'=[]) e w':=by
 obtain ⟨rfl,hb⟩:=h
 exact ⟨v,nu,[], .v v,rfl,ax hb,hro.below hb, .v v,rfl,rfl⟩
theorem ai.fq {f:FuncId} {args:List AV} {v:Value} (hc:dH P f=true) (ha:bB 0 args=true) (h: ∀D nu w vargs,gb D nu [] w args vargs→Calls P f vargs w (fU w v)):ai P f args (.v v):=
 ⟨⟨ha,rfl⟩,hc,fun D nu w vargs hro hra=>(h D nu w vargs hra).mono (fun e w' hr=>BN hro hr)⟩
theorem ai.xy {f:FuncId} {args:List AV} {l:List ByteArray} (hc:dH P f=true) (ha:bB 0 args=true)
  (h: ∀D nu w vargs,gb D nu [] w args vargs→Calls P f vargs w (fun e w'=> ∃v,e = .returned v∧ez w' l v∧Below w.heap.size w w'∧ ∀b off n c,v = .slice (some ⟨b,off,none⟩) n c→w.heap.size≤b)):ai P f args (aB l):=
 ⟨⟨ha,by simp only [aB,AV.wf,cu]⟩,hc,fun D nu w vargs hro hra=>(h D nu w vargs hra).mono (fun e w' hr=>by
  obtain ⟨v,rfl,h1,hb,h2⟩:=hr
  exact ⟨v,nu,[],aB l,rfl,ax hb,hro.below hb,AQ (fun b off n c e=>hro.up b (h2 b off n c e)) h1,rfl,rfl⟩)⟩
theorem ai.args {f:FuncId} {args args':List AV} {r:AV} (h:ai P f args r) (hw:bB 0 args'=true) (hl: ∀D nu w vargs,gb D nu [] w args' vargs→gb D nu [] w args vargs):ai P f args' r:=
 ⟨⟨hw,h.1.2⟩,h.2.1,fun D nu w vargs hro hra=>h.2.2 D nu w vargs hro (hl D nu w vargs hra)⟩
theorem gV {a:AV} {vargs:Array Value} (h:gb D nu o w [a] vargs): ∃x,vargs = #[x]∧RA D nu o w a x:=by
 obtain ⟨x,hx⟩:=List.length_eq_one_iff.1 (by simpa using h.len.symm:vargs.toList.length=1)
 have e:vargs = #[x]:=by apply Array.ext';simpa using hx
 subst e
 exact ⟨x,rfl,h.bA 0 a x rfl rfl⟩
theorem ja {a b:AV} {vargs:Array Value} (h:gb D nu o w [a,b] vargs): ∃x y,vargs = #[x,y]∧RA D nu o w a x∧RA D nu o w b y:=by
 have hl:vargs.toList.length=2:=by simpa using h.len.symm
 match hv:vargs.toList,hl with
 | [x,y],_=>
  have e:vargs = #[x,y]:=by apply Array.ext';simpa using hv
  subst e
  exact ⟨x,y,rfl,h.bA 0 a x rfl rfl,h.bA 1 b y rfl rfl⟩
theorem B7 {vargs:Array Value} (h:gb D nu o w [] vargs):vargs = #[]:=by
 have:=h.len
 simpa using this.symm
end
end Go.Proofs.YtldnlbcibmmbbaaGreat
