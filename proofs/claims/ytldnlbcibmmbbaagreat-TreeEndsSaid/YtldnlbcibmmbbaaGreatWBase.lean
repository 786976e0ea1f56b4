/- Data of the program in plain Lean, and what it means that a value reads as such data in a world. No program is named here. -/
import Derived.Attr
import Derived.WalkKit
import Derived.WalkSpells
import Derived.WalkLawsBesides
import Derived.Lib.Hide
set_option linter.unusedSimpArgs false
set_option linter.unusedVariables false
open Bool renaming not_eq_true → JJ
open List renaming mem_of_getElem? → Jz
namespace Go.Proofs.YtldnlbcibmmbbaaGreat
attribute [go_sem_proc] Nat.reduceAdd Nat.reduceSub Nat.reduceMul Nat.reduceLeDiff Nat.reduceEqDiff Nat.reduceLT Int.reduceToNat reduceCtorEq Int.reduceLE Int.reduceLT Int.reduceNeg Int.reduceEq Int.reduceBEq Int.reduceBNe
attribute [go_sem_proc ↓] reduceIte
open Go.RowKit
inductive Ex where
 | mk (kind:Int) (label:ByteArray) (kids:List Ex)
def Ex.kind:Ex→Int| .mk k _ _=>k
def Ex.label:Ex→ByteArray| .mk _ s _=>s
def Ex.kids:Ex→List Ex| .mk _ _ l=>l
theorem Ex.ind {P:Ex→Prop} (h: ∀k s kids,(∀x,x∈kids→P x)→P (.mk k s kids)): ∀x,P x:=
 @Ex.rec P (fun l=> ∀x,x∈l→P x) (fun k s kids ih=>h k s kids ih) (fun x hx=>by cases hx) (fun hd tl h1 h2 x hx=>by
  cases hx with
  | head=>exact h1
  | tail _ hm=>exact h2 x hm)
def fU (w:World) (v:Value) (e:Ending) (w':World):Prop:=e = .returned v∧Below w.heap.size w w'
theorem cr {w:World} {b o:Nat} {v:Value} (h:w.cell? ⟨b,o,none⟩=some v):b<w.heap.size:=by
 rcases Nat.lt_or_ge b w.heap.size with h'|h'
 ·exact h'
 ·simp [World.cell?,Array.getElem?_eq_none h'] at h
theorem wy {w w':World} (hb:Below w.heap.size w w') {b o:Nat} {v:Value} (h:w.cell? ⟨b,o,none⟩=some v):w'.cell? ⟨b,o,none⟩=some v:=
 (hb.cell (p:=⟨b,o,none⟩) (cr h)).trans h
theorem aa {w w1 w2:World} (h:Below w.heap.size w w1) (k:Below w1.heap.size w1 w2):Below w.heap.size w w2:=h.trans (k.mono h.size)
theorem Below.sJ {w w':World} (h:Below w.drew.heap.size w.drew w'):Below w.heap.size w w':=⟨h.os,h.tape,h.output,h.size,h.block⟩
theorem b6 (w:World):Below w.heap.size w w.drew:=(Below.refl _ _).drew
theorem aq {w w':World} {v:Value} {b b':Bool} (hv:v = .bool b) (h:b=b') (hb:Below w.heap.size w w'):fU w (.bool b') (.returned v) w':=⟨by rw [hv,h],hb⟩
theorem iz {w w':World} {v:Value} {b b':Int} (hv:v = .int .i64 b) (h:b=b') (hb:Below w.heap.size w w'):fU w (.int .i64 b') (.returned v) w':=⟨by rw [hv,h],hb⟩
def wC (w:World) (v:Value) (e:Ending) (w':World):Prop:=e = .returned v∧w=w'
theorem kT {w:World} {v:Value} {b b':Bool} (hv:v = .bool b) (h:b=b'):wC w (.bool b') (.returned v) w:=⟨by rw [hv,h],rfl⟩
theorem Bg {w:World} {v:Value} {b b':Int} (hv:v = .int .i64 b) (h:b=b'):wC w (.int .i64 b') (.returned v) w:=⟨by rw [hv,h],rfl⟩
theorem cS {w w1:World} (h:Below w.heap.size w w1) (o:Obj):Below w.heap.size w (w1.alloc o):=h.alloc h.size o
theorem jN {w w1:World} (h:Below w.heap.size w w1):Below w.heap.size w w1.drew:=h.drew
theorem az {W w1:World} (hb:Below W.heap.size W w1):(∀b o,b<W.heap.size→w1.cell? ⟨b,o,none⟩=W.cell? ⟨b,o,none⟩)∧(∀b o,b<W.heap.size→w1.frozen? ⟨b,o,none⟩=W.frozen? ⟨b,o,none⟩):=
 ⟨fun b o h=>hb.cell (p:=⟨b,o,none⟩) h,fun b o h=>hb.frozen (p:=⟨b,o,none⟩) h⟩
def cM (w:World) (b o:Nat):List Value→Prop
 | []=>True
 | v :: vs=>w.cell? ⟨b,o,none⟩=some v∧cM w b (o+1) vs
def Cells (w w':World):Prop:= ∀b o v,w.cell? ⟨b,o,none⟩=some v→w'.cell? ⟨b,o,none⟩=some v
theorem Cells.of {w w':World} (hb:Below w.heap.size w w'):Cells w w':=fun _ _ _ h=>wy hb h
theorem Cells.trans {a b c:World} (h:Cells a b) (k:Cells b c):Cells a c:=fun x o v hv=>k x o v (h x o v hv)
theorem cM.cells {w w':World} (hb:Cells w w'): ∀ {vs:List Value} {b o:Nat},cM w b o vs→cM w' b o vs
 | [],_,_,_=>trivial
 | _ :: _,_,_,h=>⟨hb _ _ _ h.1,h.2.cells hb⟩
theorem cM.below {w w':World} (hb:Below w.heap.size w w') {vs:List Value} {b o:Nat} (h:cM w b o vs):cM w' b o vs:=h.cells (.of hb)
def dW {α:Type} (w:World) (sz:Nat) (rd:α→List Value→Prop) (xs:List α) (v:Value):Prop:=
 ((v = .slice none 0 0∨ ∃a:Addr,v = .slice (some a) 0 0)∧xs=[])∨ ∃b o cap,v = .slice (some ⟨b,o,none⟩) xs.length cap∧xs.length≤cap∧cap≤maxLen ∧
  ∀i x,xs[i]? = some x→ ∃cs,rd x cs∧cM w b (o+i * sz) cs
theorem dW.BO {α:Type} {w w':World} {sz:Nat} {rd rd':α→List Value→Prop} {xs:List α} {v:Value} (h:dW w sz rd xs v)
  (hb:Cells w w') (hrd: ∀x cs,x∈xs→rd x cs→rd' x cs):dW w' sz rd' xs v:=by
 rcases h with h|⟨b,o,cap,hv,h1,h2,h3⟩
 ·exact .inl h
 ·refine .inr ⟨b,o,cap,hv,h1,h2,fun i x hx=> ?_⟩
  obtain ⟨cs,hc,hw⟩:=h3 i x hx
  exact ⟨cs,hrd x cs (Jz hx) hc,hw.cells hb⟩
theorem dW.imp {α:Type} {w w':World} {sz:Nat} {rd rd':α→List Value→Prop} {xs:List α} {v:Value} (h:dW w sz rd xs v)
  (hb:Below w.heap.size w w') (hrd: ∀x cs,x∈xs→rd x cs→rd' x cs):dW w' sz rd' xs v:=by
 rcases h with h|⟨b,o,cap,hv,h1,h2,h3⟩
 ·exact .inl h
 ·refine .inr ⟨b,o,cap,hv,h1,h2,fun i x hx=> ?_⟩
  obtain ⟨cs,hc,hw⟩:=h3 i x hx
  exact ⟨cs,hrd x cs (Jz hx) hc,hw.below hb⟩
theorem dW.below {α:Type} {w w':World} {sz:Nat} {rd:α→List Value→Prop} {xs:List α} {v:Value} (h:dW w sz rd xs v)
  (hb:Below w.heap.size w w'):dW w' sz rd xs v:=h.imp hb (fun _ _ _ h=>h)
theorem dW.shape {α:Type} {w:World} {sz:Nat} {rd:α→List Value→Prop} {xs:List α} {v:Value} (h:dW w sz rd xs v) :
  ∃p cap,v = .slice p xs.length cap∧xs.length≤cap∧cap≤maxLen:=by
 rcases h with ⟨rfl|⟨a,rfl⟩,rfl⟩|⟨b,o,cap,hv,h1,h2,h3⟩
 ·exact ⟨none,0,rfl,Nat.le_refl _,by unfold maxLen;omega⟩
 ·exact ⟨some a,0,rfl,Nat.le_refl _,by unfold maxLen;omega⟩
 ·exact ⟨_,cap,hv,h1,h2⟩
theorem dW.at {α:Type} {w:World} {sz:Nat} {rd:α→List Value→Prop} {xs:List α} {p:Option Addr} {n cap:Nat} (h:dW w sz rd xs (.slice p n cap))
  {k:Nat} (hk:k<xs.length): ∃b o cs,p=some ⟨b,o,none⟩∧rd xs[k] cs∧cM w b (o+k * sz) cs:=by
 rcases h with ⟨_,rfl⟩|⟨b,o,cap,hv,h1,h2,h3⟩
 ·simp at hk
 ·obtain ⟨cs,hc,hw⟩:=h3 k xs[k] (by simp [hk])
  cases hv
  exact ⟨b,o,cs,rfl,hc,hw⟩
mutual
def cf (w:World):Ex→List Value→Prop
 | .mk k s kids,cs=> ∃sv,cs=[.int .i64 k, .string s,sv]∧cm w kids sv
def cm (w:World):List Ex→Value→Prop
 | [],v=>(v = .slice none 0 0∨ ∃a:Addr,v = .slice (some a) 0 0)∨ ∃b o cap,v = .slice (some ⟨b,o,none⟩) 0 cap∧cap≤maxLen
 | x :: xs,v=> ∃b o cap cs,v = .slice (some ⟨b,o,none⟩) (xs.length+1) cap∧xs.length+1≤cap∧cap≤maxLen∧cf w x cs∧cM w b o cs∧mU w b (o+3) xs
def mU (w:World) (b:Nat):Nat→List Ex→Prop
 | _,[]=>True
 | o,x :: xs=> ∃cs,cf w x cs∧cM w b o cs∧mU w b (o+3) xs
end
theorem ko {w:World} {b:Nat}: ∀ {xs:List Ex} {o:Nat},mU w b o xs ↔ ∀i x,xs[i]? = some x→ ∃cs,cf w x cs∧cM w b (o+i * 3) cs
 | [],o=>⟨fun _ i x h=>by simp at h,fun _=>by simp [mU]⟩
 | y :: ys,o=>by
  rw [mU]
  constructor
  ·rintro ⟨cs,h1,h2,h3⟩ i x hx
   cases i with
   | zero=>simp at hx;subst hx;exact ⟨cs,h1,by simpa using h2⟩
   | succ i=>
    obtain ⟨cs',h4,h5⟩:=ko.1 h3 i x (by simpa using hx)
    exact ⟨cs',h4,by rw [show o+(i+1) * 3=o+3+i * 3 by omega];exact h5⟩
  ·intro h
   obtain ⟨cs,h1,h2⟩:=h 0 y (by simp)
   refine ⟨cs,h1,by simpa using h2,ko.2 fun i x hx=> ?_⟩
   obtain ⟨cs',h4,h5⟩:=h (i+1) x (by simpa using hx)
   exact ⟨cs',h4,by rw [show o+3+i * 3=o+(i+1) * 3 by omega];exact h5⟩
theorem cZ {w:World}: ∀ {xs:List Ex} {v:Value},cm w xs v↔dW w 3 (cf w) xs v
 | [],v=>by
  rw [cm]
  constructor
  ·rintro (h|⟨b,o,cap,h1,h2⟩)
   ·exact .inl ⟨h,rfl⟩
   ·exact .inr ⟨b,o,cap,by simpa using h1,by simp,h2,fun i x h=>by simp at h⟩
  ·rintro (h|⟨b,o,cap,h1,_,h2,_⟩)
   ·exact .inl h.1
   ·exact .inr ⟨b,o,cap,by simpa using h1,h2⟩
 | x :: xs,v=>by
  rw [cm]
  constructor
  ·rintro ⟨b,o,cap,cs,h1,h2,h3,h4,h5,h6⟩
   refine .inr ⟨b,o,cap,by simpa using h1,by simpa using h2,h3, ?_⟩
   have:=(ko (xs:=x :: xs) (o:=o)).1 (by rw [mU];exact ⟨cs,h4,h5,h6⟩)
   exact this
  ·rintro (⟨_,h⟩|⟨b,o,cap,h1,h2,h3,h4⟩)
   ·cases h
   ·have:=(ko (xs:=x :: xs) (o:=o)).2 h4
    rw [mU] at this
    obtain ⟨cs,h5,h6,h7⟩:=this
    exact ⟨b,o,cap,cs,by simpa using h1,by simpa using h2,h3,h5,h6,h7⟩
theorem cf.cells {w w':World} (hb:Cells w w'): ∀x:Ex, ∀cs,cf w x cs→cf w' x cs:=by
 intro x
 induction x using Ex.ind with
 | h k s kids ih=>
  intro cs h
  rw [cf] at h ⊢
  obtain ⟨sv,h1,h2⟩:=h
  exact ⟨sv,h1,cZ.2 ((cZ.1 h2).BO hb (fun x cs hx=>ih x hx cs))⟩
theorem cf.below {w w':World} (hb:Below w.heap.size w w') (x:Ex) (cs:List Value) (h:cf w x cs):cf w' x cs:=cf.cells (.of hb) x cs h
theorem cm.cells {w w':World} (hb:Cells w w') {xs:List Ex} {v:Value} (h:cm w xs v):cm w' xs v:=
 cZ.2 ((cZ.1 h).BO hb (fun x cs _=>cf.cells hb x cs))
theorem cm.below {w w':World} (hb:Below w.heap.size w w') {xs:List Ex} {v:Value} (h:cm w xs v):cm w' xs v:=
 cZ.2 ((cZ.1 h).imp hb (fun x cs _=>cf.below hb x cs))
theorem cm.shape {w:World} {xs:List Ex} {v:Value} (h:cm w xs v): ∃p cap,v = .slice p xs.length cap∧xs.length≤cap∧cap≤maxLen:=(cZ.1 h).shape
theorem cm.at {w:World} {xs:List Ex} {p:Option Addr} {n cap:Nat} (h:cm w xs (.slice p n cap)) {k:Nat} (hk:k<xs.length) :
  ∃b o kd s kids sv,p=some ⟨b,o,none⟩∧xs[k] = .mk kd s kids∧cm w kids sv ∧
   w.cell? ⟨b,o+k * 3,none⟩=some (.int .i64 kd)∧w.cell? ⟨b,o+k * 3+1,none⟩=some (.string s)∧w.cell? ⟨b,o+k * 3+2,none⟩=some sv:=by
 obtain ⟨b,o,cs,hp,hr,hc⟩:=(cZ.1 h).at hk
 rcases hx:xs[k] with ⟨kd,s,kids⟩
 rw [hx,cf] at hr
 obtain ⟨sv,rfl,hr⟩:=hr
 exact ⟨b,o,kd,s,kids,sv,hp,rfl,hr,hc.1,hc.2.1,hc.2.2.1⟩
def bT {α β:Type} (f:α→β→Bool):List α→List β→Bool
 | [],[]=>true
 | x :: xs,y :: ys=>f x y&&bT f xs ys
 | _,_=>false
theorem cN {α β:Type} {f:α→β→Bool}: ∀ {xs:List α} {ys:List β},bT f xs ys=true↔xs.length=ys.length∧ ∀i (h:i<xs.length) (h':i<ys.length),f xs[i] ys[i]=true
 | [],[]=>by simp [bT]
 | [],_ :: _=>by simp [bT]
 | _ :: _,[]=>by simp [bT]
 | x :: xs,y :: ys=>by
  simp only [bT,Bool.and_eq_true,cN,List.length_cons]
  constructor
  ·rintro ⟨h1,h2,h3⟩
   refine ⟨by omega,fun i h h'=> ?_⟩
   cases i with
   | zero=>exact h1
   | succ i=>exact h3 i (by omega) (by omega)
  ·rintro ⟨h1,h2⟩
   exact ⟨h2 0 (by omega) (by omega),by omega,fun i h h'=>h2 (i+1) (by omega) (by omega)⟩
theorem cB {α β:Type} {f:α→β→Bool} {xs:List α} {ys:List β} (h:xs.length≠ys.length):bT f xs ys=false:=by
 rw [←JJ,cN];exact fun hh=>h hh.1
theorem dq {α β:Type} {f:α→β→Bool} {xs:List α} {ys:List β} {k:Nat} (h:k<xs.length) (h':k<ys.length) (hf:f xs[k] ys[k]=false):bT f xs ys=false:=by
 rw [←JJ,cN];exact fun hh=>by rw [hh.2 k h h'] at hf;cases hf
mutual
def cp:Ex→Ex→Bool
 | .mk k s l, .mk k' s' l'=>(k==k')&&(s.toList==s'.toList)&&gX l l'
def gX:List Ex→List Ex→Bool
 | [],[]=>true
 | x :: xs,y :: ys=>cp x y&&gX xs ys
 | _,_=>false
end
theorem kZ: ∀xs ys,gX xs ys=bT cp xs ys
 | [],[]=>by simp [gX,bT]
 | [],_ :: _=>by simp [gX,bT]
 | _ :: _,[]=>by simp [gX,bT]
 | x :: xs,y :: ys=>by simp [gX,bT,kZ xs ys]
theorem fV (k k':Int) (s s':ByteArray) (l l':List Ex):cp (.mk k s l) (.mk k' s' l')=((k==k')&&(s.toList==s'.toList)&&bT cp l l'):=by
 rw [cp,kZ]
structure iI where
 kind:Int
 num:Int
 text:ByteArray
structure cg where
 kind:Int
 name:ByteArray
 key:ByteArray
 val:iI
structure ew where
 op:Int
 left:cg
 right:cg
structure cQ where
 aD:ByteArray
 to:ByteArray
 path:Bool
 label:ByteArray
 name:ByteArray
 expr:Ex
structure dF where
 ao:List cQ
 conds:List ew
 ret:List cg
 range:Int
 cU:Int
def iI.cells (x:iI):List Value:=[.int .i64 x.kind, .int .i64 x.num, .string x.text]
def cg.cells (x:cg):List Value:=[.int .i64 x.kind, .string x.name, .string x.key, .int .i64 x.val.kind, .int .i64 x.val.num, .string x.val.text]
def ew.cells (x:ew):List Value:=[.int .i64 x.op, .int .i64 x.left.kind, .string x.left.name, .string x.left.key, .int .i64 x.left.val.kind, .int .i64 x.left.val.num, .string x.left.val.text,
 .int .i64 x.right.kind, .string x.right.name, .string x.right.key, .int .i64 x.right.val.kind, .int .i64 x.right.val.num, .string x.right.val.text]
def iI.dm (x y:iI):Bool:=(x.kind==y.kind)&&(x.num==y.num)&&(x.text.toList==y.text.toList)
def cg.dm (x y:cg):Bool:=(x.kind==y.kind)&&(x.name.toList==y.name.toList)&&(x.key.toList==y.key.toList)&&x.val.dm y.val
def ew.dm (x y:ew):Bool:=(x.op==y.op)&&x.left.dm y.left&&x.right.dm y.right
def dr (s t:ByteArray):Bool:=s.toList==t.toList
def aG (x y:cQ):Bool:=(x.aD.toList==y.aD.toList)&&(x.to.toList==y.to.toList)&&(x.path==y.path)&&(x.label.toList==y.label.toList)&&(x.name.toList==y.name.toList)&&cp x.expr y.expr
def bh (x y:dF):Bool:=bT aG x.ao y.ao&&bT ew.dm x.conds y.conds&&bT cg.dm x.ret y.ret&&(x.range==y.range)&&(x.cU==y.cU)
def mZ (w:World) (p:cQ) (cs:List Value):Prop:=
 ∃k s l sv,p.expr = .mk k s l∧cm w l sv∧cs=[.string p.aD, .string p.to, .bool p.path, .string p.label, .string p.name, .int .i64 k, .string s,sv]
def Dz (p:cg) (cs:List Value):Prop:=cs=p.cells
def Fx (p:ew) (cs:List Value):Prop:=cs=p.cells
def xO (p:ByteArray) (cs:List Value):Prop:=cs=[.string p]
def Fb (p:Int) (cs:List Value):Prop:=cs=[.int .i64 p]
theorem mZ.cells {w w':World} (hb:Cells w w') {p:cQ} {cs:List Value} (h:mZ w p cs):mZ w' p cs:=by
 obtain ⟨k,s,l,sv,h1,h2,h3⟩:=h
 exact ⟨k,s,l,sv,h1,h2.cells hb,h3⟩
theorem mZ.below {w w':World} (hb:Below w.heap.size w w') {p:cQ} {cs:List Value} (h:mZ w p cs):mZ w' p cs:=h.cells (.of hb)
abbrev cP (w:World) (xs:List cQ) (v:Value):Prop:=dW w 8 (mZ w) xs v
abbrev gG (w:World) (xs:List cg) (v:Value):Prop:=dW w 6 Dz xs v
abbrev ij (w:World) (xs:List ew) (v:Value):Prop:=dW w 13 Fx xs v
abbrev ez (w:World) (xs:List ByteArray) (v:Value):Prop:=dW w 1 xO xs v
abbrev Hc (w:World) (xs:List Int) (v:Value):Prop:=dW w 1 Fb xs v
theorem so {w w':World} (hb:Cells w w') {xs:List cQ} {v:Value} (h:cP w xs v):cP w' xs v:=dW.BO h hb (fun _ _ _ h=>h.cells hb)
theorem dW.cells {α:Type} {w w':World} {sz:Nat} {rd:α→List Value→Prop} {xs:List α} {v:Value} (h:dW w sz rd xs v) (hb:Cells w w'):dW w' sz rd xs v:=h.BO hb (fun _ _ _ h=>h)
theorem bd {w w':World} (hb:Below w.heap.size w w') {xs:List cQ} {v:Value} (h:cP w xs v):cP w' xs v:=dW.imp h hb (fun _ _ _ h=>h.below hb)
def eb (w:World) (q:dF) (cs:List Value):Prop:=
 ∃v1 v2 v3,cP w q.ao v1∧ij w q.conds v2∧gG w q.ret v3∧cs=[v1,v2,v3, .int .i64 q.range, .int .i64 q.cU]
theorem eb.cells {w w':World} (hb:Cells w w') {q:dF} {cs:List Value} (h:eb w q cs):eb w' q cs:=by
 obtain ⟨v1,v2,v3,h1,h2,h3,h4⟩:=h
 exact ⟨v1,v2,v3,so hb h1,h2.cells hb,h3.cells hb,h4⟩
theorem eb.below {w w':World} (hb:Below w.heap.size w w') {q:dF} {cs:List Value} (h:eb w q cs):eb w' q cs:=h.cells (.of hb)
/-! names -/
def jy (c:Int):Bool:=decide (97≤c)&&decide (c≤122)
def dI (c:Int):Bool:=jy c||c==95||(decide (48≤c)&&decide (c≤57))
def gJ (s:ByteArray):Bool:=s.data.toList.all (fun b=>dI b.toNat)&&decide (1≤s.size)&&decide (s.size≤20)
theorem dw (f:UInt8→Bool) (s:ByteArray):s.data.toList.all f=true ↔ ∀j (h:j<s.size),f s[j]=true:=by
 rw [List.all_eq_true]
 constructor
 ·intro h j hj
  exact h _ (by simp [ByteArray.getElem_eq_getElem_data])
 ·intro h x hx
  obtain ⟨j,hj,rfl⟩:=List.getElem_of_mem hx
  exact h j (by simpa using hj)
theorem tG {s:ByteArray} {j:Nat} (h:j<s.size) (hf:dI s[j].toNat=false):gJ s=false:=by
 have:s.data.toList.all (fun b=>dI b.toNat)=false:=by
  rw [←JJ,dw];exact fun hh=>by rw [hh j h] at hf;cases hf
 simp [gJ,this]
theorem zp {s:ByteArray} (h: ∀j (h:j<s.size),dI s[j].toNat=true):gJ s=(decide (1≤s.size)&&decide (s.size≤20)):=by
 rw [gJ,(dw _ s).2 h,Bool.true_and]
theorem dk (s:ByteArray):s.toList.isEmpty=decide (s.size=0):=by
 rw [ByteArray.toList_eq]
 obtain ⟨⟨l⟩⟩:=s
 cases l<;>simp [ByteArray.size]
def words:List ByteArray:=[⟨#[97,115]⟩,⟨#[109,97,116,99,104]⟩,⟨#[119,104,101,114,101]⟩,⟨#[97,110,100]⟩,⟨#[114,101,116,117,114,110]⟩,⟨#[114,97,110,103,101]⟩,⟨#[115,108,105,100,101]⟩]
theorem jc {α:Type} {W:World} {n:Nat} {C:Array Value} {t:TypeId} {fz:Nat×Nat} (h:W.heap[n]? = some (.cells C t fz)) {sz:Nat} {rd:α→List Value→Prop} {xs:List α}
  (f:α→List Value) (hf: ∀x,x∈xs→rd x (f x)) (hsz: ∀x,x∈xs→(f x).length=sz) (hC:C.toList=xs.flatMap f) {m cap:Nat} (hm:m=xs.length) (hc:m≤cap) (hc2:cap≤maxLen) :
  dW W sz rd xs (.slice (some ⟨n,0,none⟩) m cap):=by
 subst hm
 refine .inr ⟨n,0,cap,rfl,hc,hc2,fun i x hx=>⟨f x,hf x (Jz hx), ?_⟩⟩
 have key: ∀(l:List α) (i:Nat) (x:α),(∀x,x∈l→(f x).length=sz)→l[i]? = some x→ ∀j v,(f x)[j]? = some v→(l.flatMap f)[i * sz+j]? = some v:=by
  intro l
  induction l with
  | nil=>intro i x _ h;simp at h
  | cons y l ih=>
   intro i x hl hx j v hj
   rw [List.flatMap_cons]
   cases i with
   | zero=>
    simp at hx;subst hx
    rw [List.getElem?_append_left (by rw [Nat.zero_mul,Nat.zero_add];exact (List.getElem?_eq_some_iff.1 hj).1)]
    simpa using hj
   | succ i=>
    have hy:=hl y (by simp)
    rw [List.getElem?_append_right (by rw [hy,Nat.succ_mul];omega),hy,show (i+1) * sz+j - sz=i * sz+j by rw [Nat.succ_mul];omega]
    exact ih i x (fun x hx=>hl x (by simp [hx])) (by simpa using hx) j v hj
 have hcell: ∀j v,(f x)[j]? = some v→W.cell? ⟨n,0+i * sz+j,none⟩=some v:=by
  intro j v hj
  have:=key xs i x hsz hx j v hj
  rw [←hC] at this
  simp only [World.cell?,h]
  simpa using this
 generalize 0+i * sz=o at hcell
 clear hf hsz hC key hx
 generalize f x=vs at hcell
 induction vs generalizing o with
 | nil=>trivial
 | cons y vs ih=>exact ⟨by simpa using hcell 0 y rfl,ih (o+1) (fun j v hj=>by rw [show o+1+j=o+(j+1) by omega];exact hcell (j+1) v (by simpa using hj))⟩
theorem aX (W:World) (o:Obj):(W.alloc o).heap[W.heap.size]? = some o:=by
 show (W.heap.push o)[W.heap.size]? = some o
 simp
def kU (s:ByteArray):Int:=if h:0<s.size then (s[0]'h).toNat else 0
def cz (s:ByteArray):Bool:=gJ s&&jy (kU s) && !words.any (fun x=>dr s x)
theorem oR {s:ByteArray} (h:gJ s=true):0<s.size∧s.size≤20:=by
 simp only [gJ,Bool.and_eq_true,decide_eq_true_eq] at h
 omega
/-! values, parts of expressions -/
def eI (n:Nat):Bool:= !(decide (n<32)||decide (126<n)||n==34||n==92)
def fX (s:ByteArray):Bool:=s.data.toList.all (fun b=>eI b.toNat)
def eh (s:ByteArray):Bool:=decide (s.size=0)
def fC:Int:=1099511627776
def aI (v:iI):Bool:=if v.kind==1 then eh v.text&&decide (-fC≤v.num)&&decide (v.num≤fC) else
 if v.kind==2 then v.num==0&&decide (v.text.size≤40)&&fX v.text else false
def aM (k:Int) (s:ByteArray) (n:Nat):Bool:=if k==1 then decide (n=0)&&cz s else
 if k==2||k==3 then decide (1<n)&&eh s else
 if k==4||k==5||k==6 then decide (n=1)&&eh s else false
theorem iB {s:ByteArray} {j:Nat} (h:j<s.size) (hf:eI s[j].toNat=false):fX s=false:=by
 rw [fX, ← JJ,dw];exact fun hh=>by rw [hh j h] at hf;cases hf
theorem oe {s:ByteArray} (h: ∀j (h:j<s.size),eI s[j].toNat=true):fX s=true:=by
 rw [fX,dw (fun b=>eI b.toNat)];exact h
theorem lQ (n:Nat):(n<32∧eI n=false)∨(32≤n∧126<n∧eI n=false)∨(32≤n∧n≤126∧((n:Int)==34)=true∧eI n=false) ∨
  (32≤n∧n≤126∧((n:Int)==34)=false∧((n:Int)==92)=true∧eI n=false)∨(32≤n∧n≤126∧((n:Int)==34)=false∧((n:Int)==92)=false∧eI n=true):=by
 unfold eI
 by_cases h1:n<32
 ·exact .inl ⟨h1,by simp [h1]⟩
 ·by_cases h2:126<n
  ·exact .inr (.inl ⟨by omega,h2,by simp [h2]⟩)
  ·by_cases h3:n=34
   ·subst h3;exact .inr (.inr (.inl ⟨by omega,by omega,rfl,rfl⟩))
   ·by_cases h4:n=92
    ·subst h4;exact .inr (.inr (.inr (.inl ⟨by omega,by omega,rfl,rfl,rfl⟩)))
    ·exact .inr (.inr (.inr (.inr ⟨by omega,by omega,by simp;omega,by simp;omega,by simp [h1,h2,h3,h4]⟩)))
/-! well-formed data: texts no longer than they may be -/
def jx (s:ByteArray):Prop:=s.size≤140737488355328
theorem jx.len {s:ByteArray} (h:jx s):s.size≤maxLen:=by unfold jx at h;unfold maxLen;omega
mutual
def Ex.ok:Ex→Prop
 | .mk _ s l=>jx s∧lH l
def lH:List Ex→Prop
 | []=>True
 | x :: xs=>x.ok∧lH xs
end
theorem mb: ∀ {l:List Ex},lH l ↔ ∀x,x∈l→x.ok
 | []=>by simp [lH]
 | x :: xs=>by simp [lH,mb (l:=xs)]
def iI.ok (v:iI):Prop:=jx v.text
def cg.ok (o:cg):Prop:=jx o.name∧jx o.key∧o.val.ok
def ew.ok (c:ew):Prop:=c.left.ok∧c.right.ok
def cQ.ok (p:cQ):Prop:=jx p.aD∧jx p.to∧jx p.label∧jx p.name∧p.expr.ok
def dF.ok (q:dF):Prop:=(∀p,p∈q.ao→p.ok)∧(∀c,c∈q.conds→c.ok)∧(∀o,o∈q.ret→o.ok)
def dF.small (q:dF):Prop:=q.ao.length≤140737488355328∧q.conds.length≤140737488355328∧q.ret.length≤140737488355328
/-! an expression's parts, it first -/
mutual
def ak:Ex→List Ex
 | .mk k s l=> .mk k s l :: bN l
def bN:List Ex→List Ex
 | []=>[]
 | x :: xs=>ak x++bN xs
end
theorem bJ: ∀l:List Ex,bN l=l.flatMap ak
 | []=>rfl
 | x :: xs=>by rw [bN,bJ xs,List.flatMap_cons]
theorem fW (a b:List Ex):bN (a++b)=bN a++bN b:=by simp [bJ]
theorem l9 (l:List Ex) (k:Nat):(bN (l.take k)).length≤(bN l).length:=by
 have:=congrArg List.length (fW (l.take k) (l.drop k))
 rw [List.take_append_drop,List.length_append] at this
 omega
theorem kR {l:List Ex} {k:Nat} (h:k<l.length):bN (l.take (k+1))=bN (l.take k)++ak l[k]:=by
 rw [List.take_succ_eq_append_getElem h,fW];simp [bN]
def Ex.part:Ex→Bool| .mk k s l=>aM k s l.length
def gp (x:Ex):Bool:=decide ((ak x).length≤24)&&(ak x).all Ex.part
def Ex.sig:Ex→Int×ByteArray×Nat
 | .mk k s l=>(k,s,l.length)
def nh (s:Int×ByteArray×Nat):Bool:=aM s.1 s.2.1 s.2.2
theorem Aw (x:Ex):x.part=nh x.sig:=by obtain ⟨k,s,l⟩:=x;rfl
theorem mQ (x:Ex):gp x=(decide (((ak x).map Ex.sig).length≤24)&&((ak x).map Ex.sig).all nh):=by
 rw [gp,List.length_map,List.all_map]
 congr 2
 funext y
 exact Aw y
structure XC where
 kind:Int
 label:ByteArray
 ptr:Option Addr
 len:Nat
 cap:Nat
 hl:label.size≤maxLen
 hn:len≤maxLen
def XC.val (x:XC):Value:= .agg #[.int .i64 x.kind, .string x.label, .slice x.ptr x.len x.cap]
def XC.sig (x:XC):Int×ByteArray×Nat:=(x.kind,x.label,x.len)
/-! operands, patterns, conditions, queries: are they right? -/
def iI.none (v:iI):Bool:=v.kind==0&&v.num==0&&eh v.text
def aP (o:cg):Bool:=if o.kind==1 then cz o.name&&eh o.key&&o.val.none else
 if o.kind==2 then cz o.name&&cz o.key&&o.val.none else
 if o.kind==3 then aI o.val&&eh o.name&&eh o.key else false
def aR (p:cQ):Bool:=cz p.aD&&cz p.to&&if p.path then eh p.label&&eh p.name&&gp p.expr else
 cz p.label&&(eh p.name||cz p.name)&&cp p.expr (.mk 0 ⟨#[]⟩ [])
def kr (n a b:Int):Bool:=decide (a≤n)&&decide (n≤b)
def bU (c:ew):Bool:=kr c.op 1 6&&aP c.left&&aP c.right
def cq (o:cg):Bool:=o.kind !=3&&aP o
def aQ (q:dF):Bool:=kr q.ao.length 1 4&&decide (q.conds.length≤6)&&kr q.ret.length 1 4&&kr q.range 1 1048576&&kr q.cU 1 1048576 &&
 q.ao.all aR&&q.conds.all bU&&q.ret.all cq
theorem fL (s:ByteArray):s.toList.isEmpty=eh s:=by rw [dk,eh]
/-! the size of a query, as far as 401: the statements' own guard -/
mutual
def tf:Ex→Nat→Nat
 | .mk _ _ l,deep=>if 60<deep then 401 else kS l (deep+1) 1
def kS:List Ex→Nat→Nat→Nat
 | [],_,n=>n
 | x :: xs,deep,n=>if n≤400 then kS xs deep (n+tf x deep) else n
end
theorem Bf: ∀(l:List Ex) (deep n:Nat),400<n→kS l deep n=n
 | [],_,_,_=>by rw [kS]
 | x :: xs,deep,n,h=>by rw [kS,if_neg (by omega)]
theorem qk (x:Ex): ∀deep,deep≤61→tf x deep≤401+400 * (61 - deep)∧(tf x deep≤400→tf x deep=(ak x).length):=by
 induction x using Ex.ind with
 | h k s l ih=>
  intro deep hd
  rw [tf,ak]
  by_cases h:60<deep
  ·rw [if_pos h];exact ⟨by omega,fun h=>by omega⟩
  ·rw [if_neg h]
   have key: ∀(l:List Ex),(∀x,x∈l→ ∀deep,deep≤61→tf x deep≤401+400 * (61 - deep)∧(tf x deep≤400→tf x deep=(ak x).length))→ ∀n,n≤400 →
     kS l (deep+1) n≤400+(401+400 * (61 - (deep+1)))∧(kS l (deep+1) n≤400→kS l (deep+1) n=n+(bN l).length):=by
    intro l
    induction l with
    | nil=>intro _ n hn;rw [kS,bN];exact ⟨by omega,fun _=>by simp⟩
    | cons y ys ihl=>
     intro hall n hn
     rw [kS,if_pos hn,bN]
     obtain ⟨h1,h2⟩:=hall y (by simp) (deep+1) (by omega)
     by_cases h3:n+tf y (deep+1)≤400
     ·obtain ⟨h4,h5⟩:=ihl (fun x hx=>hall x (by simp [hx])) _ h3
      exact ⟨h4,fun h=>by rw [h5 h,h2 (by omega),List.length_append];omega⟩
     ·rw [Bf _ _ _ (by omega)]
      exact ⟨by omega,fun h=>by omega⟩
   obtain ⟨h1,h2⟩:=key l ih 1 (by omega)
   exact ⟨by omega,fun h=>by rw [h2 h];simp;omega⟩
def mW:List cQ→Nat→Nat
 | [],n=>n
 | p :: ps,n=>if n≤400 then mW ps (n+tf p.expr 0) else n
def Di (q:dF):Nat:=mW q.ao (q.ao.length+q.conds.length+q.ret.length)
theorem tM: ∀(l:List cQ) (n:Nat),mW l n≤400→n≤400∧n+(l.map (fun p=>(ak p.expr).length)).sum≤400
 | [],n,h=>by rw [mW] at h;simpa using h
 | p :: ps,n,h=>by
  rw [mW] at h
  by_cases hn:n≤400
  ·rw [if_pos hn] at h
   obtain ⟨h1,h2⟩:=tM ps _ h
   obtain ⟨_,h4⟩:=qk p.expr 0 (by omega)
   have:=h4 (by omega)
   simp only [List.map_cons,List.sum_cons]
   omega
  ·rw [if_neg hn] at h;omega
theorem kI {l:List Nat} {n:Nat} (h:n∈l):n≤l.sum:=by
 induction l with
 | nil=>cases h
 | cons x xs ih=>
  rw [List.sum_cons]
  cases h with
  | head=>omega
  | tail _ h=>have:=ih h;omega
theorem qb {q:dF} (h:Di q≤400):q.ao.length+q.conds.length+q.ret.length+(q.ao.map (fun p=>(ak p.expr).length)).sum≤400∧ ∀p,p∈q.ao→(ak p.expr).length≤400:=by
 obtain ⟨h1,h2⟩:=tM _ _ h
 refine ⟨h2,fun p hp=> ?_⟩
 have:(ak p.expr).length≤(q.ao.map (fun p=>(ak p.expr).length)).sum:=kI (List.mem_map.2 ⟨p,hp,rfl⟩)
 omega
end Go.Proofs.YtldnlbcibmmbbaaGreat
