/- Ranging over functions: what a round keeps of what an iterator reads. No function of the program is named here. -/
import Derived.RangeFuncNested
import Derived.RangeFuncBound
import Derived.RangeFuncCalls
import Derived.RangeFuncLeaves
import Derived.Shelf.Abstract
import Derived.Shelf.RegionOpen
import Derived.OwnWalkIn
import Derived.TacticsInMore
import Derived.LoopNIn
import Derived.LoopIn
import Derived.Maps.AppendAt
import Derived.Test.YtldnlbcibmmbbaaGreatWBase2
set_option linter.unusedSimpArgs false
set_option linter.unusedVariables false
open Array renaming getElem?_eq_some_iff → IY
namespace Go.Proofs.YtldnlbcibmmbbaaGreat
open Go.RowKit Go.Shelf
theorem sG {F:Fence} (hd:F.depth=none) (k:Nat):F.room k:=fun d h=>by rw [hd] at h;cases h
theorem mh {F:Fence} (hd:F.depth=none) {m m':Nat} {P:Program} {l:Nat} {f:FuncId} {tmps:Array Value} {assign body:Code} {w:World} {R:Ending→World→Prop}
  (h:RoundIn F m P l f tmps assign body w R):RoundIn F m' P l f tmps assign body w R:=⟨h.1,fun c cs _=>h.2 c cs (sG hd _)⟩
theorem mE {F:Fence} (hd:F.depth=none) {m:Nat} (m':Nat) {P:Program} {l:Nat} {args:Array Value} {W:World} {R:Ending→World→Prop} (h:YieldAt F m P l args W R):YieldAt F m' P l args W R:=by
 obtain ⟨fn,tmps,assign,body,hy,hR⟩:=h
 exact ⟨fn,tmps,assign,body,hy,mh hd hR⟩
def rA (lo hi:Nat) (e:TypeId) (k:Nat):Obj→Prop
 | .cells _ T _=>k<lo∨(hi≤k∧T≠e)
 | o=>o.isWalk=true∧(k<lo∨hi≤k)
structure Kept (lo hi:Nat) (e:TypeId) (W W':World):Prop where
 size:W.heap.size≤W'.heap.size
 same: ∀(k:Nat) (o:Obj),W.heap[k]? = some o→rA lo hi e k o→W'.heap[k]? = some o
theorem Kept.refl (lo hi:Nat) (e:TypeId) (W:World):Kept lo hi e W W:=⟨Nat.le_refl _,fun _ _ h _=>h⟩
theorem Kept.trans {lo hi:Nat} {e:TypeId} {A B C:World} (h:Kept lo hi e A B) (k:Kept lo hi e B C):Kept lo hi e A C:=
 ⟨Nat.le_trans h.size k.size,fun i o hx ho=>k.same i o (h.same i o hx ho) ho⟩
theorem Kept.below {lo hi:Nat} {e:TypeId} {W W':World} (h:Below W.heap.size W W'):Kept lo hi e W W':=
 ⟨h.size,fun k _ hk _=>(h.block k (IY.1 hk).1).trans hk⟩
theorem Kept.alloc {lo hi:Nat} {e:TypeId} (W:World) (o:Obj):Kept lo hi e W (W.alloc o):= .below ((Below.refl _ _).alloc (Nat.le_refl _) o)
theorem yT {lo hi:Nat} {e:TypeId} {k:Nat} {o:Obj} (h:rA lo hi e k o):k<lo∨hi≤k:=by
 cases o<;>simp only [rA] at h<;>omega
theorem Kept.setCell {lo hi:Nat} {e:TypeId} (W:World) {b o:Nat} (h1:lo≤b) (h2:b<hi) (v:Value):Kept lo hi e W (W.setCell ⟨b,o,none⟩ v):=
 ⟨by show _≤(W.heap.modify _ _).size;rw [Array.size_modify];exact Nat.le_refl _,fun k _ hx hk=>(Below.heap_setCell W _ v k (fun e=>by have e2:k=b:=e;have:=yT hk;omega)).trans hx⟩
theorem Kept.putObj {lo hi:Nat} {e:TypeId} (W:World) (l:Nat) (o o':Obj) (h:W.heap[l]? = some o) (hc:o.isCells=false) (hw:o.isWalk=false):Kept lo hi e W (W.putObj l o'):=
 ⟨by simp,fun k o'' hx ho=>(World.putObj_heap_other (fun e=>by
  subst e;rw [h] at hx;cases hx
  cases o<;>simp_all [rA,Obj.isCells])).trans hx⟩
theorem Kept.grown {lo hi:Nat} {e:TypeId} {W W':World} {row:Option Nat} (hg:W.grownBy W' row) (h: ∀r o,row=some r→W.heap[r]? = some o→ ¬rA lo hi e r o):Kept lo hi e W W':=
 ⟨hg.size,fun k o hx hk=>(hg.block k (IY.1 hx).1 (fun e=>h k o e.symm hx hk)).trans hx⟩
theorem Kept.cells {lo hi:Nat} {e:TypeId} {w0 W W':World} (h:Kept lo hi e W W') (hc:Cells w0 W) (hlo:w0.heap.size≤lo):Cells w0 W':=fun b o v hv=>by
 have hb:=cr hv
 have h1:=hc b o v hv
 unfold World.cell? at h1 ⊢
 cases hw:W.heap[b]? with
 | none=>simp [hw] at h1
 | some ob=>
  cases ob with
  | cells C T fz=>
   have:=h.same b _ hw (.inl (by omega))
   simp only [this]
   simpa [hw] using h1
  | _=>simp [hw] at h1
theorem Kept.box {lo hi:Nat} {e:TypeId} {W W':World} (h:Kept lo hi e W W') {k:Nat} {C:Array Value} {T:TypeId} {fz:Nat×Nat} (hk:hi≤k) (hT:T≠e) (hx:W.heap[k]? = some (.cells C T fz)):W'.heap[k]? = some (.cells C T fz):=
 h.same k _ hx (.inr ⟨hk,hT⟩)
def Hj {α:Type} (J Jx:List α→World→Prop) (Kp:World→World→Prop) (pre:List α) (x:α) (W:World) (e:Ending) (W':World):Prop:=
 (e = .returned (.bool true)∧J (pre++[x]) W'∧Kp W W')∨(e = .returned (.bool false)∧Jx (pre++[x]) W')
theorem ag {w:World} {k:Nat} {C:Array Value} {T:TypeId} {fz:Nat×Nat} (h:w.heap[k]? = some (.cells C T fz)) (o:Nat):w.cell? ⟨k,o,none⟩=C[o]? :=by simp [World.cell?,h]
theorem bK {w:World} {k:Nat} {C:Array Value} {T:TypeId} (h:w.heap[k]? = some (.cells C T (0,0))) (o:Nat):w.frozen? ⟨k,o,none⟩=false:=by simp [World.frozen?,h]
theorem gY {w:World} {k:Nat} {ob:Obj} (h:w.heap[k]? = some ob) (o:Obj):(w.alloc o).heap[k]? = some ob:=(Below.heap_alloc w o k (IY.1 h).1).trans h
theorem dQ {w:World} {k:Nat} {ob:Obj} (h:w.heap[k]? = some ob) {b o:Nat} (v:Value) (hne:k≠b):(w.setCell ⟨b,o,none⟩ v).heap[k]? = some ob:=(Below.heap_setCell w _ v k hne).trans h
theorem fl {w:World} {k:Nat} {v:Value} {T:TypeId} {fz:Nat×Nat} (h:w.heap[k]? = some (.cells #[v] T fz)) (u:Value):(w.setCell ⟨k,0,none⟩ u).heap[k]? = some (.cells #[u] T fz):=by
 simp [World.setCell,Array.getElem?_modify,h]
theorem dM {w:World} {k D:Nat} {ob:Obj} (h:w.heap[k]? = some ob) (o:Obj) (hne:k≠D):(w.putObj D o).heap[k]? = some ob:=(World.putObj_heap_other hne).trans h
theorem jn {B:Nat} {W W':World} (h:Below W.heap.size W W'):KeepsFrom B W W':=⟨h.size,fun k _ _ hk _=>(h.block k (IY.1 hk).1).trans hk⟩
/-! ### The law of a range over a function, in the three forms that the translation has for the loop's variable -/
theorem fG {β:Type} (B0 B:Nat) (C:β→Array Value) (T:TypeId):OwnFrom B0 (fun (s:β) W=>W.heap[B]? = some (.cells (C s) T (0,0))):=fun s X Y row hs hg hr=>by
 refine (hg.block B (IY.1 hs).1 (fun e=> ?_)).trans hs
 obtain ⟨_,o,ho,hc⟩:=hr B e.symm
 rw [hs] at ho;cases ho;cases hc
def cA {α:Type} (encs:α→Array Value) (ps:Array Tmp) (a:Act) (x:α):Act:={ tmps:=(ps.toList.zip (encs x).toList).foldl (fun t pv=>t.setIfInBounds pv.1 pv.2) a.tmps,defers:=[] }
theorem rh {α:Type} (encs:α→Array Value) (ps:Array Tmp) (a:Act) (x:α):cA encs ps a x={ tmps:=(ps.zip (encs x)).foldl (fun t (p,v)=>t.setIfInBounds p v) a.tmps,defers:=[] }:=by
 rw [cA, ← Array.toList_zip,Array.foldl_toList]
def Act.ic (a:Act) (d:Nat) (v:Value):Act:={ a with tmps:=a.tmps.setIfInBounds d v }
section
variable {P:Program} {α:Type} {g:Operand} {ps:Array Tmp} {assign body:Code} {Q:Exit→Act→World→Prop} {a:Act} {w:World}
theorem u5 {lo hi gf:Nat} {et:TypeId} {lb:Array Value} (hg:a.eval g = .func (.func gf) #[] lb) (eg: ∀args w,(callFunc gf args).run P w = .ok (.enter gf args) w)
  {encs:α→Array Value} {S Sp:List α→Prop} {N:Nat} {w0:World} (hseq:SeqStopsK Fence.wide 8 P gf lb encs (Kept lo hi et) S Sp N w0)
  (hb0:Below w0.heap.size w0 w) (hps: ∀x,(encs x).size=ps.size)
  (I:List α→World→Prop) (Ix:Code→List α→World→Prop) (hI:OwnFrom w.heap.size I) (hIx: ∀c,OwnFrom w.heap.size (Ix c)) (h0:I [] w) (a₁:α→Act)
  (hassign: ∀(l:Nat) (x:α) (W:World) (K:Act→World→Prop),K (a₁ x) W →
   assign.wpIn (Fence.wide.inRound l) 7 P (Exit.then K (fun _ _ _=>False)) (cA encs ps a x) W)
  (hbody: ∀(l:Nat) (pre:List α) (x:α) (W:World),w.heap.size≤l→(∃r,W.heap[l]? = some (.loop r))→I pre W→pre.length<N→body.wpIn (Fence.wide.inRound l) 7 P (ownPostG w.heap.size (Kept lo hi et) I Ix (pre++[x]) W) (a₁ x) W)
  (hdone: ∀(D:Nat) (xs:List α) (W:World),w.heap.size≤D→S xs→I xs W→W.heap[D]? = some (.deferred (some []))→Q .normal { a with defers:={ target:= .collected D,args:= #[] } :: a.defers } W)
  (hstop: ∀(D:Nat) (c:Code) (pre:List α) (W:World),w.heap.size≤D→Sp pre→Ix c pre W→W.heap[D]? = some (.deferred (some []))→c.wpIn Fence.wide 9 P Q { a with defers:={ target:= .collected D,args:= #[] } :: a.defers } W) :
  (Code.rangeFunc g ps assign body).wpIn Fence.wide 9 P Q a w:=
 wpIn_rangeFunc_ownH (F:=Fence.wide) (n:=9) rfl (by omega) hg trivial eg hseq Kept.trans (fun W l o o' _ h hc hw=>Kept.putObj W l o o' h hc hw) hb0 hps I Ix hI hIx h0
  (fun x a' _=>a'=a₁ x) (fun x a' _ _ _ _ hs _ _=>hs)
  (fun l pre x W K hi' hK=>rh encs ps a x ▸ hassign l x W K (hK _ W (KeepsFrom.refl _ W) (Kept.refl _ _ _ W) hi' rfl))
  (fun l pre x a' W hl hr hi' ha hn=>by subst ha;exact hbody l pre x W hl hr hi' hn) hdone hstop
theorem CC {lo hi gf:Nat} {et:TypeId} {lb:Array Value} (hg:a.eval g = .func (.func gf) #[] lb) (eg: ∀args w,(callFunc gf args).run P w = .ok (.enter gf args) w)
  {encs:α→Array Value} {S Sp:List α→Prop} {N:Nat} {w0:World} (hseq:SeqStopsK Fence.wide 8 P gf lb encs (Kept lo hi et) S Sp N w0)
  (hb0:Below w0.heap.size w0 w) (hps: ∀x,(encs x).size=ps.size)
  (I:List α→World→Prop) (Ix:Code→List α→World→Prop) (hI:OwnFrom w.heap.size I) (hIx: ∀c,OwnFrom w.heap.size (Ix c)) (h0:I [] w)
  (hassign: ∀(l:Nat) (x:α) (W:World) (K:Act→World→Prop),K (cA encs ps a x) W →
   assign.wpIn (Fence.wide.inRound l) 7 P (Exit.then K (fun _ _ _=>False)) (cA encs ps a x) W)
  (hbody: ∀(l:Nat) (pre:List α) (x:α) (W:World),w.heap.size≤l→(∃r,W.heap[l]? = some (.loop r))→I pre W→pre.length<N→body.wpIn (Fence.wide.inRound l) 7 P (ownPostG w.heap.size (Kept lo hi et) I Ix (pre++[x]) W) (cA encs ps a x) W)
  (hdone: ∀(D:Nat) (xs:List α) (W:World),w.heap.size≤D→S xs→I xs W→W.heap[D]? = some (.deferred (some []))→Q .normal { a with defers:={ target:= .collected D,args:= #[] } :: a.defers } W)
  (hstop: ∀(D:Nat) (c:Code) (pre:List α) (W:World),w.heap.size≤D→Sp pre→Ix c pre W→W.heap[D]? = some (.deferred (some []))→c.wpIn Fence.wide 9 P Q { a with defers:={ target:= .collected D,args:= #[] } :: a.defers } W) :
  (Code.rangeFunc g ps assign body).wpIn Fence.wide 9 P Q a w:=
 u5 hg eg hseq hb0 hps I Ix hI hIx h0 (cA encs ps a) hassign hbody hdone hstop
theorem Ft {lo hi gf:Nat} {et:TypeId} {lb:Array Value} (hg:a.eval g = .func (.func gf) #[] lb) (eg: ∀args w,(callFunc gf args).run P w = .ok (.enter gf args) w)
  {encs:α→Array Value} {S Sp:List α→Prop} {N:Nat} {w0:World} (hseq:SeqStopsK Fence.wide 8 P gf lb encs (Kept lo hi et) S Sp N w0)
  (hb0:Below w0.heap.size w0 w) (hps: ∀x,(encs x).size=ps.size)
  (I:List α→World→Prop) (Ix:Code→List α→World→Prop) (hI:OwnFrom w.heap.size I) (hIx: ∀c,OwnFrom w.heap.size (Ix c)) (h0:I [] w) (d:Nat) (v:α→Value)
  (hassign: ∀(l:Nat) (x:α) (W:World) (K:Act→World→Prop),K (Act.ic (cA encs ps a x) d (v x)) W →
   assign.wpIn (Fence.wide.inRound l) 7 P (Exit.then K (fun _ _ _=>False)) (cA encs ps a x) W)
  (hbody: ∀(l:Nat) (pre:List α) (x:α) (W:World),w.heap.size≤l→(∃r,W.heap[l]? = some (.loop r))→I pre W→pre.length<N→body.wpIn (Fence.wide.inRound l) 7 P (ownPostG w.heap.size (Kept lo hi et) I Ix (pre++[x]) W) (Act.ic (cA encs ps a x) d (v x)) W)
  (hdone: ∀(D:Nat) (xs:List α) (W:World),w.heap.size≤D→S xs→I xs W→W.heap[D]? = some (.deferred (some []))→Q .normal { a with defers:={ target:= .collected D,args:= #[] } :: a.defers } W)
  (hstop: ∀(D:Nat) (c:Code) (pre:List α) (W:World),w.heap.size≤D→Sp pre→Ix c pre W→W.heap[D]? = some (.deferred (some []))→c.wpIn Fence.wide 9 P Q { a with defers:={ target:= .collected D,args:= #[] } :: a.defers } W) :
  (Code.rangeFunc g ps assign body).wpIn Fence.wide 9 P Q a w:=
 u5 hg eg hseq hb0 hps I Ix hI hIx h0 (fun x=>Act.ic (cA encs ps a x) d (v x)) hassign hbody hdone hstop
theorem D6 {lo hi gf:Nat} {et:TypeId} {lb:Array Value} (hg:a.eval g = .func (.func gf) #[] lb) (eg: ∀args w,(callFunc gf args).run P w = .ok (.enter gf args) w)
  {encs:α→Array Value} {S Sp:List α→Prop} {N:Nat} {w0:World} (hseq:SeqStopsK Fence.wide 8 P gf lb encs (Kept lo hi et) S Sp N w0)
  (hb0:Below w0.heap.size w0 w) (hps: ∀x,(encs x).size=ps.size)
  (I:List α→World→Prop) (Ix:Code→List α→World→Prop) (hI:OwnFrom w.heap.size I) (hIx: ∀c,OwnFrom w.heap.size (Ix c)) (h0:I [] w) (d:Nat) (C:α→Array Value) (T:TypeId)
  (hsz: ∀pre W,I pre W→w.heap.size≤W.heap.size)
  (hassign: ∀(l:Nat) (x:α) (W:World) (K:Act→World→Prop),K (Act.ic (cA encs ps a x) d (.pointer (some ⟨W.heap.size,0,none⟩))) (W.alloc (.cells (C x) T)) →
   assign.wpIn (Fence.wide.inRound l) 7 P (Exit.then K (fun _ _ _=>False)) (cA encs ps a x) W)
  (hbody: ∀(l:Nat) (pre:List α) (x:α) (B:Nat) (W:World),w.heap.size≤l→(∃r,W.heap[l]? = some (.loop r))→I pre W→w.heap.size≤B→W.heap[B]? = some (.cells (C x) T (0,0))→pre.length<N →
   body.wpIn (Fence.wide.inRound l) 7 P (ownPostG w.heap.size (Kept lo hi et) I Ix (pre++[x]) W) (Act.ic (cA encs ps a x) d (.pointer (some ⟨B,0,none⟩))) W)
  (hdone: ∀(D:Nat) (xs:List α) (W:World),w.heap.size≤D→S xs→I xs W→W.heap[D]? = some (.deferred (some []))→Q .normal { a with defers:={ target:= .collected D,args:= #[] } :: a.defers } W)
  (hstop: ∀(D:Nat) (c:Code) (pre:List α) (W:World),w.heap.size≤D→Sp pre→Ix c pre W→W.heap[D]? = some (.deferred (some []))→c.wpIn Fence.wide 9 P Q { a with defers:={ target:= .collected D,args:= #[] } :: a.defers } W) :
  (Code.rangeFunc g ps assign body).wpIn Fence.wide 9 P Q a w:=
 wpIn_rangeFunc_ownH (F:=Fence.wide) (n:=9) rfl (by omega) hg trivial eg hseq Kept.trans (fun W l o o' _ h hc hw=>Kept.putObj W l o o' h hc hw) hb0 hps I Ix hI hIx h0
  (fun x a' W=> ∃B,w.heap.size≤B∧a'=Act.ic (cA encs ps a x) d (.pointer (some ⟨B,0,none⟩))∧W.heap[B]? = some (.cells (C x) T (0,0)))
  (fun x a' s X Y row hs hg' hr=>by
   obtain ⟨B,h1,h2,h3⟩:=hs
   exact ⟨B,h1,h2,fG (β:=Unit) w.heap.size B (fun _=>C x) T () X Y row h3 hg' hr⟩)
  (fun l pre x W K hi' hK=>rh encs ps a x ▸ hassign l x W K (hK _ _ (((KeepsOthers.alloc W _).from _)) (Kept.alloc W _) (hI.alloc _ hi') ⟨W.heap.size,hsz _ _ hi',rfl,aX W _⟩))
  (fun l pre x a' W hl hr hi' ha hn=>by
   obtain ⟨B,h1,rfl,h3⟩:=ha
   exact hbody l pre x B W hl hr hi' h1 h3 hn) hdone hstop
end
theorem qD {W w1:World} {lo hi B size k:Nat} {e:TypeId} {v:Value} {xs:List Value} {tmp:Obj} (hrow:W.ownsRow lo e size v k xs) (hgrow:(W.alloc tmp).grownBy w1 v.ownBlock) (hlo:lo≤B) (hB:B<hi) (v':Value) :
  Kept lo hi e W (w1.setCell ⟨B,0,none⟩ v'):=by
 refine ((Kept.alloc W tmp).trans (Kept.grown hgrow fun r o hr ho hk=> ?_)).trans (Kept.setCell _ hlo hB _)
 rcases (hrow.alloc tmp).2 with ⟨rfl,_⟩|⟨g,cap,cur,rfl,hg,hgb,_⟩
 ·simp [Value.ownBlock] at hr
 ·obtain rfl:g=r:=by simpa [Value.ownBlock] using hr
  rw [hgb] at ho;cases ho
  simp only [rA] at hk
  rcases hk with hk|hk
  ·omega
  ·exact hk.2 rfl
theorem tS {P:Program} {n:Nat} {c:Code} {Q:Exit→Act→World→Prop} {a:Act} {w:World} (h:c.wpIn Fence.wide n P (Exit.noGoto Q) a w):(Code.scope c).wpIn Fence.wide n P Q a w:=
 wpIn_wide.2 (wp_scope_straight (wpIn_wide.1 h))
theorem iY {w W:World} (h:Below w.heap.size w W) {D:Nat} {o:Obj} (hD:w.heap.size≤D) (o':Obj) (_:W.heap[D]? = some o):Below w.heap.size w (W.putObj D o'):=
 h.grown (grownBy_putObj' W D o') (h.size) (fun k e=>by cases e;exact hD)
end Go.Proofs.YtldnlbcibmmbbaaGreat
