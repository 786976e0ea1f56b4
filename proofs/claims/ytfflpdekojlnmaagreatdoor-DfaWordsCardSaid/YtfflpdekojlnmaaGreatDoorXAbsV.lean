/- texts of one claim, one behind the other. -/
import Derived.RangeFuncNested
import Derived.RangeFuncBound
import Derived.RangeFuncCalls
import Derived.RangeFuncLeaves
import Derived.Shelf.Abstract
import Derived.Shelf.RegionOpen
import Derived.OwnWalkIn
import Derived.TacticsInMore
import Derived.LoopNIn
import Derived.LoopIn
import Derived.Maps.AppendAt
import Derived.Test.YtfflpdekojlnmaaGreatDoorXFen
import Derived.Test.YtfflpdekojlnmaaGreatDoorProg
import Derived.Test.YtfflpdekojlnmaaGreatDoorXLang
import Derived.Lib.SlicesCompact
set_option linter.unusedSimpArgs false
set_option linter.unusedVariables false
set_option maxRecDepth 100000
set_option maxHeartbeats 16000000
open Array renaming getElem?_eq_some_iff -> Ua, getD_eq_getD_getElem? -> UY, getElem?_append_left -> UL, getElem?_append_right -> U7
open Bool renaming true_and -> Vq, and_eq_true -> UW, false_eq_true -> Vu, or_eq_true -> Vl, not_eq_true' -> Vz
open List renaming findIdx?_eq_some_iff_getElem -> Vr, findIdx?_eq_none_iff -> Vs, getElem?_eq_some_iff -> Uc, mem_cons_self -> Va, mem_cons -> Vt, getElem?_toArray -> Us, getElem?_append_left -> Ud, getElem?_append_right -> UF, mem_of_getElem? -> UK, getElem?_inj -> Vv, all_eq_true -> Vj, getElem?_eq_getElem -> Uq, getElem_mem -> Vx, getD_eq_getElem?_getD -> U3, mem_range -> Vk, size_toArray -> UA, getElem?_of_mem -> Uz, getElem?_drop -> Uo, getElem?_cons_zero -> Ve
open Nat renaming le_refl -> T7, lt_or_ge -> Ue, eq_zero_or_pos -> Vy
namespace Go.Proofs.YtfflpdekojlnmaaGreatDoor
open Go.RowKit
section
open Go.RowKit Go.Shelf
theorem xM {F:Fence} (hd:F.depth=none) (k:Nat):F.room k:=fun d h=>by rw [hd] at h;cases h
theorem qk {F:Fence} (hd:F.depth=none) {m m':Nat} {P:Program} {l:Nat} {f:FuncId} {tmps:Array Value} {assign body:Code} {w:World} {R:Ending->World->Prop}
  (h:RoundIn F m P l f tmps assign body w R):RoundIn F m' P l f tmps assign body w R:=⟨h.1,fun c cs _=>h.2 c cs (xM hd _)⟩
theorem qx {F:Fence} (hd:F.depth=none) {m:Nat} (m':Nat) {P:Program} {l:Nat} {args:Array Value} {W:World} {R:Ending->World->Prop} (h:YieldAt F m P l args W R):YieldAt F m' P l args W R:=by
 obtain ⟨fn,tmps,assign,body,hy,hR⟩:=h;exact ⟨fn,tmps,assign,body,hy,qk hd hR⟩
def vn (lo hi:Nat) (e:TypeId) (k:Nat):Obj->Prop
 | .cells _ T _=>k<lo∨(hi<=k∧T≠e)
 | o=>o.isWalk=true∧(k<lo∨hi<=k)
structure Kept (lo hi:Nat) (e:TypeId) (W W':World):Prop where
 size:W.heap.size<=W'.heap.size
 same: ∀(k:Nat) (o:Obj),W.heap[k]? = some o->vn lo hi e k o->W'.heap[k]? = some o
theorem Kept.refl (lo hi:Nat) (e:TypeId) (W:World):Kept lo hi e W W:=⟨T7 _,fun _ _ h _=>h⟩
theorem Kept.trans {lo hi:Nat} {e:TypeId} {A B C:World} (h:Kept lo hi e A B) (k:Kept lo hi e B C):Kept lo hi e A C:=
 ⟨Nat.le_trans h.size k.size,fun i o hx ho=>k.same i o (h.same i o hx ho) ho⟩
theorem Kept.below {lo hi:Nat} {e:TypeId} {W W':World} (h:Below W.heap.size W W'):Kept lo hi e W W':=
 ⟨h.size,fun k _ hk _=>(h.block k (Ua.1 hk).1).trans hk⟩
theorem Kept.alloc {lo hi:Nat} {e:TypeId} (W:World) (o:Obj):Kept lo hi e W (W.alloc o):= .below ((Below.refl _ _).alloc (T7 _) o)
theorem EG {lo hi:Nat} {e:TypeId} {k:Nat} {o:Obj} (h:vn lo hi e k o):k<lo∨hi<=k:=by
 cases o<;>simp only [vn] at h<;>omega
theorem Kept.setCell {lo hi:Nat} {e:TypeId} (W:World) {b o:Nat} (h1:lo<=b) (h2:b<hi) (v:Value):Kept lo hi e W (W.setCell ⟨b,o,none⟩ v):=
 ⟨by show _<=(W.heap.modify _ _).size;rw [Array.size_modify];exact T7 _,fun k _ hx hk=>(Below.heap_setCell W _ v k (fun e=>by have e2:k=b:=e;have:=EG hk;omega)).trans hx⟩
theorem Kept.putObj {lo hi:Nat} {e:TypeId} (W:World) (l:Nat) (o o':Obj) (h:W.heap[l]? = some o) (hc:o.isCells=false) (hw:o.isWalk=false):Kept lo hi e W (W.putObj l o'):=
 ⟨by simp,fun k o'' hx ho=>(World.putObj_heap_other (fun e=>by
  subst e;rw [h] at hx;cases hx
  cases o<;>simp_all [vn,Obj.isCells])).trans hx⟩
theorem Kept.grown {lo hi:Nat} {e:TypeId} {W W':World} {row:Option Nat} (hg:W.grownBy W' row) (h: ∀r o,row=some r->W.heap[r]? = some o-> ¬vn lo hi e r o):Kept lo hi e W W':=
 ⟨hg.size,fun k o hx hk=>(hg.block k (Ua.1 hx).1 (fun e=>h k o e.symm hx hk)).trans hx⟩
theorem Kept.cells {lo hi:Nat} {e:TypeId} {w0 W W':World} (h:Kept lo hi e W W') (hc:Cells w0 W) (hlo:w0.heap.size<=lo):Cells w0 W':=fun b o v hv=>by
 have hb:=kS hv;have h1:=hc b o v hv;unfold World.cell? at h1 ⊢
 cases hw:W.heap[b]? with
 | none=>simp [hw] at h1
 | some ob=>
  cases ob with
  | cells C T fz=>
   have:=h.same b _ hw (.inl (by omega))
   simp only [this];simpa [hw] using h1
  | _=>simp [hw] at h1
theorem Kept.box {lo hi:Nat} {e:TypeId} {W W':World} (h:Kept lo hi e W W') {k:Nat} {C:Array Value} {T:TypeId} {fz:Nat×Nat} (hk:hi<=k) (hT:T≠e) (hx:W.heap[k]? = some (.cells C T fz)):W'.heap[k]? = some (.cells C T fz):=
 h.same k _ hx (.inr ⟨hk,hT⟩)
def Tx {α:Type} (J Jx:List α->World->Prop) (Kp:World->World->Prop) (pre:List α) (x:α) (W:World) (e:Ending) (W':World):Prop:=
 (e = .returned (.bool true)∧J (pre++[x]) W'∧Kp W W')∨(e = .returned (.bool false)∧Jx (pre++[x]) W')
theorem aH {w:World} {k:Nat} {C:Array Value} {T:TypeId} {fz:Nat×Nat} (h:w.heap[k]? = some (.cells C T fz)) (o:Nat):w.cell? ⟨k,o,none⟩=C[o]? :=by simp [World.cell?,h]
theorem ct {w:World} {k:Nat} {C:Array Value} {T:TypeId} (h:w.heap[k]? = some (.cells C T (0,0))) (o:Nat):w.frozen? ⟨k,o,none⟩=false:=by simp [World.frozen?,h]
theorem jF {w:World} {k:Nat} {ob:Obj} (h:w.heap[k]? = some ob) (o:Obj):(w.alloc o).heap[k]? = some ob:=(Below.heap_alloc w o k (Ua.1 h).1).trans h
theorem dv {w:World} {k:Nat} {ob:Obj} (h:w.heap[k]? = some ob) {b o:Nat} (v:Value) (hne:k≠b):(w.setCell ⟨b,o,none⟩ v).heap[k]? = some ob:=(Below.heap_setCell w _ v k hne).trans h
theorem je {w:World} {k:Nat} {v:Value} {T:TypeId} {fz:Nat×Nat} (h:w.heap[k]? = some (.cells #[v] T fz)) (u:Value):(w.setCell ⟨k,0,none⟩ u).heap[k]? = some (.cells #[u] T fz):=by
 simp [World.setCell,Array.getElem?_modify,h]
theorem du {w:World} {k D:Nat} {ob:Obj} (h:w.heap[k]? = some ob) (o:Obj) (hne:k≠D):(w.putObj D o).heap[k]? = some ob:=(World.putObj_heap_other hne).trans h
theorem ly {B:Nat} {W W':World} (h:Below W.heap.size W W'):KeepsFrom B W W':=⟨h.size,fun k _ _ hk _=>(h.block k (Ua.1 hk).1).trans hk⟩
theorem jI {β:Type} (B0 B:Nat) (C:β->Array Value) (T:TypeId):OwnFrom B0 (fun (s:β) W=>W.heap[B]? = some (.cells (C s) T (0,0))):=fun s X Y row hs hg hr=>by
 refine (hg.block B (Ua.1 hs).1 (fun e=> ?_)).trans hs;obtain ⟨_,o,ho,hc⟩:=hr B e.symm;rw [hs] at ho;cases ho;cases hc
def handed {α:Type} (encs:α->Array Value) (ps:Array Tmp) (a:Act) (x:α):Act:={ tmps:=(ps.toList.zip (encs x).toList).foldl (fun t pv=>t.setIfInBounds pv.1 pv.2) a.tmps,defers:=[] }
theorem EB {α:Type} (encs:α->Array Value) (ps:Array Tmp) (a:Act) (x:α):handed encs ps a x={ tmps:=(ps.zip (encs x)).foldl (fun t (p,v)=>t.setIfInBounds p v) a.tmps,defers:=[] }:=by
 rw [handed, <- Array.toList_zip,Array.foldl_toList]
def Act.oa (a:Act) (d:Nat) (v:Value):Act:={ a with tmps:=a.tmps.setIfInBounds d v }
section
variable {P:Program} {α:Type} {g:Operand} {ps:Array Tmp} {assign body:Code} {Q:Exit->Act->World->Prop} {a:Act} {w:World}
theorem IQ {lo hi gf:Nat} {et:TypeId} {lb:Array Value} (hg:a.eval g = .func (.func gf) #[] lb) (eg: ∀args w,(callFunc gf args).run P w = .ok (.enter gf args) w)
  {encs:α->Array Value} {S Sp:List α->Prop} {N:Nat} {w0:World} (hseq:SeqStopsK Fence.wide 8 P gf lb encs (Kept lo hi et) S Sp N w0)
  (hb0:Below w0.heap.size w0 w) (hps: ∀x,(encs x).size=ps.size)
  (I:List α->World->Prop) (Ix:Code->List α->World->Prop) (hI:OwnFrom w.heap.size I) (hIx: ∀c,OwnFrom w.heap.size (Ix c)) (h0:I [] w) (d:Nat) (C:α->Array Value) (T:TypeId)
  (hsz: ∀pre W,I pre W->w.heap.size<=W.heap.size)
  (hassign: ∀(l:Nat) (x:α) (W:World) (K:Act->World->Prop),K (Act.oa (handed encs ps a x) d (.pointer (some ⟨W.heap.size,0,none⟩))) (W.alloc (.cells (C x) T)) ->
   assign.wpIn (Fence.wide.inRound l) 7 P (Exit.then K (fun _ _ _=>False)) (handed encs ps a x) W)
  (hbody: ∀(l:Nat) (pre:List α) (x:α) (B:Nat) (W:World),w.heap.size<=l->(∃r,W.heap[l]? = some (.loop r))->I pre W->w.heap.size<=B->W.heap[B]? = some (.cells (C x) T (0,0))->pre.length<N ->
   body.wpIn (Fence.wide.inRound l) 7 P (ownPostG w.heap.size (Kept lo hi et) I Ix (pre++[x]) W) (Act.oa (handed encs ps a x) d (.pointer (some ⟨B,0,none⟩))) W)
  (hdone: ∀(D:Nat) (xs:List α) (W:World),w.heap.size<=D->S xs->I xs W->W.heap[D]? = some (.deferred (some []))->Q .normal { a with defers:={ target:= .collected D,args:= #[] } :: a.defers } W)
  (hstop: ∀(D:Nat) (c:Code) (pre:List α) (W:World),w.heap.size<=D->Sp pre->Ix c pre W->W.heap[D]? = some (.deferred (some []))->c.wpIn Fence.wide 9 P Q { a with defers:={ target:= .collected D,args:= #[] } :: a.defers } W) :
  (Code.rangeFunc g ps assign body).wpIn Fence.wide 9 P Q a w:=
 wpIn_rangeFunc_ownH (F:=Fence.wide) (n:=9) rfl (by omega) hg trivial eg hseq Kept.trans (fun W l o o' _ h hc hw=>Kept.putObj W l o o' h hc hw) hb0 hps I Ix hI hIx h0
  (fun x a' W=> ∃B,w.heap.size<=B∧a'=Act.oa (handed encs ps a x) d (.pointer (some ⟨B,0,none⟩))∧W.heap[B]? = some (.cells (C x) T (0,0)))
  (fun x a' s X Y row hs hg' hr=>by
   obtain ⟨B,h1,h2,h3⟩:=hs
   exact ⟨B,h1,h2,jI (β:=Unit) w.heap.size B (fun _=>C x) T () X Y row h3 hg' hr⟩)
  (fun l pre x W K hi' hK=>EB encs ps a x ▸ hassign l x W K (hK _ _ (((KeepsOthers.alloc W _).from _)) (Kept.alloc W _) (hI.alloc _ hi') ⟨W.heap.size,hsz _ _ hi',rfl,ew W _⟩))
  (fun l pre x a' W hl hr hi' ha hn=>by
   obtain ⟨B,h1,rfl,h3⟩:=ha
   exact hbody l pre x B W hl hr hi' h1 h3 hn) hdone hstop
end
theorem ux {W w1:World} {lo hi B size k:Nat} {e:TypeId} {v:Value} {xs:List Value} {tmp:Obj} (hrow:W.ownsRow lo e size v k xs) (hgrow:(W.alloc tmp).grownBy w1 v.ownBlock) (hlo:lo<=B) (hB:B<hi) (v':Value) :
  Kept lo hi e W (w1.setCell ⟨B,0,none⟩ v'):=by
 refine ((Kept.alloc W tmp).trans (Kept.grown hgrow fun r o hr ho hk=> ?_)).trans (Kept.setCell _ hlo hB _)
 rcases (hrow.alloc tmp).2 with ⟨rfl,_⟩|⟨g,cap,cur,rfl,hg,hgb,_⟩
 ·simp [Value.ownBlock] at hr
 ·obtain rfl:g=r:=by simpa [Value.ownBlock] using hr
  rw [hgb] at ho;cases ho;simp only [vn] at hk
  rcases hk with hk|hk
  ·omega
  ·exact hk.2 rfl
theorem kJ {w W:World} (h:Below w.heap.size w W) {D:Nat} {o:Obj} (hD:w.heap.size<=D) (o':Obj) (_:W.heap[D]? = some o):Below w.heap.size w (W.putObj D o'):=
 h.grown (grownBy_putObj' W D o') (h.size) (fun k e=>by cases e;exact hD)
end
theorem nV (c:Int) (w:World):Calls Tryz.prog 108 #[.int .i32 c] w fun e w'=>e = .returned (.bool (lG c))∧w=w':=by
 unfold lG
 by_cases h1:97<=c
 ·have d1:decide (97<=c)=true:=by simpa using h1
  rw [d1,Vq]
  go_enter Tryz.func108,Tryz.ntmps108
  go_wp2_with fail
  go_ret
  exact ⟨rfl,rfl⟩
 ·have d1:decide (97<=c)=false:=by simpa using h1
  rw [d1,Bool.false_and]
  go_enter Tryz.func108,Tryz.ntmps108
  go_wp2_with fail
  go_ret
  exact ⟨rfl,rfl⟩
theorem zX (c:Int):(lG c=true∧e9 c=true)∨(lG c=false∧(c !=95)=false∧e9 c=true)∨(lG c=false∧(c !=95)=true∧c<48∧e9 c=false) ∨
  (lG c=false∧(c !=95)=true∧48<=c∧57<c∧e9 c=false)∨(lG c=false∧(c !=95)=true∧48<=c∧c<=57∧e9 c=true):=by
 unfold e9
 cases h:lG c
 ·by_cases h1:c=95
  ·subst h1;exact .inr (.inl ⟨rfl,rfl,rfl⟩)
  ·have hn:(c==95)=false:=by simpa using h1
   have hn':(c !=95)=true:=by simpa using h1
   rw [hn,hn']
   by_cases h2:48<=c
   ·by_cases h3:c<=57
    ·exact .inr (.inr (.inr (.inr ⟨rfl,rfl,h2,h3,by simp [h2,h3]⟩)))
    ·exact .inr (.inr (.inr (.inl ⟨rfl,rfl,h2,by omega,by simp [h3]⟩)))
   ·exact .inr (.inr (.inl ⟨rfl,rfl,by omega,by simp [h2]⟩))
 ·exact .inl ⟨rfl,by simp⟩
theorem zB (s:ByteArray) (w:World) (hs:s.size<=maxLen):Calls Tryz.prog 107 #[.string s] w (FJ w (.bool (iv s))):=by
 unfold maxLen at hs;have hit: ∀pos,Below w.heap.size w (w.iter s pos):=fun pos=>(Below.refl _ _).alloc (T7 _) _;have HI:=Lib.hid hit;clear hit
 go_enter Tryz.func107,Tryz.ntmps107
 go_wp2_with fail
 go_loopw [2] (fun r wr=>r = .bool false∧ ∃pos:Nat,wr=w.iter s pos∧pos<=s.size∧ ∀j (h:j<pos) (h':j<s.size),e9 s[j].toNat=true) (fun _ wr=>s.size - wr.iterPos w.heap.size)
 case atStart=>exact ⟨rfl,0,rfl,Nat.zero_le _,fun j h=>by omega⟩
 case round=>
  obtain ⟨rfl,pos,rfl,hpos,hP⟩:=hrel;have HP:=Lib.hid hP;clear hP
  by_cases hp:pos<s.size
  ·by_cases ha:(s[pos]'hp).toNat<128
   ·have hnx: ∀ty,(Instr.next (.pointer (some ⟨w.heap.size,0,none⟩)) true ty).run Tryz.prog (w.iter s pos)=_:=fun ty=>run_next_ascii w s pos ty hp ha;have HV:=Lib.hid (@Af s pos hp)
    have HS:Hid (∀(hv:e9 (s[pos]'hp).toNat=true) j (h:j<pos+1) (h':j<s.size),e9 s[j].toNat=true):=fun hv j h h'=>by
     by_cases e:j=pos
     ·subst e;exact hv
     ·exact HP.out j (by omega) h'
    have hL:=fun W=>nV (((s[pos]'hp).toNat:Nat):Int) W;generalize hn:(s[pos]'hp).toNat=n at hnx ha HV HS hL;have HN:=Lib.hid hn;clear hn;have HL:=Lib.hid hL;clear hL
    rcases zX (n:Int) with ⟨g1,g2⟩|⟨g1,g2,g3⟩|⟨g1,g2,g3,g4⟩|⟨g1,g2,g3,g4,g5⟩|⟨g1,g2,g3,g4,g5⟩
    ·rw [g1] at HL;clear g1;have HG:=Lib.hid g2;clear g2
     go_wp2_with (go_at_call 108;refine (HL.out _).mono ?_;rintro e w' ⟨rfl,rfl⟩)
     go_roundw
     case rel=>exact ⟨rfl,pos+1,rfl,by omega,HS.out HG.out⟩
     case measure=>simp;omega
    ·rw [g1] at HL;clear g1;have HG:=Lib.hid g3;clear g3
     go_wp2_with (go_at_call 108;refine (HL.out _).mono ?_;rintro e w' ⟨rfl,rfl⟩)
     go_roundw
     case rel=>exact ⟨rfl,pos+1,rfl,by omega,HS.out HG.out⟩
     case measure=>simp;omega
    ·rw [g1] at HL;clear g1;have HG:=Lib.hid g4;clear g4
     go_wp2_with (go_at_call 108;refine (HL.out _).mono ?_;rintro e w' ⟨rfl,rfl⟩)
     go_ret
     exact c7 rfl (HV.out HG.out).symm (HI.out _)
    ·rw [g1] at HL;clear g1;have HG:=Lib.hid g5;clear g5
     go_wp2_with (go_at_call 108;refine (HL.out _).mono ?_;rintro e w' ⟨rfl,rfl⟩)
     go_ret
     exact c7 rfl (HV.out HG.out).symm (HI.out _)
    ·rw [g1] at HL;clear g1;have HG:=Lib.hid g5;clear g5
     go_wp2_with (go_at_call 108;refine (HL.out _).mono ?_;rintro e w' ⟨rfl,rfl⟩)
     go_roundw
     case rel=>exact ⟨rfl,pos+1,rfl,by omega,HS.out HG.out⟩
     case measure=>simp;omega
   ·have hnx: ∀ty,(Instr.next (.pointer (some ⟨w.heap.size,0,none⟩)) true ty).run Tryz.prog (w.iter s pos)=_:=fun ty=>run_next_any w s pos ty hp;have hd:=(decode_high s pos hp (by omega)).1
    have HV:=Lib.hid (Af hp (by
     have hl:lG (((s[pos]'hp).toNat:Nat):Int)=false:=by unfold lG;simp;omega
     unfold e9;rw [hl];simp;omega))
    have hL:=fun W=>nV (((Utf8.decode s pos).1:Nat):Int) W;generalize (Utf8.decode s pos).1=n at hnx hd hL;generalize (Utf8.decode s pos).2=m at hnx
    have hl:lG (n:Int)=false:=by unfold lG;simp;omega
    rw [hl] at hL
    have hn:((n:Int) !=95)=true:=by simp;omega
    have HL:=Lib.hid hL;clear hL hl ha
    go_wp2_with (go_at_call 108;refine (HL.out _).mono ?_;rintro e w' ⟨rfl,rfl⟩)
    go_ret
    exact c7 rfl HV.out.symm (HI.out _)
  ·have hnx: ∀ty,(Instr.next (.pointer (some ⟨w.heap.size,0,none⟩)) true ty).run Tryz.prog (w.iter s pos)=_:=fun ty=>run_next_end w s pos ty hp;have HV:=Lib.hid (FD (s:=s) (fun j h=>HP.out j (by omega) h));have he:=mz s
   by_cases h0:s.size=0
   ·rw [decide_eq_true h0] at he
    have hx:Hid ((decide (1<=s.size)&&decide (s.size<=20))=false):=by show _=_;simp [h0]
    clear h0
    go_wp2_with fail
    go_ret
    exact c7 rfl (by rw [HV.out,hx.out]) (HI.out _)
   ·rw [decide_eq_false h0] at he
    have hx:Hid ((decide (1<=s.size)&&decide (s.size<=20))=decide (s.size<=20)):=by show _=_;rw [decide_eq_true (by omega),Vq]
    go_wp2_with fail
    go_ret
    exact c7 rfl (by rw [HV.out,hx.out,decide_eq_decide];omega) (HI.out _)
def xk (xs:List ByteArray) (s:ByteArray):Int:=match xs.findIdx? (fun x=>cZ s x) with|some k=>k|none=> -1
def hasB (xs:List ByteArray) (s:ByteArray):Bool:=xs.any (fun x=>cZ s x)
theorem KN {xs:List ByteArray} {s:ByteArray} {k:Nat} (hk:k<xs.length) (hx:cZ s xs[k]=true) (h: ∀j (_:j<k) (h':j<xs.length),cZ s xs[j]=false):xk xs s=k:=by
 have:xs.findIdx? (fun x=>cZ s x)=some k:=by
  rw [Vr];exact ⟨hk,hx,fun j hj=>by rw [h j hj (by omega)];decide⟩
 rw [xk,this]
theorem EC {xs:List ByteArray} {s:ByteArray} (h: ∀j (h:j<xs.length),cZ s xs[j]=false):xk xs s = -1:=by
 have:xs.findIdx? (fun x=>cZ s x)=none:=by
  rw [Vs];intro x hx;obtain ⟨j,hj,rfl⟩:=List.getElem_of_mem hx;exact h j hj
 rw [xk,this]
theorem Hj (xs:List ByteArray) (s:ByteArray):decide (0<=xk xs s)=hasB xs s:=by
 unfold xk hasB
 cases h:xs.findIdx? (fun x=>cZ s x) with
 | none=>
  rw [Vs] at h;simp only [show decide ((0:Int) <= -1)=false by decide];rw [eq_comm,List.any_eq_false]
  exact fun x hx=>by rw [h x hx];decide
 | some k=>
  rw [Vr] at h;obtain ⟨h1,h2,_⟩:=h;rw [decide_eq_true (by simp),eq_comm,List.any_eq_true];exact ⟨xs[k],List.getElem_mem _,h2⟩
theorem ED (xs:List ByteArray) (v:Value) (s:ByteArray) (w:World) (h1:kF w xs v) :
  Calls Tryz.prog 135 #[v, .string s] w (J0 w (.int .i64 (xk xs s))):=by
 obtain ⟨p,c,rfl,hc1,hc2⟩:=h1.shape;unfold maxLen at hc2;have H1:=Lib.hid h1;clear h1
 go_enter Tryz.func135,Tryz.ntmps135
 go_wp2_with fail
 go_loop [4,8] (fun r i=>r = .int .i64 0∧ ∃k:Nat,k<=xs.length∧i = .int .i64 k∧ ∀j (h:j<k) (h':j<xs.length),cZ s xs[j]=false) (fun _ i=>xs.length - (intOf i).toNat)
 case atStart=>exact ⟨rfl,0,Nat.zero_le _,rfl,fun j h=>by omega⟩
 case round=>
  obtain ⟨rfl,k,hk,rfl,hP⟩:=hrel;have HP:=Lib.hid hP;clear hP
  by_cases hlt:k<xs.length
  ·obtain ⟨b1,o1,rfl,a0⟩:=Fg H1.out hlt
   cases hs:cZ s xs[k]
   ·have HS:=Lib.hid hs;unfold cZ at hs
    go_wp2_with fail
    go_round
    case rel=>exact ⟨rfl,k+1,by omega,by go_num,fun j h h'=>by
     by_cases e:j=k
     ·subst e;exact HS.out
     ·exact HP.out j (by omega) h'⟩
    case measure=>simp [intOf];omega
   ·have HS:=Lib.hid hs;unfold cZ at hs
    go_wp2_with fail
    go_ret
    exact IP rfl (KN hlt HS.out HP.out).symm
  ·go_wp2_with fail
   go_ret
   exact IP rfl (EC (fun j h=>HP.out j (by omega) h)).symm
theorem wS (xs:List ByteArray) (v:Value) (s:ByteArray) (w:World) (h1:kF w xs v) :
  Calls Tryz.prog 109 #[v, .string s] w (J0 w (.bool (hasB xs s))):=by
 have HC:=Lib.hid (ED xs v s w h1);clear h1;rw [<-Hj]
 go_enter Tryz.func109,Tryz.ntmps109
 go_wp2_with fail
 refine HC.out.mono ?_;rintro e w' ⟨rfl,rfl⟩
 go_wp2_with fail
 go_ret
 exact ⟨rfl,rfl⟩
theorem GZ (s:ByteArray) (w:World) (hs:s.size<=maxLen):Calls Tryz.prog 76 #[.string s] w (FJ w (.bool (c6 s))):=by
 have HV:=Lib.hid (fun W=>zB s W hs);have HB:=Lib.hid (fun o=>((Below.refl w.heap.size w).alloc (T7 _) o))
 have HW:Hid (∀W1,Below (w.alloc (.cells (words.map Value.string).toArray 9)).heap.size (w.alloc (.cells (words.map Value.string).toArray 9)) W1->Calls Tryz.prog 109 #[.slice (some ⟨w.heap.size,0,none⟩) 7 7, .string s] W1 (J0 W1 (.bool (hasB words s)))):=fun W1 hb=>
  wS words _ s W1 (BL (rd:=F7) (xs:=words) (sz:=1) ((hb.block _ (by simp)).trans (ew w _)) (fun x=>[Value.string x]) (fun x _=>rfl) (fun x _=>rfl) (by simp [List.flatMap,words]) rfl (by decide) (by unfold maxLen;decide))
 cases g1:iv s
 ·rw [g1] at HV
  have hfin:c6 s=false:=by simp [c6,g1]
  rw [hfin];clear hfin;have G1:=Lib.hid g1;clear g1 HW
  go_enter Tryz.func76,Tryz.ntmps76
  go_wp2_with fail
  refine (HV.out _).mono ?_;rintro e w1 ⟨rfl,hb1⟩
  go_wp2_with fail
  go_ret
  exact c7 rfl rfl (cX (HB.out _) hb1)
 ·rw [g1] at HV;obtain ⟨h0,_⟩:=uf g1;have hl:=fun W=>nV (nN s) W
  have hfin:c6 s=(lG (nN s) && !hasB words s):=by simp [c6,g1,hasB]
  rw [hfin];clear hfin
  have hfi:nN s=((s[0]'h0).toNat:Int):=by simp [nN,h0]
  rw [hfi] at hl;rw [hfi];have HL:=Lib.hid hl;clear hl hfi;have hby:(s[0]'h0).toNat<256:=UInt8.toNat_lt _
  cases g2:lG ((s[0]'h0).toNat:Int)
  ·rw [g2] at HL;rw [Bool.false_and];clear g2
   go_enter Tryz.func76,Tryz.ntmps76
   go_wp2_with fail
   refine (HV.out _).mono ?_;rintro e w1 ⟨rfl,hb1⟩
   go_wp2_with fail
   refine (HL.out _).mono ?_;rintro e w' ⟨rfl,rfl⟩
   go_wp2_with fail
   go_ret
   exact c7 rfl rfl (cX (HB.out _) hb1)
  ·rw [g2] at HL;rw [Vq];clear g2
   go_enter Tryz.func76,Tryz.ntmps76
   go_wp2_with fail
   refine (HV.out _).mono ?_;rintro e w1 ⟨rfl,hb1⟩
   go_wp2_with fail
   refine (HL.out _).mono ?_;rintro e w' ⟨rfl,rfl⟩
   go_wp2_with fail
   refine (HW.out _ hb1).mono ?_;rintro e w' ⟨rfl,rfl⟩
   go_wp2_with fail
   go_ret
   exact c7 rfl rfl (cX (HB.out _) hb1)
theorem Iv (k:Int) (s:ByteArray) (p:Option Addr) (n c:Nat) (w:World) (hs:s.size<=maxLen) (hn:n<=maxLen) :
  Calls Tryz.prog 50 #[.agg #[.int .i64 k, .string s, .slice p n c]] w (FJ w (.bool (bc k s n))):=by
 have HF:=Lib.hid (fun W=>GZ s W hs);have HB:=Lib.hid (fun o=>((Below.refl w.heap.size w).alloc (T7 _) o));unfold maxLen at hs hn;have he:=mz s
 cases h1:k==1
 ·cases h2:k==2
  ·cases h3:k==3
   ·cases h4:k==4
    ·cases h5:k==5
     ·cases h6:k==6
      ·have hfin:bc k s n=false:=by simp [bc,h1,h2,h3,h4,h5,h6]
       rw [hfin];clear hfin he HF
       go_enter Tryz.func50,Tryz.ntmps50
       go_wp2_with fail
       go_ret
       exact c7 rfl rfl (HB.out _)
      ·skip
       by_cases h7:n=1
       ·have h8:((n:Int)==1)=true:=by simp [h7]
        cases h9:nf s
        ·have hfin:bc k s n=false:=by simp [bc,h1,h2,h3,h4,h5,h6,h7,h9]
         rw [nf] at h9;rw [h9] at he;rw [hfin];clear hfin HF h9
         go_enter Tryz.func50,Tryz.ntmps50
         go_wp2_with fail
         go_ret
         exact c7 rfl rfl (HB.out _)
        ·have hfin:bc k s n=true:=by simp [bc,h1,h2,h3,h4,h5,h6,h7,h9]
         rw [nf] at h9;rw [h9] at he;rw [hfin];clear hfin HF h9
         go_enter Tryz.func50,Tryz.ntmps50
         go_wp2_with fail
         go_ret
         exact c7 rfl rfl (HB.out _)
       ·have h8:((n:Int)==1)=false:=by simp;omega
        have hfin:bc k s n=false:=by simp [bc,h1,h2,h3,h4,h5,h6,h7]
        rw [hfin];clear hfin he HF
        go_enter Tryz.func50,Tryz.ntmps50
        go_wp2_with fail
        go_ret
        exact c7 rfl rfl (HB.out _)
     ·skip
      by_cases h7:n=1
      ·have h8:((n:Int)==1)=true:=by simp [h7]
       cases h9:nf s
       ·have hfin:bc k s n=false:=by simp [bc,h1,h2,h3,h4,h5,h7,h9]
        rw [nf] at h9;rw [h9] at he;rw [hfin];clear hfin HF h9
        go_enter Tryz.func50,Tryz.ntmps50
        go_wp2_with fail
        go_ret
        exact c7 rfl rfl (HB.out _)
       ·have hfin:bc k s n=true:=by simp [bc,h1,h2,h3,h4,h5,h7,h9]
        rw [nf] at h9;rw [h9] at he;rw [hfin];clear hfin HF h9
        go_enter Tryz.func50,Tryz.ntmps50
        go_wp2_with fail
        go_ret
        exact c7 rfl rfl (HB.out _)
      ·have h8:((n:Int)==1)=false:=by simp;omega
       have hfin:bc k s n=false:=by simp [bc,h1,h2,h3,h4,h5,h7]
       rw [hfin];clear hfin he HF
       go_enter Tryz.func50,Tryz.ntmps50
       go_wp2_with fail
       go_ret
       exact c7 rfl rfl (HB.out _)
    ·skip
     by_cases h7:n=1
     ·have h8:((n:Int)==1)=true:=by simp [h7]
      cases h9:nf s
      ·have hfin:bc k s n=false:=by simp [bc,h1,h2,h3,h4,h7,h9]
       rw [nf] at h9;rw [h9] at he;rw [hfin];clear hfin HF h9
       go_enter Tryz.func50,Tryz.ntmps50
       go_wp2_with fail
       go_ret
       exact c7 rfl rfl (HB.out _)
      ·have hfin:bc k s n=true:=by simp [bc,h1,h2,h3,h4,h7,h9]
       rw [nf] at h9;rw [h9] at he;rw [hfin];clear hfin HF h9
       go_enter Tryz.func50,Tryz.ntmps50
       go_wp2_with fail
       go_ret
       exact c7 rfl rfl (HB.out _)
     ·have h8:((n:Int)==1)=false:=by simp;omega
      have hfin:bc k s n=false:=by simp [bc,h1,h2,h3,h4,h7]
      rw [hfin];clear hfin he HF
      go_enter Tryz.func50,Tryz.ntmps50
      go_wp2_with fail
      go_ret
      exact c7 rfl rfl (HB.out _)
   ·skip
    by_cases h7:1<n
    ·skip
     cases h9:nf s
     ·have hfin:bc k s n=false:=by simp [bc,h1,h2,h3,h7,h9]
      rw [nf] at h9;rw [h9] at he;rw [hfin];clear hfin HF h9
      go_enter Tryz.func50,Tryz.ntmps50
      go_wp2_with fail
      go_ret
      exact c7 rfl rfl (HB.out _)
     ·have hfin:bc k s n=true:=by simp [bc,h1,h2,h3,h7,h9]
      rw [nf] at h9;rw [h9] at he;rw [hfin];clear hfin HF h9
      go_enter Tryz.func50,Tryz.ntmps50
      go_wp2_with fail
      go_ret
      exact c7 rfl rfl (HB.out _)
    ·have hfin:bc k s n=false:=by simp [bc,h1,h2,h3,h7]
     rw [hfin];clear hfin he HF
     go_enter Tryz.func50,Tryz.ntmps50
     go_wp2_with fail
     go_ret
     exact c7 rfl rfl (HB.out _)
  ·skip
   by_cases h7:1<n
   ·skip
    cases h9:nf s
    ·have hfin:bc k s n=false:=by simp [bc,h1,h2,h7,h9]
     rw [nf] at h9;rw [h9] at he;rw [hfin];clear hfin HF h9
     go_enter Tryz.func50,Tryz.ntmps50
     go_wp2_with fail
     go_ret
     exact c7 rfl rfl (HB.out _)
    ·have hfin:bc k s n=true:=by simp [bc,h1,h2,h7,h9]
     rw [nf] at h9;rw [h9] at he;rw [hfin];clear hfin HF h9
     go_enter Tryz.func50,Tryz.ntmps50
     go_wp2_with fail
     go_ret
     exact c7 rfl rfl (HB.out _)
   ·have hfin:bc k s n=false:=by simp [bc,h1,h2,h7]
    rw [hfin];clear hfin he HF
    go_enter Tryz.func50,Tryz.ntmps50
    go_wp2_with fail
    go_ret
    exact c7 rfl rfl (HB.out _)
 ·by_cases h7:n=0
  ·have h8:((n:Int)==0)=true:=by simp [h7]
   have hfin:bc k s n=c6 s:=by simp [bc,h1,h7]
   rw [hfin];clear hfin he h7
   go_enter Tryz.func50,Tryz.ntmps50
   go_wp2_with fail
   refine (HF.out _).mono ?_;rintro e w1 ⟨rfl,hb1⟩
   go_wp2_with fail
   go_ret
   exact c7 rfl rfl (cX (HB.out _) hb1)
  ·have h8:((n:Int)==0)=false:=by simp;omega
   have hfin:bc k s n=false:=by simp [bc,h1,h7]
   rw [hfin];clear hfin he HF
   go_enter Tryz.func50,Tryz.ntmps50
   go_wp2_with fail
   go_ret
   exact c7 rfl rfl (HB.out _)
section
open Go.RowKit Go.Shelf
attribute [local go_sem] Oper.semAt_some
def Jv (l:List nk):List ByteArray:=l.flatMap (fun p=>[p.gz,p.to])
end
section
open Go.RowKit Go.Shelf
attribute [local go_sem] Oper.semAt_some
def zF (out:List ByteArray) (s:ByteArray):List ByteArray:=if hasB out s then out else out++[s]
def Mv (xs:List ByteArray):List ByteArray:=xs.foldl zF []
theorem KP:(Tryz.prog.info? 9).map (fun i=>(i.zero,i.size,i.bytes))=some (some (.string ⟨#[]⟩),1,16):=by kernel_rfl
theorem BM {w:World} {base:Nat} {e:TypeId} {v:Value} {xs:List ByteArray} (h:w.ownsRow base e 1 v xs.length (xs.map Value.string)):kF w xs v:=by
 obtain ⟨_,h|⟨g,cap,cur,rfl,_,hg,h1,h2,h3,h4⟩⟩:=h
 ·exact .inl ⟨.inl h.1,List.length_eq_zero_iff.1 h.2⟩
 ·refine .inr ⟨g,0,cap,rfl,h1,h2,fun i x hx=>⟨[.string x],rfl, ?_,trivial⟩⟩;rw [aH hg];have hi:=(Uc.1 hx).1
  have:(cur.toList.take (xs.length * 1))[i]? = some (.string x):=by rw [h4];simp [hx]
  rw [List.getElem?_take_of_lt (by omega)] at this;simpa using this
end
section
open Go.RowKit Go.Shelf
attribute [local go_sem] Oper.semAt_some
theorem E7 {w:World} {base:Nat} {e:TypeId} {z:Nat} {v:Value} {n:Nat} {xs:List Value} (h:w.ownsRow base e z v n xs): ∀b off n c,v = .slice (some ⟨b,off,none⟩) n c->base<=b:=by
 intro b off m c hv
 rcases h.2 with ⟨rfl,_⟩|⟨g,cap,cur,rfl,hg,_⟩
 ·cases hv
 ·cases hv;exact hg
theorem toList_inj {s t:ByteArray}:(s.toList==t.toList)=true↔s=t:=by
 refine ⟨fun h=> ?_,fun h=>by subst h;simp⟩;have h:=eq_of_beq h;rw [ByteArray.toList_eq,ByteArray.toList_eq] at h;obtain ⟨⟨l⟩⟩:=s;obtain ⟨⟨m⟩⟩:=t;have h:l=m:=h;subst h;rfl
def RU (q:DI):List ui:=q.conds.flatMap (fun c=>[c.left,c.right])++q.ret
def CV (o:ui):Int:=if o.kind==1 then 2 else if o.kind==3 then o.val.kind else 0
def ND (vs:List ByteArray):Option (List ByteArray)->nk->Option (List ByteArray)
 | none,_=>none
 | some ns,p=>if nf p.name then some ns else if hasB ns p.name||hasB vs p.name then none else some (ns++[p.name])
def TJ (vs:List ByteArray) (ps:List nk):Option (List ByteArray):=ps.foldl (ND vs) (some [])
def TG (vs ns:List ByteArray):List (ByteArray×Int):=vs.map (·, 1)++ns.map (·, 2)
def Lk (vs ns:List ByteArray) (o:ui):Bool:=if o.kind==1 then hasB vs o.name else if o.kind==2 then hasB ns o.name else true
def LU (c:Ca):Bool:=CV c.left !=0&&CV c.right !=0&&CV c.left !=CV c.right
def TC (q:DI):Int:=if IG q then
  match TJ (Mv (Jv q.q6)) q.q6 with
  | none=>9
  | some ns=>if (RU q).all (Lk (Mv (Jv q.q6)) ns) then (if q.conds.any LU then 10 else 0) else 8
 else 2
def Tu (l:List ByteArray):Prop:= ∀k (h:k<l.length),hasB (l.take k) l[k]=false
def TO (a b:List ByteArray) (s:ByteArray):ByteArray:=if xk a s<0 then s else b.getD (xk a s).toNat ⟨#[]⟩
def TI (f:ByteArray->ByteArray) (x:ui):ui:=if x.kind=1∨x.kind=2 then { x with name:=f x.name } else x
structure TY (f:ByteArray->ByteArray):Prop where
 inj: ∀s t,f s=f t->s=t
 free: ∀s,c6 (f s)=c6 s
 no: ∀s,nf (f s)=nf s
def T4 {α:Type} (k:Nat) (l:List α):List α:=l.drop k++l.take k
def TN:List ByteArray:=[⟨#[97]⟩,⟨#[98]⟩,⟨#[99]⟩,⟨#[100]⟩,⟨#[101]⟩,⟨#[102]⟩,⟨#[103]⟩]
def Ll (p q:nk):Bool:=if cZ p.gz q.gz&&cZ p.to q.to&&p.path==q.path then (if p.path then Bd p.expr q.expr else nf p.name&&nf q.name&&cZ p.label q.label) else false
def MV (ps:List nk) (k:Nat):Bool:=match ps[k]? with
 | some p=>(ps.take k).any (fun a=>Ll a p)
 | none=>false
def RT (ps:List nk) (i:Nat):List Nat:=((List.range ps.length).drop i).filter (fun k=> !MV ps k)
def PV (ps:List nk):List Nat:=RT ps 0
def Ks (p:nk):List ByteArray:=p.gz :: p.to :: (if !p.path && !nf p.name then [p.name] else [])
def EX (ps:List nk) (out:List ByteArray) (k:Int):List ByteArray:=if 0<=k∧k<ps.length then (match ps[k.toNat]? with|some p=>(Ks p).foldl zF out|none=>out) else out
def th (ps:List nk) (ks:List Int):List ByteArray:=ks.foldl (EX ps) []
def PW (b:Bool):Nat:=if b then 1 else 0
def Pn (ps:List nk) (names:List ByteArray) (k:Int):Nat:=if 0<=k∧k<ps.length then (match ps[k.toNat]? with|some p=>PW (hasB names p.gz)+PW (hasB names p.to)|none=>0) else 0
def NN (ps:List nk) (k:Nat):Bool:=match ps[k]? with
 | some p=>p.path
 | none=>false
def zM (ps:List nk) (names:List ByteArray) (k:Nat):Int:=2 * (Pn ps names k:Int)+(if NN ps k then 0 else 1)
def PO (r:Nat->Int):List Nat->Nat->Nat
 | [],m=>m
 | k :: l,m=>PO r l (if r k - r m > 0 then k else m)
def Qs (l:List Nat):List Int:=l.map (fun k:Nat=>(k:Int))
def Mu (ps:List nk) (out:List Nat):List Nat->Nat
 | []=>0
 | a :: l=>PO (zM ps (th ps (Qs out))) l a
def SO (ps:List nk):Nat->List Nat->List Nat->List Nat
 | 0,out,_=>out
 | n+1,out,left=>if left.isEmpty then out else SO ps n (out++[Mu ps out left]) (left.filter (fun k=>k !=Mu ps out left))
structure SI (ps:List nk) (out left l:List Nat):Prop where
 len:l.length=out.length+left.length
 pre:l.take out.length=out
 mem: ∀k,k∈l->k∈out∨k∈left
 SN:l.Nodup
 TA: ∀(i k:Nat) (hi:i<l.length) (hk:k<l.length),out.length<=i->i<k->zM ps (th ps (Qs (l.take i))) l[k]<=zM ps (th ps (Qs (l.take i))) l[i]∧(zM ps (th ps (Qs (l.take i))) l[k]=zM ps (th ps (Qs (l.take i))) l[i]->l[i]<l[k])
def TM (ps:List nk):List Nat:=SO ps (PV ps).length [] (PV ps)
theorem pe: ∀ {a b:List Nat},a.Pairwise (· < ·)->b.Pairwise (· < ·)->(∀j,j∈a↔j∈b)->a=b
 | [],[],_,_,_=>rfl
 | [],y :: b,_,_,h=>by have:=(h y).2 Va;simp at this
 | x :: a,[],_,_,h=>by have:=(h x).1 Va;simp at this
 | x :: a,y :: b,ha,hb,h=>by
  rw [List.pairwise_cons] at ha hb
  have hxy:x=y:=by
   rcases Vt.1 ((h x).1 Va) with e|e
   ·exact e
   ·rcases Vt.1 ((h y).2 Va) with e2|e2
    ·exact e2.symm
    ·have h1:=hb.1 x e;have h2:=ha.1 y e2;omega
  subst hxy;refine congrArg (x :: ·) (pe ha.2 hb.2 (fun j=> ?_))
  have:=h j
  simp only [Vt] at this
  constructor
  ·intro hj
   rcases this.1 (.inr hj) with e|e
   ·have:=ha.1 j hj;omega
   ·exact e
  ·intro hj
   rcases this.2 (.inr hj) with e|e
   ·have:=hb.1 j hj;omega
   ·exact e
def T5 (l:List Nat):List Nat:=(List.range (l.foldr max 0+1)).filter (fun j=>l.contains j)
noncomputable def bh (w:List ByteArray) (L:List ByteArray->Prop) (fr:List Nat):List Nat:=(List.range (w.length+1)).filter (fun j=> @decide (∃i,i∈fr∧Tk L w i j) (Classical.propDecidable _))
def TH (w:List ByteArray) (s:ByteArray) (fr:List Nat):List Nat:=(fr.filter (fun k=>decide (w[k]? = some s))).map (· + 1)
structure TX (w:List ByteArray) (L:List ByteArray->Prop) (fr out:List Nat):Prop where
 uC:out.Pairwise (· < ·)
 le: ∀j,j∈out->j<=w.length
 sub: ∀j,j∈fr->j∈out
 TZ: ∀j,j∈out-> ∃i,i∈fr∧Tk (cQ L) w i j
section
variable {P:Program} {ops:Array Oper} {N:qy}
def F9 (P:Program) (ops:Array Oper) (S:jC N) (j:Nat) (o:Oper) (a:Act) (g:N.G):Prop:=
 (Region.wanted o (yielded ops a.tmps)=true∧Rv P S j g ((execOp a.eval o).run P (N.wd g)))∨(Region.wanted o (yielded ops a.tmps)=false∧ ∃g',N.wd g'=N.wd g∧N.R g g'∧(∀i,i≠j->N.pre i g->N.pre i g')∧S.p undef g')
def Il (P:Program) (ops:Array Oper) (L:List (jC N)) (g0:N.G) (Q:Act->World->Prop):List Oper->Nat->((Nat->Value)->Act)->Prop
 | [],k,A=> ∀x g,N.R g0 g->(∀i,i<k->(uj L i).p (x i) g)->Q (A x) (N.wd g)
 | o :: l,k,A=>(∀x g,N.R g0 g->(∀i,aE ops k i=true->(uj L i).p (x i) g)->N.pre k g->F9 P ops (uj L k) k o (A x) g)∧Il P ops L g0 Q l (k+1) (fun x=>(A x).put o.dst (x k))
def zH (ops:Array Oper) (i j:Nat):Bool:=
 match ops[i]?,ops[j]? with
 | some oi,some oj=>(aE ops j i||match oi.dst with|some d=> !(oj.looksAt ops).contains d|none=>true) && !aE ops i j&&(match oi.dst with|some d=>oj.dst !=some d|none=>true)&&(aE ops j i||match oj.dst with|some d=> !(oi.looksAt ops).contains d|none=>true)
 | _,_=>true
def nt (ops:Array Oper):Bool:=
 Region.noSelect ops&&(List.range ops.size).all (fun j=>(List.range j).all (fun i=>zH ops i j)&&(!aE ops j j&&yQ ops j))
def J2 (P:Program) (l:List Oper) (L:List (jC N)) (g0:N.G) (a0:Act) (j:Nat) (o:Oper):Prop:=
 ∀x g,N.R g0 g->(∀i,aE l.toArray j i=true->(uj L i).p (x i) g)->N.pre j g->F9 P l.toArray (uj L j) j o (da (fun i=>decide (i<j)) x l 0 a0) g
theorem zC {l:List Oper} {L:List (jC N)} {g0:N.G} {Q:Act->World->Prop} {a0:Act} (hA:lL l): ∀(l':List Oper) (k:Nat) (A:(Nat->Value)->Act),l.drop k=l'->(A=fun x=>da (fun i=>decide (i<k)) x l 0 a0)->k<=l.length ->
  Il P l.toArray L g0 Q l' k A->(∀j o,k<=j->l[j]? = some o->J2 P l L g0 a0 j o)∧(∀x g,N.R g0 g->(∀i,i<l.length->(uj L i).p (x i) g)->Q (da (fun i=>decide (i<l.length)) x l 0 a0) (N.wd g))
 | [],k,A,hl,hAx,hk,h=>by
  have h1:l.length=k:=by have:=congrArg List.length hl;simp at this;omega
  subst hAx
  refine ⟨fun j o hj ho=> ?_,fun x g hg hs=> ?_⟩
  ·have:=(Uc.1 ho).1;omega
  ·rw [h1] at hs ⊢; exact h x g hg hs
 | o :: l',k,A,hl,hAx,hk,h=>by
  have h1:l.length=k+(l'.length+1):=by have:=congrArg List.length hl;simp at this;omega
  have h2:l[k]? = some o:=by have:=congrArg (fun m=>m[0]?) hl;simpa using this
  subst hAx
  have rcr:=zC hA l' (k+1) _ (by have:=congrArg List.tail hl;simpa using this) (by
    funext x
    have hi:=jM (s:=fun i=>decide (i<k)) (x:=x) (v:=x k) l 0 k a0 hA h2 (by simp);rw [Nat.zero_add] at hi;rw [<-hi];refine bG l 0 a0 (fun i _ _=> ?_)
    by_cases hik:i=k
    ·subst hik;simp [b6,iD]
    ·have:(i<k+1)=(i<k):=by apply propext;omega
     simp [b6,iD,hik,this]) (by omega) h.2
  refine ⟨fun j o' hj ho=> ?_,rcr.2⟩
  by_cases hjk:j=k
  ·subst hjk;rw [h2] at ho;cases ho;exact h.1
  ·exact rcr.1 j o' (by omega) ho
theorem jX {Q:Exit->Act->World->Prop} {a:Act} {w:World} {l:List Oper} (L:List (jC N)) (hB:nt l.toArray=true) (g0:N.G) (hg0:N.wd g0=w.drew) (hp0: ∀j,N.pre j g0)
  (h:Il P l.toArray L g0 (Q .normal) l 0 (fun _=>a)):wpAny P .any l.toArray Q l.toArray.size (Array.replicate l.toArray.size false) a w.drew:=by
 simp only [nt,UW,List.all_eq_true,List.mem_range,List.size_toArray] at hB;obtain ⟨hns,hall⟩:=hB;have hsel:=Region.noSelect_spec hns
 have hpair: ∀i j oi oj,i<j->l[i]? = some oi->l[j]? = some oj->(aE l.toArray j i=true∨ ∀e,oi.dst=some e->e∉oj.looksAt l.toArray)∧aE l.toArray i j=false∧(∀e,oi.dst=some e->oj.dst≠some e)∧(aE l.toArray j i=true∨ ∀e,oj.dst=some e->e∉oi.looksAt l.toArray):=by
  intro i j oi oj hij hi hj;have hjn:=(Uc.1 hj).1
  have:=(hall j hjn).1 i hij
  simp only [zH,Us,hi,hj,UW,Bool.or_eq_true,Bool.not_eq_true'] at this
  refine ⟨?_,this.1.1.2,fun e he=> ?_, ?_⟩
  ·rcases this.1.1.1 with h|h
   ·exact .inl h
   ·refine .inr (fun e he=> ?_);rw [he] at h;simpa using h
  ·have h3:=this.1.2;rw [he] at h3;simpa using h3
  ·rcases this.2 with h|h
   ·exact .inl h
   ·refine .inr (fun e he=> ?_);rw [he] at h;simpa using h
 have hself: ∀j,j<l.length->aE l.toArray j j=false:=fun j hj=>by simpa using (hall j hj).2.1
 have hfar: ∀(j:Nat) (o:Oper),l[j]? = some o-> ∀e∈o.after,e.on<l.length:=fun j o hj e he=>by
  have:=(hall j (Uc.1 hj).1).2.2
  simp only [yQ,Us,hj,Array.all_eq_true_iff_forall_mem] at this;simpa using this e he
 have hA:lL l:=fun i j oi oj hi hj hij e he=>by
  rcases Nat.lt_or_gt_of_ne hij with h|h
  ·exact (hpair i j oi oj h hi hj).2.2.1 e he
  ·intro h2;exact (hpair j i oj oi h hj hi).2.2.1 e h2 he
 obtain ⟨hO,hfin⟩:=zC (P:=P) (L:=L) (g0:=g0) (Q:=Q .normal) (a0:=a) hA l 0 (fun _=>a) (by simp) (by
  funext x
  exact (show a=da (fun _=>false) x l 0 a from by
   have: ∀(l:List Oper) k,a=da (fun _=>false) x l k a:=by
    intro l
    induction l with
    | nil=>intro k;rfl
    | cons o l ih=>intro k;rw [da];exact ih (k+1)
   exact this l 0).trans (bG l 0 a (fun i _ _=>by simp))) (Nat.zero_le _) h
 
 have hloose: ∀i j oi oj,l[i]? = some oi->l[j]? = some oj->i≠j->aE l.toArray j i=false->aE l.toArray i j=false-> ∀d,oi.dst=some d->d∉oj.looksAt l.toArray:=by
  intro i j oi oj hi hj hij hd hd'
  rcases Nat.lt_or_gt_of_ne hij with h|h
  ·rcases (hpair i j oi oj h hi hj).1 with h1|h1
   ·rw [hd] at h1;cases h1
   ·exact h1
  ·rcases (hpair j i oj oi h hj hi).2.2.2 with h1|h1
   ·rw [hd'] at h1;cases h1
   ·exact h1
 
 have hsee: ∀(s s':Nat->Bool) x j oj,l[j]? = some oj->s j=false->s' j=false->(∀i,i<l.length->aE l.toArray i j=true->s i=false∧s' i=false)->(∀i,i<l.length->aE l.toArray j i=true->s i=true∧s' i=true) ->
   execOp (da s x l 0 a).eval oj=execOp (da s' x l 0 a).eval oj∧Region.wanted oj (yielded l.toArray (da s x l 0 a).tmps)=Region.wanted oj (yielded l.toArray (da s' x l 0 a).tmps):=by
  intro s s' x j oj hj h1 h2 hbk hd
  have one:=fun (s:Nat->Bool) (hs:s j=false) (hs2: ∀i,i<l.length->aE l.toArray i j=true->s i=false)=>qn (ops:=l.toArray) (s:=s) (keep:=aE l.toArray j) (x:=x) (a:=a) hA (fun cs b=>hsel j oj cs b (by simpa using hj))
   (fun i oi hi hsi hk=>hloose i j oi oj hi hj (by intro e;subst e;rw [hsi] at hs;cases hs) hk (by
    cases hq:aE l.toArray i j
    ·rfl
    ·rw [hs2 i (Uc.1 hi).1 hq] at hsi;cases hsi))
  obtain ⟨a1,a2⟩:=one s h1 (fun i hi hq=>(hbk i hi hq).1);obtain ⟨b1,b2⟩:=one s' h2 (fun i hi hq=>(hbk i hi hq).2)
  have e:da (fun i=>s i&&aE l.toArray j i) x l 0 a=da (fun i=>s' i&&aE l.toArray j i) x l 0 a:=bG l 0 a (fun i _ hi=>by
   refine ⟨?_,fun _=>rfl⟩
   cases hk:aE l.toArray j i
   ·simp
   ·obtain ⟨c1,c2⟩:=hd i (by omega) hk
    simp [c1,c2])
  exact ⟨by rw [a1,b1,e],by rw [a2,b2,e]⟩
 have full: ∀(listed:Array Bool),listed.size=l.length->(∀i,i<l.length->listed.getD i false=true)->Region.ready .any l.toArray listed=[]∧ ∀x,da (fun i=>listed.getD i false) x l 0 a=da (fun i=>decide (i<l.length)) x l 0 a:=fun listed hsz hall'=>by
  refine ⟨List.eq_nil_iff_forall_not_mem.2 (fun i hi=> ?_),fun x=>bG l 0 a (fun i _ hi=>⟨?_,fun _=>rfl⟩)⟩
  ·obtain ⟨g1,o,g2, -⟩:=mem_ready.1 hi;have hil:i<l.length:=(Uc.1 (show l[i]? = some o by simpa using g2)).1;have g3:=hall' i hil
   have his:i<listed.size:=by omega
   simp only [UY,Array.getElem?_eq_getElem his,Option.getD_some] at g1 g3;rw [g3] at g1;cases g1
  ·have:i<l.length:=by omega
   rw [hall' i this];simp [this]
 have main: ∀fuel (listed:Array Bool) x g1,listed.size=l.length->N.R g0 g1->(∀i,listed.getD i false=true->(uj L i).p (x i) g1) ->
   (∀j i,listed.getD j false=true->aE l.toArray j i=true->listed.getD i false=true)->(∀j,listed.getD j false=false->N.pre j g1)->Ac (fun i=>listed.getD i false) l.length<=fuel ->
   wpAny P .any l.toArray Q fuel listed (da (fun i=>listed.getD i false) x l 0 a) (N.wd g1):=by
  intro fuel
  induction fuel with
  | zero=>
   intro listed x g1 hsz hE hF hcl hpre hu
   have hall': ∀i,i<l.length->listed.getD i false=true:=fun i hi=>by
    cases hc:listed.getD i false
    ·have:=xX (s:=fun i=>listed.getD i false) l.length hi hc
     omega
    ·rfl
   exact wpAny_done (full listed hsz hall').1 (by rw [(full listed hsz hall').2 x];exact hfin x g1 hE (fun i hi=>hF i (hall' i hi))) 0
  | succ fuel ih=>
   intro listed x g1 hsz hE hF hcl hpre hu
   have hmemR: ∀j,j∈Region.ready .any l.toArray listed-> ∃oj,l[j]? = some oj∧listed.getD j false=false∧ ∀i,aE l.toArray j i=true->listed.getD i false=true:=by
    intro j hj;obtain ⟨h1,o,ho,h3⟩:=mem_ready.1 hj
    refine ⟨o,by simpa using ho, ?_,fun i hi=> ?_⟩
    ·rcases Nat.lt_or_ge j listed.size with h'|h'
     ·simp [h'] at h1 ⊢; exact h1
     ·simp [Array.getElem?_eq_none h']
    ·simp only [aE,ho,UW,beq_iff_eq,Array.any_eq_true'] at hi;obtain ⟨e,he,hb,rfl⟩:=hi;exact h3 e he hb
   refine ⟨fun h0=> ?_,fun j hj=> ?_⟩
   ·
    have hex:(∀i,i<l.length->listed.getD i false=true)∨ ∃m,m<l.length∧listed.getD m false=false∧ ∀i,i<m->listed.getD i false=true:=by
     have: ∀k,k<=l.length->(∀i,i<k->listed.getD i false=true)∨ ∃m,m<l.length∧listed.getD m false=false∧ ∀i,i<m->listed.getD i false=true:=by
      intro k
      induction k with
      | zero=>exact fun _=> .inl (fun i hi=>by omega)
      | succ k ihk=>
       intro hk
       rcases ihk (by omega) with h|h
       ·cases hc:listed.getD k false
        ·exact .inr ⟨k,by omega,hc,h⟩
        ·exact .inl (fun i hi=>by
          by_cases e:i=k
          ·subst e;exact hc
          ·exact h i (by omega))
       ·exact .inr h
     exact this l.length (Nat.le_refl _)
    rcases hex with hall'|hex
    ·rw [(full listed hsz hall').2 x];exact hfin x g1 hE (fun i hi=>hF i (hall' i hi))
    exfalso;obtain ⟨m,hm1,hm2,hm3⟩:=hex
    have hmem:m∈Region.ready .any l.toArray listed:=by
     refine mem_ready.2 ⟨?_,l[m],by simp [hm1],fun e he hb=> ?_⟩
     ·have hms:m<listed.size:=by omega
      simp [hms] at hm2 ⊢; exact hm2
     ·have hd:aE l.toArray m e.on=true:=by
       have:l.toArray[m]? = some l[m]:=by simp [hm1]
       simp only [aE,this];simp only [Array.any_eq_true',UW,beq_iff_eq];exact ⟨e,he,hb,rfl⟩
      rcases Nat.lt_trichotomy e.on m with h|h|h
      ·exact hm3 _ h
      ·rw [h,hself m hm1] at hd;cases hd
      ·by_cases hl:e.on<l.length
       ·have:=(hpair m e.on l[m] l[e.on] h (by simp [hm1]) (by simp [hl])).2.1
        rw [hd] at this;cases this
       ·exact absurd (hfar m l[m] (by simp [hm1]) e he) hl
    rw [h0] at hmem;cases hmem
   ·obtain ⟨oj,hoj,hun,hdeps⟩:=hmemR j hj;have hjl:=(Uc.1 hoj).1
    have hsj:(listed.setIfInBounds j true).size=l.length:=by simpa using hsz
    have hgd: ∀i,(listed.setIfInBounds j true).getD i false=b6 (fun i=>listed.getD i false) j i:=by
     intro i
     by_cases hij:i=j
     ·subst hij
      have:i<listed.size:=by omega
      simp [b6,this]
     ·simp only [b6,if_neg hij];exact getD_set_ne false (Ne.symm hij)
    have hO:=hO j oj (Nat.zero_le _) hoj;unfold wpOp;simp only [Us,hoj];have hst:=hO x g1 hE (fun i hi=>hF i (hdeps i hi)) (hpre j hun)
    have hbk: ∀i,i<l.length->aE l.toArray i j=true->listed.getD i false=false∧decide (i<j)=false:=by
     intro i hi hq
     constructor
     ·cases hli:listed.getD i false
      ·rfl
      ·have:=hcl i j hli hq
       rw [hun] at this;cases this
     ·rcases Nat.lt_or_ge i j with h|h
      ·have:=(hpair i j l[i] oj h (by simp [hi]) hoj).2.1
       rw [hq] at this;cases this
      ·simpa using h
    obtain ⟨c1,c2⟩:=hsee (fun i=>listed.getD i false) (fun i=>decide (i<j)) x j oj hoj hun (by simp) hbk (fun i hi hd=>⟨hdeps i hd,by
      rcases Nat.lt_trichotomy i j with h|h|h
      ·simpa using h
      ·rw [h,hself j hjl] at hd;cases hd
      ·have:=(hpair j i oj l[i] h hoj (by simp [hi])).2.1
       rw [hd] at this;cases this⟩)
    have next: ∀v g2,N.R g1 g2->(∀i,i≠j->N.pre i g1->N.pre i g2)->(uj L j).p v g2->wpAny P .any l.toArray Q fuel (listed.setIfInBounds j true) ((da (fun i=>listed.getD i false) x l 0 a).put oj.dst v) (N.wd g2):=by
     intro v g2 hb hpp hv;have hi:=jM (s:=fun i=>listed.getD i false) (x:=x) (v:=v) l 0 j a hA hoj (by simpa using hun);rw [Nat.zero_add] at hi;rw [<-hi, <- show (fun i=>(listed.setIfInBounds j true).getD i false)=b6 (fun i=>listed.getD i false) j from funext hgd]
     refine ih _ _ g2 hsj (N.trans' _ _ _ hE hb) (fun i hi'=> ?_) (fun j' i hj' hd=> ?_) (fun j' hj'=> ?_) ?_
     ·rw [hgd] at hi'
      by_cases hij:i=j
      ·subst hij;simpa [iD] using hv
      ·simp only [b6,if_neg hij] at hi';simp only [iD,if_neg hij];exact (uj L i).st _ _ _ hb (hF i hi')
     ·rw [hgd] at hj' ⊢
      by_cases hij:i=j
      ·simp [b6,hij]
      ·simp only [b6,if_neg hij]
       by_cases hj2:j'=j
       ·subst hj2;exact hdeps i hd
       ·simp only [b6,if_neg hj2] at hj';exact hcl j' i hj' hd
     ·rw [hgd] at hj'
      by_cases hj2:j'=j
      ·simp [b6,hj2] at hj'
      ·simp only [b6,if_neg hj2] at hj';exact hpp j' hj2 (hpre j' hj')
     ·rw [kA (s':=b6 (fun i=>listed.getD i false) j) l.length (fun i _=>hgd i)]
      have:=px (s:=fun i=>listed.getD i false) (i:=j) l.length hjl hun
      omega
    unfold F9 at hst;rw [<-c1, <- c2] at hst
    rcases hst with ⟨h1,h2⟩|⟨h1,h2⟩
    ·rw [if_pos h1];refine .inl ?_;unfold Oper.wp;generalize (execOp (da (fun i=>listed.getD i false) x l 0 a).eval oj).run P (N.wd g1)=r at h2
     cases r with
     | halt _ _=>exact h2.elim
     | ok n w'=>
      cases n<;>first|exact h2.elim|skip
      case value u=>obtain ⟨g2,rfl,k1,k3,k2⟩:=h2;exact next _ _ k1 k3 k2
      case skip=>obtain ⟨g2,rfl,k1,k3,k2⟩:=h2;exact next _ _ k1 k3 k2
      case enter f args=>
       refine Calls.mono h2 fun e w'' he=> ?_;obtain ⟨v,g2,rfl,rfl,k1,k3,k2⟩:=he
       exact next _ _ k1 k3 k2
    ·rw [if_neg (by rw [h1];decide)];obtain ⟨g2,e2,k1,k3,k2⟩:=h2;rw [<-e2]
     exact next _ _ k1 k3 k2
 have hrep: ∀i,(Array.replicate l.toArray.size false).getD i false=false:=fun i=>by
  simp only [UY,Array.getElem?_replicate];split<;>rfl
 have h0:=main l.toArray.size (Array.replicate l.toArray.size false) (fun _=>undef) g0 (by simp) (N.RV _)
  (fun i hi=>by rw [hrep] at hi;cases hi) (fun j i hj=>by rw [hrep] at hj;cases hj) (fun j _=>hp0 j) (xW _)
 have e:da (fun i=>(Array.replicate l.toArray.size false).getD i false) (fun _=>undef) l 0 a=a:=by
  have: ∀(l':List Oper) k,da (fun i=>(Array.replicate l.toArray.size false).getD i false) (fun _=>undef) l' k a=a:=by
   intro l'
   induction l' with
   | nil=>intro k;rfl
   | cons o l' ih=>intro k;rw [da,hrep];exact ih (k+1)
  exact this l 0
 rw [e,hg0] at h0;exact h0
end
end
section
section
variable {D:Nat->Prop} {nu:Nat->Nat->Value} {o:List (Option aa)} {w:World} {P:Program}
def BD:Op->Bool
 | .move _| .assign _| .nilCheck _| .build .. | .binOp .. | .unOp .. | .convert .. | .makeFunc .. | .fieldAddr .. | .field .. | .index .. | .extract .. | .pick .. | .box .. | .buildSlice .. =>true
 | _=>false
theorem uP {op:Op} (h:BD op=true) {t:List AV} {o o':List (Option aa)} {y:jk} {K:AV->Prop} (hd:bR P op ⟨t,o,y⟩ K):bR P op ⟨t,o',y⟩ K:=by
 cases op with
 | makeFunc fn a b=>cases fn<;>exact hd
 | _=>first|(cases h;done)|exact hd
def dL (P:Program) (f:FuncId) (args:List AV) (o:List (Option aa)) (K:AV->List (Option aa)->Prop):Prop:= ∃r o',dN P f args o r o'∧K r o'
@[congr] theorem JP {f:FuncId} {args args':List AV} {o o':List (Option aa)} {K:AV->List (Option aa)->Prop} (h:args=args') (k:o=o'):dL P f args o K=dL P f args' o' K:=by rw [h,k]
theorem dL.fr {f:FuncId} {args args0:List AV} {o0 o1:List (Option aa)} {r0:AV} {K:AV->List (Option aa)->Prop} (ids:List Nat) (h:dN P f args0 o0 r0 o1) (hnd:ids.Nodup)
  (ho:ids.map (fun i=>o[i]?)=o0.map (fun x=>some (x.map (aa.bd (sig ids o.length)))))
  (hargs:args=bS (sig ids o.length) args0) (hwa:aX ids.length args0=true) (hwo: ∀(k:Nat) ob,o0[k]? = some (some ob)->bw ids.length ob.rows=true)
  (k:K (r0.bd (sig ids o.length)) (fM (sig ids o.length) ids o1 o)):dL P f args o K:=
 ⟨_,_,(gr.frame ids h hnd ho hargs hwa hwo).mono (fun r o' hh=>by
  obtain ⟨r1,o2,⟨rfl,rfl⟩,rfl,rfl⟩:=hh
  exact ⟨rfl,rfl⟩),k⟩
def DE (P:Program) (f:AV) (args:List AV) (o:List (Option aa)) (K:AV->List (Option aa)->Prop):Prop:=match f with
 | .fn g first caps=>dL P g (first++args++caps) o K
 | _=>False
@[congr] theorem MG {f f':AV} {args args':List AV} {o o':List (Option aa)} {K:AV->List (Option aa)->Prop} (h:f=f') (k:args=args') (l:o=o'):DE P f args o K=DE P f' args' o' K:=by rw [h,k,l]
theorem JS (g:FuncId) (first caps args:List AV) (o:List (Option aa)) (K:AV->List (Option aa)->Prop):DE P (.fn g first caps) args o K=dL P g (first++args++caps) o K:=rfl
def pC (P:Program) (op:Op) (s:AS) (K:AV->List (Option aa)->Prop):Prop:=match op with
 | .pick _ _ _=>False
 | .call c=>match c.callee with
  | .value f=>DE P (s.ev f) (c.args.toList.map s.ev) s.o K
  | _=>AR (Kb P s.ev s.o (.call c)) K
 | op=>AR (Kb P s.ev s.o op) K
theorem Co {s:AS} {op:Op} {K:AV->List (Option aa)->Prop} (h:pC P op s K): ∃r o',K r o'∧pC P op s (fun r' o''=>r'=r∧o''=o'):=by
 unfold pC at h ⊢
 split at h
 ·exact h.elim
 ·split at h
  ·unfold DE at h ⊢
   split at h
   ·obtain ⟨r,o',h1,h2⟩:=h;exact ⟨r,o',h2,r,o',h1,rfl,rfl⟩
   ·exact h.elim
  ·unfold AR at h ⊢
   split at h
   ·exact ⟨_,_,h.2,h.1,rfl,rfl⟩
   ·exact h.elim
 ·unfold AR at h ⊢
  split at h
  ·exact ⟨_,_,h.2,h.1,rfl,rfl⟩
  ·exact h.elim
theorem uO {s:AS} {rho:Operand->Value} {oo:Oper} {r:AV} {o':List (Option aa)} (h:RO D nu s.o w) (hev:F0 D nu s.o w s.ev rho oo.op) (hd:pC P oo.op s (fun r' o''=>r'=r∧o''=o')) :
  (∃v w' nu',((execOp rho oo).run P w = .ok (.value v) w'∨((execOp rho oo).run P w = .ok .skip w'∧v=Go.undef))∧bI nu s.o w nu' o' w'∧RO D nu' o' w'∧RA D nu' o' w' r v) ∨
  (∃g vargs,(execOp rho oo).run P w = .ok (.enter g vargs) w∧Calls P g vargs w (fun e w'=> ∃v nu',e = .returned v∧bI nu s.o w nu' o' w'∧RO D nu' o' w'∧RA D nu' o' w' r v)):=by
 have hop: ∀op,oo.op=op->AR (Kb P s.ev s.o op) (fun r' o''=>r'=r∧o''=o')->(∃v w' nu',((execOp rho oo).run P w = .ok (.value v) w'∨((execOp rho oo).run P w = .ok .skip w'∧v=Go.undef))∧bI nu s.o w nu' o' w'∧RO D nu' o' w'∧RA D nu' o' w' r v):=by
  intro op ho hh;subst ho;unfold AR at hh
  split at hh
  ·rename_i p r1 o1 e;obtain ⟨hp,rfl,rfl⟩:=hh;obtain ⟨v,w',nu',h1,h2,h3,h4⟩:=yo (P:=P) h hev e hp;exact ⟨v,w',nu',h1,h2,h3,h4⟩
  ·exact hh.elim
 unfold pC at hd
 split at hd
 ·exact hd.elim
 ·rename_i c ho
  split at hd
  ·rename_i f hc;unfold DE at hd
   split at hd
   ·rename_i g first caps e
    obtain ⟨r1,o1,hcall,rfl,rfl⟩:=hd;have hf:=hev f (by rw [ho];simp [Op.operands,Call.operands,hc]);rw [e] at hf;generalize hq:rho f=vf at hf
    cases hf with
    | fn _ _ _ fi ca q1 q2 q3 q4=>
    have hargs: ∀x,x∈c.args.toList->RA D nu s.o w (s.ev x) (rho x):=fun x hx=>hev x (by rw [ho];simp only [Op.operands,Call.operands,hc];simp;exact .inr (by simpa using hx))
    have hra:fK D nu s.o w (first++c.args.toList.map s.ev++caps) (fi++c.args.map rho++ca):=by
     refine ⟨by simp [q1,q2],fun i cc x k1 k2=> ?_⟩;rw [List.append_assoc] at k1;rw [Array.append_assoc] at k2
     rcases Ue i first.length with l1|l1
     ·rw [Ud l1] at k1;rw [UL (by omega)] at k2;exact q3 i cc x k1 k2
     ·rw [UF l1] at k1;rw [U7 (by omega)] at k2;rw [q1] at k1
      rcases Ue (i - fi.size) c.args.size with l2|l2
      ·rw [Ud (by simpa using l2),List.getElem?_map] at k1;rw [UL (by simpa using l2),Array.getElem?_map] at k2
       have e2:c.args.toList[i - fi.size]? = c.args[i - fi.size]? :=by simp
       rw [e2] at k1
       cases hk2:c.args[i - fi.size]? with
       | none=>rw [hk2] at k1;cases k1
       | some y=>
        rw [hk2] at k1 k2;cases k1;cases k2;exact hargs y (UK (by rw [e2];exact hk2))
      ·rw [UF (by simpa using l2)] at k1;rw [U7 (by simpa using l2)] at k2;simp only [List.length_map,Array.length_toList,Array.size_map] at k1 k2;exact q4 _ cc x k1 k2
    refine .inr ⟨g,_, ?_,(hcall.2 D nu w _ h hra).mono ?_⟩
    ·simp only [execOp,ho,resolve,hc,hq,Deferred.ofValue,Sem.run_bind,Sem.run_pure,Result.andThen_ok,invoke];exact iU hcall.1 _ w
    ·rintro e w' ⟨v,nu',o2,r2,rfl,m1,m2,m3,rfl,rfl⟩;exact ⟨v,nu',rfl,m1,m2,m3⟩
   ·exact hd.elim
  ·exact .inl (hop _ ho hd)
 ·exact .inl (hop _ rfl hd)
def fq:List (Nat×Nat)->Nat->Option Nat
 | [],_=>none
 | (j,lo) :: fs,k=>if j=k∧lo<1000 then some lo else fq fs k
def xu:List (Nat×Nat)->Nat->Bool
 | [],_=>false
 | (j,lo) :: fs,k=>decide (j=k∧lo=1000)||xu fs k
def NP:Option (List (Option aa)->Prop)->List (Option aa)->Prop
 | none,_=>True
 | some p,o=>p o
def cw (P:Program) (all:List Oper) (es:List Nat) (fs:List (Nat×Nat)):List Oper->Nat->AS->List (List (Option aa))->Option (List (Option aa)->Prop)->(AS->Prop)->Prop
 | [],_,s,_,_,Q=>Q s
 | oo :: rest,k,s,hist,pn,Q=>if es.contains k then (match oo.guard with
   | none=>pC P oo.op s (fun r o'=>NP pn o'∧cw P all es fs rest (k+1) (s.put oo.dst r o') (hist++[s.o]) pn Q)
   | some _=>False) else match fq fs k with
   | some lo=>oo.guard=none∧bR P oo.op s (fun r=>(∀o',o'∈hist.drop lo->bR P oo.op ⟨s.t,o',s.y⟩ (fun r'=>r'=r))∧cw P all es fs rest (k+1) (s.put oo.dst r s.o) hist pn Q)
   | none=>if xu fs k=true then oo.guard=none∧bR P oo.op s (fun r=>cw P all es fs rest (k+1) (s.put oo.dst r s.o) hist (some fun o'=>NP pn o'∧bR P oo.op ⟨s.t,o',s.y⟩ (fun r'=>r'=r)) Q)
    else dH P all oo s (fun s'=>cw P all es fs rest (k+1) s' hist pn Q)
def Pb (P:Program) (all:List Oper) (es:List Nat) (fs:List (Nat×Nat)):List Oper->Nat->AS->List (List (Option aa))->List AV->List (List (Option aa))->AS->Prop
 | [],_,s,_,rs,os,sf=>rs=[]∧os=[]∧sf=s
 | oo :: rest,k,s,hist,rs,os,sf=> ∃r rs',rs=r :: rs' ∧
   ((es.contains k=true∧oo.guard=none∧ ∃o' os',os=o' :: os'∧pC P oo.op s (fun r' o''=>r'=r∧o''=o')∧Pb P all es fs rest (k+1) (s.put oo.dst r o') (hist++[s.o]) rs' os' sf) ∨
   (es.contains k=false∧(((oo.guard=none∨ ∃j want b,oo.guard=some (j,want)∧iP all s j=some (some b)∧(b==want)=true)∧bR P oo.op s (fun r'=>r'=r)∧(∀lo,fq fs k=some lo-> ∀o',o'∈hist.drop lo->bR P oo.op ⟨s.t,o',s.y⟩ (fun r'=>r'=r))∧(fq fs k=none->xu fs k=true-> ∀o',o'∈os->bR P oo.op ⟨s.t,o',s.y⟩ (fun r'=>r'=r))) ∨
    (fq fs k=none∧xu fs k=false∧r = .v Go.undef∧ ∃j want g,oo.guard=some (j,want)∧iP all s j=some g∧(g=none∨ ∃b,g=some b∧(b==want)=false)))∧Pb P all es fs rest (k+1) (s.put oo.dst r s.o) hist rs' os sf))
theorem fD {all:List Oper} {es:List Nat} {fs:List (Nat×Nat)}: ∀(rest:List Oper) (k:Nat) (s:AS) (hist:List (List (Option aa))) {pn:Option (List (Option aa)->Prop)} {Q:AS->Prop},cw P all es fs rest k s hist pn Q-> ∃rs os sf,Pb P all es fs rest k s hist rs os sf∧(∀o',o'∈os->NP pn o')∧Q sf
 | [],k,s,hist,pn,Q,h=>⟨[],[],s,⟨rfl,rfl,rfl⟩,(fun _ h=>by cases h),h⟩
 | oo :: rest,k,s,hist,pn,Q,h=>by
  simp only [cw] at h
  cases he:es.contains k
  ·rw [he] at h;simp only [Vu,if_false] at h
   cases hf:fq fs k with
   | some lo=>
    rw [hf] at h;obtain ⟨hg,h⟩:=h;obtain ⟨r,⟨hh,hk⟩,hr⟩:=fR h;obtain ⟨rs,os,sf,h1,h2⟩:=fD rest (k+1) _ hist hk;exact ⟨r :: rs,os,sf,⟨r,rs,rfl, .inr ⟨he, .inl ⟨.inl hg,hr,(fun lo' hl=>by rw [hf] at hl;cases hl;exact hh),fun hn=>by rw [hf] at hn;cases hn⟩,h1⟩⟩,h2⟩
   | none=>
   rw [hf] at h
   have hno: ∀r lo,fq fs k=some lo-> ∀o',o'∈hist.drop lo->bR P oo.op ⟨s.t,o',s.y⟩ (fun r'=>r'=r):=fun r lo hl=>by rw [hf] at hl;cases hl
   simp only at h;cases hlt:xu fs k
   case true=>
    rw [hlt] at h;simp only [if_true] at h;obtain ⟨hg,h⟩:=h;obtain ⟨r,hk,hr⟩:=fR h;obtain ⟨rs,os,sf,h1,h0,h2⟩:=fD rest (k+1) _ hist hk;exact ⟨r :: rs,os,sf,⟨r,rs,rfl, .inr ⟨he, .inl ⟨.inl hg,hr,hno r,fun _ _ o' ho'=>(h0 o' ho').2⟩,h1⟩⟩,fun o' ho'=>(h0 o' ho').1,h2⟩
   have hla: ∀(r:AV) (os:List (List (Option aa))),fq fs k=none->xu fs k=true-> ∀o',o'∈os->bR P oo.op ⟨s.t,o',s.y⟩ (fun r'=>r'=r):=fun r os _ h=>by rw [hlt] at h;cases h
   rw [hlt] at h;simp only [Vu,if_false] at h;simp only [dH] at h
   split at h
   ·rename_i hg;obtain ⟨r,hk,hr⟩:=fR h;obtain ⟨rs,os,sf,h1,h2⟩:=fD rest (k+1) _ hist hk;exact ⟨r :: rs,os,sf,⟨r,rs,rfl, .inr ⟨he, .inl ⟨.inl hg,hr,hno r,hla r _⟩,h1⟩⟩,h2⟩
   ·rename_i j want hg;unfold uk at h
    split at h
    ·rename_i b e
     cases hb:b==want
     ·rw [hb,pE] at h;obtain ⟨rs,os,sf,h1,h2⟩:=fD rest (k+1) _ hist h;exact ⟨_ :: rs,os,sf,⟨_,rs,rfl, .inr ⟨he, .inr ⟨hf,hlt,rfl,j,want,_,hg,e, .inr ⟨b,rfl,hb⟩⟩,h1⟩⟩,h2⟩
     ·rw [hb,rG] at h;obtain ⟨r,hk,hr⟩:=fR h;obtain ⟨rs,os,sf,h1,h2⟩:=fD rest (k+1) _ hist hk;exact ⟨r :: rs,os,sf,⟨r,rs,rfl, .inr ⟨he, .inl ⟨.inr ⟨j,want,b,hg,e,hb⟩,hr,hno r,hla r _⟩,h1⟩⟩,h2⟩
    ·rename_i e;obtain ⟨rs,os,sf,h1,h2⟩:=fD rest (k+1) _ hist h;exact ⟨_ :: rs,os,sf,⟨_,rs,rfl, .inr ⟨he, .inr ⟨hf,hlt,rfl,j,want,_,hg,e, .inl rfl⟩,h1⟩⟩,h2⟩
    ·exact h.elim
  ·rw [he] at h;simp only [if_true] at h
   split at h
   ·rename_i hg;obtain ⟨r,o',⟨hpo,hk⟩,hr⟩:=Co h;obtain ⟨rs,os,sf,h1,h0,h2⟩:=fD rest (k+1) _ _ hk;exact ⟨r :: rs,o' :: os,sf,⟨r,rs,rfl, .inl ⟨he,hg,o',os,rfl,hr,h1⟩⟩,fun o'' ho=>(List.mem_cons.1 ho).elim (fun e=>by rw [e];exact hpo) (h0 o''),h2⟩
   ·exact h.elim
def nQ (ops:Array Oper):Nat->Nat->Nat->Bool
 | 0,_,_=>false
 | n+1,j,i=>aE ops j i||(List.range ops.size).any (fun k=>aE ops j k&&nQ ops n k i)
def Eo (ops:Array Oper) (es:List Nat) (j:Nat):Bool:=es.all (fun e=>decide (e=j)||if e<j then nQ ops ops.size j e else nQ ops ops.size e j)
def lC:List Nat->Bool
 | []=>true
 | [_]=>true
 | a :: b :: l=>decide (a<b)&&lC (b :: l)
def yS (ops:Array Oper) (es:List Nat) (fs:List (Nat×Nat)) (j:Nat):Bool:=match fq fs j with
 | some lo=>decide (lo<=es.length)&&(es.take lo).all (fun e=>nQ ops ops.size j e)&&es.all (fun e=>decide (e<j)||(e !=j&&nQ ops ops.size e j))
 | none=>false
def Hz (ops:Array Oper) (es:List Nat) (fs:List (Nat×Nat)) (j:Nat):Bool:= !es.contains j&&(fq fs j).isNone&&xu fs j&&es.all (fun e=>decide (j<=e)||nQ ops ops.size j e)
def sG (ops:Array Oper) (es:List Nat) (fs:List (Nat×Nat)):Bool:=nt ops&&lC es&&es.all (fun e=>decide (e<ops.size))&&(List.range ops.size).all (fun j=>(match ops[j]? with|some oo=>BD oo.op|none=>true) && !es.contains j||Eo ops es j||yS ops es fs j||Hz ops es fs j)
structure GG (D:Nat->Prop) (nu0:Nat->Nat->Value) (o0:List (Option aa)) (w0:World) (l:List Oper) (es:List Nat) (O:Nat->List (Option aa)) where
 w:World
 nu:Nat->Nat->Value
 done:Nat->Bool
 c:Nat
 ro:RO D nu (O c) w
 mono:bI nu0 o0 w0 nu (O c) w
 cl: ∀j i,done j=true->aE l.toArray j i=true->done i=true
 ef: ∀k e,es[k]? = some e->(done e=true↔k<c)
 le:c<=es.length
variable {nu0:Nat->Nat->Value} {o0:List (Option aa)} {w0:World} {l:List Oper} {es:List Nat} {O:Nat->List (Option aa)}
def bA (D:Nat->Prop) (nu0:Nat->Nat->Value) (o0:List (Option aa)) (w0:World) (l:List Oper) (es:List Nat) (O:Nat->List (Option aa)):qy:=
 ⟨GG D nu0 o0 w0 l es O,GG.w,fun g g'=>bI g.nu (O g.c) g.w g'.nu (O g'.c) g'.w∧ ∀j,g.done j=true->g'.done j=true,fun g=>⟨.refl _ _ _,fun _ h=>h⟩,fun _ _ _ h k=>⟨h.1.trans k.1,fun j hj=>k.2 j (h.2 j hj)⟩,fun j g=>g.done j=false⟩
def fJ (D:Nat->Prop) (nu0:Nat->Nat->Value) (o0:List (Option aa)) (w0:World) (l:List Oper) (es:List Nat) (O:Nat->List (Option aa)) (k:Nat) (r:AV):jC (bA D nu0 o0 w0 l es O):=
 ⟨fun v g=>RA D g.nu (O g.c) g.w r v∧g.done k=true,fun v g g' hR h=>⟨h.1.mono hR.1 (fun _ _ h=>h),hR.2 k h.2⟩⟩
def GG.next (g:GG D nu0 o0 w0 l es O) (k:Nat) (w':World) (hb:Below g.w.heap.size g.w w') (hd: ∀i,aE l.toArray k i=true->g.done i=true) (he:es.contains k=false):GG D nu0 o0 w0 l es O where
 w:=w'
 nu:=g.nu
 done:=fun j=>if j=k then true else g.done j
 c:=g.c
 ro:=g.ro.below hb
 mono:=g.mono.trans (aw hb)
 cl:=fun j i h1 h2=>by
  by_cases hi:i=k
  ·simp [hi]
  ·simp only [if_neg hi]
   by_cases hj:j=k
   ·subst hj;exact hd i h2
   ·simp only [if_neg hj] at h1;exact g.cl j i h1 h2
 ef:=fun m e h=>by
  have hne:e≠k:=fun hh=>by
   subst hh
   have:=UK h
   simp [this] at he
  simp only [if_neg hne];exact g.ef m e h
 le:=g.le
theorem GG.Ii (g:GG D nu0 o0 w0 l es O) (k:Nat) (w':World) (hb:Below g.w.heap.size g.w w') (hd: ∀i,aE l.toArray k i=true->g.done i=true) (he:es.contains k=false) :
  (bA D nu0 o0 w0 l es O).R g (g.next k w' hb hd he)∧ ∀i,i≠k->(bA D nu0 o0 w0 l es O).pre i g->(bA D nu0 o0 w0 l es O).pre i (g.next k w' hb hd he):=by
 refine ⟨⟨aw hb,fun j hj=> ?_⟩,fun i hi h=> ?_⟩
 ·show (if j=k then true else g.done j)=true
  by_cases hjk:j=k
  ·simp [hjk]
  ·simp [hjk,hj]
 ·show (if i=k then true else g.done i)=false;simp [hi];exact h
def GG.QL (g:GG D nu0 o0 w0 l es O) (k:Nat) (w':World) (nu':Nat->Nat->Value) (hm:bI g.nu (O g.c) g.w nu' (O (g.c+1)) w') (hr:RO D nu' (O (g.c+1)) w') (hd: ∀i,aE l.toArray k i=true->g.done i=true) (he:es[g.c]? = some k) (hn:es.Nodup):GG D nu0 o0 w0 l es O where
 w:=w'
 nu:=nu'
 done:=fun j=>if j=k then true else g.done j
 c:=g.c+1
 ro:=hr
 mono:=g.mono.trans hm
 cl:=fun j i h1 h2=>by
  by_cases hi:i=k
  ·simp [hi]
  ·simp only [if_neg hi]
   by_cases hj:j=k
   ·subst hj;exact hd i h2
   ·simp only [if_neg hj] at h1;exact g.cl j i h1 h2
 ef:=fun m e h=>by
  by_cases hek:e=k
  ·subst hek
   have:m=g.c:=(Vv (Uc.1 h).1 hn).1 (h.trans he.symm)
   simp [this]
  ·simp only [if_neg hek]
   have hne:m≠g.c:=fun hh=>by subst hh;rw [he] at h;cases h;exact hek rfl
   rw [g.ef m e h];omega
 le:=(Uc.1 he).1
theorem GG.Mi (g:GG D nu0 o0 w0 l es O) (k:Nat) (w':World) (nu':Nat->Nat->Value) (hm:bI g.nu (O g.c) g.w nu' (O (g.c+1)) w') (hr:RO D nu' (O (g.c+1)) w') (hd: ∀i,aE l.toArray k i=true->g.done i=true) (he:es[g.c]? = some k) (hn:es.Nodup) :
  (bA D nu0 o0 w0 l es O).R g (g.QL k w' nu' hm hr hd he hn)∧ ∀i,i≠k->(bA D nu0 o0 w0 l es O).pre i g->(bA D nu0 o0 w0 l es O).pre i (g.QL k w' nu' hm hr hd he hn):=by
 refine ⟨⟨hm,fun j hj=> ?_⟩,fun i hi h=> ?_⟩
 ·show (if j=k then true else g.done j)=true
  by_cases hjk:j=k
  ·simp [hjk]
  ·simp [hjk,hj]
 ·show (if i=k then true else g.done i)=false;simp [hi];exact h
theorem kf (g:GG D nu0 o0 w0 l es O): ∀(n j i:Nat),nQ l.toArray n j i=true->g.done j=true->g.done i=true
 | 0,_,_,h,_=>by cases h
 | n+1,j,i,h,hj=>by
  simp only [nQ,Vl,List.any_eq_true,UW] at h
  rcases h with h|⟨k,_,h1,h2⟩
  ·exact g.cl j i hj h
  ·exact kf g n k i h2 (g.cl j k hj h1)
theorem mM (g:GG D nu0 o0 w0 l es O) {n j i:Nat} (h:nQ l.toArray n j i=true) (hd: ∀i,aE l.toArray j i=true->g.done i=true):g.done i=true:=by
 cases n with
 | zero=>cases h
 | succ n=>
  simp only [nQ,Vl,List.any_eq_true,UW] at h
  rcases h with h|⟨k,_,h1,h2⟩
  ·exact hd i h
  ·exact kf g n k i h2 (hd k h1)
theorem GG.oG (g:GG D nu0 o0 w0 l es O) {k m:Nat} (hf:Eo l.toArray es k=true) (hd: ∀i,aE l.toArray k i=true->g.done i=true) (hk:g.done k=false) (hm: ∀m' e,es[m']? = some e->(e<k↔m'<m)) (hml:m<=es.length):g.c=m:=by
 simp only [Eo,Vj,Vl,decide_eq_true_eq] at hf
 have h1:g.c<=m:=by
  rcases Ue m g.c with q|q
  ·exfalso;have hlt:m<es.length:=Nat.lt_of_lt_of_le q g.le;have he:es[m]? = some es[m]:=Uq hlt;have hdn:=(g.ef m _ he).2 q
   have hge: ¬es[m]<k:=fun hh=>by have:=(hm m _ he).1 hh;omega
   rcases hf _ (Vx hlt) with h|h
   ·rw [h,hk] at hdn;cases hdn
   ·rw [if_neg hge] at h
    have:=kf g _ _ _ h hdn
    rw [hk] at this;cases this
  ·exact q
 have h2:m<=g.c:=by
  rcases Vy m with q|q
  ·omega
  ·have hlt:m - 1<es.length:=by omega
   have he:es[m - 1]? = some es[m - 1]:=Uq hlt;have hlk:=(hm _ _ he).2 (by omega)
   rcases hf _ (Vx hlt) with h|h
   ·omega
   ·rw [if_pos hlk] at h
    have:=(g.ef _ _ he).1 (mM g h hd)
    omega
 omega
theorem GG.Ki (g:GG D nu0 o0 w0 l es O) {k m:Nat} {fs:List (Nat×Nat)} (hf:Hz l.toArray es fs k=true) (hd: ∀i,aE l.toArray k i=true->g.done i=true) (hm: ∀m' e,es[m']? = some e->(e<k↔m'<m)) (hml:m<=es.length):m<=g.c:=by
 simp only [Hz,UW,Vj,Vl,decide_eq_true_eq] at hf
 rcases Vy m with q|q
 ·omega
 ·have hlt:m - 1<es.length:=by omega
  have he:es[m - 1]? = some es[m - 1]:=Uq hlt;have hlk:=(hm _ _ he).2 (by omega)
  rcases hf.2 _ (Vx hlt) with h|h
  ·omega
  ·have:=(g.ef _ _ he).1 (mM g h hd)
   omega
theorem GG.yt (g:GG D nu0 o0 w0 l es O) {k m lo:Nat} {fs:List (Nat×Nat)} (hf:yS l.toArray es fs k=true) (hlo:fq fs k=some lo) (hd: ∀i,aE l.toArray k i=true->g.done i=true) (hk:g.done k=false) (hm: ∀m' e,es[m']? = some e->(e<k↔m'<m)):lo<=g.c∧g.c<=m:=by
 simp only [yS,hlo,UW,Vj,Vl,decide_eq_true_eq] at hf;obtain ⟨⟨h0,h1⟩,h2⟩:=hf
 constructor
 ·rcases Vy lo with q|q
  ·omega
  ·have hlt:lo - 1<es.length:=by omega
   have he:es[lo - 1]? = some es[lo - 1]:=Uq hlt;have hmem:es[lo - 1]∈es.take lo:=List.mem_take_iff_getElem.2 ⟨lo - 1,by omega,rfl⟩
   have:=(g.ef _ _ he).1 (mM g (h1 _ hmem) hd)
   omega
 ·rcases Ue m g.c with q|q
  ·exfalso;have hlt:m<es.length:=Nat.lt_of_lt_of_le q g.le;have he:es[m]? = some es[m]:=Uq hlt;have hdn:=(g.ef m _ he).2 q
   have hge: ¬es[m]<k:=fun hh=>by have:=(hm m _ he).1 hh;omega
   rcases h2 _ (Vx hlt) with h|h
   ·exact hge h
   ·have:=kf g _ _ _ h.2 hdn
    rw [hk] at this;cases this
  ·exact q
theorem rU {N:qy} {f:Nat->AV->jC N} {rs:List AV} {i:Nat} {e:AV} (h:rs[i]? = some e):uj (rs.mapIdx f) i=f i e:=by
 rw [uj,U3,List.getElem?_mapIdx,h];rfl
theorem Cr {N:qy} {f:Nat->AV->jC N} {rs:List AV} {i:Nat} {e:AV} (h:rs[i]? = some e):uj (rs.mapIdx f) i=f i e:=rU h
structure F2 (l:List Oper) (s:AS) (a:Act) (k:Nat) (sk:AS) (rs:List AV) (A:(Nat->Value)->Act):Prop where
 y:sk.y=s.y
 len:rs.length=k
 jm: ∀x,(A x).defers=a.defers
 size: ∀x,sk.t.length=(A x).tmps.size
 val: ∀x (t:Nat) c v,sk.t[t]? = some c->(A x).tmps[t]? = some v->(s.t[t]? = some c∧a.tmps[t]? = some v)∨ ∃i,i<k∧(∃oi,l[i]? = some oi∧oi.dst=some t)∧rs[i]? = some c∧v=x i
theorem F2.step {l:List Oper} {s:AS} {a:Act} {k:Nat} {sk:AS} {rs:List AV} {A:(Nat->Value)->Act} (h:F2 l s a k sk rs A) {oo:Oper} (ho:l[k]? = some oo) (r:AV) (o':List (Option aa)) :
  F2 l s a (k+1) (sk.put oo.dst r o') (rs++[r]) (fun x=>(A x).put oo.dst (x k)):=by
 refine ⟨h.y,by simp [h.len],fun x=> ?_,fun x=> ?_,fun x t c v h1 h2=> ?_⟩
 ·have:=h.jm x;cases oo.dst<;>simpa [Act.put] using this
 ·have:=h.size x;cases oo.dst<;>simpa [Act.put,AS.put] using this
 ·have old:sk.t[t]? = some c->(A x).tmps[t]? = some v->(s.t[t]? = some c∧a.tmps[t]? = some v)∨ ∃i,i<k+1∧(∃oi,l[i]? = some oi∧oi.dst=some t)∧(rs++[r])[i]? = some c∧v=x i:=by
   intro h1 h2
   rcases h.val x t c v h1 h2 with h3|⟨i,q1,q2,q3,q4⟩
   ·exact .inl h3
   ·exact .inr ⟨i,by omega,q2,by rw [Ud (by rw [h.len];exact q1)];exact q3,q4⟩
  cases hd:oo.dst with
  | none=>rw [hd] at h1 h2;exact old h1 h2
  | some d=>
   rw [hd] at h1 h2;simp only [AS.put,Act.put] at h1 h2
   by_cases hdt:d=t
   ·subst hdt;have hlt:=(Uc.1 h1).1;simp only [List.length_set] at hlt;rw [List.getElem?_set_self hlt] at h1;rw [Array.getElem?_setIfInBounds_self_of_lt (by have:=h.size x;omega)] at h2;cases h1;cases h2;exact .inr ⟨k,by omega,⟨oo,ho,hd⟩,by rw [UF (by rw [h.len];exact Nat.le_refl _),h.len,Nat.sub_self];rfl,rfl⟩
   ·rw [List.getElem?_set_ne hdt] at h1;rw [Array.getElem?_setIfInBounds_ne hdt] at h2;exact old h1 h2
theorem sH {l:List Oper} (hB:nt l.toArray=true) {i j:Nat} {oi oj:Oper} (hij:i<j) (hi:l[i]? = some oi) (hj:l[j]? = some oj):aE l.toArray j i=true∨ ∀d,oi.dst=some d->d∉oj.looksAt l.toArray:=by
 simp only [nt,UW,Vj,Vk,UA] at hB;have hjn:=(Uc.1 hj).1
 have:=(hB.2 j hjn).1 i hij
 simp only [zH,Us,hi,hj,UW,Vl,Vz] at this
 rcases this.1.1.1 with h|h
 ·exact .inl h
 ·refine .inr (fun e he=> ?_);rw [he] at h;simpa using h
theorem iq: ∀ {l:List Nat},lC l=true-> ∀(i j x y:Nat),i<j->l[i]? = some x->l[j]? = some y->x<y
 | [],_,i,j,x,y,_,h,_=>by simp at h
 | [a],_,i,j,x,y,hij,h1,h2=>by
  have:=(Uc.1 h2).1
  simp at this;omega
 | a :: b :: l,h,i,j,x,y,hij,h1,h2=>by
  simp only [lC,UW,decide_eq_true_eq] at h
  match i,j,h1,h2 with
  | 0,1,h1,h2=>cases h1;cases h2;exact h.1
  | 0,j+2,h1,h2=>
   cases h1
   have:=iq h.2 0 (j+1) b y (by omega) rfl (by simpa using h2)
   omega
  | i+1,j+1,h1,h2=>exact iq h.2 i j x y (by omega) (by simpa using h1) (by simpa using h2)
theorem di {l:List Nat} (h:lC l=true):l.Nodup:=by
 refine List.pairwise_iff_getElem.2 (fun i j hi hj hij=> ?_)
 have:=iq h i j _ _ hij (Uq hi) (Uq hj)
 omega
theorem BZ {l:List Oper} {es:List Nat} {fs:List (Nat×Nat)} (hsz: ∀e,e∈es->e<l.length) (hrise:lC es=true): ∀(rest:List Oper) (k m:Nat) (s:AS) (hist:List (List (Option aa))) (rs:List AV) (os:List (List (Option aa))) (sf:AS),l.drop k=rest->k<=l.length->Pb P l es fs rest k s hist rs os sf->m<=es.length ->
  (∀m' e,es[m']? = some e->(e<k↔m'<m))->os.length+m=es.length
 | [],k,m,s,hist,rs,os,sf,hl,hk,ht,hm,hme=>by
  obtain ⟨rfl,rfl,rfl⟩:=ht
  have hkl:k=l.length:=by have:=congrArg List.length hl;simp at this;omega
  rcases Ue m es.length with q|q
  ·have he:es[m]? = some es[m]:=Uq q
   have:=(hme m _ he).1 (by rw [hkl];exact hsz _ (Vx q))
   omega
  ·simp;omega
 | oo :: rest,k,m,s,hist,rs,os,sf,hl,hk,ht,hm,hme=>by
  have hlt:k<l.length:=by have:=congrArg List.length hl;simp at this;omega
  have hl':l.drop (k+1)=rest:=by have:=congrArg List.tail hl;simpa using this
  obtain ⟨r,rs',rfl,ht⟩:=ht
  rcases ht with ⟨he,hg,o',os',rfl,hd,htr⟩|⟨he,hstep,htr⟩
  ·have hkm:k∈es:=by simpa using he
   obtain ⟨mk,hmk⟩:=Uz hkm
   have hmke:mk=m:=by
    have h1: ¬mk<m:=fun hh=>by have:=(hme mk k hmk).2 hh;omega
    rcases Ue m mk with q|q
    ·have hlt2:m<es.length:=by have:=(Uc.1 hmk).1;omega
     have hem:es[m]? = some es[m]:=Uq hlt2;have hlt3:=iq hrise m mk _ _ q hem hmk
     have:=(hme m _ hem).1 hlt3
     omega
    ·omega
   subst hmke;have hmlt:=(Uc.1 hmk).1
   have:=BZ hsz hrise rest (k+1) (mk+1) _ _ _ _ _ hl' hlt htr (by omega) (fun m' e h=>by
    by_cases hek:e=k
    ·subst hek
     have:m'=mk:=(Vv (Uc.1 h).1 (di hrise)).1 (h.trans hmk.symm)
     omega
    ·have:=hme m' e h
     have hne:m'≠mk:=fun hh=>by subst hh;rw [hmk] at h;cases h;exact hek rfl
     omega)
   simp only [List.length_cons];omega
  ·exact BZ hsz hrise rest (k+1) m _ _ _ _ _ hl' hlt htr hm (fun m' e h=>by
    have hne:e≠k:=fun hh=>by
     subst hh
     have:=UK h
     simp [this] at he
    rw [<-hme m' e h];omega)
theorem lV {f:Fr} {fs:List (Nat×Nat)} (hB:sG l.toArray es fs=true) {s sf:AS} {a:Act} {w0:World} {rs:List AV} {os:List (List (Option aa))} {R:Exit->Act->World->Prop} {g0:GG D nu s.o w0 l es (fun c=>(s.o :: os).getD c [])} (hs:RS f D nu s a w0)
  (hR: ∀a' w' nu',bI nu s.o w0 nu' sf.o w'->sf.y=s.y->RS f D nu' sf a' w'->R .normal a' w') :
  ∀(rest:List Oper) (k m:Nat) (sk:AS) (hist:List (List (Option aa))) (rs1 rs2:List AV) (os2:List (List (Option aa))) (A:(Nat->Value)->Act),l.drop k=rest->Pb P l es fs rest k sk hist rs2 os2 sf->(s.o :: os).take m=hist->rs=rs1++rs2->F2 l s a k sk rs1 A->(s.o :: os).drop m=sk.o :: os2 ->
   m<=es.length->(∀m' e,es[m']? = some e->(e<k↔m'<m))->k<=l.length ->
   Il (N:=bA D nu s.o w0 l es (fun c=>(s.o :: os).getD c [])) P l.toArray (rs.mapIdx (fun k r=>fJ D nu s.o w0 l es (fun c=>(s.o :: os).getD c []) k r)) g0 (R .normal) rest k A
 | [],k,m,sk,hist,rs1,rs2,os2,A,hl,ht,hhi,hrs,hI,hO,hml,hme,hk=>by
  obtain ⟨rfl,rfl,rfl⟩:=ht;intro x g hE hD
  have hkl:k=l.length:=by have:=congrArg List.length hl;simp at this;omega
  have hspec: ∀i r,rs1[i]? = some r->(fJ D nu s.o w0 l es (fun c=>(s.o :: os).getD c []) i r).p (x i) g:=fun i r hr=>by
   have hik:i<k:=by rw [<-hI.len];exact (Uc.1 hr).1
   have:=hD i hik
   rw [hrs,List.append_nil,Cr hr] at this;exact this
  have hdone: ∀i,i<k->g.done i=true:=fun i hi=>by
   have hlt:i<rs1.length:=by rw [hI.len];exact hi
   exact (hspec i _ (Uq hlt)).2
  have hsz: ∀e,e∈es->e<l.length:=by
   simp only [sG,UW,Vj,decide_eq_true_eq,UA] at hB;exact hB.1.2
  have hm:m=es.length:=by
   rcases Ue m es.length with q|q
   ·have he:es[m]? = some es[m]:=Uq q
    have:=(hme m _ he).1 (by rw [hkl];exact hsz _ (Vx q))
    omega
   ·omega
  have hc:g.c=m:=by
   have h1:=g.le
   rcases Vy m with q|q
   ·omega
   ·have hlt:m - 1<es.length:=by omega
    have he:es[m - 1]? = some es[m - 1]:=Uq hlt
    have:=(g.ef _ _ he).1 (hdone _ (by rw [hkl];exact hsz _ (Vx hlt)))
    omega
  have hOm:(s.o :: os).getD m []=sf.o:=by
   have:=congrArg (fun l=>l[0]?) hO
   simp only [Uo,Nat.add_zero,Ve] at this;rw [U3,this];rfl
  have hro:=g.ro;have hmo:=g.mono;simp only [hc,hOm] at hro hmo;refine hR (A x) g.w g.nu hmo hI.y ⟨hro,⟨hI.size x,fun t c v h1 h2=> ?_⟩,by rw [hI.jm x];exact hs.jm.mono hs.ro hmo⟩
  rcases hI.val x t c v h1 h2 with ⟨h3,h4⟩|⟨i,q1,q2,q3,q4⟩
  ·exact (hs.tm.at' t c v h3 h4).mono hmo (fun _ _ h=>h)
  ·have:=(hspec i c q3).1
   simp only [hc,hOm] at this;rw [q4];exact this
 | oo :: rest,k,m,sk,hist,rs1,rs2,os2,A,hl,ht,hhi,hrs,hI,hO,hml,hme,hk=>by
  have hB':=hB;simp only [sG,UW,Vj,decide_eq_true_eq,UA,Vk,Vl] at hB';obtain ⟨⟨⟨hrel,hrise⟩,hszs⟩,hfix⟩:=hB'
  have hlt:k<l.length:=by have:=congrArg List.length hl;simp at this;omega
  have hok:l[k]? = some oo:=by have:=congrArg (fun m=>m[0]?) hl;simpa using this
  have hl':l.drop (k+1)=rest:=by have:=congrArg List.tail hl;simpa using this
  have hOm:(s.o :: os).getD m []=sk.o:=by
   have:=congrArg (fun l=>l[0]?) hO
   simp only [Uo,Nat.add_zero,Ve] at this;rw [U3,this];rfl
  obtain ⟨r,rs',rfl,ht⟩:=ht
  have hrs':rs=(rs1++[r])++rs':=by rw [hrs];simp
  have hspecK:uj (rs.mapIdx (fun k r=>fJ D nu s.o w0 l es (fun c=>(s.o :: os).getD c []) k r)) k=fJ D nu s.o w0 l es (fun c=>(s.o :: os).getD c []) k r:=by
   rw [hrs];exact rU (by rw [UF (by rw [hI.len];exact Nat.le_refl _),hI.len,Nat.sub_self];rfl)
  have hspec: ∀(x:Nat->Value) (g:GG D nu s.o w0 l es (fun c=>(s.o :: os).getD c [])) i rr,(uj (rs.mapIdx (fun k r=>fJ D nu s.o w0 l es (fun c=>(s.o :: os).getD c []) k r)) i).p (x i) g->rs1[i]? = some rr->RA D g.nu ((s.o :: os).getD g.c []) g.w rr (x i)∧g.done i=true:=fun x g i rr h hr=>by
   rw [hrs,rU (by rw [Ud (Uc.1 hr).1];exact hr)] at h;exact h
  have hdep: ∀i,aE l.toArray k i=true->i<k:=fun i hi=>by
   simp only [nt,UW,Vj,Vk,UA] at hrel
   rcases Nat.lt_trichotomy i k with h|h|h
   ·exact h
   ·subst h
    have:=(hrel.2 i hlt).2.1
    rw [hi] at this;cases this
   ·exfalso;simp only [aE,Us,hok,Array.any_eq_true',UW,beq_iff_eq] at hi;obtain ⟨e,he,hb,rfl⟩:=hi;have hfar:=(hrel.2 k hlt).2.2;simp only [yQ,Us,hok,Array.all_eq_true_iff_forall_mem] at hfar
    have hel:e.on<l.length:=by simpa using hfar e he
    have:=(hrel.2 e.on hel).1 k h
    simp only [zH,Us,hok,Uq hel,UW,Vz] at this;have h2:=this.1.1.2;simp only [aE,Us,hok] at h2
    have:oo.after.any (fun e_1=>Region.binds .any e_1&&e_1.on==e.on)=true:=by
     simp only [Array.any_eq_true',UW,beq_iff_eq];exact ⟨e,he,hb,rfl⟩
    rw [this] at h2;cases h2
  have hdoneD: ∀(x:Nat->Value) (g:GG D nu s.o w0 l es (fun c=>(s.o :: os).getD c [])),(∀i,aE l.toArray k i=true->(uj (rs.mapIdx (fun k r=>fJ D nu s.o w0 l es (fun c=>(s.o :: os).getD c []) k r)) i).p (x i) g)-> ∀i,aE l.toArray k i=true->g.done i=true:=fun x g hD i hi=>by
   have hlt:i<rs1.length:=by rw [hI.len];exact hdep i hi
   exact (hspec x g i _ (hD i hi) (Uq hlt)).2
  
  have hlook: ∀(x:Nat->Value) (g:GG D nu s.o w0 l es (fun c=>(s.o :: os).getD c [])),(∀i,aE l.toArray k i=true->(uj (rs.mapIdx (fun k r=>fJ D nu s.o w0 l es (fun c=>(s.o :: os).getD c []) k r)) i).p (x i) g)-> ∀(t:Nat) c v,t∈oo.looksAt l.toArray->sk.t[t]? = some c->(A x).tmps[t]? = some v->RA D g.nu ((s.o :: os).getD g.c []) g.w c v:=by
   intro x g hD t c v ht h1 h2
   rcases hI.val x t c v h1 h2 with ⟨h3,h4⟩|⟨i,q1,⟨oi,q2,q5⟩,q3,q4⟩
   ·exact (hs.tm.at' t c v h3 h4).mono g.mono (fun _ _ h=>h)
   ·rcases sH hrel q1 q2 hok with h5|h5
    ·have:=(hspec x g i c (hD i h5) q3).1
     rw [q4];exact this
    ·exact absurd ht (h5 t q5)
  have hevs: ∀(x:Nat->Value) (g:GG D nu s.o w0 l es (fun c=>(s.o :: os).getD c [])),(∀i,aE l.toArray k i=true->(uj (rs.mapIdx (fun k r=>fJ D nu s.o w0 l es (fun c=>(s.o :: os).getD c []) k r)) i).p (x i) g)->F0 D g.nu ((s.o :: os).getD g.c []) g.w sk.ev (A x).eval oo.op:=by
   intro x g hD y hy
   cases y with
   | tmp t=>
    simp only [AS.ev,Act.eval]
    rcases Ue t sk.t.length with hlt|hge
    ·have e1:sk.t[t]? = some sk.t[t]:=Uq hlt
     have hlt':t<(A x).tmps.size:=by rw [<-hI.size x];exact hlt
     have hx:(A x).tmps[t]? = some (A x).tmps[t]:=Array.getElem?_eq_getElem hlt';rw [getD_some e1]
     have:(A x).tmps.getD t Go.undef=(A x).tmps[t]:=by simp [Array.getD,hlt']
     rw [this];exact hlook x g hD t _ _ (List.mem_append_left _ (List.mem_filterMap.2 ⟨.tmp t,hy,rfl⟩)) e1 hx
    ·have e0:sk.t.getD t .undef = .undef:=by rw [U3,List.getElem?_eq_none hge];rfl
     rw [e0];exact .undef _
   | const v=>exact .v v
   | global gi=>exact (mK hs.ro sk gi).mono g.mono (fun _ _ h=>h)
   | func f=>exact .fn f [] [] #[] #[] rfl rfl (fun i c x h=>by simp at h) (fun i c x h=>by simp at h)
  have hcont: ∀(x:Nat->Value),es.contains k=false-> ∀m' e,es[m']? = some e->(e<k+1↔m'<m):=fun _ he m' e h=>by
   have hne:e≠k:=fun hh=>by
    subst hh
    have:=UK h
    simp [this] at he
   rw [<-hme m' e h];omega
  rcases ht with ⟨he,hg,o',os',rfl,hd,htr⟩|⟨he,hstep,htr⟩
  ·
   have hkm:k∈es:=by simpa using he
   obtain ⟨mk,hmk⟩:=Uz hkm
   have hmke:mk=m:=by
    have h1: ¬mk<m:=fun hh=>by have:=(hme mk k hmk).2 hh;omega
    rcases Ue m mk with q|q
    ·have hlt2:m<es.length:=by have:=(Uc.1 hmk).1;omega
     have hem:es[m]? = some es[m]:=Uq hlt2;have hlt3:=iq hrise m mk _ _ q hem hmk
     have:=(hme m _ hem).1 hlt3
     omega
    ·omega
   subst hmke
   have hOm1:(s.o :: os).getD (mk+1) []=o':=by
    have h1:=congrArg (fun (l:List (List (Option aa)))=>l[1]?) hO;simp only [Uo] at h1;rw [U3,h1];rfl
   refine ⟨fun x g hE hD hp=> ?_, ?_⟩
   ·have hdd:=hdoneD x g hD
    have hfx:Eo l.toArray es k=true:=by
     rcases hfix k hlt with ((h|h)|h)|h
     ·have:=h.2;simp [hkm] at this
     ·exact h
     ·exfalso;simp only [yS] at h
      split at h
      ·simp only [UW,Vj,Vl,decide_eq_true_eq] at h
       rcases h.2 k hkm with q|q
       ·omega
       ·simp at q
      ·cases h
     ·exfalso;simp only [Hz,UW] at h
      have:=h.1.1.1;simp [hkm] at this
    have hc:g.c=mk:=g.oG hfx hdd hp hme hml;have hev:=hevs x g hD;have hro:=g.ro;simp only [hc,hOm] at hev hro;refine .inl ⟨by simp [Region.wanted,hg], ?_⟩;rw [hspecK]
    have hgo: ∀(v:Value) (w':World) (nu':Nat->Nat->Value),bI g.nu sk.o g.w nu' o' w'->RO D nu' o' w'->RA D nu' o' w' r v ->
      ∃g':GG D nu s.o w0 l es (fun c=>(s.o :: os).getD c []),(bA D nu s.o w0 l es (fun c=>(s.o :: os).getD c [])).wd g'=w'∧(bA D nu s.o w0 l es (fun c=>(s.o :: os).getD c [])).R g g'∧(∀i,i≠k->(bA D nu s.o w0 l es (fun c=>(s.o :: os).getD c [])).pre i g->(bA D nu s.o w0 l es (fun c=>(s.o :: os).getD c [])).pre i g')∧(fJ D nu s.o w0 l es (fun c=>(s.o :: os).getD c []) k r).p v g':=by
     intro v w' nu' m1 m2 m3
     have hm':bI g.nu ((s.o :: os).getD g.c []) g.w nu' ((s.o :: os).getD (g.c+1) []) w':=by rw [hc,hOm,hOm1];exact m1
     have hr':RO D nu' ((s.o :: os).getD (g.c+1) []) w':=by rw [hc,hOm1];exact m2
     have hek:es[g.c]? = some k:=by rw [hc];exact hmk
     have hR2:=g.Mi k w' nu' hm' hr' hdd hek (di hrise)
     refine ⟨g.QL k w' nu' hm' hr' hdd hek (di hrise),rfl,hR2.1,hR2.2, ?_, ?_⟩
     ·show RA D nu' ((s.o :: os).getD (g.c+1) []) w' r v;rw [hc,hOm1];exact m3
     ·show (if k=k then true else g.done k)=true;simp
    rcases uO (P:=P) (rho:=(A x).eval) hro hev hd with ⟨v,w',nu',h1,m1,m2,m3⟩|⟨gf,vargs,h1,h2⟩
    ·rcases h1 with h1|⟨h1,rfl⟩
     ·have e1:(execOp (A x).eval oo).run P ((bA D nu s.o w0 l es (fun c=>(s.o :: os).getD c [])).wd g) = .ok (.value v) w':=h1;rw [e1];exact hgo v w' nu' m1 m2 m3
     ·have e1:(execOp (A x).eval oo).run P ((bA D nu s.o w0 l es (fun c=>(s.o :: os).getD c [])).wd g) = .ok .skip w':=h1;rw [e1];exact hgo _ w' nu' m1 m2 m3
    ·have e1:(execOp (A x).eval oo).run P ((bA D nu s.o w0 l es (fun c=>(s.o :: os).getD c [])).wd g) = .ok (.enter gf vargs) g.w:=h1;rw [e1];refine h2.mono ?_;rintro e w' ⟨v,nu',rfl,m1,m2,m3⟩;obtain ⟨g',k1,k2,k3,k4⟩:=hgo v w' nu' m1 m2 m3;exact ⟨v,g',rfl,k1,k2,k3,k4⟩
   ·refine lV hB hs hR rest (k+1) (mk+1) (sk.put oo.dst r o') (hist++[sk.o]) (rs1++[r]) rs' os' _ hl' htr (by rw [List.take_succ_eq_append_getElem (by have:=congrArg List.length hO;simp at this ⊢; omega),hhi];congr 1;have:=hOm;rw [U3,Uq (by have:=congrArg List.length hO;simp at this ⊢; omega)] at this;simpa using this) hrs' (hI.step hok r o') ?_ ((Uc.1 hmk).1) (fun m' e h=> ?_) hlt
    ·have:=congrArg List.tail hO
     rw [List.tail_drop] at this;exact this
    ·by_cases hek:e=k
     ·subst hek
      have:m'=mk:=(Vv (Uc.1 h).1 (di hrise)).1 (h.trans hmk.symm)
      omega
     ·have:=hme m' e h
      have hne:m'≠mk:=fun hh=>by subst hh;rw [hmk] at h;cases h;exact hek rfl
      omega
  ·refine ⟨fun x g hE hD hp=> ?_, ?_⟩
   ·have hdd:=hdoneD x g hD;rw [hspecK]
    have hnext: ∀(v:Value) (w':World),RA D g.nu ((s.o :: os).getD g.c []) w' r v->Below g.w.heap.size g.w w' ->
      ∃g':GG D nu s.o w0 l es (fun c=>(s.o :: os).getD c []),(bA D nu s.o w0 l es (fun c=>(s.o :: os).getD c [])).wd g'=w'∧(bA D nu s.o w0 l es (fun c=>(s.o :: os).getD c [])).R g g'∧(∀i,i≠k->(bA D nu s.o w0 l es (fun c=>(s.o :: os).getD c [])).pre i g->(bA D nu s.o w0 l es (fun c=>(s.o :: os).getD c [])).pre i g')∧(fJ D nu s.o w0 l es (fun c=>(s.o :: os).getD c []) k r).p v g':=by
     intro v w' hr hb;have hR2:=g.Ii k w' hb hdd he;refine ⟨g.next k w' hb hdd he,rfl,hR2.1,hR2.2,hr, ?_⟩;show (if k=k then true else g.done k)=true;simp
    have hyv: ∀j want,oo.guard=some (j,want)-> ∀gg,iP l sk j=some gg->yielded l.toArray (A x).tmps j=gg:=fun j want hg gg hgv=>
     gC (s:=⟨sk.t,(s.o :: os).getD g.c [],sk.y⟩) (D:=D) (nu:=g.nu) (w:=g.w) (fun d c v hd h1 h2=>by
      refine hlook x g hD d c v ?_ h1 h2;obtain ⟨og,q1,q2⟩:=hd;refine List.mem_append_right _ ?_;simp only [hg,Us,q1,Option.bind_some,q2]
      simp) (hI.size x) (show iP l ⟨sk.t,_,sk.y⟩ j=some gg from hgv)
    rcases hstep with ⟨hw,hd,hfl,hlat⟩|⟨_,_,rfl,j,want,gg,hg,hgv,hno⟩
    ·have hwant:Region.wanted oo (yielded l.toArray (A x).tmps)=true:=by
      rcases hw with hg|⟨j,want,b,hg,hgv,hb⟩
      ·simp [Region.wanted,hg]
      ·simp only [Region.wanted,hg,hyv j want hg _ hgv];simpa using hb
     refine .inl ⟨hwant, ?_⟩
     have hd':bR P oo.op ⟨sk.t,(s.o :: os).getD g.c [],sk.y⟩ (fun r'=>r'=r):=by
      rcases hfix k hlt with ((h|h)|h)|h
      ·rw [show l.toArray[k]? = some oo by simpa using hok] at h;exact uP (by simpa using h.1) (show bR P oo.op ⟨sk.t,sk.o,sk.y⟩ (fun r'=>r'=r) from hd)
      ·have hc:g.c=m:=g.oG h hdd hp hme hml;rw [hc,hOm];exact hd
      ·have hlo: ∃lo,fq fs k=some lo:=by
        simp only [yS] at h
        split at h
        ·exact ⟨_, ‹_›⟩
        ·cases h
       obtain ⟨lo,hlo⟩:=hlo;obtain ⟨c1,c2⟩:=g.yt h hlo hdd hp hme
       rcases Nat.eq_or_lt_of_le c2 with hc|hc
       ·rw [hc,hOm];exact hd
       ·have hgl:g.c<(s.o :: os).length:=by have:=congrArg List.length hO;simp at this ⊢; omega
        refine hfl lo hlo _ ?_;rw [<-hhi,U3,Uq hgl];refine List.mem_drop_iff_getElem.2 ⟨g.c - lo,by simp at hgl ⊢; omega, ?_⟩;rw [List.getElem_take];simp only [Option.getD_some]
        congr 1
        omega
      ·have hc:=g.Ki h hdd hme hml;simp only [Hz,UW] at h
       rcases Nat.eq_or_lt_of_le hc with hc|hc
       ·rw [<-hc,hOm];exact hd
       ·have hle:=g.le;refine hlat (by simpa using h.1.1.2) h.1.2 _ ?_;have hln:=BZ hszs hrise rest (k+1) m _ _ _ _ _ hl' (by omega) htr hml (hcont (fun _=>Go.undef) he);have e1:=congrArg (fun (l:List (List (Option aa)))=>l[g.c - m]?) hO;obtain ⟨d,hd1⟩: ∃d,g.c - m=d+1:=⟨g.c - m - 1,by omega⟩;simp only [Uo,show m+(g.c - m)=g.c by omega] at e1;rw [hd1,List.getElem?_cons_succ,Uq (l:=os2) (by omega)] at e1;rw [U3,e1];exact Vx _
     obtain ⟨r',rfl,hout⟩:=fC (P:=P) (s:=⟨sk.t,(s.o :: os).getD g.c [],sk.y⟩) (rho:=(A x).eval) g.ro (hevs x g hD) hd';have e0:(execOp (A x).eval oo).run P ((bA D nu s.o w0 l es (fun c=>(s.o :: os).getD c [])).wd g)=(execOp (A x).eval oo).run P g.w:=rfl;rw [e0];generalize (execOp (A x).eval oo).run P g.w=res at hout
     cases res with
     | halt _ _=>exact hout.elim
     | ok n w'=>
      cases n<;>first|exact hout.elim|skip
      case value u=>exact hnext u w' hout.1.2 hout.2
      case skip=>exact hnext _ w' hout.1.2 hout.2
      case enter gf vargs=>
       refine Calls.mono hout ?_;rintro e w'' ⟨v,rfl,hv,hb⟩;obtain ⟨g',k1,k2,k3,k4⟩:=hnext v w'' hv.2 hb;exact ⟨v,g',rfl,k1,k2,k3,k4⟩
    ·refine .inr ⟨?_, ?_⟩
     ·simp only [Region.wanted,hg,hyv j want hg _ hgv]
      rcases hno with rfl|⟨b,rfl,hb⟩
      ·rfl
      ·simpa using hb
     ·obtain ⟨g',k1,k2,k3,k4⟩:=hnext Go.undef g.w (.v _) (.refl _ _);exact ⟨g',k1,k2,k3,k4⟩
   ·have hO':(s.o :: os).drop m=(sk.put oo.dst r s.o).o :: os2->True:=fun _=>trivial;refine lV hB hs hR rest (k+1) m (sk.put oo.dst r sk.o) hist (rs1++[r]) rs' os2 _ hl' ?_ hhi hrs' (hI.step hok r sk.o) hO hml (hcont (fun _=>Go.undef) he) hlt;exact htr
theorem bV {n0 id:Nat} {s:AS} {l:List Oper} {Q:a7->AS->Prop} (es:List Nat) (fs:List (Nat×Nat)) (hB:sG l.toArray es fs=true) (hC:dw l.toArray=true) (h:cw P l es fs l 0 s [] none (Q .normal)):cr P n0 (.region id l.toArray true) s Q:=by
 refine .inr (fun f m D nu a w hZr hn hm hs hmx R hO hR=> ?_);obtain ⟨rs,os,sf,htr,_,hq⟩:=fD l 0 s [] h;have hs':=hs.drew
 have hrel:nt l.toArray=true:=by
  simp only [sG,UW] at hB;exact hB.1.1.1
 let g0:GG D nu s.o w.drew l es (fun c=>(s.o :: os).getD c []):=⟨w.drew,nu,fun _=>false,0,hs'.ro, .refl _ _ _,(fun _ _ h=>by cases h),(fun _ _ _=>by simp),Nat.zero_le _⟩
 have hobl:=lV (P:=P) (R:=R) (rs:=rs) (g0:=g0) hB hs' (fun a' w' nu' h1 hy h2=>hR .normal D f.Z sf a' w' nu' (by rw [hy];exact m.own hm hs.ro ((aw (cW w)).trans h1) h2.ro) h2 hq) l 0 0 s [] [] rs os (fun _=>a) (by simp) htr (by simp) (by simp) ⟨rfl,rfl,fun _=>rfl,fun _=>hs.tm.len,fun x t c v h1 h2=> .inl ⟨h1,h2⟩⟩ (by simp) (Nat.zero_le _) (fun m' e _=>by simp) (Nat.zero_le _);exact mC hmx hC hO (jX (N:=bA D nu s.o w.drew l es (fun c=>(s.o :: os).getD c [])) _ hrel g0 rfl (fun _=>rfl) hobl)
theorem ae {all rest:List Oper} {es:List Nat} {fs:List (Nat×Nat)} {oo:Oper} {k:Nat} {s:AS} {hist:List (List (Option aa))} {pn:Option (List (Option aa)->Prop)} {Q:AS->Prop} (he:(es.contains k||(fq fs k).isSome||xu fs k)=false) (h: ∀K:AS->Prop,(∀s',cw P all es fs rest (k+1) s' hist pn Q->K s')->dH P all oo s K):cw P all es fs (oo :: rest) k s hist pn Q:=by
 simp only [Bool.or_eq_false_iff] at he;simp only [cw,he.1.1,Vu,if_false]
 cases hf:fq fs k with
 | some lo=>rw [hf] at he;simp at he
 | none=>rw [he.2];exact h _ (fun _ h=>h)
theorem ah {all rest:List Oper} {es:List Nat} {fs:List (Nat×Nat)} {dst:Option Tmp} {op:Op} {ty:TypeId} {pos:String} {aft:Array Edge} {k:Nat} {s:AS} {hist:List (List (Option aa))} {Q:AS->Prop} (he:es.contains k=true) (h: ∀K:AS->Prop,(∀s',cw P all es fs rest (k+1) s' (hist++[s.o]) none Q->K s')->pC P op s (fun r o'=>K (s.put dst r o'))):cw P all es fs (⟨dst,op,ty,pos,aft,none⟩ :: rest) k s hist none Q:=by
 simp only [cw,he,if_true,NP,true_and];exact h _ (fun _ h=>h)
theorem cd {all rest:List Oper} {es:List Nat} {fs:List (Nat×Nat)} {dst:Option Tmp} {op:Op} {ty:TypeId} {pos:String} {aft:Array Edge} {k:Nat} {s:AS} {hist:List (List (Option aa))} {p:List (Option aa)->Prop} {Q:AS->Prop} (he:es.contains k=true) (h: ∀K:AS->Prop,(∀s',cw P all es fs rest (k+1) s' (hist++[s.o]) (some p) Q->K s')->pC P op s (fun r o'=>p o'∧K (s.put dst r o'))):cw P all es fs (⟨dst,op,ty,pos,aft,none⟩ :: rest) k s hist (some p) Q:=by
 simp only [cw,he,if_true,NP];exact h _ (fun _ h=>h)
theorem ck {all rest:List Oper} {es:List Nat} {fs:List (Nat×Nat)} {dst:Option Tmp} {op:Op} {ty:TypeId} {pos:String} {aft:Array Edge} {k lo:Nat} {s:AS} {hist:List (List (Option aa))} {pn:Option (List (Option aa)->Prop)} {Q:AS->Prop} (he:(if es.contains k then none else fq fs k)=some lo) (h: ∀K:AS->Prop,(∀s',cw P all es fs rest (k+1) s' hist pn Q->K s')->bR P op s (fun r=>(∀o',o'∈hist.drop lo->bR P op ⟨s.t,o',s.y⟩ (fun r'=>r'=r))∧K (s.put dst r s.o))):cw P all es fs (⟨dst,op,ty,pos,aft,none⟩ :: rest) k s hist pn Q:=by
 have hc:es.contains k=false:=by cases hc:es.contains k<;>simp_all
 simp only [hc,Vu,if_false] at he;simp only [cw,hc,Vu,if_false,he];exact ⟨trivial,h _ (fun _ h=>h)⟩
theorem cG {all rest:List Oper} {es:List Nat} {fs:List (Nat×Nat)} {dst:Option Tmp} {op:Op} {ty:TypeId} {pos:String} {aft:Array Edge} {k:Nat} {s:AS} {hist:List (List (Option aa))} {pn:Option (List (Option aa)->Prop)} {Q:AS->Prop} (he:(!es.contains k&&(fq fs k).isNone&&xu fs k)=true) (h:bR P op s (fun r=>cw P all es fs rest (k+1) (s.put dst r s.o) hist (some fun o'=>NP pn o'∧bR P op ⟨s.t,o',s.y⟩ (fun r'=>r'=r)) Q)):cw P all es fs (⟨dst,op,ty,pos,aft,none⟩ :: rest) k s hist pn Q:=by
 simp only [UW,Vz] at he;simp only [cw,he.1.1,Vu,if_false]
 cases hf:fq fs k with
 | some lo=>rw [hf] at he;simp at he
 | none=>rw [he.2];exact ⟨trivial,h⟩
theorem AO {all:List Oper} {es:List Nat} {fs:List (Nat×Nat)} {k:Nat} {s:AS} {hist:List (List (Option aa))} {pn:Option (List (Option aa)->Prop)} {Q:AS->Prop} (h:Q s):cw P all es fs [] k s hist pn Q:=h
instance {all:List Oper} {es:List Nat} {fs:List (Nat×Nat)} {k:Nat} {s:AS} {hist:List (List (Option aa))} {pn:Option (List (Option aa)->Prop)} {Q:AS->Prop}:aA (cw P all es fs [] k s hist pn Q) (Q s):=⟨AO⟩
end
attribute [go_sem] NP pC JS List.forall_mem_cons List.not_mem_nil false_implies implies_true
end
end Go.Proofs.YtfflpdekojlnmaaGreatDoor
