/- OverExprs, OverPatterns, OverConds, OverOperands, OverQuery: the walks over lists that may share memory. -/
import Derived.Test.YtldnlbcibmmbbaaGreatWOvr
set_option linter.unusedSimpArgs false
set_option linter.unusedVariables false
open Array renaming getElem?_modify → JS, getElem?_eq_some_iff → IY
open Nat renaming zero_le → I6
namespace Go.Proofs.YtldnlbcibmmbbaaGreat
open Go.RowKit
theorem cellAt {w:World} {b p:Nat} {cur:Array Value} {T:TypeId} (h:w.heap[b]? = some (.cells cur T (0,0))) (hp:p<cur.size): ∃x,w.cell? ⟨b,p,none⟩=some x:=⟨cur[p],by simp [World.cell?,h,Array.getElem?_eq_getElem hp]⟩
theorem sD {S:Nat→Prop} {w1:World} (a:Option Addr):te S w1 125 (.slice a 0 0):=fun w hO=>by
 refine (si a w).mono ?_
 rintro e w' ⟨rfl,rfl⟩
 exact ⟨rfl,hO⟩
theorem nC.set {S:Nat→Prop} {w1 w:World} {b:Nat} {C:Array Value} {T:TypeId} (h:nC S w1 w) (hS:S b) (hb:w1.heap[b]? = some (.cells C T (0,0))) (p:Nat) (v:Value) (hv:v.oneCell'=true)
  (he:T=43→ ∀i,p=i * 3+2→v = .slice none 0 0) (hp:T=45→ ∀i,p=i * 8+7→v = .slice none 0 0):nC S w1 (w.setCell ⟨b,p,none⟩ v):=by
 have hoth: ∀k,k≠b→(w.setCell ⟨b,p,none⟩ v).heap[k]? = w.heap[k]? :=fun k hk=>by
  simp only [World.setCell,JS]
  rw [if_neg (fun e=>hk e.symm)]
 refine ⟨h.os,h.tape,h.output,by simpa [World.setCell] using h.size,fun k h1 h2=> ?_,fun k C2 T2 h1 h2=> ?_⟩
 ·have hk:k≠b:=fun e=>h2 (e ▸ hS)
  exact (hoth k hk).trans (h.same k h1 h2)
 ·obtain ⟨C',q1,q2,q3,q4,q5⟩:=h.cells k C2 T2 h1 h2
  by_cases hk:k=b
  ·subst hk
   rw [hb] at h2
   cases h2
   have get: ∀i,(C'.setIfInBounds p v)[i]? = if p=i then (if i<C'.size then some v else none) else C'[i]? :=fun i=>by
    rw [Array.getElem?_setIfInBounds]
    split<;>simp_all
   refine ⟨C'.setIfInBounds p v,by simp [World.setCell,JS,q1],by simpa using q2,fun i x e1 e2=> ?_,fun hT i x e1=> ?_,fun hT i x e1=> ?_⟩
   ·obtain ⟨x',e3,e4⟩:=q3 i x e1 e2
    rw [get]
    split
    ·rw [if_pos (IY.1 e3).1];exact ⟨v,rfl,hv⟩
    ·exact ⟨x',e3,e4⟩
   ·have hlt:i * 3+2<C'.size:=by rw [q2];exact (IY.1 e1).1
    rw [get]
    split
    ·rename_i e
     try rw [if_pos hlt]
     rw [he hT i e];exact .inr rfl
    ·exact q4 hT i x e1
   ·have hlt:i * 8+7<C'.size:=by rw [q2];exact (IY.1 e1).1
    rw [get]
    split
    ·rename_i e
     try rw [if_pos hlt]
     rw [hp hT i e];exact .inr rfl
    ·exact q5 hT i x e1
  ·exact ⟨C',(hoth k hk).trans q1,q2,q3,q4,q5⟩
set_option maxRecDepth 100000 in
set_option maxHeartbeats 4000000 in
theorem sE {S:Nat→Prop} {w1:World} {b n cap:Nat} {C:Array Value} {f:Nat→Value} (hS:S b) (hblk:w1.heap[b]? = some (.cells C 43 (0,0))) (hC:C.size=cap * 3) (hn:n≤cap) (hc:cap≤maxLen) (hn6:n≤1000000)
  (h01: ∀i,i<n→ ∃a b,C[i * 3]? = some a∧C[i * 3+1]? = some b∧a.oneCell'=true∧b.oneCell'=true) (h2: ∀i,i<n→C[i * 3+2]? = some (f i)) (hf: ∀i,i<n→(f i).oneCell'=true) (H: ∀i,i<n→te S w1 125 (f i)) :
  te S w1 125 (.slice (some ⟨b,0,none⟩) n cap):=by
 intro w hO
 have HO:=Lib.hid hO
 clear hO
 unfold maxLen at hc
 go_enter Tryz.func125,Tryz.ntmps125
 have HM:=Lib.hid (fun (k:Nat) (hk:k≤2000000) (W:World)=>AG k hk W)
 go_wp2_with fail
 go_loopw [2] (fun i wr=> ∃(k:Nat),k≤n∧i = .int .i64 k∧nC S w1 wr) (fun i _=>n - (intOf i).toNat)
 case atStart=>exact ⟨0,I6 _,rfl,HO.out⟩
 case round=>
  obtain ⟨k,hk,rfl,hB⟩:=hrel
  by_cases hlt:k<n
  ·obtain ⟨C',q1,q2,q3,q4,q5⟩:=hB.cells b C _ hS hblk
   obtain ⟨a0,a1,e0,e1,o0,o1⟩:=h01 k hlt
   obtain ⟨x0,f0,p0⟩:=q3 _ _ e0 o0
   obtain ⟨x1,f1,p1⟩:=q3 _ _ e1 o1
   obtain ⟨y,fy,py⟩: ∃y,C'[k * 3+2]? = some y∧(y=f k∨y = .slice none 0 0):=by
    rcases q4 rfl k _ (h2 k hlt) with h|h
    ·exact ⟨_,h, .inl rfl⟩
    ·exact ⟨_,h, .inr rfl⟩
   have c0:wr.cell? ⟨b,k * 3,none⟩=some x0:=by simpa [World.cell?,q1] using f0
   have c1:wr.cell? ⟨b,k * 3+1,none⟩=some x1:=by simpa [World.cell?,q1] using f1
   have cy:wr.cell? ⟨b,k * 3+2,none⟩=some y:=by simp [World.cell?,q1,fy]
   have hx:y.oneCell'=true∧te S w1 125 y:=by
    rcases py with rfl|rfl
    ·exact ⟨hf k hlt,H k hlt⟩
    ·exact ⟨rfl,sD none⟩
   have HB:=Lib.hid hB;clear hB
   have HC:=Lib.hid (mY p0 p1 hx.1 hx.2)
   clear hx py q3 q4 q5
   go_wp2_with fail
   refine (HC.out _ HB.out).mono ?_
   rintro e w' ⟨rfl,hO'⟩
   have HO':=Lib.hid hO';clear hO'
   go_wp2_with fail
   go_roundw
   case rel=>exact ⟨k+1,by omega,by go_num,HO'.out⟩
   case measure=>simp [intOf];omega
  ·have HB:=Lib.hid hB;clear hB
   by_cases hle:cap≤n+12
   ·go_wp2_with fail
    go_loopw [4] (fun i wr=> ∃(k:Nat),k≤cap∧i = .int .i64 k∧nC S w1 wr) (fun i _=>cap - (intOf i).toNat)
    case atStart=>exact ⟨0,I6 _,rfl,HB.out⟩
    case round=>
     obtain ⟨k,hk,rfl,hB⟩:=hrel
     have HB:=Lib.hid hB;clear hB
     by_cases hlt:k<cap
     ·go_wp2_with fail
      refine (HM.out k (by omega) _).mono ?_
      rintro e w' ⟨⟨j,rfl⟩,hb⟩
      have HB':=Lib.hid (HB.out.below hb);clear hb
      obtain ⟨C',q1,q2,q3,q4,q5⟩:=HB'.out.cells b C _ hS hblk
      have hfro: ∀p,w'.frozen? ⟨b,p,none⟩=false:=fun p=>by simp [World.frozen?,q1]
      obtain ⟨x0,c0⟩:=cellAt q1 (p:=k * 3) (by omega)
      obtain ⟨x1,c1⟩:=cellAt q1 (p:=k * 3+1) (by omega)
      obtain ⟨x2,c2⟩:=cellAt q1 (p:=k * 3+2) (by omega)
      clear q2 q3 q4 q5
      go_wp2_with fail
      go_roundw
      case rel=>exact ⟨k+1,by omega,by go_num,((((((HB'.out).set hS hblk (k * 3) _ rfl (fun h i e=>by first|rfl|omega|exact absurd h (by decide)) (fun h i e=>by first|rfl|omega|exact absurd h (by decide)))).set hS hblk (k * 3+1) _ rfl (fun h i e=>by first|rfl|omega|exact absurd h (by decide)) (fun h i e=>by first|rfl|omega|exact absurd h (by decide)))).set hS hblk (k * 3+2) _ rfl (fun h i e=>by first|rfl|omega|exact absurd h (by decide)) (fun h i e=>by first|rfl|omega|exact absurd h (by decide)))⟩
      case measure=>simp [intOf];omega
     ·go_wp2_with fail
      exact bodyPost_end (results_none rfl _ _ _) rfl ⟨rfl,HB.out⟩
   ·go_wp2_with fail
    go_loopw [4] (fun i wr=> ∃(k:Nat),k≤n+12∧i = .int .i64 k∧nC S w1 wr) (fun i _=>n+12 - (intOf i).toNat)
    case atStart=>exact ⟨0,I6 _,rfl,HB.out⟩
    case round=>
     obtain ⟨k,hk,rfl,hB⟩:=hrel
     have HB:=Lib.hid hB;clear hB
     by_cases hlt:k<n+12
     ·go_wp2_with fail
      refine (HM.out k (by omega) _).mono ?_
      rintro e w' ⟨⟨j,rfl⟩,hb⟩
      have HB':=Lib.hid (HB.out.below hb);clear hb
      obtain ⟨C',q1,q2,q3,q4,q5⟩:=HB'.out.cells b C _ hS hblk
      have hfro: ∀p,w'.frozen? ⟨b,p,none⟩=false:=fun p=>by simp [World.frozen?,q1]
      obtain ⟨x0,c0⟩:=cellAt q1 (p:=k * 3) (by omega)
      obtain ⟨x1,c1⟩:=cellAt q1 (p:=k * 3+1) (by omega)
      obtain ⟨x2,c2⟩:=cellAt q1 (p:=k * 3+2) (by omega)
      clear q2 q3 q4 q5
      go_wp2_with fail
      go_roundw
      case rel=>exact ⟨k+1,by omega,by go_num,((((((HB'.out).set hS hblk (k * 3) _ rfl (fun h i e=>by first|rfl|omega|exact absurd h (by decide)) (fun h i e=>by first|rfl|omega|exact absurd h (by decide)))).set hS hblk (k * 3+1) _ rfl (fun h i e=>by first|rfl|omega|exact absurd h (by decide)) (fun h i e=>by first|rfl|omega|exact absurd h (by decide)))).set hS hblk (k * 3+2) _ rfl (fun h i e=>by first|rfl|omega|exact absurd h (by decide)) (fun h i e=>by first|rfl|omega|exact absurd h (by decide)))⟩
      case measure=>simp [intOf];omega
     ·go_wp2_with fail
      exact bodyPost_end (results_none rfl _ _ _) rfl ⟨rfl,HB.out⟩
theorem TE.one {S:Nat→Prop} {w1:World} {x:Value} (h:TE S w1 x):x.oneCell'=true:=by cases h<;>rfl
theorem DZ {S:Nat→Prop} {w1:World} {x:Value} (h:TE S w1 x):te S w1 125 x:=by
 induction h with
 | nil=>exact sD none
 | Bu a=>exact sD (some a)
 | mk b n cap C f h1 h2 h3 h4 h5 h6 h7 h8 h9 ih=>exact sE h1 h2 h3 h4 h5 h6 h7 h8 (fun i hi=>(h9 i hi).one) ih
set_option maxRecDepth 100000 in
set_option maxHeartbeats 4000000 in
theorem nx {S:Nat→Prop} {w1:World} {b n cap:Nat} {C:Array Value} {f:Nat→Value} (hS:S b) (hblk:w1.heap[b]? = some (.cells C 45 (0,0))) (hC:C.size=cap * 8) (hn:n≤cap) (hc:cap≤maxLen) (hn6:n≤1000000)
  (h07: ∀i,i<n→ ∀j,j<7→ ∃x,C[i * 8+j]? = some x∧x.oneCell'=true) (h2: ∀i,i<n→C[i * 8+7]? = some (f i)) (hf: ∀i,i<n→(f i).oneCell'=true) (H: ∀i,i<n→te S w1 125 (f i)) :
  te S w1 75 (.slice (some ⟨b,0,none⟩) n cap):=by
 intro w hO
 have HO:=Lib.hid hO
 clear hO
 unfold maxLen at hc
 go_enter Tryz.func75,Tryz.ntmps75
 have HM:=Lib.hid (fun (k:Nat) (hk:k≤2000000) (W:World)=>AN k hk W)
 go_wp2_with fail
 go_loopw [2] (fun i wr=> ∃(k:Nat),k≤n∧i = .int .i64 k∧nC S w1 wr) (fun i _=>n - (intOf i).toNat)
 case atStart=>exact ⟨0,I6 _,rfl,HO.out⟩
 case round=>
  obtain ⟨k,hk,rfl,hB⟩:=hrel
  by_cases hlt:k<n
  ·obtain ⟨C',q1,q2,q3,q4,q5⟩:=hB.cells b C _ hS hblk
   obtain ⟨a0,e0,o0⟩:=h07 k hlt 0 (by omega)
   obtain ⟨a1,e1,o1⟩:=h07 k hlt 1 (by omega)
   obtain ⟨a2,e2,o2⟩:=h07 k hlt 2 (by omega)
   obtain ⟨a3,e3,o3⟩:=h07 k hlt 3 (by omega)
   obtain ⟨a4,e4,o4⟩:=h07 k hlt 4 (by omega)
   obtain ⟨a5,e5,o5⟩:=h07 k hlt 5 (by omega)
   obtain ⟨a6,e6,o6⟩:=h07 k hlt 6 (by omega)
   obtain ⟨x0,f0,p0⟩:=q3 _ _ e0 o0
   obtain ⟨x1,f1,p1⟩:=q3 _ _ e1 o1
   obtain ⟨x2,f2,p2⟩:=q3 _ _ e2 o2
   obtain ⟨x3,f3,p3⟩:=q3 _ _ e3 o3
   obtain ⟨x4,f4,p4⟩:=q3 _ _ e4 o4
   obtain ⟨x5,f5,p5⟩:=q3 _ _ e5 o5
   obtain ⟨x6,f6,p6⟩:=q3 _ _ e6 o6
   obtain ⟨y,fy,py⟩: ∃y,C'[k * 8+7]? = some y∧(y=f k∨y = .slice none 0 0):=by
    rcases q5 rfl k _ (h2 k hlt) with h|h
    ·exact ⟨_,h, .inl rfl⟩
    ·exact ⟨_,h, .inr rfl⟩
   have c0:wr.cell? ⟨b,k * 8,none⟩=some x0:=by simpa [World.cell?,q1] using f0
   have c1:wr.cell? ⟨b,k * 8+1,none⟩=some x1:=by simpa [World.cell?,q1] using f1
   have c2:wr.cell? ⟨b,k * 8+2,none⟩=some x2:=by simpa [World.cell?,q1] using f2
   have c3:wr.cell? ⟨b,k * 8+3,none⟩=some x3:=by simpa [World.cell?,q1] using f3
   have c4:wr.cell? ⟨b,k * 8+4,none⟩=some x4:=by simpa [World.cell?,q1] using f4
   have c5:wr.cell? ⟨b,k * 8+5,none⟩=some x5:=by simpa [World.cell?,q1] using f5
   have c6:wr.cell? ⟨b,k * 8+6,none⟩=some x6:=by simpa [World.cell?,q1] using f6
   have cy:wr.cell? ⟨b,k * 8+7,none⟩=some y:=by simp [World.cell?,q1,fy]
   have hx:y.oneCell'=true∧te S w1 125 y:=by
    rcases py with rfl|rfl
    ·exact ⟨hf k hlt,H k hlt⟩
    ·exact ⟨rfl,sD none⟩
   have HB:=Lib.hid hB;clear hB
   have HC:=Lib.hid (oZ p0 p1 p2 p3 p4 p5 p6 hx.1 hx.2)
   clear hx py q3 q4 q5
   go_wp2_with fail
   refine (HC.out _ HB.out).mono ?_
   rintro e w' ⟨rfl,hO'⟩
   have HO':=Lib.hid hO';clear hO'
   go_wp2_with fail
   go_roundw
   case rel=>exact ⟨k+1,by omega,by go_num,HO'.out⟩
   case measure=>simp [intOf];omega
  ·have HB:=Lib.hid hB;clear hB
   by_cases hle:cap≤n+12
   ·go_wp2_with fail
    go_loopw [4] (fun i wr=> ∃(k:Nat),k≤cap∧i = .int .i64 k∧nC S w1 wr) (fun i _=>cap - (intOf i).toNat)
    case atStart=>exact ⟨0,I6 _,rfl,HB.out⟩
    case round=>
     obtain ⟨k,hk,rfl,hB⟩:=hrel
     have HB:=Lib.hid hB;clear hB
     by_cases hlt:k<cap
     ·go_wp2_with fail
      refine (HM.out k (by omega) _).mono ?_
      rintro e w' ⟨⟨j,rfl⟩,hb⟩
      have HB':=Lib.hid (HB.out.below hb);clear hb
      obtain ⟨C',q1,q2,q3,q4,q5⟩:=HB'.out.cells b C _ hS hblk
      have hfro: ∀p,w'.frozen? ⟨b,p,none⟩=false:=fun p=>by simp [World.frozen?,q1]
      obtain ⟨x0,c0⟩:=cellAt q1 (p:=k * 8) (by omega)
      obtain ⟨x1,c1⟩:=cellAt q1 (p:=k * 8+1) (by omega)
      obtain ⟨x2,c2⟩:=cellAt q1 (p:=k * 8+2) (by omega)
      obtain ⟨x3,c3⟩:=cellAt q1 (p:=k * 8+3) (by omega)
      obtain ⟨x4,c4⟩:=cellAt q1 (p:=k * 8+4) (by omega)
      obtain ⟨x5,c5⟩:=cellAt q1 (p:=k * 8+5) (by omega)
      obtain ⟨x6,c6⟩:=cellAt q1 (p:=k * 8+6) (by omega)
      obtain ⟨x7,c7⟩:=cellAt q1 (p:=k * 8+7) (by omega)
      clear q2 q3 q4 q5
      go_wp2_with fail
      go_roundw
      case rel=>exact ⟨k+1,by omega,by go_num,((((((((((((((((HB'.out).set hS hblk (k * 8) _ rfl (fun h i e=>by first|rfl|omega|exact absurd h (by decide)) (fun h i e=>by first|rfl|omega|exact absurd h (by decide)))).set hS hblk (k * 8+1) _ rfl (fun h i e=>by first|rfl|omega|exact absurd h (by decide)) (fun h i e=>by first|rfl|omega|exact absurd h (by decide)))).set hS hblk (k * 8+2) _ rfl (fun h i e=>by first|rfl|omega|exact absurd h (by decide)) (fun h i e=>by first|rfl|omega|exact absurd h (by decide)))).set hS hblk (k * 8+3) _ rfl (fun h i e=>by first|rfl|omega|exact absurd h (by decide)) (fun h i e=>by first|rfl|omega|exact absurd h (by decide)))).set hS hblk (k * 8+4) _ rfl (fun h i e=>by first|rfl|omega|exact absurd h (by decide)) (fun h i e=>by first|rfl|omega|exact absurd h (by decide)))).set hS hblk (k * 8+5) _ rfl (fun h i e=>by first|rfl|omega|exact absurd h (by decide)) (fun h i e=>by first|rfl|omega|exact absurd h (by decide)))).set hS hblk (k * 8+6) _ rfl (fun h i e=>by first|rfl|omega|exact absurd h (by decide)) (fun h i e=>by first|rfl|omega|exact absurd h (by decide)))).set hS hblk (k * 8+7) _ rfl (fun h i e=>by first|rfl|omega|exact absurd h (by decide)) (fun h i e=>by first|rfl|omega|exact absurd h (by decide)))⟩
      case measure=>simp [intOf];omega
     ·go_wp2_with fail
      exact bodyPost_end (results_none rfl _ _ _) rfl ⟨rfl,HB.out⟩
   ·go_wp2_with fail
    go_loopw [4] (fun i wr=> ∃(k:Nat),k≤n+12∧i = .int .i64 k∧nC S w1 wr) (fun i _=>n+12 - (intOf i).toNat)
    case atStart=>exact ⟨0,I6 _,rfl,HB.out⟩
    case round=>
     obtain ⟨k,hk,rfl,hB⟩:=hrel
     have HB:=Lib.hid hB;clear hB
     by_cases hlt:k<n+12
     ·go_wp2_with fail
      refine (HM.out k (by omega) _).mono ?_
      rintro e w' ⟨⟨j,rfl⟩,hb⟩
      have HB':=Lib.hid (HB.out.below hb);clear hb
      obtain ⟨C',q1,q2,q3,q4,q5⟩:=HB'.out.cells b C _ hS hblk
      have hfro: ∀p,w'.frozen? ⟨b,p,none⟩=false:=fun p=>by simp [World.frozen?,q1]
      obtain ⟨x0,c0⟩:=cellAt q1 (p:=k * 8) (by omega)
      obtain ⟨x1,c1⟩:=cellAt q1 (p:=k * 8+1) (by omega)
      obtain ⟨x2,c2⟩:=cellAt q1 (p:=k * 8+2) (by omega)
      obtain ⟨x3,c3⟩:=cellAt q1 (p:=k * 8+3) (by omega)
      obtain ⟨x4,c4⟩:=cellAt q1 (p:=k * 8+4) (by omega)
      obtain ⟨x5,c5⟩:=cellAt q1 (p:=k * 8+5) (by omega)
      obtain ⟨x6,c6⟩:=cellAt q1 (p:=k * 8+6) (by omega)
      obtain ⟨x7,c7⟩:=cellAt q1 (p:=k * 8+7) (by omega)
      clear q2 q3 q4 q5
      go_wp2_with fail
      go_roundw
      case rel=>exact ⟨k+1,by omega,by go_num,((((((((((((((((HB'.out).set hS hblk (k * 8) _ rfl (fun h i e=>by first|rfl|omega|exact absurd h (by decide)) (fun h i e=>by first|rfl|omega|exact absurd h (by decide)))).set hS hblk (k * 8+1) _ rfl (fun h i e=>by first|rfl|omega|exact absurd h (by decide)) (fun h i e=>by first|rfl|omega|exact absurd h (by decide)))).set hS hblk (k * 8+2) _ rfl (fun h i e=>by first|rfl|omega|exact absurd h (by decide)) (fun h i e=>by first|rfl|omega|exact absurd h (by decide)))).set hS hblk (k * 8+3) _ rfl (fun h i e=>by first|rfl|omega|exact absurd h (by decide)) (fun h i e=>by first|rfl|omega|exact absurd h (by decide)))).set hS hblk (k * 8+4) _ rfl (fun h i e=>by first|rfl|omega|exact absurd h (by decide)) (fun h i e=>by first|rfl|omega|exact absurd h (by decide)))).set hS hblk (k * 8+5) _ rfl (fun h i e=>by first|rfl|omega|exact absurd h (by decide)) (fun h i e=>by first|rfl|omega|exact absurd h (by decide)))).set hS hblk (k * 8+6) _ rfl (fun h i e=>by first|rfl|omega|exact absurd h (by decide)) (fun h i e=>by first|rfl|omega|exact absurd h (by decide)))).set hS hblk (k * 8+7) _ rfl (fun h i e=>by first|rfl|omega|exact absurd h (by decide)) (fun h i e=>by first|rfl|omega|exact absurd h (by decide)))⟩
      case measure=>simp [intOf];omega
     ·go_wp2_with fail
      exact bodyPost_end (results_none rfl _ _ _) rfl ⟨rfl,HB.out⟩
set_option maxRecDepth 100000 in
set_option maxHeartbeats 4000000 in
theorem sd {S:Nat→Prop} {w1:World} {b n cap:Nat} {C:Array Value} (hS:S b) (hblk:w1.heap[b]? = some (.cells C 37 (0,0))) (hC:C.size=cap * 13) (hn:n≤cap) (hc:cap≤maxLen) (hn6:n≤1000000) :
  te S w1 76 (.slice (some ⟨b,0,none⟩) n cap):=by
 intro w hO
 have HO:=Lib.hid hO
 clear hO
 unfold maxLen at hc
 go_enter Tryz.func76,Tryz.ntmps76
 have HM:=Lib.hid (fun (k:Nat) (hk:k≤2000000) (W:World)=>Ah k hk W)
 have HB:=HO
 by_cases hle:cap≤n+12
 ·go_wp2_with fail
  go_loopw [3] (fun i wr=> ∃(k:Nat),k≤cap∧i = .int .i64 k∧nC S w1 wr) (fun i _=>cap - (intOf i).toNat)
  case atStart=>exact ⟨0,I6 _,rfl,HB.out⟩
  case round=>
   obtain ⟨k,hk,rfl,hB⟩:=hrel
   have HB:=Lib.hid hB;clear hB
   by_cases hlt:k<cap
   ·go_wp2_with fail
    refine (HM.out k (by omega) _).mono ?_
    rintro e w' ⟨⟨j,rfl⟩,hb⟩
    have HB':=Lib.hid (HB.out.below hb);clear hb
    obtain ⟨C',q1,q2,q3,q4,q5⟩:=HB'.out.cells b C _ hS hblk
    have hfro: ∀p,w'.frozen? ⟨b,p,none⟩=false:=fun p=>by simp [World.frozen?,q1]
    obtain ⟨x0,c0⟩:=cellAt q1 (p:=k * 13) (by omega)
    obtain ⟨x1,c1⟩:=cellAt q1 (p:=k * 13+1) (by omega)
    obtain ⟨x2,c2⟩:=cellAt q1 (p:=k * 13+2) (by omega)
    obtain ⟨x3,c3⟩:=cellAt q1 (p:=k * 13+3) (by omega)
    obtain ⟨x4,c4⟩:=cellAt q1 (p:=k * 13+4) (by omega)
    obtain ⟨x5,c5⟩:=cellAt q1 (p:=k * 13+5) (by omega)
    obtain ⟨x6,c6⟩:=cellAt q1 (p:=k * 13+6) (by omega)
    obtain ⟨x7,c7⟩:=cellAt q1 (p:=k * 13+7) (by omega)
    obtain ⟨x8,c8⟩:=cellAt q1 (p:=k * 13+8) (by omega)
    obtain ⟨x9,c9⟩:=cellAt q1 (p:=k * 13+9) (by omega)
    obtain ⟨x10,c10⟩:=cellAt q1 (p:=k * 13+10) (by omega)
    obtain ⟨x11,c11⟩:=cellAt q1 (p:=k * 13+11) (by omega)
    obtain ⟨x12,c12⟩:=cellAt q1 (p:=k * 13+12) (by omega)
    clear q2 q3 q4 q5
    go_wp2_with fail
    go_roundw
    case rel=>exact ⟨k+1,by omega,by go_num,((((((((((((((((((((((((((HB'.out).set hS hblk (k * 13) _ rfl (fun h i e=>by first|rfl|omega|exact absurd h (by decide)) (fun h i e=>by first|rfl|omega|exact absurd h (by decide)))).set hS hblk (k * 13+1) _ rfl (fun h i e=>by first|rfl|omega|exact absurd h (by decide)) (fun h i e=>by first|rfl|omega|exact absurd h (by decide)))).set hS hblk (k * 13+2) _ rfl (fun h i e=>by first|rfl|omega|exact absurd h (by decide)) (fun h i e=>by first|rfl|omega|exact absurd h (by decide)))).set hS hblk (k * 13+3) _ rfl (fun h i e=>by first|rfl|omega|exact absurd h (by decide)) (fun h i e=>by first|rfl|omega|exact absurd h (by decide)))).set hS hblk (k * 13+4) _ rfl (fun h i e=>by first|rfl|omega|exact absurd h (by decide)) (fun h i e=>by first|rfl|omega|exact absurd h (by decide)))).set hS hblk (k * 13+5) _ rfl (fun h i e=>by first|rfl|omega|exact absurd h (by decide)) (fun h i e=>by first|rfl|omega|exact absurd h (by decide)))).set hS hblk (k * 13+6) _ rfl (fun h i e=>by first|rfl|omega|exact absurd h (by decide)) (fun h i e=>by first|rfl|omega|exact absurd h (by decide)))).set hS hblk (k * 13+7) _ rfl (fun h i e=>by first|rfl|omega|exact absurd h (by decide)) (fun h i e=>by first|rfl|omega|exact absurd h (by decide)))).set hS hblk (k * 13+8) _ rfl (fun h i e=>by first|rfl|omega|exact absurd h (by decide)) (fun h i e=>by first|rfl|omega|exact absurd h (by decide)))).set hS hblk (k * 13+9) _ rfl (fun h i e=>by first|rfl|omega|exact absurd h (by decide)) (fun h i e=>by first|rfl|omega|exact absurd h (by decide)))).set hS hblk (k * 13+10) _ rfl (fun h i e=>by first|rfl|omega|exact absurd h (by decide)) (fun h i e=>by first|rfl|omega|exact absurd h (by decide)))).set hS hblk (k * 13+11) _ rfl (fun h i e=>by first|rfl|omega|exact absurd h (by decide)) (fun h i e=>by first|rfl|omega|exact absurd h (by decide)))).set hS hblk (k * 13+12) _ rfl (fun h i e=>by first|rfl|omega|exact absurd h (by decide)) (fun h i e=>by first|rfl|omega|exact absurd h (by decide)))⟩
    case measure=>simp [intOf];omega
   ·go_wp2_with fail
    exact bodyPost_end (results_none rfl _ _ _) rfl ⟨rfl,HB.out⟩
 ·go_wp2_with fail
  go_loopw [3] (fun i wr=> ∃(k:Nat),k≤n+12∧i = .int .i64 k∧nC S w1 wr) (fun i _=>n+12 - (intOf i).toNat)
  case atStart=>exact ⟨0,I6 _,rfl,HB.out⟩
  case round=>
   obtain ⟨k,hk,rfl,hB⟩:=hrel
   have HB:=Lib.hid hB;clear hB
   by_cases hlt:k<n+12
   ·go_wp2_with fail
    refine (HM.out k (by omega) _).mono ?_
    rintro e w' ⟨⟨j,rfl⟩,hb⟩
    have HB':=Lib.hid (HB.out.below hb);clear hb
    obtain ⟨C',q1,q2,q3,q4,q5⟩:=HB'.out.cells b C _ hS hblk
    have hfro: ∀p,w'.frozen? ⟨b,p,none⟩=false:=fun p=>by simp [World.frozen?,q1]
    obtain ⟨x0,c0⟩:=cellAt q1 (p:=k * 13) (by omega)
    obtain ⟨x1,c1⟩:=cellAt q1 (p:=k * 13+1) (by omega)
    obtain ⟨x2,c2⟩:=cellAt q1 (p:=k * 13+2) (by omega)
    obtain ⟨x3,c3⟩:=cellAt q1 (p:=k * 13+3) (by omega)
    obtain ⟨x4,c4⟩:=cellAt q1 (p:=k * 13+4) (by omega)
    obtain ⟨x5,c5⟩:=cellAt q1 (p:=k * 13+5) (by omega)
    obtain ⟨x6,c6⟩:=cellAt q1 (p:=k * 13+6) (by omega)
    obtain ⟨x7,c7⟩:=cellAt q1 (p:=k * 13+7) (by omega)
    obtain ⟨x8,c8⟩:=cellAt q1 (p:=k * 13+8) (by omega)
    obtain ⟨x9,c9⟩:=cellAt q1 (p:=k * 13+9) (by omega)
    obtain ⟨x10,c10⟩:=cellAt q1 (p:=k * 13+10) (by omega)
    obtain ⟨x11,c11⟩:=cellAt q1 (p:=k * 13+11) (by omega)
    obtain ⟨x12,c12⟩:=cellAt q1 (p:=k * 13+12) (by omega)
    clear q2 q3 q4 q5
    go_wp2_with fail
    go_roundw
    case rel=>exact ⟨k+1,by omega,by go_num,((((((((((((((((((((((((((HB'.out).set hS hblk (k * 13) _ rfl (fun h i e=>by first|rfl|omega|exact absurd h (by decide)) (fun h i e=>by first|rfl|omega|exact absurd h (by decide)))).set hS hblk (k * 13+1) _ rfl (fun h i e=>by first|rfl|omega|exact absurd h (by decide)) (fun h i e=>by first|rfl|omega|exact absurd h (by decide)))).set hS hblk (k * 13+2) _ rfl (fun h i e=>by first|rfl|omega|exact absurd h (by decide)) (fun h i e=>by first|rfl|omega|exact absurd h (by decide)))).set hS hblk (k * 13+3) _ rfl (fun h i e=>by first|rfl|omega|exact absurd h (by decide)) (fun h i e=>by first|rfl|omega|exact absurd h (by decide)))).set hS hblk (k * 13+4) _ rfl (fun h i e=>by first|rfl|omega|exact absurd h (by decide)) (fun h i e=>by first|rfl|omega|exact absurd h (by decide)))).set hS hblk (k * 13+5) _ rfl (fun h i e=>by first|rfl|omega|exact absurd h (by decide)) (fun h i e=>by first|rfl|omega|exact absurd h (by decide)))).set hS hblk (k * 13+6) _ rfl (fun h i e=>by first|rfl|omega|exact absurd h (by decide)) (fun h i e=>by first|rfl|omega|exact absurd h (by decide)))).set hS hblk (k * 13+7) _ rfl (fun h i e=>by first|rfl|omega|exact absurd h (by decide)) (fun h i e=>by first|rfl|omega|exact absurd h (by decide)))).set hS hblk (k * 13+8) _ rfl (fun h i e=>by first|rfl|omega|exact absurd h (by decide)) (fun h i e=>by first|rfl|omega|exact absurd h (by decide)))).set hS hblk (k * 13+9) _ rfl (fun h i e=>by first|rfl|omega|exact absurd h (by decide)) (fun h i e=>by first|rfl|omega|exact absurd h (by decide)))).set hS hblk (k * 13+10) _ rfl (fun h i e=>by first|rfl|omega|exact absurd h (by decide)) (fun h i e=>by first|rfl|omega|exact absurd h (by decide)))).set hS hblk (k * 13+11) _ rfl (fun h i e=>by first|rfl|omega|exact absurd h (by decide)) (fun h i e=>by first|rfl|omega|exact absurd h (by decide)))).set hS hblk (k * 13+12) _ rfl (fun h i e=>by first|rfl|omega|exact absurd h (by decide)) (fun h i e=>by first|rfl|omega|exact absurd h (by decide)))⟩
    case measure=>simp [intOf];omega
   ·go_wp2_with fail
    exact bodyPost_end (results_none rfl _ _ _) rfl ⟨rfl,HB.out⟩
set_option maxRecDepth 100000 in
set_option maxHeartbeats 4000000 in
theorem nA {S:Nat→Prop} {w1:World} {b n cap:Nat} {C:Array Value} (hS:S b) (hblk:w1.heap[b]? = some (.cells C 34 (0,0))) (hC:C.size=cap * 6) (hn:n≤cap) (hc:cap≤maxLen) (hn6:n≤1000000) :
  te S w1 77 (.slice (some ⟨b,0,none⟩) n cap):=by
 intro w hO
 have HO:=Lib.hid hO
 clear hO
 unfold maxLen at hc
 go_enter Tryz.func77,Tryz.ntmps77
 have HM:=Lib.hid (fun (k:Nat) (hk:k≤2000000) (W:World)=>zL k hk W)
 have HB:=HO
 by_cases hle:cap≤n+12
 ·go_wp2_with fail
  go_loopw [3] (fun i wr=> ∃(k:Nat),k≤cap∧i = .int .i64 k∧nC S w1 wr) (fun i _=>cap - (intOf i).toNat)
  case atStart=>exact ⟨0,I6 _,rfl,HB.out⟩
  case round=>
   obtain ⟨k,hk,rfl,hB⟩:=hrel
   have HB:=Lib.hid hB;clear hB
   by_cases hlt:k<cap
   ·go_wp2_with fail
    refine (HM.out k (by omega) _).mono ?_
    rintro e w' ⟨⟨j,rfl⟩,hb⟩
    have HB':=Lib.hid (HB.out.below hb);clear hb
    obtain ⟨C',q1,q2,q3,q4,q5⟩:=HB'.out.cells b C _ hS hblk
    have hfro: ∀p,w'.frozen? ⟨b,p,none⟩=false:=fun p=>by simp [World.frozen?,q1]
    obtain ⟨x0,c0⟩:=cellAt q1 (p:=k * 6) (by omega)
    obtain ⟨x1,c1⟩:=cellAt q1 (p:=k * 6+1) (by omega)
    obtain ⟨x2,c2⟩:=cellAt q1 (p:=k * 6+2) (by omega)
    obtain ⟨x3,c3⟩:=cellAt q1 (p:=k * 6+3) (by omega)
    obtain ⟨x4,c4⟩:=cellAt q1 (p:=k * 6+4) (by omega)
    obtain ⟨x5,c5⟩:=cellAt q1 (p:=k * 6+5) (by omega)
    clear q2 q3 q4 q5
    go_wp2_with fail
    go_roundw
    case rel=>exact ⟨k+1,by omega,by go_num,((((((((((((HB'.out).set hS hblk (k * 6) _ rfl (fun h i e=>by first|rfl|omega|exact absurd h (by decide)) (fun h i e=>by first|rfl|omega|exact absurd h (by decide)))).set hS hblk (k * 6+1) _ rfl (fun h i e=>by first|rfl|omega|exact absurd h (by decide)) (fun h i e=>by first|rfl|omega|exact absurd h (by decide)))).set hS hblk (k * 6+2) _ rfl (fun h i e=>by first|rfl|omega|exact absurd h (by decide)) (fun h i e=>by first|rfl|omega|exact absurd h (by decide)))).set hS hblk (k * 6+3) _ rfl (fun h i e=>by first|rfl|omega|exact absurd h (by decide)) (fun h i e=>by first|rfl|omega|exact absurd h (by decide)))).set hS hblk (k * 6+4) _ rfl (fun h i e=>by first|rfl|omega|exact absurd h (by decide)) (fun h i e=>by first|rfl|omega|exact absurd h (by decide)))).set hS hblk (k * 6+5) _ rfl (fun h i e=>by first|rfl|omega|exact absurd h (by decide)) (fun h i e=>by first|rfl|omega|exact absurd h (by decide)))⟩
    case measure=>simp [intOf];omega
   ·go_wp2_with fail
    exact bodyPost_end (results_none rfl _ _ _) rfl ⟨rfl,HB.out⟩
 ·go_wp2_with fail
  go_loopw [3] (fun i wr=> ∃(k:Nat),k≤n+12∧i = .int .i64 k∧nC S w1 wr) (fun i _=>n+12 - (intOf i).toNat)
  case atStart=>exact ⟨0,I6 _,rfl,HB.out⟩
  case round=>
   obtain ⟨k,hk,rfl,hB⟩:=hrel
   have HB:=Lib.hid hB;clear hB
   by_cases hlt:k<n+12
   ·go_wp2_with fail
    refine (HM.out k (by omega) _).mono ?_
    rintro e w' ⟨⟨j,rfl⟩,hb⟩
    have HB':=Lib.hid (HB.out.below hb);clear hb
    obtain ⟨C',q1,q2,q3,q4,q5⟩:=HB'.out.cells b C _ hS hblk
    have hfro: ∀p,w'.frozen? ⟨b,p,none⟩=false:=fun p=>by simp [World.frozen?,q1]
    obtain ⟨x0,c0⟩:=cellAt q1 (p:=k * 6) (by omega)
    obtain ⟨x1,c1⟩:=cellAt q1 (p:=k * 6+1) (by omega)
    obtain ⟨x2,c2⟩:=cellAt q1 (p:=k * 6+2) (by omega)
    obtain ⟨x3,c3⟩:=cellAt q1 (p:=k * 6+3) (by omega)
    obtain ⟨x4,c4⟩:=cellAt q1 (p:=k * 6+4) (by omega)
    obtain ⟨x5,c5⟩:=cellAt q1 (p:=k * 6+5) (by omega)
    clear q2 q3 q4 q5
    go_wp2_with fail
    go_roundw
    case rel=>exact ⟨k+1,by omega,by go_num,((((((((((((HB'.out).set hS hblk (k * 6) _ rfl (fun h i e=>by first|rfl|omega|exact absurd h (by decide)) (fun h i e=>by first|rfl|omega|exact absurd h (by decide)))).set hS hblk (k * 6+1) _ rfl (fun h i e=>by first|rfl|omega|exact absurd h (by decide)) (fun h i e=>by first|rfl|omega|exact absurd h (by decide)))).set hS hblk (k * 6+2) _ rfl (fun h i e=>by first|rfl|omega|exact absurd h (by decide)) (fun h i e=>by first|rfl|omega|exact absurd h (by decide)))).set hS hblk (k * 6+3) _ rfl (fun h i e=>by first|rfl|omega|exact absurd h (by decide)) (fun h i e=>by first|rfl|omega|exact absurd h (by decide)))).set hS hblk (k * 6+4) _ rfl (fun h i e=>by first|rfl|omega|exact absurd h (by decide)) (fun h i e=>by first|rfl|omega|exact absurd h (by decide)))).set hS hblk (k * 6+5) _ rfl (fun h i e=>by first|rfl|omega|exact absurd h (by decide)) (fun h i e=>by first|rfl|omega|exact absurd h (by decide)))⟩
    case measure=>simp [intOf];omega
   ·go_wp2_with fail
    exact bodyPost_end (results_none rfl _ _ _) rfl ⟨rfl,HB.out⟩
end Go.Proofs.YtldnlbcibmmbbaaGreat
