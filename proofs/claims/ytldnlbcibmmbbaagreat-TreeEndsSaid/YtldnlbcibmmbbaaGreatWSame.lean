/- kinescopekit.SameExpr, SameExprs: they tell whether two expressions are the same. -/
import Derived.Test.YtldnlbcibmmbbaaGreatProg
import Derived.Test.YtldnlbcibmmbbaaGreatWBase
import Derived.StillTailTactics
import Derived.Test.YtldnlbcibmmbbaaGreatWFlat
import Derived.Test.YtldnlbcibmmbbaaGreatWBase2
set_option linter.unusedSimpArgs false
set_option linter.unusedVariables false
open Bool renaming false_and → KB, not_false → KV, not_true → KW
open Nat renaming zero_le → I6, le_refl → IV
/-! kinescopekit.SameExpr, SameExprs: they tell whether two expressions are the same. -/
namespace Go.Proofs.YtldnlbcibmmbbaaGreat
open Go.RowKit
def qK (x:Ex):Prop:= ∀(y:Ex) (cx cy:List Value) (w:World),cf w x cx→cf w y cy →
 Calls Tryz.prog 120 #[.agg cx.toArray, .agg cy.toArray] w (fU w (.bool (cp x y)))
set_option maxRecDepth 100000 in
set_option maxHeartbeats 1000000 in
theorem sT (xs:List Ex) (hx: ∀x,x∈xs→qK x) (ys:List Ex) (vx vy:Value) (w:World) (h1:cm w xs vx) (h2:cm w ys vy) :
  Calls Tryz.prog 124 #[vx,vy] w (fU w (.bool (gX xs ys))):=by
 rw [kZ]
 obtain ⟨p,c,rfl,hc1,hc2⟩:=h1.shape
 obtain ⟨q,d,rfl,hd1,hd2⟩:=h2.shape
 unfold maxLen at hc2 hd2
 by_cases hl:xs.length=ys.length
 ·have H1:=Lib.hid h1;have H2:=Lib.hid h2;have HX:=Lib.hid hx;have HL:=Lib.hid hl
  have hne:(((xs.length:Nat):Int) !=((ys.length:Nat):Int))=false:=by simp [hl]
  clear h1 h2 hx hl
  go_enter Tryz.func124,Tryz.ntmps124
  go_wp2_with fail
  go_loopw [4,5] (fun r i wr=> ∃k:Nat,k≤xs.length∧r = .bool false∧i = .int .i64 k∧Below w.heap.size w wr∧ ∀j (h:j<k) (h':j<xs.length) (h'':j<ys.length),cp xs[j] ys[j]=true) (fun _ i _=>xs.length - (intOf i).toNat)
  case atStart=>exact ⟨0,I6 _,rfl,rfl,Below.refl _ _,fun j h=>by omega⟩
  case round=>
   obtain ⟨k,hk,rfl,rfl,hb,hP⟩:=hrel
   have HP:=Lib.hid hP;clear hP
   by_cases hlt:k<xs.length
   ·have hlt2:k<ys.length:=by have:=HL.out;omega
    obtain ⟨b1,o1,k1,s1,l1,v1,rfl,hx1,hr1,a0,a1,a2⟩:=(H1.out.below hb).at hlt
    obtain ⟨b2,o2,k2,s2,l2,v2,rfl,hx2,hr2,c0,c1,c2⟩:=(H2.out.below hb).at hlt2
    have HC:=Lib.hid (HX.out xs[k] (List.getElem_mem _) ys[k] [.int .i64 k1, .string s1,v1] [.int .i64 k2, .string s2,v2] wr.drew (by rw [hx1,cf];exact ⟨v1,rfl,hr1.below (b6 wr)⟩) (by rw [hx2,cf];exact ⟨v2,rfl,hr2.below (b6 wr)⟩))
    clear hx1 hr1 hx2 hr2
    cases hs:cp xs[k] ys[k]
    ·rw [hs] at HC
     have HS:=Lib.hid hs;clear hs
     go_wp2_with fail
     go_still_tail 8,(by kernel_rfl)
     change wpList _ _ _ _ _ wr.drew
     go_wp2_with fail
     refine HC.out.mono ?_
     rintro e w' ⟨rfl,hb'⟩
     go_wp2_with fail
     go_ret
     exact aq rfl (dq hlt hlt2 HS.out).symm (aa hb (Below.sJ hb'))
    ·rw [hs] at HC
     have HS:=Lib.hid hs;clear hs
     go_wp2_with fail
     go_still_tail 8,(by kernel_rfl)
     change wpList _ _ _ _ _ wr.drew
     go_wp2_with fail
     refine HC.out.mono ?_
     rintro e w' ⟨rfl,hb'⟩
     go_wp2_with fail
     go_roundw
     case rel=>exact ⟨k+1,by omega,rfl,by go_num,aa hb (Below.sJ hb'),fun j h h' h''=>by
      by_cases e:j=k
      ·subst e;exact HS.out
      ·exact HP.out j (by omega) h' h''⟩
     case measure=>simp [intOf];omega
   ·go_wp2_with fail
    go_ret
    have hk':k=xs.length:=by omega
    exact aq rfl (cN.2 ⟨HL.out,fun i h h'=>HP.out i (by omega) h h'⟩).symm hb
 ·have hne:(((xs.length:Nat):Int) !=((ys.length:Nat):Int))=true:=by simp;omega
  clear h1 h2 hx
  rw [cB hl]
  clear hl
  go_enter Tryz.func124,Tryz.ntmps124
  go_wp2_with fail
  go_ret
  exact ⟨rfl,Below.refl _ _⟩
set_option maxRecDepth 100000 in
set_option maxHeartbeats 1000000 in
theorem lq (x:Ex):qK x:=by
 induction x using Ex.ind with
 | h k s l ih=>
  intro y cx cy w hx hy
  obtain ⟨k',s',l'⟩:=y
  rw [cf] at hx hy
  obtain ⟨vx,rfl,hx⟩:=hx
  obtain ⟨vy,rfl,hy⟩:=hy
  rw [cp]
  have HB: ∀o o',Below w.heap.size w ((w.alloc o).alloc o'):=fun o o'=>((Below.refl _ _).alloc (IV _) o).alloc (by simp) o'
  cases hk:k==k'
  ·clear ih hx hy
   rw [KB,KB]
   have HB':=Lib.hid HB;clear HB
   go_enter Tryz.func120,Tryz.ntmps120
   go_wp2_with fail
   go_ret
   exact aq rfl rfl (HB'.out _ _)
  ·cases hs:s.toList==s'.toList
   ·clear ih hx hy
    rw [Bool.and_false,KB]
    have HB':=Lib.hid HB;clear HB
    go_enter Tryz.func120,Tryz.ntmps120
    go_wp2_with fail
    go_ret
    exact aq rfl rfl (HB'.out _ _)
   ·rw [Bool.and_true,Bool.true_and]
    have HC:=Lib.hid (fun w' (hb:Below w.heap.size w w')=>sT l ih l' vx vy w' (hx.below hb) (hy.below hb))
    have HB':=Lib.hid HB
    clear ih hx hy HB
    go_enter Tryz.func120,Tryz.ntmps120
    go_wp2_with fail
    refine (HC.out _ (HB'.out _ _)).mono ?_
    rintro e w' ⟨rfl,hb'⟩
    go_wp2_with fail
    go_ret
    exact aq rfl rfl (aa (HB'.out _ _) hb')
end Go.Proofs.YtldnlbcibmmbbaaGreat
/-! Loops that hold two slices against each other, element by element: texts, conditions, operands (kinescopekit.Same.., slices.Equal). -/
namespace Go.Proofs.YtldnlbcibmmbbaaGreat
open Go.RowKit
set_option maxRecDepth 100000 in
set_option maxHeartbeats 2000000 in
theorem qn (xs ys:List ew) (vx vy:Value) (w:World) (h1:ij w xs vx) (h2:ij w ys vy) :
  Calls Tryz.prog 100 #[vx,vy] w (fU w (.bool (bT ew.dm xs ys))):=by
 obtain ⟨p,c,rfl,hc1,hc2⟩:=h1.shape
 obtain ⟨q,d,rfl,hd1,hd2⟩:=h2.shape
 unfold maxLen at hc2 hd2
 by_cases hl:xs.length=ys.length
 ·have H1:=Lib.hid h1;have H2:=Lib.hid h2;have HL:=Lib.hid hl
  skip
  have hne:(((xs.length:Nat):Int) !=((ys.length:Nat):Int))=false:=by simp [hl]
  clear h1 h2 hl
  go_enter Tryz.func100,Tryz.ntmps100
  go_wp2_with fail
  go_loopw [4,5] (fun r i wr=> ∃k:Nat,k≤xs.length∧r = .bool false∧i = .int .i64 k∧Below w.heap.size w wr∧ ∀j (h:j<k) (h':j<xs.length) (h'':j<ys.length),ew.dm xs[j] ys[j]=true) (fun _ i _=>xs.length - (intOf i).toNat)
  case atStart=>exact ⟨0,I6 _,rfl,rfl,Below.refl _ _,fun j h=>by omega⟩
  case round=>
   obtain ⟨k,hk,rfl,rfl,hb,hP⟩:=hrel
   have HP:=Lib.hid hP;clear hP
   by_cases hlt:k<xs.length
   ·have hlt2:k<ys.length:=by have:=HL.out;omega
    obtain ⟨b1,o1,rfl,a0,a1,a2,a3,a4,a5,a6,a7,a8,a9,a10,a11,a12⟩:=iK (H1.out.below hb) hlt
    obtain ⟨b2,o2,rfl,c0,c1,c2,c3,c4,c5,c6,c7,c8,c9,c10,c11,c12⟩:=iK (H2.out.below hb) hlt2
    have hq:=fun w=>yf xs[k] ys[k] w
    cases hs:ew.dm xs[k] ys[k]
    ·rw [hs,KV] at hq
     have HS:=Lib.hid hs;clear hs
     go_wp2_with fail
     go_still (by kernel_rfl)
     go_wp2_with fail
     go_ret
     exact aq rfl (dq hlt hlt2 HS.out).symm hb.drew
    ·rw [hs,KW] at hq
     have HS:=Lib.hid hs;clear hs
     go_wp2_with fail
     go_still (by kernel_rfl)
     go_wp2_with fail
     go_roundw
     case rel=>exact ⟨k+1,by omega,rfl,by go_num,hb.drew,fun j h h' h''=>by
      by_cases e:j=k
      ·subst e;exact HS.out
      ·exact HP.out j (by omega) h' h''⟩
     case measure=>simp [intOf];omega
   ·go_wp2_with fail
    go_ret
    have hk':k=xs.length:=by omega
    exact aq rfl (cN.2 ⟨HL.out,fun i h h'=>HP.out i (by omega) h h'⟩).symm hb
 ·have hne:(((xs.length:Nat):Int) !=((ys.length:Nat):Int))=true:=by simp;omega
  clear h1 h2
  rw [cB hl]
  clear hl
  go_enter Tryz.func100,Tryz.ntmps100
  go_wp2_with fail
  go_ret
  exact aq rfl rfl (Below.refl _ _)
set_option maxRecDepth 100000 in
set_option maxHeartbeats 2000000 in
theorem l7 (xs ys:List cg) (vx vy:Value) (w:World) (h1:gG w xs vx) (h2:gG w ys vy) :
  Calls Tryz.prog 101 #[vx,vy] w (fU w (.bool (bT cg.dm xs ys))):=by
 obtain ⟨p,c,rfl,hc1,hc2⟩:=h1.shape
 obtain ⟨q,d,rfl,hd1,hd2⟩:=h2.shape
 unfold maxLen at hc2 hd2
 by_cases hl:xs.length=ys.length
 ·have H1:=Lib.hid h1;have H2:=Lib.hid h2;have HL:=Lib.hid hl
  skip
  have hne:(((xs.length:Nat):Int) !=((ys.length:Nat):Int))=false:=by simp [hl]
  clear h1 h2 hl
  go_enter Tryz.func101,Tryz.ntmps101
  go_wp2_with fail
  go_loopw [4,5] (fun r i wr=> ∃k:Nat,k≤xs.length∧r = .bool false∧i = .int .i64 k∧Below w.heap.size w wr∧ ∀j (h:j<k) (h':j<xs.length) (h'':j<ys.length),cg.dm xs[j] ys[j]=true) (fun _ i _=>xs.length - (intOf i).toNat)
  case atStart=>exact ⟨0,I6 _,rfl,rfl,Below.refl _ _,fun j h=>by omega⟩
  case round=>
   obtain ⟨k,hk,rfl,rfl,hb,hP⟩:=hrel
   have HP:=Lib.hid hP;clear hP
   by_cases hlt:k<xs.length
   ·have hlt2:k<ys.length:=by have:=HL.out;omega
    obtain ⟨b1,o1,rfl,a0,a1,a2,a3,a4,a5⟩:=iM (H1.out.below hb) hlt
    obtain ⟨b2,o2,rfl,c0,c1,c2,c3,c4,c5⟩:=iM (H2.out.below hb) hlt2
    have hq:=fun w=>xA xs[k] ys[k] w
    cases hs:cg.dm xs[k] ys[k]
    ·rw [hs,KV] at hq
     have HS:=Lib.hid hs;clear hs
     go_wp2_with fail
     go_still (by kernel_rfl)
     go_wp2_with fail
     go_ret
     exact aq rfl (dq hlt hlt2 HS.out).symm hb.drew
    ·rw [hs,KW] at hq
     have HS:=Lib.hid hs;clear hs
     go_wp2_with fail
     go_still (by kernel_rfl)
     go_wp2_with fail
     go_roundw
     case rel=>exact ⟨k+1,by omega,rfl,by go_num,hb.drew,fun j h h' h''=>by
      by_cases e:j=k
      ·subst e;exact HS.out
      ·exact HP.out j (by omega) h' h''⟩
     case measure=>simp [intOf];omega
   ·go_wp2_with fail
    go_ret
    have hk':k=xs.length:=by omega
    exact aq rfl (cN.2 ⟨HL.out,fun i h h'=>HP.out i (by omega) h h'⟩).symm hb
 ·have hne:(((xs.length:Nat):Int) !=((ys.length:Nat):Int))=true:=by simp;omega
  clear h1 h2
  rw [cB hl]
  clear hl
  go_enter Tryz.func101,Tryz.ntmps101
  go_wp2_with fail
  go_ret
  exact aq rfl rfl (Below.refl _ _)
set_option maxRecDepth 100000 in
set_option maxHeartbeats 2000000 in
theorem g9 (xs ys:List ByteArray) (vx vy:Value) (w:World) (h1:ez w xs vx) (h2:ez w ys vy) :
  Calls Tryz.prog 24 #[vx,vy] w (fU w (.bool (bT dr xs ys))):=by
 obtain ⟨p,c,rfl,hc1,hc2⟩:=h1.shape
 obtain ⟨q,d,rfl,hd1,hd2⟩:=h2.shape
 unfold maxLen at hc2 hd2
 by_cases hl:xs.length=ys.length
 ·have H1:=Lib.hid h1;have H2:=Lib.hid h2;have HL:=Lib.hid hl
  skip
  have hne:(((xs.length:Nat):Int) !=((ys.length:Nat):Int))=false:=by simp [hl]
  clear h1 h2 hl
  go_enter Tryz.func24,Tryz.ntmps24
  go_wp2_with fail
  go_loopw [4,5] (fun r i wr=> ∃k:Nat,k≤xs.length∧r = .bool false∧i = .int .i64 k∧Below w.heap.size w wr∧ ∀j (h:j<k) (h':j<xs.length) (h'':j<ys.length),dr xs[j] ys[j]=true) (fun _ i _=>xs.length - (intOf i).toNat)
  case atStart=>exact ⟨0,I6 _,rfl,rfl,Below.refl _ _,fun j h=>by omega⟩
  case round=>
   obtain ⟨k,hk,rfl,rfl,hb,hP⟩:=hrel
   have HP:=Lib.hid hP;clear hP
   by_cases hlt:k<xs.length
   ·have hlt2:k<ys.length:=by have:=HL.out;omega
    obtain ⟨b1,o1,rfl,a0⟩:=lZ (H1.out.below hb) hlt
    obtain ⟨b2,o2,rfl,c0⟩:=lZ (H2.out.below hb) hlt2
    cases hs:dr xs[k] ys[k]
    ·have HS:=Lib.hid hs
     unfold dr at hs
     go_wp2_with fail
     go_still (by kernel_rfl)
     go_wp2_with fail
     go_ret
     exact aq rfl (dq hlt hlt2 HS.out).symm hb.drew
    ·have HS:=Lib.hid hs
     unfold dr at hs
     go_wp2_with fail
     go_still (by kernel_rfl)
     go_wp2_with fail
     go_roundw
     case rel=>exact ⟨k+1,by omega,rfl,by go_num,hb.drew,fun j h h' h''=>by
      by_cases e:j=k
      ·subst e;exact HS.out
      ·exact HP.out j (by omega) h' h''⟩
     case measure=>simp [intOf];omega
   ·go_wp2_with fail
    go_ret
    have hk':k=xs.length:=by omega
    exact aq rfl (cN.2 ⟨HL.out,fun i h h'=>HP.out i (by omega) h h'⟩).symm hb
 ·have hne:(((xs.length:Nat):Int) !=((ys.length:Nat):Int))=true:=by simp;omega
  clear h1 h2
  rw [cB hl]
  clear hl
  go_enter Tryz.func24,Tryz.ntmps24
  go_wp2_with fail
  go_ret
  exact aq rfl rfl (Below.refl _ _)
set_option maxRecDepth 100000 in
set_option maxHeartbeats 2000000 in
theorem ou (xs ys:List ew) (vx vy:Value) (w:World) (h1:ij w xs vx) (h2:ij w ys vy) :
  Calls Tryz.prog 50 #[vx,vy] w (fU w (.bool (bT ew.dm xs ys))):=by
 obtain ⟨p,c,rfl,hc1,hc2⟩:=h1.shape
 obtain ⟨q,d,rfl,hd1,hd2⟩:=h2.shape
 unfold maxLen at hc2 hd2
 by_cases hl:xs.length=ys.length
 ·have H1:=Lib.hid h1;have H2:=Lib.hid h2;have HL:=Lib.hid hl
  skip
  have hne:(((xs.length:Nat):Int) !=((ys.length:Nat):Int))=false:=by simp [hl]
  clear h1 h2 hl
  go_enter Tryz.func50,Tryz.ntmps50
  go_wp2_with fail
  go_loopw [4,13] (fun r i wr=> ∃k:Nat,k≤xs.length∧r = .bool false∧i = .int .i64 k∧Below w.heap.size w wr∧ ∀j (h:j<k) (h':j<xs.length) (h'':j<ys.length),ew.dm xs[j] ys[j]=true) (fun _ i _=>xs.length - (intOf i).toNat)
  case atStart=>exact ⟨0,I6 _,rfl,rfl,Below.refl _ _,fun j h=>by omega⟩
  case round=>
   obtain ⟨k,hk,rfl,rfl,hb,hP⟩:=hrel
   have HP:=Lib.hid hP;clear hP
   by_cases hlt:k<xs.length
   ·have hlt2:k<ys.length:=by have:=HL.out;omega
    obtain ⟨b1,o1,rfl,a0,a1,a2,a3,a4,a5,a6,a7,a8,a9,a10,a11,a12⟩:=iK (H1.out.below hb) hlt
    obtain ⟨b2,o2,rfl,c0,c1,c2,c3,c4,c5,c6,c7,c8,c9,c10,c11,c12⟩:=iK (H2.out.below hb) hlt2
    have hq:=fun w=>yf xs[k] ys[k] w
    cases hs:ew.dm xs[k] ys[k]
    ·rw [hs,KV] at hq
     have HS:=Lib.hid hs;clear hs
     go_wp2_with fail
     go_still (by kernel_rfl)
     go_wp2_with fail
     go_ret
     exact aq rfl (dq hlt hlt2 HS.out).symm hb.drew
    ·rw [hs,KW] at hq
     have HS:=Lib.hid hs;clear hs
     go_wp2_with fail
     go_still (by kernel_rfl)
     go_wp2_with fail
     go_roundw
     case rel=>exact ⟨k+1,by omega,rfl,by go_num,hb.drew,fun j h h' h''=>by
      by_cases e:j=k
      ·subst e;exact HS.out
      ·exact HP.out j (by omega) h' h''⟩
     case measure=>simp [intOf];omega
   ·go_wp2_with fail
    go_ret
    have hk':k=xs.length:=by omega
    exact aq rfl (cN.2 ⟨HL.out,fun i h h'=>HP.out i (by omega) h h'⟩).symm hb
 ·have hne:(((xs.length:Nat):Int) !=((ys.length:Nat):Int))=true:=by simp;omega
  clear h1 h2
  rw [cB hl]
  clear hl
  go_enter Tryz.func50,Tryz.ntmps50
  go_wp2_with fail
  go_ret
  exact aq rfl rfl (Below.refl _ _)
set_option maxRecDepth 100000 in
set_option maxHeartbeats 2000000 in
theorem qB (xs ys:List cg) (vx vy:Value) (w:World) (h1:gG w xs vx) (h2:gG w ys vy) :
  Calls Tryz.prog 51 #[vx,vy] w (fU w (.bool (bT cg.dm xs ys))):=by
 obtain ⟨p,c,rfl,hc1,hc2⟩:=h1.shape
 obtain ⟨q,d,rfl,hd1,hd2⟩:=h2.shape
 unfold maxLen at hc2 hd2
 by_cases hl:xs.length=ys.length
 ·have H1:=Lib.hid h1;have H2:=Lib.hid h2;have HL:=Lib.hid hl
  skip
  have hne:(((xs.length:Nat):Int) !=((ys.length:Nat):Int))=false:=by simp [hl]
  clear h1 h2 hl
  go_enter Tryz.func51,Tryz.ntmps51
  go_wp2_with fail
  go_loopw [4,13] (fun r i wr=> ∃k:Nat,k≤xs.length∧r = .bool false∧i = .int .i64 k∧Below w.heap.size w wr∧ ∀j (h:j<k) (h':j<xs.length) (h'':j<ys.length),cg.dm xs[j] ys[j]=true) (fun _ i _=>xs.length - (intOf i).toNat)
  case atStart=>exact ⟨0,I6 _,rfl,rfl,Below.refl _ _,fun j h=>by omega⟩
  case round=>
   obtain ⟨k,hk,rfl,rfl,hb,hP⟩:=hrel
   have HP:=Lib.hid hP;clear hP
   by_cases hlt:k<xs.length
   ·have hlt2:k<ys.length:=by have:=HL.out;omega
    obtain ⟨b1,o1,rfl,a0,a1,a2,a3,a4,a5⟩:=iM (H1.out.below hb) hlt
    obtain ⟨b2,o2,rfl,c0,c1,c2,c3,c4,c5⟩:=iM (H2.out.below hb) hlt2
    have hq:=fun w=>xA xs[k] ys[k] w
    cases hs:cg.dm xs[k] ys[k]
    ·rw [hs,KV] at hq
     have HS:=Lib.hid hs;clear hs
     go_wp2_with fail
     go_still (by kernel_rfl)
     go_wp2_with fail
     go_ret
     exact aq rfl (dq hlt hlt2 HS.out).symm hb.drew
    ·rw [hs,KW] at hq
     have HS:=Lib.hid hs;clear hs
     go_wp2_with fail
     go_still (by kernel_rfl)
     go_wp2_with fail
     go_roundw
     case rel=>exact ⟨k+1,by omega,rfl,by go_num,hb.drew,fun j h h' h''=>by
      by_cases e:j=k
      ·subst e;exact HS.out
      ·exact HP.out j (by omega) h' h''⟩
     case measure=>simp [intOf];omega
   ·go_wp2_with fail
    go_ret
    have hk':k=xs.length:=by omega
    exact aq rfl (cN.2 ⟨HL.out,fun i h h'=>HP.out i (by omega) h h'⟩).symm hb
 ·have hne:(((xs.length:Nat):Int) !=((ys.length:Nat):Int))=true:=by simp;omega
  clear h1 h2
  rw [cB hl]
  clear hl
  go_enter Tryz.func51,Tryz.ntmps51
  go_wp2_with fail
  go_ret
  exact aq rfl rfl (Below.refl _ _)
end Go.Proofs.YtldnlbcibmmbbaaGreat
/-! Two patterns held against each other; rows of patterns (kinescopekit). -/
namespace Go.Proofs.YtldnlbcibmmbbaaGreat
open Go.RowKit
def gq (f:FuncId):Prop:= ∀(x y:cQ) (k1:Int) (s1:ByteArray) (l1:List Ex) (v1:Value) (k2:Int) (s2:ByteArray) (l2:List Ex) (v2:Value) (w:World),
 x.expr = .mk k1 s1 l1→cm w l1 v1→y.expr = .mk k2 s2 l2→cm w l2 v2 →
 Calls Tryz.prog f #[.agg #[.string x.aD, .string x.to, .bool x.path, .string x.label, .string x.name, .int .i64 k1, .string s1,v1], .agg #[.string y.aD, .string y.to, .bool y.path, .string y.label, .string y.name, .int .i64 k2, .string s2,v2]] w (fU w (.bool (aG x y)))
set_option maxRecDepth 100000 in
set_option maxHeartbeats 2000000 in
theorem jr:gq 103:=by
 intro x y k1 s1 l1 v1 k2 s2 l2 v2 w e1 r1 e2 r2
 have HB:=Lib.hid (fun o o'=>((Below.refl w.heap.size w).alloc (IV _) o).alloc (by simp) o')
 have HC:=Lib.hid (fun w' (hb:Below w.heap.size w w')=>lq x.expr y.expr [.int .i64 k1, .string s1,v1] [.int .i64 k2, .string s2,v2] w' (by rw [e1,cf];exact ⟨v1,rfl,r1.below hb⟩) (by rw [e2,cf];exact ⟨v2,rfl,r2.below hb⟩))
 clear e1 r1 e2 r2
 cases g0:x.aD.toList==y.aD.toList
 ·skip
  have G0:=Lib.hid g0;
  clear HC
  go_enter Tryz.func103,Tryz.ntmps103
  go_wp2_with fail
  go_ret
  exact aq rfl (by simp [aG,G0.out]) (HB.out _ _)
 ·skip
  cases g1:x.to.toList==y.to.toList
  ·skip
   have G0:=Lib.hid g0;have G1:=Lib.hid g1;
   clear HC
   go_enter Tryz.func103,Tryz.ntmps103
   go_wp2_with fail
   go_ret
   exact aq rfl (by simp [aG,G0.out,G1.out]) (HB.out _ _)
  ·skip
   cases g2:x.path==y.path
   ·skip
    have G0:=Lib.hid g0;have G1:=Lib.hid g1;have G2:=Lib.hid g2;
    clear HC
    go_enter Tryz.func103,Tryz.ntmps103
    go_wp2_with fail
    go_ret
    exact aq rfl (by simp [aG,G0.out,G1.out,G2.out]) (HB.out _ _)
   ·skip
    cases g3:x.label.toList==y.label.toList
    ·skip
     have G0:=Lib.hid g0;have G1:=Lib.hid g1;have G2:=Lib.hid g2;have G3:=Lib.hid g3;
     clear HC
     go_enter Tryz.func103,Tryz.ntmps103
     go_wp2_with fail
     go_ret
     exact aq rfl (by simp [aG,G0.out,G1.out,G2.out,G3.out]) (HB.out _ _)
    ·skip
     cases g4:x.name.toList==y.name.toList
     ·skip
      have G0:=Lib.hid g0;have G1:=Lib.hid g1;have G2:=Lib.hid g2;have G3:=Lib.hid g3;have G4:=Lib.hid g4;
      clear HC
      go_enter Tryz.func103,Tryz.ntmps103
      go_wp2_with fail
      go_ret
      exact aq rfl (by simp [aG,G0.out,G1.out,G2.out,G3.out,G4.out]) (HB.out _ _)
     ·skip
      have G0:=Lib.hid g0;have G1:=Lib.hid g1;have G2:=Lib.hid g2;have G3:=Lib.hid g3;have G4:=Lib.hid g4;
      go_enter Tryz.func103,Tryz.ntmps103
      go_wp2_with fail
      refine (HC.out _ (HB.out _ _)).mono ?_
      rintro e w' ⟨rfl,hb'⟩
      go_wp2_with fail
      go_ret
      exact aq rfl (by simp [aG,G0.out,G1.out,G2.out,G3.out,G4.out]) (aa (HB.out _ _) hb')
set_option maxRecDepth 100000 in
set_option maxHeartbeats 2000000 in
theorem nv (xs ys:List cQ) (hf:gq 103) (vx vy:Value) (w:World) (h1:cP w xs vx) (h2:cP w ys vy) :
  Calls Tryz.prog 99 #[vx,vy] w (fU w (.bool (bT aG xs ys))):=by
 obtain ⟨p,c,rfl,hc1,hc2⟩:=h1.shape
 obtain ⟨q,d,rfl,hd1,hd2⟩:=h2.shape
 unfold maxLen at hc2 hd2
 by_cases hl:xs.length=ys.length
 ·have H1:=Lib.hid h1;have H2:=Lib.hid h2;have HL:=Lib.hid hl
  have HF:=Lib.hid hf;clear hf
  have hne:(((xs.length:Nat):Int) !=((ys.length:Nat):Int))=false:=by simp [hl]
  clear h1 h2 hl
  go_enter Tryz.func99,Tryz.ntmps99
  go_wp2_with fail
  go_loopw [4,5] (fun r i wr=> ∃k:Nat,k≤xs.length∧r = .bool false∧i = .int .i64 k∧Below w.heap.size w wr∧ ∀j (h:j<k) (h':j<xs.length) (h'':j<ys.length),aG xs[j] ys[j]=true) (fun _ i _=>xs.length - (intOf i).toNat)
  case atStart=>exact ⟨0,I6 _,rfl,rfl,Below.refl _ _,fun j h=>by omega⟩
  case round=>
   obtain ⟨k,hk,rfl,rfl,hb,hP⟩:=hrel
   have HP:=Lib.hid hP;clear hP
   by_cases hlt:k<xs.length
   ·have hlt2:k<ys.length:=by have:=HL.out;omega
    obtain ⟨b1,o1,k1,s1,l1,v1,rfl,hx1,hr1,a0,a1,a2,a3,a4,a5,a6,a7⟩:=dv (bd hb H1.out) hlt
    obtain ⟨b2,o2,k2,s2,l2,v2,rfl,hx2,hr2,c0,c1,c2,c3,c4,c5,c6,c7⟩:=dv (bd hb H2.out) hlt2
    have HC:=Lib.hid (HF.out xs[k] ys[k] k1 s1 l1 v1 k2 s2 l2 v2 wr.drew hx1 (hr1.below (b6 wr)) hx2 (hr2.below (b6 wr)))
    clear hx1 hr1 hx2 hr2
    cases hs:aG xs[k] ys[k]
    ·rw [hs] at HC
     have HS:=Lib.hid hs;clear hs
     go_wp2_with fail
     go_still_tail 8,(by kernel_rfl)
     change wpList _ _ _ _ _ wr.drew
     go_wp2_with fail
     refine HC.out.mono ?_
     rintro e w' ⟨rfl,hb'⟩
     go_wp2_with fail
     go_ret
     exact aq rfl (dq hlt hlt2 HS.out).symm (aa hb (Below.sJ hb'))
    ·rw [hs] at HC
     have HS:=Lib.hid hs;clear hs
     go_wp2_with fail
     go_still_tail 8,(by kernel_rfl)
     change wpList _ _ _ _ _ wr.drew
     go_wp2_with fail
     refine HC.out.mono ?_
     rintro e w' ⟨rfl,hb'⟩
     go_wp2_with fail
     go_roundw
     case rel=>exact ⟨k+1,by omega,rfl,by go_num,(aa hb (Below.sJ hb')),fun j h h' h''=>by
      by_cases e:j=k
      ·subst e;exact HS.out
      ·exact HP.out j (by omega) h' h''⟩
     case measure=>simp [intOf];omega
   ·go_wp2_with fail
    go_ret
    have hk':k=xs.length:=by omega
    exact aq rfl (cN.2 ⟨HL.out,fun i h h'=>HP.out i (by omega) h h'⟩).symm hb
 ·have hne:(((xs.length:Nat):Int) !=((ys.length:Nat):Int))=true:=by simp;omega
  clear h1 h2 hf
  rw [cB hl]
  clear hl
  go_enter Tryz.func99,Tryz.ntmps99
  go_wp2_with fail
  go_ret
  exact aq rfl rfl (Below.refl _ _)
theorem ma (xs ys:List cQ) (vx vy:Value) (w:World) (h1:cP w xs vx) (h2:cP w ys vy) :
  Calls Tryz.prog 99 #[vx,vy] w (fU w (.bool (bT aG xs ys))):=nv xs ys jr vx vy w h1 h2
end Go.Proofs.YtldnlbcibmmbbaaGreat
/-! expr.Same, tree.samePattern, tree.Same tell what kinescopekit.Same.. tells. -/
namespace Go.Proofs.YtldnlbcibmmbbaaGreat
open Go.RowKit
def AJ (x:Ex):Prop:= ∀(y:Ex) (cx cy:List Value) (w:World),cf w x cx→cf w y cy →
 Calls Tryz.prog 86 #[.agg cx.toArray, .agg cy.toArray] w (fU w (.bool (cp x y)))
set_option maxRecDepth 100000 in
set_option maxHeartbeats 2000000 in
theorem qF (xs ys:List Ex) (hf: ∀x,x∈xs→AJ x) (vx vy:Value) (w:World) (h1:cm w xs vx) (h2:cm w ys vy) :
  Calls Tryz.prog 112 #[vx,vy, .func (.func 86) #[] #[]] w (fU w (.bool (bT cp xs ys))):=by
 obtain ⟨p,c,rfl,hc1,hc2⟩:=h1.shape
 obtain ⟨q,d,rfl,hd1,hd2⟩:=h2.shape
 unfold maxLen at hc2 hd2
 by_cases hl:xs.length=ys.length
 ·have H1:=Lib.hid h1;have H2:=Lib.hid h2;have HL:=Lib.hid hl
  have HF:=Lib.hid hf;clear hf
  have hne:(((xs.length:Nat):Int) !=((ys.length:Nat):Int))=false:=by simp [hl]
  clear h1 h2 hl
  go_enter Tryz.func112,Tryz.ntmps112
  go_wp2_with fail
  go_loopw [6,17] (fun r i wr=> ∃k:Nat,k≤xs.length∧r = .bool false∧i = .int .i64 k∧Below w.heap.size w wr∧ ∀j (h:j<k) (h':j<xs.length) (h'':j<ys.length),cp xs[j] ys[j]=true) (fun _ i _=>xs.length - (intOf i).toNat)
  case atStart=>exact ⟨0,I6 _,rfl,rfl,Below.refl _ _,fun j h=>by omega⟩
  case round=>
   obtain ⟨k,hk,rfl,rfl,hb,hP⟩:=hrel
   have HP:=Lib.hid hP;clear hP
   by_cases hlt:k<xs.length
   ·have hlt2:k<ys.length:=by have:=HL.out;omega
    obtain ⟨b1,o1,k1,s1,l1,v1,rfl,hx1,hr1,a0,a1,a2⟩:=(H1.out.below hb).at hlt
    obtain ⟨b2,o2,k2,s2,l2,v2,rfl,hx2,hr2,c0,c1,c2⟩:=(H2.out.below hb).at hlt2
    have hq1:=cr a0
    have hq2:=cr c0
    obtain ⟨pv1,cv1,rfl, -, -⟩:=hr1.shape
    obtain ⟨pv2,cv2,rfl, -, -⟩:=hr2.shape
    have HB:=Lib.hid (fun o o'=>((Below.refl wr.heap.size wr).alloc (IV _) o).alloc (by simp) o')
    have HC:=Lib.hid (fun w' (hw:Below wr.heap.size wr w')=>HF.out xs[k] (List.getElem_mem _) ys[k] [.int .i64 k1, .string s1, .slice pv1 l1.length cv1] [.int .i64 k2, .string s2, .slice pv2 l2.length cv2] w' (by rw [hx1,cf];exact ⟨_,rfl,hr1.below hw⟩) (by rw [hx2,cf];exact ⟨_,rfl,hr2.below hw⟩))
    clear hx1 hr1 hx2 hr2
    cases hs:cp xs[k] ys[k]
    ·rw [hs] at HC
     have HS:=Lib.hid hs;clear hs
     go_wp2_with fail
     refine (HC.out _ (HB.out _ _)).mono ?_
     rintro e w' ⟨rfl,hb'⟩
     go_wp2_with fail
     go_ret
     exact aq rfl (dq hlt hlt2 HS.out).symm (aa hb (aa (HB.out _ _) hb'))
    ·rw [hs] at HC
     have HS:=Lib.hid hs;clear hs
     go_wp2_with fail
     refine (HC.out _ (HB.out _ _)).mono ?_
     rintro e w' ⟨rfl,hb'⟩
     go_wp2_with fail
     go_roundw
     case rel=>exact ⟨k+1,by omega,rfl,by go_num,(aa hb (aa (HB.out _ _) hb')),fun j h h' h''=>by
      by_cases e:j=k
      ·subst e;exact HS.out
      ·exact HP.out j (by omega) h' h''⟩
     case measure=>simp [intOf];omega
   ·go_wp2_with fail
    go_ret
    have hk':k=xs.length:=by omega
    exact aq rfl (cN.2 ⟨HL.out,fun i h h'=>HP.out i (by omega) h h'⟩).symm hb
 ·have hne:(((xs.length:Nat):Int) !=((ys.length:Nat):Int))=true:=by simp;omega
  clear h1 h2 hf
  rw [cB hl]
  clear hl
  go_enter Tryz.func112,Tryz.ntmps112
  go_wp2_with fail
  go_ret
  exact aq rfl rfl (Below.refl _ _)
set_option maxRecDepth 100000 in
set_option maxHeartbeats 1000000 in
theorem ry (x:Ex):AJ x:=by
 induction x using Ex.ind with
 | h k s l ih=>
  intro y cx cy w hx hy
  obtain ⟨k',s',l'⟩:=y
  rw [cf] at hx hy
  obtain ⟨vx,rfl,hx⟩:=hx
  obtain ⟨vy,rfl,hy⟩:=hy
  rw [fV]
  have HB':=Lib.hid (fun o o'=>((Below.refl w.heap.size w).alloc (IV _) o).alloc (by simp) o')
  cases hk:k==k'
  ·clear ih hx hy
   rw [KB,KB]
   go_enter Tryz.func86,Tryz.ntmps86
   go_wp2_with fail
   go_ret
   exact aq rfl rfl (HB'.out _ _)
  ·cases hs:s.toList==s'.toList
   ·clear ih hx hy
    rw [Bool.and_false,KB]
    go_enter Tryz.func86,Tryz.ntmps86
    go_wp2_with fail
    go_ret
    exact aq rfl rfl (HB'.out _ _)
   ·rw [Bool.and_true,Bool.true_and]
    have HC:=Lib.hid (fun w' (hb:Below w.heap.size w w')=>qF l l' ih vx vy w' (hx.below hb) (hy.below hb))
    clear ih hx hy
    go_enter Tryz.func86,Tryz.ntmps86
    go_wp2_with fail
    refine (HC.out _ (HB'.out _ _)).mono ?_
    rintro e w' ⟨rfl,hb'⟩
    go_wp2_with fail
    go_ret
    exact aq rfl rfl (aa (HB'.out _ _) hb')
set_option maxRecDepth 100000 in
set_option maxHeartbeats 4000000 in
theorem mD:gq 49:=by
 intro x y k1 s1 l1 v1 k2 s2 l2 v2 w e1 r1 e2 r2
 have HB:=Lib.hid (fun o o'=>((Below.refl w.heap.size w).alloc (IV _) o).alloc (by simp) o')
 have HC:=Lib.hid (fun w' (hb:Below w.heap.size w w')=>ry x.expr y.expr [.int .i64 k1, .string s1,v1] [.int .i64 k2, .string s2,v2] w' (by rw [e1,cf];exact ⟨v1,rfl,r1.below hb⟩) (by rw [e2,cf];exact ⟨v2,rfl,r2.below hb⟩))
 clear e1 r1 e2 r2
 cases gs:cp x.expr y.expr
 ·rw [gs] at HC
  have GS:=Lib.hid gs
  go_enter Tryz.func49,Tryz.ntmps49
  go_wp2_with fail
  refine (HC.out _ (HB.out _ _)).mono ?_
  rintro e w' ⟨rfl,hb'⟩
  obtain ⟨hc,hf⟩:=az hb'
  go_wp2_with fail
  go_ret
  exact aq rfl (by simp [aG,GS.out]) (aa (HB.out _ _) hb')
 ·rw [gs] at HC
  cases g0:x.aD.toList==y.aD.toList
  ·skip
   have G0:=Lib.hid g0;have GS:=Lib.hid gs
   go_enter Tryz.func49,Tryz.ntmps49
   go_wp2_with fail
   refine (HC.out _ (HB.out _ _)).mono ?_
   rintro e w' ⟨rfl,hb'⟩
   obtain ⟨hc,hf⟩:=az hb'
   go_wp2_with fail
   go_ret
   exact aq rfl (by simp [aG,GS.out,G0.out]) (aa (HB.out _ _) hb')
  ·skip
   cases g1:x.to.toList==y.to.toList
   ·skip
    have G0:=Lib.hid g0;have G1:=Lib.hid g1;have GS:=Lib.hid gs
    go_enter Tryz.func49,Tryz.ntmps49
    go_wp2_with fail
    refine (HC.out _ (HB.out _ _)).mono ?_
    rintro e w' ⟨rfl,hb'⟩
    obtain ⟨hc,hf⟩:=az hb'
    go_wp2_with fail
    go_ret
    exact aq rfl (by simp [aG,GS.out,G0.out,G1.out]) (aa (HB.out _ _) hb')
   ·skip
    cases g2:x.path==y.path
    ·skip
     have G0:=Lib.hid g0;have G1:=Lib.hid g1;have G2:=Lib.hid g2;have GS:=Lib.hid gs
     go_enter Tryz.func49,Tryz.ntmps49
     go_wp2_with fail
     refine (HC.out _ (HB.out _ _)).mono ?_
     rintro e w' ⟨rfl,hb'⟩
     obtain ⟨hc,hf⟩:=az hb'
     go_wp2_with fail
     go_ret
     exact aq rfl (by simp [aG,GS.out,G0.out,G1.out,G2.out]) (aa (HB.out _ _) hb')
    ·skip
     cases g3:x.label.toList==y.label.toList
     ·skip
      have G0:=Lib.hid g0;have G1:=Lib.hid g1;have G2:=Lib.hid g2;have G3:=Lib.hid g3;have GS:=Lib.hid gs
      go_enter Tryz.func49,Tryz.ntmps49
      go_wp2_with fail
      refine (HC.out _ (HB.out _ _)).mono ?_
      rintro e w' ⟨rfl,hb'⟩
      obtain ⟨hc,hf⟩:=az hb'
      go_wp2_with fail
      go_ret
      exact aq rfl (by simp [aG,GS.out,G0.out,G1.out,G2.out,G3.out]) (aa (HB.out _ _) hb')
     ·skip
      cases g4:x.name.toList==y.name.toList
      ·skip
       have G0:=Lib.hid g0;have G1:=Lib.hid g1;have G2:=Lib.hid g2;have G3:=Lib.hid g3;have G4:=Lib.hid g4;have GS:=Lib.hid gs
       go_enter Tryz.func49,Tryz.ntmps49
       go_wp2_with fail
       refine (HC.out _ (HB.out _ _)).mono ?_
       rintro e w' ⟨rfl,hb'⟩
       obtain ⟨hc,hf⟩:=az hb'
       go_wp2_with fail
       go_ret
       exact aq rfl (by simp [aG,GS.out,G0.out,G1.out,G2.out,G3.out,G4.out]) (aa (HB.out _ _) hb')
      ·skip
       have G0:=Lib.hid g0;have G1:=Lib.hid g1;have G2:=Lib.hid g2;have G3:=Lib.hid g3;have G4:=Lib.hid g4;have GS:=Lib.hid gs
       go_enter Tryz.func49,Tryz.ntmps49
       go_wp2_with fail
       refine (HC.out _ (HB.out _ _)).mono ?_
       rintro e w' ⟨rfl,hb'⟩
       obtain ⟨hc,hf⟩:=az hb'
       go_wp2_with fail
       go_ret
       exact aq rfl (by simp [aG,GS.out,G0.out,G1.out,G2.out,G3.out,G4.out]) (aa (HB.out _ _) hb')
set_option maxRecDepth 100000 in
set_option maxHeartbeats 2000000 in
theorem qE (xs ys:List cQ) (hf:gq 49) (vx vy:Value) (w:World) (h1:cP w xs vx) (h2:cP w ys vy) :
  Calls Tryz.prog 48 #[vx,vy, .func (.func 49) #[] #[]] w (fU w (.bool (bT aG xs ys))):=by
 obtain ⟨p,c,rfl,hc1,hc2⟩:=h1.shape
 obtain ⟨q,d,rfl,hd1,hd2⟩:=h2.shape
 unfold maxLen at hc2 hd2
 by_cases hl:xs.length=ys.length
 ·have H1:=Lib.hid h1;have H2:=Lib.hid h2;have HL:=Lib.hid hl
  have HF:=Lib.hid hf;clear hf
  have hne:(((xs.length:Nat):Int) !=((ys.length:Nat):Int))=false:=by simp [hl]
  clear h1 h2 hl
  go_enter Tryz.func48,Tryz.ntmps48
  go_wp2_with fail
  go_loopw [6,17] (fun r i wr=> ∃k:Nat,k≤xs.length∧r = .bool false∧i = .int .i64 k∧Below w.heap.size w wr∧ ∀j (h:j<k) (h':j<xs.length) (h'':j<ys.length),aG xs[j] ys[j]=true) (fun _ i _=>xs.length - (intOf i).toNat)
  case atStart=>exact ⟨0,I6 _,rfl,rfl,Below.refl _ _,fun j h=>by omega⟩
  case round=>
   obtain ⟨k,hk,rfl,rfl,hb,hP⟩:=hrel
   have HP:=Lib.hid hP;clear hP
   by_cases hlt:k<xs.length
   ·have hlt2:k<ys.length:=by have:=HL.out;omega
    obtain ⟨b1,o1,k1,s1,l1,v1,rfl,hx1,hr1,a0,a1,a2,a3,a4,a5,a6,a7⟩:=dv (bd hb H1.out) hlt
    obtain ⟨b2,o2,k2,s2,l2,v2,rfl,hx2,hr2,c0,c1,c2,c3,c4,c5,c6,c7⟩:=dv (bd hb H2.out) hlt2
    have hq1:=cr a0
    have hq2:=cr c0
    obtain ⟨pv1,cv1,rfl, -, -⟩:=hr1.shape
    obtain ⟨pv2,cv2,rfl, -, -⟩:=hr2.shape
    have HB:=Lib.hid (fun o o'=>((Below.refl wr.heap.size wr).alloc (IV _) o).alloc (by simp) o')
    have HC:=Lib.hid (fun w' (hw:Below wr.heap.size wr w')=>HF.out xs[k] ys[k] k1 s1 l1 _ k2 s2 l2 _ w' hx1 (hr1.below hw) hx2 (hr2.below hw))
    clear hx1 hr1 hx2 hr2
    cases hs:aG xs[k] ys[k]
    ·rw [hs] at HC
     have HS:=Lib.hid hs;clear hs
     go_wp2_with fail
     refine (HC.out _ (HB.out _ _)).mono ?_
     rintro e w' ⟨rfl,hb'⟩
     go_wp2_with fail
     go_ret
     exact aq rfl (dq hlt hlt2 HS.out).symm (aa hb (aa (HB.out _ _) hb'))
    ·rw [hs] at HC
     have HS:=Lib.hid hs;clear hs
     go_wp2_with fail
     refine (HC.out _ (HB.out _ _)).mono ?_
     rintro e w' ⟨rfl,hb'⟩
     go_wp2_with fail
     go_roundw
     case rel=>exact ⟨k+1,by omega,rfl,by go_num,(aa hb (aa (HB.out _ _) hb')),fun j h h' h''=>by
      by_cases e:j=k
      ·subst e;exact HS.out
      ·exact HP.out j (by omega) h' h''⟩
     case measure=>simp [intOf];omega
   ·go_wp2_with fail
    go_ret
    have hk':k=xs.length:=by omega
    exact aq rfl (cN.2 ⟨HL.out,fun i h h'=>HP.out i (by omega) h h'⟩).symm hb
 ·have hne:(((xs.length:Nat):Int) !=((ys.length:Nat):Int))=true:=by simp;omega
  clear h1 h2 hf
  rw [cB hl]
  clear hl
  go_enter Tryz.func48,Tryz.ntmps48
  go_wp2_with fail
  go_ret
  exact aq rfl rfl (Below.refl _ _)
end Go.Proofs.YtldnlbcibmmbbaaGreat
/-! Two queries held against each other: kinescopekit.SameQuery, tree.Same. -/
namespace Go.Proofs.YtldnlbcibmmbbaaGreat
open Go.RowKit
theorem qG (xs ys:List cQ) (vx vy:Value) (w:World) (h1:cP w xs vx) (h2:cP w ys vy) :
  Calls Tryz.prog 48 #[vx,vy, .func (.func 49) #[] #[]] w (fU w (.bool (bT aG xs ys))):=qE xs ys mD vx vy w h1 h2
set_option maxRecDepth 100000 in
set_option maxHeartbeats 4000000 in
theorem qu (x y:dF) (cx cy:List Value) (w:World) (hx:eb w x cx) (hy:eb w y cy) :
  Calls Tryz.prog 63 #[.agg cx.toArray, .agg cy.toArray] w (fU w (.bool (bh x y))):=by
 obtain ⟨v1,v2,v3,r1,r2,r3,rfl⟩:=hx
 obtain ⟨u1,u2,u3,s1,s2,s3,rfl⟩:=hy
 have HB:=Lib.hid (fun o o'=>((Below.refl w.heap.size w).alloc (IV _) o).alloc (by simp) o')
 have HP:=Lib.hid (fun w' (hb:Below w.heap.size w w')=>ma x.ao y.ao v1 u1 w' (bd hb r1) (bd hb s1))
 have HC:=Lib.hid (fun w' (hb:Below w.heap.size w w')=>qn x.conds y.conds v2 u2 w' (r2.below hb) (s2.below hb))
 have HR:=Lib.hid (fun w' (hb:Below w.heap.size w w')=>l7 x.ret y.ret v3 u3 w' (r3.below hb) (s3.below hb))
 obtain ⟨p1,k1,rfl, -, -⟩:=r1.shape
 obtain ⟨p2,k2,rfl, -, -⟩:=r2.shape
 obtain ⟨p3,k3,rfl, -, -⟩:=r3.shape
 obtain ⟨q1,m1,rfl, -, -⟩:=s1.shape
 obtain ⟨q2,m2,rfl, -, -⟩:=s2.shape
 obtain ⟨q3,m3,rfl, -, -⟩:=s3.shape
 clear r1 r2 r3 s1 s2 s3
 cases g0:bT aG x.ao y.ao
 ·have G0:=Lib.hid g0
  rw [g0] at HP
  go_enter Tryz.func63,Tryz.ntmps63
  go_wp2_with fail
  refine (HP.out _ (HB.out _ _)).mono ?_
  rintro e w1 ⟨rfl,hb1⟩
  obtain ⟨hc1,hf1⟩:=az hb1
  have hz1:w.heap.size+1<w1.heap.size:=by have:=hb1.size;first|omega|(simp at this;omega)
  have hy1:w.heap.size<w1.heap.size:=by omega
  go_wp2_with fail
  go_ret
  exact aq rfl (by simp [bh,G0.out]) (aa (HB.out _ _) hb1)
 ·have G0:=Lib.hid g0
  rw [g0] at HP
  cases g1:bT ew.dm x.conds y.conds
  ·have G1:=Lib.hid g1
   rw [g1] at HC
   go_enter Tryz.func63,Tryz.ntmps63
   go_wp2_with fail
   refine (HP.out _ (HB.out _ _)).mono ?_
   rintro e w1 ⟨rfl,hb1⟩
   obtain ⟨hc1,hf1⟩:=az hb1
   have hz1:w.heap.size+1<w1.heap.size:=by have:=hb1.size;first|omega|(simp at this;omega)
   have hy1:w.heap.size<w1.heap.size:=by omega
   go_wp2_with fail
   refine (HC.out _ (aa (HB.out _ _) hb1)).mono ?_
   rintro e w2 ⟨rfl,hb2⟩
   obtain ⟨hc2,hf2⟩:=az hb2
   have hz2:w.heap.size+1<w2.heap.size:=by have:=hb2.size;first|omega|(simp at this;omega)
   have hy2:w.heap.size<w2.heap.size:=by omega
   go_wp2_with fail
   go_ret
   exact aq rfl (by simp [bh,G0.out,G1.out]) (aa (aa (HB.out _ _) hb1) hb2)
  ·have G1:=Lib.hid g1
   rw [g1] at HC
   cases g2:bT cg.dm x.ret y.ret
   ·have G2:=Lib.hid g2
    rw [g2] at HR
    go_enter Tryz.func63,Tryz.ntmps63
    go_wp2_with fail
    refine (HP.out _ (HB.out _ _)).mono ?_
    rintro e w1 ⟨rfl,hb1⟩
    obtain ⟨hc1,hf1⟩:=az hb1
    have hz1:w.heap.size+1<w1.heap.size:=by have:=hb1.size;first|omega|(simp at this;omega)
    have hy1:w.heap.size<w1.heap.size:=by omega
    go_wp2_with fail
    refine (HC.out _ (aa (HB.out _ _) hb1)).mono ?_
    rintro e w2 ⟨rfl,hb2⟩
    obtain ⟨hc2,hf2⟩:=az hb2
    have hz2:w.heap.size+1<w2.heap.size:=by have:=hb2.size;first|omega|(simp at this;omega)
    have hy2:w.heap.size<w2.heap.size:=by omega
    go_wp2_with fail
    refine (HR.out _ (aa (aa (HB.out _ _) hb1) hb2)).mono ?_
    rintro e w3 ⟨rfl,hb3⟩
    obtain ⟨hc3,hf3⟩:=az hb3
    have hz3:w.heap.size+1<w3.heap.size:=by have:=hb3.size;first|omega|(simp at this;omega)
    have hy3:w.heap.size<w3.heap.size:=by omega
    go_wp2_with fail
    go_ret
    exact aq rfl (by simp [bh,G0.out,G1.out,G2.out]) (aa (aa (aa (HB.out _ _) hb1) hb2) hb3)
   ·have G2:=Lib.hid g2
    rw [g2] at HR
    cases g3:x.range==y.range
    ·have G3:=Lib.hid g3
     go_enter Tryz.func63,Tryz.ntmps63
     go_wp2_with fail
     refine (HP.out _ (HB.out _ _)).mono ?_
     rintro e w1 ⟨rfl,hb1⟩
     obtain ⟨hc1,hf1⟩:=az hb1
     have hz1:w.heap.size+1<w1.heap.size:=by have:=hb1.size;first|omega|(simp at this;omega)
     have hy1:w.heap.size<w1.heap.size:=by omega
     go_wp2_with fail
     refine (HC.out _ (aa (HB.out _ _) hb1)).mono ?_
     rintro e w2 ⟨rfl,hb2⟩
     obtain ⟨hc2,hf2⟩:=az hb2
     have hz2:w.heap.size+1<w2.heap.size:=by have:=hb2.size;first|omega|(simp at this;omega)
     have hy2:w.heap.size<w2.heap.size:=by omega
     go_wp2_with fail
     refine (HR.out _ (aa (aa (HB.out _ _) hb1) hb2)).mono ?_
     rintro e w3 ⟨rfl,hb3⟩
     obtain ⟨hc3,hf3⟩:=az hb3
     have hz3:w.heap.size+1<w3.heap.size:=by have:=hb3.size;first|omega|(simp at this;omega)
     have hy3:w.heap.size<w3.heap.size:=by omega
     go_wp2_with fail
     go_ret
     exact aq rfl (by simp [bh,G0.out,G1.out,G2.out,G3.out]) (aa (aa (aa (HB.out _ _) hb1) hb2) hb3)
    ·have G3:=Lib.hid g3
     cases g4:x.cU==y.cU
     ·have G4:=Lib.hid g4
      go_enter Tryz.func63,Tryz.ntmps63
      go_wp2_with fail
      refine (HP.out _ (HB.out _ _)).mono ?_
      rintro e w1 ⟨rfl,hb1⟩
      obtain ⟨hc1,hf1⟩:=az hb1
      have hz1:w.heap.size+1<w1.heap.size:=by have:=hb1.size;first|omega|(simp at this;omega)
      have hy1:w.heap.size<w1.heap.size:=by omega
      go_wp2_with fail
      refine (HC.out _ (aa (HB.out _ _) hb1)).mono ?_
      rintro e w2 ⟨rfl,hb2⟩
      obtain ⟨hc2,hf2⟩:=az hb2
      have hz2:w.heap.size+1<w2.heap.size:=by have:=hb2.size;first|omega|(simp at this;omega)
      have hy2:w.heap.size<w2.heap.size:=by omega
      go_wp2_with fail
      refine (HR.out _ (aa (aa (HB.out _ _) hb1) hb2)).mono ?_
      rintro e w3 ⟨rfl,hb3⟩
      obtain ⟨hc3,hf3⟩:=az hb3
      have hz3:w.heap.size+1<w3.heap.size:=by have:=hb3.size;first|omega|(simp at this;omega)
      have hy3:w.heap.size<w3.heap.size:=by omega
      go_wp2_with fail
      go_ret
      exact aq rfl (by simp [bh,G0.out,G1.out,G2.out,G3.out,G4.out]) (aa (aa (aa (HB.out _ _) hb1) hb2) hb3)
     ·have G4:=Lib.hid g4
      go_enter Tryz.func63,Tryz.ntmps63
      go_wp2_with fail
      refine (HP.out _ (HB.out _ _)).mono ?_
      rintro e w1 ⟨rfl,hb1⟩
      obtain ⟨hc1,hf1⟩:=az hb1
      have hz1:w.heap.size+1<w1.heap.size:=by have:=hb1.size;first|omega|(simp at this;omega)
      have hy1:w.heap.size<w1.heap.size:=by omega
      go_wp2_with fail
      refine (HC.out _ (aa (HB.out _ _) hb1)).mono ?_
      rintro e w2 ⟨rfl,hb2⟩
      obtain ⟨hc2,hf2⟩:=az hb2
      have hz2:w.heap.size+1<w2.heap.size:=by have:=hb2.size;first|omega|(simp at this;omega)
      have hy2:w.heap.size<w2.heap.size:=by omega
      go_wp2_with fail
      refine (HR.out _ (aa (aa (HB.out _ _) hb1) hb2)).mono ?_
      rintro e w3 ⟨rfl,hb3⟩
      obtain ⟨hc3,hf3⟩:=az hb3
      have hz3:w.heap.size+1<w3.heap.size:=by have:=hb3.size;first|omega|(simp at this;omega)
      have hy3:w.heap.size<w3.heap.size:=by omega
      go_wp2_with fail
      go_ret
      exact aq rfl (by simp [bh,G0.out,G1.out,G2.out,G3.out,G4.out]) (aa (aa (aa (HB.out _ _) hb1) hb2) hb3)
set_option maxRecDepth 100000 in
set_option maxHeartbeats 4000000 in
theorem rP (x y:dF) (cx cy:List Value) (w:World) (hx:eb w x cx) (hy:eb w y cy) :
  Calls Tryz.prog 18 #[.agg cx.toArray, .agg cy.toArray] w (fU w (.bool (bh x y))):=by
 obtain ⟨v1,v2,v3,r1,r2,r3,rfl⟩:=hx
 obtain ⟨u1,u2,u3,s1,s2,s3,rfl⟩:=hy
 have HB:=Lib.hid (fun o o'=>((Below.refl w.heap.size w).alloc (IV _) o).alloc (by simp) o')
 have HP:=Lib.hid (fun w' (hb:Below w.heap.size w w')=>qG x.ao y.ao v1 u1 w' (bd hb r1) (bd hb s1))
 have HC:=Lib.hid (fun w' (hb:Below w.heap.size w w')=>ou x.conds y.conds v2 u2 w' (r2.below hb) (s2.below hb))
 have HR:=Lib.hid (fun w' (hb:Below w.heap.size w w')=>qB x.ret y.ret v3 u3 w' (r3.below hb) (s3.below hb))
 obtain ⟨p1,k1,rfl, -, -⟩:=r1.shape
 obtain ⟨p2,k2,rfl, -, -⟩:=r2.shape
 obtain ⟨p3,k3,rfl, -, -⟩:=r3.shape
 obtain ⟨q1,m1,rfl, -, -⟩:=s1.shape
 obtain ⟨q2,m2,rfl, -, -⟩:=s2.shape
 obtain ⟨q3,m3,rfl, -, -⟩:=s3.shape
 clear r1 r2 r3 s1 s2 s3
 cases g0:x.range==y.range
 ·have G0:=Lib.hid g0
  go_enter Tryz.func18,Tryz.ntmps18
  go_wp2_with fail
  go_ret
  exact aq rfl (by simp [bh,G0.out]) (HB.out _ _)
 ·have G0:=Lib.hid g0
  cases g1:x.cU==y.cU
  ·have G1:=Lib.hid g1
   go_enter Tryz.func18,Tryz.ntmps18
   go_wp2_with fail
   go_ret
   exact aq rfl (by simp [bh,G0.out,G1.out]) (HB.out _ _)
  ·have G1:=Lib.hid g1
   cases g2:bT aG x.ao y.ao
   ·have G2:=Lib.hid g2
    rw [g2] at HP
    go_enter Tryz.func18,Tryz.ntmps18
    go_wp2_with fail
    refine (HP.out _ (HB.out _ _)).mono ?_
    rintro e w1 ⟨rfl,hb1⟩
    obtain ⟨hc1,hf1⟩:=az hb1
    have hz1:w.heap.size+1<w1.heap.size:=by have:=hb1.size;first|omega|(simp at this;omega)
    have hy1:w.heap.size<w1.heap.size:=by omega
    go_wp2_with fail
    go_ret
    exact aq rfl (by simp [bh,G0.out,G1.out,G2.out]) (aa (HB.out _ _) hb1)
   ·have G2:=Lib.hid g2
    rw [g2] at HP
    cases g3:bT ew.dm x.conds y.conds
    ·have G3:=Lib.hid g3
     rw [g3] at HC
     go_enter Tryz.func18,Tryz.ntmps18
     go_wp2_with fail
     refine (HP.out _ (HB.out _ _)).mono ?_
     rintro e w1 ⟨rfl,hb1⟩
     obtain ⟨hc1,hf1⟩:=az hb1
     have hz1:w.heap.size+1<w1.heap.size:=by have:=hb1.size;first|omega|(simp at this;omega)
     have hy1:w.heap.size<w1.heap.size:=by omega
     go_wp2_with fail
     refine (HC.out _ (aa (HB.out _ _) hb1)).mono ?_
     rintro e w2 ⟨rfl,hb2⟩
     obtain ⟨hc2,hf2⟩:=az hb2
     have hz2:w.heap.size+1<w2.heap.size:=by have:=hb2.size;first|omega|(simp at this;omega)
     have hy2:w.heap.size<w2.heap.size:=by omega
     go_wp2_with fail
     go_ret
     exact aq rfl (by simp [bh,G0.out,G1.out,G2.out,G3.out]) (aa (aa (HB.out _ _) hb1) hb2)
    ·have G3:=Lib.hid g3
     rw [g3] at HC
     cases g4:bT cg.dm x.ret y.ret
     ·have G4:=Lib.hid g4
      rw [g4] at HR
      go_enter Tryz.func18,Tryz.ntmps18
      go_wp2_with fail
      refine (HP.out _ (HB.out _ _)).mono ?_
      rintro e w1 ⟨rfl,hb1⟩
      obtain ⟨hc1,hf1⟩:=az hb1
      have hz1:w.heap.size+1<w1.heap.size:=by have:=hb1.size;first|omega|(simp at this;omega)
      have hy1:w.heap.size<w1.heap.size:=by omega
      go_wp2_with fail
      refine (HC.out _ (aa (HB.out _ _) hb1)).mono ?_
      rintro e w2 ⟨rfl,hb2⟩
      obtain ⟨hc2,hf2⟩:=az hb2
      have hz2:w.heap.size+1<w2.heap.size:=by have:=hb2.size;first|omega|(simp at this;omega)
      have hy2:w.heap.size<w2.heap.size:=by omega
      go_wp2_with fail
      refine (HR.out _ (aa (aa (HB.out _ _) hb1) hb2)).mono ?_
      rintro e w3 ⟨rfl,hb3⟩
      obtain ⟨hc3,hf3⟩:=az hb3
      have hz3:w.heap.size+1<w3.heap.size:=by have:=hb3.size;first|omega|(simp at this;omega)
      have hy3:w.heap.size<w3.heap.size:=by omega
      go_wp2_with fail
      go_ret
      exact aq rfl (by simp [bh,G0.out,G1.out,G2.out,G3.out,G4.out]) (aa (aa (aa (HB.out _ _) hb1) hb2) hb3)
     ·have G4:=Lib.hid g4
      rw [g4] at HR
      go_enter Tryz.func18,Tryz.ntmps18
      go_wp2_with fail
      refine (HP.out _ (HB.out _ _)).mono ?_
      rintro e w1 ⟨rfl,hb1⟩
      obtain ⟨hc1,hf1⟩:=az hb1
      have hz1:w.heap.size+1<w1.heap.size:=by have:=hb1.size;first|omega|(simp at this;omega)
      have hy1:w.heap.size<w1.heap.size:=by omega
      go_wp2_with fail
      refine (HC.out _ (aa (HB.out _ _) hb1)).mono ?_
      rintro e w2 ⟨rfl,hb2⟩
      obtain ⟨hc2,hf2⟩:=az hb2
      have hz2:w.heap.size+1<w2.heap.size:=by have:=hb2.size;first|omega|(simp at this;omega)
      have hy2:w.heap.size<w2.heap.size:=by omega
      go_wp2_with fail
      refine (HR.out _ (aa (aa (HB.out _ _) hb1) hb2)).mono ?_
      rintro e w3 ⟨rfl,hb3⟩
      obtain ⟨hc3,hf3⟩:=az hb3
      have hz3:w.heap.size+1<w3.heap.size:=by have:=hb3.size;first|omega|(simp at this;omega)
      have hy3:w.heap.size<w3.heap.size:=by omega
      go_wp2_with fail
      go_ret
      exact aq rfl (by simp [bh,G0.out,G1.out,G2.out,G3.out,G4.out]) (aa (aa (aa (HB.out _ _) hb1) hb2) hb3)
end Go.Proofs.YtldnlbcibmmbbaaGreat
