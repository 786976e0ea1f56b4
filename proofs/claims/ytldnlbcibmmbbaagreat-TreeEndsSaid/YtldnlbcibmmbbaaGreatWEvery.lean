/- tree.every: whether something is so of all patterns, conditions, operands. -/
import Derived.Test.YtldnlbcibmmbbaaGreatWTreeB
import Derived.Test.YtldnlbcibmmbbaaGreatWSame
set_option linter.unusedSimpArgs false
set_option linter.unusedVariables false
open Array renaming getElem?_eq_some_iff → IY
open List renaming findIdx?_eq_some_iff_getElem → Kk, findIdx?_eq_none_iff → Kl, getElem_mem → KA, getElem?_toArray → Jg, getElem?_cons_zero → Kd
open Nat renaming le_refl → IV
namespace Go.Proofs.YtldnlbcibmmbbaaGreat
open Go.RowKit
def s8 {α:Type} (q:α→Bool) (xs:List α):Int:=match xs.findIdx? q with|some k=>k|none=> -1
theorem sX {α:Type} {q:α→Bool} {xs:List α} {k:Nat} (hk:k<xs.length) (hx:q xs[k]=true) (h: ∀j (_:j<k) (h':j<xs.length),q xs[j]=false):s8 q xs=k:=by
 have:xs.findIdx? q=some k:=by
  rw [Kk]
  exact ⟨hk,hx,fun j hj=>by rw [h j hj (by omega)];decide⟩
 rw [s8,this]
theorem mG {α:Type} {q:α→Bool} {xs:List α} (h: ∀j (h:j<xs.length),q xs[j]=false):s8 q xs = -1:=by
 have:xs.findIdx? q=none:=by
  rw [Kl]
  intro x hx
  obtain ⟨j,hj,rfl⟩:=List.getElem_of_mem hx
  exact h j hj
 rw [s8,this]
theorem pE {α:Type} (q:α→Bool) (xs:List α):decide (0≤s8 q xs)=xs.any q:=by
 unfold s8
 cases h:xs.findIdx? q with
 | none=>
  rw [Kl] at h
  simp only [show decide ((0:Int) ≤ -1)=false by decide]
  rw [eq_comm,List.any_eq_false]
  exact fun x hx=>by rw [h x hx];decide
 | some k=>
  rw [Kk] at h
  obtain ⟨h1,h2,_⟩:=h
  rw [decide_eq_true (by simp),eq_comm,List.any_eq_true]
  exact ⟨xs[k],KA _,h2⟩
theorem kL {α:Type} (p:α→Bool) (xs:List α):(!xs.any (fun x=> !p x))=xs.all p:=by
 induction xs with
 | nil=>rfl
 | cons x xs ih=>simp [←ih]
def gw (f:FuncId) (cap:List Value) (q:cQ→Bool) (w:World):Prop:= ∀(x:cQ) (k:Int) (s:ByteArray) (l:List Ex) (v:Value) (W:World),Below w.heap.size w W→x.ok→x.expr = .mk k s l→cm W l v →
 Calls Tryz.prog f (.agg #[.string x.aD, .string x.to, .bool x.path, .string x.label, .string x.name, .int .i64 k, .string s,v] :: cap).toArray W (fU W (.bool (q x)))
theorem gw.later {f:FuncId} {cap:List Value} {q:cQ→Bool} {w w':World} (h:gw f cap q w) (hb:Below w.heap.size w w'):gw f cap q w':=
 fun x k s l v W hW=>h x k s l v W (aa hb hW)
set_option maxRecDepth 100000 in
set_option maxHeartbeats 2000000 in
theorem wX (f:FuncId) (q:cQ→Bool) (B:Nat) (w:World) (hB:w.heap[B]? = some (.cells #[.func (.func f) #[] #[]] 70)) (hf:gw f [] q w)
  (hcf: ∀args w,(callFunc f args).run Tryz.prog w = .ok (.enter f args) w) :
  gw 84 [.pointer (some ⟨B,0,none⟩)] (fun x=> !q x) w:=by
 intro x k s l v W hW ho he hr
 have hbx:=(hW.block B (IY.1 hB).1).trans hB
 have hc0:=ag hbx 0
 have hlt:=(IY.1 hbx).1
 simp only [Jg,Kd] at hc0
 have HB:=Lib.hid (fun ob=>((Below.refl W.heap.size W).alloc (IV _) ob))
 have HC:=Lib.hid (fun W' (hb:Below W.heap.size W W')=>hf x k s l v W' (aa hW hb) ho he (hr.below hb))
 obtain ⟨pv,cv,rfl, -, -⟩:=hr.shape
 clear hf hB hbx hW ho he hr
 go_enter Tryz.func84,Tryz.ntmps84
 go_wp2_with fail
 refine (HC.out _ (HB.out _)).mono ?_
 rintro e w1 ⟨rfl,hb1⟩
 go_wp2_with fail
 go_ret
 exact aq rfl rfl (aa (HB.out _) hb1)
set_option maxRecDepth 100000 in
set_option maxHeartbeats 2000000 in
theorem rN (f:FuncId) (cap:List Value) (q:cQ→Bool) (xs:List cQ) (vx:Value) (w:World) (h1:cP w xs vx) (hok: ∀x,x∈xs→x.ok) (hf:gw f cap q w)
  (hcf: ∀args w,(callFunc f args).run Tryz.prog w = .ok (.enter f args) w) :
  Calls Tryz.prog 110 #[vx, .func (.func f) #[] cap.toArray] w (fU w (.int .i64 (s8 q xs))):=by
 obtain ⟨p,c,rfl,hc1,hc2⟩:=h1.shape
 unfold maxLen at hc2
 have H1:=Lib.hid h1;have HF:=Lib.hid hf;have HO:=Lib.hid hok
 clear h1 hf hok
 go_enter Tryz.func110,Tryz.ntmps110
 go_wp2_with fail
 go_loopw [4,8] (fun r i wr=>r = .int .i64 0∧ ∃k:Nat,k≤xs.length∧i = .int .i64 k∧Below w.heap.size w wr∧ ∀j (h:j<k) (h':j<xs.length),q xs[j]=false) (fun _ i _=>xs.length - (intOf i).toNat)
 case atStart=>exact ⟨rfl,0,Nat.zero_le _,rfl,Below.refl _ _,fun j h=>by omega⟩
 case round=>
  obtain ⟨rfl,k,hk,rfl,hb,hP⟩:=hrel
  have HP:=Lib.hid hP;clear hP
  by_cases hlt:k<xs.length
  ·obtain ⟨b1,o1,k1,s1,l1,v1,rfl,hx1,hr1,a0,a1,a2,a3,a4,a5,a6,a7⟩:=dv (bd hb H1.out) hlt
   have HC:=Lib.hid (HF.out xs[k] k1 s1 l1 v1 wr hb (HO.out _ (KA _)) hx1 hr1)
   clear hx1 hr1
   cases hs:q xs[k]
   ·rw [hs] at HC
    have HS:=Lib.hid hs;clear hs
    go_wp2_with fail
    refine HC.out.mono ?_
    rintro e w' ⟨rfl,hb'⟩
    go_wp2_with fail
    go_roundw
    case rel=>exact ⟨rfl,k+1,by omega,by go_num,aa hb hb',fun j h h'=>by
     by_cases e:j=k
     ·subst e;exact HS.out
     ·exact HP.out j (by omega) h'⟩
    case measure=>simp [intOf];omega
   ·rw [hs] at HC
    have HS:=Lib.hid hs;clear hs
    go_wp2_with fail
    refine HC.out.mono ?_
    rintro e w' ⟨rfl,hb'⟩
    go_wp2_with fail
    go_ret
    exact iz rfl (sX hlt HS.out HP.out).symm (aa hb hb')
  ·go_wp2_with fail
   go_ret
   exact iz rfl (mG (fun j h=>HP.out j (by omega) h)).symm hb
set_option maxRecDepth 100000 in
set_option maxHeartbeats 1000000 in
theorem nt (f:FuncId) (cap:List Value) (q:cQ→Bool) (xs:List cQ) (vx:Value) (w:World) (h1:cP w xs vx) (hok: ∀x,x∈xs→x.ok) (hf:gw f cap q w)
  (hcf: ∀args w,(callFunc f args).run Tryz.prog w = .ok (.enter f args) w) :
  Calls Tryz.prog 83 #[vx, .func (.func f) #[] cap.toArray] w (fU w (.bool (xs.any q))):=by
 have HC:=Lib.hid (rN f cap q xs vx w h1 hok hf hcf)
 clear h1 hf hok hcf
 rw [←pE]
 go_enter Tryz.func83,Tryz.ntmps83
 go_wp2_with fail
 refine HC.out.mono ?_
 rintro e w' ⟨rfl,hb'⟩
 go_wp2_with fail
 go_ret
 exact aq rfl rfl hb'
set_option maxRecDepth 100000 in
set_option maxHeartbeats 1000000 in
theorem AP (f:FuncId) (q:cQ→Bool) (xs:List cQ) (vx:Value) (w:World) (h1:cP w xs vx) (hok: ∀x,x∈xs→x.ok) (hf:gw f [] q w)
  (hcf: ∀args w,(callFunc f args).run Tryz.prog w = .ok (.enter f args) w) :
  Calls Tryz.prog 41 #[vx, .func (.func f) #[] #[]] w (fU w (.bool (xs.all q))):=by
 have hb:Below w.heap.size w (w.alloc (.cells #[.func (.func f) #[] #[]] 70)):=(Below.refl _ _).alloc (IV _) _
 have HC:=Lib.hid (nt 84 [.pointer (some ⟨w.heap.size,0,none⟩)] (fun x=> !q x) xs vx _ (bd hb h1) hok (wX f q w.heap.size _ (aX w _) (hf.later hb) hcf) (enters_of Tryz.func84 (by kernel_rfl) rfl))
 have HB:=Lib.hid hb
 clear h1 hf hok hcf hb
 rw [←kL]
 go_enter Tryz.func41,Tryz.ntmps41
 go_wp2_with fail
 refine HC.out.mono ?_
 rintro e w' ⟨rfl,hb'⟩
 go_wp2_with fail
 go_ret
 exact aq rfl rfl (aa HB.out hb')
def gh (f:FuncId) (cap:List Value) (q:ew→Bool) (w:World):Prop:= ∀(x:ew) (W:World),Below w.heap.size w W→x.ok →
 Calls Tryz.prog f (.agg #[.int .i64 x.op, .int .i64 x.left.kind, .string x.left.name, .string x.left.key, .int .i64 x.left.val.kind, .int .i64 x.left.val.num, .string x.left.val.text, .int .i64 x.right.kind, .string x.right.name, .string x.right.key, .int .i64 x.right.val.kind, .int .i64 x.right.val.num, .string x.right.val.text] :: cap).toArray W (fU W (.bool (q x)))
theorem gh.later {f:FuncId} {cap:List Value} {q:ew→Bool} {w w':World} (h:gh f cap q w) (hb:Below w.heap.size w w'):gh f cap q w':=
 fun x W hW=>h x W (aa hb hW)
set_option maxRecDepth 100000 in
set_option maxHeartbeats 2000000 in
theorem v9 (f:FuncId) (q:ew→Bool) (B:Nat) (w:World) (hB:w.heap[B]? = some (.cells #[.func (.func f) #[] #[]] 72)) (hf:gh f [] q w)
  (hcf: ∀args w,(callFunc f args).run Tryz.prog w = .ok (.enter f args) w) :
  gh 88 [.pointer (some ⟨B,0,none⟩)] (fun x=> !q x) w:=by
 intro x W hW ho
 have hbx:=(hW.block B (IY.1 hB).1).trans hB
 have hc0:=ag hbx 0
 have hlt:=(IY.1 hbx).1
 simp only [Jg,Kd] at hc0
 have HB:=Lib.hid (fun ob=>((Below.refl W.heap.size W).alloc (IV _) ob))
 have HC:=Lib.hid (fun W' (hb:Below W.heap.size W W')=>hf x W' (aa hW hb) ho)
 clear hf hB hbx hW ho
 go_enter Tryz.func88,Tryz.ntmps88
 go_wp2_with fail
 refine (HC.out _ (HB.out _)).mono ?_
 rintro e w1 ⟨rfl,hb1⟩
 go_wp2_with fail
 go_ret
 exact aq rfl rfl (aa (HB.out _) hb1)
set_option maxRecDepth 100000 in
set_option maxHeartbeats 2000000 in
theorem r7 (f:FuncId) (cap:List Value) (q:ew→Bool) (xs:List ew) (vx:Value) (w:World) (h1:ij w xs vx) (hok: ∀x,x∈xs→x.ok) (hf:gh f cap q w)
  (hcf: ∀args w,(callFunc f args).run Tryz.prog w = .ok (.enter f args) w) :
  Calls Tryz.prog 113 #[vx, .func (.func f) #[] cap.toArray] w (fU w (.int .i64 (s8 q xs))):=by
 obtain ⟨p,c,rfl,hc1,hc2⟩:=h1.shape
 unfold maxLen at hc2
 have H1:=Lib.hid h1;have HF:=Lib.hid hf;have HO:=Lib.hid hok
 clear h1 hf hok
 go_enter Tryz.func113,Tryz.ntmps113
 go_wp2_with fail
 go_loopw [4,8] (fun r i wr=>r = .int .i64 0∧ ∃k:Nat,k≤xs.length∧i = .int .i64 k∧Below w.heap.size w wr∧ ∀j (h:j<k) (h':j<xs.length),q xs[j]=false) (fun _ i _=>xs.length - (intOf i).toNat)
 case atStart=>exact ⟨rfl,0,Nat.zero_le _,rfl,Below.refl _ _,fun j h=>by omega⟩
 case round=>
  obtain ⟨rfl,k,hk,rfl,hb,hP⟩:=hrel
  have HP:=Lib.hid hP;clear hP
  by_cases hlt:k<xs.length
  ·obtain ⟨b1,o1,rfl,a0,a1,a2,a3,a4,a5,a6,a7,a8,a9,a10,a11,a12⟩:=iK (H1.out.below hb) hlt
   have HC:=Lib.hid (HF.out xs[k] wr hb (HO.out _ (KA _)))
   cases hs:q xs[k]
   ·rw [hs] at HC
    have HS:=Lib.hid hs;clear hs
    go_wp2_with fail
    refine HC.out.mono ?_
    rintro e w' ⟨rfl,hb'⟩
    go_wp2_with fail
    go_roundw
    case rel=>exact ⟨rfl,k+1,by omega,by go_num,aa hb hb',fun j h h'=>by
     by_cases e:j=k
     ·subst e;exact HS.out
     ·exact HP.out j (by omega) h'⟩
    case measure=>simp [intOf];omega
   ·rw [hs] at HC
    have HS:=Lib.hid hs;clear hs
    go_wp2_with fail
    refine HC.out.mono ?_
    rintro e w' ⟨rfl,hb'⟩
    go_wp2_with fail
    go_ret
    exact iz rfl (sX hlt HS.out HP.out).symm (aa hb hb')
  ·go_wp2_with fail
   go_ret
   exact iz rfl (mG (fun j h=>HP.out j (by omega) h)).symm hb
set_option maxRecDepth 100000 in
set_option maxHeartbeats 1000000 in
theorem nB (f:FuncId) (cap:List Value) (q:ew→Bool) (xs:List ew) (vx:Value) (w:World) (h1:ij w xs vx) (hok: ∀x,x∈xs→x.ok) (hf:gh f cap q w)
  (hcf: ∀args w,(callFunc f args).run Tryz.prog w = .ok (.enter f args) w) :
  Calls Tryz.prog 87 #[vx, .func (.func f) #[] cap.toArray] w (fU w (.bool (xs.any q))):=by
 have HC:=Lib.hid (r7 f cap q xs vx w h1 hok hf hcf)
 clear h1 hf hok hcf
 rw [←pE]
 go_enter Tryz.func87,Tryz.ntmps87
 go_wp2_with fail
 refine HC.out.mono ?_
 rintro e w' ⟨rfl,hb'⟩
 go_wp2_with fail
 go_ret
 exact aq rfl rfl hb'
set_option maxRecDepth 100000 in
set_option maxHeartbeats 1000000 in
theorem Ac (f:FuncId) (q:ew→Bool) (xs:List ew) (vx:Value) (w:World) (h1:ij w xs vx) (hok: ∀x,x∈xs→x.ok) (hf:gh f [] q w)
  (hcf: ∀args w,(callFunc f args).run Tryz.prog w = .ok (.enter f args) w) :
  Calls Tryz.prog 43 #[vx, .func (.func f) #[] #[]] w (fU w (.bool (xs.all q))):=by
 have hb:Below w.heap.size w (w.alloc (.cells #[.func (.func f) #[] #[]] 72)):=(Below.refl _ _).alloc (IV _) _
 have HC:=Lib.hid (nB 88 [.pointer (some ⟨w.heap.size,0,none⟩)] (fun x=> !q x) xs vx _ (h1.below hb) hok (v9 f q w.heap.size _ (aX w _) (hf.later hb) hcf) (enters_of Tryz.func88 (by kernel_rfl) rfl))
 have HB:=Lib.hid hb
 clear h1 hf hok hcf hb
 rw [←kL]
 go_enter Tryz.func43,Tryz.ntmps43
 go_wp2_with fail
 refine HC.out.mono ?_
 rintro e w' ⟨rfl,hb'⟩
 go_wp2_with fail
 go_ret
 exact aq rfl rfl (aa HB.out hb')
def gy (f:FuncId) (cap:List Value) (q:cg→Bool) (w:World):Prop:= ∀(x:cg) (W:World),Below w.heap.size w W→x.ok →
 Calls Tryz.prog f (.agg #[.int .i64 x.kind, .string x.name, .string x.key, .int .i64 x.val.kind, .int .i64 x.val.num, .string x.val.text] :: cap).toArray W (fU W (.bool (q x)))
theorem gy.later {f:FuncId} {cap:List Value} {q:cg→Bool} {w w':World} (h:gy f cap q w) (hb:Below w.heap.size w w'):gy f cap q w':=
 fun x W hW=>h x W (aa hb hW)
set_option maxRecDepth 100000 in
set_option maxHeartbeats 2000000 in
theorem wm (f:FuncId) (q:cg→Bool) (B:Nat) (w:World) (hB:w.heap[B]? = some (.cells #[.func (.func f) #[] #[]] 58)) (hf:gy f [] q w)
  (hcf: ∀args w,(callFunc f args).run Tryz.prog w = .ok (.enter f args) w) :
  gy 90 [.pointer (some ⟨B,0,none⟩)] (fun x=> !q x) w:=by
 intro x W hW ho
 have hbx:=(hW.block B (IY.1 hB).1).trans hB
 have hc0:=ag hbx 0
 have hlt:=(IY.1 hbx).1
 simp only [Jg,Kd] at hc0
 have HB:=Lib.hid (fun ob=>((Below.refl W.heap.size W).alloc (IV _) ob))
 have HC:=Lib.hid (fun W' (hb:Below W.heap.size W W')=>hf x W' (aa hW hb) ho)
 clear hf hB hbx hW ho
 go_enter Tryz.func90,Tryz.ntmps90
 go_wp2_with fail
 refine (HC.out _ (HB.out _)).mono ?_
 rintro e w1 ⟨rfl,hb1⟩
 go_wp2_with fail
 go_ret
 exact aq rfl rfl (aa (HB.out _) hb1)
set_option maxRecDepth 100000 in
set_option maxHeartbeats 2000000 in
theorem sm (f:FuncId) (cap:List Value) (q:cg→Bool) (xs:List cg) (vx:Value) (w:World) (h1:gG w xs vx) (hok: ∀x,x∈xs→x.ok) (hf:gy f cap q w)
  (hcf: ∀args w,(callFunc f args).run Tryz.prog w = .ok (.enter f args) w) :
  Calls Tryz.prog 114 #[vx, .func (.func f) #[] cap.toArray] w (fU w (.int .i64 (s8 q xs))):=by
 obtain ⟨p,c,rfl,hc1,hc2⟩:=h1.shape
 unfold maxLen at hc2
 have H1:=Lib.hid h1;have HF:=Lib.hid hf;have HO:=Lib.hid hok
 clear h1 hf hok
 go_enter Tryz.func114,Tryz.ntmps114
 go_wp2_with fail
 go_loopw [4,8] (fun r i wr=>r = .int .i64 0∧ ∃k:Nat,k≤xs.length∧i = .int .i64 k∧Below w.heap.size w wr∧ ∀j (h:j<k) (h':j<xs.length),q xs[j]=false) (fun _ i _=>xs.length - (intOf i).toNat)
 case atStart=>exact ⟨rfl,0,Nat.zero_le _,rfl,Below.refl _ _,fun j h=>by omega⟩
 case round=>
  obtain ⟨rfl,k,hk,rfl,hb,hP⟩:=hrel
  have HP:=Lib.hid hP;clear hP
  by_cases hlt:k<xs.length
  ·obtain ⟨b1,o1,rfl,a0,a1,a2,a3,a4,a5⟩:=iM (H1.out.below hb) hlt
   have HC:=Lib.hid (HF.out xs[k] wr hb (HO.out _ (KA _)))
   cases hs:q xs[k]
   ·rw [hs] at HC
    have HS:=Lib.hid hs;clear hs
    go_wp2_with fail
    refine HC.out.mono ?_
    rintro e w' ⟨rfl,hb'⟩
    go_wp2_with fail
    go_roundw
    case rel=>exact ⟨rfl,k+1,by omega,by go_num,aa hb hb',fun j h h'=>by
     by_cases e:j=k
     ·subst e;exact HS.out
     ·exact HP.out j (by omega) h'⟩
    case measure=>simp [intOf];omega
   ·rw [hs] at HC
    have HS:=Lib.hid hs;clear hs
    go_wp2_with fail
    refine HC.out.mono ?_
    rintro e w' ⟨rfl,hb'⟩
    go_wp2_with fail
    go_ret
    exact iz rfl (sX hlt HS.out HP.out).symm (aa hb hb')
  ·go_wp2_with fail
   go_ret
   exact iz rfl (mG (fun j h=>HP.out j (by omega) h)).symm hb
set_option maxRecDepth 100000 in
set_option maxHeartbeats 1000000 in
theorem np (f:FuncId) (cap:List Value) (q:cg→Bool) (xs:List cg) (vx:Value) (w:World) (h1:gG w xs vx) (hok: ∀x,x∈xs→x.ok) (hf:gy f cap q w)
  (hcf: ∀args w,(callFunc f args).run Tryz.prog w = .ok (.enter f args) w) :
  Calls Tryz.prog 89 #[vx, .func (.func f) #[] cap.toArray] w (fU w (.bool (xs.any q))):=by
 have HC:=Lib.hid (sm f cap q xs vx w h1 hok hf hcf)
 clear h1 hf hok hcf
 rw [←pE]
 go_enter Tryz.func89,Tryz.ntmps89
 go_wp2_with fail
 refine HC.out.mono ?_
 rintro e w' ⟨rfl,hb'⟩
 go_wp2_with fail
 go_ret
 exact aq rfl rfl hb'
set_option maxRecDepth 100000 in
set_option maxHeartbeats 1000000 in
theorem Bt (f:FuncId) (q:cg→Bool) (xs:List cg) (vx:Value) (w:World) (h1:gG w xs vx) (hok: ∀x,x∈xs→x.ok) (hf:gy f [] q w)
  (hcf: ∀args w,(callFunc f args).run Tryz.prog w = .ok (.enter f args) w) :
  Calls Tryz.prog 45 #[vx, .func (.func f) #[] #[]] w (fU w (.bool (xs.all q))):=by
 have hb:Below w.heap.size w (w.alloc (.cells #[.func (.func f) #[] #[]] 58)):=(Below.refl _ _).alloc (IV _) _
 have HC:=Lib.hid (np 90 [.pointer (some ⟨w.heap.size,0,none⟩)] (fun x=> !q x) xs vx _ (h1.below hb) hok (wm f q w.heap.size _ (aX w _) (hf.later hb) hcf) (enters_of Tryz.func90 (by kernel_rfl) rfl))
 have HB:=Lib.hid hb
 clear h1 hf hok hcf hb
 rw [←kL]
 go_enter Tryz.func45,Tryz.ntmps45
 go_wp2_with fail
 refine HC.out.mono ?_
 rintro e w' ⟨rfl,hb'⟩
 go_wp2_with fail
 go_ret
 exact aq rfl rfl (aa HB.out hb')
end Go.Proofs.YtldnlbcibmmbbaaGreat
