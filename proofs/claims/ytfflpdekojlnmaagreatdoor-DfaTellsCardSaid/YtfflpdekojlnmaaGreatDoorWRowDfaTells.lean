/- 'kinescopelaw09.DfaTells': for every input the call returns true and all read behind it as before. Three tables (two of math/bits, one of internal/strconv) are laid, and tied to the program's text. No condition beyond the row's own: the reading ends, and no text or slice that came in is longer than the form's reach. -/
import Derived.Test.YtfflpdekojlnmaaGreatDoorWOpenX
import Derived.Test.YtfflpdekojlnmaaGreatDoorWNew09
import Derived.Test.YtfflpdekojlnmaaGreatDoorWTellP
import Derived.StillTailTactics
import Derived.Test.YtfflpdekojlnmaaGreatDoorWFen
import Derived.Test.YtfflpdekojlnmaaGreatDoorWDfaA
import Derived.Test.YtfflpdekojlnmaaGreatDoorWRef02
import Derived.Test.YtfflpdekojlnmaaGreatDoorWAbsV
import Derived.Test.YtfflpdekojlnmaaGreatDoorWDrawL
import Derived.Test.YtfflpdekojlnmaaGreatDoorRows
import Derived.Test.YtfflpdekojlnmaaGreatDoorCards
import Derived.Test.YtfflpdekojlnmaaGreatDoorTie
import Derived.WalkKit
import Derived.ProofKit
import Derived.OpenShut
import Derived.Stop.Joined
import Derived.SevenTiedAt
import Derived.Carry
set_option linter.unusedSimpArgs false
set_option linter.unusedVariables false
set_option maxRecDepth 100000
set_option maxHeartbeats 16000000
open Array renaming getElem?_modify -> Vr, getElem?_eq_some_iff -> Uw, getElem?_eq_getElem -> UL
open List renaming getD_eq_getElem?_getD -> Vq, getElem?_append_left -> Uz, getElem?_append_right -> U2, nil_append -> Wt, map_cons -> Wy, map_nil -> WI, length_nil -> Ux, length_cons -> UD
open Bool renaming and_self -> WA, not_true -> Xt, not_false -> Xu
open Option renaming map_none -> Xs, map_some -> U5
open Option.some renaming inj -> Us
namespace Go.Proofs.YtfflpdekojlnmaaGreatDoor
open Go.RowKit
structure fe (b:Nat) (w w':World):Prop where
 os:w'.os=w.os
 tape:w'.tape=w.tape
 output:w'.output=w.output
 size:w.heap.size<=w'.heap.size
 same: ∀k,k<w.heap.size->k≠b->w'.heap[k]? = w.heap[k]?
theorem fe.refl (b:Nat) (w:World):fe b w w:=⟨rfl,rfl,rfl,Nat.le_refl _,fun _ _ _=>rfl⟩
theorem tT {w:World} {b k:Nat} {v:Value} {cur:Array Value} {T:TypeId} (h:w.heap[b]? = some (.cells cur T (0,0))):(w.setCell ⟨b,k,none⟩ v).heap[b]? = some (.cells (cur.setIfInBounds k v) T (0,0)):=by
 simp [World.setCell,Vr,h]
theorem fe.set {w0 w:World} {b k:Nat} {v:Value} (h:fe b w0 w):fe b w0 (w.setCell ⟨b,k,none⟩ v):=
 ⟨h.os,h.tape,h.output,by simpa [World.setCell] using h.size,fun j h1 h2=>by
  have:(w.setCell ⟨b,k,none⟩ v).heap[j]? = w.heap[j]? :=by
   simp only [World.setCell,Vr];rw [if_neg (fun e=>h2 e.symm)]
  exact this.trans (h.same j h1 h2)⟩
theorem wV {D:Nat->Prop} {nu:Nat->Nat->Value} {o:List (Option aa)} {w w':World} {id b:Nat} {ob:aa} (h:RO D nu o w) (ho:o[id]? = some (some ob)) (hb:cQ (nu id ob.hl)=some b) (hB:fe b w w') :
  bG nu o w nu (o.set id none) w'∧RO D nu (o.set id none) w':=by
 have hk:=cV (nu:=nu) (o:=o) (w:=w) id;have hm:bG nu o w nu (o.set id none) w':=⟨hB.os,hB.tape,hB.output,hB.size,hk.rm,fun k hlt hno=>⟨hB.same k hlt (fun e=>hno ⟨id,ob,ho,by rw [e];exact hb⟩),(hk.keep k hlt hno).2⟩⟩;refine ⟨hm, ?_,fun k hle=>h.up k (Nat.le_trans hB.size hle),fun i1 i2 b1 b2 b' k1 k2=>h.sep i1 i2 b1 b2 b' (ju k1).1 (ju k2).1,h.gl.mono hm (fun _ _ h=>h)⟩;intro id' ob' k1;obtain ⟨k2,k3⟩:=ju k1;have hne: ∀g,cQ (nu id' ob'.hl)=some g->g<w.heap.size->w'.heap[g]? = w.heap[g]? :=fun g hg hlt=>hB.same g hlt (fun e=>h.sep id id' ob ob' b ho k2 k3 hb (by rw [<-e];exact hg))
 rcases h.obj id' ob' k2 with e|⟨g,cur,hr⟩|⟨g,es,cl,hmp⟩
 ·exact .inl e
 ·exact .inr (.inl ⟨g,cur,(hne g hr.bA (Uw.1 hr.ew).1).trans hr.ew,hr.nj,hr.box,hr.vec,hr.z,hr.row,fun i j row c x q1 q2 q3=>(hr.cell i j row c x q1 q2 q3).mono hm (fun _ _ h=>h),hr.one⟩)
 ·exact .inr (.inr ⟨g,es,cl,hmp.tr (hne g hmp.bA (Uw.1 hmp.ew).1) (fun h=>h) rfl (fun i j row c x _ _ hr=>hr.mono hm (fun _ _ h=>h))⟩)
theorem fe.below {b:Nat} {w w1 w2:World} (h:fe b w w1) (hb:Below w1.heap.size w1 w2):fe b w w2:=
 ⟨hb.os.trans h.os,hb.tape.trans h.tape,hb.output.trans h.output,Nat.le_trans h.size hb.size,fun k hk hne=>(hb.block k (Nat.lt_of_lt_of_le hk h.size)).trans (h.same k hk hne)⟩
theorem Bp {P:Program} {src dst e:TypeId} (hs:P.underlying src=some (.slice e)) (he:P.underlying e=some (.int .u8)) (hd:P.underlying dst=some .string) (W:World) (b n:Nat) (ns:List Int) (T:TypeId) (hn:ns.length=n) (h:W.heap[b]? = some (.cells (ns.map (Value.int .u8)).toArray T (0,0))): ∃s,(convert src dst (.slice (some ⟨b,0,none⟩) n n)).run P W = .ok (.string s) W:=by
 subst hn
 have hl:=run_loadCells_list (P:=P) W ⟨b,0,none⟩ (ns.map (Value.int .u8)) (fun j v hj=>by
  have e:(⟨b,0,none⟩:Addr).add j=⟨b,j,none⟩:=by cases j<;>simp [Addr.add]
  rw [e]
  simpa [World.cell?,h] using hj)
 simp only [List.length_map] at hl;rw [run_convert_bytes_string W src dst e _ _ _ hs he hd,run_bytesToString W _ ns.length ns.length ns hl];exact ⟨_,rfl⟩
theorem BU (i:Nat) (hi:i<=2000000) (w:World):Calls Tryz.prog 40 #[.int .i64 2, .int .i64 i] w (fun e w'=>(∃s,e = .returned (.string s))∧Below w.heap.size w w'):=by
 have HB:=Lib.hid (fun ob=>((Below.refl w.heap.size w).alloc (Nat.le_refl _) ob));have HK:=Lib.hid (fun (a b c:Int)=>Bp (P:=Tryz.prog) (src:=122) (dst:=9) (e:=5) (by kernel_rfl) (by kernel_rfl) (by kernel_rfl) (w.alloc (.cells #[.int .u8 35, .int .u8 2, .int .u8 0, .int .u8 0, .int .u8 47, .int .u8 a, .int .u8 b, .int .u8 c] 5)) w.heap.size 8 [35,2,0,0,47,a,b,c] 5 rfl (Array.getElem?_push_size))
 go_enter Tryz.func40,Tryz.ntmps40
 go_wp2_with fail
 obtain ⟨s,es⟩:=HK.out ((i:Int) % 256) ((i:Int) / 256 % 256) ((i:Int) / 65536);rw [es]
 go_wp2_with fail
 go_ret
 exact ⟨⟨_,rfl⟩,HB.out _⟩
theorem zQ (w:World) {b n cap:Nat} {cur:Array Value} {T:TypeId} (hblk:w.heap[b]? = some (.cells cur T (0,0))) (hn:n<=cap) (hc:cap<=maxLen) (hs:cur.size=cap) (hn6:n<=1000000) :
  Calls Tryz.prog 20 #[.slice (some ⟨b,0,none⟩) n cap] w (fun e w'=>e = .returned (.tuple #[])∧fe b w w'):=by
 unfold maxLen at hc
 go_enter Tryz.func20,Tryz.ntmps20
 have HM:=Lib.hid (fun (k:Nat) (hk:k<=2000000) (W:World)=>BU k hk W)
 by_cases hle:cap<=n+12
 ·go_wp2_with fail
  go_loopw [3] (fun i wr=> ∃(k:Nat) (cur':Array Value),k<=cap∧i = .int .i64 k∧wr.heap[b]? = some (.cells cur' T (0,0))∧cur'.size=cap∧fe b w wr) (fun i _=>cap - (intOf i).toNat)
  case atStart=>exact ⟨0,cur,Nat.zero_le _,rfl,hblk,hs, .refl _ _⟩
  case round=>
   obtain ⟨k,cur',hk,rfl,hb',hs',hB⟩:=hrel;have HB:=Lib.hid hB;clear hB
   by_cases hlt:k<cap
   ·have hcell:wr.cell? ⟨b,k,none⟩=some (cur'[k]'(by omega)):=by simp [World.cell?,hb',UL (show k<cur'.size by omega)]
    have hfro:wr.frozen? ⟨b,k,none⟩=false:=by simp [World.frozen?,hb']
    have hbl:=(Uw.1 hb').1;clear hcell hfro
    go_wp2_with fail
    refine (HM.out k (by omega) wr).mono ?_;rintro e w' ⟨⟨s,rfl⟩,hbw⟩;have hb2:w'.heap[b]? = some (.cells cur' T (0,0)):=(hbw.block b hbl).trans hb'
    have hcell:w'.cell? ⟨b,k,none⟩=some (cur'[k]'(by omega)):=by simp [World.cell?,hb2,UL (show k<cur'.size by omega)]
    have hfro:w'.frozen? ⟨b,k,none⟩=false:=by simp [World.frozen?,hb2]
    have HB2:=Lib.hid (HB.out.below hbw);clear hbw
    go_wp2_with fail
    go_roundw
    case rel=>exact ⟨k+1,_,by omega,by go_num,tT hb2,by simpa using hs',HB2.out.set⟩
    case measure=>simp [intOf];omega
   ·go_wp2_with fail
    exact bodyPost_end (results_none rfl _ _ _) rfl ⟨rfl,HB.out⟩
 ·go_wp2_with fail
  go_loopw [3] (fun i wr=> ∃(k:Nat) (cur':Array Value),k<=n+12∧i = .int .i64 k∧wr.heap[b]? = some (.cells cur' T (0,0))∧cur'.size=cap∧fe b w wr) (fun i _=>n+12 - (intOf i).toNat)
  case atStart=>exact ⟨0,cur,Nat.zero_le _,rfl,hblk,hs, .refl _ _⟩
  case round=>
   obtain ⟨k,cur',hk,rfl,hb',hs',hB⟩:=hrel;have HB:=Lib.hid hB;clear hB
   by_cases hlt:k<n+12
   ·have hcell:wr.cell? ⟨b,k,none⟩=some (cur'[k]'(by omega)):=by simp [World.cell?,hb',UL (show k<cur'.size by omega)]
    have hfro:wr.frozen? ⟨b,k,none⟩=false:=by simp [World.frozen?,hb']
    have hbl:=(Uw.1 hb').1;clear hcell hfro
    go_wp2_with fail
    refine (HM.out k (by omega) wr).mono ?_;rintro e w' ⟨⟨s,rfl⟩,hbw⟩;have hb2:w'.heap[b]? = some (.cells cur' T (0,0)):=(hbw.block b hbl).trans hb'
    have hcell:w'.cell? ⟨b,k,none⟩=some (cur'[k]'(by omega)):=by simp [World.cell?,hb2,UL (show k<cur'.size by omega)]
    have hfro:w'.frozen? ⟨b,k,none⟩=false:=by simp [World.frozen?,hb2]
    have HB2:=Lib.hid (HB.out.below hbw);clear hbw
    go_wp2_with fail
    go_roundw
    case rel=>exact ⟨k+1,_,by omega,by go_num,tT hb2,by simpa using hs',HB2.out.set⟩
    case measure=>simp [intOf];omega
   ·go_wp2_with fail
    exact bodyPost_end (results_none rfl _ _ _) rfl ⟨rfl,HB.out⟩
theorem zP (w:World):Calls Tryz.prog 20 #[.slice none 0 0] w (fun e w'=>e = .returned (.tuple #[])∧w'=w):=by
 go_enter Tryz.func20,Tryz.ntmps20
 go_wp2_with fail
 go_loop [3] (fun i=>i = .int .i64 0) (fun i=>0)
 case atStart=>rfl
 case round=>
  subst hrel
  go_wp2_with fail
  exact bodyPost_end (results_none rfl _ _ _) rfl ⟨rfl,rfl⟩
theorem zO (T:TypeId) (rows:List (List AV)) {n:Nat} (hn:n<=1000000) (hl:rows.length=n):c7 Tryz.prog 20 [.vec 0 n] [some ⟨T,1,true,rows⟩] (.cI []) [none]:=by
 refine ⟨by kernel_rfl,fun D nu w vargs hro hra=> ?_⟩;obtain ⟨hlen,hat⟩:=hra
 obtain ⟨x,rfl⟩: ∃x,vargs = #[x]:=by
  obtain ⟨l⟩:=vargs
  match l,hlen with
  | [x],_=>exact ⟨x,rfl⟩
 have hx:x=nu 0 n:=by
  have:=hat 0 _ x rfl rfl
  cases this with
  | vec=>rfl
 subst hx
 have hh:aa.hl ⟨T,1,true,rows⟩=n:=by simp [aa.hl,hl]
 rcases hro.obj 0 _ rfl with ⟨_,e2,e3⟩|⟨g,cur,hb⟩|⟨g,es,cl,hmp⟩
 ·simp only at e2
  obtain rfl:n=0:=by rw [<-hl,e2];rfl
  rw [e3];refine (zP w).mono ?_;rintro e w' ⟨rfl,rfl⟩;exact ⟨_,nu,[none], .cI [],rfl,cV (o:=[some _]) 0,kY hro 0, .cI _ _ rfl (fun i c x h=>by simp at h),rfl,rfl⟩
 ·obtain ⟨cap,q1,q2,q3,q4⟩:=hb.vec rfl;simp only [hl,Nat.mul_one] at q1 q2 q4;rw [q1];refine (zQ w hb.ew q2 q3 q4 hn).mono ?_;rintro e w' ⟨rfl,hB⟩;obtain ⟨m1,m2⟩:=wV hro rfl hb.bA hB;exact ⟨_,nu,[none], .cI [],rfl,m1,m2, .cI _ _ rfl (fun i c x h=>by simp at h),rfl,rfl⟩
 ·have:=hmp.fY;cases this
theorem tR (x y:Ex):ar Tryz.prog 45 [.agg (aN x), .agg (aN y)] (.v (.bool (fW x y))):=
 .xN (by kernel_rfl) (by simp only [aV,AV.wf,dA,Bool.and_self]) (fun D nu w vargs h=>by
  obtain ⟨a,b,rfl,ha,hb⟩:=xQ h;obtain ⟨ca,rfl,ka⟩:=xP ha;obtain ⟨cb,rfl,kb⟩:=xP hb
  exact xZ x y ca cb w (xV x ca ka) (xV y cb kb))
theorem qJ (x:Ex):fW x x=true:=(EM x x).2 rfl
theorem HY {α:Type} (f:α->List AV) (l:List α) (m:List (List AV)) (i:Nat) (h:i<l.length):(l.map f++m).getD i []=f l[i]:=by
 rw [Vq,Uz (by simpa using h)];simp [h]
theorem zD (f:Nat->List AV): ∀n i,i<n->(mn f n)[i]? = some (f i)
 | 0,i,h=>absurd h (by omega)
 | n+1,i,h=>by
  rw [mn]
  rcases Nat.lt_or_ge i n with q|q
  ·rw [Uz (by rw [mo];exact q)];exact zD f n i q
  ·obtain rfl:i=n:=by omega
   rw [U2 (by rw [mo];exact Nat.le_refl _),mo];simp
theorem K7 {α:Type} (f:α->List AV) (l:List α) (m:Nat->List AV) (j:Nat) (h:j<12):(l.map f++marksOf m).getD (l.length+j) []=m j:=by
 rw [Vq,U2 (by simp),List.length_map,Nat.add_sub_cancel_left,marksOf,zD m 12 j h];rfl
def S9 (i:Nat):Ex:= .mk ((8000024+i:Nat):Int) ⟨#[]⟩ []
theorem xv (l:List Ex) (hl:l.length<=1000000) (H: ∀x,x∈l->ar Tryz.prog 18 [.agg (cL x), .agg (aN x)] (.v (.bool true))) :
  ar Tryz.prog 46 [.aC 3 (l.map cL++marksOf dI) l.length, .aC 3 (l.map aN) l.length] (.v (.bool true)):=by
 have e1:IntKind.i64.wrap ((l.length:Int)+12)=((l.length+12:Nat):Int):=OL hl;refine gE Tryz.func46 Tryz.ntmps46 Tryz.results46 ?_
 repeat (first|(with_reducible first|refine aA.up ?_|refine fun (K:AK) hK=> ?_|refine wD ?_|(refine hK _ ?_;clear hK K))|simp only [go_sem,e1]|with_reducible refine wA ?_|clear hK K)
 refine cq (ι:=Nat) (fun i=>[(0, .aC 3 (l.map cL++marksOf dI) l.length),(1, .aC 3 (l.map aN) l.length),(4, .v (.bool false)),(5, .aC 3 (l.map cL++marksOf dI) (l.length+12)),(6, .v (.int .i64 i))]) (fun _=>[]) (fun i=>l.length+12 - i) (fun i=>i<=l.length+12) 0 (by omega) ?_ ?_
 ·refine bo ?_ aj
  rfl
 ·intro i hi K hK;simp only [gq,List.foldl_cons,List.foldl_nil,List.replicate_succ,List.replicate_zero,go_sem]
  (revert K;revert K;refine ez ?_;intro K hK K hK K hK)
  refine bH.part (fun h=> ?_) (fun h=> ?_)
  ·have hlt:i<l.length+12:=by replace h:=bI h;omega
   have eW:=ak (k:=i) (by omega)
   rcases Nat.lt_or_ge i l.length with q|q
   ·have g1:decide ((i:Int)<(l.length:Int))=true:=by simpa using q
    have g2:decide ((l.length:Int)<=(i:Int))=false:=by simpa using q
    have eG:=HY cL l (marksOf dI) i q;have eH:=getD_map aN l i [] q;have HX:=H l[i] (List.getElem_mem q);simp only [aD,jv] at HX eG eH
    repeat (first|(with_reducible first|refine aA.up ?_|refine fun (K:AK) hK=> ?_|refine wD ?_|(refine hK _ ?_;clear hK K))|simp only [go_sem,g1,g2,eG,eH]|with_reducible refine wA ?_|clear hK K)
    refine bj.one HX ?_
    ((iterate 5 revert K);refine NJ g1 g2 eW ?_)
    exact az.mk (i+1) (by omega) (by omega) (by exact aR aj)
   ·obtain ⟨j,hj⟩: ∃j,i=l.length+j:=⟨i - l.length,by omega⟩;have g1:decide ((i:Int)<(l.length:Int))=false:=decide_eq_false (by omega);have g2:decide ((l.length:Int)<=(i:Int))=true:=decide_eq_true (by omega)
    have eS:IntKind.i64.wrap ((i:Int) - (l.length:Int))=(j:Int):=by rw [cF (by omega) (by omega)];omega
    have eG:(l.map cL++marksOf dI).getD i []=dI j:=by rw [hj];exact K7 cL l dI j (by omega)
    have M:=te j (by omega);have S:=(tR (S9 j) (S9 j)).le (args':=[.agg (dI j), .agg (dI j)]) rfl (.cons (zw j).agg (.cons (zw j).agg .nil));rw [qJ] at S;simp only [dI,IC] at M S eG
    repeat (first|(with_reducible first|refine aA.up ?_|refine fun (K:AK) hK=> ?_|refine wD ?_|(refine hK _ ?_;clear hK K))|simp only [go_sem,g1,g2,eG,eS,eW,Go.undef]|with_reducible refine wA ?_|clear hK K)
    refine bj.one M ?_
    ((iterate 5 revert K);refine Hr g1 g2 eG eS eW ?_;iterate 5 intro K hK)
    refine bj.one S ?_
    ((iterate 5 revert K);refine Hr g1 g2 eG eS eW ?_)
    exact az.mk (i+1) (by omega) (by omega) (by exact aR aj)
  ·((iterate 3 revert K);exact MM)
theorem BN (x:Ex) (hx:x.lens 1000000):ar Tryz.prog 18 [.agg (cL x), .agg (aN x)] (.v (.bool true)):=by
 induction x using Ex.ind with
 | h k s l ih=>
  have hk: ∀y,y∈l->y.lens 1000000:=fun y hy z hz=>hx z (by rw [ah,bf];exact List.mem_cons_of_mem _ (List.mem_flatMap.2 ⟨y,hy,hz⟩));have C:=xv l (hx (.mk k s l) (by rw [ah];exact List.mem_cons_self)) (fun y hy=>ih y hy (hk y hy));have S:=(tR (.mk k s l) (.mk k s l)).le (args':=[.agg (cL (.mk k s l)), .agg (aN (.mk k s l))]) (by simp only [aV,AV.wf,nf,dA,Bool.and_self]) (.cons (zu _).agg (.cons (.refl _) .nil));rw [qJ] at S;rw [aD,jv] at S ⊢;simp only [Ex.kind,Ex.label,Ex.kids] at S ⊢;refine gE Tryz.func18 Tryz.ntmps18 Tryz.results18 ?_
  (refine aw ?_;intro K hK K hK)
  refine ab.one S ?_
  (revert K;revert K;refine aw ?_;intro K hK K hK)
  refine ab.one C ?_
  (revert K;revert K;exact vj)
section
theorem Jq (l:List ByteArray):jE cw l l=true:=(wP l l (fun x _ y=>iJ)).2 rfl
theorem EG (A:pJ) (hl:A.labs.length<=1000000) (hne:A.labs≠[]):c7 Tryz.prog 19 [.vp (de A)] [] (.vec 0 A.labs.length) [some ⟨9,1,true,A.labs.map encS⟩]:=by
 have C:=ME A.labs hl hne;have hR: ∀f,cv f (A.labs.map encS)=A.labs.map encS:=fun f=>dy f _ (a7 0 _);simp only [de,gV,ba,List.cons_append,Wt] at *;refine gF Tryz.func19 Tryz.ntmps19 Tryz.results19 ?_
 (refine aw ?_;intro K hK K hK)
 refine ab.fr [] C (by simp) rfl (by simp only [bM,AV.bb,hR]) (by simp only [aV,AV.wf,a7,WA]) (fun k ob hk=>by simp at hk) ?_;simp only [AV.bb,sig,ej,Wy,WI,Xs,U5,aa.bb,hR,Ux,Wt,Nat.not_lt_zero,if_false,Nat.sub_zero,Nat.zero_add]
 (revert K;revert K;refine aw ?_)
 (refine ⟨?_, ?_, ?_⟩<;>simp only [di,j7,AV.v.injEq,Value.int.injEq,Value.bool.injEq,Value.string.injEq,AV.vec.injEq,AV.ptr.injEq,true_or,or_true,false_or,or_false,aa.mk.injEq,forall_eq_apply_imp_iff,forall_eq,forall_eq',go_sem])
theorem Fl {A:pJ} (LO:Nf A) (st:Int) (l:ByteArray):ar Tryz.prog 21 [.vp (de A), .vp (ou A), .v (.int .i64 st), .v (.string l)] (.v (.bool true)):=by
 have hfew:=LO.PZ;have hmax:=LO.max;have C1:=nN A;have C2:=EF A (by omega);have C3:=Ah A.labs A.labs;rw [Jq] at C3;have C4:=fun s=>sd A LO.ends s;have C5:=fun s=>Ji LO.ends s;have C6:=fun s l=>ri A s l;have C7:=fun s l=>LZ LO s l
 have eLA:(da (A.rows.map (fh A.labs))).length=A.rows.length:=by rw [dN,List.length_map]
 have tA:(A.labs.map encS).take A.labs.length=A.labs.map encS:=List.take_of_length_le (by simp);have wn: ∀m,aV m (de A)=true:=fun m=>mD m A;have wf1:=jW 0 (A.rows.map (fh A.labs));generalize hnv:de A=nv at *;simp only [ou,ba] at C3 C2 C5 C7 ⊢;simp only [stepT] at C6 C7
 (refine ar.enter Tryz.func21 rfl (by kernel_rfl) (by kernel_rfl) rfl (by simp only [go_sem,aV,AV.wf,WA,Bool.and_true,Bool.true_and,wn]) (by simp only [go_sem,aV,AV.wf,a7,WA,Bool.and_true,Bool.true_and,wn]) ?_;simp only [Tryz.ntmps21,Tryz.results21,UD,Ux,Nat.reduceAdd,Nat.reduceSub,List.replicate_succ,List.replicate_zero,List.cons_append,Wt])
 repeat (first|(with_reducible first|refine aA.up ?_|refine fun (K:AK) hK=> ?_|refine wD ?_|(refine hK _ ?_;clear hK K))|simp only [go_sem,bne_self_eq_false,Go.undef]|with_reducible refine wA ?_|clear hK K)
 refine bj.one C1 ?_
 repeat (first|(with_reducible first|refine aA.up ?_|refine fun (K:AK) hK=> ?_|refine wD ?_|(refine hK _ ?_;clear hK K))|simp only [go_sem,bne_self_eq_false,beq_self_eq_true,Xt,Xu,Go.undef]|with_reducible refine wA ?_|clear hK K)
 refine bj.one C2 ?_
 repeat (first|(with_reducible first|refine aA.up ?_|refine fun (K:AK) hK=> ?_|refine wD ?_|(refine hK _ ?_;clear hK K))|simp only [go_sem,bne_self_eq_false,beq_self_eq_true,Xt,Xu,Go.undef]|with_reducible refine wA ?_|clear hK K)
 refine bj.one C3 ?_
 repeat (first|(with_reducible first|refine aA.up ?_|refine fun (K:AK) hK=> ?_|refine wD ?_|(refine hK _ ?_;clear hK K))|simp only [go_sem,bne_self_eq_false,beq_self_eq_true,Xt,Xu,Go.undef]|with_reducible refine wA ?_|clear hK K)
 refine bj.one (C4 st) ?_
 repeat (first|(with_reducible first|refine aA.up ?_|refine fun (K:AK) hK=> ?_|refine wD ?_|(refine hK _ ?_;clear hK K))|simp only [go_sem,bne_self_eq_false,beq_self_eq_true,Xt,Xu,Go.undef]|with_reducible refine wA ?_|clear hK K)
 refine bj.one (C5 st) ?_
 repeat ((fail_if_success (with_reducible refine bF (i:=4) ?_));first|(with_reducible first|refine aA.up ?_|refine fun (K:AK) hK=> ?_|(refine hK _ ?_;clear hK K))|simp only [go_sem,bne_self_eq_false,beq_self_eq_true,Xt,Xu,Go.undef,tA]|with_reducible refine wA ?_|clear hK K)
 have eAll:[AV.v (.string l)] :: A.labs.map encS=(l :: A.labs).map encS:=rfl
 have lAll:1+A.labs.length=(l :: A.labs).length:=by rw [UD];omega
 simp only [eAll,lAll];refine bc (gT 9 0 rfl rfl rfl (List.length_map _)) (by kernel_rfl) ?_;simp only [List.set_cons_zero,List.set_cons_succ];generalize hall:l :: A.labs=all at *
 have lal:all.length<=100:=by rw [<-hall,UD];omega
 (revert K;revert K;refine ez ?_;intro K hK)
 refine bz (ι:=Nat) 17 (fun j=>[(10, .v (.int .i64 ((j:Int) - 1))),(11, .undef),(12, .undef),(13, .undef),(14, .undef),(15, .undef),(16, .undef)]) (fun j=>A.rows.length+2 - j) (fun j=>j<=A.rows.length+2) 0 (Nat.zero_le _) ?_ ?_
 ·refine bo ?_ aj
  all_goals first|exact wn _|exact ⟨wn _,rfl⟩|trace_state
 ·intro j hj K hK
  have eW:IntKind.i64.wrap (((j:Int) - 1)+1)=(((j+1:Nat):Int) - 1):=by rw [cF (by omega) (by omega)];omega
  (revert K;revert K;refine ez ?_;intro K hK K hK K hK)
  refine bH.part (fun h=> ?_) (fun h=> ?_)
  ·have hlt:j<A.rows.length+2:=by replace h:=bI h;omega
   repeat ((fail_if_success (with_reducible refine Qv (i:=8) ?_));first|(with_reducible first|refine aA.up ?_|refine fun (K:AK) hK=> ?_|(refine hK _ ?_;clear hK K))|simp only [go_sem]|with_reducible refine wA ?_|clear hK K)
   obtain ⟨at',hat⟩: ∃at':Int,at'=if j=0 then st else (j:Int) - 1:=⟨_,rfl⟩
   refine yG ⟨gq 107 [(0, .vp nv),(1, .vp [.aC 1 (A.labs.map encS) A.labs.length, .aC 1 (da (A.rows.map (fh A.labs))) A.rows.length, .aC 1 (cG A.ends) A.rows.length]),(2, .v (.int .i64 st)),(3, .v (.string l)),(8, .v (.bool false)),(9, .aC 1 (all.map encS) all.length),(10, .v (.int .i64 ((j:Int) - 1))),(11, .v (.int .i64 at'))],[none], .no⟩ (by kernel_rfl) (by kernel_rfl) ?_ ?_
   ·by_cases hj0:j=0
    ·have d1:decide (((j:Int) - 1)<0)=true:=decide_eq_true (by omega);rw [if_pos hj0] at hat;rw [hat]
     ((iterate 3 revert K);refine ve d1 ?_)
     refine bo ?_ aj
     all_goals first|exact wn _|exact ⟨wn _,rfl⟩|trace_state
    ·have d1:decide (((j:Int) - 1)<0)=false:=decide_eq_false (by omega);rw [if_neg hj0] at hat;rw [hat]
     ((iterate 3 revert K);refine ve d1 ?_)
     refine bo ?_ aj
     all_goals first|exact wn _|exact ⟨wn _,rfl⟩|trace_state
   ·simp only [gq,List.foldl_cons,List.foldl_nil,List.replicate_succ,List.replicate_zero,go_sem];clear hat
    ((iterate 3 revert K);refine ez ?_;intro K hK K hK K hK)
    refine bz (ι:=Nat) 17 (fun k=>[(12, .v (.int .i64 k)),(13, .undef),(14, .undef),(15, .undef),(16, .undef)]) (fun k=>all.length - k) (fun k=>k<=all.length) 0 (Nat.zero_le _) ?_ ?_
    ·refine bo ?_ aj
     all_goals first|exact wn _|exact ⟨wn _,rfl⟩|trace_state
    ·intro k hk K hK;have eWk:=ak (k:=k) (by omega)
     ((iterate 4 revert K);refine ez ?_;iterate 5 intro K hK)
     refine bH.part (fun h2=> ?_) (fun h2=> ?_)
     ·have hkl:k<all.length:=by replace h2:=bI h2;omega
      have eG:=getD_map encS all k [] hkl;simp only [encS] at eG
      repeat (first|(with_reducible first|refine aA.up ?_|refine fun (K:AK) hK=> ?_|refine wD ?_|(refine hK _ ?_;clear hK K))|simp only [go_sem,h2,eG]|with_reducible refine wA ?_|clear hK K)
      refine ab.one (C6 at' all[k]) ?_
      repeat (first|(with_reducible first|refine aA.up ?_|refine fun (K:AK) hK=> ?_|refine wD ?_|(refine hK _ ?_;clear hK K))|simp only [go_sem,h2,eG]|with_reducible refine wA ?_|clear hK K)
      refine ab.one (C7 at' all[k]) ?_
      repeat (first|(with_reducible first|refine aA.up ?_|refine fun (K:AK) hK=> ?_|refine wD ?_|(refine hK _ ?_;clear hK K))|simp only [go_sem,bne_self_eq_false,beq_self_eq_true,Xt,Xu,Go.undef]|with_reducible refine wA ?_|clear hK K)
      refine ab.one (C4 at') ?_
      repeat (first|(with_reducible first|refine aA.up ?_|refine fun (K:AK) hK=> ?_|refine wD ?_|(refine hK _ ?_;clear hK K))|simp only [go_sem,bne_self_eq_false,beq_self_eq_true,Xt,Xu,Go.undef]|with_reducible refine wA ?_|clear hK K)
      refine ab.one (C5 at') ?_
      repeat (first|(with_reducible first|refine aA.up ?_|refine fun (K:AK) hK=> ?_|refine wD ?_|(refine hK _ ?_;clear hK K))|simp only [go_sem,bne_self_eq_false,beq_self_eq_true,Xt,Xu,Go.undef]|with_reducible refine wA ?_|clear hK K)
      refine ve eWk ?_;exact az.mk (k+1) hkl (by omega) (by refine bo ?_ aj;exact wn _)
     ·((iterate 5 revert K);refine ez ?_)
      refine ve eW ?_;refine az.mk (j+1) hlt (by omega) ?_;refine bo ?_ aj
      all_goals first|exact wn _|exact ⟨wn _,rfl⟩|trace_state
  ·((iterate 3 revert K);exact MM)
theorem El {x:Ex} {labs:List ByteArray} {e:Int} (h:jq x labs = .inr e):e=2∨e=11:=by
 unfold jq at h
 split at h
 ·split at h
  ·split at h
   ·cases h;exact .inr rfl
   ·cases h
  ·cases h;exact .inr rfl
 ·cases h;exact .inl rfl
theorem Lk {x:Ex} (hr:ay x=true):bT x≠[]:=by
 obtain ⟨f,hf⟩:=sD (dC hr).1 0;have h2:=fA x hf;intro e
 have hl:0<(aB x).length:=by omega
 have:(aB x)[0]∈bT x:=kC.2 (List.getElem_mem hl)
 rw [e] at this;cases this
theorem uD (x:Ex) (st:Int) (l:ByteArray) (ko:x.ok):ar Tryz.prog 4 [.agg (aN x), .v (.int .i64 st), .v (.string l)] (.v (.bool true)):=by
 have W:=Eo;have N0:=xa x ko;have Z:=Fm x 0 (by omega)
 rcases Bool.eq_false_or_eq_true (decide (300<((sX x 0:Nat):Int))) with hz|hz
 ·simp only [aD] at Z ⊢;refine gE Tryz.func4 Tryz.ntmps4 Tryz.results4 ?_
  (refine bq ?_;intro K hK K hK K hK)
  refine ab.one Z ?_
  ((iterate 3 revert K);refine lE hz ?_;intro K hK K hK K hK)
  refine ab.one W ?_
  ((iterate 3 revert K);exact vn)
 obtain ⟨p1,p2⟩:=Aj ko (by have:=of_decide_eq_false hz;omega);have M:=LF x p1 p2;have hlens:=KY (n:=1000000) p1;have L:=BT x hlens;have KE:=BN x hlens;have N:=N0.le (args':=[.agg (cL x)]) (by simp only [aV,AV.wf,nf,WA]) (.cons (zu x).agg .nil);rw [xK] at N;rw [Fu] at M
 cases hA:jq x (bT x) with
 | inr e=>
  have he:=El hA;rw [hA] at N M;simp only at N M
  have d1:(e !=0)=true:=by rcases he with rfl|rfl<;>rfl
  simp only [aD,jv] at N Z M L KE ⊢;refine gE Tryz.func4 Tryz.ntmps4 Tryz.results4 ?_
  (refine bq ?_;intro K hK K hK K hK)
  refine ab.one Z ?_
  ((iterate 3 revert K);refine lE hz ?_;intro K hK K hK)
  refine ab.one L ?_
  (revert K;revert K;refine lE hz ?_;intro K hK K hK)
  refine ab.one N ?_
  (revert K;revert K;refine lE hz ?_;intro K hK K hK)
  refine ab.one M ?_
  repeat (first|(with_reducible first|refine aA.up ?_|refine fun (K:AK) hK=> ?_|(refine hK _ ?_;clear hK K))|simp only [go_sem,hz,d1,bne_self_eq_false,beq_self_eq_true,Xt,Xu,Go.undef]|clear hK K)
  refine ab.one KE ?_
  ((iterate 3 revert K);refine lE hz ?_;intro K hK K hK K hK)
  refine ab.one W ?_
  ((iterate 3 revert K);exact MN hz)
 | inl A=>
  obtain ⟨hr,hlb,_,LO⟩:=wU hA;rw [hA] at N M;simp only at N M
  have hne:A.labs≠[]:=by rw [hlb];exact Lk hr
  have hfew:=LO.PZ;have F1:=EG A (by omega) hne;have LS:=Fl LO st l;have OV:=zO 9 (A.labs.map encS) (n:=A.labs.length) (by omega) (by simp);have hR: ∀f,cv f (A.labs.map encS)=A.labs.map encS:=fun f=>dy f _ (a7 0 _);have wR: ∀m,bw m (A.labs.map encS)=true:=fun m=>a7 m _;have wn: ∀m,aV m (de A)=true:=fun m=>mD m A;generalize hnv:de A=nv at *;have rn: ∀f,bM f nv=nv:=fun f=>gm f _ (wn 0);have wr: ∀m,aV m (ou A)=true:=fun m=>DS m A;generalize hrv:ou A=rv at *;simp only [aD,jv] at N Z M L KE ⊢;refine gE Tryz.func4 Tryz.ntmps4 Tryz.results4 ?_
  (refine bq ?_;intro K hK K hK K hK)
  refine ab.one Z ?_
  ((iterate 3 revert K);refine lE hz ?_;intro K hK K hK)
  refine ab.one L ?_
  (revert K;revert K;refine lE hz ?_;intro K hK K hK)
  refine ab.one N ?_
  (revert K;revert K;refine lE hz ?_;intro K hK K hK)
  refine ab.one M ?_
  repeat (first|(with_reducible first|refine aA.up ?_|refine fun (K:AK) hK=> ?_|(refine hK _ ?_;clear hK K))|simp only [go_sem,hz,bne_self_eq_false,beq_self_eq_true,Xt,Xu,Go.undef]|clear hK K)
  refine ab.fr [] F1 (by simp) rfl (by simp only [bM,AV.bb,rn]) (by simp only [aV,AV.wf,wn,WA]) (fun k ob hk=>by simp at hk) ?_;simp only [AV.bb,sig,ej,Wy,WI,Xs,U5,aa.bb,hR,Ux,Wt,Nat.not_lt_zero,if_false,Nat.sub_zero,Nat.zero_add]
  (revert K;revert K;refine lE hz ?_;intro K hK K hK)
  refine ab.fr [2] OV (by simp) (by simp only [Wy,WI,aa.bb,hR,U5];rfl) rfl rfl (fun k ob hk=> ?_) ?_
  ·cases k with
   | zero=>cases hk;exact wR _
   | succ k=>simp at hk
  simp only [AV.bb,bM,sig,ej,Wy,WI,Xs,U5,List.append_nil,UD,Ux,List.set_cons_succ,List.set_cons_zero]
  repeat (first|(with_reducible first|refine aA.up ?_|refine fun (K:AK) hK=> ?_|(refine hK _ ?_;clear hK K))|simp only [go_sem,hz,Go.undef,beq_self_eq_true,bne_self_eq_false,Xt,Xu]|clear hK K)
  refine ab.one LS ?_
  repeat (first|(with_reducible first|refine aA.up ?_|refine fun (K:AK) hK=> ?_|(refine hK _ ?_;clear hK K))|simp only [go_sem,hz,Go.undef,beq_self_eq_true,bne_self_eq_false,Xt,Xu]|clear hK K)
  refine ab.one KE ?_
  repeat (first|(with_reducible first|refine aA.up ?_|refine fun (K:AK) hK=> ?_|(refine hK _ ?_;clear hK K))|simp only [go_sem,hz,Go.undef,beq_self_eq_true,bne_self_eq_false,Xt,Xu]|clear hK K)
  refine ab.one W ?_
  repeat (first|(with_reducible first|refine aA.up ?_|refine fun (K:AK) hK=> ?_|(refine hK _ ?_;clear hK K))|simp only [go_sem,hz,Go.undef,beq_self_eq_true,bne_self_eq_false,Xt,Xu]|clear hK K)
open Go.ChangeShapes Go.WideShapes Go.ChangeAt Go.WideMaps Go.WideElems Go.RowKit
namespace dfaTells
theorem own:ownKnob Tryz.prog.godebug=none:=by kernel_rfl
theorem laid:laidOutB Tryz.prog=true:=by kernel_rfl
theorem G8 (H:Type) (enc:TypeId×Value->H) (W:World) (args:Array Value) (ds gs:List (DataW H)) (before:List MemPlace) (base:Nat)
  (hval: ∀(j:Nat) t v,Tryz.f4.params[j]? = some t->args[j]? = some v->Value.okWide Tryz.prog W .any base t v)
  (hW:DataW.Whole enc Tryz.prog Tryz.f4.params.toList Rows.dfaTellsSpec.vars false W args.toList ds gs before)
  (hsz:(DataW.weightsEach Tryz.prog (Tryz.f4.params.toList++Rows.dfaTellsSpec.plain.varTypes Tryz.prog) (ds++gs)).all (· <= reachBytes)=true)
  (hL:laidMetH Tryz.prog Rows.dfaTellsRow.laid W) :
  Calls Tryz.prog 4 args W fun e W'=> ∃v,e = .returned v∧Rows.dfaTellsSpec.post enc Tryz.prog Tryz.f4 false true false false W args v W':=by
 have hW':=hW;have hlt:=hW.lt;obtain ⟨p,q,hA,hV,rfl,hfz,hnd⟩:=hW;rw [Tryz.params4] at hA hsz hval;obtain ⟨v0,v1,v2,d0,d1,d2,p0,p1,p2,rfl,rfl,rfl,h0,h1,h2⟩:=trodAll_three hA;obtain ⟨rfl,rfl⟩:=trodVars_none hV
 have z0: ∀k∈d0.weights Tryz.prog 25,k<=reachBytes:=fun k hk=>by
  have:=List.all_eq_true.1 hsz k (DataW.weights_mem_each (j:=0) (t:=25) (d:=d0) rfl rfl k hk)
  simpa using this
 obtain ⟨q0,c0,rfl,r0,o0⟩:=Mg h0 z0;obtain ⟨q1,rfl,_,_,_⟩:=open_int Tryz.underlying3 (hval 1 3 v1 rfl rfl) h1;obtain ⟨q2,rfl, -, -, -⟩:=Go.ChangeMaps.open_string QU (hval 2 9 v2 rfl rfl) h2
 refine ((uD q0 q1 q2 o0).OG (w:=W) (vargs:= #[.agg c0.toArray, .int .i64 q1, .string q2]) ⟨rfl,fun i c x hc hx=> ?_⟩ (EW hL)).mono fun e W' he=> ?_
 ·match i,hc,hx with
  | 0,hc,hx=>cases hc;cases hx;exact Hh (fun _ _=>trivial) r0
  | 1,hc,hx=>cases hc;cases hx;exact .v _
  | 2,hc,hx=>cases hc;cases hx;exact .v _
  | i+3,hc,hx=>simp at hc
 obtain ⟨rfl,hb⟩:=he
 refine ⟨_,rfl,_,_,_,[],p0++(p1++p2),[],hW', ?_, ?_,rfl,hb.frame _,fun h=>by cases h⟩
 ·exact trodAll_mk1 (shut_bool Tryz.underlying4 _)
 ·exact trodAll_mk3 (Below.trod laid (by kernel_rfl) (of_decide_eq_true (by kernel_rfl)) h0 hb (fun x hx=>hlt x (by simp [hx]))) (Below.trod laid (by kernel_rfl) (of_decide_eq_true (by kernel_rfl)) h1 hb (fun x hx=>hlt x (by simp [hx]))) (Below.trod laid (by kernel_rfl) (of_decide_eq_true (by kernel_rfl)) h2 hb (fun x hx=>hlt x (by simp [hx])))
theorem Ha (os:Os) (args:Array Value):laidMetH Tryz.prog Rows.dfaTellsRow.laid ((World.doorLaid Tryz.prog 400 os).forCall (fun _ _=>0) ⟨#[],args,[]⟩).memory:=
 laidMetH_of_parts3 (fuel:=8) (laidMet_of_run' 8 (by kernel_rfl) (by kernel_rfl)) (by kernel_rfl) (by kernel_rfl)
theorem lifted (os:Os) (started:os.Started) (H:Type) (enc:TypeId×Value->H) :
  ReturnsInHanded {} Tryz.checked os 4 .any (fun w args=>(Rows.dfaTellsSpec.pre enc Tryz.prog Tryz.f4 [] false w args∧laidMetH Tryz.prog Rows.dfaTellsRow.laid w)∧sizedMet enc Tryz.prog Tryz.f4 (OpenSpec.ofChange Rows.dfaTellsSpec) false w args)
   (Rows.dfaTellsSpec.post enc Tryz.prog Tryz.f4 false true false false):=by
 refine returnsInHanded_of_change_and (C:=Tryz.checked) (X:=fun w _=>laidMetH Tryz.prog Rows.dfaTellsRow.laid w) (fun _ _ _ hh h=>h.of_heap hh) own started (by kernel_rfl) Tryz.func4
  (ChangeSpec.witness_shaped (enc:=enc) (C:=Tryz.checked) (os:=os) (X:=fun w _=>laidMetH Tryz.prog Rows.dfaTellsRow.laid w) false (World.doorLaid Tryz.prog 400 os) #[.agg #[.int .i64 0, .string ⟨#[]⟩, .slice none 0 0], .int .i64 0, .string ⟨#[]⟩] 8 rfl (World.shaped_of_RefB (by kernel_rfl) (by kernel_rfl)) (by kernel_rfl) (by kernel_rfl) (by kernel_rfl) (Ha os _)) ?_
 intro W base args ds gs before hval hW _ hsz hL _;exact G8 H enc W args ds gs before base hval hW hsz hL
theorem over:Rows.dfaTellsRow.holds Tryz.pinned (OpenSpec.ofChange Rows.dfaTellsSpec):=
 OpenClaim.holds_of_wide 4 Tryz.f4 rfl rfl rfl rfl rfl rfl rfl ⟨rfl,rfl,rfl,rfl,rfl⟩ rfl rfl rfl rfl rfl (by kernel_rfl) Tryz.func4 (by kernel_rfl)
  (of_decide_eq_true (by kernel_rfl)) (by unfold Func.isWrapper;first|(rw [if_pos (by decide+kernel)];kernel_rfl)|(rw [if_neg (by decide+kernel)];exact ⟨rfl,rfl⟩))
  (fun os started H enc _=>lifted os started H enc)
theorem proved:Rows.DfaTellsCardSaid:=
 Claim7.holds_tied_plain_at .later [] [.data, .data, .data] true _ false
  over (fun _ h=>by cases h) (by kernel_rfl) (fun _ h=>by cases h) dfaTells_row_tie rfl ⟨rfl,rfl⟩ (by kernel_rfl) rfl
  (fun f fn hf hfn=>by
   obtain rfl:f=4:=(Us ((show Tryz.prog.funcNamed "kinescope/kinescopelaw09.DfaTells" = some 4 by kernel_rfl).symm.trans hf)).symm
   obtain rfl:fn=Tryz.f4:=(Us (Tryz.func4.symm.trans hfn)).symm
   exact ⟨by kernel_rfl,fun j t ht=>by
    rw [Tryz.params4] at ht
    have hm:t∈[25,3,9]:=by simpa using Array.mem_of_getElem? ht
    have hall:([25,3,9].all fun u=> !Tryz.prog.wantsStandIn u)=true:=by kernel_rfl
    exact (show Tryz.prog.wantsStandIn t=false by simpa using List.all_eq_true.1 hall t hm)⟩)
  (by kernel_rfl)
end dfaTells
theorem dfaTells_holds:Rows.DfaTellsCardSaid:=dfaTells.proved
#print axioms dfaTells_holds
end
end Go.Proofs.YtfflpdekojlnmaaGreatDoor
