/- kinescopelaw11.TreeTells: the walk. -/
import Derived.Test.YtldnlbcibmmbbaaGreatWRef11
import Derived.Test.YtldnlbcibmmbbaaGreatWRef11c
import Derived.Test.YtldnlbcibmmbbaaGreatWFlat
import Derived.Test.YtldnlbcibmmbbaaGreatWKept
import Derived.Test.YtldnlbcibmmbbaaGreatWLens
import Derived.Test.YtldnlbcibmmbbaaGreatWLentQ
import Derived.StillTailTactics
import Derived.Test.YtldnlbcibmmbbaaGreatWBase2
set_option linter.unusedSimpArgs false
set_option linter.unusedVariables false
open Bool renaming and_self → Km, not_eq_eq_eq_not → Ku
open Nat renaming le_refl → IV
namespace Go.Proofs.YtldnlbcibmmbbaaGreat
open Go.RowKit
theorem qv (o:cg) (h:o.ok):ai Tryz.prog 20 [.agg (aN o)] (.v (.bool (aP o))):=
 .fq (by kernel_rfl) rfl (fun D nu w vargs hr=>by
  obtain ⟨x,rfl,hx⟩:=gV hr
  obtain ⟨cx,rfl,kx⟩:=mA hx
  obtain rfl:=lF (vs:=o.cells) kx
  exact gR o w h)
set_option maxRecDepth 100000 in
set_option maxHeartbeats 8000000 in
theorem vq (q r:dF) (o:cg) (hq:q.small) (hr:r.small) (oq:q.ok) (or':r.ok) (oo:o.ok):ai Tryz.prog 7 [.agg (bI q), .agg (bI r), .agg (aN o)] (.v (.bool true)):=by
 have S1:=pU q hq
 have S2:=pU r hr
 have W:=mn
 simp only [bI] at S1 S2
 simp only [bI,aN]
 (refine ai.enter Tryz.func7 rfl (by kernel_rfl) (by kernel_rfl) rfl (by first|rfl|(simp only [go_sem,Km,Bool.and_true,Bool.true_and])) (by first|rfl|(simp only [go_sem,Km,Bool.and_true,Bool.true_and])) ?_;simp only [Tryz.ntmps7,Tryz.results7,List.length_cons,List.length_nil,Nat.reduceAdd,Nat.reduceSub,List.replicate_succ,List.replicate_zero,List.cons_append,List.nil_append])
 repeat (first|(with_reducible first|refine ah.up ?_|refine fun (K:AK) hK=> ?_|refine wD ?_|refine bD (by kernel_rfl) (by kernel_rfl) (by kernel_rfl) ?_|refine bm (by decide) ?_|refine cF ?_|refine cC ?_|(refine hK _ ?_;clear hK K))|simp only [go_sem]|with_reducible refine wA ?_|clear hK K)
 refine aj.one S1 ?_
 repeat (first|(with_reducible first|refine ah.up ?_|refine fun (K:AK) hK=> ?_|refine wD ?_|refine bD (by kernel_rfl) (by kernel_rfl) (by kernel_rfl) ?_|refine bm (by decide) ?_|refine cF ?_|refine cC ?_|(refine hK _ ?_;clear hK K))|simp only [go_sem]|with_reducible refine wA ?_|clear hK K)
 refine aO.part (fun h1=> ?_) (fun h1=> ?_)
 ·repeat' (first|(with_reducible first|refine ah.up ?_|refine fun (K:AK) hK=> ?_|refine wD ?_|refine bD (by kernel_rfl) (by kernel_rfl) (by kernel_rfl) ?_|refine bm (by decide) ?_|refine cF ?_|refine cC ?_|(refine hK _ ?_;clear hK K))|simp only [go_sem,h1,Go.undef]|with_reducible refine wA ?_|clear hK K|(with_reducible refine aj.one (by assumption) ?_)|(with_reducible refine aw.one (by assumption) ?_)|(refine aO.part (fun hb=> ?_) (fun hb=> ?_)<;>simp only [hb,go_sem,h1,Go.undef])|(refine aO.part (fun hb=> ?_) (fun hb=> ?_))|(with_reducible refine bH.mk ?_ ?_))
 ·repeat (first|(with_reducible first|refine ah.up ?_|refine fun (K:AK) hK=> ?_|refine wD ?_|refine bD (by kernel_rfl) (by kernel_rfl) (by kernel_rfl) ?_|refine bm (by decide) ?_|refine cF ?_|refine cC ?_|(refine hK _ ?_;clear hK K))|simp only [go_sem,h1]|with_reducible refine wA ?_|clear hK K)
  refine aj.one S2 ?_
  repeat (first|(with_reducible first|refine ah.up ?_|refine fun (K:AK) hK=> ?_|refine wD ?_|refine bD (by kernel_rfl) (by kernel_rfl) (by kernel_rfl) ?_|refine bm (by decide) ?_|refine cF ?_|refine cC ?_|(refine hK _ ?_;clear hK K))|simp only [go_sem,h1]|with_reducible refine wA ?_|clear hK K)
  refine aO.part (fun h2=> ?_) (fun h2=> ?_)
  ·repeat' (first|(with_reducible first|refine ah.up ?_|refine fun (K:AK) hK=> ?_|refine wD ?_|refine bD (by kernel_rfl) (by kernel_rfl) (by kernel_rfl) ?_|refine bm (by decide) ?_|refine cF ?_|refine cC ?_|(refine hK _ ?_;clear hK K))|simp only [go_sem,h2,Go.undef]|with_reducible refine wA ?_|clear hK K|(with_reducible refine aj.one (by assumption) ?_)|(with_reducible refine aw.one (by assumption) ?_)|(refine aO.part (fun hb=> ?_) (fun hb=> ?_)<;>simp only [hb,go_sem,h2,Go.undef])|(refine aO.part (fun hb=> ?_) (fun hb=> ?_))|(with_reducible refine bH.mk ?_ ?_))
  ·have b1:Di q≤400:=by (try simp only [bne_iff_ne,ne_eq,bne_eq_false_iff_eq,beq_iff_eq,beq_eq_false_iff_ne,decide_eq_false_iff_not,Ku,Int.natCast_inj,Int.ofNat_lt,Int.ofNat_le] at h1);omega
   have b2:Di r≤400:=by (try simp only [bne_iff_ne,ne_eq,bne_eq_false_iff_eq,beq_iff_eq,beq_eq_false_iff_ne,decide_eq_false_iff_not,Ku,Int.natCast_inj,Int.ofNat_lt,Int.ofNat_le] at h2);omega
   have z1:=qb b1
   have z2:=qb b2
   have n1:=xg b1
   have n2:=xg b2
   have L1:=jV q n1
   have L2:=jV r n2
   have hw:bB 0 [.agg (fK q)]=true:=by simp only [bB,AV.wf,lN,Km]
   have le1:jq [.agg (fK q)] [.agg (bI q)]:= .cons (jX q).agg .nil
   have C1:=(uQ q oq).le hw le1
   have C2:=zF q oq n1 (fun p hp=>⟨by have:=z1.2 p hp;omega,fun z hz=>⟨n1.2.2.2 p hp z hz,by have:=CL p.expr (oq.1 p hp).2.2.2.2 z hz;unfold jx at this;omega⟩⟩)
   have C3:=(wb q r).le (args':=[.agg (fK q), .agg (fK r)]) (by simp only [bB,AV.wf,lN,Km]) (.cons (jX q).agg (.cons (jX r).agg .nil))
   have C4:=pG q r n1
   have C5:=qv o oo
   have C6:=gW o oo
   have C7:=(wv q oq (by omega) (fun p hp=>by have:=z1.2 p hp;omega)).le hw le1
   have C8:=yU q n1 (by omega)
   have C9:=(vg q (by omega)).le hw le1
   have C10:=sP q (by omega)
   have C11:=(Cb q (by omega)).le hw le1
   have C12:=yk q (by omega)
   have C13:=mR (aA (ba q.ao)) (aA (ba q.ao))
   have C14:=mR (aA (bl q.ao)) (aA (bl q.ao))
   have C15:=jO q n1
   have C16:=jO r n2
   rw [pB] at C13 C14
   simp only [bI,fK,aN,aB] at L1 L2 C1 C2 C3 C4 C5 C6 C7 C8 C9 C10 C11 C12 C13 C14 C15 C16
   repeat' (first|(with_reducible first|refine ah.up ?_|refine fun (K:AK) hK=> ?_|refine wD ?_|refine bD (by kernel_rfl) (by kernel_rfl) (by kernel_rfl) ?_|refine bm (by decide) ?_|refine cF ?_|refine cC ?_|(refine hK _ ?_;clear hK K))|simp only [go_sem,h1,h2,Go.undef]|with_reducible refine wA ?_|clear hK K|(with_reducible refine aj.one (by assumption) ?_)|(with_reducible refine aw.one (by assumption) ?_)|(refine aO.part (fun hb=> ?_) (fun hb=> ?_)<;>simp only [hb,go_sem,h1,h2,Go.undef])|(refine aO.part (fun hb=> ?_) (fun hb=> ?_))|(with_reducible refine bH.mk ?_ ?_))
structure nC (S:Nat→Prop) (w1 w:World):Prop where
 os:w.os=w1.os
 tape:w.tape=w1.tape
 output:w.output=w1.output
 size:w1.heap.size≤w.heap.size
 same: ∀b,b<w1.heap.size→ ¬S b→w.heap[b]? = w1.heap[b]?
 cells: ∀(b:Nat) (C:Array Value) (T:TypeId),S b→w1.heap[b]? = some (.cells C T (0,0))→ ∃C',w.heap[b]? = some (.cells C' T (0,0))∧C'.size=C.size ∧
  (∀(i:Nat) x,C[i]? = some x→x.oneCell'=true→ ∃x',C'[i]? = some x'∧x'.oneCell'=true) ∧
  (T=43→ ∀(i:Nat) x,C[i * 3+2]? = some x→C'[i * 3+2]? = some x∨C'[i * 3+2]? = some (.slice none 0 0)) ∧
  (T=45→ ∀(i:Nat) x,C[i * 8+7]? = some x→C'[i * 8+7]? = some x∨C'[i * 8+7]? = some (.slice none 0 0))
theorem nC.refl (S:Nat→Prop) (w:World):nC S w w:=⟨rfl,rfl,rfl,IV _,fun _ _ _=>rfl,fun b C T _ h=>⟨C,h,rfl,fun i x h h'=>⟨x,h,h'⟩,fun _ i x h=> .inl h,fun _ i x h=> .inl h⟩⟩
theorem nC.below {S:Nat→Prop} {w1 w w':World} (h:nC S w1 w) (hb:Below w.heap.size w w'):nC S w1 w':=
 ⟨hb.os.trans h.os,hb.tape.trans h.tape,hb.output.trans h.output,Nat.le_trans h.size hb.size,fun b h1 h2=>(hb.block b (Nat.lt_of_lt_of_le h1 h.size)).trans (h.same b h1 h2),fun b C T h1 h2=>by
  obtain ⟨C',q1,q2⟩:=h.cells b C T h1 h2
  exact ⟨C',(hb.block b (Array.getElem?_eq_some_iff.1 q1).1).trans q1,q2⟩⟩
inductive TL (S:Nat→Prop) (w1:World) (T:TypeId) (z:Nat) (p:Nat→Array Value→Prop):Value→Prop
 | nil:TL S w1 T z p (.slice none 0 0)
 | Bu (a:Addr):TL S w1 T z p (.slice (some a) 0 0)
 | mk (b n cap:Nat) (C:Array Value):S b→w1.heap[b]? = some (.cells C T (0,0))→C.size=cap * z→n≤cap→cap≤maxLen→n≤1000000→p n C→TL S w1 T z p (.slice (some ⟨b,0,none⟩) n cap)
inductive TE (S:Nat→Prop) (w1:World):Value→Prop
 | nil:TE S w1 (.slice none 0 0)
 | Bu (a:Addr):TE S w1 (.slice (some a) 0 0)
 | mk (b n cap:Nat) (C:Array Value) (f:Nat→Value):S b→w1.heap[b]? = some (.cells C 43 (0,0))→C.size=cap * 3→n≤cap→cap≤maxLen→n≤1000000→(∀i,i<n→ ∃a b,C[i * 3]? = some a∧C[i * 3+1]? = some b∧a.oneCell'=true∧b.oneCell'=true)→(∀i,i<n→C[i * 3+2]? = some (f i))→(∀i,i<n→TE S w1 (f i))→TE S w1 (.slice (some ⟨b,0,none⟩) n cap)
def TP (S:Nat→Prop) (w1:World):Value→Prop:=TL S w1 45 8 (fun n C=> ∀i,i<n→(∀j,j<7→ ∃x,C[i * 8+j]? = some x∧x.oneCell'=true)∧ ∃x,C[i * 8+7]? = some x∧TE S w1 x)
theorem TE.keep {S S':Nat→Prop} {w w':World} {x:Value} (h:TE S w x) (hS: ∀b,S b→S' b) (hk: ∀b,S b→w'.heap[b]? = w.heap[b]?):TE S' w' x:=by
 induction h with
 | nil=>exact .nil
 | Bu a=>exact .Bu a
 | mk b n cap C f h1 h2 h3 h4 h5 h6 h7 h8 _ ih=>exact .mk b n cap C f (hS b h1) ((hk b h1).trans h2) h3 h4 h5 h6 h7 h8 ih
theorem TL.keep {S S':Nat→Prop} {w w':World} {T:TypeId} {z:Nat} {p p':Nat→Array Value→Prop} {x:Value} (h:TL S w T z p x) (hS: ∀b,S b→S' b) (hk: ∀b,S b→w'.heap[b]? = w.heap[b]?) (hp: ∀n C,p n C→p' n C):TL S' w' T z p' x:=by
 cases h with
 | nil=>exact .nil
 | Bu a=>exact .Bu a
 | mk b n cap C h1 h2 h3 h4 h5 h6 h7=>exact .mk b n cap C (hS b h1) ((hk b h1).trans h2) h3 h4 h5 h6 (hp n C h7)
set_option maxRecDepth 100000 in
theorem nJ (i:Nat) (hi:i≤2000000) (w:World):Calls Tryz.prog 109 #[.int .i64 2, .int .i64 i] w (fun e w'=>(∃j:Int,e = .returned (.int .i64 j))∧w'=w):=by
 go_enter Tryz.func109,Tryz.ntmps109
 go_wp2_with fail
 go_ret
 exact ⟨⟨_,rfl⟩,rfl⟩
set_option maxRecDepth 100000 in
theorem AG (i:Nat) (hi:i≤2000000) (w:World):Calls Tryz.prog 126 #[.int .i64 2, .int .i64 i] w (fun e w'=>(∃j:Int,e = .returned (.agg #[.int .i64 j, .string ⟨#[]⟩, .slice none 0 0]))∧Below w.heap.size w w'):=by
 go_enter Tryz.func126,Tryz.ntmps126
 go_wp2_with fail
 refine (nJ i hi _).mono ?_
 rintro e w' ⟨⟨j,rfl⟩,rfl⟩
 go_wp2_with fail
 exact bodyPost_ret (by simp [results,Tryz.results126,go_sem]) rfl ⟨⟨j,rfl⟩,(Below.refl _ _).alloc (IV _) _⟩
set_option maxRecDepth 100000 in
theorem AN (i:Nat) (hi:i≤2000000) (w:World):Calls Tryz.prog 80 #[.int .i64 2, .int .i64 i] w (fun e w'=>(∃j:Int,e = .returned (.agg #[.string ⟨#[]⟩, .string ⟨#[]⟩, .bool false, .string ⟨#[109]⟩, .string ⟨#[]⟩, .int .i64 j, .string ⟨#[]⟩, .slice none 0 0]))∧Below w.heap.size w w'):=by
 go_enter Tryz.func80,Tryz.ntmps80
 go_wp2_with fail
 refine (nJ i hi _).mono ?_
 rintro e w' ⟨⟨j,rfl⟩,rfl⟩
 go_wp2_with fail
 exact bodyPost_ret (by simp [results,Tryz.results80,go_sem]) rfl ⟨⟨j,rfl⟩,(Below.refl _ _).alloc (IV _) _⟩
set_option maxRecDepth 100000 in
theorem Ah (i:Nat) (hi:i≤2000000) (w:World):Calls Tryz.prog 81 #[.int .i64 2, .int .i64 i] w (fun e w'=>(∃j:Int,e = .returned (.agg #[.int .i64 j, .int .i64 0, .string ⟨#[]⟩, .string ⟨#[]⟩, .int .i64 0, .int .i64 0, .string ⟨#[]⟩, .int .i64 0, .string ⟨#[]⟩, .string ⟨#[]⟩, .int .i64 0, .int .i64 0, .string ⟨#[]⟩]))∧Below w.heap.size w w'):=by
 go_enter Tryz.func81,Tryz.ntmps81
 go_wp2_with fail
 refine (nJ i hi _).mono ?_
 rintro e w' ⟨⟨j,rfl⟩,rfl⟩
 go_wp2_with fail
 exact bodyPost_ret (by simp [results,Tryz.results81,go_sem]) rfl ⟨⟨j,rfl⟩,(Below.refl _ _).alloc (IV _) _⟩
set_option maxRecDepth 100000 in
theorem zL (i:Nat) (hi:i≤2000000) (w:World):Calls Tryz.prog 82 #[.int .i64 2, .int .i64 i] w (fun e w'=>(∃j:Int,e = .returned (.agg #[.int .i64 0, .string ⟨#[]⟩, .string ⟨#[]⟩, .int .i64 0, .int .i64 j, .string ⟨#[]⟩]))∧Below w.heap.size w w'):=by
 go_enter Tryz.func82,Tryz.ntmps82
 go_wp2_with fail
 refine (nJ i hi _).mono ?_
 rintro e w' ⟨⟨j,rfl⟩,rfl⟩
 go_wp2_with fail
 exact bodyPost_ret (by simp [results,Tryz.results82,go_sem]) rfl ⟨⟨j,rfl⟩,(Below.refl _ _).alloc (IV _) _⟩
def te (S:Nat→Prop) (w1:World) (f:FuncId) (x:Value):Prop:= ∀w,nC S w1 w→Calls Tryz.prog f #[x] w (fun e w'=>e = .returned (.tuple #[])∧nC S w1 w')
set_option maxRecDepth 100000 in
theorem si (a:Option Addr) (w:World):Calls Tryz.prog 125 #[.slice a 0 0] w (fun e w'=>e = .returned (.tuple #[])∧w'=w):=by
 go_enter Tryz.func125,Tryz.ntmps125
 go_wp2_with fail
 go_loop [2] (fun i=>i = .int .i64 0) (fun i=>0)
 case atStart=>rfl
 case round=>
  subst hrel
  go_wp2_with fail
  go_loop [4] (fun i=>i = .int .i64 0) (fun i=>0)
  case atStart=>rfl
  case round=>
   subst hrel
   go_wp2_with fail
   exact bodyPost_end (results_none rfl _ _ _) rfl ⟨rfl,rfl⟩
set_option maxRecDepth 100000 in
theorem mY {S:Nat→Prop} {w1:World} {a b x:Value} (ha:a.oneCell'=true) (hb:b.oneCell'=true) (hx:x.oneCell'=true) (H:te S w1 125 x):te S w1 121 (.agg #[a,b,x]):=by
 intro w hO
 have HO:=Lib.hid hO
 have HH:=Lib.hid H
 clear hO H
 go_enter Tryz.func121,Tryz.ntmps121
 go_wp2_with fail
 refine (HH.out _ (HO.out.below ((Below.refl _ _).alloc (IV _) _))).mono ?_
 rintro e w' ⟨rfl,hO⟩
 have HO':=Lib.hid hO
 clear hO
 go_wp2_with fail
 exact bodyPost_end (results_none rfl _ _ _) rfl ⟨rfl,HO'.out⟩
set_option maxRecDepth 100000 in
theorem oZ {S:Nat→Prop} {w1:World} {c0 c1 c2 c3 c4 a b x:Value} (h0:c0.oneCell'=true) (h1:c1.oneCell'=true) (h2:c2.oneCell'=true) (h3:c3.oneCell'=true) (h4:c4.oneCell'=true) (ha:a.oneCell'=true) (hb:b.oneCell'=true) (hx:x.oneCell'=true)
  (H:te S w1 125 x):te S w1 106 (.agg #[c0,c1,c2,c3,c4,a,b,x]):=by
 intro w hO
 have HO:=Lib.hid hO
 have HH:=Lib.hid (mY ha hb hx H)
 clear hO H
 go_enter Tryz.func106,Tryz.ntmps106
 go_wp2_with fail
 refine (HH.out _ (HO.out.below ((Below.refl _ _).alloc (IV _) _))).mono ?_
 rintro e w' ⟨rfl,hO⟩
 have HO':=Lib.hid hO
 clear hO
 go_wp2_with fail
 exact bodyPost_end (results_none rfl _ _ _) rfl ⟨rfl,HO'.out⟩
end Go.Proofs.YtldnlbcibmmbbaaGreat
