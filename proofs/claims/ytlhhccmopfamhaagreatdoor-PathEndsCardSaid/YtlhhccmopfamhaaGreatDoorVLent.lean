/- texts of one claim, one behind the other. -/
import Derived.Test.YtlhhccmopfamhaaGreatDoorVAbsV
import Derived.KernelRfl
import Derived.Test.YtlhhccmopfamhaaGreatDoorProg
import Derived.Test.YtlhhccmopfamhaaGreatDoorVAbsJ
import Derived.Test.YtlhhccmopfamhaaGreatDoorVFen
import Derived.StillTailTactics
import Derived.Test.YtlhhccmopfamhaaGreatDoorVAbsZ
import Derived.Sort.Grow
set_option linter.unusedSimpArgs false
set_option linter.unusedVariables false
set_option maxRecDepth 100000
set_option maxHeartbeats 16000000
open Array renaming replicate_succ -> afu, replicate_zero -> afv, getElem?_modify -> aeT
open Bool renaming false_and -> afA, and_false -> afL
open List renaming size_toArray -> ae9, length_cons -> ae0, length_nil -> aeg, push_toArray -> afw, append_toArray -> afx, nil_append -> afy, cons_append -> afz, getElem?_toArray -> aet, getElem?_cons_succ -> afs, getElem?_cons_zero -> afr, zip_cons_cons -> afB, zip_nil_left -> afC, foldl_cons -> afD, foldl_nil -> afE, setIfInBounds_toArray -> afF, set_cons_succ -> afG, set_cons_zero -> afH, getElem?_eq_some_iff -> aek, getElem?_set_self -> aew, getElem?_set_ne -> aex, getElem?_eq_getElem -> aes, mem_of_getElem? -> aeG, replicate_succ -> afJ, replicate_zero -> afK
open Nat renaming zero_le -> aen, le_trans -> aee, le_refl -> aed, lt_or_ge -> aei
open Go.Sort renaming heap_ahead -> afI
open Option.some renaming injEq -> aep
open Prod.mk renaming injEq -> aeq
namespace Go.Proofs.YtlhhccmopfamhaaGreatDoor
open Go.RowKit
open Go.Proofs.Tryz
structure gQ(q:Prop):Prop where h:q
structure gI(i:Nat):Prop
theorem gR{P:Program}{n0 i:Nat}{ops:Array Oper}{d:Bool}{s:AS}{Q:bg->AS->Prop}(_:gI i)(h:cD P n0 (.region i ops d) s Q):cD P n0 (.region i ops d) s Q:=h
theorem ag{p q:Prop}(h:q)(f:gQ q->p:=by intro h;(repeat(first|(with_reducible first|refine bA.up ?_|refineλ(K:AK)hK=>?_|refine wK ?_|refine wF ?_|refine au zs ?_|refine ay zs ?_|(refine hK _ ?_;clear hK K))|simp only[go_sem]|with_reducible refine wA ?_|(refine aW rfl ?_)|(refine aO rfl rfl ?_)|(refine aE rfl ?_)|clear hK K));(iterate 8 (try revert K));exact h.1):p:=f ⟨h⟩
theorem s8{p:Prop}(f:p:=by(repeat(first|(with_reducible first|refine bA.up ?_|refineλ(K:AK)hK=>?_|refine wK ?_|refine wF ?_|refine au zs ?_|refine ay zs ?_|(refine hK _ ?_;clear hK K))|simp only[go_sem]|with_reducible refine wA ?_|(refine aW rfl ?_)|(refine aO rfl rfl ?_)|(refine aE rfl ?_)|clear hK K))<;>fail):p:=f
theorem ak{p q e0:Prop}(a0:e0)(h:q)(f:gQ q->e0->p:=by intro h a0;(repeat(first|(with_reducible first|refine bA.up ?_|refineλ(K:AK)hK=>?_|refine wK ?_|refine wF ?_|refine au zs ?_|refine ay zs ?_|(refine hK _ ?_;clear hK K))|simp only[go_sem,a0]|with_reducible refine wA ?_|(refine aW rfl ?_)|(refine aO rfl rfl ?_)|(refine aE rfl ?_)|clear hK K));(iterate 8 (try revert K));exact h.1):p:=f ⟨h⟩ a0
theorem vW{p e0:Prop}(a0:e0)(f:e0->p:=by intro a0;(repeat(first|(with_reducible first|refine bA.up ?_|refineλ(K:AK)hK=>?_|refine wK ?_|refine wF ?_|refine au zs ?_|refine ay zs ?_|(refine hK _ ?_;clear hK K))|simp only[go_sem,a0]|with_reducible refine wA ?_|(refine aW rfl ?_)|(refine aO rfl rfl ?_)|(refine aE rfl ?_)|clear hK K))<;>fail):p:=f a0
theorem fb{p q e0 A:Prop}(a0:e0)(u:A)(h:q)(f:gQ q->e0->A->p:=by intro h a0 u;(repeat(first|(with_reducible first|refine bA.up ?_|refineλ(K:AK)hK=>?_|refine wK ?_|refine wF ?_|refine au zs ?_|refine ay zs ?_|(refine hK _ ?_;clear hK K))|simp only[go_sem,a0,u]|with_reducible refine wA ?_|(refine aW rfl ?_)|(refine aO rfl rfl ?_)|(refine aE rfl ?_)|clear hK K));(iterate 8 (try revert K));exact h.1):p:=f ⟨h⟩ a0 u
theorem Vr{p e0 u:Prop}(a0:e0)(q:u)(f:e0->u->p:=by intro a0 q;(repeat(first|(with_reducible first|refine bA.up ?_|refineλ(K:AK)hK=>?_|refine wK ?_|refine wF ?_|refine au zs ?_|refine ay zs ?_|(refine hK _ ?_;clear hK K))|simp only[go_sem,a0,q]|with_reducible refine wA ?_|(refine aW rfl ?_)|(refine aO rfl rfl ?_)|(refine aE rfl ?_)|clear hK K))<;>fail):p:=f a0 q
theorem bc{p q:Prop}(h:q)(f:gQ q->p:=by intro h;(repeat(first|(with_reducible first|refine bA.up ?_|refineλ(K:AK)hK=>?_|refine wE ?_|refine wD ?_|refine wK ?_|refine wF ?_|refine au zs ?_|refine ay zs ?_|(refine hK _ ?_;clear hK K))|simp only[go_sem]|with_reducible refine wA ?_|(refine aW rfl ?_)|(refine aO rfl rfl ?_)|(refine aE rfl ?_)|clear hK K));(iterate 8 (try revert K));exact h.1):p:=f ⟨h⟩
theorem Fe{p:Prop}(f:p:=by(repeat(first|(with_reducible first|refine bA.up ?_|refineλ(K:AK)hK=>?_|refine wE ?_|refine wD ?_|refine wK ?_|refine wF ?_|refine au zs ?_|refine ay zs ?_|(refine hK _ ?_;clear hK K))|simp only[go_sem]|with_reducible refine wA ?_|(refine aW rfl ?_)|(refine aO rfl rfl ?_)|(refine aE rfl ?_)|clear hK K))<;>fail):p:=f
theorem aG{p q e0:Prop}(a0:e0)(h:q)(f:gQ q->e0->p:=by intro h a0;(repeat(first|(with_reducible first|refine bA.up ?_|refineλ(K:AK)hK=>?_|refine wE ?_|refine wD ?_|refine wK ?_|refine wF ?_|refine au zs ?_|refine ay zs ?_|(refine hK _ ?_;clear hK K))|simp only[go_sem,a0]|with_reducible refine wA ?_|(refine aW rfl ?_)|(refine aO rfl rfl ?_)|(refine aE rfl ?_)|clear hK K));(iterate 8 (try revert K));exact h.1):p:=f ⟨h⟩ a0
theorem Y3{p e0:Prop}(a0:e0)(f:e0->p:=by intro a0;(repeat(first|(with_reducible first|refine bA.up ?_|refineλ(K:AK)hK=>?_|refine wE ?_|refine wD ?_|refine wK ?_|refine wF ?_|refine au zs ?_|refine ay zs ?_|(refine hK _ ?_;clear hK K))|simp only[go_sem,a0]|with_reducible refine wA ?_|(refine aW rfl ?_)|(refine aO rfl rfl ?_)|(refine aE rfl ?_)|clear hK K))<;>fail):p:=f a0
theorem Pj{p q:Prop}(h:q)(f:gQ q->p:=by intro h;(repeat(first|(with_reducible first|refine bA.up ?_|refineλ(K:AK)hK=>?_|refine wK ?_|refine wF ?_|refine au zs ?_|refine ay zs ?_|(refine hK _ ?_;clear hK K))|simp only[go_sem,Go.undef]|with_reducible refine wA ?_|(refine aW rfl ?_)|(refine aO rfl rfl ?_)|(refine aE rfl ?_)|clear hK K));(iterate 8 (try revert K));exact h.1):p:=f ⟨h⟩
theorem dj{p q e0:Prop}(a0:e0)(h:q)(f:gQ q->e0->p:=by intro h a0;(repeat(first|(with_reducible first|refine bA.up ?_|refineλ(K:AK)hK=>?_|refine wK ?_|refine wF ?_|refine au zs ?_|refine ay zs ?_|(refine hK _ ?_;clear hK K))|simp only[go_sem,Go.undef,a0]|with_reducible refine wA ?_|(refine aW rfl ?_)|(refine aO rfl rfl ?_)|(refine aE rfl ?_)|clear hK K));(iterate 8 (try revert K));exact h.1):p:=f ⟨h⟩ a0
theorem Ff{p e0:Prop}(a0:e0)(f:e0->p:=by intro a0;(repeat(first|(with_reducible first|refine bA.up ?_|refineλ(K:AK)hK=>?_|refine wK ?_|refine wF ?_|refine au zs ?_|refine ay zs ?_|(refine hK _ ?_;clear hK K))|simp only[go_sem,Go.undef,a0]|with_reducible refine wA ?_|(refine aW rfl ?_)|(refine aO rfl rfl ?_)|(refine aE rfl ?_)|clear hK K))<;>fail):p:=f a0
theorem YZ{p q:Prop}(h:q)(f:gQ q->p:=by intro h;(repeat(first|(with_reducible first|refine bA.up ?_|refineλ(K:AK)hK=>?_|refine wE ?_|refine wD ?_|refine wK ?_|refine wF ?_|refine au zs ?_|refine ay zs ?_|(refine hK _ ?_;clear hK K))|simp only[go_sem,Go.undef]|with_reducible refine wA ?_|(refine aW rfl ?_)|(refine aO rfl rfl ?_)|(refine aE rfl ?_)|clear hK K));(iterate 8 (try revert K));exact h.1):p:=f ⟨h⟩
theorem cw{p q e0:Prop}(a0:e0)(h:q)(f:gQ q->e0->p:=by intro h a0;(repeat(first|(with_reducible first|refine bA.up ?_|refineλ(K:AK)hK=>?_|refine wE ?_|refine wD ?_|refine wK ?_|refine wF ?_|refine au zs ?_|refine ay zs ?_|(refine hK _ ?_;clear hK K))|simp only[go_sem,Go.undef,a0]|with_reducible refine wA ?_|(refine aW rfl ?_)|(refine aO rfl rfl ?_)|(refine aE rfl ?_)|clear hK K));(iterate 8 (try revert K));exact h.1):p:=f ⟨h⟩ a0
theorem pK{p q e0:Prop}(a0:e0)(h:q)(f:gQ q->e0->p:=by intro h a0;(repeat(first|(with_reducible first|refine bA.up ?_|refineλ(K:AK)hK=>?_|refine wE ?_|refine wD ?_|refine wK ?_|refine wF ?_|refine au zs ?_|refine ay zs ?_|(refine hK _ ?_;clear hK K))|simp only[go_sem,List.length_append,a0]|with_reducible refine wA ?_|(refine aW rfl ?_)|(refine aO rfl rfl ?_)|(refine aE rfl ?_)|clear hK K));(iterate 8 (try revert K));exact h.1):p:=f ⟨h⟩ a0
theorem Fa{p q e0:Prop}(a0:e0)(h:q)(f:gQ q->e0->p:=by intro h a0;(repeat(first|(with_reducible first|refine bA.up ?_|refineλ(K:AK)hK=>?_|refine wE ?_|refine wD ?_|refine wK ?_|refine wF ?_|refine au zs ?_|refine ay zs ?_|(refine hK _ ?_;clear hK K))|simp only[go_sem,Go.undef,List.length_append,a0]|with_reducible refine wA ?_|(refine aW rfl ?_)|(refine aO rfl rfl ?_)|(refine aE rfl ?_)|clear hK K));(iterate 8 (try revert K));exact h.1):p:=f ⟨h⟩ a0
theorem yr{p q e0:Prop}(a0:e0)(h:q)(f:gQ q->e0->p:=by intro h a0;(repeat(first|(with_reducible first|refine bA.up ?_|refineλ(K:AK)hK=>?_|refine wE ?_|refine wD ?_|refine wK ?_|refine wF ?_|refine au zs ?_|refine ay zs ?_|(refine hK _ ?_;clear hK K))|simp only[go_sem,List.drop_succ_cons,List.drop_zero,a0]|with_reducible refine wA ?_|(refine aW rfl ?_)|(refine aO rfl rfl ?_)|(refine aE rfl ?_)|clear hK K));(iterate 8 (try revert K));exact h.1):p:=f ⟨h⟩ a0
theorem Fb{p q e0:Prop}(a0:e0)(h:q)(f:gQ q->e0->p:=by intro h a0;(repeat(first|(with_reducible first|refine bA.up ?_|refineλ(K:AK)hK=>?_|refine wK ?_|refine wF ?_|refine au zs ?_|refine ay zs ?_|(refine hK _ ?_;clear hK K))|simp only[go_sem,List.length_map,a0]|with_reducible refine wA ?_|(refine aW rfl ?_)|(refine aO rfl rfl ?_)|(refine aE rfl ?_)|clear hK K));(iterate 8 (try revert K));exact h.1):p:=f ⟨h⟩ a0
theorem CB{p q e0:Prop}(a0:e0)(h:q)(f:gQ q->e0->p:=by intro h a0;(repeat(first|(with_reducible first|refine bA.up ?_|refineλ(K:AK)hK=>?_|refine wE ?_|refine wD ?_|refine wK ?_|refine wF ?_|refine au zs ?_|refine ay zs ?_|(refine hK _ ?_;clear hK K))|simp only[go_sem,Go.undef,List.drop_succ_cons,List.drop_zero,a0]|with_reducible refine wA ?_|(refine aW rfl ?_)|(refine aO rfl rfl ?_)|(refine aE rfl ?_)|clear hK K));(iterate 8 (try revert K));exact h.1):p:=f ⟨h⟩ a0
theorem CD{p q e0:Prop}(a0:e0)(h:q)(f:gQ q->e0->p:=by intro h a0;(repeat(first|(with_reducible first|refine bA.up ?_|refineλ(K:AK)hK=>?_|refine wK ?_|refine wF ?_|refine au zs ?_|refine ay zs ?_|(refine hK _ ?_;clear hK K))|simp only[go_sem,List.drop_succ_cons,List.drop_zero,a0]|with_reducible refine wA ?_|(refine aW rfl ?_)|(refine aO rfl rfl ?_)|(refine aE rfl ?_)|clear hK K));(iterate 8 (try revert K));exact h.1):p:=f ⟨h⟩ a0
theorem Ph{p q e0:Prop}(a0:e0)(h:q)(f:gQ q->e0->p:=by intro h a0;(repeat(first|(with_reducible first|refine bA.up ?_|refineλ(K:AK)hK=>?_|refine wK ?_|refine wF ?_|refine au zs ?_|refine ay zs ?_|(refine hK _ ?_;clear hK K))|simp only[go_sem,List.length_set,a0]|with_reducible refine wA ?_|(refine aW rfl ?_)|(refine aO rfl rfl ?_)|(refine aE rfl ?_)|clear hK K));(iterate 8 (try revert K));exact h.1):p:=f ⟨h⟩ a0
theorem aM{p q C:Prop}(c:C)(h:q)(f:C->gQ q->p:=by intro c h;(repeat(refineλ(K:AK)hK=>?_));refine ah.one c ?_;(repeat(first|(with_reducible first|refine bA.up ?_|refineλ(K:AK)hK=>?_|refine wK ?_|refine wF ?_|refine au zs ?_|refine ay zs ?_|(refine hK _ ?_;clear hK K))|simp only[go_sem]|with_reducible refine wA ?_|(refine aW rfl ?_)|(refine aO rfl rfl ?_)|(refine aE rfl ?_)|clear hK K));(iterate 8 (try revert K));exact h.1):p:=f c ⟨h⟩
theorem lH{p C:Prop}(c:C)(f:C->p:=by intro c;(repeat(refineλ(K:AK)hK=>?_));refine ah.one c ?_;(repeat(first|(with_reducible first|refine bA.up ?_|refineλ(K:AK)hK=>?_|refine wK ?_|refine wF ?_|refine au zs ?_|refine ay zs ?_|(refine hK _ ?_;clear hK K))|simp only[go_sem]|with_reducible refine wA ?_|(refine aW rfl ?_)|(refine aO rfl rfl ?_)|(refine aE rfl ?_)|clear hK K))<;>fail):p:=f c
theorem Io{p q C e0:Prop}(c:C)(a0:e0)(h:q)(f:C->gQ q->e0->p:=by intro c h a0;(repeat(refineλ(K:AK)hK=>?_));refine bQ.one c ?_;(repeat(first|(with_reducible first|refine bA.up ?_|refineλ(K:AK)hK=>?_|refine wK ?_|refine wF ?_|refine au zs ?_|refine ay zs ?_|(refine hK _ ?_;clear hK K))|simp only[go_sem,a0]|with_reducible refine wA ?_|(refine aW rfl ?_)|(refine aO rfl rfl ?_)|(refine aE rfl ?_)|clear hK K));(iterate 8 (try revert K));exact h.1):p:=f c ⟨h⟩ a0
theorem dA{p q C e0:Prop}(c:C)(a0:e0)(h:q)(f:C->gQ q->e0->p:=by intro c h a0;(repeat(refineλ(K:AK)hK=>?_));refine ah.one c ?_;(repeat(first|(with_reducible first|refine bA.up ?_|refineλ(K:AK)hK=>?_|refine wK ?_|refine wF ?_|refine au zs ?_|refine ay zs ?_|(refine hK _ ?_;clear hK K))|simp only[go_sem,a0]|with_reducible refine wA ?_|(refine aW rfl ?_)|(refine aO rfl rfl ?_)|(refine aE rfl ?_)|clear hK K));(iterate 8 (try revert K));exact h.1):p:=f c ⟨h⟩ a0
theorem Pm{p C e0:Prop}(c:C)(a0:e0)(f:C->e0->p:=by intro c a0;(repeat(refineλ(K:AK)hK=>?_));refine ah.one c ?_;(repeat(first|(with_reducible first|refine bA.up ?_|refineλ(K:AK)hK=>?_|refine wK ?_|refine wF ?_|refine au zs ?_|refine ay zs ?_|(refine hK _ ?_;clear hK K))|simp only[go_sem,a0]|with_reducible refine wA ?_|(refine aW rfl ?_)|(refine aO rfl rfl ?_)|(refine aE rfl ?_)|clear hK K))<;>fail):p:=f c a0
theorem Pk{p q C e0 A:Prop}(c:C)(a0:e0)(u:A)(h:q)(f:C->gQ q->e0->A->p:=by intro c h a0 u;(repeat(refineλ(K:AK)hK=>?_));refine ah.one c ?_;(repeat(first|(with_reducible first|refine bA.up ?_|refineλ(K:AK)hK=>?_|refine wK ?_|refine wF ?_|refine au zs ?_|refine ay zs ?_|(refine hK _ ?_;clear hK K))|simp only[go_sem,a0,u]|with_reducible refine wA ?_|(refine aW rfl ?_)|(refine aO rfl rfl ?_)|(refine aE rfl ?_)|clear hK K));(iterate 8 (try revert K));exact h.1):p:=f c ⟨h⟩ a0 u
theorem CH{p C e0 u:Prop}(c:C)(a0:e0)(q:u)(f:C->e0->u->p:=by intro c a0 q;(repeat(refineλ(K:AK)hK=>?_));refine ah.one c ?_;(repeat(first|(with_reducible first|refine bA.up ?_|refineλ(K:AK)hK=>?_|refine wK ?_|refine wF ?_|refine au zs ?_|refine ay zs ?_|(refine hK _ ?_;clear hK K))|simp only[go_sem,a0,q]|with_reducible refine wA ?_|(refine aW rfl ?_)|(refine aO rfl rfl ?_)|(refine aE rfl ?_)|clear hK K))<;>fail):p:=f c a0 q
theorem kE{p q C:Prop}(c:C)(h:q)(f:C->gQ q->p:=by intro c h;(repeat(refineλ(K:AK)hK=>?_));refine bQ.one c ?_;(repeat(first|(with_reducible first|refine bA.up ?_|refineλ(K:AK)hK=>?_|refine wE ?_|refine wD ?_|refine wK ?_|refine wF ?_|refine au zs ?_|refine ay zs ?_|(refine hK _ ?_;clear hK K))|simp only[go_sem]|with_reducible refine wA ?_|(refine aW rfl ?_)|(refine aO rfl rfl ?_)|(refine aE rfl ?_)|clear hK K));(iterate 8 (try revert K));exact h.1):p:=f c ⟨h⟩
theorem Pl{p C:Prop}(c:C)(f:C->p:=by intro c;(repeat(refineλ(K:AK)hK=>?_));refine bQ.one c ?_;(repeat(first|(with_reducible first|refine bA.up ?_|refineλ(K:AK)hK=>?_|refine wE ?_|refine wD ?_|refine wK ?_|refine wF ?_|refine au zs ?_|refine ay zs ?_|(refine hK _ ?_;clear hK K))|simp only[go_sem]|with_reducible refine wA ?_|(refine aW rfl ?_)|(refine aO rfl rfl ?_)|(refine aE rfl ?_)|clear hK K))<;>fail):p:=f c
theorem lG{p q C:Prop}(c:C)(h:q)(f:C->gQ q->p:=by intro c h;(repeat(refineλ(K:AK)hK=>?_));refine ah.one c ?_;(repeat(first|(with_reducible first|refine bA.up ?_|refineλ(K:AK)hK=>?_|refine wE ?_|refine wD ?_|refine wK ?_|refine wF ?_|refine au zs ?_|refine ay zs ?_|(refine hK _ ?_;clear hK K))|simp only[go_sem]|with_reducible refine wA ?_|(refine aW rfl ?_)|(refine aO rfl rfl ?_)|(refine aE rfl ?_)|clear hK K));(iterate 8 (try revert K));exact h.1):p:=f c ⟨h⟩
theorem pL{p q C e0:Prop}(c:C)(a0:e0)(h:q)(f:C->gQ q->e0->p:=by intro c h a0;(repeat(refineλ(K:AK)hK=>?_));refine bQ.one c ?_;(repeat(first|(with_reducible first|refine bA.up ?_|refineλ(K:AK)hK=>?_|refine wE ?_|refine wD ?_|refine wK ?_|refine wF ?_|refine au zs ?_|refine ay zs ?_|(refine hK _ ?_;clear hK K))|simp only[go_sem,a0]|with_reducible refine wA ?_|(refine aW rfl ?_)|(refine aO rfl rfl ?_)|(refine aE rfl ?_)|clear hK K));(iterate 8 (try revert K));exact h.1):p:=f c ⟨h⟩ a0
theorem CG{p q C e0:Prop}(c:C)(a0:e0)(h:q)(f:C->gQ q->e0->p:=by intro c h a0;(repeat(refineλ(K:AK)hK=>?_));refine ah.one c ?_;(repeat(first|(with_reducible first|refine bA.up ?_|refineλ(K:AK)hK=>?_|refine wE ?_|refine wD ?_|refine wK ?_|refine wF ?_|refine au zs ?_|refine ay zs ?_|(refine hK _ ?_;clear hK K))|simp only[go_sem,a0]|with_reducible refine wA ?_|(refine aW rfl ?_)|(refine aO rfl rfl ?_)|(refine aE rfl ?_)|clear hK K));(iterate 8 (try revert K));exact h.1):p:=f c ⟨h⟩ a0
theorem jc{p q C:Prop}(c:C)(h:q)(f:C->gQ q->p:=by intro c h;(repeat(refineλ(K:AK)hK=>?_));refine ah.one c ?_;(repeat(first|(with_reducible first|refine bA.up ?_|refineλ(K:AK)hK=>?_|refine wK ?_|refine wF ?_|refine au zs ?_|refine ay zs ?_|(refine hK _ ?_;clear hK K))|simp only[go_sem,Go.undef]|with_reducible refine wA ?_|(refine aW rfl ?_)|(refine aO rfl rfl ?_)|(refine aE rfl ?_)|clear hK K));(iterate 8 (try revert K));exact h.1):p:=f c ⟨h⟩
theorem Ip{p C:Prop}(c:C)(f:C->p:=by intro c;(repeat(refineλ(K:AK)hK=>?_));refine ah.one c ?_;(repeat(first|(with_reducible first|refine bA.up ?_|refineλ(K:AK)hK=>?_|refine wK ?_|refine wF ?_|refine au zs ?_|refine ay zs ?_|(refine hK _ ?_;clear hK K))|simp only[go_sem,Go.undef]|with_reducible refine wA ?_|(refine aW rfl ?_)|(refine aO rfl rfl ?_)|(refine aE rfl ?_)|clear hK K))<;>fail):p:=f c
theorem uP{p q C e0:Prop}(c:C)(a0:e0)(h:q)(f:C->gQ q->e0->p:=by intro c h a0;(repeat(refineλ(K:AK)hK=>?_));refine bQ.one c ?_;(repeat(first|(with_reducible first|refine bA.up ?_|refineλ(K:AK)hK=>?_|refine wE ?_|refine wD ?_|refine wK ?_|refine wF ?_|refine au zs ?_|refine ay zs ?_|(refine hK _ ?_;clear hK K))|simp only[go_sem,Go.undef,a0]|with_reducible refine wA ?_|(refine aW rfl ?_)|(refine aO rfl rfl ?_)|(refine aE rfl ?_)|clear hK K));(iterate 8 (try revert K));exact h.1):p:=f c ⟨h⟩ a0
theorem dG(i:Nat){p q:Prop}(h:q)(f:gI i->gQ q->p:=by intro s h;(repeat((fail_if_success (with_reducible refine gR s ?_));first|(with_reducible first|refine bA.up ?_|refineλ(K:AK)hK=>?_|refine wK ?_|refine wF ?_|refine au zs ?_|refine ay zs ?_|(refine hK _ ?_;clear hK K))|simp only[go_sem]|with_reducible refine wA ?_|(refine aW rfl ?_)|(refine aO rfl rfl ?_)|(refine aE rfl ?_)|clear hK K));(iterate 8 (try revert K));exact h.1):p:=f ⟨⟩ ⟨h⟩
theorem jd(i:Nat){p q e0:Prop}(a0:e0)(h:q)(f:gI i->gQ q->e0->p:=by intro s h a0;(repeat((fail_if_success (with_reducible refine gR s ?_));first|(with_reducible first|refine bA.up ?_|refineλ(K:AK)hK=>?_|refine wK ?_|refine wF ?_|refine au zs ?_|refine ay zs ?_|(refine hK _ ?_;clear hK K))|simp only[go_sem,a0]|with_reducible refine wA ?_|(refine aW rfl ?_)|(refine aO rfl rfl ?_)|(refine aE rfl ?_)|clear hK K));(iterate 8 (try revert K));exact h.1):p:=f ⟨⟩ ⟨h⟩ a0
theorem Pn(i:Nat){p q e0 A:Prop}(a0:e0)(u:A)(h:q)(f:gI i->gQ q->e0->A->p:=by intro s h a0 u;(repeat((fail_if_success (with_reducible refine gR s ?_));first|(with_reducible first|refine bA.up ?_|refineλ(K:AK)hK=>?_|refine wK ?_|refine wF ?_|refine au zs ?_|refine ay zs ?_|(refine hK _ ?_;clear hK K))|simp only[go_sem,a0,u]|with_reducible refine wA ?_|(refine aW rfl ?_)|(refine aO rfl rfl ?_)|(refine aE rfl ?_)|clear hK K));(iterate 8 (try revert K));exact h.1):p:=f ⟨⟩ ⟨h⟩ a0 u
theorem Y1(i:Nat){p q:Prop}(h:q)(f:gI i->gQ q->p:=by intro s h;(repeat((fail_if_success (with_reducible refine gR s ?_));first|(with_reducible first|refine bA.up ?_|refineλ(K:AK)hK=>?_|refine wK ?_|refine wF ?_|refine au zs ?_|refine ay zs ?_|(refine hK _ ?_;clear hK K))|simp only[go_sem,Go.undef]|with_reducible refine wA ?_|(refine aW rfl ?_)|(refine aO rfl rfl ?_)|(refine aE rfl ?_)|clear hK K));(iterate 8 (try revert K));exact h.1):p:=f ⟨⟩ ⟨h⟩
theorem Y2(i:Nat){p q e0:Prop}(a0:e0)(h:q)(f:gI i->gQ q->e0->p:=by intro s h a0;(repeat((fail_if_success (with_reducible refine gR s ?_));first|(with_reducible first|refine bA.up ?_|refineλ(K:AK)hK=>?_|refine wK ?_|refine wF ?_|refine au zs ?_|refine ay zs ?_|(refine hK _ ?_;clear hK K))|simp only[go_sem,Go.undef,a0]|with_reducible refine wA ?_|(refine aW rfl ?_)|(refine aO rfl rfl ?_)|(refine aE rfl ?_)|clear hK K));(iterate 8 (try revert K));exact h.1):p:=f ⟨⟩ ⟨h⟩ a0
theorem AO(i:Nat){p q e0:Prop}(a0:e0)(h:q)(f:gI i->gQ q->e0->p:=by intro s h a0;(repeat((fail_if_success (with_reducible refine gR s ?_));first|(with_reducible first|refine bA.up ?_|refineλ(K:AK)hK=>?_|refine wE ?_|refine wD ?_|refine wK ?_|refine wF ?_|refine au zs ?_|refine ay zs ?_|(refine hK _ ?_;clear hK K))|simp only[go_sem,Go.undef,a0]|with_reducible refine wA ?_|(refine aW rfl ?_)|(refine aO rfl rfl ?_)|(refine aE rfl ?_)|clear hK K));(iterate 8 (try revert K));exact h.1):p:=f ⟨⟩ ⟨h⟩ a0
theorem ar{p:Prop}(f:p:=by simp only[bN,List.foldl_cons,List.foldl_nil,List.replicate_succ,List.replicate_zero,iT,zU,AV.v.injEq,Value.int.injEq,Value.bool.injEq,Value.string.injEq,AV.vec.injEq,AV.ptr.injEq,true_or,or_true,false_or,or_false,aa.mk.injEq,forall_eq_apply_imp_iff,forall_eq,forall_eq',go_sem]<;>fail):p:=f
theorem bF{r p:Prop}(h:r)(f:r->p:=by intro h;simp only[bN,List.foldl_cons,List.foldl_nil,List.replicate_succ,List.replicate_zero,iT,zU,AV.v.injEq,Value.int.injEq,Value.bool.injEq,Value.string.injEq,AV.vec.injEq,AV.ptr.injEq,true_or,or_true,false_or,or_false,aa.mk.injEq,forall_eq_apply_imp_iff,forall_eq,forall_eq',go_sem];exact h):p:=f h
theorem ej{p:Prop}(f:p:=by simp only[iT,zU,AV.v.injEq,Value.int.injEq,Value.bool.injEq,Value.string.injEq,AV.vec.injEq,AV.ptr.injEq,true_or,or_true,false_or,or_false,aa.mk.injEq,forall_eq_apply_imp_iff,forall_eq,forall_eq',go_sem]<;>fail):p:=f
theorem AW{r p:Prop}(h:r)(f:r->p:=by intro h;simp only[iT,zU,AV.v.injEq,Value.int.injEq,Value.bool.injEq,Value.string.injEq,AV.vec.injEq,AV.ptr.injEq,true_or,or_true,false_or,or_false,aa.mk.injEq,forall_eq_apply_imp_iff,forall_eq,forall_eq',go_sem];exact h):p:=f h
theorem q9{e0 q:Prop}(a0:e0)(u:q):e0∧q:=⟨a0,u⟩
theorem mQ{e0 u q:Prop}(a0:e0)(A:u)(a2:q):e0∧u∧q:=⟨a0,A,a2⟩
theorem pt{e0 A u q:Prop}(a0:e0)(H:A)(a2:u)(a3:q):e0∧A∧u∧q:=⟨a0,H,a2,a3⟩
theorem qu{e0 H A u q:Prop}(a0:e0)(O:H)(a2:A)(a3:u)(a4:q):e0∧H∧A∧u∧q:=⟨a0,O,a2,a3,a4⟩
theorem nU{e0 O H A u q:Prop}(a0:e0)(U:O)(a2:H)(a3:A)(a4:u)(a5:q):e0∧O∧H∧A∧u∧q:=⟨a0,U,a2,a3,a4,a5⟩
theorem Me{e0 U O H A u q:Prop}(a0:e0)(W:U)(a2:O)(a3:H)(a4:A)(a5:u)(V:q):e0∧U∧O∧H∧A∧u∧q:=⟨a0,W,a2,a3,a4,a5,V⟩
theorem Y0{e0 V U O H A u q:Prop}(a0:e0)(a1:V)(a2:U)(a3:O)(a4:H)(a5:A)(Y:u)(W:q):e0∧V∧U∧O∧H∧A∧u∧q:=⟨a0,a1,a2,a3,a4,a5,Y,W⟩
theorem gB9{e0 W V U O H A u q:Prop}(a0:e0)(a1:W)(a2:V)(a3:U)(a4:O)(a5:H)(a6:A)(a7:u)(Y:q):e0∧W∧V∧U∧O∧H∧A∧u∧q:=⟨a0,a1,a2,a3,a4,a5,a6,a7,Y⟩
theorem cq{p q:Prop}(h:p)(f:p->q:=by intro h;(try simp only[bne_iff_ne,ne_eq,bne_eq_false_iff_eq,beq_iff_eq,beq_eq_false_iff_ne,decide_eq_true_eq,decide_eq_false_iff_not,Bool.not_eq_eq_eq_not,Int.natCast_inj,Int.ofNat_lt,Int.ofNat_le]at h);exact h):q:=f h
theorem qv{p q:Prop}(h:p)(f:p->q:=by intro h;(try simp only[decide_eq_true_eq,decide_eq_false_iff_not,Int.ofNat_lt]at h);exact h):q:=f h
theorem gH2{p q:Prop}(h:p)(f:p->q:=by intro h;(try simp only[decide_eq_true_eq,decide_eq_false_iff_not,Int.ofNat_le]at h);exact h):q:=f h
theorem gE{p q e0 H A:Prop}(a0:e0)(u:H)(a2:A)(h:q)(f:e0->H->A->q->p:=by intro a0 u a2 h;refine aj.enter a0 rfl zo zo rfl (by first|rfl|(simp only[go_sem,Bool.and_self,Bool.and_true,Bool.true_and])) (by first|rfl|(simp only[go_sem,Bool.and_self,Bool.and_true,Bool.true_and])) ?_;simp only[u,a2,List.length_cons,List.length_nil,Nat.reduceAdd,Nat.reduceSub,List.replicate_succ,List.replicate_zero,List.cons_append,List.nil_append];exact h):p:=f a0 u a2 h
theorem gF{p q e0 H A:Prop}(a0:e0)(u:H)(a2:A)(h:q)(f:e0->H->A->q->p:=by intro a0 u a2 h;refine bT.enter a0 rfl zo zo rfl ?_;simp only[u,a2,List.length_cons,List.length_nil,Nat.reduceAdd,Nat.reduceSub,List.replicate_succ,List.replicate_zero,List.cons_append,List.nil_append];exact h):p:=f a0 u a2 h
section
theorem ad9:prog.underlying 3=some (.int .i64):=zo
theorem adk:dc prog 3=some (false):=zo
theorem acK:bR prog 3=some (1):=zo
theorem acO:de prog 3=some ([.v (.int .i64 0)]):=zo
theorem abW:vO prog 3=some (.v (.int .i64 0)):=zo
theorem adl:dc prog 4=some (false):=zo
theorem acL:bR prog 4=some (1):=zo
theorem acP:de prog 4=some ([.v (.bool false)]):=zo
theorem aea:prog.underlying 5=some (.int .u8):=zo
theorem adm:dc prog 5=some (false):=zo
theorem acM:bR prog 5=some (1):=zo
theorem aeb:prog.underlying 9=some (.string):=zo
theorem adn:dc prog 9=some (false):=zo
theorem acN:bR prog 9=some (1):=zo
theorem acQ:de prog 9=some ([.v (.string ⟨#[]⟩)]):=zo
theorem ab7:dc prog 22=some (false):=zo
theorem abh:bR prog 22=some (1):=zo
theorem adB:prog.underlying 23=some (.slice 25):=zo
theorem ab8:dc prog 23=some (false):=zo
theorem abi:bR prog 23=some (1):=zo
theorem adw:Rz prog 23=some (3):=zo
theorem acp:jO prog 23=some (25,3,48):=zo
theorem ab9:dc prog 25=some (true):=zo
theorem abj:bR prog 25=some (3):=zo
theorem aby:de prog 25=some ([.v (.int .i64 0),.v (.string ⟨#[]⟩),.v (.slice none 0 0)]):=zo
theorem Zw:cZ prog 25 0=some (0):=zo
theorem Zx:cZ prog 25 1=some (1):=zo
theorem Zy:cZ prog 25 2=some (2):=zo
theorem ado:zE prog 25=some ([(0,1),(1,1),(2,1)],[.v (.int .i64 0),.v (.string ⟨#[]⟩),.v (.slice none 0 0)]):=zo
theorem adC:prog.underlying 26=some (.slice 35):=zo
theorem aaI:vO prog 26=some (.v (.slice none 0 0)):=zo
theorem adx:Rz prog 26=some (5):=zo
theorem acq:jO prog 26=some (35,5,80):=zo
theorem adD:prog.underlying 29=some (.slice 37):=zo
theorem acr:jO prog 29=some (37,3,40):=zo
theorem adE:prog.underlying 33=some (.slice 173):=zo
theorem aca:dc prog 33=some (false):=zo
theorem abk:bR prog 33=some (1):=zo
theorem ady:Rz prog 33=some (4):=zo
theorem acs:jO prog 33=some (173,4,48):=zo
theorem acb:dc prog 35=some (true):=zo
theorem abl:bR prog 35=some (5):=zo
theorem abz:de prog 35=some ([.v (.string ⟨#[]⟩),.v (.string ⟨#[]⟩),.v (.string ⟨#[]⟩),.v (.int .i64 0),.v (.slice none 0 0)]):=zo
theorem Zz:cZ prog 35 0=some (0):=zo
theorem ZA:cZ prog 35 1=some (1):=zo
theorem ZB:cZ prog 35 2=some (2):=zo
theorem ZC:cZ prog 35 3=some (3):=zo
theorem ZD:cZ prog 35 4=some (4):=zo
theorem adp:zE prog 35=some ([(0,1),(1,1),(2,1),(3,1),(4,1)],[.v (.string ⟨#[]⟩),.v (.string ⟨#[]⟩),.v (.string ⟨#[]⟩),.v (.int .i64 0),.v (.slice none 0 0)]):=zo
theorem acd:dc prog 37=some (true):=zo
theorem abm:bR prog 37=some (3):=zo
theorem abA:de prog 37=some ([.v (.string ⟨#[]⟩),.v (.string ⟨#[]⟩),.v (.int .i64 0)]):=zo
theorem ZE:cZ prog 37 0=some (0):=zo
theorem ZF:cZ prog 37 1=some (1):=zo
theorem ZG:cZ prog 37 2=some (2):=zo
theorem adq:zE prog 37=some ([(0,1),(1,1),(2,1)],[.v (.string ⟨#[]⟩),.v (.string ⟨#[]⟩),.v (.int .i64 0)]):=zo
theorem adF:prog.underlying 41=some (.slice 61):=zo
theorem adz:Rz prog 41=some (3):=zo
theorem acu:jO prog 41=some (61,3,40):=zo
theorem adG:prog.underlying 55=some (.slice 9):=zo
theorem ace:dc prog 55=some (false):=zo
theorem abn:bR prog 55=some (1):=zo
theorem adA:Rz prog 55=some (1):=zo
theorem acv:jO prog 55=some (9,1,16):=zo
theorem adH:prog.underlying 56=some (.slice 3):=zo
theorem acf:dc prog 56=some (false):=zo
theorem abo:bR prog 56=some (1):=zo
theorem abB:de prog 56=some ([.v (.slice none 0 0)]):=zo
theorem acw:jO prog 56=some (3,1,8):=zo
theorem acg:dc prog 61=some (true):=zo
theorem abp:bR prog 61=some (3):=zo
theorem abC:de prog 61=some ([.v (.string ⟨#[]⟩),.v (.string ⟨#[]⟩),.v (.int .i64 0)]):=zo
theorem ZH:cZ prog 61 0=some (0):=zo
theorem ZI:cZ prog 61 1=some (1):=zo
theorem ZJ:cZ prog 61 2=some (2):=zo
theorem adr:zE prog 61=some ([(0,1),(1,1),(2,1)],[.v (.string ⟨#[]⟩),.v (.string ⟨#[]⟩),.v (.int .i64 0)]):=zo
theorem adI:prog.underlying 63=some (.pointer 125):=zo
theorem ach:dc prog 63=some (false):=zo
theorem abq:bR prog 63=some (1):=zo
theorem adJ:prog.underlying 64=some (.map 9 26):=zo
theorem aci:dc prog 64=some (false):=zo
theorem abr:bR prog 64=some (1):=zo
theorem acj:dc prog 66=some (true):=zo
theorem abt:bR prog 66=some (2):=zo
theorem abD:de prog 66=some ([.v (.pointer none),.v (.map none)]):=zo
theorem ZK:cZ prog 66 0=some (0):=zo
theorem ZL:cZ prog 66 1=some (1):=zo
theorem ads:zE prog 66=some ([(0,1),(1,1)],[.v (.pointer none),.v (.map none)]):=zo
theorem adK:prog.underlying 70=some (.map 74 3):=zo
theorem ack:dc prog 70=some (false):=zo
theorem abu:bR prog 70=some (1):=zo
theorem abE:de prog 70=some ([.v (.map none)]):=zo
theorem acm:dc prog 74=some (true):=zo
theorem abv:bR prog 74=some (2):=zo
theorem abF:de prog 74=some ([.v (.string ⟨#[]⟩),.v (.string ⟨#[]⟩)]):=zo
theorem ZM:cZ prog 74 0=some (0):=zo
theorem ZN:cZ prog 74 1=some (1):=zo
theorem adt:zE prog 74=some ([(0,1),(1,1)],[.v (.string ⟨#[]⟩),.v (.string ⟨#[]⟩)]):=zo
theorem acn:dc prog 79=some (true):=zo
theorem abw:bR prog 79=some (2):=zo
theorem abG:de prog 79=some ([.v (.string ⟨#[]⟩),.v (.int .i64 0)]):=zo
theorem ZO:cZ prog 79 0=some (0):=zo
theorem ZP:cZ prog 79 1=some (1):=zo
theorem adu:zE prog 79=some ([(0,1),(1,1)],[.v (.string ⟨#[]⟩),.v (.int .i64 0)]):=zo
theorem adL:prog.underlying 89=some (.slice 92):=zo
theorem acx:jO prog 89=some (92,3,32):=zo
theorem aco:dc prog 92=some (true):=zo
theorem abx:bR prog 92=some (3):=zo
theorem abH:de prog 92=some ([.v (.string ⟨#[]⟩),.v (.int .i64 0),.v (.int .i64 0)]):=zo
theorem ZQ:cZ prog 92 0=some (0):=zo
theorem ZR:cZ prog 92 1=some (1):=zo
theorem ZS:cZ prog 92 2=some (2):=zo
theorem adv:zE prog 92=some ([(0,1),(1,1),(2,1)],[.v (.string ⟨#[]⟩),.v (.int .i64 0),.v (.int .i64 0)]):=zo
theorem acS:prog.underlying 107=some (.map 79 3):=zo
theorem acT:prog.underlying 108=some (.map 79 3):=zo
theorem aaN:dc prog 108=some (false):=zo
theorem ZT:bR prog 108=some (1):=zo
theorem aag:de prog 108=some ([.v (.map none)]):=zo
theorem acU:prog.underlying 109=some (.slice 79):=zo
theorem aaO:dc prog 109=some (false):=zo
theorem ZU:bR prog 109=some (1):=zo
theorem aah:de prog 109=some ([.v (.slice none 0 0)]):=zo
theorem aa8:jO prog 109=some (79,2,24):=zo
theorem acV:prog.underlying 110=some (.pointer 162):=zo
theorem aaP:dc prog 110=some (false):=zo
theorem ZV:bR prog 110=some (1):=zo
theorem aai:de prog 110=some ([.v (.pointer none)]):=zo
theorem aaQ:dc prog 115=some (true):=zo
theorem ZW:bR prog 115=some (2):=zo
theorem aaj:de prog 115=some ([.v (.int .i64 0),.v (.int .i64 0)]):=zo
theorem XO:cZ prog 115 0=some (0):=zo
theorem XP:cZ prog 115 1=some (1):=zo
theorem acy:zE prog 115=some ([(0,1),(1,1)],[.v (.int .i64 0),.v (.int .i64 0)]):=zo
theorem acW:prog.underlying 120=some (.slice 164):=zo
theorem aaR:dc prog 120=some (false):=zo
theorem ZX:bR prog 120=some (1):=zo
theorem aa9:jO prog 120=some (164,1,8):=zo
theorem acX:prog.underlying 121=some (.slice 4):=zo
theorem aaS:dc prog 121=some (false):=zo
theorem ZY:bR prog 121=some (1):=zo
theorem aak:de prog 121=some ([.v (.slice none 0 0)]):=zo
theorem aba:jO prog 121=some (4,1,1):=zo
theorem aaT:dc prog 123=some (true):=zo
theorem ZZ:bR prog 123=some (2):=zo
theorem aal:de prog 123=some ([.v (.slice none 0 0),.v (.slice none 0 0)]):=zo
theorem XQ:cZ prog 123 0=some (0):=zo
theorem XR:cZ prog 123 1=some (1):=zo
theorem acz:zE prog 123=some ([(0,1),(1,1)],[.v (.slice none 0 0),.v (.slice none 0 0)]):=zo
theorem XS:cZ prog 125 0=some (0):=zo
theorem acA:zE prog 125=some ([(0,2),(2,1)],[.v (.slice none 0 0),.v (.slice none 0 0),.v (.slice none 0 0)]):=zo
theorem acY:prog.underlying 129=some (.slice 74):=zo
theorem aaU:dc prog 129=some (false):=zo
theorem Z0:bR prog 129=some (1):=zo
theorem abb:jO prog 129=some (74,2,32):=zo
theorem acZ:prog.underlying 137=some (.slice 56):=zo
theorem aaV:dc prog 137=some (false):=zo
theorem Z3:bR prog 137=some (1):=zo
theorem abc:jO prog 137=some (56,1,24):=zo
theorem XT:cZ prog 139 0=some (0):=zo
theorem XU:cZ prog 139 1=some (1):=zo
theorem XV:cZ prog 139 2=some (2):=zo
theorem acB:zE prog 139=some ([(0,1),(1,1),(2,1)],[.v (.slice none 0 0),.v (.slice none 0 0),.v (.slice none 0 0)]):=zo
theorem ac0:prog.underlying 149=some (.pointer 188):=zo
theorem aaW:dc prog 149=some (false):=zo
theorem Z4:bR prog 149=some (1):=zo
theorem aaX:dc prog 153=some (false):=zo
theorem Z5:bR prog 153=some (1):=zo
theorem ac1:prog.underlying 160=some (.slice 115):=zo
theorem aaY:dc prog 160=some (false):=zo
theorem Z6:bR prog 160=some (1):=zo
theorem abd:jO prog 160=some (115,2,16):=zo
theorem XW:cZ prog 162 0=some (0):=zo
theorem XX:cZ prog 162 1=some (1):=zo
theorem acC:zE prog 162=some ([(0,1),(1,1)],[.v (.slice none 0 0),.v (.bool false)]):=zo
theorem ac2:prog.underlying 163=some (.map 9 3):=zo
theorem ac3:prog.underlying 164=some (.map 9 3):=zo
theorem aaZ:dc prog 164=some (false):=zo
theorem Z7:bR prog 164=some (1):=zo
theorem aam:de prog 164=some ([.v (.map none)]):=zo
theorem aa0:dc prog 169=some (false):=zo
theorem Z8:bR prog 169=some (1):=zo
theorem aa1:dc prog 171=some (true):=zo
theorem Z9:bR prog 171=some (3):=zo
theorem XY:cZ prog 171 0=some (0):=zo
theorem XZ:cZ prog 171 1=some (1):=zo
theorem X0:cZ prog 171 2=some (2):=zo
theorem acD:zE prog 171=some ([(0,1),(1,1),(2,1)],[.v (.int .i64 0),.v (.int .i64 0),.v (.string ⟨#[]⟩)]):=zo
theorem aa2:dc prog 173=some (true):=zo
theorem aaa:bR prog 173=some (4):=zo
theorem aan:de prog 173=some ([.v (.string ⟨#[]⟩),.v (.int .i64 0),.v (.int .i64 0),.v (.string ⟨#[]⟩)]):=zo
theorem X1:cZ prog 173 0=some (0):=zo
theorem X2:cZ prog 173 1=some (1):=zo
theorem acE:zE prog 173=some ([(0,1),(1,3)],[.v (.string ⟨#[]⟩),.v (.int .i64 0),.v (.int .i64 0),.v (.string ⟨#[]⟩)]):=zo
theorem abg:lW prog 173=some ([.s,.i,.i,.s]):=zo
theorem aa3:dc prog 185=some (false):=zo
theorem aab:bR prog 185=some (1):=zo
theorem aao:de prog 185=some ([.v (.int .u32 0)]):=zo
theorem ac4:prog.underlying 186=some (.array 25 185):=zo
theorem X3:cZ prog 188 0=some (0):=zo
theorem X4:cZ prog 188 1=some (1):=zo
theorem X5:cZ prog 188 2=some (26):=zo
theorem X6:cZ prog 188 3=some (27):=zo
theorem acF:zE prog 188=some ([(0,1),(1,25),(26,1),(27,1)],[.v (.slice none 0 0),.v (.int .u32 0),.v (.int .u32 0),.v (.int .u32 0),.v (.int .u32 0),.v (.int .u32 0),.v (.int .u32 0),.v (.int .u32 0),.v (.int .u32 0),.v (.int .u32 0),.v (.int .u32 0),.v (.int .u32 0),.v (.int .u32 0),.v (.int .u32 0),.v (.int .u32 0),.v (.int .u32 0),.v (.int .u32 0),.v (.int .u32 0),.v (.int .u32 0),.v (.int .u32 0),.v (.int .u32 0),.v (.int .u32 0),.v (.int .u32 0),.v (.int .u32 0),.v (.int .u32 0),.v (.int .u32 0),.v (.int .u32 0),.v (.bool false)]):=zo
theorem aa4:dc prog 190=some (true):=zo
theorem aac:bR prog 190=some (2):=zo
theorem aap:de prog 190=some ([.v (.int .u32 0),.v (.int .u32 0)]):=zo
theorem X7:cZ prog 190 0=some (0):=zo
theorem X8:cZ prog 190 1=some (1):=zo
theorem acG:zE prog 190=some ([(0,1),(1,1)],[.v (.int .u32 0),.v (.int .u32 0)]):=zo
theorem ac5:prog.underlying 199=some (.map 3 3):=zo
theorem aa5:dc prog 199=some (false):=zo
theorem aad:bR prog 199=some (1):=zo
theorem aaq:de prog 199=some ([.v (.map none)]):=zo
theorem ac6:prog.underlying 208=some (.array 2 3):=zo
theorem acH:zE prog 208=some ([(0,1),(1,1)],[.v (.int .i64 0),.v (.int .i64 0)]):=zo
theorem ac7:prog.underlying 219=some (.slice 121):=zo
theorem aa6:dc prog 219=some (false):=zo
theorem aae:bR prog 219=some (1):=zo
theorem abe:jO prog 219=some (121,1,24):=zo
theorem X9:cZ prog 221 0=some (0):=zo
theorem Ya:cZ prog 221 1=some (1):=zo
theorem Yb:cZ prog 221 2=some (2):=zo
theorem Yc:cZ prog 221 3=some (3):=zo
theorem Yd:cZ prog 221 4=some (4):=zo
theorem acI:zE prog 221=some ([(0,1),(1,1),(2,1),(3,1),(4,1),(5,3)],[.v (.slice none 0 0),.v (.slice none 0 0),.v (.slice none 0 0),.v (.slice none 0 0),.v (.bool false),.v (.int .i64 0),.v (.string ⟨#[]⟩),.v (.slice none 0 0)]):=zo
theorem aa7:dc prog 258=some (true):=zo
theorem aaf:bR prog 258=some (3):=zo
theorem aar:de prog 258=some ([.v (.slice none 0 0),.v (.slice none 0 0),.v (.bool false)]):=zo
theorem Ye:cZ prog 258 0=some (0):=zo
theorem Yf:cZ prog 258 1=some (1):=zo
theorem Yg:cZ prog 258 2=some (2):=zo
theorem acJ:zE prog 258=some ([(0,1),(1,1),(2,1)],[.v (.slice none 0 0),.v (.slice none 0 0),.v (.bool false)]):=zo
theorem ac8:prog.underlying 286=some (.slice 258):=zo
theorem abf:jO prog 286=some (258,3,56):=zo
theorem ac9:prog.underlying 301=some (.array 32 5):=zo
attribute [go_sem] ad9 adk acK acO abW adl acL acP aea adm acM aeb adn acN acQ ab7 abh adB ab8 abi adw acp ab9 abj aby Zw Zx Zy ado adC aaI adx acq adD acr adE aca abk ady acs acb abl abz Zz ZA ZB ZC ZD adp acd abm abA ZE ZF ZG adq adF adz acu adG ace abn adA acv adH acf abo abB acw acg abp abC ZH ZI ZJ adr adI ach abq adJ aci abr acj abt abD ZK ZL ads adK ack abu abE acm abv abF ZM ZN adt acn abw abG ZO ZP adu adL acx aco abx abH ZQ ZR ZS adv acS acT aaN ZT aag acU aaO ZU aah aa8 acV aaP ZV aai aaQ ZW aaj XO XP acy acW aaR ZX aa9 acX aaS ZY aak aba aaT ZZ aal XQ XR acz XS acA acY aaU Z0 abb acZ aaV Z3 abc XT XU XV acB ac0 aaW Z4 aaX Z5 ac1 aaY Z6 abd XW XX acC ac2 ac3 aaZ Z7 aam aa0 Z8 aa1 Z9 XY XZ X0 acD aa2 aaa aan X1 X2 acE abg aa3 aab aao ac4 X3 X4 X5 X6 acF aa4 aac aap X7 X8 acG ac5 aa5 aad aaq ac6 acH ac7 aa6 aae abe X9 Ya Yb Yc Yd acI aa7 aaf aar Ye Yf Yg acJ ac8 abf ac9
open Go.RowKit Go.Shelf
attribute [local go_sem] Oper.semAt_some
def WOk(J Jx:Pi->World->Prop)(Kp:World->World->Prop)(pre:Pi)(xs:IO)(W:World)(e:Ending)(W':World):Prop:=
 (e=.returned (.bool true)∧(∃L,L.map XC.sig=xs.map Ex.sig∧J (pre++L) W')∧Kp W W') ∨
 (e=.returned (.bool false)∧∃q,q.map XC.sig <+:xs.map Ex.sig∧Jx (pre++q) W')
def WalkC(F:Fence)(l N lo hi:Nat)(et:TypeId)(J Jx:Pi->World->Prop)(w0:World)(x:Ex):Prop:=
 ∀(n:Nat)(cx:Id)(pre:Pi)(W:World),iv w0 x cx->x.ok->Cells w0 W->hi<=W.heap.size->J pre W->pre.length+(aq x).length<=N ->
  CallsIn F n prog 110 #[.agg cx.toArray,.func (.yield l) #[] #[]] W (WOk J Jx (Kept lo hi et) pre (aq x) W)
theorem Ny(F:Fence)(hF:∀f,F.fn f)(hd:F.depth=none)(hro:F.round=none)(l N lo hi:Nat)(et:TypeId)(het:25≠et)(J Jx:Pi->World->Prop)(w0:World)(hlo:w0.heap.size<=lo)
  (hJ:∀pre W o,J pre W->J pre (W.alloc o))
  (hY:∀m pre(c:XC)W,J pre W->pre.length<N->YieldAt F m prog l #[c.val] W (YOk J Jx (Kept lo hi et) pre c W))(x:Ex):WalkC F l N lo hi et J Jx w0 x:=by
 induction x using Ex.ind with
 |h k s kids ih=>
  intro n cx pre W hx hok hb hhi hj hN;rw[iv]at hx;obtain⟨sv,rfl,hr⟩:=hx;obtain⟨p,c,rfl,hc1,hc2⟩:=hr.shape;rw[Ex.ok]at hok;obtain⟨hs,O⟩:=hok
  replace hs:=hs.len
  rw[aq]at hN⊢
  have hdd:∀k:Nat,(F.depth.isSome=true->1<=k):=λk h=>by rw[hd]at h;cases h
  obtain⟨xc,hxv,hxs⟩:∃xc:XC,xc.val=.agg #[.int .i64 k,.string s,.slice p kids.length c]∧xc.sig=(k,s,kids.length):=⟨⟨k,s,p,kids.length,c,hs,zd⟩,rfl,rfl⟩;have hy1:=hY (n-1) pre xc (W.alloc (.cells #[.int .i64 k,.string s,.slice p kids.length c] 25)) (hJ _ _ _ hj) (by simp at hN;omega);obtain⟨fn,tmps,assign,body,hy,hR⟩:=hy1;rw[hxv]at hy;have HR:=Lib.hid hR;clear hR;have HX:=Lib.hid ih;have HO:=Lib.hid (uK.1 O);have HRd:=Lib.hid hr;have HBl:=Lib.hid hb;have HNN:=Lib.hid hN;have HJ:=Lib.hid hJ;have HXS:=Lib.hid hxs
  have HW:Hid (W.heap.size<(W.alloc (.cells #[.int .i64 k,.string s,.slice p kids.length c] 25)).heap.size):=by show _<_;simp
  have HB:Hid ((W.alloc (.cells #[.int .i64 k,.string s,.slice p kids.length c] 25)).heap[W.heap.size]?=some (.cells #[.int .i64 k,.string s,.slice p kids.length c] 25)):=by show _=_;exact gO _ _
  clear ih O hr hb hN hj hs hY hJ hxv hxs;unfold maxLen at hc2;refine callsIn_of_wp func110 rfl (hF _) ?_ hro;simp only[ntmps110,ae9,ae0,aeg,Nat.reduceAdd,Nat.reduceSub,afu,afv,afw,afx,afy,afz]
  gi_wp2_with fail
  refine HR.out.mono ?_
  rintro e W2 (⟨rfl,hJ2,Y⟩|⟨rfl,hx2⟩)
  ·have H:=Y.box hhi het HB.out;have hk1:Kept lo hi et W W2:=(Kept.alloc W _).trans Y;have hce:=aC H 2;have HH:=Lib.hid H;have HK:=Lib.hid hk1;have HJ2:=Lib.hid hJ2;clear H hk1 Y hJ2;simp only[aet,afs,afr]at hce
   gi_wp2_with fail
   gi_loopw [4,14] (λr i wr=>r=.bool false∧∃k:Nat,i=.int .i64 k∧k<=kids.length∧Kept lo hi et W wr∧∃L,L.map XC.sig=((b4 (kids.take k))).map Ex.sig∧J (pre++[xc]++L) wr) (λ_ i _=>kids.length-(intOf i).toNat)
   case atStart=>exact⟨rfl,0,rfl,aen _,HK.out,[],rfl,by simpa using HJ2.out⟩
   case round=>
    obtain⟨rfl,i,rfl,hik,hkw,L,hL,hJL⟩:=hrel;have HKW:=Lib.hid hkw;have HL:=Lib.hid hL;have HJL:=Lib.hid hJL
    have hlen:L.length=(b4 (kids.take i)).length:=by have:=congrArg List.length hL;simpa using this
    clear hkw hL hJL
    by_cases hlt:i<kids.length
    ·have A:=HKW.out.cells HBl.out hlo;obtain⟨b1,o1,k1,s1,l1,v1,rfl,hx1,U,a0,a1,a2⟩:=HRd.out.at hlt;obtain⟨p1,c1,rfl, -, -⟩:=U.shape
     replace a0:=A _ _ _ a0
     replace a1:=A _ _ _ a1
     replace a2:=A _ _ _ a2
     have hq1:=ou a0;have u:kids[i]∈kids:=List.getElem_mem _
     have hrx:iv w0 kids[i] [.int .i64 k1,.string s1,.slice p1 l1.length c1]:=by rw[hx1,iv];exact⟨_,rfl,U⟩
     have V:=rL hlt
     have hbd:(pre++[xc]++L).length+(aq kids[i]).length<=N:=by
      have h1:=HNN.out;have h2:=uL kids (i+1);rw[V]at h2;simp at h1 h2⊢;omega
     have HH1:=Lib.hid (λm W' hcc hh hj=>HX.out kids[i] u m _ (pre++[xc]++L) W' hrx (HO.out _ u) hcc hh hj hbd);have HCW:=Lib.hid A;have HPP:=Lib.hid V;have hhw:=aee hhi HKW.out.size;have HB2:=Lib.hid (λo=>Kept.alloc (lo:=lo) (hi:=hi) (e:=et) wr o)
     have HS2:Hid (∀o:Obj,hi<=(wr.alloc o).heap.size):=λo=>ahn
     have HJJ:Hid (∀o:Obj,J (pre++[xc]++L) (wr.alloc o)):=λo=>HJ.out _ _ _ HJL.out;have HC2:Hid (∀o:Obj,Cells w0 (wr.alloc o)):=λo=>(HB2.out o).cells HCW.out hlo;clear hx1 U A u hrx V hbd hlen
     gi_wp2_with fail
     refine(HH1.out _ _ (HC2.out _) (HS2.out _) (HJJ.out _)).mono ?_
     rintro e W3 (⟨rfl,⟨L3,hL3,hJ3⟩,hk3⟩|⟨rfl,q,hq,hx3⟩)
     ·have HL3:=Lib.hid hL3;have HJ3:=Lib.hid hJ3;have HK3:=Lib.hid (HKW.out.trans ((HB2.out _).trans hk3));clear hL3 hJ3 hk3
      gi_wp2_with fail
      go_roundw
      case rel=>exact⟨rfl,i+1,by go_num,zd,HK3.out,L++L3,by rw[HPP.out];simp[HL.out,HL3.out],by simpa using HJ3.out⟩
      case measure=>simp[intOf];omega
     ·have HQ:=Lib.hid hq;have HX3:=Lib.hid hx3;clear hq hx3
      gi_wp2_with fail
      go_ret
      refine .inr ⟨rfl,[xc]++(L++q),?_,by simpa using HX3.out⟩;obtain⟨r,hr⟩:=HQ.out;have h2:=kD (kids.take (i+1)) (kids.drop (i+1));rw[List.take_append_drop,HPP.out]at h2;refine⟨r++(b4 (kids.drop (i+1))).map Ex.sig,?_⟩;rw[h2];simp[HXS.out,Ex.sig,HL.out, <- hr]
    ·gi_wp2
     go_ret
     obtain rfl:i=kids.length:=zd
     refine .inl ⟨rfl,⟨[xc]++L,?_,by simpa using HJL.out⟩,HKW.out⟩;simp[HXS.out,Ex.sig,HL.out]
  ·gi_wp2
   go_ret
   exact .inr ⟨rfl,[xc],by simp[HXS.out,Ex.sig],hx2⟩
theorem wc(F:Fence)(hF:∀f,F.fn f)(hd:F.depth=none)(H:F.round=none)(n lo hi B:Nat)(et:TypeId)(het:25≠et)(x:Ex)(cx:Id)(w0 w:World)(Y:w0.heap.size<=lo)(hhi:hi<=w.heap.size)
  (A:iv w0 x cx)(V:x.ok)(hc:Cells w0 w)(hB:w.heap[B]?=some (.cells cx.toArray 25)) :
  SeqStopsK F n prog 109 #[.pointer (some ⟨B,0,none⟩)] (λc:XC=> #[c.val]) (Kept lo hi et) (λL=>L.map XC.sig=(aq x).map Ex.sig) (λq=>q.map XC.sig <+:(aq x).map Ex.sig) (aq x).length w:=by
 intro l J Jx W U hJ hJx hY h0;have hw:=Ny F hF hd H l (aq x).length lo hi et het J Jx w0 Y (λpre W o h=>hJ pre _ _ none h (World.grownBy_alloc W o none) (λr e=>by cases e)) (λm pre c W hj hl=>vI hd m (hY pre c W hj hl)) x (n-1) cx [] W A V (hc.trans (.of U)) (aee hhi U.size) h0 zk;obtain⟨k,s,kids⟩:=x;rw[iv]at A;obtain⟨sv,rfl,hr⟩:=A;obtain⟨p,c,rfl, -, -⟩:=hr.shape;have u:=(U.block B (Array.getElem?_eq_some_iff.1 hB).1).trans hB;have c0:=aC u 0;have c1:=aC u 1;have c2:=aC u 2;simp only[aet,afs,afr]at c0 c1 c2;have HW:=Lib.hid hw
 have hdd:∀k:Nat,(F.depth.isSome=true->1<=k):=λk h=>by rw[hd]at h;cases h
 clear hw hJ hJx hY h0 hr u hB hc U;refine callsIn_of_wp func109 rfl (hF _) ?_ H;simp only[ntmps109,ae9,ae0,aeg,Nat.reduceAdd,Nat.reduceSub,afu,afv,afw,afx,afy,afz]
 gi_wp2_with fail
 refine HW.out.mono ?_
 rintro e W1 (⟨rfl,⟨L,hL,O⟩, -⟩|⟨rfl,q,hq,A⟩)
 ·have HL:=Lib.hid hL;have HJ1:=Lib.hid O;clear hL O
  gi_wp2
  go_end0
  exact⟨⟨_,rfl⟩,.inl ⟨L,HL.out,by simpa using HJ1.out⟩⟩
 ·have HQ:=Lib.hid hq;have HX:=Lib.hid A;clear hq A
  gi_wp2
  go_end0
  exact⟨⟨_,rfl⟩,.inr ⟨q,HQ.out,by simpa using HX.out⟩⟩
theorem Bj(k:Int)(s:ByteArray)(p:Option Addr)(n c:Nat)(w:World) :
  Calls prog 75 #[.agg #[.int .i64 k,.string s,.slice p n c]] w λe w'=>e=.returned (.func (.func 109) #[] #[.pointer (some ⟨w.heap.size,0,none⟩)])∧w.alloc (.cells #[.int .i64 k,.string s,.slice p n c] 25)=w':=by
 go_enter func75,ntmps75
 go_wp2_with fail
 go_ret
 exact⟨rfl,rfl⟩
open Go.RowKit Go.Shelf
attribute [local go_sem] Oper.semAt_some
theorem Cx{x:Ex}{q:Pi}(h:q.map XC.sig <+:(aq x).map Ex.sig)(u:24<q.length∨∃c,c∈q∧wb c.sig=false):aD x=false:=by
 rw[vS];obtain⟨r,A⟩:=h;rw[<-A]
 rcases u with u|⟨c,O,H⟩
 ·rw[decide_eq_false ahn,afA]
 ·have:(q.map XC.sig++r).all wb=false:=by
   rw[List.all_eq_false];exact⟨c.sig,by simp;exact .inl ⟨c,O,rfl⟩,by rw[H];decide⟩
  rw[this,Bool.and_false]
theorem Cw{x:Ex}{q:Pi}(h:q.map XC.sig=(aq x).map Ex.sig)(u:q.length<=24)(A:∀c,c∈q->wb c.sig=true):aD x=true:=by
 rw[vS, <- h,decide_eq_true (by simpa using u),Bool.true_and,List.all_map,List.all_eq_true];exact A
theorem zN(x:Ex)(cx:Id)(w:World)(hx:iv w x cx)(hok:x.ok) :
  Calls prog 46 #[.agg cx.toArray] w (Hh w (.bool (aD x))):=by
 obtain⟨k,s,kids⟩:=x;have hx':=hx;rw[iv]at hx;obtain⟨sv,rfl,hr⟩:=hx;obtain⟨p,c,rfl, -, -⟩:=hr.shape;refine(callsIn_wide (n:=9)).1 ?_;have HX:=Lib.hid hx';have HO:=Lib.hid hok;clear hx' hok hr;refine callsIn_of_wp_marks func46 rfl trivial ?_ rfl;simp only[ntmps46,ae9,ae0,aeg,Nat.reduceAdd,Nat.reduceSub,afu,afv,afw,afx,afy,afz]
 gi_wp2_with fail
 refine⟨trivial,?_⟩;refine(callsIn_wide.2 (Bj _ _ _ _ _ _)).mono ?_;rintro e w' ⟨rfl,rfl⟩
 gi_wp2_with fail
 obtain⟨bx,hbx⟩:∃bx:Obj,bx=.cells #[.int .i64 k,.string s,.slice p kids.length c] 25:=⟨_,rfl⟩;rw[<-hbx];obtain⟨W0,hW0⟩:∃W0,(((w.alloc bx).alloc (.cells #[.bool false] 4)).alloc (.cells #[.int .i64 0] 3)).alloc bx=W0:=⟨_,rfl⟩
 have hs0:W0.heap.size=w.heap.size+4:=by rw[<-hW0];simp
 have hb0:Below w.heap.size w W0:=by rw[<-hW0];exact((((Below.refl w.heap.size w).alloc (aed _) _).alloc zk _).alloc ahn _).alloc ahn _
 have hbr:W0.heap[w.heap.size+1]?=some (.cells #[.bool false] 4 (0,0)):=by rw[<-hW0];exact mf (mf (by simpa using gO (w.alloc bx) _) _) _
 have hbn:W0.heap[w.heap.size+2]?=some (.cells #[.int .i64 0] 3 (0,0)):=by rw[<-hW0];exact mf (by simpa using gO ((w.alloc bx).alloc (.cells #[.bool false] 4)) _) _
 have hbp:W0.heap[w.heap.size+3]?=some bx:=by rw[<-hW0];simpa using gO (((w.alloc bx).alloc (.cells #[.bool false] 4)).alloc (.cells #[.int .i64 0] 3)) bx
 rw[hbx]at hbp;have hseq:=wc Fence.wide (λ_=>trivial) rfl rfl 8 w.heap.size (w.heap.size+3) (w.heap.size+3) 0 zs _ _ w W0 (aed _) zd HX.out HO.out (.of hb0) hbp;rw[hW0];clear hbx
 refine QZ (lb:= #[.pointer (some ⟨w.heap.size+3,0,none⟩)]) (gf:=109) rfl (enters_of func109 zo rfl) hseq (Below.refl _ _) (λ_=>rfl)
  (λpre W=>(Below w.heap.size w W∧W.heap[w.heap.size+2]?=some (.cells #[.int .i64 pre.length] 3 (0,0))∧W.heap[w.heap.size+1]?=some (.cells #[.bool false] 4 (0,0))∧W0.heap.size<=W.heap.size)∧pre.length<=24∧∀c,c∈pre->wb c.sig=true)
  (λc pre W=>(Below w.heap.size w W∧W.heap[w.heap.size+1]?=some (.cells #[.bool false] 4 (0,0)))∧c=.ret∧(24<pre.length∨∃c,c∈pre∧wb c.sig=false))
  (((ownFrom_below (aed _) zd).and ((ml _ _ (λs:Pi=> #[.int .i64 s.length]) _).and ((ml _ _ (λ_:Pi=> #[.bool false]) _).and (λ_ _ _ _ hs hg _=>aee hs hg.size)))).and (ownFrom_pure _ _))
  (λ_=>((ownFrom_below (aed _) zd).and (ml _ _ (λ_:Pi=> #[.bool false]) _)).and (ownFrom_pure _ _))
  ⟨⟨hb0,hbn,hbr,aed _⟩,aen _,λ_ h=>by cases h⟩ 4 (λc=> #[.int .i64 c.kind,.string c.label,.slice c.ptr c.len c.cap]) 25 (λ_ _ h=>h.1.2.2.2) ?assign ?body ?done ?stop
 case assign=>
  intro l x W K hK;simp only[handed,XC.val,afB,afC,afD,afE,afF,afG,afH];simp only[handed,XC.val,Act.sd,afB,afC,afD,afE,afF,afG,afH]at hK
  gi_wp2
  exact hK
 case body=>
  rintro l pre x B W hl hrec ⟨⟨hb,hn,hr,hsz⟩,hle,hall⟩ hB hbB hlen;have hcn:=aC hn 0;have hfn:=dq hn 0;have hcr:=aC hr 0;have hfr:=dq hr 0;have hp0:=aC hbB 0;have hp1:=aC hbB 1;have hp2:=aC hbB 2;simp only[aet,afr,afs]at hcn hcr hp0 hp1 hp2
  have hB1: ¬B=w.heap.size+2:=zd
  have hB2: ¬w.heap.size+2=B:=zd
  obtain⟨W1,hW1⟩:∃W1,W1=W.setCell ⟨w.heap.size+2,0,none⟩ (.int .i64 ((pre.length:Int)+1)):=⟨_,rfl⟩
  have V:Kept w.heap.size (w.heap.size+3) 0 W W1:=by rw[hW1];exact Kept.setCell W zd zd _
  have H:KeepsFrom W0.heap.size W W1:=by rw[hW1];exact(KeepsOthers.setCell _ _ _).from _
  have q:Below w.heap.size w W1:=by rw[hW1];exact hb.setCell (p:=⟨w.heap.size+2,0,none⟩) zk _
  have U:W1.heap[w.heap.size+2]?=some (.cells #[.int .i64 ((pre++[x]).length:Nat)] 3 (0,0)):=by rw[hW1];simpa using lr hn (.int .i64 ((pre.length:Int)+1))
  have A:W1.heap[w.heap.size+1]?=some (.cells #[.bool false] 4 (0,0)):=by rw[hW1];exact fF hr _ zd
  have O:W0.heap.size<=W1.heap.size:=by rw[hW1];exact aee hsz (KeepsOthers.setCell _ _ _).size
  have HA:=Lib.hid (show _∧_∧_∧_∧_∧_ from⟨V,H,q,U,A,O⟩)
  have hzl:w.heap.size+1<W1.heap.size:=zd
  have HP:=Lib.hid (λW'=>Qw x.kind x.label x.ptr x.len x.cap W' x.hl x.hn);have HS:Hid (∀b,bP x.kind x.label x.len=b->wb x.sig=b):=λb h=>h;have HALL:=Lib.hid hall;have HB0:=Lib.hid hb;have HW1:=Lib.hid hW1;clear hb hn hr hbB V H q U A O hall hW1 hsz;simp only[handed,Act.sd,afB,afC,afD,afE,afF,afG,afH]
  by_cases h24:pre.length=24
  ·have hgt:(24:Int)<(pre.length:Int)+1:=zd
   have H24:=Lib.hid h24;clear h24;have hcr1:=aC HA.out.2.2.2.2.1 0;have hfr1:=dq HA.out.2.2.2.2.1 0;rw[HW1.out]at hcr1 hfr1;simp only[aet,afr]at hcr1
   gi_wp2_with fail
   refine⟨trivial,?_⟩
   gi_wp2
   obtain⟨V,H,q,U,A,O⟩:=HA.out;rw[HW1.out]at H q A;refine⟨H.trans ((KeepsOthers.setCell _ _ _).from _),⟨q.setCell (p:=⟨w.heap.size+1,0,none⟩) zk _,lr A _⟩,rfl,.inl (by have:=H24.out;simp;omega)⟩
  ·have hgt: ¬(24:Int)<(pre.length:Int)+1:=zd
   have H24:=Lib.hid h24;clear h24
   cases hpb:bP x.kind x.label x.len
   ·rw[hpb]at HP;have HPB:=Lib.hid (HS.out _ hpb);clear hpb
    gi_wp2_with fail
    refine⟨trivial,(CallsIn.inRound l (callsIn_wide.2 (HP.out _))).mono ?_⟩;rintro e w2 ⟨rfl,u⟩
    have hb2':Below W1.heap.size W1 w2:=by rw[HW1.out];exact u
    clear u;obtain⟨V,H,q,U,A,O⟩:=HA.out;have hr2:w2.heap[w.heap.size+1]?=some (.cells #[.bool false] 4 (0,0)):=(hb2'.block _ zd).trans A;have hcr1:=aC hr2 0;have hfr1:=dq hr2 0;simp only[aet,afr]at hcr1;have HR2:=Lib.hid hr2;have HB2:=Lib.hid hb2';clear V H q U A O hr2 hb2'
    gi_wp2
    obtain⟨V,H,q,U,A,O⟩:=HA.out;exact⟨(H.trans (o7 HB2.out)).trans ((KeepsOthers.setCell _ _ _).from _),⟨(cV q HB2.out).setCell (p:=⟨w.heap.size+1,0,none⟩) zk _,lr HR2.out _⟩,rfl,.inr ⟨x,zk,HPB.out⟩⟩
   ·rw[hpb]at HP;have HPB:=Lib.hid (HS.out _ hpb);clear hpb
    gi_wp2_with fail
    refine⟨trivial,(CallsIn.inRound l (callsIn_wide.2 (HP.out _))).mono ?_⟩;rintro e w2 ⟨rfl,u⟩
    have HB2:Hid (Below W1.heap.size W1 w2):=by show Below _ _ _;rw[HW1.out];exact u
    clear u
    gi_wp2
    obtain⟨V,H,q,U,A,O⟩:=HA.out;have u:=HB2.out;refine⟨H.trans (o7 u),V.trans (Kept.below u),⟨cV q u,(u.block _ zd).trans U,(u.block _ zd).trans A,aee O u.size⟩,by have:=H24.out;simp;omega,?_⟩;intro c hc
    rcases List.mem_append.1 hc with hc|hc
    ·exact HALL.out c hc
    ·rw[List.mem_singleton.1 hc];exact HPB.out
 case done=>
  rintro D xs W hD hS ⟨⟨hb,hn,hr,hsz⟩,hle,hall⟩ hK;have hcr:=aC hr 0;have hfr:=dq hr 0;simp only[aet,afr]at hcr;have Y:=Cw hS hle hall;have HF:=Lib.hid Y;have HR:=Lib.hid hr;have HB:=Lib.hid hb;have HK:=Lib.hid hK;have HD:=Lib.hid hD;have H0:=Lib.hid hs0;clear hb hn hr hsz hle hall hK hD hS Y hW0 hb0 hbr hbn hbp hseq hs0
  gi_wp2
  have hD:=HD.out;have h0:=H0.out;have hKs:=fF HK.out (b:=w.heap.size+1) (o:=0) (.bool true) zd;refine⟨zk,.inl ⟨_,_,rfl,run_takeDeferred hKs,?_⟩⟩;have hbx:=fE (lr HR.out (.bool true)) (.deferred none) (D:=D) zd;have hcf:=aC hbx 0;simp only[aet,afr]at hcf
  refine⟨.bool true,?_,cK rfl HF.out.symm ?_⟩
  ·simp[results,results46,go_sem,hcf]
  ·exact nK (HB.out.setCell (p:=⟨w.heap.size+1,0,none⟩) (Nat.le_succ _) _) zd _ hKs
 case stop=>
  rintro D c pre W hD hSp ⟨⟨hb,hr⟩,rfl,hq⟩ hK;have Y:=Cx hSp hq;have HF:=Lib.hid Y;have HR:=Lib.hid hr;have HB:=Lib.hid hb;have HK:=Lib.hid hK;have HD:=Lib.hid hD;have H0:=Lib.hid hs0;clear hb hr hK hD hSp hq Y hW0 hb0 hbr hbn hbp hseq hs0
  gi_wp2
  have hD:=HD.out;have h0:=H0.out;refine⟨zk,.inl ⟨_,_,rfl,run_takeDeferred HK.out,?_⟩⟩;have hbx:=fE HR.out (.deferred none) (D:=D) zd;have hcf:=aC hbx 0;simp only[aet,afr]at hcf
  refine⟨.bool false,?_,cK rfl HF.out.symm ?_⟩
  ·simp[results,results46,go_sem,hcf]
  ·exact nK HB.out zd _ HK.out
end
def Ao(x:Ex):Prop:=∀(y:Ex)(cx cy:Id)(w:World),iv w x cx->iv w y cy ->
 Calls prog 42 #[.agg cx.toArray,.agg cy.toArray] w (Hh w (.bool (jb x y)))
theorem DM(xs:IO)(hx:∀x,x∈xs->Ao x)(ys:IO)(vx vy:Value)(w:World)(h1:kL w xs vx)(h2:kL w ys vy) :
  Calls prog 72 #[vx,vy] w (Hh w (.bool (mi xs ys))):=by
 rw[rM];obtain⟨p,c,rfl,hc1,hc2⟩:=h1.shape;obtain⟨q,d,rfl,hd1,hd2⟩:=h2.shape;unfold maxLen at hc2 hd2
 by_cases hl:xs.length=ys.length
 ·have H1:=Lib.hid h1;have H2:=Lib.hid h2;have HX:=Lib.hid hx;have HL:=Lib.hid hl
  have hne:(((xs.length:Nat):Int) !=((ys.length:Nat):Int))=false:=by simp[hl]
  clear h1 h2 hx hl
  go_enter func72,ntmps72
  go_wp2_with fail
  go_loopw [4,5] (λr i wr=>∃k:Nat,k<=xs.length∧r=.bool false∧i=.int .i64 k∧Below w.heap.size w wr∧∀j(h:j<k)(h':j<xs.length)(h'':j<ys.length),jb xs[j] ys[j]=true) (λ_ i _=>xs.length-(intOf i).toNat)
  case atStart=>exact⟨0,aen _,rfl,rfl,Below.refl _ _,λj h=>zd⟩
  case round=>
   obtain⟨k,hk,rfl,rfl,hb,hP⟩:=hrel;have HP:=Lib.hid hP;clear hP
   by_cases Y:k<xs.length
   ·have u:k<ys.length:=by have:=HL.out;omega
    obtain⟨b1,o1,k1,s1,l1,v1,rfl,U,W,a0,a1,a2⟩:=(H1.out.below hb).at Y;obtain⟨b2,o2,k2,s2,l2,v2,rfl,O,V,c0,c1,c2⟩:=(H2.out.below hb).at u;have HC:=Lib.hid (HX.out xs[k] (List.getElem_mem _) ys[k] [.int .i64 k1,.string s1,v1] [.int .i64 k2,.string s2,v2] wr.drew (by rw[U,iv];exact⟨v1,rfl,W.below (dE wr)⟩) (by rw[O,iv];exact⟨v2,rfl,V.below (dE wr)⟩));clear U W O V
    cases H:jb xs[k] ys[k]
    ·rw[H]at HC;have HS:=Lib.hid H;clear H
     go_wp2_with fail
     go_still_tail 8,zo
     change wpList _ _ _ _ _ wr.drew
     go_wp2_with fail
     refine HC.out.mono ?_;rintro e w' ⟨rfl,A⟩
     go_wp2_with fail
     go_ret
     exact cK rfl (SG Y u HS.out).symm (cV hb (Below.RM A))
    ·rw[H]at HC;have HS:=Lib.hid H;clear H
     go_wp2_with fail
     go_still_tail 8,zo
     change wpList _ _ _ _ _ wr.drew
     go_wp2_with fail
     refine HC.out.mono ?_;rintro e w' ⟨rfl,A⟩
     go_wp2_with fail
     go_roundw
     case rel=>exact⟨k+1,zd,rfl,by go_num,cV hb (Below.RM A),λj h h' h''=>by
      by_cases e:j=k
      ·subst e;exact HS.out
      ·exact HP.out j zd h' h''⟩
     case measure=>simp[intOf];omega
   ·go_wp2_with fail
    go_ret
    have hk':k=xs.length:=zd
    exact cK rfl (sF.2 ⟨HL.out,λi h h'=>HP.out i zd h h'⟩).symm hb
 ·have hne:(((xs.length:Nat):Int) !=((ys.length:Nat):Int))=true:=ahn
  clear h1 h2 hx;rw[Oh hl];clear hl
  go_enter func72,ntmps72
  go_wp2_with fail
  go_ret
  exact⟨rfl,Below.refl _ _⟩
theorem DK(x:Ex):Ao x:=by
 induction x using Ex.ind with
 |h k s l ih=>
  intro y cx cy w A u;obtain⟨V,s',U⟩:=y;rw[iv]at A u;obtain⟨vx,rfl,A⟩:=A;obtain⟨vy,rfl,u⟩:=u;rw[jb];have HB:∀o o',Below w.heap.size w ((w.alloc o).alloc o'):=λo o'=>((Below.refl _ _).alloc (aed _) o).alloc zk o'
  cases Y:k==V
  ·clear ih A u;rw[afA,afA];have q:=Lib.hid HB;clear HB
   go_enter func42,ntmps42
   go_wp2_with fail
   go_ret
   exact cK rfl rfl (q.out _ _)
  ·cases W:s.toList==s'.toList
   ·clear ih A u;rw[Bool.and_false,afA];have q:=Lib.hid HB;clear HB
    go_enter func42,ntmps42
    go_wp2_with fail
    go_ret
    exact cK rfl rfl (q.out _ _)
   ·rw[Bool.and_true,Bool.true_and];have HC:=Lib.hid (λw'(O:Below w.heap.size w w')=>DM l ih U vx vy w' (A.below O) (u.below O));have q:=Lib.hid HB;clear ih A u HB
    go_enter func42,ntmps42
    go_wp2_with fail
    refine(HC.out _ (q.out _ _)).mono ?_;rintro e w' ⟨rfl,H⟩
    go_wp2_with fail
    go_ret
    exact cK rfl rfl (cV (q.out _ _) H)
section
open Go.RowKit
end
section
open Go.RowKit
end
section
open Go.RowKit
end
def aaH(f:FuncId)(cap:Id)(q:qV->Bool)(w:World):Prop:=∀(x:qV)(k:Int)(s:ByteArray)(l:IO)(v:Value)(W:World),Below w.heap.size w W->x.ok->x.expr=.mk k s l->kL W l v ->
 Calls prog f (.agg #[.string x.bN,.string x.to,.bool x.path,.string x.label,.string x.name,.int .i64 k,.string s,v]::cap).toArray W (Hh W (.bool (q x)))
def aaF(f:FuncId)(cap:Id)(q:JF->Bool)(w:World):Prop:=∀(x:JF)(W:World),Below w.heap.size w W->x.ok ->
 Calls prog f (.agg #[.int .i64 x.op,.int .i64 x.left.kind,.string x.left.name,.string x.left.key,.int .i64 x.left.val.kind,.int .i64 x.left.val.num,.string x.left.val.text,.int .i64 x.right.kind,.string x.right.name,.string x.right.key,.int .i64 x.right.val.kind,.int .i64 x.right.val.num,.string x.right.val.text]::cap).toArray W (Hh W (.bool (q x)))
def aaG(f:FuncId)(cap:Id)(q:zO->Bool)(w:World):Prop:=∀(x:zO)(W:World),Below w.heap.size w W->x.ok ->
 Calls prog f (.agg #[.int .i64 x.kind,.string x.name,.string x.key,.int .i64 x.val.kind,.int .i64 x.val.num,.string x.val.text]::cap).toArray W (Hh W (.bool (q x)))
section
variable {P:Program}
theorem dS{s:AS}{k i j:Nat}{ob:aa}{row:C5}(T':TypeId)(U:Nat)(hz':0<U)(hk:s.o[k]?=some (some ob))(hz:0<ob.z)(hr:ob.rows[i]?=some row)(hj:row[j]?=some (.v (.slice none 0 0))) :
  Ek s (AS.mk s.t ((s.o++[some (aa.mk T' U true [])]).set k (some {ob with rows:=ob.rows.set i (row.set j (.vec s.o.length 0))})) s.y):=by
 intro f D nu a w hs
 have hv:∀b,dW (Value.slice none 0 0)=some b->w.heap.size<=b:=λb e=>by cases e
 have hp:=iP (nu:=nu) (o:=s.o) (ob:=⟨T',U,true,[]⟩) (Below.refl w.heap.size w) hv;have hro:=oD (ob:=⟨T',U,true,[]⟩) hs.ro (Below.refl _ _) hv (.inl ⟨rfl,rfl,rfl⟩);have hlt:=(aek.1 hk).1
 have hk':(s.o++[some (⟨T',U,true,[]⟩:aa)])[k]?=some (some ob):=by rw[List.getElem?_append_left hlt];exact hk
 have hh:ob.hl=({ob with rows:=ob.rows.set i (row.set j (.vec s.o.length 0))}:aa).hl:=by simp[aa.hl]
 obtain⟨g,cur,u⟩:∃g cur,B8 D (iB nu s.o.length (.slice none 0 0)) (s.o++[some ⟨T',U,true,[]⟩]) w k ob g cur:=by
  rcases hro.obj k ob hk' with⟨_,e,_⟩|h|⟨g,es,cl,Y⟩
  ·rw[e]at hr;simp at hr
  ·exact h
  ·have:=Y.z;omega
 have Y:=kp (nu:=iB nu s.o.length (.slice none 0 0)) (o:=s.o++[some ⟨T',U,true,[]⟩]) (w:=w) (w':=w) (ob':={ob with rows:=ob.rows.set i (row.set j (.vec s.o.length 0))}) hk' hh.symm u.b8 rfl rfl rfl rfl (λ_ _=>rfl);refine⟨iB nu s.o.length (.slice none 0 0),hp.trans Y,rfl,?_,(hs.tm.mono hp (λ_ _ h=>h)).mono Y (λ_ _ h=>h),hs.mh⟩;have hil:=(aek.1 hr).1;have hjl:=(aek.1 hj).1
 have key:∀(q A:Nat)r c,(ob.rows.set i (row.set j (.vec s.o.length 0)))[q]?=some r->r[A]?=some c->∃r0 c0,ob.rows[q]?=some r0∧r0[A]?=some c0∧(c=c0∨(c=.vec s.o.length 0∧c0=.v (.slice none 0 0))):=by
  intro q A r c V O
  by_cases hi:i=q
  ·subst hi;rw[aew hil]at V;cases V
   by_cases hj':j=A
   ·subst hj';rw[aew hjl]at O;cases O;exact⟨row,_,hr,hj,.inr ⟨rfl,rfl⟩⟩
   ·rw[aex hj']at O;exact⟨row,c,hr,O,.inl rfl⟩
  ·rw[aex hi]at V;exact⟨r,c,V,O,.inl rfl⟩
 refine sg hro hk' hh.symm u.b8 Y (λ_ _=>rfl) (cur:=cur) ⟨u.ez,u.o4,λW=>?_,λW=>?_,u.z,λq r H=>?_,λq A r c x V O h3=>?_,λq A r c x V O h3=>?_⟩
 ·obtain⟨q1,q2,q3⟩:=u.box W;exact⟨q1,by simpa using q2,q3⟩
 ·obtain⟨cap,q1,q2,q3,q4⟩:=u.vec W;exact⟨cap,by simpa using q1,by simpa using q2,q3,q4⟩
 ·by_cases hi:i=q
  ·subst hi;rw[aew hil]at H;cases H;rw[List.length_set];exact u.row i row hr
  ·rw[aex hi]at H;exact u.row q r H
 ·obtain⟨r0,c0,k1,k2,e⟩:=key q A r c V O;have h0:=u.cell q A r0 c0 x k1 k2 h3
  rcases e with rfl|⟨rfl,rfl⟩
  ·exact h0.mono Y (λ_ _ h=>h)
  ·obtain rfl:=h0.di
   have:=RA.vec (D:=D) (nu:=iB nu s.o.length (.slice none 0 0)) (o:=(s.o++[some (⟨T',U,true,[]⟩:aa)])) (w:=w) s.o.length 0 ⟨_,List.getElem?_concat_length,λx hx=>aen _⟩ (by rw[bX];rfl)
   rw[bX]at this;exact this.mono Y (λ_ _ h=>h)
 ·obtain⟨r0,c0,k1,k2,_⟩:=key q A r c V O;exact u.one q A r0 c0 x k1 k2 h3
end
def adX(l:B0):List C5:=l.map (λs=>[.v (.string s)])
structure jW where
 d:Tmp
 k:Nat
 e:TypeId
 z:Nat
 n:Nat
 zc:C5
 bx:Bool:=false
abbrev UV:=List jW
def jW.ob(m:jW):aa:=⟨m.e,m.z, !m.bx,List.replicate m.n m.zc⟩
def jW.av(m:jW)(id:Nat):AV:=if m.bx then .ptr id 0 m.z 0 0 else .vec id m.n
def jW.val(m:jW)(b cap:Nat):Value:=if m.bx then .pointer (some ⟨b,0,none⟩)else .slice (some ⟨b,0,none⟩) m.n cap
theorem jW.aaz(m:jW)(b cap:Nat):dW (m.val b cap)=some b:=by unfold jW.val;split<;>rfl
theorem jW.vC(m:jW)(b cap:Nat):cW (m.val b cap)=some b:=by unfold jW.val;split<;>rfl
def D7(n0:Nat)(m:jW)(v:Value)(w:World):Prop:=∃b cap cur,v=m.val b cap∧n0<=b∧w.heap[b]?=some (.cells cur m.e (0,0))∧m.n<=cap∧cap<=maxLen∧cur.size=cap*m.z∧0<m.z∧m.zc.length=m.z∧(m.bx=true->m.n=1∧cap=1) ∧
 ∀(i j:Nat)c x,i<m.n->m.zc[j]?=some c->cur[i*m.z+j]?=some x->c=.v x∧x.oneCell'=true
theorem D7.below{n0:Nat}{m:jW}{v:Value}{w w':World}(u:Below w.heap.size w w')(h:D7 n0 m v w):D7 n0 m v w':=by
 obtain⟨b,cap,cur,O,H,q,A⟩:=h;exact⟨b,cap,cur,O,H,(u.block b (Array.getElem?_eq_some_iff.1 q).1).trans q,A⟩
section
variable {D:Nat->Prop} {nu:EQ} {o:AC} {w:World} {P:Program}
def NG(nu:EQ)(N:Nat)(h:Nat->Value):EQ:=λid len=>if id<N then nu id len else h (id-N)
theorem kW{N:Nat}{h:Nat->Value}{id len:Nat}(hl:id<N):NG nu N h id len=nu id len:=by grind[NG]
theorem kV{N:Nat}{h:Nat->Value}{i len:Nat}:NG nu N h (N+i) len=h i:=by rw[NG,if_neg zd,Nat.add_sub_cancel_left]
theorem OH{w0:World}(u:RO D nu o w0)(O:Below w0.heap.size w0 w)(ms:UV)(h:Nat->Value)(hm:∀i m,ms[i]?=some m->D7 w0.heap.size m (h i) w)
  (hne:∀i j,i<ms.length->j<ms.length->i≠j->∀b,cW (h i)=some b->cW (h j)≠some b) :
  cf nu o w0 (NG nu o.length h) (o++ms.map (λm=>some m.ob)) w∧RO D (NG nu o.length h) (o++ms.map (λm=>some m.ob)) w∧∀i m,ms[i]?=some m->RA D (NG nu o.length h) (o++ms.map (λm=>some m.ob)) w (m.av (o.length+i)) (h i):=by
 have oy:∀id,id<o.length->(o++ms.map (λm=>some m.ob))[id]?=o[id]? :=λid hl=>List.getElem?_append_left hl
 have new:∀id ob,o.length<=id->(o++ms.map (λm=>some m.ob))[id]?=some (some ob)->∃i m,id=o.length+i∧ms[i]?=some m∧ob=m.ob:=λid ob hl hh=>by
  grind
 have ez:∀i m,ms[i]?=some m->∃b,w0.heap.size<=b∧dW (h i)=some b∧cW (h i)=some b:=λi m hi=>by
  obtain⟨b,cap,cur,q,A,_⟩:=hm i m hi;exact⟨b,A,by rw[q];exact m.aaz b cap,by rw[q];exact m.vC b cap⟩
 have hmo:cf nu o w0 (NG nu o.length h) (o++ms.map (λm=>some m.ob)) w:=by
  refine⟨O.os,O.tape,O.output,O.size,λid len hh=>⟨?_,kW (j9 hh)⟩,λb hlt hno=>⟨O.block b hlt,?_⟩⟩
  ·obtain⟨x,q,A⟩:=hh;exact⟨x,by grind,A⟩
  ·rintro⟨id,ob,q,A⟩
   rcases aei id o.length with hl|hl
   ·rw[oy id hl]at q;rw[kW hl]at A;exact hno ⟨id,ob,q,A⟩
   ·obtain⟨i,m,rfl,hi,rfl⟩:=new id ob hl q;rw[kV]at A
    grind
 have row:∀i m,ms[i]?=some m->∃g cur,B8 D (NG nu o.length h) (o++ms.map (λm=>some m.ob)) w (o.length+i) m.ob g cur:=λi m hi=>by
  obtain⟨b,cap,cur,q,A,W,h4,h5,h6,h7,h8,h10,h9⟩:=hm i m hi
  have inr:∀(V:Nat)r,(List.replicate m.n m.zc)[V]?=some r->V<m.n∧r=m.zc:=λV r U=>by
   grind
  refine⟨b,cur,W,u.up b A,λe=>?_,λe=>⟨cap,?_,?_,h5,h6⟩,h7,λV r U=>?_,λV j r c x q1 q2 q3=>?_,λV j r c x q1 q2 q3=>?_⟩
  ·have O:m.bx=true:=by grind[jW.ob]
   obtain⟨k1,k2⟩:=h10 O;refine⟨by rw[kV,q,jW.val,if_pos O],by grind[jW.ob],?_⟩;rw[h6,k2,Nat.one_mul];rfl
  ·have O:m.bx=false:=by grind[jW.ob]
   rw[kV,q,jW.val,O];simp[jW.ob]
  ·grind[jW.ob]
  ·obtain⟨_,rfl⟩:=inr V r U;exact h8
  ·obtain⟨hl,rfl⟩:=inr V r q1;obtain⟨rfl,_⟩:=h9 V j c x hl q2 q3;exact .v _
  ·obtain⟨hl,rfl⟩:=inr V r q1;exact(h9 V j c x hl q2 q3).2
 refine⟨hmo,⟨λid ob ho=>?_,λb hlt=>u.up b (Nat.le_trans O.size hlt),λid H ob1 ob2 b q A hd W h4=>?_,u.gl.mono hmo (λ_ _ h=>h)⟩,λi m hi=>?_⟩
 ·rcases aei id o.length with hl|hl
  ·rw[oy id hl]at ho
   rcases u.obj id ob ho with⟨e1,e2,e3⟩|⟨g,cur,U⟩|⟨g,es,cl,hmp⟩
   ·grind[kW]
   ·refine .inr (.inl ⟨g,cur,(O.block g (u.bL ⟨id,ob,ho,U.b8⟩)).trans U.ez,U.o4,λe=>?_,λe=>?_,U.z,U.row,λi j row c x q A W=>(U.cell i j row c x q A W).mono hmo (λ_ _ h=>h),U.one⟩)
    ·rw[kW hl];exact U.box e
    ·rw[kW hl];exact U.vec e
   ·exact .inr (.inr ⟨g,es,cl,hmp.tr (O.block g (u.bL ⟨id,ob,ho,hmp.b8⟩)) (λh=>h) (kW hl) (λi j row c x _ _ U=>U.mono hmo (λ_ _ h=>h))⟩)
  grind
 ·rcases aei id o.length with l1|l1
  ·rw[oy id l1]at q;rw[kW l1]at W
   rcases aei H o.length with Y|Y
   ·rw[oy H Y]at A;rw[kW Y]at h4;exact u.sep id H ob1 ob2 b q A hd W h4
   ·obtain⟨i,m,rfl,hi,rfl⟩:=new H ob2 Y A;rw[kV]at h4;obtain⟨b',q1,q2,_⟩:=ez i m hi;rw[q2]at h4;cases h4
    have:=u.bL ⟨id,ob1,q,W⟩
    omega
  ·obtain⟨i,m,rfl,hi,rfl⟩:=new id ob1 l1 q;rw[kV]at W;obtain⟨b',q1,q2,q3⟩:=ez i m hi;rw[q2]at W;cases W
   rcases aei H o.length with Y|Y
   ·rw[oy H Y]at A;rw[kW Y]at h4
    have:=u.bL ⟨H,ob2,A,h4⟩
    omega
   ·obtain⟨j,m',rfl,hj,rfl⟩:=new H ob2 Y A;rw[kV]at h4
    grind
 ·obtain⟨b,cap,cur,q,_⟩:=hm i m hi
  have hg:(o++ms.map (λm=>some m.ob))[o.length+i]?=some (some m.ob):=by grind
  cases O:m.bx
  ·have:=RA.vec (D:=D) (nu:=NG nu o.length h) (o:=o++ms.map (λm=>some m.ob)) (w:=w) (o.length+i) m.n ⟨some m.ob,hg,λx hx=>by grind[aa.hl,jW.ob]⟩ (by rw[kV,q,jW.val,O];rfl)
   grind[kV,jW.av]
  ·have:=RA.ptr (D:=D) (nu:=NG nu o.length h) (o:=o++ms.map (λm=>some m.ob)) (w:=w) (o.length+i) 0 m.z 0 0 b ⟨some m.ob,hg,λx hx=>Nat.zero_le _⟩ (by rw[kV,q];exact m.vC b cap)
   grind[jW.av,jW.val]
def mkT:C5->Nat->UV->C5
 |t,_,[]=>t
 |t,N,m::l=>mkT (t.set m.d (m.av N)) (N+1) l
def Dn(s:AS)(ms:UV):AS:=⟨mkT s.t s.o.length ms,s.o++ms.map (λm=>some m.ob),s.y⟩
def AV.YO:AV->AV
 | .v x=> .v x
 | .ptr a b c d e=> .ptr a b c d e
 | .vec a b=> .vec a b
 | .agg cs=>if AV.flat (.agg cs)then .agg cs else .undef
 | .ju _ (.v x)=> .v x
 |_=> .undef
theorem RA.YO{D':Nat->Prop}{nu':EQ}{o':AC}{w':World}(A:∀id len,fg o id len->fg o' id len∧nu' id len=nu id len){c:AV}{x:Value}(h:RA D nu o w c x):RA D' nu' o' w' c.YO x:=by
 cases h with
 |v=>exact .v _
 |ptr id len z row off b q u=>exact .ptr id len z row off b (A _ _ q).1 (by grind)
 |vec id len q u=>
  rw[<-(A _ _ q).2]at u⊢;exact .vec id len (A _ _ q).1 u
 |agg cs xs q u H=>
  simp only[AV.YO]
  split
  ·rename_i hf;exact(RA.agg cs xs q u H:RA D nu o w _ _).flat hf
  ·exact .undef _
 |ju p a x S U q O u H=>
  cases a with
  |v y=>cases H;exact .v _
  |_=>exact .undef _
 |_=>exact .undef _
def OG:ac->C5->C5
 | [],t=>t
 |d::ds,t=>OG ds (t.set d (t.getD d .undef).YO)
def Cj(P:Program)(T:TypeId)(n c:AV):Option (Prop×TypeId×Nat×Nat×C5):=
 match P.underlying T,n,c with
 |some (.slice e),.v (.int _ l),.v (.int _ m)=>match jO P T,de P e with
  |some (_,z,bytes),some zr=>some (0<=l∧l<=m∧m.toNat*bytes<=140737488355328∧m.toNat<=140737488355328,e,z,l.toNat,zr)
  |_,_=>none
 |_,_,_=>none
theorem Aq{T:TypeId}{n c:AV}{x y:Value}(hx:RA D nu o w n x)(hy:RA D nu o w c y){p:Prop}{e:TypeId}{z l:Nat}{zr:C5}(hl:Cj P T n c=some (p,e,z,l,zr))(hp:p)(d:Tmp)(k:Nat) :
  ∃v w',(Instr.makeSlice T x y).run P w=.ok v w'∧Below w.heap.size w w'∧D7 w.heap.size ⟨d,k,e,z,l,zr,false⟩ v w':=by
 unfold Cj at hl
 split at hl
 ·rename_i e0 kl Y kc m hu
  split at hl
  ·rename_i e2 z0 bytes zr0 ht hz;simp only[aep,aeq]at hl;obtain⟨rfl,rfl,rfl,rfl,rfl⟩:=hl;obtain⟨h1,h2,h3,h4⟩:=hp;obtain⟨H,i,zv,hi,A,hzs,W,hsize,hbytes⟩:=gw ht;rw[hu]at H;cases H;obtain⟨i',zv',U,hzv',rfl,hone⟩:=iA hz;rw[hi]at U;cases U;rw[A]at hzv';cases hzv';cases hx;cases hy
   have hr:=run_make (P:=P) w T e0 i zv hu hi A kl kc Y m h1 h2 (by
    grind) zd
   rw[hr];refine⟨_,_,rfl,(Below.refl _ _).alloc (aed _) _,w.heap.size,m.toNat,_,rfl,aed _,heap_alloc_new w _,by grind,by grind[maxLen],by grind[size_madeCells],W,by grind,λe=>(by cases e),λi1 j c x q0 q V=>?_⟩
   replace q0:i1<Y.toNat:=q0
   replace q:(zv.cells.toList.map AV.v)[j]?=some c:=q
   rw[List.getElem?_map]at q
   cases hq:zv.cells.toList[j]? with
   |none=>grind
   |some u=>
    rw[hq]at q;cases q
    have hjl:j<zv.cells.size:=by grind
    have O:i1*z0+j<m.toNat*i.size:=by rw[hsize];exact rQ zd zd
    have hmod:(i1*z0+j) % zv.cells.size=j:=by grind[te]
    replace V:(madeCells zv.cells (m.toNat*i.size))[i1*z0+j]?=some x:=V
    simp only[madeCells,Array.getElem?_map,Array.getElem?_range,if_pos O,Option.map_some,aep]at V
    grind
  ·cases hl
 ·cases hl
def Cc(P:Program)(T:TypeId):Option (Prop×TypeId×Nat×Nat×C5):=
 match de P T with
 |some zr=>if 0<zr.length then some (True,T,zr.length,1,zr)else none
 |none=>none
theorem Ln{T:TypeId}{p:Prop}{e:TypeId}{z l:Nat}{zr:C5}(hl:Cc P T=some (p,e,z,l,zr))(d:Tmp)(k:Nat) :
  ∃v w',(Instr.alloc T true (.tuple #[])).run P w=.ok v w'∧Below w.heap.size w w'∧D7 w.heap.size ⟨d,k,e,z,l,zr,true⟩ v w':=by
 unfold Cc at hl
 split at hl
 ·rename_i A hz
  split at hl
  ·rename_i u;simp only[aep,aeq]at hl;obtain⟨-,rfl,rfl,rfl,rfl⟩:=hl;obtain⟨i,zv,hi,H,W,U⟩:=iA hz
   have O:(zeroValue T).run P w=.ok zv w:=by simp[zeroValue,typeInfo,hi,H]
   have q:(Instr.alloc T true (.tuple #[])).run P w=.ok (.pointer (some ⟨w.heap.size,0,none⟩)) (w.alloc (.cells zv.cells T)):=by
    simp[Instr.alloc,newVar,newRow,O]
   rw[q]
   have V:zv.cells.size=A.length:=by rw[W];simp
   refine⟨_,_,rfl,(Below.refl _ _).alloc (aed _) _,w.heap.size,1,zv.cells,rfl,aed _,heap_alloc_new w _,aed _,by grind[maxLen],by grind,u,rfl,λ_=>⟨rfl,rfl⟩,λi1 j c x q0 q1 Y=>?_⟩
   grind
  ·cases hl
 ·cases hl
def Sl(g:Option (Nat×Bool))(d:Option Tmp)(N:Nat)(x:Option (Prop×TypeId×Nat×Nat×C5))(K:Tmp->TypeId->Nat->Nat->C5->Prop):Prop:=match g,d,x with
 |none,some d,some (p,e,z,n,zc)=>(p∧d<N)∧K d e z n zc
 |_,_,_=>False
theorem NT(d N:Nat)(p:Prop)(e:TypeId)(z n:Nat)(zc:C5)(K:Tmp->TypeId->Nat->Nat->C5->Prop):Sl none (some d) N (some (p,e,z,n,zc)) K=((p∧d<N)∧K d e z n zc):=rfl
@[congr] theorem Xz{g:Option (Nat×Bool)}{d:Option Tmp}{N q:Nat}{x x':Option (Prop×TypeId×Nat×Nat×C5)}{K:Tmp->TypeId->Nat->Nat->C5->Prop}(h:N=q)(k:x=x'):Sl g d N x K=Sl g d q x' K:=by rw[h,k]
def il(P:Program)(all tail:GE):GE->Nat->AS->UV->ac->(AS->Prop)->Prop
 | [],_,s,ms,ds,Q=>fZ P all tail (Dn ⟨OG ds s.t,s.o,s.y⟩ ms) Q
 |oo::rest,k,s,ms,ds,Q=>match oo.op with
  | .makeSlice T n c=>Sl oo.guard oo.dst s.t.length (Cj P T (s.ev n) (s.ev c)) (λd e z l zc=>il P all tail rest (k+1) (s.put (some d) .undef s.o) (ms++[⟨d,k,e,z,l,zc,false⟩]) ds Q)
  | .alloc T=>Sl oo.guard oo.dst s.t.length (Cc P T) (λd e z l zc=>il P all tail rest (k+1) (s.put (some d) .undef s.o) (ms++[⟨d,k,e,z,l,zc,true⟩]) ds Q)
  |_=>match oo.guard with
   |none=>dM P oo.op s (λr=>il P all tail rest (k+1) (s.put oo.dst r s.o) ms (oo.dst.toList++ds) Q)
   |some (j,want)=>Aj (nV all s j) want (dM P oo.op s (λr=>il P all tail rest (k+1) (s.put oo.dst r s.o) ms (oo.dst.toList++ds) Q)) (il P all tail rest (k+1) (s.put oo.dst (.v Go.undef) s.o) ms (oo.dst.toList++ds) Q)
structure adQ(l:GE)(s:AS)(a:Act)(k:Nat)(sk:AS)(rs:List (AV×Option jW))(A:(Nat->Value)->Act)(ms:UV)(ds:ac):Prop extends NY l s a k sk (rs.map Prod.fst) A where
 row:∀m,m∈ms->m.k<k∧rs[m.k]?=some (.undef,some m)∧(∃oi,l[m.k]?=some oi∧oi.dst=some m.d)∧∀x,(A x).tmps[m.d]?=some (x m.k)
 nod:(ms.map jW.k).Nodup
 ad7:∀(i:Nat)r m,rs[i]?=some (r,some m)->r=.undef
 dst:∀(i:Nat)(oi:Oper)d r,i<k->l[i]?=some oi->oi.dst=some d->rs[i]?=some (r,none)->d∈ds
def sC:AC->C5->Option (Prop×C5×AC)
 |o,[]=>some (True,[],o)
 |o,.vec id len::l=>match o[id]? with
  |some (some ob)=>match sC (o.set id none) l with
   |some (p,m,o')=>some ((ob.fc=true∧ob.rows.length=len∧bE 0 ob.rows=true)∧p,.aA ob.z ob.rows len::m,o')
   |none=>none
  |_=>none
 |o,a::l=>match sC o l with
  |some (p,m,o')=>some (a.wf 0=true∧p,a::m,o')
  |none=>none
theorem uU:∀(args:C5){o:AC}{p:Prop}{args':C5}{o':AC},sC o args=some (p,args',o')->p->RO D nu o w->cf nu o w nu o' w∧RO D nu o' w∧args.length=args'.length ∧
  ∀(i:Nat)a b x,args[i]?=some a->args'[i]?=some b->RA D nu o w a x->RA D nu o' w b x
 | [],o,p,args',o',u,hp,h=>by
  simp only[sC,aep,aeq]at u;obtain⟨rfl,rfl,rfl⟩:=u;exact⟨.refl _ _ _,h,rfl,λi a b x h=>by simp at h⟩
 |a::l,o,p,args',o',u,hp,h=>by
  have plain:(match sC o l with
   |some (p,m,o')=>some (a.wf 0=true∧p,a::m,o')
   |none=>none)=some (p,args',o')->cf nu o w nu o' w∧RO D nu o' w∧(a::l).length=args'.length∧∀(i:Nat)c b x,(a::l)[i]?=some c->args'[i]?=some b->RA D nu o w c x->RA D nu o' w b x:=λu=>by
   cases O:sC o l with
   |none=>rw[O]at u;cases u
   |some y=>
    obtain⟨q,m,o2⟩:=y;rw[O]at u;simp only[aep,aeq]at u;obtain⟨rfl,rfl,rfl⟩:=u;obtain⟨U,k2,Y,W⟩:=uU l O hp.2 h;refine⟨U,k2,by simp[Y],λi c b x H A V=>?_⟩
    cases i with
    |zero=>simp at H A;subst H;subst A;exact V.mono U (λ_ _ h=>h)
    |succ i=>exact W i c b x (by simpa using H) (by simpa using A) V
  cases a with
  |vec id len=>
   simp only[sC]at u
   split at u
   ·rename_i ob ho
    cases O:sC (o.set id none) l with
    |none=>rw[O]at u;cases u
    |some y=>
     obtain⟨q,m,o2⟩:=y;rw[O]at u;simp only[aep,aeq]at u;obtain⟨rfl,rfl,rfl⟩:=u;obtain⟨⟨hv,rfl,hw⟩,hq⟩:=hp;have hm:=fh (nu:=nu) (o:=o) (w:=w) id;obtain⟨U,k2,Y,W⟩:=uU l O hq (n3 h id);refine⟨hm.trans U,k2,by simp[Y],λi c b x H A V=>?_⟩
     cases i with
     |zero=>
      simp at H A;subst H;subst A;cases V;exact(my h ho hv).mono U (λ_ _ h=>h)
     |succ i=>exact W i c b x (by simpa using H) (by simpa using A) (V.mono hm (λ_ _ h=>h))
   ·cases u
  |_=>exact plain u
theorem ah.Wq{f:FuncId}{args args':C5}{o':AC}{r:AV}{p:Prop}{K:AV->AC->Prop}(h:aj P f args' r)(hz:sC o args=some (p,args',o'))(hp:p)(k:K r o'):ah P f args o K:=by
 refine .inr (.inr ⟨h.2.1,λD nu w vargs u q=>?_⟩);obtain⟨Y,A,W,V⟩:=uU args hz hp u
 refine(rI h A ⟨by rw[<-W];exact q.len,λi c x U O=>?_⟩).mono ?_
 ·have hi:i<args.length:=by grind
  exact V i _ c x (aes hi) U (q.at' i _ x (aes hi) O)
 ·rintro e w' ⟨v,rfl,H,hr⟩;exact⟨v,nu,o',r,rfl,Y.trans (aH H),A.below H,hr,k⟩
theorem fP{s:AS}(i id:Nat){len:Nat}{ob:aa}(hi:s.t[i]?=some (.vec id len))(V:s.o[id]?=some (some ob))(O:ob.fc=true)(hl:ob.rows.length=len):Ek s (AS.mk (s.t.set i (.aA ob.z ob.rows len)) (s.o.set id none) s.y):=by
 intro f D nu a w hs;have A:=fh (nu:=nu) (o:=s.o) (w:=w) id;refine⟨nu,A,rfl,n3 hs.ro id,⟨by simpa using hs.tm.len,λj c x u H=>?_⟩,hs.mh⟩
 by_cases q:i=j
 ·subst q;rw[List.getElem?_set_self (aek.1 hi).1]at u;cases u;have U:=hs.tm.at' i _ x hi H;subst hl;cases U;exact my hs.ro V O
 ·rw[List.getElem?_set_ne q]at u;exact(hs.tm.at' j c x u H).mono A (λ_ _ h=>h)
theorem ku{n0 i:Nat}{ops:Array Oper}{d:Bool}{s:AS}{Q:bg->AS->Prop}(h:cD P n0 (.region i ops d) s Q):cD P n0 (.region i ops d) s Q:=h
theorem Ls{all tail rest:GE}{d:Tmp}{T ty:TypeId}{pos:String}{aft:Array Edge}{k:Nat}{s:AS}{ms:UV}{ds:ac}{Q:AS->Prop}(h:Sl none (some d) s.t.length (Cc P T) (λd e z l zc=>il P all tail rest (k+1) (s.put (some d) .undef s.o) (ms++[⟨d,k,e,z,l,zc,true⟩]) ds Q)):il P all tail (⟨some d,.alloc T,ty,pos,aft,none⟩ ::rest) k s ms ds Q:=h
theorem Lt{all tail rest:GE}{d:Tmp}{T ty:TypeId}{n c:Operand}{pos:String}{aft:Array Edge}{k:Nat}{s:AS}{ms:UV}{ds:ac}{Q:AS->Prop}(h:Sl none (some d) s.t.length (Cj P T (s.ev n) (s.ev c)) (λd e z l zc=>il P all tail rest (k+1) (s.put (some d) .undef s.o) (ms++[⟨d,k,e,z,l,zc,false⟩]) ds Q)):il P all tail (⟨some d,.makeSlice T n c,ty,pos,aft,none⟩ ::rest) k s ms ds Q:=h
theorem Hs{all tail:GE}{k:Nat}{s:AS}{ms:UV}{ds:ac}{Q:AS->Prop}(h:fZ P all tail (Dn ⟨OG ds s.t,s.o,s.y⟩ ms) Q):il P all tail [] k s ms ds Q:=h
instance {all tail:GE}{k:Nat}{s:AS}{ms:UV}{ds:ac}{Q:AS->Prop}:bA (il P all tail [] k s ms ds Q) (fZ P all tail (Dn ⟨OG ds s.t,s.o,s.y⟩ ms) Q):=⟨Hs⟩
instance {all tail rest:GE}{d:Tmp}{T ty:TypeId}{n c:Operand}{pos:String}{aft:Array Edge}{k:Nat}{s:AS}{ms:UV}{ds:ac}{Q:AS->Prop}:bA (il P all tail (⟨some d,.makeSlice T n c,ty,pos,aft,none⟩ ::rest) k s ms ds Q)
 (Sl none (some d) s.t.length (Cj P T (s.ev n) (s.ev c)) (λd e z l zc=>il P all tail rest (k+1) (s.put (some d) .undef s.o) (ms++[⟨d,k,e,z,l,zc,false⟩]) ds Q)):=⟨Lt⟩
instance {all tail rest:GE}{d:Tmp}{T ty:TypeId}{pos:String}{aft:Array Edge}{k:Nat}{s:AS}{ms:UV}{ds:ac}{Q:AS->Prop}:bA (il P all tail (⟨some d,.alloc T,ty,pos,aft,none⟩ ::rest) k s ms ds Q)
 (Sl none (some d) s.t.length (Cc P T) (λd e z l zc=>il P all tail rest (k+1) (s.put (some d) .undef s.o) (ms++[⟨d,k,e,z,l,zc,true⟩]) ds Q)):=⟨Ls⟩
end
attribute [go_sem] NT Cc jW.av Cj Dn mkT OG AV.YO AV.flat jW.ob Option.toList_some Option.toList_none
section
variable {D:Nat->Prop} {nu:EQ} {o:AC} {w:World} {P:Program}
def bC(o:AC)(a r:AV):Prop:=∀(D:Nat->Prop)(nu:EQ)(w:World)(x:Value),RO D nu o w->RA D nu o w a x->RA D nu [] w r x
def xw(o:AC):C5->C5->Prop
 | [],[]=>True
 |a::l,b::m=>bC o a b∧xw o l m
 |_,_=>False
theorem bC.of{a r:AV}(n:Nat){p:Prop}(A:jD o n a=some (p,r))(H:p):bC o a r:=λ_ _ _ x q u=>(pJ q n).1 a x p r A H u
theorem xw.at':∀{l m:C5},xw o l m->l.length=m.length∧∀(i:Nat)a b,l[i]?=some a->m[i]?=some b->bC o a b
 | [],[],_=>⟨rfl,λi a b h=>by simp at h⟩
 |a::l,b::m,h=>by
  obtain⟨H,A⟩:=xw.at' h.2;refine⟨by simp[H],λi x y u q=>?_⟩
  cases i with
  |zero=>simp at u q;subst u;subst q;exact h.1
  |succ i=>exact A i x y (by simpa using u) (by simpa using q)
theorem xw.ras{l m:C5}(h:xw o l m)(q:RO D nu o w){xs:Array Value}(A:gy D nu o w l xs):gy D nu [] w m xs:=by
 obtain⟨H,U⟩:=h.at';refine⟨by rw[<-H];exact A.len,λi c x u O=>?_⟩
 have hi:i<l.length:=by rw[H];exact(aek.1 u).1
 exact U i _ c (aes hi) u D nu w x q (A.at' i _ x (aes hi) O)
def mI(P:Program)(f:FuncId)(args:C5)(r:AV):Prop:=(aQ 0 args=true∧r.wf 0=true)∧fQ P f=true∧∀D nu w vargs,RO D nu [] w->gy D nu [] w args vargs->Calls P f vargs w (λe w'=>∃v,e=.returned v∧Below w.heap.size w w'∧RA (λb=>w.heap.size<=b) nu [] w' r v)
theorem mI.to1{f:FuncId}{args:C5}{r:AV}(h:mI P f args r):aj P f args r:=by
 refine⟨h.1,h.2.1,λD nu w vargs q A=>(h.2.2 D nu w vargs q A).mono ?_⟩;rintro e w' ⟨v,rfl,u,H⟩;exact⟨v,nu,[],r,rfl,aH u,q.below u,H.wider (λb u=>q.up b u),rfl,rfl⟩
def sw(o:AC)(r0 r:AV):Prop:=∀(D:Nat->Prop)(nu:EQ)(w:World)(x:Value),RO D nu o w->RA D nu o w r0 x->RA (owned nu o) nu [] w r x
theorem sw.vec{id len:Nat}{ob:aa}(ho:o[id]?=some (some ob))(W:ob.fc=true)(hl:ob.rows.length=len)(Y:∀row,row∈ob.rows->∀c,c∈row->∃x,c=.v x):sw o (.vec id len) (.aA ob.z ob.rows len):=λD nu w x A H=>by
 have hx:x=nu id len:=by
  cases H with
  |vec=>rfl
 subst hx;subst hl;have u:∀b,cW (nu id ob.rows.length)=some b->owned nu o b:=λb hb=>⟨id,ob,ho,by rw[aa.hl,W,if_pos rfl];exact J6 hb⟩;have h:=my A ho W;generalize hq:nu id ob.rows.length=q at h u⊢;generalize ob.rows.length=n at h⊢;generalize ob.rows=rows at h Y⊢
 cases h with
 |b6=>exact .b6 _
 |cp _ a=>exact .cp _ a
 |aA _ _ _ b off cap f k1 k2 k3 k4 k5 k6 k7 k8=>
  refine .aA _ _ _ b off cap f k1 k2 k3 (λO=>⟨(k4 O).1,br _ _,u b rfl⟩) k5 k6 (λi j row c V U=>?_) k8;obtain⟨y,rfl⟩:=Y row (aeG V) c (aeG U);rw[(k7 i j row _ V U).di];exact .v y
theorem Bl{α:Type}(f:α->C5)(h:∀x,∀c∈f x,∃y,c=.v y)(l:List α):∀row,row∈l.map f->∀c,c∈row->∃y,c=.v y:=λrow q=>by
 obtain⟨x,_,rfl⟩:=List.mem_map.1 q;exact h x
theorem mI.enter{f:FuncId}{fn:Func}{c:Code}{args:C5}{r:AV}(A:P.funcs[f]?=some fn)(W:fn.body=some c)(hc:fQ P f=true)(U:bY c=true)(V:P.follows .mixedOrders=true)
  (ha:aQ 0 args=true)(hr:r.wf 0=true)(h:cD P 0 c ⟨args++List.replicate (fn.ntmps-args.length) .undef,[],.no⟩ (BY P fn.results.toList (λY o=>sw o Y r))):mI P f args r:=by
 obtain⟨_,h2⟩:=ft.enter (o:=[]) A W hc U V h;refine⟨⟨ha,hr⟩,hc,λD nu w vargs H O=>(h2 D nu w vargs H O).mono ?_⟩;rintro e w' ⟨v,nu',o',Y,rfl,u,hro',hra',hz⟩;refine⟨v,rfl,⟨u.os,u.tape,u.output,u.size,λb W=>(u.keep b W (br _ _)).1⟩,(hz _ _ _ _ hro' hra').tr (n:=0) (λb A=>⟨A.1,br _ _,?_⟩) (λid len hlt=>zd) hr⟩
 rcases aei b w.heap.size with q|q
 ·exact absurd A.2.2 (u.keep b q (br _ _)).2
 ·exact q
open Go.Sort in
theorem QJ{α:Type} [Inhabited α]{enc:α->Value}{n ez:Nat}{d:Array α}{os:Array Obj}(u:ez<w.heap.size):(∀b,b<w.heap.size->b≠ez->(grow (putRow enc (Go.Sort.ahead w n) ez 0 d) os).heap[b]?=w.heap[b]?) ∧
  ∀cs T fr,w.heap[ez]?=some (.cells cs T fr)->(grow (putRow enc (Go.Sort.ahead w n) ez 0 d) os).heap[ez]?=some (.cells (putCells enc 0 d cs) T fr):=by
 refine⟨λb A q=>?_,λcs T fr h=>?_⟩
 ·rw[heap_grow_old _ _ (by simpa using A)];simp only[putRow,mapBlock,afI,aeT,if_neg (Ne.symm q)]
 ·rw[heap_grow_old _ _ (by simpa using u)];simp only[putRow,mapBlock,afI,aeT,if_true,h,Option.map_some,onCells]
def adj{α:Type}(enc:α->Value)(l:List α):List C5:=l.map (λa=>[.v (enc a)])
def pA(f:Nat->Nat)(n:Nat):C5->C5->Prop
 | [],[]=>True
 |a::l,c::m=>(c=.undef∨(a=c.bb f∧c.wf n=true))∧pA f n l m
 |_,_=>False
theorem Ej{f:Nat->Nat}{n:Nat}:∀{l m:C5},pA f n l m->l.length=m.length∧∀(i:Nat)c,m[i]?=some c->c=.undef∨(l[i]?=some (c.bb f)∧c.wf n=true)
 | [],[],_=>⟨rfl,λi c h=>by simp at h⟩
 |a::l,b::m,h=>by
  obtain⟨A,u⟩:=Ej h.2;refine⟨by simp[A],λi c q=>?_⟩
  cases i with
  |zero=>
   simp at q;subst q;rcases h.1 with e|⟨e,g⟩
   ·exact .inl e
   ·exact .inr ⟨by simp[e],g⟩
  |succ i=>simpa using u i c (by simpa using q)
theorem xN{s:AS}{c:Code}{Q:bg->AS->Prop}(ids:Do)(t0:C5)(o0:AC)(hnd:ids.Nodup)(q:ids.map (λi=>s.o[i]?)=o0.map (λx=>some (x.map (aa.bb (sig ids s.o.length)))))
  (hwo:∀(k:Nat)ob,o0[k]?=some (some ob)->bE ids.length ob.rows=true)(ht:pA (sig ids s.o.length) ids.length s.t t0)(hok:bY c=true)(h:cD P 0 c ⟨t0,o0,s.y⟩ Q):Ha P 0 c s Q:=λf m D nu a w hZr hn Y A hmx R hO hR=>by
 obtain⟨ro0,own0,fz0,hdr0,_⟩:=yn ids A.ro hnd q hwo
 have hlen:o0.length=ids.length:=by have:=congrArg List.length q;simpa using this.symm
 generalize sig ids s.o.length=σ at *;have hD:∀b,(D b∧ ¬(b<w.heap.size∧∃id ob,id∉ids∧s.o[id]?=some (some ob)∧dW (nu id ob.hl)=some b))->D b:=λb h=>h.1;have ro1:=ro0.wider hD;obtain⟨t1,t2⟩:=Ej ht
 have hs0:RS f D (λk len=>nu (σ k) len) ⟨t0,o0,s.y⟩ a w:=⟨ro1,⟨by rw[<-t1];exact A.tm.len,λi c x h1 h2=>by
  rcases t2 i c h1 with rfl|⟨e,g⟩
  ·exact .undef x
  ·exact((A.tm.at' i _ x e h2).GB (f:=σ) (n:=ids.length) fz0 hdr0 c g rfl).wider hD⟩,A.mh⟩
 refine gK hmx m hZr hn c hok _ a w D _ f.Z Q R hO ?_ hs0 h hR

 have hoz:∀b,owned nu s.o b-> ¬f.Z b:=λb u H=>((m.so Y).1 b H).2 (A.ro.nP u)
 have m1:=m.step (D':=λb=>D b∧ ¬owned nu s.o b) (nu':=nu) (o':=[]) (Z':=λb=>f.Z b∨owned nu s.o b) (w':=w) Y A.ro
  ⟨rfl,rfl,rfl,aed _,λid len U _=>by simp at U,λb _ _ _=>⟨rfl,br _ _⟩⟩
  (.nil _ _ _ (λb u=>⟨A.ro.up b u,λq=>by have:=A.ro.bL q;omega⟩) (A.ro.gl.keep λb _ O W=>⟨rfl,br _ _,W,O⟩))
  (λc v hr hc=>hr.tr (n:=0) (λb V=>⟨V.1,br _ _,V.2.2,V.2.1⟩) (λid len U=>zd) hc)
  (λb u=> .inl u.1) (λb u=>by by_cases q:owned nu s.o b;exact .inr (.inr q);exact .inl ⟨u,q⟩)
  (λb u=>by
   rcases u with H|q
   ·exact⟨((m.so Y).1 b H).1,λW=>((m.so Y).1 b H).2 W.1,.inl H⟩
   ·exact⟨A.ro.bL q,λW=>W.2 q,.inr (.inl q)⟩) (by simpa using hn)
 exact m.step m1 (.nil _ _ _ (λb u=>⟨A.ro.up b u,λq=>by have:=A.ro.bL q;omega⟩) (A.ro.gl.keep λb _ O W=>⟨rfl,br _ _,W,O⟩))
  ⟨rfl,rfl,rfl,aed _,λid len _ hh=>by obtain⟨x,h1,_⟩:=hh;simp at h1,λb _ _ H=>⟨rfl,λq=>H (.inr (own0 b q))⟩⟩ ro1
  (λc v hr hc=>hr.tr (n:=o0.length) (λb V=>⟨V.1,λq=>V.2.2.2 (own0 b q),V.2.2.1⟩) (λid len U hh=>by obtain⟨x,h1,_⟩:=hh;simp at h1) hc)
  (λb u=>by by_cases q:owned nu s.o b;exact .inr (.inr q);exact .inl ⟨u,q⟩) (λb u=> .inl u.1)
  (λb H=>⟨((m.so Y).1 b H).1,((m.so Y).1 b H).2,.inl (.inl H)⟩) (Nat.le_trans hn (Nat.zero_le _))
theorem me{id:Nat}{t:C5}{o:AC}{y:kB}{ops:Array Oper}{d:Bool}{Q:bg->AS->Prop}(ids:Do)(t0:C5)(o0:AC)(A:ids.Nodup)(O:ids.map (λi=>o[i]?)=o0.map (λx=>some (x.map (aa.bb (sig ids o.length)))))
  (q:∀(k:Nat)ob,o0[k]?=some (some ob)->bE ids.length ob.rows=true)(H:pA (sig ids o.length) ids.length t t0)(u:dO ops=true)(h:cD P 0 (.region id ops d) ⟨t0,o0,y⟩ Q):cD P 0 (.region id ops d) ⟨t,o,y⟩ Q:=by
 have:=xN (P:=P) (s:=⟨t,o,y⟩) (c:= .region id ops d) ids t0 o0 A O q H u h
 cases d
 ·exact .inr this
 ·exact .inr this
end
def ad2(q:Ll)(i:Nat):List C5:=((q.conds.drop i).flatMap (λc=>[c.left,c.right])++q.ret).map (λo=>[.agg (O4 o)])
def Zg(l:List (ByteArray×Int)):List C5:=l.map (λp=>[.v (.string p.1),.v (.int .i64 p.2)])
theorem yJ(c:Int):aj prog 143 [.v (.int .u8 c)] (.v (.bool (pe c))):=by
 unfold pe;refine gE func143 ntmps143 results143 ?_
 (refine ag ?_;intro K hK K hK)
 refine cn.part (λh=>?_) (λh=>?_)
 ·(revert K;revert K;exact vW h)
 ·(revert K;revert K;exact vW h)
theorem Rj(c:Int):aj prog 142 [.v (.int .u8 c)] (.v (.bool (gX c))):=by
 have L:=yJ c;refine gE func142 ntmps142 results142 ?_
 (refine ag ?_;intro K hK K hK)
 (revert K;revert K;refine aM L ?_;intro K hK K hK)
 refine cn.part (λh=>?_) (λh=>?_)
 ·(revert K;revert K;refine dj h ?_)
  rw[gX,h];rfl
 ·(revert K;revert K;refine dj h ?_;intro K hK K hK)
  refine cn.part (λq=>?_) (λq=>?_)
  ·(revert K;revert K;refine dj (q9 h q) ?_;intro K hK K hK)
   refine cn.part (λu=>?_) (λu=>?_)
   ·(revert K;revert K;refine dj (mQ h q u) ?_)
    rw[gX,h,q,u];simp
   ·(revert K;revert K;refine dj (mQ h q u) ?_)
    rw[gX,h,q,u];simp
  ·(revert K;revert K;refine dj (q9 h q) ?_)
   rw[gX,h,q];simp
theorem ug(s:ByteArray)(k:Nat)(h:k<s.size):ky s k=s[k].toNat:=by
 unfold ky;rw[List.getD_eq_getElem?_getD,aes (by simpa using h)];simp[ByteArray.getElem_eq_getElem_data]
theorem sl(s:ByteArray)(W:s.size<=1000000000000000):aj prog 105 [.v (.string s)] (.v (.bool (fV s))):=by
 refine gE func105 ntmps105 results105 ?_
 (refine ag ?_;intro K hK)
 refine b7 (ι:=Nat) (λi=>[(0,.v (.string s)),(2,.v (.bool false)),(3,.v (.int .i64 i))]) (λ_=>[]) (λi=>s.size-i) (λi=>i<=s.size∧∀j(h:j<s.size),j<i->gX s[j].toNat=true) 0 ⟨zd,λj _ h=>absurd h zd⟩ ?_ ?_
 ·refine ab (bF ?_) ar ar
  rfl
 ·rintro i ⟨hi,U⟩ K hK;simp only[bN,List.foldl_cons,List.foldl_nil,List.replicate_succ,List.replicate_zero,go_sem]
  (revert K;revert K;refine ag ?_;intro K hK K hK K hK)
  refine cn.part (λh=>?_) (λh=>?_)
  ·have A:i<s.size:=by replace h:=cq h;omega
   have eW:=ae (k:=i) zd;have S:=Rj (ky s i)
   ((iterate 3 revert K);refine ag ?_;iterate 5 intro K hK)
   ((iterate 5 revert K);refine aM S ?_;intro K hK K hK K hK)
   refine cn.part (λO=>?_) (λO=>?_)
   ·((iterate 3 revert K);refine ak eW ?_)
    exact aw.mk (i+1) ⟨zd,λj H u=>(by
     rcases aei j i with q|q
     ·exact U j H q
     ·obtain rfl:j=i:=zd
      rw[<-ug s j H];exact O)⟩ zd (by exact ab ar ar ar)
   ·((iterate 3 revert K);refine ak O ?_)
    have e:fV s=false:=by
     rw[<-Bool.not_eq_true,fV,Bool.and_eq_true,Bool.and_eq_true,gu];intro hh
     have:=hh.1.1 i A
     rw[<-ug s i A,O]at this;cases this
    rw[e]
  ·have Y:i=s.size:=by replace h:=cq h;omega
   have ea:s.data.toList.all (λb=>gX b.toNat)=true:=(gu _ _).2 (λj H=>U j H zd)
   ((iterate 3 revert K);refine ag ?_;intro K hK K hK)
   refine cn.part (λu=>?_) (λu=>?_)
   ·(revert K;revert K;refine ak u ?_)
    have V:1<=s.size:=by replace u:=cq u;omega
    rw[fV,ea,decide_eq_true V];simp;omega
   ·(revert K;revert K;refine dj u ?_)
    rw[fV,ea]
    replace u:=cq u
    simp;omega
theorem jH{s w:ByteArray}(q:w∈words)(h:(s.toList==w.toList)=true):cB s=false:=by
 have e:words.any (λx=>fR s x)=true:=List.any_eq_true.2 ⟨w,q,h⟩;rw[cB,e];simp
theorem yo(s:ByteArray)(hs:s.size<=1000000000000000):aj prog 106 [.v (.string s)] (.v (.bool (cB s))):=by
 have V:=sl s hs;refine gE func106 ntmps106 results106 ?_
 (refine ag ?_;intro K hK K hK K hK)
 ((iterate 3 revert K);refine aM V ?_;intro K hK K hK K hK)
 cases q:fV s with
 |false=>
  ((iterate 3 revert K);refine dj q ?_)
  rw[cB,q];rfl
 |true=>
  have hz:=zI q;have L:=yJ (ky s 0)
  have e0:rN s=(ky s 0:Nat):=by rw[ug s 0 hz.1];simp[rN,hz.1]
  ((iterate 3 revert K);refine ak q ?_;intro K hK K hK K hK)
  ((iterate 3 revert K);refine dA L q ?_;intro K hK)
  refine cn.part (λh1=>?_) (λh1=>?_)
  ·(revert K;refine ak h1 ?_;intro K hK K hK)
   refine cn.part (λY=>?_) (λY=>?_)
   ·(revert K;revert K;refine ak Y ?_)
    rw[jH (.head _) Y]
   ·(revert K;revert K;refine ak Y ?_;intro K hK K hK)
    refine cn.part (λW=>?_) (λW=>?_)
    ·(revert K;revert K;refine ak W ?_)
     rw[jH (.tail _ (.head _)) W]
    ·(revert K;revert K;refine ak W ?_;intro K hK K hK)
     refine cn.part (λU=>?_) (λU=>?_)
     ·(revert K;revert K;refine ak U ?_)
      rw[jH (.tail _ (.tail _ (.head _))) U]
     ·(revert K;revert K;refine ak U ?_;intro K hK K hK)
      refine cn.part (λO=>?_) (λO=>?_)
      ·(revert K;revert K;refine ak O ?_)
       rw[jH (.tail _ (.tail _ (.tail _ (.head _)))) O]
      ·(revert K;revert K;refine ak O ?_;intro K hK K hK)
       refine cn.part (λH=>?_) (λH=>?_)
       ·(revert K;revert K;refine ak H ?_)
        rw[jH (.tail _ (.tail _ (.tail _ (.tail _ (.head _))))) H]
       ·(revert K;revert K;refine ak H ?_;intro K hK K hK)
        refine cn.part (λA=>?_) (λA=>?_)
        ·(revert K;revert K;refine ak A ?_)
         rw[jH (.tail _ (.tail _ (.tail _ (.tail _ (.tail _ (.head _)))))) A]
        ·(revert K;revert K;refine ak A ?_;intro K hK)
         refine cn.part (λu=>?_) (λu=>?_)
         ·(revert K;refine ak u ?_)
          rw[jH (.tail _ (.tail _ (.tail _ (.tail _ (.tail _ (.tail _ (.head _))))))) u]
         ·(revert K;refine ak u ?_)
          rw[cB,q,e0,h1];simp only[words,List.any_cons,List.any_nil,fR,Y,W,U,O,H,A,u]
          rfl
  ·(revert K;refine ak h1 ?_)
   rw[cB,q,e0,h1];rfl
theorem vd(s:ByteArray):(s.toList==(⟨#[]⟩:ByteArray).toList)=pg s:=by
 rw[Bool.eq_iff_iff,toList_inj];unfold pg;rw[decide_eq_true_iff]
 constructor
 ·rintro rfl;rfl
 ·intro h;obtain⟨⟨l⟩⟩:=s
  cases l with
  |nil=>rfl
  |cons x l=>simp[ByteArray.size]at h
theorem Na(v:Hk)(hs:v.text.size<=1000000000000000):aj prog 107 [.agg (Tu v)] (.v (.bool (bo v))):=by
 obtain⟨kd,n,s⟩:=v;simp only[Tu];simp only at hs;refine gE func107 ntmps107 results107 ?_
 (refine ag ?_;intro K hK)
 cases A:(kd==1)with
 |true=>
  (revert K;refine ak A ?_;intro K hK K hK K hK)
  cases u:decide (-1099511627776<=n)with
  |false=>
   ((iterate 3 revert K);refine dj u ?_)
   have e:decide (-jQ<=n)=false:=u;simp only[bo,A,if_true,e];simp
  |true=>
   ((iterate 3 revert K);refine ak u ?_;intro K hK K hK K hK)
   cases O:decide (n<=1099511627776)with
   |false=>
    ((iterate 3 revert K);refine dj (q9 u O) ?_)
    have e:decide (n<=jQ)=false:=O;simp only[bo,A,if_true,e];simp
   |true=>
    ((iterate 3 revert K);refine fb u O ?_)
    have e1:decide (-jQ<=n)=true:=u;have e2:decide (n<=jQ)=true:=O;simp only[bo,A,if_true,e1,e2,vd,Bool.and_true]
 |false=>
  (revert K;refine ak A ?_;intro K hK)
  refine b7 (ι:=Nat) (λi=>[(1,.ptr 0 0 3 0 0),(2,.v (.bool false)),(3,.v (.int .i64 i))]) (λ_=>[some ⟨171,3,false,[[.v (.int .i64 kd),.v (.int .i64 n),.v (.string s)]]⟩]) (λi=>s.size-i) (λi=>i<=s.size∧∀j(h:j<s.size),j<i->jk s[j].toNat=true) 0 ⟨zd,λj _ h=>absurd h zd⟩ ?_ ?_
  ·refine ab (bF ?_) ar ar
   rfl
  ·rintro i ⟨hi,hP⟩ K hK;simp only[bN,afD,afE,afJ,afK,go_sem]
   (revert K;revert K;refine ag ?_;intro K hK K hK K hK)
   cases h:decide ((i:Int)<(s.size:Int))with
   |true=>
    have H:i<s.size:=by replace h:=cq h;omega
    have eW:=ae (k:=i) zd;have eA:=ug s i H
    rcases tF (ky s i)with⟨V,q⟩|⟨V,Y,q⟩|⟨V,Y,U,q⟩|⟨V,Y,U,W,q⟩|⟨V,Y,U,W,q⟩
    ·have d1:decide (((ky s i:Nat):Int)<32)=true:=b0
     ((iterate 3 revert K);refine dj (mQ h d1 eW) ?_)
     have e:kJ s=false:=mX H (by rw[<-eA];exact q);simp only[bo,A,e,afL,ite_self];simp
    ·have d1:decide (((ky s i:Nat):Int)<32)=false:=bi;have d2:decide (126<((ky s i:Nat):Int))=true:=b0
     ((iterate 3 revert K);refine dj (pt h d1 d2 eW) ?_)
     have e:kJ s=false:=mX H (by rw[<-eA];exact q);simp only[bo,A,e,afL,ite_self];simp
    ·have d1:decide (((ky s i:Nat):Int)<32)=false:=bi;have d2:decide (126<((ky s i:Nat):Int))=false:=bi
     ((iterate 3 revert K);refine dj (qu h d1 d2 U eW) ?_)
     have e:kJ s=false:=mX H (by rw[<-eA];exact q);simp only[bo,A,e,afL,ite_self];simp
    ·have d1:decide (((ky s i:Nat):Int)<32)=false:=bi;have d2:decide (126<((ky s i:Nat):Int))=false:=bi
     ((iterate 3 revert K);refine dj (nU h d1 d2 U W eW) ?_)
     have e:kJ s=false:=mX H (by rw[<-eA];exact q);simp only[bo,A,e,afL,ite_self];simp
    ·have d1:decide (((ky s i:Nat):Int)<32)=false:=bi;have d2:decide (126<((ky s i:Nat):Int))=false:=bi
     ((iterate 3 revert K);refine dj (nU h d1 d2 U W eW) ?_)
     exact aw.mk (i+1) ⟨zd,λj hj h3=>(by
      rcases Nat.lt_or_ge j i with r|r
      ·exact hP j hj r
      ·have e:j=i:=zd
       subst e
       rw[<-eA];exact q)⟩ zd (by exact ab ar ar ar)
   |false=>
    have he:i=s.size:=by replace h:=cq h;omega
    have ea:kJ s=true:=zb (λj hj=>hP j hj zd)
    ((iterate 3 revert K);refine ak h ?_;intro K hK K hK)
    cases u:(kd==2)with
    |false=>
     (revert K;revert K;refine dj u ?_)
     simp only[bo,A,u];simp
    |true=>
     (revert K;revert K;refine ak u ?_;intro K hK K hK)
     cases O:(n==0)with
     |false=>
      (revert K;revert K;refine dj (q9 u O) ?_)
      simp only[bo,A,u,O];simp
     |true=>
      (revert K;revert K;refine fb u O ?_)
      simp only[bo,A,u,O,ea];simp;omega
@[go_sem] theorem aaC(n:Nat)(l:List (ByteArray×Int)):bE n (Zg l)=true:=bt _ (λ_=>rfl) l
def nmR:Option B0->AV
 |none=> .ck [.v (.map none),.v (.bool false)]
 |some _=> .ck [.vec 1 0,.v (.bool true)]
section
variable {P:Program}
end
def aT(l:Do):List C5:=l.map (λk:Nat=>[.v (.int .i64 (k:Int))])
attribute [go_sem] Value.oneCell'
def Aa(i:Nat):AV:= .v (.int .i64 ((8000024+i:Nat):Int))
def fT(i:Nat):C5:=[Aa i,.v (.string ⟨#[]⟩),.v (.slice none 0 0)]
def kI(f:Nat->C5):Nat->List C5
 |0=>[]
 |n+1=>kI f n++[f n]
@[go_sem] theorem pV(f:Nat->C5):∀n,(kI f n).length=n
 |0=>rfl
 |n+1=>by rw[kI,List.length_append,pV f n];rfl
def marksOf(f:Nat->C5):List C5:=kI f 12
mutual
def dn:Ex->C5
 | .mk k s l=>[.v (.int .i64 k),.v (.string s),.aA 3 (Di l++marksOf fT) l.length]
def Di:IO->List C5
 | []=>[]
 |x::xs=>dn x::Di xs
end
theorem vb:∀l:IO,Di l=l.map dn
 | []=>rfl
 |x::xs=>by rw[Di,vb xs,List.map_cons]
theorem mT(x:Ex):dn x=[.v (.int .i64 x.kind),.v (.string x.label),.aA 3 (x.kids.map dn++marksOf fT) x.kids.length]:=by
 obtain⟨k,s,l⟩:=x;rw[dn,vb];rfl
theorem gx(n:Nat)(a b:List C5):bE n (a++b)=(bE n a&&bE n b):=by
 induction a with
 |nil=>simp[bE]
 |cons x a ih=>simp[bE,ih,Bool.and_assoc]
theorem ei(n:Nat)(f:Nat->C5)(h:∀i,aQ n (f i)=true):∀k,bE n (kI f k)=true
 |0=>rfl
 |k+1=>by simp[kI,gx,ei n f h k,bE,h]
theorem GP(n:Nat)(f:Nat->C5)(h:∀i,aQ n (f i)=true):bE n (marksOf f)=true:=ei n f h 12
@[go_sem] theorem XL(f:Nat->C5):(marksOf f).length=12:=pV f 12
theorem zM(n:Nat)(i:Nat):aQ n (fT i)=true:=rfl
theorem ny(n:Nat)(x:Ex):aQ n (dn x)=true:=by
 induction x using Ex.ind with
 |h k s l ih=>
  rw[dn,vb];simp only[aQ,AV.wf,Bool.and_true,Bool.true_and,gx,GP n _ (zM n)];exact DW (λr u=>by obtain⟨x,q,rfl⟩:=List.mem_map.1 u;exact ih x q)
theorem zL(n:Nat)(l:IO):bE n (l.map dn)=true:=bt _ (ny n) l
attribute [go_sem] ny zL gx
@[go_sem] theorem abJ(n k:Nat):bE n (kI fT k)=true:=ei n _ (zM n) k
@[go_sem] theorem BU(n:Nat):bE n (marksOf fT)=true:=GP n _ (zM n)
theorem IU(i:Nat)(hi:i<1000):aj prog 67 [.v (.int .i64 1),.v (.int .i64 i)] (Aa i):=by
 unfold Aa;refine gE func67 ntmps67 results67 ?_;refine ag ?_;rw[bS (n:=(1:Int)+7) zs zs];rw[bS (n:=(1000003:Int)*(1+7)) zs zs];rw[bS zd zd]
 congr 2
theorem yO(i:Nat)(hi:i<1000):aj prog 65 [.v (.int .i64 1),.v (.int .i64 i)] (.agg (fT i)):=by
 have M:=IU i hi;simp only[Aa]at M;simp only[fT,Aa];refine gE func65 ntmps65 results65 ?_
 (refine ag ?_;intro K hK K hK)
 (revert K;revert K;refine aM M ?_)
 (refine iE.of 40 rfl ?_;simp only[go_sem])
theorem rl{α β:Type}(f:α->β)(l:List α)(k:Nat)(h:k<l.length):(l.take (k+1)).map f=(l.take k).map f++[f l[k]]:=by
 rw[List.take_add_one,List.map_append];simp[h]
theorem Dj(l:IO)(hl:l.length<=1000000)(H:∀x,x∈l->aj prog 10 [.agg (aP x)] (.agg (dn x))) :
  aj prog 33 [.aA 3 (l.map aP) l.length] (.aA 3 (l.map dn++marksOf fT) l.length):=by
 have U:IntKind.i64.wrap ((l.length:Int)+12)=((l.length+12:Nat):Int):=by rw[bS zd zd];omega
 refine gE func33 ntmps33 results33 ?_
 (refine ak U ?_;intro K hK)
 refine b7 (ι:=Nat) (λk=>[(0,.aA 3 (l.map aP) l.length),(2,.v (.slice none 0 0)),(3,.vec 0 k),(4,.v (.int .i64 k))]) (λk=>[some ⟨25,3,true,(l.take k).map dn⟩]) (λk=>l.length-k) (λk=>k<=l.length) 0 zd ?_ ?_
 ·refine ab (bF ?_) ar ar
  rfl
 ·intro k V K hK;simp only[bN,afD,afE,afJ,afK,go_sem]
  (revert K;revert K;refine ag ?_;intro K hK K hK K hK)
  refine cn.part (λh=>?_) (λh=>?_)
  ·have q:k<l.length:=by replace h:=cq h;omega
   have eG:=getD_map aP l k [] q;have eW:=ae (k:=k) zd;have HX:=H l[k] (List.getElem_mem q);have eT:(l.take (k+1)).map dn=(l.take k).map dn++[dn l[k]]:=rl dn l k q;simp only[aB,mT]at HX eG eT
   ((iterate 3 revert K);refine ak (mQ eG eW @aB) ?_;iterate 5 intro K hK)
   refine ah.one HX ?_
   have eL:(l.take k).length=k:=by rw[List.length_take];omega
   ((iterate 5 revert K);refine fb eW eL ?_)
   exact aw.mk (k+1) zd zd (by refine ab ar (bF ?_) ar;exact eT.symm)
  ·have u:k=l.length:=by replace h:=cq h;omega
   have eA:List.map dn (List.take k l)=l.map dn:=by rw[u,List.take_length]
   ((iterate 3 revert K);refine ak eA ?_;intro K hK)
   refine b7 (ι:=Nat) (λi=>[(0,.aA 3 (l.map aP) l.length),(2,.v (.slice none 0 0)),(3,.vec 0 (l.length+i)),(6,.v (.int .i64 i))]) (λi=>[some ⟨25,3,true,l.map dn++kI fT i⟩]) (λi=>12-i) (λi=>i<=12) 0 zd ?_ ?_
   ·refine ab (bF ?_) (bF ?_) ar
    ·exact⟨u,rfl⟩
    ·simp[kI]
   ·intro i hi K hK;simp only[bN,afD,afE,afJ,afK,go_sem]
    (revert K;revert K;refine ag ?_;intro K hK K hK K hK)
    refine cn.part (λA=>?_) (λA=>?_)
    ·have q:i<12:=by replace A:=cq A;omega
     have eW:=ae (k:=i) zd;have M:=yO i zd;simp only[fT,Aa]at M
     ((iterate 3 revert K);refine ak eW ?_;iterate 4 intro K hK)
     ((iterate 4 revert K);refine dA M eW ?_)
     exact aw.mk (i+1) zd zd (by refine ab (bF ?_) (bF ?_) ar<;>rfl)
    ·have O:i=12:=by replace A:=cq A;omega
     have eM:kI fT i=marksOf fT:=by rw[O];rfl
     ((iterate 3 revert K);refine ak eM ?_)
     exact iE.aA (by simp only[gx,zL,BU,Bool.and_self])
def Ex.lens(n:Nat)(x:Ex):Prop:=∀y,y∈aq x->y.kids.length<=n
theorem IS(x:Ex)(u:x.lens 1000000):aj prog 10 [.agg (aP x)] (.agg (dn x)):=by
 induction x using Ex.ind with
 |h k s l ih=>
  have H:∀y,y∈l->y.lens 1000000:=λy q z A=>u z (by rw[aq,bO];exact List.mem_cons_of_mem _ (List.mem_flatMap.2 ⟨y,q,A⟩));have C:=Dj l (u (.mk k s l) (by rw[aq];exact List.mem_cons_self)) (λy q=>ih y q (H y q));rw[aB,mT];simp only[Ex.kind,Ex.label,Ex.kids];refine gE func10 ntmps10 results10 ?_
  (refine ag ?_;intro K hK K hK)
  (revert K;revert K;refine aM C ?_)
  (refine iE.of 40 rfl ?_;simp only[go_sem])
end Go.Proofs.YtlhhccmopfamhaaGreatDoor
