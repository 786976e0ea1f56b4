/- 'kinescopelaw15.PathWalks': for every input the call returns true and all read behind it as before. Three tables (two of math/bits, one of internal/strconv) are laid, and tied to the program's text. No condition beyond the row's own: the reading ends, and no text or slice that came in is longer than the form's reach. -/
import Derived.Test.YtlhhccmopfamhaaGreatDoorXLawPaW
import Derived.Test.YtlhhccmopfamhaaGreatDoorRows
import Derived.Test.YtlhhccmopfamhaaGreatDoorCards
import Derived.Test.YtlhhccmopfamhaaGreatDoorTie
import Derived.SevenTiedAt
set_option linter.unusedSimpArgs false
set_option linter.unusedVariables false
set_option maxRecDepth 100000
set_option maxHeartbeats 16000000
open List renaming all_eq_true -> Wc
open Option.some renaming inj -> UY
namespace Go.Proofs.YtlhhccmopfamhaaGreatDoor
section
open Go.ChangeShapes Go.WideShapes Go.ChangeAt Go.RowKit
section
variable {H:Type} {enc:TypeId×Value->H} {w:World}
theorem LU:Tryz.prog.underlying 56=some (.slice 3):=by kernel_rfl
theorem Qr:Tryz.prog.underlying 3=some (.int .i64):=by kernel_rfl
theorem OL:Tryz.prog.cellsOf 3=1:=by kernel_rfl
theorem OK:0<Tryz.prog.bytesOf 3:=of_decide_eq_true (by kernel_rfl)
theorem E5 {a:Option Addr} {len cap:Nat} {d:DataW H} {ps:List MemPlace} (h:DataW.Trod enc Tryz.prog w 0 (fun _=>true) true 56 (.slice a len cap) d ps) (hw: ∀k∈d.weights Tryz.prog 56,k<=reachBytes) :
  ∃(l:List Int),FB w l (.slice a len cap)∧(∀n∈l,(Lit.int .i64 n).wf=true)∧l.length<=140737488355328:=by
 obtain ⟨n,h⟩:=h;have ht:Td enc Tryz.prog w n 56 [.slice a len cap]:=⟨_,h,hw⟩
 exact wu LU OL (by omega) OK ht (rd:=Lx) (okx:=fun n=>(Lit.int .i64 n).wf=true) (fun m' cs' hm hx=>by
  obtain ⟨s,e1,e2⟩:=sF Qr hx
  exact ⟨s,e1,e2⟩)
theorem Kh {D:Nat->Prop} {nu:Nat->Nat->Value} (hD: ∀b,b<w.heap.size->D b) {l:List Int} {v:Value} (h:FB w l v):RA D nu [] w (.aH 1 (l.map encI) l.length) v:=
 RA.qn hD (by omega) h (fun _=>rfl) (fun x _ cs hc=>by subst hc;exact ⟨lk [.int .i64 x],by simp [Value.oneCell']⟩)
end
open Go.ChangeShapes Go.WideShapes Go.ChangeAt Go.WideMaps Go.WideElems Go.RowKit
namespace pathWalks
theorem own:ownKnob Tryz.prog.godebug=none:=by kernel_rfl
theorem laid:laidOutB Tryz.prog=true:=by kernel_rfl
theorem Gg (H:Type) (enc:TypeId×Value->H) (W:World) (args:Array Value) (ds gs:List (DataW H)) (before:List MemPlace) (base:Nat)
  (hval: ∀(j:Nat) t v,Tryz.f6.params[j]? = some t->args[j]? = some v->Value.okWide Tryz.prog W .any base t v)
  (hW:DataW.Whole enc Tryz.prog Tryz.f6.params.toList Rows.pathWalksSpec.vars false W args.toList ds gs before)
  (hsz:(DataW.weightsEach Tryz.prog (Tryz.f6.params.toList++Rows.pathWalksSpec.plain.varTypes Tryz.prog) (ds++gs)).all (· <= reachBytes)=true)
  (hL:laidMetH Tryz.prog Rows.pathWalksRow.laid W) :
  Calls Tryz.prog 6 args W fun e W'=> ∃v,e = .returned v∧Rows.pathWalksSpec.post enc Tryz.prog Tryz.f6 false true false false W args v W':=by
 have hW':=hW;have hlt:=hW.lt;obtain ⟨p,q,hA,hV,rfl,hfz,hnd⟩:=hW;rw [Tryz.params6] at hA hsz hval;obtain ⟨v0,v1,v2,v3,d0,d1,d2,d3,p0,p1,p2,p3,rfl,rfl,rfl,h0,h1,h2,h3⟩:=trodAll_four hA;obtain ⟨rfl,rfl⟩:=trodVars_none hV
 have z0: ∀k∈d0.weights Tryz.prog 25,k<=reachBytes:=fun k hk=>by
  have:=Wc.1 hsz k (DataW.weights_mem_each (j:=0) (t:=25) (d:=d0) rfl rfl k hk)
  simpa using this
 have z1: ∀k∈d1.weights Tryz.prog 26,k<=reachBytes:=fun k hk=>by
  have:=Wc.1 hsz k (DataW.weights_mem_each (j:=1) (t:=26) (d:=d1) rfl rfl k hk)
  simpa using this
 have z2: ∀k∈d2.weights Tryz.prog 56,k<=reachBytes:=fun k hk=>by
  have:=Wc.1 hsz k (DataW.weights_mem_each (j:=2) (t:=56) (d:=d2) rfl rfl k hk)
  simpa using this
 have z3: ∀k∈d3.weights Tryz.prog 35,k<=reachBytes:=fun k hk=>by
  have:=Wc.1 hsz k (DataW.weights_mem_each (j:=3) (t:=35) (d:=d3) rfl rfl k hk)
  simpa using this
 obtain ⟨q0,c0,rfl,r0,o0⟩:=Lj h0 z0;obtain ⟨a1,n1,m1,rfl⟩:=okWide_slice LS (hval 1 26 v1 rfl rfl);obtain ⟨q1,r1,o1,s1⟩:=IM h1 z1;obtain ⟨a2,n2,m2,rfl⟩:=okWide_slice LU (hval 2 56 v2 rfl rfl);obtain ⟨q2,r2,o2,s2⟩:=E5 h2 z2;obtain ⟨q3,c3,rfl,r3,o3⟩:=IL h3 z3
 refine ((rM q0 q1 q2 q3 o0 o1 s1 o3).Nz (w:=W) (vargs:= #[.agg c0.toArray, .slice a1 n1 m1, .slice a2 n2 m2, .agg c3.toArray]) ⟨rfl,fun i c x hc hx=> ?_⟩ (D7 hL)).mono fun e W' he=> ?_
 ·match i,hc,hx with
  | 0,hc,hx=>cases hc;cases hx;exact Gw (fun _ _=>trivial) r0
  | 1,hc,hx=>cases hc;cases hx;exact MC (fun _ _=>trivial) r1
  | 2,hc,hx=>cases hc;cases hx;exact Kh (fun _ _=>trivial) r2
  | 3,hc,hx=>cases hc;cases hx;exact Gn (fun _ _=>trivial) r3
  | i+4,hc,hx=>simp at hc
 obtain ⟨rfl,hb⟩:=he
 refine ⟨_,rfl,_,_,_,[],p0++(p1++(p2++p3)),[],hW', ?_, ?_,rfl,hb.frame _,fun h=>by cases h⟩
 ·exact trodAll_mk1 (shut_bool Tryz.underlying4 _)
 ·exact trodAll_mk4 (Below.trod laid (by kernel_rfl) (of_decide_eq_true (by kernel_rfl)) h0 hb (fun x hx=>hlt x (by simp [hx]))) (Below.trod laid (by kernel_rfl) (of_decide_eq_true (by kernel_rfl)) h1 hb (fun x hx=>hlt x (by simp [hx]))) (Below.trod laid (by kernel_rfl) (of_decide_eq_true (by kernel_rfl)) h2 hb (fun x hx=>hlt x (by simp [hx]))) (Below.trod laid (by kernel_rfl) (of_decide_eq_true (by kernel_rfl)) h3 hb (fun x hx=>hlt x (by simp [hx])))
theorem Gl (os:Os) (args:Array Value):laidMetH Tryz.prog Rows.pathWalksRow.laid ((World.doorLaid Tryz.prog 400 os).forCall (fun _ _=>0) ⟨#[],args,[]⟩).memory:=
 laidMetH_of_parts3 (fuel:=8) (laidMet_of_run' 8 (by kernel_rfl) (by kernel_rfl)) (by kernel_rfl) (by kernel_rfl)
theorem lifted (os:Os) (started:os.Started) (H:Type) (enc:TypeId×Value->H) :
  ReturnsInHanded {} Tryz.checked os 6 .any (fun w args=>(Rows.pathWalksSpec.pre enc Tryz.prog Tryz.f6 [] false w args∧laidMetH Tryz.prog Rows.pathWalksRow.laid w)∧sizedMet enc Tryz.prog Tryz.f6 (OpenSpec.ofChange Rows.pathWalksSpec) false w args)
   (Rows.pathWalksSpec.post enc Tryz.prog Tryz.f6 false true false false):=by
 refine returnsInHanded_of_change_and (C:=Tryz.checked) (X:=fun w _=>laidMetH Tryz.prog Rows.pathWalksRow.laid w) (fun _ _ _ hh h=>h.of_heap hh) own started (by kernel_rfl) Tryz.func6
  (ChangeSpec.witness_shaped (enc:=enc) (C:=Tryz.checked) (os:=os) (X:=fun w _=>laidMetH Tryz.prog Rows.pathWalksRow.laid w) false (World.doorLaid Tryz.prog 400 os) #[.agg #[.int .i64 0, .string ⟨#[]⟩, .slice none 0 0], .slice none 0 0, .slice none 0 0, .agg #[.string ⟨#[]⟩, .string ⟨#[]⟩, .string ⟨#[]⟩, .int .i64 0, .slice none 0 0]] 8 rfl (World.shaped_of_RefB (by kernel_rfl) (by kernel_rfl)) (by kernel_rfl) (by kernel_rfl) (by kernel_rfl) (Gl os _)) ?_
 intro W base args ds gs before hval hW _ hsz hL _;exact Gg H enc W args ds gs before base hval hW hsz hL
theorem over:Rows.pathWalksRow.holds Tryz.pinned (OpenSpec.ofChange Rows.pathWalksSpec):=
 OpenClaim.holds_of_wide 6 Tryz.f6 rfl rfl rfl rfl rfl rfl rfl ⟨rfl,rfl,rfl,rfl,rfl⟩ rfl rfl rfl rfl rfl (by kernel_rfl) Tryz.func6 (by kernel_rfl)
  (of_decide_eq_true (by kernel_rfl)) (by unfold Func.isWrapper;first|(rw [if_pos (by decide+kernel)];kernel_rfl)|(rw [if_neg (by decide+kernel)];exact ⟨rfl,rfl⟩))
  (fun os started H enc _=>lifted os started H enc)
theorem proved:Rows.PathWalksCardSaid:=
 Claim7.holds_tied_plain_at .later [] [.data, .data, .data] true _ false
  over (fun _ h=>by cases h) (by kernel_rfl) (fun _ h=>by cases h) pathWalks_row_tie rfl ⟨rfl,rfl⟩ (by kernel_rfl) rfl
  (fun f fn hf hfn=>by
   obtain rfl:f=6:=(UY ((show Tryz.prog.funcNamed "kinescope/kinescopelaw15.PathWalks" = some 6 by kernel_rfl).symm.trans hf)).symm
   obtain rfl:fn=Tryz.f6:=(UY (Tryz.func6.symm.trans hfn)).symm
   exact ⟨by kernel_rfl,fun j t ht=>by
    rw [Tryz.params6] at ht
    have hm:t∈[25,26,56,35]:=by simpa using Array.mem_of_getElem? ht
    have hall:([25,26,56,35].all fun u=> !Tryz.prog.wantsStandIn u)=true:=by kernel_rfl
    exact (show Tryz.prog.wantsStandIn t=false by simpa using Wc.1 hall t hm)⟩)
  (by kernel_rfl)
end pathWalks
theorem pathWalks_holds:Rows.PathWalksCardSaid:=pathWalks.proved
#print axioms pathWalks_holds
end
end Go.Proofs.YtlhhccmopfamhaaGreatDoor
