/- 'kinescopelaw15.PathTells': for every input the call returns true and all read behind it as before. Three tables (two of math/bits, one of internal/strconv) are laid, and tied to the program's text. No condition beyond the row's own: the reading ends, and no text or slice that came in is longer than the form's reach. -/
import Derived.Test.YtlhhccmopfamhaaGreatDoorQLawPaT
import Derived.Test.YtlhhccmopfamhaaGreatDoorRows
import Derived.Test.YtlhhccmopfamhaaGreatDoorCards
import Derived.Test.YtlhhccmopfamhaaGreatDoorTie
import Derived.SevenTiedAt
import Derived.Carry
set_option linter.unusedSimpArgs false
set_option linter.unusedVariables false
set_option maxRecDepth 100000
set_option maxHeartbeats 16000000
open List renaming all_eq_true -> afh
open Option.some renaming inj -> aem
namespace Go.Proofs.YtlhhccmopfamhaaGreatDoor
open Go.Proofs.Tryz
open Go.RowKit
open Go.ChangeShapes Go.WideShapes Go.ChangeAt Go.WideMaps Go.WideElems Go.RowKit
namespace pathTells
theorem own:ownKnob prog.godebug=none:=zo
theorem laid:laidOutB prog=true:=zo
theorem OH(H:Type)(enc:TypeId×Value->H)(W:World)(args:Array Value)(ds gs:List (DataW H))(before:List MemPlace)(base:Nat)
  (A:∀(j:Nat)t v,Tryz.f4.params[j]?=some t->args[j]?=some v->Value.okWide prog W .any base t v)
  (hW:DataW.Whole enc prog Tryz.f4.params.toList Rows.pathTellsSpec.vars false W args.toList ds gs before)
  (U:(DataW.weightsEach prog (Tryz.f4.params.toList++Rows.pathTellsSpec.plain.varTypes prog) (ds++gs)).all (· <= reachBytes)=true)
  (hL:laidMetH prog Rows.pathTellsRow.laid W) :
  Calls prog 4 args W λe W'=>∃v,e=.returned v∧Rows.pathTellsSpec.post enc prog Tryz.f4 false true false false W args v W':=by
 have hW':=hW;have V:=hW.lt;obtain⟨p,q,hA,hV,rfl,hfz,hnd⟩:=hW;rw[Tryz.params4]at hA U A;obtain⟨v0,v1,v2,d0,d1,d2,p0,p1,p2,rfl,rfl,rfl,h0,h1,h2⟩:=trodAll_three hA;obtain⟨rfl,rfl⟩:=trodVars_none hV
 have z0:∀k∈d0.weights prog 25,k<=reachBytes:=λk hk=>by
  have:=afh.1 U k (DataW.weights_mem_each (j:=0) (t:=25) (d:=d0) rfl rfl k hk)
  simpa using this
 have z1:∀k∈d1.weights prog 26,k<=reachBytes:=λk hk=>by
  have:=afh.1 U k (DataW.weights_mem_each (j:=1) (t:=26) (d:=d1) rfl rfl k hk)
  simpa using this
 obtain⟨q0,c0,rfl,r0,o0⟩:=UW h0 z0;obtain⟨a1,n1,m1,rfl⟩:=okWide_slice Vz (A 1 26 v1 rfl rfl);obtain⟨q1,r1,o1,s1⟩:=Ry h1 z1;obtain⟨q2,rfl, -, -, -⟩:=Go.ChangeMaps.open_string Jm (A 2 9 v2 rfl rfl) h2
 refine((yA q0 q1 q2 o0 o1 s1).Xl (w:=W) (vargs:= #[.agg c0.toArray,.slice a1 n1 m1,.string q2]) ⟨rfl,λi c x O u=>?_⟩ (L8 hL)).mono λe W' he=>?_
 ·match i,O,u with
  |0,O,u=>cases O;cases u;exact O4 (λ_ _=>trivial) r0
  |1,O,u=>cases O;cases u;exact We (λ_ _=>trivial) r1
  |2,O,u=>cases O;cases u;exact .v _
  |i+3,O,u=>simp at O
 obtain⟨rfl,Y⟩:=he
 refine⟨_,rfl,_,_,_,[],p0++(p1++p2),[],hW',?_,?_,rfl,Y.frame _,λh=>by cases h⟩
 ·exact trodAll_mk1 (shut_bool Tryz.underlying4 _)
 ·exact trodAll_mk3 (Below.trod laid zo (of_decide_eq_true zo) h0 Y (λx u=>V x (by simp[u]))) (Below.trod laid zo (of_decide_eq_true zo) h1 Y (λx u=>V x (by simp[u]))) (Below.trod laid zo (of_decide_eq_true zo) h2 Y (λx u=>V x (by simp[u])))
theorem OS(os:Os)(args:Array Value):laidMetH prog Rows.pathTellsRow.laid ((World.doorLaid prog 400 os).forCall (λ_ _=>0) ⟨#[],args,[]⟩).memory:=
 laidMetH_of_parts3 (fuel:=8) (laidMet_of_run' 8 zo zo) zo zo
theorem lifted(os:Os)(started:os.Started)(H:Type)(enc:TypeId×Value->H) :
  ReturnsInHanded {} Tryz.checked os 4 .any (λw args=>(Rows.pathTellsSpec.pre enc prog Tryz.f4 [] false w args∧laidMetH prog Rows.pathTellsRow.laid w)∧sizedMet enc prog Tryz.f4 (OpenSpec.ofChange Rows.pathTellsSpec) false w args)
   (Rows.pathTellsSpec.post enc prog Tryz.f4 false true false false):=by
 refine returnsInHanded_of_change_and (C:=Tryz.checked) (X:=λw _=>laidMetH prog Rows.pathTellsRow.laid w) (λ_ _ _ A h=>h.of_heap A) own started zo func4
  (ChangeSpec.witness_shaped (enc:=enc) (C:=Tryz.checked) (os:=os) (X:=λw _=>laidMetH prog Rows.pathTellsRow.laid w) false (World.doorLaid prog 400 os) #[.agg #[.int .i64 0,.string ⟨#[]⟩,.slice none 0 0],.slice none 0 0,.string ⟨#[]⟩] 8 rfl (World.shaped_of_RefB zo zo) zo zo zo (OS os _)) ?_
 intro W base args ds gs before q O _ u U _;exact OH H enc W args ds gs before base q O u U
theorem over:Rows.pathTellsRow.holds Tryz.pinned (OpenSpec.ofChange Rows.pathTellsSpec):=
 OpenClaim.holds_of_wide 4 Tryz.f4 rfl rfl rfl rfl rfl rfl rfl ⟨rfl,rfl,rfl,rfl,rfl⟩ rfl rfl rfl rfl rfl zo func4 zo
  (of_decide_eq_true zo) (by unfold Func.isWrapper;first|(rw[if_pos za];kernel_rfl)|(rw[if_neg za];exact⟨rfl,rfl⟩))
  (λos started H enc _=>lifted os started H enc)
theorem proved:Rows.PathTellsCardSaid:=
 Claim7.holds_tied_plain_at .later [] [.data,.data,.data] true _ false
  over (λ_ h=>by cases h) zo (λ_ h=>by cases h) pathTells_row_tie rfl ⟨rfl,rfl⟩ zo rfl
  (λf fn U A=>by
   obtain rfl:f=4:=(aem ((show prog.funcNamed "kinescope/kinescopelaw15.PathTells" = some 4 by kernel_rfl).symm.trans U)).symm
   obtain rfl:fn=Tryz.f4:=(aem (func4.symm.trans A)).symm
   exact⟨zo,λj t H=>by
    rw[Tryz.params4]at H
    have O:t∈[25,26,9]:=by simpa using Array.mem_of_getElem? H
    have q:([25,26,9].all λu=> !prog.wantsStandIn u)=true:=zo
    exact(show prog.wantsStandIn t=false by simpa using afh.1 q t O)⟩)
   zo
end pathTells
theorem pathTells_holds:Rows.PathTellsCardSaid:=pathTells.proved
#print axioms pathTells_holds
end Go.Proofs.YtlhhccmopfamhaaGreatDoor
