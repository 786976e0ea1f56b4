/- 'kinescopelaw15.PathEnds': for every input the call returns true and all read behind it as before. Three tables (two of math/bits, one of internal/strconv) are laid, and tied to the program's text. No condition beyond the row's own: the reading ends, and no text or slice that came in is longer than the form's reach. -/
import Derived.Test.YtlhhccmopfamhaaGreatDoorVLawPaN
import Derived.Test.YtlhhccmopfamhaaGreatDoorRows
import Derived.Test.YtlhhccmopfamhaaGreatDoorCards
import Derived.Test.YtlhhccmopfamhaaGreatDoorTie
import Derived.SevenTiedAt
import Derived.Carry
set_option linter.unusedSimpArgs false
set_option linter.unusedVariables false
set_option maxRecDepth 100000
set_option maxHeartbeats 16000000
open Option.some renaming inj -> aec
namespace Go.Proofs.YtlhhccmopfamhaaGreatDoor
open Go.Proofs.Tryz
open Go.RowKit
open Go.ChangeShapes Go.WideShapes Go.ChangeAt Go.WideMaps Go.WideElems Go.RowKit
namespace pathEnds
theorem own:ownKnob prog.godebug=none:=zo
theorem laid:laidOutB prog=true:=zo
theorem OM(H:Type)(enc:TypeId×Value->H)(W:World)(args:Array Value)(ds gs:List (DataW H))(before:List MemPlace)(base:Nat)
  (u:∀(j:Nat)t v,Tryz.f5.params[j]?=some t->args[j]?=some v->Value.okWide prog W .any base t v)
  (U:DataW.Whole enc prog Tryz.f5.params.toList Rows.pathEndsSpec.vars false W args.toList ds gs before)
  (A:(DataW.weightsEach prog (Tryz.f5.params.toList++Rows.pathEndsSpec.plain.varTypes prog) (ds++gs)).all (· <= reachBytes)=true)
  (hL:laidMetH prog Rows.pathEndsRow.laid W) :
  Calls prog 5 args W λe Y=>∃v,e=.returned v∧Rows.pathEndsSpec.post enc prog Tryz.f5 false true false false W args v Y:=by
 have O:=U;have hlt:=U.lt;obtain⟨p,q,V,hV,rfl,hfz,hnd⟩:=U;rw[Tryz.params5]at V A u;obtain⟨rfl,rfl,rfl⟩:=trodAll_none V;obtain⟨rfl,rfl⟩:=trodVars_none hV
 refine((z7).Xo (w:=W) (vargs:= #[]) ⟨rfl,λi c x hc hx=>?_⟩ (Mf hL)).mono λe Y he=>?_
 ·simp at hc
 obtain⟨rfl,hb⟩:=he
 refine⟨_,rfl,_,_,_,[],[],[],O,?_,?_,rfl,hb.frame _,λh=>by cases h⟩
 ·exact trodAll_mk1 (shut_bool Tryz.underlying4 _)
 ·exact trodAll_mk0
theorem OY(os:Os)(args:Array Value):laidMetH prog Rows.pathEndsRow.laid ((World.doorLaid prog 400 os).forCall (λ_ _=>0) ⟨#[],args,[]⟩).memory:=
 laidMetH_of_parts3 (fuel:=8) (laidMet_of_run' 8 zo zo) zo zo
theorem lifted(os:Os)(started:os.Started)(H:Type)(enc:TypeId×Value->H) :
  ReturnsInHanded {} Tryz.checked os 5 .any (λw args=>(Rows.pathEndsSpec.pre enc prog Tryz.f5 [] false w args∧laidMetH prog Rows.pathEndsRow.laid w)∧sizedMet enc prog Tryz.f5 (OpenSpec.ofChange Rows.pathEndsSpec) false w args)
   (Rows.pathEndsSpec.post enc prog Tryz.f5 false true false false):=by
 refine returnsInHanded_of_change_and (C:=Tryz.checked) (X:=λw _=>laidMetH prog Rows.pathEndsRow.laid w) (λ_ _ _ A h=>h.of_heap A) own started zo func5
  (ChangeSpec.witness_shaped (enc:=enc) (C:=Tryz.checked) (os:=os) (X:=λw _=>laidMetH prog Rows.pathEndsRow.laid w) false (World.doorLaid prog 400 os) #[] 8 rfl (World.shaped_of_RefB zo zo) zo zo zo (OY os _)) ?_
 intro W base args ds gs before q O _ u U _;exact OM H enc W args ds gs before base q O u U
theorem over:Rows.pathEndsRow.holds Tryz.pinned (OpenSpec.ofChange Rows.pathEndsSpec):=
 OpenClaim.holds_of_wide 5 Tryz.f5 rfl rfl rfl rfl rfl rfl rfl ⟨rfl,rfl,rfl,rfl,rfl⟩ rfl rfl rfl rfl rfl zo func5 zo
  (of_decide_eq_true zo) (by unfold Func.isWrapper;first|(rw[if_pos za];kernel_rfl)|(rw[if_neg za];exact⟨rfl,rfl⟩))
  (λos started H enc _=>lifted os started H enc)
theorem proved:Rows.PathEndsCardSaid:=
 Claim7.holds_tied_plain_at .later [] [.data,.data,.data] true _ false
  over (λ_ h=>by cases h) zo (λ_ h=>by cases h) pathEnds_row_tie rfl ⟨rfl,rfl⟩ zo rfl
  (λf fn A q=>by
   obtain rfl:f=5:=(aec ((show prog.funcNamed "kinescope/kinescopelaw15.PathEnds" = some 5 by kernel_rfl).symm.trans A)).symm
   obtain rfl:fn=Tryz.f5:=(aec (func5.symm.trans q)).symm
   exact⟨zo,λj t u=>by
    rw[Tryz.params5]at u
    simp at u⟩)
   zo
end pathEnds
theorem pathEnds_holds:Rows.PathEndsCardSaid:=pathEnds.proved
#print axioms pathEnds_holds
end Go.Proofs.YtlhhccmopfamhaaGreatDoor
