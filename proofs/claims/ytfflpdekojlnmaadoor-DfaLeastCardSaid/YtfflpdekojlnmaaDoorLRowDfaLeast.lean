/- 'kinescopelaw09.DfaLeast': for every input the call returns true and all read behind it as before. Three tables (two of math/bits, one of internal/strconv) are laid, and tied to the program's text. No condition beyond the row's own: the reading ends, and no text or slice that came in is longer than the form's reach. -/
import Derived.Test.YtfflpdekojlnmaaDoorRows
import Derived.Test.YtfflpdekojlnmaaDoorCards
import Derived.Test.YtfflpdekojlnmaaDoorTie
import Derived.Test.YtfflpdekojlnmaaDoorLLaid9
import Derived.Test.YtfflpdekojlnmaaDoorLLawDfaM
import Derived.WalkKit
import Derived.ProofKit
import Derived.OpenShut
import Derived.Stop.Joined
import Derived.SevenTiedAt
import Derived.Carry
set_option linter.unusedVariables false
namespace Go.Proofs.YtfflpdekojlnmaaDoor
open Go.ChangeShapes Go.WideShapes Go.ChangeAt Go.WideMaps Go.WideElems Go.RowKit

namespace dfaLeast
theorem own : ownKnob Tryd.prog.godebug = none := by kernel_rfl
theorem laid : laidOutB Tryd.prog = true := by kernel_rfl
set_option maxRecDepth 100000 in
theorem contract (H : Type) (enc : TypeId × Value → H) (W : World) (args : Array Value) (ds gs : List (DataW H)) (before : List MemPlace) (base : Nat)
  (hval : ∀ (j : Nat) t v, Tryd.f3.params[j]? = some t → args[j]? = some v → Value.okWide Tryd.prog W .any base t v)
  (hW : DataW.Whole enc Tryd.prog Tryd.f3.params.toList Rows.dfaLeastSpec.vars false W args.toList ds gs before)
  (hsz : (DataW.weightsEach Tryd.prog (Tryd.f3.params.toList ++ Rows.dfaLeastSpec.plain.varTypes Tryd.prog) (ds ++ gs)).all (· ≤ reachBytes) = true)
  (hL : laidMetH Tryd.prog Rows.dfaLeastRow.laid W) :
  Calls Tryd.prog 3 args W fun e W' => ∃ v, e = .returned v ∧ Rows.dfaLeastSpec.post enc Tryd.prog Tryd.f3 false true false false W args v W' := by
 have hW' := hW
 have hlt := hW.lt
 obtain ⟨p, q, hA, hV, rfl, hfz, hnd⟩ := hW
 rw [Tryd.params3] at hA hsz hval
 obtain ⟨v0, v1, d0, d1, p0, p1, rfl, rfl, rfl, h0, h1⟩ := trodAll_two hA
 obtain ⟨rfl, rfl⟩ := trodVars_none hV
 have z0 : ∀ k ∈ d0.weights Tryd.prog 25, k ≤ reachBytes := fun k hk => by
  have := List.all_eq_true.1 hsz k (DataW.weights_mem_each (j := 0) (t := 25) (d := d0) rfl rfl k hk)
  simpa using this
 have z1 : ∀ k ∈ d1.weights Tryd.prog 25, k ≤ reachBytes := fun k hk => by
  have := List.all_eq_true.1 hsz k (DataW.weights_mem_each (j := 1) (t := 25) (d := d1) rfl rfl k hk)
  simpa using this
 obtain ⟨q0, c0, rfl, r0, o0⟩ := trod_ex h0 z0
 obtain ⟨q1, c1, rfl, r1, o1⟩ := trod_ex h1 z1
 refine ((lawDfaLeast_c q0 q1 o0 o1).to_ret (w := W) (vargs := #[.agg c0.toArray, .agg c1.toArray]) ⟨rfl, fun i c x hc hx => ?_⟩ (glob_laid hL)).mono fun e W' he => ?_
 ·match i, hc, hx with
  | 0, hc, hx => cases hc; cases hx; exact exArg_ra (fun _ _ => trivial) r0
  | 1, hc, hx => cases hc; cases hx; exact exArg_ra (fun _ _ => trivial) r1
  | i + 2, hc, hx => simp at hc
 obtain ⟨rfl, hb⟩ := he
 refine ⟨_, rfl, _, _, _, [], p0 ++ p1, [], hW', ?_, ?_, rfl, hb.frame _, fun h => by cases h⟩
 ·exact trodAll_mk1 (shut_bool Tryd.underlying4 _)
 ·exact trodAll_mk2 (Below.trod laid (by kernel_rfl) (of_decide_eq_true (by kernel_rfl)) h0 hb (fun x hx => hlt x (by simp [hx]))) (Below.trod laid (by kernel_rfl) (of_decide_eq_true (by kernel_rfl)) h1 hb (fun x hx => hlt x (by simp [hx])))

theorem door_met (os : Os) (args : Array Value) : laidMetH Tryd.prog Rows.dfaLeastRow.laid ((World.doorLaid Tryd.prog 400 os).forCall (fun _ _ => 0) ⟨#[], args, []⟩).memory :=
 laidMetH_of_parts3 (fuel := 8) (laidMet_of_run' 8 (by kernel_rfl) (by kernel_rfl)) (by kernel_rfl) (by kernel_rfl)
set_option maxRecDepth 100000 in
theorem lifted (os : Os) (started : os.Started) (H : Type) (enc : TypeId × Value → H) :
  ReturnsInHanded {} Tryd.checked os 3 .any (fun w args => (Rows.dfaLeastSpec.pre enc Tryd.prog Tryd.f3 [] false w args ∧ laidMetH Tryd.prog Rows.dfaLeastRow.laid w) ∧ sizedMet enc Tryd.prog Tryd.f3 (OpenSpec.ofChange Rows.dfaLeastSpec) false w args)
   (Rows.dfaLeastSpec.post enc Tryd.prog Tryd.f3 false true false false) := by
 refine returnsInHanded_of_change_and (C := Tryd.checked) (X := fun w _ => laidMetH Tryd.prog Rows.dfaLeastRow.laid w) (fun _ _ _ hh h => h.of_heap hh) own started (by kernel_rfl) Tryd.func3
  (ChangeSpec.witness_shaped (enc := enc) (C := Tryd.checked) (os := os) (X := fun w _ => laidMetH Tryd.prog Rows.dfaLeastRow.laid w) false (World.doorLaid Tryd.prog 400 os) #[.agg #[.int .i64 0, .string ⟨#[]⟩, .slice none 0 0], .agg #[.int .i64 0, .string ⟨#[]⟩, .slice none 0 0]] 8 rfl (World.shaped_of_RefB (by kernel_rfl) (by kernel_rfl)) (by kernel_rfl) (by kernel_rfl) (by kernel_rfl) (door_met os _)) ?_
 intro W base args ds gs before hval hW _ hsz hL _
 exact contract H enc W args ds gs before base hval hW hsz hL

theorem over : Rows.dfaLeastRow.holds Tryd.pinned (OpenSpec.ofChange Rows.dfaLeastSpec) :=
 OpenClaim.holds_of_wide 3 Tryd.f3 rfl rfl rfl rfl rfl rfl rfl ⟨rfl, rfl, rfl, rfl, rfl⟩ rfl rfl rfl rfl rfl (by kernel_rfl) Tryd.func3 (by kernel_rfl)
  (of_decide_eq_true (by kernel_rfl)) (by unfold Func.isWrapper; first | (rw [if_pos (by decide +kernel)]; kernel_rfl) | (rw [if_neg (by decide +kernel)]; exact ⟨rfl, rfl⟩))
  (fun os started H enc _ => lifted os started H enc)

theorem proved : Rows.DfaLeastCardSaid :=
 Claim7.holds_tied_plain_at .later [] [.data, .data, .data] true _ false
  over (fun _ h => by cases h) (by kernel_rfl) (fun _ h => by cases h) dfaLeast_row_tie rfl ⟨rfl, rfl⟩ (by kernel_rfl) rfl
  (fun f fn hf hfn => by
   obtain rfl : f = 3 := (Option.some.inj ((show Tryd.prog.funcNamed "kinescope/kinescopelaw09.DfaLeast" = some 3 by kernel_rfl).symm.trans hf)).symm
   obtain rfl : fn = Tryd.f3 := (Option.some.inj (Tryd.func3.symm.trans hfn)).symm
   exact ⟨by kernel_rfl, fun j t ht => by
    rw [Tryd.params3] at ht
    have hm : t ∈ [25, 25] := by simpa using Array.mem_of_getElem? ht
    have hall : ([25, 25].all fun u => !Tryd.prog.wantsStandIn u) = true := by kernel_rfl
    exact (show Tryd.prog.wantsStandIn t = false by simpa using List.all_eq_true.1 hall t hm)⟩)
  (by kernel_rfl)
end dfaLeast
theorem dfaLeast_holds : Rows.DfaLeastCardSaid := dfaLeast.proved
#print axioms dfaLeast_holds
end Go.Proofs.YtfflpdekojlnmaaDoor
