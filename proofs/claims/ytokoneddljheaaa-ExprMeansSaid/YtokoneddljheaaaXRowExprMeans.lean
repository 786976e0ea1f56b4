/- 'kinescopelaw07.ExprMeans': for every input the call returns true and all read behind it as before. No condition beyond the row's own: the reading ends, and no text or slice that came in is longer than the form's reach. -/
import Derived.Test.YtokoneddljheaaaRows
import Derived.Test.YtokoneddljheaaaXRowK
import Derived.Test.YtokoneddljheaaaXOpenX
import Derived.Test.YtokoneddljheaaaXLaw07b
import Derived.WalkKit
import Derived.ProofKit
import Derived.OpenShut
set_option linter.unusedVariables false
namespace Go.Proofs.Ytokoneddljheaaa
open Go.ChangeShapes Go.WideShapes Go.ChangeAt Go.RowKit

namespace exprMeans
theorem own : ownKnob Try.prog.godebug = none := by kernel_rfl
theorem laid : laidOutB Try.prog = true := by kernel_rfl
set_option maxRecDepth 100000 in
theorem contract (H : Type) (enc : TypeId × Value → H) (W : World) (args : Array Value) (ds gs : List (DataW H)) (before : List MemPlace) (base : Nat)
    (hval : ∀ (j : Nat) t v, Try.f4.params[j]? = some t → args[j]? = some v → Value.okWide Try.prog W .any base t v)
    (hW : DataW.Whole enc Try.prog Try.f4.params.toList Rows.exprMeansSpec.vars false W args.toList ds gs before)
    (hsz : (DataW.weightsEach Try.prog (Try.f4.params.toList ++ Rows.exprMeansSpec.plain.varTypes Try.prog) (ds ++ gs)).all (· ≤ reachBytes) = true) :
    Calls Try.prog 4 args W fun e W' => ∃ v, e = .returned v ∧ Rows.exprMeansSpec.post enc Try.prog Try.f4 false true false false W args v W' := by
  have hW' := hW
  have hlt := hW.lt
  obtain ⟨p, q, hA, hV, rfl, hfz, hnd⟩ := hW
  rw [Try.params4] at hA hsz hval
  obtain ⟨v0, v1, v2, d0, d1, d2, p0, p1, p2, rfl, rfl, rfl, h0, h1, h2⟩ := trodAll_three hA
  obtain ⟨rfl, rfl⟩ := trodVars_none hV
  have z0 : ∀ k ∈ d0.weights Try.prog 39, k ≤ reachBytes := fun k hk => by
    have := List.all_eq_true.1 hsz k (DataW.weights_mem_each (j := 0) (t := 39) (d := d0) rfl rfl k hk)
    simpa using this
  have z1 : ∀ k ∈ d1.weights Try.prog 39, k ≤ reachBytes := fun k hk => by
    have := List.all_eq_true.1 hsz k (DataW.weights_mem_each (j := 1) (t := 39) (d := d1) rfl rfl k hk)
    simpa using this
  have z2 : ∀ k ∈ d2.weights Try.prog 43, k ≤ reachBytes := fun k hk => by
    have := List.all_eq_true.1 hsz k (DataW.weights_mem_each (j := 2) (t := 43) (d := d2) rfl rfl k hk)
    simpa using this
  obtain ⟨q0, c0, rfl, r0, o0⟩ := trod_ex h0 z0
  obtain ⟨q1, c1, rfl, r1, o1⟩ := trod_ex h1 z1
  obtain ⟨a2, n2, m2, rfl⟩ := okWide_slice uTexts (hval 2 43 v2 rfl rfl)
  obtain ⟨q2, r2, o2, s2⟩ := trod_strs h2 z2
  refine ((lawExprMeans_c q0 q1 q2 o0 o1).to_ret (w := W) (vargs := #[.agg c0.toArray, .agg c1.toArray, .slice a2 n2 m2]) ⟨rfl, fun i c x hc hx => ?_⟩).mono fun e W' he => ?_
  · match i, hc, hx with
    | 0, hc, hx => cases hc; cases hx; exact exArg_ra (fun _ _ => trivial) r0
    | 1, hc, hx => cases hc; cases hx; exact exArg_ra (fun _ _ => trivial) r1
    | 2, hc, hx => cases hc; cases hx; exact strs_ra (fun _ _ => trivial) r2
    | i + 3, hc, hx => simp at hc
  obtain ⟨rfl, hb⟩ := he
  refine ⟨_, rfl, _, _, _, [], p0 ++ (p1 ++ p2), [], hW', ?_, ?_, rfl, hb.frame _, fun h => by cases h⟩
  · exact trodAll_mk1 (shut_bool Try.underlying4 _)
  · exact trodAll_mk3 (Below.trod laid (by kernel_rfl) (of_decide_eq_true (by kernel_rfl)) h0 hb (fun x hx => hlt x (by simp [hx]))) (Below.trod laid (by kernel_rfl) (of_decide_eq_true (by kernel_rfl)) h1 hb (fun x hx => hlt x (by simp [hx]))) (Below.trod laid (by kernel_rfl) (of_decide_eq_true (by kernel_rfl)) h2 hb (fun x hx => hlt x (by simp [hx])))

set_option maxRecDepth 100000 in
theorem lifted (os : Os) (started : os.Started) (H : Type) (enc : TypeId × Value → H) :
    ReturnsInHanded {} Try.checked os 4 .any (Rows.exprMeansSpec.pre6 enc Try.prog Try.f4 Rows.exprMeansRow.domain false) (Rows.exprMeansSpec.post enc Try.prog Try.f4 false true false false) := by
  refine returnsInHanded_of_change_sized (C := Try.checked) own started (by kernel_rfl) Try.func4
    (ChangeSpec.witness6 (enc := enc) (C := Try.checked) false ⟨#[], #[.agg #[.int .i64 0, .string ⟨#[]⟩, .slice none 0 0], .agg #[.int .i64 0, .string ⟨#[]⟩, .slice none 0 0], .slice none 0 0], []⟩ 8 (by kernel_rfl) (by kernel_rfl) (by kernel_rfl) (by kernel_rfl)) ?_
  intro W base args ds gs before hval hW _ hsz _
  exact contract H enc W args ds gs before base hval hW hsz

theorem over : Rows.exprMeansRow.holds Try.pinned (OpenSpec.ofChange Rows.exprMeansSpec) :=
  OpenClaim.holds_of_wide 4 Try.f4 rfl rfl rfl rfl rfl rfl rfl ⟨rfl, rfl, rfl, rfl, rfl⟩ rfl rfl rfl rfl rfl (by kernel_rfl) Try.func4 (by kernel_rfl)
    (of_decide_eq_true (by kernel_rfl)) (by unfold Func.isWrapper; first | (rw [if_pos (by decide +kernel)]; kernel_rfl) | (rw [if_neg (by decide +kernel)]; exact ⟨rfl, rfl⟩))
    (fun os started H enc _ => lifted os started H enc)

/-- THE STATEMENT -/
theorem proved : Rows.ExprMeansSaid := over
end exprMeans
theorem exprMeans_holds : Rows.ExprMeansSaid := exprMeans.proved
#print axioms exprMeans_holds
end Go.Proofs.Ytokoneddljheaaa
