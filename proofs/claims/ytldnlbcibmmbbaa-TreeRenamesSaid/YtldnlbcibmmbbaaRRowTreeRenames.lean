/- 'kinescopelaw11.TreeRenames': for every input the call returns true and all read behind it as before. No condition beyond the row's own: the reading ends, and no text or slice that came in is longer than the form's reach. -/
import Derived.Test.YtldnlbcibmmbbaaRows
import Derived.Test.YtldnlbcibmmbbaaRTy
import Derived.Test.YtldnlbcibmmbbaaRLawRen
import Derived.WalkKit
import Derived.ProofKit
import Derived.OpenShut
set_option linter.unusedVariables false
namespace Go.Proofs.Ytldnlbcibmmbbaa
open Go.ChangeShapes Go.WideShapes Go.ChangeAt Go.RowKit

namespace treeRenames
theorem own : ownKnob Try.prog.godebug = none := by kernel_rfl
theorem laid : laidOutB Try.prog = true := by kernel_rfl
set_option maxRecDepth 100000 in
theorem contract (H : Type) (enc : TypeId × Value → H) (W : World) (args : Array Value) (ds gs : List (DataW H)) (before : List MemPlace) (base : Nat)
  (hval : ∀ (j : Nat) t v, Try.f3.params[j]? = some t → args[j]? = some v → Value.okWide Try.prog W .any base t v)
  (hW : DataW.Whole enc Try.prog Try.f3.params.toList Rows.treeRenamesSpec.vars false W args.toList ds gs before)
  (hsz : (DataW.weightsEach Try.prog (Try.f3.params.toList ++ Rows.treeRenamesSpec.plain.varTypes Try.prog) (ds ++ gs)).all (· ≤ reachBytes) = true) :
  Calls Try.prog 3 args W fun e W' => ∃ v, e = .returned v ∧ Rows.treeRenamesSpec.post enc Try.prog Try.f3 false true false false W args v W' := by
 have hW' := hW
 have hlt := hW.lt
 obtain ⟨p, q, hA, hV, rfl, hfz, hnd⟩ := hW
 rw [Try.params3] at hA hsz hval
 obtain ⟨v0, v1, v2, d0, d1, d2, p0, p1, p2, rfl, rfl, rfl, h0, h1, h2⟩ := trodAll_three hA
 obtain ⟨rfl, rfl⟩ := trodVars_none hV
 have z0 : ∀ k ∈ d0.weights Try.prog 26, k ≤ reachBytes := fun k hk => by
  have := List.all_eq_true.1 hsz k (DataW.weights_mem_each (j := 0) (t := 26) (d := d0) rfl rfl k hk)
  simpa using this
 have z1 : ∀ k ∈ d1.weights Try.prog 27, k ≤ reachBytes := fun k hk => by
  have := List.all_eq_true.1 hsz k (DataW.weights_mem_each (j := 1) (t := 27) (d := d1) rfl rfl k hk)
  simpa using this
 have z2 : ∀ k ∈ d2.weights Try.prog 27, k ≤ reachBytes := fun k hk => by
  have := List.all_eq_true.1 hsz k (DataW.weights_mem_each (j := 2) (t := 27) (d := d2) rfl rfl k hk)
  simpa using this
 obtain ⟨q0, c0, rfl, r0, s0, o0⟩ := trod_qry h0 z0
 obtain ⟨a1, n1, m1, rfl⟩ := okWide_slice uTexts (hval 1 27 v1 rfl rfl)
 obtain ⟨q1, r1, o1, s1⟩ := trod_strs h1 z1
 obtain ⟨a2, n2, m2, rfl⟩ := okWide_slice uTexts (hval 2 27 v2 rfl rfl)
 obtain ⟨q2, r2, o2, s2⟩ := trod_strs h2 z2
 refine ((lawRenames_c q0 q1 q2 s0 o0 s1 s2).to_ret (w := W) (vargs := #[.agg c0.toArray, .slice a1 n1 m1, .slice a2 n2 m2]) ⟨rfl, fun i c x hc hx => ?_⟩).mono fun e W' he => ?_
 ·match i, hc, hx with
  | 0, hc, hx => cases hc; cases hx; exact qry_ra (fun _ _ => trivial) r0
  | 1, hc, hx => cases hc; cases hx; exact strs_ra (fun _ _ => trivial) r1
  | 2, hc, hx => cases hc; cases hx; exact strs_ra (fun _ _ => trivial) r2
  | i + 3, hc, hx => simp at hc
 obtain ⟨rfl, hb⟩ := he
 refine ⟨_, rfl, _, _, _, [], p0 ++ (p1 ++ p2), [], hW', ?_, ?_, rfl, hb.frame _, fun h => by cases h⟩
 ·exact trodAll_mk1 (shut_bool Try.underlying4 _)
 ·exact trodAll_mk3 (Below.trod laid (by kernel_rfl) (of_decide_eq_true (by kernel_rfl)) h0 hb (fun x hx => hlt x (by simp [hx]))) (Below.trod laid (by kernel_rfl) (of_decide_eq_true (by kernel_rfl)) h1 hb (fun x hx => hlt x (by simp [hx]))) (Below.trod laid (by kernel_rfl) (of_decide_eq_true (by kernel_rfl)) h2 hb (fun x hx => hlt x (by simp [hx])))

set_option maxRecDepth 100000 in
theorem lifted (os : Os) (started : os.Started) (H : Type) (enc : TypeId × Value → H) :
  ReturnsInHanded {} Try.checked os 3 .any (Rows.treeRenamesSpec.pre6 enc Try.prog Try.f3 Rows.treeRenamesRow.domain false) (Rows.treeRenamesSpec.post enc Try.prog Try.f3 false true false false) := by
 refine returnsInHanded_of_change_sized (C := Try.checked) own started (by kernel_rfl) Try.func3
  (ChangeSpec.witness6 (enc := enc) (C := Try.checked) false ⟨#[], #[.agg #[.slice none 0 0, .slice none 0 0, .slice none 0 0, .int .i64 0, .int .i64 0], .slice none 0 0, .slice none 0 0], []⟩ 8 (by kernel_rfl) (by kernel_rfl) (by kernel_rfl) (by kernel_rfl)) ?_
 intro W base args ds gs before hval hW _ hsz _
 exact contract H enc W args ds gs before base hval hW hsz

theorem over : Rows.treeRenamesRow.holds Try.pinned (OpenSpec.ofChange Rows.treeRenamesSpec) :=
 OpenClaim.holds_of_wide 3 Try.f3 rfl rfl rfl rfl rfl rfl rfl ⟨rfl, rfl, rfl, rfl, rfl⟩ rfl rfl rfl rfl rfl (by kernel_rfl) Try.func3 (by kernel_rfl)
  (of_decide_eq_true (by kernel_rfl)) (by unfold Func.isWrapper; first | (rw [if_pos (by decide +kernel)]; kernel_rfl) | (rw [if_neg (by decide +kernel)]; exact ⟨rfl, rfl⟩))
  (fun os started H enc _ => lifted os started H enc)

theorem proved : Rows.TreeRenamesSaid := over
end treeRenames
theorem treeRenames_holds : Rows.TreeRenamesSaid := treeRenames.proved
#print axioms treeRenames_holds
end Go.Proofs.Ytldnlbcibmmbbaa
