/- 'kinescopelaw11.TreeSame': for every two queries the call returns true and both read behind it as before. No condition beyond the row's own: the reading ends, and no text or slice that came in is longer than the form's reach. -/
import Derived.Test.YteihcfhdhkamfaaRows
import Derived.Test.YteihcfhdhkamfaaLawSame2
import Derived.Test.YteihcfhdhkamfaaOpen
import Derived.WalkKit
import Derived.ProofKit
import Derived.OpenShut
namespace Go.Proofs.Yteihcfhdhkamfaa
open Go.ChangeShapes Go.WideShapes Go.ChangeAt Go.RowKit

/-- a law that holds, of a call that owns nothing of its caller's -/
theorem Call1.to_ret {P : Program} {f : FuncId} {args : List AV} {v : Value} (h : Call1 P f args (.v v)) {w : World} {vargs : Array Value} (hr : RAs (fun _ => True) (fun _ _ => Go.undef) [] w args vargs) :
    Calls P f vargs w (Ret w v) := by
  refine (h.2.2 _ _ w vargs (RO.nil _ _ _ (fun _ _ => trivial)) hr).mono fun e w' hf => ?_
  obtain ⟨x, nu', o', r, rfl, hm, _, hx, rfl, rfl⟩ := hf
  have e1 := hx.v_eq
  subst e1
  exact ⟨rfl, hm.os, hm.tape, hm.output, hm.size, fun b hb => (hm.keep b hb (owned_nil _ _)).1⟩

namespace treeSame
theorem own : ownKnob Try.prog.godebug = none := by kernel_rfl
theorem laid : laidOutB Try.prog = true := by kernel_rfl
theorem contract (H : Type) (enc : TypeId × Value → H) (W : World) (args : Array Value) (ds gs : List (DataW H)) (before : List MemPlace)
    (hW : DataW.Whole enc Try.prog Try.f4.params.toList Rows.treeSameSpec.vars false W args.toList ds gs before)
    (hsz : (DataW.weightsEach Try.prog (Try.f4.params.toList ++ Rows.treeSameSpec.plain.varTypes Try.prog) (ds ++ gs)).all (· ≤ reachBytes) = true) :
    Calls Try.prog 4 args W fun e W' => ∃ v, e = .returned v ∧ Rows.treeSameSpec.post enc Try.prog Try.f4 false true false false W args v W' := by
  have hW' := hW
  have hlt := hW.lt
  obtain ⟨p, q, hA, hV, rfl, hfz, hnd⟩ := hW
  rw [Try.params4] at hA hsz
  obtain ⟨v0, v1, d0, d1, p0, p1, rfl, rfl, rfl, h0, h1⟩ := trodAll_two hA
  obtain ⟨rfl, rfl⟩ := trodVars_none hV
  have hs : ∀ (j : Nat) d, [d0, d1][j]? = some d → ∀ k ∈ d.weights Try.prog 26, k ≤ reachBytes := fun j d hd k hk => by
    have hj : j < 2 := (List.getElem?_eq_some_iff.1 hd).1
    have := List.all_eq_true.1 hsz k (DataW.weights_mem_each (j := j) (t := 26) (d := d) (by rcases (by omega : j = 0 ∨ j = 1) with rfl | rfl <;> rfl) (by rcases (by omega : j = 0 ∨ j = 1) with rfl | rfl <;> exact hd) k hk)
    simpa using this
  obtain ⟨q0, c0, rfl, r0, s0, o0⟩ := trod_qry h0 (hs 0 _ rfl)
  obtain ⟨q1, c1, rfl, r1, s1, o1⟩ := trod_qry h1 (hs 1 _ rfl)
  refine ((lawSame_c q0 q1 s0 s1 o0 o1).to_ret (w := W) (vargs := #[.agg c0.toArray, .agg c1.toArray]) ⟨rfl, fun i c x hc hx => ?_⟩).mono fun e W' he => ?_
  · match i, hc, hx with
    | 0, hc, hx => cases hc; cases hx; exact qry_ra (fun _ _ => trivial) r0
    | 1, hc, hx => cases hc; cases hx; exact qry_ra (fun _ _ => trivial) r1
    | i + 2, hc, hx => simp at hc
  obtain ⟨rfl, hb⟩ := he
  refine ⟨_, rfl, _, _, _, [], p0 ++ p1, [], hW', ?_, ?_, rfl, hb.frame _, fun h => by cases h⟩
  · exact trodAll_mk1 (shut_bool Try.underlying4 _)
  · exact trodAll_mk2 (Below.trod laid (by kernel_rfl) (of_decide_eq_true (by kernel_rfl)) h0 hb (fun x hx => hlt x (by simp [hx]))) (Below.trod laid (by kernel_rfl) (of_decide_eq_true (by kernel_rfl)) h1 hb (fun x hx => hlt x (by simp [hx])))

set_option maxRecDepth 100000 in
theorem lifted (os : Os) (started : os.Started) (H : Type) (enc : TypeId × Value → H) :
    ReturnsInHanded {} Try.checked os 4 .any (Rows.treeSameSpec.pre6 enc Try.prog Try.f4 Rows.treeSameRow.domain false) (Rows.treeSameSpec.post enc Try.prog Try.f4 false true false false) := by
  refine returnsInHanded_of_change_sized (C := Try.checked) own started (by kernel_rfl) Try.func4
    (ChangeSpec.witness6 (enc := enc) (C := Try.checked) false ⟨#[], #[.agg #[.slice none 0 0, .slice none 0 0, .slice none 0 0, .int .i64 0, .int .i64 0], .agg #[.slice none 0 0, .slice none 0 0, .slice none 0 0, .int .i64 0, .int .i64 0]], []⟩ 8 (by kernel_rfl) (by kernel_rfl) (by kernel_rfl) (by kernel_rfl)) ?_
  intro W base args ds gs before _ hW _ hsz _
  exact contract H enc W args ds gs before hW hsz

theorem over : Rows.treeSameRow.holds Try.pinned (OpenSpec.ofChange Rows.treeSameSpec) :=
  OpenClaim.holds_of_wide 4 Try.f4 rfl rfl rfl rfl rfl rfl rfl ⟨rfl, rfl, rfl, rfl, rfl⟩ rfl rfl rfl rfl rfl (by kernel_rfl) Try.func4 (by kernel_rfl)
    (of_decide_eq_true (by kernel_rfl)) (by unfold Func.isWrapper; first | (rw [if_pos (by decide +kernel)]; kernel_rfl) | (rw [if_neg (by decide +kernel)]; exact ⟨rfl, rfl⟩))
    (fun os started H enc _ => lifted os started H enc)

/-- THE STATEMENT -/
theorem proved : Rows.TreeSameSaid := over
end treeSame
theorem treeSame_holds : Rows.TreeSameSaid := treeSame.proved
#print axioms treeSame_holds
end Go.Proofs.Yteihcfhdhkamfaa
