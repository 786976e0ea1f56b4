/- OverQuery, as it writes over lists that may share memory: all but the blocks S stays; what is read of S is as it was, or nil. -/
import Derived.Test.YtldnlbcibmmbbaaRLentQ
import Derived.StillTailTactics
import Derived.Test.YtldnlbcibmmbbaaRBase2
set_option linter.unusedSimpArgs false
set_option linter.unusedVariables false
namespace Go.Proofs.Ytldnlbcibmmbbaa
open Go.RowKit

structure Ovr (S : Nat → Prop) (w1 w : World) : Prop where
 os : w.os = w1.os
 tape : w.tape = w1.tape
 output : w.output = w1.output
 size : w1.heap.size ≤ w.heap.size
 same : ∀ b, b < w1.heap.size → ¬ S b → w.heap[b]? = w1.heap[b]?
 cells : ∀ (b : Nat) (C : Array Value) (T : TypeId), S b → w1.heap[b]? = some (.cells C T (0, 0)) → ∃ C', w.heap[b]? = some (.cells C' T (0, 0)) ∧ C'.size = C.size ∧
  (∀ (i : Nat) x, C[i]? = some x → x.oneCell' = true → ∃ x', C'[i]? = some x' ∧ x'.oneCell' = true) ∧
  (T = 43 → ∀ (i : Nat) x, C[i * 3 + 2]? = some x → C'[i * 3 + 2]? = some x ∨ C'[i * 3 + 2]? = some (.slice none 0 0)) ∧
  (T = 45 → ∀ (i : Nat) x, C[i * 8 + 7]? = some x → C'[i * 8 + 7]? = some x ∨ C'[i * 8 + 7]? = some (.slice none 0 0))
theorem Ovr.refl (S : Nat → Prop) (w : World) : Ovr S w w := ⟨rfl, rfl, rfl, Nat.le_refl _, fun _ _ _ => rfl, fun b C T _ h => ⟨C, h, rfl, fun i x h h' => ⟨x, h, h'⟩, fun _ i x h => .inl h, fun _ i x h => .inl h⟩⟩
theorem Ovr.below {S : Nat → Prop} {w1 w w' : World} (h : Ovr S w1 w) (hb : Below w.heap.size w w') : Ovr S w1 w' :=
 ⟨hb.os.trans h.os, hb.tape.trans h.tape, hb.output.trans h.output, Nat.le_trans h.size hb.size, fun b h1 h2 => (hb.block b (Nat.lt_of_lt_of_le h1 h.size)).trans (h.same b h1 h2), fun b C T h1 h2 => by
  obtain ⟨C', q1, q2⟩ := h.cells b C T h1 h2
  exact ⟨C', (hb.block b (Array.getElem?_eq_some_iff.1 q1).1).trans q1, q2⟩⟩

inductive TL (S : Nat → Prop) (w1 : World) (T : TypeId) (z : Nat) (p : Nat → Array Value → Prop) : Value → Prop
 | nil : TL S w1 T z p (.slice none 0 0)
 | odd (a : Addr) : TL S w1 T z p (.slice (some a) 0 0)
 | mk (b n cap : Nat) (C : Array Value) : S b → w1.heap[b]? = some (.cells C T (0, 0)) → C.size = cap * z → n ≤ cap → cap ≤ maxLen → n ≤ 1000000 → p n C → TL S w1 T z p (.slice (some ⟨b, 0, none⟩) n cap)
inductive TE (S : Nat → Prop) (w1 : World) : Value → Prop
 | nil : TE S w1 (.slice none 0 0)
 | odd (a : Addr) : TE S w1 (.slice (some a) 0 0)
 | mk (b n cap : Nat) (C : Array Value) (f : Nat → Value) : S b → w1.heap[b]? = some (.cells C 43 (0, 0)) → C.size = cap * 3 → n ≤ cap → cap ≤ maxLen → n ≤ 1000000 → (∀ i, i < n → ∃ a b, C[i * 3]? = some a ∧ C[i * 3 + 1]? = some b ∧ a.oneCell' = true ∧ b.oneCell' = true) → (∀ i, i < n → C[i * 3 + 2]? = some (f i)) → (∀ i, i < n → TE S w1 (f i)) → TE S w1 (.slice (some ⟨b, 0, none⟩) n cap)
def TP (S : Nat → Prop) (w1 : World) : Value → Prop := TL S w1 45 8 (fun n C => ∀ i, i < n → (∀ j, j < 7 → ∃ x, C[i * 8 + j]? = some x ∧ x.oneCell' = true) ∧ ∃ x, C[i * 8 + 7]? = some x ∧ TE S w1 x)

theorem TE.keep {S S' : Nat → Prop} {w w' : World} {x : Value} (h : TE S w x) (hS : ∀ b, S b → S' b) (hk : ∀ b, S b → w'.heap[b]? = w.heap[b]?) : TE S' w' x := by
 induction h with
 | nil => exact .nil
 | odd a => exact .odd a
 | mk b n cap C f h1 h2 h3 h4 h5 h6 h7 h8 _ ih => exact .mk b n cap C f (hS b h1) ((hk b h1).trans h2) h3 h4 h5 h6 h7 h8 ih
theorem TL.keep {S S' : Nat → Prop} {w w' : World} {T : TypeId} {z : Nat} {p p' : Nat → Array Value → Prop} {x : Value} (h : TL S w T z p x) (hS : ∀ b, S b → S' b) (hk : ∀ b, S b → w'.heap[b]? = w.heap[b]?) (hp : ∀ n C, p n C → p' n C) : TL S' w' T z p' x := by
 cases h with
 | nil => exact .nil
 | odd a => exact .odd a
 | mk b n cap C h1 h2 h3 h4 h5 h6 h7 => exact .mk b n cap C (hS b h1) ((hk b h1).trans h2) h3 h4 h5 h6 (hp n C h7)

set_option maxRecDepth 100000 in
theorem mark2_w (i : Nat) (hi : i ≤ 2000000) (w : World) : Calls Try.prog 78 #[.int .i64 2, .int .i64 i] w (fun e w' => (∃ j : Int, e = .returned (.int .i64 j)) ∧ w' = w) := by
 go_enter Try.func78, Try.ntmps78
 go_wp2_with fail
 go_ret
 exact ⟨⟨_, rfl⟩, rfl⟩
set_option maxRecDepth 100000 in
theorem markE2_w (i : Nat) (hi : i ≤ 2000000) (w : World) : Calls Try.prog 97 #[.int .i64 2, .int .i64 i] w (fun e w' => (∃ j : Int, e = .returned (.agg #[.int .i64 j, .string ⟨#[]⟩, .slice none 0 0])) ∧ Below w.heap.size w w') := by
 go_enter Try.func97, Try.ntmps97
 go_wp2_with fail
 refine (mark2_w i hi _).mono ?_
 rintro e w' ⟨⟨j, rfl⟩, rfl⟩
 go_wp2_with fail
 exact bodyPost_ret (by simp [results, Try.results97, go_sem]) rfl ⟨⟨j, rfl⟩, (Below.refl _ _).alloc (Nat.le_refl _) _⟩
set_option maxRecDepth 100000 in
theorem markP2_w (i : Nat) (hi : i ≤ 2000000) (w : World) : Calls Try.prog 54 #[.int .i64 2, .int .i64 i] w (fun e w' => (∃ j : Int, e = .returned (.agg #[.string ⟨#[]⟩, .string ⟨#[]⟩, .bool false, .string ⟨#[109]⟩, .string ⟨#[]⟩, .int .i64 j, .string ⟨#[]⟩, .slice none 0 0])) ∧ Below w.heap.size w w') := by
 go_enter Try.func54, Try.ntmps54
 go_wp2_with fail
 refine (mark2_w i hi _).mono ?_
 rintro e w' ⟨⟨j, rfl⟩, rfl⟩
 go_wp2_with fail
 exact bodyPost_ret (by simp [results, Try.results54, go_sem]) rfl ⟨⟨j, rfl⟩, (Below.refl _ _).alloc (Nat.le_refl _) _⟩
set_option maxRecDepth 100000 in
theorem markC2_w (i : Nat) (hi : i ≤ 2000000) (w : World) : Calls Try.prog 55 #[.int .i64 2, .int .i64 i] w (fun e w' => (∃ j : Int, e = .returned (.agg #[.int .i64 j, .int .i64 0, .string ⟨#[]⟩, .string ⟨#[]⟩, .int .i64 0, .int .i64 0, .string ⟨#[]⟩, .int .i64 0, .string ⟨#[]⟩, .string ⟨#[]⟩, .int .i64 0, .int .i64 0, .string ⟨#[]⟩])) ∧ Below w.heap.size w w') := by
 go_enter Try.func55, Try.ntmps55
 go_wp2_with fail
 refine (mark2_w i hi _).mono ?_
 rintro e w' ⟨⟨j, rfl⟩, rfl⟩
 go_wp2_with fail
 exact bodyPost_ret (by simp [results, Try.results55, go_sem]) rfl ⟨⟨j, rfl⟩, (Below.refl _ _).alloc (Nat.le_refl _) _⟩
set_option maxRecDepth 100000 in
theorem markO2_w (i : Nat) (hi : i ≤ 2000000) (w : World) : Calls Try.prog 56 #[.int .i64 2, .int .i64 i] w (fun e w' => (∃ j : Int, e = .returned (.agg #[.int .i64 0, .string ⟨#[]⟩, .string ⟨#[]⟩, .int .i64 0, .int .i64 j, .string ⟨#[]⟩])) ∧ Below w.heap.size w w') := by
 go_enter Try.func56, Try.ntmps56
 go_wp2_with fail
 refine (mark2_w i hi _).mono ?_
 rintro e w' ⟨⟨j, rfl⟩, rfl⟩
 go_wp2_with fail
 exact bodyPost_ret (by simp [results, Try.results56, go_sem]) rfl ⟨⟨j, rfl⟩, (Below.refl _ _).alloc (Nat.le_refl _) _⟩
def OvE (S : Nat → Prop) (w1 : World) (f : FuncId) (x : Value) : Prop := ∀ w, Ovr S w1 w → Calls Try.prog f #[x] w (fun e w' => e = .returned (.tuple #[]) ∧ Ovr S w1 w')
set_option maxRecDepth 100000 in
theorem overExprs_no (a : Option Addr) (w : World) : Calls Try.prog 93 #[.slice a 0 0] w (fun e w' => e = .returned (.tuple #[]) ∧ w' = w) := by
 go_enter Try.func93, Try.ntmps93
 go_wp2_with fail
 go_loop [2] (fun i => i = .int .i64 0) (fun i => 0)
 case atStart => rfl
 case round =>
  subst hrel
  go_wp2_with fail
  go_loop [4] (fun i => i = .int .i64 0) (fun i => 0)
  case atStart => rfl
  case round =>
   subst hrel
   go_wp2_with fail
   exact bodyPost_end (results_none rfl _ _ _) rfl ⟨rfl, rfl⟩
set_option maxRecDepth 100000 in
theorem overExpr_of {S : Nat → Prop} {w1 : World} {a b x : Value} (ha : a.oneCell' = true) (hb : b.oneCell' = true) (hx : x.oneCell' = true) (H : OvE S w1 93 x) : OvE S w1 79 (.agg #[a, b, x]) := by
 intro w hO
 have HO := Lib.hid hO
 have HH := Lib.hid H
 clear hO H
 go_enter Try.func79, Try.ntmps79
 go_wp2_with fail
 refine (HH.out _ (HO.out.below ((Below.refl _ _).alloc (Nat.le_refl _) _))).mono ?_
 rintro e w' ⟨rfl, hO⟩
 have HO' := Lib.hid hO
 clear hO
 go_wp2_with fail
 exact bodyPost_end (results_none rfl _ _ _) rfl ⟨rfl, HO'.out⟩
set_option maxRecDepth 100000 in
theorem overPattern_of {S : Nat → Prop} {w1 : World} {c0 c1 c2 c3 c4 a b x : Value} (h0 : c0.oneCell' = true) (h1 : c1.oneCell' = true) (h2 : c2.oneCell' = true) (h3 : c3.oneCell' = true) (h4 : c4.oneCell' = true) (ha : a.oneCell' = true) (hb : b.oneCell' = true) (hx : x.oneCell' = true)
  (H : OvE S w1 93 x) : OvE S w1 60 (.agg #[c0, c1, c2, c3, c4, a, b, x]) := by
 intro w hO
 have HO := Lib.hid hO
 have HH := Lib.hid (overExpr_of ha hb hx H)
 clear hO H
 go_enter Try.func60, Try.ntmps60
 go_wp2_with fail
 refine (HH.out _ (HO.out.below ((Below.refl _ _).alloc (Nat.le_refl _) _))).mono ?_
 rintro e w' ⟨rfl, hO⟩
 have HO' := Lib.hid hO
 clear hO
 go_wp2_with fail
 exact bodyPost_end (results_none rfl _ _ _) rfl ⟨rfl, HO'.out⟩
end Go.Proofs.Ytldnlbcibmmbbaa
