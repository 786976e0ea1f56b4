/- kinescopelaw14.ask, as it comes: three rows without room; a call that sees own rows from within a region that draws. -/
import Derived.Test.YteihcfhdhkamfaaELawA14
set_option linter.unusedSimpArgs false
set_option linter.unusedVariables false
namespace Go.Proofs.Yteihcfhdhkamfaa
open Go.RowKit

attribute [local go_sem] Oper.semAt_some

section
variable {D : Nat → Prop} {nu : Nat → Nat → Value} {o : List (Option AObj)} {w : World} {P : Program}
theorem CallE.frz {f : FuncId} {args args' : List AV} {o : List (Option AObj)} {r : AV} (h : Call1 P f args' r) (n : Nat) {p : Prop} (hz : aFrzL o n args = some (p, args')) (hp : p) (hf : r.flat = true) : CallE P f args o r o := by
  refine ⟨h.2.1, fun D nu w vargs hro hra => ?_⟩
  obtain ⟨hl, hall⟩ := (frz_both hro n).2 _ _ _ hz hp
  have hra' : RAs (DomOf D nu [] w) nu [] w args' vargs := ⟨by rw [← hl]; exact hra.len, fun i c x q1 q2 => by
    have hi : i < args.length := by rw [hl]; exact (List.getElem?_eq_some_iff.1 q1).1
    exact (hall i _ c x (List.getElem?_eq_getElem hi) q1 (hra.at' i _ x (List.getElem?_eq_getElem hi) q2)).mono (.refl _ _ _) (fun b _ hb => fun hlt => ⟨hlt, owned_nil _ _, hb⟩)⟩
  refine (h.2.2 (fun _ => True) nu w vargs (.nil _ _ _ (fun _ _ => trivial)) ⟨hra'.len, fun i c x q1 q2 => (hra'.at' i c x q1 q2).mono (.refl _ _ _) (fun _ _ _ => trivial)⟩).mono ?_
  rintro e w' ⟨v, nu', o', r', rfl, hm, _, hx, rfl, rfl⟩
  cases r' with
  | v y =>
    obtain rfl := hx.v_eq
    have hb := mono_nil_below hm
    exact ⟨_, nu, o, .v _, rfl, mono_below hb, hro.below hb, .v _, rfl, rfl⟩
  | _ => cases hf

/-- a block of one row reads as a row without room -/
theorem ra_one {b : Nat} {t : TypeId} {fz : Nat × Nat} {xs : List Value} (hD : D b) (h : w.heap[b]? = some (.cells xs.toArray t fz)) (h1 : ∀ x, x ∈ xs → x.oneCell' = true) :
    RA D nu [] w (.full (.slc xs.length [xs.map AV.v] 1)) (.slice (some ⟨b, 0, none⟩) 1 1) := by
  refine .full _ _ ⟨_, _, rfl⟩ (.slc _ _ 1 b 0 1 (fun _ j => xs[j]?.getD Go.undef) (by simp) (by simp) (by unfold maxLen; omega) (fun _ => ⟨(Array.getElem?_eq_some_iff.1 h).1, owned_nil _ _, hD⟩) ?_ ?_ ?_ ?_)
  · intro i row hr
    match i, hr with
    | 0, hr => cases hr; simp
    | i + 1, hr => simp at hr
  · intro i j row c hr hc
    match i, hr with
    | 0, hr =>
      cases hr
      rw [List.getElem?_map] at hc
      cases hx : xs[j]? with
      | none => rw [hx] at hc; cases hc
      | some x => rw [show 0 + 0 * xs.length + j = j by omega, cell_of_block h]; simp [hx]
    | i + 1, hr => simp at hr
  · intro i j row c hr hc
    match i, hr with
    | 0, hr =>
      cases hr
      rw [List.getElem?_map] at hc
      cases hx : xs[j]? with
      | none => rw [hx] at hc; cases hc
      | some x => rw [hx] at hc; cases hc; simp only [Option.getD_some]; exact .v x
    | i + 1, hr => simp at hr
  · intro i j row c hr hc
    match i, hr with
    | 0, hr =>
      cases hr
      rw [List.getElem?_map] at hc
      cases hx : xs[j]? with
      | none => rw [hx] at hc; cases hc
      | some x => simp only [Option.getD_some]; exact h1 x (List.mem_of_getElem? hx)
    | i + 1, hr => simp at hr
theorem ra_opd {x : Opd} {v : Value} (h : RA D nu o w (.agg (encO x)) v) : v = .agg x.cells.toArray := by
  cases h with
  | agg cs xs h1 h2 h3 =>
    have := rls_vals (D := D) (nu := nu) (o := o) (w := w) (vs := x.cells) (cs := xs.toList) ⟨h1, fun j c y hc hy => h2 j c y hc (by simpa using hy)⟩
    rw [← this]
theorem ras_four {a b c d : AV} {vargs : Array Value} (h : RAs D nu o w [a, b, c, d] vargs) : ∃ x y z u, vargs = #[x, y, z, u] ∧ RA D nu o w a x ∧ RA D nu o w b y ∧ RA D nu o w c z ∧ RA D nu o w d u := by
  obtain ⟨l⟩ := vargs
  match l, h with
  | [x, y, z, u], h => exact ⟨x, y, z, u, rfl, h.at' 0 _ _ rfl rfl, h.at' 1 _ _ rfl rfl, h.at' 2 _ _ rfl rfl, h.at' 3 _ _ rfl rfl⟩
  | [], h => have := h.len; simp at this
  | [_], h => have := h.len; simp at this
  | [_, _], h => have := h.len; simp at this
  | [_, _, _], h => have := h.len; simp at this
  | _ :: _ :: _ :: _ :: _ :: _, h => have := h.len; simp at this
end

theorem alloc7 {w W : World} {a b c d e f g : Obj} (h : ((((((w.alloc a).alloc b).alloc c).alloc d).alloc e).alloc f).alloc g = W) :
    W.heap[w.heap.size + 1 + 1 + 1]? = some d ∧ W.heap[w.heap.size + 1 + 1 + 1 + 1]? = some e ∧ W.heap[w.heap.size + 1 + 1 + 1 + 1 + 1]? = some f ∧ W.heap[w.heap.size + 1 + 1 + 1 + 1 + 1 + 1]? = some g ∧ Below w.heap.size w W := by
  subst h
  have A : ∀ (w : World) (x : Obj) (i : Nat) (y : Obj), w.heap[i]? = some y → (w.alloc x).heap[i]? = some y := fun w x i y hy => (((Below.refl w.heap.size w).alloc (Nat.le_refl _) x).block i (Array.getElem?_eq_some_iff.1 hy).1).trans hy
  have h3 := heap_new (((w.alloc a).alloc b).alloc c) d
  have h4 := heap_new ((((w.alloc a).alloc b).alloc c).alloc d) e
  have h5 := heap_new (((((w.alloc a).alloc b).alloc c).alloc d).alloc e) f
  have h6 := heap_new ((((((w.alloc a).alloc b).alloc c).alloc d).alloc e).alloc f) g
  have hs : ∀ (w : World) (x : Obj), (w.alloc x).heap.size = w.heap.size + 1 := fun _ _ => by simp
  simp only [hs] at h3 h4 h5 h6
  refine ⟨A _ _ _ _ (A _ _ _ _ (A _ _ _ _ h3)), A _ _ _ _ (A _ _ _ _ h4), A _ _ _ _ h5, h6, ?_⟩
  exact (((((((Below.refl _ _).alloc (by simp) _).alloc (by simp) _).alloc (by simp <;> omega) _).alloc (by simp <;> omega) _).alloc (by simp <;> omega) _).alloc (by simp <;> omega) _).alloc (by simp <;> omega) _
/-- as it comes: rows without room -/
def askF (nm : ByteArray) (l r o : Opd) : List AV := [.full (.slc 8 [[.v (.string ⟨#[97]⟩), .v (.string ⟨#[98]⟩), .v (.bool false), .v (.string ⟨#[120]⟩), .v (.string nm), .v (.int .i64 0), .v (.string e0), .v (.slice none 0 0)]] 1), .full (.slc 13 [encC ⟨3, l, r⟩] 1), .full (.slc 6 [encO o] 1), .v (.int .i64 5), .v (.int .i64 1)]

set_option maxRecDepth 100000 in
set_option maxHeartbeats 4000000 in
theorem ask14_any (nm : ByteArray) (l r o : Opd) (w : World) : Calls Try.prog 41 #[.string nm, .agg l.cells.toArray, .agg r.cells.toArray, .agg o.cells.toArray] w fun e w' => ∃ a b c t u s f1 f2 f3, e = .returned (.agg #[.slice (some ⟨a, 0, none⟩) 1 1, .slice (some ⟨b, 0, none⟩) 1 1, .slice (some ⟨c, 0, none⟩) 1 1, .int .i64 5, .int .i64 1]) ∧
    w'.heap[a]? = some (.cells #[.string ⟨#[97]⟩, .string ⟨#[98]⟩, .bool false, .string ⟨#[120]⟩, .string nm, .int .i64 0, .string e0, .slice none 0 0] t f1) ∧
    w'.heap[b]? = some (.cells (Value.int .i64 3 :: (l.cells ++ r.cells)).toArray u f2) ∧ w'.heap[c]? = some (.cells o.cells.toArray s f3) ∧ w.heap.size ≤ a ∧ w.heap.size ≤ b ∧ w.heap.size ≤ c ∧ Below w.heap.size w w' := by
  simp only [Opd.cells, e0]
  go_enter Try.func41, Try.ntmps41
  go_wp2_with fail
  generalize hW : ((((((w.alloc _).alloc _).alloc _).alloc _).alloc _).alloc _).alloc _ = W
  obtain ⟨k3, k4, k5, k6, hb⟩ := alloc7 hW
  clear hW
  refine bodyPost_ret (v := .agg #[.slice (some ⟨w.heap.size + 1 + 1 + 1 + 1, 0, none⟩) 1 1, .slice (some ⟨w.heap.size + 1 + 1 + 1 + 1 + 1, 0, none⟩) 1 1, .slice (some ⟨w.heap.size + 1 + 1 + 1 + 1 + 1 + 1, 0, none⟩) 1 1, .int .i64 5, .int .i64 1])
    (results_cell_row rfl _ _ (w.heap.size + 1 + 1 + 1) 26 _ (0, 0) _ rfl k3 rfl rfl (by kernel_rfl)) rfl ?_
  exact ⟨_, _, _, _, _, _, _, _, _, rfl, k4, k5, k6, by omega, by omega, by omega, hb⟩

set_option maxRecDepth 100000 in
theorem ask14f_c (nm : ByteArray) (l r o : Opd) : Call1 Try.prog 41 [.v (.string nm), .agg (encO l), .agg (encO r), .agg (encO o)] (.agg (askF nm l r o)) := by
  refine ⟨⟨rfl, rfl⟩, by kernel_rfl, fun D nu w vargs hro hra => ?_⟩
  obtain ⟨x, y, z, u, rfl, h1, h2, h3, h4⟩ := ras_four hra
  obtain rfl := h1.v_eq
  obtain rfl := ra_opd h2
  obtain rfl := ra_opd h3
  obtain rfl := ra_opd h4
  refine (ask14_any nm l r o w).mono ?_
  rintro e w' ⟨a, b, c, t, u, s, f1, f2, f3, rfl, ka, kb, kc, la, lb, lc, hb⟩
  refine ⟨_, nu, [], .agg (askF nm l r o), rfl, mono_below hb, .nil _ _ _ (fun b hb' => hro.up b (Nat.le_trans hb.size hb')), ?_, rfl, rfl⟩
  refine .agg _ _ rfl (fun i c' x hc hx => ?_) (fun i x hx => ?_)
  · match i, hc, hx with
    | 0, hc, hx => cases hc; cases hx; exact ra_one (hro.up a la) ka (by simp [Value.oneCell'])
    | 1, hc, hx => cases hc; cases hx; exact ra_one (xs := Value.int .i64 3 :: (l.cells ++ r.cells)) (hro.up b lb) kb (by simp [Opd.cells, Value.oneCell'])
    | 2, hc, hx => cases hc; cases hx; exact ra_one (xs := o.cells) (hro.up c lc) kc (by simp [Opd.cells, Value.oneCell'])
    | 3, hc, hx => cases hc; cases hx; exact .v _
    | 4, hc, hx => cases hc; cases hx; exact .v _
    | i + 5, hc, hx => simp [askF] at hc
  · match i, hx with
    | 0, hx => cases hx; rfl
    | 1, hx => cases hx; rfl
    | 2, hx => cases hx; rfl
    | 3, hx => cases hx; rfl
    | 4, hx => cases hx; rfl
    | i + 5, hx => simp at hx
end Go.Proofs.Yteihcfhdhkamfaa
