/- What is told of the blocks in which a value's lists lie: none of A, and all of the types that are wanted. -/
import Derived.Test.YtldnlbcibmmbbaaROvr
import Derived.Test.YtldnlbcibmmbbaaRFrz2
import Derived.Test.YtldnlbcibmmbbaaRRef11
set_option linter.unusedSimpArgs false
set_option linter.unusedVariables false
namespace Go.Proofs.Ytldnlbcibmmbbaa
open Go.RowKit

def evA (A : Nat → Prop) : (Nat → Prop) → World → Value → Prop := fun S _ _ => ∀ b, A b → S b
def TEp (A : Nat → Prop) : (Nat → Prop) → World → Value → Prop := fun S w x => (∀ b, S b → ¬ A b) ∧ TE S w x
def TPp (A : Nat → Prop) : (Nat → Prop) → World → Value → Prop := fun S w x => (∀ b, S b → ¬ A b) ∧ TP S w x
def TLp (A : Nat → Prop) (T : TypeId) (z : Nat) : (Nat → Prop) → World → Value → Prop := fun S w x => (∀ b, S b → ¬ A b) ∧ TL S w T z (fun _ _ => True) x

section
variable {D : Nat → Prop} {nu : Nat → Nat → Value} {o : List (Option AObj)} {w : World} {A : Nat → Prop}
theorem RA.evd {a : AV} {x : Value} (h : RA D nu o w (.wit (evA A) a) x) : ∀ b, A b → Fz D nu o w b := by
 cases h with
 | wit _ _ _ S h0 h1 hc h2 h3 => exact fun b hb => h1 b (h2 w (fun _ _ => rfl) b hb)
theorem RA.ev {a : AV} {x : Value} (hA : ∀ b, A b → Fz D nu o w b) (hc : ∀ b, A b → ∃ C T k, w.heap[b]? = some (.cells C T k)) (h0 : x.oneCell' = true) (h : RA D nu o w a x) : RA D nu o w (.wit (evA A) a) x :=
 .wit _ a x A h0 hA hc (fun _ _ b hb => hb) h

theorem own_row (h : RO D nu o w) {id : Nat} {ob : AObj} (ho : o[id]? = some (some ob)) (hv : ob.isV = true) :
  (ob.rows = [] ∧ nu id ob.rows.length = .slice none 0 0) ∨ ∃ b cap C, nu id ob.rows.length = .slice (some ⟨b, 0, none⟩) ob.rows.length cap ∧ w.heap[b]? = some (.cells C ob.T (0, 0)) ∧ C.size = cap * ob.z ∧ ob.rows.length ≤ cap ∧ cap ≤ maxLen ∧ owned nu o b ∧ D b ∧ b < w.heap.size ∧
   ∀ (i j : Nat) row c, ob.rows[i]? = some row → row[j]? = some c → ∃ x, C[i * ob.z + j]? = some x ∧ RA D nu o w c x ∧ x.oneCell' = true := by
 rcases h.obj id ob ho with ⟨e1, e2, e3⟩ | ⟨g, cur, hb⟩ | ⟨g, es, cl, hmp⟩
 ·exact .inl ⟨e2, by rw [e2]; exact e3⟩
 ·obtain ⟨cap, q1, q2, q3, q4⟩ := hb.vec hv
  refine .inr ⟨g, cap, cur, q1, hb.blk, q4, q2, q3, ⟨id, ob, ho, hb.blkEq⟩, hb.dom, (Array.getElem?_eq_some_iff.1 hb.blk).1, fun i j row c k1 k2 => ?_⟩
  have := hb.curLt k1 (List.getElem?_eq_some_iff.1 k2).1
  exact ⟨_, Array.getElem?_eq_getElem this, hb.cell i j row c _ k1 k2 (Array.getElem?_eq_getElem this), hb.one i j row c _ k1 k2 (Array.getElem?_eq_getElem this)⟩
 ·rw [hmp.isV] at hv; cases hv
theorem own_slc (h : RO D nu o w) {id : Nat} {ob : AObj} (ho : o[id]? = some (some ob)) (hv : ob.isV = true) (hw : wfR 0 ob.rows = true) : RA D nu [] w (.slc ob.z ob.rows ob.rows.length) (nu id ob.rows.length) := by
 have hra : RA D nu o w (.vec id ob.rows.length) (nu id ob.rows.length) := by
  rcases own_row h ho hv with ⟨e1, e2⟩ | ⟨b, cap, C, e2, _⟩
  all_goals exact .vec _ _ ⟨_, ho, fun x hx => by cases hx; simp [AObj.hl, hv]⟩ (by rw [e2]; rfl)
 exact (frz_both h 1).1 (.vec id ob.rows.length) _ (ob.isV = true ∧ ob.rows.length = ob.rows.length ∧ wfR 0 ob.rows = true) _ (by simp only [aFrz, ho]) ⟨hv, rfl, hw⟩ hra
theorem frz_wit (h : RO D nu o w) {id : Nat} {ob : AObj} (ho : o[id]? = some (some ob)) (hv : ob.isV = true) (hw : wfR 0 ob.rows = true) (hev : ∀ b, A b → Fz D nu o w b) {p : (Nat → Prop) → World → Value → Prop}
  (q : (Nat → Prop) → World → Value → Prop) (col : Nat)
  (hq : ∀ (i : Nat) row, ob.rows[i]? = some row → ∃ a, row[col]? = some (.wit (fun S w x => (∀ b, S b → ¬ A b) ∧ q S w x) a))
  (hkeep : ∀ (S S' : Nat → Prop) (w' : World) x, q S w x → (∀ b, S b → S' b) → (∀ b, S b → w'.heap[b]? = w.heap[b]?) → q S' w' x)
  (hnil : ∀ S w', (∀ b, S b → ¬ A b) → p S w' (.slice none 0 0))
  (hmk : ∀ (S : Nat → Prop) (w' : World) b cap C, (∀ b, S b → ¬ A b) → S b → w'.heap[b]? = some (.cells C ob.T (0, 0)) → C.size = cap * ob.z → ob.rows.length ≤ cap → cap ≤ maxLen →
   (∀ (i : Nat), i < ob.rows.length → (∃ x, C[i * ob.z + col]? = some x ∧ q S w' x)) → (∀ (i j : Nat) row c, ob.rows[i]? = some row → row[j]? = some c → ∃ x, C[i * ob.z + j]? = some x ∧ x.oneCell' = true) → p S w' (.slice (some ⟨b, 0, none⟩) ob.rows.length cap)) :
  RA D nu [] w (.wit p (.slc ob.z ob.rows ob.rows.length)) (nu id ob.rows.length) := by
 have hs := own_slc h ho hv hw
 rcases own_row h ho hv with ⟨e1, e2⟩ | ⟨b, cap, C, e2, hb, hC, hle, hcm, hown, hD, hlt, hcell⟩
 ·rw [e2] at hs ⊢
  exact .wit _ _ _ (fun _ => False) rfl (fun _ h => h.elim) (fun _ h => h.elim) (fun w' _ => hnil _ w' (fun _ h => h.elim)) hs
 ·rw [e2] at hs ⊢
  have hS : ∀ i, i < ob.rows.length → ∃ (S : Nat → Prop) (x : Value), C[i * ob.z + col]? = some x ∧ (∀ b, S b → Fz D nu o w b) ∧ (∀ b, S b → ∃ C T k, w.heap[b]? = some (.cells C T k)) ∧ (∀ b, S b → ¬ A b) ∧ q S w x := fun i hi => by
   obtain ⟨a, ha⟩ := hq i _ (List.getElem?_eq_getElem hi)
   obtain ⟨x, k1, k2, k3⟩ := hcell i col _ _ (List.getElem?_eq_getElem hi) ha
   cases k2 with
   | wit _ _ _ S h0 h1 hc h2 h3 => exact ⟨S, x, k1, h1, hc, (h2 w (fun _ _ => rfl)).1, (h2 w (fun _ _ => rfl)).2⟩
  let U : Nat → Prop := fun k => k = b ∨ ∃ (i : Nat) (S : Nat → Prop) (x : Value), i < ob.rows.length ∧ C[i * ob.z + col]? = some x ∧ (∀ b, S b → Fz D nu o w b) ∧ (∀ b, S b → ∃ C T k, w.heap[b]? = some (.cells C T k)) ∧ (∀ b, S b → ¬ A b) ∧ q S w x ∧ S k
  have hUA : ∀ k, U k → ¬ A k := fun k hk hA => by
   rcases hk with rfl | ⟨i, S, x, _, _, _, _, h5, _, h7⟩
   ·exact (hev k hA).2.1 hown
   ·exact h5 k h7 hA
  refine .wit _ _ _ U rfl (fun k hk => ?_) (fun k hk => ?_) (fun w' hw' => ?_) hs
  ·rcases hk with rfl | ⟨i, S, x, _, _, h3, _, _, _, h7⟩
   ·exact ⟨hlt, owned_nil _ _, hD⟩
   ·exact ⟨(h3 k h7).1, owned_nil _ _, (h3 k h7).2.2⟩
  ·rcases hk with rfl | ⟨i, S, x, _, _, _, h4, _, _, h7⟩
   ·exact ⟨_, _, _, hb⟩
   ·exact h4 k h7
  ·refine hmk U w' b cap C hUA (.inl rfl) ((hw' b (.inl rfl)).trans hb) hC hle hcm (fun i hi => ?_) (fun i j row c k1 k2 => ?_)
   ·obtain ⟨S, x, h2, h3, h4, h5, h6⟩ := hS i hi
    exact ⟨x, h2, hkeep S U w' x h6 (fun k hk => .inr ⟨i, S, x, hi, h2, h3, h4, h5, h6, hk⟩) (fun k hk => hw' k (.inr ⟨i, S, x, hi, h2, h3, h4, h5, h6, hk⟩))⟩
   ·obtain ⟨x, e1, _, e3⟩ := hcell i j row c k1 k2
    exact ⟨x, e1, e3⟩
theorem frz_wit0 (h : RO D nu o w) {id : Nat} {ob : AObj} (ho : o[id]? = some (some ob)) (hv : ob.isV = true) (hw : wfR 0 ob.rows = true) (hev : ∀ b, A b → Fz D nu o w b) (hn : ob.rows.length ≤ 1000000) : RA D nu [] w (.wit (TLp A ob.T ob.z) (.slc ob.z ob.rows ob.rows.length)) (nu id ob.rows.length) := by
 have hs := own_slc h ho hv hw
 rcases own_row h ho hv with ⟨e1, e2⟩ | ⟨b, cap, C, e2, hb, hC, hle, hcm, hown, hD, hlt, hcell⟩
 ·rw [e2] at hs ⊢
  exact .wit _ _ _ (fun _ => False) rfl (fun _ h => h.elim) (fun _ h => h.elim) (fun w' _ => ⟨fun _ h => h.elim, .nil⟩) hs
 ·rw [e2] at hs ⊢
  refine .wit _ _ _ (fun k => k = b) rfl (fun k hk => ?_) (fun k hk => ?_) (fun w' hw' => ?_) hs
  ·subst hk; exact ⟨hlt, owned_nil _ _, hD⟩
  ·subst hk; exact ⟨_, _, _, hb⟩
  ·exact ⟨fun k hk hA => by subst hk; exact (hev k hA).2.1 hown, .mk b _ cap C rfl ((hw' b rfl).trans hb) hC hle hcm hn trivial⟩
end

/-! ### expressions whose labels tell that A is frozen; the same with their lists' blocks -/
mutual
def encW (A : Nat → Prop) : Ex → List AV
 | .mk k s l => [.v (.int .i64 k), .wit (evA A) (.v (.string s)), .slc 3 (encWs A l) l.length]
def encWs (A : Nat → Prop) : List Ex → List (List AV)
 | [] => []
 | x :: xs => encW A x :: encWs A xs
end
theorem encWs_eq (A : Nat → Prop) : ∀ l : List Ex, encWs A l = l.map (encW A)
 | [] => rfl
 | x :: xs => by rw [encWs, encWs_eq A xs, List.map_cons]
theorem encW_eq (A : Nat → Prop) (x : Ex) : encW A x = [.v (.int .i64 x.kind), .wit (evA A) (.v (.string x.label)), .slc 3 (x.kids.map (encW A)) x.kids.length] := by
 obtain ⟨k, s, l⟩ := x; rw [encW, encWs_eq]; rfl
mutual
def encF (A : Nat → Prop) : Ex → List AV
 | .mk k s l => [.v (.int .i64 k), .wit (evA A) (.v (.string s)), .wit (TEp A) (.slc 3 (encFs A l) l.length)]
def encFs (A : Nat → Prop) : List Ex → List (List AV)
 | [] => []
 | x :: xs => encF A x :: encFs A xs
end
theorem encFs_eq (A : Nat → Prop) : ∀ l : List Ex, encFs A l = l.map (encF A)
 | [] => rfl
 | x :: xs => by rw [encFs, encFs_eq A xs, List.map_cons]
theorem encF_eq (A : Nat → Prop) (x : Ex) : encF A x = [.v (.int .i64 x.kind), .wit (evA A) (.v (.string x.label)), .wit (TEp A) (.slc 3 (x.kids.map (encF A)) x.kids.length)] := by
 obtain ⟨k, s, l⟩ := x; rw [encF, encFs_eq]; rfl
theorem wf_encW1 (A : Nat → Prop) (n : Nat) (x : Ex) : wfL n (encW A x) = true := by
 induction x using Ex.ind with
 | h k s l ih =>
  rw [encW, encWs_eq]
  simp only [wfL, AV.wf, Bool.and_true, Bool.true_and]
  exact wfR_of (fun r hr => by obtain ⟨x, hx, rfl⟩ := List.mem_map.1 hr; exact ih x hx)
theorem wf_encW (A : Nat → Prop) (n : Nat) (l : List Ex) : wfR n (l.map (encW A)) = true := wfR_map _ (wf_encW1 A n) l
theorem wf_encF1 (A : Nat → Prop) (n : Nat) (x : Ex) : wfL n (encF A x) = true := by
 induction x using Ex.ind with
 | h k s l ih =>
  rw [encF, encFs_eq]
  simp only [wfL, AV.wf, Bool.and_true, Bool.true_and]
  exact wfR_of (fun r hr => by obtain ⟨x, hx, rfl⟩ := List.mem_map.1 hr; exact ih x hx)
theorem wf_encF (A : Nat → Prop) (n : Nat) (l : List Ex) : wfR n (l.map (encF A)) = true := wfR_map _ (wf_encF1 A n) l
attribute [go_sem] wf_encW1 wf_encW wf_encF1 wf_encF
theorem le_encF (A : Nat → Prop) (x : Ex) : LeL (encF A x) (encE x) := by
 induction x using Ex.ind with
 | h k s l ih =>
  rw [encF_eq, encE_eq]
  have := Le.rows (z := 3) (f := encF A) (g := encE) (xs := l) (more := []) ih
  rw [List.append_nil] at this
  exact .cons (.refl _) (.cons (.wit _ _ _ (.refl _)) (.cons (.wit _ _ _ this) .nil))

section
variable {o : List (Option AObj)} {A : Nat → Prop}
theorem frz_ex (l : List Ex) (hl : l.length ≤ 1000000) {D : Nat → Prop} {nu : Nat → Nat → Value} {w : World} (h : RO D nu o w) (hev : ∀ b, A b → Fz D nu o w b) {id : Nat} (ho : o[id]? = some (some ⟨43, 3, true, l.map (encF A)⟩)) :
  RA D nu [] w (.wit (TEp A) (.slc 3 (l.map (encF A)) l.length)) (nu id l.length) := by
 have hlen : (l.map (encF A)).length = l.length := List.length_map _
 have := frz_wit (p := TEp A) h ho rfl (wf_encF A 0 l) hev (fun S w x => TE S w x) 2 (fun i row hi => ?_) (fun S S' w' x h1 h2 h3 => h1.keep h2 h3) (fun S w' hS => ⟨hS, .nil⟩) (fun S w' b cap C h1 h2 h3 h4 h5 h6 h7 h8 => ?_)
 ·simp only [hlen] at this; exact this
 ·rw [List.getElem?_map] at hi
  obtain ⟨y, hy, rfl⟩ := Option.map_eq_some_iff.1 hi
  rw [encF_eq]; exact ⟨_, rfl⟩
 ·simp only [hlen] at h5 h7 h8 ⊢
  have hc : ∀ i, i < l.length → ∃ a b x, C[i * 3]? = some a ∧ C[i * 3 + 1]? = some b ∧ C[i * 3 + 2]? = some x ∧ a.oneCell' = true ∧ b.oneCell' = true ∧ TE S w' x := fun i hi => by
   have hr : (l.map (encF A))[i]? = some (encF A l[i]) := by simp [hi]
   rw [encF_eq] at hr
   obtain ⟨a, a1, a2⟩ := h8 i 0 _ _ hr rfl
   obtain ⟨b, b1, b2⟩ := h8 i 1 _ _ hr rfl
   obtain ⟨x, x1, x2⟩ := h7 i hi
   exact ⟨a, b, x, a1, b1, x1, a2, b2, x2⟩
  refine ⟨h1, .mk b _ cap C (fun i => C.getD (i * 3 + 2) Go.undef) h2 h3 h4 h5 h6 hl (fun i hi => ?_) (fun i hi => ?_) (fun i hi => ?_)⟩
  all_goals obtain ⟨a, b', x, e1, e2, e3, e4, e5, e6⟩ := hc i hi
  ·exact ⟨a, b', e1, e2, e4, e5⟩
  ·rw [e3]; simp [Array.getD_eq_getD_getElem?, e3]
  ·simp only [Array.getD_eq_getD_getElem?, e3, Option.getD_some]; exact e6
theorem frz_copied (k : Int) (s : ByteArray) (l : List Ex) (hl : l.length ≤ 1000000) {id : Nat} (ho : o[id]? = some (some ⟨43, 3, true, l.map (encF A)⟩)) :
  FrzS o (.agg [.v (.int .i64 k), .wit (evA A) (.v (.string s)), .vec id l.length]) (.agg (encF A (.mk k s l))) := fun D nu w x hro hra => by
 rw [encF_eq]
 cases hra with
 | agg _ xs h1 h2 h3 =>
  obtain ⟨xs⟩ := xs
  match xs, h1 with
  | [x0, x1, x2], _ =>
   have r0 := h2 0 _ x0 rfl rfl
   have r1 := h2 1 _ x1 rfl rfl
   have r2 := h2 2 _ x2 rfl rfl
   have e2 : x2 = nu id l.length := by cases r2 with | vec => rfl
   have hev := r1.evd
   have f1 : RA D nu [] w (.wit (evA A) (.v (.string s))) x1 := by
    cases r1 with
    | wit _ _ _ S q0 q1 qc q2 q3 => exact .wit _ _ _ S q0 (fun b hb => ⟨(q1 b hb).1, owned_nil _ _, (q1 b hb).2.2⟩) qc q2 (by rw [q3.v_eq]; exact .v _)
   refine .agg _ _ rfl (fun i c y q1 q2 => ?_) h3
   match i with
   | 0 => cases q1; cases q2; rw [r0.v_eq]; exact .v _
   | 1 => cases q1; cases q2; exact f1
   | 2 => cases q1; cases q2; rw [e2]; exact frz_ex l hl hro hev ho
   | i + 3 => cases q1
theorem frz_copied0 (k : Int) (s : ByteArray) :
  FrzS o (.agg [.v (.int .i64 k), .wit (evA A) (.v (.string s)), .full (.slc 3 [] 0)]) (.agg (encF A (.mk k s []))) := fun D nu w x hro hra => by
 rw [encF_eq]
 cases hra with
 | agg _ xs h1 h2 h3 =>
  obtain ⟨xs⟩ := xs
  match xs, h1 with
  | [x0, x1, x2], _ =>
   have r0 := h2 0 _ x0 rfl rfl
   have r1 := h2 1 _ x1 rfl rfl
   have r2 := h2 2 _ x2 rfl rfl
   have e2 : x2 = .slice none 0 0 ∨ ∃ a, x2 = .slice (some a) 0 0 := by
    cases r2 with
    | full _ _ q1 q2 =>
     obtain ⟨ad, n, rfl⟩ := q1
     cases q2 with
     | slcNil => exact .inl rfl
     | slcOdd => exact .inr ⟨_, rfl⟩
     | slc => exact .inr ⟨_, rfl⟩
   have f1 : RA D nu [] w (.wit (evA A) (.v (.string s))) x1 := by
    cases r1 with
    | wit _ _ _ S q0 q1 qc q2 q3 => exact .wit _ _ _ S q0 (fun b hb => ⟨(q1 b hb).1, owned_nil _ _, (q1 b hb).2.2⟩) qc q2 (by rw [q3.v_eq]; exact .v _)
   refine .agg _ _ rfl (fun i c y q1 q2 => ?_) h3
   match i with
   | 0 => cases q1; cases q2; rw [r0.v_eq]; exact .v _
   | 1 => cases q1; cases q2; exact f1
   | 2 =>
    cases q1; cases q2
    rcases e2 with rfl | ⟨a, rfl⟩
    ·exact .wit _ _ _ (fun _ => False) rfl (fun _ h => h.elim) (fun _ h => h.elim) (fun w' _ => ⟨fun _ h => h.elim, .nil⟩) (.slcNil 3)
    ·exact .wit _ _ _ (fun _ => False) rfl (fun _ h => h.elim) (fun _ h => h.elim) (fun w' _ => ⟨fun _ h => h.elim, .odd a⟩) (.slcOdd 3 a)
   | i + 3 => cases q1
end
end Go.Proofs.Ytldnlbcibmmbbaa
