/- kinescoperef07.ways in plain Lean: matrices of what is taken between two places. -/
import Derived.Test.YtmdkgajjekbanaaDoorENone
import Derived.Test.YtmdkgajjekbanaaDoorELang
import Derived.Test.YtmdkgajjekbanaaDoorEBehP
set_option linter.unusedSimpArgs false
set_option linter.unusedVariables false
namespace Go.Proofs.YtmdkgajjekbanaaDoor

open Classical in
noncomputable def tkB (L : List ByteArray → Prop) (w : List ByteArray) (i j : Nat) : Bool := decide (Tk L w i j)
theorem tkB_iff {L : List ByteArray → Prop} {w : List ByteArray} {i j : Nat} : tkB L w i j = true ↔ Tk L w i j := by simp [tkB]
theorem tkB_eq {L M : List ByteArray → Prop} {w : List ByteArray} (h : ∀ u, u.length ≤ w.length → (L u ↔ M u)) : tkB L w = tkB M w := by
 funext i j
 rw [Bool.eq_iff_iff, tkB_iff, tkB_iff]
 have : ∀ (h2 : j ≤ w.length), (bwn w i j).length ≤ w.length := fun h2 => by rw [bwn_len h2]; omega
 constructor
 ·rintro ⟨h1, h2, h3⟩; exact ⟨h1, h2, (h _ (this h2)).1 h3⟩
 ·rintro ⟨h1, h2, h3⟩; exact ⟨h1, h2, (h _ (this h2)).2 h3⟩
theorem mx_iff {N : Nat} {f g : Nat → Nat → Bool} (h : ∀ i j, i < N → j < N → (f i j = true ↔ g i j = true)) : mxB N f = mxB N g := mxB_eq fun i j hi hj => Bool.eq_iff_iff.2 (h i j hi hj)
theorem mx_none (w : List ByteArray) : mxB (w.length + 1) (fun _ _ => false) = mxB (w.length + 1) (tkB (fun _ => False) w) := mx_iff fun i j hi hj => by
 rw [tkB_iff]; simp [Tk]
theorem mx_still (w : List ByteArray) : mxB (w.length + 1) eqB = mxB (w.length + 1) (tkB (fun u => u = []) w) := mx_iff fun i j hi hj => by
 rw [tkB_iff, eqB, decide_eq_true_eq]
 constructor
 ·rintro rfl; exact ⟨Nat.le_refl _, by omega, bwn_self _ _⟩
 ·rintro ⟨h1, h2, h3⟩
  have := bwn_len (i := i) h2
  rw [h3] at this; simp at this; omega
theorem mx_or (L M : List ByteArray → Prop) (w : List ByteArray) : mxB (w.length + 1) (orB (tkB L w) (tkB M w)) = mxB (w.length + 1) (tkB (fun u => L u ∨ M u) w) := mx_iff fun i j hi hj => by
 rw [tkB_iff, orB, Bool.and_eq_true, Bool.or_eq_true, decide_eq_true_eq, tkB_iff, tkB_iff]
 constructor
 ·rintro ⟨h1, ⟨_, h2, h3⟩ | ⟨_, h2, h3⟩⟩
  ·exact ⟨h1, h2, .inl h3⟩
  ·exact ⟨h1, h2, .inr h3⟩
 ·rintro ⟨h1, h2, h3 | h3⟩
  ·exact ⟨h1, .inl ⟨h1, h2, h3⟩⟩
  ·exact ⟨h1, .inr ⟨h1, h2, h3⟩⟩
theorem mx_then (L M : List ByteArray → Prop) (w : List ByteArray) : mxB (w.length + 1) (thenB (w.length + 1) (tkB L w) (tkB M w)) = mxB (w.length + 1) (tkB (fun u => ∃ a b, u = a ++ b ∧ L a ∧ M b) w) := mx_iff fun i j hi hj => by
 rw [tkB_iff, thenB_iff]
 constructor
 ·rintro ⟨k, _, h1, h2, h3, h4⟩
  obtain ⟨_, _, h5⟩ := tkB_iff.1 h3
  obtain ⟨_, h6, h7⟩ := tkB_iff.1 h4
  exact ⟨by omega, h6, _, _, (bwn_app h1 h2).symm, h5, h7⟩
 ·rintro ⟨h1, h2, a, b, h3, h4, h5⟩
  obtain ⟨k, k1, k2, rfl, rfl⟩ := bwn_part h1 h2 h3
  exact ⟨k, by omega, k1, k2, tkB_iff.2 ⟨k1, by omega, h4⟩, tkB_iff.2 ⟨k2, h2, h5⟩⟩
def PowL (L : List ByteArray → Prop) : Nat → List ByteArray → Prop
 | 0, u => u = []
 | k + 1, u => u = [] ∨ ∃ a b, u = a ++ b ∧ L a ∧ PowL L k b
theorem PowL.nil {L : List ByteArray → Prop} : ∀ k, PowL L k []
 | 0 => rfl
 | k + 1 => .inl rfl
theorem PowL.one {L : List ByteArray → Prop} {u : List ByteArray} : PowL L 1 u ↔ (u = [] ∨ L u) := by
 simp only [PowL]
 constructor
 ·rintro (h | ⟨a, b, rfl, h, rfl⟩)
  ·exact .inl h
  ·exact .inr (by simpa using h)
 ·rintro (h | h)
  ·exact .inl h
  ·exact .inr ⟨u, [], by simp, h, rfl⟩
theorem PowL.mono {L : List ByteArray → Prop} : ∀ {k m : Nat} {u : List ByteArray}, k ≤ m → PowL L k u → PowL L m u
 | 0, m, u, _, h => by rw [PowL] at h; subst h; exact .nil _
 | k + 1, 0, u, hk, _ => by omega
 | k + 1, m + 1, u, hk, h => by
  rw [PowL] at h ⊢
  rcases h with h | ⟨a, b, e, h1, h2⟩
  ·exact .inl h
  ·exact .inr ⟨a, b, e, h1, PowL.mono (by omega) h2⟩
theorem PowL.add {L : List ByteArray → Prop} : ∀ {k m : Nat} {u : List ByteArray}, PowL L (k + m) u ↔ ∃ a b, u = a ++ b ∧ PowL L k a ∧ PowL L m b
 | 0, m, u => by
  rw [Nat.zero_add]
  constructor
  ·intro h; exact ⟨[], u, rfl, rfl, h⟩
  ·rintro ⟨a, b, rfl, h1, h2⟩
   rw [PowL] at h1; subst h1; exact h2
 | k + 1, m, u => by
  rw [show k + 1 + m = (k + m) + 1 by omega]
  constructor
  ·intro h
   rw [PowL] at h
   rcases h with rfl | ⟨a, b, rfl, h1, h2⟩
   ·exact ⟨[], [], rfl, .nil _, .nil _⟩
   ·obtain ⟨c, d, rfl, h3, h4⟩ := PowL.add.1 h2
    exact ⟨a ++ c, d, by simp, .inr ⟨a, c, rfl, h1, h3⟩, h4⟩
  ·rintro ⟨a, b, rfl, h1, h2⟩
   rw [PowL] at h1
   rcases h1 with rfl | ⟨c, d, rfl, h3, h4⟩
   ·exact PowL.mono (by omega) h2
   ·rw [PowL]
    exact .inr ⟨c, d ++ b, by simp, h3, PowL.add.2 ⟨d, b, rfl, h4, h2⟩⟩
theorem PowL.star {L : List ByteArray → Prop} : ∀ {k : Nat} {u : List ByteArray}, PowL L k u → StarL L u
 | 0, u, h => by rw [PowL] at h; subst h; exact .nil
 | k + 1, u, h => by
  rw [PowL] at h
  rcases h with rfl | ⟨a, b, rfl, h1, h2⟩
  ·exact .nil
  ·exact (StarL.one h1).append h2.star
theorem StarL.pow {L : List ByteArray → Prop} {u : List ByteArray} (h : StarL L u) : PowL L u.length u := by
 induction h with
 | nil => rfl
 | cons a b h1 h2 _ ih =>
  rw [List.length_append]
  have : 0 < a.length := List.length_pos_iff.2 h1
  exact PowL.mono (k := b.length + 1) (by omega) (.inr ⟨a, b, rfl, h2, ih⟩)
theorem pow_star {L : List ByteArray → Prop} {k : Nat} {u : List ByteArray} (h : u.length ≤ k) : PowL L k u ↔ StarL L u := ⟨PowL.star, fun hs => PowL.mono h hs.pow⟩
theorem LgAlt_snoc {l : List Ex} {x : Ex} {u : List ByteArray} : LgAlt (l ++ [x]) u ↔ LgAlt l u ∨ Lg x u := by
 rw [LgAlt_iff, LgAlt_iff]
 constructor
 ·rintro ⟨y, hy, h⟩
  rcases List.mem_append.1 hy with hy | hy
  ·exact .inl ⟨y, hy, h⟩
  ·rw [List.mem_singleton] at hy; subst hy; exact .inr h
 ·rintro (⟨y, hy, h⟩ | h)
  ·exact ⟨y, List.mem_append_left _ hy, h⟩
  ·exact ⟨x, List.mem_append_right _ (List.mem_singleton.2 rfl), h⟩
theorem LgSeq_snoc {l : List Ex} {x : Ex} {u : List ByteArray} : LgSeq (l ++ [x]) u ↔ ∃ a b, u = a ++ b ∧ LgSeq l a ∧ Lg x b := by
 rw [LgSeq_app]
 constructor
 ·rintro ⟨a, b, rfl, h, k⟩
  rw [LgSeq] at k
  obtain ⟨c, d, rfl, k1, k2⟩ := k
  rw [LgSeq] at k2; subst k2
  exact ⟨a, c, by simp, h, k1⟩
 ·rintro ⟨a, b, rfl, h, k⟩
  refine ⟨a, b, rfl, h, ?_⟩
  rw [LgSeq]
  exact ⟨b, [], by simp, k, by rw [LgSeq]⟩
def labAtB (w : List ByteArray) (s : ByteArray) (m i j : Nat) : Bool := decide (j = i + 1 ∧ i < m) && ((w.getD i ⟨#[]⟩).toList == s.toList)
theorem labAtB_0 (w : List ByteArray) (s : ByteArray) : (fun _ _ => false) = labAtB w s 0 := by funext i j; simp [labAtB]
theorem labAtB_succ (w : List ByteArray) (s : ByteArray) (m : Nat) : upd2 (labAtB w s m) m (m + 1) ((w.getD m ⟨#[]⟩).toList == s.toList) = labAtB w s (m + 1) := by
 funext p q
 rw [upd2, labAtB, labAtB]
 split
 ·rename_i h; obtain ⟨rfl, rfl⟩ := h; simp
 ·rename_i h
  congr 1
  rw [decide_eq_decide]; omega
theorem mx_lab (w : List ByteArray) (s : ByteArray) : mxB (w.length + 1) (labAtB w s w.length) = mxB (w.length + 1) (tkB (fun u => u = [s]) w) := mx_iff fun i j hi hj => by
 rw [tkB_iff, labAtB, Bool.and_eq_true, decide_eq_true_eq, beq_iff_eq]
 constructor
 ·rintro ⟨⟨rfl, h1⟩, h2⟩
  refine ⟨by omega, by omega, ?_⟩
  have h3 : w.getD i ⟨#[]⟩ = s := toList_inj.1 (by rw [h2]; exact beq_self_eq_true _)
  rw [bwn, show i + 1 - i = 1 by omega, List.drop_eq_getElem_cons h1, List.take_succ_cons, List.take_zero, ← h3, List.getD_eq_getElem?_getD, List.getElem?_eq_getElem h1]; rfl
 ·rintro ⟨h1, h2, h3⟩
  have h4 := bwn_len (i := i) h2
  rw [h3] at h4; simp at h4
  have hj : j = i + 1 := by omega
  subst hj
  have h5 : i < w.length := by omega
  rw [bwn, show i + 1 - i = 1 by omega, List.drop_eq_getElem_cons h5, List.take_succ_cons, List.take_zero] at h3
  refine ⟨⟨rfl, h5⟩, ?_⟩
  rw [List.getD_eq_getElem?_getD, List.getElem?_eq_getElem h5]
  simp only [List.cons.injEq, and_true] at h3
  rw [h3]; rfl
end Go.Proofs.YtmdkgajjekbanaaDoor
