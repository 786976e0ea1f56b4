/- Two queries are the same if and only if they are one: plain laws. -/
import Derived.Test.YteihcfhdhkamfaaBBase2
namespace Go.Proofs.Yteihcfhdhkamfaa
open Go.RowKit

theorem toList_inj {s t : ByteArray} : (s.toList == t.toList) = true ↔ s = t := by
  refine ⟨fun h => ?_, fun h => by subst h; simp⟩
  have h := eq_of_beq h
  rw [ByteArray.toList_eq, ByteArray.toList_eq] at h
  obtain ⟨⟨l⟩⟩ := s
  obtain ⟨⟨m⟩⟩ := t
  have h : l = m := h
  subst h; rfl
theorem toList_iff {s t : ByteArray} : s.toList = t.toList ↔ s = t := by rw [← toList_inj, beq_iff_eq]
theorem all2_eq {α : Type} {f : α → α → Bool} : ∀ (xs ys : List α), (∀ x ∈ xs, ∀ y, f x y = true ↔ x = y) → (all2 f xs ys = true ↔ xs = ys)
  | [], [], _ => by simp [all2]
  | [], _ :: _, _ => by simp [all2]
  | _ :: _, [], _ => by simp [all2]
  | x :: xs, y :: ys, h => by
    rw [all2, Bool.and_eq_true, h x (by simp), all2_eq xs ys (fun a ha => h a (by simp [ha]))]
    simp
theorem exSame_eq : ∀ x y : Ex, exSame x y = true ↔ x = y := by
  intro x
  induction x using Ex.ind with
  | h k s l ih =>
    rintro ⟨k', s', l'⟩
    rw [exSame_iff_kids, Bool.and_eq_true, Bool.and_eq_true, toList_inj, all2_eq l l' ih, beq_iff_eq]
    simp [and_assoc]
theorem valEq (x y : Val) : x.eqb y = true ↔ x = y := by
  obtain ⟨a, b, c⟩ := x; obtain ⟨a', b', c'⟩ := y
  simp only [Val.eqb, Bool.and_eq_true, toList_iff, beq_iff_eq, Val.mk.injEq, and_assoc]
theorem opdEq (x y : Opd) : x.eqb y = true ↔ x = y := by
  obtain ⟨a, b, c, d⟩ := x; obtain ⟨a', b', c', d'⟩ := y
  simp only [Opd.eqb, Bool.and_eq_true, toList_iff, beq_iff_eq, valEq, Opd.mk.injEq, and_assoc]
theorem cndEq (x y : Cnd) : x.eqb y = true ↔ x = y := by
  obtain ⟨a, b, c⟩ := x; obtain ⟨a', b', c'⟩ := y
  simp only [Cnd.eqb, Bool.and_eq_true, opdEq, beq_iff_eq, Cnd.mk.injEq, and_assoc]
theorem patEq (x y : Pat) : patSame x y = true ↔ x = y := by
  obtain ⟨a, b, c, d, e, f⟩ := x; obtain ⟨a', b', c', d', e', f'⟩ := y
  simp only [patSame, Bool.and_eq_true, toList_iff, exSame_eq, beq_iff_eq, Pat.mk.injEq, and_assoc]
theorem qryEq (x y : Qry) : qrySame x y = true ↔ x = y := by
  obtain ⟨a, b, c, d, e⟩ := x; obtain ⟨a', b', c', d', e'⟩ := y
  simp only [qrySame, Bool.and_eq_true, all2_eq _ _ (fun x _ y => patEq x y), all2_eq _ _ (fun x _ y => cndEq x y), all2_eq _ _ (fun x _ y => opdEq x y), beq_iff_eq, Qry.mk.injEq, and_assoc]
theorem qrySame_refl (x : Qry) : qrySame x x = true := (qryEq x x).2 rfl
end Go.Proofs.Yteihcfhdhkamfaa
