/- nfa.New's positions in plain Lean: what part and row build, and that these are the positions of the expression. -/
import Derived.Test.YtfflpdekojlnmaaDoorLLink
import Derived.Test.YtfflpdekojlnmaaDoorLLang
set_option linter.unusedSimpArgs false
set_option linter.unusedVariables false
namespace Go.Proofs.YtfflpdekojlnmaaDoor

structure RSt where
 st : NSt
 op : Bool
 ends : BitVec 32
 first : BitVec 32
def rowStep (x : Ex) (b : NSt × BitVec 32 × BitVec 32) (r : RSt) : RSt :=
 ⟨{ b.1 with fs := lnkL b.2.1 (bitsM r.ends) b.1.fs }, if exEmpty x then r.op else false, (if exEmpty x then r.ends else 0#32) ||| b.2.2, if r.op then r.first ||| b.2.1 else r.first⟩
mutual
def bld : Ex → NSt → NSt × BitVec 32 × BitVec 32
 | .mk k s l, st =>
  if k = 1 then ({ st with labs := st.labs ++ [s] }, ofM ((st.labs.length + 1 : Nat) : Int), ofM ((st.labs.length + 1 : Nat) : Int))
  else if k = 2 then ((bldS l ⟨st, true, 0#32, 0#32⟩).st, (bldS l ⟨st, true, 0#32, 0#32⟩).first, (bldS l ⟨st, true, 0#32, 0#32⟩).ends)
  else if k = 4 ∨ k = 5 then ({ (bldA l (st, 0#32, 0#32)).1 with fs := lnkL (bldA l (st, 0#32, 0#32)).2.1 (bitsM (bldA l (st, 0#32, 0#32)).2.2) (bldA l (st, 0#32, 0#32)).1.fs }, (bldA l (st, 0#32, 0#32)).2.1, (bldA l (st, 0#32, 0#32)).2.2)
  else bldA l (st, 0#32, 0#32)
def bldS : List Ex → RSt → RSt
 | [], r => r
 | x :: xs, r => bldS xs (rowStep x (bld x r.st) r)
def bldA : List Ex → NSt × BitVec 32 × BitVec 32 → NSt × BitVec 32 × BitVec 32
 | [], r => r
 | x :: xs, r => bldA xs ((bld x r.1).1, r.2.1 ||| (bld x r.1).2.1, r.2.2 ||| (bld x r.1).2.2)
end
theorem bldS_app : ∀ (l m : List Ex) (r : RSt), bldS (l ++ m) r = bldS m (bldS l r)
 | [], m, r => by simp [bldS]
 | x :: l, m, r => by simp only [List.cons_append, bldS]; exact bldS_app l m _
theorem bldA_app : ∀ (l m : List Ex) (r : NSt × BitVec 32 × BitVec 32), bldA (l ++ m) r = bldA m (bldA l r)
 | [], m, r => by simp [bldA]
 | x :: l, m, r => by simp only [List.cons_append, bldA]; exact bldA_app l m _

theorem getD_set' {fs : List (BitVec 32)} {p q : Nat} {x : BitVec 32} (h : p < fs.length) : (fs.set p x).getD q 0#32 = if q = p then x else fs.getD q 0#32 := by
 simp only [List.getD, List.getElem?_set]
 by_cases e : p = q
 ·subst e; simp [h]
 ·rw [if_neg e, if_neg (fun h => e h.symm)]
theorem lnkL_get {b : BitVec 32} : ∀ {l : List Nat} {fs : List (BitVec 32)} {p q : Nat}, (∀ j ∈ l, j < fs.length) → (((lnkL b l fs).getD p 0#32).getLsbD q = true ↔ (fs.getD p 0#32).getLsbD q = true ∨ (p ∈ l ∧ b.getLsbD q = true))
 | [], fs, p, q, _ => by simp [lnkL]
 | j :: l, fs, p, q, hl => by
  have hj : j < fs.length := hl j (by simp)
  rw [lnkL, List.foldl_cons, ← lnkL, lnkL_get (fun k hk => by rw [lnk1, List.length_set]; exact hl k (by simp [hk])), lnk1, getD_set' hj, List.mem_cons]
  by_cases e : p = j
  ·subst e
   simp only [if_true, BitVec.getLsbD_or, Bool.or_eq_true, true_or, true_and]
   constructor
   ·rintro ((h | h) | ⟨_, h⟩)
    ·exact .inl h
    ·exact .inr h
    ·exact .inr h
   ·rintro (h | h)
    ·exact .inl (.inl h)
    ·exact .inl (.inr h)
  ·rw [if_neg e]; simp [e]

structure BLaw (x : Ex) (st : NSt) (r : NSt × BitVec 32 × BitVec 32) : Prop where
 labs : r.1.labs = st.labs ++ labE x
 len : r.1.fs.length = 25
 la : r.1.la = st.la
 em : r.1.em = st.em
 fst : ∀ p, r.2.1.getLsbD p = true ↔ Fst x st.labs.length p
 lst : ∀ p, r.2.2.getLsbD p = true ↔ Lst x st.labs.length p
 fol : ∀ p q, (r.1.fs.getD p 0#32).getLsbD q = true ↔ (st.fs.getD p 0#32).getLsbD q = true ∨ Fol x st.labs.length p q
structure SLaw (l : List Ex) (r R : RSt) : Prop where
 labs : R.st.labs = r.st.labs ++ labEs l
 len : R.st.fs.length = 25
 la : R.st.la = r.st.la
 em : R.st.em = r.st.em
 op : R.op = (r.op && exEmAll l)
 fst : ∀ p, R.first.getLsbD p = true ↔ r.first.getLsbD p = true ∨ (r.op = true ∧ FstS l r.st.labs.length p)
 lst : ∀ p, R.ends.getLsbD p = true ↔ (exEmAll l = true ∧ r.ends.getLsbD p = true) ∨ LstS l r.st.labs.length p
 fol : ∀ p q, (R.st.fs.getD p 0#32).getLsbD q = true ↔ (r.st.fs.getD p 0#32).getLsbD q = true ∨ FolS l r.st.labs.length p q ∨ (r.ends.getLsbD p = true ∧ FstS l r.st.labs.length q)
structure ALaw (l : List Ex) (r R : NSt × BitVec 32 × BitVec 32) : Prop where
 labs : R.1.labs = r.1.labs ++ labEs l
 len : R.1.fs.length = 25
 la : R.1.la = r.1.la
 em : R.1.em = r.1.em
 fst : ∀ p, R.2.1.getLsbD p = true ↔ r.2.1.getLsbD p = true ∨ FstA l r.1.labs.length p
 lst : ∀ p, R.2.2.getLsbD p = true ↔ r.2.2.getLsbD p = true ∨ LstA l r.1.labs.length p
 fol : ∀ p q, (R.1.fs.getD p 0#32).getLsbD q = true ↔ (r.1.fs.getD p 0#32).getLsbD q = true ∨ FolA l r.1.labs.length p q

theorem bldS_law : ∀ (l : List Ex) (r : RSt), (∀ x ∈ l, ∀ st, st.fs.length = 25 → st.labs.length + (labE x).length ≤ 24 → BLaw x st (bld x st)) → r.st.fs.length = 25 → (∀ p ∈ bitsM r.ends, p < 25) → r.st.labs.length + (labEs l).length ≤ 24 → SLaw l r (bldS l r)
 | [], r, _, hf, he, hb => by
  rw [bldS]
  exact ⟨by simp [labEs], hf, rfl, rfl, by simp [exEmAll], fun p => by simp [FstS], fun p => by simp [LstS, exEmAll], fun p q => by simp [FolS, FstS]⟩
 | x :: xs, r, hx, hf, he, hb => by
  rw [labEs, List.length_append] at hb
  have B := hx x (by simp) r.st hf (by omega)
  generalize hbx : bld x r.st = b at B
  have hlen : (r.st.labs ++ labE x).length = r.st.labs.length + (labE x).length := by simp
  have hends : ∀ p ∈ bitsM ((rowStep x b r).ends), p < 25 := fun p hp => by
   have := bitsM_mem.1 hp
   simp only [rowStep] at this
   rw [BitVec.getLsbD_or, Bool.or_eq_true, B.lst] at this
   rcases this with h | h
   ·split at h
    ·exact he p (bitsM_mem.2 h)
    ·simp at h
   ·have := Lst_range x h; omega
  have S := bldS_law xs (rowStep x b r) (fun y hy => hx y (by simp [hy])) (by simp only [rowStep, lnkL_len]; exact B.len) hends (by simp only [rowStep, B.labs, hlen]; omega)
  have hfol : ∀ p q, ((rowStep x b r).st.fs.getD p 0#32).getLsbD q = true ↔ ((r.st.fs.getD p 0#32).getLsbD q = true ∨ Fol x r.st.labs.length p q) ∨ (r.ends.getLsbD p = true ∧ Fst x r.st.labs.length q) := fun p q => by
   show ((lnkL _ _ _).getD p 0#32).getLsbD q = true ↔ _
   rw [lnkL_get (fun j hj => by rw [B.len]; exact he j hj), B.fol, B.fst, bitsM_mem]
  have hl2 : (rowStep x b r).st.labs.length = r.st.labs.length + (labE x).length := by simp only [rowStep, B.labs, hlen]
  have hE : ∀ p, (rowStep x b r).ends.getLsbD p = true ↔ (exEmpty x = true ∧ r.ends.getLsbD p = true) ∨ Lst x r.st.labs.length p := fun p => by
   simp only [rowStep]
   rw [BitVec.getLsbD_or, Bool.or_eq_true, B.lst]
   cases exEmpty x <;> simp
  have hF : ∀ p, (rowStep x b r).first.getLsbD p = true ↔ r.first.getLsbD p = true ∨ (r.op = true ∧ Fst x r.st.labs.length p) := fun p => by
   simp only [rowStep]
   cases r.op
   ·simp
   ·simp only [if_true, BitVec.getLsbD_or, Bool.or_eq_true, B.fst, true_and]
  have hO : (rowStep x b r).op = (r.op && exEmpty x) := by simp only [rowStep]; cases r.op <;> cases exEmpty x <;> rfl
  rw [bldS, hbx]
  refine ⟨?_, S.len, ?_, ?_, ?_, fun p => ?_, fun p => ?_, fun p q => ?_⟩
  ·rw [S.labs]; simp only [rowStep]; rw [B.labs, labEs, List.append_assoc]
  ·rw [S.la]; exact B.la
  ·rw [S.em]; exact B.em
  ·rw [S.op, hO, exEmAll, Bool.and_assoc]
  ·rw [S.fst, hF, hO, hl2, FstS]; grind
  ·rw [S.lst, hE, hl2, LstS, exEmAll]; grind
  ·rw [S.fol, hfol, hE, hl2, FstS, FolS]; grind
theorem bldA_law : ∀ (l : List Ex) (r : NSt × BitVec 32 × BitVec 32), (∀ x ∈ l, ∀ st, st.fs.length = 25 → st.labs.length + (labE x).length ≤ 24 → BLaw x st (bld x st)) → r.1.fs.length = 25 → r.1.labs.length + (labEs l).length ≤ 24 → ALaw l r (bldA l r)
 | [], r, _, hf, hb => by
  rw [bldA]
  exact ⟨by simp [labEs], hf, rfl, rfl, fun p => by simp [FstA], fun p => by simp [LstA], fun p q => by simp [FolA]⟩
 | x :: xs, r, hx, hf, hb => by
  rw [labEs, List.length_append] at hb
  have B := hx x (by simp) r.1 hf (by omega)
  rw [bldA]
  generalize bld x r.1 = b at B ⊢
  have hlen : b.1.labs.length = r.1.labs.length + (labE x).length := by rw [B.labs]; simp
  have A := bldA_law xs (b.1, r.2.1 ||| b.2.1, r.2.2 ||| b.2.2) (fun y hy => hx y (by simp [hy])) B.len (by rw [hlen]; omega)
  refine ⟨?_, A.len, ?_, ?_, fun p => ?_, fun p => ?_, fun p q => ?_⟩
  ·rw [A.labs, B.labs, labEs, List.append_assoc]
  ·rw [A.la]; exact B.la
  ·rw [A.em]; exact B.em
  ·rw [A.fst, hlen, FstA, BitVec.getLsbD_or, Bool.or_eq_true, B.fst]; grind
  ·rw [A.lst, hlen, LstA, BitVec.getLsbD_or, Bool.or_eq_true, B.lst]; grind
  ·rw [A.fol, hlen, FolA, B.fol]; grind
theorem bld_law (x : Ex) : ∀ st : NSt, st.fs.length = 25 → st.labs.length + (labE x).length ≤ 24 → BLaw x st (bld x st) := by
 induction x using Ex.ind with
 | h k s l ih =>
  intro st hf hb
  by_cases h1 : k = 1
  ·subst h1
   have hl : labE (.mk 1 s l) = [s] := by rw [labE, if_pos rfl]
   rw [hl] at hb
   simp only [List.length_singleton] at hb
   have hp : ∀ p, (ofM ((st.labs.length + 1 : Nat) : Int)).getLsbD p = true ↔ p = st.labs.length + 1 := fun p => by
    rw [ofM_get, decide_eq_true_eq]; omega
   rw [bld, if_pos rfl]
   exact ⟨by rw [hl], hf, rfl, rfl, fun p => by rw [Fst, if_pos rfl]; exact hp p, fun p => by rw [Lst, if_pos rfl]; exact hp p, fun p q => by rw [Fol, if_pos rfl, or_false]⟩
  ·rw [labE_of h1] at hb
   rw [bld, if_neg h1]
   by_cases h2 : k = 2
   ·subst h2
    rw [if_pos rfl]
    have S := bldS_law l ⟨st, true, 0#32, 0#32⟩ ih hf (by rw [bitsM_zero]; intro p hp; cases hp) hb
    refine ⟨by rw [labE_of h1]; exact S.labs, S.len, S.la, S.em, fun p => ?_, fun p => ?_, fun p q => ?_⟩
    ·rw [Fst, if_neg h1, if_pos rfl, S.fst]; simp
    ·rw [Lst, if_neg h1, if_pos rfl, S.lst]; simp
    ·rw [Fol, if_neg h1, if_pos rfl, S.fol]; simp
   ·rw [if_neg h2]
    have A := bldA_law l (st, 0#32, 0#32) ih hf hb
    have hF : ∀ p, Fst (.mk k s l) st.labs.length p ↔ FstA l st.labs.length p := fun p => by rw [Fst, if_neg h1, if_neg h2]
    have hL : ∀ p, Lst (.mk k s l) st.labs.length p ↔ LstA l st.labs.length p := fun p => by rw [Lst, if_neg h1, if_neg h2]
    have aF : ∀ p, (bldA l (st, 0#32, 0#32)).2.1.getLsbD p = true ↔ FstA l st.labs.length p := fun p => by rw [A.fst]; simp
    have aL : ∀ p, (bldA l (st, 0#32, 0#32)).2.2.getLsbD p = true ↔ LstA l st.labs.length p := fun p => by rw [A.lst]; simp
    by_cases h4 : k = 4 ∨ k = 5
    ·rw [if_pos h4]
     refine ⟨by rw [labE_of h1]; exact A.labs, by rw [lnkL_len]; exact A.len, A.la, A.em, fun p => by rw [hF, aF], fun p => by rw [hL, aL], fun p q => ?_⟩
     show ((lnkL _ _ _).getD p 0#32).getLsbD q = true ↔ _
     rw [lnkL_get (fun j hj => by
      have := LstA_range ((aL j).1 (bitsM_mem.1 hj))
      rw [A.len]; omega), A.fol, aF, bitsM_mem, aL, Fol, if_neg h1, if_neg h2]
     grind
    ·rw [if_neg h4]
     refine ⟨by rw [labE_of h1]; exact A.labs, A.len, A.la, A.em, fun p => by rw [hF, aF], fun p => by rw [hL, aL], fun p q => ?_⟩
     rw [A.fol, Fol, if_neg h1, if_neg h2]
     grind
end Go.Proofs.YtfflpdekojlnmaaDoor
