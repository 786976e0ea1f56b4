/- The abstract walk: numbers, texts, truths, structs compared; lengths. -/
import Derived.Test.YteihcfhdhkamfaaAbsF
namespace Go.Proofs.Yteihcfhdhkamfaa
open Go.RowKit

section
variable {D : Nat → Prop} {nu : Nat → Nat → Value} {o : List (Option AObj)} {w : World} {P : Program}

/-! ### plain types compared -/
inductive FK where
  | b | i | s
def kv : FK → Value → Value → Option Bool
  | .b, .bool x, .bool y => some (x == y)
  | .i, .int k x, .int k' y => if k = k' then some (x == y) else none
  | .s, .string x, .string y => some (x.toList == y.toList)
  | _, _, _ => none
def eqK : List FK → List Value → List Value → Option Bool
  | [], [], [] => some true
  | k :: ks, x :: xs, y :: ys => match kv k x y, eqK ks xs ys with
    | some a, some b => some (a && b)
    | _, _ => none
  | _, _, _ => none

def tEqF (P : Program) (g : TypeId → Option (List FK)) : List Field → Nat → Option (List FK)
  | [], _ => some []
  | f :: fs, off => if f.name = "_" then none else match g f.type with
    | some ks => if f.offset = off ∧ tSize P f.type = some ks.length then match tEqF P g fs (off + ks.length) with
      | some r => some (ks ++ r)
      | none => none
      else none
    | none => none
def tEq (P : Program) : Nat → TypeId → Option (List FK)
  | 0, _ => none
  | d + 1, T => match P.underlying T with
    | some .bool => some [.b]
    | some (.int _) => some [.i]
    | some .string => some [.s]
    | some (.struct fs) => if P.stoodInHeld T then none else tEqF P (tEq P d) fs.toList 0
    | _ => none

/-- a value of a type, of its cells -/
def valOf (P : Program) (T : TypeId) (xs : List Value) : Value := match P.underlying T with
  | some (.struct _) => .agg xs.toArray
  | _ => xs.headD Go.undef

theorem eqK_len : ∀ {ks : List FK} {xs ys : List Value} {r : Bool}, eqK ks xs ys = some r → xs.length = ks.length ∧ ys.length = ks.length
  | [], [], [], _, _ => ⟨rfl, rfl⟩
  | [], [], _ :: _, _, h => by simp [eqK] at h
  | [], _ :: _, _, _, h => by simp [eqK] at h
  | _ :: _, [], _, _, h => by simp [eqK] at h
  | _ :: _, _ :: _, [], _, h => by simp [eqK] at h
  | k :: ks, x :: xs, y :: ys, r, h => by
    simp only [eqK] at h
    split at h
    · rename_i a b e1 e2
      obtain ⟨h1, h2⟩ := eqK_len e2
      simp [h1, h2]
    · cases h
theorem eqK_split : ∀ {ks ks' : List FK} {xs ys : List Value} {r : Bool}, eqK (ks ++ ks') xs ys = some r → ∃ a b, eqK ks (xs.take ks.length) (ys.take ks.length) = some a ∧ eqK ks' (xs.drop ks.length) (ys.drop ks.length) = some b ∧ r = (a && b)
  | [], ks', xs, ys, r, h => ⟨true, r, by simp [eqK], by simpa using h, by simp⟩
  | k :: ks, ks', [], _, _, h => by simp [eqK] at h
  | k :: ks, ks', _ :: _, [], _, h => by simp [eqK] at h
  | k :: ks, ks', x :: xs, y :: ys, r, h => by
    simp only [List.cons_append, eqK] at h
    split at h
    · rename_i a b e1 e2
      cases h
      obtain ⟨c, d, h1, h2, h3⟩ := eqK_split e2
      refine ⟨a && c, d, ?_, by simpa using h2, by rw [h3, Bool.and_assoc]⟩
      simp [eqK, e1, h1]
    · cases h

theorem part_val {d : Nat} {T : TypeId} {ks : List FK} (h : tEq P d T = some ks) (hs : tSize P T = some ks.length) {xs : List Value} {off : Nat} (hl : off + ks.length ≤ xs.length) :
    (part T xs.toArray off).run P w = .ok (valOf P T ((xs.drop off).take ks.length)) w := by
  cases d with
  | zero => simp [tEq] at h
  | succ d =>
    simp only [tEq] at h
    have one : ∀ dd, P.underlying T = some dd → tAgg P T = some false → ks.length = 1 → valOf P T ((xs.drop off).take ks.length) = ((xs.drop off).take ks.length).headD Go.undef → (part T xs.toArray off).run P w = .ok (valOf P T ((xs.drop off).take ks.length)) w := by
      intro dd hu ha h1 hv
      rw [hv, h1]
      have hlt : off < xs.length := by omega
      have hx : xs.toArray[off]? = some xs[off] := by simp [hlt]
      have e : ((xs.drop off).take 1).headD Go.undef = xs[off] := by rw [List.drop_eq_getElem_cons hlt]; rfl
      rw [e]
      simp [part, run_isAgg ha, hlt]
    split at h
    · rename_i hu; cases h; exact one _ hu (by simp [tAgg, hu]) rfl (by simp [valOf, hu])
    · rename_i hu; cases h; exact one _ hu (by simp [tAgg, hu]) rfl (by simp [valOf, hu])
    · rename_i hu; cases h; exact one _ hu (by simp [tAgg, hu]) rfl (by simp [valOf, hu])
    · rename_i fs hu
      have ha : tAgg P T = some true := by simp [tAgg, hu]
      simp only [valOf, hu]
      simp only [part, Sem.run_bind, run_isAgg ha, Result.andThen_ok, if_true, run_sizeOf hs, Sem.run_pure]
      congr 2
      apply Array.ext'
      simp [List.take_drop]
    · cases h

theorem eqK_one {k : FK} {xs ys : List Value} {r : Bool} (h : eqK [k] xs ys = some r) : ∃ x y, xs = [x] ∧ ys = [y] ∧ kv k x y = some r := by
  obtain ⟨l1, l2⟩ := eqK_len h
  obtain ⟨x, rfl⟩ := List.length_eq_one_iff.1 l1
  obtain ⟨y, rfl⟩ := List.length_eq_one_iff.1 l2
  refine ⟨x, y, rfl, rfl, ?_⟩
  simp only [eqK] at h
  split at h
  · rename_i a b e1 e2
    cases e2; cases h
    rw [e1, Bool.and_true]
  · cases h

theorem kv_b {x y : Value} {r : Bool} (h : kv .b x y = some r) : ∃ a b, x = .bool a ∧ y = .bool b ∧ r = (a == b) := by
  cases x <;> cases y <;> simp [kv] at h
  exact ⟨_, _, rfl, rfl, h.symm⟩
theorem kv_s {x y : Value} {r : Bool} (h : kv .s x y = some r) : ∃ a b, x = .string a ∧ y = .string b ∧ r = (a.toList == b.toList) := by
  cases x <;> cases y <;> simp [kv] at h
  exact ⟨_, _, rfl, rfl, by simpa using h.symm⟩
theorem kv_i {x y : Value} {r : Bool} (h : kv .i x y = some r) : ∃ k a b, x = .int k a ∧ y = .int k b ∧ r = (a == b) := by
  cases x <;> cases y <;> simp [kv] at h
  obtain ⟨rfl, h⟩ := h
  exact ⟨_, _, _, rfl, rfl, h.symm⟩

def EqGood (P : Program) (d : Nat) : Prop := ∀ (T : TypeId) (ks : List FK), tEq P d T = some ks → ∀ (d' : Nat), d ≤ d' → ∀ (xs ys : List Value) (r : Bool) (w : World), eqK ks xs ys = some r → (Op.equalIn d' T (valOf P T xs) (valOf P T ys)).run P w = .ok r w

theorem tEqF_good {d : Nat} (ih : EqGood P d) : ∀ (fs : List Field) (off : Nat) (ks : List FK), tEqF P (tEq P d) fs off = some ks → ∀ (d' : Nat), d ≤ d' → ∀ (xs ys : List Value) (r : Bool) (w : World), eqK ks (xs.drop off) (ys.drop off) = some r →
    off + ks.length = xs.length → off + ks.length = ys.length → (Op.eqFields d' xs.toArray ys.toArray fs).run P w = .ok r w
  | [], off, ks, h, d', hd, xs, ys, r, w, he, hx, hy => by
    simp only [tEqF, Option.some.injEq] at h; subst h
    have e1 : xs.drop off = [] := List.drop_eq_nil_of_le (by simp at hx; omega)
    have e2 : ys.drop off = [] := List.drop_eq_nil_of_le (by simp at hy; omega)
    rw [e1, e2] at he
    simp only [eqK, Option.some.injEq] at he; subst he
    simp [Op.eqFields]
  | f :: fs, off, ks, h, d', hd, xs, ys, r, w, he, hx, hy => by
    simp only [tEqF] at h
    split at h
    · cases h
    · rename_i hname
      split at h
      · rename_i k1 e1
        split at h
        · rename_i hc
          split at h
          · rename_i k2 e2
            cases h
            obtain ⟨rfl, hsz⟩ := hc
            obtain ⟨a, b, h1, h2, h3⟩ := eqK_split he
            rw [List.drop_drop, List.drop_drop] at h2
            have hrest := tEqF_good ih fs (f.offset + k1.length) k2 e2 d' hd xs ys b w (by simpa [Nat.add_comm] using h2) (by simp at hx; omega) (by simp at hy; omega)
            have hhead := ih f.type k1 e1 d' hd _ _ a w h1
            have hl1 : f.offset + k1.length ≤ xs.length := by simp at hx; omega
            have hl2 : f.offset + k1.length ≤ ys.length := by simp at hy; omega
            simp only [Op.eqFields, ne_eq, hname, not_false_eq_true, if_true, Sem.run_bind, part_val e1 hsz hl1, part_val e1 hsz hl2, Result.andThen_ok, hhead]
            subst h3
            cases a
            · simp
            · simpa using hrest
          · cases h
        · cases h
      · cases h

theorem tEq_good : ∀ (d : Nat), EqGood P d
  | 0 => fun T ks h => by simp [tEq] at h
  | d + 1 => fun T ks h d' hd xs ys r w he => by
    obtain ⟨d', rfl⟩ : ∃ m, d' = m + 1 := ⟨d' - 1, by omega⟩
    simp only [tEq] at h
    split at h
    · rename_i hu
      cases h
      obtain ⟨x, y, rfl, rfl, hk⟩ := eqK_one he
      obtain ⟨a, b, rfl, rfl, rfl⟩ := kv_b hk
      simp only [valOf, hu, List.headD_cons]
      exact run_equalIn_bool' w d' T a b hu
    · rename_i k hu
      cases h
      obtain ⟨x, y, rfl, rfl, hk⟩ := eqK_one he
      obtain ⟨k1, a, b, rfl, rfl, rfl⟩ := kv_i hk
      simp only [valOf, hu, List.headD_cons]
      exact run_equalIn_int w d' T k1 k a b hu
    · rename_i hu
      cases h
      obtain ⟨x, y, rfl, rfl, hk⟩ := eqK_one he
      obtain ⟨a, b, rfl, rfl, rfl⟩ := kv_s hk
      simp only [valOf, hu, List.headD_cons]
      exact run_equalIn_string w d' T a b hu
    · rename_i fs hu
      split at h
      · cases h
      · rename_i hs
        have hfo : P.fieldsOf T = fs := by simp [Program.fieldsOf, hu]
        simp only [valOf, hu]
        rw [run_equalIn_struct w d' T _ _ (by rw [hfo]; exact hu) (by simpa using hs), hfo]
        obtain ⟨l1, l2⟩ := eqK_len he
        exact tEqF_good (tEq_good d) fs.toList 0 ks h d' (by omega) xs ys r w (by simpa using he) (by omega) (by omega)
    · cases h

/-! ### operations on numbers, texts, truths -/
def aShift (op : BinOp) (k : IntKind) (a b : Int) : Option (Prop × AV) := match op with
  | .shl => some (0 ≤ b, .v (.int k (k.wrap (a * 2 ^ min b.toNat k.bits))))
  | .shr => some (0 ≤ b, .v (.int k (a.fdiv (2 ^ min b.toNat k.bits))))
  | _ => none
def aInt (op : BinOp) (k : IntKind) (a b : Int) : Option (Prop × AV) := match op with
  | .add => some (True, .v (.int k (k.wrap (a + b))))
  | .sub => some (True, .v (.int k (k.wrap (a - b))))
  | .mul => some (True, .v (.int k (k.wrap (a * b))))
  | .quo => some (b ≠ 0, .v (.int k (k.wrap (a.tdiv b))))
  | .rem => some (b ≠ 0, .v (.int k (a.tmod b)))
  | .and => some (True, .v (.int k (k.wrap (BitVec.ofInt k.bits a &&& BitVec.ofInt k.bits b).toNat)))
  | .or => some (True, .v (.int k (k.wrap (BitVec.ofInt k.bits a ||| BitVec.ofInt k.bits b).toNat)))
  | .xor => some (True, .v (.int k (k.wrap (BitVec.ofInt k.bits a ^^^ BitVec.ofInt k.bits b).toNat)))
  | .andNot => some (True, .v (.int k (k.wrap (BitVec.ofInt k.bits a &&& ~~~ BitVec.ofInt k.bits b).toNat)))
  | .eql => some (True, .v (.bool (a == b)))
  | .neq => some (True, .v (.bool (a != b)))
  | .lss => some (True, .v (.bool (decide (a < b))))
  | .leq => some (True, .v (.bool (decide (a ≤ b))))
  | .gtr => some (True, .v (.bool (decide (b < a))))
  | .geq => some (True, .v (.bool (decide (b ≤ a))))
  | .shl => aShift .shl k a b
  | .shr => aShift .shr k a b
def aStr (op : BinOp) (a b : ByteArray) : Option (Prop × AV) := match op with
  | .add => some (a.size + b.size ≤ 4611686018427387904, .v (.string (a ++ b)))
  | .eql => some (True, .v (.bool (a.toList == b.toList)))
  | .neq => some (True, .v (.bool (!(a.toList == b.toList))))
  | .lss => some (True, .v (.bool (Op.bytesLess a.toList b.toList)))
  | .leq => some (True, .v (.bool (Op.bytesLess a.toList b.toList || a.toList == b.toList)))
  | .gtr => some (True, .v (.bool (!(Op.bytesLess a.toList b.toList || a.toList == b.toList))))
  | .geq => some (True, .v (.bool (!(Op.bytesLess a.toList b.toList))))
  | _ => none

/-- the flat kinds of a struct that is compared -/
def tEqG (P : Program) (T : TypeId) : Option (List FK) := if P.eqGuardType P.depth T then none else match P.underlying T with
  | some (.struct _) => tEq P 12 T
  | _ => none
def aEqK : List FK → List AV → List AV → Option Bool
  | [], [], [] => some true
  | k :: ks, .v x :: xs, .v y :: ys => match kv k x y, aEqK ks xs ys with
    | some a, some b => some (a && b)
    | _, _ => none
  | _, _, _ => none
theorem aEqK_good : ∀ {ks : List FK} {cs ds : List AV} {r : Bool}, aEqK ks cs ds = some r → ∃ xs ys, cs = xs.map AV.v ∧ ds = ys.map AV.v ∧ eqK ks xs ys = some r
  | [], [], [], _, h => ⟨[], [], rfl, rfl, by simpa [aEqK, eqK] using h⟩
  | [], [], _ :: _, _, h => by simp [aEqK] at h
  | [], _ :: _, _, _, h => by simp [aEqK] at h
  | k :: ks, cs, ds, r, h => by
    unfold aEqK at h
    split at h
    · exact absurd ‹k :: ks = []› (by simp)
    · rename_i k' ks' x xs y ys e
      cases e
      split at h
      · rename_i a b e1 e2
        obtain ⟨xs', ys', rfl, rfl, h3⟩ := aEqK_good e2
        refine ⟨x :: xs', y :: ys', rfl, rfl, ?_⟩
        simp only [eqK, e1, h3]; exact h
      · cases h
    · cases h

def isPtr (P : Program) (T : TypeId) : Bool := match P.underlying T with
  | some (.pointer _) => true
  | _ => false

def aBin (P : Program) (op : BinOp) (T : TypeId) : AV → AV → Option (Prop × AV)
  | .v (.int k a), .v (.int k' b) => match op with
    | .shl => aShift .shl k a b
    | .shr => aShift .shr k a b
    | _ => if k = k' then aInt op k a b else none
  | .v (.string a), .v (.string b) => aStr op a b
  | .v (.bool a), .v (.bool b) => match P.underlying T, op with
    | some .bool, .eql => some (True, .v (.bool (a == b)))
    | some .bool, .neq => some (True, .v (.bool (!(a == b))))
    | _, _ => none
  | .agg cs, .agg ds => match tEqG P T, op with
    | some ks, .eql => (aEqK ks cs ds).map fun r => (True, .v (.bool r))
    | some ks, .neq => (aEqK ks cs ds).map fun r => (True, .v (.bool (!r)))
    | _, _ => none
  | .v (.pointer none), .v (.pointer none) => if isPtr P T then match op with
    | .eql => some (True, .v (.bool true))
    | .neq => some (True, .v (.bool false))
    | _ => none else none
  | .vp _, .v (.pointer none) => if isPtr P T then match op with
    | .eql => some (True, .v (.bool false))
    | .neq => some (True, .v (.bool true))
    | _ => none else none
  | .ptr _ _ _ _ _, .v (.pointer none) => if isPtr P T then match op with
    | .eql => some (True, .v (.bool false))
    | .neq => some (True, .v (.bool true))
    | _ => none else none
  | _, _ => none

theorem bin_int {op : BinOp} {T : TypeId} {k : IntKind} {a b : Int} {p : Prop} {r : AV} (h : aInt op k a b = some (p, r)) (hp : p) : ∃ v, (binOp op T (.int k a) (.int k b)).run P w = .ok v w ∧ r = .v v := by
  cases op <;> simp only [aInt, aShift, Option.some.injEq, Prod.mk.injEq] at h <;> obtain ⟨rfl, rfl⟩ := h <;> refine ⟨_, ?_, rfl⟩ <;>
    simp [binOp, Op.intArith, Op.intDiv, Op.intBits, Op.intCmp, Op.shift] <;> first | (intro h; exact absurd h hp) | omega

theorem RA.v_eq {x y : Value} (h : RA D nu o w (.v x) y) : y = x := by cases h; rfl

theorem agg_vals {xs : List Value} {x : Value} (h : RA D nu o w (.agg (xs.map AV.v)) x) : x = .agg xs.toArray := by
  cases h with
  | agg _ ys h1 h2 h3 =>
    congr 1
    apply Array.ext
    · simpa using h1.symm
    · intro i q1 q2
      have e1 : (xs.map AV.v)[i]? = some (.v xs[i]) := by simp at q2; simp [q2]
      have := (h2 i _ _ e1 (Array.getElem?_eq_getElem q1)).v_eq
      simp [this]

theorem str_good {op : BinOp} {T : TypeId} {a b : ByteArray} {p : Prop} {r : AV} (h : aStr op a b = some (p, r)) (hp : p) : ∃ v, (binOp op T (.string a) (.string b)).run P w = .ok v w ∧ r = .v v := by
  cases op <;> simp only [aStr, Option.some.injEq, Prod.mk.injEq, reduceCtorEq] at h <;> obtain ⟨rfl, rfl⟩ := h <;> refine ⟨_, ?_, rfl⟩ <;>
    simp [binOp, Op.stringOp]
  omega

theorem guard_plain {op : BinOp} {T : TypeId} {X Y : Operand} {x y : Value} (h : ∀ xs ys, ¬ (x = .agg xs ∧ y = .agg ys)) (h2 : x ≠ .nilIface) : (eqGuard op T X Y x y).run P w = .ok () w := by
  unfold eqGuard
  cases op <;> first
    | rfl
    | (cases x <;> first
        | rfl
        | exact absurd rfl h2
        | (cases y <;> first
            | rfl
            | exact absurd ⟨rfl, rfl⟩ (h _ _)))

theorem eqIn_ptr (d : Nat) {T e : TypeId} (hu : P.underlying T = some (.pointer e)) (ad : Addr) : (Op.equalIn (d + 1) T (.pointer (some ad)) (.pointer none)).run P w = .ok false w := by
  simp [Op.equalIn, run_underlying hu]
theorem eqIn_nil (d : Nat) {T e : TypeId} (hu : P.underlying T = some (.pointer e)) : (Op.equalIn (d + 1) T (.pointer none) (.pointer none)).run P w = .ok true w := by
  simp [Op.equalIn, run_underlying hu]
theorem eql_of {T : TypeId} {x y : Value} {b : Bool} (hb : binOp .eql T x y = (do pure (.bool (← Op.equal T x y)))) (h : (Op.equalIn 10000 T x y).run P w = .ok b w) : (binOp .eql T x y).run P w = .ok (.bool b) w := by
  rw [hb]
  simp only [Op.equal, Op.maxDepth, Sem.run_bind, h, Result.andThen_ok, Sem.run_pure]
theorem neq_of {T : TypeId} {x y : Value} {b : Bool} (hb : binOp .neq T x y = (do pure (.bool (!(← Op.equal T x y))))) (h : (Op.equalIn 10000 T x y).run P w = .ok b w) : (binOp .neq T x y).run P w = .ok (.bool (!b)) w := by
  rw [hb]
  simp only [Op.equal, Op.maxDepth, Sem.run_bind, h, Result.andThen_ok, Sem.run_pure]

theorem ptr_shape {a : AV} {x : Value} (hr : RA D nu o w a x) (h : (∃ cs, a = .vp cs) ∨ ∃ i l z r f, a = .ptr i l z r f) : ∃ ad, x = .pointer (some ad) := by
  rcases h with ⟨cs, rfl⟩ | ⟨i, l, z, r, f, rfl⟩
  · cases hr; exact ⟨_, rfl⟩
  · cases hr; exact ⟨_, rfl⟩

theorem ptr_nil {T : TypeId} {ad : Addr} (hT : isPtr P T = true) : (binOp .eql T (.pointer (some ad)) (.pointer none)).run P w = .ok (.bool false) w ∧ (binOp .neq T (.pointer (some ad)) (.pointer none)).run P w = .ok (.bool true) w := by
  unfold isPtr at hT
  split at hT
  · rename_i e hu
    exact ⟨eql_of rfl (eqIn_ptr 9999 hu ad), neq_of rfl (eqIn_ptr 9999 hu ad)⟩
  · cases hT

theorem bin_good {op : BinOp} {T : TypeId} {a b : AV} {x y : Value} (hx : RA D nu o w a x) (hy : RA D nu o w b y) {p : Prop} {r : AV} (h : aBin P op T a b = some (p, r)) (hp : p) (X Y : Operand) :
    ∃ v, (binOp op T x y).run P w = .ok v w ∧ RA D nu o w r v ∧ (eqGuard op T X Y x y).run P w = .ok () w := by
  have fin : ∀ (rr : AV), (∃ v, (binOp op T x y).run P w = .ok v w ∧ rr = .v v) → rr = r → ((∀ xs ys, ¬ (x = .agg xs ∧ y = .agg ys)) ∧ x ≠ .nilIface) → ∃ v, (binOp op T x y).run P w = .ok v w ∧ RA D nu o w r v ∧ (eqGuard op T X Y x y).run P w = .ok () w := by
    rintro rr ⟨v, h1, h2⟩ h3 ⟨h4, h5⟩
    subst h3; subst h2
    exact ⟨v, h1, .v v, guard_plain h4 h5⟩
  unfold aBin at h
  split at h
  · obtain rfl := hx.v_eq
    obtain rfl := hy.v_eq
    refine fin r ?_ rfl ⟨fun xs ys e => (by cases e.1), fun e => by cases e⟩
    split at h
    · simp only [aShift, Option.some.injEq, Prod.mk.injEq] at h
      obtain ⟨rfl, rfl⟩ := h
      exact ⟨_, by simp [binOp, Op.shift]; omega, rfl⟩
    · simp only [aShift, Option.some.injEq, Prod.mk.injEq] at h
      obtain ⟨rfl, rfl⟩ := h
      exact ⟨_, by simp [binOp, Op.shift]; omega, rfl⟩
    · split at h
      · rename_i hk; subst hk
        exact bin_int h hp
      · cases h
  · obtain rfl := hx.v_eq
    obtain rfl := hy.v_eq
    exact fin r (str_good h hp) rfl ⟨fun xs ys e => (by cases e.1), fun e => by cases e⟩
  · obtain rfl := hx.v_eq
    obtain rfl := hy.v_eq
    refine fin r ?_ rfl ⟨fun xs ys e => (by cases e.1), fun e => by cases e⟩
    split at h
    · rename_i hu
      simp only [Option.some.injEq, Prod.mk.injEq] at h
      obtain ⟨rfl, rfl⟩ := h
      exact ⟨_, eql_of rfl (run_equalIn_bool' w 9999 T _ _ hu), rfl⟩
    · rename_i hu
      simp only [Option.some.injEq, Prod.mk.injEq] at h
      obtain ⟨rfl, rfl⟩ := h
      exact ⟨_, neq_of rfl (run_equalIn_bool' w 9999 T _ _ hu), rfl⟩
    · cases h
  · rename_i cs ds
    have key : ∀ ks rr, tEqG P T = some ks → aEqK ks cs ds = some rr → ∃ xs ys, x = .agg xs ∧ y = .agg ys ∧ P.eqGuardType P.depth T = false ∧ (Op.equalIn 10000 T (.agg xs) (.agg ys)).run P w = .ok rr w := by
      intro ks rr h1 h2
      unfold tEqG at h1
      split at h1
      · cases h1
      · rename_i hg
        split at h1
        · rename_i fs hu
          obtain ⟨xs, ys, rfl, rfl, h3⟩ := aEqK_good h2
          refine ⟨_, _, agg_vals hx, agg_vals hy, by simpa using hg, ?_⟩
          have := tEq_good (P := P) 12 T ks h1 10000 (by omega) xs ys rr w h3
          simpa only [valOf, hu] using this
        · cases h1
    split at h
    · rename_i ks ht
      cases he : aEqK ks cs ds with
      | none => rw [he] at h; cases h
      | some rr =>
        rw [he] at h
        simp only [Option.map_some, Option.some.injEq, Prod.mk.injEq] at h
        obtain ⟨rfl, rfl⟩ := h
        obtain ⟨xs, ys, rfl, rfl, hg, hq⟩ := key ks rr ht he
        exact ⟨.bool rr, by rw [run_eql_struct, hq]; rfl, .v _, run_eqGuard_agg w _ T X Y xs ys hg⟩
    · rename_i ks ht
      cases he : aEqK ks cs ds with
      | none => rw [he] at h; cases h
      | some rr =>
        rw [he] at h
        simp only [Option.map_some, Option.some.injEq, Prod.mk.injEq] at h
        obtain ⟨rfl, rfl⟩ := h
        obtain ⟨xs, ys, rfl, rfl, hg, hq⟩ := key ks rr ht he
        exact ⟨.bool (!rr), by rw [run_neq_struct, hq]; rfl, .v _, run_eqGuard_agg w _ T X Y xs ys hg⟩
    · cases h
  · obtain rfl := hx.v_eq
    obtain rfl := hy.v_eq
    refine fin r ?_ rfl ⟨fun xs ys e => (by cases e.1), fun e => by cases e⟩
    split at h
    · rename_i hT
      unfold isPtr at hT
      split at hT
      · rename_i e hu
        split at h
        · cases h; exact ⟨_, eql_of rfl (eqIn_nil 9999 hu), rfl⟩
        · cases h; exact ⟨_, neq_of rfl (eqIn_nil 9999 hu), rfl⟩
        · cases h
      · cases hT
    · cases h
  · obtain rfl := hy.v_eq
    obtain ⟨ad, rfl⟩ := ptr_shape hx (.inl ⟨_, rfl⟩)
    refine fin r ?_ rfl ⟨fun xs ys e => (by cases e.1), fun e => by cases e⟩
    split at h
    · rename_i hT
      split at h
      · cases h; exact ⟨_, (ptr_nil hT).1, rfl⟩
      · cases h; exact ⟨_, (ptr_nil hT).2, rfl⟩
      · cases h
    · cases h
  · obtain rfl := hy.v_eq
    obtain ⟨ad, rfl⟩ := ptr_shape hx (.inr ⟨_, _, _, _, _, rfl⟩)
    refine fin r ?_ rfl ⟨fun xs ys e => (by cases e.1), fun e => by cases e⟩
    split at h
    · rename_i hT
      split at h
      · cases h; exact ⟨_, (ptr_nil hT).1, rfl⟩
      · cases h; exact ⟨_, (ptr_nil hT).2, rfl⟩
      · cases h
    · cases h
  · cases h

/-! ### one operand -/
def aUn (op : UnOp) : AV → Option AV
  | .v (.bool b) => match op with
    | .not => some (.v (.bool (!b)))
    | _ => none
  | .v (.int k n) => match op with
    | .neg => some (.v (.int k (k.wrap (0 - n))))
    | _ => none
  | _ => none
theorem un_good {op : UnOp} {a : AV} {x : Value} (hx : RA D nu o w a x) {r : AV} (h : aUn op a = some r) : ∃ v, (Op.unary op x).run P w = .ok v w ∧ RA D nu o w r v := by
  unfold aUn at h
  split at h
  · obtain rfl := hx.v_eq
    split at h
    · cases h; exact ⟨_, rfl, .v _⟩
    · cases h
  · obtain rfl := hx.v_eq
    split at h
    · cases h; exact ⟨_, rfl, .v _⟩
    · cases h
  · cases h

def aConv (P : Program) (src dst : TypeId) : AV → Option AV
  | .v (.int _ n) => match P.underlying src, P.underlying dst with
    | some _, some (.int k) => some (.v (.int k (k.wrap n)))
    | _, _ => none
  | .v (.string s) => match P.underlying src, P.underlying dst with
    | some .string, some .string => some (.v (.string s))
    | _, _ => none
  | _ => none
theorem conv_good {src dst : TypeId} {a : AV} {x : Value} (hx : RA D nu o w a x) {r : AV} (h : aConv P src dst a = some r) : ∃ v, (convert src dst x).run P w = .ok v w ∧ RA D nu o w r v := by
  unfold aConv at h
  split at h
  · obtain rfl := hx.v_eq
    split at h
    · rename_i d k h1 h2
      cases h
      exact ⟨_, by simp [convert, run_underlying h1, run_underlying h2, Conv.intToInt], .v _⟩
    · cases h
  · obtain rfl := hx.v_eq
    split at h
    · rename_i h1 h2
      cases h
      exact ⟨_, by simp [convert, run_underlying h1, run_underlying h2], .v _⟩
    · cases h
  · cases h

/-- a byte of a text -/
def strAt (s : ByteArray) (i : Nat) : Nat := (s.data.toList.getD i 0).toNat
def aIndex (P : Program) (T : TypeId) : AV → AV → Option (Prop × AV)
  | .v (.string s), .v (.int _ i) => match P.underlying T with
    | some .string => some (0 ≤ i ∧ i < s.size, .v (.int .u8 (strAt s i.toNat)))
    | _ => none
  | _, _ => none
theorem index_good {T : TypeId} {a i : AV} {x y : Value} (hx : RA D nu o w a x) (hy : RA D nu o w i y) {p : Prop} {r : AV} (h : aIndex P T a i = some (p, r)) (hp : p) : ∃ v, (Instr.index T x y).run P w = .ok v w ∧ RA D nu o w r v := by
  unfold aIndex at h
  split at h
  · rename_i s k i'
    obtain rfl := hx.v_eq
    obtain rfl := hy.v_eq
    split at h
    · rename_i hu
      cases h
      obtain ⟨h1, h2⟩ := hp
      have hlt : i'.toNat < s.size := by omega
      have e : s[i'.toNat]? = some s[i'.toNat] := by simp [hlt]
      have e2 : (s.data.toList.getD i'.toNat 0) = s[i'.toNat] := by
        have hl : i'.toNat < s.data.toList.length := by simpa using hlt
        rw [List.getD_eq_getElem?_getD, List.getElem?_eq_getElem hl]
        rfl
      refine ⟨_, ?_, .v _⟩
      simp only [Instr.index, asIntOf, Sem.run_bind, Sem.run_pure, Result.andThen_ok, run_underlying hu, h1, if_true, e, strAt, e2]
    · cases h
  · cases h

def aExtract (i : Nat) : AV → Option AV
  | .tup vs => vs[i]?
  | _ => none
theorem extract_good {i : Nat} {a : AV} {x : Value} (hx : RA D nu o w a x) {r : AV} (h : aExtract i a = some r) : ∃ v, (Instr.extract x i).run P w = .ok v w ∧ RA D nu o w r v := by
  unfold aExtract at h
  split at h
  · cases hx with
    | tup _ xs h1 h2 =>
      have hlt : i < xs.size := by rw [← h1]; exact (List.getElem?_eq_some_iff.1 h).1
      have e : xs[i]? = some xs[i] := Array.getElem?_eq_getElem hlt
      exact ⟨xs[i], by simp [Instr.extract, e], h2 i r _ h e⟩
  · cases h

/-! ### lengths -/
def aLen (P : Program) (T : TypeId) : AV → Option AV
  | .slc _ _ len => match P.underlying T with
    | some (.slice _) => some (.v (.int .i64 len))
    | _ => none
  | .v (.string s) => match P.underlying T with
    | some .string => some (.v (.int .i64 s.size))
    | _ => none
  | .v (.slice none 0 0) => match P.underlying T with
    | some (.slice _) => some (.v (.int .i64 0))
    | _ => none
  | _ => none
def aLenO (P : Program) (T : TypeId) (o : List (Option AObj)) : AV → Option (Prop × AV)
  | .vec id len => match o[id]?, P.underlying T with
    | some (some ob), some (.slice _) => some (ob.isV = true ∧ ob.rows.length = len, .v (.int .i64 len))
    | _, _ => none
  | a => (aLen P T a).map fun r => (True, r)
theorem len_good {T : TypeId} (ty : TypeId) {a : AV} {x : Value} (hr : RO D nu o w) (hx : RA D nu o w a x) {p : Prop} {r : AV} (h : aLenO P T o a = some (p, r)) (hp : p) : ∃ v, (Builtin.len_ #[T] ty #[x]).run P w = .ok v w ∧ RA D nu o w r v := by
  have plain : ∀ a, RA D nu o w a x → ∀ r, aLen P T a = some r → ∃ v, (Builtin.len_ #[T] ty #[x]).run P w = .ok v w ∧ RA D nu o w r v := by
    intro a hx r h
    unfold aLen at h
    split at h
    · split at h
      · rename_i hu
        cases h
        cases hx with
        | slcNil => exact ⟨_, by simp [Builtin.len_, run_underlying hu, goInt], .v _⟩
        | slcOdd => exact ⟨_, by simp [Builtin.len_, run_underlying hu, goInt], .v _⟩
        | slc => exact ⟨_, by simp [Builtin.len_, run_underlying hu, goInt], .v _⟩
      · cases h
    · obtain rfl := hx.v_eq
      split at h
      · rename_i hu
        cases h
        exact ⟨_, by simp [Builtin.len_, run_underlying hu, goInt], .v _⟩
      · cases h
    · obtain rfl := hx.v_eq
      split at h
      · rename_i hu
        cases h
        exact ⟨_, by simp [Builtin.len_, run_underlying hu, goInt], .v _⟩
      · cases h
    · cases h
  unfold aLenO at h
  split at h
  · rename_i id len
    split at h
    · rename_i ob e ho hu
      cases h
      obtain ⟨hv, rfl⟩ := hp
      cases hx
      obtain ⟨xs, hown, _⟩ := hr.ownsVec ho hv
      rcases hown.2 with ⟨e1, e2⟩ | ⟨g, cap, cur, e1, _⟩
      · rw [e1]
        refine ⟨.int .i64 0, by simp [Builtin.len_, run_underlying hu, goInt], ?_⟩
        rw [e2]; exact .v _
      · rw [e1]
        exact ⟨_, by simp [Builtin.len_, run_underlying hu, goInt], .v _⟩
    · cases h
  · cases hl : aLen P T a with
    | none => rw [hl] at h; cases h
    | some r1 =>
      rw [hl] at h
      simp only [Option.map_some, Option.some.injEq, Prod.mk.injEq] at h
      obtain ⟨-, rfl⟩ := h
      exact plain a hx _ hl

end
end Go.Proofs.Yteihcfhdhkamfaa
