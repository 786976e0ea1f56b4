/- The abstract walk: places, parts of slices, numbers, texts. -/
import Derived.Test.YteihcfhdhkamfaaAbsE
namespace Go.Proofs.Yteihcfhdhkamfaa
open Go.RowKit

section
variable {D : Nat → Prop} {nu : Nat → Nat → Value} {o : List (Option AObj)} {w : World} {P : Program}

/-! ### an object is let go -/
theorem kill_mono (id : Nat) : Mono nu o w nu (o.set id none) w := by
  refine ⟨rfl, rfl, rfl, Nat.le_refl _, fun id' len hh => ⟨?_, rfl⟩, fun b _ hno => ⟨rfl, ?_⟩⟩
  · obtain ⟨x, k1, k2⟩ := hh
    by_cases he : id = id'
    · subst he
      exact ⟨none, List.getElem?_set_self (List.getElem?_eq_some_iff.1 k1).1, fun x hx => by cases hx⟩
    · exact ⟨x, by rw [List.getElem?_set_ne he]; exact k1, k2⟩
  · rintro ⟨id', ob'', k1, k2⟩
    by_cases he : id = id'
    · subst he
      rw [List.getElem?_set_self (by have := (List.getElem?_eq_some_iff.1 k1).1; simpa using this)] at k1; cases k1
    · rw [List.getElem?_set_ne he] at k1
      exact hno ⟨id', ob'', k1, k2⟩

theorem kill_get {id id' : Nat} {ob : AObj} (h : (o.set id none)[id']? = some (some ob)) : o[id']? = some (some ob) ∧ id ≠ id' := by
  by_cases he : id = id'
  · subst he
    rw [List.getElem?_set_self (by have := (List.getElem?_eq_some_iff.1 h).1; simpa using this)] at h; cases h
  · rw [List.getElem?_set_ne he] at h; exact ⟨h, he⟩

theorem kill_RO (h : RO D nu o w) (id : Nat) : RO D nu (o.set id none) w := by
  have hm := kill_mono (nu := nu) (o := o) (w := w) id
  refine ⟨fun id' ob' k1 => ?_, h.up, fun i1 i2 b1 b2 b k1 k2 => h.sep i1 i2 b1 b2 b (kill_get k1).1 (kill_get k2).1⟩
  rcases h.obj id' ob' (kill_get k1).1 with e | ⟨g, cur, hr⟩
  · exact .inl e
  · exact .inr ⟨g, cur, hr.blk, hr.dom, hr.box, hr.vec, hr.z, hr.row, fun i j row c x q1 q2 q3 => (hr.cell i j row c x q1 q2 q3).mono hm (fun _ _ h => h), hr.one⟩

theorem kill_fz (h : RO D nu o w) {id : Nat} {ob : AObj} (ho : o[id]? = some (some ob)) {g : Nat} {cur : Array Value} (hb : ROb D nu o w id ob g cur) : Fz D nu (o.set id none) w g := by
  refine ⟨(Array.getElem?_eq_some_iff.1 hb.blk).1, ?_, hb.dom⟩
  rintro ⟨id', ob', k1, k2⟩
  obtain ⟨k3, k4⟩ := kill_get k1
  exact h.sep id id' ob ob' g ho k3 k4 hb.blkEq k2

/-- an own row, let go, reads as a slice that stays -/
theorem vec_slc (h : RO D nu o w) {id : Nat} {ob : AObj} (ho : o[id]? = some (some ob)) (hv : ob.isV = true) : RA D nu (o.set id none) w (.slc ob.z ob.rows ob.rows.length) (nu id ob.rows.length) := by
  rcases h.obj id ob ho with ⟨e1, e2, e3⟩ | ⟨g, cur, hb⟩
  · rw [e2]; simp only [List.length_nil]; rw [e3]; exact .slcNil _
  · obtain ⟨cap, q1, q2, q3, q4⟩ := hb.vec hv
    rw [q1]
    have hget : ∀ (i j : Nat) row c, ob.rows[i]? = some row → row[j]? = some c → cur[i * ob.z + j]? = some (cur.getD (i * ob.z + j) Go.undef) := fun i j row c k1 k2 => by
      have := hb.curLt k1 (List.getElem?_eq_some_iff.1 k2).1
      simp [Array.getD, this]
    refine .slc _ _ _ g 0 cap (fun i j => cur.getD (i * ob.z + j) Go.undef) (Nat.le_refl _) q2 q3 (fun _ => kill_fz h ho hb) hb.row (fun i j row c k1 k2 => ?_) (fun i j row c k1 k2 => ?_) (fun i j row c k1 k2 => ?_)
    · rw [← hget i j row c k1 k2]
      have := hb.blk
      simp [World.cell?, this]
    · exact (hb.cell i j row c _ k1 k2 (hget i j row c k1 k2)).mono (kill_mono id) (fun _ _ h => h)
    · exact hb.one i j row c _ k1 k2 (hget i j row c k1 k2)

/-! ### parts of slices -/
def aBd : Option AV → Nat → Option (Prop × Nat)
  | none, d => some (True, d)
  | some (.v (.int _ i)), _ => some (0 ≤ i, i.toNat)
  | some _, _ => none

theorem bd_some {a : Option AV} {d n : Nat} {p : Prop} (h : aBd a d = some (p, n)) (hp : p) {x : Option Value} (hx : ∀ c, a = some c → ∃ y, x = some y ∧ RA D nu o w c y) (hn : a = none → x = none) :
    (x = none ∧ n = d) ∨ ∃ k, x = some (.int k (n : Int)) := by
  cases a with
  | none => simp only [aBd, Option.some.injEq, Prod.mk.injEq] at h; exact .inl ⟨hn rfl, h.2.symm⟩
  | some c =>
    cases c with
    | v y =>
      cases y with
      | int k i =>
        simp only [aBd, Option.some.injEq, Prod.mk.injEq] at h
        obtain ⟨rfl, rfl⟩ := h
        obtain ⟨y, rfl, hy⟩ := hx _ rfl
        cases hy
        exact .inr ⟨k, by rw [Int.toNat_of_nonneg hp]⟩
      | _ => cases h
    | _ => cases h

theorem run_sliceBounds {b : Bool} {len cap l h m : Nat} {lo hi mx : Option Value} (hl : (lo = none ∧ l = 0) ∨ ∃ k, lo = some (.int k (l : Int))) (hh : (hi = none ∧ h = len ∧ mx = none) ∨ ∃ k, hi = some (.int k (h : Int)))
    (hm : (mx = none ∧ m = cap) ∨ ∃ k, mx = some (.int k (m : Int))) (h1 : l ≤ h) (h2 : h ≤ m) (h3 : m ≤ cap) : (Instr.sliceBounds b len cap lo hi mx).run P w = .ok (l, h, m) w := by
  rcases hm with ⟨rfl, rfl⟩ | ⟨km, rfl⟩
  · rcases hh with ⟨rfl, rfl, _⟩ | ⟨kh, rfl⟩
    · rcases hl with ⟨rfl, rfl⟩ | ⟨kl, rfl⟩
      · simp [Instr.sliceBounds]
      · simp [Instr.sliceBounds, Instr.sliceBound, asIntOf, h1]
    · rcases hl with ⟨rfl, rfl⟩ | ⟨kl, rfl⟩
      · simp [Instr.sliceBounds, Instr.sliceBound, asIntOf, h2]
      · simp [Instr.sliceBounds, Instr.sliceBound, asIntOf, h1, h2]
  · rcases hh with ⟨_, _, e⟩ | ⟨kh, rfl⟩
    · cases e
    · rcases hl with ⟨rfl, rfl⟩ | ⟨kl, rfl⟩
      · simp [Instr.sliceBounds, Instr.sliceBound, asIntOf, h2, h3]
      · simp [Instr.sliceBounds, Instr.sliceBound, asIntOf, h1, h2, h3]

/-- the rows of a part: from l on, h - l of them, no more known than up to m -/
theorem part_slc {z len l h m : Nat} {rows : List (List AV)} {x : Value} (hr : RA D nu o w (.slc z rows len) x) (h1 : l ≤ h) (h2 : h ≤ m) (h3 : m ≤ rows.length) :
    ∃ a cap, x = .slice a len cap ∧ rows.length ≤ cap ∧ (∀ M, m ≤ M → M ≤ cap → RA D nu o w (.slc z ((rows.take m).drop l) (h - l)) (.slice (if M = l then a else a.map (·.add (l * z))) (h - l) (M - l))) := by
  cases hr with
  | slcNil =>
    simp at h3
    obtain rfl : l = 0 := by omega
    obtain rfl : h = 0 := by omega
    subst h3
    refine ⟨none, 0, rfl, Nat.le_refl _, fun M hM hM' => ?_⟩
    obtain rfl : M = 0 := by omega
    exact .slcNil z
  | slcOdd _ a =>
    simp at h3
    obtain rfl : l = 0 := by omega
    obtain rfl : h = 0 := by omega
    subst h3
    refine ⟨some a, 0, rfl, Nat.le_refl _, fun M hM hM' => ?_⟩
    obtain rfl : M = 0 := by omega
    exact .slcOdd z a
  | slc _ _ _ b off cap f k1 k2 k3 k4 k5 k6 k7 k8 =>
    refine ⟨some ⟨b, off, none⟩, cap, rfl, k2, fun M hM hM' => ?_⟩
    have hget : ∀ (i : Nat) row, ((rows.take m).drop l)[i]? = some row → rows[l + i]? = some row := fun i row hi => by
      rw [List.getElem?_drop, List.getElem?_take] at hi
      split at hi
      · exact hi
      · cases hi
    by_cases hMl : M = l
    · rw [if_pos hMl]
      have e : (rows.take m).drop l = [] := by simp; omega
      rw [e]
      refine .slc z [] (h - l) b off (M - l) f (by simp; omega) (by simp) (by omega) (fun hh => absurd rfl hh) (fun i row hi => by simp at hi) (fun i j row c hi => by simp at hi) (fun i j row c hi => by simp at hi) (fun i j row c hi => by simp at hi)
    · rw [if_neg hMl]
      simp only [Option.map_some, Addr.add_lit]
      refine .slc z _ (h - l) b (off + l * z) (M - l) (fun i j => f (l + i) j) (by simp; omega) (by simp; omega) (by omega) (fun hh => k4 (fun e => hh (by rw [e]; simp))) (fun i row hi => k5 _ row (hget i row hi)) (fun i j row c hi hj => ?_) (fun i j row c hi hj => k7 _ j row c (hget i row hi) hj) (fun i j row c hi hj => k8 _ j row c (hget i row hi) hj)
      have := k6 (l + i) j row c (hget i row hi) hj
      rw [← this]
      congr 2
      rw [Nat.add_mul]; omega

def tSl (P : Program) (T : TypeId) : Option Nat := match P.underlying T with
  | some (.slice e) => tSize P e
  | _ => none
theorem tSl_spec {T : TypeId} {z : Nat} (h : tSl P T = some z) : ∃ e, P.underlying T = some (.slice e) ∧ tSize P e = some z := by
  unfold tSl at h
  split at h
  · exact ⟨_, ‹_›, h⟩
  · cases h

def aSlice (P : Program) (T : TypeId) (o : List (Option AObj)) (a : AV) (lo hi mx : Option AV) : Option (Prop × AV × List (Option AObj)) :=
  match a with
  | .v (.string s) => match P.underlying T, aBd lo 0, aBd hi s.size, mx with
    | some .string, some (p, l), some (q, h), none => some (p ∧ q ∧ l ≤ h ∧ h ≤ s.size, .v (.string (s.extract l h)), o)
    | _, _, _, _ => none
  | .slc z rows len => match tSl P T, aBd lo 0, aBd hi len, mx with
    | some z', some (p, l), some (q, h), none => some (p ∧ q ∧ l ≤ h ∧ h ≤ rows.length ∧ z' = z, .slc z (rows.drop l) (h - l), o)
    | some z', some (p, l), some (q, h), some m => match aBd (some m) 0, hi with
      | some (r, m), some _ => some (p ∧ q ∧ r ∧ l ≤ h ∧ h ≤ m ∧ m ≤ rows.length ∧ z' = z, .slc z ((rows.take m).drop l) (h - l), o)
      | _, _ => none
    | _, _, _, _ => none
  | .vec id len => match o[id]?, tSl P T, aBd lo 0, aBd hi len, mx with
    | some (some ob), some z', some (p, l), some (q, h), none => some ((ob.isV = true ∧ ob.rows.length = len) ∧ p ∧ q ∧ l ≤ h ∧ h ≤ ob.rows.length ∧ z' = ob.z, .slc ob.z (ob.rows.drop l) (h - l), o.set id none)
    | _, _, _, _, _ => none
  | _ => none

theorem slice_pure {T : TypeId} {a : AV} {x : Value} (hr : RA D nu o w a x) {lo hi mx : Option AV} {vl vh vm : Option Value}
    (hlo : (∀ c, lo = some c → ∃ y, vl = some y ∧ RA D nu o w c y) ∧ (lo = none → vl = none)) (hhi : (∀ c, hi = some c → ∃ y, vh = some y ∧ RA D nu o w c y) ∧ (hi = none → vh = none)) (hmx : (∀ c, mx = some c → ∃ y, vm = some y ∧ RA D nu o w c y) ∧ (mx = none → vm = none))
    {p : Prop} {r : AV} {o' : List (Option AObj)} (hl : aSlice P T o a lo hi mx = some (p, r, o')) (hp : p) (hv : ∀ id len, a ≠ .vec id len) : ∃ v, (Instr.sliceAt T x vl vh vm).run P w = .ok v w ∧ RA D nu o w r v ∧ o' = o := by
  unfold aSlice at hl
  split at hl
  · -- texts
    rename_i s
    split at hl
    · rename_i p' l q h' hu e1 e2
      simp only [Option.some.injEq, Prod.mk.injEq] at hl
      obtain ⟨rfl, rfl, rfl⟩ := hl
      obtain ⟨h1, h2, h3, h4⟩ := hp
      cases hr
      have b1 := bd_some e1 h1 hlo.1 hlo.2
      have b2 := bd_some e2 h2 hhi.1 hhi.2
      have hvm := hmx.2 rfl
      subst hvm
      have hb := run_sliceBounds (P := P) (w := w) (b := false) (len := s.size) (cap := s.size) (m := s.size) (lo := vl) (hi := vh) (mx := none) b1 (b2.imp (fun e => ⟨e.1, e.2, rfl⟩) (fun e => e)) (.inl ⟨rfl, rfl⟩) h3 h4 (Nat.le_refl _)
      refine ⟨_, ?_, .v _, rfl⟩
      simp [Instr.sliceAt, Instr.slice, run_underlying hu, hb]
    · cases hl
  · rename_i z rows len
    split at hl
    · rename_i z' p' l q h' hu e1 e2
      simp only [Option.some.injEq, Prod.mk.injEq] at hl
      obtain ⟨rfl, rfl, rfl⟩ := hl
      obtain ⟨h1, h2, h3, h4, rfl⟩ := hp
      obtain ⟨e, hu, hsz⟩ := tSl_spec hu
      have b1 := bd_some e1 h1 hlo.1 hlo.2
      have b2 := bd_some e2 h2 hhi.1 hhi.2
      have hvm := hmx.2 rfl
      subst hvm
      obtain ⟨ad, cap, rfl, hcap, hfin⟩ := part_slc hr h3 h4 (Nat.le_refl _)
      have hb := run_sliceBounds (P := P) (w := w) (b := true) (len := len) (cap := cap) (m := cap) (lo := vl) (hi := vh) (mx := none) b1 (b2.imp (fun e => ⟨e.1, e.2, rfl⟩) (fun e => e)) (.inl ⟨rfl, rfl⟩) h3 (by omega) (Nat.le_refl _)
      have := hfin cap hcap (Nat.le_refl _)
      rw [List.take_length] at this
      refine ⟨_, ?_, this, rfl⟩
      simp [Instr.sliceAt, Instr.slice, run_underlying hu, hb, run_sizeOf hsz]
    · rename_i z' p' l q h' mm hu e1 e2
      split at hl
      · rename_i r' m' _ e3
        simp only [Option.some.injEq, Prod.mk.injEq] at hl
        obtain ⟨rfl, rfl, rfl⟩ := hl
        obtain ⟨h1, h2, h5, h3, h4, h6, rfl⟩ := hp
        obtain ⟨e, hu, hsz⟩ := tSl_spec hu
        have b1 := bd_some e1 h1 hlo.1 hlo.2
        have b2 := bd_some e2 h2 hhi.1 hhi.2
        have b3 := bd_some e3 h5 hmx.1 hmx.2
        have hvh : ∃ y, vh = some y := by obtain ⟨y, hy, _⟩ := hhi.1 _ rfl; exact ⟨y, hy⟩
        have hvm : ∃ y, vm = some y := by obtain ⟨y, hy, _⟩ := hmx.1 _ rfl; exact ⟨y, hy⟩
        obtain ⟨ad, cap, rfl, hcap, hfin⟩ := part_slc hr h3 h4 h6
        have hb := run_sliceBounds (P := P) (w := w) (b := true) (len := len) (cap := cap) (m := m') (lo := vl) (hi := vh) (mx := vm) b1 (.inr (b2.resolve_left (fun e => by obtain ⟨y, hy⟩ := hvh; rw [hy] at e; cases e.1)))
          (.inr (b3.resolve_left (fun e => by obtain ⟨y, hy⟩ := hvm; rw [hy] at e; cases e.1))) h3 h4 (by omega)
        refine ⟨_, ?_, hfin m' (Nat.le_refl _) (by omega), rfl⟩
        simp [Instr.sliceAt, Instr.slice, run_underlying hu, hb, run_sizeOf hsz]
      · cases hl
    · cases hl
  · exact absurd rfl (hv _ _)
  · cases hl

theorem good_slice {T : TypeId} (h : RO D nu o w) {a : AV} {x : Value} (hr : RA D nu o w a x) {lo hi mx : Option AV} {vl vh vm : Option Value}
    (hlo : (∀ c, lo = some c → ∃ y, vl = some y ∧ RA D nu o w c y) ∧ (lo = none → vl = none)) (hhi : (∀ c, hi = some c → ∃ y, vh = some y ∧ RA D nu o w c y) ∧ (hi = none → vh = none)) (hmx : (∀ c, mx = some c → ∃ y, vm = some y ∧ RA D nu o w c y) ∧ (mx = none → vm = none))
    {p : Prop} {r : AV} {o' : List (Option AObj)} (hl : aSlice P T o a lo hi mx = some (p, r, o')) (hp : p) : Good D nu o w ((Instr.sliceAt T x vl vh vm).run P w) r o' := by
  by_cases hvec : ∀ id len, a ≠ .vec id len
  · obtain ⟨v, h1, h2, rfl⟩ := slice_pure hr hlo hhi hmx hl hp hvec
    exact Good.pure h h2 h1
  obtain ⟨id, len, rfl⟩ : ∃ id len, a = .vec id len := by
    apply Classical.byContradiction
    intro hn
    exact hvec (fun id len e => hn ⟨id, len, e⟩)
  simp only [aSlice] at hl
  split at hl
  · rename_i ob z' p' l q h' ho hu e1 e2
    simp only [Option.some.injEq, Prod.mk.injEq] at hl
    obtain ⟨rfl, rfl, rfl⟩ := hl
    obtain ⟨⟨hv, rfl⟩, h1, h2, h3, h4, rfl⟩ := hp
    obtain ⟨e, hu, hsz⟩ := tSl_spec hu
    have b1 := bd_some e1 h1 hlo.1 hlo.2
    have b2 := bd_some e2 h2 hhi.1 hhi.2
    have hvm := hmx.2 rfl
    subst hvm
    cases hr
    obtain ⟨ad, cap, hx, hcap, hfin⟩ := part_slc (vec_slc h ho hv) h3 h4 (Nat.le_refl _)
    rw [hx]
    have hb := run_sliceBounds (P := P) (w := w) (b := true) (len := ob.rows.length) (cap := cap) (m := cap) (lo := vl) (hi := vh) (mx := none) b1 (b2.imp (fun e => ⟨e.1, e.2, rfl⟩) (fun e => e)) (.inl ⟨rfl, rfl⟩) h3 (by omega) (Nat.le_refl _)
    have := hfin cap hcap (Nat.le_refl _)
    rw [List.take_length] at this
    refine ⟨_, w, nu, ?_, kill_mono id, kill_RO h id, this⟩
    simp [Instr.sliceAt, Instr.slice, run_underlying hu, hb, run_sizeOf hsz]
  · cases hl

/-! ### places -/
def tFld (P : Program) (T : TypeId) (f : Nat) : Option Nat := match P.underlying T with
  | some (.struct fs) => match fs[f]? with
    | some fd => match tSize P fd.type with
      | some n => if n = 0 then none else some fd.offset
      | none => none
    | none => none
  | _ => none

def aPlus : AV → Nat → Option AV
  | .vp cs, k => some (.vp (cs.drop k))
  | .ptr id len z row off, k => some (.ptr id len z row (off + k))
  | _, _ => none

theorem plus_good {a : AV} {x : Value} (hr : RA D nu o w a x) {k : Nat} {r : AV} (h : aPlus a k = some r) : ∃ b off, x = .pointer (some ⟨b, off, none⟩) ∧ RA D nu o w r (.pointer (some ⟨b, off + k, none⟩)) := by
  cases a with
  | vp cs =>
    simp only [aPlus, Option.some.injEq] at h; subst h
    cases hr with
    | vp _ b off f h1 h2 h3 h4 =>
      refine ⟨b, off, rfl, .vp _ b (off + k) (fun j => f (k + j)) h1 (fun j c hc => ?_) (fun j c hc => ?_) (fun j c hc => ?_)⟩
      · rw [List.getElem?_drop] at hc
        rw [show off + k + j = off + (k + j) by omega]; exact h2 _ c hc
      · rw [List.getElem?_drop] at hc; exact h3 _ c hc
      · rw [List.getElem?_drop] at hc; exact h4 _ c hc
  | ptr id len z row off =>
    simp only [aPlus, Option.some.injEq] at h; subst h
    cases hr with
    | ptr _ _ _ _ _ b h1 h2 =>
      refine ⟨b, row * z + off, rfl, ?_⟩
      rw [show row * z + off + k = row * z + (off + k) by omega]
      exact .ptr _ _ _ _ _ _ h1 h2
  | _ => cases h

def aFieldAddr (P : Program) (T : TypeId) (f : Nat) (a : AV) : Option AV := match tFld P T f with
  | some k => aPlus a k
  | none => none

theorem good_fieldAddr {T : TypeId} {f : Nat} {a : AV} {x : Value} (hr : RA D nu o w a x) {r : AV} (h : aFieldAddr P T f a = some r) : ∃ v, (Instr.fieldAt T x f).run P w = .ok v w ∧ RA D nu o w r v := by
  unfold aFieldAddr at h
  split at h
  · rename_i k hk
    obtain ⟨b, off, rfl, hr'⟩ := plus_good hr h
    unfold tFld at hk
    split at hk
    · rename_i fs hu
      split at hk
      · rename_i fd hfd
        split at hk
        · rename_i n hn
          split at hk
          · cases hk
          · rename_i hne
            simp only [Option.some.injEq] at hk; subst hk
            refine ⟨_, ?_, hr'⟩
            simp [Instr.fieldAt, run_underlying hu, hfd, Instr.sureAddr, fieldPlace, run_sizeOf hn, hne, Addr.add_lit]
        · cases hk
      · cases hk
    · cases hk
  · cases h

/-- a struct's part -/
def tFldP (P : Program) (T : TypeId) (f : Nat) : Option (Nat × Bool × Nat) := match P.underlying T with
  | some (.struct fs) => match fs[f]? with
    | some fd => match tAgg P fd.type, tSize P fd.type with
      | some b, some n => some (fd.offset, b, n)
      | _, _ => none
    | none => none
  | _ => none
def aField (P : Program) (T : TypeId) (f : Nat) : AV → Option (Prop × AV)
  | .agg cs => match tFldP P T f with
    | some (off, true, n) => some (off + n ≤ cs.length, .agg ((cs.drop off).take n))
    | some (off, false, _) => match cs[off]? with
      | some c => some (True, c)
      | none => none
    | none => none
  | _ => none
theorem good_field {T : TypeId} {f : Nat} {a : AV} {x : Value} (hr : RA D nu o w a x) {p : Prop} {r : AV} (h : aField P T f a = some (p, r)) (hp : p) : ∃ v, (Instr.field T x f).run P w = .ok v w ∧ RA D nu o w r v := by
  cases a with
  | agg cs =>
    cases hr with
    | agg _ xs k1 k2 k3 =>
    simp only [aField] at h
    have key : ∀ off b n, tFldP P T f = some (off, b, n) → ∃ fs fd, P.underlying T = some (.struct fs) ∧ fs[f]? = some fd ∧ tAgg P fd.type = some b ∧ tSize P fd.type = some n ∧ fd.offset = off := by
      intro off b n hh
      unfold tFldP at hh
      split at hh
      · rename_i fs hu
        split at hh
        · rename_i fd hfd
          split at hh
          · rename_i b' n' e1 e2
            cases hh
            exact ⟨fs, fd, hu, hfd, e1, e2, rfl⟩
          · cases hh
        · cases hh
      · cases hh
    split at h
    · rename_i off n ht
      obtain ⟨fs, fd, hu, hfd, e1, e2, rfl⟩ := key _ _ _ ht
      simp only [Option.some.injEq, Prod.mk.injEq] at h
      obtain ⟨rfl, rfl⟩ := h
      refine ⟨.agg (xs.extract fd.offset (fd.offset + n)), ?_, .agg _ _ (by simp; omega) (fun i c y q1 q2 => ?_) (fun i y q2 => ?_)⟩
      · simp [Instr.field, run_underlying hu, hfd, asAgg, part, run_isAgg e1, run_sizeOf e2]
      · rw [List.getElem?_take] at q1
        split at q1
        · rw [List.getElem?_drop] at q1
          rw [Array.getElem?_extract] at q2
          split at q2
          · exact k2 _ c y q1 q2
          · cases q2
        · cases q1
      · rw [Array.getElem?_extract] at q2
        split at q2
        · exact k3 _ y q2
        · cases q2
    · rename_i off n ht
      obtain ⟨fs, fd, hu, hfd, e1, e2, rfl⟩ := key _ _ _ ht
      split at h
      · rename_i c hc
        simp only [Option.some.injEq, Prod.mk.injEq] at h
        obtain ⟨rfl, rfl⟩ := h
        have hlt : fd.offset < xs.size := by rw [← k1]; exact (List.getElem?_eq_some_iff.1 hc).1
        have hx : xs[fd.offset]? = some xs[fd.offset] := Array.getElem?_eq_getElem hlt
        refine ⟨xs[fd.offset], ?_, k2 _ c _ hc hx⟩
        simp [Instr.field, run_underlying hu, hfd, asAgg, part, run_isAgg e1, hx]
      · cases h
    · cases h
  | _ => cases h

def aIndexAddr (P : Program) (T : TypeId) (o : List (Option AObj)) (a i : AV) : Option (Prop × AV) := match P.underlying T, i with
  | some (.slice e), .v (.int _ i) => match tSize P e, a with
    | some z, .slc z' rows len => some (z' = z ∧ 0 ≤ i ∧ i < len, .vp (rows.getD i.toNat []))
    | some z, .vec id len => match o[id]? with
      | some (some ob) => some (ob.isV = true ∧ ob.z = z ∧ ob.rows.length = len ∧ 0 ≤ i ∧ i < len, .ptr id len z i.toNat 0)
      | _ => none
    | _, _ => none
  | some (.array n e), .v (.int _ i) => match tSize P e with
    | some z => match aPlus a (i.toNat * z) with
      | some r => some (0 ≤ i ∧ i < n, r)
      | none => none
    | none => none
  | _, _ => none

theorem good_indexAddr {T : TypeId} (h : RO D nu o w) {a i : AV} {x y : Value} (hr : RA D nu o w a x) (hi : RA D nu o w i y) {p : Prop} {r : AV} (hl : aIndexAddr P T o a i = some (p, r)) (hp : p) : ∃ v, (Instr.indexAt T x y).run P w = .ok v w ∧ RA D nu o w r v := by
  unfold aIndexAddr at hl
  split at hl
  · rename_i e k i' hu
    cases hi
    split at hl
    · rename_i z z' rows len hz
      simp only [Option.some.injEq, Prod.mk.injEq] at hl
      obtain ⟨rfl, rfl⟩ := hl
      obtain ⟨rfl, h0, h1⟩ := hp
      cases hr with
      | slcNil => omega
      | slcOdd => omega
      | slc _ _ _ b off cap f k1 k2 k3 k4 k5 k6 k7 k8 =>
        have hlt : i'.toNat < rows.length := by omega
        have hrow : rows[i'.toNat]? = some rows[i'.toNat] := List.getElem?_eq_getElem hlt
        rw [getD_some hrow]
        refine ⟨.pointer (some ⟨b, off + i'.toNat * z', none⟩), ?_, .vp _ b _ (fun j => f i'.toNat j) (k4 (fun e => by subst e; simp at hlt)) (fun j c hc => k6 _ j _ c hrow hc) (fun j c hc => k7 _ j _ c hrow hc) (fun j c hc => k8 _ j _ c hrow hc)⟩
        simp [Instr.indexAt, run_underlying hu, asIntOf, h0, h1, run_sizeOf hz, Addr.add_lit]
    · rename_i z id len hz
      split at hl
      · rename_i ob ho
        simp only [Option.some.injEq, Prod.mk.injEq] at hl
        obtain ⟨rfl, rfl⟩ := hl
        obtain ⟨hv, rfl, rfl, h0, h1⟩ := hp
        cases hr with
        | vec _ _ q1 q2 =>
        rcases h.obj id ob ho with ⟨e1, e2, e3⟩ | ⟨g, cur, hb⟩
        · rw [e2] at h1; simp at h1; omega
        · obtain ⟨cap, q3, _⟩ := hb.vec hv
          refine ⟨.pointer (some ⟨g, i'.toNat * ob.z + 0, none⟩), ?_, .ptr id _ _ _ _ g q1 (by rw [q3]; rfl)⟩
          rw [q3]
          simp [Instr.indexAt, run_underlying hu, asIntOf, h0, h1, run_sizeOf hz, Addr.add_lit]
      · cases hl
    · cases hl
  · rename_i n e k i' hu
    cases hi
    split at hl
    · rename_i z hz
      split at hl
      · rename_i r' hpl
        simp only [Option.some.injEq, Prod.mk.injEq] at hl
        obtain ⟨rfl, rfl⟩ := hl
        obtain ⟨b, off, rfl, hr'⟩ := plus_good hr hpl
        refine ⟨_, ?_, hr'⟩
        simp [Instr.indexAt, run_underlying hu, Instr.sureAddr, asIntOf, hp.1, hp.2, run_sizeOf hz, Addr.add_lit]
      · cases hl
    · cases hl
  · cases hl

end
end Go.Proofs.Yteihcfhdhkamfaa
