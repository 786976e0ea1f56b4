/- The abstract walk: new objects, stores, and the operations that only read. -/
import Derived.Test.YteihcfhdhkamfaaAbs
namespace Go.Proofs.Yteihcfhdhkamfaa
open Go.RowKit

/-! ### cells -/
def AV.cells? : AV → Option (List AV)
  | .undef => none
  | .tup _ => none
  | .agg cs => some cs
  | .v x => if x.oneCell' then some [.v x] else none
  | a => some [a]

theorem cells_one {x : Value} (h : x.oneCell' = true) : x.cells = #[x] := by cases x <;> first | rfl | cases h

/-- cell by cell -/
structure RCs (D : Nat → Prop) (nu : Nat → Nat → Value) (o : List (Option AObj)) (w : World) (cs : List AV) (xs : Array Value) : Prop extends RAs D nu o w cs xs where
  one : ∀ (i : Nat) x, xs[i]? = some x → x.oneCell' = true

theorem RA.one {D : Nat → Prop} {nu : Nat → Nat → Value} {o : List (Option AObj)} {w : World} {a : AV} {x : Value} (h : RA D nu o w a x) {cs : List AV} (hc : a.cells? = some cs) : RCs D nu o w cs x.cells := by
  have key : x.oneCell' = true → cs = [a] → RCs D nu o w cs x.cells := fun h1 h2 => by
    subst h2
    rw [cells_one h1]
    refine ⟨⟨rfl, fun i c y hi hy => ?_⟩, fun i y hy => ?_⟩
    · cases i with
      | zero => simp at hi hy; subst hi; subst hy; exact h
      | succ i => simp at hi
    · cases i with
      | zero => simp at hy; subst hy; exact h1
      | succ i => simp at hy
  cases h with
  | undef => cases hc
  | tup => cases hc
  | v => simp only [AV.cells?] at hc; split at hc <;> cases hc; exact key ‹_› rfl
  | agg cs' xs h1 h2 h3 => cases hc; exact ⟨⟨h1, h2⟩, h3⟩
  | slcNil => cases hc; exact key rfl rfl
  | slcOdd => cases hc; exact key rfl rfl
  | slc => cases hc; exact key rfl rfl
  | vp => cases hc; exact key rfl rfl
  | ptr => cases hc; exact key rfl rfl
  | vec id len h1 h2 => cases hc; exact key h2 rfl
  | fn => cases hc; exact key rfl rfl

theorem RCs.mono {D D' : Nat → Prop} {nu nu' : Nat → Nat → Value} {o o' : List (Option AObj)} {w w' : World} (h : Mono nu o w nu' o' w') (hD : ∀ b, b < w.heap.size → D b → D' b) {cs : List AV} {xs : Array Value} (hr : RCs D nu o w cs xs) : RCs D' nu' o' w' cs xs :=
  ⟨hr.toRAs.mono h hD, hr.one⟩

/-! ### a new object -/
def updN (nu : Nat → Nat → Value) (k : Nat) (v : Value) : Nat → Nat → Value := fun id len => if id = k then v else nu id len

theorem hdrOk_lt {o : List (Option AObj)} {id len : Nat} (h : hdrOk o id len) : id < o.length := by
  obtain ⟨ob, h1, _⟩ := h
  exact (List.getElem?_eq_some_iff.1 h1).1
theorem updN_old {nu : Nat → Nat → Value} {k id len : Nat} {v : Value} (h : id < k) : updN nu k v id len = nu id len := by
  have : id ≠ k := by omega
  simp [updN, this]
theorem updN_new (nu : Nat → Nat → Value) (k len : Nat) (v : Value) : updN nu k v k len = v := by simp [updN]

theorem push_mono {nu : Nat → Nat → Value} {o : List (Option AObj)} {w w' : World} {v : Value} {ob : AObj} (hb : Below w.heap.size w w') (hv : ∀ b, blkOf v = some b → w.heap.size ≤ b) :
    Mono nu o w (updN nu o.length v) (o ++ [some ob]) w' := by
  refine ⟨hb.os, hb.tape, hb.output, hb.size, fun id len h => ⟨?_, updN_old (hdrOk_lt h)⟩, fun b hlt ho => ⟨hb.block b hlt, ?_⟩⟩
  · obtain ⟨x, h1, h2⟩ := h
    exact ⟨x, by rw [List.getElem?_append_left (List.getElem?_eq_some_iff.1 h1).1]; exact h1, h2⟩
  · rintro ⟨id, ob', h1, h2⟩
    rcases Nat.lt_or_ge id o.length with hlt' | hge
    · rw [List.getElem?_append_left hlt'] at h1
      rw [updN_old hlt'] at h2
      exact ho ⟨id, ob', h1, h2⟩
    · obtain rfl : id = o.length := by
        have := (List.getElem?_eq_some_iff.1 h1).1
        simp at this; omega
      rw [updN_new] at h2
      have := hv b h2
      omega

theorem push_RO {D : Nat → Prop} {nu : Nat → Nat → Value} {o : List (Option AObj)} {w w' : World} {v : Value} {ob : AObj} (h : RO D nu o w) (hb : Below w.heap.size w w') (hv : ∀ b, blkOf v = some b → w.heap.size ≤ b)
    (hn : (ob.isV = true ∧ ob.rows = [] ∧ v = .slice none 0 0) ∨ ∃ g cur, ROb D (updN nu o.length v) (o ++ [some ob]) w' o.length ob g cur) : RO D (updN nu o.length v) (o ++ [some ob]) w' := by
  have hm := push_mono (nu := nu) (o := o) (ob := ob) hb hv
  refine ⟨?_, fun b hlt => h.up b (Nat.le_trans hb.size hlt), ?_⟩
  · intro id ob' ho
    rcases Nat.lt_or_ge id o.length with hlt | hge
    · rw [List.getElem?_append_left hlt] at ho
      rcases h.obj id ob' ho with ⟨e1, e2, e3⟩ | ⟨g, cur, hr⟩
      · exact .inl ⟨e1, e2, by rw [updN_old hlt]; exact e3⟩
      · refine .inr ⟨g, cur, (hb.block g (h.owned_lt ⟨id, ob', ho, hr.blkEq⟩)).trans hr.blk, hr.dom, fun e => ?_, fun e => ?_, hr.z, hr.row, fun i j row c x h1 h2 h3 => (hr.cell i j row c x h1 h2 h3).mono hm (fun _ _ h => h), hr.one⟩
        · rw [updN_old hlt]; exact hr.box e
        · rw [updN_old hlt]; exact hr.vec e
    · obtain rfl : id = o.length := by
        have := (List.getElem?_eq_some_iff.1 ho).1
        simp at this; omega
      rw [List.getElem?_concat_length] at ho
      cases ho
      rcases hn with ⟨e1, e2, e3⟩ | hn
      · exact .inl ⟨e1, e2, by rw [updN_new]; exact e3⟩
      · exact .inr hn
  · intro id id' ob1 ob2 b h1 h2 hne h3 h4
    have l1 := (List.getElem?_eq_some_iff.1 h1).1
    have l2 := (List.getElem?_eq_some_iff.1 h2).1
    simp only [List.length_append, List.length_cons, List.length_nil] at l1 l2
    rcases Nat.lt_or_ge id o.length with g1 | g1
    · rw [List.getElem?_append_left g1] at h1
      rw [updN_old g1] at h3
      rcases Nat.lt_or_ge id' o.length with g2 | g2
      · rw [List.getElem?_append_left g2] at h2
        rw [updN_old g2] at h4
        exact h.sep id id' ob1 ob2 b h1 h2 hne h3 h4
      · obtain rfl : id' = o.length := by omega
        rw [updN_new] at h4
        have := hv b h4
        have := h.owned_lt ⟨id, ob1, h1, h3⟩
        omega
    · obtain rfl : id = o.length := by omega
      rw [updN_new] at h3
      have := hv b h3
      rcases Nat.lt_or_ge id' o.length with g2 | g2
      · rw [List.getElem?_append_left g2] at h2
        rw [updN_old g2] at h4
        have := h.owned_lt ⟨id', ob2, h2, h4⟩
        omega
      · omega

/-- What an operation comes to. -/
def Good (D : Nat → Prop) (nu : Nat → Nat → Value) (o : List (Option AObj)) (w : World) (res : Result Value) (r : AV) (o' : List (Option AObj)) : Prop :=
  ∃ v w' nu', res = .ok v w' ∧ Mono nu o w nu' o' w' ∧ RO D nu' o' w' ∧ RA D nu' o' w' r v

theorem Good.pure {D : Nat → Prop} {nu : Nat → Nat → Value} {o : List (Option AObj)} {w : World} {r : AV} {v : Value} (h : RO D nu o w) (hr : RA D nu o w r v) {res : Result Value} (he : res = .ok v w) : Good D nu o w res r o :=
  ⟨v, w, nu, he, .refl nu o w, h, hr⟩

theorem good_box {D : Nat → Prop} {nu : Nat → Nat → Value} {o : List (Option AObj)} {w : World} (h : RO D nu o w) (T : TypeId) {cs : List AV} {xs : Array Value} (hc : RCs D nu o w cs xs) (hz : 0 < cs.length) :
    Good D nu o w (.ok (.pointer (some ⟨w.heap.size, 0, none⟩)) (w.alloc (.cells xs T))) (.ptr o.length 0 cs.length 0 0) (o ++ [some ⟨T, cs.length, false, [cs]⟩]) := by
  have hb : Below w.heap.size w (w.alloc (.cells xs T)) := (Below.refl _ _).alloc (Nat.le_refl _) _
  have hv : ∀ b, blkOf (Value.pointer (some ⟨w.heap.size, 0, none⟩)) = some b → w.heap.size ≤ b := fun b e => by cases e; exact Nat.le_refl _
  have hm := push_mono (nu := nu) (o := o) (ob := ⟨T, cs.length, false, [cs]⟩) hb hv
  refine ⟨_, _, updN nu o.length (.pointer (some ⟨w.heap.size, 0, none⟩)), rfl, hm, push_RO h hb hv (.inr ⟨w.heap.size, xs, ?_⟩), ?_⟩
  · have key : ∀ (i j : Nat) row c x, [cs][i]? = some row → row[j]? = some c → xs[i * cs.length + j]? = some x → cs[j]? = some c ∧ xs[j]? = some x := by
      intro i j row c x h1 h2 h3
      cases i with
      | zero => simp at h1 h3; subst h1; exact ⟨h2, h3⟩
      | succ i => simp at h1
    refine ⟨heap_alloc_new w _, h.up _ (Nat.le_refl _), fun _ => ⟨updN_new _ _ _ _, rfl, hc.len.symm⟩, fun e => (by cases e), hz, fun i row hi => ?_, fun i j row c x h1 h2 h3 => ?_, fun i j row c x h1 h2 h3 => ?_⟩
    · cases i with
      | zero => simp at hi; subst hi; rfl
      | succ i => simp at hi
    · obtain ⟨h4, h5⟩ := key i j row c x h1 h2 h3
      exact (hc.at' j c x h4 h5).mono hm (fun _ _ h => h)
    · obtain ⟨h4, h5⟩ := key i j row c x h1 h2 h3
      exact hc.one j x h5
  · have := RA.ptr (D := D) (nu := updN nu o.length (.pointer (some ⟨w.heap.size, 0, none⟩))) (o := o ++ [some ⟨T, cs.length, false, [cs]⟩]) (w := w.alloc (.cells xs T)) o.length 0 cs.length 0 0 w.heap.size
      ⟨_, List.getElem?_concat_length, fun x hx => Nat.zero_le _⟩ (by rw [updN_new]; rfl)
    simpa using this

end Go.Proofs.Yteihcfhdhkamfaa
