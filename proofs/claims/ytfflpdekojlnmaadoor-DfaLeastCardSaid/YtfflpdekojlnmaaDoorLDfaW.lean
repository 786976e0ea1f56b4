/- A short word tells two states apart; the states' numbers; two least automata of one language are the same. -/
import Derived.Test.YtfflpdekojlnmaaDoorLLaw07
import Derived.Test.YtfflpdekojlnmaaDoorLLaw09
import Derived.Test.YtfflpdekojlnmaaDoorLJoin
set_option linter.unusedSimpArgs false
set_option linter.unusedVariables false
namespace Go.Proofs.YtfflpdekojlnmaaDoor
open Go.RowKit

/-! ### how long a word must be -/
theorem filt_lt {α : Type} {p q : α → Bool} : ∀ (l : List α), (∀ a ∈ l, p a = true → q a = true) → (∃ a ∈ l, q a = true ∧ p a = false) → (l.filter p).length < (l.filter q).length
 | [], _, h => by obtain ⟨a, h, _⟩ := h; cases h
 | a :: l, h1, h2 => by
  have hle : (l.filter p).length ≤ (l.filter q).length := by
   have : ∀ l : List α, (∀ a ∈ l, p a = true → q a = true) → (l.filter p).length ≤ (l.filter q).length := fun l => by
    induction l with
    | nil => intro _; exact Nat.le_refl _
    | cons b l ih =>
     intro h
     have := ih fun a ha => h a (List.mem_cons_of_mem _ ha)
     have hb := h b List.mem_cons_self
     rw [List.filter_cons, List.filter_cons]
     cases hp : p b
     ·cases q b <;> simp <;> omega
     ·rw [hb hp]; simpa using this
   exact this l fun a ha => h1 a (List.mem_cons_of_mem _ ha)
  have ha := h1 a List.mem_cons_self
  by_cases hh : ∃ b ∈ l, q b = true ∧ p b = false
  ·have := filt_lt l (fun b hb => h1 b (List.mem_cons_of_mem _ hb)) hh
   rw [List.filter_cons, List.filter_cons]
   cases hp : p a
   ·cases q a <;> simp <;> omega
   ·rw [ha hp]; simpa using this
  ·obtain ⟨b, hb, hq, hp⟩ := h2
   rcases List.mem_cons.1 hb with rfl | hb
   ·rw [List.filter_cons, List.filter_cons, hq, hp]
    simp; omega
   ·exact absurd ⟨b, hb, hq, hp⟩ hh
section
variable {L : Type} (T : Nat → List L → Bool) (δ : Nat → L → Nat) (N : Nat)
def Alk (r i k : Nat) : Prop := ∀ w : List L, w.length ≤ r → T i w = T k w
theorem Alk.up {r i k : Nat} (h : Alk T (r + 1) i k) : Alk T r i k := fun w hw => h w (by omega)
theorem Alk.symm {r i k : Nat} (h : Alk T r i k) : Alk T r k i := fun w hw => (h w hw).symm
theorem Alk.trans {r i k j : Nat} (h : Alk T r i k) (h2 : Alk T r k j) : Alk T r i j := fun w hw => (h w hw).trans (h2 w hw)
noncomputable def firsts (r : Nat) : List Nat := by
 classical exact (List.range N).filter (fun j => decide (∀ k, k < j → ¬ Alk T r k j))
theorem firsts_lt {r i k : Nat} (hi : i < N) (hk : k < N) (h : Alk T r i k) (hn : ¬ Alk T (r + 1) i k) : (firsts T N r).length < (firsts T N (r + 1)).length := by
 classical
 unfold firsts
 refine filt_lt _ (fun j _ hj => ?_) ?_
 ·simp only [decide_eq_true_eq] at hj ⊢
  exact fun k hk h => hj k hk h.up
 ·-- the least of the kind
  obtain ⟨m, hm, hmin⟩ : ∃ m, Alk T r m i ∧ ∀ k, k < m → ¬ Alk T r k i := by
   have : ∀ n, ∀ a, a ≤ n → Alk T r a i → ∃ m, Alk T r m i ∧ ∀ k, k < m → ¬ Alk T r k i := fun n => by
    induction n with
    | zero => intro a ha h; obtain rfl : a = 0 := by omega
              exact ⟨0, h, fun k hk => absurd hk (Nat.not_lt_zero _)⟩
    | succ n ih =>
     intro a ha h
     by_cases hh : ∃ b, b < a ∧ Alk T r b i
     ·obtain ⟨b, hb, h2⟩ := hh
      exact ih b (by omega) h2
     ·exact ⟨a, h, fun k hk h3 => hh ⟨k, hk, h3⟩⟩
   exact this i i (Nat.le_refl _) fun w _ => rfl
  have hmN : m ≤ i := by
   rcases Nat.lt_or_ge i m with q | q
   ·exact absurd (fun w _ => rfl) (hmin i q)
   ·exact q
  obtain ⟨a, haN, ha, han⟩ : ∃ a, a < N ∧ Alk T r m a ∧ ¬ Alk T (r + 1) m a := by
   by_cases h1 : Alk T (r + 1) m i
   ·exact ⟨k, hk, hm.trans _ h, fun h2 => hn ((h1.symm _).trans _ h2)⟩
   ·exact ⟨i, hi, hm, h1⟩
  obtain ⟨j, hj, hjn, hjm⟩ : ∃ j, (j ≤ a ∧ Alk T r m j) ∧ ¬ Alk T (r + 1) m j ∧ ∀ k, k < j → Alk T r m k → Alk T (r + 1) m k := by
   have : ∀ n, ∀ b, b ≤ n → b ≤ a → Alk T r m b → ¬ Alk T (r + 1) m b → ∃ j, (j ≤ a ∧ Alk T r m j) ∧ ¬ Alk T (r + 1) m j ∧ ∀ k, k < j → Alk T r m k → Alk T (r + 1) m k := fun n => by
    induction n with
    | zero => intro b hb hba h1 h2; obtain rfl : b = 0 := by omega
              exact ⟨0, ⟨hba, h1⟩, h2, fun k hk => absurd hk (Nat.not_lt_zero _)⟩
    | succ n ih =>
     intro b hb hba h1 h2
     by_cases hh : ∃ c, c < b ∧ Alk T r m c ∧ ¬ Alk T (r + 1) m c
     ·obtain ⟨c, hc, h3, h4⟩ := hh
      exact ih c (by omega) (by omega) h3 h4
     ·exact ⟨b, ⟨hba, h1⟩, h2, fun k hk h3 => Classical.byContradiction fun h4 => hh ⟨k, hk, h3, h4⟩⟩
   exact this a a (Nat.le_refl _) (Nat.le_refl _) ha han
  refine ⟨j, List.mem_range.2 (by omega), ?_, ?_⟩
  ·simp only [decide_eq_true_eq]
   intro k hk hkj
   exact hjn ((hjm k hk (hj.2.trans _ ((hkj.up).symm _))).trans _ hkj)
  ·simp only [decide_eq_false_iff_not, Classical.not_forall, Classical.not_not]
   have hmj : m ≠ j := by rintro rfl; exact hjn fun w _ => rfl
   have : m < j := by
    rcases Nat.lt_or_ge m j with q | q
    ·exact q
    ·exact absurd ((hj.2.symm _).trans _ hm) (hmin j (by omega))
   exact ⟨m, this, hj.2⟩
theorem alk_stay (hT : ∀ s l w, T s (l :: w) = T (δ s l) w) (hδ : ∀ s l, s < N → δ s l < N) {r : Nat} (hs : ∀ i k, i < N → k < N → Alk T r i k → Alk T (r + 1) i k) : ∀ (m i k : Nat), i < N → k < N → Alk T r i k → Alk T (r + m) i k
 | 0, i, k, hi, hk, h => h
 | m + 1, i, k, hi, hk, h => fun w hw => by
  cases w with
  | nil => exact h [] (Nat.zero_le _)
  | cons l w =>
   rw [hT, hT]
   refine alk_stay hT hδ hs m _ _ (hδ i l hi) (hδ k l hk) (fun v hv => ?_) w (by simp only [List.length_cons] at hw; omega)
   rw [← hT, ← hT]
   exact hs i k hi hk h _ (by simpa using hv)
theorem short_two (hT : ∀ s l w, T s (l :: w) = T (δ s l) w) (hδ : ∀ s l, s < N → δ s l < N) {i k : Nat} (hi : i < N) (hk : k < N) {w : List L} (hw : T i w ≠ T k w) : ∃ v, v.length < N ∧ T i v ≠ T k v := by
 obtain ⟨r, hr, hs⟩ : ∃ r, r < N ∧ ∀ i k, i < N → k < N → Alk T r i k → Alk T (r + 1) i k := by
  refine Classical.byContradiction fun hno => ?_
  have hgrow : ∀ r, r ≤ N → r + 1 ≤ (firsts T N r).length := fun r => by
   induction r with
   | zero =>
    intro _
    refine Nat.one_le_iff_ne_zero.2 fun e => ?_
    have : (0 : Nat) ∈ firsts T N 0 := by
     classical
     unfold firsts
     rw [List.mem_filter]
     exact ⟨List.mem_range.2 (by omega), by simp⟩
    rw [List.length_eq_zero_iff.1 e] at this; cases this
   | succ r ih =>
    intro hr
    have := ih (by omega)
    obtain ⟨a, b, ha, hb, h1, h2⟩ : ∃ a b, a < N ∧ b < N ∧ Alk T r a b ∧ ¬ Alk T (r + 1) a b := by
     refine Classical.byContradiction fun hh => hno ⟨r, by omega, fun a b ha hb h1 => Classical.byContradiction fun h2 => hh ⟨a, b, ha, hb, h1, h2⟩⟩
    have := firsts_lt T N ha hb h1 h2
    omega
  have h1 := hgrow N (Nat.le_refl _)
  have h2 : (firsts T N N).length ≤ N := by
   classical
   unfold firsts
   have := List.length_filter_le (fun j => decide (∀ k, k < j → ¬ Alk T N k j)) (List.range N)
   simpa using this
  omega
 refine Classical.byContradiction fun hno => hw ?_
 have hA : Alk T r i k := fun v hv => Classical.byContradiction fun h => hno ⟨v, by omega, h⟩
 exact alk_stay T δ N hT hδ hs w.length i k hi hk hA w (by omega)
end
def tkZ (rows : List LRow) (ends : List Bool) : Nat → List ByteArray → Bool
 | 0, _ => false
 | s + 1, w => gTakes rows ends s w
def stZ (rows : List LRow) : Nat → ByteArray → Nat
 | 0, _ => 0
 | s + 1, l => match look (rows.getD s []) l with
  | some t => t + 1
  | none => 0
theorem short_sep {A : ADt} (ok : AOk A) {i k : Nat} (hi : i < A.rows.length) (hk : k < A.rows.length) {w : List ByteArray} (h : gTakes A.rows A.ends i w ≠ gTakes A.rows A.ends k w) : ∃ v, v.length ≤ A.rows.length ∧ gTakes A.rows A.ends i v ≠ gTakes A.rows A.ends k v := by
 obtain ⟨v, h1, h2⟩ := short_two (tkZ A.rows A.ends) (stZ A.rows) (A.rows.length + 1) (fun s l w => by
  cases s with
  | zero => rfl
  | succ s =>
   show gTakes A.rows A.ends s (l :: w) = _
   rw [gTakes_cons, stZ]
   cases look (A.rows.getD s []) l <;> rfl) (fun s l hs => by
  cases s with
  | zero => exact Nat.succ_pos _
  | succ s =>
   rw [stZ]
   cases hl : look (A.rows.getD s []) l with
   | none => exact Nat.succ_pos _
   | some t => exact Nat.succ_lt_succ ((ok.row _ (getD_mem (d := []) (by omega))).2 _ (look_mem hl))) (i := i + 1) (k := k + 1) (by omega) (by omega) h
 exact ⟨v, by omega, h2⟩

/-! ### the states' numbers -/
def nuI : Option Nat → Nat → Option Nat
 | none, _ => none
 | some n, t => if n < t then none else if t = n then some (n + 1) else some n
def nuR (o : Option Nat) (r : LRow) : Option Nat := r.foldl (fun o p => nuI o p.2) o
def nuA (rows : List LRow) : Option Nat := rows.foldl nuR (some 1)
theorem nuR_snoc (o : Option Nat) (r : LRow) (e : ByteArray × Nat) : nuR o (r ++ [e]) = nuI (nuR o r) e.2 := by rw [nuR, List.foldl_append]; rfl
theorem nuA_snoc (rows : List LRow) (r : LRow) : nuA (rows ++ [r]) = nuR (nuA rows) r := by rw [nuA, List.foldl_append]; rfl
theorem qIns_num (part : List Nat) (order : List Nat) : ∀ r : LRow, nuR (some order.length) (qIns part order r).2 = some (qIns part order r).1.length := by
 refine snocInd rfl ?_
 intro r e ih
 rw [qIns_snoc, qIn]
 split
 ·rename_i n hq
  obtain ⟨q1, _⟩ := qpos_some part hq
  rw [nuR_snoc, ih, nuI, if_neg (by omega), if_neg (by omega)]
 ·rw [nuR_snoc, ih, nuI, if_neg (Nat.lt_irrefl _), if_pos rfl, List.length_append]; rfl
structure NumOk (rows : List LRow) (n : Nat) : Prop where
 all : nuA rows = some n
 at' : ∀ s, s < rows.length → ∃ m, nuA (rows.take s) = some m ∧ s < m
theorem NumOk.snoc {rows : List LRow} {n m : Nat} {r : LRow} (h : NumOk rows n) (hn : rows.length < n) (hr : nuR (some n) r = some m) : NumOk (rows ++ [r]) m := by
 refine ⟨by rw [nuA_snoc, h.all, hr], fun s hs => ?_⟩
 rw [List.length_append, List.length_singleton] at hs
 rcases Nat.lt_or_ge s rows.length with q | q
 ·rw [List.take_append_of_le_length (by omega)]; exact h.at' s q
 ·obtain rfl : s = rows.length := by omega
  rw [List.take_left' rfl]; exact ⟨n, h.all, hn⟩
theorem qRun_num {rows : List LRow} {ends : List Bool} {part : List Nat} : ∀ (f : Nat) {st : QSt}, NumOk st.rows st.order.length → NumOk (qRun rows ends part f st).rows (qRun rows ends part f st).order.length
 | 0, st, h => h
 | f + 1, st, h => by
  rw [qRun]
  split
  ·rename_i h1
   exact qRun_num f (st := qNext rows ends part st) (h.snoc h1 (qIns_num part st.order _))
  ·exact h
theorem least_num {x : Ex} {A : ADt} (h : autoM x (labX x) = .inl A) : NumOk A.rows A.rows.length := by
 have hr : exRight x = true := by
  cases hr : exRight x
  ·rw [autoM, hr] at h; simp at h
  ·rfl
 rw [autoM, if_pos hr] at h
 split at h
 ·rename_i st hst
  split at h
  ·cases h
  ·simp only [Sum.inl.injEq] at h
   obtain ⟨ho, hl, hw⟩ := sets_ok (stepL (newM x)) (newM x).em (bitsM (newM x).la) (labX_nd x) hst
   obtain ⟨g1, g2, g3⟩ := sets_g hr hst
   obtain ⟨qo, ql, qw⟩ := least_ok (ends := st.ends) (sets_rows ho hl) (sets_nd (labX_nd x) ho) g2 (partsM st.rows st.ends)
   have := qRun_num (rows := st.rows) (ends := st.ends) (part := partsM st.rows st.ends) (st.rows.length + 1) (st := q0) ⟨rfl, fun s hs => by simp [q0] at hs⟩
   have e : A.rows = (leastM st.rows st.ends (partsM st.rows st.ends)).rows := by rw [← h]; rfl
   rw [e, ql]
   exact (show NumOk (leastM st.rows st.ends (partsM st.rows st.ends)).rows (leastM st.rows st.ends (partsM st.rows st.ends)).order.length from this)
 ·cases h

/-! ### one language, one automaton -/
structure Lst' (A : ADt) : Prop extends AOk A where
 rise : ∀ r ∈ A.rows, Rise (r.map Prod.fst)
 alive : ∀ s, s < A.rows.length → ∃ w, gTakes A.rows A.ends s w = true
 sep : ∀ i k, i < A.rows.length → k < A.rows.length → (∀ w, gTakes A.rows A.ends i w = gTakes A.rows A.ends k w) → i = k
 num : NumOk A.rows A.rows.length
theorem lst_of {x : Ex} {A : ADt} (h : autoM x (labX x) = .inl A) : Lst' A := by
 obtain ⟨hr, hlab, LW, LO⟩ := auto_ok h
 refine { LW.toAOk with rise := fun r hr => (labX_rise x).sublist (by rw [← hlab]; exact (LW.row r hr).1), alive := LW.alive, sep := fun i k hi hk hw => ?_, num := least_num h }
 refine Classical.byContradiction fun hne => ?_
 obtain ⟨w, hw2⟩ := least_sep h hi hk hne
 exact hw2 (hw w)
theorem rows_two {A B : ADt} (ha : Lst' A) (hb : Lst' B) {s t : Nat} (hs : s < A.rows.length) (ht : t < B.rows.length) (h : ∀ w, gTakes A.rows A.ends s w = gTakes B.rows B.ends t w) : (A.rows.getD s []).map Prod.fst = (B.rows.getD t []).map Prod.fst := by
 have one : ∀ {A B : ADt}, Lst' A → ∀ {s t : Nat}, s < A.rows.length → (∀ w, gTakes A.rows A.ends s w = gTakes B.rows B.ends t w) → ∀ l, l ∈ (A.rows.getD s []).map Prod.fst → l ∈ (B.rows.getD t []).map Prod.fst := fun {A B} ha {s t} hs h l hl => by
  obtain ⟨p, hp, rfl⟩ := List.mem_map.1 hl
  have hr := ha.rise _ (getD_mem (d := []) hs)
  obtain ⟨w, hw⟩ := ha.alive p.2 ((ha.row _ (getD_mem (d := []) hs)).2 p hp)
  have := h (p.1 :: w)
  rw [gTakes_cons, look_at (rise_nd hr) (show (p.1, p.2) ∈ _ from hp)] at this
  simp only at this
  rw [hw, gTakes_cons] at this
  refine Classical.byContradiction fun hn => ?_
  rw [look_none.2 hn] at this
  cases this
 exact rise_only (ha.rise _ (getD_mem hs)) (hb.rise _ (getD_mem ht)) fun l => ⟨one ha hs h l, one hb ht (fun w => (h w).symm) l⟩
theorem nuR_none : ∀ r : LRow, nuR none r = none
 | [] => rfl
 | e :: r => nuR_none r
theorem nuA_none : ∀ rows : List LRow, rows.foldl nuR none = none
 | [] => rfl
 | r :: rows => by rw [List.foldl_cons, nuR_none]; exact nuA_none rows
theorem rows_one {A B : ADt} (ha : Lst' A) (hb : Lst' B) : ∀ (r r' : LRow) (m : Nat) {k k' : Nat}, r.map Prod.fst = r'.map Prod.fst →
  (∀ p ∈ r, p.2 < A.rows.length) → (∀ p ∈ r', p.2 < B.rows.length) →
  (∀ (j : Nat) (p p' : ByteArray × Nat), r[j]? = some p → r'[j]? = some p' → ∀ w, gTakes A.rows A.ends p.2 w = gTakes B.rows B.ends p'.2 w) →
  (∀ i, i < m → i < A.rows.length ∧ i < B.rows.length ∧ ∀ w, gTakes A.rows A.ends i w = gTakes B.rows B.ends i w) →
  nuR (some m) r = some k → nuR (some m) r' = some k' → r = r' ∧ (∀ i, i < k → i < A.rows.length ∧ i < B.rows.length ∧ ∀ w, gTakes A.rows A.ends i w = gTakes B.rows B.ends i w)
 | [], [], m, k, k', _, _, _, _, hm, h1, h2 => by
  cases h1
  exact ⟨rfl, hm⟩
 | [], b :: r', m, k, k', he, _, _, _, _, _, _ => by simp at he
 | a :: r, [], m, k, k', he, _, _, _, _, _, _ => by simp at he
 | a :: r, b :: r', m, k, k', he, hA, hB, hw, hm, h1, h2 => by
  simp only [List.map_cons, List.cons.injEq] at he
  have h1' : nuR (nuI (some m) a.2) r = some k := h1
  have h2' : nuR (nuI (some m) b.2) r' = some k' := h2
  have hab := hw 0 a b rfl rfl
  have a1 := hA a List.mem_cons_self
  have b1 := hB b List.mem_cons_self
  have ale : a.2 ≤ m := by
   rcases Nat.lt_or_ge m a.2 with q | q
   ·rw [nuI, if_pos q, nuR_none] at h1'; cases h1'
   ·exact q
  have ble : b.2 ≤ m := by
   rcases Nat.lt_or_ge m b.2 with q | q
   ·rw [nuI, if_pos q, nuR_none] at h2'; cases h2'
   ·exact q
  have e : a.2 = b.2 := by
   rcases Nat.lt_or_ge a.2 m with q | q
   ·obtain ⟨_, q2, q3⟩ := hm _ q
    exact hb.sep _ _ q2 b1 fun w => by rw [← q3 w, hab w]
   ·rcases Nat.lt_or_ge b.2 m with p | p
    ·obtain ⟨p1, _, p3⟩ := hm _ p
     exact ha.sep _ _ a1 p1 fun w => by rw [hab w, p3 w]
    ·omega
  have go : ∀ m', nuI (some m) a.2 = some m' → (∀ i, i < m' → i < A.rows.length ∧ i < B.rows.length ∧ ∀ w, gTakes A.rows A.ends i w = gTakes B.rows B.ends i w) → a :: r = b :: r' ∧ (∀ i, i < k → i < A.rows.length ∧ i < B.rows.length ∧ ∀ w, gTakes A.rows A.ends i w = gTakes B.rows B.ends i w) := fun m' hm' hal => by
   rw [hm'] at h1'
   rw [← e, hm'] at h2'
   obtain ⟨q1, q2⟩ := rows_one ha hb r r' m' he.2 (fun p hp => hA p (List.mem_cons_of_mem _ hp)) (fun p hp => hB p (List.mem_cons_of_mem _ hp)) (fun j p p' k1 k2 => hw (j + 1) p p' k1 k2) hal h1' h2'
   exact ⟨by rw [q1, show a = b from Prod.ext he.1 e], q2⟩
  by_cases hme : a.2 = m
  ·refine go (m + 1) (by rw [nuI, if_neg (by omega), if_pos hme]) fun i hi => ?_
   rcases Nat.lt_or_ge i m with q | q
   ·exact hm i q
   ·obtain rfl : i = m := by omega
    exact ⟨by omega, by omega, fun w => by have := hab w; rw [← e, hme] at this; exact this⟩
  ·exact go m (by rw [nuI, if_neg (by omega), if_neg hme]) hm
theorem one_auto {A B : ADt} (ha : Lst' A) (hb : Lst' B) (h : ∀ w, gTakes A.rows A.ends 0 w = gTakes B.rows B.ends 0 w) : A.rows = B.rows ∧ A.ends = B.ends := by
 have key : ∀ s, s ≤ A.rows.length → s ≤ B.rows.length → A.rows.take s = B.rows.take s ∧ ∃ m, nuA (A.rows.take s) = some m ∧ ∀ i, i < m → i < A.rows.length ∧ i < B.rows.length ∧ ∀ w, gTakes A.rows A.ends i w = gTakes B.rows B.ends i w := fun s => by
  induction s with
  | zero =>
   intro _ _
   refine ⟨by simp, 1, rfl, fun i hi => ?_⟩
   obtain rfl : i = 0 := by omega
   exact ⟨ha.pos, hb.pos, h⟩
  | succ s ih =>
   intro h1 h2
   obtain ⟨e, m, hm, hal⟩ := ih (by omega) (by omega)
   obtain ⟨m', q1, q2⟩ := ha.num.at' s (by omega)
   rw [hm] at q1; cases q1
   obtain ⟨_, _, hs⟩ := hal s q2
   have gA : A.rows.getD s [] = A.rows[s] := by rw [List.getD_eq_getElem?_getD, List.getElem?_eq_getElem (by omega), Option.getD_some]
   have gB : B.rows.getD s [] = B.rows[s] := by rw [List.getD_eq_getElem?_getD, List.getElem?_eq_getElem (by omega), Option.getD_some]
   have hlab := rows_two ha hb (by omega) (by omega) hs
   have pre : ∀ {A : ADt} (n : Nat), NumOk A.rows n → ∀ s (hs : s < A.rows.length), ∃ k, nuA (A.rows.take (s + 1)) = some k := fun {A} n hn s hs => by
    have := hn.all
    rw [← List.take_append_drop (s + 1) A.rows, nuA, List.foldl_append] at this
    cases q : (A.rows.take (s + 1)).foldl nuR (some 1) with
    | none => rw [q, nuA_none] at this; cases this
    | some k => exact ⟨k, q⟩
   obtain ⟨k, hk⟩ := pre _ ha.num s (by omega)
   obtain ⟨k', hk'⟩ := pre _ hb.num s (by omega)
   rw [List.take_succ_eq_append_getElem (by omega), nuA_snoc, hm] at hk
   rw [List.take_succ_eq_append_getElem (by omega), nuA_snoc, ← e, hm] at hk'
   rw [gA, gB] at hlab
   have rA := ha.rise _ (List.getElem_mem (l := A.rows) (n := s) (by omega))
   have rB := hb.rise _ (List.getElem_mem (l := B.rows) (n := s) (by omega))
   obtain ⟨q3, q4⟩ := rows_one ha hb A.rows[s] B.rows[s] m hlab (ha.row _ (List.getElem_mem _)).2 (hb.row _ (List.getElem_mem _)).2 (fun j p p' k1 k2 w => by
    have := hs (p.1 :: w)
    have hp := List.mem_of_getElem? k1
    have hp' := List.mem_of_getElem? k2
    have hl : p.1 = p'.1 := by
     have := congrArg (fun l => l[j]?) hlab
     simp only [List.getElem?_map, k1, k2, Option.map_some, Option.some.injEq] at this
     exact this
    rw [gTakes_cons, gTakes_cons, gA, gB, look_at (rise_nd rA) (show (p.1, p.2) ∈ _ from hp), hl, look_at (rise_nd rB) (show (p'.1, p'.2) ∈ _ from hp')] at this
    exact this) hal hk hk'
   rw [List.take_succ_eq_append_getElem (by omega), List.take_succ_eq_append_getElem (by omega), e, q3]
   refine ⟨rfl, k, ?_, q4⟩
   rw [nuA_snoc, ← e, hm, ← q3]; exact hk
 have hlen : A.rows.length = B.rows.length := by
  rcases Nat.lt_or_ge A.rows.length B.rows.length with q | q
  ·obtain ⟨e, m, hm, _⟩ := key _ (Nat.le_refl _) (by omega)
   obtain ⟨m', q1, q2⟩ := hb.num.at' _ q
   rw [← e, List.take_length, ha.num.all] at q1
   cases q1
   omega
  ·rcases Nat.lt_or_ge B.rows.length A.rows.length with p | p
   ·obtain ⟨e, m, hm, _⟩ := key _ (by omega) (Nat.le_refl _)
    obtain ⟨m', q1, q2⟩ := ha.num.at' _ p
    rw [e, List.take_length, hb.num.all] at q1
    cases q1
    omega
   ·omega
 obtain ⟨e, m, hm, hal⟩ := key _ (Nat.le_refl _) (by omega)
 rw [List.take_length, hlen, List.take_length] at e
 rw [List.take_length, ha.num.all] at hm
 cases hm
 refine ⟨e, List.ext_getElem (by rw [ha.ends, hb.ends, hlen]) fun i h1 h2 => ?_⟩
 obtain ⟨_, _, q⟩ := hal i (by rw [← ha.ends]; exact h1)
 have := q []
 simp only [gTakes, gRun] at this
 rw [List.getD_eq_getElem?_getD, List.getElem?_eq_getElem h1, List.getD_eq_getElem?_getD, List.getElem?_eq_getElem h2] at this
 exact this

/-! ### the rounds of apart -/
def Ap (A : ADt) (r i k : Nat) : Prop := ∃ w, w.length ≤ r ∧ gTakes A.rows A.ends i w ≠ gTakes A.rows A.ends k w
structure ApO (A : ADt) (r : Nat) (F : Nat → Nat → Bool) : Prop where
 le : r ≤ A.rows.length
 snd : ∀ i k, i < A.rows.length → k < A.rows.length → F i k = true → i ≠ k
 cmp : ∀ i k, i < A.rows.length → k < A.rows.length → Ap A r i k → F i k = true
structure ApM (A : ADt) (r : Nat) (F0 : Nat → Nat → Bool) (c : Nat) (F : Nat → Nat → Bool) : Prop where
 le : c ≤ A.rows.length * A.rows.length
 snd : ∀ i k, i < A.rows.length → k < A.rows.length → F i k = true → i ≠ k
 mono : ∀ i k, F0 i k = true → F i k = true
 dn : ∀ i k, i < A.rows.length → k < A.rows.length → i * A.rows.length + k < c → Ap A (r + 1) i k → F i k = true
def apV (A : ADt) (F : Nat → Nat → Bool) (p q : Nat) (l : ByteArray) : Bool := match look (A.rows.getD p []) l, look (A.rows.getD q []) l with
 | none, none => false
 | some x, some y => F x y
 | _, _ => true
structure ApI (A : ADt) (r : Nat) (F0 : Nat → Nat → Bool) (p q j : Nat) (F : Nat → Nat → Bool) : Prop extends ApM A r F0 (p * A.rows.length + q) F where
 lej : j ≤ A.labs.length
 lb : ∀ m, m < j → apV A F0 p q (A.labs.getD m ⟨#[]⟩) = true → F p q = true
theorem ApO.zero {A : ADt} : ApO A 0 (fun i k => A.ends.getD i false != A.ends.getD k false) := ⟨Nat.zero_le _, fun i k _ _ h e => by subst e; simp at h, fun i k _ _ ⟨w, hw, h⟩ => by
 obtain rfl := List.eq_nil_of_length_eq_zero (Nat.le_zero.1 hw)
 simpa [gTakes, gRun] using h⟩
theorem ApO.start {A : ADt} {r : Nat} {F : Nat → Nat → Bool} (h : ApO A r F) : ApM A r F 0 F := ⟨Nat.zero_le _, h.snd, fun _ _ h => h, fun i k _ _ h => absurd h (Nat.not_lt_zero _)⟩
theorem ApM.own {A : ADt} {r p q : Nat} {F0 F : Nat → Nat → Bool} (h : ApM A r F0 (p * A.rows.length + q) F) : ApI A r F0 p q 0 F := { h with lej := Nat.zero_le _, lb := fun m hm => absurd hm (Nat.not_lt_zero _) }
theorem apV_ne {A : ADt} (ok : AOk A) {F : Nat → Nat → Bool} (hF : ∀ i k, i < A.rows.length → k < A.rows.length → F i k = true → i ≠ k) {p q : Nat} (hp : p < A.rows.length) {l : ByteArray} (h : apV A F p q l = true) : p ≠ q := by
 rintro rfl
 unfold apV at h
 cases hl : look (A.rows.getD p []) l with
 | none => rw [hl] at h; cases h
 | some x =>
  rw [hl] at h
  have hx := (ok.row _ (getD_mem (d := []) hp)).2 _ (look_mem hl)
  exact hF x x hx hx h rfl
theorem apV_mono {A : ADt} {F G : Nat → Nat → Bool} (h : ∀ i k, F i k = true → G i k = true) {p q : Nat} {l : ByteArray} (hv : apV A F p q l = true) : apV A G p q l = true := by
 unfold apV at hv ⊢
 cases hl : look (A.rows.getD p []) l <;> cases hm : look (A.rows.getD q []) l <;> rw [hl, hm] at hv
 ·cases hv
 ·exact h _ _ hv
theorem ApI.step {A : ADt} (ok : AOk A) {r p q j : Nat} {F0 F : Nat → Nat → Bool} (h : ApI A r F0 p q j F) (hp : p < A.rows.length) (hj : j < A.labs.length) : ApI A r F0 p q (j + 1) (upd2 F p q (F p q || apV A F p q (A.labs.getD j ⟨#[]⟩))) := by
 have up : ∀ i k b, F i k = true → upd2 F p q (F p q || b) i k = true := fun i k b hh => by
  unfold upd2
  split
  ·rename_i e; obtain ⟨rfl, rfl⟩ := e; rw [hh]; rfl
  ·exact hh
 refine ⟨⟨h.le, fun i k hi hk hh => ?_, fun i k hh => up _ _ _ (h.mono i k hh), fun i k hi hk hc ha => up _ _ _ (h.dn i k hi hk hc ha)⟩, hj, fun m hm hv => ?_⟩
 ·unfold upd2 at hh
  split at hh
  ·rename_i e; obtain ⟨rfl, rfl⟩ := e
   rw [Bool.or_eq_true] at hh
   rcases hh with hh | hh
   ·exact h.snd _ _ hi hk hh
   ·exact apV_ne ok h.snd hp hh
  ·exact h.snd _ _ hi hk hh
 ·rcases Nat.lt_succ_iff_lt_or_eq.1 hm with e | rfl
  ·exact up _ _ _ (h.lb m e hv)
  ·have := apV_mono h.mono hv
   unfold upd2
   rw [if_pos ⟨rfl, rfl⟩, this, Bool.or_true]
theorem ApI.fin {A : ADt} (L : Lst' A) {r p q : Nat} {F0 F : Nat → Nat → Bool} (h0 : ApO A r F0) (hr : r < A.rows.length) (h : ApI A r F0 p q A.labs.length F) (hp : p < A.rows.length) (hq : q < A.rows.length) : ApM A r F0 (p * A.rows.length + q + 1) F := by
 have hlt : p * A.rows.length + q + 1 ≤ A.rows.length * A.rows.length := by
  have := Nat.mul_le_mul_right A.rows.length (show p + 1 ≤ A.rows.length from hp)
  rw [Nat.add_mul] at this; omega
 refine ⟨hlt, h.snd, h.mono, fun i k hi hk hc ha => ?_⟩
 rcases Nat.lt_or_ge (i * A.rows.length + k) (p * A.rows.length + q) with e | e
 ·exact h.dn i k hi hk e ha
 ·have e2 : i * A.rows.length + k = p * A.rows.length + q := by omega
  have hi2 : i = p := by
   have : (i * A.rows.length + k) / A.rows.length = (p * A.rows.length + q) / A.rows.length := by rw [e2]
   rwa [Nat.mul_comm, Nat.mul_add_div (by omega), Nat.mul_comm, Nat.mul_add_div (by omega), Nat.div_eq_of_lt hk, Nat.div_eq_of_lt hq] at this
  subst hi2
  have hk2 : k = q := by omega
  subst hk2
  obtain ⟨w, hw, hne⟩ := ha
  cases w with
  | nil => exact h.mono _ _ (h0.cmp _ _ hi hk ⟨[], Nat.zero_le _, hne⟩)
  | cons l w =>
   have hmem : ∀ s, s < A.rows.length → ∀ t, look (A.rows.getD s []) l = some t → l ∈ A.labs ∧ t < A.rows.length := fun s hs t hl => by
    obtain ⟨q1, q2⟩ := L.row _ (getD_mem (d := []) hs)
    exact ⟨q1.subset (List.mem_map_of_mem (f := Prod.fst) (look_mem hl)), q2 _ (look_mem hl)⟩
   have fin : l ∈ A.labs → apV A F0 i k l = true → F i k = true := fun hm hv => by
    obtain ⟨j, hj, e⟩ := List.getElem_of_mem hm
    refine h.lb j hj ?_
    rw [List.getD_eq_getElem?_getD, List.getElem?_eq_getElem hj, Option.getD_some, e]; exact hv
   rw [gTakes_cons, gTakes_cons] at hne
   cases h1 : look (A.rows.getD i []) l <;> cases h2 : look (A.rows.getD k []) l <;> rw [h1, h2] at hne
   ·exact absurd rfl hne
   ·exact fin (hmem k hk _ h2).1 (by unfold apV; rw [h1, h2])
   ·exact fin (hmem i hi _ h1).1 (by unfold apV; rw [h1, h2])
   ·rename_i x y
    refine fin (hmem i hi _ h1).1 ?_
    unfold apV; rw [h1, h2]
    exact h0.cmp x y (hmem i hi _ h1).2 (hmem k hk _ h2).2 ⟨w, by simpa using hw, hne⟩
theorem ApM.fin {A : ADt} {r : Nat} {F0 F : Nat → Nat → Bool} (hr : r < A.rows.length) (h : ApM A r F0 (A.rows.length * A.rows.length) F) : ApO A (r + 1) F := ⟨hr, h.snd, fun i k hi hk ha => h.dn i k hi hk (by
 have := Nat.mul_le_mul_right A.rows.length (show i + 1 ≤ A.rows.length from hi)
 rw [Nat.add_mul] at this; omega) ha⟩
theorem ApO.all {A : ADt} (L : Lst' A) {F : Nat → Nat → Bool} (h : ApO A A.rows.length F) {i k : Nat} (hi : i < A.rows.length) (hk : k < A.rows.length) : F i k = decide (i ≠ k) := by
 rw [Bool.eq_iff_iff, decide_eq_true_eq]
 refine ⟨h.snd i k hi hk, fun hne => h.cmp i k hi hk ?_⟩
 refine Classical.byContradiction fun hno => hne (L.sep i k hi hk fun w => Classical.byContradiction fun hw => hno ?_)
 obtain ⟨v, h1, h2⟩ := short_sep L.toAOk hi hk hw
 exact ⟨v, h1, h2⟩
/-! ### numbers, label by label -/
def nuS (o : Option Nat) (row : LRow) (l : ByteArray) : Option Nat := match look row l with
 | some t => nuI o t
 | none => o
theorem nuS_labs : ∀ {labs : List ByteArray} {row : LRow} (o : Option Nat), labs.Nodup → (row.map Prod.fst).Sublist labs → labs.foldl (fun o l => nuS o row l) o = nuR o row
 | [], row, o, _, h => by
  obtain rfl : row = [] := by simpa using h
  rfl
 | l :: labs, row, o, hn, h => by
  rw [List.nodup_cons] at hn
  rw [List.foldl_cons]
  cases row with
  | nil =>
   show labs.foldl _ o = _
   exact nuS_labs (row := []) o hn.2 (by simp)
  | cons e row =>
   rw [List.map_cons] at h
   by_cases hl : l = e.1
   ·subst hl
    have hs : (row.map Prod.fst).Sublist labs := by simpa using h
    have e1 : nuS o (e :: row) e.1 = nuI o e.2 := by
     have : look (e :: row) e.1 = some e.2 := by
      rw [look, List.find?_cons, seqbI.2 rfl]; rfl
     rw [nuS, this]
    rw [e1]
    have e2 : labs.foldl (fun o l => nuS o (e :: row) l) (nuI o e.2) = labs.foldl (fun o l => nuS o row l) (nuI o e.2) := by
     have : ∀ (ls : List ByteArray), (∀ m ∈ ls, m ∈ labs) → ∀ o, ls.foldl (fun o l => nuS o (e :: row) l) o = ls.foldl (fun o l => nuS o row l) o := fun ls => by
      induction ls with
      | nil => intro _ o; rfl
      | cons m ls ih =>
       intro hm o
       rw [List.foldl_cons, List.foldl_cons]
       have hme : m ≠ e.1 := fun q => hn.1 (q ▸ hm m List.mem_cons_self)
       have : look (e :: row) m = look row m := by
        have hs : seqb m e.1 = false := by
         cases hh : seqb m e.1
         ·rfl
         ·exact absurd (seqbI.1 hh) hme
        rw [look, List.find?_cons, hs]; rfl
       rw [nuS, this, ← nuS]
       exact ih (fun x hx => hm x (List.mem_cons_of_mem _ hx)) _
     exact this labs (fun m hm => hm) _
    rw [e2, nuS_labs _ hn.2 hs]; rfl
   ·have hs : ((e :: row).map Prod.fst).Sublist labs := by
     rw [List.map_cons]
     cases h with
     | cons _ h => exact h
     | cons_cons _ h => exact absurd rfl hl
    have hnl : nuS o (e :: row) l = o := by
     have : look (e :: row) l = none := look_none.2 fun q => hn.1 (hs.subset q)
     rw [nuS, this]
    rw [hnl]
    exact nuS_labs o hn.2 hs
theorem nuS_none (row : LRow) : ∀ labs : List ByteArray, labs.foldl (fun o l => nuS o row l) none = none
 | [] => rfl
 | l :: labs => by
  rw [List.foldl_cons]
  have : nuS none row l = none := by rw [nuS]; cases look row l <;> rfl
  rw [this]; exact nuS_none row labs
def nuK (A : ADt) (s k : Nat) : Option Nat := (A.labs.take k).foldl (fun o l => nuS o (A.rows.getD s []) l) (nuA (A.rows.take s))
theorem nuK_zero (A : ADt) (s : Nat) : nuK A s 0 = nuA (A.rows.take s) := by rw [nuK, List.take_zero]; rfl
theorem nuK_succ (A : ADt) {s k : Nat} (hk : k < A.labs.length) : nuK A s (k + 1) = nuS (nuK A s k) (A.rows.getD s []) (A.labs.getD k ⟨#[]⟩) := by
 rw [nuK, List.take_succ_eq_append_getElem hk, List.foldl_append, ← nuK]
 have e : A.labs.getD k ⟨#[]⟩ = A.labs[k] := by rw [List.getD_eq_getElem?_getD, List.getElem?_eq_getElem hk, Option.getD_some]
 rw [e]; rfl
theorem nuK_all {A : ADt} (L : LOk A) {s : Nat} (hs : s < A.rows.length) : nuK A s A.labs.length = nuK A (s + 1) 0 := by
 rw [nuK_zero, nuK, List.take_length, nuS_labs _ L.nd (L.row _ (getD_mem (d := []) hs)).1, List.take_succ_eq_append_getElem hs, nuA_snoc, List.getD_eq_getElem?_getD, List.getElem?_eq_getElem hs, Option.getD_some]
theorem nuK_some {A : ADt} (L : LOk A) (N : NumOk A.rows A.rows.length) {s k : Nat} (hs : s < A.rows.length) (hk : k ≤ A.labs.length) : ∃ m, nuK A s k = some m := by
 have h1 : ∃ m, nuK A s A.labs.length = some m := by
  rw [nuK_all L hs, nuK_zero]
  rcases Nat.lt_or_ge (s + 1) A.rows.length with q | q
  ·obtain ⟨m, h, _⟩ := N.at' _ q; exact ⟨m, h⟩
  ·rw [List.take_of_length_le q]; exact ⟨_, N.all⟩
 obtain ⟨m, h1⟩ := h1
 cases h : nuK A s k with
 | some n => exact ⟨n, rfl⟩
 | none =>
  rw [nuK] at h
  rw [nuK, List.take_length, ← List.take_append_drop k A.labs, List.foldl_append, h, nuS_none] at h1
  cases h1
/-! ### Same -/
theorem rowEq_refl {r : LRow} (h : (r.map Prod.fst).Nodup) : rowEq r r = true := by
 rw [rowEq, Bool.and_eq_true, decide_eq_true_eq, List.all_eq_true]
 exact ⟨rfl, fun p hp => by rw [look_at h (show (p.1, p.2) ∈ r from hp)]; simp⟩
theorem sameX_of {A B : ADt} (L : LOk A) (h1 : A.rows = B.rows) (h2 : A.ends = B.ends) : sameX A B = true := by
 rw [sameX, ← h1, decide_eq_true rfl, Bool.true_and, List.all_eq_true]
 intro s hs
 rw [sameAt, ← h1, ← h2, rowEq_refl ((L.row _ (getD_mem (d := []) (List.mem_range.1 hs))).1.nodup L.nd)]
 simp
theorem rowEq_symm {r s : LRow} (h1 : (r.map Prod.fst).Nodup) (h2 : (s.map Prod.fst).Nodup) (h : rowEq r s = true) : rowEq s r = true := by
 rw [rowEq, Bool.and_eq_true, decide_eq_true_eq, List.all_eq_true] at h ⊢
 obtain ⟨hl, ha⟩ := h
 refine ⟨hl.symm, fun p hp => ?_⟩
 have hsub : ∀ l ∈ r.map Prod.fst, l ∈ s.map Prod.fst := fun l hm => by
  obtain ⟨q, hq, rfl⟩ := List.mem_map.1 hm
  have := ha q hq
  rw [beq_iff_eq] at this
  exact List.mem_map_of_mem (f := Prod.fst) (look_mem this)
 have hm : p.1 ∈ r.map Prod.fst := by
  refine Classical.byContradiction fun hn => ?_
  have h3 : (p.1 :: r.map Prod.fst).Nodup := List.nodup_cons.2 ⟨hn, h1⟩
  have := h3.length_le_of_subset (l₂ := s.map Prod.fst) fun x hx => by
   rcases List.mem_cons.1 hx with rfl | hx
   ·exact List.mem_map_of_mem hp
   ·exact hsub x hx
  simp only [List.length_cons, List.length_map] at this; omega
 obtain ⟨q, hq, e⟩ := List.mem_map.1 hm
 have := ha q hq
 rw [beq_iff_eq, e, look_at h2 (show (p.1, p.2) ∈ s from hp)] at this
 rw [beq_iff_eq, look_at h1 (show (p.1, p.2) ∈ r from ?_)]
 rw [Option.some.injEq] at this
 rw [this, ← e]; exact hq
theorem sameX_symm {A B : ADt} (ha : LOk A) (hb : LOk B) : sameX A B = sameX B A := by
 have one : ∀ {A B : ADt}, LOk A → LOk B → sameX A B = true → sameX B A = true := fun {A B} ha hb h => by
  rw [sameX, Bool.and_eq_true, decide_eq_true_eq, List.all_eq_true] at h ⊢
  refine ⟨h.1.symm, fun s hs => ?_⟩
  have hsB := List.mem_range.1 hs
  have := h.2 s (List.mem_range.2 (by omega))
  rw [sameAt, Bool.and_eq_true, beq_iff_eq] at this ⊢
  exact ⟨this.1.symm, rowEq_symm ((ha.row _ (getD_mem (d := []) (by omega))).1.nodup ha.nd) ((hb.row _ (getD_mem (d := []) hsB)).1.nodup hb.nd) this.2⟩
 rw [Bool.eq_iff_iff]
 exact ⟨one ha hb, one hb ha⟩
end Go.Proofs.YtfflpdekojlnmaaDoor
