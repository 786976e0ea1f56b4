/- tree.Rename, in plain Lean: names told anew; what check tells stays, if unlike names stay unlike; it does not hang on the order. -/
import Derived.Test.YteihcfhdhkamfaaOChkP
set_option linter.unusedSimpArgs false
set_option linter.unusedVariables false
namespace Go.Proofs.Yteihcfhdhkamfaa
open Go.RowKit

/-- a name told anew -/
def renN (a b : List ByteArray) (s : ByteArray) : ByteArray := if idxB a s < 0 then s else b.getD (idxB a s).toNat ⟨#[]⟩
/-- an operand, a pattern, a condition, a query told anew by a function of names -/
def mapO (f : ByteArray → ByteArray) (x : Opd) : Opd := if x.kind = 1 ∨ x.kind = 2 then { x with name := f x.name } else x
def mapP (f : ByteArray → ByteArray) (p : Pat) : Pat := { p with frm := f p.frm, to := f p.to, name := if noB p.name then p.name else f p.name }
def mapC (f : ByteArray → ByteArray) (c : Cnd) : Cnd := { c with left := mapO f c.left, right := mapO f c.right }
def mapQ (f : ByteArray → ByteArray) (q : Qry) : Qry := ⟨q.pats.map (mapP f), q.conds.map (mapC f), q.ret.map (mapO f), q.range, q.slide⟩
def renO (a b : List ByteArray) (x : Opd) : Opd := mapO (renN a b) x

theorem noB_iff {s : ByteArray} : noB s = true ↔ s = ⟨#[]⟩ := by
  unfold noB
  rw [decide_eq_true_eq]
  constructor
  · intro h
    obtain ⟨a⟩ := s
    have : a.size = 0 := h
    rw [Array.eq_empty_of_size_eq_zero this]
  · rintro rfl; rfl

/-! ### names that stay unlike -/
structure Inj (f : ByteArray → ByteArray) : Prop where
  inj : ∀ s t, f s = f t → s = t
  free : ∀ s, freeB (f s) = freeB s
  no : ∀ s, noB (f s) = noB s
theorem Inj.empty {f : ByteArray → ByteArray} (h : Inj f) {s : ByteArray} (hs : noB s = true) : f s = s := by
  rw [noB_iff.1 hs]
  have := h.no ⟨#[]⟩
  exact noB_iff.1 (this.trans (by rfl))
theorem Inj.name {f : ByteArray → ByteArray} (h : Inj f) (s : ByteArray) : (if noB s then s else f s) = f s := by
  by_cases hs : noB s = true
  · rw [if_pos hs, h.empty hs]
  · rw [if_neg hs]
theorem Inj.has {f : ByteArray → ByteArray} (h : Inj f) (l : List ByteArray) (s : ByteArray) : hasB (l.map f) (f s) = hasB l s := by
  rw [Bool.eq_iff_iff, hasB_iff, hasB_iff, List.mem_map]
  constructor
  · rintro ⟨t, h1, h2⟩; rw [← h.inj _ _ h2]; exact h1
  · intro h1; exact ⟨s, h1, rfl⟩
theorem vnames_map (f : ByteArray → ByteArray) (ps : List Pat) : vnames (ps.map (mapP f)) = (vnames ps).map f := by
  induction ps with
  | nil => rfl
  | cons p ps ih => simp only [vnames, List.map_cons, List.flatMap_cons, List.map_append] at ih ⊢; rw [ih]; rfl
theorem Inj.names {f : ByteArray → ByteArray} (h : Inj f) (ps : List Pat) : enames (ps.map (mapP f)) = (enames ps).map f := by
  induction ps with
  | nil => rfl
  | cons p ps ih =>
    have e : (mapP f p).name = f p.name := h.name p.name
    simp only [enames, List.map_cons, List.filter_cons, e, h.no] at ih ⊢
    by_cases hn : noB p.name = true
    · simp only [hn, Bool.not_true, Bool.false_eq_true, if_false]; exact ih
    · simp only [Bool.not_eq_true] at hn
      simp only [hn, Bool.not_false, if_true, List.map_cons, e, ih]
theorem Inj.onceF {f : ByteArray → ByteArray} (h : Inj f) : ∀ (l acc : List ByteArray), (l.map f).foldl onceStep (acc.map f) = (l.foldl onceStep acc).map f
  | [], acc => rfl
  | s :: l, acc => by
    have e : onceStep (acc.map f) (f s) = (onceStep acc s).map f := by
      unfold onceStep
      rw [h.has]
      split <;> simp
    simp only [List.map_cons, List.foldl_cons, e]
    exact h.onceF l _
theorem Inj.once {f : ByteArray → ByteArray} (h : Inj f) (l : List ByteArray) : onceL (l.map f) = (onceL l).map f := h.onceF l []
theorem Inj.nmF {f : ByteArray → ByteArray} (h : Inj f) (vs : List ByteArray) : ∀ (ps : List Pat) (x : Option (List ByteArray)), (ps.map (mapP f)).foldl (nmStep (vs.map f)) (x.map (List.map f)) = (ps.foldl (nmStep vs) x).map (List.map f)
  | [], x => rfl
  | p :: ps, x => by
    have e : nmStep (vs.map f) (x.map (List.map f)) (mapP f p) = (nmStep vs x p).map (List.map f) := by
      have en : (mapP f p).name = f p.name := h.name p.name
      cases x with
      | none => rfl
      | some ns =>
        simp only [Option.map_some, nmStep, en, h.no, h.has]
        split
        · rfl
        · split <;> simp
    simp only [List.map_cons, List.foldl_cons, e]
    exact h.nmF vs ps _
theorem Inj.nm {f : ByteArray → ByteArray} (h : Inj f) (vs : List ByteArray) (ps : List Pat) : nmL (vs.map f) (ps.map (mapP f)) = (nmL vs ps).map (List.map f) := h.nmF vs ps (some [])
theorem mapO_kind (f : ByteArray → ByteArray) (o : Opd) : (mapO f o).kind = o.kind := by unfold mapO; split <;> rfl
theorem mapO_val (f : ByteArray → ByteArray) (o : Opd) : (mapO f o).val = o.val := by unfold mapO; split <;> rfl
theorem mapO_key (f : ByteArray → ByteArray) (o : Opd) : (mapO f o).key = o.key := by unfold mapO; split <;> rfl
theorem mapO_kindO (f : ByteArray → ByteArray) (o : Opd) : kindO (mapO f o) = kindO o := by unfold kindO; rw [mapO_kind, mapO_val]
theorem Inj.known {f : ByteArray → ByteArray} (h : Inj f) (vs ns : List ByteArray) (o : Opd) : opKnown (vs.map f) (ns.map f) (mapO f o) = opKnown vs ns o := by
  unfold opKnown
  rw [mapO_kind]
  by_cases h1 : o.kind = 1
  · have e : (mapO f o).name = f o.name := by unfold mapO; rw [if_pos (.inl h1)]
    simp only [h1, beq_self_eq_true, if_true, e, h.has]
  · by_cases h2 : o.kind = 2
    · have e : (mapO f o).name = f o.name := by unfold mapO; rw [if_pos (.inr h2)]
      simp only [h2, beq_self_eq_true, if_true, e, h.has]
    · have e1 : (o.kind == 1) = false := by simpa using h1
      have e2 : (o.kind == 2) = false := by simpa using h2
      simp only [e1, e2, Bool.false_eq_true, if_false]
theorem Inj.opdR {f : ByteArray → ByteArray} (h : Inj f) (o : Opd) : opdRight (mapO f o) = opdRight o := by
  unfold opdRight
  rw [mapO_kind, mapO_val, mapO_key]
  by_cases h1 : o.kind = 1
  · have e : (mapO f o).name = f o.name := by unfold mapO; rw [if_pos (.inl h1)]
    rw [e, h.free, h.no]
  · by_cases h2 : o.kind = 2
    · have e : (mapO f o).name = f o.name := by unfold mapO; rw [if_pos (.inr h2)]
      rw [e, h.free, h.no]
    · have e : mapO f o = o := by unfold mapO; rw [if_neg (by simp [h1, h2])]
      rw [e]
theorem Inj.patR {f : ByteArray → ByteArray} (h : Inj f) (p : Pat) : patRight (mapP f p) = patRight p := by
  have e : (mapP f p).name = f p.name := h.name p.name
  have e1 : (mapP f p).frm = f p.frm := rfl
  have e2 : (mapP f p).to = f p.to := rfl
  have e3 : (mapP f p).path = p.path := rfl
  have e4 : (mapP f p).label = p.label := rfl
  have e5 : (mapP f p).expr = p.expr := rfl
  unfold patRight
  rw [e, e1, e2, e3, e4, e5, h.free, h.free, h.free, h.no]
theorem Inj.qryR {f : ByteArray → ByteArray} (h : Inj f) (q : Qry) : qryRight (mapQ f q) = qryRight q := by
  have a : (q.pats.map (mapP f)).all patRight = q.pats.all patRight := by rw [List.all_map]; exact congrArg (fun g => List.all q.pats g) (funext fun p => h.patR p)
  have b : (q.conds.map (mapC f)).all cndRight = q.conds.all cndRight := by
    rw [List.all_map]; refine congrArg (fun g => List.all q.conds g) (funext fun c => ?_)
    show (betw c.op 1 6 && opdRight (mapO f c.left) && opdRight (mapO f c.right)) = _
    rw [h.opdR, h.opdR]; rfl
  have c : (q.ret.map (mapO f)).all tldRight = q.ret.all tldRight := by
    rw [List.all_map]; refine congrArg (fun g => List.all q.ret g) (funext fun o => ?_)
    show ((mapO f o).kind != 3 && opdRight (mapO f o)) = _
    rw [h.opdR, mapO_kind]; rfl
  simp only [qryRight, mapQ, List.length_map, a, b, c]
/-- what check tells hangs on no name -/
theorem Inj.chk {f : ByteArray → ByteArray} (h : Inj f) (q : Qry) : chkQ (mapQ f q) = chkQ q := by
  have eo : qOps (mapQ f q) = (qOps q).map (mapO f) := by
    simp only [qOps, mapQ, List.map_append, List.flatMap_map, List.map_flatMap]; rfl
  have et : (q.conds.map (mapC f)).any typeBad = q.conds.any typeBad := by
    rw [List.any_map]; refine congrArg (fun g => List.any q.conds g) (funext fun c => ?_)
    show (kindO (mapO f c.left) != 0 && kindO (mapO f c.right) != 0 && kindO (mapO f c.left) != kindO (mapO f c.right)) = _
    rw [mapO_kindO, mapO_kindO]; rfl
  unfold chkQ
  rw [h.qryR, eo]
  have e1 : onceL (vnames (mapQ f q).pats) = (onceL (vnames q.pats)).map f := by rw [← h.once, ← vnames_map]; rfl
  have e2 : nmL ((onceL (vnames q.pats)).map f) (mapQ f q).pats = (nmL (onceL (vnames q.pats)) q.pats).map (List.map f) := h.nm _ _
  rw [e1, e2]
  cases hn : nmL (onceL (vnames q.pats)) q.pats with
  | none => rfl
  | some ns =>
    have e3 : ((qOps q).map (mapO f)).all (opKnown ((onceL (vnames q.pats)).map f) (ns.map f)) = (qOps q).all (opKnown (onceL (vnames q.pats)) ns) := by
      rw [List.all_map]; exact congrArg (fun g => List.all (qOps q) g) (funext fun o => h.known _ _ o)
    simp only [Option.map_some, e3, show (mapQ f q).conds = q.conds.map (mapC f) from rfl, et]

/-! ### the order does not matter -/
def swapC (c : Cnd) : Cnd := ⟨c.op, c.right, c.left⟩
theorem once_memF : ∀ (l acc : List ByteArray) (s : ByteArray), s ∈ l.foldl onceStep acc ↔ s ∈ acc ∨ s ∈ l
  | [], acc, s => by simp
  | t :: l, acc, s => by
    rw [List.foldl_cons, once_memF l _ s]
    unfold onceStep
    by_cases ht : hasB acc t = true
    · have := hasB_iff.1 ht
      simp only [ht, if_true, List.mem_cons]
      constructor
      · rintro (h | h)
        · exact .inl h
        · exact .inr (.inr h)
      · rintro (h | rfl | h)
        · exact .inl h
        · exact .inl this
        · exact .inr h
    · simp only [ht, Bool.false_eq_true, if_false, List.mem_append, List.mem_cons, List.not_mem_nil, or_false]
      constructor
      · rintro ((h | h) | h)
        · exact .inl h
        · exact .inr (.inl h)
        · exact .inr (.inr h)
      · rintro (h | h | h)
        · exact .inl (.inl h)
        · exact .inl (.inr h)
        · exact .inr h
theorem once_mem (l : List ByteArray) (s : ByteArray) : s ∈ onceL l ↔ s ∈ l := by rw [onceL, once_memF]; simp
theorem once_has (l : List ByteArray) (s : ByteArray) : hasB (onceL l) s = hasB l s := by rw [Bool.eq_iff_iff, hasB_iff, hasB_iff, once_mem]
open Classical in
theorem nm_someF (vs : List ByteArray) : ∀ (ps : List Pat) (ns0 : List ByteArray), ps.foldl (nmStep vs) (some ns0) = (if (enames ps).Nodup ∧ ∀ s, s ∈ enames ps → s ∉ ns0 ∧ s ∉ vs then some (ns0 ++ enames ps) else none)
  | [], ns0 => by simp [enames]
  | p :: ps, ns0 => by
    simp only [List.foldl_cons, nmStep]
    by_cases h1 : noB p.name = true
    · rw [if_pos h1, nm_someF vs ps ns0]
      have : enames (p :: ps) = enames ps := by simp [enames, h1]
      rw [this]
    · rw [if_neg h1]
      have e : enames (p :: ps) = p.name :: enames ps := by simp [enames, h1]
      rw [e]
      by_cases h2 : (hasB ns0 p.name || hasB vs p.name) = true
      · rw [if_pos h2, nm_none, if_neg]
        rintro ⟨_, h3⟩
        obtain ⟨h4, h5⟩ := h3 p.name List.mem_cons_self
        rw [Bool.or_eq_true, hasB_iff, hasB_iff] at h2
        rcases h2 with h2 | h2
        · exact h4 h2
        · exact h5 h2
      · rw [if_neg h2, nm_someF vs ps _]
        rw [Bool.or_eq_true, hasB_iff, hasB_iff, not_or] at h2
        by_cases h3 : (enames ps).Nodup ∧ ∀ s, s ∈ enames ps → s ∉ ns0 ++ [p.name] ∧ s ∉ vs
        · rw [if_pos h3, if_pos]
          · simp
          · refine ⟨List.nodup_cons.2 ⟨fun hm => ?_, h3.1⟩, fun s hs => ?_⟩
            · exact (h3.2 _ hm).1 (by simp)
            · rcases List.mem_cons.1 hs with rfl | hs
              · exact h2
              · exact ⟨fun hm => (h3.2 s hs).1 (by simp [hm]), (h3.2 s hs).2⟩
        · rw [if_neg h3, if_neg]
          rintro ⟨h4, h5⟩
          rw [List.nodup_cons] at h4
          refine h3 ⟨h4.2, fun s hs => ⟨fun hm => ?_, (h5 s (List.mem_cons_of_mem _ hs)).2⟩⟩
          rcases List.mem_append.1 hm with hm | hm
          · exact (h5 s (List.mem_cons_of_mem _ hs)).1 hm
          · simp only [List.mem_cons, List.not_mem_nil, or_false] at hm
            subst hm
            exact h4.1 hs
open Classical in
theorem nm_some (vs : List ByteArray) (ps : List Pat) : nmL vs ps = if (enames ps).Nodup ∧ ∀ s, s ∈ enames ps → s ∉ vs then some (enames ps) else none := by
  rw [nmL, nm_someF]; simp
theorem all_same {α : Type} {l l' : List α} {f g : α → Bool} (h : ∀ x, x ∈ l' ↔ x ∈ l) (hf : ∀ x, x ∈ l → f x = g x) : l'.all f = l.all g := by
  rw [Bool.eq_iff_iff, List.all_eq_true, List.all_eq_true]
  exact ⟨fun k x hx => (hf x hx) ▸ k x ((h x).2 hx), fun k x hx => (hf x ((h x).1 hx)).symm ▸ k x ((h x).1 hx)⟩
theorem swapC_right (c : Cnd) : cndRight (swapC c) = cndRight c := by simp only [cndRight, swapC]; cases betw c.op 1 6 <;> cases opdRight c.left <;> cases opdRight c.right <;> rfl
theorem swapC_bad (c : Cnd) : typeBad (swapC c) = typeBad c := by
  simp only [typeBad, swapC]
  rw [show (kindO c.right != kindO c.left) = (kindO c.left != kindO c.right) from bne_comm]
  cases (kindO c.left != 0) <;> cases (kindO c.right != 0) <;> rfl
theorem all_swap {cs cs' : List Cnd} {f : Cnd → Bool} (h1 : ∀ c, c ∈ cs' → c ∈ cs ∨ swapC c ∈ cs) (h2 : ∀ c, c ∈ cs → c ∈ cs' ∨ swapC c ∈ cs') (hf : ∀ c, f (swapC c) = f c) : cs'.all f = cs.all f := by
  rw [Bool.eq_iff_iff, List.all_eq_true, List.all_eq_true]
  constructor
  · intro k c hc
    rcases h2 c hc with h | h
    · exact k c h
    · rw [← hf]; exact k _ h
  · intro k c hc
    rcases h1 c hc with h | h
    · exact k c h
    · rw [← hf]; exact k _ h
theorem any_swap {cs cs' : List Cnd} {f : Cnd → Bool} (h1 : ∀ c, c ∈ cs' → c ∈ cs ∨ swapC c ∈ cs) (h2 : ∀ c, c ∈ cs → c ∈ cs' ∨ swapC c ∈ cs') (hf : ∀ c, f (swapC c) = f c) : cs'.any f = cs.any f := by
  have := all_swap (f := fun c => !f c) h1 h2 (fun c => by rw [hf])
  rw [← List.not_any_eq_all_not, ← List.not_any_eq_all_not] at this
  simpa using this
theorem vnames_mem (ps : List Pat) (s : ByteArray) : s ∈ vnames ps ↔ ∃ p, p ∈ ps ∧ (s = p.frm ∨ s = p.to) := by simp [vnames, List.mem_flatMap]
theorem enames_perm {ps ps' : List Pat} (h : ps'.Perm ps) : (enames ps').Perm (enames ps) := (h.filter _).map _
open Classical in
theorem chk_perm {q q' : Qry} (hp : q'.pats.Perm q.pats) (hl : q'.conds.length = q.conds.length) (h1 : ∀ c, c ∈ q'.conds → c ∈ q.conds ∨ swapC c ∈ q.conds) (h2 : ∀ c, c ∈ q.conds → c ∈ q'.conds ∨ swapC c ∈ q'.conds)
    (hr : q'.ret.Perm q.ret) (h3 : q'.range = q.range) (h4 : q'.slide = q.slide) : chkQ q' = chkQ q := by
  have a : q'.pats.all patRight = q.pats.all patRight := all_same (fun p => hp.mem_iff) (fun _ _ => rfl)
  have b : q'.conds.all cndRight = q.conds.all cndRight := all_swap h1 h2 swapC_right
  have c : q'.ret.all tldRight = q.ret.all tldRight := all_same (fun p => hr.mem_iff) (fun _ _ => rfl)
  have eR : qryRight q' = qryRight q := by simp only [qryRight, a, b, c, hp.length_eq, hl, hr.length_eq, h3, h4]
  have hv : ∀ s, s ∈ vnames q'.pats ↔ s ∈ vnames q.pats := fun s => by
    rw [vnames_mem, vnames_mem]
    constructor
    · rintro ⟨p, k1, k2⟩; exact ⟨p, hp.mem_iff.1 k1, k2⟩
    · rintro ⟨p, k1, k2⟩; exact ⟨p, hp.mem_iff.2 k1, k2⟩
  have he := enames_perm hp
  have hO : ∀ o, o ∈ qOps q' ↔ o ∈ qOps q := fun o => by
    simp only [qOps, List.mem_append, List.mem_flatMap, List.mem_cons, List.not_mem_nil, or_false, hr.mem_iff]
    constructor
    · rintro (⟨c, k1, k2⟩ | k)
      · rcases h1 c k1 with k | k
        · exact .inl ⟨c, k, k2⟩
        · exact .inl ⟨_, k, k2.elim .inr .inl⟩
      · exact .inr k
    · rintro (⟨c, k1, k2⟩ | k)
      · rcases h2 c k1 with k | k
        · exact .inl ⟨c, k, k2⟩
        · exact .inl ⟨_, k, k2.elim .inr .inl⟩
      · exact .inr k
  unfold chkQ
  rw [eR, nm_some, nm_some, any_swap h1 h2 swapC_bad]
  have eC : ((enames q'.pats).Nodup ∧ ∀ s, s ∈ enames q'.pats → s ∉ onceL (vnames q'.pats)) ↔ ((enames q.pats).Nodup ∧ ∀ s, s ∈ enames q.pats → s ∉ onceL (vnames q.pats)) := by
    refine and_congr he.nodup_iff ⟨fun k s hs => ?_, fun k s hs => ?_⟩
    · rw [once_mem, ← hv, ← once_mem]; exact k s (he.mem_iff.2 hs)
    · rw [once_mem, hv, ← once_mem]; exact k s (he.mem_iff.1 hs)
  by_cases hc : (enames q.pats).Nodup ∧ ∀ s, s ∈ enames q.pats → s ∉ onceL (vnames q.pats)
  · rw [if_pos hc, if_pos (eC.2 hc)]
    have hh : ∀ {l l' : List ByteArray}, (∀ s, s ∈ l' ↔ s ∈ l) → ∀ s, hasB l' s = hasB l s := fun {l l'} k s => by rw [Bool.eq_iff_iff, hasB_iff, hasB_iff]; exact k s
    have eK : (qOps q').all (opKnown (onceL (vnames q'.pats)) (enames q'.pats)) = (qOps q).all (opKnown (onceL (vnames q.pats)) (enames q.pats)) := by
      refine all_same hO (fun o _ => ?_)
      simp only [opKnown, once_has, hh hv, hh (fun s => he.mem_iff (a := s))]
    simp only [eK]
  · rw [if_neg hc, if_neg (fun k => hc (eC.1 k))]
/-- turned about a place -/
def rot {α : Type} (k : Nat) (l : List α) : List α := l.drop k ++ l.take k
theorem rot_perm {α : Type} (k : Nat) (l : List α) : (rot k l).Perm l := by
  have := (List.perm_append_comm (l₁ := l.drop k) (l₂ := l.take k))
  rwa [List.take_append_drop] at this
/-! ### where a name stands -/
theorem idxB_not {a : List ByteArray} {s : ByteArray} (h : s ∉ a) : idxB a s = -1 := by
  unfold idxB
  cases hf : a.findIdx? (fun x => seqb s x) with
  | none => rfl
  | some k =>
    obtain ⟨hk, h1, _⟩ := List.findIdx?_eq_some_iff_getElem.1 hf
    exact absurd (seqb_iff.1 h1 ▸ List.getElem_mem hk) h
theorem idxB_nd {a : List ByteArray} (hn : a.Nodup) {k : Nat} (hk : k < a.length) : idxB a a[k] = (k : Int) := by
  unfold idxB
  have : a.findIdx? (fun x => seqb a[k] x) = some k := by
    rw [List.findIdx?_eq_some_iff_getElem]
    refine ⟨hk, seqb_iff.2 rfl, fun j hj => ?_⟩
    intro hc
    have := (List.getElem_inj hn).1 (seqb_iff.1 hc)
    omega
  rw [this]
theorem idxB_range (a : List ByteArray) (s : ByteArray) : idxB a s < a.length := by
  unfold idxB
  cases hf : a.findIdx? (fun x => seqb s x) with
  | none => show (-1 : Int) < _; omega
  | some k =>
    obtain ⟨hk, _⟩ := List.findIdx?_eq_some_iff_getElem.1 hf
    show (k : Int) < _; omega
theorem renN_not {a b : List ByteArray} {s : ByteArray} (h : s ∉ a) : renN a b s = s := by rw [renN, idxB_not h]; rfl
theorem renN_at {a b : List ByteArray} (hn : a.Nodup) (hl : b.length = a.length) {k : Nat} (hk : k < a.length) : renN a b a[k] = b[k]'(hl ▸ hk) := by
  have hb : k < b.length := by omega
  rw [renN, idxB_nd hn hk, if_neg (by omega), Int.toNat_natCast]
  simp [List.getD, hb]
theorem renN_back {a b : List ByteArray} (ha : a.Nodup) (hb : b.Nodup) (hl : b.length = a.length) {s : ByteArray} (h : s ∈ a ∨ s ∉ b) : renN b a (renN a b s) = s := by
  by_cases hs : s ∈ a
  · obtain ⟨k, hk, rfl⟩ := List.getElem_of_mem hs
    rw [renN_at ha hl hk, renN_at hb hl.symm (by omega)]
  · rw [renN_not hs, renN_not (h.resolve_left hs)]

/-- seven letters told anew -/
def perA : List ByteArray := [⟨#[97]⟩, ⟨#[98]⟩, ⟨#[99]⟩, ⟨#[100]⟩, ⟨#[101]⟩, ⟨#[102]⟩, ⟨#[103]⟩]
def perB : List ByteArray := [⟨#[99]⟩, ⟨#[103]⟩, ⟨#[97]⟩, ⟨#[101]⟩, ⟨#[100]⟩, ⟨#[98]⟩, ⟨#[102]⟩]
theorem perA_nd : perA.Nodup := by decide +kernel
theorem perB_nd : perB.Nodup := by decide +kernel
theorem per_sub : ∀ s, s ∈ perB → s ∈ perA := fun s hs => hasB_iff.1 (List.all_eq_true.1 (by decide +kernel : perB.all (hasB perA) = true) s hs)
theorem per_inj : Inj (renN perA perB) := by
  have hA : ∀ s, s ∈ perA → renN perA perB s ∈ perB := fun s hs => hasB_iff.1 (List.all_eq_true.1 (by decide +kernel : perA.all (fun s => hasB perB (renN perA perB s)) = true) s hs)
  have fA : ∀ s, s ∈ perA → freeB s = true ∧ noB s = false := fun s hs => by
    have := List.all_eq_true.1 (by decide +kernel : perA.all (fun s => freeB s && !noB s) = true) s hs
    simpa using this
  refine ⟨fun s t h => ?_, fun s => ?_, fun s => ?_⟩
  · have hs : s ∈ perA ∨ s ∉ perB := (Classical.em (s ∈ perA)).imp id (fun h k => h (per_sub s k))
    have ht : t ∈ perA ∨ t ∉ perB := (Classical.em (t ∈ perA)).imp id (fun h k => h (per_sub t k))
    rw [← renN_back perA_nd perB_nd rfl hs, h, renN_back perA_nd perB_nd rfl ht]
  · by_cases hs : s ∈ perA
    · rw [(fA _ (per_sub _ (hA s hs))).1, (fA s hs).1]
    · rw [renN_not hs]
  · by_cases hs : s ∈ perA
    · rw [(fA _ (per_sub _ (hA s hs))).2, (fA s hs).2]
    · rw [renN_not hs]
end Go.Proofs.Yteihcfhdhkamfaa
