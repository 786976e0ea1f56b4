/- tree.Rename, in plain Lean: there and back. -/
import Derived.Test.YteihcfhdhkamfaaBRenP
import Derived.Test.YteihcfhdhkamfaaBTreeD
set_option linter.unusedSimpArgs false
set_option linter.unusedVariables false
namespace Go.Proofs.Yteihcfhdhkamfaa
open Go.RowKit

/-- all names of a query, as the law gathers them -/
def ownL (q : Qry) : List ByteArray := onceL (vnames q.pats) ++ onceL (enames q.pats) ++ (qOps q).map Opd.name
/-- those that are not empty, each once -/
def frmStep (acc : List ByteArray) (s : ByteArray) : List ByteArray := if noB s then acc else if hasB acc s then acc else acc ++ [s]
def frmL (own : List ByteArray) : List ByteArray := own.foldl frmStep []
theorem frmF_mem : ∀ (l acc : List ByteArray) (s : ByteArray), s ∈ l.foldl frmStep acc ↔ s ∈ acc ∨ (s ∈ l ∧ noB s = false)
  | [], acc, s => by simp
  | t :: l, acc, s => by
    rw [List.foldl_cons, frmF_mem l _ s]
    unfold frmStep
    by_cases h1 : noB t = true
    · rw [if_pos h1]
      constructor
      · rintro (h | ⟨h, k⟩)
        · exact .inl h
        · exact .inr ⟨List.mem_cons_of_mem _ h, k⟩
      · rintro (h | ⟨h, k⟩)
        · exact .inl h
        · rcases List.mem_cons.1 h with rfl | h
          · rw [h1] at k; cases k
          · exact .inr ⟨h, k⟩
    · simp only [Bool.not_eq_true] at h1
      rw [if_neg (by simp [h1])]
      by_cases h2 : hasB acc t = true
      · rw [if_pos h2]
        constructor
        · rintro (h | ⟨h, k⟩)
          · exact .inl h
          · exact .inr ⟨List.mem_cons_of_mem _ h, k⟩
        · rintro (h | ⟨h, k⟩)
          · exact .inl h
          · rcases List.mem_cons.1 h with rfl | h
            · exact .inl (hasB_iff.1 h2)
            · exact .inr ⟨h, k⟩
      · rw [if_neg h2]
        constructor
        · rintro (h | ⟨h, k⟩)
          · rcases List.mem_append.1 h with h | h
            · exact .inl h
            · simp only [List.mem_cons, List.not_mem_nil, or_false] at h
              subst h
              exact .inr ⟨List.mem_cons_self, h1⟩
          · exact .inr ⟨List.mem_cons_of_mem _ h, k⟩
        · rintro (h | ⟨h, k⟩)
          · exact .inl (List.mem_append_left _ h)
          · rcases List.mem_cons.1 h with rfl | h
            · exact .inl (List.mem_append_right _ (by simp))
            · exact .inr ⟨h, k⟩
theorem frmL_mem (own : List ByteArray) (s : ByteArray) : s ∈ frmL own ↔ s ∈ own ∧ noB s = false := by rw [frmL, frmF_mem]; simp
theorem frmF_nd : ∀ (l acc : List ByteArray), acc.Nodup → (l.foldl frmStep acc).Nodup
  | [], _, h => h
  | s :: l, acc, h => by
    refine frmF_nd l _ ?_
    unfold frmStep
    split
    · exact h
    · split
      · exact h
      · rename_i hn
        rw [hasB_iff] at hn
        rw [List.nodup_append]
        exact ⟨h, by simp, fun a ha b hb => by simp only [List.mem_cons, List.not_mem_nil, or_false] at hb; subst hb; exact fun e => hn (e ▸ ha)⟩
theorem frmL_nd (own : List ByteArray) : (frmL own).Nodup := frmF_nd own [] List.nodup_nil
theorem frmL_succ {l : List ByteArray} {i : Nat} (h : i < l.length) : frmL (l.take (i + 1)) = frmStep (frmL (l.take i)) l[i] := by
  rw [List.take_succ_eq_append_getElem h, frmL, List.foldl_append]; rfl
theorem frmL_len (l : List ByteArray) : (frmL l).length ≤ l.length := by
  have : ∀ (l acc : List ByteArray), (l.foldl frmStep acc).length ≤ acc.length + l.length := by
    intro l
    induction l with
    | nil => intro acc; simp
    | cons s l ih =>
      intro acc
      have h1 := ih (frmStep acc s)
      have h2 : (frmStep acc s).length ≤ acc.length + 1 := by unfold frmStep; split <;> (try split) <;> simp
      simp only [List.foldl_cons, List.length_cons]; omega
  have := this l []
  simp only [List.length_nil, Nat.zero_add] at this
  exact this

/-- the name of a number -/
def zzN (k i : Nat) : ByteArray := ⟨#[122, 122, UInt8.ofNat (97 + i), UInt8.ofNat (48 + k)]⟩
def toL (k n : Nat) : List ByteArray := (List.range n).map (zzN k)
theorem toL_len (k n : Nat) : (toL k n).length = n := by simp [toL]
theorem toL_at {k n i : Nat} (h : i < (toL k n).length) : (toL k n)[i] = zzN k i := by simp [toL]
theorem zz_facts : ∀ k, k < 3 → ∀ i, i < 20 → freeB (zzN k i) = true ∧ noB (zzN k i) = false := by decide +kernel
theorem zz_inj : ∀ k, k < 3 → ∀ i, i < 20 → ∀ j, j < 20 → zzN k i = zzN k j → i = j := by decide +kernel
theorem toL_nd {k n : Nat} (hk : k < 3) (hn : n ≤ 20) : (toL k n).Nodup := by
  rw [List.nodup_iff_pairwise_ne, List.pairwise_iff_getElem]
  intro i j hi hj hij h
  rw [toL_at, toL_at] at h
  rw [toL_len] at hi hj
  have := zz_inj k hk i (by omega) j (by omega) h
  omega
theorem toL_mem {k n : Nat} (hk : k < 3) (hn : n ≤ 20) {s : ByteArray} (h : s ∈ toL k n) : freeB s = true ∧ noB s = false := by
  obtain ⟨i, hi, rfl⟩ := List.getElem_of_mem h
  rw [toL_at]
  rw [toL_len] at hi
  exact zz_facts k hk i (by omega)

/-! ### names of a query that go there and back -/
/-- told back -/
theorem mapQ_back {f g : ByteArray → ByteArray} {q : Qry} (hv : ∀ s, s ∈ vnames q.pats → g (f s) = s) (hn : ∀ p, p ∈ q.pats → noB p.name = false → noB (f p.name) = false ∧ g (f p.name) = p.name) (ho : ∀ o, o ∈ qOps q → g (f o.name) = o.name) : mapQ g (mapQ f q) = q := by
  have eo : ∀ o, o ∈ qOps q → mapO g (mapO f o) = o := fun o hm => by
    by_cases h : o.kind = 1 ∨ o.kind = 2
    · have e : mapO f o = { o with name := f o.name } := by unfold mapO; rw [if_pos h]
      rw [e]
      unfold mapO
      rw [if_pos h]
      show (⟨o.kind, g (f o.name), o.key, o.val⟩ : Opd) = o
      rw [ho o hm]
    · have e : ∀ f, mapO f o = o := fun f => by unfold mapO; rw [if_neg h]
      rw [e, e]
  have ep : ∀ p, p ∈ q.pats → mapP g (mapP f p) = p := fun p hm => by
    have e1 : g (f p.frm) = p.frm := hv _ ((vnames_mem _ _).2 ⟨p, hm, .inl rfl⟩)
    have e2 : g (f p.to) = p.to := hv _ ((vnames_mem _ _).2 ⟨p, hm, .inr rfl⟩)
    cases hp : noB p.name with
    | true =>
      have e : (mapP f p).name = p.name := by simp [mapP, hp]
      simp only [mapP, hp, if_true, e1, e2]
    | false =>
      obtain ⟨k1, k2⟩ := hn p hm hp
      simp only [mapP, hp, Bool.false_eq_true, if_false, k1, k2, e1, e2]
  have ec : ∀ c, c ∈ q.conds → mapC g (mapC f c) = c := fun c hm => by
    have h1 := eo c.left (List.mem_append_left _ (List.mem_flatMap.2 ⟨c, hm, by simp⟩))
    have h2 := eo c.right (List.mem_append_left _ (List.mem_flatMap.2 ⟨c, hm, by simp⟩))
    simp only [mapC, h1, h2]
  have m : ∀ {α : Type} {h h' : α → α} {l : List α}, (∀ x, x ∈ l → h (h' x) = x) → (l.map h').map h = l := fun {α h h' l} k => by
    rw [List.map_map]
    exact (List.map_congr_left (fun x hx => k x hx)).trans (List.map_id _)
  simp only [mapQ]
  rw [m ep, m ec, m (fun o ho => eo o (List.mem_append_right _ ho))]
theorem mapQ_still {f : ByteArray → ByteArray} {q : Qry} (h : ∀ s, s ∈ ownL q → f s = s) : mapQ f q = q := by
  have hv : ∀ s, s ∈ vnames q.pats → f s = s := fun s hs => h s (by simp only [ownL, List.mem_append, once_mem]; exact .inl (.inl hs))
  have he : ∀ p, p ∈ q.pats → noB p.name = false → f p.name = p.name := fun p hp hn => h _ (by simp only [ownL, List.mem_append, once_mem]; exact .inl (.inr (by simp only [enames, List.mem_map, List.mem_filter]; exact ⟨p, ⟨hp, by simp [hn]⟩, rfl⟩)))
  have ho : ∀ o, o ∈ qOps q → f o.name = o.name := fun o hm => h _ (by simp only [ownL, List.mem_append]; exact .inr (List.mem_map.2 ⟨o, hm, rfl⟩))
  have eo : ∀ o, o ∈ qOps q → mapO f o = o := fun o hm => by
    unfold mapO
    split
    · rw [ho o hm]
    · rfl
  have ep : ∀ p, p ∈ q.pats → mapP f p = p := fun p hm => by
    have e1 : f p.frm = p.frm := hv _ ((vnames_mem _ _).2 ⟨p, hm, .inl rfl⟩)
    have e2 : f p.to = p.to := hv _ ((vnames_mem _ _).2 ⟨p, hm, .inr rfl⟩)
    cases hp : noB p.name with
    | true => simp only [mapP, hp, if_true, e1, e2]
    | false => simp only [mapP, hp, Bool.false_eq_true, if_false, he p hm hp, e1, e2]
  have ec : ∀ c, c ∈ q.conds → mapC f c = c := fun c hm => by
    have h1 := eo c.left (List.mem_append_left _ (List.mem_flatMap.2 ⟨c, hm, by simp⟩))
    have h2 := eo c.right (List.mem_append_left _ (List.mem_flatMap.2 ⟨c, hm, by simp⟩))
    simp only [mapC, h1, h2]
  have m : ∀ {α : Type} {h : α → α} {l : List α}, (∀ x, x ∈ l → h x = x) → l.map h = l := fun {α h l} k => (List.map_congr_left (fun x hx => k x hx)).trans (List.map_id _)
  simp only [mapQ]
  rw [m ep, m ec, m (fun o ho => eo o (List.mem_append_right _ ho))]

/-- names once, told anew by what is one to one on them -/
theorem once_mapF {f : ByteArray → ByteArray} {S : ByteArray → Prop} (hi : ∀ s t, S s → S t → f s = f t → s = t) : ∀ (l acc : List ByteArray), (∀ s, s ∈ l → S s) → (∀ s, s ∈ acc → S s) → (l.map f).foldl onceStep (acc.map f) = (l.foldl onceStep acc).map f
  | [], _, _, _ => rfl
  | s :: l, acc, hl, ha => by
    have eh : hasB (acc.map f) (f s) = hasB acc s := by
      rw [Bool.eq_iff_iff, hasB_iff, hasB_iff, List.mem_map]
      constructor
      · rintro ⟨t, h1, h2⟩; rw [← hi t s (ha t h1) (hl s List.mem_cons_self) h2]; exact h1
      · intro h1; exact ⟨s, h1, rfl⟩
    have e : onceStep (acc.map f) (f s) = (onceStep acc s).map f := by unfold onceStep; rw [eh]; split <;> simp
    simp only [List.map_cons, List.foldl_cons, e]
    refine once_mapF hi l _ (fun t ht => hl t (List.mem_cons_of_mem _ ht)) (fun t ht => ?_)
    unfold onceStep at ht
    split at ht
    · exact ha t ht
    · rcases List.mem_append.1 ht with ht | ht
      · exact ha t ht
      · simp only [List.mem_cons, List.not_mem_nil, or_false] at ht
        subst ht
        exact hl _ List.mem_cons_self
theorem once_map {f : ByteArray → ByteArray} {l : List ByteArray} (hi : ∀ s t, s ∈ l → t ∈ l → f s = f t → s = t) : onceL (l.map f) = (onceL l).map f := once_mapF hi l [] (fun _ h => h) (fun s h => by simp at h)
theorem enames_map {f : ByteArray → ByteArray} {ps : List Pat} (h : ∀ p, p ∈ ps → noB p.name = false → noB (f p.name) = false) : enames (ps.map (mapP f)) = (enames ps).map f := by
  induction ps with
  | nil => rfl
  | cons p ps ih =>
    have ih := ih (fun p hp => h p (List.mem_cons_of_mem _ hp))
    simp only [enames, List.map_cons, List.filter_cons] at ih ⊢
    cases hn : noB p.name with
    | true =>
      have e : (mapP f p).name = p.name := by simp [mapP, hn]
      simp only [e, hn, Bool.not_true, Bool.false_eq_true, if_false]; exact ih
    | false =>
      have e : (mapP f p).name = f p.name := by simp [mapP, hn]
      simp only [e, h p List.mem_cons_self hn, Bool.not_false, if_true, List.map_cons, ih]
theorem qrySize_map (f : ByteArray → ByteArray) (q : Qry) : qrySize (mapQ f q) = qrySize q := by
  have : (q.pats.map (mapP f)).map pathParts = q.pats.map pathParts := by rw [List.map_map]; rfl
  simp only [qrySize, mapQ, List.length_map, this]
/-- what is right stays right, told anew by free names -/
theorem right_map {f : ByteArray → ByteArray} {q : Qry} (hf : ∀ s, s ∈ ownL q → noB s = false → freeB (f s) = true) (h : qryRight q = true) : qryRight (mapQ f q) = true := by
  have hno : ∀ s, freeB s = true → noB s = false := fun s hs => by
    cases hn : noB s with
    | false => rfl
    | true =>
      rw [noB_iff.1 hn] at hs
      exact absurd hs (by decide)
  have hv : ∀ s, s ∈ vnames q.pats → freeB s = true → freeB (f s) = true := fun s hs k => hf s (by simp only [ownL, List.mem_append, once_mem]; exact .inl (.inl hs)) (hno s k)
  have he : ∀ p, p ∈ q.pats → noB p.name = false → freeB (f p.name) = true := fun p hp hn => hf _ (by simp only [ownL, List.mem_append, once_mem]; exact .inl (.inr (by simp only [enames, List.mem_map, List.mem_filter]; exact ⟨p, ⟨hp, by simp [hn]⟩, rfl⟩))) hn
  have ho : ∀ o, o ∈ qOps q → freeB o.name = true → freeB (f o.name) = true := fun o hm k => hf _ (by simp only [ownL, List.mem_append]; exact .inr (List.mem_map.2 ⟨o, hm, rfl⟩)) (hno _ k)
  have hO : ∀ o, o ∈ qOps q → opdRight o = true → opdRight (mapO f o) = true := fun o hm k => by
    by_cases h1 : o.kind = 1
    · have e : mapO f o = { o with name := f o.name } := by unfold mapO; rw [if_pos (.inl h1)]
      rw [e]
      simp only [opdRight, h1, beq_self_eq_true, if_true, Bool.and_eq_true] at k ⊢
      exact ⟨⟨ho o hm k.1.1, k.1.2⟩, k.2⟩
    · by_cases h2 : o.kind = 2
      · have e : mapO f o = { o with name := f o.name } := by unfold mapO; rw [if_pos (.inr h2)]
        rw [e]
        simp only [opdRight, h2, beq_self_eq_true, if_true, Bool.and_eq_true, show ((2 : Int) == 1) = false from rfl, Bool.false_eq_true, if_false] at k ⊢
        exact ⟨⟨ho o hm k.1.1, k.1.2⟩, k.2⟩
      · have e : mapO f o = o := by unfold mapO; rw [if_neg (by simp [h1, h2])]
        rw [e]; exact k
  simp only [qryRight, Bool.and_eq_true, mapQ, List.length_map, List.all_map, List.all_eq_true] at h ⊢
  obtain ⟨⟨⟨h0, hp⟩, hc⟩, hr⟩ := h
  refine ⟨⟨⟨h0, fun p hm => ?_⟩, fun c hm => ?_⟩, fun o hm => ?_⟩
  · have k := hp p hm
    have e1 := hv p.frm ((vnames_mem _ _).2 ⟨p, hm, .inl rfl⟩)
    have e2 := hv p.to ((vnames_mem _ _).2 ⟨p, hm, .inr rfl⟩)
    simp only [Function.comp_apply, patRight, Bool.and_eq_true] at k ⊢
    refine ⟨⟨e1 k.1.1, e2 k.1.2⟩, ?_⟩
    have k2 := k.2
    cases hn : noB p.name with
    | true =>
      have e : (mapP f p).name = p.name := by simp [mapP, hn]
      rw [e]; exact k2
    | false =>
      have e : (mapP f p).name = f p.name := by simp [mapP, hn]
      rw [e]
      have e3 := he p hm hn
      show (if p.path = true then _ else _) = true
      cases hpp : p.path with
      | true => rw [hpp] at k2; simp [hn] at k2
      | false =>
        rw [hpp] at k2
        simp only [Bool.false_eq_true, if_false, Bool.and_eq_true] at k2 ⊢
        refine ⟨⟨k2.1.1, ?_⟩, k2.2⟩
        rw [e3]; simp
  · have k := hc c hm
    simp only [Function.comp_apply, cndRight, Bool.and_eq_true] at k ⊢
    exact ⟨⟨k.1.1, hO _ (List.mem_append_left _ (List.mem_flatMap.2 ⟨c, hm, by simp⟩)) k.1.2⟩, hO _ (List.mem_append_left _ (List.mem_flatMap.2 ⟨c, hm, by simp⟩)) k.2⟩
  · have k := hr o hm
    simp only [Function.comp_apply, tldRight, Bool.and_eq_true, mapO_kind] at k ⊢
    exact ⟨k.1, hO o (List.mem_append_right _ hm) k.2⟩

/-- all that the law asks -/
structure Back (q : Qry) (F T : List ByteArray) : Prop where
  back : mapQ (renN T F) (mapQ (renN F T) q) = q
  vert : onceL (vnames (q.pats.map (mapP (renN F T)))) = (onceL (vnames q.pats)).map (renN F T)
  edge : (onceL (enames (q.pats.map (mapP (renN F T))))).length = (onceL (enames q.pats)).length
  right : qryRight q = true → qryRight (mapQ (renN F T) q) = true
  okT : ∀ s, Go.Proofs.Yteihcfhdhkamfaa.okT s → Go.Proofs.Yteihcfhdhkamfaa.okT (renN F T s)
theorem back_all {q : Qry} {F T : List ByteArray} (fm : ∀ s, s ∈ F ↔ s ∈ ownL q ∧ noB s = false) (fn : F.Nodup) (tN : T.Nodup) (tl : T.length = F.length) (tM : ∀ s, s ∈ T → freeB s = true ∧ noB s = false) (hnot : ∀ s, s ∈ T → s ∉ F) : Back q F T := by
  have hT : ∀ s, s ∈ F → renN F T s ∈ T := fun s hs => by
    obtain ⟨k, hk, rfl⟩ := List.getElem_of_mem hs
    rw [renN_at fn tl hk]; exact List.getElem_mem _
  have hO : ∀ s, s ∈ ownL q → renN T F (renN F T s) = s := fun s hs => by
    refine renN_back fn tN tl ?_
    cases hn : noB s with
    | false => exact .inl ((fm s).2 ⟨hs, hn⟩)
    | true => exact .inr (fun ht => by rw [(tM s ht).2] at hn; cases hn)
  have hv : ∀ s, s ∈ vnames q.pats → s ∈ ownL q := fun s hs => by simp only [ownL, List.mem_append, once_mem]; exact .inl (.inl hs)
  have he : ∀ s, s ∈ enames q.pats → s ∈ ownL q := fun s hs => by simp only [ownL, List.mem_append, once_mem]; exact .inl (.inr hs)
  have ho : ∀ o, o ∈ qOps q → o.name ∈ ownL q := fun o hm => by simp only [ownL, List.mem_append]; exact .inr (List.mem_map.2 ⟨o, hm, rfl⟩)
  have hp : ∀ p, p ∈ q.pats → noB p.name = false → p.name ∈ enames q.pats := fun p hm hn => by
    simp only [enames, List.mem_map, List.mem_filter]; exact ⟨p, ⟨hm, by simp [hn]⟩, rfl⟩
  have hno : ∀ s, s ∈ ownL q → noB s = false → noB (renN F T s) = false ∧ freeB (renN F T s) = true := fun s hs hn => by
    have := tM _ (hT s ((fm s).2 ⟨hs, hn⟩)); exact ⟨this.2, this.1⟩
  refine ⟨?_, ?_, ?_, ?_, ?_⟩
  · exact mapQ_back (fun s hs => hO s (hv s hs)) (fun p hm hn => ⟨(hno _ (he _ (hp p hm hn)) hn).1, hO _ (he _ (hp p hm hn))⟩) (fun o hm => hO _ (ho o hm))
  · rw [vnames_map, once_map]
    intro s t hs ht h
    rw [← hO s (hv s hs), h, hO t (hv t ht)]
  · rw [enames_map (fun p hm hn => (hno _ (he _ (hp p hm hn)) hn).1), once_map, List.length_map]
    intro s t hs ht h
    rw [← hO s (he s hs), h, hO t (he t ht)]
  · exact right_map (fun s hs hn => (hno s hs hn).2)
  · intro s hs
    by_cases h : s ∈ F
    · have := (tM _ (hT s h)).1
      simp only [freeB, vertB, Bool.and_eq_true, decide_eq_true_eq] at this
      have := this.1.1.2
      unfold Go.Proofs.Yteihcfhdhkamfaa.okT; omega
    · rw [renN_not h]; exact hs
end Go.Proofs.Yteihcfhdhkamfaa
