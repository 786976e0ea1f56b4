/- tree.once: each name once, as it comes first. -/
import Derived.Maps.AppendAt
import Derived.Test.YteihcfhdhkamfaaNames
import Derived.Test.YteihcfhdhkamfaaName
namespace Go.Proofs.Yteihcfhdhkamfaa
open Go.RowKit Go.Shelf

attribute [local go_sem] Oper.semAt_some

def onceStep (out : List ByteArray) (s : ByteArray) : List ByteArray := if hasB out s then out else out ++ [s]
def onceL (xs : List ByteArray) : List ByteArray := xs.foldl onceStep []
theorem onceL_snoc (xs : List ByteArray) (s : ByteArray) : onceL (xs ++ [s]) = if hasB (onceL xs) s then onceL xs else onceL xs ++ [s] := by
  rw [onceL, List.foldl_append]; rfl
theorem onceL_len (xs : List ByteArray) : (onceL xs).length ≤ xs.length := by
  have key : ∀ (xs acc : List ByteArray), (xs.foldl onceStep acc).length ≤ acc.length + xs.length := by
    intro xs
    induction xs with
    | nil => simp
    | cons x xs ih =>
      intro acc
      have := ih (onceStep acc x)
      have h2 : (onceStep acc x).length ≤ acc.length + 1 := by unfold onceStep; split <;> simp
      simp only [List.foldl_cons, List.length_cons]; omega
  have := key xs []
  simpa [onceL] using this

theorem infoStr : (Try.prog.info? 9).map (fun i => (i.zero, i.size, i.bytes)) = some (some (.string ⟨#[]⟩), 1, 16) := by kernel_rfl

/-- a row of texts that is owned reads as these -/
theorem rdStrs_own {w : World} {base : Nat} {e : TypeId} {v : Value} {xs : List ByteArray} (h : w.ownsRow base e 1 v xs.length (xs.map Value.string)) : RdStrs w xs v := by
  obtain ⟨_, h | ⟨g, cap, cur, rfl, _, hg, h1, h2, h3, h4⟩⟩ := h
  · exact .inl ⟨.inl h.1, List.length_eq_zero_iff.1 h.2⟩
  · refine .inr ⟨g, 0, cap, rfl, h1, h2, fun i x hx => ⟨[.string x], rfl, ?_, trivial⟩⟩
    rw [cell_of_block hg]
    have hi := (List.getElem?_eq_some_iff.1 hx).1
    have : (cur.toList.take (xs.length * 1))[i]? = some (.string x) := by rw [h4]; simp [hx]
    rw [List.getElem?_take_of_lt (by omega)] at this
    simpa using this

set_option maxRecDepth 100000 in
set_option maxHeartbeats 8000000 in
theorem once_any (gf : Nat) (lb : Array Value) (names : List ByteArray) (w : World) (hN : names.length ≤ 1000000) (eg : ∀ args w, (callFunc gf args).run Try.prog w = .ok (.enter gf args) w)
    (hseq : ∀ W, Below w.heap.size w W → w.heap.size + 1 ≤ W.heap.size → SeqStopsK Fence.wide 8 Try.prog gf lb (fun s : ByteArray => #[Value.string s]) (Kept w.heap.size (w.heap.size + 1) 9) (fun L => L = names) (fun p => p <+: names) names.length W) :
    Calls Try.prog 73 #[.func (.func gf) #[] lb] w fun e w' => ∃ v, e = .returned v ∧ w'.ownsRow w.heap.size 9 1 v (onceL names).length ((onceL names).map Value.string) ∧ Below w.heap.size w w' := by
  refine (callsIn_wide (n := 9)).1 ?_
  have HQ := Lib.hid hseq; have HN := Lib.hid hN; have HE := Lib.hid eg
  clear hseq hN eg
  obtain ⟨i0, hi, hz0, hz1, hz2⟩ := info_parts infoStr
  have HI := Lib.hid (show _ ∧ _ ∧ _ ∧ _ from ⟨hi, hz0, hz1, hz2⟩)
  clear hi hz0 hz1 hz2
  refine callsIn_of_wp_marks Try.func73 rfl trivial ?_ rfl
  simp only [Try.ntmps73, List.size_toArray, List.length_cons, List.length_nil, Nat.reduceAdd, Nat.reduceSub, Array.replicate_succ, Array.replicate_zero, List.push_toArray, List.append_toArray, List.nil_append, List.cons_append]
  gi_wp2_with fail
  refine wpInW_scope ?_
  gi_wp2_with fail
  refine wpIn_label ?_
  gi_wp2_with fail
  have hs0 : (w.alloc (.cells #[.slice none 0 0] 40)).heap.size = w.heap.size + 1 := by simp
  have hb0 : Below w.heap.size w (w.alloc (.cells #[.slice none 0 0] 40)) := (Below.refl _ _).alloc (Nat.le_refl _) _
  have hbx := heap_new w (.cells #[.slice none 0 0] 40)
  generalize hW0 : w.alloc (.cells #[.slice none 0 0] 40) = W0 at *
  clear hW0
  refine rf_mv (lb := lb) (gf := gf) (lo := w.heap.size) (hi := w.heap.size + 1) (et := 9) rfl HE.out (HQ.out W0 hb0 (by omega)) (Below.refl _ _) (fun _ => rfl)
    (fun pre W => (∃ v, Boxed W w.heap.size 40 v ∧ W.ownsRow w.heap.size 9 1 v (onceL pre).length ((onceL pre).map Value.string) ∧ True) ∧ Below w.heap.size w W) (fun _ _ _ => False)
    (((holdsRow_own w.heap.size w.heap.size 40 9 1 (fun pre : List ByteArray => (onceL pre).length) (fun pre => (onceL pre).map Value.string) (fun _ _ => True)).from _).and (ownFrom_below (Nat.le_refl _) (by omega)))
    (fun _ _ _ _ _ hs _ _ => hs) ⟨⟨_, hbx, World.ownsRow_nil _ _ _ _, trivial⟩, hb0⟩ 3 (fun s => .string s) ?assign ?body ?done ?stop
  case assign =>
    intro l x W K hK
    simp only [handed, List.zip_cons_cons, List.zip_nil_left, List.foldl_cons, List.foldl_nil, List.setIfInBounds_toArray, List.set_cons_succ, List.set_cons_zero]
    simp only [handed, Act.setTmp, List.zip_cons_cons, List.zip_nil_left, List.foldl_cons, List.foldl_nil, List.setIfInBounds_toArray, List.set_cons_succ, List.set_cons_zero] at hK
    gi_wp2
    exact hK
  case body =>
    rintro l pre x W hl hrec ⟨⟨v, hv, hrow, -⟩, hB⟩ hlen
    have hvc := hv.cell
    have hvf := hv.frozen
    have hle := onceL_len pre
    have hNN := HN.out
    have HC := Lib.hid (contains_any (onceL pre) v x W (rdStrs_own hrow))
    have HS := Lib.hid (onceL_snoc pre x)
    simp only [handed, Act.setTmp, List.zip_cons_cons, List.zip_nil_left, List.foldl_cons, List.foldl_nil, List.setIfInBounds_toArray, List.set_cons_succ, List.set_cons_zero]
    cases hh : hasB (onceL pre) x
    · rw [hh] at HC HS
      clear hh
      have HV := Lib.hid hv; have HR := Lib.hid hrow; have HB := Lib.hid hB
      clear hv hrow hB
      gi_wp2_with fail
      refine ⟨trivial, (CallsIn.inRound l (callsIn_wide.2 HC.out)).mono ?_⟩
      rintro e w' ⟨rfl, rfl⟩
      gi_wp2_with (gi_at_builtin; refine wpListIn_append_own _ rfl _ _ 40 rfl w.heap.size 9 i0 (.string ⟨#[]⟩) 1 16 Try.underlying40 HI.out.1 HI.out.2.1 HI.out.2.2.1 HI.out.2.2.2 rfl (by decide) _ _ _ rfl (HR.out.alloc _) ⟨W.heap.size, 0, none⟩ 1 1 [.string x] rfl rfl (cell_one_new _ _ _) (by simp [Value.oneCell']) (by unfold maxLen; omega) (by omega) (by have := HB.out.size; simp; omega) ?_; intro v' w1 hown' hgrow _; obtain ⟨g', cap', rfl⟩ := ownsRow_succ hown'; obtain ⟨hv1, hv2, hr2, hk2, hb2⟩ := HV.out.appended (by decide) HR.out HB.out.size (Nat.le_refl _) hown' hgrow; have HKP := Lib.hid (kept_appended (hi := w.heap.size + 1) HR.out hgrow (Nat.le_refl _) (Nat.lt_succ_self _) (.slice (some ⟨g', 0, none⟩) ((onceL pre).length + 1) cap')); have hc1 := hv1.cell; have hf1 := hv1.frozen; have HV2 := Lib.hid hv2; have HR2 := Lib.hid hr2; have HK2 := Lib.hid hk2; have HB2 := Lib.hid hb2; clear hv1 hv2 hr2 hk2 hb2 hown' hgrow)
      refine ⟨HK2.out.from _, HKP.out, ⟨_, HV2.out, ?_, trivial⟩, HB.out.trans HB2.out⟩
      rw [HS.out]; simpa using HR2.out
    · rw [hh] at HC HS
      clear hh
      have HV := Lib.hid hv; have HR := Lib.hid hrow; have HB := Lib.hid hB
      clear hv hrow hB
      gi_wp2_with fail
      refine ⟨trivial, (CallsIn.inRound l (callsIn_wide.2 HC.out)).mono ?_⟩
      rintro e w' ⟨rfl, rfl⟩
      gi_wp2
      refine ⟨KeepsFrom.refl _ _, Kept.refl _ _ _ _, ⟨v, HV.out, ?_, trivial⟩, HB.out⟩
      rw [HS.out, if_pos trivial]; exact HR.out
  case done =>
    rintro D xs W hD rfl ⟨⟨v, hv, hrow, -⟩, hB⟩ hK
    have hvc := hv.cell
    have hvf := hv.frozen
    obtain ⟨pv, cv, rfl⟩ : ∃ pv cv, v = .slice pv (onceL xs).length cv := by
      rcases hrow.2 with ⟨rfl, h0⟩ | ⟨g, cap, _, rfl, _⟩
      · exact ⟨none, 0, by rw [h0]⟩
      · exact ⟨_, _, rfl⟩
    have HV := Lib.hid hv; have HR := Lib.hid hrow; have HB := Lib.hid hB; have HK := Lib.hid hK; have HD := Lib.hid hD; have H0 := Lib.hid hs0
    clear hv hrow hB hK hD hs0 hb0 hbx
    gi_wp2_with fail
    rw [Exit.noGoto_ret]
    have hD := HD.out; have h0 := H0.out
    have hKs := block_set_other HK.out (b := w.heap.size) (o := 0) (.slice pv (onceL xs).length cv) (by omega)
    refine ⟨by simp, .inl ⟨_, _, rfl, run_takeDeferred hKs, ?_⟩⟩
    have hrow2 : (W.setCell ⟨w.heap.size, 0, none⟩ (.slice pv (onceL xs).length cv)).ownsRow w.heap.size 9 1 (.slice pv (onceL xs).length cv) (onceL xs).length ((onceL xs).map Value.string) := HR.out.kept (grownBy_setCell' W w.heap.size _) (.inr (HV.out.not_row (by decide) HR.out).symm)
    have hbx := block_put_other (block_set (show W.heap[w.heap.size]? = some (.cells #[.slice pv (onceL xs).length cv] 40 (0, 0)) from HV.out) (.slice pv (onceL xs).length cv)) (.deferred none) (D := D) (by omega)
    have hcf := cell_of_block hbx 0
    simp only [List.getElem?_toArray, List.getElem?_cons_zero] at hcf
    refine ⟨.slice pv (onceL xs).length cv, ?_, _, rfl, ownsRow_putObj hrow2 _ hKs rfl, ?_⟩
    · simp [results, Try.results73, go_sem, hcf]
    · exact below_mark (HB.out.setCell (p := ⟨w.heap.size, 0, none⟩) (Nat.le_refl _) _) (by omega) _ hKs
  case stop =>
    rintro D c pre W _ _ h _
    exact h.elim
end Go.Proofs.Yteihcfhdhkamfaa
