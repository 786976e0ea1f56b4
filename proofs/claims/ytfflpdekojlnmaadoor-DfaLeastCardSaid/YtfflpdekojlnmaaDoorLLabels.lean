/- expr.Labels: the labels that stand in an expression, rising, each once. -/
import Derived.Test.YtfflpdekojlnmaaDoorLOnceC
import Derived.Test.YtfflpdekojlnmaaDoorLBehP
import Derived.Test.YtfflpdekojlnmaaDoorLDfaA
import Derived.Test.YtfflpdekojlnmaaDoorLDfaS
import Derived.Shelf.Slices.CompactS
import Derived.Lib.RowBridge
set_option linter.unusedSimpArgs false
set_option linter.unusedVariables false
namespace Go.Proofs.YtfflpdekojlnmaaDoor
open Go.RowKit Go.Shelf

def cmpSRen : Go.Shelf.Ren := ⟨fun | 194 => 26 | n => n, fun | 31 => 36 | 9 => 9 | 3 => 3 | 4 => 4 | 0 => 0 | n => n, fun n => n⟩
theorem cmpSLays : Lays.n194 Tryd.prog cmpSRen := {
 mixed := by kernel_rfl
 f194 := Tryd.func26
 t0 := by kernel_rfl
 a0 := fun w => by kernel_rfl
 z0 := fun w => by kernel_rfl
 v0 := fun w => by kernel_rfl
 t3 := by kernel_rfl
 a3 := fun w => by kernel_rfl
 z3 := fun w => by kernel_rfl
 v3 := fun w => by kernel_rfl
 t4 := by kernel_rfl
 a4 := fun w => by kernel_rfl
 z4 := fun w => by kernel_rfl
 v4 := fun w => by kernel_rfl
 t9 := by kernel_rfl
 a9 := fun w => by kernel_rfl
 z9 := fun w => by kernel_rfl
 v9 := fun w => by kernel_rfl
 t31 := by kernel_rfl
 a31 := fun w => by kernel_rfl
 z31 := fun w => by kernel_rfl
 v31 := fun w => by kernel_rfl }
attribute [local go_sem] Oper.semAt_some
def labC (l : List XC) : List ByteArray := (l.filter (fun c => c.kind == 1)).map (fun c => c.label)
theorem labC_snoc (l : List XC) (c : XC) : labC (l ++ [c]) = if c.kind = 1 then labC l ++ [c.label] else labC l := by
 by_cases h : c.kind = 1 <;> simp [labC, h]
theorem labC_len (l : List XC) : (labC l).length ≤ l.length := by
 rw [labC, List.length_map]; exact List.length_filter_le _ _
def labU (x : Ex) : List (List UInt8) := Go.Lib.compact (((labE x).map (fun s => s.data.toList)).mergeSort (fun x y => decide (x ≤ y)))
def labX (x : Ex) : List ByteArray := (labU x).map (fun l => ⟨l.toArray⟩)
open Go.Sort in
set_option maxRecDepth 100000 in
set_option maxHeartbeats 8000000 in
theorem labels_any (x : Ex) (cx : List Value) (w : World) (hx : RdEx w x cx) (hok : x.ok) (hR : exRight x = true) (hN : (exParts x).length ≤ 1000000) (hE : ∀ L : List XC, L.map XC.sig = (exParts x).map Ex.sig → labC L = labE x) :
  Calls Tryd.prog 16 #[.agg cx.toArray] w fun e w' => ∃ v, e = .returned v ∧ RdStrs w' (labX x) v ∧ Below w.heap.size w w' ∧ ∀ b off n c, v = .slice (some ⟨b, off, none⟩) n c → w.heap.size ≤ b := by
 have HRt := Lib.hid (fun W hb => hR ▸ xRight_any x cx W (hx.below hb) hok)
 obtain ⟨k, s, kids⟩ := x
 have hx' := hx
 rw [RdEx] at hx
 obtain ⟨sv, rfl, hr⟩ := hx
 obtain ⟨p, c, rfl, -, -⟩ := hr.shape
 refine (callsIn_wide (n := 9)).1 ?_
 have HX := Lib.hid hx'; have HO := Lib.hid hok; have HN := Lib.hid hN; have HE := Lib.hid hE
 clear hx' hok hN hr hE
 obtain ⟨i0, hi, hz0, hz1, hz2⟩ := info_parts infoStr
 have HI := Lib.hid (show _ ∧ _ ∧ _ ∧ _ from ⟨hi, hz0, hz1, hz2⟩)
 clear hi hz0 hz1 hz2
 refine callsIn_of_wp_marks Tryd.func16 rfl trivial ?_ rfl
 simp only [Tryd.ntmps16, List.size_toArray, List.length_cons, List.length_nil, Nat.reduceAdd, Nat.reduceSub, Array.replicate_succ, Array.replicate_zero, List.push_toArray, List.append_toArray, List.nil_append, List.cons_append]
 gi_wp2_with fail
 refine ⟨trivial, (callsIn_wide.2 (HRt.out _ (((Below.refl w.heap.size w).alloc (Nat.le_refl _) _).alloc (by simp) _))).mono ?_⟩
 rintro e w1 ⟨rfl, hb1⟩
 have HB1 := Lib.hid hb1; clear hb1
 have hxb : w1.heap[w.heap.size]? = some (.cells #[.int .i64 k, .string s, .slice p kids.length c] 25 (0, 0)) := (HB1.out.block w.heap.size (by simp; omega)).trans (block_alloc (heap_new w (.cells #[.int .i64 k, .string s, .slice p kids.length c] 25)) _)
 have hob : w1.heap[w.heap.size + 1]? = some (.cells #[.slice none 0 0] 36 (0, 0)) := (HB1.out.block (w.heap.size + 1) (by simp)).trans (by have := heap_new (w.alloc (.cells #[.int .i64 k, .string s, .slice p kids.length c] 25)) (.cells #[.slice none 0 0] 36); simpa using this)
 have hx0 := cell_of_block hxb 0
 have hx1 := cell_of_block hxb 1
 have hx2 := cell_of_block hxb 2
 simp only [List.getElem?_toArray, List.getElem?_cons_zero, List.getElem?_cons_succ] at hx0 hx1 hx2
 gi_wp2_with fail
 refine ⟨trivial, ?_⟩
 refine (callsIn_wide.2 (parts_any _ _ _ _ _ _)).mono ?_
 rintro e w' ⟨rfl, rfl⟩
 gi_wp2_with fail
 have hn1 : w.heap.size + 2 ≤ w1.heap.size := by simpa using HB1.out.size
 obtain ⟨W0, hW0⟩ : ∃ W0, w1.alloc (.cells #[.int .i64 k, .string s, .slice p kids.length c] 25) = W0 := ⟨_, rfl⟩
 have hs0 : W0.heap.size = w1.heap.size + 1 := by rw [← hW0]; simp
 have hb01 : Below w1.heap.size w1 W0 := by rw [← hW0]; exact (Below.refl _ _).alloc (Nat.le_refl _) _
 have hb0 : Below w.heap.size w W0 := below_step (below_step (((Below.refl w.heap.size w).alloc (Nat.le_refl _) _).alloc (by simp) _) HB1.out) hb01
 have hbo : W0.heap[w.heap.size + 1]? = some (.cells #[.slice none 0 0] 36 (0, 0)) := (hb01.block _ (by omega)).trans hob
 have hbp : W0.heap[w1.heap.size]? = some (.cells #[.int .i64 k, .string s, .slice p kids.length c] 25 (0, 0)) := by rw [← hW0]; exact heap_new w1 _
 have hseq := parts_stops Fence.wide (fun _ => trivial) rfl rfl 8 w.heap.size (w.heap.size + 2) w1.heap.size 9 (by decide) _ _ w W0 (Nat.le_refl _) (by omega) HX.out HO.out (.of hb0) hbp
 rw [hW0]
 clear hxb hob hx0 hx1 hx2 hbp
 refine rf_box (lb := #[.pointer (some ⟨w1.heap.size, 0, none⟩)]) (gf := 41) rfl (enters_of Tryd.func41 (by kernel_rfl) rfl) hseq (Below.refl _ _) (fun _ => rfl)
  (fun pre W => (∃ v, Boxed W (w.heap.size + 1) 36 v ∧ W.ownsRow w.heap.size 9 1 v (labC pre).length ((labC pre).map Value.string) ∧ True) ∧ (Below w.heap.size w W ∧ W0.heap.size ≤ W.heap.size)) (fun _ _ _ => False)
  (((holdsRow_own w.heap.size (w.heap.size + 1) 36 9 1 (fun pre : List XC => (labC pre).length) (fun pre => (labC pre).map Value.string) (fun _ _ => True)).from _).and ((ownFrom_below (Nat.le_refl _) (by omega)).and (fun _ _ _ _ hs hg _ => Nat.le_trans hs hg.size)))
  (fun _ _ _ _ _ hs _ _ => hs) ⟨⟨_, hbo, World.ownsRow_nil _ _ _ _, trivial⟩, hb0, Nat.le_refl _⟩ 3 (fun c => #[.int .i64 c.kind, .string c.label, .slice c.ptr c.len c.cap]) 25 (fun _ _ h => h.2.2) ?assign ?body ?done ?stop
 case assign =>
  intro l x W K hK
  simp only [handed, XC.val, List.zip_cons_cons, List.zip_nil_left, List.foldl_cons, List.foldl_nil, List.setIfInBounds_toArray, List.set_cons_succ, List.set_cons_zero]
  simp only [handed, XC.val, Act.setTmp, List.zip_cons_cons, List.zip_nil_left, List.foldl_cons, List.foldl_nil, List.setIfInBounds_toArray, List.set_cons_succ, List.set_cons_zero] at hK
  gi_wp2
  exact hK
 case body =>
  rintro l pre x B W hl hrec ⟨⟨v, hv, hrow, -⟩, hB, hsz⟩ hBB hbB hlen
  have hvc := hv.cell
  have hvf := hv.frozen
  have hle := labC_len pre
  have hNN := HN.out
  have hp0 := cell_of_block hbB 0
  have hp1 := cell_of_block hbB 1
  simp only [List.getElem?_toArray, List.getElem?_cons_zero, List.getElem?_cons_succ] at hp0 hp1
  have HS := Lib.hid (labC_snoc pre x)
  have hxl := x.hl
  simp only [handed, Act.setTmp, List.zip_cons_cons, List.zip_nil_left, List.foldl_cons, List.foldl_nil, List.setIfInBounds_toArray, List.set_cons_succ, List.set_cons_zero]
  by_cases hh : x.kind = 1
  ·have HH := Lib.hid hh
   have HV := Lib.hid hv; have HR := Lib.hid hrow; have HB := Lib.hid hB; have HZ := Lib.hid hsz
   clear hv hrow hB hsz
   gi_wp2_with (gi_at_builtin; refine wpListIn_append_own _ rfl _ _ 36 rfl w.heap.size 9 i0 (.string ⟨#[]⟩) 1 16 Tryd.underlying36 HI.out.1 HI.out.2.1 HI.out.2.2.1 HI.out.2.2.2 rfl (by decide) _ _ _ rfl (HR.out.alloc _) ⟨W.heap.size, 0, none⟩ 1 1 [.string x.label] rfl rfl (cell_one_new _ _ _) (by simp [Value.oneCell']) (by unfold maxLen; omega) (by omega) (by have := HB.out.size; simp; omega) ?_; intro v' w1' hown' hgrow _; obtain ⟨g', cap', rfl⟩ := ownsRow_succ hown'; obtain ⟨hv1, hv2, hr2, hk2, hb2⟩ := HV.out.appended (by decide) HR.out HB.out.size (Nat.le_succ _) hown' hgrow; have HKP := Lib.hid (kept_appended (hi := w.heap.size + 2) HR.out hgrow (Nat.le_succ _) (Nat.lt_succ_self _) (.slice (some ⟨g', 0, none⟩) ((labC pre).length + 1) cap')); have hc1 := hv1.cell; have hf1 := hv1.frozen; have HV2 := Lib.hid hv2; have HR2 := Lib.hid hr2; have HK2 := Lib.hid hk2; have HB2 := Lib.hid hb2; clear hv1 hv2 hr2 hk2 hb2 hown' hgrow)
   refine ⟨HK2.out.from _, HKP.out, ⟨_, HV2.out, ?_, trivial⟩, HB.out.trans HB2.out, Nat.le_trans HZ.out HK2.out.size⟩
   rw [HS.out, if_pos HH.out]; simpa using HR2.out
  ·have HH := Lib.hid hh
   have HV := Lib.hid hv; have HR := Lib.hid hrow; have HB := Lib.hid hB; have HZ := Lib.hid hsz
   clear hv hrow hB hsz
   gi_wp2
   refine ⟨KeepsFrom.refl _ _, Kept.refl _ _ _ _, ⟨v, HV.out, ?_, trivial⟩, HB.out, HZ.out⟩
   rw [HS.out, if_neg HH.out]; exact HR.out
 case done =>
  rintro D xs W hD hS ⟨⟨v, hv, hrow, -⟩, hB, hsz⟩ hK
  rw [HE.out xs hS] at hrow
  have hne : ¬ w.heap.size + 1 = D := by omega
  have hvc := hv.cell
  have hvf := hv.frozen
  have hob : W.heap[w.heap.size + 1]? = some (.cells #[v] 36 (0, 0)) := hv
  have hlen : (labE (.mk k s kids)).length ≤ 1000000 := by
   rw [← HE.out xs hS]
   have h1 := labC_len xs
   have h2 := HN.out
   have h3 : xs.length = (exParts (.mk k s kids)).length := by simpa using congrArg List.length hS
   omega
  have HBw := Lib.hid hB; have HKw := Lib.hid hK
  have hD2 : w1.heap.size + 1 ≤ D := by omega
  clear hB hK hS hsz hs0 hb01 hb0 hbo hseq
  rcases hrow.2 with ⟨rfl, hz⟩ | ⟨g, cap, cur, rfl, hgb, hgh, r1, r2, r3, r4⟩
  ·have hnil : labE (.mk k s kids) = [] := List.eq_nil_of_length_eq_zero hz
   have HNil := Lib.hid hnil; have HOb := Lib.hid hob
   clear hrow hv hob hnil hz
   gi_wp2_with fail
   refine ⟨trivial, (callsIn_wide.2 (AnyM.slices_Sort_string_none sortSLays none 0 _)).mono ?_⟩
   rintro e w2 ⟨rfl, rfl⟩
   gi_wp2_with fail
   refine ⟨trivial, (callsIn_wide.2 (Any.slices_Compact_string_empty cmpSLays none 0 _)).mono ?_⟩
   rintro e w2 ⟨rfl, rfl⟩
   gi_wp2_with fail
   have hKs := block_set_other HKw.out (b := w.heap.size + 1) (o := 0) (.slice none 0 0) (by omega)
   refine ⟨by simp, .inl ⟨_, _, rfl, run_takeDeferred hKs, ?_⟩⟩
   have hbx := block_put_other (block_set HOb.out (.slice none 0 0)) (.deferred none) (D := D) hne
   have hcf := cell_of_block hbx 0
   simp only [List.getElem?_toArray, List.getElem?_cons_zero] at hcf
   refine ⟨.slice none 0 0, ?_, _, rfl, ?_, ?_, fun b off n c e => by cases e⟩
   ·simp [results, Tryd.results16, go_sem, hcf]
   ·have : labX (.mk k s kids) = [] := by rw [labX, labU, HNil.out, List.map_nil, List.mergeSort_nil]; rfl
    rw [this]; exact .inl ⟨.inl rfl, rfl⟩
   ·exact below_mark (HBw.out.setCell (p := ⟨w.heap.size + 1, 0, none⟩) (Nat.le_succ _) _) (by omega) _ hKs
  ·obtain ⟨nm, hnm⟩ : ∃ nm : List (List UInt8), (labE (.mk k s kids)).map (fun s => s.data.toList) = nm := ⟨_, rfl⟩
   have hl1 : (labE (.mk k s kids)).length = nm.length := by rw [← hnm, List.length_map]
   have hen : (labE (.mk k s kids)).map Value.string = nm.map encStr := by
    rw [← hnm, List.map_map]; exact List.map_congr_left fun p _ => by simp [encStr]
   have hU : labU (.mk k s kids) = Go.Lib.compact (nm.mergeSort (fun x y => decide (x ≤ y))) := by rw [labU, hnm]
   rw [hl1] at hlen
   simp only [hl1, hen] at r1 r4 hvc hv hob hrow
   rw [Nat.mul_one] at r4
   have hgl : g < W.heap.size := (Array.getElem?_eq_some_iff.1 hgh).1
   have hgo : w.heap.size + 1 ≠ g := fun e => by
    subst e; rw [hob] at hgh; cases hgh
   have hgD : D ≠ g := fun e => by
    subst e; have := HKw.out; rw [this] at hgh; cases hgh
   have hH := holds_of_block hgh r4
   have CS := Lib.hid (AnyM.slices_Sort_string sortSLays g 0 cap nm W hH hgl (by omega))
   have HOb := Lib.hid hob; have HG := Lib.hid hgh; have HR := Lib.hid (show _ ∧ _ ∧ _ from ⟨r1, r2, r3⟩); have HU := Lib.hid hU
   clear hrow hv hob hH r4 hnm hen hU r1 r2 r3 hgh
   simp only [hl1]
   clear hl1
   gi_wp2_with fail
   refine ⟨trivial, (callsIn_wide.2 CS.out).mono ?_⟩
   rintro e w2 ⟨rfl, kk, os, rfl⟩
   obtain ⟨r1, r2, r3⟩ := HR.out
   have hg2 := heap_sorted (n := kk) (os := os) (nm.mergeSort (fun x y => decide (x ≤ y))).toArray HG.out
   have hgr2 := grownBy_sorted (w := W) (g := g) (n := kk) (os := os) (nm.mergeSort (fun x y => decide (x ≤ y))).toArray
   have hls : (nm.mergeSort (fun x y => decide (x ≤ y))).length = nm.length := List.length_mergeSort _
   have htk := take_putCells cur (nm.mergeSort (fun x y => decide (x ≤ y))) (by rw [hls, r3]; omega)
   have hsz2 : (putCells encStr 0 (nm.mergeSort (fun x y => decide (x ≤ y))).toArray cur).size = cap := by simp [putCells, r3]
   have hDl : D < W.heap.size := (Array.getElem?_eq_some_iff.1 HKw.out).1
   generalize hW2 : Go.Sort.grow (putRow encStr (Go.Sort.ahead W kk) g 0 (nm.mergeSort (fun x y => decide (x ≤ y))).toArray) os = W2 at *
   have hob2 : W2.heap[w.heap.size + 1]? = some (.cells #[.slice (some ⟨g, 0, none⟩) nm.length cap] 36 (0, 0)) := (hgr2.block _ (Array.getElem?_eq_some_iff.1 HOb.out).1 (by simpa using hgo)).trans HOb.out
   have hD3 : W2.heap[D]? = some (.deferred (some [])) := (hgr2.block _ hDl (by simpa using hgD)).trans HKw.out
   have hB2 : Below w.heap.size w W2 := HBw.out.grown hgr2 HBw.out.size (fun j e => by cases e; exact hgb)
   have hc2 := cell_of_block hob2 0
   have hf2 := frozen_of_block hob2 0
   simp only [List.getElem?_toArray, List.getElem?_cons_zero] at hc2
   have hH2 := holds_of_block hg2 htk
   have CC := Lib.hid (Any.slices_Compact_string cmpSLays g 0 cap (nm.mergeSort (fun x y => decide (x ≤ y))) W2 hH2 (by omega) (by omega))
   rw [hls] at CC
   have HG2 := Lib.hid hg2; have HOb2 := Lib.hid hob2; have HD3 := Lib.hid hD3; have HB2 := Lib.hid hB2; have HS2 := Lib.hid hsz2
   clear hg2 hgr2 htk hsz2 hW2 hob2 hD3 hB2 hH2 HOb HG HKw HBw CS hvc hvf
   gi_wp2_with fail
   refine ⟨trivial, (callsIn_wide.2 CC.out).mono ?_⟩
   rintro e w3 ⟨rfl, q, rfl⟩
   have hcl : (labU (.mk k s kids)).length ≤ nm.length := by rw [HU.out, ← hls]; exact Go.Lib.compact_length_le _
   rw [← HU.out]
   generalize hZ : (labU (.mk k s kids) ++ List.replicate (nm.length - (labU (.mk k s kids)).length) ([] : List UInt8)) = Z
   have hZl : Z.length = nm.length := by rw [← hZ, List.length_append, List.length_replicate]; omega
   have hg3 := heap_sorted (n := q) (os := #[]) Z.toArray HG2.out
   have hgr3 := grownBy_sorted (w := W2) (g := g) (n := q) (os := #[]) Z.toArray
   have htk := take_putCells (putCells encStr 0 (nm.mergeSort (fun x y => decide (x ≤ y))).toArray cur) Z (by rw [hZl, HS2.out]; omega)
   rw [grow_empty] at hg3 hgr3
   have hDl : D < W2.heap.size := (Array.getElem?_eq_some_iff.1 HD3.out).1
   generalize putRow encStr (Go.Sort.ahead W2 q) g 0 Z.toArray = W3 at *
   have hob3 : W3.heap[w.heap.size + 1]? = some (.cells #[.slice (some ⟨g, 0, none⟩) nm.length cap] 36 (0, 0)) := (hgr3.block _ (Array.getElem?_eq_some_iff.1 HOb2.out).1 (by simpa using hgo)).trans HOb2.out
   have hD4 : W3.heap[D]? = some (.deferred (some [])) := (hgr3.block _ hDl (by simpa using hgD)).trans HD3.out
   have hB3 : Below w.heap.size w W3 := HB2.out.grown hgr3 HB2.out.size (fun j e => by cases e; exact hgb)
   have hc3 := cell_of_block hob3 0
   have hf3 := frozen_of_block hob3 0
   simp only [List.getElem?_toArray, List.getElem?_cons_zero] at hc3
   have HG3 := Lib.hid hg3; have HOb3 := Lib.hid hob3; have HD4 := Lib.hid hD4; have HB3 := Lib.hid hB3; have HT := Lib.hid htk; have HZ := Lib.hid hZ; have HZl := Lib.hid hZl
   clear hg3 hgr3 htk hob3 hD4 hB3 hZ hZl hc2 hf2
   gi_wp2_with fail
   have hKs := block_set_other HD4.out (b := w.heap.size + 1) (o := 0) (.slice (some ⟨g, 0, none⟩) (labU (.mk k s kids)).length cap) (by omega)
   refine ⟨by simp, .inl ⟨_, _, rfl, run_takeDeferred hKs, ?_⟩⟩
   have hbx := block_put_other (block_set HOb3.out (.slice (some ⟨g, 0, none⟩) (labU (.mk k s kids)).length cap)) (.deferred none) (D := D) hne
   have hcf := cell_of_block hbx 0
   simp only [List.getElem?_toArray, List.getElem?_cons_zero] at hcf
   refine ⟨.slice (some ⟨g, 0, none⟩) (labU (.mk k s kids)).length cap, ?_, _, rfl, ?_, ?_, fun b off n c e => by cases e; exact hgb⟩
   ·simp [results, Tryd.results16, go_sem, hcf]
   ·have hg4 := block_put_other (block_set_other HG3.out (b := w.heap.size + 1) (o := 0) (.slice (some ⟨g, 0, none⟩) (labU (.mk k s kids)).length cap) hgo.symm) (.deferred none) (D := D) hgD.symm
    refine .inr ⟨g, 0, cap, by rw [labX, List.length_map], by rw [labX, List.length_map]; omega, r2, fun i x hx => ⟨[.string x], rfl, ?_, trivial⟩⟩
    rw [cell_of_block hg4]
    have hi : i < (labU (.mk k s kids)).length := by simpa [labX] using (List.getElem?_eq_some_iff.1 hx).1
    have e1 := congrArg (fun l : List Value => l[i]?) HT.out
    have hZi : Z[i]? = some (labU (.mk k s kids))[i] := by rw [← HZ.out, List.getElem?_append_left hi, List.getElem?_eq_getElem hi]
    rw [HZl.out, List.getElem?_take_of_lt (by omega), Array.getElem?_toList, List.getElem?_map, hZi] at e1
    rw [Nat.zero_add, Nat.mul_one, e1]
    rw [labX, List.getElem?_map, List.getElem?_eq_getElem hi] at hx
    simp only [Option.map_some, Option.some.injEq] at hx
    simp [encStr, ← hx]
   ·exact below_mark (HB3.out.setCell (p := ⟨w.heap.size + 1, 0, none⟩) (Nat.le_succ _) _) (by omega) _ hKs
 case stop =>
  rintro D c pre W _ _ h _
  exact h.elim
end Go.Proofs.YtfflpdekojlnmaaDoor
