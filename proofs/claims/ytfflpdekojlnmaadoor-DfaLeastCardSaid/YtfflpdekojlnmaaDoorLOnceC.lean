/- expr.Size, expr.Right -/
import Derived.Test.YtfflpdekojlnmaaDoorLWalk
import Derived.Test.YtfflpdekojlnmaaDoorLValue
import Derived.Test.YtfflpdekojlnmaaDoorProg
import Derived.Test.YtfflpdekojlnmaaDoorLBase2
import Derived.StillTailTactics
import Derived.Test.YtfflpdekojlnmaaDoorLEnc
import Derived.Test.YtfflpdekojlnmaaDoorLBehP
import Derived.Test.YtfflpdekojlnmaaDoorLAbsV
namespace Go.Proofs.YtfflpdekojlnmaaDoor
open Go.RowKit Go.Shelf

attribute [local go_sem] Oper.semAt_some

theorem exRight_stop {x : Ex} {q : List XC} (h : q.map XC.sig <+: (exParts x).map Ex.sig) (hq : 24 < q.length ∨ ∃ c, c ∈ q ∧ partS c.sig = false) : exRight x = false := by
 rw [exRight_sig]
 obtain ⟨r, hr⟩ := h
 rw [← hr]
 rcases hq with hq | ⟨c, hc, hf⟩
 ·rw [decide_eq_false (by simp; omega), Bool.false_and]
 ·have : (q.map XC.sig ++ r).all partS = false := by
   rw [List.all_eq_false]
   exact ⟨c.sig, by simp; exact .inl ⟨c, hc, rfl⟩, by rw [hf]; decide⟩
  rw [this, Bool.and_false]
theorem exRight_done {x : Ex} {q : List XC} (h : q.map XC.sig = (exParts x).map Ex.sig) (hq : q.length ≤ 24) (hp : ∀ c, c ∈ q → partS c.sig = true) : exRight x = true := by
 rw [exRight_sig, ← h, decide_eq_true (by simpa using hq), Bool.true_and, List.all_map, List.all_eq_true]
 exact hp

set_option maxRecDepth 100000 in
set_option maxHeartbeats 4000000 in
theorem xRight_any (x : Ex) (cx : List Value) (w : World) (hx : RdEx w x cx) (hok : x.ok) :
  Calls Tryd.prog 21 #[.agg cx.toArray] w (Ret w (.bool (exRight x))) := by
 obtain ⟨k, s, kids⟩ := x
 have hx' := hx
 rw [RdEx] at hx
 obtain ⟨sv, rfl, hr⟩ := hx
 obtain ⟨p, c, rfl, -, -⟩ := hr.shape
 refine (callsIn_wide (n := 9)).1 ?_
 have HX := Lib.hid hx'; have HO := Lib.hid hok
 clear hx' hok hr
 refine callsIn_of_wp_marks Tryd.func21 rfl trivial ?_ rfl
 simp only [Tryd.ntmps21, List.size_toArray, List.length_cons, List.length_nil, Nat.reduceAdd, Nat.reduceSub, Array.replicate_succ, Array.replicate_zero, List.push_toArray, List.append_toArray, List.nil_append, List.cons_append]
 gi_wp2_with fail
 refine ⟨trivial, ?_⟩
 refine (callsIn_wide.2 (parts_any _ _ _ _ _ _)).mono ?_
 rintro e w' ⟨rfl, rfl⟩
 gi_wp2_with fail
 obtain ⟨bx, hbx⟩ : ∃ bx : Obj, bx = .cells #[.int .i64 k, .string s, .slice p kids.length c] 25 := ⟨_, rfl⟩
 rw [← hbx]
 obtain ⟨W0, hW0⟩ : ∃ W0, (((w.alloc bx).alloc (.cells #[.bool false] 4)).alloc (.cells #[.int .i64 0] 3)).alloc bx = W0 := ⟨_, rfl⟩
 have hs0 : W0.heap.size = w.heap.size + 4 := by rw [← hW0]; simp
 have hb0 : Below w.heap.size w W0 := by rw [← hW0]; exact ((((Below.refl w.heap.size w).alloc (Nat.le_refl _) _).alloc (by simp) _).alloc (by simp; omega) _).alloc (by simp; omega) _
 have hbr : W0.heap[w.heap.size + 1]? = some (.cells #[.bool false] 4 (0, 0)) := by rw [← hW0]; exact block_alloc (block_alloc (by simpa using heap_new (w.alloc bx) _) _) _
 have hbn : W0.heap[w.heap.size + 2]? = some (.cells #[.int .i64 0] 3 (0, 0)) := by rw [← hW0]; exact block_alloc (by simpa using heap_new ((w.alloc bx).alloc (.cells #[.bool false] 4)) _) _
 have hbp : W0.heap[w.heap.size + 3]? = some bx := by rw [← hW0]; simpa using heap_new (((w.alloc bx).alloc (.cells #[.bool false] 4)).alloc (.cells #[.int .i64 0] 3)) bx
 rw [hbx] at hbp
 have hseq := parts_stops Fence.wide (fun _ => trivial) rfl rfl 8 w.heap.size (w.heap.size + 3) (w.heap.size + 3) 0 (by decide) _ _ w W0 (Nat.le_refl _) (by omega) HX.out HO.out (.of hb0) hbp
 rw [hW0]
 clear hbx
 refine rf_box (lb := #[.pointer (some ⟨w.heap.size + 3, 0, none⟩)]) (gf := 41) rfl (enters_of Tryd.func41 (by kernel_rfl) rfl) hseq (Below.refl _ _) (fun _ => rfl)
  (fun pre W => (Below w.heap.size w W ∧ W.heap[w.heap.size + 2]? = some (.cells #[.int .i64 pre.length] 3 (0, 0)) ∧ W.heap[w.heap.size + 1]? = some (.cells #[.bool false] 4 (0, 0)) ∧ W0.heap.size ≤ W.heap.size) ∧ pre.length ≤ 24 ∧ ∀ c, c ∈ pre → partS c.sig = true)
  (fun c pre W => (Below w.heap.size w W ∧ W.heap[w.heap.size + 1]? = some (.cells #[.bool false] 4 (0, 0))) ∧ c = .ret ∧ (24 < pre.length ∨ ∃ c, c ∈ pre ∧ partS c.sig = false))
  (((ownFrom_below (Nat.le_refl _) (by omega)).and ((ownFrom_box _ _ (fun s : List XC => #[.int .i64 s.length]) _).and ((ownFrom_box _ _ (fun _ : List XC => #[.bool false]) _).and (fun _ _ _ _ hs hg _ => Nat.le_trans hs hg.size)))).and (ownFrom_pure _ _))
  (fun _ => ((ownFrom_below (Nat.le_refl _) (by omega)).and (ownFrom_box _ _ (fun _ : List XC => #[.bool false]) _)).and (ownFrom_pure _ _))
  ⟨⟨hb0, hbn, hbr, Nat.le_refl _⟩, Nat.zero_le _, fun _ h => by cases h⟩ 4 (fun c => #[.int .i64 c.kind, .string c.label, .slice c.ptr c.len c.cap]) 25 (fun _ _ h => h.1.2.2.2) ?assign ?body ?done ?stop
 case assign =>
  intro l x W K hK
  simp only [handed, XC.val, List.zip_cons_cons, List.zip_nil_left, List.foldl_cons, List.foldl_nil, List.setIfInBounds_toArray, List.set_cons_succ, List.set_cons_zero]
  simp only [handed, XC.val, Act.setTmp, List.zip_cons_cons, List.zip_nil_left, List.foldl_cons, List.foldl_nil, List.setIfInBounds_toArray, List.set_cons_succ, List.set_cons_zero] at hK
  gi_wp2
  exact hK
 case body =>
  rintro l pre x B W hl hrec ⟨⟨hb, hn, hr, hsz⟩, hle, hall⟩ hB hbB hlen
  have hcn := cell_of_block hn 0
  have hfn := frozen_of_block hn 0
  have hcr := cell_of_block hr 0
  have hfr := frozen_of_block hr 0
  have hp0 := cell_of_block hbB 0
  have hp1 := cell_of_block hbB 1
  have hp2 := cell_of_block hbB 2
  simp only [List.getElem?_toArray, List.getElem?_cons_zero, List.getElem?_cons_succ] at hcn hcr hp0 hp1 hp2
  have hB1 : ¬ B = w.heap.size + 2 := by omega
  have hB2 : ¬ w.heap.size + 2 = B := by omega
  obtain ⟨W1, hW1⟩ : ∃ W1, W1 = W.setCell ⟨w.heap.size + 2, 0, none⟩ (.int .i64 ((pre.length : Int) + 1)) := ⟨_, rfl⟩
  have hk1 : Kept w.heap.size (w.heap.size + 3) 0 W W1 := by rw [hW1]; exact Kept.setCell W (by omega) (by omega) _
  have hf1 : KeepsFrom W0.heap.size W W1 := by rw [hW1]; exact (KeepsOthers.setCell _ _ _).from _
  have hbw1 : Below w.heap.size w W1 := by rw [hW1]; exact hb.setCell (p := ⟨w.heap.size + 2, 0, none⟩) (by simp) _
  have hn1 : W1.heap[w.heap.size + 2]? = some (.cells #[.int .i64 ((pre ++ [x]).length : Nat)] 3 (0, 0)) := by rw [hW1]; simpa using block_set hn (.int .i64 ((pre.length : Int) + 1))
  have hr1 : W1.heap[w.heap.size + 1]? = some (.cells #[.bool false] 4 (0, 0)) := by rw [hW1]; exact block_set_other hr _ (by omega)
  have hz1 : W0.heap.size ≤ W1.heap.size := by rw [hW1]; exact Nat.le_trans hsz (KeepsOthers.setCell _ _ _).size
  have HA := Lib.hid (show _ ∧ _ ∧ _ ∧ _ ∧ _ ∧ _ from ⟨hk1, hf1, hbw1, hn1, hr1, hz1⟩)
  have hzl : w.heap.size + 1 < W1.heap.size := by omega
  have HP := Lib.hid (fun W' => part_any x.kind x.label x.ptr x.len x.cap W' x.hl x.hn)
  have HS : Hid (∀ b, partB x.kind x.label x.len = b → partS x.sig = b) := fun b h => h
  have HALL := Lib.hid hall
  have HB0 := Lib.hid hb
  have HW1 := Lib.hid hW1
  clear hb hn hr hbB hk1 hf1 hbw1 hn1 hr1 hz1 hall hW1 hsz
  simp only [handed, Act.setTmp, List.zip_cons_cons, List.zip_nil_left, List.foldl_cons, List.foldl_nil, List.setIfInBounds_toArray, List.set_cons_succ, List.set_cons_zero]
  by_cases h24 : pre.length = 24
  ·have hgt : (24 : Int) < (pre.length : Int) + 1 := by omega
   have H24 := Lib.hid h24; clear h24
   have hcr1 := cell_of_block HA.out.2.2.2.2.1 0
   have hfr1 := frozen_of_block HA.out.2.2.2.2.1 0
   rw [HW1.out] at hcr1 hfr1
   simp only [List.getElem?_toArray, List.getElem?_cons_zero] at hcr1
   gi_wp2_with fail
   refine ⟨trivial, ?_⟩
   gi_wp2
   obtain ⟨hk1, hf1, hbw1, hn1, hr1, hz1⟩ := HA.out
   rw [HW1.out] at hf1 hbw1 hr1
   refine ⟨hf1.trans ((KeepsOthers.setCell _ _ _).from _), ⟨hbw1.setCell (p := ⟨w.heap.size + 1, 0, none⟩) (by simp) _, block_set hr1 _⟩, rfl, .inl (by have := H24.out; simp; omega)⟩
  ·have hgt : ¬ (24 : Int) < (pre.length : Int) + 1 := by omega
   have H24 := Lib.hid h24
   clear h24
   cases hpb : partB x.kind x.label x.len
   ·rw [hpb] at HP
    have HPB := Lib.hid (HS.out _ hpb); clear hpb
    gi_wp2_with fail
    refine ⟨trivial, (CallsIn.inRound l (callsIn_wide.2 (HP.out _))).mono ?_⟩
    rintro e w2 ⟨rfl, hb2⟩
    have hb2' : Below W1.heap.size W1 w2 := by rw [HW1.out]; exact hb2
    clear hb2
    obtain ⟨hk1, hf1, hbw1, hn1, hr1, hz1⟩ := HA.out
    have hr2 : w2.heap[w.heap.size + 1]? = some (.cells #[.bool false] 4 (0, 0)) := (hb2'.block _ (by omega)).trans hr1
    have hcr1 := cell_of_block hr2 0
    have hfr1 := frozen_of_block hr2 0
    simp only [List.getElem?_toArray, List.getElem?_cons_zero] at hcr1
    have HR2 := Lib.hid hr2; have HB2 := Lib.hid hb2'
    clear hk1 hf1 hbw1 hn1 hr1 hz1 hr2 hb2'
    gi_wp2
    obtain ⟨hk1, hf1, hbw1, hn1, hr1, hz1⟩ := HA.out
    exact ⟨(hf1.trans (keepsFrom_below HB2.out)).trans ((KeepsOthers.setCell _ _ _).from _), ⟨(below_step hbw1 HB2.out).setCell (p := ⟨w.heap.size + 1, 0, none⟩) (by simp) _, block_set HR2.out _⟩, rfl, .inr ⟨x, by simp, HPB.out⟩⟩
   ·rw [hpb] at HP
    have HPB := Lib.hid (HS.out _ hpb); clear hpb
    gi_wp2_with fail
    refine ⟨trivial, (CallsIn.inRound l (callsIn_wide.2 (HP.out _))).mono ?_⟩
    rintro e w2 ⟨rfl, hb2⟩
    have HB2 : Hid (Below W1.heap.size W1 w2) := by show Below _ _ _; rw [HW1.out]; exact hb2
    clear hb2
    gi_wp2
    obtain ⟨hk1, hf1, hbw1, hn1, hr1, hz1⟩ := HA.out
    have hb2 := HB2.out
    refine ⟨hf1.trans (keepsFrom_below hb2), hk1.trans (Kept.below hb2), ⟨below_step hbw1 hb2, (hb2.block _ (by omega)).trans hn1, (hb2.block _ (by omega)).trans hr1, Nat.le_trans hz1 hb2.size⟩, by have := H24.out; simp; omega, ?_⟩
    intro c hc
    rcases List.mem_append.1 hc with hc | hc
    ·exact HALL.out c hc
    ·rw [List.mem_singleton.1 hc]; exact HPB.out
 case done =>
  rintro D xs W hD hS ⟨⟨hb, hn, hr, hsz⟩, hle, hall⟩ hK
  have hcr := cell_of_block hr 0
  have hfr := frozen_of_block hr 0
  simp only [List.getElem?_toArray, List.getElem?_cons_zero] at hcr
  have hfin := exRight_done hS hle hall
  have HF := Lib.hid hfin; have HR := Lib.hid hr; have HB := Lib.hid hb; have HK := Lib.hid hK; have HD := Lib.hid hD; have H0 := Lib.hid hs0
  clear hb hn hr hsz hle hall hK hD hS hfin hW0 hb0 hbr hbn hbp hseq hs0
  gi_wp2
  have hD := HD.out; have h0 := H0.out
  have hKs := block_set_other HK.out (b := w.heap.size + 1) (o := 0) (.bool true) (by omega)
  refine ⟨by simp, .inl ⟨_, _, rfl, run_takeDeferred hKs, ?_⟩⟩
  have hbx := block_put_other (block_set HR.out (.bool true)) (.deferred none) (D := D) (by omega)
  have hcf := cell_of_block hbx 0
  simp only [List.getElem?_toArray, List.getElem?_cons_zero] at hcf
  refine ⟨.bool true, ?_, ret_b rfl HF.out.symm ?_⟩
  ·simp [results, Tryd.results21, go_sem, hcf]
  ·exact below_mark (HB.out.setCell (p := ⟨w.heap.size + 1, 0, none⟩) (Nat.le_succ _) _) (by omega) _ hKs
 case stop =>
  rintro D c pre W hD hSp ⟨⟨hb, hr⟩, rfl, hq⟩ hK
  have hfin := exRight_stop hSp hq
  have HF := Lib.hid hfin; have HR := Lib.hid hr; have HB := Lib.hid hb; have HK := Lib.hid hK; have HD := Lib.hid hD; have H0 := Lib.hid hs0
  clear hb hr hK hD hSp hq hfin hW0 hb0 hbr hbn hbp hseq hs0
  gi_wp2
  have hD := HD.out; have h0 := H0.out
  refine ⟨by simp, .inl ⟨_, _, rfl, run_takeDeferred HK.out, ?_⟩⟩
  have hbx := block_put_other HR.out (.deferred none) (D := D) (by omega)
  have hcf := cell_of_block hbx 0
  simp only [List.getElem?_toArray, List.getElem?_cons_zero] at hcf
  refine ⟨.bool false, ?_, ret_b rfl HF.out.symm ?_⟩
  ·simp [results, Tryd.results21, go_sem, hcf]
  ·exact below_mark HB.out (by omega) _ HK.out
end Go.Proofs.YtfflpdekojlnmaaDoor

/-! kinescopekit.SameExpr, SameExprs: they tell whether two expressions are the same. -/
namespace Go.Proofs.YtfflpdekojlnmaaDoor
open Go.RowKit

end Go.Proofs.YtfflpdekojlnmaaDoor

/-! Loops that hold two slices against each other, element by element: texts, conditions, operands (kinescopekit.Same.., slices.Equal). -/
namespace Go.Proofs.YtfflpdekojlnmaaDoor
open Go.RowKit

end Go.Proofs.YtfflpdekojlnmaaDoor

/-! Two patterns held against each other; rows of patterns (kinescopekit). -/
namespace Go.Proofs.YtfflpdekojlnmaaDoor
open Go.RowKit

end Go.Proofs.YtfflpdekojlnmaaDoor

/-! expr.Same, tree.samePattern, tree.Same tell what kinescopekit.Same.. tells. -/
namespace Go.Proofs.YtfflpdekojlnmaaDoor
open Go.RowKit

end Go.Proofs.YtfflpdekojlnmaaDoor

/-! Two queries held against each other: kinescopekit.SameQuery, tree.Same. -/
namespace Go.Proofs.YtfflpdekojlnmaaDoor
open Go.RowKit

end Go.Proofs.YtfflpdekojlnmaaDoor

namespace Go.Proofs.YtfflpdekojlnmaaDoor
open Go.RowKit

end Go.Proofs.YtfflpdekojlnmaaDoor

namespace Go.Proofs.YtfflpdekojlnmaaDoor
open Go.RowKit

def ElemPat (f : FuncId) (cap : List Value) (q : Pat → Bool) (w : World) : Prop := ∀ (x : Pat) (k : Int) (s : ByteArray) (l : List Ex) (v : Value) (W : World), Below w.heap.size w W → x.ok → x.expr = .mk k s l → RdExs W l v →
 Calls Tryd.prog f (.agg #[.string x.frm, .string x.to, .bool x.path, .string x.label, .string x.name, .int .i64 k, .string s, v] :: cap).toArray W (Ret W (.bool (q x)))

def ElemCnd (f : FuncId) (cap : List Value) (q : Cnd → Bool) (w : World) : Prop := ∀ (x : Cnd) (W : World), Below w.heap.size w W → x.ok →
 Calls Tryd.prog f (.agg #[.int .i64 x.op, .int .i64 x.left.kind, .string x.left.name, .string x.left.key, .int .i64 x.left.val.kind, .int .i64 x.left.val.num, .string x.left.val.text, .int .i64 x.right.kind, .string x.right.name, .string x.right.key, .int .i64 x.right.val.kind, .int .i64 x.right.val.num, .string x.right.val.text] :: cap).toArray W (Ret W (.bool (q x)))

def ElemOpd (f : FuncId) (cap : List Value) (q : Opd → Bool) (w : World) : Prop := ∀ (x : Opd) (W : World), Below w.heap.size w W → x.ok →
 Calls Tryd.prog f (.agg #[.int .i64 x.kind, .string x.name, .string x.key, .int .i64 x.val.kind, .int .i64 x.val.num, .string x.val.text] :: cap).toArray W (Ret W (.bool (q x)))

end Go.Proofs.YtfflpdekojlnmaaDoor

namespace Go.Proofs.YtfflpdekojlnmaaDoor
open Go.RowKit

end Go.Proofs.YtfflpdekojlnmaaDoor

set_option linter.unusedSimpArgs false
set_option linter.unusedVariables false
namespace Go.Proofs.YtfflpdekojlnmaaDoor
open Go.RowKit

end Go.Proofs.YtfflpdekojlnmaaDoor

namespace Go.Proofs.YtfflpdekojlnmaaDoor
open Go.RowKit

section
variable {P : Program}
theorem turn_cell {s : AS} {k i j : Nat} {ob : AObj} {row : List AV} (T' : TypeId) (z' : Nat) (hz' : 0 < z') (hk : s.o[k]? = some (some ob)) (hz : 0 < ob.z) (hr : ob.rows[i]? = some row) (hj : row[j]? = some (.v (.slice none 0 0))) :
  Turn s (AS.mk s.t ((s.o ++ [some (AObj.mk T' z' true [])]).set k (some { ob with rows := ob.rows.set i (row.set j (.vec s.o.length 0)) })) s.y) := by
 intro f D nu a w hs
 have hv : ∀ b, blkM (Value.slice none 0 0) = some b → w.heap.size ≤ b := fun b e => by cases e
 have hp := push_mono (nu := nu) (o := s.o) (ob := ⟨T', z', true, []⟩) (Below.refl w.heap.size w) hv
 have hro := push_RO (ob := ⟨T', z', true, []⟩) hs.ro (Below.refl _ _) hv (.inl ⟨rfl, rfl, rfl⟩)
 have hlt := (List.getElem?_eq_some_iff.1 hk).1
 have hk' : (s.o ++ [some (⟨T', z', true, []⟩ : AObj)])[k]? = some (some ob) := by rw [List.getElem?_append_left hlt]; exact hk
 have hh : ob.hl = ({ ob with rows := ob.rows.set i (row.set j (.vec s.o.length 0)) } : AObj).hl := by simp [AObj.hl]
 obtain ⟨g, cur, hb⟩ : ∃ g cur, ROb D (updN nu s.o.length (.slice none 0 0)) (s.o ++ [some ⟨T', z', true, []⟩]) w k ob g cur := by
  rcases hro.obj k ob hk' with ⟨_, e, _⟩ | h | ⟨g, es, cl, hm⟩
  ·rw [e] at hr; simp at hr
  ·exact h
  ·have := hm.z; omega
 have hm := set_mono (nu := updN nu s.o.length (.slice none 0 0)) (o := s.o ++ [some ⟨T', z', true, []⟩]) (w := w) (w' := w) (ob' := { ob with rows := ob.rows.set i (row.set j (.vec s.o.length 0)) }) hk' hh.symm hb.blkEq rfl rfl rfl rfl (fun _ _ => rfl)
 refine ⟨updN nu s.o.length (.slice none 0 0), hp.trans hm, rfl, ?_, (hs.tm.mono hp (fun _ _ h => h)).mono hm (fun _ _ h => h), hs.dfr⟩
 have hil := (List.getElem?_eq_some_iff.1 hr).1
 have hjl := (List.getElem?_eq_some_iff.1 hj).1
 have key : ∀ (i' j' : Nat) r c, (ob.rows.set i (row.set j (.vec s.o.length 0)))[i']? = some r → r[j']? = some c → ∃ r0 c0, ob.rows[i']? = some r0 ∧ r0[j']? = some c0 ∧ (c = c0 ∨ (c = .vec s.o.length 0 ∧ c0 = .v (.slice none 0 0))) := by
  intro i' j' r c h1 h2
  by_cases hi : i = i'
  ·subst hi
   rw [List.getElem?_set_self hil] at h1; cases h1
   by_cases hj' : j = j'
   ·subst hj'
    rw [List.getElem?_set_self hjl] at h2; cases h2
    exact ⟨row, _, hr, hj, .inr ⟨rfl, rfl⟩⟩
   ·rw [List.getElem?_set_ne hj'] at h2
    exact ⟨row, c, hr, h2, .inl rfl⟩
  ·rw [List.getElem?_set_ne hi] at h1
   exact ⟨r, c, h1, h2, .inl rfl⟩
 refine set_RO hro hk' hh.symm hb.blkEq hm (fun _ _ => rfl) (cur := cur) ⟨hb.blk, hb.dom, fun hv' => ?_, fun hv' => ?_, hb.z, fun i' r hi' => ?_, fun i' j' r c x h1 h2 h3 => ?_, fun i' j' r c x h1 h2 h3 => ?_⟩
 ·obtain ⟨q1, q2, q3⟩ := hb.box hv'
  exact ⟨q1, by simpa using q2, q3⟩
 ·obtain ⟨cap, q1, q2, q3, q4⟩ := hb.vec hv'
  exact ⟨cap, by simpa using q1, by simpa using q2, q3, q4⟩
 ·by_cases hi : i = i'
  ·subst hi
   rw [List.getElem?_set_self hil] at hi'; cases hi'
   rw [List.length_set]; exact hb.row i row hr
  ·rw [List.getElem?_set_ne hi] at hi'
   exact hb.row i' r hi'
 ·obtain ⟨r0, c0, k1, k2, e⟩ := key i' j' r c h1 h2
  have h0 := hb.cell i' j' r0 c0 x k1 k2 h3
  rcases e with rfl | ⟨rfl, rfl⟩
  ·exact h0.mono hm (fun _ _ h => h)
  ·obtain rfl := h0.v_eq
   have := RA.vec (D := D) (nu := updN nu s.o.length (.slice none 0 0)) (o := (s.o ++ [some (⟨T', z', true, []⟩ : AObj)])) (w := w) s.o.length 0 ⟨_, List.getElem?_concat_length, fun x hx => Nat.zero_le _⟩ (by rw [updN_new]; rfl)
   rw [updN_new] at this
   exact this.mono hm (fun _ _ h => h)
 ·obtain ⟨r0, c0, k1, k2, _⟩ := key i' j' r c h1 h2
  exact hb.one i' j' r0 c0 x k1 k2 h3
end

def encT (l : List ByteArray) : List (List AV) := l.map (fun s => [.v (.string s)])

end Go.Proofs.YtfflpdekojlnmaaDoor
