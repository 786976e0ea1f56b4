/- A call that is given the first objects of its caller's; an own row in a cell of an own object, told as one that stays. -/
import Derived.Test.YtfflpdekojlnmaaDoorLOnceC
import Derived.Test.YtfflpdekojlnmaaDoorLLens
import Derived.Test.YtfflpdekojlnmaaDoorLWalk
import Derived.Test.YtfflpdekojlnmaaDoorLEnc
import Derived.Test.YtfflpdekojlnmaaDoorLAbsW
set_option linter.unusedSimpArgs false
set_option linter.unusedVariables false
namespace Go.Proofs.YtfflpdekojlnmaaDoor
open Go.RowKit

mutual
theorem ren_lt {f : Nat → Nat} {m : Nat} (hf : ∀ k, k < m → f k = k) : ∀ a : AV, a.wf m = true → a.ren f = a
 | .undef, _ => rfl
 | .v _, _ => rfl
 | .agg cs, h => by rw [AV.ren, renL_lt hf cs h]
 | .tup cs, h => by rw [AV.ren, renL_lt hf cs h]
 | .slc z rows len, h => by rw [AV.ren, renR_lt hf rows h]
 | .vp cs, h => by rw [AV.ren, renL_lt hf cs h]
 | .ptr id _ _ _ _, h => by simp [AV.wf] at h; rw [AV.ren, hf id h]
 | .vec id _, h => by simp [AV.wf] at h; rw [AV.ren, hf id h]
 | .fn g a b, h => by
  simp only [AV.wf, Bool.and_eq_true] at h
  rw [AV.ren, renL_lt hf a h.1, renL_lt hf b h.2]
 | .full a, h => by rw [AV.ren, ren_lt hf a h]
 | .wit p a, h => by rw [AV.ren, ren_lt hf a h]
 | .mp rows, h => by rw [AV.ren, renR_lt hf rows h]
theorem renL_lt {f : Nat → Nat} {m : Nat} (hf : ∀ k, k < m → f k = k) : ∀ l : List AV, wfL m l = true → renL f l = l
 | [], _ => rfl
 | a :: l, h => by
  simp only [wfL, Bool.and_eq_true] at h
  rw [renL, ren_lt hf a h.1, renL_lt hf l h.2]
theorem renR_lt {f : Nat → Nat} {m : Nat} (hf : ∀ k, k < m → f k = k) : ∀ l : List (List AV), wfR m l = true → renR f l = l
 | [], _ => rfl
 | a :: l, h => by
  simp only [wfR, Bool.and_eq_true] at h
  rw [renR, renL_lt hf a h.1, renR_lt hf l h.2]
end
section
variable {D : Nat → Prop} {nu : Nat → Nat → Value} {o : List (Option AObj)} {w : World} {P : Program}
theorem turn_frc {s : AS} {k i j id len : Nat} {ob ob2 : AObj} {row : List AV} (hne : id ≠ k) (hk : s.o[k]? = some (some ob)) (hz : 0 < ob.z) (hr : ob.rows[i]? = some row) (hj : row[j]? = some (.vec id len)) (ho : s.o[id]? = some (some ob2)) (hv : ob2.isV = true) (hl : ob2.rows.length = len) :
  Turn s (AS.mk s.t ((s.o.set id none).set k (some { ob with rows := ob.rows.set i (row.set j (.slc ob2.z ob2.rows len)) })) s.y) := by
 intro f D nu a w hs
 have hp := kill_mono (nu := nu) (o := s.o) (w := w) id
 have hro := kill_RO hs.ro id
 have hk' : (s.o.set id none)[k]? = some (some ob) := by rw [List.getElem?_set_ne hne]; exact hk
 have hh : ob.hl = ({ ob with rows := ob.rows.set i (row.set j (.slc ob2.z ob2.rows len)) } : AObj).hl := by simp [AObj.hl]
 obtain ⟨g, cur, hb⟩ : ∃ g cur, ROb D nu (s.o.set id none) w k ob g cur := by
  rcases hro.obj k ob hk' with ⟨_, e, _⟩ | h | ⟨g, es, cl, hm⟩
  ·rw [e] at hr; simp at hr
  ·exact h
  ·have := hm.z; omega
 have hm := set_mono (nu := nu) (o := s.o.set id none) (w := w) (w' := w) (ob' := { ob with rows := ob.rows.set i (row.set j (.slc ob2.z ob2.rows len)) }) hk' hh.symm hb.blkEq rfl rfl rfl rfl (fun _ _ => rfl)
 refine ⟨nu, hp.trans hm, rfl, ?_, (hs.tm.mono hp (fun _ _ h => h)).mono hm (fun _ _ h => h), hs.dfr⟩
 have hil := (List.getElem?_eq_some_iff.1 hr).1
 have hjl := (List.getElem?_eq_some_iff.1 hj).1
 have hsl := vec_slc hs.ro ho hv
 rw [hl] at hsl
 have key : ∀ (i' j' : Nat) r c, (ob.rows.set i (row.set j (.slc ob2.z ob2.rows len)))[i']? = some r → r[j']? = some c → ∃ r0 c0, ob.rows[i']? = some r0 ∧ r0[j']? = some c0 ∧ (c = c0 ∨ (c = .slc ob2.z ob2.rows len ∧ c0 = .vec id len)) := by
  intro i' j' r c h1 h2
  by_cases hi : i = i'
  ·subst hi
   rw [List.getElem?_set_self hil] at h1; cases h1
   by_cases hj' : j = j'
   ·subst hj'
    rw [List.getElem?_set_self hjl] at h2; cases h2
    exact ⟨row, _, hr, hj, .inr ⟨rfl, rfl⟩⟩
   ·rw [List.getElem?_set_ne hj'] at h2
    exact ⟨row, c, hr, h2, .inl rfl⟩
  ·rw [List.getElem?_set_ne hi] at h1
   exact ⟨r, c, h1, h2, .inl rfl⟩
 refine set_RO hro hk' hh.symm hb.blkEq hm (fun _ _ => rfl) (cur := cur) ⟨hb.blk, hb.dom, fun hv' => ?_, fun hv' => ?_, hb.z, fun i' r hi' => ?_, fun i' j' r c x h1 h2 h3 => ?_, fun i' j' r c x h1 h2 h3 => ?_⟩
 ·obtain ⟨q1, q2, q3⟩ := hb.box hv'
  exact ⟨q1, by simpa using q2, q3⟩
 ·obtain ⟨cap, q1, q2, q3, q4⟩ := hb.vec hv'
  exact ⟨cap, by simpa using q1, by simpa using q2, q3, q4⟩
 ·by_cases hi : i = i'
  ·subst hi
   rw [List.getElem?_set_self hil] at hi'; cases hi'
   rw [List.length_set]; exact hb.row i row hr
  ·rw [List.getElem?_set_ne hi] at hi'
   exact hb.row i' r hi'
 ·obtain ⟨r0, c0, k1, k2, e⟩ := key i' j' r c h1 h2
  have h0 := hb.cell i' j' r0 c0 x k1 k2 h3
  rcases e with rfl | ⟨rfl, rfl⟩
  ·exact h0.mono hm (fun _ _ h => h)
  ·have hx : x = nu id len := by
    cases h0 with
    | vec => rfl
   rw [hx]
   exact hsl.mono hm (fun _ _ h => h)
 ·obtain ⟨r0, c0, k1, k2, _⟩ := key i' j' r c h1 h2
  exact hb.one i' j' r0 c0 x k1 k2 h3
end
end Go.Proofs.YtfflpdekojlnmaaDoor

namespace Go.Proofs.YtfflpdekojlnmaaDoor
open Go.RowKit

section
variable {o : List (Option AObj)}
end

def rwB (N : Nat) (g : Nat → Bool) : List (List AV) := (List.range N).map (fun j => [.v (.bool (g j))])
def mxB (N : Nat) (f : Nat → Nat → Bool) : List (List AV) := (List.range N).map (fun i => [.slc 1 (rwB N (f i)) N])
def rid (k i : Nat) : Nat := k + 1 + 2 * i
def outRows (k N m : Nat) : List (List AV) := (List.range m).map (fun i => [.vec (rid k i) N])
def rowO (N : Nat) (g : Nat → Bool) : Option AObj := some ⟨4, 1, true, rwB N g⟩
def inObs (N : Nat) (f : Nat → Nat → Bool) (m : Nat) : List (Option AObj) := (List.range m).flatMap (fun i => [rowO N (f i), none])
def mObs (k N m : Nat) (f : Nat → Nat → Bool) : List (Option AObj) := some ⟨35, 1, true, outRows k N m⟩ :: inObs N f m
theorem rwB_len (N : Nat) (g : Nat → Bool) : (rwB N g).length = N := by simp [rwB]
theorem mxB_len (N : Nat) (f : Nat → Nat → Bool) : (mxB N f).length = N := by simp [mxB]
theorem outRows_len (k N m : Nat) : (outRows k N m).length = m := by simp [outRows]
theorem rwB_at {N j : Nat} {g : Nat → Bool} (h : j < N) : (rwB N g).getD j [] = [.v (.bool (g j))] := by
 rw [List.getD_eq_getElem?_getD, rwB, List.getElem?_map, List.getElem?_range h]; rfl
theorem mxB_at {N i : Nat} {f : Nat → Nat → Bool} (h : i < N) : (mxB N f).getD i [] = [.slc 1 (rwB N (f i)) N] := by
 rw [List.getD_eq_getElem?_getD, mxB, List.getElem?_map, List.getElem?_range h]; rfl
theorem rwB_eq {N : Nat} {g h : Nat → Bool} (e : ∀ j, j < N → g j = h j) : rwB N g = rwB N h := by
 refine List.map_congr_left fun j hj => ?_
 rw [e j (List.mem_range.1 hj)]
theorem mxB_eq {N : Nat} {g h : Nat → Nat → Bool} (e : ∀ i j, i < N → j < N → g i j = h i j) : mxB N g = mxB N h := by
 refine List.map_congr_left fun i hi => ?_
 rw [rwB_eq (fun j hj => e i j (List.mem_range.1 hi) hj)]
theorem rwB_false (N : Nat) : List.replicate N [AV.v (.bool false)] = rwB N (fun _ => false) := by
 refine List.ext_getElem (by simp [rwB]) fun i h1 h2 => by simp [rwB]
def upd2 (f : Nat → Nat → Bool) (i j : Nat) (v : Bool) : Nat → Nat → Bool := fun p q => if p = i ∧ q = j then v else f p q
theorem rwB_set {N j : Nat} {g : Nat → Bool} {v : Bool} : (rwB N g).set j [.v (.bool v)] = rwB N (fun q => if q = j then v else g q) := by
 refine List.ext_getElem (by simp [rwB]) fun q h1 h2 => ?_
 rw [List.getElem_set]
 simp only [rwB, List.getElem_map, List.getElem_range]
 split
 ·rename_i e; subst e; rw [if_pos rfl]
 ·rename_i e; rw [if_neg (fun e' => e e'.symm)]
theorem wf_rwB (n N : Nat) (g : Nat → Bool) : wfR n (rwB N g) = true := wfR_map _ (fun _ => rfl) _
theorem wf_mxB (n N : Nat) (f : Nat → Nat → Bool) : wfR n (mxB N f) = true := wfR_map _ (fun i => by simp only [wfL, AV.wf, wf_rwB, Bool.and_self]) _
attribute [go_sem] wf_rwB wf_mxB rwB_len mxB_len outRows_len
end Go.Proofs.YtfflpdekojlnmaaDoor

namespace Go.Proofs.YtfflpdekojlnmaaDoor
open Go.RowKit

section
variable {o : List (Option AObj)} {P : Program}
theorem FrzS.v (x : Value) : FrzS o (.v x) (.v x) := fun D nu w y hro hra => by rw [hra.v_eq]; exact .v x
theorem FrzS.tup {l m : List AV} (h : FrzL o l m) : FrzS o (.tup l) (.tup m) := fun D nu w x hro hra => by
 obtain ⟨h1, h2⟩ := h.at'
 cases hra with
 | tup _ xs k1 k2 =>
  refine .tup _ _ (by omega) fun i c y q1 q2 => ?_
  have hi : i < l.length := by rw [h1]; exact (List.getElem?_eq_some_iff.1 q1).1
  exact h2 i _ c (List.getElem?_eq_getElem hi) q1 D nu w y hro (k2 i _ y (List.getElem?_eq_getElem hi) q2)
theorem FrzS.ptr {id z : Nat} {ob : AObj} {row cs : List AV} (ho : o[id]? = some (some ob)) (hv : ob.isV = false) (hr : ob.rows = [row]) (hz : ob.z ≠ 0) (h : FrzL o row cs) : FrzS o (.ptr id 0 z 0 0) (.vp cs) := fun D nu w x hro hra => by
 obtain ⟨hl, hall⟩ := h.at'
 cases hra with
 | ptr _ _ _ _ _ b h1 h2 =>
 rcases hro.obj id ob ho with ⟨e1, e2, e3⟩ | ⟨g, cur, hb⟩ | ⟨g, es, cl, hmp⟩
 ·rw [e2] at hr; cases hr
 ·have hb0 := hb.blkOfEq
  rw [AObj.hl, hv, if_neg (by decide)] at hb0
  rw [hb0] at h2; cases h2
  have hrow : ob.rows[0]? = some row := by rw [hr]; rfl
  have hget : ∀ (j : Nat) c, cs[j]? = some c → ∃ c0, row[j]? = some c0 ∧ cur[0 * ob.z + j]? = some (cur.getD (0 * ob.z + j) Go.undef) := fun j c hc => by
   have hj : j < row.length := by rw [hl]; exact (List.getElem?_eq_some_iff.1 hc).1
   have := hb.curLt hrow hj
   refine ⟨_, List.getElem?_eq_getElem hj, ?_⟩
   rw [Array.getElem?_eq_getElem this, Array.getD, dif_pos this]
   rfl
  refine .vp _ b _ (fun j => cur.getD (0 * ob.z + j) Go.undef) ⟨(Array.getElem?_eq_some_iff.1 hb.blk).1, owned_nil _ _, hb.dom⟩ (fun j c hc => ?_) (fun j c hc => ?_) (fun j c hc => ?_)
  all_goals obtain ⟨c0, k1, k2⟩ := hget j c hc
  ·have hblk := hb.blk
   simp only [Nat.zero_mul, Nat.zero_add] at k2 ⊢
   rw [← k2]
   simp [World.cell?, hblk]
  ·exact hall j c0 c k1 hc D nu w _ hro (hb.cell 0 j row c0 _ hrow k1 k2)
  ·exact hb.one 0 j row c0 _ hrow k1 k2
 ·exact absurd hmp.z hz
theorem FrzS.vecs {id len : Nat} {ob : AObj} (ho : o[id]? = some (some ob)) (hv : ob.isV = true) (hl : ob.rows.length = len) {rows' : List (List AV)} (hlen : rows'.length = ob.rows.length)
  (hr : ∀ (i : Nat) row row', ob.rows[i]? = some row → rows'[i]? = some row' → FrzL o row row') : FrzS o (.vec id len) (.slc ob.z rows' len) := fun D nu w x hro hra => by
 have hx : x = nu id len := by
  cases hra with
  | vec => rfl
 subst hx
 subst hl
 have get : ∀ (i : Nat) row', rows'[i]? = some row' → ∃ row, ob.rows[i]? = some row ∧ row'.length = row.length ∧ ∀ (j : Nat) c', row'[j]? = some c' → ∃ c, row[j]? = some c ∧ FrzS o c c' := fun i row' h => by
  have hi : i < ob.rows.length := by rw [← hlen]; exact (List.getElem?_eq_some_iff.1 h).1
  obtain ⟨h1, h2⟩ := (hr i _ row' (List.getElem?_eq_getElem hi) h).at'
  refine ⟨_, List.getElem?_eq_getElem hi, h1.symm, fun j c' hc => ?_⟩
  have hj : j < ob.rows[i].length := by rw [h1]; exact (List.getElem?_eq_some_iff.1 hc).1
  exact ⟨_, List.getElem?_eq_getElem hj, h2 j _ c' (List.getElem?_eq_getElem hj) hc⟩
 rcases hro.obj id ob ho with ⟨e1, e2, e3⟩ | ⟨g, cur, hb⟩ | ⟨g, es, cl, hmp⟩
 rotate_left 2
 ·rw [hmp.isV] at hv; cases hv
 ·rw [e2] at hlen ⊢
  obtain rfl := List.eq_nil_of_length_eq_zero hlen
  simp only [List.length_nil]; rw [e3]; exact .slcNil _
 ·obtain ⟨cap, q1, q2, q3, q4⟩ := hb.vec hv
  rw [q1]
  have hget : ∀ (i j : Nat) row c, ob.rows[i]? = some row → row[j]? = some c → cur[i * ob.z + j]? = some (cur.getD (i * ob.z + j) Go.undef) := fun i j row c k1 k2 => by
   have := hb.curLt k1 (List.getElem?_eq_some_iff.1 k2).1
   simp [Array.getD, this]
  refine .slc _ _ _ g 0 cap (fun i j => cur.getD (i * ob.z + j) Go.undef) (by omega) (by omega) q3 (fun _ => ⟨(Array.getElem?_eq_some_iff.1 hb.blk).1, owned_nil _ _, hb.dom⟩) (fun i row' k1 => ?_) (fun i j row' c' k1 k2 => ?_) (fun i j row' c' k1 k2 => ?_) (fun i j row' c' k1 k2 => ?_)
  ·obtain ⟨row, r1, r2, _⟩ := get i row' k1
   rw [r2]; exact hb.row i row r1
  all_goals
   obtain ⟨row, r1, r2, r3⟩ := get i row' k1
   obtain ⟨c, r4, r5⟩ := r3 j c' k2
  ·rw [← hget i j row c r1 r4]
   have := hb.blk
   simp [World.cell?, this]
  ·exact r5 D nu w _ hro (hb.cell i j row c _ r1 r4 (hget i j row c r1 r4))
  ·exact hb.one i j row c _ r1 r4 (hget i j row c r1 r4)
theorem Call1.enterS {f : FuncId} {fn : Func} {c : Code} {args : List AV} {r : AV} (hf : P.funcs[f]? = some fn) (hb : fn.body = some c) (hc : callOk P f = true) (hok : okCode c = true) (hmx : P.follows .mixedOrders = true)
  (ha : wfL 0 args = true) (hr : r.wf 0 = true) (h : AWp P 0 c ⟨args ++ List.replicate (fn.ntmps - args.length) .undef, [], .no⟩ (AEnd P fn.results.toList (fun r0 o => FrzS o r0 r))) : Call1 P f args r := by
 obtain ⟨_, h2⟩ := CallG.enter (o := []) hf hb hc hok hmx h
 refine ⟨⟨ha, hr⟩, hc, fun D nu w vargs hro hra => (h2 D nu w vargs hro hra).mono ?_⟩
 rintro e w' ⟨v, nu', o', r0, rfl, hm, hro', hra', hz⟩
 have hm' : Mono nu [] w nu' [] w' := ⟨hm.os, hm.tape, hm.output, hm.size, fun id len hh => by obtain ⟨x, k, _⟩ := hh; simp at k, fun b hb ho => ⟨(hm.keep b hb ho).1, owned_nil _ _⟩⟩
 exact ⟨v, nu', [], r, rfl, hm', (.nil _ _ _ hro'.up (hro'.gl.nil (fun _ _ h => h))), hz _ _ _ _ hro' hra', rfl, rfl⟩
end
mutual
theorem ren_cg {f g : Nat → Nat} {m : Nat} (hf : ∀ k, k < m → f k = g k) : ∀ a : AV, a.wf m = true → a.ren f = a.ren g
 | .undef, _ => rfl
 | .v _, _ => rfl
 | .agg cs, h => by rw [AV.ren, AV.ren, renL_cg hf cs h]
 | .tup cs, h => by rw [AV.ren, AV.ren, renL_cg hf cs h]
 | .slc z rows len, h => by rw [AV.ren, AV.ren, renR_cg hf rows h]
 | .vp cs, h => by rw [AV.ren, AV.ren, renL_cg hf cs h]
 | .ptr id _ _ _ _, h => by simp [AV.wf] at h; rw [AV.ren, AV.ren, hf id h]
 | .vec id _, h => by simp [AV.wf] at h; rw [AV.ren, AV.ren, hf id h]
 | .fn g a b, h => by
  simp only [AV.wf, Bool.and_eq_true] at h
  rw [AV.ren, AV.ren, renL_cg hf a h.1, renL_cg hf b h.2]
 | .full a, h => by rw [AV.ren, AV.ren, ren_cg hf a h]
 | .wit p a, h => by rw [AV.ren, AV.ren, ren_cg hf a h]
 | .mp rows, h => by rw [AV.ren, AV.ren, renR_cg hf rows h]
theorem renL_cg {f g : Nat → Nat} {m : Nat} (hf : ∀ k, k < m → f k = g k) : ∀ l : List AV, wfL m l = true → renL f l = renL g l
 | [], _ => rfl
 | a :: l, h => by
  simp only [wfL, Bool.and_eq_true] at h
  rw [renL, renL, ren_cg hf a h.1, renL_cg hf l h.2]
theorem renR_cg {f g : Nat → Nat} {m : Nat} (hf : ∀ k, k < m → f k = g k) : ∀ l : List (List AV), wfR m l = true → renR f l = renR g l
 | [], _ => rfl
 | a :: l, h => by
  simp only [wfR, Bool.and_eq_true] at h
  rw [renR, renR, renL_cg hf a h.1, renR_cg hf l h.2]
end
theorem FrzS.slcS {o : List (Option AObj)} {z len : Nat} {rows : List (List AV)} (h : wfR 0 rows = true) : FrzS o (.slc z rows len) (.slc z rows len) := FrzS.of 1 (p := (AV.slc z rows len).wf 0 = true) (by rw [aFrz] <;> simp) (by rw [AV.wf]; exact h)
theorem FrzS.vecP {o : List (Option AObj)} {id len : Nat} {ob : AObj} (ho : o[id]? = some (some ob)) (hv : ob.isV = true) (hl : ob.rows.length = len) (hw : wfR 0 ob.rows = true) : FrzS o (.vec id len) (.slc ob.z ob.rows len) := FrzS.of 1 (p := ob.isV = true ∧ ob.rows.length = len ∧ wfR 0 ob.rows = true) (by rw [aFrz, ho]) ⟨hv, hl, hw⟩
end Go.Proofs.YtfflpdekojlnmaaDoor

namespace Go.Proofs.YtfflpdekojlnmaaDoor
open Go.RowKit

section
variable {P : Program}
theorem asem_join {n0 : Nat} {c : Code} {s : AS} {Q : AExit → AS → Prop} (s0 : AS) (hok : okCode c = true) (h : AWp P n0 c s (fun e s' => e = .normal ∧ Wk n0 s' s0)) (k : Q .normal s0) : ASem P n0 c s Q := fun f m D nu a w hZr hn hm hs hmx R hO hR => by
 refine awp_good hmx m hZr hn c hok s a w D nu f.Z _ R hO hm hs h ?_
 rintro e D' Z' s' a' w' nu' h1 h2 ⟨rfl, hk⟩
 refine hR .normal D' Z' s0 a' w' nu' ?_ (wk_good hk h2) k
 rw [← hk.y]
 exact m.step h1 h2.ro hk.monoZ (wk_good hk h2).ro (fun c v hr hc => hk.ra hr hc) (fun _ h => .inl h) (fun _ h => .inl h) (fun b hb => ⟨((m.zlt h1).1 b hb).1, ((m.zlt h1).1 b hb).2, .inl hb⟩) (Nat.le_trans hn hk.n)
theorem awp_join {n0 id : Nat} {s : AS} {ops : Array Oper} {d : Bool} {Q : AExit → AS → Prop} (s0 : AS) (hok : calmB ops = true) (h : AWp P n0 (.region id ops d) s (fun e s' => e = .normal ∧ Wk n0 s' s0)) (k : Q .normal s0) : AWp P n0 (.region id ops d) s Q := by
 have := asem_join (c := .region id ops d) s0 hok h k
 cases d
 ·exact .inr this
 ·exact .inr this
end
end Go.Proofs.YtfflpdekojlnmaaDoor
