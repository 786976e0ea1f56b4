/- What is handed back, told by what it reads as: rows of rows, boxes; a call that is given objects that lie behind others. -/
import Derived.Test.YtmdkgajjekbanaaDoorEOfP
import Derived.Test.YtmdkgajjekbanaaDoorEMat
set_option linter.unusedSimpArgs false
set_option linter.unusedVariables false
namespace Go.Proofs.YtmdkgajjekbanaaDoor
open Go.RowKit

section
variable {o : List (Option AObj)} {P : Program}
theorem FrzS.v (x : Value) : FrzS o (.v x) (.v x) := fun D nu w y hro hra => by rw [hra.v_eq]; exact .v x
theorem FrzS.tup {l m : List AV} (h : FrzL o l m) : FrzS o (.tup l) (.tup m) := fun D nu w x hro hra => by
 obtain ⟨h1, h2⟩ := h.at'
 cases hra with
 | tup _ xs k1 k2 =>
  refine .tup _ _ (by omega) fun i c y q1 q2 => ?_
  have hi : i < l.length := by rw [h1]; exact (List.getElem?_eq_some_iff.1 q1).1
  exact h2 i _ c (List.getElem?_eq_getElem hi) q1 D nu w y hro (k2 i _ y (List.getElem?_eq_getElem hi) q2)
theorem FrzS.ptr {id z : Nat} {ob : AObj} {row cs : List AV} (ho : o[id]? = some (some ob)) (hv : ob.isV = false) (hr : ob.rows = [row]) (hz : ob.z ≠ 0) (h : FrzL o row cs) : FrzS o (.ptr id 0 z 0 0) (.vp cs) := fun D nu w x hro hra => by
 obtain ⟨hl, hall⟩ := h.at'
 cases hra with
 | ptr _ _ _ _ _ b h1 h2 =>
 rcases hro.obj id ob ho with ⟨e1, e2, e3⟩ | ⟨g, cur, hb⟩ | ⟨g, es, cl, hmp⟩
 ·rw [e2] at hr; cases hr
 ·have hb0 := hb.blkOfEq
  rw [AObj.hl, hv, if_neg (by decide)] at hb0
  rw [hb0] at h2; cases h2
  have hrow : ob.rows[0]? = some row := by rw [hr]; rfl
  have hget : ∀ (j : Nat) c, cs[j]? = some c → ∃ c0, row[j]? = some c0 ∧ cur[0 * ob.z + j]? = some (cur.getD (0 * ob.z + j) Go.undef) := fun j c hc => by
   have hj : j < row.length := by rw [hl]; exact (List.getElem?_eq_some_iff.1 hc).1
   have := hb.curLt hrow hj
   refine ⟨_, List.getElem?_eq_getElem hj, ?_⟩
   rw [Array.getElem?_eq_getElem this, Array.getD, dif_pos this]
   rfl
  refine .vp _ b _ (fun j => cur.getD (0 * ob.z + j) Go.undef) ⟨(Array.getElem?_eq_some_iff.1 hb.blk).1, owned_nil _ _, hb.dom⟩ (fun j c hc => ?_) (fun j c hc => ?_) (fun j c hc => ?_)
  all_goals obtain ⟨c0, k1, k2⟩ := hget j c hc
  ·have hblk := hb.blk
   simp only [Nat.zero_mul, Nat.zero_add] at k2 ⊢
   rw [← k2]
   simp [World.cell?, hblk]
  ·exact hall j c0 c k1 hc D nu w _ hro (hb.cell 0 j row c0 _ hrow k1 k2)
  ·exact hb.one 0 j row c0 _ hrow k1 k2
 ·exact absurd hmp.z hz
theorem FrzS.vecs {id len : Nat} {ob : AObj} (ho : o[id]? = some (some ob)) (hv : ob.isV = true) (hl : ob.rows.length = len) {rows' : List (List AV)} (hlen : rows'.length = ob.rows.length)
  (hr : ∀ (i : Nat) row row', ob.rows[i]? = some row → rows'[i]? = some row' → FrzL o row row') : FrzS o (.vec id len) (.slc ob.z rows' len) := fun D nu w x hro hra => by
 have hx : x = nu id len := by
  cases hra with
  | vec => rfl
 subst hx
 subst hl
 have get : ∀ (i : Nat) row', rows'[i]? = some row' → ∃ row, ob.rows[i]? = some row ∧ row'.length = row.length ∧ ∀ (j : Nat) c', row'[j]? = some c' → ∃ c, row[j]? = some c ∧ FrzS o c c' := fun i row' h => by
  have hi : i < ob.rows.length := by rw [← hlen]; exact (List.getElem?_eq_some_iff.1 h).1
  obtain ⟨h1, h2⟩ := (hr i _ row' (List.getElem?_eq_getElem hi) h).at'
  refine ⟨_, List.getElem?_eq_getElem hi, h1.symm, fun j c' hc => ?_⟩
  have hj : j < ob.rows[i].length := by rw [h1]; exact (List.getElem?_eq_some_iff.1 hc).1
  exact ⟨_, List.getElem?_eq_getElem hj, h2 j _ c' (List.getElem?_eq_getElem hj) hc⟩
 rcases hro.obj id ob ho with ⟨e1, e2, e3⟩ | ⟨g, cur, hb⟩ | ⟨g, es, cl, hmp⟩
 rotate_left 2
 ·rw [hmp.isV] at hv; cases hv
 ·rw [e2] at hlen ⊢
  obtain rfl := List.eq_nil_of_length_eq_zero hlen
  simp only [List.length_nil]; rw [e3]; exact .slcNil _
 ·obtain ⟨cap, q1, q2, q3, q4⟩ := hb.vec hv
  rw [q1]
  have hget : ∀ (i j : Nat) row c, ob.rows[i]? = some row → row[j]? = some c → cur[i * ob.z + j]? = some (cur.getD (i * ob.z + j) Go.undef) := fun i j row c k1 k2 => by
   have := hb.curLt k1 (List.getElem?_eq_some_iff.1 k2).1
   simp [Array.getD, this]
  refine .slc _ _ _ g 0 cap (fun i j => cur.getD (i * ob.z + j) Go.undef) (by omega) (by omega) q3 (fun _ => ⟨(Array.getElem?_eq_some_iff.1 hb.blk).1, owned_nil _ _, hb.dom⟩) (fun i row' k1 => ?_) (fun i j row' c' k1 k2 => ?_) (fun i j row' c' k1 k2 => ?_) (fun i j row' c' k1 k2 => ?_)
  ·obtain ⟨row, r1, r2, _⟩ := get i row' k1
   rw [r2]; exact hb.row i row r1
  all_goals
   obtain ⟨row, r1, r2, r3⟩ := get i row' k1
   obtain ⟨c, r4, r5⟩ := r3 j c' k2
  ·rw [← hget i j row c r1 r4]
   have := hb.blk
   simp [World.cell?, this]
  ·exact r5 D nu w _ hro (hb.cell i j row c _ r1 r4 (hget i j row c r1 r4))
  ·exact hb.one i j row c _ r1 r4 (hget i j row c r1 r4)
theorem Call1.enterS {f : FuncId} {fn : Func} {c : Code} {args : List AV} {r : AV} (hf : P.funcs[f]? = some fn) (hb : fn.body = some c) (hc : callOk P f = true) (hok : okCode c = true) (hmx : P.follows .mixedOrders = true)
  (ha : wfL 0 args = true) (hr : r.wf 0 = true) (h : AWp P 0 c ⟨args ++ List.replicate (fn.ntmps - args.length) .undef, [], .no⟩ (AEnd P fn.results.toList (fun r0 o => FrzS o r0 r))) : Call1 P f args r := by
 obtain ⟨_, h2⟩ := CallG.enter (o := []) hf hb hc hok hmx h
 refine ⟨⟨ha, hr⟩, hc, fun D nu w vargs hro hra => (h2 D nu w vargs hro hra).mono ?_⟩
 rintro e w' ⟨v, nu', o', r0, rfl, hm, hro', hra', hz⟩
 have hm' : Mono nu [] w nu' [] w' := ⟨hm.os, hm.tape, hm.output, hm.size, fun id len hh => by obtain ⟨x, k, _⟩ := hh; simp at k, fun b hb ho => ⟨(hm.keep b hb ho).1, owned_nil _ _⟩⟩
 exact ⟨v, nu', [], r, rfl, hm', (.nil _ _ _ hro'.up (hro'.gl.nil (fun _ _ h => h))), hz _ _ _ _ hro' hra', rfl, rfl⟩
end
mutual
theorem ren_cg {f g : Nat → Nat} {m : Nat} (hf : ∀ k, k < m → f k = g k) : ∀ a : AV, a.wf m = true → a.ren f = a.ren g
 | .undef, _ => rfl
 | .v _, _ => rfl
 | .agg cs, h => by rw [AV.ren, AV.ren, renL_cg hf cs h]
 | .tup cs, h => by rw [AV.ren, AV.ren, renL_cg hf cs h]
 | .slc z rows len, h => by rw [AV.ren, AV.ren, renR_cg hf rows h]
 | .vp cs, h => by rw [AV.ren, AV.ren, renL_cg hf cs h]
 | .ptr id _ _ _ _, h => by simp [AV.wf] at h; rw [AV.ren, AV.ren, hf id h]
 | .vec id _, h => by simp [AV.wf] at h; rw [AV.ren, AV.ren, hf id h]
 | .fn g a b, h => by
  simp only [AV.wf, Bool.and_eq_true] at h
  rw [AV.ren, AV.ren, renL_cg hf a h.1, renL_cg hf b h.2]
 | .full a, h => by rw [AV.ren, AV.ren, ren_cg hf a h]
theorem renL_cg {f g : Nat → Nat} {m : Nat} (hf : ∀ k, k < m → f k = g k) : ∀ l : List AV, wfL m l = true → renL f l = renL g l
 | [], _ => rfl
 | a :: l, h => by
  simp only [wfL, Bool.and_eq_true] at h
  rw [renL, renL, ren_cg hf a h.1, renL_cg hf l h.2]
theorem renR_cg {f g : Nat → Nat} {m : Nat} (hf : ∀ k, k < m → f k = g k) : ∀ l : List (List AV), wfR m l = true → renR f l = renR g l
 | [], _ => rfl
 | a :: l, h => by
  simp only [wfR, Bool.and_eq_true] at h
  rw [renR, renR, renL_cg hf a h.1, renR_cg hf l h.2]
end
theorem obs_cg {f g : Nat → Nat} {m : Nat} (hf : ∀ k, k < m → f k = g k) : ∀ l : List (Option AObj), (∀ ob, some ob ∈ l → wfR m ob.rows = true) → l.map (Option.map (AObj.ren f)) = l.map (Option.map (AObj.ren g))
 | [], _ => rfl
 | none :: l, h => by rw [List.map_cons, List.map_cons, obs_cg hf l (fun ob hb => h ob (List.mem_cons_of_mem _ hb))]; rfl
 | some ob :: l, h => by
  rw [List.map_cons, List.map_cons, obs_cg hf l (fun ob hb => h ob (List.mem_cons_of_mem _ hb)), Option.map_some, Option.map_some, AObj.ren, AObj.ren, renR_cg hf _ (h ob List.mem_cons_self)]
theorem ACallV.subP {P : Program} {f : FuncId} {args0 : List AV} {pre o0 o1 post : List (Option AObj)} {r0 : AV} {K : AV → List (Option AObj) → Prop} (h : CallE P f args0 o0 r0 o1) (hl : o1.length = o0.length)
  (hwa : wfL o0.length args0 = true) (hw0 : ∀ ob, some ob ∈ o0 → wfR o0.length ob.rows = true) (hw1 : ∀ ob, some ob ∈ o1 → wfR o0.length ob.rows = true) (hr : r0.wf o0.length = true)
  (k : K (r0.ren (fun j => pre.length + j)) (pre ++ o1.map (Option.map (AObj.ren (fun j => pre.length + j))) ++ post)) : ACallV P f (renL (fun j => pre.length + j) args0) (pre ++ o0.map (Option.map (AObj.ren (fun j => pre.length + j))) ++ post) K := by
 have hs : ∀ j, j < o0.length → sig (List.range' pre.length o0.length) (pre ++ o0.map (Option.map (AObj.ren (fun j => pre.length + j))) ++ post).length j = pre.length + j := fun j hj => by
  rw [sig, if_pos (by simpa using hj), List.getD_eq_getElem?_getD, List.getElem?_range' hj]; simp
 refine ACallV.fr (List.range' pre.length o0.length) h List.nodup_range' ?_ (renL_cg hs _ hwa).symm (by rw [List.length_range']; exact hwa) (fun j ob hj => by rw [List.length_range']; exact hw0 ob (List.mem_of_getElem? hj)) ?_
 ·have e2 := obs_cg hs o0 hw0
  have e3 : ∀ L : List (Option AObj), pre ++ o0.map (Option.map (AObj.ren (fun j => pre.length + j))) ++ post = L → (List.range' pre.length o0.length).map (fun i => L[i]?) = (o0.map (Option.map (AObj.ren (fun j => pre.length + j)))).map some := by
   rintro L rfl
   refine List.ext_getElem (by simp) fun j h1 h2 => ?_
   have hj : j < o0.length := by simpa using h2
   simp only [List.getElem_map, List.getElem_range', Nat.one_mul]
   rw [List.append_assoc, List.getElem?_append_right (by omega), Nat.add_sub_cancel_left, List.getElem?_append_left (by simpa using hj), List.getElem?_map, List.getElem?_eq_getElem hj, Option.map_some]
  rw [e3 _ rfl]
  refine (congrArg (List.map some) e2.symm).trans ?_
  rw [List.map_map]
  rfl
 ·have e := putO_pre (sig (List.range' pre.length o0.length) (pre ++ o0.map (Option.map (AObj.ren (fun j => pre.length + j))) ++ post).length) o1 (o0.map (Option.map (AObj.ren (fun j => pre.length + j)))) pre post (by simpa using hl)
  rw [hl] at e
  rw [e, ren_cg hs r0 hr, obs_cg hs o1 hw1]
  exact k
end Go.Proofs.YtmdkgajjekbanaaDoor
