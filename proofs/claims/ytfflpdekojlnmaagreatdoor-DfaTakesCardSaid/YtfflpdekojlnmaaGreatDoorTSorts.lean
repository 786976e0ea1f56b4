/- slices.Sort, slices.Compact for numbers; expr.all: a row is brought into order in place, each number once. -/
import Derived.Test.YtfflpdekojlnmaaGreatDoorTTakes
import Derived.Shelf.Sort.Plain
import Derived.Shelf.Slices.CompactI
import Derived.Shelf.Slices.In.SortNone
set_option linter.unusedSimpArgs false
set_option linter.unusedVariables false
namespace Go.Proofs.YtfflpdekojlnmaaGreatDoor
open Go.RowKit

def sortRen : Go.Shelf.Ren := ⟨fun | 189 => 111 | 125 => 87 | 257 => 136 | 128 => 125 | 129 => 126 | 294 => 151 | 295 => 152 | 296 => 153 | 297 => 154 | 298 => 155 | 299 => 156 | 216 => 157 | 300 => 158 | 301 => 159 | 328 => 169 | 329 => 141 | 330 => 142 | 331 => 170 | 332 => 171 | 215 => 172 | 343 => 177 | n => n, fun | 28 => 79 | 3 => 3 | 46 => 121 | 0 => 0 | 51 => 95 | 53 => 178 | 4 => 4 | 183 => 170 | 182 => 169 | 131 => 57 | 5 => 5 | 9 => 9 | 218 => 186 | 222 => 190 | 228 => 204 | 229 => 205 | n => n, fun n => n⟩
theorem sortLays : Lays.n189 Tryz.prog sortRen := {
 mixed := by kernel_rfl
 f125 := Tryz.func87
 f128 := Tryz.func125
 f129 := Tryz.func126
 f189 := Tryz.func111
 f215 := Tryz.func172
 f216 := Tryz.func157
 f257 := Tryz.func136
 f294 := Tryz.func151
 f295 := Tryz.func152
 f296 := Tryz.func153
 f297 := Tryz.func154
 f298 := Tryz.func155
 f299 := Tryz.func156
 f300 := Tryz.func158
 f301 := Tryz.func159
 f328 := Tryz.func169
 f329 := Tryz.func141
 f330 := Tryz.func142
 f331 := Tryz.func170
 f332 := Tryz.func171
 f343 := Tryz.func177
 t0 := by kernel_rfl
 a0 := fun w => by kernel_rfl
 z0 := fun w => by kernel_rfl
 v0 := fun w => by kernel_rfl
 t3 := by kernel_rfl
 a3 := fun w => by kernel_rfl
 z3 := fun w => by kernel_rfl
 v3 := fun w => by kernel_rfl
 t4 := by kernel_rfl
 a4 := fun w => by kernel_rfl
 z4 := fun w => by kernel_rfl
 v4 := fun w => by kernel_rfl
 t5 := by kernel_rfl
 a5 := fun w => by kernel_rfl
 z5 := fun w => by kernel_rfl
 v5 := fun w => by kernel_rfl
 t9 := by kernel_rfl
 a9 := fun w => by kernel_rfl
 z9 := fun w => by kernel_rfl
 v9 := fun w => by kernel_rfl
 t28 := by kernel_rfl
 a28 := fun w => by kernel_rfl
 z28 := fun w => by kernel_rfl
 v28 := fun w => by kernel_rfl
 t46 := by kernel_rfl
 a46 := fun w => by kernel_rfl
 z46 := fun w => by kernel_rfl
 v46 := fun w => by kernel_rfl
 t51 := by kernel_rfl
 a51 := fun w => by kernel_rfl
 z51 := fun w => by kernel_rfl
 v51 := fun w => by kernel_rfl
 t53 := by kernel_rfl
 a53 := fun w => by kernel_rfl
 z53 := fun w => by kernel_rfl
 v53 := fun w => by kernel_rfl
 t131 := by kernel_rfl
 a131 := fun w => by kernel_rfl
 z131 := fun w => by kernel_rfl
 v131 := fun w => by kernel_rfl
 t182 := by kernel_rfl
 a182 := fun w => by kernel_rfl
 z182 := fun w => by kernel_rfl
 v182 := fun w => by kernel_rfl
 t183 := by kernel_rfl
 a183 := fun w => by kernel_rfl
 z183 := fun w => by kernel_rfl
 v183 := fun w => by kernel_rfl
 t218 := by kernel_rfl
 a218 := fun w => by kernel_rfl
 z218 := fun w => by kernel_rfl
 v218 := fun w => by kernel_rfl
 t222 := by kernel_rfl
 a222 := fun w => by kernel_rfl
 z222 := fun w => by kernel_rfl
 v222 := fun w => by kernel_rfl
 t228 := by kernel_rfl
 a228 := fun w => by kernel_rfl
 z228 := fun w => by kernel_rfl
 v228 := fun w => by kernel_rfl
 t229 := by kernel_rfl
 a229 := fun w => by kernel_rfl
 z229 := fun w => by kernel_rfl
 v229 := fun w => by kernel_rfl }
def cmptRen : Go.Shelf.Ren := ⟨fun | 20 => 112 | n => n, fun | 22 => 79 | 3 => 3 | 4 => 4 | 0 => 0 | n => n, fun n => n⟩
theorem cmptLays : Lays2.n20 Tryz.prog cmptRen := {
 mixed := by kernel_rfl
 f20 := Tryz.func112
 t0 := by kernel_rfl
 a0 := fun w => by kernel_rfl
 z0 := fun w => by kernel_rfl
 v0 := fun w => by kernel_rfl
 t3 := by kernel_rfl
 a3 := fun w => by kernel_rfl
 z3 := fun w => by kernel_rfl
 v3 := fun w => by kernel_rfl
 t4 := by kernel_rfl
 a4 := fun w => by kernel_rfl
 z4 := fun w => by kernel_rfl
 v4 := fun w => by kernel_rfl
 t22 := by kernel_rfl
 a22 := fun w => by kernel_rfl
 z22 := fun w => by kernel_rfl
 v22 := fun w => by kernel_rfl
 i3 := by kernel_rfl }
theorem encN_rowsI (l : List Nat) : encN l = rowsV (Value.int .i64) (toI l) := by simp [encN, rowsV, toI]
theorem toI_len (l : List Nat) : (toI l).length = l.length := by simp [toI]
open Go.Sort in
set_option maxRecDepth 100000 in
set_option maxHeartbeats 4000000 in
theorem sort_e (l : List Nat) (hl : l.length ≤ 1000000) : CallE Tryz.prog 111 [.vec 0 l.length] [some ⟨3, 1, true, encN l⟩] (.tup [])
  [some ⟨3, 1, true, rowsV (Value.int .i64) ((toI l).mergeSort (fun x y => decide (x ≤ y)))⟩] := by
 have key := CallE.same (P := Tryz.prog) (enc := Value.int .i64) (fun _ => rfl) (f := 111) (args := []) (T := 3) (d := toI l) (o1 := []) (d' := (toI l).mergeSort (fun x y => decide (x ≤ y))) (by simp) (by kernel_rfl) ?_ ?_
 ·rw [toI_len, ← encN_rowsI] at key
  exact key
 ·intro D nu w vargs cap blk hro hra hH hblk hcap hmx
  have e0 : vargs = #[] := Array.eq_empty_of_size_eq_zero (by have := hra.len; simpa using this.symm)
  subst e0
  have hS := Any.slices_Sort_int (P := Tryz.prog) (ρ := sortRen) sortLays blk 0 cap (toI l) w hH hblk (by rw [toI_len]; omega)
  change Calls Tryz.prog 111 _ _ _ at hS
  exact hS
 ·intro _ D nu w vargs hro hra
  have e0 : vargs = #[] := Array.eq_empty_of_size_eq_zero (by have := hra.len; simpa using this.symm)
  subst e0
  have hS := Any.slices_Sort_int_none (P := Tryz.prog) (ρ := sortRen) sortLays none 0 w
  change Calls Tryz.prog 111 _ _ _ at hS
  refine hS.mono ?_
  rintro e w' ⟨rfl, rfl⟩
  exact ⟨rfl, .refl _ _⟩
open Go.Sort in
set_option maxRecDepth 100000 in
set_option maxHeartbeats 4000000 in
theorem compact_e (l : List Nat) (hl : l.length ≤ 1000000) : CallE Tryz.prog 112 [.vec 0 l.length] [some ⟨3, 1, true, rowsV (Value.int .i64) ((toI l).mergeSort (fun x y => decide (x ≤ y)))⟩] (.vec 1 (srt l).length)
  [none, some ⟨3, 1, true, encN (srt l)⟩] := by
 have hc := compact_sort l
 have hn := srt_len l
 generalize hs : (toI l).mergeSort (fun x y => decide (x ≤ y)) = s at hc ⊢
 have hsl : s.length = l.length := by rw [← hs]; simp [toI]
 have key := CallE.row (P := Tryz.prog) (enc := Value.int .i64) (fun _ => rfl) (f := 112) (args := []) (T := 3) (d := s) (o1 := [])
  (d' := toI (srt l) ++ List.replicate (s.length - (srt l).length) 0) (k := (srt l).length) (by rw [List.length_append, List.length_replicate, toI_len]; omega) (by omega) (by kernel_rfl) ?_ ?_
 ·rw [List.take_append_of_le_length (by rw [toI_len]; omega), List.take_of_length_le (by rw [toI_len]; omega)] at key
  rw [hsl, ← encN_rowsI] at key
  exact key
 ·intro D nu w vargs cap blk hro hra hH hblk hnu hcap hmx
  have e0 : vargs = #[] := Array.eq_empty_of_size_eq_zero (by have := hra.len; simpa using this.symm)
  subst e0
  have hS := Any.slices_Compact_int (P := Tryz.prog) (ρ := cmptRen) cmptLays blk 0 cap s w hH (by omega) hcap
  rw [hc, toI_len] at hS
  change Calls Tryz.prog 112 _ _ _ at hS
  refine hS.mono ?_
  rintro e w' ⟨rfl, q, rfl⟩
  exact ⟨rfl, q, #[], by rw [grow_empty]⟩
 ·intro hd D nu w vargs hro hra
  have e0 : vargs = #[] := Array.eq_empty_of_size_eq_zero (by have := hra.len; simpa using this.symm)
  subst e0
  have hS := Any.slices_Compact_int_empty (P := Tryz.prog) (ρ := cmptRen) cmptLays none 0 w
  change Calls Tryz.prog 112 _ _ _ at hS
  refine hS.mono ?_
  rintro e w' ⟨rfl, rfl⟩
  exact ⟨rfl, .refl _ _⟩
theorem ra_empty {D : Nat → Prop} {nu : Nat → Nat → Value} {o : List (Option AObj)} {w : World} {x : Value} (h : RA D nu o w (.slc 1 [] 0) x) : ∃ a c, x = .slice a 0 c := by
 cases h with
 | slcNil => exact ⟨_, _, rfl⟩
 | slcOdd _ a => exact ⟨_, _, rfl⟩
 | slc _ _ _ b off cap f => exact ⟨_, _, rfl⟩
set_option maxRecDepth 100000 in
theorem sort_0 : Call1 Tryz.prog 111 [.slc 1 [] 0] (.tup []) := by
 refine ⟨⟨rfl, rfl⟩, by kernel_rfl, fun D nu w vargs hro hra => ?_⟩
 obtain ⟨x, rfl, hx⟩ := ras_one hra
 obtain ⟨a, c, rfl⟩ := ra_empty hx
 have hS := Any.slices_Sort_int_none (P := Tryz.prog) (ρ := sortRen) sortLays a c w
 change Calls Tryz.prog 111 _ _ _ at hS
 refine hS.mono ?_
 rintro e w' ⟨rfl, rfl⟩
 exact ⟨_, nu, [], _, rfl, .refl _ _ _, hro, .tup _ _ rfl (fun i c x h _ => by simp at h), rfl, rfl⟩
set_option maxRecDepth 100000 in
theorem compact_0 : Call1 Tryz.prog 112 [.slc 1 [] 0] (.slc 1 [] 0) := by
 refine ⟨⟨rfl, rfl⟩, by kernel_rfl, fun D nu w vargs hro hra => ?_⟩
 obtain ⟨x, rfl, hx⟩ := ras_one hra
 obtain ⟨a, c, rfl⟩ := ra_empty hx
 have hS := Any.slices_Compact_int_empty (P := Tryz.prog) (ρ := cmptRen) cmptLays a c w
 change Calls Tryz.prog 112 _ _ _ at hS
 refine hS.mono ?_
 rintro e w' ⟨rfl, rfl⟩
 exact ⟨_, nu, [], _, rfl, .refl _ _ _, hro, hx, rfl, rfl⟩
set_option maxRecDepth 100000 in
set_option maxHeartbeats 4000000 in
theorem all_e (l : List Nat) (hl : l.length ≤ 1000000) : CallE Tryz.prog 80 [.vec 0 l.length] [some ⟨3, 1, true, encN l⟩] (.vec 1 (srt l).length) [none, some ⟨3, 1, true, encN (srt l)⟩] := by
 have S := sort_e l hl
 have C := compact_e l hl
 have eZ : ∀ f, renR f (encN l) = encN l := fun f => renR_wf0 _ _ (wfR_map _ (fun _ => rfl) _)
 have eZ2 : ∀ f, renR f (encN (srt l)) = encN (srt l) := fun f => renR_wf0 _ _ (wfR_map _ (fun _ => rfl) _)
 have eZ3 : ∀ f m, renR f (rowsV (Value.int .i64) m) = rowsV (Value.int .i64) m := fun f m => renR_wf0 _ _ (wfR_map _ (fun _ => rfl) _)
 (refine CallE.enter Tryz.func80 rfl (by kernel_rfl) (by kernel_rfl) rfl ?_; simp only [Tryz.ntmps80, Tryz.results80, List.length_cons, List.length_nil, Nat.reduceAdd, Nat.reduceSub, List.replicate_succ, List.replicate_zero, List.cons_append, List.nil_append])
 repeat (first | (with_reducible first | refine Stp.up ?_ | refine fun (K : AK) hK => ?_ | (refine hK _ ?_; clear hK K)) | simp only [go_sem] | with_reducible refine wA ?_ | clear hK K)
 refine ACallV.fr [0] S (by simp) ?_ ?_ ?_ ?_ ?_
 ·simp only [List.map_cons, List.map_nil, List.getElem?_cons_zero, Option.map_some, AObj.ren, eZ]
 ·rfl
 ·rfl
 ·intro j ob hj
  match j, hj with
  | 0, hj => cases hj; exact wfR_map _ (fun _ => rfl) _
  | j + 1, hj => simp at hj
 repeat (first | (with_reducible first | refine Stp.up ?_ | refine fun (K : AK) hK => ?_ | (refine hK _ ?_; clear hK K)) | simp only [go_sem] | with_reducible refine wA ?_ | clear hK K)
 refine ACallV.fr [0] C (by simp) ?_ ?_ ?_ ?_ ?_
 ·simp only [List.map_cons, List.map_nil, List.getElem?_cons_zero, Option.map_some, AObj.ren, eZ3]
 ·rfl
 ·rfl
 ·intro j ob hj
  match j, hj with
  | 0, hj => cases hj; exact wfR_map _ (fun _ => rfl) _
  | j + 1, hj => simp at hj
 repeat (first | (with_reducible first | refine Stp.up ?_ | refine fun (K : AK) hK => ?_ | (refine hK _ ?_; clear hK K)) | simp only [go_sem] | with_reducible refine wA ?_ | clear hK K)
 simp only [eZ2]
 (refine ⟨?_, ?_, ?_⟩ <;> simp only [WkT, WkO, AV.v.injEq, Value.int.injEq, Value.bool.injEq, Value.string.injEq, AV.vec.injEq, AV.ptr.injEq, true_or, or_true, false_or, or_false, AObj.mk.injEq, forall_eq_apply_imp_iff, forall_eq, forall_eq', go_sem])
 all_goals first | exact wfR_map _ (fun _ => rfl) _ | exact ⟨rfl, wfR_map _ (fun _ => rfl) _⟩ | trace_state
set_option maxRecDepth 100000 in
theorem all_0 : Call1 Tryz.prog 80 [.slc 1 [] 0] (.slc 1 [] 0) := by
 have S := sort_0
 have C := compact_0
 (refine Call1.enter Tryz.func80 rfl (by kernel_rfl) (by kernel_rfl) rfl (by first | rfl | (simp only [go_sem, Bool.and_self, Bool.and_true, Bool.true_and])) (by first | rfl | (simp only [go_sem, Bool.and_self, Bool.and_true, Bool.true_and])) ?_; simp only [Tryz.ntmps80, Tryz.results80, List.length_cons, List.length_nil, Nat.reduceAdd, Nat.reduceSub, List.replicate_succ, List.replicate_zero, List.cons_append, List.nil_append])
 repeat' (first | (with_reducible first | refine Stp.up ?_ | refine fun (K : AK) hK => ?_ | (refine hK _ ?_; clear hK K)) | simp only [go_sem] | clear hK K | (with_reducible refine ACallV.one (by assumption) ?_) | (with_reducible refine ACallS.one (by assumption) ?_) | (refine AIf.part (fun hb => ?_) (fun hb => ?_) <;> simp only [hb, go_sem]) | (refine AIf.part (fun hb => ?_) (fun hb => ?_)) | (with_reducible refine ABoth.mk ?_ ?_))
 (refine AFz.of 40 rfl ?_; simp only [go_sem])
end Go.Proofs.YtfflpdekojlnmaaGreatDoor
