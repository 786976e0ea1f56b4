/- Calls that see what is owned and leave it as it is; results that are new; own rows that are written over in place and cut. -/
import Derived.Test.YtmdkgajjekbanaaDoorEAbsV
import Derived.Test.YtmdkgajjekbanaaDoorEAbsW
import Derived.Sort.Grow
import Derived.Test.YtmdkgajjekbanaaDoorEAbsZ
import Derived.Test.YtmdkgajjekbanaaDoorEOnceC
import Derived.Test.YtmdkgajjekbanaaDoorEBehP
import Derived.Test.YtmdkgajjekbanaaDoorEWalk
import Derived.Test.YtmdkgajjekbanaaDoorEOpenX
import Derived.Test.YtmdkgajjekbanaaDoorEValue
set_option linter.unusedSimpArgs false
set_option linter.unusedVariables false
namespace Go.Proofs.YtmdkgajjekbanaaDoor
open Go.RowKit

section
variable {D : Nat → Prop} {nu : Nat → Nat → Value} {o : List (Option AObj)} {w : World} {P : Program}

def FrzS (o : List (Option AObj)) (a r : AV) : Prop := ∀ (D : Nat → Prop) (nu : Nat → Nat → Value) (w : World) (x : Value), RO D nu o w → RA D nu o w a x → RA D nu [] w r x
def FrzL (o : List (Option AObj)) : List AV → List AV → Prop
 | [], [] => True
 | a :: l, b :: m => FrzS o a b ∧ FrzL o l m
 | _, _ => False
theorem FrzS.of {a r : AV} (n : Nat) {p : Prop} (hz : aFrz o n a = some (p, r)) (hp : p) : FrzS o a r := fun _ _ _ x hro hra => (frz_both hro n).1 a x p r hz hp hra
theorem FrzL.at' : ∀ {l m : List AV}, FrzL o l m → l.length = m.length ∧ ∀ (i : Nat) a b, l[i]? = some a → m[i]? = some b → FrzS o a b
 | [], [], _ => ⟨rfl, fun i a b h => by simp at h⟩
 | a :: l, b :: m, h => by
  obtain ⟨h1, h2⟩ := FrzL.at' h.2
  refine ⟨by simp [h1], fun i x y k1 k2 => ?_⟩
  cases i with
  | zero => simp at k1 k2; subst k1; subst k2; exact h.1
  | succ i => exact h2 i x y (by simpa using k1) (by simpa using k2)

def CallN (P : Program) (f : FuncId) (args : List AV) (r : AV) : Prop := (wfL 0 args = true ∧ r.wf 0 = true) ∧ callOk P f = true ∧ ∀ D nu w vargs, RO D nu [] w → RAs D nu [] w args vargs → Calls P f vargs w (fun e w' => ∃ v, e = .returned v ∧ Below w.heap.size w w' ∧ RA (fun b => w.heap.size ≤ b) nu [] w' r v)
theorem CallN.to1 {f : FuncId} {args : List AV} {r : AV} (h : CallN P f args r) : Call1 P f args r := by
 refine ⟨h.1, h.2.1, fun D nu w vargs hro hra => (h.2.2 D nu w vargs hro hra).mono ?_⟩
 rintro e w' ⟨v, rfl, hb, hx⟩
 exact ⟨v, nu, [], r, rfl, mono_below hb, hro.below hb, hx.wider (fun b hb => hro.up b hb), rfl, rfl⟩
def AFzN (o : List (Option AObj)) (r0 r : AV) : Prop := ∀ (D : Nat → Prop) (nu : Nat → Nat → Value) (w : World) (x : Value), RO D nu o w → RA D nu o w r0 x → RA (owned nu o) nu [] w r x
theorem AFzN.vec {id len : Nat} {ob : AObj} (ho : o[id]? = some (some ob)) (hv : ob.isV = true) (hl : ob.rows.length = len) (hp : ∀ row, row ∈ ob.rows → ∀ c, c ∈ row → ∃ x, c = .v x) : AFzN o (.vec id len) (.slc ob.z ob.rows len) := fun D nu w x hro hra => by
 have hx : x = nu id len := by
  cases hra with
  | vec => rfl
 subst hx
 subst hl
 have hown : ∀ b, blkOf (nu id ob.rows.length) = some b → owned nu o b := fun b hb => ⟨id, ob, ho, by rw [AObj.hl, hv, if_pos rfl]; exact blkM_of hb⟩
 have h := vec_slc hro ho hv
 generalize hq : nu id ob.rows.length = q at h hown ⊢
 generalize ob.rows.length = n at h ⊢
 generalize ob.rows = rows at h hp ⊢
 cases h with
 | slcNil => exact .slcNil _
 | slcOdd _ a => exact .slcOdd _ a
 | slc _ _ _ b off cap f k1 k2 k3 k4 k5 k6 k7 k8 =>
  refine .slc _ _ _ b off cap f k1 k2 k3 (fun hne => ⟨(k4 hne).1, owned_nil _ _, hown b rfl⟩) k5 k6 (fun i j row c q1 q2 => ?_) k8
  obtain ⟨y, rfl⟩ := hp row (List.mem_of_getElem? q1) c (List.mem_of_getElem? q2)
  rw [(k7 i j row _ q1 q2).v_eq]; exact .v y
theorem AFzN.nil (z : Nat) : AFzN o (.v (.slice none 0 0)) (.slc z [] 0) := fun D nu w y hro hra => by rw [hra.v_eq]; exact .slcNil z
theorem plain_map {α : Type} (f : α → List AV) (h : ∀ x, ∀ c ∈ f x, ∃ y, c = .v y) (l : List α) : ∀ row, row ∈ l.map f → ∀ c, c ∈ row → ∃ y, c = .v y := fun row hr => by
 obtain ⟨x, _, rfl⟩ := List.mem_map.1 hr; exact h x
theorem CallN.enter {f : FuncId} {fn : Func} {c : Code} {args : List AV} {r : AV} (hf : P.funcs[f]? = some fn) (hb : fn.body = some c) (hc : callOk P f = true) (hok : okCode c = true) (hmx : P.follows .mixedOrders = true)
  (ha : wfL 0 args = true) (hr : r.wf 0 = true) (h : AWp P 0 c ⟨args ++ List.replicate (fn.ntmps - args.length) .undef, [], .no⟩ (AEnd P fn.results.toList (fun r0 o => AFzN o r0 r))) : CallN P f args r := by
 obtain ⟨_, h2⟩ := CallG.enter (o := []) hf hb hc hok hmx h
 refine ⟨⟨ha, hr⟩, hc, fun D nu w vargs hro hra => (h2 D nu w vargs hro hra).mono ?_⟩
 rintro e w' ⟨v, nu', o', r0, rfl, hm, hro', hra', hz⟩
 refine ⟨v, rfl, ⟨hm.os, hm.tape, hm.output, hm.size, fun b hb => (hm.keep b hb (owned_nil _ _)).1⟩, (hz _ _ _ _ hro' hra').tr (n := 0) (fun b hf => ⟨hf.1, owned_nil _ _, ?_⟩) (fun id len hlt => by omega) hr⟩
 rcases Nat.lt_or_ge b w.heap.size with q | q
 ·exact absurd hf.2.2 (hm.keep b q (owned_nil _ _)).2
 ·exact q

/-! ### own rows of plain values, written over in place -/
def rowsV {α : Type} (enc : α → Value) (l : List α) : List (List AV) := l.map (fun a => [.v (enc a)])
/-! ### own objects, picked and numbered anew -/
def SelT (f : Nat → Nat) (n : Nat) : List AV → List AV → Prop
 | [], [] => True
 | a :: l, c :: m => (c = .undef ∨ (a = c.ren f ∧ c.wf n = true)) ∧ SelT f n l m
 | _, _ => False
theorem SelT_get {f : Nat → Nat} {n : Nat} : ∀ {l m : List AV}, SelT f n l m → l.length = m.length ∧ ∀ (i : Nat) c, m[i]? = some c → c = .undef ∨ (l[i]? = some (c.ren f) ∧ c.wf n = true)
 | [], [], _ => ⟨rfl, fun i c h => by simp at h⟩
 | a :: l, b :: m, h => by
  obtain ⟨h1, h2⟩ := SelT_get h.2
  refine ⟨by simp [h1], fun i c hc => ?_⟩
  cases i with
  | zero => simp at hc; subst hc; rcases h.1 with e | ⟨e, g⟩
            · exact .inl e
            · exact .inr ⟨by simp [e], g⟩
  | succ i => simpa using h2 i c (by simpa using hc)
theorem asem_sel {s : AS} {c : Code} {Q : AExit → AS → Prop} (ids : List Nat) (t0 : List AV) (o0 : List (Option AObj)) (hnd : ids.Nodup) (ho : ids.map (fun i => s.o[i]?) = o0.map (fun x => some (x.map (AObj.ren (sig ids s.o.length)))))
  (hwo : ∀ (k : Nat) ob, o0[k]? = some (some ob) → wfR ids.length ob.rows = true) (ht : SelT (sig ids s.o.length) ids.length s.t t0) (hok : okCode c = true) (h : AWp P 0 c ⟨t0, o0, s.y⟩ Q) : ASem P 0 c s Q := fun f m D nu a w hZr hn hm hs hmx R hO hR => by
 obtain ⟨ro0, own0, fz0, hdr0, _⟩ := frame_in ids hs.ro hnd ho hwo
 have hlen : o0.length = ids.length := by have := congrArg List.length ho; simpa using this.symm
 generalize sig ids s.o.length = σ at *
 have hD : ∀ b, (D b ∧ ¬ (b < w.heap.size ∧ ∃ id ob, id ∉ ids ∧ s.o[id]? = some (some ob) ∧ blkM (nu id ob.hl) = some b)) → D b := fun b h => h.1
 have ro1 := ro0.wider hD
 obtain ⟨t1, t2⟩ := SelT_get ht
 have hs0 : RS f D (fun k len => nu (σ k) len) ⟨t0, o0, s.y⟩ a w := ⟨ro1, ⟨by rw [← t1]; exact hs.tm.len, fun i c x h1 h2 => by
  rcases t2 i c h1 with rfl | ⟨e, g⟩
  ·exact .undef x
  ·exact ((hs.tm.at' i _ x e h2).unren (f := σ) (n := ids.length) fz0 hdr0 c g rfl).wider hD⟩, hs.dfr⟩
 refine awp_good hmx m hZr hn c hok _ a w D _ f.Z Q R hO ?_ hs0 h hR
 -- first all is let go, then those that are kept are taken anew
 have hoz : ∀ b, owned nu s.o b → ¬ f.Z b := fun b hb hz => ((m.zlt hm).1 b hz).2 (hs.ro.dom_of hb)
 have m1 := m.step (D' := fun b => D b ∧ ¬ owned nu s.o b) (nu' := nu) (o' := []) (Z' := fun b => f.Z b ∨ owned nu s.o b) (w' := w) hm hs.ro
  ⟨rfl, rfl, rfl, Nat.le_refl _, fun id len hlt _ => by simp at hlt, fun b _ _ _ => ⟨rfl, owned_nil _ _⟩⟩
  (.nil _ _ _ (fun b hb => ⟨hs.ro.up b hb, fun ho => by have := hs.ro.owned_lt ho; omega⟩) (hs.ro.gl.keep fun b _ hno hd => ⟨rfl, owned_nil _ _, hd, hno⟩))
  (fun c v hr hc => hr.tr (n := 0) (fun b hf => ⟨hf.1, owned_nil _ _, hf.2.2, hf.2.1⟩) (fun id len hlt => by omega) hc)
  (fun b hb => .inl hb.1) (fun b hb => by by_cases ho : owned nu s.o b; exact .inr (.inr ho); exact .inl ⟨hb, ho⟩)
  (fun b hb => by
   rcases hb with hz | ho
   ·exact ⟨((m.zlt hm).1 b hz).1, fun hd => ((m.zlt hm).1 b hz).2 hd.1, .inl hz⟩
   ·exact ⟨hs.ro.owned_lt ho, fun hd => hd.2 ho, .inr (.inl ho)⟩) (by simpa using hn)
 exact m.step m1 (.nil _ _ _ (fun b hb => ⟨hs.ro.up b hb, fun ho => by have := hs.ro.owned_lt ho; omega⟩) (hs.ro.gl.keep fun b _ hno hd => ⟨rfl, owned_nil _ _, hd, hno⟩))
  ⟨rfl, rfl, rfl, Nat.le_refl _, fun id len _ hh => by obtain ⟨x, h1, _⟩ := hh; simp at h1, fun b _ _ hz => ⟨rfl, fun ho => hz (.inr (own0 b ho))⟩⟩ ro1
  (fun c v hr hc => hr.tr (n := o0.length) (fun b hf => ⟨hf.1, fun ho => hf.2.2.2 (own0 b ho), hf.2.2.1⟩) (fun id len hlt hh => by obtain ⟨x, h1, _⟩ := hh; simp at h1) hc)
  (fun b hb => by by_cases ho : owned nu s.o b; exact .inr (.inr ho); exact .inl ⟨hb, ho⟩) (fun b hb => .inl hb.1)
  (fun b hz => ⟨((m.zlt hm).1 b hz).1, ((m.zlt hm).1 b hz).2, .inl (.inl hz)⟩) (Nat.le_trans hn (Nat.zero_le _))
theorem awp_sel {id : Nat} {t : List AV} {o : List (Option AObj)} {y : YSt} {ops : Array Oper} {d : Bool} {Q : AExit → AS → Prop} (ids : List Nat) (t0 : List AV) (o0 : List (Option AObj)) (hnd : ids.Nodup) (ho : ids.map (fun i => o[i]?) = o0.map (fun x => some (x.map (AObj.ren (sig ids o.length)))))
  (hwo : ∀ (k : Nat) ob, o0[k]? = some (some ob) → wfR ids.length ob.rows = true) (ht : SelT (sig ids o.length) ids.length t t0) (hok : calmB ops = true) (h : AWp P 0 (.region id ops d) ⟨t0, o0, y⟩ Q) : AWp P 0 (.region id ops d) ⟨t, o, y⟩ Q := by
 have := asem_sel (P := P) (s := ⟨t, o, y⟩) (c := .region id ops d) ids t0 o0 hnd ho hwo ht hok h
 cases d
 ·exact .inr this
 ·exact .inr this
end
end Go.Proofs.YtmdkgajjekbanaaDoor

namespace Go.Proofs.YtmdkgajjekbanaaDoor
open Go.RowKit

def opsC (q : Qry) (i : Nat) : List (List AV) := ((q.conds.drop i).flatMap (fun c => [c.left, c.right]) ++ q.ret).map (fun o => [.agg (encO o)])

/-! ### a map whose keys are texts -/
def mrows (l : List (ByteArray × Int)) : List (List AV) := l.map (fun p => [.v (.string p.1), .v (.int .i64 p.2)])
end Go.Proofs.YtmdkgajjekbanaaDoor

namespace Go.Proofs.YtmdkgajjekbanaaDoor
open Go.RowKit

set_option maxRecDepth 100000 in
theorem letter02_c (c : Int) : Call1 Tryd.prog 96 [.v (.int .u8 c)] (.v (.bool (ltrI c))) := by
 unfold ltrI
 (refine Call1.enter Tryd.func96 rfl (by kernel_rfl) (by kernel_rfl) rfl (by first | rfl | (simp only [go_sem, Bool.and_self, Bool.and_true, Bool.true_and])) (by first | rfl | (simp only [go_sem, Bool.and_self, Bool.and_true, Bool.true_and])) ?_; simp only [Tryd.ntmps96, Tryd.results96, List.length_cons, List.length_nil, Nat.reduceAdd, Nat.reduceSub, List.replicate_succ, List.replicate_zero, List.cons_append, List.nil_append])
 repeat (first | (with_reducible first | refine Stp.up ?_ | refine fun (K : AK) hK => ?_ | (refine hK _ ?_; clear hK K)) | simp only [go_sem] | clear hK K)
 refine AIf.part (fun h => ?_) (fun h => ?_)
 ·repeat (first | (with_reducible first | refine Stp.up ?_ | refine fun (K : AK) hK => ?_ | (refine hK _ ?_; clear hK K)) | simp only [go_sem, h] | clear hK K)
 ·repeat (first | (with_reducible first | refine Stp.up ?_ | refine fun (K : AK) hK => ?_ | (refine hK _ ?_; clear hK K)) | simp only [go_sem, h] | clear hK K)
set_option maxRecDepth 100000 in
theorem sign02_c (c : Int) : Call1 Tryd.prog 100 [.v (.int .u8 c)] (.v (.bool (signI c))) := by
 have L := letter02_c c
 (refine Call1.enter Tryd.func100 rfl (by kernel_rfl) (by kernel_rfl) rfl (by first | rfl | (simp only [go_sem, Bool.and_self, Bool.and_true, Bool.true_and])) (by first | rfl | (simp only [go_sem, Bool.and_self, Bool.and_true, Bool.true_and])) ?_; simp only [Tryd.ntmps100, Tryd.results100, List.length_cons, List.length_nil, Nat.reduceAdd, Nat.reduceSub, List.replicate_succ, List.replicate_zero, List.cons_append, List.nil_append])
 repeat (first | (with_reducible first | refine Stp.up ?_ | refine fun (K : AK) hK => ?_ | (refine hK _ ?_; clear hK K)) | simp only [go_sem] | clear hK K)
 refine ACallV.one L ?_
 repeat (first | (with_reducible first | refine Stp.up ?_ | refine fun (K : AK) hK => ?_ | (refine hK _ ?_; clear hK K)) | simp only [go_sem] | clear hK K)
 refine AIf.part (fun h => ?_) (fun h => ?_)
 ·repeat (first | (with_reducible first | refine Stp.up ?_ | refine fun (K : AK) hK => ?_ | (refine hK _ ?_; clear hK K)) | simp only [go_sem, h, Go.undef] | clear hK K)
  rw [signI, h]; rfl
 ·repeat (first | (with_reducible first | refine Stp.up ?_ | refine fun (K : AK) hK => ?_ | (refine hK _ ?_; clear hK K)) | simp only [go_sem, h, Go.undef] | clear hK K)
  refine AIf.part (fun h2 => ?_) (fun h2 => ?_)
  ·repeat (first | (with_reducible first | refine Stp.up ?_ | refine fun (K : AK) hK => ?_ | (refine hK _ ?_; clear hK K)) | simp only [go_sem, h, h2, Go.undef] | clear hK K)
   refine AIf.part (fun h3 => ?_) (fun h3 => ?_)
   ·repeat (first | (with_reducible first | refine Stp.up ?_ | refine fun (K : AK) hK => ?_ | (refine hK _ ?_; clear hK K)) | simp only [go_sem, h, h2, h3, Go.undef] | clear hK K)
    rw [signI, h, h2, h3]; simp
   ·repeat (first | (with_reducible first | refine Stp.up ?_ | refine fun (K : AK) hK => ?_ | (refine hK _ ?_; clear hK K)) | simp only [go_sem, h, h2, h3, Go.undef] | clear hK K)
    rw [signI, h, h2, h3]; simp
  ·repeat (first | (with_reducible first | refine Stp.up ?_ | refine fun (K : AK) hK => ?_ | (refine hK _ ?_; clear hK K)) | simp only [go_sem, h, h2, Go.undef] | clear hK K)
   rw [signI, h, h2]; simp
theorem strAt_eq (s : ByteArray) (k : Nat) (h : k < s.size) : strAt s k = s[k].toNat := by
 unfold strAt
 rw [List.getD_eq_getElem?_getD, List.getElem?_eq_getElem (by simpa using h)]
 simp [ByteArray.getElem_eq_getElem_data]
set_option maxRecDepth 100000 in
set_option maxHeartbeats 2000000 in
theorem vertex02_c (s : ByteArray) (hs : s.size ≤ 1000000000000000) : Call1 Tryd.prog 95 [.v (.string s)] (.v (.bool (vertB s))) := by
 (refine Call1.enter Tryd.func95 rfl (by kernel_rfl) (by kernel_rfl) rfl (by first | rfl | (simp only [go_sem, Bool.and_self, Bool.and_true, Bool.true_and])) (by first | rfl | (simp only [go_sem, Bool.and_self, Bool.and_true, Bool.true_and])) ?_; simp only [Tryd.ntmps95, Tryd.results95, List.length_cons, List.length_nil, Nat.reduceAdd, Nat.reduceSub, List.replicate_succ, List.replicate_zero, List.cons_append, List.nil_append])
 repeat (first | (with_reducible first | refine Stp.up ?_ | refine fun (K : AK) hK => ?_ | (refine hK _ ?_; clear hK K)) | simp only [go_sem] | with_reducible refine wA ?_ | clear hK K)
 refine awp_loopF (ι := Nat) (fun i => [(0, .v (.string s)), (2, .v (.bool false)), (3, .v (.int .i64 i))]) (fun _ => []) (fun i => s.size - i) (fun i => i ≤ s.size ∧ ∀ j (h : j < s.size), j < i → signI s[j].toNat = true) 0 ⟨by omega, fun j _ h => absurd h (by omega)⟩ ?_ ?_
 ·(refine wk_mk ?_ ?_ ?_ <;> simp only [frm, List.foldl_cons, List.foldl_nil, List.replicate_succ, List.replicate_zero, WkT, WkO, AV.v.injEq, Value.int.injEq, Value.bool.injEq, Value.string.injEq, AV.vec.injEq, AV.ptr.injEq, true_or, or_true, false_or, or_false, AObj.mk.injEq, forall_eq_apply_imp_iff, forall_eq, forall_eq', go_sem])
  rfl
 ·rintro i ⟨hi, hP⟩ K hK
  simp only [frm, List.foldl_cons, List.foldl_nil, List.replicate_succ, List.replicate_zero, go_sem]
  repeat (first | (with_reducible first | refine Stp.up ?_ | refine fun (K : AK) hK => ?_ | (refine hK _ ?_; clear hK K)) | simp only [go_sem] | with_reducible refine wA ?_ | clear hK K)
  refine AIf.part (fun h => ?_) (fun h => ?_)
  ·have hlt : i < s.size := by (try simp only [bne_iff_ne, ne_eq, bne_eq_false_iff_eq, beq_iff_eq, beq_eq_false_iff_ne, decide_eq_true_eq, decide_eq_false_iff_not, Bool.not_eq_eq_eq_not, Int.natCast_inj, Int.ofNat_lt, Int.ofNat_le] at h); omega
   have eW := wrap_succ (k := i) (by omega)
   have S := sign02_c (strAt s i)
   repeat (first | (with_reducible first | refine Stp.up ?_ | refine fun (K : AK) hK => ?_ | (refine hK _ ?_; clear hK K)) | simp only [go_sem] | with_reducible refine wA ?_ | clear hK K)
   refine ACallV.one S ?_
   repeat (first | (with_reducible first | refine Stp.up ?_ | refine fun (K : AK) hK => ?_ | (refine hK _ ?_; clear hK K)) | simp only [go_sem] | with_reducible refine wA ?_ | clear hK K)
   refine AIf.part (fun h2 => ?_) (fun h2 => ?_)
   ·repeat (first | (with_reducible first | refine Stp.up ?_ | refine fun (K : AK) hK => ?_ | (refine hK _ ?_; clear hK K)) | simp only [go_sem, eW] | with_reducible refine wA ?_ | clear hK K)
    exact LNext.mk (i + 1) ⟨by omega, fun j hj h3 => (by
     rcases Nat.lt_or_ge j i with q | q
     ·exact hP j hj q
     ·obtain rfl : j = i := by omega
      rw [← strAt_eq s j hj]; exact h2)⟩ (by omega) (by (refine wk_mk ?_ ?_ ?_ <;> simp only [frm, List.foldl_cons, List.foldl_nil, List.replicate_succ, List.replicate_zero, WkT, WkO, AV.v.injEq, Value.int.injEq, Value.bool.injEq, Value.string.injEq, AV.vec.injEq, AV.ptr.injEq, true_or, or_true, false_or, or_false, AObj.mk.injEq, forall_eq_apply_imp_iff, forall_eq, forall_eq', go_sem]))
   ·repeat (first | (with_reducible first | refine Stp.up ?_ | refine fun (K : AK) hK => ?_ | (refine hK _ ?_; clear hK K)) | simp only [go_sem, h2] | with_reducible refine wA ?_ | clear hK K)
    have e : vertB s = false := by
     rw [← Bool.not_eq_true, vertB, Bool.and_eq_true, Bool.and_eq_true, allBytes_iff]
     intro hh
     have := hh.1.1 i hlt
     rw [← strAt_eq s i hlt, h2] at this
     cases this
    rw [e]
  ·have he : i = s.size := by (try simp only [bne_iff_ne, ne_eq, bne_eq_false_iff_eq, beq_iff_eq, beq_eq_false_iff_ne, decide_eq_true_eq, decide_eq_false_iff_not, Bool.not_eq_eq_eq_not, Int.natCast_inj, Int.ofNat_lt, Int.ofNat_le] at h); omega
   have ea : s.data.toList.all (fun b => signI b.toNat) = true := (allBytes_iff _ _).2 (fun j hj => hP j hj (by omega))
   repeat (first | (with_reducible first | refine Stp.up ?_ | refine fun (K : AK) hK => ?_ | (refine hK _ ?_; clear hK K)) | simp only [go_sem] | with_reducible refine wA ?_ | clear hK K)
   refine AIf.part (fun h3 => ?_) (fun h3 => ?_)
   ·repeat (first | (with_reducible first | refine Stp.up ?_ | refine fun (K : AK) hK => ?_ | (refine hK _ ?_; clear hK K)) | simp only [go_sem, h3] | with_reducible refine wA ?_ | clear hK K)
    have h4 : 1 ≤ s.size := by (try simp only [bne_iff_ne, ne_eq, bne_eq_false_iff_eq, beq_iff_eq, beq_eq_false_iff_ne, decide_eq_true_eq, decide_eq_false_iff_not, Bool.not_eq_eq_eq_not, Int.natCast_inj, Int.ofNat_lt, Int.ofNat_le] at h3); omega
    rw [vertB, ea, decide_eq_true h4]
    simp
    omega
   ·repeat (first | (with_reducible first | refine Stp.up ?_ | refine fun (K : AK) hK => ?_ | (refine hK _ ?_; clear hK K)) | simp only [go_sem, h3, Go.undef] | with_reducible refine wA ?_ | clear hK K)
    rw [vertB, ea]
    (try simp only [bne_iff_ne, ne_eq, bne_eq_false_iff_eq, beq_iff_eq, beq_eq_false_iff_ne, decide_eq_true_eq, decide_eq_false_iff_not, Bool.not_eq_eq_eq_not, Int.natCast_inj, Int.ofNat_lt, Int.ofNat_le] at h3)
    simp; omega
theorem free_word {s w : ByteArray} (hw : w ∈ words) (h : (s.toList == w.toList) = true) : freeB s = false := by
 have e : words.any (fun x => seqb s x) = true := List.any_eq_true.2 ⟨w, hw, h⟩
 rw [freeB, e]; simp
set_option maxRecDepth 100000 in
set_option maxHeartbeats 2000000 in
theorem free02_c (s : ByteArray) (hs : s.size ≤ 1000000000000000) : Call1 Tryd.prog 81 [.v (.string s)] (.v (.bool (freeB s))) := by
 have V := vertex02_c s hs
 (refine Call1.enter Tryd.func81 rfl (by kernel_rfl) (by kernel_rfl) rfl (by first | rfl | (simp only [go_sem, Bool.and_self, Bool.and_true, Bool.true_and])) (by first | rfl | (simp only [go_sem, Bool.and_self, Bool.and_true, Bool.true_and])) ?_; simp only [Tryd.ntmps81, Tryd.results81, List.length_cons, List.length_nil, Nat.reduceAdd, Nat.reduceSub, List.replicate_succ, List.replicate_zero, List.cons_append, List.nil_append])
 repeat (first | (with_reducible first | refine Stp.up ?_ | refine fun (K : AK) hK => ?_ | (refine hK _ ?_; clear hK K)) | simp only [go_sem] | with_reducible refine wA ?_ | clear hK K)
 refine ACallV.one V ?_
 repeat (first | (with_reducible first | refine Stp.up ?_ | refine fun (K : AK) hK => ?_ | (refine hK _ ?_; clear hK K)) | simp only [go_sem] | with_reducible refine wA ?_ | clear hK K)
 cases hv : vertB s with
 | false =>
  repeat (first | (with_reducible first | refine Stp.up ?_ | refine fun (K : AK) hK => ?_ | (refine hK _ ?_; clear hK K)) | simp only [go_sem, hv, Go.undef] | with_reducible refine wA ?_ | clear hK K)
  rw [freeB, hv]; rfl
 | true =>
  have hz := vertB_size hv
  have L := letter02_c (strAt s 0)
  have e0 : firstI s = (strAt s 0 : Nat) := by rw [strAt_eq s 0 hz.1]; simp [firstI, hz.1]
  repeat (first | (with_reducible first | refine Stp.up ?_ | refine fun (K : AK) hK => ?_ | (refine hK _ ?_; clear hK K)) | simp only [go_sem, hv] | with_reducible refine wA ?_ | clear hK K)
  refine ACallV.one L ?_
  repeat (first | (with_reducible first | refine Stp.up ?_ | refine fun (K : AK) hK => ?_ | (refine hK _ ?_; clear hK K)) | simp only [go_sem, hv] | with_reducible refine wA ?_ | clear hK K)
  refine AIf.part (fun h1 => ?_) (fun h1 => ?_)
  ·repeat (first | (with_reducible first | refine Stp.up ?_ | refine fun (K : AK) hK => ?_ | (refine hK _ ?_; clear hK K)) | simp only [go_sem, h1] | with_reducible refine wA ?_ | clear hK K)
   refine AIf.part (fun w1 => ?_) (fun w1 => ?_)
   ·repeat (first | (with_reducible first | refine Stp.up ?_ | refine fun (K : AK) hK => ?_ | (refine hK _ ?_; clear hK K)) | simp only [go_sem, w1] | with_reducible refine wA ?_ | clear hK K)
    rw [free_word (.head _) w1]
   ·repeat (first | (with_reducible first | refine Stp.up ?_ | refine fun (K : AK) hK => ?_ | (refine hK _ ?_; clear hK K)) | simp only [go_sem, w1] | with_reducible refine wA ?_ | clear hK K)
    refine AIf.part (fun w2 => ?_) (fun w2 => ?_)
    ·repeat (first | (with_reducible first | refine Stp.up ?_ | refine fun (K : AK) hK => ?_ | (refine hK _ ?_; clear hK K)) | simp only [go_sem, w2] | with_reducible refine wA ?_ | clear hK K)
     rw [free_word (.tail _ (.head _)) w2]
    ·repeat (first | (with_reducible first | refine Stp.up ?_ | refine fun (K : AK) hK => ?_ | (refine hK _ ?_; clear hK K)) | simp only [go_sem, w2] | with_reducible refine wA ?_ | clear hK K)
     refine AIf.part (fun w3 => ?_) (fun w3 => ?_)
     ·repeat (first | (with_reducible first | refine Stp.up ?_ | refine fun (K : AK) hK => ?_ | (refine hK _ ?_; clear hK K)) | simp only [go_sem, w3] | with_reducible refine wA ?_ | clear hK K)
      rw [free_word (.tail _ (.tail _ (.head _))) w3]
     ·repeat (first | (with_reducible first | refine Stp.up ?_ | refine fun (K : AK) hK => ?_ | (refine hK _ ?_; clear hK K)) | simp only [go_sem, w3] | with_reducible refine wA ?_ | clear hK K)
      refine AIf.part (fun w4 => ?_) (fun w4 => ?_)
      ·repeat (first | (with_reducible first | refine Stp.up ?_ | refine fun (K : AK) hK => ?_ | (refine hK _ ?_; clear hK K)) | simp only [go_sem, w4] | with_reducible refine wA ?_ | clear hK K)
       rw [free_word (.tail _ (.tail _ (.tail _ (.head _)))) w4]
      ·repeat (first | (with_reducible first | refine Stp.up ?_ | refine fun (K : AK) hK => ?_ | (refine hK _ ?_; clear hK K)) | simp only [go_sem, w4] | with_reducible refine wA ?_ | clear hK K)
       refine AIf.part (fun w5 => ?_) (fun w5 => ?_)
       ·repeat (first | (with_reducible first | refine Stp.up ?_ | refine fun (K : AK) hK => ?_ | (refine hK _ ?_; clear hK K)) | simp only [go_sem, w5] | with_reducible refine wA ?_ | clear hK K)
        rw [free_word (.tail _ (.tail _ (.tail _ (.tail _ (.head _))))) w5]
       ·repeat (first | (with_reducible first | refine Stp.up ?_ | refine fun (K : AK) hK => ?_ | (refine hK _ ?_; clear hK K)) | simp only [go_sem, w5] | with_reducible refine wA ?_ | clear hK K)
        refine AIf.part (fun w6 => ?_) (fun w6 => ?_)
        ·repeat (first | (with_reducible first | refine Stp.up ?_ | refine fun (K : AK) hK => ?_ | (refine hK _ ?_; clear hK K)) | simp only [go_sem, w6] | with_reducible refine wA ?_ | clear hK K)
         rw [free_word (.tail _ (.tail _ (.tail _ (.tail _ (.tail _ (.head _)))))) w6]
        ·repeat (first | (with_reducible first | refine Stp.up ?_ | refine fun (K : AK) hK => ?_ | (refine hK _ ?_; clear hK K)) | simp only [go_sem, w6] | with_reducible refine wA ?_ | clear hK K)
         refine AIf.part (fun w7 => ?_) (fun w7 => ?_)
         ·repeat (first | (with_reducible first | refine Stp.up ?_ | refine fun (K : AK) hK => ?_ | (refine hK _ ?_; clear hK K)) | simp only [go_sem, w7] | with_reducible refine wA ?_ | clear hK K)
          rw [free_word (.tail _ (.tail _ (.tail _ (.tail _ (.tail _ (.tail _ (.head _))))))) w7]
         ·repeat (first | (with_reducible first | refine Stp.up ?_ | refine fun (K : AK) hK => ?_ | (refine hK _ ?_; clear hK K)) | simp only [go_sem, w7] | with_reducible refine wA ?_ | clear hK K)
          rw [freeB, hv, e0, h1]
          simp only [words, List.any_cons, List.any_nil, seqb, w1, w2, w3, w4, w5, w6, w7]
          rfl
  ·repeat (first | (with_reducible first | refine Stp.up ?_ | refine fun (K : AK) hK => ?_ | (refine hK _ ?_; clear hK K)) | simp only [go_sem, h1] | with_reducible refine wA ?_ | clear hK K)
   rw [freeB, hv, e0, h1]; rfl
end Go.Proofs.YtmdkgajjekbanaaDoor
