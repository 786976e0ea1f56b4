/- tree.every: whether something is so of all patterns, conditions, operands. -/
import Derived.Test.YtldnlbcibmmbbaaRTreeB
import Derived.Test.YtldnlbcibmmbbaaRSame
namespace Go.Proofs.Ytldnlbcibmmbbaa
open Go.RowKit

def idxF {α : Type} (q : α → Bool) (xs : List α) : Int := match xs.findIdx? q with | some k => k | none => -1
theorem idxF_at {α : Type} {q : α → Bool} {xs : List α} {k : Nat} (hk : k < xs.length) (hx : q xs[k] = true) (h : ∀ j (_ : j < k) (h' : j < xs.length), q xs[j] = false) : idxF q xs = k := by
 have : xs.findIdx? q = some k := by
  rw [List.findIdx?_eq_some_iff_getElem]
  exact ⟨hk, hx, fun j hj => by rw [h j hj (by omega)]; decide⟩
 rw [idxF, this]
theorem idxF_none {α : Type} {q : α → Bool} {xs : List α} (h : ∀ j (h : j < xs.length), q xs[j] = false) : idxF q xs = -1 := by
 have : xs.findIdx? q = none := by
  rw [List.findIdx?_eq_none_iff]
  intro x hx
  obtain ⟨j, hj, rfl⟩ := List.getElem_of_mem hx
  exact h j hj
 rw [idxF, this]
theorem idxF_any {α : Type} (q : α → Bool) (xs : List α) : decide (0 ≤ idxF q xs) = xs.any q := by
 unfold idxF
 cases h : xs.findIdx? q with
 | none =>
  rw [List.findIdx?_eq_none_iff] at h
  simp only [show decide ((0 : Int) ≤ -1) = false by decide]
  rw [eq_comm, List.any_eq_false]
  exact fun x hx => by rw [h x hx]; decide
 | some k =>
  rw [List.findIdx?_eq_some_iff_getElem] at h
  obtain ⟨h1, h2, _⟩ := h
  rw [decide_eq_true (by simp), eq_comm, List.any_eq_true]
  exact ⟨xs[k], List.getElem_mem _, h2⟩
theorem all_of_any {α : Type} (p : α → Bool) (xs : List α) : (!xs.any (fun x => !p x)) = xs.all p := by
 induction xs with
 | nil => rfl
 | cons x xs ih => simp [← ih]

def ElemPat (f : FuncId) (cap : List Value) (q : Pat → Bool) (w : World) : Prop := ∀ (x : Pat) (k : Int) (s : ByteArray) (l : List Ex) (v : Value) (W : World), Below w.heap.size w W → x.ok → x.expr = .mk k s l → RdExs W l v →
 Calls Try.prog f (.agg #[.string x.frm, .string x.to, .bool x.path, .string x.label, .string x.name, .int .i64 k, .string s, v] :: cap).toArray W (Ret W (.bool (q x)))
theorem ElemPat.later {f : FuncId} {cap : List Value} {q : Pat → Bool} {w w' : World} (h : ElemPat f cap q w) (hb : Below w.heap.size w w') : ElemPat f cap q w' :=
 fun x k s l v W hW => h x k s l v W (below_step hb hW)

set_option maxRecDepth 100000 in
set_option maxHeartbeats 2000000 in
theorem everyClPat (f : FuncId) (q : Pat → Bool) (B : Nat) (w : World) (hB : w.heap[B]? = some (.cells #[.func (.func f) #[] #[]] 85)) (hf : ElemPat f [] q w)
  (hcf : ∀ args w, (callFunc f args).run Try.prog w = .ok (.enter f args) w) :
  ElemPat 67 [.pointer (some ⟨B, 0, none⟩)] (fun x => !q x) w := by
 intro x k s l v W hW ho he hr
 have hbx := (hW.block B (Array.getElem?_eq_some_iff.1 hB).1).trans hB
 have hc0 := cell_of_block hbx 0
 have hlt := (Array.getElem?_eq_some_iff.1 hbx).1
 simp only [List.getElem?_toArray, List.getElem?_cons_zero] at hc0
 have HB := Lib.hid (fun ob => ((Below.refl W.heap.size W).alloc (Nat.le_refl _) ob))
 have HC := Lib.hid (fun W' (hb : Below W.heap.size W W') => hf x k s l v W' (below_step hW hb) ho he (hr.below hb))
 obtain ⟨pv, cv, rfl, -, -⟩ := hr.shape
 clear hf hB hbx hW ho he hr
 go_enter Try.func67, Try.ntmps67
 go_wp2_with fail
 refine (HC.out _ (HB.out _)).mono ?_
 rintro e w1 ⟨rfl, hb1⟩
 go_wp2_with fail
 go_ret
 exact ret_b rfl rfl (below_step (HB.out _) hb1)

set_option maxRecDepth 100000 in
set_option maxHeartbeats 2000000 in
theorem indexFuncPat (f : FuncId) (cap : List Value) (q : Pat → Bool) (xs : List Pat) (vx : Value) (w : World) (h1 : RdPats w xs vx) (hok : ∀ x, x ∈ xs → x.ok) (hf : ElemPat f cap q w)
  (hcf : ∀ args w, (callFunc f args).run Try.prog w = .ok (.enter f args) w) :
  Calls Try.prog 82 #[vx, .func (.func f) #[] cap.toArray] w (Ret w (.int .i64 (idxF q xs))) := by
 obtain ⟨p, c, rfl, hc1, hc2⟩ := h1.shape
 unfold maxLen at hc2
 have H1 := Lib.hid h1; have HF := Lib.hid hf; have HO := Lib.hid hok
 clear h1 hf hok
 go_enter Try.func82, Try.ntmps82
 go_wp2_with fail
 go_loopw [4, 8] (fun r i wr => r = .int .i64 0 ∧ ∃ k : Nat, k ≤ xs.length ∧ i = .int .i64 k ∧ Below w.heap.size w wr ∧ ∀ j (h : j < k) (h' : j < xs.length), q xs[j] = false) (fun _ i _ => xs.length - (intOf i).toNat)
 case atStart => exact ⟨rfl, 0, Nat.zero_le _, rfl, Below.refl _ _, fun j h => by omega⟩
 case round =>
  obtain ⟨rfl, k, hk, rfl, hb, hP⟩ := hrel
  have HP := Lib.hid hP; clear hP
  by_cases hlt : k < xs.length
  ·obtain ⟨b1, o1, k1, s1, l1, v1, rfl, hx1, hr1, a0, a1, a2, a3, a4, a5, a6, a7⟩ := rdPats_at (rdPats_below hb H1.out) hlt
   have HC := Lib.hid (HF.out xs[k] k1 s1 l1 v1 wr hb (HO.out _ (List.getElem_mem _)) hx1 hr1)
   clear hx1 hr1
   cases hs : q xs[k]
   ·rw [hs] at HC
    have HS := Lib.hid hs; clear hs
    go_wp2_with fail
    refine HC.out.mono ?_
    rintro e w' ⟨rfl, hb'⟩
    go_wp2_with fail
    go_roundw
    case rel => exact ⟨rfl, k + 1, by omega, by go_num, below_step hb hb', fun j h h' => by
     by_cases e : j = k
     ·subst e; exact HS.out
     ·exact HP.out j (by omega) h'⟩
    case measure => simp [intOf]; omega
   ·rw [hs] at HC
    have HS := Lib.hid hs; clear hs
    go_wp2_with fail
    refine HC.out.mono ?_
    rintro e w' ⟨rfl, hb'⟩
    go_wp2_with fail
    go_ret
    exact ret_i rfl (idxF_at hlt HS.out HP.out).symm (below_step hb hb')
  ·go_wp2_with fail
   go_ret
   exact ret_i rfl (idxF_none (fun j h => HP.out j (by omega) h)).symm hb

set_option maxRecDepth 100000 in
set_option maxHeartbeats 1000000 in
theorem containsFuncPat (f : FuncId) (cap : List Value) (q : Pat → Bool) (xs : List Pat) (vx : Value) (w : World) (h1 : RdPats w xs vx) (hok : ∀ x, x ∈ xs → x.ok) (hf : ElemPat f cap q w)
  (hcf : ∀ args w, (callFunc f args).run Try.prog w = .ok (.enter f args) w) :
  Calls Try.prog 66 #[vx, .func (.func f) #[] cap.toArray] w (Ret w (.bool (xs.any q))) := by
 have HC := Lib.hid (indexFuncPat f cap q xs vx w h1 hok hf hcf)
 clear h1 hf hok hcf
 rw [← idxF_any]
 go_enter Try.func66, Try.ntmps66
 go_wp2_with fail
 refine HC.out.mono ?_
 rintro e w' ⟨rfl, hb'⟩
 go_wp2_with fail
 go_ret
 exact ret_b rfl rfl hb'

set_option maxRecDepth 100000 in
set_option maxHeartbeats 1000000 in
theorem everyPat (f : FuncId) (q : Pat → Bool) (xs : List Pat) (vx : Value) (w : World) (h1 : RdPats w xs vx) (hok : ∀ x, x ∈ xs → x.ok) (hf : ElemPat f [] q w)
  (hcf : ∀ args w, (callFunc f args).run Try.prog w = .ok (.enter f args) w) :
  Calls Try.prog 44 #[vx, .func (.func f) #[] #[]] w (Ret w (.bool (xs.all q))) := by
 have hb : Below w.heap.size w (w.alloc (.cells #[.func (.func f) #[] #[]] 85)) := (Below.refl _ _).alloc (Nat.le_refl _) _
 have HC := Lib.hid (containsFuncPat 67 [.pointer (some ⟨w.heap.size, 0, none⟩)] (fun x => !q x) xs vx _ (rdPats_below hb h1) hok (everyClPat f q w.heap.size _ (heap_new w _) (hf.later hb) hcf) (enters_of Try.func67 (by kernel_rfl) rfl))
 have HB := Lib.hid hb
 clear h1 hf hok hcf hb
 rw [← all_of_any]
 go_enter Try.func44, Try.ntmps44
 go_wp2_with fail
 refine HC.out.mono ?_
 rintro e w' ⟨rfl, hb'⟩
 go_wp2_with fail
 go_ret
 exact ret_b rfl rfl (below_step HB.out hb')

def ElemCnd (f : FuncId) (cap : List Value) (q : Cnd → Bool) (w : World) : Prop := ∀ (x : Cnd) (W : World), Below w.heap.size w W → x.ok →
 Calls Try.prog f (.agg #[.int .i64 x.op, .int .i64 x.left.kind, .string x.left.name, .string x.left.key, .int .i64 x.left.val.kind, .int .i64 x.left.val.num, .string x.left.val.text, .int .i64 x.right.kind, .string x.right.name, .string x.right.key, .int .i64 x.right.val.kind, .int .i64 x.right.val.num, .string x.right.val.text] :: cap).toArray W (Ret W (.bool (q x)))
theorem ElemCnd.later {f : FuncId} {cap : List Value} {q : Cnd → Bool} {w w' : World} (h : ElemCnd f cap q w) (hb : Below w.heap.size w w') : ElemCnd f cap q w' :=
 fun x W hW => h x W (below_step hb hW)

set_option maxRecDepth 100000 in
set_option maxHeartbeats 2000000 in
theorem everyClCnd (f : FuncId) (q : Cnd → Bool) (B : Nat) (w : World) (hB : w.heap[B]? = some (.cells #[.func (.func f) #[] #[]] 87)) (hf : ElemCnd f [] q w)
  (hcf : ∀ args w, (callFunc f args).run Try.prog w = .ok (.enter f args) w) :
  ElemCnd 72 [.pointer (some ⟨B, 0, none⟩)] (fun x => !q x) w := by
 intro x W hW ho
 have hbx := (hW.block B (Array.getElem?_eq_some_iff.1 hB).1).trans hB
 have hc0 := cell_of_block hbx 0
 have hlt := (Array.getElem?_eq_some_iff.1 hbx).1
 simp only [List.getElem?_toArray, List.getElem?_cons_zero] at hc0
 have HB := Lib.hid (fun ob => ((Below.refl W.heap.size W).alloc (Nat.le_refl _) ob))
 have HC := Lib.hid (fun W' (hb : Below W.heap.size W W') => hf x W' (below_step hW hb) ho)
 clear hf hB hbx hW ho
 go_enter Try.func72, Try.ntmps72
 go_wp2_with fail
 refine (HC.out _ (HB.out _)).mono ?_
 rintro e w1 ⟨rfl, hb1⟩
 go_wp2_with fail
 go_ret
 exact ret_b rfl rfl (below_step (HB.out _) hb1)

set_option maxRecDepth 100000 in
set_option maxHeartbeats 2000000 in
theorem indexFuncCnd (f : FuncId) (cap : List Value) (q : Cnd → Bool) (xs : List Cnd) (vx : Value) (w : World) (h1 : RdCnds w xs vx) (hok : ∀ x, x ∈ xs → x.ok) (hf : ElemCnd f cap q w)
  (hcf : ∀ args w, (callFunc f args).run Try.prog w = .ok (.enter f args) w) :
  Calls Try.prog 87 #[vx, .func (.func f) #[] cap.toArray] w (Ret w (.int .i64 (idxF q xs))) := by
 obtain ⟨p, c, rfl, hc1, hc2⟩ := h1.shape
 unfold maxLen at hc2
 have H1 := Lib.hid h1; have HF := Lib.hid hf; have HO := Lib.hid hok
 clear h1 hf hok
 go_enter Try.func87, Try.ntmps87
 go_wp2_with fail
 go_loopw [4, 8] (fun r i wr => r = .int .i64 0 ∧ ∃ k : Nat, k ≤ xs.length ∧ i = .int .i64 k ∧ Below w.heap.size w wr ∧ ∀ j (h : j < k) (h' : j < xs.length), q xs[j] = false) (fun _ i _ => xs.length - (intOf i).toNat)
 case atStart => exact ⟨rfl, 0, Nat.zero_le _, rfl, Below.refl _ _, fun j h => by omega⟩
 case round =>
  obtain ⟨rfl, k, hk, rfl, hb, hP⟩ := hrel
  have HP := Lib.hid hP; clear hP
  by_cases hlt : k < xs.length
  ·obtain ⟨b1, o1, rfl, a0, a1, a2, a3, a4, a5, a6, a7, a8, a9, a10, a11, a12⟩ := rdCnds_at (H1.out.below hb) hlt
   have HC := Lib.hid (HF.out xs[k] wr hb (HO.out _ (List.getElem_mem _)))
   cases hs : q xs[k]
   ·rw [hs] at HC
    have HS := Lib.hid hs; clear hs
    go_wp2_with fail
    refine HC.out.mono ?_
    rintro e w' ⟨rfl, hb'⟩
    go_wp2_with fail
    go_roundw
    case rel => exact ⟨rfl, k + 1, by omega, by go_num, below_step hb hb', fun j h h' => by
     by_cases e : j = k
     ·subst e; exact HS.out
     ·exact HP.out j (by omega) h'⟩
    case measure => simp [intOf]; omega
   ·rw [hs] at HC
    have HS := Lib.hid hs; clear hs
    go_wp2_with fail
    refine HC.out.mono ?_
    rintro e w' ⟨rfl, hb'⟩
    go_wp2_with fail
    go_ret
    exact ret_i rfl (idxF_at hlt HS.out HP.out).symm (below_step hb hb')
  ·go_wp2_with fail
   go_ret
   exact ret_i rfl (idxF_none (fun j h => HP.out j (by omega) h)).symm hb

set_option maxRecDepth 100000 in
set_option maxHeartbeats 1000000 in
theorem containsFuncCnd (f : FuncId) (cap : List Value) (q : Cnd → Bool) (xs : List Cnd) (vx : Value) (w : World) (h1 : RdCnds w xs vx) (hok : ∀ x, x ∈ xs → x.ok) (hf : ElemCnd f cap q w)
  (hcf : ∀ args w, (callFunc f args).run Try.prog w = .ok (.enter f args) w) :
  Calls Try.prog 71 #[vx, .func (.func f) #[] cap.toArray] w (Ret w (.bool (xs.any q))) := by
 have HC := Lib.hid (indexFuncCnd f cap q xs vx w h1 hok hf hcf)
 clear h1 hf hok hcf
 rw [← idxF_any]
 go_enter Try.func71, Try.ntmps71
 go_wp2_with fail
 refine HC.out.mono ?_
 rintro e w' ⟨rfl, hb'⟩
 go_wp2_with fail
 go_ret
 exact ret_b rfl rfl hb'

set_option maxRecDepth 100000 in
set_option maxHeartbeats 1000000 in
theorem everyCnd (f : FuncId) (q : Cnd → Bool) (xs : List Cnd) (vx : Value) (w : World) (h1 : RdCnds w xs vx) (hok : ∀ x, x ∈ xs → x.ok) (hf : ElemCnd f [] q w)
  (hcf : ∀ args w, (callFunc f args).run Try.prog w = .ok (.enter f args) w) :
  Calls Try.prog 46 #[vx, .func (.func f) #[] #[]] w (Ret w (.bool (xs.all q))) := by
 have hb : Below w.heap.size w (w.alloc (.cells #[.func (.func f) #[] #[]] 87)) := (Below.refl _ _).alloc (Nat.le_refl _) _
 have HC := Lib.hid (containsFuncCnd 72 [.pointer (some ⟨w.heap.size, 0, none⟩)] (fun x => !q x) xs vx _ (h1.below hb) hok (everyClCnd f q w.heap.size _ (heap_new w _) (hf.later hb) hcf) (enters_of Try.func72 (by kernel_rfl) rfl))
 have HB := Lib.hid hb
 clear h1 hf hok hcf hb
 rw [← all_of_any]
 go_enter Try.func46, Try.ntmps46
 go_wp2_with fail
 refine HC.out.mono ?_
 rintro e w' ⟨rfl, hb'⟩
 go_wp2_with fail
 go_ret
 exact ret_b rfl rfl (below_step HB.out hb')

def ElemOpd (f : FuncId) (cap : List Value) (q : Opd → Bool) (w : World) : Prop := ∀ (x : Opd) (W : World), Below w.heap.size w W → x.ok →
 Calls Try.prog f (.agg #[.int .i64 x.kind, .string x.name, .string x.key, .int .i64 x.val.kind, .int .i64 x.val.num, .string x.val.text] :: cap).toArray W (Ret W (.bool (q x)))
theorem ElemOpd.later {f : FuncId} {cap : List Value} {q : Opd → Bool} {w w' : World} (h : ElemOpd f cap q w) (hb : Below w.heap.size w w') : ElemOpd f cap q w' :=
 fun x W hW => h x W (below_step hb hW)

set_option maxRecDepth 100000 in
set_option maxHeartbeats 2000000 in
theorem everyClOpd (f : FuncId) (q : Opd → Bool) (B : Nat) (w : World) (hB : w.heap[B]? = some (.cells #[.func (.func f) #[] #[]] 89)) (hf : ElemOpd f [] q w)
  (hcf : ∀ args w, (callFunc f args).run Try.prog w = .ok (.enter f args) w) :
  ElemOpd 75 [.pointer (some ⟨B, 0, none⟩)] (fun x => !q x) w := by
 intro x W hW ho
 have hbx := (hW.block B (Array.getElem?_eq_some_iff.1 hB).1).trans hB
 have hc0 := cell_of_block hbx 0
 have hlt := (Array.getElem?_eq_some_iff.1 hbx).1
 simp only [List.getElem?_toArray, List.getElem?_cons_zero] at hc0
 have HB := Lib.hid (fun ob => ((Below.refl W.heap.size W).alloc (Nat.le_refl _) ob))
 have HC := Lib.hid (fun W' (hb : Below W.heap.size W W') => hf x W' (below_step hW hb) ho)
 clear hf hB hbx hW ho
 go_enter Try.func75, Try.ntmps75
 go_wp2_with fail
 refine (HC.out _ (HB.out _)).mono ?_
 rintro e w1 ⟨rfl, hb1⟩
 go_wp2_with fail
 go_ret
 exact ret_b rfl rfl (below_step (HB.out _) hb1)

set_option maxRecDepth 100000 in
set_option maxHeartbeats 2000000 in
theorem indexFuncOpd (f : FuncId) (cap : List Value) (q : Opd → Bool) (xs : List Opd) (vx : Value) (w : World) (h1 : RdOpds w xs vx) (hok : ∀ x, x ∈ xs → x.ok) (hf : ElemOpd f cap q w)
  (hcf : ∀ args w, (callFunc f args).run Try.prog w = .ok (.enter f args) w) :
  Calls Try.prog 89 #[vx, .func (.func f) #[] cap.toArray] w (Ret w (.int .i64 (idxF q xs))) := by
 obtain ⟨p, c, rfl, hc1, hc2⟩ := h1.shape
 unfold maxLen at hc2
 have H1 := Lib.hid h1; have HF := Lib.hid hf; have HO := Lib.hid hok
 clear h1 hf hok
 go_enter Try.func89, Try.ntmps89
 go_wp2_with fail
 go_loopw [4, 8] (fun r i wr => r = .int .i64 0 ∧ ∃ k : Nat, k ≤ xs.length ∧ i = .int .i64 k ∧ Below w.heap.size w wr ∧ ∀ j (h : j < k) (h' : j < xs.length), q xs[j] = false) (fun _ i _ => xs.length - (intOf i).toNat)
 case atStart => exact ⟨rfl, 0, Nat.zero_le _, rfl, Below.refl _ _, fun j h => by omega⟩
 case round =>
  obtain ⟨rfl, k, hk, rfl, hb, hP⟩ := hrel
  have HP := Lib.hid hP; clear hP
  by_cases hlt : k < xs.length
  ·obtain ⟨b1, o1, rfl, a0, a1, a2, a3, a4, a5⟩ := rdOpds_at (H1.out.below hb) hlt
   have HC := Lib.hid (HF.out xs[k] wr hb (HO.out _ (List.getElem_mem _)))
   cases hs : q xs[k]
   ·rw [hs] at HC
    have HS := Lib.hid hs; clear hs
    go_wp2_with fail
    refine HC.out.mono ?_
    rintro e w' ⟨rfl, hb'⟩
    go_wp2_with fail
    go_roundw
    case rel => exact ⟨rfl, k + 1, by omega, by go_num, below_step hb hb', fun j h h' => by
     by_cases e : j = k
     ·subst e; exact HS.out
     ·exact HP.out j (by omega) h'⟩
    case measure => simp [intOf]; omega
   ·rw [hs] at HC
    have HS := Lib.hid hs; clear hs
    go_wp2_with fail
    refine HC.out.mono ?_
    rintro e w' ⟨rfl, hb'⟩
    go_wp2_with fail
    go_ret
    exact ret_i rfl (idxF_at hlt HS.out HP.out).symm (below_step hb hb')
  ·go_wp2_with fail
   go_ret
   exact ret_i rfl (idxF_none (fun j h => HP.out j (by omega) h)).symm hb

set_option maxRecDepth 100000 in
set_option maxHeartbeats 1000000 in
theorem containsFuncOpd (f : FuncId) (cap : List Value) (q : Opd → Bool) (xs : List Opd) (vx : Value) (w : World) (h1 : RdOpds w xs vx) (hok : ∀ x, x ∈ xs → x.ok) (hf : ElemOpd f cap q w)
  (hcf : ∀ args w, (callFunc f args).run Try.prog w = .ok (.enter f args) w) :
  Calls Try.prog 74 #[vx, .func (.func f) #[] cap.toArray] w (Ret w (.bool (xs.any q))) := by
 have HC := Lib.hid (indexFuncOpd f cap q xs vx w h1 hok hf hcf)
 clear h1 hf hok hcf
 rw [← idxF_any]
 go_enter Try.func74, Try.ntmps74
 go_wp2_with fail
 refine HC.out.mono ?_
 rintro e w' ⟨rfl, hb'⟩
 go_wp2_with fail
 go_ret
 exact ret_b rfl rfl hb'

set_option maxRecDepth 100000 in
set_option maxHeartbeats 1000000 in
theorem everyOpd (f : FuncId) (q : Opd → Bool) (xs : List Opd) (vx : Value) (w : World) (h1 : RdOpds w xs vx) (hok : ∀ x, x ∈ xs → x.ok) (hf : ElemOpd f [] q w)
  (hcf : ∀ args w, (callFunc f args).run Try.prog w = .ok (.enter f args) w) :
  Calls Try.prog 48 #[vx, .func (.func f) #[] #[]] w (Ret w (.bool (xs.all q))) := by
 have hb : Below w.heap.size w (w.alloc (.cells #[.func (.func f) #[] #[]] 89)) := (Below.refl _ _).alloc (Nat.le_refl _) _
 have HC := Lib.hid (containsFuncOpd 75 [.pointer (some ⟨w.heap.size, 0, none⟩)] (fun x => !q x) xs vx _ (h1.below hb) hok (everyClOpd f q w.heap.size _ (heap_new w _) (hf.later hb) hcf) (enters_of Try.func75 (by kernel_rfl) rfl))
 have HB := Lib.hid hb
 clear h1 hf hok hcf hb
 rw [← all_of_any]
 go_enter Try.func48, Try.ntmps48
 go_wp2_with fail
 refine HC.out.mono ?_
 rintro e w' ⟨rfl, hb'⟩
 go_wp2_with fail
 go_ret
 exact ret_b rfl rfl (below_step HB.out hb')

end Go.Proofs.Ytldnlbcibmmbbaa
