/- A region that draws its order, whose first operation is a mere move that nothing but the tail reads: it may as well come first. -/
import Derived.Test.YtfflpdekojlnmaaDoorLAbsZ

set_option linter.unusedSimpArgs false
set_option linter.unusedVariables false
namespace Go.Proofs.YtfflpdekojlnmaaDoor
open Go.RowKit

section
variable {P : Program} {ops : Array Oper}

def edge : List Oper → List Oper
 | [] => []
 | o :: l => o :: l.map (fun p => { p with after := p.after.push ⟨0, .data⟩ })
theorem edge_len (l : List Oper) : (edge l).length = l.length := by cases l <;> simp [edge]
theorem edge_get (l : List Oper) (i : Nat) : (edge l)[i]? = (l[i]?).map (fun p => if i = 0 then p else { p with after := p.after.push ⟨0, .data⟩ }) := by
 cases l with
 | nil => simp [edge]
 | cons o l =>
  cases i with
  | zero => simp [edge]
  | succ i => simp [edge]
theorem edge_yield (l : List Oper) (t : Array Value) : yielded (edge l).toArray t = yielded l.toArray t := by
 funext j
 simp only [yielded, List.getElem?_toArray, edge_get]
 cases l[j]? with
 | none => rfl
 | some o => by_cases h : j = 0 <;> simp only [Option.map_some, Option.bind_some, h, if_true, if_false]
theorem edge_op {F : Fence} {n : Nat} {Q : Exit → Act → World → Prop} {l : List Oper} {i : Nat} {K : Act → World → Prop} {a : Act} {w : World} (h : wpOpIn F n P (edge l).toArray Q i K a w) : wpOpIn F n P l.toArray Q i K a w := by
 unfold wpOpIn at h ⊢
 simp only [List.getElem?_toArray, edge_get, edge_yield] at h ⊢
 cases ho : l[i]? with
 | none => simpa [ho] using h
 | some o =>
  simp only [ho, Option.map_some] at h ⊢
  split at h <;> exact h
theorem edge_st {F : Fence} {n : Nat} {Q : Exit → Act → World → Prop} {l : List Oper} {ops : Array Oper} {E : Act → World → Prop} : ∀ (fuel : Nat) (listed : Array Bool) (a : Act) (w : World), anyG (wpOpIn F n P (edge l).toArray Q) ops E fuel listed a w → anyG (wpOpIn F n P l.toArray Q) ops E fuel listed a w
 | 0, _, _, _, h => h
 | fuel + 1, _, _, _, h => ⟨h.1, fun i hi => edge_op (wpOpIn_mono (fun _ _ => edge_st fuel _ _ _) (h.2 i hi))⟩
theorem edge_ready {l : List Oper} {listed : Array Bool} (h0 : listed.getD 0 false = true) : Region.ready .any (edge l).toArray listed = Region.ready .any l.toArray listed := by
 unfold Region.ready
 simp only [List.size_toArray, edge_len, List.getElem?_toArray, edge_get]
 refine List.filter_congr fun i _ => ?_
 congr 1
 cases l[i]? with
 | none => rfl
 | some o =>
  simp only [Option.map_some, Option.getD_some]
  split
  ·rfl
  ·simp
   intro _
   right; simpa using h0
theorem edge_any {st : Nat → (Act → World → Prop) → Act → World → Prop} (hst : ∀ (i : Nat) (K K' : Act → World → Prop) (a : Act) (w : World), (∀ a w, K a w → K' a w) → st i K a w → st i K' a w) {l : List Oper} {E : Act → World → Prop} : ∀ (fuel : Nat) (listed : Array Bool) (a : Act) (w : World), listed.getD 0 false = true → anyG st (edge l).toArray E fuel listed a w → anyG st l.toArray E fuel listed a w
 | 0, listed, a, w, h0, h => by
  rw [anyG, edge_ready h0] at h; exact h
 | fuel + 1, listed, a, w, h0, h => by
  rw [anyG, edge_ready h0] at h
  refine ⟨h.1, fun i hi => hst _ _ _ _ _ (fun a w => edge_any hst fuel _ a w ?_) (h.2 i hi)⟩
  by_cases hi0 : i = 0
  ·subst hi0
   have : 0 < listed.size := by
    rcases Nat.eq_zero_or_pos listed.size with q | q
    ·simp [q] at h0
    ·exact q
   simp [this]
  ·rw [getD_set_ne false hi0]; exact h0

theorem frame_one {r : Option Nat} {n i : Nat} {o : Oper} {Q : Exit → Act → World → Prop} (hC : calmB ops = true) (hns : Region.noSelect ops = true) (hP : ∀ c a w, ¬ Q (.panic c) a w) (ho : ops[i]? = some o) {d t : Tmp} {v : Value} {a : Act} {w : World} {K : Act → World → Prop} (hd : d ∉ o.looksAt ops) (hod : o.dst ≠ some d) (hot : o.dst ≠ some t) (h : wpOpIn (WF r) n P ops Q i K (a.put (some d) v) w) :
  wpOpIn (WF r) n P ops Q i (fun a' w' => K (a'.put (some d) v) w' ∧ a'.eval (.tmp t) = a.eval (.tmp t)) a w := by
 have hsel := fun cs b => Region.noSelect_spec hns i o cs b ho
 have hput : ∀ (a : Act) (u : Value), (a.put (some d) v).put o.dst u = (a.put o.dst u).put (some d) v := fun a u => Act.put_comm a v u (fun e he q => hod (by rw [q, he]))
 have hev : ∀ (a : Act) (u : Value), (a.put o.dst u).eval (.tmp t) = a.eval (.tmp t) := fun a u => Act.eval_put fun e he hx => hot (by
  rw [he]; injection hx with hx; rw [hx])
 unfold wpOpIn at h ⊢
 simp only [ho] at h ⊢
 rw [wanted_put o a (some d) v (fun e he => by injection he with he; exact he ▸ hd)] at h
 split at h
 ·rename_i hw
  rw [if_pos hw]
  refine ⟨fun f _ => trivial, ?_⟩
  have h := h.2
  rw [calm_sem hC ho, execOp_put o hsel a (some d) v (fun e he => by injection he with he; exact he ▸ hd)] at h
  rw [calm_sem hC ho]
  generalize (execOp a.eval o).run P w = res at h ⊢
  cases res with
  | ok x w' =>
   cases x <;> simp only [Oper.uponIn] at h ⊢
   case value => exact ⟨hput _ _ ▸ h, hev _ _⟩
   case skip => exact ⟨hput _ _ ▸ h, hev _ _⟩
   case enter =>
    refine ⟨h.1, CallsIn.mono h.2 fun e w'' he => ?_⟩
    cases e
    case returned => exact ⟨hput _ _ ▸ he, hev _ _⟩
    case panicked => exact absurd he (hP _ _ _)
    case outgrown => exact he
   case defer q => exact ⟨hput { a with defers := q :: a.defers } undef ▸ h, hev { a with defers := q :: a.defers } undef⟩
   case row => exact ⟨h.1, RowsIn.mono h.2 fun _ _ he => ⟨hput _ _ ▸ he, hev _ _⟩⟩
   case round =>
    refine ⟨h.1, RoundIn.mono h.2 fun e w'' he => ?_⟩
    cases e
    case returned => exact ⟨hput _ _ ▸ he, hev _ _⟩
    case panicked => exact absurd he (hP _ _ _)
    case outgrown => exact he
  | halt x w' =>
   cases x <;> simp only [Oper.uponIn] at h ⊢
   all_goals first | exact h | exact absurd h (hP _ _ _)
 ·rename_i hw
  rw [if_neg hw]
  exact ⟨fun f _ => trivial, hput _ _ ▸ h.2, hev _ _⟩
def lazyB (ops : Array Oper) (d t : Tmp) : Bool :=
 Region.noSelect ops && calmB ops && (d != t) && (match ops[0]? with | some o => (o.dst == some d) && (match o.op with | .move (.tmp u) => u == t | _ => false) && o.guard.isNone && (o.after.size == 0) | none => false) &&
 (List.range ops.size).all (fun j => j == 0 || match ops[j]? with | some o => (o.dst != some d) && (o.dst != some t) && (depB ops j 0 || !(o.looksAt ops).contains d) | none => true)
theorem lazy_run {r : Option Nat} {n : Nat} {Q : Exit → Act → World → Prop} {d t : Tmp} (hL : lazyB ops d t = true) : 0 < ops.size ∧ (∀ (l : List Oper) (listed : Array Bool), l.toArray = ops → listed.getD 0 true = false → 0 ∈ Region.ready .any (edge l).toArray listed) ∧ (∀ (listed : Array Bool), listed.getD 0 true = false → 0 ∈ Region.ready .any ops listed) ∧ ∀ (K : Act → World → Prop) a w, wpOpIn (WF r) n P ops Q 0 K a w ↔ K (a.put (some d) (a.eval (.tmp t))) w := by
 simp only [lazyB, Bool.and_eq_true, List.all_eq_true, List.mem_range, bne_iff_ne] at hL
 obtain ⟨⟨⟨⟨hns, hC⟩, hdt⟩, h0⟩, hall⟩ := hL
 obtain ⟨o0, ho0, hdst, hop, hg, haf⟩ : ∃ o0 : Oper, ops[0]? = some o0 ∧ o0.dst = some d ∧ o0.op = .move (.tmp t) ∧ o0.guard = none ∧ o0.after = #[] := by
  cases ho : ops[0]? with
  | none => simp [ho] at h0
  | some o =>
   simp only [ho, Bool.and_eq_true, beq_iff_eq] at h0
   refine ⟨o, rfl, h0.1.1.1, ?_, by simpa using h0.1.2, by simpa using h0.2⟩
   have := h0.1.1.2
   split at this
   ·rename_i u hu; rw [hu]; simp at this; rw [this]
   ·cases this
 have h0s : 0 < ops.size := by
  rcases Nat.eq_zero_or_pos ops.size with q | q
  ·rw [Array.getElem?_eq_none (by omega)] at ho0; cases ho0
  ·exact q
 refine ⟨h0s, fun l listed hl' hl => mem_ready.2 ⟨hl, o0, by subst hl'; simp only [List.getElem?_toArray] at ho0; simp [edge_get, ho0], fun e he _ => by rw [haf] at he; simp at he⟩, fun listed hl => mem_ready.2 ⟨hl, o0, ho0, fun e he _ => by rw [haf] at he; simp at he⟩, ?_⟩
 ·intro K a w
  unfold wpOpIn
  simp only [ho0]
  rw [if_pos (by simp [Region.wanted, hg])]
  unfold Oper.wpIn
  rw [calm_sem hC ho0]
  have : (execOp a.eval o0).run P w = .ok (.value (a.eval (.tmp t))) w := by unfold execOp; rw [hop]; rfl
  rw [this]
  simp only [Oper.uponIn, hdst]
  exact ⟨fun h => h.2, fun h => ⟨fun f _ => trivial, h⟩⟩
theorem lazy_first {r : Option Nat} {n : Nat} {Q : Exit → Act → World → Prop} {E : Act → World → Prop} {d t : Tmp} (hL : lazyB ops d t = true) (hP : ∀ c a w, ¬ Q (.panic c) a w) : ∀ (fuel : Nat) (listed : Array Bool) (a : Act) (w : World), listed.size = ops.size → listed.getD 0 true = false → anyG (wpOpIn (WF r) n P ops Q) ops E fuel (listed.setIfInBounds 0 true) (a.put (some d) (a.eval (.tmp t))) w → anyG (wpOpIn (WF r) n P ops Q) ops E (fuel + 1) listed a w := by
 obtain ⟨h0s, -, hread, hrun⟩ := lazy_run (P := P) (Q := Q) (r := r) (n := n) hL
 simp only [lazyB, Bool.and_eq_true, List.all_eq_true, List.mem_range, bne_iff_ne] at hL
 obtain ⟨⟨⟨⟨hns, hC⟩, hdt⟩, h0⟩, hall⟩ := hL
 have hstep : ∀ (listed : Array Bool), listed.size = ops.size → listed.getD 0 true = false → ∀ i ∈ Region.ready .any ops listed, i ≠ 0 → i ∈ Region.ready .any ops (listed.setIfInBounds 0 true) ∧ ∀ (K : Act → World → Prop) v a w, wpOpIn (WF r) n P ops Q i K (a.put (some d) v) w → wpOpIn (WF r) n P ops Q i (fun a' w' => K (a'.put (some d) v) w' ∧ a'.eval (.tmp t) = a.eval (.tmp t)) a w := by
  intro listed hs hl i hi hi0
  obtain ⟨g1, o, g2, g3⟩ := mem_ready.1 hi
  have hil : i < ops.size := (Array.getElem?_eq_some_iff.1 g2).1
  refine ⟨mem_ready.2 ⟨by rw [getD_set_ne true (Ne.symm hi0)]; exact g1, o, g2, fun e he hb => ?_⟩, ?_⟩
  ·by_cases he0 : e.on = 0
   ·rw [he0]; simp [hs, h0s]
   ·rw [getD_set_ne false (Ne.symm he0)]; exact g3 e he hb
  ·have ha := hall i hil
   simp only [g2, Bool.or_eq_true, beq_iff_eq, hi0, false_or, Bool.and_eq_true, bne_iff_ne] at ha
   intro K v a w h
   refine frame_one hC hns hP g2 ?_ ha.1.1 ha.1.2 h
   rcases ha.2 with hdep | hlook
   ·exfalso
    simp only [depB, g2, Bool.and_eq_true, beq_iff_eq, Array.any_eq_true'] at hdep
    obtain ⟨e, he, hb, h00⟩ := hdep
    have := g3 e he hb
    rw [h00] at this
    simp only [Array.getD_eq_getD_getElem?] at this hl
    rw [Array.getElem?_eq_getElem (by omega)] at this hl
    simp at this hl; rw [this] at hl; cases hl
   ·intro hm; rw [List.contains_iff_mem.2 hm] at hlook; cases hlook
 intro fuel
 induction fuel with
 | zero =>
  intro listed a w hs hl h
  refine ⟨fun he => ?_, fun i hi => ?_⟩
  ·have := hread listed hl; rw [he] at this; cases this
  ·by_cases hi0 : i = 0
   ·subst hi0; exact (hrun _ _ _).2 h
   ·have := (hstep listed hs hl i hi hi0).1
    rw [h.1] at this; cases this
 | succ fuel ih =>
  intro listed a w hs hl h
  refine ⟨fun he => ?_, fun i hi => ?_⟩
  ·have := hread listed hl; rw [he] at this; cases this
  ·by_cases hi0 : i = 0
   ·subst hi0; exact (hrun _ _ _).2 h
   ·obtain ⟨q1, q2⟩ := hstep listed hs hl i hi hi0
    refine wpOpIn_mono (fun a' w' hk => ?_) (q2 _ _ _ _ (h.2 i q1))
    have e : (listed.setIfInBounds 0 true).setIfInBounds i true = (listed.setIfInBounds i true).setIfInBounds 0 true := Array.setIfInBounds_comm _ _ (Ne.symm hi0)
    refine ih _ a' w' (by simpa using hs) ?_ ?_
    ·rw [getD_set_ne true hi0]; exact hl
    ·rw [← e, hk.2]; exact hk.1
theorem awp_drawZ {n0 id : Nat} {s : AS} {l : List Oper} {Q : AExit → AS → Prop} (m0 d t : Nat) (hL : lazyB l.toArray d t = true) (hB : relTB (edge l).toArray m0 = true) (hC : calmB (edge l).toArray = true) (h : ADrawX P (edge l) (fun s => AOps P (edge l) ((edge l).drop m0) s (Q .normal)) ((edge l).take m0) s) : AWp P n0 (.region id l.toArray true) s Q := by
 refine .inr (fun f m D nu a w hZr hn hm hs hmx R hO hR => ?_)
 have hCl : calmB l.toArray = true := by
  simp only [lazyB, Bool.and_eq_true] at hL; exact hL.1.1.1.2
 have hm0 : m0 ≤ (edge l).length := by
  simp only [relTB, Bool.and_eq_true, decide_eq_true_eq, List.size_toArray] at hB
  exact Nat.le_of_lt hB.1.1.2
 have hcalm : ∀ oo, oo ∈ (edge l).drop m0 → ∀ c, oo.op ≠ .defer c := fun oo ho c e => by
  unfold calmB at hC
  rw [Array.all_eq_true_iff_forall_mem] at hC
  have h2 := hC oo (by simpa using List.mem_of_mem_drop ho)
  rw [e] at h2; cases h2
 obtain ⟨R', hR'⟩ : ∃ R' : Exit → Act → World → Prop, R' = fun e a w => (match e with | .panic _ => False | _ => True) ∧ R e a w := ⟨_, rfl⟩
 have hP : ∀ c a w, ¬ R' (.panic c) a w := fun c a w q => by rw [hR'] at q; exact q.1
 have hN : ∀ a w, R .normal a w → R' .normal a w := fun a w q => by rw [hR']; exact ⟨trivial, q⟩
 obtain ⟨rs, hrel⟩ := adrawX_good (P := P) (T := fun k => seqG (wpOpIn (WF f.r) 9 P (edge l).toArray R') (R' .normal) (List.range' k ((edge l).length - k))) hm0 hB hs.drew (fun sk a' wr hE ho hy hsk hB' => listIn_G _ _ _ _ (by omega) (aops_good m hZr _ sk a' wr D nu hcalm (by
  rw [ho, hy]; exact m.own hm hs.ro ((mono_below (below_drew w)).trans (mono_below hE)) (ho ▸ hsk.ro)) hsk hB' (fun D' s' a2 w2 nu' q1 q2 q3 => hN _ _ (hR .normal D' f.Z s' a2 w2 nu' q1 q2 q3)))) ((edge l).take m0) 0 s [] (fun _ => a) (by simp) (Nat.zero_le _) ⟨rfl, rfl, rfl, fun _ => rfl, fun _ => hs.tm.len, fun x t c v h1 h2 => .inl ⟨h1, h2⟩⟩ h
 have hX := any_region_tailG _ (fun _ => false) (fun i v w h => by cases h) m0 (stOk_in hC R') hB (relOblF_of _ _ _ hrel)
 have hX := edge_st _ _ _ _ hX
 have hlen : 0 < l.length := by
  rw [← edge_len]
  simp only [relTB, Bool.and_eq_true, decide_eq_true_eq, List.size_toArray] at hB
  have := hB.1.1.2; omega
 obtain ⟨fuel, hf⟩ : ∃ fuel, l.length = fuel + 1 := ⟨l.length - 1, by omega⟩
 have hX2 : anyG (wpOpIn (WF f.r) 9 P l.toArray R') l.toArray (R' .normal) (fuel + 1) (Array.replicate (fuel + 1) false) a w.drew := by
  rw [List.size_toArray, edge_len, hf] at hX
  refine lazy_first hL hP fuel _ a _ (by simp [hf]) (by simp) ?_
  obtain ⟨-, he, -, hrun⟩ := lazy_run (P := P) (Q := R') (r := f.r) (n := 9) hL
  exact edge_any (st := wpOpIn (WF f.r) 9 P l.toArray R') (fun i K K' a w h k => wpOpIn_mono h k) fuel ((Array.replicate (fuel + 1) false).setIfInBounds 0 true) _ _ (by simp) ((hrun _ _ _).1 (hX.2 0 (he l _ rfl (by simp))))
 refine Code.wpIn_mono (Q := R') (fun e a w q => by rw [hR'] at q; exact q.2) (wpIn_region_any hmx (anyIn_G _ _ _ _ ?_))
 rw [List.size_toArray, hf]; exact hX2
end
end Go.Proofs.YtfflpdekojlnmaaDoor
