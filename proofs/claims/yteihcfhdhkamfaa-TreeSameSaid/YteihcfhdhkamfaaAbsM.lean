/- The abstract walk: the rules by which it is reckoned. -/
import Derived.Test.YteihcfhdhkamfaaAbsL
namespace Go.Proofs.Yteihcfhdhkamfaa
open Go.RowKit

section
variable {P : Program} {all : List Oper} {n0 : Nat} {s : AS} {Q : AExit → AS → Prop}

@[go_sem] theorem ev_tmp (t : List AV) (o : List (Option AObj)) (k : Nat) : (AS.mk t o).ev (.tmp k) = t.getD k .undef := rfl
@[go_sem] theorem ev_const (s : AS) (v : Value) : s.ev (.const v) = .v v := rfl
@[go_sem] theorem ev_func (s : AS) (f : FuncId) : s.ev (.func f) = .fn f [] [] := rfl
@[go_sem] theorem put_some (t : List AV) (o o' : List (Option AObj)) (d : Nat) (r : AV) : (AS.mk t o).put (some d) r o' = ⟨t.set d r, o'⟩ := rfl
@[go_sem] theorem put_none (t : List AV) (o o' : List (Option AObj)) (r : AV) : (AS.mk t o).put none r o' = ⟨t, o'⟩ := rfl

@[go_sem] theorem astep_plain (dst : Option Tmp) (op : Op) (ty : TypeId) (pos : String) (aft : Array Edge) (s : AS) (K : AS → Prop) :
    AStep P all ⟨dst, op, ty, pos, aft, none⟩ s K = ADo P op s (fun r o' => K (s.put dst r o')) := rfl
@[go_sem] theorem astep_guard (dst : Option Tmp) (op : Op) (ty : TypeId) (pos : String) (aft : Array Edge) (j : Nat) (want : Bool) (s : AS) (K : AS → Prop) :
    AStep P all ⟨dst, op, ty, pos, aft, some (j, want)⟩ s K = AGd (gval all s j) want (ADo P op s (fun r o' => K (s.put dst r o'))) (K (s.put dst (.v Go.undef) s.o)) := rfl
def AStepS (P : Program) (all : List Oper) (oo : Oper) (s : AS) (K : AS → Prop) : Prop := match oo.guard with
  | none => ADoS P oo.op s (fun r => K (s.put oo.dst r s.o))
  | some (j, want) => AGd (gval all s j) want (ADoS P oo.op s (fun r => K (s.put oo.dst r s.o))) (K (s.put oo.dst (.v Go.undef) s.o))
@[go_sem] theorem asteps_plain (dst : Option Tmp) (op : Op) (ty : TypeId) (pos : String) (aft : Array Edge) (s : AS) (K : AS → Prop) :
    AStepS P all ⟨dst, op, ty, pos, aft, none⟩ s K = ADoS P op s (fun r => K (s.put dst r s.o)) := rfl
@[go_sem] theorem asteps_guard (dst : Option Tmp) (op : Op) (ty : TypeId) (pos : String) (aft : Array Edge) (j : Nat) (want : Bool) (s : AS) (K : AS → Prop) :
    AStepS P all ⟨dst, op, ty, pos, aft, some (j, want)⟩ s K = AGd (gval all s j) want (ADoS P op s (fun r => K (s.put dst r s.o))) (K (s.put dst (.v Go.undef) s.o)) := rfl

theorem aops_nil {Q : AS → Prop} (h : Q s) : AOps P all [] s Q := h
theorem aops_k {oo : Oper} {rest : List Oper} {Q : AS → Prop} (h : ∀ K : AS → Prop, (∀ s', AOps P all rest s' Q → K s') → AStep P all oo s K) : AOps P all (oo :: rest) s Q := h _ (fun _ h => h)
theorem adraw_last {dst : Option Tmp} {op : Op} {ty : TypeId} {pos : String} {aft : Array Edge} {Q : AS → Prop} (h : ∀ K : AS → Prop, (∀ s', Q s' → K s') → ADo P op s (fun r o' => K (s.put dst r o'))) : ADraw P all [⟨dst, op, ty, pos, aft, none⟩] s Q := h _ (fun _ h => h)
theorem adraw_k {oo o2 : Oper} {rest : List Oper} {Q : AS → Prop} (h : ∀ K : AS → Prop, (∀ s', ADraw P all (o2 :: rest) s' Q → K s') → AStepS P all oo s K) : ADraw P all (oo :: o2 :: rest) s Q := by
  have := h _ (fun _ h => h)
  unfold AStepS at this
  simp only [ADraw]
  split at this <;> simp_all

/-- what comes behind -/
def ASeq (K : AS → Prop) (Q : AExit → AS → Prop) : AExit → AS → Prop
  | .normal, s => K s
  | e, s => Q e s
def ABlk (id : Nat) (Q : AExit → AS → Prop) : AExit → AS → Prop
  | .exit i, s => if i = id then Q .normal s else Q (.exit i) s
  | e, s => Q e s
def AScp (Q : AExit → AS → Prop) : AExit → AS → Prop
  | .goto _, _ => False
  | e, s => Q e s
theorem aseq_normal {K : AS → Prop} (h : K s) : ASeq K Q .normal s := h
theorem aseq_exit {K : AS → Prop} {i : Nat} (h : Q (.exit i) s) : ASeq K Q (.exit i) s := h
theorem aseq_ret {K : AS → Prop} (h : Q .ret s) : ASeq K Q .ret s := h
theorem aseq_goto {K : AS → Prop} {i : Nat} (h : Q (.goto i) s) : ASeq K Q (.goto i) s := h
theorem ablk_normal {i : Nat} (h : Q .normal s) : ABlk i Q .normal s := h
theorem ablk_ret {i : Nat} (h : Q .ret s) : ABlk i Q .ret s := h
theorem ablk_goto {i j : Nat} (h : Q (.goto j) s) : ABlk i Q (.goto j) s := h
theorem ablk_here {i : Nat} (h : Q .normal s) : ABlk i Q (.exit i) s := by simpa [ABlk] using h
theorem ablk_off {i j : Nat} (hne : j ≠ i) (h : Q (.exit j) s) : ABlk i Q (.exit j) s := by simpa [ABlk, hne] using h
theorem ascp_normal (h : Q .normal s) : AScp Q .normal s := h
theorem ascp_ret (h : Q .ret s) : AScp Q .ret s := h
theorem ascp_exit {i : Nat} (h : Q (.exit i) s) : AScp Q (.exit i) s := h

theorem awp_region {id : Nat} {l : List Oper} (h : AOps P l l s (Q .normal)) : AWp P n0 (.region id l.toArray false) s Q := h
theorem awp_draw {id : Nat} {l : List Oper} (h : ADraw P l l s (Q .normal)) : AWp P n0 (.region id l.toArray true) s Q := h
theorem awp_skip (h : Q .normal s) : AWp P n0 .skip s Q := h
theorem awp_seq {a b : Code} (h : ∀ K : AS → Prop, (∀ s', AWp P n0 b s' Q → K s') → AWp P n0 a s (ASeq K Q)) : AWp P n0 (.seq a b) s Q := by
  have := h _ (fun _ h => h)
  simp only [AWp]
  exact (congrArg (AWp P n0 a s) (by funext e s'; cases e <;> rfl)).mpr this
theorem awp_cond {c : Operand} {a b : Code} (h : ACnd (s.ev c) (AWp P n0 a s Q) (AWp P n0 b s Q)) : AWp P n0 (.cond c a b) s Q := h
theorem awp_block {id : Nat} {c : Code} (h : AWp P n0 c s (ABlk id Q)) : AWp P n0 (.block id c) s Q := by
  simp only [AWp]
  exact (congrArg (AWp P n0 c s) (by funext e s'; cases e <;> rfl)).mpr h
theorem awp_scope {c : Code} (h : AWp P n0 c s (AScp Q)) : AWp P n0 (.scope c) s Q := by
  simp only [AWp]
  exact (congrArg (AWp P n0 c s) (by funext e s'; cases e <;> rfl)).mpr h
theorem awp_exit {id : Nat} (h : Q (.exit id) s) : AWp P n0 (.exit id) s Q := h
theorem awp_ret (h : Q .ret s) : AWp P n0 .ret s Q := h
theorem awp_label {l : Nat} (h : Q .normal s) : AWp P n0 (.label l) s Q := h
theorem awp_goto {l : Nat} (h : Q (.goto l) s) : AWp P n0 (.goto l) s Q := h

attribute [go_sem] AR_true AR_some AR1_true AR1_some ACnd_bool AIf_true AIf_false AGd_some AGd_none AFn_fn AFnS_fn AFin_one AFin_none AFin_two AEnd_ret AEnd_normal AFz_v
attribute [go_sem] ADo ADoS aop aopP aopS aBuiltinP aAppendC aLoad aStore locCells aPlus aFieldAddr aField aIndexAddr aIndex aBin aInt aShift aStr aEqK kv aUn aConv aBuild aFill aBuildSlice aRows aMake aSlice aBd aLenO aLen aAppend aSrc aExtract
  AV.cells? spl gval AObj.hl aRes AV.wf wfL wfR isPtr

@[go_sem] theorem AIf_not (b : Bool) (A B : Prop) : AIf (!b) A B = AIf b B A := by cases b <;> rfl

/-- a family of states at a loop's head: the next one -/
def LNext {ι : Type} (n0 : Nat) (S : ι → AS) (mu : ι → Nat) (ok : ι → Prop) (m : Nat) (s2 : AS) : Prop := ∃ m' s3, Wk n0 s2 s3 ∧ (∃ j, ok j ∧ mu j = m' ∧ s3 = S j) ∧ m' < m
theorem LNext.mk {ι : Type} {S : ι → AS} {mu : ι → Nat} {ok : ι → Prop} {m : Nat} {s2 : AS} (j : ι) (h1 : ok j) (h2 : mu j < m) (h3 : Wk n0 s2 (S j)) : LNext n0 S mu ok m s2 := ⟨mu j, S j, h3, ⟨j, h1, rfl, rfl⟩, h2⟩
/-- a loop, by a family of states at its head -/
theorem awp_loop {ι : Type} {c : Code} (S : ι → AS) (mu : ι → Nat) (ok : ι → Prop) (i0 : ι) (s1 : AS) (h1 : Gs s s1) (h2 : Wk n0 s1 (S i0)) (h3 : ok i0)
    (h : ∀ i, ok i → ∀ K : AS → Prop, (∀ s2, LNext n0 S mu ok (mu i) s2 → K s2) → AWp P n0 c (S i) (ASeq K Q)) : AWp P n0 (.loop c) s Q := by
  show ALoop n0 (AWp P n0 c) s Q
  refine ⟨fun m s' => ∃ i, ok i ∧ mu i = m ∧ s' = S i, ⟨mu i0, s1, S i0, h1, h2, i0, h3, rfl, rfl⟩, ?_⟩
  rintro m s' ⟨i, hi, rfl, rfl⟩
  have := h i hi _ (fun _ h => h)
  exact (congrArg (AWp P n0 c (S i)) (by funext e s2; cases e <;> rfl)).mpr this

/-- an activation of which no more is known than this -/
def frm (n : Nat) (l : List (Nat × AV)) : List AV := l.foldl (fun t p => t.set p.1 p.2) (List.replicate n .undef)

/-- a loop, by what is live at its head -/
theorem awp_loopF {ι : Type} {c : Code} {t : List AV} {o : List (Option AObj)} (live : ι → List (Nat × AV)) (ob : ι → List (Option AObj)) (mu : ι → Nat) (ok : ι → Prop) (i0 : ι) (h3 : ok i0) (h2 : Wk n0 ⟨t, o⟩ ⟨frm t.length (live i0), ob i0⟩)
    (h : ∀ i, ok i → ∀ K : AS → Prop, (∀ s2, LNext n0 (fun i => ⟨frm t.length (live i), ob i⟩) mu ok (mu i) s2 → K s2) → AWp P n0 c ⟨frm t.length (live i), ob i⟩ (ASeq K Q)) : AWp P n0 (.loop c) ⟨t, o⟩ Q :=
  awp_loop (fun i => ⟨frm t.length (live i), ob i⟩) mu ok i0 _ .refl h2 h3 h
/-- the same, a nil slice in slot d seen as an own row -/
theorem awp_loopG {ι : Type} {c : Code} {t : List AV} {o : List (Option AObj)} (d : Nat) (T : TypeId) (z : Nat) (hd : t[d]? = some (.v (.slice none 0 0))) (hz : 0 < z) (live : ι → List (Nat × AV)) (ob : ι → List (Option AObj)) (mu : ι → Nat) (ok : ι → Prop) (i0 : ι) (h3 : ok i0)
    (h2 : Wk n0 ⟨t.set d (.vec o.length 0), o ++ [some ⟨T, z, true, []⟩]⟩ ⟨frm t.length (live i0), ob i0⟩)
    (h : ∀ i, ok i → ∀ K : AS → Prop, (∀ s2, LNext n0 (fun i => ⟨frm t.length (live i), ob i⟩) mu ok (mu i) s2 → K s2) → AWp P n0 c ⟨frm t.length (live i), ob i⟩ (ASeq K Q)) : AWp P n0 (.loop c) ⟨t, o⟩ Q :=
  awp_loop (fun i => ⟨frm t.length (live i), ob i⟩) mu ok i0 _ (.step d T z ⟨t, o⟩ .refl hd hz) h2 h3 h

theorem wk_mk {s s' : AS} (h1 : WkT s'.o.length s.t s'.t) (h2 : WkO s'.o.length s.o s'.o) (h3 : n0 ≤ s'.o.length) : Wk n0 s s' := ⟨h1, h2, h3⟩

theorem wrap_succ {k : Nat} (h : k < 9223372036854775807) : IntKind.i64.wrap ((k : Int) + 1) = ((k + 1 : Nat) : Int) := by
  rw [IntKind.wrap_i64]; omega
theorem wrap_id {n : Int} (h1 : -9223372036854775808 ≤ n) (h2 : n ≤ 9223372036854775807) : IntKind.i64.wrap n = n := by
  rw [IntKind.wrap_i64]; omega

end
end Go.Proofs.Yteihcfhdhkamfaa
