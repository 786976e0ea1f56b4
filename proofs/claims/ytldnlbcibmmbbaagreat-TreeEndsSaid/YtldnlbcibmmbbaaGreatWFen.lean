/- Walks in the frame of a round (a range over a function): what the plain laws come to there; marks among the deferred calls. No program is named here. -/
import Derived.RangeFuncNested
import Derived.RangeFuncLeaves
import Derived.RangeFuncRecord
import Derived.Test.YtldnlbcibmmbbaaGreatWRel
set_option linter.unusedSimpArgs false
set_option linter.unusedVariables false
namespace Go.Proofs.YtldnlbcibmmbbaaGreat
open Go.RowKit
def WF (r:Option Nat):Fence:={ Fence.wide with round:=r }
theorem gM (r:Option Nat) (n:Nat):(WF r).room n:=fun d h=>by cases h
section
variable {P:Program} {r:Option Nat} {n:Nat} {ops:Array Oper} {Q:Exit→Act→World→Prop} {a:Act} {w:World}
theorem AL {c:Code} {m:Nat} (h:c.wpIn (WF r) n P Q a w):c.wpIn (WF r) m P Q a w:=fun b k cs h1 h2 _=>h b k cs h1 h2 (gM _ _)
theorem ze {m:Nat} {l:Nat} {f:FuncId} {tmps:Array Value} {assign body:Code} {R:Ending→World→Prop} {r':Option Nat} (h:RoundIn (WF r) n P l f tmps assign body w R):RoundIn (WF r') m P l f tmps assign body w R:=⟨trivial,fun c cs _=>h.2 c cs (gM _ _)⟩
theorem iP {f:FuncId} {args:Array Value} {R:Ending→World→Prop} (h:Calls P f args w R):CallsIn (WF r) n P f args w R:=(callsIn_wide (n:=n)).2 h
theorem uP {f:FuncId} {args:Array Value} {R:Ending→World→Prop} (h:CallsIn (WF none) n P f args w R):Calls P f args w R:=(callsIn_wide (n:=n)).1 h
def gO (ops:Array Oper):Bool:=ops.all (fun o=>match o.op with| .defer _=>false|_=>true)
theorem Bm {i:Nat} {o:Oper} (h:gO ops=true) (ho:ops[i]? = some o) (rho:Operand→Value):o.semAt r rho=execOp rho o:=by
 refine Oper.semAt_eq r rho o (fun c hc=> ?_)
 unfold gO at h
 rw [Array.all_eq_true_iff_forall_mem] at h
 have:=h o (Array.mem_of_getElem? ho)
 rw [hc] at this
 cases this
theorem l5 {row:String} {args:Array Value} {R:Value→World→Prop} (h:Rows P row args w R):RowsIn (WF r) n P row args w R:=fun c cs _=>by
 obtain ⟨v,w',hr,hs⟩:=h c cs
 exact ⟨v,w',hr,stepsIn_wide.2 hs⟩
theorem di (hc:gO ops=true) (hQ: ∀a w, ¬Q .outgrown a w): ∀(l:List Nat) (a:Act) (w:World),wpOps P ops Q l a w→wpOpsIn (WF r) n P ops Q l a w
 | [],a,w,h=>h
 | i :: rest,a,w,h=>by
  simp only [wpOps] at h
  simp only [wpOpsIn]
  cases ho:ops[i]? with
  | none=>
   rw [ho] at h
   exact di hc hQ rest a w h
  | some o=>
   rw [ho] at h
   simp only at h ⊢
   split
   ·rename_i hw
    rw [if_pos hw] at h
    rcases h with h|⟨_,a',w',h⟩
    ·refine ⟨fun f _=>trivial, ?_⟩
     rw [Bm hc ho]
     unfold Oper.wp at h
     generalize (execOp a.eval o).run P w=res at h
     unfold Oper.upon at h
     unfold Oper.uponIn
     split at h
     ·exact di hc hQ rest _ _ h
     ·exact di hc hQ rest _ _ h
     ·exact di hc hQ rest _ _ h
     ·refine ⟨fun e=>(by cases e),iP (h.mono fun e w' he=> ?_)⟩
      cases e with
      | returned v=>exact di hc hQ rest _ _ he
      | panicked ch=>exact he
      | outgrown=>exact he
     ·exact ⟨fun e=>(by cases e),l5 (h.mono fun v w' he=>di hc hQ rest _ _ he)⟩
     ·exact h
     ·exact h.elim
    ·exact absurd h (hQ a' w')
   ·rename_i hw
    rw [if_neg hw] at h
    exact ⟨fun f _=>trivial,di hc hQ rest _ _ h⟩
theorem jR {id:Nat} (hm:P.follows .mixedOrders=true) (hc:gO ops=true) (hQ: ∀a w, ¬Q .outgrown a w) (h:wpAny P .any ops Q ops.size (Array.replicate ops.size false) a w.drew):(Code.region id ops true).wpIn (WF r) n P Q a w:=
 wpIn_region_draw fun t=>by
  simp only [Region.schedule,hm,Bool.true_or,if_true]
  exact di hc hQ _ _ _ (wpAny_sound ops.size t _ a _ h)
theorem qs {c:Code} (I:Nat→Act→World→Prop) {m:Nat} (h0:I m a w) (round: ∀m a w,I m a w→c.wpIn (WF r) n P (Exit.then (fun a' w'=> ∃m',I m' a' w'∧m'<m) Q) a w):(Code.loop c).wpIn (WF r) n P Q a w:=by
 have key: ∀j a w,I j a w→ ∀b k cs,b.roundOf=(WF r).round→ ∃e a' w',Q e a' w'∧ArrivesIn (Machine.fenced P (WF r)) P (lone (b.atR a (.code c :: .inLoop c :: k)) cs w) b k cs e a' w':=by
  intro j
  induction j using Nat.strongRecOn with
  | _ j ih=>
   intro a w hI b k cs hro
   obtain ⟨e,a1,w1,hq,harr⟩:=round j a w hI b (.inLoop c :: k) cs hro trivial (gM _ _)
   cases e with
   | normal=>
    obtain ⟨m',h1,h2⟩:=hq
    obtain ⟨e2,a2,w2,q2,arr2⟩:=ih m' h2 a1 w1 h1 b k cs hro
    exact ⟨e2,a2,w2,q2, .of_steps (StepsIn.trans harr (.one (fenced_calm (F:=WF r) (n:=n) trivial (gM _ _) rfl) stepR_inLoop)) arr2⟩
   | exit id=>exact ⟨_,a1,w1,hq, .pass (x:= .inLoop c) rfl (fun _ _=> .inl (by simp)) harr⟩
   | goto l=>exact ⟨_,a1,w1,hq, .pass (x:= .inLoop c) rfl (fun _ _=> .inl (by simp)) harr⟩
   | ret=>exact ⟨_,a1,w1,hq, .pass (x:= .inLoop c) rfl (fun _ _=> .inl (by simp)) harr⟩
   | panic ch=>exact ⟨_,a1,w1,hq, .pass (x:= .inLoop c) rfl (fun _ _=> .inl (by simp)) harr⟩
   | outgrown=>exact ⟨_,a1,w1,hq, .pass (x:= .inLoop c) rfl (fun _ _=> .inl (by simp)) harr⟩
 intro b k cs hro _ _
 obtain ⟨e,a',w',hq,harr⟩:=key m a w h0 b k cs hro
 exact ⟨e,a',w',hq, .of_steps (.one (fenced_calm (F:=WF r) (n:=n) trivial (gM _ _) rfl) stepR_loop) harr⟩
theorem sL {b:Frame} {k:List Item} {cs:List Frame} {c:Code}:step P (lone (b.atR a (.code (.scope c) :: k)) cs w) = .next (lone (b.atR a (.code c :: .inScope c :: k)) cs w):=
 step_lone_go (by simp [stepG,stepG.exec,Frame.atR])
theorem pS {b:Frame} {k:List Item} {cs:List Frame} {c:Code}:step P (lone (b.atR a (.inScope c :: k)) cs w) = .next (lone (b.atR a k) cs w):=
 step_lone_go (by simp [stepG,stepG.exec,Frame.atR])
theorem xb {c:Code} (h:c.wpIn (WF r) n P (Exit.noGoto Q) a w):(Code.scope c).wpIn (WF r) n P Q a w:=by
 intro b k cs hro _ _
 obtain ⟨e,a1,w1,hq,harr⟩:=h b (.inScope c :: k) cs hro trivial (gM _ _)
 have s1:StepsIn (Machine.fenced P (WF r)) P (lone (b.atR a (.code (.scope c) :: k)) cs w) (lone (b.atR a (.code c :: .inScope c :: k)) cs w):= .one (fenced_calm (F:=WF r) (n:=n) trivial (gM _ _) rfl) sL
 cases e with
 | normal=>exact ⟨.normal,a1,w1,hq,s1.trans (StepsIn.trans harr (.one (fenced_calm (F:=WF r) (n:=n) trivial (gM _ _) rfl) pS))⟩
 | exit id=>
  refine ⟨.exit id,a1,w1,hq,fun k' hk=>s1.trans (harr.1 k' (by simp [exitTo,hk])),fun hro2 hkk=> ?_⟩
  obtain ⟨k1,h1,h2⟩:=harr.2 hro2 (by simp [exitTo,hkk])
  exact ⟨k1,h1,s1.trans h2⟩
 | goto l=>exact hq.elim
 | ret=>exact ⟨_,a1,w1,hq, .of_steps s1 harr⟩
 | panic ch=>exact ⟨_,a1,w1,hq, .of_steps s1 harr⟩
 | outgrown=>exact ⟨_,a1,w1,hq, .of_steps s1 harr⟩
end
end Go.Proofs.YtldnlbcibmmbbaaGreat
