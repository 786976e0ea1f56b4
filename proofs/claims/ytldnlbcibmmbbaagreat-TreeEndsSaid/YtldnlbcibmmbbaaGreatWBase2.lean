/- The cells of a slice's k-th element. -/
import Derived.Test.YtldnlbcibmmbbaaGreatWBase
set_option linter.unusedSimpArgs false
set_option linter.unusedVariables false
namespace Go.Proofs.YtldnlbcibmmbbaaGreat
open Go.RowKit
theorem en {w:World} {b:Nat}: ∀ {vs:List Value} {o:Nat},cM w b o vs→ ∀j v,vs[j]? = some v→w.cell? ⟨b,o+j,none⟩=some v
 | [],_,_,j,v,h=>by simp at h
 | x :: vs,o,hc,j,v,h=>by
  cases j with
  | zero=>simp at h;subst h;simpa using hc.1
  | succ j=>
   have:=en hc.2 j v (by simpa using h)
   rw [show o+(j+1)=o+1+j by omega];exact this
theorem jB {w:World} {k:Nat} {C:Array Value} {T:TypeId} {fz:Nat×Nat} (h:w.heap[k]? = some (.cells C T fz)) (o:Nat):w.cell? ⟨k,o,none⟩=C[o]? :=by simp [World.cell?,h]
theorem iK {w:World} {xs:List ew} {p:Option Addr} {n cap:Nat} (h:ij w xs (.slice p n cap)) {k:Nat} (hk:k<xs.length) :
  ∃b o,p=some ⟨b,o,none⟩∧w.cell? ⟨b,o+k * 13,none⟩=some (.int .i64 xs[k].op)∧w.cell? ⟨b,o+k * 13+1,none⟩=some (.int .i64 xs[k].left.kind)∧w.cell? ⟨b,o+k * 13+2,none⟩=some (.string xs[k].left.name)∧w.cell? ⟨b,o+k * 13+3,none⟩=some (.string xs[k].left.key)∧w.cell? ⟨b,o+k * 13+4,none⟩=some (.int .i64 xs[k].left.val.kind)∧w.cell? ⟨b,o+k * 13+5,none⟩=some (.int .i64 xs[k].left.val.num)∧w.cell? ⟨b,o+k * 13+6,none⟩=some (.string xs[k].left.val.text)∧w.cell? ⟨b,o+k * 13+7,none⟩=some (.int .i64 xs[k].right.kind)∧w.cell? ⟨b,o+k * 13+8,none⟩=some (.string xs[k].right.name)∧w.cell? ⟨b,o+k * 13+9,none⟩=some (.string xs[k].right.key)∧w.cell? ⟨b,o+k * 13+10,none⟩=some (.int .i64 xs[k].right.val.kind)∧w.cell? ⟨b,o+k * 13+11,none⟩=some (.int .i64 xs[k].right.val.num)∧w.cell? ⟨b,o+k * 13+12,none⟩=some (.string xs[k].right.val.text):=by
 obtain ⟨b,o,cs,hp,hr,hc⟩:=dW.at h hk
 subst hr
 replace hc:=en hc
 exact ⟨b,o,hp,by simpa using hc 0 _ rfl,by simpa using hc 1 _ rfl,by simpa using hc 2 _ rfl,by simpa using hc 3 _ rfl,by simpa using hc 4 _ rfl,by simpa using hc 5 _ rfl,by simpa using hc 6 _ rfl,by simpa using hc 7 _ rfl,by simpa using hc 8 _ rfl,by simpa using hc 9 _ rfl,by simpa using hc 10 _ rfl,by simpa using hc 11 _ rfl,by simpa using hc 12 _ rfl⟩
theorem iM {w:World} {xs:List cg} {p:Option Addr} {n cap:Nat} (h:gG w xs (.slice p n cap)) {k:Nat} (hk:k<xs.length) :
  ∃b o,p=some ⟨b,o,none⟩∧w.cell? ⟨b,o+k * 6,none⟩=some (.int .i64 xs[k].kind)∧w.cell? ⟨b,o+k * 6+1,none⟩=some (.string xs[k].name)∧w.cell? ⟨b,o+k * 6+2,none⟩=some (.string xs[k].key)∧w.cell? ⟨b,o+k * 6+3,none⟩=some (.int .i64 xs[k].val.kind)∧w.cell? ⟨b,o+k * 6+4,none⟩=some (.int .i64 xs[k].val.num)∧w.cell? ⟨b,o+k * 6+5,none⟩=some (.string xs[k].val.text):=by
 obtain ⟨b,o,cs,hp,hr,hc⟩:=dW.at h hk
 subst hr
 replace hc:=en hc
 exact ⟨b,o,hp,by simpa using hc 0 _ rfl,by simpa using hc 1 _ rfl,by simpa using hc 2 _ rfl,by simpa using hc 3 _ rfl,by simpa using hc 4 _ rfl,by simpa using hc 5 _ rfl⟩
theorem lZ {w:World} {xs:List ByteArray} {p:Option Addr} {n cap:Nat} (h:ez w xs (.slice p n cap)) {k:Nat} (hk:k<xs.length) :
  ∃b o,p=some ⟨b,o,none⟩∧w.cell? ⟨b,o+k,none⟩=some (.string xs[k]):=by
 obtain ⟨b,o,cs,hp,hr,hc⟩:=dW.at h hk
 subst hr
 rw [Nat.mul_one] at hc;replace hc:=en hc
 exact ⟨b,o,hp,by simpa using hc 0 _ rfl⟩
theorem dv {w:World} {xs:List cQ} {p:Option Addr} {n cap:Nat} (h:cP w xs (.slice p n cap)) {k:Nat} (hk:k<xs.length) :
  ∃b o kd s l sv,p=some ⟨b,o,none⟩∧xs[k].expr = .mk kd s l∧cm w l sv∧w.cell? ⟨b,o+k * 8,none⟩=some (.string xs[k].aD)∧w.cell? ⟨b,o+k * 8+1,none⟩=some (.string xs[k].to)∧w.cell? ⟨b,o+k * 8+2,none⟩=some (.bool xs[k].path)∧w.cell? ⟨b,o+k * 8+3,none⟩=some (.string xs[k].label)∧w.cell? ⟨b,o+k * 8+4,none⟩=some (.string xs[k].name)∧w.cell? ⟨b,o+k * 8+5,none⟩=some (.int .i64 kd)∧w.cell? ⟨b,o+k * 8+6,none⟩=some (.string s)∧w.cell? ⟨b,o+k * 8+7,none⟩=some (sv):=by
 obtain ⟨b,o,cs,hp,hr,hc⟩:=dW.at h hk
 obtain ⟨kd,s,l,sv,he,hx,rfl⟩:=hr
 replace hc:=en hc
 exact ⟨b,o,kd,s,l,sv,hp,he,hx,by simpa using hc 0 _ rfl,by simpa using hc 1 _ rfl,by simpa using hc 2 _ rfl,by simpa using hc 3 _ rfl,by simpa using hc 4 _ rfl,by simpa using hc 5 _ rfl,by simpa using hc 6 _ rfl,by simpa using hc 7 _ rfl⟩
end Go.Proofs.YtldnlbcibmmbbaaGreat
