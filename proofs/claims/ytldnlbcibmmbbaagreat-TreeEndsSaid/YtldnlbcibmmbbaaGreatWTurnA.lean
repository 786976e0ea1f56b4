/- Ways that part come together again: behind a region, or a piece of code, all is told by one state. -/
import Derived.Test.YtldnlbcibmmbbaaGreatWAbsW
import Derived.Test.YtldnlbcibmmbbaaGreatWLawRen
import Derived.Test.YtldnlbcibmmbbaaGreatWCopyE
import Derived.Test.YtldnlbcibmmbbaaGreatWFrz2
set_option linter.unusedSimpArgs false
set_option linter.unusedVariables false
open Bool renaming true_and → Kj, and_true → Kh, and_self → Km
open List renaming mem_cons → KX, not_mem_nil → KY, length_cons → I5, length_nil → IZ, replicate_succ → Kn, replicate_zero → Ko, cons_append → Kq, nil_append → Kr, getElem?_append_left → I1, getElem?_append_right → Jt, length_append → I4, map_append → Lc, replicate_succ' → Ld, length_replicate → Lf, getElem?_replicate → JC, getElem?_eq_some_iff → I0
open Nat renaming le_refl → IV
namespace Go.Proofs.YtldnlbcibmmbbaaGreat
open Go.RowKit
section
variable {P:Program}
theorem mO {n0:Nat} {x y:Code} {s:AS} {Q:aH→AS→Prop} (s0:AS) (hx:bC x=true) (hy:bC y=true) (h:bZ P n0 x s (fun e s'=>e = .normal∧Wk n0 s' s0)) (k:bZ P n0 y s0 Q):bZ P n0 (.seq x y) s Q:= .inr (fun f m D nu a w hZr hn hm hs hmx R hO hR=>by
 refine wpIn_seq (fc hmx (f:=f) m hZr hn x hx s a w D nu f.Z _ _ (fun a w h=>hO a w h) hm hs h ?_)
 rintro e D' Z' s' a' w' nu' h1 h2 ⟨rfl,hk⟩
 refine fc hmx (f:=f) m hZr hn y hy s0 a' w' D' nu' Z' Q R hO ?_ (jm hk h2) k hR
 rw [←hk.y]
 exact m.step h1 h2.ro hk.rG (jm hk h2).ro (fun c v hr hc=>hk.ra hr hc) (fun _ h=> .inl h) (fun _ h=> .inl h) (fun b hb=>⟨((m.kV h1).1 b hb).1,((m.kV h1).1 b hb).2, .inl hb⟩) (Nat.le_trans hn hk.n))
theorem Dm {n0 i:Nat} {ops:Array Oper} {d:Bool} {a b:Code} {s:AS} {Q:aH→AS→Prop} (h:bZ P n0 (.seq (.seq (.region i ops d) a) b) s Q):bZ P n0 (.seq (.seq (.region i ops d) a) b) s Q:=h
end
def EN (a:AV):Prop:=a.wf 0=true∧ ∃q:dF,q.small∧q.ok∧Le a (.agg (bI q))
def Fa (a:AV):Prop:=a.wf 0=true∧ ∃l:List ByteArray,l.length≤140737488355328∧Le a (aB l)
def IC (a:AV):Prop:= ∃o:cg,o.ok∧a = .agg (aN o)
theorem jj {a b o:AV} (ha:EN a) (hb:EN b) (ho:IC o):ai Tryz.prog 7 [a,b,o] (.v (.bool true)):=by
 obtain ⟨w1,q,q1,q2,q3⟩:=ha
 obtain ⟨w2,r,r1,r2,r3⟩:=hb
 obtain ⟨x,x1,rfl⟩:=ho
 exact (vq q r x q1 r1 q2 r2 x1).le (by simp only [bB,w1,w2,Kj,Kh];rfl) (.cons q3 (.cons r3 (.cons (.refl _) .nil)))
theorem j7 {a b c:AV} (ha:EN a) (hb:Fa b) (hc:Fa c):ai Tryz.prog 8 [a,b,c] (.v (.bool true)):=by
 obtain ⟨w1,q,q1,q2,q3⟩:=ha
 obtain ⟨w2,l,l1,l2⟩:=hb
 obtain ⟨w3,m,m1,m2⟩:=hc
 exact (s9 q l m q1 q2 l1 m1).le (by simp only [bB,w1,w2,w3,Kj]) (.cons q3 (.cons l2 (.cons m2 .nil)))
theorem kp (s t:ByteArray):Fa (.an 1 [[.v (.string s)],[.v (.string t)]] 2):=⟨rfl,[s,t],by simp, .refl _⟩
theorem Cd (s:ByteArray):Fa (.an 1 [[.v (.string s)]] 1):=⟨rfl,[s],by simp, .refl _⟩
theorem Cr:Fa (.v (.slice none 0 0)):=⟨rfl,[],by simp, .nil 1⟩
def vT:List ByteArray→Prop
 | []=>True
 | a :: l=>jx a∧vT l
theorem fA {a b:ByteArray} {c:Bool} {d e:ByteArray} {k:Int} {s a1 b1:ByteArray} {c1:Bool} {d1 e1:ByteArray} {k1:Int} {s1:ByteArray} {k2:Int} {s2:ByteArray} {op lk:Int} {ln lt:ByteArray} {lv lm:Int} {lx:ByteArray} {rk:Int} {rn rt:ByteArray} {rv rm:Int} {rx:ByteArray}
  {ok:Int} {on ot:ByteArray} {ov om:Int} {ox:ByteArray} {pk:Int} {pn pt:ByteArray} {pv pm:Int} {px:ByteArray} {ra sl:Int} (h:vT [a,b,d,e,s,a1,b1,d1,e1,s1,s2,ln,lt,lx,rn,rt,rx,on,ot,ox,pn,pt,px]) :
  EN (.agg [.an 8 [[.v (.string a), .v (.string b), .v (.bool c), .v (.string d), .v (.string e), .v (.int .i64 k), .v (.string s), .v (.slice none 0 0)],[.v (.string a1), .v (.string b1), .v (.bool c1), .v (.string d1), .v (.string e1), .v (.int .i64 k1), .v (.string s1), .an 3 [[.v (.int .i64 k2), .v (.string s2), .v (.slice none 0 0)]] 1]] 2,
   .an 13 [[.v (.int .i64 op), .v (.int .i64 lk), .v (.string ln), .v (.string lt), .v (.int .i64 lv), .v (.int .i64 lm), .v (.string lx), .v (.int .i64 rk), .v (.string rn), .v (.string rt), .v (.int .i64 rv), .v (.int .i64 rm), .v (.string rx)]] 1,
   .an 6 [[.v (.int .i64 ok), .v (.string on), .v (.string ot), .v (.int .i64 ov), .v (.int .i64 om), .v (.string ox)],[.v (.int .i64 pk), .v (.string pn), .v (.string pt), .v (.int .i64 pv), .v (.int .i64 pm), .v (.string px)]] 2, .v (.int .i64 ra), .v (.int .i64 sl)]):=by
 obtain ⟨h1,h2,h3,h4,h5,h6,h7,h8,h9,h10,h11,h12,h13,h14,h15,h16,h17,h18,h19,h20,h21,h22,h23,_⟩:=h
 refine ⟨rfl,⟨[⟨a,b,c,d,e, .mk k s []⟩,⟨a1,b1,c1,d1,e1, .mk k1 s1 [.mk k2 s2 []]⟩],[⟨op,⟨lk,ln,lt,⟨lv,lm,lx⟩⟩,⟨rk,rn,rt,⟨rv,rm,rx⟩⟩⟩],[⟨ok,on,ot,⟨ov,om,ox⟩⟩,⟨pk,pn,pt,⟨pv,pm,px⟩⟩],ra,sl⟩,⟨by simp,by simp,by simp⟩,⟨fun p hp=> ?_,fun p hp=> ?_,fun p hp=> ?_⟩, ?_⟩
 ·simp only [KX,KY,or_false] at hp
  rcases hp with rfl|rfl
  ·exact ⟨h1,h2,h3,h4,⟨h5,trivial⟩⟩
  ·exact ⟨h6,h7,h8,h9,⟨h10,⟨h11,trivial⟩,trivial⟩⟩
 ·simp only [KX,KY,or_false] at hp
  subst hp
  exact ⟨⟨h12,h13,h14⟩,⟨h15,h16,h17⟩⟩
 ·simp only [KX,KY,or_false] at hp
  rcases hp with rfl|rfl
  ·exact ⟨h18,h19,h20⟩
  ·exact ⟨h21,h22,h23⟩
 ·have hk:jq [.v (.int .i64 k2), .v (.string s2), .v (.slice none 0 0)] (bL (.mk k2 s2 [])):=by
   rw [aY];exact .cons (.refl _) (.cons (.refl _) (.cons (.nil 3) .nil))
  have rows2: ∀ {z:Nat} {r1 r2 t1 t2:List AV},jq r1 t1→jq r2 t2→Le (.an z [r1,r2] 2) (.an z [t1,t2] 2):=fun {z r1 r2 t1 t2} g1 g2=> .an z _ _ 2 (by simp) (by simp) (fun i r r' e1 e2=>by
   match i with
   | 0=>cases e1;cases e2;exact g1.1
   | 1=>cases e1;cases e2;exact g2.1
   | i+2=>simp at e1) (fun i j r r' c c' e1 e2 e3 e4=>by
   match i with
   | 0=>cases e1;cases e2;exact g1.2 j c c' e3 e4
   | 1=>cases e1;cases e2;exact g2.2 j c c' e3 e4
   | i+2=>simp at e1)
  have rows1: ∀ {z:Nat} {r1 t1:List AV},jq r1 t1→Le (.an z [r1] 1) (.an z [t1] 1):=fun {z r1 t1} g1=> .an z _ _ 1 (by simp) (by simp) (fun i r r' e1 e2=>by
   match i with
   | 0=>cases e1;cases e2;exact g1.1
   | i+1=>simp at e1) (fun i j r r' c c' e1 e2 e3 e4=>by
   match i with
   | 0=>cases e1;cases e2;exact g1.2 j c c' e3 e4
   | i+1=>simp at e1)
  refine jq.agg (.cons (rows2 ?_ ?_) (.cons (.refl _) (.cons (.refl _) (.cons (.refl _) (.cons (.refl _) .nil)))))
  ·exact .cons (.refl _) (.cons (.refl _) (.cons (.refl _) (.cons (.refl _) (.cons (.refl _) (.cons (.refl _) (.cons (.refl _) (.cons (.nil 3) .nil)))))))
  ·exact .cons (.refl _) (.cons (.refl _) (.cons (.refl _) (.cons (.refl _) (.cons (.refl _) (.cons (.refl _) (.cons (.refl _) (.cons (rows1 hk) .nil)))))))
set_option maxRecDepth 100000 in
theorem rI (s:ByteArray):ai Tryz.prog 9 [.v (.string s)] (.agg [.v (.int .i64 1), .v (.string s), .v (.string ⟨#[]⟩), .v (.int .i64 0), .v (.int .i64 0), .v (.string ⟨#[]⟩)]):=by
 (refine ai.enter Tryz.func9 rfl (by kernel_rfl) (by kernel_rfl) rfl (by first|rfl|(simp only [go_sem,Km,Kh,Kj])) (by first|rfl|(simp only [go_sem,Km,Kh,Kj])) ?_;simp only [Tryz.ntmps9,Tryz.results9,I5,IZ,Nat.reduceAdd,Nat.reduceSub,Kn,Ko,Kq,Kr])
 repeat' (first|(with_reducible first|refine ah.up ?_|refine fun (K:AK) hK=> ?_|(refine hK _ ?_;clear hK K))|simp only [go_sem]|clear hK K|(with_reducible refine aj.one (by assumption) ?_)|(with_reducible refine aw.one (by assumption) ?_)|(refine aO.part (fun hb=> ?_) (fun hb=> ?_)<;>simp only [hb,go_sem])|(refine aO.part (fun hb=> ?_) (fun hb=> ?_))|(with_reducible refine bH.mk ?_ ?_))
 (refine ju.of 40 rfl ?_;simp only [go_sem])
set_option maxRecDepth 100000 in
theorem xC (s k:ByteArray):ai Tryz.prog 5 [.v (.string s), .v (.string k)] (.agg [.v (.int .i64 2), .v (.string s), .v (.string k), .v (.int .i64 0), .v (.int .i64 0), .v (.string ⟨#[]⟩)]):=by
 (refine ai.enter Tryz.func5 rfl (by kernel_rfl) (by kernel_rfl) rfl (by first|rfl|(simp only [go_sem,Km,Kh,Kj])) (by first|rfl|(simp only [go_sem,Km,Kh,Kj])) ?_;simp only [Tryz.ntmps5,Tryz.results5,I5,IZ,Nat.reduceAdd,Nat.reduceSub,Kn,Ko,Kq,Kr])
 repeat' (first|(with_reducible first|refine ah.up ?_|refine fun (K:AK) hK=> ?_|(refine hK _ ?_;clear hK K))|simp only [go_sem]|clear hK K|(with_reducible refine aj.one (by assumption) ?_)|(with_reducible refine aw.one (by assumption) ?_)|(refine aO.part (fun hb=> ?_) (fun hb=> ?_)<;>simp only [hb,go_sem])|(refine aO.part (fun hb=> ?_) (fun hb=> ?_))|(with_reducible refine bH.mk ?_ ?_))
 (refine ju.of 40 rfl ?_;simp only [go_sem])
def zO (c:AV):List AV:=[.an 8 [[.v (.string ⟨#[97]⟩), .v (.string ⟨#[98]⟩), .v (.bool false), .v (.string ⟨#[120]⟩), .v (.string ⟨#[101]⟩), .v (.int .i64 0), .v (.string ⟨#[]⟩), .v (.slice none 0 0)],[.v (.string ⟨#[98]⟩), .v (.string ⟨#[99]⟩), .v (.bool true), .v (.string ⟨#[]⟩), .v (.string ⟨#[]⟩), .v (.int .i64 4), .v (.string ⟨#[]⟩), .an 3 [[.v (.int .i64 1), .v (.string ⟨#[121]⟩), .v (.slice none 0 0)]] 1]] 2,
 c, .an 6 [[.v (.int .i64 1), .v (.string ⟨#[97]⟩), .v (.string ⟨#[]⟩), .v (.int .i64 0), .v (.int .i64 0), .v (.string ⟨#[]⟩)],[.v (.int .i64 2), .v (.string ⟨#[101]⟩), .v (.string ⟨#[107]⟩), .v (.int .i64 0), .v (.int .i64 0), .v (.string ⟨#[]⟩)]] 2, .v (.int .i64 5), .v (.int .i64 2)]
set_option maxRecDepth 100000 in
set_option maxHeartbeats 2000000 in
theorem Cx:ai Tryz.prog 4 [] (.agg (zO (.v (.slice none 0 0)))):=by
 have C1:=rI ⟨#[97]⟩
 have C2:=xC ⟨#[101]⟩ ⟨#[107]⟩
 simp only [zO]
 (refine ai.enter Tryz.func4 rfl (by kernel_rfl) (by kernel_rfl) rfl (by first|rfl|(simp only [go_sem,Km,Kh,Kj])) (by first|rfl|(simp only [go_sem,Km,Kh,Kj])) ?_;simp only [Tryz.ntmps4,Tryz.results4,I5,IZ,Nat.reduceAdd,Nat.reduceSub,Kn,Ko,Kq,Kr])
 repeat ((fail_if_success (with_reducible refine oS (i:=2) ?_));first|(with_reducible first|refine ah.up ?_|refine fun (K:AK) hK=> ?_|refine wK ?_|refine wF ?_|(refine hK _ ?_;clear hK K))|simp only [go_sem,go_sem]|clear hK K)
 refine bw (eU (k:=2) (i:=0) (j:=2) (by decide) rfl (Nat.zero_lt_succ _) rfl rfl rfl rfl rfl) (by kernel_rfl) ?_
 simp only [List.set_cons_zero,List.set_cons_succ]
 repeat' (first|(with_reducible first|refine ah.up ?_|refine fun (K:AK) hK=> ?_|refine wE ?_|refine wK ?_|refine wF ?_|(refine hK _ ?_;clear hK K))|simp only [go_sem]|clear hK K|(with_reducible refine aj.one (by assumption) ?_)|(with_reducible refine aw.one (by assumption) ?_)|(refine aO.part (fun hb=> ?_) (fun hb=> ?_)<;>simp only [hb,go_sem])|(refine aO.part (fun hb=> ?_) (fun hb=> ?_))|(with_reducible refine bH.mk ?_ ?_))
 (refine ju.of 40 rfl ?_;simp only [go_sem])
def rV (l m:List (List AV)):Prop:=l.length=m.length∧ ∀(i:Nat) r r',l[i]? = some r→m[i]? = some r'→jq r r'
theorem rV.nil:rV [] []:=⟨rfl,fun i r r' h=>by simp at h⟩
theorem rV.snoc {l m:List (List AV)} {r r':List AV} (h:rV l m) (k:jq r r'):rV (l++[r]) (m++[r']):=by
 refine ⟨by simp [h.1],fun i a b h1 h2=> ?_⟩
 rcases Nat.lt_or_ge i l.length with q|q
 ·rw [I1 q] at h1
  rw [I1 (by rw [←h.1];exact q)] at h2
  exact h.2 i a b h1 h2
 ·rw [Jt q] at h1
  rw [Jt (by rw [←h.1];exact q), ← h.1] at h2
  cases hi:i - l.length with
  | zero=>rw [hi] at h1 h2;cases h1;cases h2;exact k
  | succ j=>rw [hi] at h1;simp at h1
theorem rV.le {z n:Nat} {l m:List (List AV)} (h:rV l m) (hn:n≤m.length):Le (.an z l n) (.an z m n):= .an z l m n hn (by rw [h.1];exact IV _) (fun i r r' h1 h2=>(h.2 i r r' h1 h2).1) (fun i j r r' c c' h1 h2 h3 h4=>(h.2 i r r' h1 h2).2 j c c' h3 h4)
def BA (a:AV):Prop:=a.wf 0=true∧ ∃ps:List cQ,ps.length≤1000000∧(∀p,p∈ps→p.ok)∧Le a (.an 8 (ps.map bo) ps.length)
def CO (a:AV):Prop:=a.wf 0=true∧ ∃ps:List ew,ps.length≤1000000∧(∀p,p∈ps→p.ok)∧Le a (.an 13 (ps.map bg) ps.length)
def Cc (a:AV):Prop:=a.wf 0=true∧ ∃ps:List cg,ps.length≤1000000∧(∀p,p∈ps→p.ok)∧Le a (.an 6 (ps.map aN) ps.length)
theorem ee {p c r:AV} {ra sl:Int} (hp:BA p) (hc:CO c) (ho:Cc r):EN (.agg [p,c,r, .v (.int .i64 ra), .v (.int .i64 sl)]):=by
 obtain ⟨w1,ps,a1,a2,a3⟩:=hp
 obtain ⟨w2,cs,b1,b2,b3⟩:=hc
 obtain ⟨w3,os,c1,c2,c3⟩:=ho
 exact ⟨by simp only [AV.wf,bB,w1,w2,w3,Kj],⟨ps,cs,os,ra,sl⟩,⟨by simp only;omega,by simp only;omega,by simp only;omega⟩,⟨a2,b2,c2⟩,jq.agg (.cons a3 (.cons b3 (.cons c3 (.cons (.refl _) (.cons (.refl _) .nil)))))⟩
theorem bY {s:ByteArray} (h:decide (s.size≤100)=true):jx s:=by unfold jx;have:=of_decide_eq_true h;omega
def EU:List AV:=[.v (.string ⟨#[97]⟩), .v (.string ⟨#[98]⟩), .v (.bool false), .v (.string ⟨#[120]⟩), .v (.string ⟨#[101]⟩), .v (.int .i64 0), .v (.string ⟨#[]⟩), .v (.slice none 0 0)]
def FC:List AV:=[.v (.string ⟨#[98]⟩), .v (.string ⟨#[99]⟩), .v (.bool true), .v (.string ⟨#[]⟩), .v (.string ⟨#[]⟩), .v (.int .i64 4), .v (.string ⟨#[]⟩), .an 3 [[.v (.int .i64 1), .v (.string ⟨#[121]⟩), .v (.slice none 0 0)]] 1]
def Gi:List AV:=[.v (.int .i64 3), .v (.int .i64 2), .v (.string ⟨#[101]⟩), .v (.string ⟨#[107]⟩), .v (.int .i64 0), .v (.int .i64 0), .v (.string ⟨#[]⟩), .v (.int .i64 3), .v (.string ⟨#[]⟩), .v (.string ⟨#[]⟩), .v (.int .i64 1), .v (.int .i64 5), .v (.string ⟨#[]⟩)]
def FX:List AV:=[.v (.int .i64 1), .v (.string ⟨#[97]⟩), .v (.string ⟨#[]⟩), .v (.int .i64 0), .v (.int .i64 0), .v (.string ⟨#[]⟩)]
def eD:Nat→List (List AV)
 | 0=>[]
 | n+1=>eD n++[if n % 2=0 then EU else FC]
def fE:Nat→List (List AV)
 | 0=>[]
 | n+1=>fE n++[Gi]
def fY:Nat→List (List AV)
 | 0=>[]
 | n+1=>fY n++[FX]
theorem ix: ∀n,(eD n).length=n
 | 0=>rfl
 | n+1=>by rw [eD,I4,ix n];rfl
theorem iJ: ∀n,(fE n).length=n
 | 0=>rfl
 | n+1=>by rw [fE,I4,iJ n];rfl
theorem iw: ∀n,(fY n).length=n
 | 0=>rfl
 | n+1=>by rw [fY,I4,iw n];rfl
theorem fN (k:Nat): ∀n,ct k (eD n)=true
 | 0=>rfl
 | n+1=>by rw [eD,cD,fN k n];split<;>rfl
theorem fD (k:Nat): ∀n,ct k (fE n)=true
 | 0=>rfl
 | n+1=>by rw [fE,cD,fD k n];rfl
theorem fT (k:Nat): ∀n,ct k (fY n)=true
 | 0=>rfl
 | n+1=>by rw [fY,cD,fT k n];rfl
theorem Ed:jq EU (bo ⟨⟨#[97]⟩,⟨#[98]⟩,false,⟨#[120]⟩,⟨#[101]⟩, .mk 0 ⟨#[]⟩ []⟩):= .cons (.refl _) (.cons (.refl _) (.cons (.refl _) (.cons (.refl _) (.cons (.refl _) (.cons (.refl _) (.cons (.refl _) (.cons (.nil 3) .nil)))))))
theorem D8:jq FC (bo ⟨⟨#[98]⟩,⟨#[99]⟩,true,⟨#[]⟩,⟨#[]⟩, .mk 4 ⟨#[]⟩ [.mk 1 ⟨#[121]⟩ []]⟩):=by
 have hk:jq [.v (.int .i64 1), .v (.string ⟨#[121]⟩), .v (.slice none 0 0)] (bL (.mk 1 ⟨#[121]⟩ [])):=by
  rw [aY];exact .cons (.refl _) (.cons (.refl _) (.cons (.nil 3) .nil))
 exact .cons (.refl _) (.cons (.refl _) (.cons (.refl _) (.cons (.refl _) (.cons (.refl _) (.cons (.refl _) (.cons (.refl _) (.cons ((rV.nil.snoc hk).le (IV _)) .nil)))))))
theorem qh (n:Nat) (hn:n≤1000000):BA (.an 8 (eD n) n):=by
 have key: ∀n, ∃ps:List cQ,ps.length=n∧(∀p,p∈ps→p.ok)∧rV (eD n) (ps.map bo):=by
  intro n
  induction n with
  | zero=>exact ⟨[],rfl,by simp, .nil⟩
  | succ n ih=>
   obtain ⟨ps,h1,h2,h3⟩:=ih
   rw [eD]
   split
   ·refine ⟨ps++[⟨⟨#[97]⟩,⟨#[98]⟩,false,⟨#[120]⟩,⟨#[101]⟩, .mk 0 ⟨#[]⟩ []⟩],by simp [h1],fun p hp=> ?_,by rw [Lc];exact h3.snoc Ed⟩
    rcases List.mem_append.1 hp with hp|hp
    ·exact h2 p hp
    ·simp at hp;subst hp;exact ⟨bY (by rfl),bY (by rfl),bY (by rfl),bY (by rfl),bY (by rfl),trivial⟩
   ·refine ⟨ps++[⟨⟨#[98]⟩,⟨#[99]⟩,true,⟨#[]⟩,⟨#[]⟩, .mk 4 ⟨#[]⟩ [.mk 1 ⟨#[121]⟩ []]⟩],by simp [h1],fun p hp=> ?_,by rw [Lc];exact h3.snoc D8⟩
    rcases List.mem_append.1 hp with hp|hp
    ·exact h2 p hp
    ·simp at hp;subst hp;exact ⟨bY (by rfl),bY (by rfl),bY (by rfl),bY (by rfl),bY (by rfl),⟨bY (by rfl),trivial⟩,trivial⟩
 obtain ⟨ps,h1,h2,h3⟩:=key n
 refine ⟨by simp only [AV.wf,fN],ps,by omega,h2, ?_⟩
 rw [h1]
 exact h3.le (by simp [h1])
theorem iq (n:Nat) (hn:n≤1000000):CO (.an 13 (fE n) n):=by
 have key: ∀n,fE n=(List.replicate n (⟨3,⟨2,⟨#[101]⟩,⟨#[107]⟩,⟨0,0,⟨#[]⟩⟩⟩,⟨3,⟨#[]⟩,⟨#[]⟩,⟨1,5,⟨#[]⟩⟩⟩⟩:ew)).map bg:=by
  intro n
  induction n with
  | zero=>rfl
  | succ n ih=>rw [fE,ih,Ld,Lc];rfl
 refine ⟨by simp only [AV.wf,fD],List.replicate n _,by simpa using hn,fun p hp=> ?_,by rw [key n,Lf];exact .refl _⟩
 rw [(List.mem_replicate.1 hp).2]
 exact ⟨⟨bY (by rfl),bY (by rfl),bY (by rfl)⟩,⟨bY (by rfl),bY (by rfl),bY (by rfl)⟩⟩
theorem lB (n:Nat) (hn:n≤1000000):Cc (.an 6 (fY n) n):=by
 have key: ∀n,fY n=(List.replicate n (⟨1,⟨#[97]⟩,⟨#[]⟩,⟨0,0,⟨#[]⟩⟩⟩:cg)).map aN:=by
  intro n
  induction n with
  | zero=>rfl
  | succ n ih=>rw [fY,ih,Ld,Lc];rfl
 refine ⟨by simp only [AV.wf,fT],List.replicate n _,by simpa using hn,fun p hp=> ?_,by rw [key n,Lf];exact .refl _⟩
 rw [(List.mem_replicate.1 hp).2]
 exact ⟨bY (by rfl),bY (by rfl),bY (by rfl)⟩
theorem nW:BA (.an 8 [[.v (.string ⟨#[97]⟩), .v (.string ⟨#[98]⟩), .v (.bool false), .v (.string ⟨#[120]⟩), .v (.string ⟨#[101]⟩), .v (.int .i64 0), .v (.string ⟨#[]⟩), .v (.slice none 0 0)],[.v (.string ⟨#[98]⟩), .v (.string ⟨#[99]⟩), .v (.bool true), .v (.string ⟨#[]⟩), .v (.string ⟨#[]⟩), .v (.int .i64 4), .v (.string ⟨#[]⟩), .an 3 [[.v (.int .i64 1), .v (.string ⟨#[121]⟩), .v (.slice none 0 0)]] 1]] 2):=qh 2 (by omega)
theorem xn:Cc (.an 6 [[.v (.int .i64 1), .v (.string ⟨#[97]⟩), .v (.string ⟨#[]⟩), .v (.int .i64 0), .v (.int .i64 0), .v (.string ⟨#[]⟩)],[.v (.int .i64 2), .v (.string ⟨#[101]⟩), .v (.string ⟨#[107]⟩), .v (.int .i64 0), .v (.int .i64 0), .v (.string ⟨#[]⟩)]] 2):=⟨rfl,[⟨1,⟨#[97]⟩,⟨#[]⟩,⟨0,0,⟨#[]⟩⟩⟩,⟨2,⟨#[101]⟩,⟨#[107]⟩,⟨0,0,⟨#[]⟩⟩⟩],by simp,fun p hp=>by
 simp only [KX,KY,or_false] at hp
 rcases hp with rfl|rfl
 ·exact ⟨bY (by rfl),bY (by rfl),bY (by rfl)⟩
 ·exact ⟨bY (by rfl),bY (by rfl),bY (by rfl)⟩, .refl _⟩
theorem xE:BA (.v (.slice none 0 0)):=⟨rfl,[],by simp,by simp, .nil 8⟩
theorem BB:CO (.v (.slice none 0 0)):=⟨rfl,[],by simp,by simp, .nil 13⟩
theorem Bc:CO (.an 13 [] 0):=⟨rfl,[],by simp,by simp, .refl _⟩
theorem xi:Cc (.v (.slice none 0 0)):=⟨rfl,[],by simp,by simp, .nil 6⟩
def j0 (o:List (Option ab)):List (Option ab):=List.replicate o.length none
theorem ml {o:List (Option ab)} {id:Nat} {x:Option ab} (h:(j0 o)[id]? = some x):x=none:=by
 rw [j0,JC] at h
 split at h
 ·cases h;rfl
 ·cases h
theorem ru (nu:Nat→Nat→Value) (o:List (Option ab)) (b:Nat): ¬owned nu (j0 o) b:=fun ⟨id,ob,h,_⟩=>by
 have:=ml h;cases this
theorem wu (nu:Nat→Nat→Value) (o:List (Option ab)) (w:World):bp nu o w nu (j0 o) w:=by
 refine ⟨rfl,rfl,rfl,IV _,fun id len h=>⟨?_,rfl⟩,fun b _ _=>⟨rfl,ru _ _ _⟩⟩
 obtain ⟨ob,h1,_⟩:=h
 have hl:=(I0.1 h1).1
 exact ⟨none,by rw [j0,JC,if_pos hl],fun x e=>by cases e⟩
theorem AX (nu:Nat→Nat→Value) (o:List (Option ab)) (w:World):bp nu [] w nu (j0 o) w:=
 ⟨rfl,rfl,rfl,IV _,fun id len h=>by obtain ⟨x,k,_⟩:=h;simp at k,fun b _ _=>⟨rfl,ru _ _ _⟩⟩
def Fj (o:List (Option ab)) (t:List AV):List (Nat×AV)→Prop
 | []=>True
 | q :: l=>(∃c,t[q.1]? = some c∧b8 o c q.2)∧Fj o t l
theorem tJ: ∀(l:List (Nat×AV)) (t:List AV) (i:Nat) (c:AV),(l.foldl (fun t p=>t.set p.1 p.2) t)[i]? = some c→t[i]? = some c∨(i,c)∈l
 | [],t,i,c,h=> .inl h
 | q :: l,t,i,c,h=>by
  rw [List.foldl_cons] at h
  rcases tJ l _ i c h with h|h
  ·by_cases e:q.1=i
   ·subst e
    have hl:=(I0.1 h).1
    rw [List.length_set] at hl
    rw [List.getElem?_set_self hl] at h
    cases h
    exact .inr (List.mem_cons_self ..)
   ·rw [List.getElem?_set_ne e] at h;exact .inl h
  ·exact .inr (List.mem_cons_of_mem _ h)
theorem tD: ∀(l:List (Nat×AV)) (t:List AV),(l.foldl (fun t p=>t.set p.1 p.2) t).length=t.length
 | [],t=>rfl
 | q :: l,t=>by rw [List.foldl_cons,tD l,List.length_set]
theorem Fj.mem {o:List (Option ab)} {t:List AV}: ∀ {l:List (Nat×AV)},Fj o t l→ ∀ {i:Nat} {c:AV},(i,c)∈l→ ∃c0,t[i]? = some c0∧b8 o c0 c
 | [],_,i,c,h=>by cases h
 | q :: l,hu,i,c,h=>by
  rcases KX.1 h with h|h
  ·cases h;exact hu.1
  ·exact Fj.mem hu.2 h
theorem ll {s:AS} (N:Nat) (upd:List (Nat×AV)) (hN:s.t.length=N) (h:Fj s.o s.t upd):yx s (AS.mk (aD N upd) (j0 s.o) s.y):=by
 intro f D nu a w hs
 have hm:=wu nu s.o w
 refine ⟨nu,hm,rfl,⟨fun id ob h1=>(by cases ml h1),hs.ro.up,fun id id' ob ob' b h1=>(by cases ml h1),hs.ro.gl.mono hm (fun _ _ h=>h)⟩,⟨?_,fun i c x h1 h2=> ?_⟩,hs.fR⟩
 ·rw [aD,tD,Lf, ← hN];exact hs.tm.len
 ·rcases tJ upd _ i c h1 with h1|h1
  ·rw [JC] at h1
   split at h1
   ·cases h1;exact .undef _
   ·cases h1
  ·obtain ⟨c0,k1,k2⟩:=h.mem h1
   exact (k2 D nu w x hs.ro (hs.tm.bA i c0 x k1 h2)).mono (AX nu s.o w) (fun _ _ h=>h)
def ug (o:List (Option ab)):List (List AV)→List (List AV)→Prop
 | [],[]=>True
 | a :: l,b :: m=>ti o a b∧ug o l m
 | _,_=>False
theorem ug.bA {o:List (Option ab)}: ∀ {l m:List (List AV)},ug o l m→m.length=l.length∧ ∀(i:Nat) a b,l[i]? = some a→m[i]? = some b→ti o a b
 | [],[],_=>⟨rfl,fun i a b h=>by simp at h⟩
 | a :: l,b :: m,h=>by
  obtain ⟨h1,h2⟩:=ug.bA h.2
  refine ⟨by simp [h1],fun i x y k1 k2=> ?_⟩
  cases i with
  | zero=>cases k1;cases k2;exact h.1
  | succ i=>exact h2 i x y (by simpa using k1) (by simpa using k2)
 | [],b :: m,h=>h.elim
 | a :: l,[],h=>h.elim
theorem b8.Fl {o:List (Option ab)} {id len:Nat} {ob:ab} {rows':List (List AV)} (ho:o[id]? = some (some ob)) (hv:ob.eu=true) (hl:ob.rows.length=len) (h:ug o ob.rows rows'):b8 o (.vec id len) (.an ob.z rows' len):=
 b8.GL ho hv hl h.bA.1 h.bA.2
end Go.Proofs.YtldnlbcibmmbbaaGreat
