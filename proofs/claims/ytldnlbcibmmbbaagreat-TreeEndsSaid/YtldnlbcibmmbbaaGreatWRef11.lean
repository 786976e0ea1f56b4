/- Less is told of a value: what reads as the greater reads as the less. -/
import Derived.Test.YtldnlbcibmmbbaaGreatWLentQ
import Derived.Test.YtldnlbcibmmbbaaGreatWRef07b
import Derived.Test.YtldnlbcibmmbbaaGreatWAbsZ
import Derived.Test.YtldnlbcibmmbbaaGreatWTreeD
set_option linter.unusedSimpArgs false
set_option linter.unusedVariables false
open Bool renaming and_true → Kh, and_self → Km, true_and → Kj
open List renaming getElem?_eq_some_iff → I0, getElem?_eq_getElem → Je, eq_nil_of_length_eq_zero → JB
namespace Go.Proofs.YtldnlbcibmmbbaaGreat
open Go.RowKit
inductive Le:AV→AV→Prop
 | refl (a:AV):Le a a
 | aV (p:(Nat→Prop)→World→Value→Prop) (a b:AV):Le a b→Le (.aV p a) b
 | nil (z:Nat):Le (.v (.slice none 0 0)) (.an z [] 0)
 | agg (cs ds:List AV):cs.length=ds.length→(∀(i:Nat) c d,cs[i]? = some c→ds[i]? = some d→Le c d)→Le (.agg cs) (.agg ds)
 | an (z:Nat) (rows rows':List (List AV)) (len:Nat):len≤rows'.length→rows'.length≤rows.length→(∀(i:Nat) r r',rows[i]? = some r→rows'[i]? = some r'→r.length=r'.length) →
   (∀(i j:Nat) r r' c c',rows[i]? = some r→rows'[i]? = some r'→r[j]? = some c→r'[j]? = some c'→Le c c')→Le (.an z rows len) (.an z rows' len)
section
variable {D:Nat→Prop} {nu:Nat→Nat→Value} {o:List (Option ab)} {w:World} {P:Program}
theorem RA.le {a b:AV} (h:Le a b): ∀ {x:Value},RA D nu o w a x→RA D nu o w b x:=by
 induction h with
 | refl a=>exact fun h=>h
 | aV p a b _ ih=>intro x h;cases h with|aV _ _ _ S h0 h1 hc h2 h3=>exact ih h3
 | nil z=>intro x h;obtain rfl:=h.bj;exact .aL z
 | agg cs ds hl _ ih=>
  intro x h
  cases h with
  | agg _ xs h1 h2 h3=>
   refine .agg ds xs (by omega) (fun i d y hd hy=> ?_) h3
   have hi:i<cs.length:=by have:=(I0.1 hd).1;omega
   exact ih i cs[i] d (Je hi) hd (h2 i _ y (Je hi) hy)
 | an z rows rows' len h1 h2 h3 _ ih=>
  intro x h
  have up: ∀(i:Nat) r',rows'[i]? = some r'→ ∃r,rows[i]? = some r:=fun i r' hr=>⟨_,Je (by have:=(I0.1 hr).1;omega)⟩
  have upj: ∀(i j:Nat) r' c',rows'[i]? = some r'→r'[j]? = some c'→ ∃r c,rows[i]? = some r∧r[j]? = some c:=fun i j r' c' hr hc=>by
   obtain ⟨r,hr'⟩:=up i r' hr
   exact ⟨r,_,hr',Je (by have:=h3 i r r' hr' hr;have:=(I0.1 hc).1;omega)⟩
  cases h with
  | aL=>
   have:rows'=[]:=JB (by simpa using h2)
   subst this;exact .aL z
  | aW _ a=>
   have:rows'=[]:=JB (by simpa using h2)
   subst this;exact .aW z a
  | an _ _ _ b off cap f k1 k2 k3 k4 k5 k6 k7 k8=>
   refine .an z rows' len b off cap f h1 (by omega) k3 (fun hne=>k4 (fun e=>hne (by subst e;exact JB (by simpa using h2)))) (fun i r' hr=> ?_) (fun i j r' c' hr hc=> ?_) (fun i j r' c' hr hc=> ?_) (fun i j r' c' hr hc=> ?_)
   ·obtain ⟨r,hr'⟩:=up i r' hr
    rw [←h3 i r r' hr' hr];exact k5 i r hr'
   ·obtain ⟨r,c,q1,q2⟩:=upj i j r' c' hr hc
    exact k6 i j r c q1 q2
   ·obtain ⟨r,c,q1,q2⟩:=upj i j r' c' hr hc
    exact ih i j r r' c c' q1 hr q2 hc (k7 i j r c q1 q2)
   ·obtain ⟨r,c,q1,q2⟩:=upj i j r' c' hr hc
    exact k8 i j r c q1 q2
def jq (cs ds:List AV):Prop:=cs.length=ds.length∧ ∀(i:Nat) c d,cs[i]? = some c→ds[i]? = some d→Le c d
theorem jq.nil:jq [] []:=⟨rfl,fun i c d h=>by simp at h⟩
theorem jq.cons {c d:AV} {cs ds:List AV} (h:Le c d) (k:jq cs ds):jq (c :: cs) (d :: ds):=⟨by simp [k.1],fun i x y hx hy=>by
 cases i with
 | zero=>cases hx;cases hy;exact h
 | succ i=>exact k.2 i x y hx hy⟩
theorem jq.refl (cs:List AV):jq cs cs:=⟨rfl,fun i c d h k=>by rw [h] at k;cases k;exact .refl c⟩
theorem jq.agg {cs ds:List AV} (h:jq cs ds):Le (.agg cs) (.agg ds):= .agg cs ds h.1 h.2
theorem Le.rows {α:Type} {z:Nat} {f g:α→List AV} {xs:List α} {more:List (List AV)} (h: ∀x,x∈xs→jq (f x) (g x)):Le (.an z (xs.map f++more) xs.length) (.an z (xs.map g) xs.length):=by
 have key: ∀(i:Nat) r r',(xs.map f++more)[i]? = some r→(xs.map g)[i]? = some r'→jq r r':=fun i r r' h1 h2=>by
  have hi:i<xs.length:=by simpa using (I0.1 h2).1
  rw [List.getElem?_append_left (by simpa using hi)] at h1
  rw [List.getElem?_map,Je hi] at h1 h2
  cases h1;cases h2
  exact h _ (List.getElem_mem hi)
 exact .an z _ _ _ (by simp) (by simp) (fun i r r' h1 h2=>(key i r r' h1 h2).1) (fun i j r r' c c' h1 h2 h3 h4=>(key i r r' h1 h2).2 j c c' h3 h4)
theorem gb.le {cs ds:List AV} {xs:Array Value} (h:jq cs ds) (k:gb D nu o w cs xs):gb D nu o w ds xs:=⟨by rw [←h.1];exact k.len,fun i d x hd hx=>by
 have hi:i<cs.length:=by have:=(I0.1 hd).1;have:=h.1;omega
 exact (k.bA i cs[i] x (Je hi) hx).le (h.2 i _ d (Je hi) hd)⟩
theorem ai.le {f:FuncId} {args args':List AV} {r:AV} (h:ai P f args r) (hw:bB 0 args'=true) (hl:jq args' args):ai P f args' r:=h.args hw (fun _ _ _ _ k=>k.le hl)
end
theorem uj (x:Ex):jq (cd x) (bL x):=by
 induction x using Ex.ind with
 | h k s l ih=>
  rw [eC,aY]
  exact .cons (.refl _) (.cons (.refl _) (.cons (.rows ih) .nil))
theorem tF (i:Nat):jq (dc i) (bL (.mk ((8000024+i:Nat):Int) ⟨#[]⟩ [])):=by
 rw [aY]
 exact .cons (.refl _) (.cons (.refl _) (.cons (.nil 3) .nil))
theorem ue (p:cQ):jq (b9 p) (bo p):= .cons (.refl _) (.cons (.refl _) (.cons (.refl _) (.cons (.refl _) (.cons (.refl _) (.cons (.refl _) (.cons (.refl _) (.cons (.rows (fun x _=>uj x)) .nil)))))))
theorem jX (q:dF):jq (fK q) (bI q):= .cons (.rows (fun p _=>ue p)) (.cons (.rows (fun p _=> .refl _)) (.cons (.rows (fun p _=> .refl _)) (.cons (.refl _) (.cons (.refl _) .nil))))
theorem lN (n:Nat) (q:dF):bB n (fK q)=true:=by simp only [fK,bB,AV.wf,cD,lD,de,dP,kj,j9,j1,Kh,Km]
theorem ig {α:Type} (f:α→Bool) (l:List α) (i:Nat) (h:i<l.length):(l.take (i+1)).all f=((l.take i).all f&&f l[i]):=by
 rw [List.take_succ_eq_append_getElem h,List.all_append];simp
theorem vH {α:Type} {f:α→Bool} {l:List α} {i:Nat} (h:i<l.length) (hf:f l[i]=false):l.all f=false:=by
 rw [←Bool.not_eq_true,List.all_eq_true]
 intro hh
 rw [hh _ (List.getElem_mem h)] at hf;cases hf
set_option maxRecDepth 100000 in
set_option maxHeartbeats 4000000 in
theorem gW (o:cg) (h:o.ok):ai Tryz.prog 21 [.agg (aN o)] (.v (.bool (aP o))):=by
 obtain ⟨kd,nm,ky,vk,vn,vt⟩:=o
 obtain ⟨o1,o2,o3⟩:=h
 simp only [jx,iI.ok] at o1 o2 o3
 have F1:=gK nm (by omega)
 have F2:=gK ky (by omega)
 have R:=yv ⟨vk,vn,vt⟩ (by simp only;omega)
 simp only [Ce] at R
 simp only [aN]
 (refine ai.enter Tryz.func21 rfl (by kernel_rfl) (by kernel_rfl) rfl (by first|rfl|(simp only [go_sem,Km,Kh,Kj])) (by first|rfl|(simp only [go_sem,Km,Kh,Kj])) ?_;simp only [Tryz.ntmps21,Tryz.results21,List.length_cons,List.length_nil,Nat.reduceAdd,Nat.reduceSub,List.replicate_succ,List.replicate_zero,List.cons_append,List.nil_append])
 repeat' (first|(with_reducible first|refine ah.up ?_|refine fun (K:AK) hK=> ?_|(refine hK _ ?_;clear hK K))|simp only [go_sem,Go.undef,fu]|clear hK K|(with_reducible refine aj.one (by assumption) ?_)|(with_reducible refine aw.one (by assumption) ?_)|(refine aO.part (fun hb=> ?_) (fun hb=> ?_)<;>simp only [hb,go_sem,Go.undef,fu])|(refine aO.part (fun hb=> ?_) (fun hb=> ?_))|(with_reducible refine bH.mk ?_ ?_))
 all_goals simp_all [aP,iI.none,Bool.and_assoc]
set_option maxRecDepth 100000 in
set_option maxHeartbeats 4000000 in
theorem tv (p:cQ) (h:p.ok) (h1:(ak p.expr).length≤1000000) (hz: ∀z,z∈ak p.expr→z.kids.length≤1000000∧z.label.size≤1000000000000000) :
  ai Tryz.prog 47 [.agg (bo p)] (.v (.bool (aR p))):=by
 obtain ⟨fr,to,pa,lb,nm,x⟩:=p
 obtain ⟨o1,o2,o3,o4,o5⟩:=h
 simp only [jx] at o1 o2 o3 o4
 simp only at h1 hz
 have F1:=gK fr (by omega)
 have F2:=gK to (by omega)
 have F3:=gK lb (by omega)
 have F4:=gK nm (by omega)
 have R:=zi x h1 hz
 have S:=uw x (.mk 0 ⟨#[]⟩ []) (hz x (by obtain ⟨k,s,l⟩:=x;rw [ak];exact List.mem_cons_self)).1 (fun z hz'=>(hz z hz').1)
 have S:=S.le (args':=[.agg (bL x), .agg [.v (.int .i64 0), .v (.string ⟨#[]⟩), .v (.slice none 0 0)]]) (by simp only [bB,AV.wf,jH,Km]) (.cons (.refl _) (.cons (jq.agg (by rw [aY];exact .cons (.refl _) (.cons (.refl _) (.cons (.nil 3) .nil)))) .nil))
 simp only [aY] at R S
 simp only [bo]
 (refine ai.enter Tryz.func47 rfl (by kernel_rfl) (by kernel_rfl) rfl (by first|rfl|(simp only [go_sem,Km,Kh,Kj])) (by first|rfl|(simp only [go_sem,Km,Kh,Kj])) ?_;simp only [Tryz.ntmps47,Tryz.results47,List.length_cons,List.length_nil,Nat.reduceAdd,Nat.reduceSub,List.replicate_succ,List.replicate_zero,List.cons_append,List.nil_append])
 repeat' (first|(with_reducible first|refine ah.up ?_|refine fun (K:AK) hK=> ?_|(refine hK _ ?_;clear hK K))|simp only [go_sem,Go.undef,fu]|clear hK K|(with_reducible refine aj.one (by assumption) ?_)|(with_reducible refine aw.one (by assumption) ?_)|(refine aO.part (fun hb=> ?_) (fun hb=> ?_)<;>simp only [hb,go_sem,Go.undef,fu])|(refine aO.part (fun hb=> ?_) (fun hb=> ?_))|(with_reducible refine bH.mk ?_ ?_))
 all_goals simp_all [aR,Bool.and_assoc]
end Go.Proofs.YtldnlbcibmmbbaaGreat
