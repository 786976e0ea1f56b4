/- What is told of the blocks in which a value's lists lie: none of A, and all of the types that are wanted. -/
import Derived.Test.YtldnlbcibmmbbaaGreatWOvr
import Derived.Test.YtldnlbcibmmbbaaGreatWFrz2
import Derived.Test.YtldnlbcibmmbbaaGreatWRef11
set_option linter.unusedSimpArgs false
set_option linter.unusedVariables false
open Array renaming getElem?_eq_getElem → Jd, getD_eq_getD_getElem? → JM
open List renaming getElem?_eq_getElem → Je
namespace Go.Proofs.YtldnlbcibmmbbaaGreat
open Go.RowKit
def nr (A:Nat→Prop):(Nat→Prop)→World→Value→Prop:=fun S _ _=> ∀b,A b→S b
def E7 (A:Nat→Prop):(Nat→Prop)→World→Value→Prop:=fun S w x=>(∀b,S b→ ¬A b)∧TE S w x
def FW (A:Nat→Prop):(Nat→Prop)→World→Value→Prop:=fun S w x=>(∀b,S b→ ¬A b)∧TP S w x
def Fq (A:Nat→Prop) (T:TypeId) (z:Nat):(Nat→Prop)→World→Value→Prop:=fun S w x=>(∀b,S b→ ¬A b)∧TL S w T z (fun _ _=>True) x
section
variable {D:Nat→Prop} {nu:Nat→Nat→Value} {o:List (Option ab)} {w:World} {A:Nat→Prop}
theorem RA.Ia {a:AV} {x:Value} (h:RA D nu o w (.aV (nr A) a) x): ∀b,A b→Fz D nu o w b:=by
 cases h with
 | aV _ _ _ S h0 h1 hc h2 h3=>exact fun b hb=>h1 b (h2 w (fun _ _=>rfl) b hb)
theorem RA.ev {a:AV} {x:Value} (hA: ∀b,A b→Fz D nu o w b) (hc: ∀b,A b→ ∃C T k,w.heap[b]? = some (.cells C T k)) (h0:x.oneCell'=true) (h:RA D nu o w a x):RA D nu o w (.aV (nr A) a) x:=
 .aV _ a x A h0 hA hc (fun _ _ b hb=>hb) h
theorem sa (h:RO D nu o w) {id:Nat} {ob:ab} (ho:o[id]? = some (some ob)) (hv:ob.eu=true) :
  (ob.rows=[]∧nu id ob.rows.length = .slice none 0 0)∨ ∃b cap C,nu id ob.rows.length = .slice (some ⟨b,0,none⟩) ob.rows.length cap∧w.heap[b]? = some (.cells C ob.T (0,0))∧C.size=cap * ob.z∧ob.rows.length≤cap∧cap≤maxLen∧owned nu o b∧D b∧b<w.heap.size ∧
   ∀(i j:Nat) row c,ob.rows[i]? = some row→row[j]? = some c→ ∃x,C[i * ob.z+j]? = some x∧RA D nu o w c x∧x.oneCell'=true:=by
 rcases h.obj id ob ho with ⟨e1,e2,e3⟩|⟨g,cur,hb⟩|⟨g,es,cl,hmp⟩
 ·exact .inl ⟨e2,by rw [e2];exact e3⟩
 ·obtain ⟨cap,q1,q2,q3,q4⟩:=hb.vec hv
  refine .inr ⟨g,cap,cur,q1,hb.b7,q4,q2,q3,⟨id,ob,ho,hb.bq⟩,hb.ke,(Array.getElem?_eq_some_iff.1 hb.b7).1,fun i j row c k1 k2=> ?_⟩
  have:=hb.lC k1 (List.getElem?_eq_some_iff.1 k2).1
  exact ⟨_,Jd this,hb.cell i j row c _ k1 k2 (Jd this),hb.one i j row c _ k1 k2 (Jd this)⟩
 ·rw [hmp.eu] at hv;cases hv
theorem xR (h:RO D nu o w) {id:Nat} {ob:ab} (ho:o[id]? = some (some ob)) (hv:ob.eu=true) (hw:ct 0 ob.rows=true):RA D nu [] w (.an ob.z ob.rows ob.rows.length) (nu id ob.rows.length):=by
 have hra:RA D nu o w (.vec id ob.rows.length) (nu id ob.rows.length):=by
  rcases sa h ho hv with ⟨e1,e2⟩|⟨b,cap,C,e2,_⟩
  all_goals exact .vec _ _ ⟨_,ho,fun x hx=>by cases hx;simp [ab.hl,hv]⟩ (by rw [e2];rfl)
 exact (iH h 1).1 (.vec id ob.rows.length) _ (ob.eu=true∧ob.rows.length=ob.rows.length∧ct 0 ob.rows=true) _ (by simp only [iL,ho]) ⟨hv,rfl,hw⟩ hra
theorem ya (h:RO D nu o w) {id:Nat} {ob:ab} (ho:o[id]? = some (some ob)) (hv:ob.eu=true) (hw:ct 0 ob.rows=true) (hev: ∀b,A b→Fz D nu o w b) {p:(Nat→Prop)→World→Value→Prop}
  (q:(Nat→Prop)→World→Value→Prop) (col:Nat)
  (hq: ∀(i:Nat) row,ob.rows[i]? = some row→ ∃a,row[col]? = some (.aV (fun S w x=>(∀b,S b→ ¬A b)∧q S w x) a))
  (hkeep: ∀(S S':Nat→Prop) (w':World) x,q S w x→(∀b,S b→S' b)→(∀b,S b→w'.heap[b]? = w.heap[b]?)→q S' w' x)
  (hnil: ∀S w',(∀b,S b→ ¬A b)→p S w' (.slice none 0 0))
  (hmk: ∀(S:Nat→Prop) (w':World) b cap C,(∀b,S b→ ¬A b)→S b→w'.heap[b]? = some (.cells C ob.T (0,0))→C.size=cap * ob.z→ob.rows.length≤cap→cap≤maxLen →
   (∀(i:Nat),i<ob.rows.length→(∃x,C[i * ob.z+col]? = some x∧q S w' x))→(∀(i j:Nat) row c,ob.rows[i]? = some row→row[j]? = some c→ ∃x,C[i * ob.z+j]? = some x∧x.oneCell'=true)→p S w' (.slice (some ⟨b,0,none⟩) ob.rows.length cap)) :
  RA D nu [] w (.aV p (.an ob.z ob.rows ob.rows.length)) (nu id ob.rows.length):=by
 have hs:=xR h ho hv hw
 rcases sa h ho hv with ⟨e1,e2⟩|⟨b,cap,C,e2,hb,hC,hle,hcm,hown,hD,hlt,hcell⟩
 ·rw [e2] at hs ⊢
  exact .aV _ _ _ (fun _=>False) rfl (fun _ h=>h.elim) (fun _ h=>h.elim) (fun w' _=>hnil _ w' (fun _ h=>h.elim)) hs
 ·rw [e2] at hs ⊢
  have hS: ∀i,i<ob.rows.length→ ∃(S:Nat→Prop) (x:Value),C[i * ob.z+col]? = some x∧(∀b,S b→Fz D nu o w b)∧(∀b,S b→ ∃C T k,w.heap[b]? = some (.cells C T k))∧(∀b,S b→ ¬A b)∧q S w x:=fun i hi=>by
   obtain ⟨a,ha⟩:=hq i _ (Je hi)
   obtain ⟨x,k1,k2,k3⟩:=hcell i col _ _ (Je hi) ha
   cases k2 with
   | aV _ _ _ S h0 h1 hc h2 h3=>exact ⟨S,x,k1,h1,hc,(h2 w (fun _ _=>rfl)).1,(h2 w (fun _ _=>rfl)).2⟩
  let U:Nat→Prop:=fun k=>k=b∨ ∃(i:Nat) (S:Nat→Prop) (x:Value),i<ob.rows.length∧C[i * ob.z+col]? = some x∧(∀b,S b→Fz D nu o w b)∧(∀b,S b→ ∃C T k,w.heap[b]? = some (.cells C T k))∧(∀b,S b→ ¬A b)∧q S w x∧S k
  have hUA: ∀k,U k→ ¬A k:=fun k hk hA=>by
   rcases hk with rfl|⟨i,S,x,_,_,_,_,h5,_,h7⟩
   ·exact (hev k hA).2.1 hown
   ·exact h5 k h7 hA
  refine .aV _ _ _ U rfl (fun k hk=> ?_) (fun k hk=> ?_) (fun w' hw'=> ?_) hs
  ·rcases hk with rfl|⟨i,S,x,_,_,h3,_,_,_,h7⟩
   ·exact ⟨hlt,bf _ _,hD⟩
   ·exact ⟨(h3 k h7).1,bf _ _,(h3 k h7).2.2⟩
  ·rcases hk with rfl|⟨i,S,x,_,_,_,h4,_,_,h7⟩
   ·exact ⟨_,_,_,hb⟩
   ·exact h4 k h7
  ·refine hmk U w' b cap C hUA (.inl rfl) ((hw' b (.inl rfl)).trans hb) hC hle hcm (fun i hi=> ?_) (fun i j row c k1 k2=> ?_)
   ·obtain ⟨S,x,h2,h3,h4,h5,h6⟩:=hS i hi
    exact ⟨x,h2,hkeep S U w' x h6 (fun k hk=> .inr ⟨i,S,x,hi,h2,h3,h4,h5,h6,hk⟩) (fun k hk=>hw' k (.inr ⟨i,S,x,hi,h2,h3,h4,h5,h6,hk⟩))⟩
   ·obtain ⟨x,e1,_,e3⟩:=hcell i j row c k1 k2
    exact ⟨x,e1,e3⟩
theorem tj (h:RO D nu o w) {id:Nat} {ob:ab} (ho:o[id]? = some (some ob)) (hv:ob.eu=true) (hw:ct 0 ob.rows=true) (hev: ∀b,A b→Fz D nu o w b) (hn:ob.rows.length≤1000000):RA D nu [] w (.aV (Fq A ob.T ob.z) (.an ob.z ob.rows ob.rows.length)) (nu id ob.rows.length):=by
 have hs:=xR h ho hv hw
 rcases sa h ho hv with ⟨e1,e2⟩|⟨b,cap,C,e2,hb,hC,hle,hcm,hown,hD,hlt,hcell⟩
 ·rw [e2] at hs ⊢
  exact .aV _ _ _ (fun _=>False) rfl (fun _ h=>h.elim) (fun _ h=>h.elim) (fun w' _=>⟨fun _ h=>h.elim, .nil⟩) hs
 ·rw [e2] at hs ⊢
  refine .aV _ _ _ (fun k=>k=b) rfl (fun k hk=> ?_) (fun k hk=> ?_) (fun w' hw'=> ?_) hs
  ·subst hk;exact ⟨hlt,bf _ _,hD⟩
  ·subst hk;exact ⟨_,_,_,hb⟩
  ·exact ⟨fun k hk hA=>by subst hk;exact (hev k hA).2.1 hown, .mk b _ cap C rfl ((hw' b rfl).trans hb) hC hle hcm hn trivial⟩
end
/-! ### expressions whose labels tell that A is frozen; the same with their lists' blocks -/
mutual
def fh (A:Nat→Prop):Ex→List AV
 | .mk k s l=>[.v (.int .i64 k), .aV (nr A) (.v (.string s)), .an 3 (ye A l) l.length]
def ye (A:Nat→Prop):List Ex→List (List AV)
 | []=>[]
 | x :: xs=>fh A x :: ye A xs
end
theorem oA (A:Nat→Prop): ∀l:List Ex,ye A l=l.map (fh A)
 | []=>rfl
 | x :: xs=>by rw [ye,oA A xs,List.map_cons]
theorem lR (A:Nat→Prop) (x:Ex):fh A x=[.v (.int .i64 x.kind), .aV (nr A) (.v (.string x.label)), .an 3 (x.kids.map (fh A)) x.kids.length]:=by
 obtain ⟨k,s,l⟩:=x;rw [fh,oA];rfl
mutual
def dZ (A:Nat→Prop):Ex→List AV
 | .mk k s l=>[.v (.int .i64 k), .aV (nr A) (.v (.string s)), .aV (E7 A) (.an 3 (xM A l) l.length)]
def xM (A:Nat→Prop):List Ex→List (List AV)
 | []=>[]
 | x :: xs=>dZ A x :: xM A xs
end
theorem nY (A:Nat→Prop): ∀l:List Ex,xM A l=l.map (dZ A)
 | []=>rfl
 | x :: xs=>by rw [xM,nY A xs,List.map_cons]
theorem gU (A:Nat→Prop) (x:Ex):dZ A x=[.v (.int .i64 x.kind), .aV (nr A) (.v (.string x.label)), .aV (E7 A) (.an 3 (x.kids.map (dZ A)) x.kids.length)]:=by
 obtain ⟨k,s,l⟩:=x;rw [dZ,nY];rfl
theorem pC (A:Nat→Prop) (n:Nat) (x:Ex):bB n (fh A x)=true:=by
 induction x using Ex.ind with
 | h k s l ih=>
  rw [fh,oA]
  simp only [bB,AV.wf,Bool.and_true,Bool.true_and]
  exact mH (fun r hr=>by obtain ⟨x,hx,rfl⟩:=List.mem_map.1 hr;exact ih x hx)
theorem jd (A:Nat→Prop) (n:Nat) (l:List Ex):ct n (l.map (fh A))=true:=cV _ (pC A n) l
theorem lr (A:Nat→Prop) (n:Nat) (x:Ex):bB n (dZ A x)=true:=by
 induction x using Ex.ind with
 | h k s l ih=>
  rw [dZ,nY]
  simp only [bB,AV.wf,Bool.and_true,Bool.true_and]
  exact mH (fun r hr=>by obtain ⟨x,hx,rfl⟩:=List.mem_map.1 hr;exact ih x hx)
theorem iN (A:Nat→Prop) (n:Nat) (l:List Ex):ct n (l.map (dZ A))=true:=cV _ (lr A n) l
attribute [go_sem] pC jd lr iN
theorem B2 (A:Nat→Prop) (x:Ex):jq (dZ A x) (bL x):=by
 induction x using Ex.ind with
 | h k s l ih=>
  rw [gU,aY]
  have:=Le.rows (z:=3) (f:=dZ A) (g:=bL) (xs:=l) (more:=[]) ih
  rw [List.append_nil] at this
  exact .cons (.refl _) (.cons (.aV _ _ _ (.refl _)) (.cons (.aV _ _ _ this) .nil))
section
variable {o:List (Option ab)} {A:Nat→Prop}
theorem Ee (l:List Ex) (hl:l.length≤1000000) {D:Nat→Prop} {nu:Nat→Nat→Value} {w:World} (h:RO D nu o w) (hev: ∀b,A b→Fz D nu o w b) {id:Nat} (ho:o[id]? = some (some ⟨43,3,true,l.map (dZ A)⟩)) :
  RA D nu [] w (.aV (E7 A) (.an 3 (l.map (dZ A)) l.length)) (nu id l.length):=by
 have hlen:(l.map (dZ A)).length=l.length:=List.length_map _
 have:=ya (p:=E7 A) h ho rfl (iN A 0 l) hev (fun S w x=>TE S w x) 2 (fun i row hi=> ?_) (fun S S' w' x h1 h2 h3=>h1.keep h2 h3) (fun S w' hS=>⟨hS, .nil⟩) (fun S w' b cap C h1 h2 h3 h4 h5 h6 h7 h8=> ?_)
 ·simp only [hlen] at this;exact this
 ·rw [List.getElem?_map] at hi
  obtain ⟨y,hy,rfl⟩:=Option.map_eq_some_iff.1 hi
  rw [gU];exact ⟨_,rfl⟩
 ·simp only [hlen] at h5 h7 h8 ⊢
  have hc: ∀i,i<l.length→ ∃a b x,C[i * 3]? = some a∧C[i * 3+1]? = some b∧C[i * 3+2]? = some x∧a.oneCell'=true∧b.oneCell'=true∧TE S w' x:=fun i hi=>by
   have hr:(l.map (dZ A))[i]? = some (dZ A l[i]):=by simp [hi]
   rw [gU] at hr
   obtain ⟨a,a1,a2⟩:=h8 i 0 _ _ hr rfl
   obtain ⟨b,b1,b2⟩:=h8 i 1 _ _ hr rfl
   obtain ⟨x,x1,x2⟩:=h7 i hi
   exact ⟨a,b,x,a1,b1,x1,a2,b2,x2⟩
  refine ⟨h1, .mk b _ cap C (fun i=>C.getD (i * 3+2) Go.undef) h2 h3 h4 h5 h6 hl (fun i hi=> ?_) (fun i hi=> ?_) (fun i hi=> ?_)⟩
  all_goals obtain ⟨a,b',x,e1,e2,e3,e4,e5,e6⟩:=hc i hi
  ·exact ⟨a,b',e1,e2,e4,e5⟩
  ·rw [e3];simp [JM,e3]
  ·simp only [JM,e3,Option.getD_some];exact e6
theorem va (k:Int) (s:ByteArray) (l:List Ex) (hl:l.length≤1000000) {id:Nat} (ho:o[id]? = some (some ⟨43,3,true,l.map (dZ A)⟩)) :
  b8 o (.agg [.v (.int .i64 k), .aV (nr A) (.v (.string s)), .vec id l.length]) (.agg (dZ A (.mk k s l))):=fun D nu w x hro hra=>by
 rw [gU]
 cases hra with
 | agg _ xs h1 h2 h3=>
  obtain ⟨xs⟩:=xs
  match xs,h1 with
  | [x0,x1,x2],_=>
   have r0:=h2 0 _ x0 rfl rfl
   have r1:=h2 1 _ x1 rfl rfl
   have r2:=h2 2 _ x2 rfl rfl
   have e2:x2=nu id l.length:=by cases r2 with|vec=>rfl
   have hev:=r1.Ia
   have f1:RA D nu [] w (.aV (nr A) (.v (.string s))) x1:=by
    cases r1 with
    | aV _ _ _ S q0 q1 qc q2 q3=>exact .aV _ _ _ S q0 (fun b hb=>⟨(q1 b hb).1,bf _ _,(q1 b hb).2.2⟩) qc q2 (by rw [q3.bj];exact .v _)
   refine .agg _ _ rfl (fun i c y q1 q2=> ?_) h3
   match i with
   | 0=>cases q1;cases q2;rw [r0.bj];exact .v _
   | 1=>cases q1;cases q2;exact f1
   | 2=>cases q1;cases q2;rw [e2];exact Ee l hl hro hev ho
   | i+3=>cases q1
theorem uo (k:Int) (s:ByteArray) :
  b8 o (.agg [.v (.int .i64 k), .aV (nr A) (.v (.string s)), .full (.an 3 [] 0)]) (.agg (dZ A (.mk k s []))):=fun D nu w x hro hra=>by
 rw [gU]
 cases hra with
 | agg _ xs h1 h2 h3=>
  obtain ⟨xs⟩:=xs
  match xs,h1 with
  | [x0,x1,x2],_=>
   have r0:=h2 0 _ x0 rfl rfl
   have r1:=h2 1 _ x1 rfl rfl
   have r2:=h2 2 _ x2 rfl rfl
   have e2:x2 = .slice none 0 0∨ ∃a,x2 = .slice (some a) 0 0:=by
    cases r2 with
    | full _ _ q1 q2=>
     obtain ⟨ad,n,rfl⟩:=q1
     cases q2 with
     | aL=>exact .inl rfl
     | aW=>exact .inr ⟨_,rfl⟩
     | an=>exact .inr ⟨_,rfl⟩
   have f1:RA D nu [] w (.aV (nr A) (.v (.string s))) x1:=by
    cases r1 with
    | aV _ _ _ S q0 q1 qc q2 q3=>exact .aV _ _ _ S q0 (fun b hb=>⟨(q1 b hb).1,bf _ _,(q1 b hb).2.2⟩) qc q2 (by rw [q3.bj];exact .v _)
   refine .agg _ _ rfl (fun i c y q1 q2=> ?_) h3
   match i with
   | 0=>cases q1;cases q2;rw [r0.bj];exact .v _
   | 1=>cases q1;cases q2;exact f1
   | 2=>
    cases q1;cases q2
    rcases e2 with rfl|⟨a,rfl⟩
    ·exact .aV _ _ _ (fun _=>False) rfl (fun _ h=>h.elim) (fun _ h=>h.elim) (fun w' _=>⟨fun _ h=>h.elim, .nil⟩) (.aL 3)
    ·exact .aV _ _ _ (fun _=>False) rfl (fun _ h=>h.elim) (fun _ h=>h.elim) (fun w' _=>⟨fun _ h=>h.elim, .Bu a⟩) (.aW 3 a)
   | i+3=>cases q1
end
end Go.Proofs.YtldnlbcibmmbbaaGreat
