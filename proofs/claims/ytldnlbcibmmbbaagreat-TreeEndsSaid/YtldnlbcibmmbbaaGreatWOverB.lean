/- What survives when a call writes over lists that are none of A. -/
import Derived.Test.YtldnlbcibmmbbaaGreatWOverA
import Derived.Test.YtldnlbcibmmbbaaGreatWRenV
import Derived.Test.YtldnlbcibmmbbaaGreatWOvr3
set_option linter.unusedSimpArgs false
set_option linter.unusedVariables false
open Array renaming getElem?_eq_some_iff → IY
open Bool renaming and_eq_true → JL
open List renaming getElem?_of_mem → Jn, getElem?_eq_getElem → Je, getElem?_eq_some_iff → I0, eq_nil_of_length_eq_zero → JB
open Option.some renaming inj → JX
namespace Go.Proofs.YtldnlbcibmmbbaaGreat
open Go.RowKit
def pK (A:Nat→Prop) (a:AV):(Nat→Prop)→World→Value→Prop:=fun S w x=>(∀b,S b→A b)∧RA S (fun _ _=>Go.undef) [] w a x
mutual
def AV.cE:AV→Bool
 | .undef=>true
 | .v _=>true
 | .agg cs=>dE cs
 | .dN cs=>dE cs
 | .an z rows _=>decide (0<z)&&gI rows
 | .full a=>a.cE
 | _=>false
def dE:List AV→Bool
 | []=>true
 | a :: l=>a.cE&&dE l
def gI:List (List AV)→Bool
 | []=>true
 | r :: l=>dE r&&gI l
end
theorem jl: ∀ {l:List AV},dE l=true→ ∀ {i:Nat} {c:AV},l[i]? = some c→c.cE=true
 | [],_,i,c,h=>by simp at h
 | a :: l,h,0,c,hi=>by simp only [dE,JL] at h;simp at hi;subst hi;exact h.1
 | a :: l,h,i+1,c,hi=>by simp only [dE,JL] at h;exact jl h.2 (by simpa using hi)
theorem jk: ∀ {l:List (List AV)},gI l=true→ ∀ {i:Nat} {r:List AV},l[i]? = some r→dE r=true
 | [],_,i,c,h=>by simp at h
 | a :: l,h,0,c,hi=>by simp only [gI,JL] at h;simp at hi;subst hi;exact h.1
 | a :: l,h,i+1,c,hi=>by simp only [gI,JL] at h;exact jk h.2 (by simpa using hi)
theorem iv: ∀ {l:List (List AV)},(∀r∈l,dE r=true)→gI l=true
 | [],_=>rfl
 | a :: l,h=>by simp only [gI,JL];exact ⟨h a (by simp),iv (fun r hr=>h r (by simp [hr]))⟩
theorem cI {α:Type} (f:α→List AV) (h: ∀x,dE (f x)=true) (l:List α):gI (l.map f)=true:=iv (fun r hr=>by
 obtain ⟨x,_,rfl⟩:=List.mem_map.1 hr;exact h x)
theorem fp {a b:List (List AV)} (h:gI a=true) (k:gI b=true):gI (a++b)=true:=iv (fun r hr=>by
 rcases List.mem_append.1 hr with hr|hr
 ·obtain ⟨i,hi⟩:=Jn hr;exact jk h hi
 ·obtain ⟨i,hi⟩:=Jn hr;exact jk k hi)
section
variable {D:Nat→Prop} {nu:Nat→Nat→Value} {o o':List (Option ab)} {w w':World} {A S:Nat→Prop}
theorem RA.cE {a:AV} {x:Value} (hr:RA D nu o w a x) (hA: ∀b,Fz D nu o w b→(∃C T k,w.heap[b]? = some (.cells C T k))→A b) (h:a.cE=true):RA A (fun _ _=>Go.undef) [] w a x:=by
 induction hr with
 | undef x=>exact .undef x
 | v x=>exact .v x
 | agg cs xs h1 _ h3 ih=>exact .agg cs xs h1 (fun i c x q1 q2=>ih i c x q1 q2 (jl h q1)) h3
 | dN cs xs h1 _ ih=>exact .dN cs xs h1 (fun i c x q1 q2=>ih i c x q1 q2 (jl h q1))
 | aL z=>exact .aL z
 | aW z a=>exact .aW z a
 | an z rows len b off cap f h1 h2 h3 h4 h5 h6 _ h8 ih=>
  simp only [AV.cE,JL,decide_eq_true_eq] at h
  refine .an z rows len b off cap f h1 h2 h3 (fun hne=> ?_) h5 h6 (fun i j row c q1 q2=>ih i j row c q1 q2 (jl (jk h.2 q1) q2)) h8
  have hf:=h4 hne
  refine ⟨hf.1,bf _ _,hA b hf ?_⟩
  obtain ⟨row,l,rfl⟩:=List.exists_cons_of_ne_nil hne
  have hl:=h5 0 row rfl
  have hc:=h6 0 0 row row[0] rfl (Je (by omega))
  unfold World.cell? at hc
  split at hc
  ·exact ⟨_,_,_, ‹_›⟩
  ·cases hc
 | full a x h1 _ ih=>exact .full a x h1 (ih h)
 | _=>simp [AV.cE] at h
inductive vP (A:Nat→Prop):AV→AV→Prop
 | refl (a:AV):vP A a a
 | ev (x:Value):x.oneCell'=true→vP A (.v x) (.aV (nr A) (.v x))
 | agg (cs ds:List AV):cs.length=ds.length→(∀(i:Nat) c d,cs[i]? = some c→ds[i]? = some d→vP A c d)→vP A (.agg cs) (.agg ds)
 | an (z:Nat) (rows rows':List (List AV)) (len:Nat):len≤rows'.length→rows'.length≤rows.length→(∀(i:Nat) r r',rows[i]? = some r→rows'[i]? = some r'→r.length=r'.length) →
   (∀(i j:Nat) r r' c c',rows[i]? = some r→rows'[i]? = some r'→r[j]? = some c→r'[j]? = some c'→vP A c c')→vP A (.an z rows len) (.an z rows' len)
theorem RA.IH {a b:AV} (h:vP A a b) (hA: ∀b,A b→Fz D nu o w b∧ ∃C T k,w.heap[b]? = some (.cells C T k)): ∀ {x:Value},RA D nu o w a x→RA D nu o w b x:=by
 induction h with
 | refl a=>exact fun h=>h
 | ev x h1=>intro y h;rw [h.bj];exact .ev (fun b hb=>(hA b hb).1) (fun b hb=>(hA b hb).2) h1 (.v x)
 | agg cs ds hl _ ih=>
  intro x h
  cases h with
  | agg _ xs h1 h2 h3=>
   refine .agg ds xs (by omega) (fun i d y hd hy=> ?_) h3
   have hi:i<cs.length:=by have:=(I0.1 hd).1;omega
   exact ih i cs[i] d (Je hi) hd (h2 i _ y (Je hi) hy)
 | an z rows rows' len h1 h2 h3 _ ih=>
  intro x h
  have up: ∀(i:Nat) r',rows'[i]? = some r'→ ∃r,rows[i]? = some r:=fun i r' hr=>⟨_,Je (by have:=(I0.1 hr).1;omega)⟩
  have upj: ∀(i j:Nat) r' c',rows'[i]? = some r'→r'[j]? = some c'→ ∃r c,rows[i]? = some r∧r[j]? = some c:=fun i j r' c' hr hc=>by
   obtain ⟨r,hr'⟩:=up i r' hr
   exact ⟨r,_,hr',Je (by have:=h3 i r r' hr' hr;have:=(I0.1 hc).1;omega)⟩
  cases h with
  | aL=>
   have:rows'=[]:=JB (by simpa using h2)
   subst this;exact .aL z
  | aW _ a=>
   have:rows'=[]:=JB (by simpa using h2)
   subst this;exact .aW z a
  | an _ _ _ b off cap f k1 k2 k3 k4 k5 k6 k7 k8=>
   refine .an z rows' len b off cap f h1 (by omega) k3 (fun hne=>k4 (fun e=>hne (by subst e;exact JB (by simpa using h2)))) (fun i r' hr=> ?_) (fun i j r' c' hr hc=> ?_) (fun i j r' c' hr hc=> ?_) (fun i j r' c' hr hc=> ?_)
   ·obtain ⟨r,hr'⟩:=up i r' hr
    rw [←h3 i r r' hr' hr];exact k5 i r hr'
   ·obtain ⟨r,c,q1,q2⟩:=upj i j r' c' hr hc
    exact k6 i j r c q1 q2
   ·obtain ⟨r,c,q1,q2⟩:=upj i j r' c' hr hc
    exact ih i j r r' c c' q1 hr q2 hc (k7 i j r c q1 q2)
   ·obtain ⟨r,c,q1,q2⟩:=upj i j r' c' hr hc
    exact k8 i j r c q1 q2
inductive Wp (A:Nat→Prop):AV→AV→Prop
 | same (a:AV):Wp A a a
 | undef (a:AV):Wp A a .undef
 | aV (z:Nat) (rows:List (List AV)) (len:Nat) (b:AV):(AV.an z rows len).cE=true→vP A (.an z rows len) b→Wp A (.an z rows len) (.aV (pK A (.an z rows len)) b)
 | ev (x:Value):x.oneCell'=true→Wp A (.v x) (.aV (nr A) (.v x))
inductive Sv (A:Nat→Prop):AV→AV→Prop
 | undef (a:AV):Sv A a .undef
 | v (x:Value):Sv A (.v x) (.v x)
 | ptr (id len z row off:Nat):Sv A (.ptr id len z row off) (.ptr id len z row off)
 | vec (id len:Nat):Sv A (.vec id len) (.vec id len)
 | ev (x:Value):Sv A (.aV (nr A) (.v x)) (.v x)
 | aV (a b:AV):a.wf 0=true→Sv A (.aV (pK A a) b) a
theorem Wp.ra {a b:AV} {x:Value} (h:Wp A a b) (hA: ∀b,A b→Fz D nu o w b∧ ∃C T k,w.heap[b]? = some (.cells C T k)) (hB: ∀b,Fz D nu o w b→(∃C T k,w.heap[b]? = some (.cells C T k))→A b) (hr:RA D nu o w a x):RA D nu o w b x:=by
 cases h with
 | same=>exact hr
 | undef=>exact .undef x
 | ev y h1=>rw [hr.bj];exact .ev (fun b hb=>(hA b hb).1) (fun b hb=>(hA b hb).2) h1 (.v y)
 | aV z rows len b hs hl=>
  refine .aV _ _ _ A (by cases hr<;>rfl) (fun b hb=>(hA b hb).1) (fun b hb=>(hA b hb).2) (fun w' hw=>⟨fun _ hb=>hb, ?_⟩) (hr.IH hl hA)
  refine (hr.cE hB hs).keep (fun b hf=> ?_)
  have e:=hw b hf.2.2
  refine ⟨e, ?_,bf _ _,hf.2.2⟩
  have:=Array.getElem?_eq_getElem hf.1
  rw [this] at e
  exact (IY.1 e).1
theorem Sv.ra {a b:AV} {x:Value} (h:Sv A a b) (hS: ∀b,S b→ ¬A b) (hk: ∀b,b<w.heap.size→ ¬S b→w'.heap[b]? = w.heap[b]?) (hz:w.heap.size≤w'.heap.size) (hown: ∀b,owned nu o' b→owned nu o b) (hh: ∀id len,bG o id len→bG o' id len) (hr:RA D nu o w a x):RA D nu o' w' b x:=by
 cases h with
 | undef=>exact .undef x
 | v y=>rw [hr.bj];exact .v y
 | ptr id len z row off=>cases hr with|ptr _ _ _ _ _ b h1 h2=>exact .ptr _ _ _ _ _ b (hh _ _ h1) h2
 | vec id len=>cases hr with|vec _ _ h1 h2=>exact .vec _ _ (hh _ _ h1) h2
 | ev y=>cases hr with|aV _ _ _ S' _ _ _ _ h3=>rw [h3.bj];exact .v y
 | aV a b hw=>
  cases hr with
  | aV _ _ _ S' h0 h1 hc h2 h3=>
   have hs': ∀k,S' k→A k:=(h2 w (fun _ _=>rfl)).1
   have:=(h2 w' (fun k hk'=>hk k (h1 k hk').1 (fun q=>hS k q (hs' k hk')))).2
   exact this.tr (n:=0) (fun k hf=>⟨hf.1,fun ho=>(h1 k hf.2.2).2.1 (hown k ho),(h1 k hf.2.2).2.2⟩) (fun id len hlt=>by omega) hw
/-! ### states told anew, cell by cell -/
def ny (R:AV→AV→Prop):List AV→List AV→Prop
 | [],[]=>True
 | a :: l,b :: m=>R a b∧ny R l m
 | _,_=>False
def oF (R:AV→AV→Prop):List (List AV)→List (List AV)→Prop
 | [],[]=>True
 | a :: l,b :: m=>ny R a b∧oF R l m
 | _,_=>False
def gr (R:AV→AV→Prop):List (Option ab)→List (Option ab)→Prop
 | [],[]=>True
 | _ :: l,none :: m=>gr R l m
 | some x :: l,some y :: m=>(y.T=x.T∧y.z=x.z∧y.eu=x.eu∧oF R x.rows y.rows)∧gr R l m
 | _,_=>False
theorem ny.get {R:AV→AV→Prop}: ∀ {l m:List AV},ny R l m→l.length=m.length∧ ∀(i:Nat) c',m[i]? = some c'→ ∃c,l[i]? = some c∧R c c'
 | [],[],_=>⟨rfl,fun i c h=>by simp at h⟩
 | a :: l,b :: m,h=>by
  obtain ⟨h1,h2⟩:=ny.get h.2
  refine ⟨by simp [h1],fun i c hc=> ?_⟩
  cases i with
  | zero=>simp at hc;subst hc;exact ⟨a,rfl,h.1⟩
  | succ i=>simpa using h2 i c (by simpa using hc)
 | [],_ :: _,h=>h.elim
 | _ :: _,[],h=>h.elim
theorem oF.get {R:AV→AV→Prop}: ∀ {l m:List (List AV)},oF R l m→l.length=m.length∧ ∀(i:Nat) c',m[i]? = some c'→ ∃c,l[i]? = some c∧ny R c c'
 | [],[],_=>⟨rfl,fun i c h=>by simp at h⟩
 | a :: l,b :: m,h=>by
  obtain ⟨h1,h2⟩:=oF.get h.2
  refine ⟨by simp [h1],fun i c hc=> ?_⟩
  cases i with
  | zero=>simp at hc;subst hc;exact ⟨a,rfl,h.1⟩
  | succ i=>simpa using h2 i c (by simpa using hc)
 | [],_ :: _,h=>h.elim
 | _ :: _,[],h=>h.elim
theorem gr.get {R:AV→AV→Prop}: ∀ {l m:List (Option ab)},gr R l m→l.length=m.length∧ ∀(i:Nat) y,m[i]? = some (some y)→ ∃x,l[i]? = some (some x)∧y.T=x.T∧y.z=x.z∧y.eu=x.eu∧oF R x.rows y.rows
 | [],[],_=>⟨rfl,fun i c h=>by simp at h⟩
 | a :: l,none :: m,h=>by
  have h':gr R l m:=by cases a<;>exact h
  obtain ⟨h1,h2⟩:=gr.get h'
  refine ⟨by simp [h1],fun i c hc=> ?_⟩
  cases i with
  | zero=>simp at hc
  | succ i=>simpa using h2 i c (by simpa using hc)
 | some x :: l,some y :: m,h=>by
  obtain ⟨h1,h2⟩:=gr.get h.2
  refine ⟨by simp [h1],fun i c hc=> ?_⟩
  cases i with
  | zero=>simp at hc;subst hc;exact ⟨x,rfl,h.1⟩
  | succ i=>simpa using h2 i c (by simpa using hc)
 | none :: _,some _ :: _,h=>h.elim
 | [],_ :: _,h=>h.elim
 | _ :: _,[],h=>by rename_i a l;cases a<;>exact h.elim
theorem gr.hl {R:AV→AV→Prop} {x y:ab} (h:y.eu=x.eu) (k:oF R x.rows y.rows):y.hl=x.hl:=by simp only [ab.hl,h,k.get.1]
theorem gr.own {R:AV→AV→Prop} (h:gr R o o'): ∀b,owned nu o' b→owned nu o b:=fun b ⟨id,y,h1,h2⟩=>by
 obtain ⟨x,q1,q2,q3,q4,q5⟩:=h.get.2 id y h1
 exact ⟨id,x,q1,by rw [←gr.hl q4 q5];exact h2⟩
theorem gr.kz {R:AV→AV→Prop} (h:gr R o o'): ∀id len,bG o id len→bG o' id len:=fun id len ⟨ob,h1,h2⟩=>by
 have hlt:id<o'.length:=by rw [←h.get.1];exact (I0.1 h1).1
 refine ⟨_,Je hlt,fun y hy=> ?_⟩
 obtain ⟨x,q1,q2,q3,q4,q5⟩:=h.get.2 id y (by rw [Je hlt,hy])
 rw [h1] at q1
 rw [gr.hl q4 q5]
 exact h2 x (JX q1)
theorem RO.conv {R:AV→AV→Prop} (h:RO D nu o w) (hO:gr R o o') (hR: ∀a b x,R a b→RA D nu o w a x→RA D nu o' w' b x) (hw: ∀b,owned nu o b→w'.heap[b]? = w.heap[b]?) (hz:w.heap.size≤w'.heap.size) (hg:dD D nu o' w'):RO D nu o' w':=by
 refine ⟨fun id y hy=> ?_,fun b hb=>h.up b (Nat.le_trans hz hb),fun i1 i2 y1 y2 b k1 k2 hne k3=> ?_,hg⟩
 ·obtain ⟨x,q1,q2,q3,q4,q5⟩:=hO.get.2 id y hy
  have hrow: ∀(i:Nat) row',y.rows[i]? = some row'→ ∃row,x.rows[i]? = some row∧row'.length=row.length∧ ∀(j:Nat) c',row'[j]? = some c'→ ∃c,row[j]? = some c∧ ∀v,RA D nu o w c v→RA D nu o' w' c' v:=fun i row' hi=>by
   obtain ⟨row,p1,p2⟩:=q5.get.2 i row' hi
   refine ⟨row,p1,p2.get.1.symm,fun j c' hc=> ?_⟩
   obtain ⟨c,p3,p4⟩:=p2.get.2 j c' hc
   exact ⟨c,p3,fun v hv=>hR c c' v p4 hv⟩
  rcases h.obj id x q1 with ⟨e1,e2,e3⟩|⟨g,cur,hb⟩|⟨g,es,cl,hmp⟩
  ·refine .inl ⟨q4.trans e1, ?_,e3⟩
   have:=q5.get.1;rw [e2] at this
   exact JB this.symm
  ·refine .inr (.inl ⟨g,cur,by rw [q2];exact (hw g ⟨id,x,q1,hb.bq⟩).trans hb.b7,hb.ke,fun hv=> ?_,fun hv=> ?_,by rw [q3];exact hb.z,fun i row' hi=> ?_,fun i j row' c' v p1 p2 p3=> ?_,fun i j row' c' v p1 p2 p3=> ?_⟩)
   ·rw [←q5.get.1,q3];exact hb.box (q4 ▸ hv)
   ·rw [←q5.get.1,q3];exact hb.vec (q4 ▸ hv)
   ·obtain ⟨row,p1,p2,_⟩:=hrow i row' hi
    rw [p2,q3];exact hb.row i row p1
   ·obtain ⟨row,r1,r2,r3⟩:=hrow i row' p1
    obtain ⟨c,r4,r5⟩:=r3 j c' p2
    rw [q3] at p3
    exact r5 v (hb.cell i j row c v r1 r4 p3)
   ·obtain ⟨row,r1,r2,r3⟩:=hrow i row' p1
    obtain ⟨c,r4,r5⟩:=r3 j c' p2
    rw [q3] at p3
    exact hb.one i j row c v r1 r4 p3
  ·exact .inr (.inr ⟨g,es,cl,hmp.rows (hw g ⟨id,x,q1,hmp.bq⟩) hmp.ke rfl q4 q3 q5.get.1.symm hrow⟩)
 ·obtain ⟨x1,a1,_,_,a4,a5⟩:=hO.get.2 i1 y1 k1
  obtain ⟨x2,b1,_,_,b4,b5⟩:=hO.get.2 i2 y2 k2
  rw [gr.hl a4 a5] at k3
  rw [gr.hl b4 b5]
  exact h.sep i1 i2 x1 x2 b a1 b1 hne k3
theorem Ax {s sA:AS} (hy:sA.y=s.y) (ht:ny (Wp A) s.t sA.t) (ho:gr (Wp A) s.o sA.o) (hf:sA.o.map Option.isSome=s.o.map Option.isSome):Bn A s sA:=by
 refine ⟨hy,fun f D nu a w hs hA hB=> ?_⟩
 have hm:bp nu s.o w nu sA.o w:=⟨rfl,rfl,rfl,Nat.le_refl _,fun id len hh=>⟨ho.kz id len hh,rfl⟩,fun b _ hno=>⟨rfl,fun h=>hno (ho.own b h)⟩⟩
 have hback: ∀(id:Nat) (x:ab),s.o[id]? = some (some x)→ ∃y:ab,sA.o[id]? = some (some y)∧y.hl=x.hl:=fun id x hx=>by
  have hlt:id<sA.o.length:=by rw [←ho.get.1];exact (I0.1 hx).1
  have e:=congrArg (fun l=>l[id]?) hf
  simp only [List.getElem?_map,hx,Option.map_some,Option.isSome_some,Je hlt] at e
  cases hq:sA.o[id] with
  | none=>rw [hq] at e;cases e
  | some y=>
   have hy':sA.o[id]? = some (some y):=by rw [Je hlt,hq]
   obtain ⟨x',p1,_,_,p4,p5⟩:=ho.get.2 id y hy'
   rw [hx] at p1;cases p1
   exact ⟨y,hy',gr.hl p4 p5⟩
 refine ⟨⟨hs.ro.conv ho (fun a b x h hr=>(h.ra hA hB hr).mono hm (fun _ _ h=>h)) (fun _ _=>rfl) (Nat.le_refl _) (hs.ro.gl.mono hm (fun _ _ h=>h)),⟨by rw [←ht.get.1];exact hs.tm.len,fun i c x h1 h2=> ?_⟩,hs.fR⟩,hm,⟨rfl,rfl,rfl,Nat.le_refl _,fun id len hh=>⟨?_,rfl⟩,fun b _ hno=>⟨rfl,fun ⟨id,x,h1,h2⟩=> ?_⟩⟩⟩
 ·obtain ⟨c0,q1,q2⟩:=ht.get.2 i c h1
  exact (q2.ra hA hB (hs.tm.bA i c0 x q1 h2)).mono hm (fun _ _ h=>h)
 ·obtain ⟨ob,k1,k2⟩:=hh
  have hlt:id<s.o.length:=by rw [ho.get.1];exact (I0.1 k1).1
  refine ⟨_,Je hlt,fun x hx=> ?_⟩
  obtain ⟨y,q1,q2⟩:=hback id x (by rw [Je hlt,hx])
  rw [k1] at q1
  rw [←q2];exact k2 y (JX q1)
 ·obtain ⟨y,q1,q2⟩:=hback id x h1
  exact hno ⟨id,y,q1,by rw [q2];exact h2⟩
theorem TE.up {w:World} {x:Value} {S S':Nat→Prop} (h:TE S w x) (hS: ∀b,S b→S' b):TE S' w x:=h.keep hS (fun _ _=>rfl)
theorem TP.up {w:World} {x:Value} {S S':Nat→Prop} (h:TP S w x) (hS: ∀b,S b→S' b):TP S' w x:=
 TL.keep h hS (fun _ _=>rfl) (fun n C hp i hi=>⟨(hp i hi).1,(hp i hi).2.imp fun x hx=>⟨hx.1,hx.2.up hS⟩⟩)
theorem uA {oc:Oper} {c:Call} {s s4:AS} {xo:Operand} {p q r:AV} {ra sl:Int} (hop:oc.op = .call c) (hc:c.callee = .value (.func 33)) (hargs:c.args = #[xo]) (hx:s.ev xo = .agg [.aV (FW A) p, .aV (Fq A 37 13) q, .aV (Fq A 34 6) r, .v (.int .i64 ra), .v (.int .i64 sl)])
  (hy:s4.y=s.y) (ht:ny (Sv A) (s.put oc.dst .undef s.o).t s4.t) (ho:gr (Sv A) s.o s4.o):A3 Tryz.prog A oc s s4:=by
 refine ⟨hy,ho.get.1.symm,fun hG f D nu a w next Q hs hk=> ?_⟩
 have hra:=hs.ev xo
 rw [hx] at hra
 generalize hq:a.eval xo=vx at hra
 cases hra with
 | agg _ xs h1 h2 h3=>
 obtain ⟨xs⟩:=xs
 match xs,h1 with
 | [x0,x1,x2,x3,x4],_=>
 have r0:=h2 0 _ x0 rfl rfl
 have r1:=h2 1 _ x1 rfl rfl
 have r2:=h2 2 _ x2 rfl rfl
 have r3:=h2 3 _ x3 rfl rfl
 have r4:=h2 4 _ x4 rfl rfl
 obtain rfl:=r3.bj
 obtain rfl:=r4.bj
 cases r0 with
 | aV _ _ _ S0 a0 a1 ac a2 a3=>
 cases r1 with
 | aV _ _ _ S1 b0 b1 bc b2 b3=>
 cases r2 with
 | aV _ _ _ S2 c0 c1 cc c2 c3=>
 have d0:=a2 w (fun _ _=>rfl)
 have d1:=b2 w (fun _ _=>rfl)
 have d2:=c2 w (fun _ _=>rfl)
 let S:Nat→Prop:=fun b=>S0 b∨S1 b∨S2 b
 have hS: ∀b,S b→ ¬A b∧Fz D nu s.o w b∧ ∃C T k,w.heap[b]? = some (.cells C T k):=fun b hb=>by
  rcases hb with hb|hb|hb
  ·exact ⟨d0.1 b hb,a1 b hb,ac b hb⟩
  ·exact ⟨d1.1 b hb,b1 b hb,bc b hb⟩
  ·exact ⟨d2.1 b hb,c1 b hb,cc b hb⟩
 have hcall:=m7 (S:=S) (w:=w) (p:=x0) (c:=x1) (o:=x2) (ra:=ra) (sl:=sl) (fun b hb=>(hS b hb).2.1.1) (d0.2.up (fun _ h=> .inl h)) (TL.keep d1.2 (fun _ h=> .inr (.inl h)) (fun _ _=>rfl) (fun _ _ h=>h)) (TL.keep d2.2 (fun _ h=> .inr (.inr h)) (fun _ _=>rfl) (fun _ _ h=>h))
 unfold Oper.wp
 have hrun:(execOp a.eval oc).run Tryz.prog w = .ok (.enter 33 #[.agg #[x0,x1,x2, .int .i64 ra, .int .i64 sl]]) w:=by
  have hcl:dH Tryz.prog 33=true:=by kernel_rfl
  have hfe:a.eval (.func 33) = .func (.func 33) #[] #[]:=rfl
  simp only [execOp,hop,resolve,hc,hargs,hfe,Deferred.ofValue,Sem.run_bind,Sem.run_pure,Result.andThen_ok,invoke,List.map_toArray,List.map_cons,List.map_nil,hq]
  exact eX hcl _ w
 rw [hrun,Oper.upon_enter]
 refine hcall.mono ?_
 rintro e w' ⟨rfl,hO⟩
 have hkeep: ∀b,b<w.heap.size→ ¬S b→w'.heap[b]? = w.heap[b]? :=fun b h1 h2=>hO.same b h1 h2
 have hsame: ∀b,owned nu s.o b→w'.heap[b]? = w.heap[b]? :=fun b hb=>hkeep b (hs.ro.aF hb) (fun h=>(hS b h).2.1.2.1 hb)
 have hp:RS f D nu (s.put oc.dst .undef s.o) (a.put oc.dst (.tuple #[])) w:=hs.put (.refl nu s.o w) hs.ro (.undef _) oc.dst
 have hconv: ∀(a b:AV) (x:Value),Sv A a b→RA D nu s.o w a x→RA D nu s4.o w' b x:=fun a b x h hr=>h.ra (S:=S) (fun b hb=>(hS b hb).1) hkeep hO.size (ho.own) (ho.kz) hr
 refine hk S (.tuple #[]) w' nu hS ⟨hO.os,hO.tape,hO.output,hO.size,fun id len hlt hh=>⟨ho.kz id len hh,rfl⟩,fun b h1 h2 h3=>⟨hkeep b h1 h3,fun h=>h2 (ho.own b h)⟩⟩ ⟨hs.ro.conv ho hconv hsame hO.size (fun g T cs hg=> ?_),⟨?_,fun i cc x k1 k2=> ?_⟩, ?_⟩
 ·obtain ⟨⟨t,q1⟩,q2,q3⟩:=hs.ro.gl g T cs hg
  exact ⟨⟨t,(hkeep g (IY.1 q1).1 (fun h=>(hS g h).1 (hG g T cs hg))).trans q1⟩,fun h=>q2 (ho.own g h),q3⟩
 ·rw [←ht.get.1];exact hp.tm.len
 ·obtain ⟨c0,q1,q2⟩:=ht.get.2 i cc k1
  have hpo:(s.put oc.dst .undef s.o).o=s.o:=by cases oc.dst<;>rfl
  have:=hp.tm.bA i c0 x q1 k2
  rw [hpo] at this
  exact hconv c0 cc x q2 this
 ·refine hp.fR.keep hO.size (fun b ob hd hb hn=> ?_)
  refine (hkeep b (IY.1 hb).1 (fun h=> ?_)).trans hb
  obtain ⟨_,_,C,T,k,e⟩:=hS b h
  rw [e] at hb;cases hb;cases hn
end
end Go.Proofs.YtldnlbcibmmbbaaGreat
