/- A region that draws its order, its operations told by relations over a world and what is noted beside it; an operation that is passed over is noted too. No program is named here. -/
import Derived.Test.YtldnlbcibmmbbaaGreatWAbsZ
set_option linter.unusedSimpArgs false
set_option linter.unusedVariables false
open Array renaming getD_eq_getD_getElem? → JM
open Bool renaming and_eq_true → JL
open List renaming getElem?_eq_some_iff → I0, getElem?_toArray → Jg
namespace Go.Proofs.YtldnlbcibmmbbaaGreat
open Go.RowKit
section
variable {P:Program} {ops:Array Oper} {N:jG}
def zS (P:Program) (ops:Array Oper) (S:dx N) (j:Nat) (o:Oper) (a:Act) (g:N.G):Prop:=
 (Region.wanted o (yielded ops a.tmps)=true∧yH P S j g ((execOp a.eval o).run P (N.wd g)))∨(Region.wanted o (yielded ops a.tmps)=false∧ ∃g',N.wd g'=N.wd g∧N.R g g'∧(∀i,i≠j→N.pre i g→N.pre i g')∧S.p undef g')
def Cv (P:Program) (ops:Array Oper) (L:List (dx N)) (g0:N.G) (Q:Act→World→Prop):List Oper→Nat→((Nat→Value)→Act)→Prop
 | [],k,A=> ∀x g,N.R g0 g→(∀i,i<k→(kO L i).p (x i) g)→Q (A x) (N.wd g)
 | o :: l,k,A=>(∀x g,N.R g0 g→(∀i,ay ops k i=true→(kO L i).p (x i) g)→N.pre k g→zS P ops (kO L k) k o (A x) g)∧Cv P ops L g0 Q l (k+1) (fun x=>(A x).put o.dst (x k))
def xS (ops:Array Oper) (i j:Nat):Bool:=
 match ops[i]?,ops[j]? with
 | some oi,some oj=>(ay ops j i||match oi.dst with|some d=> !(oj.looksAt ops).contains d|none=>true) && !ay ops i j&&(match oi.dst with|some d=>oj.dst !=some d|none=>true)&&(ay ops j i||match oj.dst with|some d=> !(oi.looksAt ops).contains d|none=>true)
 | _,_=>true
def oD (ops:Array Oper):Bool:=
 Region.noSelect ops&&(List.range ops.size).all (fun j=>(List.range j).all (fun i=>xS ops i j)&&(!ay ops j j&&qH ops j))
def CH (P:Program) (l:List Oper) (L:List (dx N)) (g0:N.G) (a0:Act) (j:Nat) (o:Oper):Prop:=
 ∀x g,N.R g0 g→(∀i,ay l.toArray j i=true→(kO L i).p (x i) g)→N.pre j g→zS P l.toArray (kO L j) j o (bX (fun i=>decide (i<j)) x l 0 a0) g
theorem uu {l:List Oper} {L:List (dx N)} {g0:N.G} {Q:Act→World→Prop} {a0:Act} (hA:dV l): ∀(l':List Oper) (k:Nat) (A:(Nat→Value)→Act),l.drop k=l'→(A=fun x=>bX (fun i=>decide (i<k)) x l 0 a0)→k≤l.length →
  Cv P l.toArray L g0 Q l' k A→(∀j o,k≤j→l[j]? = some o→CH P l L g0 a0 j o)∧(∀x g,N.R g0 g→(∀i,i<l.length→(kO L i).p (x i) g)→Q (bX (fun i=>decide (i<l.length)) x l 0 a0) (N.wd g))
 | [],k,A,hl,hAx,hk,h=>by
  have h1:l.length=k:=by have:=congrArg List.length hl;simp at this;omega
  subst hAx
  refine ⟨fun j o hj ho=> ?_,fun x g hg hs=> ?_⟩
  ·have:=(I0.1 ho).1;omega
  ·rw [h1] at hs ⊢; exact h x g hg hs
 | o :: l',k,A,hl,hAx,hk,h=>by
  have h1:l.length=k+(l'.length+1):=by have:=congrArg List.length hl;simp at this;omega
  have h2:l[k]? = some o:=by have:=congrArg (fun m=>m[0]?) hl;simpa using this
  subst hAx
  have rcr:=uu hA l' (k+1) _ (by have:=congrArg List.tail hl;simpa using this) (by
    funext x
    have hi:=fB (s:=fun i=>decide (i<k)) (x:=x) (v:=x k) l 0 k a0 hA h2 (by simp)
    rw [Nat.zero_add] at hi
    rw [←hi]
    refine aS l 0 a0 (fun i _ _=> ?_)
    by_cases hik:i=k
    ·subst hik;simp [bn,eJ]
    ·have:(i<k+1)=(i<k):=by apply propext;omega
     simp [bn,eJ,hik,this]) (by omega) h.2
  refine ⟨fun j o' hj ho=> ?_,rcr.2⟩
  by_cases hjk:j=k
  ·subst hjk
   rw [h2] at ho;cases ho
   exact h.1
  ·exact rcr.1 j o' (by omega) ho
theorem my {Q:Exit→Act→World→Prop} {a:Act} {w:World} {l:List Oper} (L:List (dx N)) (hB:oD l.toArray=true) (g0:N.G) (hg0:N.wd g0=w.drew) (hp0: ∀j,N.pre j g0)
  (h:Cv P l.toArray L g0 (Q .normal) l 0 (fun _=>a)):wpAny P .any l.toArray Q l.toArray.size (Array.replicate l.toArray.size false) a w.drew:=by
 simp only [oD,JL,List.all_eq_true,List.mem_range,List.size_toArray] at hB
 obtain ⟨hns,hall⟩:=hB
 have hsel:=Region.noSelect_spec hns
 have hpair: ∀i j oi oj,i<j→l[i]? = some oi→l[j]? = some oj→(ay l.toArray j i=true∨ ∀e,oi.dst=some e→e∉oj.looksAt l.toArray)∧ay l.toArray i j=false∧(∀e,oi.dst=some e→oj.dst≠some e)∧(ay l.toArray j i=true∨ ∀e,oj.dst=some e→e∉oi.looksAt l.toArray):=by
  intro i j oi oj hij hi hj
  have hjn:=(I0.1 hj).1
  have:=(hall j hjn).1 i hij
  simp only [xS,Jg,hi,hj,JL,Bool.or_eq_true,Bool.not_eq_true'] at this
  refine ⟨?_,this.1.1.2,fun e he=> ?_, ?_⟩
  ·rcases this.1.1.1 with h|h
   ·exact .inl h
   ·refine .inr (fun e he=> ?_)
    rw [he] at h
    simpa using h
  ·have h3:=this.1.2
   rw [he] at h3
   simpa using h3
  ·rcases this.2 with h|h
   ·exact .inl h
   ·refine .inr (fun e he=> ?_)
    rw [he] at h
    simpa using h
 have hself: ∀j,j<l.length→ay l.toArray j j=false:=fun j hj=>by simpa using (hall j hj).2.1
 have hfar: ∀(j:Nat) (o:Oper),l[j]? = some o→ ∀e∈o.after,e.on<l.length:=fun j o hj e he=>by
  have:=(hall j (I0.1 hj).1).2.2
  simp only [qH,Jg,hj,Array.all_eq_true_iff_forall_mem] at this
  simpa using this e he
 have hA:dV l:=fun i j oi oj hi hj hij e he=>by
  rcases Nat.lt_or_gt_of_ne hij with h|h
  ·exact (hpair i j oi oj h hi hj).2.2.1 e he
  ·intro h2
   exact (hpair j i oj oi h hj hi).2.2.1 e h2 he
 obtain ⟨hO,hfin⟩:=uu (P:=P) (L:=L) (g0:=g0) (Q:=Q .normal) (a0:=a) hA l 0 (fun _=>a) (by simp) (by
  funext x
  exact (show a=bX (fun _=>false) x l 0 a from by
   have: ∀(l:List Oper) k,a=bX (fun _=>false) x l k a:=by
    intro l
    induction l with
    | nil=>intro k;rfl
    | cons o l ih=>intro k;rw [bX];exact ih (k+1)
   exact this l 0).trans (aS l 0 a (fun i _ _=>by simp))) (Nat.zero_le _) h
 
 have hloose: ∀i j oi oj,l[i]? = some oi→l[j]? = some oj→i≠j→ay l.toArray j i=false→ay l.toArray i j=false→ ∀d,oi.dst=some d→d∉oj.looksAt l.toArray:=by
  intro i j oi oj hi hj hij hd hd'
  rcases Nat.lt_or_gt_of_ne hij with h|h
  ·rcases (hpair i j oi oj h hi hj).1 with h1|h1
   ·rw [hd] at h1;cases h1
   ·exact h1
  ·rcases (hpair j i oj oi h hj hi).2.2.2 with h1|h1
   ·rw [hd'] at h1;cases h1
   ·exact h1
 
 have hsee: ∀(s s':Nat→Bool) x j oj,l[j]? = some oj→s j=false→s' j=false→(∀i,i<l.length→ay l.toArray i j=true→s i=false∧s' i=false)→(∀i,i<l.length→ay l.toArray j i=true→s i=true∧s' i=true) →
   execOp (bX s x l 0 a).eval oj=execOp (bX s' x l 0 a).eval oj∧Region.wanted oj (yielded l.toArray (bX s x l 0 a).tmps)=Region.wanted oj (yielded l.toArray (bX s' x l 0 a).tmps):=by
  intro s s' x j oj hj h1 h2 hbk hd
  have one:=fun (s:Nat→Bool) (hs:s j=false) (hs2: ∀i,i<l.length→ay l.toArray i j=true→s i=false)=>ki (ops:=l.toArray) (s:=s) (keep:=ay l.toArray j) (x:=x) (a:=a) hA (fun cs b=>hsel j oj cs b (by simpa using hj))
   (fun i oi hi hsi hk=>hloose i j oi oj hi hj (by intro e;subst e;rw [hsi] at hs;cases hs) hk (by
    cases hq:ay l.toArray i j
    ·rfl
    ·rw [hs2 i (I0.1 hi).1 hq] at hsi;cases hsi))
  obtain ⟨a1,a2⟩:=one s h1 (fun i hi hq=>(hbk i hi hq).1)
  obtain ⟨b1,b2⟩:=one s' h2 (fun i hi hq=>(hbk i hi hq).2)
  have e:bX (fun i=>s i&&ay l.toArray j i) x l 0 a=bX (fun i=>s' i&&ay l.toArray j i) x l 0 a:=aS l 0 a (fun i _ hi=>by
   refine ⟨?_,fun _=>rfl⟩
   cases hk:ay l.toArray j i
   ·simp
   ·obtain ⟨c1,c2⟩:=hd i (by omega) hk
    simp [c1,c2])
  exact ⟨by rw [a1,b1,e],by rw [a2,b2,e]⟩
 have full: ∀(listed:Array Bool),listed.size=l.length→(∀i,i<l.length→listed.getD i false=true)→Region.ready .any l.toArray listed=[]∧ ∀x,bX (fun i=>listed.getD i false) x l 0 a=bX (fun i=>decide (i<l.length)) x l 0 a:=fun listed hsz hall'=>by
  refine ⟨List.eq_nil_iff_forall_not_mem.2 (fun i hi=> ?_),fun x=>aS l 0 a (fun i _ hi=>⟨?_,fun _=>rfl⟩)⟩
  ·obtain ⟨g1,o,g2, -⟩:=mem_ready.1 hi
   have hil:i<l.length:=(I0.1 (show l[i]? = some o by simpa using g2)).1
   have g3:=hall' i hil
   have his:i<listed.size:=by omega
   simp only [JM,Array.getElem?_eq_getElem his,Option.getD_some] at g1 g3
   rw [g3] at g1;cases g1
  ·have:i<l.length:=by omega
   rw [hall' i this];simp [this]
 have main: ∀fuel (listed:Array Bool) x g1,listed.size=l.length→N.R g0 g1→(∀i,listed.getD i false=true→(kO L i).p (x i) g1) →
   (∀j i,listed.getD j false=true→ay l.toArray j i=true→listed.getD i false=true)→(∀j,listed.getD j false=false→N.pre j g1)→tb (fun i=>listed.getD i false) l.length≤fuel →
   wpAny P .any l.toArray Q fuel listed (bX (fun i=>listed.getD i false) x l 0 a) (N.wd g1):=by
  intro fuel
  induction fuel with
  | zero=>
   intro listed x g1 hsz hE hF hcl hpre hu
   have hall': ∀i,i<l.length→listed.getD i false=true:=fun i hi=>by
    cases hc:listed.getD i false
    ·have:=nL (s:=fun i=>listed.getD i false) l.length hi hc
     omega
    ·rfl
   exact wpAny_done (full listed hsz hall').1 (by rw [(full listed hsz hall').2 x];exact hfin x g1 hE (fun i hi=>hF i (hall' i hi))) 0
  | succ fuel ih=>
   intro listed x g1 hsz hE hF hcl hpre hu
   have hmemR: ∀j,j∈Region.ready .any l.toArray listed→ ∃oj,l[j]? = some oj∧listed.getD j false=false∧ ∀i,ay l.toArray j i=true→listed.getD i false=true:=by
    intro j hj
    obtain ⟨h1,o,ho,h3⟩:=mem_ready.1 hj
    refine ⟨o,by simpa using ho, ?_,fun i hi=> ?_⟩
    ·rcases Nat.lt_or_ge j listed.size with h'|h'
     ·simp [h'] at h1 ⊢; exact h1
     ·simp [Array.getElem?_eq_none h']
    ·simp only [ay,ho,JL,beq_iff_eq,Array.any_eq_true'] at hi
     obtain ⟨e,he,hb,rfl⟩:=hi
     exact h3 e he hb
   refine ⟨fun h0=> ?_,fun j hj=> ?_⟩
   ·
    have hex:(∀i,i<l.length→listed.getD i false=true)∨ ∃m,m<l.length∧listed.getD m false=false∧ ∀i,i<m→listed.getD i false=true:=by
     have: ∀k,k≤l.length→(∀i,i<k→listed.getD i false=true)∨ ∃m,m<l.length∧listed.getD m false=false∧ ∀i,i<m→listed.getD i false=true:=by
      intro k
      induction k with
      | zero=>exact fun _=> .inl (fun i hi=>by omega)
      | succ k ihk=>
       intro hk
       rcases ihk (by omega) with h|h
       ·cases hc:listed.getD k false
        ·exact .inr ⟨k,by omega,hc,h⟩
        ·exact .inl (fun i hi=>by
          by_cases e:i=k
          ·subst e;exact hc
          ·exact h i (by omega))
       ·exact .inr h
     exact this l.length (Nat.le_refl _)
    rcases hex with hall'|hex
    ·rw [(full listed hsz hall').2 x];exact hfin x g1 hE (fun i hi=>hF i (hall' i hi))
    exfalso
    obtain ⟨m,hm1,hm2,hm3⟩:=hex
    have hmem:m∈Region.ready .any l.toArray listed:=by
     refine mem_ready.2 ⟨?_,l[m],by simp [hm1],fun e he hb=> ?_⟩
     ·have hms:m<listed.size:=by omega
      simp [hms] at hm2 ⊢; exact hm2
     ·have hd:ay l.toArray m e.on=true:=by
       have:l.toArray[m]? = some l[m]:=by simp [hm1]
       simp only [ay,this]
       simp only [Array.any_eq_true',JL,beq_iff_eq]
       exact ⟨e,he,hb,rfl⟩
      rcases Nat.lt_trichotomy e.on m with h|h|h
      ·exact hm3 _ h
      ·rw [h,hself m hm1] at hd;cases hd
      ·by_cases hl:e.on<l.length
       ·have:=(hpair m e.on l[m] l[e.on] h (by simp [hm1]) (by simp [hl])).2.1
        rw [hd] at this;cases this
       ·exact absurd (hfar m l[m] (by simp [hm1]) e he) hl
    rw [h0] at hmem;cases hmem
   ·obtain ⟨oj,hoj,hun,hdeps⟩:=hmemR j hj
    have hjl:=(I0.1 hoj).1
    have hsj:(listed.setIfInBounds j true).size=l.length:=by simpa using hsz
    have hgd: ∀i,(listed.setIfInBounds j true).getD i false=bn (fun i=>listed.getD i false) j i:=by
     intro i
     by_cases hij:i=j
     ·subst hij
      have:i<listed.size:=by omega
      simp [bn,this]
     ·simp only [bn,if_neg hij]
      exact getD_set_ne false (Ne.symm hij)
    have hO:=hO j oj (Nat.zero_le _) hoj
    unfold wpOp
    simp only [Jg,hoj]
    have hst:=hO x g1 hE (fun i hi=>hF i (hdeps i hi)) (hpre j hun)
    have hbk: ∀i,i<l.length→ay l.toArray i j=true→listed.getD i false=false∧decide (i<j)=false:=by
     intro i hi hq
     constructor
     ·cases hli:listed.getD i false
      ·rfl
      ·have:=hcl i j hli hq
       rw [hun] at this;cases this
     ·rcases Nat.lt_or_ge i j with h|h
      ·have:=(hpair i j l[i] oj h (by simp [hi]) hoj).2.1
       rw [hq] at this;cases this
      ·simpa using h
    obtain ⟨c1,c2⟩:=hsee (fun i=>listed.getD i false) (fun i=>decide (i<j)) x j oj hoj hun (by simp) hbk (fun i hi hd=>⟨hdeps i hd,by
      rcases Nat.lt_trichotomy i j with h|h|h
      ·simpa using h
      ·rw [h,hself j hjl] at hd;cases hd
      ·have:=(hpair j i oj l[i] h hoj (by simp [hi])).2.1
       rw [hd] at this;cases this⟩)
    have next: ∀v g2,N.R g1 g2→(∀i,i≠j→N.pre i g1→N.pre i g2)→(kO L j).p v g2→wpAny P .any l.toArray Q fuel (listed.setIfInBounds j true) ((bX (fun i=>listed.getD i false) x l 0 a).put oj.dst v) (N.wd g2):=by
     intro v g2 hb hpp hv
     have hi:=fB (s:=fun i=>listed.getD i false) (x:=x) (v:=v) l 0 j a hA hoj (by simpa using hun)
     rw [Nat.zero_add] at hi
     rw [←hi, ← show (fun i=>(listed.setIfInBounds j true).getD i false)=bn (fun i=>listed.getD i false) j from funext hgd]
     refine ih _ _ g2 hsj (N.trans' _ _ _ hE hb) (fun i hi'=> ?_) (fun j' i hj' hd=> ?_) (fun j' hj'=> ?_) ?_
     ·rw [hgd] at hi'
      by_cases hij:i=j
      ·subst hij;simpa [eJ] using hv
      ·simp only [bn,if_neg hij] at hi'
       simp only [eJ,if_neg hij]
       exact (kO L i).st _ _ _ hb (hF i hi')
     ·rw [hgd] at hj' ⊢
      by_cases hij:i=j
      ·simp [bn,hij]
      ·simp only [bn,if_neg hij]
       by_cases hj2:j'=j
       ·subst hj2;exact hdeps i hd
       ·simp only [bn,if_neg hj2] at hj'
        exact hcl j' i hj' hd
     ·rw [hgd] at hj'
      by_cases hj2:j'=j
      ·simp [bn,hj2] at hj'
      ·simp only [bn,if_neg hj2] at hj'
       exact hpp j' hj2 (hpre j' hj')
     ·rw [gA (s':=bn (fun i=>listed.getD i false) j) l.length (fun i _=>hgd i)]
      have:=j5 (s:=fun i=>listed.getD i false) (i:=j) l.length hjl hun
      omega
    unfold zS at hst
    rw [←c1, ← c2] at hst
    rcases hst with ⟨h1,h2⟩|⟨h1,h2⟩
    ·rw [if_pos h1]
     refine .inl ?_
     unfold Oper.wp
     generalize (execOp (bX (fun i=>listed.getD i false) x l 0 a).eval oj).run P (N.wd g1)=r at h2
     cases r with
     | halt _ _=>exact h2.elim
     | ok n w'=>
      cases n<;>first|exact h2.elim|skip
      case value u=>obtain ⟨g2,rfl,k1,k3,k2⟩:=h2;exact next _ _ k1 k3 k2
      case skip=>obtain ⟨g2,rfl,k1,k3,k2⟩:=h2;exact next _ _ k1 k3 k2
      case enter f args=>
       refine Calls.mono h2 fun e w'' he=> ?_
       obtain ⟨v,g2,rfl,rfl,k1,k3,k2⟩:=he
       exact next _ _ k1 k3 k2
    ·rw [if_neg (by rw [h1];decide)]
     obtain ⟨g2,e2,k1,k3,k2⟩:=h2
     rw [←e2]
     exact next _ _ k1 k3 k2
 have hrep: ∀i,(Array.replicate l.toArray.size false).getD i false=false:=fun i=>by
  simp only [JM,Array.getElem?_replicate];split<;>rfl
 have h0:=main l.toArray.size (Array.replicate l.toArray.size false) (fun _=>undef) g0 (by simp) (N.DS _)
  (fun i hi=>by rw [hrep] at hi;cases hi) (fun j i hj=>by rw [hrep] at hj;cases hj) (fun j _=>hp0 j) (pY _)
 have e:bX (fun i=>(Array.replicate l.toArray.size false).getD i false) (fun _=>undef) l 0 a=a:=by
  have: ∀(l':List Oper) k,bX (fun i=>(Array.replicate l.toArray.size false).getD i false) (fun _=>undef) l' k a=a:=by
   intro l'
   induction l' with
   | nil=>intro k;rfl
   | cons o l' ih=>intro k;rw [bX,hrep];exact ih (k+1)
  exact this l 0
 rw [e,hg0] at h0
 exact h0
end
end Go.Proofs.YtldnlbcibmmbbaaGreat
