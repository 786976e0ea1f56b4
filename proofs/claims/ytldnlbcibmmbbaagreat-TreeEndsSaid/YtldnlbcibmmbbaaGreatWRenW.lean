/- The statements' kit: Copy.., Pick: what is copied reads as before. -/
import Derived.Test.YtldnlbcibmmbbaaGreatWLentQ
import Derived.Test.YtldnlbcibmmbbaaGreatWVerts
import Derived.Test.YtldnlbcibmmbbaaGreatWRef07
import Derived.Test.YtldnlbcibmmbbaaGreatWOnceC
import Derived.Test.YtldnlbcibmmbbaaGreatWAbsW
import Derived.Test.YtldnlbcibmmbbaaGreatWWit
set_option linter.unusedSimpArgs false
set_option linter.unusedVariables false
open Bool renaming and_self → Km, and_true → Kh, true_and → Kj, not_eq_eq_eq_not → Ku
open List renaming findIdx?_eq_some_iff_getElem → Kk, length_cons → I5, length_nil → IZ, replicate_succ → Kn, replicate_zero → Ko, cons_append → Kq, nil_append → Kr, take_of_length_le → KQ, getD_eq_getElem?_getD → JR, length_map → JQ, mem_cons_of_mem → JW, getElem?_of_mem → Jn, foldl_cons → Ks, foldl_nil → Kt
namespace Go.Proofs.YtldnlbcibmmbbaaGreat
open Go.RowKit
def Hv (x n:Int):Int:=if n<1 then 0 else if x.tmod n<0 then x.tmod n+n else x.tmod n
def Ha (q:dF):List cg:=q.conds.flatMap (fun c=>[c.left,c.right])++q.ret
def xQ (o:cg):Int:=if o.kind==1 then 2 else if o.kind==3 then o.val.kind else 0
def Eh (vs:List ByteArray):Option (List ByteArray)→cQ→Option (List ByteArray)
 | none,_=>none
 | some ns,p=>if eh p.name then some ns else if hasB ns p.name||hasB vs p.name then none else some (ns++[p.name])
def IP (vs:List ByteArray) (ps:List cQ):Option (List ByteArray):=ps.foldl (Eh vs) (some [])
/-! ### a map whose keys are texts -/
def IK (vs ns:List ByteArray):List (ByteArray×Int):=vs.map (·, 1)++ns.map (·, 2)
def CM (vs ns:List ByteArray) (o:cg):Bool:=if o.kind==1 then hasB vs o.name else if o.kind==2 then hasB ns o.name else true
def CB (c:ew):Bool:=xQ c.left !=0&&xQ c.right !=0&&xQ c.left !=xQ c.right
def Iy (q:dF):Int:=if aQ q then
  match IP (aA (ba q.ao)) q.ao with
  | none=>9
  | some ns=>if (Ha q).all (CM (aA (ba q.ao)) ns) then (if q.conds.any CB then 10 else 0) else 8
 else 2
theorem oO {s t:ByteArray}:dr s t=true↔s=t:=toList_inj
theorem uL {l:List ByteArray} {s:ByteArray}:hasB l s=true↔s∈l:=by
 rw [hasB,List.any_eq_true]
 constructor
 ·rintro ⟨x,h1,h2⟩;rw [oO.1 h2];exact h1
 ·intro h;exact ⟨s,h,oO.2 rfl⟩
def ID (l:List ByteArray):Prop:= ∀k (h:k<l.length),hasB (l.take k) l[k]=false
def aU (a b:List ByteArray) (s:ByteArray):ByteArray:=if iT a s<0 then s else b.getD (iT a s).toNat ⟨#[]⟩
def fg (f:ByteArray→ByteArray) (x:cg):cg:=if x.kind=1∨x.kind=2 then { x with name:=f x.name } else x
def gj (f:ByteArray→ByteArray) (p:cQ):cQ:={ p with aD:=f p.aD,to:=f p.to,name:=if eh p.name then p.name else f p.name }
def ib (f:ByteArray→ByteArray) (c:ew):ew:={ c with left:=fg f c.left,right:=fg f c.right }
def kA (f:ByteArray→ByteArray) (q:dF):dF:=⟨q.ao.map (gj f),q.conds.map (ib f),q.ret.map (fg f),q.range,q.cU⟩
def ku (a b:List ByteArray) (x:cg):cg:=fg (aU a b) x
theorem CT {s:ByteArray}:eh s=true↔s=⟨#[]⟩:=by
 unfold eh
 rw [decide_eq_true_eq]
 constructor
 ·intro h
  obtain ⟨a⟩:=s
  have:a.size=0:=h
  rw [Array.eq_empty_of_size_eq_zero this]
 ·rintro rfl;rfl
/-! ### names that stay unlike -/
structure IU (f:ByteArray→ByteArray):Prop where
 inj: ∀s t,f s=f t→s=t
 free: ∀s,cz (f s)=cz s
 no: ∀s,eh (f s)=eh s
/-! ### the order does not matter -/
def IT {α:Type} (k:Nat) (l:List α):List α:=l.drop k++l.take k
/-! ### where a name stands -/
theorem AW {a:List ByteArray} {s:ByteArray} (h:s∉a):iT a s = -1:=by
 unfold iT
 cases hf:a.findIdx? (fun x=>dr s x) with
 | none=>rfl
 | some k=>
  obtain ⟨hk,h1,_⟩:=Kk.1 hf
  exact absurd (oO.1 h1 ▸ List.getElem_mem hk) h
theorem wH (a:List ByteArray) (s:ByteArray):iT a s<a.length:=by
 unfold iT
 cases hf:a.findIdx? (fun x=>dr s x) with
 | none=>show (-1:Int)<_;omega
 | some k=>
  obtain ⟨hk,_⟩:=Kk.1 hf
  show (k:Int)<_;omega
theorem A6 {a b:List ByteArray} {s:ByteArray} (h:s∉a):aU a b s=s:=by rw [aU,AW h];rfl
def IL:List ByteArray:=[⟨#[97]⟩,⟨#[98]⟩,⟨#[99]⟩,⟨#[100]⟩,⟨#[101]⟩,⟨#[102]⟩,⟨#[103]⟩]
theorem kq (s:ByteArray):eh s=(s.toList==(⟨#[]⟩:ByteArray).toList):=by
 rw [Bool.eq_iff_iff,CT,beq_iff_eq]
 exact ⟨fun h=>by rw [h],fun h=>toList_inj.1 (by simpa using h)⟩
attribute [local go_sem] Oper.semAt_some
set_option maxRecDepth 100000 in
theorem zx (v:Value) (hv:v = .slice none 0 0∨ ∃a c,v = .slice (some a) 0 c) (w:World):Calls Tryz.prog 105 #[v] w fun e w'=>(e = .returned (.slice none 0 0)∨ ∃a,e = .returned (.slice (some a) 0 0))∧Below w.heap.size w w':=by
 rcases hv with rfl|⟨a,c,rfl⟩
 ·go_enter Tryz.func105,Tryz.ntmps105
  go_wp2_with fail
  rw [(lW (P:=Tryz.prog) (w:=w) (T:=41) (a:=none) (n:=0) (c:=0) (by kernel_rfl)).1]
  go_wp2_with fail
  exact bodyPost_ret (v:= .slice none 0 0) (by simp [results,Tryz.results105,go_sem]) rfl ⟨.inl rfl,Below.refl _ _⟩
 ·go_enter Tryz.func105,Tryz.ntmps105
  go_wp2_with fail
  rw [(lW (P:=Tryz.prog) (w:=w) (T:=41) (a:=some a) (n:=0) (c:=c) (by kernel_rfl)).1]
  go_wp2_with fail
  exact bodyPost_ret (v:= .slice (some ⟨w.heap.size,0,none⟩) 0 0) (by simp [results,Tryz.results105,go_sem]) rfl ⟨.inr ⟨_,rfl⟩,(Below.refl _ _).alloc (Nat.le_refl _) _⟩
set_option maxRecDepth 100000 in
theorem nR (a b:List ByteArray) (s:ByteArray) (hl:b.length=a.length) :
  ai Tryz.prog 69 [.v (.string s), .vp [aB a], .vp [aB b]] (.v (.string (aU a b s))):=by
 have C:=Dd a s
 have hi:=wH a s
 simp only [aB] at C ⊢
 rcases Int.lt_or_le (iT a s) 0 with h|h
 ·have eR:aU a b s=s:=by simp only [aU,if_pos h]
  have eB:decide (iT a s ≥ 0)=false:=by simp;omega
  rw [eR]
  (refine ai.enter Tryz.func69 rfl (by kernel_rfl) (by kernel_rfl) rfl (by first|rfl|(simp only [go_sem,Km,Kh,Kj])) (by first|rfl|(simp only [go_sem,Km,Kh,Kj])) ?_;simp only [Tryz.ntmps69,Tryz.results69,I5,IZ,Nat.reduceAdd,Nat.reduceSub,Kn,Ko,Kq,Kr])
  repeat' (first|(with_reducible first|refine ah.up ?_|refine fun (K:AK) hK=> ?_|(refine hK _ ?_;clear hK K))|simp only [go_sem,eB]|with_reducible refine wA ?_|clear hK K|(with_reducible refine aj.one (by assumption) ?_)|(with_reducible refine aw.one (by assumption) ?_)|(refine aO.part (fun hb=> ?_) (fun hb=> ?_)<;>simp only [hb,go_sem,eB])|(refine aO.part (fun hb=> ?_) (fun hb=> ?_))|(with_reducible refine bH.mk ?_ ?_))
 ·obtain ⟨k,hk⟩: ∃k:Nat,iT a s=(k:Int):=⟨(iT a s).toNat,by omega⟩
  rw [hk] at C hi h
  have hkl:k<b.length:=by omega
  have eG:=getD_map aT b k [] hkl
  simp only [aT] at eG
  have eR:aU a b s=b[k]:=by simp only [aU,hk];rw [if_neg (by omega),Int.toNat_natCast];simp [List.getD,hkl]
  rw [eR]
  have eB:decide ((k:Int) ≥ 0)=true:=by simp
  (refine ai.enter Tryz.func69 rfl (by kernel_rfl) (by kernel_rfl) rfl (by first|rfl|(simp only [go_sem,Km,Kh,Kj])) (by first|rfl|(simp only [go_sem,Km,Kh,Kj])) ?_;simp only [Tryz.ntmps69,Tryz.results69,I5,IZ,Nat.reduceAdd,Nat.reduceSub,Kn,Ko,Kq,Kr])
  repeat' (first|(with_reducible first|refine ah.up ?_|refine fun (K:AK) hK=> ?_|(refine hK _ ?_;clear hK K))|simp only [go_sem,eB,eG]|with_reducible refine wA ?_|clear hK K|(with_reducible refine aj.one (by assumption) ?_)|(with_reducible refine aw.one (by assumption) ?_)|(refine aO.part (fun hb=> ?_) (fun hb=> ?_)<;>simp only [hb,go_sem,eB,eG])|(refine aO.part (fun hb=> ?_) (fun hb=> ?_))|(with_reducible refine bH.mk ?_ ?_))
def BW (a b:List ByteArray):AV:= .fn 69 [] [.vp [aB a], .vp [aB b]]
set_option maxRecDepth 100000 in
theorem kQ (a b:List ByteArray) (x:cg) (hl:b.length=a.length) :
  ai Tryz.prog 71 [.agg (aN x), .vp [BW a b]] (.agg (aN (ku a b x))):=by
 have C:=nR a b x.name hl
 obtain ⟨kd,nm,ky,vl⟩:=x
 have e1:kd=1∨kd=2→ku a b ⟨kd,nm,ky,vl⟩=⟨kd,aU a b nm,ky,vl⟩:=fun h=>by simp [ku,fg,h]
 have e2: ¬(kd=1∨kd=2)→ku a b ⟨kd,nm,ky,vl⟩=⟨kd,nm,ky,vl⟩:=fun h=>by simp only [ku,fg];rw [if_neg h]
 simp only [BW,aB,aN] at C ⊢
 generalize ku a b ⟨kd,nm,ky,vl⟩=y at e1 e2 ⊢
 (refine ai.enter Tryz.func71 rfl (by kernel_rfl) (by kernel_rfl) rfl (by first|rfl|(simp only [go_sem,Km,Kh,Kj])) (by first|rfl|(simp only [go_sem,Km,Kh,Kj])) ?_;simp only [Tryz.ntmps71,Tryz.results71,I5,IZ,Nat.reduceAdd,Nat.reduceSub,Kn,Ko,Kq,Kr])
 repeat' (first|(with_reducible first|refine ah.up ?_|refine fun (K:AK) hK=> ?_|(refine hK _ ?_;clear hK K))|simp only [go_sem]|clear hK K|(with_reducible refine aj.one (by assumption) ?_)|(with_reducible refine aw.one (by assumption) ?_)|(refine aO.part (fun hb=> ?_) (fun hb=> ?_)<;>simp only [hb,go_sem])|(refine aO.part (fun hb=> ?_) (fun hb=> ?_))|(with_reducible refine bH.mk ?_ ?_))
 ·rw [e1 (.inl (by simpa using hb))];(refine ju.of 40 rfl ?_;simp only [go_sem])
 ·rw [e1 (.inr (by simpa using hb))];(refine ju.of 40 rfl ?_;simp only [go_sem])
 ·rename_i hb1
  rw [e2 (by simp at hb hb1;simp [hb,hb1])];(refine ju.of 40 rfl ?_;simp only [go_sem])
theorem im {α:Type} {l:List α} {n:Nat} (h:l.length=n):l.take n=l:=KQ (by omega)
def gL {α β:Type} (f g:α→β) (l:List α) (i:Nat):List β:=(l.take i).map f++(l.drop i).map g
theorem pc {α β:Type} (f g:α→β) (l:List α) (i:Nat):(gL f g l i).length=l.length:=by simp [gL];omega
theorem p7 {α β:Type} (f g:α→β) (l:List α):gL f g l 0=l.map g:=by simp [gL]
theorem n8 {α β:Type} (f g:α→β) (l:List α):gL f g l l.length=l.map f:=by simp [gL]
theorem oy {α β:Type} (f g:α→β) (l:List α) (i:Nat) (h:i<l.length) (d:β):(gL f g l i).getD i d=g l[i]:=by
 rw [JR,gL,List.getElem?_append_right (by simp;omega)]
 simp only [JQ,List.length_take,Nat.min_eq_left (Nat.le_of_lt h),Nat.sub_self,List.getElem?_map,List.getElem?_drop,Nat.add_zero,List.getElem?_eq_getElem h]
 rfl
theorem p9 {α β:Type} (f g:α→β) (l:List α) (i:Nat) (h:i<l.length):(gL f g l i).set i (f l[i])=gL f g l (i+1):=by
 rw [gL,List.set_append_right _ _ (by simp;omega),gL,List.take_succ_eq_append_getElem h,List.map_append,List.append_assoc]
 congr 1
 simp only [JQ,List.length_take,Nat.min_eq_left (Nat.le_of_lt h),Nat.sub_self]
 rw [List.drop_eq_getElem_cons h]
 rfl
theorem lz {α:Type} {f g:α→List AV} {l:List α} {i n:Nat} (hf:ct n (l.map f)=true) (hg:ct n (l.map g)=true):ct n (gL f g l i)=true:=by
 have key: ∀(l:List (List AV)),(∀x,x∈l→bB n x=true)→ct n l=true:=fun l=>by
  induction l with
  | nil=>intro _;rfl
  | cons x l ih=>intro h;simp only [ct,Bool.and_eq_true];exact ⟨h x List.mem_cons_self,ih (fun y hy=>h y (JW _ hy))⟩
 refine key _ (fun x hx=> ?_)
 rcases List.mem_append.1 hx with hx|hx
 ·obtain ⟨y,hy,rfl⟩:=List.mem_map.1 hx
  obtain ⟨k,hk⟩:=Jn (List.mem_map_of_mem (f:=f) (List.mem_of_mem_take hy))
  exact fa hf hk
 ·obtain ⟨y,hy,rfl⟩:=List.mem_map.1 hx
  obtain ⟨k,hk⟩:=Jn (List.mem_map_of_mem (f:=g) (List.mem_of_mem_drop hy))
  exact fa hg hk
def IE (a b:List ByteArray) (ps:List cQ) (i:Nat):List (List AV):=gL (fun p=>bo (gj (aU a b) p)) bo ps i
def qm (a b:List ByteArray) (cs:List ew) (i:Nat):List (List AV):=gL (fun c=>bg (ib (aU a b) c)) bg cs i
theorem xx (a b:List ByteArray) (cs:List ew) (i n:Nat):ct n (qm a b cs i)=true:=lz (by have:=de n (cs.map (ib (aU a b)));rw [List.map_map] at this;exact this) (de n cs)
theorem Ag (a b:List ByteArray) (cs:List ew):qm a b cs cs.length=(cs.map (ib (aU a b))).map bg:=by rw [qm,n8,List.map_map];rfl
theorem kF {α:Type} {l:List α} {i:Nat} (h:i<l.length) (x d:α):(l.set i x).getD i d=x:=by
 rw [JR,List.getElem?_set_self h];rfl
theorem yR:ai Tryz.prog 105 [.an 3 [] 0] (.full (.an 3 [] 0)):=by
 refine ⟨⟨rfl,rfl⟩,by kernel_rfl,fun D nu w vargs hro hra=> ?_⟩
 obtain ⟨x,rfl,hx⟩:=gV hra
 have hv:x = .slice none 0 0∨ ∃a c,x = .slice (some a) 0 c:=by
  cases hx with
  | aL=>exact .inl rfl
  | aW _ a=>exact .inr ⟨_,_,rfl⟩
  | an=>exact .inr ⟨_,_,rfl⟩
 refine (zx x hv w).mono ?_
 rintro e w' ⟨he,hb⟩
 rcases he with rfl|⟨a,rfl⟩
 ·exact ⟨_,nu,[], .full (.an 3 [] 0),rfl,ax hb,hro.below hb, .full _ _ ⟨_,_,rfl⟩ (.aL 3),rfl,rfl⟩
 ·exact ⟨_,nu,[], .full (.an 3 [] 0),rfl,ax hb,hro.below hb, .full _ _ ⟨_,_,rfl⟩ (.aW 3 a),rfl,rfl⟩
set_option maxRecDepth 100000 in
theorem Bj (A:Nat→Prop) (l:List Ex) (hl:l.length≤1000000) (h0:l≠[]):dz Tryz.prog 105 [.an 3 (l.map (fh A)) l.length] [] (.vec 0 l.length) [some ⟨43,3,true,l.map (fh A)⟩]:=by
 have hne:(l.map (fh A)=[])=False:=eq_false (by simpa using h0)
 have hW:=jd A
 (refine dz.enter Tryz.func105 rfl (by kernel_rfl) (by kernel_rfl) rfl ?_;simp only [Tryz.ntmps105,Tryz.results105,I5,IZ,Nat.reduceAdd,Nat.reduceSub,Kn,Ko,Kq,Kr])
 have eT:List.take l.length (List.map (fh A) l)=List.map (fh A) l:=KQ (by simp)
 repeat' (first|(with_reducible first|refine ah.up ?_|refine fun (K:AK) hK=> ?_|(refine hK _ ?_;clear hK K))|simp only [go_sem,hne,ne_eq,not_false_eq_true,n7,eT,JQ]|with_reducible refine wA ?_|clear hK K|(with_reducible refine aj.one (by assumption) ?_)|(with_reducible refine aw.one (by assumption) ?_)|(refine aO.part (fun hb=> ?_) (fun hb=> ?_)<;>simp only [hb,go_sem,hne,ne_eq,not_false_eq_true,n7,eT,JQ])|(refine aO.part (fun hb=> ?_) (fun hb=> ?_))|(with_reducible refine bH.mk ?_ ?_))
 (refine ⟨?_, ?_, ?_⟩<;>simp only [bu,bt,AV.v.injEq,Value.int.injEq,Value.bool.injEq,Value.string.injEq,AV.vec.injEq,AV.ptr.injEq,true_or,or_true,false_or,or_false,ab.mk.injEq,forall_eq_apply_imp_iff,forall_eq,forall_eq',go_sem])
set_option maxRecDepth 100000 in
set_option maxHeartbeats 2000000 in
theorem vU (A:Nat→Prop) (k:Int) (s:ByteArray) (l:List Ex) (hl:l.length≤1000000) (H: ∀x,x∈l→ai Tryz.prog 72 [.agg (fh A x)] (.agg (dZ A x))) :
  ai Tryz.prog 72 [.agg (fh A (.mk k s l))] (.agg (dZ A (.mk k s l))):=by
 have hW:=jd A
 have hF:=iN A
 have hwf:bB 0 [.agg (fh A (.mk k s l))]=true:=by simp only [bB,AV.wf,pC,Km]
 rw [lR] at hwf ⊢
 simp only [Ex.kind,Ex.label,Ex.kids] at hwf ⊢
 by_cases h0:l=[]
 ·subst h0
  have C:=yR
  refine ai.wZ Tryz.func72 rfl (by kernel_rfl) (by kernel_rfl) rfl hwf (by rw [AV.wf,lr]) ?_
  simp only [Tryz.ntmps72,Tryz.results72,I5,IZ,Nat.reduceAdd,Nat.reduceSub,Kn,Ko,Kq,Kr]
  repeat' (first|(with_reducible first|refine ah.up ?_|refine fun (K:AK) hK=> ?_|refine af (by decide) ?_|refine ae (by decide) ?_|(refine hK _ ?_;clear hK K))|simp only [go_sem,List.map_nil,IZ]|with_reducible refine wA ?_|clear hK K|(with_reducible refine aj.one (by assumption) ?_)|(with_reducible refine aw.one (by assumption) ?_)|(refine aO.part (fun hb=> ?_) (fun hb=> ?_)<;>simp only [hb,go_sem,List.map_nil,IZ])|(refine aO.part (fun hb=> ?_) (fun hb=> ?_))|(with_reducible refine bH.mk ?_ ?_))
  refine bE (ι:=Nat) 12 (fun i=>[(11, .v (.int .i64 0)),(3, .undef)]) (fun _=>0) (fun _=>True) 0 trivial ?_ ?_
  ·(refine au ?_ ?_ ?_<;>simp only [aD,Ks,Kt,Kn,Ko,bu,bt,AV.v.injEq,Value.int.injEq,Value.bool.injEq,Value.string.injEq,AV.vec.injEq,AV.ptr.injEq,true_or,or_true,false_or,or_false,ab.mk.injEq,forall_eq_apply_imp_iff,forall_eq,forall_eq',go_sem])
   all_goals rfl
  ·intro i hi K hK
   repeat (first|(with_reducible first|refine ah.up ?_|refine fun (K:AK) hK=> ?_|refine af (by decide) ?_|refine ae (by decide) ?_|(refine hK _ ?_;clear hK K))|simp only [go_sem]|with_reducible refine wA ?_|clear hK K)
   refine aO.part (fun h=> ?_) (fun h=> ?_)
   ·simp at h
   ·repeat (first|(with_reducible first|refine ah.up ?_|refine fun (K:AK) hK=> ?_|refine af (by decide) ?_|refine ae (by decide) ?_|(refine hK _ ?_;clear hK K))|simp only [go_sem,h]|with_reducible refine wA ?_|clear hK K)
    exact uo k s
 ·have C:=Bj A l hl h0
  refine ai.wZ Tryz.func72 rfl (by kernel_rfl) (by kernel_rfl) rfl hwf (by rw [AV.wf,lr]) ?_
  simp only [Tryz.ntmps72,Tryz.results72,I5,IZ,Nat.reduceAdd,Nat.reduceSub,Kn,Ko,Kq,Kr]
  repeat' (first|(with_reducible first|refine ah.up ?_|refine fun (K:AK) hK=> ?_|refine af (by decide) ?_|refine ae (by decide) ?_|(refine hK _ ?_;clear hK K))|simp only [go_sem]|with_reducible refine wA ?_|clear hK K|(with_reducible refine aj.one (by assumption) ?_)|(with_reducible refine aw.one (by assumption) ?_)|(refine aO.part (fun hb=> ?_) (fun hb=> ?_)<;>simp only [hb,go_sem])|(refine aO.part (fun hb=> ?_) (fun hb=> ?_))|(with_reducible refine bH.mk ?_ ?_))
  refine aj.fr [] C (by simp) ?_ ?_ ?_ ?_ ?_
  ·simp only [go_sem,Km]
  ·repeat (first|(with_reducible first|refine ah.up ?_|refine fun (K:AK) hK=> ?_|refine af (by decide) ?_|refine ae (by decide) ?_|(refine hK _ ?_;clear hK K))|simp only [go_sem]|with_reducible refine wA ?_|clear hK K)
  ·repeat (first|(with_reducible first|refine ah.up ?_|refine fun (K:AK) hK=> ?_|refine af (by decide) ?_|refine ae (by decide) ?_|(refine hK _ ?_;clear hK K))|simp only [go_sem]|with_reducible refine wA ?_|clear hK K)
  ·intro k ob hk;simp at hk
  repeat' (first|(with_reducible first|refine ah.up ?_|refine fun (K:AK) hK=> ?_|refine af (by decide) ?_|refine ae (by decide) ?_|(refine hK _ ?_;clear hK K))|simp only [go_sem]|with_reducible refine wA ?_|clear hK K|(with_reducible refine aj.one (by assumption) ?_)|(with_reducible refine aw.one (by assumption) ?_)|(refine aO.part (fun hb=> ?_) (fun hb=> ?_)<;>simp only [hb,go_sem])|(refine aO.part (fun hb=> ?_) (fun hb=> ?_))|(with_reducible refine bH.mk ?_ ?_))
  refine ec (ι:=Nat) 12 (fun i=>[(11, .v (.int .i64 i)),(3, .undef)]) (fun i=>[some ⟨43,3,false,[[.v (.int .i64 k), .aV (nr A) (.v (.string s)), .vec 2 l.length]]⟩,some ⟨43,3,false,[[.v (.int .i64 0), .v (.string ⟨#[]⟩), .v (.slice none 0 0)]]⟩,some ⟨43,3,true,gL (dZ A) (fh A) l i⟩]) (fun i=>l.length - i) (fun i=>i≤l.length) 0 (by omega) ?_ ?_
  ·(refine au ?_ ?_ ?_<;>simp only [aD,Ks,Kt,Kn,Ko,bu,bt,AV.v.injEq,Value.int.injEq,Value.bool.injEq,Value.string.injEq,AV.vec.injEq,AV.ptr.injEq,true_or,or_true,false_or,or_false,ab.mk.injEq,forall_eq_apply_imp_iff,forall_eq,forall_eq',go_sem])
   all_goals first|exact (p7 _ _ _).symm|rfl|(refine ⟨(p7 _ _ _).symm, ?_⟩;exact lz (iN A _ _) (jd A _ _))|skip
  ·intro i hi K hK
   repeat (first|(with_reducible first|refine ah.up ?_|refine fun (K:AK) hK=> ?_|refine af (by decide) ?_|refine ae (by decide) ?_|(refine hK _ ?_;clear hK K))|simp only [go_sem]|with_reducible refine wA ?_|clear hK K)
   refine aO.part (fun h=> ?_) (fun h=> ?_)
   ·have hlt:i<l.length:=by (try simp only [bne_iff_ne,ne_eq,bne_eq_false_iff_eq,beq_iff_eq,beq_eq_false_iff_ne,decide_eq_true_eq,decide_eq_false_iff_not,Ku,Int.natCast_inj,Int.ofNat_lt,Int.ofNat_le] at h);omega
    have eW:=ar (k:=i) (by omega)
    have eL:(gL (dZ A) (fh A) l i).length=l.length:=pc _ _ _ _
    have eG:(gL (dZ A) (fh A) l i).getD i []=fh A l[i]:=oy _ _ _ _ hlt _
    have eS:(gL (dZ A) (fh A) l i).set i (dZ A l[i])=gL (dZ A) (fh A) l (i+1):=p9 _ _ _ _ hlt
    have wP: ∀n,ct n (gL (dZ A) (fh A) l i)=true:=fun n=>lz (iN A n l) (jd A n l)
    have HX:=H l[i] (List.getElem_mem hlt)
    rw [gU] at eS
    rw [lR] at eG
    rw [lR,gU] at HX
    generalize gL (dZ A) (fh A) l i=r at eL eG eS wP ⊢
    repeat (first|(with_reducible first|refine ah.up ?_|refine fun (K:AK) hK=> ?_|refine af (by decide) ?_|refine ae (by decide) ?_|(refine hK _ ?_;clear hK K))|simp only [go_sem,h]|with_reducible refine wA ?_|clear hK K)
    refine ck [10] [] (by decide+kernel) (by kernel_rfl) ?_
    repeat (first|(with_reducible first|refine ah.up ?_|refine fun (K:AK) hK=> ?_|refine af (by decide) ?_|refine ae (by decide) ?_|(refine hK _ ?_;clear hK K))|simp only [go_sem,eG,eL]|with_reducible refine wA ?_|clear hK K)
    refine aw.one HX ?_
    repeat (first|(with_reducible first|refine ah.up ?_|refine fun (K:AK) hK=> ?_|refine af (by decide) ?_|refine ae (by decide) ?_|(refine hK _ ?_;clear hK K))|simp only [go_sem,eG,eL,eW,eS]|with_reducible refine wA ?_|clear hK K)
    exact aC.mk (i+1) (by omega) (by omega) (by (refine au ?_ ?_ ?_<;>simp only [aD,Ks,Kt,Kn,Ko,bu,bt,AV.v.injEq,Value.int.injEq,Value.bool.injEq,Value.string.injEq,AV.vec.injEq,AV.ptr.injEq,true_or,or_true,false_or,or_false,ab.mk.injEq,forall_eq_apply_imp_iff,forall_eq,forall_eq',go_sem]);exact lz (iN A _ _) (jd A _ _))
   ·have hi':i=l.length:=by (try simp only [bne_iff_ne,ne_eq,bne_eq_false_iff_eq,beq_iff_eq,beq_eq_false_iff_ne,decide_eq_true_eq,decide_eq_false_iff_not,Ku,Int.natCast_inj,Int.ofNat_lt,Int.ofNat_le] at h);omega
    simp only [hi',n8]
    repeat (first|(with_reducible first|refine ah.up ?_|refine fun (K:AK) hK=> ?_|refine af (by decide) ?_|refine ae (by decide) ?_|(refine hK _ ?_;clear hK K))|simp only [go_sem,h]|with_reducible refine wA ?_|clear hK K)
    exact va k s l hl rfl
set_option maxRecDepth 100000 in
theorem zt (A:Nat→Prop) (x:Ex) (hx:x.lens 1000000):ai Tryz.prog 72 [.agg (fh A x)] (.agg (dZ A x)):=by
 induction x using Ex.ind with
 | h k s l ih=>
  have hk: ∀y,y∈l→y.lens 1000000:=fun y hy z hz=>hx z (by rw [ak,bJ];exact JW _ (List.mem_flatMap.2 ⟨y,hy,hz⟩))
  exact vU A k s l (hx (.mk k s l) (by rw [ak];exact List.mem_cons_self)) (fun y hy=>ih y hy (hk y hy))
end Go.Proofs.YtldnlbcibmmbbaaGreat
