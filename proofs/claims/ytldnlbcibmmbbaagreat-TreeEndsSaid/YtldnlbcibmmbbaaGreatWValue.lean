/- name.letter, name.Vertex -/
import Derived.Test.YtldnlbcibmmbbaaGreatProg
import Derived.Test.YtldnlbcibmmbbaaGreatWBase
import Derived.Test.YtldnlbcibmmbbaaGreatWBase2
set_option linter.unusedSimpArgs false
set_option linter.unusedVariables false
open Bool renaming true_and → Kj
open List renaming findIdx?_eq_some_iff_getElem → Kk, findIdx?_eq_none_iff → Kl
open Nat renaming le_refl → IV
/-! name.letter, name.Vertex -/
namespace Go.Proofs.YtldnlbcibmmbbaaGreat
open Go.RowKit
set_option maxHeartbeats 400000 in
theorem kY (c:Int) (w:World):Calls Tryz.prog 93 #[.int .i32 c] w fun e w'=>e = .returned (.bool (jy c))∧w=w':=by
 unfold jy
 by_cases h1:97≤c
 ·have d1:decide (97≤c)=true:=by simpa using h1
  rw [d1,Kj]
  go_enter Tryz.func93,Tryz.ntmps93
  go_wp2_with fail
  go_ret
  exact ⟨rfl,rfl⟩
 ·have d1:decide (97≤c)=false:=by simpa using h1
  rw [d1,Bool.false_and]
  go_enter Tryz.func93,Tryz.ntmps93
  go_wp2_with fail
  go_ret
  exact ⟨rfl,rfl⟩
theorem uV (c:Int):(jy c=true∧dI c=true)∨(jy c=false∧(c !=95)=false∧dI c=true)∨(jy c=false∧(c !=95)=true∧c<48∧dI c=false) ∨
  (jy c=false∧(c !=95)=true∧48≤c∧57<c∧dI c=false)∨(jy c=false∧(c !=95)=true∧48≤c∧c≤57∧dI c=true):=by
 unfold dI
 cases h:jy c
 ·by_cases h1:c=95
  ·subst h1;exact .inr (.inl ⟨rfl,rfl,rfl⟩)
  ·have hn:(c==95)=false:=by simpa using h1
   have hn':(c !=95)=true:=by simpa using h1
   rw [hn,hn']
   by_cases h2:48≤c
   ·by_cases h3:c≤57
    ·exact .inr (.inr (.inr (.inr ⟨rfl,rfl,h2,h3,by simp [h2,h3]⟩)))
    ·exact .inr (.inr (.inr (.inl ⟨rfl,rfl,h2,by omega,by simp [h3]⟩)))
   ·exact .inr (.inr (.inl ⟨rfl,rfl,by omega,by simp [h2]⟩))
 ·exact .inl ⟨rfl,by simp⟩
set_option maxRecDepth 100000 in
set_option maxHeartbeats 2000000 in
theorem u6 (s:ByteArray) (w:World) (hs:s.size≤maxLen):Calls Tryz.prog 92 #[.string s] w (fU w (.bool (gJ s))):=by
 unfold maxLen at hs
 have hit: ∀pos,Below w.heap.size w (w.iter s pos):=fun pos=>(Below.refl _ _).alloc (IV _) _
 have HI:=Lib.hid hit;clear hit
 go_enter Tryz.func92,Tryz.ntmps92
 go_wp2_with fail
 go_loopw [2] (fun r wr=>r = .bool false∧ ∃pos:Nat,wr=w.iter s pos∧pos≤s.size∧ ∀j (h:j<pos) (h':j<s.size),dI s[j].toNat=true) (fun _ wr=>s.size - wr.iterPos w.heap.size)
 case atStart=>exact ⟨rfl,0,rfl,Nat.zero_le _,fun j h=>by omega⟩
 case round=>
  obtain ⟨rfl,pos,rfl,hpos,hP⟩:=hrel
  have HP:=Lib.hid hP;clear hP
  by_cases hp:pos<s.size
  ·by_cases ha:(s[pos]'hp).toNat<128
   ·have hnx: ∀ty,(Instr.next (.pointer (some ⟨w.heap.size,0,none⟩)) true ty).run Tryz.prog (w.iter s pos)=_:=fun ty=>run_next_ascii w s pos ty hp ha
    have HV:=Lib.hid (@tG s pos hp)
    have HS:Hid (∀(hv:dI (s[pos]'hp).toNat=true) j (h:j<pos+1) (h':j<s.size),dI s[j].toNat=true):=fun hv j h h'=>by
     by_cases e:j=pos
     ·subst e;exact hv
     ·exact HP.out j (by omega) h'
    have hL:=fun W=>kY (((s[pos]'hp).toNat:Nat):Int) W
    generalize hn:(s[pos]'hp).toNat=n at hnx ha HV HS hL
    have HN:=Lib.hid hn;clear hn
    have HL:=Lib.hid hL;clear hL
    rcases uV (n:Int) with ⟨g1,g2⟩|⟨g1,g2,g3⟩|⟨g1,g2,g3,g4⟩|⟨g1,g2,g3,g4,g5⟩|⟨g1,g2,g3,g4,g5⟩
    ·rw [g1] at HL
     clear g1
     have HG:=Lib.hid g2;clear g2
     go_wp2_with (go_at_call 93;refine (HL.out _).mono ?_;rintro e w' ⟨rfl,rfl⟩)
     go_roundw
     case rel=>exact ⟨rfl,pos+1,rfl,by omega,HS.out HG.out⟩
     case measure=>simp;omega
    ·rw [g1] at HL
     clear g1
     have HG:=Lib.hid g3;clear g3
     go_wp2_with (go_at_call 93;refine (HL.out _).mono ?_;rintro e w' ⟨rfl,rfl⟩)
     go_roundw
     case rel=>exact ⟨rfl,pos+1,rfl,by omega,HS.out HG.out⟩
     case measure=>simp;omega
    ·rw [g1] at HL
     clear g1
     have HG:=Lib.hid g4;clear g4
     go_wp2_with (go_at_call 93;refine (HL.out _).mono ?_;rintro e w' ⟨rfl,rfl⟩)
     go_ret
     exact aq rfl (HV.out HG.out).symm (HI.out _)
    ·rw [g1] at HL
     clear g1
     have HG:=Lib.hid g5;clear g5
     go_wp2_with (go_at_call 93;refine (HL.out _).mono ?_;rintro e w' ⟨rfl,rfl⟩)
     go_ret
     exact aq rfl (HV.out HG.out).symm (HI.out _)
    ·rw [g1] at HL
     clear g1
     have HG:=Lib.hid g5;clear g5
     go_wp2_with (go_at_call 93;refine (HL.out _).mono ?_;rintro e w' ⟨rfl,rfl⟩)
     go_roundw
     case rel=>exact ⟨rfl,pos+1,rfl,by omega,HS.out HG.out⟩
     case measure=>simp;omega
   ·have hnx: ∀ty,(Instr.next (.pointer (some ⟨w.heap.size,0,none⟩)) true ty).run Tryz.prog (w.iter s pos)=_:=fun ty=>run_next_any w s pos ty hp
    have hd:=(decode_high s pos hp (by omega)).1
    have HV:=Lib.hid (tG hp (by
     have hl:jy (((s[pos]'hp).toNat:Nat):Int)=false:=by unfold jy;simp;omega
     unfold dI;rw [hl];simp;omega))
    have hL:=fun W=>kY (((Utf8.decode s pos).1:Nat):Int) W
    generalize (Utf8.decode s pos).1=n at hnx hd hL
    generalize (Utf8.decode s pos).2=m at hnx
    have hl:jy (n:Int)=false:=by unfold jy;simp;omega
    rw [hl] at hL
    have hn:((n:Int) !=95)=true:=by simp;omega
    have HL:=Lib.hid hL;clear hL hl ha
    go_wp2_with (go_at_call 93;refine (HL.out _).mono ?_;rintro e w' ⟨rfl,rfl⟩)
    go_ret
    exact aq rfl HV.out.symm (HI.out _)
  ·have hnx: ∀ty,(Instr.next (.pointer (some ⟨w.heap.size,0,none⟩)) true ty).run Tryz.prog (w.iter s pos)=_:=fun ty=>run_next_end w s pos ty hp
   have HV:=Lib.hid (zp (s:=s) (fun j h=>HP.out j (by omega) h))
   have he:=dk s
   by_cases h0:s.size=0
   ·rw [decide_eq_true h0] at he
    have hx:Hid ((decide (1≤s.size)&&decide (s.size≤20))=false):=by show _=_;simp [h0]
    clear h0
    go_wp2_with fail
    go_ret
    exact aq rfl (by rw [HV.out,hx.out]) (HI.out _)
   ·rw [decide_eq_false h0] at he
    have hx:Hid ((decide (1≤s.size)&&decide (s.size≤20))=decide (s.size≤20)):=by show _=_;rw [decide_eq_true (by omega),Kj]
    go_wp2_with fail
    go_ret
    exact aq rfl (by rw [HV.out,hx.out,decide_eq_decide];omega) (HI.out _)
/-! slices.Index, slices.Contains of texts -/
def iT (xs:List ByteArray) (s:ByteArray):Int:=match xs.findIdx? (fun x=>dr s x) with|some k=>k|none=> -1
def hasB (xs:List ByteArray) (s:ByteArray):Bool:=xs.any (fun x=>dr s x)
theorem yc {xs:List ByteArray} {s:ByteArray} {k:Nat} (hk:k<xs.length) (hx:dr s xs[k]=true) (h: ∀j (_:j<k) (h':j<xs.length),dr s xs[j]=false):iT xs s=k:=by
 have:xs.findIdx? (fun x=>dr s x)=some k:=by
  rw [Kk]
  exact ⟨hk,hx,fun j hj=>by rw [h j hj (by omega)];decide⟩
 rw [iT,this]
theorem zD {xs:List ByteArray} {s:ByteArray} (h: ∀j (h:j<xs.length),dr s xs[j]=false):iT xs s = -1:=by
 have:xs.findIdx? (fun x=>dr s x)=none:=by
  rw [Kl]
  intro x hx
  obtain ⟨j,hj,rfl⟩:=List.getElem_of_mem hx
  exact h j hj
 rw [iT,this]
theorem Aa (xs:List ByteArray) (s:ByteArray):decide (0≤iT xs s)=hasB xs s:=by
 unfold iT hasB
 cases h:xs.findIdx? (fun x=>dr s x) with
 | none=>
  rw [Kl] at h
  simp only [show decide ((0:Int) ≤ -1)=false by decide]
  rw [eq_comm,List.any_eq_false]
  exact fun x hx=>by rw [h x hx];decide
 | some k=>
  rw [Kk] at h
  obtain ⟨h1,h2,_⟩:=h
  rw [decide_eq_true (by simp),eq_comm,List.any_eq_true]
  exact ⟨xs[k],List.getElem_mem _,h2⟩
set_option maxRecDepth 100000 in
set_option maxHeartbeats 2000000 in
theorem rb (xs:List ByteArray) (v:Value) (s:ByteArray) (w:World) (h1:ez w xs v) :
  Calls Tryz.prog 70 #[v, .string s] w (wC w (.int .i64 (iT xs s))):=by
 obtain ⟨p,c,rfl,hc1,hc2⟩:=h1.shape
 unfold maxLen at hc2
 have H1:=Lib.hid h1;clear h1
 go_enter Tryz.func70,Tryz.ntmps70
 go_wp2_with fail
 go_loop [4,8] (fun r i=>r = .int .i64 0∧ ∃k:Nat,k≤xs.length∧i = .int .i64 k∧ ∀j (h:j<k) (h':j<xs.length),dr s xs[j]=false) (fun _ i=>xs.length - (intOf i).toNat)
 case atStart=>exact ⟨rfl,0,Nat.zero_le _,rfl,fun j h=>by omega⟩
 case round=>
  obtain ⟨rfl,k,hk,rfl,hP⟩:=hrel
  have HP:=Lib.hid hP;clear hP
  by_cases hlt:k<xs.length
  ·obtain ⟨b1,o1,rfl,a0⟩:=lZ H1.out hlt
   cases hs:dr s xs[k]
   ·have HS:=Lib.hid hs
    unfold dr at hs
    go_wp2_with fail
    go_round
    case rel=>exact ⟨rfl,k+1,by omega,by go_num,fun j h h'=>by
     by_cases e:j=k
     ·subst e;exact HS.out
     ·exact HP.out j (by omega) h'⟩
    case measure=>simp [intOf];omega
   ·have HS:=Lib.hid hs
    unfold dr at hs
    go_wp2_with fail
    go_ret
    exact Bg rfl (yc hlt HS.out HP.out).symm
  ·go_wp2_with fail
   go_ret
   exact Bg rfl (zD (fun j h=>HP.out j (by omega) h)).symm
set_option maxRecDepth 100000 in
set_option maxHeartbeats 1000000 in
theorem iX (xs:List ByteArray) (v:Value) (s:ByteArray) (w:World) (h1:ez w xs v) :
  Calls Tryz.prog 94 #[v, .string s] w (wC w (.bool (hasB xs s))):=by
 have HC:=Lib.hid (rb xs v s w h1);clear h1
 rw [←Aa]
 go_enter Tryz.func94,Tryz.ntmps94
 go_wp2_with fail
 refine HC.out.mono ?_
 rintro e w' ⟨rfl,rfl⟩
 go_wp2_with fail
 go_ret
 exact ⟨rfl,rfl⟩
end Go.Proofs.YtldnlbcibmmbbaaGreat
/-! name.Free -/
namespace Go.Proofs.YtldnlbcibmmbbaaGreat
open Go.RowKit
set_option maxRecDepth 100000 in
set_option maxHeartbeats 2000000 in
theorem gD (s:ByteArray) (w:World) (hs:s.size≤maxLen):Calls Tryz.prog 53 #[.string s] w (fU w (.bool (cz s))):=by
 have HV:=Lib.hid (fun W=>u6 s W hs)
 have HB:=Lib.hid (fun o=>((Below.refl w.heap.size w).alloc (IV _) o))
 have HW:Hid (∀W1,Below (w.alloc (.cells (words.map Value.string).toArray 9)).heap.size (w.alloc (.cells (words.map Value.string).toArray 9)) W1→Calls Tryz.prog 94 #[.slice (some ⟨w.heap.size,0,none⟩) 7 7, .string s] W1 (wC W1 (.bool (hasB words s)))):=fun W1 hb=>
  iX words _ s W1 (jc (rd:=xO) (xs:=words) (sz:=1) ((hb.block _ (by simp)).trans (aX w _)) (fun x=>[Value.string x]) (fun x _=>rfl) (fun x _=>rfl) (by simp [List.flatMap,words]) rfl (by decide) (by unfold maxLen;decide))
 cases g1:gJ s
 ·rw [g1] at HV
  have hfin:cz s=false:=by simp [cz,g1]
  rw [hfin];clear hfin
  have G1:=Lib.hid g1;clear g1 HW
  go_enter Tryz.func53,Tryz.ntmps53
  go_wp2_with fail
  refine (HV.out _).mono ?_
  rintro e w1 ⟨rfl,hb1⟩
  go_wp2_with fail
  go_ret
  exact aq rfl rfl (aa (HB.out _) hb1)
 ·rw [g1] at HV
  obtain ⟨h0,_⟩:=oR g1
  have hl:=fun W=>kY (kU s) W
  have hfin:cz s=(jy (kU s) && !hasB words s):=by simp [cz,g1,hasB]
  rw [hfin];clear hfin
  have hfi:kU s=((s[0]'h0).toNat:Int):=by simp [kU,h0]
  rw [hfi] at hl
  rw [hfi]
  have HL:=Lib.hid hl;clear hl hfi
  have hby:(s[0]'h0).toNat<256:=UInt8.toNat_lt _
  cases g2:jy ((s[0]'h0).toNat:Int)
  ·rw [g2] at HL
   rw [Bool.false_and]
   clear g2
   go_enter Tryz.func53,Tryz.ntmps53
   go_wp2_with fail
   refine (HV.out _).mono ?_
   rintro e w1 ⟨rfl,hb1⟩
   go_wp2_with fail
   refine (HL.out _).mono ?_
   rintro e w' ⟨rfl,rfl⟩
   go_wp2_with fail
   go_ret
   exact aq rfl rfl (aa (HB.out _) hb1)
  ·rw [g2] at HL
   rw [Kj]
   clear g2
   go_enter Tryz.func53,Tryz.ntmps53
   go_wp2_with fail
   refine (HV.out _).mono ?_
   rintro e w1 ⟨rfl,hb1⟩
   go_wp2_with fail
   refine (HL.out _).mono ?_
   rintro e w' ⟨rfl,rfl⟩
   go_wp2_with fail
   refine (HW.out _ hb1).mono ?_
   rintro e w' ⟨rfl,rfl⟩
   go_wp2_with fail
   go_ret
   exact aq rfl rfl (aa (HB.out _) hb1)
end Go.Proofs.YtldnlbcibmmbbaaGreat
/-! value.plain, value.Right, expr.part -/
namespace Go.Proofs.YtldnlbcibmmbbaaGreat
open Go.RowKit
set_option maxRecDepth 100000 in
set_option maxHeartbeats 2000000 in
theorem yi (s:ByteArray) (w:World) (hs:s.size≤maxLen):Calls Tryz.prog 95 #[.string s] w (wC w (.bool (fX s))):=by
 unfold maxLen at hs
 go_enter Tryz.func95,Tryz.ntmps95
 go_wp2_with fail
 go_loop [2,7] (fun r i=>r = .bool false∧ ∃k:Nat,i = .int .i64 k∧k≤s.size∧ ∀j (h:j<k) (h':j<s.size),eI s[j].toNat=true) (fun _ i=>s.size - (intOf i).toNat)
 case atStart=>exact ⟨rfl,0,rfl,Nat.zero_le _,fun j h=>by omega⟩
 case round=>
  obtain ⟨rfl,k,rfl,hk,hP⟩:=hrel
  have HP:=Lib.hid hP;clear hP
  by_cases hlt:k<s.size
  ·have HV:=Lib.hid (@iB s k hlt)
   have HS:Hid (∀(hv:eI (s[k]'hlt).toNat=true) j (h:j<k+1) (h':j<s.size),eI s[j].toNat=true):=fun hv j h h'=>by
    by_cases e:j=k
    ·subst e;exact hv
    ·exact HP.out j (by omega) h'
   have hc:=lQ (s[k]'hlt).toNat
   have hby:(s[k]'hlt).toNat<256:=UInt8.toNat_lt _
   rcases hc with ⟨g1,g2⟩|⟨g1,g2,g3⟩|⟨g1,g2,g3,g4⟩|⟨g1,g2,g3,g4,g5⟩|⟨g1,g2,g3,g4,g5⟩
   ·have HG:=Lib.hid g2;clear g2
    go_wp2_with fail
    go_ret
    exact kT rfl (HV.out HG.out).symm
   ·have HG:=Lib.hid g3;clear g3
    go_wp2_with fail
    go_ret
    exact kT rfl (HV.out HG.out).symm
   ·have HG:=Lib.hid g4;clear g4
    go_wp2_with fail
    go_ret
    exact kT rfl (HV.out HG.out).symm
   ·have HG:=Lib.hid g5;clear g5
    go_wp2_with fail
    go_ret
    exact kT rfl (HV.out HG.out).symm
   ·have HG:=Lib.hid g5;clear g5
    go_wp2_with fail
    go_round
    case rel=>exact ⟨rfl,k+1,by go_num,by omega,HS.out HG.out⟩
    case measure=>simp [intOf];omega
  ·go_wp2_with fail
   go_ret
   exact kT rfl (oe (fun j h=>HP.out j (by omega) h)).symm
set_option maxRecDepth 100000 in
set_option maxHeartbeats 2000000 in
theorem sR (v:iI) (w:World) (hs:v.text.size≤maxLen):Calls Tryz.prog 54 #[.agg #[.int .i64 v.kind, .int .i64 v.num, .string v.text]] w (fU w (.bool (aI v))):=by
 obtain ⟨k,n,s⟩:=v
 simp only at hs
 have HP:=Lib.hid (fun W=>yi s W hs)
 have HB:=Lib.hid (fun o=>((Below.refl w.heap.size w).alloc (IV _) o))
 have he:=dk s
 cases h1:k==1
 ·cases h2:k==2
  ·have hfin:aI ⟨k,n,s⟩=false:=by simp [aI,h1,h2]
   rw [hfin];clear hfin he HP
   go_enter Tryz.func54,Tryz.ntmps54
   go_wp2_with fail
   go_ret
   exact aq rfl rfl (HB.out _)
  ·cases h3:n==0
   ·have hfin:aI ⟨k,n,s⟩=false:=by simp [aI,h1,h2,h3]
    rw [hfin];clear hfin he HP
    go_enter Tryz.func54,Tryz.ntmps54
    go_wp2_with fail
    go_ret
    exact aq rfl rfl (HB.out _)
   ·by_cases h4:s.size≤40
    ·have hfin:aI ⟨k,n,s⟩=fX s:=by simp [aI,h1,h2,h3,h4]
     rw [hfin];clear hfin he
     go_enter Tryz.func54,Tryz.ntmps54
     go_wp2_with fail
     refine (HP.out _).mono ?_
     rintro e w' ⟨rfl,rfl⟩
     go_wp2_with fail
     go_ret
     exact aq rfl rfl (HB.out _)
    ·have hfin:aI ⟨k,n,s⟩=false:=by simp [aI,h1,h2,h3,h4]
     rw [hfin];clear hfin he HP
     go_enter Tryz.func54,Tryz.ntmps54
     go_wp2_with fail
     go_ret
     exact aq rfl rfl (HB.out _)
 ·cases h3:eh s
  ·have hfin:aI ⟨k,n,s⟩=false:=by simp [aI,h1,h3]
   rw [eh] at h3;rw [h3] at he
   rw [hfin];clear hfin HP h3
   go_enter Tryz.func54,Tryz.ntmps54
   go_wp2_with fail
   go_ret
   exact aq rfl rfl (HB.out _)
  ·by_cases h4: -fC≤n
   ·have hfin:aI ⟨k,n,s⟩=decide (n≤fC):=by simp [aI,h1,h3,h4]
    rw [eh] at h3;rw [h3] at he
    rw [hfin];clear hfin HP h3
    unfold fC at h4 ⊢
    go_enter Tryz.func54,Tryz.ntmps54
    go_wp2_with fail
    go_ret
    exact aq rfl rfl (HB.out _)
   ·have hfin:aI ⟨k,n,s⟩=false:=by simp [aI,h1,h3,h4]
    rw [eh] at h3;rw [h3] at he
    rw [hfin];clear hfin HP h3
    unfold fC at h4
    go_enter Tryz.func54,Tryz.ntmps54
    go_wp2_with fail
    go_ret
    exact aq rfl rfl (HB.out _)
set_option maxRecDepth 100000 in
set_option maxHeartbeats 4000000 in
theorem Bl (k:Int) (s:ByteArray) (p:Option Addr) (n c:Nat) (w:World) (hs:s.size≤maxLen) (hn:n≤maxLen) :
  Calls Tryz.prog 111 #[.agg #[.int .i64 k, .string s, .slice p n c]] w (fU w (.bool (aM k s n))):=by
 have HF:=Lib.hid (fun W=>gD s W hs)
 have HB:=Lib.hid (fun o=>((Below.refl w.heap.size w).alloc (IV _) o))
 unfold maxLen at hs hn
 have he:=dk s
 cases h1:k==1
 ·cases h2:k==2
  ·cases h3:k==3
   ·cases h4:k==4
    ·cases h5:k==5
     ·cases h6:k==6
      ·have hfin:aM k s n=false:=by simp [aM,h1,h2,h3,h4,h5,h6]
       rw [hfin];clear hfin he HF
       go_enter Tryz.func111,Tryz.ntmps111
       go_wp2_with fail
       go_ret
       exact aq rfl rfl (HB.out _)
      ·skip
       by_cases h7:n=1
       ·have h8:((n:Int)==1)=true:=by simp [h7]
        cases h9:eh s
        ·have hfin:aM k s n=false:=by simp [aM,h1,h2,h3,h4,h5,h6,h7,h9]
         rw [eh] at h9;rw [h9] at he
         rw [hfin];clear hfin HF h9
         go_enter Tryz.func111,Tryz.ntmps111
         go_wp2_with fail
         go_ret
         exact aq rfl rfl (HB.out _)
        ·have hfin:aM k s n=true:=by simp [aM,h1,h2,h3,h4,h5,h6,h7,h9]
         rw [eh] at h9;rw [h9] at he
         rw [hfin];clear hfin HF h9
         go_enter Tryz.func111,Tryz.ntmps111
         go_wp2_with fail
         go_ret
         exact aq rfl rfl (HB.out _)
       ·have h8:((n:Int)==1)=false:=by simp;omega
        have hfin:aM k s n=false:=by simp [aM,h1,h2,h3,h4,h5,h6,h7]
        rw [hfin];clear hfin he HF
        go_enter Tryz.func111,Tryz.ntmps111
        go_wp2_with fail
        go_ret
        exact aq rfl rfl (HB.out _)
     ·skip
      by_cases h7:n=1
      ·have h8:((n:Int)==1)=true:=by simp [h7]
       cases h9:eh s
       ·have hfin:aM k s n=false:=by simp [aM,h1,h2,h3,h4,h5,h7,h9]
        rw [eh] at h9;rw [h9] at he
        rw [hfin];clear hfin HF h9
        go_enter Tryz.func111,Tryz.ntmps111
        go_wp2_with fail
        go_ret
        exact aq rfl rfl (HB.out _)
       ·have hfin:aM k s n=true:=by simp [aM,h1,h2,h3,h4,h5,h7,h9]
        rw [eh] at h9;rw [h9] at he
        rw [hfin];clear hfin HF h9
        go_enter Tryz.func111,Tryz.ntmps111
        go_wp2_with fail
        go_ret
        exact aq rfl rfl (HB.out _)
      ·have h8:((n:Int)==1)=false:=by simp;omega
       have hfin:aM k s n=false:=by simp [aM,h1,h2,h3,h4,h5,h7]
       rw [hfin];clear hfin he HF
       go_enter Tryz.func111,Tryz.ntmps111
       go_wp2_with fail
       go_ret
       exact aq rfl rfl (HB.out _)
    ·skip
     by_cases h7:n=1
     ·have h8:((n:Int)==1)=true:=by simp [h7]
      cases h9:eh s
      ·have hfin:aM k s n=false:=by simp [aM,h1,h2,h3,h4,h7,h9]
       rw [eh] at h9;rw [h9] at he
       rw [hfin];clear hfin HF h9
       go_enter Tryz.func111,Tryz.ntmps111
       go_wp2_with fail
       go_ret
       exact aq rfl rfl (HB.out _)
      ·have hfin:aM k s n=true:=by simp [aM,h1,h2,h3,h4,h7,h9]
       rw [eh] at h9;rw [h9] at he
       rw [hfin];clear hfin HF h9
       go_enter Tryz.func111,Tryz.ntmps111
       go_wp2_with fail
       go_ret
       exact aq rfl rfl (HB.out _)
     ·have h8:((n:Int)==1)=false:=by simp;omega
      have hfin:aM k s n=false:=by simp [aM,h1,h2,h3,h4,h7]
      rw [hfin];clear hfin he HF
      go_enter Tryz.func111,Tryz.ntmps111
      go_wp2_with fail
      go_ret
      exact aq rfl rfl (HB.out _)
   ·skip
    by_cases h7:1<n
    ·skip
     cases h9:eh s
     ·have hfin:aM k s n=false:=by simp [aM,h1,h2,h3,h7,h9]
      rw [eh] at h9;rw [h9] at he
      rw [hfin];clear hfin HF h9
      go_enter Tryz.func111,Tryz.ntmps111
      go_wp2_with fail
      go_ret
      exact aq rfl rfl (HB.out _)
     ·have hfin:aM k s n=true:=by simp [aM,h1,h2,h3,h7,h9]
      rw [eh] at h9;rw [h9] at he
      rw [hfin];clear hfin HF h9
      go_enter Tryz.func111,Tryz.ntmps111
      go_wp2_with fail
      go_ret
      exact aq rfl rfl (HB.out _)
    ·have hfin:aM k s n=false:=by simp [aM,h1,h2,h3,h7]
     rw [hfin];clear hfin he HF
     go_enter Tryz.func111,Tryz.ntmps111
     go_wp2_with fail
     go_ret
     exact aq rfl rfl (HB.out _)
  ·skip
   by_cases h7:1<n
   ·skip
    cases h9:eh s
    ·have hfin:aM k s n=false:=by simp [aM,h1,h2,h7,h9]
     rw [eh] at h9;rw [h9] at he
     rw [hfin];clear hfin HF h9
     go_enter Tryz.func111,Tryz.ntmps111
     go_wp2_with fail
     go_ret
     exact aq rfl rfl (HB.out _)
    ·have hfin:aM k s n=true:=by simp [aM,h1,h2,h7,h9]
     rw [eh] at h9;rw [h9] at he
     rw [hfin];clear hfin HF h9
     go_enter Tryz.func111,Tryz.ntmps111
     go_wp2_with fail
     go_ret
     exact aq rfl rfl (HB.out _)
   ·have hfin:aM k s n=false:=by simp [aM,h1,h2,h7]
    rw [hfin];clear hfin he HF
    go_enter Tryz.func111,Tryz.ntmps111
    go_wp2_with fail
    go_ret
    exact aq rfl rfl (HB.out _)
 ·by_cases h7:n=0
  ·have h8:((n:Int)==0)=true:=by simp [h7]
   have hfin:aM k s n=cz s:=by simp [aM,h1,h7]
   rw [hfin];clear hfin he h7
   go_enter Tryz.func111,Tryz.ntmps111
   go_wp2_with fail
   refine (HF.out _).mono ?_
   rintro e w1 ⟨rfl,hb1⟩
   go_wp2_with fail
   go_ret
   exact aq rfl rfl (aa (HB.out _) hb1)
  ·have h8:((n:Int)==0)=false:=by simp;omega
   have hfin:aM k s n=false:=by simp [aM,h1,h7]
   rw [hfin];clear hfin he HF
   go_enter Tryz.func111,Tryz.ntmps111
   go_wp2_with fail
   go_ret
   exact aq rfl rfl (HB.out _)
end Go.Proofs.YtldnlbcibmmbbaaGreat
