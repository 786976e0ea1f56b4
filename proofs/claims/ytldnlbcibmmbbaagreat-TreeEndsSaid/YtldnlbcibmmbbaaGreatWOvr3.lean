/- OverQuery over a query whose lists lie in blocks S. -/
import Derived.Test.YtldnlbcibmmbbaaGreatWOvr2
set_option linter.unusedSimpArgs false
set_option linter.unusedVariables false
open Array renaming getD_eq_getD_getElem? → JM
namespace Go.Proofs.YtldnlbcibmmbbaaGreat
open Go.RowKit
set_option maxRecDepth 100000 in
theorem jt (a:Option Addr) (w:World):Calls Tryz.prog 75 #[.slice a 0 0] w (fun e w'=>e = .returned (.tuple #[])∧w'=w):=by
 go_enter Tryz.func75,Tryz.ntmps75
 go_wp2_with fail
 go_loop [2] (fun i=>i = .int .i64 0) (fun i=>0)
 case atStart=>rfl
 case round=>
  subst hrel
  go_wp2_with fail
  go_loop [4] (fun i=>i = .int .i64 0) (fun i=>0)
  case atStart=>rfl
  case round=>
   subst hrel
   go_wp2_with fail
   exact bodyPost_end (results_none rfl _ _ _) rfl ⟨rfl,rfl⟩
set_option maxRecDepth 100000 in
theorem lP (a:Option Addr) (w:World):Calls Tryz.prog 76 #[.slice a 0 0] w (fun e w'=>e = .returned (.tuple #[])∧w'=w):=by
 go_enter Tryz.func76,Tryz.ntmps76
 go_wp2_with fail
 go_loop [3] (fun i=>i = .int .i64 0) (fun i=>0)
 case atStart=>rfl
 case round=>
  subst hrel
  go_wp2_with fail
  exact bodyPost_end (results_none rfl _ _ _) rfl ⟨rfl,rfl⟩
set_option maxRecDepth 100000 in
theorem jo (a:Option Addr) (w:World):Calls Tryz.prog 77 #[.slice a 0 0] w (fun e w'=>e = .returned (.tuple #[])∧w'=w):=by
 go_enter Tryz.func77,Tryz.ntmps77
 go_wp2_with fail
 go_loop [3] (fun i=>i = .int .i64 0) (fun i=>0)
 case atStart=>rfl
 case round=>
  subst hrel
  go_wp2_with fail
  exact bodyPost_end (results_none rfl _ _ _) rfl ⟨rfl,rfl⟩
theorem mg {S:Nat→Prop} {w1:World} {f:FuncId} {x:Value} (h: ∀w,Calls Tryz.prog f #[x] w (fun e w'=>e = .returned (.tuple #[])∧w'=w)):te S w1 f x:=fun w hO=>by
 refine (h w).mono ?_
 rintro e w' ⟨rfl,rfl⟩
 exact ⟨rfl,hO⟩
theorem Ej {S:Nat→Prop} {w1:World} {x:Value} (h:TP S w1 x):te S w1 75 x:=by
 cases h with
 | nil=>exact mg (jt none)
 | Bu a=>exact mg (jt (some a))
 | mk b n cap C h1 h2 h3 h4 h5 h6 h7=>
  exact nx (f:=fun i=>C.getD (i * 8+7) Go.undef) h1 h2 h3 h4 h5 h6 (fun i hi=>(h7 i hi).1) (fun i hi=>by
   obtain ⟨x,e,_⟩:=(h7 i hi).2
   rw [e];simp [JM,e]) (fun i hi=>by
   obtain ⟨x,e,q⟩:=(h7 i hi).2
   simp only [JM,e,Option.getD_some];exact q.one) (fun i hi=>by
   obtain ⟨x,e,q⟩:=(h7 i hi).2
   simp only [JM,e,Option.getD_some];exact DZ q)
theorem DY {S:Nat→Prop} {w1:World} {x:Value} (h:TL S w1 37 13 (fun _ _=>True) x):te S w1 76 x:=by
 cases h with
 | nil=>exact mg (lP none)
 | Bu a=>exact mg (lP (some a))
 | mk b n cap C h1 h2 h3 h4 h5 h6 h7=>exact sd h1 h2 h3 h4 h5 h6
theorem DL {S:Nat→Prop} {w1:World} {x:Value} (h:TL S w1 34 6 (fun _ _=>True) x):te S w1 77 x:=by
 cases h with
 | nil=>exact mg (jo none)
 | Bu a=>exact mg (jo (some a))
 | mk b n cap C h1 h2 h3 h4 h5 h6 h7=>exact nA h1 h2 h3 h4 h5 h6
theorem TL.one {S:Nat→Prop} {w1:World} {T:TypeId} {z:Nat} {p:Nat→Array Value→Prop} {x:Value} (h:TL S w1 T z p x):x.oneCell'=true:=by cases h<;>rfl
theorem uz (w:World) (o:Obj):(w.alloc o).heap.size=w.heap.size+1:=by simp
theorem nC.base {S:Nat→Prop} {w w2 w':World} (hb:Below w.heap.size w w2) (h:nC S w2 w') (hS: ∀b,S b→b<w.heap.size):nC S w w':=
 ⟨h.os.trans hb.os,h.tape.trans hb.tape,h.output.trans hb.output,Nat.le_trans hb.size h.size,fun b h1 h2=>(h.same b (Nat.lt_of_lt_of_le h1 hb.size) h2).trans (hb.block b h1),fun b C T h1 h2=>h.cells b C T h1 ((hb.block b (hS b h1)).trans h2)⟩
theorem TP.keep {S:Nat→Prop} {w w':World} {x:Value} (h:TP S w x) (hk: ∀b,S b→w'.heap[b]? = w.heap[b]?):TP S w' x:=
 TL.keep h (fun _ h=>h) hk (fun n C hp i hi=>⟨(hp i hi).1,(hp i hi).2.imp fun x hx=>⟨hx.1,hx.2.keep (fun _ h=>h) hk⟩⟩)
set_option maxRecDepth 100000 in
set_option maxHeartbeats 2000000 in
theorem m7 {S:Nat→Prop} {w:World} {p c o:Value} {ra sl:Int} (hS: ∀b,S b→b<w.heap.size) (hp:TP S w p) (hc:TL S w 37 13 (fun _ _=>True) c) (ho:TL S w 34 6 (fun _ _=>True) o) :
  Calls Tryz.prog 33 #[.agg #[p,c,o, .int .i64 ra, .int .i64 sl]] w (fun e w'=>e = .returned (.tuple #[])∧nC S w w'):=by
 have o1:=hp.one
 have o2:=hc.one
 have o3:=ho.one
 have hb:Below w.heap.size w (w.alloc (.cells #[p,c,o, .int .i64 ra, .int .i64 sl] 26)):=(Below.refl _ _).alloc (Nat.le_refl _) _
 have hk: ∀b,S b→(w.alloc (.cells #[p,c,o, .int .i64 ra, .int .i64 sl] 26)).heap[b]? = w.heap[b]? :=fun b h=>hb.block b (hS b h)
 have HP:=Lib.hid (Ej (hp.keep hk))
 have HC:=Lib.hid (DY (TL.keep hc (fun _ h=>h) hk (fun _ _ h=>h)))
 have HV:=Lib.hid (DL (TL.keep ho (fun _ h=>h) hk (fun _ _ h=>h)))
 have HB:=Lib.hid hb
 have HS:=Lib.hid hS
 have hnb:=Lib.hid (show ∀w',nC S (w.alloc (.cells #[p,c,o, .int .i64 ra, .int .i64 sl] 26)) w'→w'.heap[w.heap.size]? = some (.cells #[p,c,o, .int .i64 ra, .int .i64 sl] 26 (0,0)) from fun w' h=>by
  rw [h.same w.heap.size (by rw [uz];omega) (fun h=>by have:=hS _ h;omega)]
  exact (MapKept.heap_alloc w _).1)
 clear hp hc ho hb hk hS
 go_enter Tryz.func33,Tryz.ntmps33
 go_wp2_with fail
 refine (HP.out _ (.refl _ _)).mono ?_
 rintro e w1 ⟨rfl,h1⟩
 have e1:=hnb.out w1 h1
 have c1:w1.cell? ⟨w.heap.size,1,none⟩=some c:=by simp [World.cell?,e1]
 have H1:=Lib.hid h1
 clear h1 e1
 go_wp2_with fail
 refine (HC.out _ H1.out).mono ?_
 rintro e w2 ⟨rfl,h2⟩
 have e2:=hnb.out w2 h2
 have c2:w2.cell? ⟨w.heap.size,2,none⟩=some o:=by simp [World.cell?,e2]
 have H2:=Lib.hid h2
 clear h2 e2
 go_wp2_with fail
 refine (HV.out _ H2.out).mono ?_
 rintro e w3 ⟨rfl,h3⟩
 have H3:=Lib.hid h3
 clear h3
 go_wp2_with fail
 exact bodyPost_end (results_none rfl _ _ _) rfl ⟨rfl,H3.out.base HB.out HS.out⟩
end Go.Proofs.YtldnlbcibmmbbaaGreat
