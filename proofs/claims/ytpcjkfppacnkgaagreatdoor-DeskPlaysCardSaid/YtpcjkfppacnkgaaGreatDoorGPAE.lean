/- Contracts and plain facts. -/
import Derived.Test.YtpcjkfppacnkgaaGreatDoorGPAD
import Derived.Sort.CutIn
set_option maxHeartbeats 4000000
set_option maxRecDepth 100000
section
namespace Go.Proofs.YtpcjkfppacnkgaaGreatDoor
open Go Go.RowKit Go.Shelf
attribute [local go_sem] Oper.semAt_some
def jU (lo:Nat) (W:World):List Deferred→Nat→Prop
 | [],_=>True
 | d::ds,B=>∃D,D<B∧lo≤D∧d={ target:=.collected D,args:=#[] }∧W.heap[D]?=some (.deferred (some []))∧jU lo W ds D
structure Shut (lo:Nat) (W W':World):Prop where
 below:Below lo W W'
 cells:∀(k:Nat) (o:Obj),W.heap[k]?=some o→o.isCells=true→W'.heap[k]?=some o
theorem Shut.refl (lo:Nat) (W:World):Shut lo W W:=⟨Below.refl _ _,fun _ _ h _=>h⟩
theorem Shut.cell {lo:Nat} {W W':World} (h:Shut lo W W') {a:Addr} {v:Value} (hc:W.cell? a=some v):W'.cell? a=some v:=by
 obtain⟨o,ho,hcc⟩:=cells_of_cell hc;rw [←hc];exact World.cell?_of_block ((h.cells _ _ ho hcc).trans ho.symm)
theorem Shut.row {lo:Nat} {W W':World} (h:Shut lo W W') {base g:Nat} {l:List Int} (hr:IRow W base g l) (hl:0<l.length):IRow W' base g l:=by
 refine RowAt.keep hr (fun g' hg hlt=>?_) (by decide);obtain⟨c,_,_⟩:=hr.at (k:=0) hl;simp only [zB] at hg
 split at hg
 ·cases hg
 ·cases hg
  obtain⟨o,ho,hcc⟩:=cells_of_cell c;exact(h.cells _ _ ho hcc).trans ho.symm
theorem Ext.shut {w W W':World} (h:Ext w W) (hS:Shut w.heap.size W W'):Ext w W':=Below.trans h hS.below
theorem jU.keep {lo:Nat} {W W':World} (hk:∀(k:Nat) (o:Obj),W.heap[k]?=some o→o.isCells=false→W'.heap[k]?=some o):∀{ds:List Deferred} {B:Nat},jU lo W ds B→jU lo W' ds B
 | [],_,_=>trivial
 | _::_,_,⟨D,h1,h2,h3,h4,h5⟩=>⟨D,h1,h2,h3,hk _ _ h4 rfl,jU.keep hk h5⟩
theorem jU.below {lo:Nat} {W W':World}:∀{ds:List Deferred} {B:Nat},(∀k,k<B→W'.heap[k]?=W.heap[k]?)→jU lo W ds B→jU lo W' ds B
 | [],_,_,_=>trivial
 | _::_,_,hk,⟨D,h1,h2,h3,h4,h5⟩=>⟨D,h1,h2,h3,(hk D h1).trans h4,jU.below (fun k hkD=>hk k (by omega)) h5⟩
theorem jU.up {lo:Nat} {W:World}:∀{ds:List Deferred} {B B':Nat},B≤B'→jU lo W ds B→jU lo W ds B'
 | [],_,_,_,_=>trivial
 | _::_,_,_,hB,⟨D,h1,h2,h3,h4,h5⟩=>⟨D,by omega,h2,h3,h4,h5⟩
theorem zAu {F:Fence} {n:Nat} {P:Program} {fn:Func} {tmps:Array Value} {R:Ending→World→Prop} {lo:Nat}:∀(ds:List Deferred) (B:Nat) (W:World),jU lo W ds B →
  (∀W',Shut lo W W'→∃v,(results fn tmps).run P W'=.ok v W'∧R (.returned v) W')→LeavesInM F n P fn tmps R ds .returning W
 | [],_,W,_,h=>by
  obtain⟨v,h1,h2⟩:=h W (Shut.refl _ _);exact⟨_,h1,h2⟩
 | d::ds,B,W,⟨D,h1,h2,h3,h4,h5⟩,h=>by
  subst h3;have hlt:=(Array.getElem?_eq_some_iff.1 h4).1;refine⟨by simp,.inl ⟨D,_,rfl,run_takeDeferred h4,?_⟩⟩;refine zAu ds D _ (jU.below (fun k hk=>World.putObj_heap_other (by omega)) h5) fun W' hW'=>h W' ⟨?_,fun k o ho hc=>?_⟩
  ·exact((Below.refl lo W).grown (grownBy_putObj' W D _) (by omega) (fun k e=>by cases e;omega)).trans hW'.below
  ·refine hW'.cells _ _ ?_ hc;have:k≠D:=fun e=>by subst e;rw [h4] at ho;cases ho;cases hc
   exact(World.putObj_heap_other this).trans ho
theorem rounds_ind {F:Fence} {n:Nat} {P:Program} {c:Code} {Q:Exit→Act→World→Prop} (Rel:Nat→Act→World→Prop)
  (step:∀m a w,Rel (m+1) a w→c.wpIn F n P (Exit.then (Rel m) Q) a w) (h0:∀a w,¬Rel 0 a w):∀(m:Nat) (a:Act) (w:World),Rel m a w→(Code.loop c).wpIn F n P Q a w:=by
 intro m a w h;refine wpIn_loop_rounds m ?_
 induction m generalizing a w with
 | zero=>exact(h0 a w h).elim
 | succ m ih =>
  rw [roundsIn_succ];refine Code.wpIn_mono (fun e a' w' q=>?_) (step m a w h)
  cases e<;>first | exact ih _ _ q | exact q
def Bx (W:World) (b:Nat) (v:Value):Prop:=W.cell? ⟨b,0,none⟩=some v∧W.frozen? ⟨b,0,none⟩=false
theorem Bx.new (W:World) (v:Value) (t:TypeId):Bx (W.alloc (.cells #[v] t)) W.heap.size v:=by
 have h:=World.alloc_heap_new W (.cells #[v] t);constructor
 ·simp only [World.cell?,h];rfl
 ·simp only [World.frozen?,h];rfl
theorem Bx.ext {W W':World} {b:Nat} {v:Value} (h:Bx W b v) (he:Ext W W'):Bx W' b v :=
 ⟨eC he h.1,by rw [Ext.keepF he _ (by rw [h.1];rfl)];exact h.2⟩
theorem Bx.lt {W:World} {b:Nat} {v:Value} (h:Bx W b v):b<W.heap.size:=zY h.1
theorem Bx.set {W:World} {b:Nat} {v:Value} (h:Bx W b v) (u:Value):Bx (W.setCell ⟨b,0,none⟩ u) b u :=
 ⟨World.cell?_setCell_same' _ _ _ (by rw [h.1];rfl),by rw [World.frozen?_setCell];exact h.2⟩
theorem Bx.chg {M:Nat→Prop} {W W':World} {b:Nat} {v:Value} (h:Bx W b v) (hc:Chg M W W') (hM:¬M b):Bx W' b v :=
 ⟨Chg.cell hc hM h.1,by rw [Chg.frozen hc hM h.lt];exact h.2⟩
theorem Bx.other {W:World} {b b' o:Nat} {v:Value} (h:Bx W b v) (hne:b≠b') (u:Value):Bx (W.setCell ⟨b',o,none⟩ u) b v :=
 h.chg (zO W b' o u) hne
theorem Bx.own {W W':World} {row:Option Nat} {b:Nat} {v:Value} (h:Bx W b v) (hg:W.grownBy W' row) (hr:∀r,row=some r→∃o:Obj,W.heap[r]?=some o∧o.isCells=false):Bx W' b v :=
 ⟨cell_kept h.1 hg hr,(frozen_kept h.1 hg hr).trans h.2⟩
theorem RowAt.isCells {W:World} {base size:Nat} {v:Value} {n:Nat} {xs:List Value} (h:RowAt W base size v n xs) (hs:0<size) {b:Nat} (hb:zB v=some b):∃off u,W.cell? ⟨b,off,none⟩=some u:=by
 obtain⟨_,a,cap,rfl,h1,h2,h3⟩:=h;rcases h3 with h0 | ⟨g,o,rfl,_,_,ht⟩
 ·subst h0;cases a<;>simp [zB] at hb
 ·by_cases hc:cap=0
  ·subst hc;simp [zB] at hb
  ·rw [zK _ _ _ _ hc] at hb
   cases hb
   have:=(ht 0 (Nat.mul_pos (by omega) hs)).1;obtain⟨u,hu⟩:=Option.isSome_iff_exists.1 this;exact⟨_,u,hu⟩
theorem RowAt.own {W W':World} {base size:Nat} {v:Value} {n:Nat} {xs:List Value} (h:RowAt W base size v n xs) (hs:0<size) {row:Option Nat} (hg:W.grownBy W' row) (hr:∀r,row=some r→∃o:Obj,W.heap[r]?=some o∧o.isCells=false):RowAt W' base size v n xs :=
 h.keep (fun g hb hlt=>hg.block g hlt (fun e=>by
  obtain⟨off,u,hu⟩:=h.isCells hs hb;obtain⟨ob,ho,hc⟩:=cells_of_cell hu;obtain⟨ob',ho',hc'⟩:=hr g e.symm;rw [ho'] at ho
  cases ho
  rw [hc'] at hc
  cases hc)) hs
theorem zEp {M:Nat→Prop} {W W':World} (h:Chg M W W') (hM:∀b,M b→∃off u,W.cell? ⟨b,off,none⟩=some u):KeepsOthers W W' :=
 ⟨h.size,fun k o ho hc=>by
  have hk:¬M k:=fun hm=>by
   obtain⟨off,u,hu⟩:=hM k hm;obtain⟨ob,ho',hc'⟩:=cells_of_cell hu;rw [ho] at ho'
   cases ho'
   rw [hc'] at hc
   cases hc
  exact(h.block k (Array.getElem?_eq_some_iff.1 ho).1 hk).trans ho⟩
theorem zCh (len:Nat) (n:Int):∀(a b:List Nat) (out:List Int) (work:List Nat),goOn len n (a++b) out work=match goOn len n a out work with
  | none=>none
  | some (o,w)=>goOn len n b o w
 | [],_,_,_=>rfl
 | i::a,b,out,work=>by
  simp only [List.cons_append,goOn];split
  ·rfl
  ·split
   ·exact zCh len n a b _ _
   ·exact zCh len n a b _ _
structure FI (w:World) (b4 b5 b6 b7 b8 g lo2 N:Nat) (cv ov:Value) (ds:List Deferred) (Bd:Nat) (out:List Int) (work:List Nat) (v8:Value) (W:World):Prop where
 ext:Ext w W
 c4:Bx W b4 (.slice none 0 0)
 c5:Bx W b5 (.bool false)
 c6:Bx W b6 cv
 c7:Bx W b7 ov
 c8:Bx W b8 v8
 hgt:Hgt N out
 orow:IRow W w.heap.size g out
 row:RowAt W lo2 1 v8 work.length (ints (nats work))
 ne8:zB v8≠some b8
 marks:jU w.heap.size W ds Bd
 le:∀k∈work,k<N∧0≤out.getD k 0
theorem FI.own {w:World} {b4 b5 b6 b7 b8 g lo2 N:Nat} {cv ov:Value} {ds:List Deferred} {Bd:Nat} {out:List Int} {work:List Nat} {v8:Value} {W W':World} {row:Option Nat}
  (h:FI w b4 b5 b6 b7 b8 g lo2 N cv ov ds Bd out work v8 W) (hg:W.grownBy W' row) (hr:∀r,row=some r→(Bd≤r∧w.heap.size≤r)∧∃o:Obj,W.heap[r]?=some o∧o.isCells=false) (hBd:Bd≤W.heap.size) :
  FI w b4 b5 b6 b7 b8 g lo2 N cv ov ds Bd out work v8 W':=by
 have hr':∀r,row=some r→∃o:Obj,W.heap[r]?=some o∧o.isCells=false:=fun r e=>(hr r e).2
 exact { ext:=h.ext.grown hg (fun k e=>(hr k e).1.2),c4:=h.c4.own hg hr',c5:=h.c5.own hg hr',c6:=h.c6.own hg hr',c7:=h.c7.own hg hr',c8:=h.c8.own hg hr',hgt:=h.hgt,orow:=RowAt.own h.orow (by decide) hg hr',row:=h.row.own (by decide) hg hr',ne8:=h.ne8,marks:=jU.below (fun k hk=>hg.block k (by omega) (fun e=>by have:=(hr k e.symm).1.1;omega)) h.marks,le:=h.le }
theorem FI.ex {w:World} {b4 b5 b6 b7 b8 g lo2 N:Nat} {cv ov:Value} {ds:List Deferred} {Bd:Nat} {out:List Int} {work:List Nat} {v8:Value} {W W':World}
  (h:FI w b4 b5 b6 b7 b8 g lo2 N cv ov ds Bd out work v8 W) (he:Ext W W') (hBd:Bd≤W.heap.size):FI w b4 b5 b6 b7 b8 g lo2 N cv ov ds Bd out work v8 W' :=
 { ext:=h.ext.trans he,c4:=h.c4.ext he,c5:=h.c5.ext he,c6:=h.c6.ext he,c7:=h.c7.ext he,c8:=h.c8.ext he,hgt:=h.hgt,orow:=h.orow.ext he,row:=h.row.ext he (by decide),ne8:=h.ne8,marks:=jU.below (fun k hk=>Below.block he k (by omega)) h.marks,le:=h.le }
theorem KpF.of_chg {fx M:Nat→Prop} {bw:Nat} {A B:World} (h:Chg M A B) (hM:∀b,M b→fx b∨RowB A bw b) (hrow:∀b,RowB B bw b→RowB A bw b∨A.heap.size≤b):KpF fx bw A B :=
 ⟨h.size,fun b _ hf hr ho _=>Chg.heap h (fun hm=>(hM b hm).elim hf hr) ho,hrow⟩
theorem Ext.others {A B:World} (h:Ext A B):KeepsOthers A B:=⟨h.size,fun _ _ ho _=>Ext.heap h ho⟩
theorem FI.push {w:World} {b4 b5 b6 b7 b8 g lo2 N:Nat} {cv ov:Value} {ds:List Deferred} {Bd:Nat} {out:List Int} {work:List Nat} {v8:Value} {W:World}
  (h:FI w b4 b5 b6 b7 b8 g lo2 N cv ov ds Bd out work v8 W) {i:Nat} (hi:i<N) {nn:Int} (h0:0≤nn) (h8:nn≤8) (e1:w.heap.size≤g) (e4:b4<lo2∧b4≠g) (e5:b5<lo2∧b5≠g) (e6:b6<lo2∧b6≠g) (e7:b7<lo2∧b7≠g) (eg:g<lo2) (e8:lo2≤b8) (_:w.heap.size≤lo2) {t:TypeId}
  {v1:Value} {W1:World} (r:kO ((W.setCell ⟨g,i,none⟩ (.int .i64 nn)).alloc (.cells #[.int .i64 (i:Int)] t)) W1 lo2 1 v8 v1 (work.length+1) (ints (nats work)++ints [(i:Int)])) :
  FI w b4 b5 b6 b7 b8 g lo2 N cv ov ds Bd (out.set i nn) (work++[i]) v1 (W1.setCell ⟨b8,0,none⟩ v1)∧Chg (fun b=>b=g∨b=b8∨zB v8=some b) W (W1.setCell ⟨b8,0,none⟩ v1)∧(zB v1=zB v8∨∀g',zB v1=some g'→W.heap.size≤g'):=by
 obtain⟨r1,r2,r3⟩:=r;have hb8:=h.c8.lt;have hle8:∀b,zB v8=some b→lo2≤b:=fun b hb=>h.row.le b hb
 have r3':zB v1=zB v8∨∀g',zB v1=some g'→W.heap.size≤g':=r3.imp id (fun h g' hg=>by have:=h g' hg;simp at this;omega);have c0:Chg (fun b=>b=g∨b=b8∨zB v8=some b) W (W.setCell ⟨g,i,none⟩ (.int .i64 nn)):=(zO W g i _).mono (fun b _ e=>.inl e);have c1:=c0.alloc (.cells #[.int .i64 (i:Int)] t);have c2:Chg (fun b=>b=g∨b=b8∨zB v8=some b) W W1:=c1.trans (r2.mono (fun b _ e=>.inr (.inr e)));have c3:Chg (fun b=>b=g∨b=b8∨zB v8=some b) W (W1.setCell ⟨b8,0,none⟩ v1):=c2.trans ((zO W1 b8 0 v1).mono (fun b _ e=>.inr (.inl e)));have k8:Bx W1 b8 v8:=by
  have c2':Chg (fun b=>b=g∨zB v8=some b) W W1:=(((zO W g i _).mono (M':=fun b=>b=g∨zB v8=some b) (fun b _ e=>.inl e)).alloc (.cells #[.int .i64 (i:Int)] t)).trans (r2.mono (fun b _ e=>.inr e));exact h.c8.chg c2' (fun e=>e.elim (fun e=>by omega) h.ne8)
 have nb:∀{b:Nat},b<lo2→b≠g→¬(b=g∨b=b8∨zB v8=some b):=fun hb hg e=>by
  rcases e with e | e | e
  ·exact hg e
  ·omega
  ·have:=hle8 _ e;omega
 have ne8':zB v1≠some b8:=fun e=>r3'.elim (fun e'=>h.ne8 (e' ▸ e)) (fun e'=>by have:=e' _ e;omega)
 refine⟨{ ext:=Chg.ext_from h.ext c3 (fun b hb=>?_),c4:=h.c4.chg c3 (nb e4.1 e4.2),c5:=h.c5.chg c3 (nb e5.1 e5.2),c6:=h.c6.chg c3 (nb e6.1 e6.2),c7:=h.c7.chg c3 (nb e7.1 e7.2),c8:=k8.set v1,hgt:=h.hgt.set i ⟨by omega,h8⟩,orow:=?_,row:=?_,ne8:=ne8',marks:=?_,le:=?_ },c3,r3'⟩
 ·rcases hb with rfl | rfl | hb
  ·exact e1
  ·omega
  ·have:=hle8 _ hb;omega
 ·have q:=h.orow.store (k:=i) (by rw [h.hgt.1];exact hi) nn;have q2:=IRow.chg (IRow.ext q ((eR _).alloc (.cells #[.int .i64 (i:Int)] t))) r2 (fun e=>by have:=hle8 _ e;omega);exact q2.other (by omega) v1
 ·have q:RowAt W1 lo2 1 v1 (work++[i]).length (ints (nats (work++[i]))):=by
   rwa [show nats (work++[i])=nats work++[(i:Int)] by simp [nats],yK,List.length_append]
  exact RowAt.chg q (zO W1 b8 0 v1) (fun b hb e=>ne8' (by rw [hb,e])) (by decide)
 ·refine jU.keep (fun k o ho hc=>?_) h.marks;refine(zEp c3 (fun b hb=>?_)).same k o ho hc;rcases hb with rfl | rfl | hb
  ·exact⟨_,_,(h.orow.at (k:=i) (by rw [h.hgt.1];exact hi)).1⟩
  ·exact⟨_,_,h.c8.1⟩
  ·exact h.row.isCells (by decide) hb
 ·intro k hk;have hki:k=i∨(k<N∧0≤out.getD k 0):=(List.mem_append.1 hk).elim (fun h'=>.inr (h.le k h')) (fun h'=>.inl (by simpa using h'));by_cases e:k=i
  ·subst e;exact⟨hi,by rw [qU (by rw [h.hgt.1];exact hi)];exact h0⟩
  ·obtain⟨a1,a2⟩:=hki.resolve_left e;exact⟨a1,by rw [jY (fun h=>e h.symm)];exact a2⟩
def BodyI (w:World) (b7 b8 b12 cb co ccap n0 N:Nat) (nn:Int) (ds:List Deferred) (Bd:Nat) (out:List Int) (work:List Nat) (pre:List { i:Nat // i≤N }) (W:World):Prop :=
 ∃out' work' v',goOn N nn (pre.map (·.1)) out work=some (out',work') ∧
  FI w w.heap.size (w.heap.size+1) (w.heap.size+1+1) b7 b8 (w.heap.size+1+1+1+1) (b7+1) N (.slice (some ⟨cb,co,none⟩) N ccap) (.slice (some ⟨w.heap.size+1+1+1+1,0,none⟩) N N) ds Bd out' work' v' W∧Bx W b12 (.int .i64 nn)∧n0≤W.heap.size∧zB v'≠some b12
theorem zBt (p:List GFunc) (v:Value) (S:Nat→Prop) (n:Nat) (w:World) (hp:zM w S v p) (hn:n<p.length) (hR:RightF p p[n]) :
  Calls Tryz.prog 88 #[v,.int .i64 n] w fun e w'=>HtsRet w.heap.size (hts p p[n].code) e w'∧Ext w w':=by
 have hp0:=hp;obtain⟨b,o,cap,rfl,hcap,hby,_,_,vc,hC,hcode⟩:=hp.get hn;have hcode0:=hcode;obtain⟨ca,ccap,rfl,hcc,hcby,hops⟩:=hcode;have RA:=zF;have hlen:=hR.len;obtain⟨i0,hi0,hz0,hz1,hz2⟩:=info_parts vM;generalize hF:p[n]=F at *;obtain⟨A,L,C⟩:=F;simp only at *;have HP:=eH hp0;have HO:=eH hops;have HR:=eH hR;clear hF hp hp0 hops hcode0 hR;obtain⟨R,hRR⟩:∃R,hts p C=R:=⟨_,rfl⟩
 rw [hRR];have HRR:=eH hRR;clear hRR;refine(callsIn_wide (n:=6)).1 ?_;refine callsIn_of_wp_marks Tryz.func88 rfl trivial ?_ rfl;simp only [Tryz.ntmps88,List.size_toArray,List.length_cons,List.length_nil,Nat.reduceAdd,Nat.reduceSub,Array.replicate_succ,Array.replicate_zero,List.push_toArray,List.append_toArray,List.nil_append,List.cons_append];by_cases hN:C.length=0
 ·obtain rfl:C=[]:=List.eq_nil_of_length_eq_zero hN
  gi_wp2_with fail
  refine zAu (lo:=w.heap.size) [] 0 _ trivial fun W' hW'=>?_
  have hR1:none=R:=HRR.out;have a1:Ext (w.alloc (.cells #[.slice none 0 0] 30)) (((w.alloc (.cells #[.slice none 0 0] 30)).alloc (.cells #[.bool false] 4)).alloc (.cells #[.slice ca 0 ccap] 47)):=((eR _).alloc _).alloc _;have c4:=hW'.cell ((Bx.new w (.slice none 0 0) 30).ext a1).1;have c5:=(Bx.new (w.alloc (.cells #[.slice none 0 0] 30)) (.bool false) 4).ext ((eR _).alloc (.cells #[.slice ca 0 ccap] 47));rw [World.size_alloc] at c5;have c5':=hW'.cell c5.1;refine⟨.tuple #[.slice none 0 0,.bool false],by simp [results,Tryz.f88,go_sem,c4,c5'],?_,Ext.shut (by ((repeat first|assumption|exact eR _|exact And.left (by assumption)|apply eA|apply eD|apply eN|refine eS ?_ (by simp<;>omega) _|refine eT ?_ (by assumption));done)) hW'⟩;rw [←hR1];exact rfl
 ·have hN':1≤C.length:=by omega
  have TN:((C.length:Int) == 0)=false:=beq_eq_false_iff_ne.2 (by omega);clear hN
  gi_upto_region 5 with (first
   | (refine⟨trivial,?_⟩;gi_at_call 123;refine(callsIn_wide.2 (repeat_any _ _ _ _ C.length hN' hlen _ rfl (by go_simp))).mono ?_;rintro e w1 ⟨rfl,hE1,hg1⟩))
  have hEw:Ext w w1:=(by ((repeat first|assumption|exact eR _|exact And.left (by assumption)|apply eA|apply eD|apply eN|refine eS ?_ (by simp<;>omega) _|refine eT ?_ (by assumption));done):Ext w _).trans hE1;simp only [World.size_alloc] at hg1;have hz1':w.heap.size+1+1+1+1<w1.heap.size:=(Array.getElem?_eq_some_iff.1 hg1).1;have k4:Bx w1 w.heap.size (.slice none 0 0):=Bx.ext (((Bx.new w (.slice none 0 0) 30).ext ((eR _).alloc _)).ext ((eR _).alloc _) |>.ext ((eR _).alloc _)) hE1;have k5:Bx w1 (w.heap.size+1) (.bool false):=by
   have:=Bx.new (w.alloc (.cells #[.slice none 0 0] 30)) (.bool false) 4;rw [World.size_alloc] at this;exact((this.ext ((eR _).alloc _)).ext ((eR _).alloc _)).ext hE1
  have k6:Bx w1 (w.heap.size+1+1) (.slice ca C.length ccap):=by
   have:=Bx.new ((w.alloc (.cells #[.slice none 0 0] 30)).alloc (.cells #[.bool false] 4)) (.slice ca C.length ccap) 47;rw [World.size_alloc,World.size_alloc] at this;exact(this.ext ((eR _).alloc _)).ext hE1
  have k7:=Bx.new w1 (.slice (some ⟨w.heap.size+1+1+1+1,0,none⟩) C.length C.length) 30;have e7:Ext w1 (w1.alloc (.cells #[.slice (some ⟨w.heap.size+1+1+1+1,0,none⟩) C.length C.length] 30)):=(eR _).alloc _;have hrow:IRow (w1.alloc (.cells #[.slice (some ⟨w.heap.size+1+1+1+1,0,none⟩) C.length C.length] 30)) w.heap.size (w.heap.size+1+1+1+1) (List.replicate C.length (-1)):=by
   have hg2:=Ext.heap e7 hg1;have hown:(w1.alloc (.cells #[.slice (some ⟨w.heap.size+1+1+1+1,0,none⟩) C.length C.length] 30)).ownsRow w.heap.size 3 1 (.slice (some ⟨w.heap.size+1+1+1+1,0,none⟩) C.length C.length) C.length (repL C.length C.length) :=
    ⟨by rw [zFb (Nat.le_refl _)];omega,.inr ⟨_,_,_,rfl,by omega,hg2,Nat.le_refl _,by unfold maxLen;omega,by simp [zFb],by rw [List.toList_toArray,List.take_of_length_le (by rw [zFb (Nat.le_refl _)];omega)]⟩⟩
   have:=RowAt.of_own hown;unfold IRow;rw [List.length_replicate]
   rwa [show repL C.length C.length=ints (List.replicate C.length (-1)) by simp [repL]] at this
  have HE7:Hid (Ext w (w1.alloc (.cells #[.slice (some ⟨w.heap.size+1+1+1+1,0,none⟩) C.length C.length] 30))):=hEw.trans e7;replace k4:=k4.ext e7;replace k5:=k5.ext e7;replace k6:=k6.ext e7;obtain⟨w2,hw2⟩:∃w2,w1.alloc (.cells #[.slice (some ⟨w.heap.size+1+1+1+1,0,none⟩) C.length C.length] 30)=w2:=⟨_,rfl⟩
  have hs2:w2.heap.size=w1.heap.size+1:=by rw [←hw2];exact World.size_alloc _ _
  obtain⟨b7,hb7⟩:∃b7,w1.heap.size=b7:=⟨_,rfl⟩
  simp only [hw2] at k4 k5 k6 k7 hrow HE7 ⊢;rw [hb7] at k7 hs2 hz1' ⊢;clear hw2 hg1 hE1 e7 hEw hb7;obtain⟨f0,f1,_⟩:=hrow.at (k:=0) (by rw [List.length_replicate];omega);have q71:=k7.1;have q72:=k7.2
  gi_upto_region 7 with fail
  have hst:=hrow.store (k:=0) (by rw [List.length_replicate];omega) 0;have hfi:FI w w.heap.size (w.heap.size+1) (w.heap.size+1+1) b7 (b7+1+1) (w.heap.size+1+1+1+1) (b7+1) C.length (.slice ca C.length ccap) (.slice (some ⟨w.heap.size+1+1+1+1,0,none⟩) C.length C.length)
    [] 0 (out0 C.length) [0] (.slice (some ⟨b7+1,0,none⟩) 1 1) (((w2.setCell ⟨w.heap.size+1+1+1+1,0,none⟩ (.int .i64 0)).alloc (.cells #[.int .i64 0] 3)).alloc (.cells #[.slice (some ⟨b7+1,0,none⟩) 1 1] 30)):=by
   have hz:(w2.setCell ⟨w.heap.size+1+1+1+1,0,none⟩ (.int .i64 0)).heap.size=b7+1:=by rw [←hs2];simp
   have a1:Ext (w2.setCell ⟨w.heap.size+1+1+1+1,0,none⟩ (.int .i64 0)) ((w2.setCell ⟨w.heap.size+1+1+1+1,0,none⟩ (.int .i64 0)).alloc (.cells #[.int .i64 0] 3)):=(eR _).alloc _;have a2:Ext ((w2.setCell ⟨w.heap.size+1+1+1+1,0,none⟩ (.int .i64 0)).alloc (.cells #[.int .i64 0] 3)) (((w2.setCell ⟨w.heap.size+1+1+1+1,0,none⟩ (.int .i64 0)).alloc (.cells #[.int .i64 0] 3)).alloc (.cells #[.slice (some ⟨b7+1,0,none⟩) 1 1] 30)):=(eR _).alloc _;have a12:=a1.trans a2;refine { ext:=(HE7.out.setCell (by show w.heap.size≤w.heap.size+1+1+1+1;omega) _).trans a12,c4:=(k4.other (by omega) _).ext a12,c5:=(k5.other (by omega) _).ext a12,c6:=(k6.other (by omega) _).ext a12,c7:=(k7.other (by omega) _).ext a12,c8:=?_,hgt:=Hgt.out0 _,orow:=IRow.ext hst a12,row:=?_,ne8:=?_,marks:=trivial,le:=?_ }
   ·have:=Bx.new ((w2.setCell ⟨w.heap.size+1+1+1+1,0,none⟩ (.int .i64 0)).alloc (.cells #[.int .i64 0] 3)) (.slice (some ⟨b7+1,0,none⟩) 1 1) 30;rw [World.size_alloc,hz] at this;exact this
   ·have:=(Bx.new (w2.setCell ⟨w.heap.size+1+1+1+1,0,none⟩ (.int .i64 0)) (.int .i64 0) 3).ext a2;rw [hz] at this;exact⟨rfl,_,1,rfl,Nat.le_refl _,by decide,.inr ⟨b7+1,0,rfl,Nat.le_refl _,fun j hj=>by
     obtain rfl:j=0:=by have:j<1:=hj;omega
     exact this.1,fun j hj=>by
     obtain rfl:j=0:=by have:j<1:=hj;omega
     exact⟨by rw [this.1];rfl,this.2⟩⟩⟩
   ·simp [zB]
   ·intro k hk;obtain rfl:k=0:=by simpa using hk
    refine⟨hN',?_⟩;rw [zAa _ _ hN'];decide
  have HFI:=eH hfi;clear hfi hst hrow k4 k5 k6 k7 HE7 q71 q72 f0 f1;have HWL:Hid (wl p C (C.length+1) (out0 C.length) [0]=R):=by
   unfold Hid;rw [←HRR.out];unfold hts;rw [if_neg (fun h=>by rw [h] at hN';exact absurd hN' (by simp))]
  clear HRR;refine rounds_ind (fun m a W=>∃(ds:List Deferred) (Bd b8:Nat) (out:List Int) (work:List Nat) (v8:Value),
   (FI w w.heap.size (w.heap.size+1) (w.heap.size+1+1) b7 b8 (w.heap.size+1+1+1+1) (b7+1) C.length (.slice ca C.length ccap) (.slice (some ⟨w.heap.size+1+1+1+1,0,none⟩) C.length C.length) ds Bd out work v8 W∧b7+1≤b8∧Bd≤W.heap.size∧wl p C m out work=R∧unk out+work.length<m∧unk out+work.length≤C.length)∧∃(u9 u10 u11 u12 u13 u14 u15 u16 u17 u18 u19 u20 u21 u22 u23 u24 u25 u26 u27 u28 u29 u30 u31 u32 u33 u34 u35 u36 u37 u38 u39 u40 u41 u42 u43 u44 u45 u46 u47 u48 u49 u50 u51 u52 u53 u54 u55 u56 u57 u58 u59 u60 u61 u62 u63 u64 u65 u66 u67 u68 u69 u70 u71 u72 u73 u74 u75 u76 u77 u78 u79 u80 u81 u82 u83 u84 u85 u86 u87 u88 u89 u90 u91 u92 u93 u94 u95 u96 u97 u98 u99 u100 u101 u102 u103 u104 u105 u106 u107 u108 u109 u110 u111 u112 u113:Value),a={ tmps:=#[.slice (some ⟨b,o,none⟩) p.length cap,.int .i64 n,undef,undef,.pointer (some ⟨w.heap.size,0,none⟩),.pointer (some ⟨w.heap.size+1,0,none⟩),.pointer (some ⟨w.heap.size+1+1,0,none⟩),.pointer (some ⟨b7,0,none⟩),.pointer (some ⟨b8,0,none⟩),u9,u10,u11,u12,u13,u14,u15,u16,u17,u18,u19,u20,u21,u22,u23,u24,u25,u26,u27,u28,u29,u30,u31,u32,u33,u34,u35,u36,u37,u38,u39,u40,u41,u42,u43,u44,u45,u46,u47,u48,u49,u50,u51,u52,u53,u54,u55,u56,u57,u58,u59,u60,u61,u62,u63,u64,u65,u66,u67,u68,u69,u70,u71,u72,u73,u74,u75,u76,u77,u78,u79,u80,u81,u82,u83,u84,u85,u86,u87,u88,u89,u90,u91,u92,u93,u94,u95,u96,u97,u98,u99,u100,u101,u102,u103,u104,u105,u106,u107,u108,u109,u110,u111,u112,u113],defers:=ds }) ?step ?zero (C.length+1) _ _ ?start
  case zero =>
   rintro a W ⟨ds,Bd,b8,out,work,v8,⟨-,-,-,-,h,-⟩,-⟩;omega
  case start =>
   refine⟨[],0,b7+1+1,out0 C.length,[0],_,⟨HFI.out,by omega,Nat.zero_le _,HWL.out,by have:=zHj C.length hN';simp;omega,by have:=zHj C.length hN';simp;omega⟩,?_⟩
   (repeat apply Exists.intro)
   rfl
  case step =>
   clear HFI HWL;rintro m a W ⟨ds,Bd,b8,out,work,v8,⟨hfi,hb8,hBd,hwl,hun,hub⟩,hus⟩;obtain⟨u9,hus⟩:=hus;obtain⟨u10,hus⟩:=hus;obtain⟨u11,hus⟩:=hus;obtain⟨u12,hus⟩:=hus;obtain⟨u13,hus⟩:=hus;obtain⟨u14,hus⟩:=hus;obtain⟨u15,hus⟩:=hus;obtain⟨u16,hus⟩:=hus;obtain⟨u17,hus⟩:=hus;obtain⟨u18,hus⟩:=hus;obtain⟨u19,hus⟩:=hus;obtain⟨u20,hus⟩:=hus;obtain⟨u21,hus⟩:=hus;obtain⟨u22,hus⟩:=hus;obtain⟨u23,hus⟩:=hus;obtain⟨u24,hus⟩:=hus;obtain⟨u25,hus⟩:=hus;obtain⟨u26,hus⟩:=hus;obtain⟨u27,hus⟩:=hus;obtain⟨u28,hus⟩:=hus;obtain⟨u29,hus⟩:=hus;obtain⟨u30,hus⟩:=hus;obtain⟨u31,hus⟩:=hus;obtain⟨u32,hus⟩:=hus;obtain⟨u33,hus⟩:=hus;obtain⟨u34,hus⟩:=hus;obtain⟨u35,hus⟩:=hus;obtain⟨u36,hus⟩:=hus;obtain⟨u37,hus⟩:=hus;obtain⟨u38,hus⟩:=hus;obtain⟨u39,hus⟩:=hus;obtain⟨u40,hus⟩:=hus;obtain⟨u41,hus⟩:=hus;obtain⟨u42,hus⟩:=hus;obtain⟨u43,hus⟩:=hus;obtain⟨u44,hus⟩:=hus;obtain⟨u45,hus⟩:=hus;obtain⟨u46,hus⟩:=hus;obtain⟨u47,hus⟩:=hus;obtain⟨u48,hus⟩:=hus;obtain⟨u49,hus⟩:=hus;obtain⟨u50,hus⟩:=hus;obtain⟨u51,hus⟩:=hus;obtain⟨u52,hus⟩:=hus;obtain⟨u53,hus⟩:=hus;obtain⟨u54,hus⟩:=hus;obtain⟨u55,hus⟩:=hus;obtain⟨u56,hus⟩:=hus;obtain⟨u57,hus⟩:=hus;obtain⟨u58,hus⟩:=hus;obtain⟨u59,hus⟩:=hus;obtain⟨u60,hus⟩:=hus;obtain⟨u61,hus⟩:=hus;obtain⟨u62,hus⟩:=hus;obtain⟨u63,hus⟩:=hus;obtain⟨u64,hus⟩:=hus;obtain⟨u65,hus⟩:=hus;obtain⟨u66,hus⟩:=hus;obtain⟨u67,hus⟩:=hus;obtain⟨u68,hus⟩:=hus;obtain⟨u69,hus⟩:=hus;obtain⟨u70,hus⟩:=hus;obtain⟨u71,hus⟩:=hus;obtain⟨u72,hus⟩:=hus;obtain⟨u73,hus⟩:=hus;obtain⟨u74,hus⟩:=hus;obtain⟨u75,hus⟩:=hus;obtain⟨u76,hus⟩:=hus;obtain⟨u77,hus⟩:=hus;obtain⟨u78,hus⟩:=hus;obtain⟨u79,hus⟩:=hus;obtain⟨u80,hus⟩:=hus;obtain⟨u81,hus⟩:=hus;obtain⟨u82,hus⟩:=hus;obtain⟨u83,hus⟩:=hus;obtain⟨u84,hus⟩:=hus;obtain⟨u85,hus⟩:=hus;obtain⟨u86,hus⟩:=hus;obtain⟨u87,hus⟩:=hus;obtain⟨u88,hus⟩:=hus;obtain⟨u89,hus⟩:=hus;obtain⟨u90,hus⟩:=hus;obtain⟨u91,hus⟩:=hus;obtain⟨u92,hus⟩:=hus;obtain⟨u93,hus⟩:=hus;obtain⟨u94,hus⟩:=hus;obtain⟨u95,hus⟩:=hus;obtain⟨u96,hus⟩:=hus;obtain⟨u97,hus⟩:=hus;obtain⟨u98,hus⟩:=hus;obtain⟨u99,hus⟩:=hus;obtain⟨u100,hus⟩:=hus;obtain⟨u101,hus⟩:=hus;obtain⟨u102,hus⟩:=hus;obtain⟨u103,hus⟩:=hus;obtain⟨u104,hus⟩:=hus;obtain⟨u105,hus⟩:=hus;obtain⟨u106,hus⟩:=hus;obtain⟨u107,hus⟩:=hus;obtain⟨u108,hus⟩:=hus;obtain⟨u109,hus⟩:=hus;obtain⟨u110,hus⟩:=hus;obtain⟨u111,hus⟩:=hus;obtain⟨u112,hus⟩:=hus;obtain⟨u113,hus⟩:=hus;subst hus;have HFI:=eH hfi;have HWL:=eH hwl;have HUN:=eH hun;have HUB:=eH hub;clear hub;have q81:=hfi.c8.1;have q82:=hfi.c8.2;have q7:=hfi.c7.1;have q41:=hfi.c4.1;have q42:=hfi.c4.2;have q51:=hfi.c5.1;have q52:=hfi.c5.2
   cases work with
   | nil =>
    obtain⟨a8,cap8,rfl,_,_⟩:=hfi.row.shape;have hR1:some out=R:=hwl;clear hfi hwl hun HWL HUN
    gi_wp2_with fail
    refine zAu (lo:=w.heap.size) ds Bd _ (jU.keep (fun k o ho hc=>((KeepsOthers.setCell _ _ _).trans (KeepsOthers.setCell _ _ _)).same k o ho hc) HFI.out.marks) fun W' hS=>?_
    have c4:=hS.cell ((HFI.out.c4.set (.slice (some ⟨w.heap.size+1+1+1+1,0,none⟩) C.length C.length)).other (b':=w.heap.size+1) (o:=0) (by omega) (.bool true)).1;have c5:=hS.cell ((HFI.out.c5.other (b':=w.heap.size) (o:=0) (by omega) (.slice (some ⟨w.heap.size+1+1+1+1,0,none⟩) C.length C.length)).set (.bool true)).1;have ir:=hS.row ((HFI.out.orow.other (b:=w.heap.size) (o:=0) (by omega) _).other (b:=w.heap.size+1) (o:=0) (by omega) _) (by rw [HFI.out.hgt.1];omega);refine⟨.tuple #[.slice (some ⟨w.heap.size+1+1+1+1,0,none⟩) C.length C.length,.bool true],by simp [results,Tryz.f88,go_sem,c4,c5],?_,Ext.shut ((HFI.out.ext.setCell (p:=⟨w.heap.size,0,none⟩) (Nat.le_refl _) _).setCell (p:=⟨w.heap.size+1,0,none⟩) (Nat.le_succ _) _) hS⟩;rw [←hR1];refine⟨_,rfl,?_⟩;have h:=ir.ints (by rw [HFI.out.hgt.1];omega) HFI.out.hgt.i64 (w.heap.size≤·) (fun _ h=>h);rw [HFI.out.hgt.1] at h;exact h
   | cons k work =>
    obtain⟨a8,cap8,rfl,_,_⟩:=hfi.row.shape;obtain⟨g8,o8,rfl,hlt8,hcm8,htail,hat8⟩:=RowAt.tail hfi.row;have q80:=hat8 0 (by decide);have hk:=hfi.le k (List.mem_cons_self ..);have HTAIL:=eH htail;have ne8:=hfi.ne8;clear hat8 htail;rw [Nat.add_zero,show (ints (nats (k::work)))[0]?=some (.int .i64 k) from rfl] at q80;clear hfi hwl hun
    gi_upto_region 10 with fail
    generalize hv9:Value.slice (if cap8=1 then some (⟨g8,o8,none⟩:Addr) else some ⟨g8,o8+1,none⟩) work.length (cap8 - 1)=v9 at *;have hrb:∀g',zB v9=some g'→g'=g8:=fun g' h=>by
     rw [←hv9] at h;by_cases hc:cap8 - 1=0
     ·rw [hc] at h;split at h<;>simp [zB] at h
     ·split at h<;>(rw [zK _ _ _ _ hc] at h;exact(Option.some.inj h).symm)
    have hg8:b7+1≤g8∧g8≠b8:=by
     have h1:=zK g8 o8 (work.length+1) cap8 (by omega);exact⟨HFI.out.row.le _ h1,fun e=>ne8 (h1.trans (congrArg some e))⟩
    have hfi:FI w w.heap.size (w.heap.size+1) (w.heap.size+1+1) b7 b8 (w.heap.size+1+1+1+1) (b7+1) C.length (.slice ca C.length ccap) (.slice (some ⟨w.heap.size+1+1+1+1,0,none⟩) C.length C.length) ds Bd out work v9 (W.setCell ⟨b8,0,none⟩ v9):=by
     have hb8w:w.heap.size≤b8:=by omega
     exact { ext:=HFI.out.ext.setCell (p:=⟨b8,0,none⟩) hb8w _,c4:=HFI.out.c4.other (by omega) _,c5:=HFI.out.c5.other (by omega) _,c6:=HFI.out.c6.other (by omega) _,c7:=HFI.out.c7.other (by omega) _,c8:=HFI.out.c8.set _,hgt:=HFI.out.hgt,orow:=HFI.out.orow.other (by omega) _,row:=RowAt.chg HTAIL.out (zO W b8 0 v9) (fun g' h e=>by have:=hrb g' h;omega) (by decide),ne8:=fun h=>by have:=hrb _ h;omega,marks:=jU.keep (fun k o ho hc=>(KeepsOthers.setCell _ _ _).same k o ho hc) HFI.out.marks,le:=fun k' hk'=>HFI.out.le k' (List.mem_cons_of_mem _ hk') }
    clear HFI HTAIL hrb ne8 q80 q81 q82 q7 q41 q42 q51 q52 hlt8 hcm8;obtain⟨W1,hW1⟩:∃W1,W.setCell ⟨b8,0,none⟩ v9=W1:=⟨_,rfl⟩
    have hBd1:Bd≤W1.heap.size:=by rw [←hW1];simpa using hBd
    rw [hW1] at hfi ⊢;clear hv9 hW1 hBd hg8;have HFI:=eH hfi;obtain⟨hk1,hk0⟩:=hk;obtain⟨cb,co,rfl,⟨_,x0,_⟩,_,x1,_⟩:=HO.out k hk1;have hxop:=HR.out.op _ (List.getElem_mem hk1);have hg8:=hfi.hgt.get hk1;have HGD:=eH (zDy hk1);have HLEX:=eH (nx_le (code:=C) HR.out.jumps hk1);rw [zDy hk1] at HLEX;obtain⟨r0,r1,_⟩:=hfi.orow.at (k:=k) (by rw [hfi.hgt.1];exact hk1);have X0:=eH x0;have X1:=eH x1;have y0:=hfi.ext.cell x0;have y1:=hfi.ext.cell x1;have q6:=hfi.c6.1;have q7:=hfi.c7.1;have hsz1:=hfi.ext.size;obtain⟨hh,hhd⟩:∃z,out.getD k 0=z:=⟨_,rfl⟩
    rw [hhd] at r0 hk0 hg8;have HHD:=eH hhd;generalize C[k]=x at *;obtain⟨k0,k1,a0,aj,ac,tk0,tk1⟩:=hxop;have HA:Hid (x.kind=11→0≤x.a∧x.a<p.length):=fun h=>⟨a0,ac h⟩
    have lv0:=zAz x;have lv1:kA x≤1:=by unfold kA;split<;>omega
    obtain⟨nn,hnn⟩:∃nn,hh - zP p x+kA x=nn:=⟨_,rfl⟩
    have HW1:Hid (IntKind.i64.wrap (hh - zP p x)=hh - zP p x):=IntWalk.i64_in _ (by omega);have HW2:Hid (IntKind.i64.wrap (hh - zP p x+kA x)=nn):=by unfold Hid;rw [IntWalk.i64_in _ (by omega)];exact hnn
    have hw1:=HW1.out;have hw2:=HW2.out;have HNN:=eH hnn;clear aj ac hhd hfi hnn x0 x1
    gi_upto_region 12 with (first
     | (refine⟨trivial,?_⟩;gi_at_call 124;refine(callsIn_wide.2 (opOf_any p _ S x _ (zM.stays (Ext.stays HFI.out.ext) HP.out) k0 k1 HA.out)).mono ?_;rintro e w3 ⟨rfl,hb3⟩;have r0':=eC hb3 r0;have q6':=eC hb3 q6;have q7':=eC hb3 q7))
    have hfi4:FI w w.heap.size (w.heap.size+1) (w.heap.size+1+1) b7 b8 (w.heap.size+1+1+1+1) (b7+1) C.length (.slice (some ⟨cb,co,none⟩) C.length ccap) (.slice (some ⟨w.heap.size+1+1+1+1,0,none⟩) C.length C.length) ds Bd out work v9 (w3.alloc (.cells #[.int .i64 nn] 3)):=HFI.out.ex (hb3.alloc _) hBd1;have k12:=Bx.new w3 (.int .i64 nn) 3;have hsz3:=hb3.size;obtain⟨b12,hb12⟩:∃b12,w3.heap.size=b12:=⟨_,rfl⟩
    obtain⟨w4,hw4⟩:∃w4,w3.alloc (.cells #[.int .i64 nn] 3)=w4:=⟨_,rfl⟩
    have hsz4:w4.heap.size=b12+1:=by rw [←hw4,World.size_alloc,hb12]
    rw [hw4] at hfi4 k12 ⊢;rw [hb12] at k12 hsz3 ⊢;have hBd4:Bd≤b12:=by omega
    have h8b:b8<b12:=by have:=HFI.out.c8.lt;omega
    have NE12:Hid (zB v9≠some b12):=fun h=>by obtain⟨off,u,hu⟩:=HFI.out.row.isCells (by decide) h;have:=zY hu;omega
    clear y0 y1 q6 q7 r0 r1;have y0:=hfi4.ext.cell X0.out;have y1:=hfi4.ext.cell X1.out;obtain⟨r0,r1,_⟩:=hfi4.orow.at (k:=k) (by rw [hfi4.hgt.1];exact hk1);rw [HHD.out] at r0;have q6:=hfi4.c6.1;have q7:=hfi4.c7.1;have q12:=k12.1;clear hw4 hb12 hb3 hsz3 r0' q6' q7' HW1 HW2 hw1 hw2 hBd1 hsz1 HFI;have HFI:=eH hfi4;clear hfi4
    gi_cut [75] from 54 (fun v wx=>v=.bool (badB p x hh)∧w4=wx)
    case first =>
     clear HWL HUN;by_cases hb1:hh<zP p x
     ·have hbb:badB p x hh=true:=by unfold badB;simp [hb1]
      gi_wp2_with fail
      gi_meet
      exact⟨by rw [hbb],rfl⟩
     ·have hb1':zP p x≤hh:=by omega
      have HBB:Hid (badB p x hh=(decide (8<nn) || (decide (x.kind=12) && decide (0<nn)))):=by
       unfold Hid badB;rw [show nOf p x hh=nn from HNN.out,decide_eq_false hb1,Bool.false_or]
      clear hb1;by_cases hb3:8<nn
      ·gi_wp2_with fail
       gi_meet
       exact⟨by rw [HBB.out,decide_eq_true hb3];rfl,rfl⟩
      ·have hb3':nn≤8:=by omega
       clear hb3;by_cases hk:x.kind=12
       ·have T12:(x.kind == 12)=true:=by simp [hk]
        have HK:=eH hk;clear hk;by_cases hz:0<nn
        ·gi_wp2_with fail
         gi_meet
         exact⟨by simp only [HBB.out,decide_eq_false (by omega:¬8<nn),decide_eq_true HK.out,decide_eq_true (by omega:0<nn),Bool.false_or,Bool.and_true],rfl⟩
        ·have hz':nn≤0:=by omega
         gi_wp2_with fail
         gi_meet
         exact⟨by simp only [HBB.out,decide_eq_false (by omega:¬8<nn),decide_eq_false (by omega:¬hh<zP p x),decide_eq_true HK.out,decide_eq_false (by omega:¬0<nn),Bool.or_false,Bool.and_false],rfl⟩
       ·have T12:(x.kind == 12)=false:=by simp [hk]
        have HK:=eH hk;clear hk
        gi_wp2_with fail
        gi_meet
        exact⟨by simp only [HBB.out,decide_eq_false (by omega:¬8<nn),decide_eq_false (by omega:¬hh<zP p x),decide_eq_false HK.out,Bool.or_false,Bool.false_and],rfl⟩
    case rest =>
     obtain⟨rfl,rfl⟩:=hcut;have q41:=HFI.out.c4.1;have q42:=HFI.out.c4.2;have q51:=HFI.out.c5.1;have q52:=HFI.out.c5.2
     cases hbad:badB p x hh with
     | true =>
      have hR1:none=R:=by
       have:=HWL.out;unfold wl at this
       rwa [HGD.out,HHD.out,hbad,if_pos rfl] at this
      clear hbad HWL HUN HHD
      gi_wp2_with fail
      refine zAu (lo:=w.heap.size) ds Bd _ (jU.keep (fun k o ho hc=>((KeepsOthers.setCell _ _ _).trans (KeepsOthers.setCell _ _ _)).same k o ho hc) HFI.out.marks) fun W' hS=>?_
      have c4:=hS.cell ((HFI.out.c4.set (.slice none 0 0)).other (b':=w.heap.size+1) (o:=0) (by omega) (.bool false)).1;have c5:=hS.cell ((HFI.out.c5.other (b':=w.heap.size) (o:=0) (by omega) (.slice none 0 0)).set (.bool false)).1;refine⟨.tuple #[.slice none 0 0,.bool false],by simp [results,Tryz.f88,go_sem,c4,c5],?_,Ext.shut ((HFI.out.ext.setCell (p:=⟨w.heap.size,0,none⟩) (Nat.le_refl _) _).setCell (p:=⟨w.heap.size+1,0,none⟩) (Nat.le_succ _) _) hS⟩;rw [←hR1];exact rfl
     | false =>
      have HGO:Hid ((match goOn C.length nn (nx x k) out work with | none=>none | some (o,w)=>wl p C m o w)=R):=by
       have:=HWL.out;unfold wl at this;rw [HGD.out,HHD.out,hbad,show nOf p x hh=nn from HNN.out] at this;exact this
      have nn0:0≤nn:=by have:=zAd hbad;rwa [show nOf p x hh=nn from HNN.out] at this
      have nn8:nn≤8:=by have:=(zIg hbad).2.1;rwa [show nOf p x hh=nn from HNN.out] at this
      clear hbad HWL;have hh8:=HFI.out.hgt.1
      gi_wp2_with (first
       | (refine⟨trivial,?_⟩;gi_at_call 125;refine(callsIn_wide.2 (next_any _ _ _ _ _)).mono ?_;rintro e w5' ⟨rfl,rfl⟩))
      obtain⟨w5,hw5⟩:∃w5,(w4.alloc (.cells #[.slice (some ⟨cb,co,none⟩) C.length ccap] 47)).alloc (.cells #[.int .i64 k] 3)=w5:=⟨_,rfl⟩
      have he5:Ext w4 w5:=by rw [←hw5];exact((eR _).alloc _).alloc _
      have hsz5:w5.heap.size=b12+1+1+1:=by rw [←hw5,World.size_alloc,World.size_alloc,hsz4]
      have n2:w5.cell? ⟨b12+1,0,none⟩=some (.slice (some ⟨cb,co,none⟩) C.length ccap):=by
       rw [←hw5,←hsz4];exact((Bx.new w4 _ 47).ext ((eR _).alloc _)).1
      have n3:w5.cell? ⟨b12+1+1,0,none⟩=some (.int .i64 k):=by
       have:=(Bx.new (w4.alloc (.cells #[.slice (some ⟨cb,co,none⟩) C.length ccap] 47)) (.int .i64 k) 3).1;rw [World.size_alloc,hsz4] at this;rw [←hw5];exact this
      have hfi5:=HFI.out.ex he5 (by omega);have k125:=k12.ext he5;simp only [hw5];clear hw5;have HFI5:=eH hfi5;have K12:=eH k125;refine rangeF_ex (F:=Fence.wide) (α:={ i:Nat // i≤C.length }) rfl (by decide) (gf:=156) (lb:=#[.pointer (some ⟨b12+1,0,none⟩),.pointer (some ⟨b12+1+1,0,none⟩)]) rfl trivial (enters_of Tryz.func156 (by kernel_rfl) rfl)
       (next_stops 5 (by decide) (fun b=>b=w.heap.size+1+1+1+1∨b=b8) b8 (b12+1) (b12+1+1) cb co C.length ccap x k w5 hk1 hlen n2 n3 (hfi5.ext.cell X0.out) (hfi5.ext.cell X1.out) a0 HLEX.out
        (fun b' h=>by have:=hfi5.c8.lt;omega) (by omega) (fun b' ⟨v',hv',hb'⟩=>by
         rw [hfi5.c8.1] at hv'
         cases hv'
         obtain⟨off,u,hu⟩:=HFI.out.row.isCells (by decide) hb';have:=zY hu
         omega))
       (fun h k=>h.trans k) (KpF.put (by omega)) (Below.refl _ _) (fun _=>rfl)
       (BodyI w b7 b8 b12 cb co ccap w5.heap.size C.length nn ds Bd out work)
       (fun c pre W=>c=.ret∧goOn C.length nn (pre.map (·.1)) out work=none∧Ext w W∧Bx W w.heap.size (.slice none 0 0)∧Bx W (w.heap.size+1) (.bool false)∧jU w.heap.size W ds Bd∧w5.heap.size≤W.heap.size)
       ?hI ?hIx ?h0 ?hab ?hdone ?hstop
      case hI =>
       rintro pre A B row ⟨out',work',v',h1,h2,h3,h4,h5⟩ hg hr;exact⟨out',work',v',h1,h2.own hg (fun r e=>⟨by have:=(hr r e).1;omega,(hr r e).2⟩) (by omega),h3.own hg (fun r e=>(hr r e).2),Nat.le_trans h4 hg.size,h5⟩
      case hIx =>
       rintro c pre A B row ⟨h1,h2,h3,h4,h5,h6,h7⟩ hg hr;exact⟨h1,h2,h3.grown hg (fun r e=>by have:=(hr r e).1;omega),h4.own hg (fun r e=>(hr r e).2),h5.own hg (fun r e=>(hr r e).2),jU.below (fun q hq=>hg.block q (by omega) (fun e=>by have:=(hr q e.symm).1;omega)) h6,Nat.le_trans h7 hg.size⟩
      case h0=>exact⟨out,work,v9,rfl,HFI5.out,K12.out,Nat.le_refl _,NE12.out⟩
      case hab =>
       clear HGO HUN n2 n3 q12 q41 q42 q51 q52 q6 q7 r0 r1 y0 y1 hfi5 k125;apply Exists.intro;refine⟨?_,?_⟩
       ·intro l i W K hK
        gi_wp2
        exact hK
       ·rintro l pre ⟨i,hi⟩ W ⟨out',work',v',hgo,hfi,k12',hsz,ne12⟩ hpre;dsimp only;have HG:=eH hgo;have HF:=eH hfi;have HK:=eH k12';have NE:=eH ne12;clear ne12 NE12;have q12:=k12'.1;have q6:=hfi.c6.1;have q7:=hfi.c7.1;have q41:=hfi.c4.1;have q42:=hfi.c4.2;have q51:=hfi.c5.1;have q52:=hfi.c5.2;have GA:Hid (goOn C.length nn ((pre++[(⟨i,hi⟩:{ i:Nat // i≤C.length })]).map (·.1)) out work=goOn C.length nn [i] out' work'):=by
         unfold Hid;rw [List.map_append,zCh,HG.out];rfl
        clear hgo hfi k12' hpre;by_cases hiN:i=C.length
        ·have TI:((i:Int) == (C.length:Int))=true:=beq_iff_eq.2 (by omega);have GG:Hid (goOn C.length nn ((pre++[(⟨i,hi⟩:{ i:Nat // i≤C.length })]).map (·.1)) out work=none):=by
          unfold Hid;rw [GA.out];unfold goOn;rw [if_pos (.inl hiN)]
         clear hiN
         gi_wp2
         exact⟨(KeepsOthers.setCell _ _ _).trans (KeepsOthers.setCell _ _ _),rfl,GG.out,(HF.out.ext.setCell (p:=⟨w.heap.size,0,none⟩) (Nat.le_refl _) _).setCell (p:=⟨w.heap.size+1,0,none⟩) (Nat.le_succ _) _,(HF.out.c4.set (.slice none 0 0)).other (b':=w.heap.size+1) (o:=0) (by omega) (.bool false),(HF.out.c5.other (b':=w.heap.size) (o:=0) (by omega) (.slice none 0 0)).set (.bool false),jU.keep (fun k o ho hc=>((KeepsOthers.setCell _ _ _).trans (KeepsOthers.setCell _ _ _)).same k o ho hc) HF.out.marks,by simpa using hsz⟩
        ·have TI:((i:Int) == (C.length:Int))=false:=beq_eq_false_iff_ne.2 (by omega);have hiN':i<C.length:=by omega
         obtain⟨r0,r1,_⟩:=HF.out.orow.at (k:=i) (by rw [HF.out.hgt.1];exact hiN');have hl':=HF.out.hgt.1;obtain⟨hj,hjd⟩:∃z,out'.getD i 0=z:=⟨_,rfl⟩
         rw [hjd] at r0;have HJ:=eH hjd;clear hjd
         gi_upto_region 17 with fail
         gi_cut [80] from 85 (fun v wx=>v=.bool (decide (0≤hj∧hj≠nn))∧Ext W wx)
         case first =>
          have hmo:Tryz.prog.follows .mixedOrders=true:=by kernel_rfl
          by_cases hneg:hj<0
          ·gi_region_o
           all_goals (gi_wp2;gi_meet;exact⟨by rw [decide_eq_false (fun h=>by omega)],(eR _).drew⟩)
          ·have hpos:0≤hj:=by omega
           clear hneg;have HV:Hid (Value.bool (hj != nn)=Value.bool (decide (0≤hj∧hj≠nn))):=by
            unfold Hid
            congr 1
            cases hc:(hj != nn) with
            | true=>exact(decide_eq_true ⟨by omega,bne_iff_ne.1 hc⟩).symm
            | false=>exact(decide_eq_false (fun h=>h.2 (bne_eq_false_iff_eq.1 hc))).symm
           gi_region_o
           all_goals (gi_wp2;gi_meet;exact⟨HV.out,(eR _).drew⟩)
         case rest =>
          obtain⟨rfl,hex⟩:=hcut;have HF2:=eH (HF.out.ex hex (by omega));have HK2:=eH (HK.out.ext hex);have HEX:=eH hex;have hszc:=hex.size;rename World=>wc
          clear r0 r1 q12 q6 q7 q41 q42 q51 q52 hex;have q12:=HK2.out.1;have q6:=HF2.out.c6.1;have q7:=HF2.out.c7.1;have q41:=HF2.out.c4.1;have q42:=HF2.out.c4.2;have q51:=HF2.out.c5.1;have q52:=HF2.out.c5.2;have q81:=HF2.out.c8.1;have q82:=HF2.out.c8.2;obtain⟨r0,r1,_⟩:=HF2.out.orow.at (k:=i) (by rw [HF2.out.hgt.1];exact hiN');rw [HJ.out] at r0;by_cases hbad:0≤hj∧hj≠nn
          ·have GG:Hid (goOn C.length nn ((pre++[(⟨i,hi⟩:{ i:Nat // i≤C.length })]).map (·.1)) out work=none):=by
            unfold Hid;rw [GA.out];unfold goOn;rw [HJ.out,if_pos (.inr hbad)]
           have TT:decide (0≤hj∧hj≠nn)=true:=decide_eq_true hbad;clear hiN hbad;rw [TT];clear TT
           gi_wp2
           exact⟨HEX.out.others.trans ((KeepsOthers.setCell _ _ _).trans (KeepsOthers.setCell _ _ _)),rfl,GG.out,(HF2.out.ext.setCell (p:=⟨w.heap.size,0,none⟩) (Nat.le_refl _) _).setCell (p:=⟨w.heap.size+1,0,none⟩) (Nat.le_succ _) _,(HF2.out.c4.set (.slice none 0 0)).other (b':=w.heap.size+1) (o:=0) (by omega) (.bool false),(HF2.out.c5.other (b':=w.heap.size) (o:=0) (by omega) (.slice none 0 0)).set (.bool false),jU.keep (fun k o ho hc=>((KeepsOthers.setCell _ _ _).trans (KeepsOthers.setCell _ _ _)).same k o ho hc) HF2.out.marks,by simp;omega⟩
          ·have GB:Hid (goOn C.length nn ((pre++[(⟨i,hi⟩:{ i:Nat // i≤C.length })]).map (·.1)) out work=if hj<0 then some (out'.set i nn,work'++[i]) else some (out',work')):=by
            unfold Hid;rw [GA.out];unfold goOn;rw [HJ.out,if_neg (fun h=>h.elim hiN hbad)];rfl
           have TT:decide (0≤hj∧hj≠nn)=false:=decide_eq_false hbad;rw [TT];clear TT hbad hiN;by_cases hneg:hj<0
           ·have GC:Hid (goOn C.length nn ((pre++[(⟨i,hi⟩:{ i:Nat // i≤C.length })]).map (·.1)) out work=some (out'.set i nn,work'++[i])):=by
             unfold Hid;rw [GB.out,if_pos hneg]
            have HROW:=eH (RowAt.ext (RowAt.chg HF2.out.row (zO wc (w.heap.size+1+1+1+1) i (.int .i64 nn)) (fun b hb e=>by have:=HF2.out.row.le b hb;omega) (by decide)) ((eR _).alloc (.cells #[.int .i64 (i:Int)] 3)) (by decide));have hwl':work'.length≤24:=by
             have h1:=(zFj nn0 (pre.map (·.1)) out work out' work' hh8 (fun q hq=>by obtain⟨y,_,rfl⟩:=List.mem_map.1 hq;exact y.2) HG.out).1;have h2:=HUB.out;simp at h2;omega
            have h8c:=HF2.out.c8.lt;obtain⟨a8',cap8',hv8,_,_⟩:=HF2.out.row.shape;have k8a:=(HF2.out.c8.other (b':=w.heap.size+1+1+1+1) (o:=i) (by omega) (.int .i64 nn)).ext ((eR _).alloc (.cells #[.int .i64 (i:Int)] 3));have K8A:=eH k8a;have hsrc:=uK (wc.setCell ⟨w.heap.size+1+1+1+1,i,none⟩ (.int .i64 nn)) (i:Int) 3;rw [show (wc.setCell ⟨w.heap.size+1+1+1+1,i,none⟩ (.int .i64 nn)).heap.size=wc.heap.size by simp] at hsrc;have HSRC:=eH hsrc;clear hsrc;have NE8:=eH HF2.out.ne8;subst hv8;clear GB k8a
            gi_wp2_with (first
             | (gi_at_builtin;refine zGf rfl _ _ 30 rfl (b7+1) 3 i0 (.int .i64 0) 1 8 Tryz.underlying30 hi0 hz0 hz1 hz2 rfl (by decide) _ _ _ rfl HROW.out 1 (ints [(i:Int)]) HSRC.out (by unfold maxLen;omega) (by omega) (by simp;omega) ?_;intro v1 Wv1 rv1;obtain⟨a1,c1,rfl,_,_⟩:=rv1.1.shape;have K8B:=eH (K8A.out.chg rv1.2.1 NE8.out);have q811:=K8B.out.1;have q822:=K8B.out.2))
            obtain⟨p1,p2,p3⟩:=FI.push HF2.out hiN' nn0 nn8 (by omega) ⟨by omega,by omega⟩ ⟨by omega,by omega⟩ ⟨by omega,by omega⟩ ⟨by omega,by omega⟩ (by omega) hb8 (by omega) rv1;refine⟨HEX.out.others.trans (zEp p2 fun b' hb'=>?_),KpF.trans ⟨HEX.out.size,fun _ _ _ _ h _=>Ext.heap HEX.out h,fun b' h=>.inl (RowB.of_below HEX.out HF.out.c8.lt h)⟩ (KpF.of_chg p2 (fun b' hb'=>?_) (fun b' hb'=>?_)),_,_,_,GC.out,p1,HK2.out.chg p2 (fun e=>?_),by have:=p2.size;omega,fun e=>p3.elim (fun e'=>NE.out (e' ▸ e)) (fun e'=>by have:=e' _ e;omega)⟩
            ·rcases hb' with rfl | rfl | hb'
             ·exact⟨_,_,r0⟩
             ·exact⟨_,_,q81⟩
             ·exact HF2.out.row.isCells (by decide) hb'
            ·rcases hb' with rfl | rfl | hb'
             ·exact .inl (.inl rfl)
             ·exact .inl (.inr rfl)
             ·exact .inr ⟨_,q81,hb'⟩
            ·obtain⟨v'',hv'',hr''⟩:=hb';rw [p1.c8.1] at hv''
             cases hv''
             rcases p3 with p3 | p3
             ·exact .inl ⟨_,q81,by rw [←p3];exact hr''⟩
             ·exact .inr (p3 _ hr'')
            ·rcases e with e | e | e
             ·omega
             ·omega
             ·exact NE.out e
           ·have GC:Hid (goOn C.length nn ((pre++[(⟨i,hi⟩:{ i:Nat // i≤C.length })]).map (·.1)) out work=some (out',work')):=by
             unfold Hid;rw [GB.out,if_neg hneg]
            clear GB
            gi_wp2
            exact⟨HEX.out.others,⟨HEX.out.size,fun _ _ _ _ h _=>Ext.heap HEX.out h,fun b' h=>.inl (RowB.of_below HEX.out HF.out.c8.lt h)⟩,out',work',v',GC.out,HF2.out,HK2.out,by omega,NE.out⟩
      case hdone =>
       rintro D xs W hD hxs ⟨out',work',v',hgo,hfi,k12',hsz,-⟩ hK;rw [hxs] at hgo;have hub:=zFj nn0 (nx x k) out work out' work' hh8 HLEX.out hgo;have HGO2:Hid (wl p C m out' work'=R):=by
        have:=HGO.out
        rwa [hgo] at this
       have hu:=HUN.out;have hu2:=HUB.out;simp only [List.length_cons] at hu hu2;obtain⟨a8',cap8',hv8,_,_⟩:=hfi.row.shape;have h8lt:=hfi.c8.lt;have hDlt:=(Array.getElem?_eq_some_iff.1 hK).1;have HF:=eH hfi;have q81:=hfi.c8.1;have HKD:=eH hK;subst hv8;clear hgo hfi k12' hK HGO n2 n3 q12 q41 q42 q51 q52 q6 q7 r0 r1 y0 y1 hfi5 k125 HUN HUB HLEX HNN HHD HGD HFI HFI5 K12 k12
       gi_wp2
       refine⟨{ target:=.collected D,args:=#[] }::ds,D+1,W.heap.size,out',work',.slice a8' work'.length cap8',⟨?_,by omega,by simp;omega,HGO2.out,by omega,by omega⟩,?_⟩
       ·have e1:Ext W (W.alloc (.cells #[.slice a8' work'.length cap8'] 30)):=(eR _).alloc _;exact { ext:=HF.out.ext.trans e1,c4:=HF.out.c4.ext e1,c5:=HF.out.c5.ext e1,c6:=HF.out.c6.ext e1,c7:=HF.out.c7.ext e1,c8:=Bx.new _ _ _,hgt:=HF.out.hgt,orow:=HF.out.orow.ext e1,row:=HF.out.row.ext e1 (by decide),ne8:=fun h=>by obtain⟨off,u,hu'⟩:=HF.out.row.isCells (by decide) h;have:=zY hu';omega,marks:=⟨D,by omega,by omega,rfl,Ext.heap e1 HKD.out,jU.up (by omega) (jU.below (fun q hq=>Below.block e1 q (by omega)) HF.out.marks)⟩,le:=HF.out.le }
       ·(repeat apply Exists.intro)
        rfl
      case hstop =>
       rintro D c pre W hD hpre ⟨rfl,hno,he,k4',k5',hm,hsz⟩ hK;have hR1:none=R:=by
        obtain⟨t,ht⟩:=hpre;have:=HGO.out
        rwa [←ht,zCh,hno] at this
       clear HGO HUN HUB n2 n3 q12 q41 q42 q51 q52 q6 q7 r0 r1 y0 y1 hfi5 k125 HLEX HNN HHD HGD HFI HFI5 K12 k12
       gi_wp2
       refine zAu (lo:=w.heap.size) (_::ds) (D+1) _ ⟨D,by omega,by omega,rfl,hK,jU.up (by omega) hm⟩ fun W' hS=>?_
       have c4:=hS.cell k4'.1;have c5:=hS.cell k5'.1;refine⟨.tuple #[.slice none 0 0,.bool false],by simp [results,Tryz.f88,go_sem,c4,c5],?_,Ext.shut he hS⟩;rw [←hR1];exact rfl
end Go.Proofs.YtpcjkfppacnkgaaGreatDoor
end
section
namespace Go.Proofs.YtpcjkfppacnkgaaGreatDoor
open Go Go.RowKit
theorem opsErr_drop (p:List GFunc) (f:GFunc) (l:List GOp) (k:Nat) (hk:k<l.length) (h:kP p f l[k]=0):opsErr p f (l.drop k)=opsErr p f (l.drop (k+1)):=by
 rw [List.drop_eq_getElem_cons hk];simp [opsErr,h]
theorem opsErr_hit (p:List GFunc) (f:GFunc) (l:List GOp) (k:Nat) (hk:k<l.length) (h:kP p f l[k]≠0):opsErr p f (l.drop k)=kP p f l[k]:=by
 rw [List.drop_eq_getElem_cons hk];simp [opsErr,h]
theorem zDa (p:List GFunc) (v:Value) (S:Nat→Prop) (f:Int) (w:World) (hp:zM w S v p) :
    Calls Tryz.prog 87 #[v,.int .i64 f] w fun e w'=>e=.returned (.int .i64 (funcErr p f))∧Ext w w':=by
  by_cases hf:0≤f∧f<p.length
  · obtain⟨h0,h1⟩:=hf
    obtain⟨n,rfl⟩:=Int.eq_ofNat_of_zero_le h0;have hn:n<p.length:=by omega
    have hp0:=hp;obtain⟨b,o,cap,rfl,hcap,hby,hA,hL,vc,hC,hcode⟩:=hp.get hn;have hA1:=hA.2.1;have hL1:=hL.2.1;obtain⟨ca,ccap,rfl,hcc,hcby,hops⟩:=hcode;have HF:Hid (funcErr p n=if 24<p[n].code.length then 2 else if qO p[n]=false then 3 else opsErr p p[n] p[n].code):=by
      unfold funcErr Hid;rw [if_neg (by omega)];have:p.getD (n:Int).toNat default=p[n]:=by simp [List.getD,List.getElem?_eq_getElem hn]
      rw [this]
    have RA:=zF;rw [HF.out];clear hA hL HF h0 h1;by_cases hm:24<p[n].code.length
    · rw [if_pos hm]
      go_enter Tryz.func87,Tryz.ntmps87
      go_wp2
      go_ret;exact⟨rfl,by ((repeat first|assumption|exact eR _|exact And.left (by assumption)|apply eA|apply eD|apply eN|refine eS ?_ (by simp<;>omega) _|refine eT ?_ (by assumption));done)⟩
    · rw [if_neg hm]
      have hm':p[n].code.length≤24:=by omega
      clear hm;generalize hF:p[n]=F at *;obtain⟨A,L,code⟩:=F;simp only at *
      cases hs:qO ⟨A,L,code⟩
      · rw [if_pos rfl]
        go_enter Tryz.func87,Tryz.ntmps87
        go_wp2_with (first
          | (go_at_call 120;refine(uX A L _ code _).mono ?_;rintro e w1 ⟨rfl,hb⟩))
        go_ret;exact⟨rfl,by ((repeat first|assumption|exact eR _|exact And.left (by assumption)|apply eA|apply eD|apply eN|refine eS ?_ (by simp<;>omega) _|refine eT ?_ (by assumption));done)⟩
      · rw [if_neg (by decide)]
        go_enter Tryz.func87,Tryz.ntmps87
        go_upto_region 8 with (first
          | (go_at_call 120;refine(uX A L _ code _).mono ?_;rintro e w1 ⟨rfl,hb⟩))
        have hc1:=Ext.keep hb
        go_cut [6] (fun v6 wr=>∃g,v6=.pointer (some ⟨g,0,none⟩)∧Ext w wr∧(∀j,wr.cell? ⟨g,j,none⟩=zDv[j]?) ∧
          wr.cell? ⟨w.heap.size,0,none⟩=some (.int .i64 A)∧wr.cell? ⟨w.heap.size,1,none⟩=some (.int .i64 L)∧wr.cell? ⟨w.heap.size,2,none⟩=some (.slice ca code.length ccap))
        case first =>
          go_wp2_with (first
            | (refine wpList_store_row rfl 156 _ _ rfl _ zDv rfl rfl _ _ (heap_alloc_new _ _) (by kernel_rfl) rfl (by kernel_rfl) ?_)
            | (go_at_call 121;refine(kinds_any _).mono ?_;rintro e w2 ⟨rfl,hb2⟩))
          go_meet
          have e2:=Ext.setRow ((eR w2).alloc (.cells #[.int .i64 0] 0)) (Nat.le_refl _) zDv;have e1:=hb.trans hb2;have e0:=Ext.alloc (eR w) (.cells #[.int .i64 A,.int .i64 L,.slice ca code.length ccap] 49);refine⟨_,rfl,Ext.trans (e0.trans e1) (((eR _).alloc _).setRow (Nat.le_refl _) _),fun j=>cell_setRow_same _ _ _ _ _ _ _ (heap_alloc_new _ _),?_,?_,?_⟩
          all_goals exact eC (((eR _).alloc _).setRow (Nat.le_refl _) _) (eC e1 (by simp))
        case rest =>
          obtain⟨g,rfl,hbc,hk,x0,x1,x2⟩:=hcut;rename World=>wk
          have HE:=eH hbc;clear hb hc1 hbc
          go_wp2_with fail
          go_loopw [32] (fun i wr=>∃k:Nat,k≤code.length∧i=.int .i64 k∧Ext wk wr∧opsErr p ⟨A,L,code⟩ (code.drop k)=opsErr p ⟨A,L,code⟩ code) (fun i _=>code.length - (intOf i).toNat)
          case atStart=>exact⟨0,Nat.zero_le _,rfl,eR _,rfl⟩
          case round =>
            obtain⟨k,hkl,rfl,hbr,hrest⟩:=hrel;have HR:=eH hrest;have HB:=eH hbr;have hcr:=Ext.keep hbr;have hcw:=Ext.keep HE.out;clear hrest hbr;by_cases hlt:k<code.length
            · obtain⟨cb,co,rfl,⟨_,o0,_⟩,_,o1,_⟩:=hops k hlt
              have HD:=eH (fun h=>opsErr_drop p ⟨A,L,code⟩ code k hlt h);have HH:=eH (fun h=>opsErr_hit p ⟨A,L,code⟩ code k hlt h);generalize hx:code[k]=x at *;clear hx hops;by_cases hk1:0≤x.kind∧x.kind≤16
              · have KT:=known_true hk1.1 hk1.2
                obtain⟨hk1,hk2⟩:=hk1
                go_upto_region 14 with (first
                  | (go_at_call 122;refine(known_any _ _).mono ?_;rintro e w1 ⟨rfl,rfl⟩))
                have hsz:0≤L∧L≤4:=by unfold qO at hs;simp at hs;omega
                have hk3:x.kind<17:=by omega
                have gk:=eC HB.out ((hk _).trans (kindRow_at x.kind.toNat (by omega)));have y0:=eC HB.out x0;have kc:=kind_call x.kind.toNat (by omega);have y1:=eC HB.out x1;have y2:=eC HB.out x2
                go_cut [41] (fun v wq=>v=.bool (decide (¬(0≤x.a∧x.a≤qJ p ⟨A,L,code⟩ x.kind)))∧Ext (wr.alloc (.cells #[.int .i64 x.kind,.int .i64 x.a] 51)) wq)
                case first =>
                  by_cases hneg:x.a<0
                  ·
                    refine kB (by kernel_rfl) (by kernel_rfl) ?_
                    repeat (first
                      | go_big_quiet_skip
                      | (go_big_quiet_want
                         unfold Oper.quiet;apply Exists.intro;refine⟨fun w' hw'=>?_,?_⟩
                         focus
                           have hcq:=Ext.keep hw';go_simp
                           first
                             | with_reducible rfl
                         (try dsimp only [Act.put])
                         (try simp only [xL,xM,xN])
                         go_big_quiet_on))
                    refine wpQuiet_nil ?_;intro wq hq
                    go_wp2_with fail
                    go_meet
                    refine⟨?_,hq⟩;simp;omega
                  ·
                    refine kB (by kernel_rfl) (by kernel_rfl) ?_
                    repeat (first
                      | go_big_quiet_skip
                      | (go_big_quiet_want
                         unfold Oper.quiet;apply Exists.intro;refine⟨fun w' hw'=>?_,?_⟩
                         focus
                           have hcq:=Ext.keep hw';go_simp
                           first
                             | with_reducible rfl
                             | ((refine(most_any x.kind hk1 hk2 ⟨A,L,code⟩ p (some ⟨b,o,none⟩) cap (by omega) A (some ⟨cb,co,none⟩) ccap hsz.1 hsz.2 hm' _).mono ?_;rintro e w1 ⟨rfl,hb⟩;exact⟨rfl,hw'.trans hb⟩))
                         (try dsimp only [Act.put])
                         (try simp only [xL,xM,xN])
                         go_big_quiet_on))
                    refine wpQuiet_nil ?_;intro wq hq
                    go_wp2_with fail
                    go_meet
                    refine⟨?_,hq⟩;simp;omega
                case rest =>
                  obtain⟨hv,hq⟩:=hcut;have hW:Ext w wc:=((HE.out.trans HB.out).alloc _).trans hq;have hWc:Ext wk wc:=(HB.out.alloc _).trans hq;have b0:=eC hq (zCm wr x.kind x.a 51);have b1:=eC hq (zFp wr x.kind x.a 51);have hkn:¬¬(0≤x.kind∧x.kind≤16):=by omega
                  clear hcr hcw gk kc y0 y1 y2 x0 x1 x2 hk;have HQ:=eH hq;have HW:=eH hW;have HWc:=eH hWc;clear hq hW hWc;by_cases hin:0≤x.a∧x.a≤qJ p ⟨A,L,code⟩ x.kind
                  · rw [show decide (¬(0≤x.a∧x.a≤qJ p ⟨A,L,code⟩ x.kind))=false by simpa using hin] at hv
                    subst hv;have HIN:=eH hin;by_cases hcm:x.kind=11∨x.kind=13
                    · have hm2:qJ p ⟨A,L,code⟩ x.kind=(p.length:Int) - 1:=by unfold qJ;rcases hcm with h | h<;>simp [h]
                      rw [hm2] at hin;obtain⟨ha0,ha1⟩:=hin;have ha2:x.a<p.length:=by omega
                      obtain⟨b',o',cap',hbo,_,_,g0,g1,vc',g2,hcode'⟩:=hp0.get (i:=x.a.toNat) (by omega);obtain⟨ca',ccap',rfl,_⟩:=hcode';simp only [Value.slice.injEq,Option.some.injEq,Addr.mk.injEq] at hbo;obtain⟨⟨rfl,rfl,-⟩,-,-⟩:=hbo;have z0:=eC HW.out g0.2.1;have z1:=eC HW.out g1.2.1;have z2:=eC HW.out g2;clear g0 g1 g2;have HG:Hid (p.getD x.a.toNat default=p[x.a.toNat]):=by unfold Hid;simp [List.getD,List.getElem?_eq_getElem (show x.a.toNat<p.length by omega)]
                      generalize hF2:p[x.a.toNat]=F2 at *;clear hF2 hm2
                      cases hs2:qO F2
                      · have HE1:Hid (kP p ⟨A,L,code⟩ x=3):=by unfold Hid kP;rw [if_neg hkn,if_neg (fun h=>h HIN.out),if_pos ⟨hcm,by rw [HG.out];exact hs2⟩]
                        rcases hcm with h11 | h13
                        · have T11:(x.kind == 11)=true:=by simp [h11]
                          clear h11
                          go_wp2_with (first
                              | (go_at_call 120;refine(uX F2.args F2.locals _ F2.code _).mono ?_;rintro e w1 ⟨rfl,hb⟩;have hcs:=Ext.keep hb))
                          go_ret;exact⟨qS (by rw [←HR.out,HH.out (by rw [HE1.out];decide),HE1.out]),HW.out.trans hb⟩
                        · have T11:(x.kind == 11)=false:=by simp [h13]
                          have T13:(x.kind == 13)=true:=by simp [h13]
                          clear h13
                          go_wp2_with (first
                              | (go_at_call 120;refine(uX F2.args F2.locals _ F2.code _).mono ?_;rintro e w1 ⟨rfl,hb⟩;have hcs:=Ext.keep hb))
                          go_ret;exact⟨qS (by rw [←HR.out,HH.out (by rw [HE1.out];decide),HE1.out]),HW.out.trans hb⟩
                      · rcases hcm with h11 | h13
                        · have T11:(x.kind == 11)=true:=by simp [h11]
                          have T13:(x.kind == 13)=false:=by simp [h11]
                          have HE1:Hid (kP p ⟨A,L,code⟩ x=0):=by unfold Hid kP;rw [if_neg hkn,if_neg (fun h=>h HIN.out),if_neg (by rw [HG.out,hs2];simp),if_neg (by simp [h11])]
                          clear h11
                          go_wp2_with (first
                              | (go_at_call 120;refine(uX F2.args F2.locals _ F2.code _).mono ?_;rintro e w1 ⟨rfl,hb⟩;have hcs:=Ext.keep hb))
                          go_roundw
                          case rel=>exact⟨k+1,by omega,by go_num,HWc.out.trans hb,by rw [←HR.out];exact(HD.out HE1.out).symm⟩
                          case measure=>simp [intOf];omega
                        · have T11:(x.kind == 11)=false:=by simp [h13]
                          have T13:(x.kind == 13)=true:=by simp [h13]
                          by_cases ha:F2.args=1
                          · have HE1:Hid (kP p ⟨A,L,code⟩ x=0):=by unfold Hid kP;rw [if_neg hkn,if_neg (fun h=>h HIN.out),if_neg (by rw [HG.out,hs2];simp),if_neg (by rw [HG.out];simp [ha])]
                            have TA:(F2.args != 1)=false:=by simp [ha]
                            clear h13 ha
                            go_wp2_with (first
                              | (go_at_call 120;refine(uX F2.args F2.locals _ F2.code _).mono ?_;rintro e w1 ⟨rfl,hb⟩;have hcs:=Ext.keep hb))
                            go_roundw
                            case rel=>exact⟨k+1,by omega,by go_num,HWc.out.trans hb,by rw [←HR.out];exact(HD.out HE1.out).symm⟩
                            case measure=>simp [intOf];omega
                          · have HE1:Hid (kP p ⟨A,L,code⟩ x=1):=by unfold Hid kP;rw [if_neg hkn,if_neg (fun h=>h HIN.out),if_neg (by rw [HG.out,hs2];simp),if_pos (by rw [HG.out];exact⟨h13,ha⟩)]
                            have TA:(F2.args != 1)=true:=by simp [ha]
                            clear h13 ha
                            go_wp2_with (first
                              | (go_at_call 120;refine(uX F2.args F2.locals _ F2.code _).mono ?_;rintro e w1 ⟨rfl,hb⟩;have hcs:=Ext.keep hb))
                            go_ret;exact⟨qS (by rw [←HR.out,HH.out (by rw [HE1.out];decide),HE1.out]),HW.out.trans hb⟩
                    · have HE1:Hid (kP p ⟨A,L,code⟩ x=0):=by
                        unfold Hid kP;rw [if_neg hkn,if_neg (fun h=>h HIN.out),if_neg (fun h=>hcm h.1),if_neg (fun h=>hcm (.inr h.1))]
                      have T11:(x.kind == 11)=false:=by simp;omega
                      have T13:(x.kind == 13)=false:=by simp;omega
                      clear hcm hin
                      go_wp2
                      go_roundw
                      case rel=>exact⟨k+1,by omega,by go_num,HWc.out,by rw [←HR.out];exact(HD.out HE1.out).symm⟩
                      case measure=>simp [intOf];omega
                  · have hin':decide (¬(0≤x.a∧x.a≤qJ p ⟨A,L,code⟩ x.kind))=true:=decide_eq_true hin
                    rw [hin'] at hv;subst hv;have e1:kP p ⟨A,L,code⟩ x=3:=by unfold kP;rw [if_neg hkn,if_pos hin]
                    clear hin';have HE1:=eH e1;clear e1
                    go_wp2
                    go_ret;refine⟨qS ?_,?_⟩
                    · rw [←HR.out,HH.out (by rw [HE1.out];decide),HE1.out]
                    · exact HW.out
              · have KT:=known_false hk1
                go_wp2_with (first
                  | (go_at_call 122;refine(known_any _ _).mono ?_;rintro e w1 ⟨rfl,rfl⟩))
                go_ret;refine⟨qS ?_,?_⟩
                · have e1:kP p ⟨A,L,code⟩ x=4:=by unfold kP;rw [if_pos hk1]
                  rw [←HR.out,HH.out (by rw [e1];decide),e1]
                · have:=HE.out;have:=HB.out
                  ((repeat first|assumption|exact eR _|exact And.left (by assumption)|apply eA|apply eD|apply eN|refine eS ?_ (by simp<;>omega) _|refine eT ?_ (by assumption));done)
            · have hk':k=code.length:=by omega
              subst hk'
              go_wp2
              go_ret;refine⟨qS ?_,?_⟩
              · rw [←HR.out];simp [opsErr]
              · have:=HE.out;have:=HB.out
                ((repeat first|assumption|exact eR _|exact And.left (by assumption)|apply eA|apply eD|apply eN|refine eS ?_ (by simp<;>omega) _|refine eT ?_ (by assumption));done)
  · have HF:funcErr p f=5:=by unfold funcErr;rw [if_pos hf]
    rw [HF];obtain⟨a,cap,rfl,hcap,hby,_⟩:=hp;by_cases h0:f<0
    · go_enter Tryz.func87,Tryz.ntmps87
      go_wp2
      go_ret;exact⟨rfl,by ((repeat first|assumption|exact eR _|exact And.left (by assumption)|apply eA|apply eD|apply eN|refine eS ?_ (by simp<;>omega) _|refine eT ?_ (by assumption));done)⟩
    · have h1:(p.length:Int)≤f:=by omega
      go_enter Tryz.func87,Tryz.ntmps87
      go_wp2
      go_ret;exact⟨rfl,by ((repeat first|assumption|exact eR _|exact And.left (by assumption)|apply eA|apply eD|apply eN|refine eS ?_ (by simp<;>omega) _|refine eT ?_ (by assumption));done)⟩
end Go.Proofs.YtpcjkfppacnkgaaGreatDoor
end
section
namespace Go.Proofs.YtpcjkfppacnkgaaGreatDoor
open Go Go.RowKit
theorem opError_any (p : List GFunc) (v : Value) (S : Nat → Prop) (f : Int) (x : GOp) (w : World) (hp : zM w S v p) (h0 : 0 ≤ f) (h1 : f < p.length)
    (hL0 : 0 ≤ p[f.toNat].locals) (hL1 : p[f.toNat].locals ≤ 4) (hC : p[f.toNat].code.length ≤ 24) :
    Calls Tryz.prog 94 #[v, .int .i64 f, .agg #[.int .i64 x.kind, .int .i64 x.a]] w fun e w' => e = .returned (.int .i64 (kP p p[f.toNat] x)) ∧ Ext w w' := by
  obtain ⟨n, rfl⟩ := Int.eq_ofNat_of_zero_le h0;have hn : n < p.length := by omega
  simp only [Int.toNat_natCast] at *;have hp0 := hp;obtain ⟨b, o, cap, rfl, hcap, hby, hA, hL, vc, hcc, hcode⟩ := hp.get hn;have hA1 := hA.2.1;have hL' := hL.2.1;obtain ⟨ca, ccap, rfl, hcp, hcby, hops⟩ := hcode;have RA := zF;generalize hF : p[n] = F at *;clear hA hL hops hp h0;have e0 : Ext w (w.alloc (.cells #[.int .i64 x.kind, .int .i64 x.a] 51)) := (eR w).alloc _;go_enter Tryz.func94, Tryz.ntmps94
  go_upto_block 0 with fail
  go_cut [7] (fun v7 wr => v7 = .int .i64 (qJ p F x.kind) ∧ Ext (w.alloc (.cells #[.int .i64 x.kind, .int .i64 x.a] 51)) wr)
  case first =>
    go_wp2_with fail
    all_goals (go_meet; refine ⟨?_, eR _⟩; congr 1; unfold qJ; (repeat' split) <;> simp at * <;> omega)
  case rest =>
    obtain ⟨rfl, hq⟩ := hcut;have b0 := eC hq (zCm w x.kind x.a 51);have b1 := eC hq (zFp w x.kind x.a 51);have HW := eH (e0.trans hq);clear hq e0 hA1 hL' hcc hcp hcby RA;by_cases hk : 0 ≤ x.kind ∧ x.kind ≤ 16
    · have hkn : ¬ ¬ (0 ≤ x.kind ∧ x.kind ≤ 16) := fun h => h hk
      obtain ⟨hk1, hk2⟩ := hk;by_cases hin : 0 ≤ x.a ∧ x.a ≤ qJ p F x.kind
      · have HIN := eH hin
        by_cases hcm : x.kind = 11 ∨ x.kind = 13
        · have hm2 : qJ p F x.kind = (p.length : Int) - 1 := by unfold qJ; rcases hcm with h | h <;> simp [h]
          rw [hm2] at hin;obtain ⟨ha0, ha1⟩ := hin;have ha2 : x.a < p.length := by omega
          rw [hm2];obtain ⟨b', o', cap', hbo, _, _, g0, g1, vc', g2, hcode'⟩ := hp0.get (i := x.a.toNat) (by omega);obtain ⟨ca', ccap', rfl, _⟩ := hcode';simp only [Value.slice.injEq, Option.some.injEq, Addr.mk.injEq] at hbo;obtain ⟨⟨rfl, rfl, -⟩, -, -⟩ := hbo;have z0 := eC HW.out g0.2.1;have z1 := eC HW.out g1.2.1;have z2 := eC HW.out g2;clear g0 g1 g2;have HG : Hid (p.getD x.a.toNat default = p[x.a.toNat]) := by unfold Hid; simp [List.getD, List.getElem?_eq_getElem (show x.a.toNat < p.length by omega)]
          generalize hF2 : p[x.a.toNat] = F2 at *;clear hF2 hm2 hp0
          cases hs2 : qO F2
          · have HE1 : Hid (kP p F x = 3) := by unfold Hid kP; rw [if_neg hkn, if_neg (fun h => h HIN.out), if_pos ⟨hcm, by rw [HG.out]; exact hs2⟩]
            rcases hcm with h11 | h13
            · have T11 : (x.kind == 11) = true := by simp [h11]
              clear h11
              go_wp2_with (first
      | (go_at_call 62; refine (kS _ _ _ _).mono ?_; rintro e w1 ⟨rfl, rfl⟩)
      | (go_at_call 93; refine (qN F2.args F2.locals _ F2.code _).mono ?_; rintro e w1 ⟨rfl, hb⟩; have hcs := Ext.keep hb))
              go_ret;exact ⟨qS (by rw [HE1.out]), HW.out.trans hb⟩
            · have T11 : (x.kind == 11) = false := by simp [h13]
              have T13 : (x.kind == 13) = true := by simp [h13]
              clear h13
              go_wp2_with (first
      | (go_at_call 62; refine (kS _ _ _ _).mono ?_; rintro e w1 ⟨rfl, rfl⟩)
      | (go_at_call 93; refine (qN F2.args F2.locals _ F2.code _).mono ?_; rintro e w1 ⟨rfl, hb⟩; have hcs := Ext.keep hb))
              go_ret;exact ⟨qS (by rw [HE1.out]), HW.out.trans hb⟩
          · rcases hcm with h11 | h13
            · have T11 : (x.kind == 11) = true := by simp [h11]
              have T13 : (x.kind == 13) = false := by simp [h11]
              have HE1 : Hid (kP p F x = 0) := by unfold Hid kP; rw [if_neg hkn, if_neg (fun h => h HIN.out), if_neg (by rw [HG.out, hs2]; simp), if_neg (by simp [h11])]
              clear h11
              go_wp2_with (first
      | (go_at_call 62; refine (kS _ _ _ _).mono ?_; rintro e w1 ⟨rfl, rfl⟩)
      | (go_at_call 93; refine (qN F2.args F2.locals _ F2.code _).mono ?_; rintro e w1 ⟨rfl, hb⟩; have hcs := Ext.keep hb))
              go_ret;exact ⟨qS (by rw [HE1.out]), HW.out.trans hb⟩
            · have T11 : (x.kind == 11) = false := by simp [h13]
              have T13 : (x.kind == 13) = true := by simp [h13]
              by_cases ha : F2.args = 1
              · have HE1 : Hid (kP p F x = 0) := by unfold Hid kP; rw [if_neg hkn, if_neg (fun h => h HIN.out), if_neg (by rw [HG.out, hs2]; simp), if_neg (by rw [HG.out]; simp [ha])]
                have TA : (F2.args != 1) = false := by simp [ha]
                clear h13 ha
                go_wp2_with (first
      | (go_at_call 62; refine (kS _ _ _ _).mono ?_; rintro e w1 ⟨rfl, rfl⟩)
      | (go_at_call 93; refine (qN F2.args F2.locals _ F2.code _).mono ?_; rintro e w1 ⟨rfl, hb⟩; have hcs := Ext.keep hb))
                go_ret;exact ⟨qS (by rw [HE1.out]), HW.out.trans hb⟩
              · have HE1 : Hid (kP p F x = 1) := by unfold Hid kP; rw [if_neg hkn, if_neg (fun h => h HIN.out), if_neg (by rw [HG.out, hs2]; simp), if_pos (by rw [HG.out]; exact ⟨h13, ha⟩)]
                have TA : (F2.args != 1) = true := by simp [ha]
                clear h13 ha
                go_wp2_with (first
      | (go_at_call 62; refine (kS _ _ _ _).mono ?_; rintro e w1 ⟨rfl, rfl⟩)
      | (go_at_call 93; refine (qN F2.args F2.locals _ F2.code _).mono ?_; rintro e w1 ⟨rfl, hb⟩; have hcs := Ext.keep hb))
                go_ret;exact ⟨qS (by rw [HE1.out]), HW.out.trans hb⟩
        · have HE1 : Hid (kP p F x = 0) := by
            unfold Hid kP;rw [if_neg hkn, if_neg (fun h => h HIN.out), if_neg (fun h => hcm h.1), if_neg (fun h => hcm (.inr h.1))]
          have T11 : (x.kind == 11) = false := by simp; omega
          have T13 : (x.kind == 13) = false := by simp; omega
          obtain ⟨hi0, hi1⟩ := hin;generalize qJ p F x.kind = M at *;clear hcm hp0;obtain F2 := F
          go_wp2_with (first
      | (go_at_call 62; refine (kS _ _ _ _).mono ?_; rintro e w1 ⟨rfl, rfl⟩)
      | (go_at_call 93; refine (qN F2.args F2.locals _ F2.code _).mono ?_; rintro e w1 ⟨rfl, hb⟩; have hcs := Ext.keep hb))
          go_ret;exact ⟨qS (by rw [HE1.out]), HW.out⟩
      · have HE1 : Hid (kP p F x = 3) := by unfold Hid kP; rw [if_neg hkn, if_pos hin]
        generalize qJ p F x.kind = M at *;clear hp0;obtain F2 := F;by_cases hi0 : 0 ≤ x.a
        · have TI : decide (x.a ≤ M) = false := by simp; omega
          clear hin
          go_wp2_with (first
      | (go_at_call 62; refine (kS _ _ _ _).mono ?_; rintro e w1 ⟨rfl, rfl⟩)
      | (go_at_call 93; refine (qN F2.args F2.locals _ F2.code _).mono ?_; rintro e w1 ⟨rfl, hb⟩; have hcs := Ext.keep hb))
          go_ret;exact ⟨qS (by rw [HE1.out]), HW.out⟩
        · have TI : decide (0 ≤ x.a) = false := by simp; omega
          clear hin
          go_wp2_with (first
      | (go_at_call 62; refine (kS _ _ _ _).mono ?_; rintro e w1 ⟨rfl, rfl⟩)
      | (go_at_call 93; refine (qN F2.args F2.locals _ F2.code _).mono ?_; rintro e w1 ⟨rfl, hb⟩; have hcs := Ext.keep hb))
          go_ret;exact ⟨qS (by rw [HE1.out]), HW.out⟩
    · have HE1 : Hid (kP p F x = 4) := by unfold Hid kP; rw [if_pos hk]
      generalize qJ p F x.kind = M at *;clear hp0;obtain F2 := F;by_cases hi0 : 0 ≤ x.kind
      · have TI : decide (x.kind ≤ 16) = false := by simp; omega
        clear hk
        go_wp2_with (first
      | (go_at_call 62; refine (kS _ _ _ _).mono ?_; rintro e w1 ⟨rfl, rfl⟩)
      | (go_at_call 93; refine (qN F2.args F2.locals _ F2.code _).mono ?_; rintro e w1 ⟨rfl, hb⟩; have hcs := Ext.keep hb))
        go_ret;exact ⟨qS (by rw [HE1.out]), HW.out⟩
      · have TI : decide (0 ≤ x.kind) = false := by simp; omega
        clear hk
        go_wp2_with (first
      | (go_at_call 62; refine (kS _ _ _ _).mono ?_; rintro e w1 ⟨rfl, rfl⟩)
      | (go_at_call 93; refine (qN F2.args F2.locals _ F2.code _).mono ?_; rintro e w1 ⟨rfl, hb⟩; have hcs := Ext.keep hb))
        go_ret;exact ⟨qS (by rw [HE1.out]), HW.out⟩
end Go.Proofs.YtpcjkfppacnkgaaGreatDoor
end
section
namespace Go.Proofs.YtpcjkfppacnkgaaGreatDoor
open Go Go.RowKit
theorem vO (p:List GFunc) (v:Value) (S:Nat→Prop) (f:Int) (w:World) (hp:zM w S v p) :
  Calls Tryz.prog 42 #[v,.int .i64 f] w fun e w'=>e=.returned (.int .i64 (funcErr p f))∧Ext w w':=by
 by_cases hf:0≤f∧f<p.length
 ·obtain⟨h0,h1⟩:=hf;obtain⟨n,rfl⟩:=Int.eq_ofNat_of_zero_le h0;have hn:n<p.length:=by omega
  have hp0:=hp;obtain⟨b,o,cap,rfl,hcap,hby,hA,hL,vc,hC,hcode⟩:=hp.get hn;have hA1:=hA.2.1;have hL1:=hL.2.1;obtain⟨ca,ccap,rfl,hcc,hcby,hops⟩:=hcode;have HF:Hid (funcErr p n=if 24<p[n].code.length then 2 else if qO p[n]=false then 3 else opsErr p p[n] p[n].code):=by
   unfold funcErr Hid;rw [if_neg (by omega)];have:p.getD (n:Int).toNat default=p[n]:=by simp [List.getD,List.getElem?_eq_getElem hn]
   rw [this]
  have RA:=zF;rw [HF.out];have hin:(n:Int)≤(p.length:Int) - 1:=by omega
  clear hA hL HF h0;by_cases hm:24<p[n].code.length
  ·rw [if_pos hm];go_enter Tryz.func42,Tryz.ntmps42
   go_wp2_with (first
    | (go_at_call 62;refine(kS _ _ _ _).mono ?_;rintro e w1 ⟨rfl,rfl⟩))
   go_ret;exact⟨rfl,by ((repeat first|assumption|exact eR _|exact And.left (by assumption)|apply eA|apply eD|apply eN|refine eS ?_ (by simp<;>omega) _|refine eT ?_ (by assumption));done)⟩
  ·rw [if_neg hm];have hm':p[n].code.length≤24:=by omega
   clear hm
   cases hs:qO p[n]
   ·rw [if_pos rfl];have hsb:(!qO ⟨p[n].args,p[n].locals,p[n].code⟩)=true:=by simpa using hs
    go_enter Tryz.func42,Tryz.ntmps42
    go_wp2_with (first
     | (go_at_call 62;refine(kS _ _ _ _).mono ?_;rintro e w1 ⟨rfl,rfl⟩)
     | (go_at_call 93;refine(qN _ _ _ p[n].code _).mono ?_;rintro e w1 ⟨rfl,hb⟩))
    go_ret;exact⟨rfl,by ((repeat first|assumption|exact eR _|exact And.left (by assumption)|apply eA|apply eD|apply eN|refine eS ?_ (by simp<;>omega) _|refine eT ?_ (by assumption));done)⟩
   ·rw [if_neg (by decide)];have hsb:(!qO ⟨p[n].args,p[n].locals,p[n].code⟩)=false:=by simpa using hs
    have hsz:0≤p[n].locals∧p[n].locals≤4:=by unfold qO at hs;simp at hs;omega
    go_enter Tryz.func42,Tryz.ntmps42
    go_wp2_with (first
     | (go_at_call 62;refine(kS _ _ _ _).mono ?_;rintro e w1 ⟨rfl,rfl⟩)
     | (go_at_call 93;refine(qN _ _ _ p[n].code _).mono ?_;rintro e w1 ⟨rfl,hb⟩))
    go_loopw [5] (fun i wr=>∃k:Nat,k≤p[n].code.length∧i=.int .i64 k∧Ext w wr∧opsErr p p[n] (p[n].code.drop k)=opsErr p p[n] p[n].code) (fun i _=>p[n].code.length - (intOf i).toNat)
    case atStart=>exact⟨0,Nat.zero_le _,rfl,hb,rfl⟩
    case round =>
     obtain⟨k,hkl,rfl,hbr,hrest⟩:=hrel;have HR:=eH hrest;have HB:=eH hbr;have hcr:=Ext.keep hbr;clear hrest hbr;by_cases hlt:k<p[n].code.length
     ·obtain⟨cb,co,rfl,⟨_,o0,_⟩,_,o1,_⟩:=hops k hlt;have HD:Hid (kP p p[n] p[n].code[k]=0→_):=fun h=>opsErr_drop p p[n] p[n].code k hlt h
      have HH:Hid (kP p p[n] p[n].code[k]≠0→_):=fun h=>opsErr_hit p p[n] p[n].code k hlt h
      generalize hx:p[n].code[k]=x at *;clear hx hops;by_cases hz:kP p p[n] x=0
      ·have TZ:(kP p p[n] x != 0)=false:=by simp [hz]
       have HZ:=eH hz;clear hz
       go_wp2_with (first
        | (go_at_call 94;refine(opError_any p _ S n x _ (zM.stays HB.out.stays hp0) (by omega) (by omega) hsz.1 hsz.2 hm').mono ?_;rintro e w1 ⟨rfl,hb1⟩))
       go_roundw
       case rel=>exact⟨k+1,by omega,by go_num,HB.out.trans hb1,by rw [←HR.out];exact(HD.out HZ.out).symm⟩
       case measure=>simp [intOf];omega
      ·have TZ:(kP p p[n] x != 0)=true:=by simp [hz]
       have HZ:=eH hz;clear hz
       go_wp2_with (first
        | (go_at_call 94;refine(opError_any p _ S n x _ (zM.stays HB.out.stays hp0) (by omega) (by omega) hsz.1 hsz.2 hm').mono ?_;rintro e w1 ⟨rfl,hb1⟩))
       go_ret;exact⟨qS (by rw [←HR.out,HH.out HZ.out]),HB.out.trans hb1⟩
     ·have hk':k=p[n].code.length:=by omega
      subst hk'
      go_wp2
      go_ret;exact⟨qS (by rw [←HR.out];simp [opsErr]),HB.out⟩
 ·have HF:funcErr p f=5:=by unfold funcErr;rw [if_pos hf]
  rw [HF];obtain⟨a,cap,rfl,hcap,hby,_⟩:=hp;by_cases h0:0≤f
  ·have h1:decide (f≤(p.length:Int) - 1)=false:=by simp;omega
   clear hf;go_enter Tryz.func42,Tryz.ntmps42
   go_wp2_with (first
    | (go_at_call 62;refine(kS _ _ _ _).mono ?_;rintro e w1 ⟨rfl,rfl⟩))
   go_ret;exact⟨rfl,eR _⟩
  ·have h1:decide (0≤f)=false:=by simp;omega
   clear hf;go_enter Tryz.func42,Tryz.ntmps42
   go_wp2_with (first
    | (go_at_call 62;refine(kS _ _ _ _).mono ?_;rintro e w1 ⟨rfl,rfl⟩))
   go_ret;exact⟨rfl,eR _⟩
end Go.Proofs.YtpcjkfppacnkgaaGreatDoor
end
