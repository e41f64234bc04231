/- Contracts and plain facts. -/
import Derived.Test.YtpcjkfppacnkgaaGreatDoorGPAG
import Derived.Lib.AtoiTie
import Derived.Lib.ItoaLen
import Derived.Lib.SplitLaws
import Derived.Lib.Strings
import Derived.RecoverIn
set_option maxHeartbeats 4000000
set_option maxRecDepth 100000
section
namespace Go.Proofs.YtpcjkfppacnkgaaGreatDoor
open Go Go.RowKit
section
variable {P:Program} {f:FuncId} {n:Nat} {Q:Exit→Act→World→Prop} {a:Act} {w:World}
def Code.wpAt (f:FuncId) (P:Program) (c:Code) (Q:Exit→Act→World→Prop) (a:Act) (w:World):Prop :=
 ∀(b:Frame) (k:List Item) (cs:List Frame),b.roundOf=none→b.fn=f →
  ∃e a' w',Q e a' w'∧ArrivesIn (Machine.fenced P Fence.wide) P (lone (b.atR a (.code c::k)) cs w) b k cs e a' w'
theorem zGs {c:Code} (h:c.wp P Q a w):Code.wpAt f P c Q a w:=fun b k cs hro _=>(wpIn_wide (n:=0)).2 h b k cs hro trivial (room_wide _)
theorem wpAt_seq {x y:Code} (h:Code.wpAt f P x (Exit.then (fun a w=>Code.wpAt f P y Q a w) Q) a w):Code.wpAt f P (Code.seq x y) Q a w:=by
 intro b k cs hro hb;have h0:(lone (b.atR a (.code (.seq x y)::k)) cs w).fenced P Fence.wide:=fenced_calm (n:=0) trivial (room_wide _) rfl;obtain⟨e,a₁,w₁,hq,harr⟩:=h b (.code y::k) cs hro hb
 cases e with
 | normal =>
  obtain⟨e₂,a₂,w₂,hq₂,harr₂⟩:=hq b k cs hro hb;exact⟨e₂,a₂,w₂,hq₂,.of_steps (.head h0 stepR_seq harr) harr₂⟩
 | exit id=>exact⟨_,a₁,w₁,hq,.of_steps (.one h0 stepR_seq) (.pass (x:=.code y) rfl (fun _ _=>.inl (by simp)) harr)⟩
 | goto l=>exact⟨_,a₁,w₁,hq,.of_steps (.one h0 stepR_seq) (.pass (x:=.code y) rfl (fun _ _=>.inl (by simp)) harr)⟩
 | ret=>exact⟨_,a₁,w₁,hq,.of_steps (.one h0 stepR_seq) (.pass (x:=.code y) rfl (fun _ _=>.inl (by simp)) harr)⟩
 | panic ch=>exact⟨_,a₁,w₁,hq,.of_steps (.one h0 stepR_seq) (.pass (x:=.code y) rfl (fun _ _=>.inl (by simp)) harr)⟩
 | outgrown=>exact⟨_,a₁,w₁,hq,.of_steps (.one h0 stepR_seq) (.pass (x:=.code y) rfl (fun _ _=>.inl (by simp)) harr)⟩
theorem kQ {x y:Code} (h:x.wp P (Exit.then (fun a w=>Code.wpAt f P y Q a w) Q) a w):Code.wpAt f P (Code.seq x y) Q a w:=wpAt_seq (zGs h)
theorem zGq {fn:Func} {c:Code} {args:Array Value} {R:Ending→World→Prop} (hf:P.funcs[f]?=some fn) (hb:fn.body=some c)
  (h:Code.wpAt f P c (bodyPostM Fence.wide 0 P fn R) { tmps:=args++Array.replicate (fn.ntmps - args.size) undef,defers:=[] } w):Calls P f args w R:=by
 refine(callsIn_wide (n:=0)).1 ⟨trivial,fun cs hr=>?_⟩
 let b:Frame:={ (default:Frame) with fn:=f,kind:=.normal,roundOf:=none }
 have henter:Frame.enter P f args .normal=b.atR { tmps:=args++Array.replicate (fn.ntmps - args.size) undef,defers:=[] } [.code c]:=by
  simp [Frame.enter,Frame.atR,hf,hb,b]
 obtain⟨e,a',w',hq,harr⟩:=h b [] cs rfl rfl;rw [←henter] at harr;have hF:Fence.wide.fn b.fn:=trivial
 cases e with
 | normal =>
  obtain⟨e',w'',fr',hR,hs,hfn,hl⟩:=leaves_stepsInM a'.defers .returning w' { b.atR a' [] with mode:=.returning } cs rfl rfl rfl hf rfl hF hr hq;exact⟨e',w'',fr',hR,ComesIn.of_steps (StepsIn.trans harr (.one (fenced_calm (fr:=b.atR a' []) hF hr rfl) (stepR_end rfl))) hs,hfn,hl⟩
 | ret =>
  obtain⟨todo,hs₀⟩:=harr.1 rfl;obtain⟨e',w'',fr',hR,hs,hfn,hl⟩:=leaves_stepsInM a'.defers .returning w' { b.atR a' todo with mode:=.returning } cs rfl rfl rfl hf rfl hF hr hq;exact⟨e',w'',fr',hR,ComesIn.of_steps hs₀ hs,hfn,hl⟩
 | panic chain =>
  obtain⟨todo,hs₀⟩:=harr;obtain⟨e',w'',fr',hR,hs,hfn,hl⟩:=leaves_stepsInM a'.defers (.panicking chain) w' { b.atR a' todo with mode:=.panicking chain } cs rfl rfl rfl hf rfl hF hr hq;exact⟨e',w'',fr',hR,ComesIn.of_steps hs₀ hs,hfn,hl⟩
 | exit id=>exact hq.elim
 | goto l=>exact hq.elim
 | outgrown=>exact⟨.outgrown,w',b,hq,harr.resolve_left (by simp [b]),rfl,trivial⟩
def roundPostT (P:Program) (l:Nat) (R:Ending→World→Prop):Exit→Act→World→Prop
 | .normal,_,w=>∃v w',(Instr.endRound l none).run P w=.ok v w'∧R (.returned v) w'
 | .panic chain,a,w=>a.defers=[]∧R (.panicked chain) w
 | _,_,_=>False
theorem roundIn_of_wpT {l:Nat} {tmps:Array Value} {assign body:Code} {R:Ending→World→Prop} (hf:∃fn,P.funcs[f]?=some fn)
  (h:assign.wpIn (Fence.wide.inRound l) n P (Exit.then (fun a₁ w₁=>∃w₂,(Instr.beginRound l).run P w₁=.ok () w₂∧body.wpIn (Fence.wide.inRound l) n P (roundPostT P l R) a₁ w₂) (fun _ _ _=>False))
   { tmps:=tmps,defers:=[] } w) :
  RoundIn Fence.wide n P l f tmps assign body w R:=by
 refine⟨trivial,fun c cs hr=>?_⟩
 let b:Frame:={ (default:Frame) with fn:=f,kind:=.normal,roundOf:=some l }
 have hb0:Frame.round l f tmps assign body .normal=b.atR { tmps:=tmps,defers:=[] } [.code assign,.beginRound,.code body]:=by
  simp [Frame.round,Frame.atR,b]
 have hr':(Fence.wide.inRound l).room ((c::cs).length+1+n):=hr;have hF':(Fence.wide.inRound l).fn b.fn:=trivial;obtain⟨e,a₁,w₁,hq,harr⟩:=h b [.beginRound,.code body] (c::cs) rfl hF' hr';rw [←hb0] at harr
 cases e with
 | normal =>
  obtain⟨w₂,hbr,hbody⟩:=hq;have s1:StepsIn (Machine.fenced P (Fence.wide.inRound l)) P (lone (b.atR a₁ [.beginRound,.code body]) (c::cs) w₁) (lone (b.atR a₁ [.code body]) (c::cs) w₂) :=
   .one (fenced_calm (fr:=b.atR a₁ [.beginRound,.code body]) hF' hr' rfl) (stepR_beginRound rfl hbr)
  obtain⟨e₂,a₂,w₃,hq₂,harr₂⟩:=hbody b [] (c::cs) rfl hF' hr'
  cases e₂ with
  | normal =>
   obtain⟨v,w₄,hend,hR⟩:=hq₂;exact⟨.returned v,w₄,hR,(StepsIn.trans harr s1).trans (StepsIn.trans harr₂ (.one (fenced_calm (fr:=b.atR a₂ []) hF' hr' rfl) (stepR_round_end rfl rfl hend)))⟩
  | panic chain =>
   obtain⟨hd,hR⟩:=hq₂;obtain⟨todo,hs⟩:=harr₂;obtain⟨fn,hfn⟩:=hf;have hl:({ b.atR a₂ todo with mode:=.panicking chain }:Frame).leaving P w₃ (.panicked chain):=⟨rfl,hd,fn,hfn⟩
   exact⟨.panicked chain,w₃,hR,(StepsIn.trans harr s1).trans (StepsIn.trans hs (.one (fenced_leaving (n:=n) trivial hr' hl) (step_leave_panicked hl)))⟩
  | ret=>exact hq₂.elim
  | exit id=>exact hq₂.elim
  | goto t=>exact hq₂.elim
  | outgrown=>exact hq₂.elim
 | exit id=>exact hq.elim
 | goto t=>exact hq.elim
 | ret=>exact hq.elim
 | panic chain=>exact hq.elim
 | outgrown=>exact hq.elim
structure Kc (lo:Nat) (W W':World):Prop where
 below:Below lo W W'
 cells:∀(k:Nat) (o:Obj),W.heap[k]?=some o→o.isCells=true→W'.heap[k]?=some o
theorem Kc.refl (lo:Nat) (W:World):Kc lo W W:=⟨Below.refl _ _,fun _ _ h _=>h⟩
theorem Kc.trans {lo:Nat} {A B C:World} (h:Kc lo A B) (k:Kc lo B C):Kc lo A C:=⟨h.below.trans k.below,fun i o hi hc=>k.cells i o (h.cells i o hi hc) hc⟩
theorem Kc.cell {lo:Nat} {W W':World} (h:Kc lo W W') {b o:Nat} {v:Value} (hc:W.cell? ⟨b,o,none⟩=some v):W'.cell? ⟨b,o,none⟩=some v:=by
 obtain⟨ob,ho,hcc⟩:=cells_of_cell hc;rw [←hc];exact World.cell?_of_block ((h.cells _ _ ho hcc).trans ho.symm)
theorem Kc.cx {lo:Nat} {W W':World} (h:Kc lo W W') {b o:Nat} {v:Value} (hc:Cx W b o v):Cx W' b o v:=by
 obtain⟨ob,ho,hcc⟩:=cells_of_cell hc.1;exact⟨h.cell hc.1,by rw [World.frozen?_of_block ((h.cells _ _ ho hcc).trans ho.symm)];exact hc.2⟩
theorem Kc.stays {lo:Nat} {W W':World} (h:Kc lo W W') (S:Nat→Prop):uU S S W W':=fun _ _ _ hb hc=>⟨h.cell hc,hb⟩
theorem Kc.row {lo:Nat} {W W':World} (h:Kc lo W W') {base size n:Nat} {v:Value} {xs:List Value} (hr:RowAt W base size v n xs) (hs:0<size):RowAt W' base size v n xs:=by
 refine hr.keep (fun g hg hlt=>?_) hs;obtain⟨_,a,cap,rfl,h1,h2,h3⟩:=hr;by_cases hc:cap=0
 ·subst hc;cases a<;>simp [zB] at hg
 ·obtain⟨g',o,rfl,_,_,ht⟩:=h3.resolve_left hc;rw [zK g' o n cap hc] at hg
  cases hg
  obtain⟨u,hu⟩:=Option.isSome_iff_exists.1 (ht 0 (Nat.mul_pos (by omega) hs)).1;obtain⟨ob,ho,hcc⟩:=cells_of_cell hu;exact(h.cells _ _ ho hcc).trans ho.symm
theorem Kc.ext {lo:Nat} {w W W':World} (h:Kc lo W W') (he:Ext w W) (hl:w.heap.size≤lo):Ext w W':=Below.trans he (Below.mono h.below hl)
theorem Kc.putObj {lo:Nat} {W:World} {l:Nat} {o:Obj} (o':Obj) (ho:W.heap[l]?=some o) (hc:o.isCells=false) (hl:lo≤l):Kc lo W (W.putObj l o') :=
 ⟨⟨rfl,rfl,rfl,by simp,fun k hk=>World.putObj_heap_other (by omega)⟩,fun k ob hk hcb=>(World.putObj_heap_other (fun e=>by subst e;rw [ho] at hk;cases hk;rw [hc] at hcb;cases hcb)).trans hk⟩
theorem Kc.drew (lo:Nat) (W:World):Kc lo W W.drew:=⟨⟨rfl,rfl,rfl,Nat.le_refl _,fun _ _=>rfl⟩,fun _ _ h _=>h⟩
theorem Kc.alloc (lo:Nat) (W:World) (o:Obj) (hl:lo≤W.heap.size):Kc lo W (W.alloc o) :=
 ⟨(Below.refl _ _).alloc hl o,fun k ob hk _=>by rw [Below.heap_alloc W o k (Array.getElem?_eq_some_iff.1 hk).1];exact hk⟩
def IterT {α:Type} (P:Program) (gf:Nat) (lb:Array Value) (enc:α→Value) (ys:List α) (own:Nat→Prop) (w:World):Prop :=
 ∀(l:Nat) (J:List α→World→Prop) (Jp:List PanicEntry→World→Prop) (W:World),Kc w.heap.size w W→(∀b,own b→b<l) →
  (∀ys W b u,J ys W→own b→J ys (W.setCell ⟨b,0,none⟩ u))→(∀ys W,J ys W→J ys W.drew) →
  (∀x ys W,J (x::ys) W→YieldAt Fence.wide 0 P l #[enc x] W fun e W'=>(e=.returned (.bool true)∧J ys W'∧∀b v,own b→Cx W b 0 v→Cx W' b 0 v)∨∃c,e=.panicked c∧Jp c W') →
  J ys W→CallsIn Fence.wide 0 P gf (#[.func (.yield l) #[] #[]]++lb) W fun e W'=>(∃v,e=.returned v∧J [] W')∨∃c,e=.panicked c∧Jp c W'
theorem wpAt_rangeT {α:Type} {g:Operand} {p0:Tmp} {assign body:Code} {gf:Nat} {lb:Array Value} {enc:α→Value} {ys:List α} {own:Nat→Prop}
  (hf:∃fn,P.funcs[f]?=some fn) (hg:a.eval g=.func (.func gf) #[] lb) (eg:∀args w,(callFunc gf args).run P w=.ok (.enter gf args) w)
  (hit:IterT P gf lb enc ys own w) (hown:∀b,own b→b<w.heap.size)
  (I:List α→World→Prop) (Ip:List PanicEntry→World→Prop) (hI:∀ys W W',I ys W→Kc w.heap.size W W'→I ys W') (hIo:∀ys W b u,I ys W→own b→I ys (W.setCell ⟨b,0,none⟩ u)) (h0:I ys w) (a₁:α→Act)
  (hassign:∀(l:Nat) (x:α) (W:World) (K:Act→World→Prop),K (a₁ x) W→assign.wpIn (Fence.wide.inRound l) 0 P (Exit.then K (fun _ _ _=>False)) { tmps:=a.tmps.setIfInBounds p0 (enc x),defers:=[] } W)
  (hbody:∀(l:Nat) (x:α) (ys:List α) (W:World),I (x::ys) W→(∀b o v,W.cell? ⟨b,o,none⟩=some v→b≠l)→w.heap.size<l→l<W.heap.size→body.wpIn (Fence.wide.inRound l) 0 P (fun e a' W'=>match e with
   | .normal=>I ys W'∧(∀b v,own b→Cx W b 0 v→Cx W' b 0 v)∧(∀(k:Nat) (o:Obj),w.heap.size≤k→W.heap[k]?=some o→o.isCells=false→W'.heap[k]?=some o)
   | .panic c=>a'.defers=[]∧Ip c W'∧(∀(k:Nat) (o:Obj),w.heap.size≤k→W.heap[k]?=some o→o.isCells=false→W'.heap[k]?=some o)
   | _=>False) (a₁ x) W)
  (hdone:∀(D:Nat) (W:World),w.heap.size≤D→I [] W→W.heap[D]?=some (.deferred (some []))→Q .normal { a with defers:={ target:=.collected D,args:=#[] }::a.defers } W)
  (hpanic:∀(D:Nat) (c:List PanicEntry) (W:World),w.heap.size≤D→Ip c W→W.heap[D]?=some (.deferred (some []))→Q (.panic c) { a with defers:={ target:=.collected D,args:=#[] }::a.defers } W) :
  Code.wpAt f P (Code.rangeFunc g #[p0] assign body) Q a w:=by
 intro b k cs hro hb;obtain⟨rec,hrec⟩:∃rec:LoopState→Option Code→Loop,rec=fun st pe=>{ state:=st,pending:=pe,fn:=f,tmps:=a.tmps,params:=#[p0],assign,body,defers:=w.heap.size }:=⟨_,rfl⟩
 obtain⟨W1,hW1⟩:∃W1,(w.alloc (.deferred (some []))).alloc (.loop (rec .ready none))=W1:=⟨_,rfl⟩
 have hL1:W1.heap[w.heap.size+1]?=some (.loop (rec .ready none)):=by
  rw [←hW1];have:=World.alloc_heap_new (w.alloc (.deferred (some []))) (.loop (rec .ready none));rwa [World.size_alloc] at this
 have hK1:W1.heap[w.heap.size]?=some (.deferred (some [])):=by
  rw [←hW1];exact(Below.heap_alloc _ _ _ (by simp)).trans (World.alloc_heap_new w _)
 have hkc1:Kc w.heap.size w W1:=by rw [←hW1];exact(Kc.alloc _ w _ (Nat.le_refl _)).trans (Kc.alloc _ _ _ (by simp))
 have hcall:CallsIn Fence.wide 0 P gf (#[.func (.yield (w.heap.size+1)) #[] #[]]++lb) W1 fun e W' =>
   (∃v,e=.returned v∧(I [] W'∧W'.heap[w.heap.size+1]?=some (.loop (rec .ready none))∧W'.heap[w.heap.size]?=some (.deferred (some [])))) ∨
   ∃c,e=.panicked c∧(Ip c W'∧W'.heap[w.heap.size]?=some (.deferred (some []))):=by
  refine hit (w.heap.size+1) (fun ys W=>I ys W∧W.heap[w.heap.size+1]?=some (.loop (rec .ready none))∧W.heap[w.heap.size]?=some (.deferred (some []))) (fun c W=>Ip c W∧W.heap[w.heap.size]?=some (.deferred (some []))) W1 hkc1 (fun b hb=>by have:=hown b hb;omega) ?_ (fun ys W h=>⟨hI _ _ _ h.1 (Kc.drew _ W),h.2.1,h.2.2⟩) ?_ ⟨hI _ _ _ h0 hkc1,hL1,hK1⟩
  ·rintro ys W b u ⟨h1,h2,h3⟩ hob;have:=hown b hob;exact⟨hIo ys W b u h1 hob,(Below.heap_setCell _ _ _ _ (by show _≠b;omega)).trans h2,(Below.heap_setCell _ _ _ _ (by show _≠b;omega)).trans h3⟩
  ·rintro x ys W ⟨hi,hl,hk⟩;have hlt:w.heap.size+1<W.heap.size:=(Array.getElem?_eq_some_iff.1 hl).1;have hy:=run_yield (P:=P) (args:=#[enc x]) hl (by rw [hrec];rfl);rw [hrec] at hy;refine⟨f,_,assign,body,hy,roundIn_of_wpT hf ?_⟩;have e0:∀(g:Array Value→Tmp × Value→Array Value),Array.foldl g a.tmps (#[p0].zip #[enc x])=g a.tmps (p0,enc x):=fun g=>by simp
   rw [e0];refine hassign _ x W _ ?_;refine⟨_,run_beginRound hl (by rw [hrec]),?_⟩;have hl2:(W.putObj (w.heap.size+1) (.loop { rec .ready none with state:=.busy })).heap[w.heap.size+1]?=some (.loop { rec .ready none with state:=.busy }):=World.putObj_heap_same hlt;have hk2:(W.putObj (w.heap.size+1) (.loop { rec .ready none with state:=.busy })).heap[w.heap.size]?=some (.deferred (some [])):=(World.putObj_heap_other (by omega)).trans hk;have hkc2:Kc w.heap.size W (W.putObj (w.heap.size+1) (.loop { rec .ready none with state:=.busy })):=Kc.putObj _ hl rfl (by omega);refine wpIn_mono (hbody _ x ys _ (hI _ _ _ hi hkc2) (fun b o v hc e=>?_) (by omega) (by simpa using hlt)) ?_
   ·subst e;obtain⟨ob,ho,hcc⟩:=cells_of_cell hc;have ho':(W.putObj (w.heap.size+1) (.loop { rec .ready none with state:=.busy })).heap[w.heap.size+1]?=some ob:=ho;rw [hl2] at ho'
    cases ho'
    cases hcc
   ·rintro e a3 W3 hp
    cases e with
    | normal =>
     obtain⟨q1,q2,q3⟩:=hp;have hl3:=q3 _ _ (by omega) hl2 rfl;have hk3:=q3 _ _ (Nat.le_refl _) hk2 rfl;have hend:=run_endRound (P:=P) none hl3;refine⟨_,_,hend,.inl ⟨rfl,⟨hI _ _ _ q1 (Kc.putObj _ hl3 rfl (by omega)),?_,?_⟩,fun b v hob hc=>?_⟩⟩
     ·rw [World.putObj_heap_same (Array.getElem?_eq_some_iff.1 hl3).1,hrec];rfl
     ·exact(World.putObj_heap_other (by omega)).trans hk3
     ·exact(Kc.putObj (lo:=w.heap.size) _ hl3 rfl (by omega)).cx (q2 b v hob (hkc2.cx hc))
    | panic c =>
     obtain⟨q1,q2,q3⟩:=hp;exact⟨q1,.inr ⟨c,rfl,q2,q3 _ _ (Nat.le_refl _) hk2 rfl⟩⟩
    | ret=>exact hp.elim
    | exit id=>exact hp.elim
    | goto t=>exact hp.elim
    | outgrown=>exact hp.elim
 have henter:(Instr.enterLoop b.fn a.tmps #[p0] assign body b.roundOf).run P w=.ok (w.heap.size+1,[{ target:=.collected w.heap.size,args:=#[] }]) W1:=by
  rw [hro,hb,←hW1,hrec];exact run_enterLoop_outer _ _ _ _ _
 have hres:(resolve a.eval (rangeCall g (w.heap.size+1)) 0).run P W1=.ok { target:=.fn (.func gf) lb,args:=#[.func (.yield (w.heap.size+1)) #[] #[]] } W1:=by
  simp only [resolve,hg];simp [go_sem]
 have hinv:(invoke (.fn (.func gf) lb) #[.func (.yield (w.heap.size+1)) #[] #[]]).run P W1=.ok (.enter gf (#[.func (.yield (w.heap.size+1)) #[] #[]]++lb)) W1:=by
  simp [invoke,go_sem,eg]
 have h0f:(lone (b.atR a (.code (.rangeFunc g #[p0] assign body)::k)) cs w).fenced P Fence.wide:=fenced_lone (.inl trivial) (fun _ _=>trivial) (room_wide _);have hst:=stepR_rangeFunc (P:=P) (b:=b) (a:=a) (k:=k) (cs:=cs) (w:=w) henter hres hinv;have hroom:Fence.wide.room ((b.atR { a with defers:=[{ target:=.collected w.heap.size,args:=#[] }]++a.defers } (.inRangeFunc (w.heap.size+1)::k)::cs).length+1+0):=room_wide _;obtain⟨e,w₃,fr,hR,hsteps,hfn,hleave⟩:=hcall.2 (b.atR { a with defers:=[{ target:=.collected w.heap.size,args:=#[] }]++a.defers } (.inRangeFunc (w.heap.size+1)::k)::cs) hroom;rcases hR with ⟨v,rfl,hi,hl,hk⟩ | ⟨c,rfl,hi,hk⟩
 ·have hend:=run_endLoop (P:=P) hl (by rw [hrec];simp);have hlv:(lone fr (b.atR { a with defers:=[{ target:=.collected w.heap.size,args:=#[] }]++a.defers } (.inRangeFunc (w.heap.size+1)::k)::cs) w₃).fenced P Fence.wide:=fenced_leaving (n:=0) trivial hroom hleave;have hp:(rec .ready none).pending=none:=by rw [hrec]
  have hend2:=stepR_endRangeFunc (b:=b) (a:={ a with defers:=[{ target:=.collected w.heap.size,args:=#[] }]++a.defers }) (k:=k) (cs:=cs) hend;have hpk:((rec .ready none).pending.map Item.code).toList++k=k:=by rw [hp];rfl
  rw [hpk] at hend2;have sback:StepsIn (Machine.fenced P Fence.wide) P (lone (b.atR a (.code (.rangeFunc g #[p0] assign body)::k)) cs w) (lone (b.atR { a with defers:=[{ target:=.collected w.heap.size,args:=#[] }]++a.defers } k) cs (w₃.putObj (w.heap.size+1) (.loop { rec .ready none with state:=.exhausted }))):=by
   refine .head h0f hst (StepsIn.trans hsteps (.head hlv ?_ (.one (fenced_calm (n:=0) (fr:=b.atR { a with defers:=[{ target:=.collected w.heap.size,args:=#[] }]++a.defers } (.endRangeFunc (w.heap.size+1)::k)) trivial (room_wide _) rfl) hend2)));rw [←finish_atR_inRangeFunc (w.heap.size+1) v];exact step_leave_returned hleave
  exact⟨.normal,_,_,hdone w.heap.size (w₃.putObj (w.heap.size+1) (.loop { rec .ready none with state:=.exhausted })) (Nat.le_refl _) (hI _ _ _ hi (Kc.putObj _ hl rfl (by omega))) ((World.putObj_heap_other (by omega)).trans hk),sback⟩
 ·have hlv:(lone fr (b.atR { a with defers:=[{ target:=.collected w.heap.size,args:=#[] }]++a.defers } (.inRangeFunc (w.heap.size+1)::k)::cs) w₃).fenced P Fence.wide:=fenced_leaving (n:=0) trivial hroom hleave;refine⟨.panic c,_,w₃,hpanic w.heap.size c w₃ (Nat.le_refl _) hi hk,.inRangeFunc (w.heap.size+1)::k,.head h0f hst (StepsIn.trans hsteps (.one hlv ?_))⟩;rw [←Frame.raise_atR];exact step_leave_panicked hleave
end
end Go.Proofs.YtpcjkfppacnkgaaGreatDoor
end
section
namespace Go.Proofs.YtpcjkfppacnkgaaGreatDoor
open Go
abbrev By:=List UInt8
def kC:List By:=[[112,117,115,104],[112,111,112],[108,111,97,100],[115,116,111,114,101],[97,100,100],[115,117,98],[109,117,108],[108,101,115,115],[115,97,109,101],[106,117,109,112],[122,101,114,111],[99,97,108,108],[114,101,116,117,114,110],[109,97,107,101],[114,101,115,117,109,101],[121,105,101,108,100],[112,117,116]]
def zBc:By:=[102,117,110,99]
def jG (k:Int):Bool:=k == 0 || k == 2 || k == 3 || k == 9 || k == 10 || k == 11 || k == 13
def yR (k:Int):By:=kC.getD k.toNat []
def opW (x:GOp):By:=yR x.kind++if jG x.kind then 32::Lib.itoa x.a else []
def vH (f:GFunc):By:=zBc++32::(Lib.itoa f.args++32::Lib.itoa f.locals)
def jI (p:List GFunc):List By:=p.flatMap fun f=>vH f::f.code.map opW
def qZ (p:List GFunc):By:=(jI p).flatMap (·++[10])
def yH (cur:By):By→List By
 | []=>if cur=[] then [] else [cur]
 | b::r=>if b=10 then (cur++[10])::yH [] r else yH (cur++[b]) r
def qE (s:By):List By:=yH [] s
def kJ (c:UInt8) (cur:By):By→List By
 | []=>[cur]
 | b::r=>if b=c then cur::kJ c [] r else kJ c (cur++[b]) r
def zT (c:UInt8) (s:By):List By:=kJ c [] s
theorem zHw (l r:By) (h:(10:UInt8) ∉ l):∀cur,yH cur (l++10::r)=(cur++l++[10])::qE r:=by
 induction l with
 | nil=>intro cur;simp [yH,qE]
 | cons b l ih =>
  intro cur;have hb:b≠10:=fun e=>h (by simp [e])
  rw [List.cons_append,yH,if_neg hb,ih (fun hm=>h (List.mem_cons_of_mem _ hm))];simp
theorem zDr:∀(ls:List By),(∀l∈ls,(10:UInt8) ∉ l)→qE (ls.flatMap (·++[10]))=ls.map (·++[10])
 | [],_=>by simp [qE,yH]
 | l::ls,h=>by
  rw [List.flatMap_cons,List.append_assoc,List.singleton_append];unfold qE;rw [zHw l _ (h l (by simp)) [],zDr ls (fun l hl=>h l (by simp [hl]))];simp
theorem splitGo_piece (c:UInt8) (l r:By) (h:c ∉ l):∀cur,kJ c cur (l++c::r)=(cur++l)::zT c r:=by
 induction l with
 | nil=>intro cur;simp [kJ,zT]
 | cons b l ih =>
  intro cur;have hb:b≠c:=fun e=>h (by simp [e])
  rw [List.cons_append,kJ,if_neg hb,ih (fun hm=>h (List.mem_cons_of_mem _ hm))];simp
theorem splitGo_last (c:UInt8) (l:By) (h:c ∉ l):∀cur,kJ c cur l=[cur++l]:=by
 induction l with
 | nil=>intro cur;simp [kJ]
 | cons b l ih =>
  intro cur;have hb:b≠c:=fun e=>h (by simp [e])
  rw [kJ,if_neg hb,ih (fun hm=>h (List.mem_cons_of_mem _ hm))];simp
theorem yC (c:UInt8) (l r:By) (h:c ∉ l):zT c (l++c::r)=l::zT c r:=splitGo_piece c l r h []
theorem uA (c:UInt8) (l:By) (h:c ∉ l):zT c l=[l]:=splitGo_last c l h []
theorem zHq (c:UInt8):∀(ls:List By),(∀l∈ls,c ∉ l)→zT c (ls.flatMap (·++[c]))=ls++[[]]
 | [],_=>rfl
 | l::ls,h=>by
  rw [List.flatMap_cons,List.append_assoc,List.singleton_append,yC c l _ (h l (by simp)),zHq c ls (fun l hl=>h l (by simp [hl]))];rfl
theorem vP (u:Nat):∀b∈Lib.decDigits u,48≤b.toNat∧b.toNat≤57:=by
 induction u using Nat.strongRecOn with
 | ind u ih =>
  intro b hb;have hd:∀k:Nat,k<10→48≤(UInt8.ofNat (48+k)).toNat∧(UInt8.ofNat (48+k)).toNat≤57:=fun k hk=>by
   rw [UInt8.toNat_ofNat'];omega
  rw [Lib.decDigits] at hb
  split at hb
  ·rename_i h
   rw [List.mem_singleton.1 hb];exact hd u h
  ·rcases List.mem_append.1 hb with hb | hb
   ·exact ih (u / 10) (by omega) b hb
   ·rw [List.mem_singleton.1 hb];exact hd _ (by omega)
theorem itoa_mem (n:Int):∀b∈Lib.itoa n,b=45∨48≤b.toNat∧b.toNat≤57:=by
 intro b hb;unfold Lib.itoa at hb
 split at hb
 ·rcases List.mem_cons.1 hb with h | h
  ·exact .inl h
  ·exact .inr (vP _ b h)
 ·exact .inr (vP _ b hb)
theorem zAf (n:Int) (c:UInt8) (hc:c.toNat<45):c ∉ Lib.itoa n:=fun h=>by
 rcases itoa_mem n c h with rfl | h
 ·exact absurd hc (by decide)
 ·omega
theorem zFo:∀(l r:List UInt8) (a:Nat),Lib.decFrom a (l++r)=(Lib.decFrom a l).bind fun m=>Lib.decFrom m r
 | [],_,_=>rfl
 | b::l,r,a=>by
  simp only [List.cons_append,Lib.decFrom]
  cases Lib.digitVal b with
  | none=>rfl
  | some d=>exact zFo l r _
theorem digitVal_of (k:Nat) (h:k<10):Lib.digitVal (UInt8.ofNat (48+k))=some k:=by
 have e:(UInt8.ofNat (48+k)).toNat=48+k:=by rw [UInt8.toNat_ofNat'];omega
 unfold Lib.digitVal;rw [e,if_pos (by omega)]
 congr 1
 omega
theorem zBz (u:Nat):Lib.decFrom 0 (Lib.decDigits u)=some u:=by
 induction u using Nat.strongRecOn with
 | ind u ih =>
  rw [Lib.decDigits];split
  ·rename_i h
   rw [Lib.decFrom,digitVal_of u h];simp only [Nat.zero_mul,Nat.zero_add];rfl
  ·rename_i h
   rw [zFo,ih (u / 10) (by omega),Option.bind_some,Lib.decFrom,digitVal_of _ (by omega)];show some (u / 10 * 10+u % 10)=some u
   congr 1
   omega
theorem zEg (u:Nat):Lib.decDigits u≠[]:=by
 rw [Lib.decDigits]
 split<;>simp
theorem decNat_digits (u:Nat):Lib.decNat (Lib.decDigits u)=some u:=by
 unfold Lib.decNat;rw [if_neg (by simpa using zEg u),zBz]
theorem vK {n:Int} (h:0≤n):Lib.itoa n=Lib.decDigits n.toNat:=by unfold Lib.itoa;rw [if_neg (by omega)]
theorem zEf {u:Nat} (h:u<1000000):(Lib.decDigits u).length≤6:=by
 rw [Lib.decDigits_length];rcases Nat.lt_or_ge u 10 with h1 | h1
 ·rw [Lib.nDigits_small h1];omega
 rw [Lib.nDigits_big (by omega)];rcases Nat.lt_or_ge (u / 10) 10 with h2 | h2
 ·rw [Lib.nDigits_small h2];omega
 rw [Lib.nDigits_big (by omega)];rcases Nat.lt_or_ge (u / 10 / 10) 10 with h3 | h3
 ·rw [Lib.nDigits_small h3];omega
 rw [Lib.nDigits_big (by omega)];rcases Nat.lt_or_ge (u / 10 / 10 / 10) 10 with h4 | h4
 ·rw [Lib.nDigits_small h4];omega
 rw [Lib.nDigits_big (by omega)];rcases Nat.lt_or_ge (u / 10 / 10 / 10 / 10) 10 with h5 | h5
 ·rw [Lib.nDigits_small h5];omega
 rw [Lib.nDigits_big (by omega),Lib.nDigits_small (by omega)];omega
theorem zFn (u:Nat):∃b r,Lib.decDigits u=b::r∧48≤b.toNat∧b.toNat≤57:=by
 cases h:Lib.decDigits u with
 | nil=>exact absurd h (zEg u)
 | cons b r=>exact⟨b,r,rfl,vP u b (by rw [h];simp)⟩
theorem atoi_digits (u:Nat):Lib.atoi (Lib.decDigits u)=some (u:Int):=by
 obtain⟨b,r,e,hb,hb'⟩:=zFn u;have h:=decNat_digits u;rw [e] at h ⊢;unfold Lib.atoi;have h1:(b == 45)=false:=by
  rw [beq_eq_false_iff_ne];intro e1;subst e1;exact absurd hb (by decide)
 have h2:(b == 43)=false:=by
  rw [beq_eq_false_iff_ne];intro e1;subst e1;exact absurd hb (by decide)
 simp only [h1,h2];rw [if_neg (by decide),if_neg (by decide),h];rfl
def uI (w:By):Option Int:=match Lib.atoiAll w with | .ok v=>some v | _=>none
theorem zCn {n:Int} (h:0≤n) (h':n<1000000):uI (Lib.itoa n)=some n:=by
 rw [vK h];have hl:=zEf (u:=n.toNat) (by omega);unfold uI;rw [Lib.atoiAll_short _ (by omega),atoi_digits];show (match Lib.NumEnd.ofOption (some (n.toNat:Int)) with | .ok v=>some v | _=>none)=some n;simp only [Lib.NumEnd.ofOption]
 congr 1
 omega
def yJ (ws:List By) (n:Nat):Option (List Int):=if ws.length=n then ws.mapM uI else none
def zCo (p:List GFunc) (x:GOp):List GFunc:=p.modify (p.length - 1) fun f=>{ f with code:=f.code++[x] }
def uJ (l:By):List By:=zT 32 (Lib.trimSuffix l [10])
def zFh (p:List GFunc) (l:By):Option (List GFunc) :=
 if (uJ l).headD []=zBc then (yJ (uJ l).tail 2).map fun n=>p++[⟨n.getD 0 0,n.getD 1 0,[]⟩]
 else if kC.idxOf ((uJ l).headD [])<17∧0<p.length then
  (if jG (kC.idxOf ((uJ l).headD []):Nat) then (yJ (uJ l).tail 1).map fun n=>zCo p ⟨(kC.idxOf ((uJ l).headD []):Nat),n.getD 0 0⟩
  else some (zCo p ⟨(kC.idxOf ((uJ l).headD []):Nat),0⟩))
 else none
def yF (p:List GFunc):List By→Option (List GFunc)
 | []=>some p
 | l::ls=>match zFh p l with | some q=>yF q ls | none=>none
def readR (s:By):Option (List GFunc):=yF [] (qE s)
def vG (s:By):Int × List GFunc :=
 if 8192<s.length then (2,[]) else match readR s with | some p=>if zZ p=0∧qZ p=s then (0,p) else (1,[]) | none=>(1,[])
def numG (w:By):Int:=if (1≤w.length∧w.length≤6)∧(∀b∈w,48≤b.toNat∧b.toNat≤57)∧Lib.itoa ((Lib.decFrom 0 w).getD 0:Nat)=w then ((Lib.decFrom 0 w).getD 0:Nat) else -1
def qY (l:By):List By:=zT 32 l++[[],[]]
def zAt (p:List GFunc) (l:By):List GFunc :=
 if (qY l).headD []=zBc then p++[⟨numG ((qY l).getD 1 []),numG ((qY l).getD 2 []),[]⟩]
 else if kC.idxOf ((qY l).headD [])<17∧0<p.length then zCo p ⟨(kC.idxOf ((qY l).headD []):Nat),max 0 (numG ((qY l).getD 1 []))⟩
 else p
def docR (s:By):List GFunc:=(zT 10 s).foldl zAt []
def docT (s:By):Bool × List GFunc:=if zZ (docR s)=0∧qZ (docR s)=s then (true,docR s) else (false,[])
theorem zCc:∀w∈kC,(32:UInt8) ∉ w∧(10:UInt8) ∉ w∧w≠zBc∧w≠[]:=by decide
theorem namesT_idx:∀k:Fin 17,kC.idxOf (kC.getD k.val [])=k.val:=by decide
theorem uD {k:Int} (h:0≤k) (h':k≤16):yR k∈kC:=by
 unfold yR;have hl:k.toNat<kC.length:=by show k.toNat<17;omega
 simp [List.getD,List.getElem?_eq_getElem hl]
theorem nameT_idx {k:Int} (h:0≤k) (h':k≤16):((kC.idxOf (yR k):Nat):Int)=k:=by
 have:=namesT_idx ⟨k.toNat,by omega⟩;unfold yR;rw [this];simp only;omega
theorem opW_ten {x:GOp} (h:0≤x.kind) (h':x.kind≤16):(10:UInt8) ∉ opW x:=fun hm=>by
 unfold opW at hm;rcases List.mem_append.1 hm with hm | hm
 ·exact(zCc _ (uD h h')).2.1 hm
 ·split at hm
  ·rcases List.mem_cons.1 hm with hm | hm
   ·exact absurd hm (by decide)
   ·exact zAf _ _ (by decide) hm
  ·simp at hm
theorem headW_ten (f:GFunc):(10:UInt8) ∉ vH f:=fun hm=>by
 unfold vH at hm;rcases List.mem_append.1 hm with hm | hm
 ·exact absurd hm (by decide)
 ·rcases List.mem_cons.1 hm with hm | hm
  ·exact absurd hm (by decide)
  ·rcases List.mem_append.1 hm with hm | hm
   ·exact zAf _ _ (by decide) hm
   ·rcases List.mem_cons.1 hm with hm | hm
    ·exact absurd hm (by decide)
    ·exact zAf _ _ (by decide) hm
theorem trim_line (l:By):Lib.trimSuffix (l++[10]) [10]=l:=by
 unfold Lib.trimSuffix Lib.hasSuffix;have hs:(([10]:By).isSuffixOf (l++[10]))=true:=by
  rw [List.isSuffixOf_iff_suffix];exact List.suffix_append _ _
 rw [if_pos hs];simp
theorem split_op {x:GOp} (h:0≤x.kind) (h':x.kind≤16):zT 32 (opW x)=if jG x.kind then [yR x.kind,Lib.itoa x.a] else [yR x.kind]:=by
 have hn:=(zCc _ (uD h h')).1;unfold opW;by_cases ht:jG x.kind=true
 ·rw [if_pos ht,if_pos ht,yC _ _ _ hn,uA _ _ (zAf _ _ (by decide))]
 ·rw [if_neg ht,if_neg ht,List.append_nil,uA _ _ hn]
theorem split_head (f:GFunc):zT 32 (vH f)=[zBc,Lib.itoa f.args,Lib.itoa f.locals]:=by
 unfold vH;rw [yC _ _ _ (by decide),yC _ _ _ (zAf _ _ (by decide)),uA _ _ (zAf _ _ (by decide))]
def OpT (x:GOp):Prop:=(0≤x.kind∧x.kind≤16)∧(0≤x.a∧x.a≤999)∧(jG x.kind=false→x.a=0)
theorem mostOf_le {p : List GFunc} {f : GFunc} {k : Int} (hp : p.length ≤ 5) (hf : f.code.length ≤ 24) (hl : f.locals ≤ 4) : qJ p f k ≤ 999 ∧ (jG k = false → qJ p f k = 0) := by
  unfold qJ jG
  refine ⟨by repeat' split
             all_goals omega, fun h => ?_⟩
  simp only [Bool.or_eq_false_iff, beq_eq_false_iff_ne] at h
  rw [if_neg (by omega), if_neg (by omega), if_neg (by omega), if_neg (by omega)]
theorem jX {p:List GFunc} (h:zZ p=0):∀f∈p,(0≤f.args∧f.args≤4∧0≤f.locals∧f.locals≤4)∧f.code.length≤24∧∀x∈f.code,OpT x:=by
 intro f hf;have hP:=kH h;obtain⟨k,hk,rfl⟩:=List.getElem_of_mem hf;have he:=hP.func k hk;have hR:=(vA he).2.2 (by simpa using hk);simp only [Int.toNat_natCast] at hR;have hl:=hR.locals;refine⟨by omega,hR.len,fun x hx=>?_⟩;unfold funcErr at he;rw [if_neg (fun c=>c ⟨by omega,by omega⟩)] at he;have hd:p.getD ((k:Int).toNat) default=p[k]:=by simp [List.getD,List.getElem?_eq_getElem hk]
 rw [hd,if_neg (by have:=hR.len;omega)] at he;have hsz:¬qO p[k]=false:=by unfold qO;simp;omega
 rw [if_neg hsz] at he;have hops:=ok_ops he x hx;obtain⟨k0,k1,a0,a1,_,_⟩:=ok_facts hops;have hm:=mostOf_le (p:=p) (f:=p[k]) (k:=x.kind) hP.most hR.len (by omega);exact⟨⟨k0,k1⟩,⟨a0,by omega⟩,fun ht=>by have:=hm.2 ht;omega⟩
theorem modify_end {α:Type}:∀(F:List α) (x:α) (g:α→α),(F++[x]).modify F.length g=F++[g x]
 | [],x,g=>rfl
 | a::F,x,g=>by rw [List.cons_append,List.length_cons,List.modify_succ_cons,modify_end F x g];rfl
theorem zEl (p:List GFunc) (f:GFunc) (x:GOp):zCo (p++[f]) x=p++[{ f with code:=f.code++[x] }]:=by
 unfold zCo;have:(p++[f]).length - 1=p.length:=by simp
 rw [this,modify_end]
theorem lineR_op (p:List GFunc) (f:GFunc) {x:GOp} (h:OpT x):zFh (p++[f]) (opW x++[10])=some (p++[{ f with code:=f.code++[x] }]):=by
 obtain⟨⟨k0,k1⟩,⟨a0,a1⟩,h0⟩:=h;have hw:uJ (opW x++[10])=if jG x.kind then [yR x.kind,Lib.itoa x.a] else [yR x.kind]:=by unfold uJ;rw [trim_line,split_op k0 k1]
 have hhead:(uJ (opW x++[10])).headD []=yR x.kind:=by rw [hw];split<;>rfl
 have hidx:=nameT_idx k0 k1;have hfr:=(zCc _ (uD k0 k1)).2.2.1;unfold zFh;rw [hhead,if_neg hfr,if_pos ⟨by omega,by simp⟩,hidx];by_cases ht:jG x.kind=true
 ·rw [if_pos ht,hw,if_pos ht];have:yJ [Lib.itoa x.a] 1=some [x.a]:=by
   unfold yJ;rw [if_pos (by rfl)];simp [zCn a0 (show x.a<1000000 by omega)]
  rw [List.tail_cons,this,Option.map_some,zEl];rfl
 ·have hf:jG x.kind=false:=by simpa using ht
  rw [if_neg ht,zEl];have e:(⟨x.kind,0⟩:GOp)=x:=by cases x;simp only [GOp.mk.injEq,true_and];exact(h0 hf).symm
  rw [e]
theorem lineR_head (p:List GFunc) (f:GFunc) (h:0≤f.args∧f.args≤4∧0≤f.locals∧f.locals≤4):zFh p (vH f++[10])=some (p++[⟨f.args,f.locals,[]⟩]):=by
 have hw:uJ (vH f++[10])=[zBc,Lib.itoa f.args,Lib.itoa f.locals]:=by unfold uJ;rw [trim_line,split_head]
 unfold zFh;rw [hw,if_pos (by rfl)];have:yJ [Lib.itoa f.args,Lib.itoa f.locals] 2=some [f.args,f.locals]:=by
  unfold yJ;rw [if_pos (by rfl)];simp [zCn h.1 (show f.args<1000000 by omega),zCn h.2.2.1 (show f.locals<1000000 by omega)]
 rw [List.tail_cons,this];rfl
theorem readGo_ops (p:List GFunc) (ls:List By):∀(l:List GOp) (f:GFunc),(∀x∈l,OpT x)→yF (p++[f]) (l.map (fun x=>opW x++[10])++ls)=yF (p++[{ f with code:=f.code++l }]) ls
 | [],f,_=>by simp
 | x::l,f,h=>by
  rw [List.map_cons,List.cons_append,yF,lineR_op p f (h x (by simp))];simp only;rw [readGo_ops p ls l _ (fun y hy=>h y (by simp [hy]))];simp
theorem readGo_prog:∀(q p:List GFunc),(∀f∈q,(0≤f.args∧f.args≤4∧0≤f.locals∧f.locals≤4)∧f.code.length≤24∧∀x∈f.code,OpT x)→yF p ((jI q).map (·++[10]))=some (p++q)
 | [],p,_=>by simp [jI,yF]
 | f::q,p,h=>by
  obtain⟨h1,_,h3⟩:=h f (by simp);have e:(jI (f::q)).map (·++[10])=(vH f++[10])::(f.code.map (fun x=>opW x++[10])++(jI q).map (·++[10])):=by
   unfold jI;simp [List.map_append,Function.comp_def]
  rw [e,yF,lineR_head p f h1];simp only;rw [readGo_ops p _ f.code _ h3,readGo_prog q _ (fun g hg=>h g (by simp [hg]))];simp
theorem linesP_ten {p:List GFunc} (h:zZ p=0):∀l∈jI p,(10:UInt8) ∉ l:=by
 intro l hl;unfold jI at hl;obtain⟨f,hf,hl⟩:=List.mem_flatMap.1 hl;rcases List.mem_cons.1 hl with rfl | hl
 ·exact headW_ten f
 ·obtain⟨x,hx,rfl⟩:=List.mem_map.1 hl;have:=((jX h f hf).2.2 x hx).1;exact opW_ten this.1 this.2
theorem read_back {p:List GFunc} (h:zZ p=0):readR (qZ p)=some p:=by
 unfold readR qZ;rw [zDr _ (linesP_ten h),readGo_prog p [] (jX h)];rfl
theorem zGx {n:Int} (h:0≤n) (h':n<1000000):numG (Lib.itoa n)=n:=by
 have hl:=zEf (u:=n.toNat) (by omega);have hp:=zFn n.toNat;unfold numG;rw [vK h,zBz,Option.getD_some,if_pos ⟨⟨by obtain⟨b,r,e,_⟩:=hp;rw [e];simp,hl⟩,vP _,by rw [vK (by omega)];congr 1⟩];omega
theorem lineG_op (p:List GFunc) (f:GFunc) {x:GOp} (h:OpT x):zAt (p++[f]) (opW x)=p++[{ f with code:=f.code++[x] }]:=by
 obtain⟨⟨k0,k1⟩,⟨a0,a1⟩,h0⟩:=h;have hw:qY (opW x)=(if jG x.kind then [yR x.kind,Lib.itoa x.a] else [yR x.kind])++[[],[]]:=by unfold qY;rw [split_op k0 k1]
 have hhead:(qY (opW x)).headD []=yR x.kind:=by rw [hw];split<;>rfl
 have hidx:=nameT_idx k0 k1;have hfr:=(zCc _ (uD k0 k1)).2.2.1;have ha:max 0 (numG ((qY (opW x)).getD 1 []))=x.a:=by
  rw [hw];by_cases ht:jG x.kind=true
  ·rw [if_pos ht];show max 0 (numG (Lib.itoa x.a))=x.a;rw [zGx a0 (by omega)];omega
  ·rw [if_neg ht];have hf:jG x.kind=false:=by simpa using ht
   show max 0 (numG [])=x.a;rw [h0 hf];rfl
 unfold zAt;rw [hhead,if_neg hfr,if_pos ⟨by omega,by simp⟩,hidx,ha,zEl]
theorem lineG_head (p:List GFunc) (f:GFunc) (h:0≤f.args∧f.args≤4∧0≤f.locals∧f.locals≤4):zAt p (vH f)=p++[⟨f.args,f.locals,[]⟩]:=by
 have hw:qY (vH f)=[zBc,Lib.itoa f.args,Lib.itoa f.locals,[],[]]:=by unfold qY;rw [split_head];rfl
 unfold zAt;rw [hw,if_pos (by rfl)];show p++[⟨numG (Lib.itoa f.args),numG (Lib.itoa f.locals),[]⟩]=_;rw [zGx h.1 (by omega),zGx h.2.2.1 (by omega)]
theorem lineG_ops (p:List GFunc):∀(l:List GOp) (f:GFunc),(∀x∈l,OpT x)→(l.map opW).foldl zAt (p++[f])=p++[{ f with code:=f.code++l }]
 | [],f,_=>by simp
 | x::l,f,h=>by
  rw [List.map_cons,List.foldl_cons,lineG_op p f (h x (by simp)),lineG_ops p l _ (fun y hy=>h y (by simp [hy]))];simp
theorem lineG_prog:∀(q p:List GFunc),(∀f∈q,(0≤f.args∧f.args≤4∧0≤f.locals∧f.locals≤4)∧f.code.length≤24∧∀x∈f.code,OpT x)→(jI q).foldl zAt p=p++q
 | [],p,_=>by simp [jI]
 | f::q,p,h=>by
  obtain⟨h1,_,h3⟩:=h f (by simp);have e:jI (f::q)=vH f::(f.code.map opW++jI q):=by unfold jI;simp
  rw [e,List.foldl_cons,lineG_head p f h1,List.foldl_append,lineG_ops p f.code _ h3,lineG_prog q _ (fun g hg=>h g (by simp [hg]))];simp
theorem lineG_nil (p:List GFunc):zAt p []=p:=by
 unfold zAt;have hw:(qY []).headD []=[]:=rfl;rw [hw,if_neg (by decide),if_neg (fun h=>absurd h.1 (by decide))]
theorem doc_back {p:List GFunc} (h:zZ p=0):docR (qZ p)=p:=by
 unfold docR qZ;rw [zHq 10 _ (linesP_ten h),List.foldl_append,lineG_prog p [] (jX h)];exact lineG_nil p
theorem zCy {n:Int} (h:0≤n) (h':n<1000000):(Lib.itoa n).length≤6:=by rw [vK h];exact zEf (by omega)
theorem zDp:∀w∈kC,w.length≤6:=by decide
theorem opW_len {x:GOp} (h:OpT x):(opW x).length≤18:=by
 obtain⟨⟨k0,k1⟩,⟨a0,a1⟩,_⟩:=h;have:=zDp _ (uD k0 k1);have:=zCy a0 (by omega);unfold opW;split
 ·simp only [List.length_append,List.length_cons];omega
 ·simp only [List.length_append,List.length_nil];omega
theorem headW_len {f:GFunc} (h:0≤f.args∧f.args≤4∧0≤f.locals∧f.locals≤4):(vH f).length≤18:=by
 have:=zCy h.1 (by omega);have:=zCy h.2.2.1 (by omega);have hf:zBc.length=4:=rfl;unfold vH;simp only [List.length_append,List.length_cons,hf];omega
theorem flat_le {α:Type} (g:α→List UInt8) (n:Nat):∀(l:List α),(∀x∈l,(g x).length≤n)→(l.flatMap g).length≤l.length * n
 | [],_=>by simp
 | x::l,h=>by
  have h1:=h x (by simp);have h2:=flat_le g n l (fun y hy=>h y (by simp [hy]));rw [List.flatMap_cons,List.length_append,List.length_cons,Nat.add_mul];omega
theorem linesP_le:∀(p:List GFunc),(∀f∈p,f.code.length≤24)→(jI p).length≤p.length * 25
 | [],_=>by simp [jI]
 | f::p,h=>by
  have h1:=h f (by simp);have h2:=linesP_le p (fun g hg=>h g (by simp [hg]));have e:jI (f::p)=vH f::(f.code.map opW++jI p):=by unfold jI;simp
  rw [e,List.length_cons,List.length_append,List.length_map,List.length_cons,Nat.add_mul];omega
theorem textP_len {p:List GFunc} (h:zZ p=0):(qZ p).length≤8192:=by
 have hR:=jX h;have h1:=linesP_le p (fun f hf=>(hR f hf).2.1);have h5:=(kH h).most;have h2:=flat_le (·++[10]) 19 (jI p) fun l hl=>by
  unfold jI at hl;obtain⟨f,hf,hl⟩:=List.mem_flatMap.1 hl;rw [List.length_append,List.length_singleton];rcases List.mem_cons.1 hl with rfl | hl
  ·have:=headW_len (hR f hf).1;omega
  ·obtain⟨x,hx,rfl⟩:=List.mem_map.1 hl;have:=opW_len ((hR f hf).2.2 x hx);omega
 unfold qZ;have:=Nat.mul_le_mul_right 19 h1;have:=Nat.mul_le_mul_right 475 h5;omega
theorem read_doc {s:By} (h:s.length≤8192):vG s=if (docT s).1 then (0,(docT s).2) else (1,[]):=by
 unfold vG docT;rw [if_neg (by omega)];by_cases hd:zZ (docR s)=0∧qZ (docR s)=s
 ·rw [if_pos hd];have:=read_back hd.1;rw [hd.2] at this;rw [this];simp only;rw [if_pos hd];rfl
 ·rw [if_neg hd]
  cases hr:readR s with
  | none=>rfl
  | some p =>
   simp only;rw [if_neg]
   ·rfl
   ·rintro ⟨h1,h2⟩;have:=doc_back h1;rw [h2] at this;rw [this] at hd;exact hd ⟨h1,h2⟩
end Go.Proofs.YtpcjkfppacnkgaaGreatDoor
end
section
namespace Go.Proofs.YtpcjkfppacnkgaaGreatDoor
def hgt (p:List GFunc) (f:Int):List Int:=(hts p (p.getD f.toNat default).code).getD []
def zI (p:List GFunc) (f:Int):GFunc:=p.getD f.toNat default
def qW (p:List GFunc) (x:GFrame):Bool :=
 decide (0≤x.func∧x.func<p.length) && decide ((x.locals.length:Int)=(zI p x.func).locals) && decide (0≤x.at_∧x.at_<(zI p x.func).code.length) && decide (0≤(hgt p x.func).getD x.at_.toNat 0)
def opBack (p:List GFunc) (x:GFrame):GOp:=(zI p x.func).code.getD (x.at_ - 1).toNat default
def zBa (p:List GFunc) (x:GFrame) (kind a:Int):Bool :=
 !decide (x.at_=0) && decide ((x.stack.length:Int)=(hgt p x.func).getD x.at_.toNat 0 - 1) && (decide ((opBack p x).kind=kind) && (!decide (kind=11) || decide ((opBack p x).a=a)))
def zBs (p:List GFunc) (x:GFrame):Bool:=decide ((x.stack.length:Int)=(hgt p x.func).getD x.at_.toNat 0)
def allK (n:Nat) (g:Nat→Bool):Bool:=decide (∀k,k<n→g k=true)
theorem zGb {n:Nat} {g:Nat→Bool} (h:∀k,k<n→g k=true):allK n g=true:=decide_eq_true h
theorem allK_false {n:Nat} {g:Nat→Bool} {k:Nat} (hk:k<n) (h:g k=false):allK n g=false:=decide_eq_false (fun e=>by rw [e k hk] at h;cases h)
theorem allK_of {n:Nat} {g:Nat→Bool} (h:allK n g=true):∀k,k<n→g k=true:=of_decide_eq_true h
def qV (p:List GFunc) (f:GFiber):Bool :=
 decide (f.frames.length=1) && decide ((f.frames.getD 0 default).at_=0) && decide ((zI p (f.frames.getD 0 default).func).args=1) && decide ((f.frames.getD 0 default).stack.length=0) && allK (f.frames.getD 0 default).locals.length (fun k=>decide ((f.frames.getD 0 default).locals.getD k 0=0))
def onB (p:List GFunc) (l:List GFrame) (k:Nat):Bool :=
 qW p (l.getD k default) && (!decide (k+1<l.length) || (decide (0≤(l.getD (k+1) default).func∧(l.getD (k+1) default).func<p.length) && zBa p (l.getD k default) 11 (l.getD (k+1) default).func))
def topB (p:List GFunc) (f:GFiber) (on runs:Bool) (x:GFrame):Bool :=
 if runs then zBs p x else if on then zBa p x 14 0 else decide (f.caller = -1) && (qV p f || zBa p x 15 0)
def jK (p:List GFunc) (f:GFiber) (on runs:Bool):Bool :=
 if f.frames.length=0 then !on && decide (f.caller = -1) else allK f.frames.length (onB p f.frames) && topB p f on runs (f.frames.getD (f.frames.length - 1) default)
def kM (fs:List GFiber) (n:Int):Int:=(fs.getD n.toNat default).caller
def jJ (fs:List GFiber):Nat→Int→List Int→Option (List Int)
 | 0,_,_=>none
 | k+1,n,out=>if n<0 then some out else if n∈out then none else jJ fs k (kM fs n) (out++[n])
def yA (s:GState):Option (List Int):=jJ s.fibers (s.fibers.length+2) s.now []
def vR (l:List Int):Bool:=decide (l.length=0) || decide (l.getD (l.length - 1) 0=0)
def fibK (p:List GFunc) (s:GState) (line:List Int) (k:Nat):Bool :=
 jK p (s.fibers.getD k default) (decide ((k:Int)∈line)) (decide ((k:Int)=s.now)) && !(decide (k=0) && !decide ((0:Int)∈line) && decide (0<(s.fibers.getD 0 default).frames.length))
def callersB (s:GState) (k:Nat):Bool:=decide (-1≤(s.fibers.getD k default).caller∧(s.fibers.getD k default).caller≤(s.fibers.length:Int) - 1)
def framesFew (s:GState) (k:Nat):Bool:=decide ((s.fibers.getD k default).frames.length≤6)
def lineErr (p:List GFunc) (s:GState):Int :=
 match yA s with
 | none=>1
 | some l=>if vR l=false then 1 else if s.now = -1∧0<(s.fibers.getD 0 default).frames.length then 1 else if allK s.fibers.length (fibK p s l)=false then 1 else 0
def stateErr (p:List GFunc) (s:GState):Int :=
 if zZ p≠0 then zZ p else if 5<s.fibers.length∨30<s.out.length then 2 else if allK s.fibers.length (framesFew s)=false then 2 else if s.fibers.length=0 then 5
 else if ¬(-1≤s.now∧s.now≤(s.fibers.length:Int) - 1) then 3 else if allK s.fibers.length (callersB s)=false then 3 else lineErr p s
structure LineOn (fs:List GFiber) (n:Int) (out:List Int):Prop where
 now : -1≤n∧n≤(fs.length:Int) - 1
 nodup:out.Nodup
 range:∀x∈out,0≤x∧x<fs.length
theorem uC:∀(m:Nat) (out:List Int),out.Nodup→(∀x∈out,0≤x∧x<m)→out.length≤m
 | 0,out,_,h=>by
  cases out with
  | nil=>simp
  | cons x l=>have:=h x (by simp);omega
 | m+1,out,hn,h=>by
  have h1:=uC m (out.filter (fun x=>decide (x≠(m:Int)))) (hn.filter _) (fun x hx=>by
   obtain⟨hx1,hx2⟩:=List.mem_filter.1 hx;have:=h x hx1;have:x≠(m:Int):=by simpa using hx2
   omega)
  have h2:out.length≤(out.filter (fun x=>decide (x≠(m:Int)))).length+1:=by
   clear h h1
   induction out with
   | nil=>simp
   | cons x l ih =>
    obtain⟨hx,hl⟩:=List.nodup_cons.1 hn;by_cases e:x=(m:Int)
    ·have:l.filter (fun x=>decide (x≠(m:Int)))=l:=List.filter_eq_self.2 (fun y hy=>by
      have:y≠(m:Int):=fun e2=>hx (by rw [e,←e2];exact hy)
      simpa using this)
     rw [List.filter_cons_of_neg (by simp [e]),this];simp
    ·rw [List.filter_cons_of_pos (by simp [e])];have:=ih hl;simp only [List.length_cons];omega
  omega
theorem LineOn.len {fs:List GFiber} {n:Int} {out:List Int} (h:LineOn fs n out):out.length≤fs.length:=uC _ _ h.nodup h.range
theorem LineOn.next {fs:List GFiber} {n:Int} {out:List Int} (h:LineOn fs n out) (h0:0≤n) (hn:n ∉ out) (hc:∀k,k<fs.length → -1≤(fs.getD k default).caller∧(fs.getD k default).caller≤(fs.length:Int) - 1):LineOn fs (kM fs n) (out++[n]):=by
 have:=h.now;refine⟨hc _ (by omega),?_,fun x hx=>?_⟩
 ·rw [List.nodup_append];exact⟨h.nodup,by simp,fun a ha b hb e=>by rw [List.mem_singleton] at hb;subst hb;subst e;exact hn ha⟩
 ·rcases List.mem_append.1 hx with h1 | h1
  ·exact h.range x h1
  ·rw [List.mem_singleton] at h1;omega
end Go.Proofs.YtpcjkfppacnkgaaGreatDoor
end
section
namespace Go.Proofs.YtpcjkfppacnkgaaGreatDoor
open Go Go.RowKit
structure PFrame where
 f:GFrame
 vl:Value
 vs:Value
structure PFiber where
 fr:List PFrame
 caller:Int
 vf:Value
structure PState where
 fs:List PFiber
 now:Int
 out:List Int
 vfs:Value
 vo:Value
def PFiber.g (y:PFiber):GFiber:=⟨y.fr.map PFrame.f,y.caller⟩
def PState.g (P:PState):GState:=⟨P.fs.map PFiber.g,P.now,P.out⟩
def frameF (x:PFrame):List Value:=[.int .i64 x.f.func,.int .i64 x.f.at_,x.vl,x.vs]
def kK (y:PFiber):List Value:=[y.vf,.int .i64 y.caller]
def PFrame.bl (x:PFrame):List Nat:=(zB x.vl).toList++(zB x.vs).toList
def PFiber.bl (y:PFiber):List Nat:=(zB y.vf).toList++y.fr.flatMap PFrame.bl
def PState.bl (P:PState):List Nat:=(zB P.vfs).toList++(zB P.vo).toList++P.fs.flatMap PFiber.bl
structure FrameO (W:World) (B:Nat) (x:PFrame):Prop where
 i:I64 x.f.func∧I64 x.f.at_∧(∀n∈x.f.locals,I64 n)∧(∀n∈x.f.stack,I64 n)
 l:RowAt W B 1 x.vl x.f.locals.length (ints x.f.locals)
 s:RowAt W B 1 x.vs x.f.stack.length (ints x.f.stack)
 few:x.f.locals.length≤1000∧x.f.stack.length≤1000
structure FiberO (W:World) (B:Nat) (y:PFiber):Prop where
 i:I64 y.caller
 row:RowAt W B 4 y.vf y.fr.length (y.fr.flatMap frameF)
 fr:∀x∈y.fr,FrameO W B x
 few:y.fr.length≤1000
structure OwnS (W:World) (B b:Nat) (P:PState):Prop where
 c0:Cx W b 0 P.vfs
 c1:Cx W b 1 (.int .i64 P.now)
 c2:Cx W b 2 P.vo
 i:I64 P.now∧∀n∈P.out,I64 n
 row:RowAt W B 2 P.vfs P.fs.length (P.fs.flatMap kK)
 out:RowAt W B 1 P.vo P.out.length (ints P.out)
 fs:∀y∈P.fs,FiberO W B y
 le:B≤b
 few:P.fs.length≤1000∧P.out.length≤1000
 nodup:(b::P.bl).Nodup
theorem FrameO.chg {M:Nat→Prop} {W W':World} {B:Nat} {x:PFrame} (h:FrameO W B x) (hc:Chg M W W') (hM:∀g∈x.bl,¬M g):FrameO W' B x :=
 ⟨h.i,h.l.chg hc (fun g e=>hM g (by unfold PFrame.bl;simp [e])) (by decide),h.s.chg hc (fun g e=>hM g (by unfold PFrame.bl;simp [e])) (by decide),h.few⟩
theorem FiberO.chg {M:Nat→Prop} {W W':World} {B:Nat} {y:PFiber} (h:FiberO W B y) (hc:Chg M W W') (hM:∀g∈y.bl,¬M g):FiberO W' B y :=
 ⟨h.i,h.row.chg hc (fun g e=>hM g (by unfold PFiber.bl;simp [e])) (by decide),fun x hx=>(h.fr x hx).chg hc (fun g hg=>hM g (by unfold PFiber.bl;exact List.mem_append.2 (.inr (List.mem_flatMap.2 ⟨x,hx,hg⟩)))),h.few⟩
theorem OwnS.chg {M:Nat→Prop} {W W':World} {B b:Nat} {P:PState} (h:OwnS W B b P) (hc:Chg M W W') (hb:¬M b) (hM:∀g∈P.bl,¬M g):OwnS W' B b P :=
 ⟨h.c0.chg hc hb,h.c1.chg hc hb,h.c2.chg hc hb,h.i,h.row.chg hc (fun g e=>hM g (by unfold PState.bl;simp [e])) (by decide),h.out.chg hc (fun g e=>hM g (by unfold PState.bl;simp [e])) (by decide),
  fun y hy=>(h.fs y hy).chg hc (fun g hg=>hM g (by unfold PState.bl;exact List.mem_append.2 (.inr (List.mem_flatMap.2 ⟨y,hy,hg⟩)))),h.le,h.few,h.nodup⟩
theorem OwnS.ext {W W':World} {B b:Nat} {P:PState} (h:OwnS W B b P) (he:Ext W W'):OwnS W' B b P:=h.chg (M:=fun _=>False) (Chg.of_ext he) (fun h=>h) (fun _ _ h=>h)
theorem FrameO.ints {W:World} {B:Nat} {x:PFrame} (h:FrameO W B x) (S:Nat→Prop) (hS:∀g,B≤g→S g):Ints W S x.vl x.f.locals∧Ints W S x.vs x.f.stack:=by
 have f:=h.few;exact⟨Ints.of_row (by rw [kU];exact h.l) (by omega) h.i.2.2.1 S (fun b hb _=>hS b hb),Ints.of_row (by rw [kU];exact h.s) (by omega) h.i.2.2.2 S (fun b hb _=>hS b hb)⟩
theorem Sl.map' {α β:Type} {E:Nat→Nat→β→Prop} {sz bytes:Nat} {v:Value} {l:List α} (f:α→β) (h:Sl (fun b o y=>E b o (f y)) sz bytes v l):Sl E sz bytes v (l.map f):=by
 obtain⟨a,cap,rfl,h1,h2,h3⟩:=h;refine⟨a,cap,by rw [List.length_map],by rw [List.length_map];exact h1,by rw [List.length_map];exact h2,fun i hi=>?_⟩;obtain⟨b,o,e,h4⟩:=h3 i (by rwa [List.length_map] at hi);exact⟨b,o,e,by rw [List.getElem_map];exact h4⟩
theorem FiberO.frames {W:World} {B:Nat} {y:PFiber} (h:FiberO W B y) (S:Nat→Prop) (hS:∀g,B≤g→S g):vX W S y.vf (y.fr.map PFrame.f):=by
 have f:=h.few;refine Sl.map' PFrame.f (Sl.of_row frameF h.row (fun _=>rfl) (by omega) fun b o x hb _ hx hc=>?_);have hx':=h.fr x hx;exact⟨⟨hS b hb,hc 0 _ rfl,hx'.i.1⟩,⟨hS b hb,hc 1 _ rfl,hx'.i.2.1⟩,⟨_,hc 2 _ rfl,(hx'.ints S hS).1⟩,_,hc 3 _ rfl,(hx'.ints S hS).2⟩
theorem OwnS.state {W:World} {B b:Nat} {P:PState} (h:OwnS W B b P) (S:Nat→Prop) (hS:∀g,B≤g→S g):zW W S (.agg #[P.vfs,.int .i64 P.now,P.vo]) P.g:=by
 have f:=h.few;refine⟨_,_,rfl,Sl.map' PFiber.g (Sl.of_row kK h.row (fun _=>rfl) (by omega) fun b o y hb _ hy hc=>?_),h.i.1,Ints.of_row (by rw [kU];exact h.out) (show P.out.length * 8≤_ by omega) h.i.2 S (fun b hb _=>hS b hb)⟩;have hy':=h.fs y hy;exact⟨⟨_,hc 0 _ rfl,hy'.frames S hS⟩,hS b hb,hc 1 _ rfl,hy'.i⟩
end Go.Proofs.YtpcjkfppacnkgaaGreatDoor
end
