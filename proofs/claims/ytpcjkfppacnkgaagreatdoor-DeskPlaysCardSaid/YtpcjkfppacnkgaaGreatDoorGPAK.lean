/- Contracts and plain facts. -/
import Derived.Test.YtpcjkfppacnkgaaGreatDoorGPAJ
import Derived.Laws.IdiomStrings
set_option maxHeartbeats 4000000
set_option maxRecDepth 100000
namespace Go.Proofs.YtpcjkfppacnkgaaGreatDoor
open Go Go.RowKit
def vF (f:GFiber):GFrame:=f.frames.getD (f.frames.length - 1) default
def curF (s:GState):GFiber:=s.fibers.getD s.now.toNat default
def curX (s:GState):GFrame:=vF (curF s)
def kN (s:GState) (n:Int) (g:GFiber→GFiber):GState:={ s with fibers:=s.fibers.modify n.toNat g }
def kT (s:GState) (n:Int) (g:GFrame→GFrame):GState:=kN s n fun f=>{ f with frames:=f.frames.modify (f.frames.length - 1) g }
def kR (s:GState) (n v:Int):GState:=kT s n fun x=>{ x with stack:=x.stack++[v] }
def popG (s:GState):GState:=kT s s.now fun x=>{ x with stack:=x.stack.dropLast }
def zR (s:GState):Int:=(curX s).stack.getD ((curX s).stack.length - 1) 0
def putG (s:GState) (v:Int):Int × GState:=if s.out.length=30 then (2,s) else (0,{ s with out:=s.out++[v] })
def advG (s:GState):GState:=kT s s.now fun x=>{ x with at_:=x.at_+1 }
def zDm (s:GState) (a:Int):GState:=kT s s.now fun x=>{ x with at_:=a }
def uH (s:GState) (v:Int):GState:=kR { kN s s.now (fun f=>{ f with caller := -1 }) with now:=(curF s).caller } (curF s).caller v
def kD (s:GState):GState:=kN s s.now fun f=>{ f with frames:=f.frames.dropLast }
def yX (s:GState):Int × GState :=
 if 0<(curF (kD (popG s))).frames.length then (0,kR (kD (popG s)) s.now (zR s))
 else if (curF (kD (popG s))).caller<0 then putG { kD (popG s) with now := -1 } (zR s)
 else (0,uH (kD (popG s)) (zR s))
def yT (s:GState):Int × GState:=if (curF (popG s)).caller<0 then (7,s) else (0,uH (popG s) (zR s))
def qH (s:GState):List Int:=(yA s).getD []
def zHh (s:GState) (n v:Int):GState :=
 if (vF (s.fibers.getD n.toNat default)).at_=0 then kT { kN s n (fun f=>{ f with caller:=s.now }) with now:=n } n (fun x=>{ x with locals:=x.locals.set 0 v })
 else kR { kN s n (fun f=>{ f with caller:=s.now }) with now:=n } n v
def yE (s:GState):Int × GState :=
 if ¬(0≤zR (popG s)∧zR (popG s)<s.fibers.length) then (5,s)
 else if zR (popG s)∈qH (popG (popG s))∨((popG (popG s)).fibers.getD (zR (popG s)).toNat default).frames.length=0 then (6,s)
 else (0,zHh (popG (popG s)) (zR (popG s)) (zR s))
def jB (s:GState) (m:Nat):GState:=kT s s.now fun x=>{ x with stack:=x.stack.take (x.stack.length - m) }
def kL (p:List GFunc) (s:GState) (a:Int) (m:Nat):List Int:=List.replicate ((zI p a).args.toNat - m) 0++(curX s).stack.drop ((curX s).stack.length - m)++List.replicate ((zI p a).locals.toNat - (zI p a).args.toNat) 0
def zAw (p:List GFunc) (s:GState) (a:Int):Int × GState :=
 if (curF s).frames.length=6 then (2,s)
 else (0,kN (jB s (zI p a).args.toNat) s.now fun f=>{ f with frames:=f.frames++[⟨a,0,kL p s a (zI p a).args.toNat,[]⟩] })
def zCr (b:Bool):Int:=if b then 1 else 0
def yP (k a b:Int):Int :=
 if k=4 then wrap64 (a+b) else if k=5 then wrap64 (a - b) else if k=6 then wrap64 (a * b) else if k=7 then zCr (decide (a<b)) else zCr (decide (a=b))
def zEo (p:List GFunc) (s:GState) (a:Int):Int × GState :=
 if s.fibers.length=5 then (2,s) else (0,{ kR s s.now s.fibers.length with fibers:=(kR s s.now s.fibers.length).fibers++[⟨[kY p a],-1⟩] })
def opAt (p:List GFunc) (x:GFrame):GOp:=(zI p x.func).code.getD x.at_.toNat default
def zQ (p:List GFunc) (s:GState) (k a:Int):Int × GState :=
 if k=0 then (0,kR s s.now a)
 else if k=1 then (0,popG s)
 else if k=2 then (0,kR s s.now ((curX s).locals.getD a.toNat 0))
 else if k=3 then (0,kT (popG s) s.now fun x=>{ x with locals:=x.locals.set a.toNat (zR s) })
 else if k=9 then (0,zDm s a)
 else if k=10 then (0,if zR s=0 then zDm (popG s) a else popG s)
 else if k=11 then zAw p s a
 else if k=12 then yX s
 else if k=13 then zEo p s a
 else if k=14 then yE s
 else if k=15 then yT s
 else if k=16 then putG (popG s) (zR s)
 else (0,kR (popG (popG s)) s.now (yP k (zR (popG s)) (zR s)))
def kF (p:List GFunc) (s:GState):Int × GState:=zQ p (advG s) (opAt p (curX s)).kind (opAt p (curX s)).a
def runG (p:List GFunc):Nat→GState→GState × Int × Int
 | 0,s=>(s,0,0)
 | k+1,s=>if s.now<0 then (s,0,0) else if (kF p s).1≠0 then (s,0,(kF p s).1) else ((runG p k (kF p s).2).1,(runG p k (kF p s).2).2.1+1,(runG p k (kF p s).2).2.2)
def FewF (f:GFiber):Prop:=f.frames.length≤900∧∀x∈f.frames,x.locals.length≤900∧x.stack.length≤900
def FewS (s:GState):Prop:=s.fibers.length≤900∧s.out.length≤900∧∀f∈s.fibers,FewF f
def zU (s:GState) (n:Int):Prop:=0≤n∧n<s.fibers.length∧0<(s.fibers.getD n.toNat default).frames.length
def NowTop (p:List GFunc) (s:GState):Prop:=zU s s.now∧0≤(curX s).func∧(curX s).func<p.length∧0≤(curX s).at_∧(curX s).at_<(zI p (curX s).func).code.length
def zEm (p:List GFunc) (s:GState) (a:Int):Prop:=0≤a∧a<p.length∧0≤(zI p a).args∧(zI p a).args≤(zI p a).locals∧(zI p a).locals≤900∧(zI p a).args≤(curX s).stack.length
def zAp (s:GState):Prop:=(curF s).caller<0∨zU { kN s s.now (fun f=>{ f with caller := -1 }) with now:=(curF s).caller } (curF s).caller
def vC (s:GState):Prop:=1≤(curX s).stack.length∧(0<(curF (kD (popG s))).frames.length∨zAp (kD (popG s)))
def zGd (p:List GFunc) (a:Int):Prop:=0≤a∧a<p.length∧0≤(zI p a).locals∧(zI p a).locals≤900
def zAj (s:GState):Prop:=(-1≤s.now∧s.now≤(s.fibers.length:Int) - 1)∧∀f∈s.fibers,-1≤f.caller∧f.caller≤(s.fibers.length:Int) - 1
def vD (s:GState):Prop:=2≤(curX s).stack.length∧zAj (popG (popG s)) ∧
 (0≤zR (popG s)∧zR (popG s)<(popG (popG s)).fibers.length∧0<((popG (popG s)).fibers.getD (zR (popG s)).toNat default).frames.length →
  (vF ((popG (popG s)).fibers.getD (zR (popG s)).toNat default)).at_=0→0<(vF ((popG (popG s)).fibers.getD (zR (popG s)).toNat default)).locals.length)
def zV (p:List GFunc) (s:GState) (k a:Int):Prop :=
 if k=0 then True
 else if k=1 then 1≤(curX s).stack.length
 else if k=2 then 0≤a∧a<(curX s).locals.length
 else if k=3 then 0≤a∧a<(curX s).locals.length∧1≤(curX s).stack.length
 else if k=9 then True
 else if k=10 then 1≤(curX s).stack.length
 else if k=11 then zEm p s a
 else if k=12 then vC s
 else if k=13 then zGd p a
 else if k=14 then vD s
 else if k=15 then 1≤(curX s).stack.length∧zAp (popG s)
 else if k=16 then 1≤(curX s).stack.length
 else 2≤(curX s).stack.length
def zEr (p:List GFunc) (s:GState):Prop:=NowTop p s∧zV p (advG s) (opAt p (curX s)).kind (opAt p (curX s)).a
def zFr (p:List GFunc):Nat→GState→Prop
 | 0,s=>FewS s
 | k+1,s=>FewS s∧(s.now<0∨(zEr p s∧((kF p s).1≠0∨zFr p k (kF p s).2)))
instance (f:GFiber):Decidable (FewF f):=by unfold FewF;infer_instance
instance (s:GState):Decidable (FewS s):=by unfold FewS;infer_instance
instance (s:GState) (n:Int):Decidable (zU s n):=by unfold zU;infer_instance
instance (p:List GFunc) (s:GState):Decidable (NowTop p s):=by unfold NowTop;infer_instance
instance (p:List GFunc) (s:GState) (a:Int):Decidable (zEm p s a):=by unfold zEm;infer_instance
instance (s:GState):Decidable (zAp s):=by unfold zAp;infer_instance
instance (s:GState):Decidable (vC s):=by unfold vC;infer_instance
instance (p:List GFunc) (a:Int):Decidable (zGd p a):=by unfold zGd;infer_instance
instance (s:GState):Decidable (zAj s):=by unfold zAj;infer_instance
instance (s:GState):Decidable (vD s):=by unfold vD;infer_instance
instance (p:List GFunc) (s:GState) (k a:Int):Decidable (zV p s k a):=by unfold zV;infer_instance
instance (p:List GFunc) (s:GState):Decidable (zEr p s):=by unfold zEr;infer_instance
instance decRunFit (p:List GFunc):(k:Nat)→(s:GState)→Decidable (zFr p k s)
 | 0,s=>by unfold zFr;infer_instance
 | k+1,s=>by
  have:=decRunFit p k;unfold zFr
  infer_instance
section
variable {α:Type} (f:α→List Value) {sz:Nat} (hf:∀y,(f y).length=sz)
include hf
theorem zBu (l:List α):(l.flatMap f).length=l.length * sz:=by
 induction l with
 | nil=>simp
 | cons y l ih=>simp [ih,hf,Nat.add_mul];omega
theorem flat_at (L:List α) (y:α) (R:List α) {r:Nat} (hr:r<sz):((L++y::R).flatMap f)[L.length * sz+r]?=(f y)[r]?:=by
 rw [List.flatMap_append,List.flatMap_cons,List.getElem?_append_right (by rw [zBu f hf];omega),zBu f hf,Nat.add_sub_cancel_left,List.getElem?_append_left (by rw [hf];exact hr)]
theorem flat_set (L:List α) (y y':α) (R:List α) {r:Nat} (hr:r<sz) {u:Value} (h:f y'=(f y).set r u):((L++y::R).flatMap f).set (L.length * sz+r) u=(L++y'::R).flatMap f:=by
 rw [List.flatMap_append,List.flatMap_cons,List.flatMap_append,List.flatMap_cons,List.set_append_right _ _ (by rw [zBu f hf];omega),zBu f hf,Nat.add_sub_cancel_left,List.set_append_left _ _ (by rw [hf];exact hr),h]
theorem RowAt.place {W:World} {B:Nat} {v:Value} {L R:List α} {y:α} (h:RowAt W B sz v (L++y::R).length ((L++y::R).flatMap f)) :
  ∃g o cap,v=.slice (some ⟨g,o,none⟩) (L++y::R).length cap∧zB v=some g∧(L++y::R).length≤cap∧cap≤maxLen∧∀r u,r<sz→(f y)[r]?=some u→Cx W g (o+L.length * sz+r) u:=by
 obtain⟨hl,a,cap,rfl,h1,h2,h3⟩:=h;have hn:0<(L++y::R).length:=by simp only [List.length_append,List.length_cons];omega
 obtain⟨g,o,rfl,hb,hc,ht⟩:=h3.resolve_left (by omega);refine⟨g,o,cap,rfl,zK _ _ _ _ (by omega),h1,h2,fun r u hr hu=>?_⟩;have hlt:L.length * sz+r<(L++y::R).length * sz:=by
  rw [List.length_append,List.length_cons,Nat.add_mul,Nat.add_mul,Nat.one_mul];omega
 have hcap:(L++y::R).length * sz≤cap * sz:=Nat.mul_le_mul_right _ h1;rw [Nat.add_assoc];exact⟨(hc _ hlt).trans ((flat_at f hf L y R hr).trans hu),(ht _ (by omega)).2⟩
theorem RowAt.storeAt {W:World} {B:Nat} {L R:List α} {y y':α} {g o n cap:Nat} (h:RowAt W B sz (.slice (some ⟨g,o,none⟩) n cap) (L++y::R).length ((L++y::R).flatMap f)) {r:Nat} (hr:r<sz) {u:Value} (hu:f y'=(f y).set r u) :
  RowAt (W.setCell ⟨g,o+L.length * sz+r,none⟩ u) B sz (.slice (some ⟨g,o,none⟩) n cap) (L++y'::R).length ((L++y'::R).flatMap f):=by
 have e:n=(L++y::R).length:=by obtain⟨a,c,e,_⟩:=h.shape;simp only [Value.slice.injEq] at e;exact e.2.1
 subst e;have hlt:L.length * sz+r<(L++y::R).length * sz:=by
  rw [List.length_append,List.length_cons,Nat.add_mul,Nat.add_mul,Nat.one_mul];omega
 have:=RowAt.store h hlt u;rw [flat_set f hf L y y' R hr hu,←Nat.add_assoc] at this;rw [show (L++y'::R).length=(L++y::R).length by simp];exact this
end
structure Spot (P:PState) (L:List PFiber) (y:PFiber) (R:List PFiber) (F:List PFrame) (x:PFrame):Prop where
 fs:P.fs=L++y::R
 fr:y.fr=F++[x]
def qT (P:PState) (L:List PFiber) (y:PFiber) (R:List PFiber) (F:List PFrame) (x:PFrame):PState:={ P with fs:=L++{ y with fr:=F++[x] }::R }
theorem zHl {P:PState} {L R:List PFiber} {y:PFiber} {F:List PFrame} {x:PFrame} {w:World} {B b g o cap:Nat} (h:OwnS w B b P) (hs:Spot P L y R F x) (hv:y.vf=.slice (some ⟨g,o,none⟩) (F++[x]).length cap) (n:Nat) (hn:n=L.length) :
    Calls Tryz.prog 181 #[.pointer (some ⟨b,0,none⟩),.int .i64 n] w fun e w'=>e=.returned (.pointer (some ⟨g,o+F.length * 4,none⟩))∧Ext w w':=by
  have hrow:=h.row;have hfew:=h.few;rw [hs.fs] at hrow hfew;obtain⟨⟨c0,-⟩,-,-⟩:=(⟨h.c0,h.c1,h.c2⟩:_∧_∧_)
  obtain⟨g0,o0,cap0,e0,hb0,hc0,hm0,hx0⟩:=RowAt.place kK (fun _=>rfl) hrow;rw [e0] at c0;obtain⟨d0,-⟩:=hx0 0 _ (by decide) rfl;rw [hv,Nat.add_zero] at d0;have hnk:L.length<(L++y::R).length:=by simp
  have hfr:(F++[x]).length≤1000:=by
    have:=(h.fs y (by rw [hs.fs];simp)).few
    rwa [hs.fr] at this
  have hm1:(F++[x]).length=F.length+1:=by simp
  have hmN:F.length<(F++[x]).length:=by omega
  have KK:IntKind.i64.wrap (((F++[x]).length:Int) - 1)=(F.length:Int):=by
    have e:(((F++[x]).length:Int) - 1)=(F.length:Int):=by omega
    rw [e];exact IntWalk.i64_in _ (by omega)
  subst hn;clear hrow hx0 hb0 hm0 hm1 hs hv;have RA:=zF;generalize L.length=n at *;generalize F.length=m at *;generalize (L++y::R).length=nk at *;generalize (F++[x]).length=mk at *;go_enter Tryz.func181,Tryz.ntmps181
  go_upto_region 2 with fail
  refine kB (by kernel_rfl) (by kernel_rfl) ?_
  repeat (first
    | go_big_quiet_skip
    | (go_big_quiet_want
       unfold Oper.quiet;apply Exists.intro;refine⟨fun w' hw'=>?_,?_⟩
       focus
         have hcq:=Ext.keep hw';go_simp
         first
           | with_reducible rfl
       (try dsimp only [Act.put])
       (try simp only [xL,xM,xN])
       go_big_quiet_on))
  refine wpQuiet_nil ?_;intro wq hq
  go_wp2_with fail
  go_ret;exact⟨rfl,hq⟩
def txtV (x:By):Value:=.string ⟨x.toArray⟩
def StrC (w:World) (S:Nat→Prop) (b o:Nat) (x:By):Prop:=S b∧w.cell? ⟨b,o,none⟩=some (txtV x)
def Strs (w:World) (S:Nat→Prop):Value→List By→Prop:=Sl (StrC w S) 1 16
theorem Strs.stays {S T:Nat→Prop} {w w':World} (hs:uU S T w w') {v:Value} {l:List By} (h:Strs w S v l):Strs w' T v l:=Sl.mono h fun _ _ _ h=>⟨(hs _ _ _ h.1 h.2).2,(hs _ _ _ h.1 h.2).1⟩
def txtF (x:By):List Value:=[txtV x]
theorem Strs.of_row {w:World} {base:Nat} {v:Value} {l:List By} (h:RowAt w base 1 v l.length (l.flatMap txtF)) (hb:l.length * 16≤140737488355328) (S:Nat→Prop) (hS:∀b,base≤b→S b):Strs w S v l :=
 Sl.of_row txtF h (fun _=>rfl) hb fun b _ _ hb _ _ hc=>⟨hS b hb,hc 0 _ rfl⟩
structure PRow (w:World) (B:Nat) (v:Value) (fs:List (GFunc × Value)):Prop where
 row:RowAt w B 3 v fs.length (fs.flatMap zCj)
 fn:∀y∈fs,I64 y.1.args∧I64 y.1.locals∧RowAt w B 2 y.2 y.1.code.length (y.1.code.flatMap opF)∧(∀x∈y.1.code,I64 x.kind∧I64 x.a)∧y.1.code.length≤10000
 nodup:((zB v).toList++fs.flatMap fun y=>(zB y.2).toList).Nodup
 few:fs.length≤10000
theorem PRow.nil (w:World) (B:Nat):PRow w B (.slice none 0 0) []:=⟨RowAt.nil _ _ _ _,by simp,by simp [zB],by simp⟩
theorem PRow.keep {w w':World} {B:Nat} {v:Value} {fs:List (GFunc × Value)} (h:PRow w B v fs) (hk:∀{base size n:Nat} {v:Value} {xs:List Value},RowAt w base size v n xs→0<size→RowAt w' base size v n xs):PRow w' B v fs :=
 ⟨hk h.row (by decide),fun y hy=>⟨(h.fn y hy).1,(h.fn y hy).2.1,hk (h.fn y hy).2.2.1 (by decide),(h.fn y hy).2.2.2⟩,h.nodup,h.few⟩
theorem PRow.ext {w w':World} {B:Nat} {v:Value} {fs:List (GFunc × Value)} (h:PRow w B v fs) (he:Ext w w'):PRow w' B v fs:=h.keep fun hr hs=>hr.ext he hs
theorem PRow.kc {w w':World} {B lo:Nat} {v:Value} {fs:List (GFunc × Value)} (h:PRow w B v fs) (he:Kc lo w w'):PRow w' B v fs:=h.keep fun hr hs=>he.row hr hs
theorem PRow.ge {w:World} {B:Nat} {v:Value} {fs:List (GFunc × Value)} (h:PRow w B v fs):∀g∈(zB v).toList++fs.flatMap (fun y=>(zB y.2).toList),B≤g∧g<w.heap.size:=by
 intro g hg;rcases List.mem_append.1 hg with h1 | h1
 ·exact⟨h.row.le g (by simpa using h1),h.row.lt (by decide) g (by simpa using h1)⟩
 ·obtain⟨y,hy,h2⟩:=List.mem_flatMap.1 h1;exact⟨(h.fn y hy).2.2.1.le g (by simpa using h2),(h.fn y hy).2.2.1.lt (by decide) g (by simpa using h2)⟩
theorem PRow.chg {M:Nat→Prop} {w w':World} {B:Nat} {v:Value} {fs:List (GFunc × Value)} (h:PRow w B v fs) (hc:Chg M w w') (hM:∀g∈(zB v).toList++fs.flatMap (fun y=>(zB y.2).toList),¬M g):PRow w' B v fs :=
 ⟨h.row.chg hc (fun g e=>hM g (by simp [e])) (by decide),fun y hy=>⟨(h.fn y hy).1,(h.fn y hy).2.1,(h.fn y hy).2.2.1.chg hc (fun g e=>hM g (List.mem_append.2 (.inr (List.mem_flatMap.2 ⟨y,hy,by simp [e]⟩)))) (by decide),(h.fn y hy).2.2.2⟩,h.nodup,h.few⟩
theorem PRow.funcs {w:World} {B:Nat} {v:Value} {fs:List (GFunc × Value)} (h:PRow w B v fs) (S:Nat→Prop) (hS:∀b,B≤b→S b):zM w S v (fs.map Prod.fst):=by
 have hf:=h.few;refine Sl.map Prod.fst (Sl.of_row zCj h.row (fun _=>rfl) (by omega) fun b o y hbb _ hy hc=>?_);obtain⟨i1,i2,i3,i4,i5⟩:=h.fn y hy;exact⟨⟨hS b hbb,hc 0 _ rfl,i1⟩,⟨hS b hbb,hc 1 _ rfl,i2⟩,y.2,hc 2 _ rfl,Ops.of_row i3 (by omega) i4 S (fun b hb _=>hS b hb)⟩
theorem PRow.push {w w':World} {B:Nat} {v v':Value} {fs:List (GFunc × Value)} {A L:Int} (h:PRow w B v fs) (hn:kO w w' B 3 v v' (fs.length+1) (fs.flatMap zCj++[.int .i64 A,.int .i64 L,.slice none 0 0])) (hA:I64 A) (hL:I64 L) (hl:fs.length<10000) :
  PRow w' B v' (fs++[(⟨A,L,[]⟩,.slice none 0 0)]):=by
 obtain⟨hr,hc,hb⟩:=hn;have hnd:=List.nodup_append.1 h.nodup;have hdis:∀y∈fs,∀g,zB y.2=some g→zB v≠some g:=fun y hy g e e2=>hnd.2.2 g (by simp [e2]) g (List.mem_flatMap.2 ⟨y,hy,by simp [e]⟩) rfl
 refine⟨?_,fun y hy=>?_,?_,by simp;omega⟩
 ·rw [List.length_append,List.length_singleton,List.flatMap_append];exact hr
 ·rcases List.mem_append.1 hy with h1 | h1
  ·obtain⟨i1,i2,i3,i4⟩:=h.fn y h1;exact⟨i1,i2,i3.chg hc (fun g e e2=>hdis y h1 g e e2) (by decide),i4⟩
  ·rw [List.mem_singleton.1 h1];exact⟨hA,hL,RowAt.nil _ _ _ _,by simp,by simp⟩
 ·have e:(fs++[((⟨A,L,[]⟩:GFunc),Value.slice none 0 0)]).flatMap (fun y=>(zB y.2).toList)=fs.flatMap fun y=>(zB y.2).toList:=by
   rw [List.flatMap_append];simp [zB]
  rw [e];rcases hb with e1 | e1
  ·rw [e1];exact h.nodup
  ·rw [List.nodup_append];refine⟨by cases zB v'<;>simp,hnd.2.1,fun a ha b hb2 e2=>?_⟩;subst e2;have h1:=e1 a (by simpa using ha);have h2:=(h.ge a (List.mem_append.2 (.inr hb2))).2;omega
theorem PRow.op {w w1:World} {B g o n cap:Nat} {L:List (GFunc × Value)} {y:GFunc × Value} {v1:Value} {x:GOp} (h:PRow w B (.slice (some ⟨g,o,none⟩) n cap) (L++[y]))
  (hn:kO w w1 B 2 y.2 v1 (y.1.code.length+1) (y.1.code.flatMap opF++opF x)) (hx:I64 x.kind∧I64 x.a) (hl:y.1.code.length<10000) :
  PRow (w1.setCell ⟨g,o+L.length * 3+2,none⟩ v1) B (.slice (some ⟨g,o,none⟩) n cap) (L++[({ y.1 with code:=y.1.code++[x] },v1)]):=by
 obtain⟨hr,hc,hb⟩:=hn;have hcap:cap≠0:=by
  obtain⟨a,c,e,h1,_⟩:=h.row.shape;simp only [Value.slice.injEq] at e;have:(L++[y]).length=L.length+1:=by simp
  omega
 have hg:zB (.slice (some ⟨g,o,none⟩) n cap)=some g:=zK _ _ _ _ hcap;have hnd:=h.nodup;rw [hg,List.flatMap_append] at hnd;simp only [List.flatMap_cons,List.flatMap_nil,List.append_nil,Option.toList_some] at hnd;have hym:y∈L++[y]:=by simp
 have hy:=h.fn y hym;have hlt:=h.ge;have hgw:g<w.heap.size:=(hlt g (by rw [hg];simp)).2;obtain⟨_,n2,n3⟩:=List.nodup_append.1 hnd;obtain⟨n4,n5,n6⟩:=List.nodup_append.1 n2;have hgy:zB y.2≠some g:=fun e=>n3 g (by simp) g (by simp [e]) rfl
 have hv1:∀k,zB v1=some k→zB y.2=some k∨w.heap.size≤k:=fun k hk=>by
  rcases hb with h1 | h1
  ·exact .inl (h1 ▸ hk)
  ·exact .inr (h1 k hk)
 have hgv1:zB v1≠some g:=fun e=>by
  rcases hv1 g e with h1 | h1
  ·exact hgy h1
  ·omega
 have hrow1:RowAt w1 B 3 (.slice (some ⟨g,o,none⟩) n cap) (L++[y]).length ((L++[y]).flatMap zCj):=h.row.chg hc (fun k hk e=>by rw [hg] at hk;cases hk;exact hgy e) (by decide);have hset:=RowAt.storeAt zCj (fun _=>rfl) (L:=L) (y:=y) (y':=({ y.1 with code:=y.1.code++[x] },v1)) (R:=[]) hrow1 (r:=2) (by decide) (u:=v1) rfl;refine⟨hset,fun z hz=>?_,?_,by have:=h.few;simpa using this⟩
 ·rcases List.mem_append.1 hz with h1 | h1
  ·obtain⟨i1,i2,i3,i4⟩:=h.fn z (by simp [h1]);refine⟨i1,i2,(i3.chg hc (fun k hk e=>?_) (by decide)).chg (zO _ _ _ _) (fun k hk e=>?_) (by decide),i4⟩
   ·exact n6 k (List.mem_flatMap.2 ⟨z,h1,by simp [hk]⟩) k (by simp [e]) rfl
   ·subst e;exact n3 k (by simp) k (by simp only [List.mem_append];exact .inl (List.mem_flatMap.2 ⟨z,h1,by simp [hk]⟩)) rfl
  ·rw [List.mem_singleton.1 h1];refine⟨hy.1,hy.2.1,?_,fun u hu=>?_,by show (y.1.code++[x]).length≤10000;simp;omega⟩
   ·show RowAt _ B 2 v1 (y.1.code++[x]).length ((y.1.code++[x]).flatMap opF);rw [List.length_append,List.length_singleton,List.flatMap_append,List.flatMap_singleton];exact hr.chg (zO _ _ _ _) (fun k hk e=>hgv1 (by rw [hk];exact congrArg some e)) (by decide)
   ·rcases List.mem_append.1 hu with h2 | h2
    ·exact hy.2.2.2.1 u h2
    ·rw [List.mem_singleton.1 h2];exact hx
 ·rw [hg,List.flatMap_append];simp only [List.flatMap_cons,List.flatMap_nil,List.append_nil,Option.toList_some];rw [List.nodup_append];refine⟨by simp,?_,fun a ha b hb2 e=>?_⟩
  ·rw [List.nodup_append];refine⟨n4,by cases zB v1<;>simp,fun a ha b hb2 e=>?_⟩;subst e;rcases hv1 a (by simpa using hb2) with h1 | h1
   ·exact n6 a ha a (by simp [h1]) rfl
   ·have:=(hlt a (by rw [List.flatMap_append];simp only [List.mem_append];exact .inr (.inl ha))).2;omega
  ·subst e;rw [List.mem_singleton.1 ha] at hb2;rcases List.mem_append.1 hb2 with h1 | h1
   ·exact n3 g (by simp) g (by simp only [List.mem_append];exact .inl h1) rfl
   ·exact hgv1 (by simpa using h1)
theorem cat_bytes (l m:List UInt8):(⟨l.toArray⟩:ByteArray)++(⟨m.toArray⟩:ByteArray)=⟨(l++m).toArray⟩:=by
 apply ByteArray.ext;simp [ByteArray.data_append]
theorem one_str (w:World) (x:Int) (b:UInt8) (hb:x=(b.toNat:Int)) :
  (convert 63 9 (.slice (some ⟨w.heap.size,0,none⟩) 1 1)).run Tryz.prog (w.alloc (.cells #[.int .u8 x] 5))=.ok (.string ⟨#[b]⟩) (w.alloc (.cells #[.int .u8 x] 5)):=by
 refine run_convert_bytes_back _ _ _ 5 ⟨w.heap.size,0,none⟩ 1 [b] Tryz.underlying63 Tryz.underlying5 Tryz.underlying9 fun j hj=>?_
 obtain rfl:j=0:=by simpa using hj
 rw [Addr.add_zero',World.cell?_alloc_new];simp [hb]
theorem digits_pos (k:Nat):∀(n:Int) (w:World),I64 n→0≤n→n.toNat<k →
  Calls Tryz.prog 13 #[.int .i64 n] w fun e w'=>e=.returned (.string ⟨(Lib.itoa n).toArray⟩)∧Ext w w':=by
 induction k with
 | zero=>intro n w _ _ h;omega
 | succ k ih =>
  intro n w hn T0 hk;unfold I64 at hn;have hcat:=cat_bytes;have hmod:0≤n % 10∧n % 10<10:=⟨Int.emod_nonneg _ (by decide),Int.emod_lt_of_pos _ (by decide)⟩
  obtain⟨b,hb⟩:∃b,UInt8.ofNat (48+n.toNat % 10)=b:=⟨_,rfl⟩
  have hcv:(convert 63 9 (.slice (some ⟨w.heap.size,0,none⟩) 1 1)).run Tryz.prog (w.alloc (.cells #[.int .u8 (48+n % 10)] 5))=.ok (.string ⟨#[b]⟩) (w.alloc (.cells #[.int .u8 (48+n % 10)] 5)) :=
   one_str w (48+n % 10) b (by rw [←hb,UInt8.toNat_ofNat'];omega)
  by_cases h1:n<10
  ·have HI:Hid (Lib.itoa n=[b]):=by
    unfold Hid;rw [vK T0,Lib.decDigits,dif_pos (by omega),←hb]
    congr 3
    omega
   clear ih hk hb;go_enter Tryz.func13,Tryz.ntmps13
   go_wp2_with fail
   go_ret;exact⟨by rw [HI.out];rfl,(eR w).alloc _⟩
  ·have HI:Hid (Lib.itoa n=Lib.itoa (n / 10)++[b]):=by
    unfold Hid;rw [vK T0,Lib.decDigits,dif_neg (by omega),vK (by omega),←hb]
    congr 2
    omega
   have IH:=eH (ih (n / 10) (w.alloc (.cells #[.int .u8 (48+n % 10)] 5)) (by unfold I64;omega) (by omega) (by omega));have T10:(10:Int)≤n:=by omega
   have HL:¬9223372036854775807<(Lib.itoa (n / 10)).length+1:=by
    have h:=Lib.itoa_length_le (n / 10) (by omega) (by omega);omega
   clear ih hk h1 hb;go_enter Tryz.func13,Tryz.ntmps13
   go_wp2_with (first
    | (go_at_call 13;refine IH.out.mono ?_;rintro e w1 ⟨rfl,hb1⟩))
   go_ret;exact⟨by rw [HI.out];rfl,((eR w).alloc _).trans hb1⟩
theorem jF (n:Int) (w:World) (hn:I64 n):Calls Tryz.prog 13 #[.int .i64 n] w fun e w'=>e=.returned (.string ⟨(Lib.itoa n).toArray⟩)∧Ext w w':=by
 by_cases h0:0≤n
 ·exact digits_pos (n.toNat+1) n w hn h0 (Nat.lt_succ_self _)
 ·unfold I64 at hn;have hcat:=cat_bytes;have T0:n<0:=by omega
  have HI:Hid (Lib.itoa n=45::Lib.decDigits n.natAbs):=by unfold Hid Lib.itoa;rw [if_pos T0]
  by_cases hm:n = -9223372036854775808
  ·subst hm;have e1:Hid (Lib.itoa (-9223372036854775808)=[45,57,50,50,51,51,55,50,48,51,54,56,53,52,55,55,53,56,48,56]):=by unfold Hid;decide +kernel
   have W0:wrap64 9223372036854775808 = -9223372036854775808:=by unfold wrap64;decide
   clear HI;go_enter Tryz.func13,Tryz.ntmps13
   go_wp2_with fail
   go_ret;exact⟨by rw [e1.out];rfl,eR _⟩
  ·have W1:IntKind.i64.wrap (-n) = -n:=IntWalk.i64_in _ (by omega);have T1:(n == -n)=false:=beq_eq_false_iff_ne.2 (by omega);have IH:=eH (digits_pos ((-n).toNat+1) (-n) w (by unfold I64;omega) (by omega) (Nat.lt_succ_self _));have HJ:Hid (Lib.itoa (-n)=Lib.decDigits n.natAbs):=by
    unfold Hid Lib.itoa;rw [if_neg (by omega)]
    congr 1
    omega
   have HL:¬9223372036854775807<1+(Lib.decDigits n.natAbs).length:=by
    have h:=Lib.itoa_length_le (-n) (by omega) (by omega);rw [HJ.out] at h;omega
   clear hm h0;go_enter Tryz.func13,Tryz.ntmps13
   go_wp2_with (first
    | (go_at_call 13;refine IH.out.mono ?_;rintro e w1 ⟨rfl,hb1⟩;rw [HJ.out]))
   go_ret;exact⟨by rw [HI.out];rfl,hb1⟩
end Go.Proofs.YtpcjkfppacnkgaaGreatDoor
