/- Contracts and plain facts. -/
import Derived.Below
import Derived.BigQuiet
import Derived.Deep.CutBlock
import Derived.Deep.DeepCutAuto
import Derived.Deep.RegionHeld3
import Derived.Deep.RegionWith
import Derived.Deep.Slices
import Derived.IntWalk
import Derived.Laws.EntriesVeiled
import Derived.Lib.Hide
import Derived.Lib.SmallJoins
import Derived.OpenShut
import Derived.ProofKit
import Derived.SizedLaws
import Derived.Test.YtpcjkfppacnkgaaGreatDoorProg
import Derived.Test.YtpcjkfppacnkgaaGreatDoorRows
import Derived.WalkKit
set_option maxHeartbeats 4000000
set_option maxRecDepth 100000
section
namespace Go.Proofs.YtpcjkfppacnkgaaGreatDoor
structure GOp where
 kind:Int
 a:Int
 deriving DecidableEq,Inhabited
structure GFunc where
 args:Int
 locals:Int
 code:List GOp
 deriving DecidableEq,Inhabited
structure GFrame where
 func:Int
 at_:Int
 locals:List Int
 stack:List Int
 deriving DecidableEq,Inhabited
structure GFiber where
 frames:List GFrame
 caller:Int
 deriving DecidableEq,Inhabited
structure GState where
 fibers:List GFiber
 now:Int
 out:List Int
 deriving DecidableEq,Inhabited
structure GNode where
 kind:Int
 n:Int
 deriving DecidableEq,Inhabited
def zP (p:List GFunc) (x:GOp):Int :=
 if x.kind=4∨x.kind=5∨x.kind=6∨x.kind=7∨x.kind=8∨x.kind=14 then 2
 else if x.kind=1∨x.kind=3∨x.kind=10∨x.kind=12∨x.kind=15∨x.kind=16 then 1
 else if x.kind=11 then (p.getD x.a.toNat default).args
 else 0
def kA (x:GOp):Int :=
 if x.kind=1∨x.kind=3∨x.kind=9∨x.kind=10∨x.kind=12∨x.kind=16 then 0 else 1
def knownB (k:Int):Bool:=decide (0≤k) && decide (k≤16)
def qO (f:GFunc):Bool:=decide (0≤f.args∧f.args≤f.locals∧f.locals≤4)
def qJ (p:List GFunc) (f:GFunc) (k:Int):Int :=
 if k=0 then 999
 else if k=2∨k=3 then f.locals - 1
 else if k=9∨k=10 then (f.code.length:Int) - 1
 else if k=11∨k=13 then (p.length:Int) - 1
 else 0
def kP (p:List GFunc) (f:GFunc) (x:GOp):Int :=
 if ¬(0≤x.kind∧x.kind≤16) then 4
 else if ¬(0≤x.a∧x.a≤qJ p f x.kind) then 3
 else if (x.kind=11∨x.kind=13)∧qO (p.getD x.a.toNat default)=false then 3
 else if x.kind=13∧(p.getD x.a.toNat default).args≠1 then 1
 else 0
def opsErr (p:List GFunc) (f:GFunc):List GOp→Int
 | []=>0
 | x::l=>if kP p f x≠0 then kP p f x else opsErr p f l
def funcErr (p:List GFunc) (f:Int):Int :=
 if ¬(0≤f∧f<p.length) then 5
 else if 24<(p.getD f.toNat default).code.length then 2
 else if qO (p.getD f.toNat default)=false then 3
 else opsErr p (p.getD f.toNat default) (p.getD f.toNat default).code
end Go.Proofs.YtpcjkfppacnkgaaGreatDoor
end
section
namespace Go.Proofs.YtpcjkfppacnkgaaGreatDoor
open Go Go.RowKit
def I64 (n:Int):Prop := -9223372036854775808≤n∧n≤9223372036854775807
theorem I64.small {n:Int} (h : -1000000≤n) (h':n≤1000000):I64 n:=by unfold I64;omega
theorem I64.nat {n:Nat} (h:n≤140737488355328):I64 n:=by unfold I64;omega
def Keep (S:Nat→Prop) (w w':World):Prop:=∀b,S b→w'.heap[b]?=w.heap[b]?
theorem Keep.refl (S:Nat→Prop) (w:World):Keep S w w:=fun _ _=>rfl
theorem Keep.trans {S:Nat→Prop} {a b c:World} (h:Keep S a b) (k:Keep S b c):Keep S a c:=fun i hi=>(k i hi).trans (h i hi)
theorem Keep.mono {S T:Nat→Prop} {w w':World} (h:Keep S w w') (hs:∀b,T b→S b):Keep T w w':=fun b hb=>h b (hs b hb)
theorem Keep.of_below {B:Nat} {w w':World} (h:Below B w w'):Keep (·<B) w w':=h.block
theorem Keep.cell {S:Nat→Prop} {w w':World} (h:Keep S w w') {b o:Nat} (hb:S b):w'.cell? ⟨b,o,none⟩=w.cell? ⟨b,o,none⟩ :=
 World.cell?_of_block (h b hb)
theorem zY {w:World} {b o:Nat} {v:Value} (h:w.cell? ⟨b,o,none⟩=some v):b<w.heap.size:=World.block_lt_of_cell? w _ h
theorem Below.cell' {B:Nat} {w w':World} (h:Below B w w') {b o:Nat} {v:Value} (hb:b<B) (hc:w.cell? ⟨b,o,none⟩=some v):w'.cell? ⟨b,o,none⟩=some v :=
 (h.cell (p:=⟨b,o,none⟩) hb).trans hc
theorem Below.cells {w w':World} (h:Below w.heap.size w w') {b o:Nat} {v:Value} (hc:w.cell? ⟨b,o,none⟩=some v):w'.cell? ⟨b,o,none⟩=some v :=
 Below.cell' h (zY hc) hc
def IntC (w:World) (S:Nat→Prop) (b o:Nat) (n:Int):Prop:=S b∧w.cell? ⟨b,o,none⟩=some (.int .i64 n)∧I64 n
def BoolC (w:World) (S:Nat→Prop) (b o:Nat) (n:Bool):Prop:=S b∧w.cell? ⟨b,o,none⟩=some (.bool n)
def Sl {α:Type} (E:Nat→Nat→α→Prop) (sz bytes:Nat) (v:Value) (l:List α):Prop :=
 ∃a cap,v=.slice a l.length cap∧l.length≤cap∧(l.length * bytes≤140737488355328∧cap≤9223372036854775807) ∧
  ∀(i:Nat) (h:i<l.length),∃b o,a=some ⟨b,o,none⟩∧E b (o+i * sz) l[i]
theorem Sl.mono {α:Type} {E E':Nat→Nat→α→Prop} {sz bytes:Nat} {v:Value} {l:List α} (h:Sl E sz bytes v l)
  (hE:∀b o x,E b o x→E' b o x):Sl E' sz bytes v l:=by
 obtain⟨a,cap,rfl,h1,h2,h3⟩:=h;refine⟨a,cap,rfl,h1,h2,fun i hi=>?_⟩;obtain⟨b,o,rfl,he⟩:=h3 i hi;exact⟨b,o,rfl,hE _ _ _ he⟩
theorem Sl.nil {α:Type} (E:Nat→Nat→α→Prop) (sz bytes:Nat):Sl E sz bytes (.slice none 0 0) [] :=
 ⟨none,0,rfl,Nat.le_refl _,by simp,fun i hi=>absurd hi (by simp)⟩
theorem Sl.get {α:Type} {E:Nat→Nat→α→Prop} {sz bytes:Nat} {v:Value} {l:List α} (h:Sl E sz bytes v l) {i:Nat} (hi:i<l.length) :
  ∃b o cap,v=.slice (some ⟨b,o,none⟩) l.length cap∧l.length≤cap∧(l.length * bytes≤140737488355328∧cap≤9223372036854775807)∧E b (o+i * sz) l[i]:=by
 obtain⟨a,cap,rfl,h1,h2,h3⟩:=h;obtain⟨b,o,rfl,he⟩:=h3 i hi;exact⟨b,o,cap,rfl,h1,h2,he⟩
def Ints (w:World) (S:Nat→Prop):Value→List Int→Prop:=Sl (IntC w S) 1 8
def Bools (w:World) (S:Nat→Prop):Value→List Bool→Prop:=Sl (BoolC w S) 1 1
def OpC (w:World) (S:Nat→Prop) (b o:Nat) (x:GOp):Prop:=IntC w S b o x.kind∧IntC w S b (o+1) x.a
def Ops (w:World) (S:Nat→Prop):Value→List GOp→Prop:=Sl (OpC w S) 2 16
def NodeC (w:World) (S:Nat→Prop) (b o:Nat) (x:GNode):Prop:=IntC w S b o x.kind∧IntC w S b (o+1) x.n
def zIj (w:World) (S:Nat→Prop):Value→List GNode→Prop:=Sl (NodeC w S) 2 16
def FuncC (w:World) (S:Nat→Prop) (b o:Nat) (f:GFunc):Prop :=
 IntC w S b o f.args∧IntC w S b (o+1) f.locals∧∃v,w.cell? ⟨b,o+2,none⟩=some v∧Ops w S v f.code
def zM (w:World) (S:Nat→Prop):Value→List GFunc→Prop:=Sl (FuncC w S) 3 40
def FuncV (w:World) (S:Nat→Prop) (v:Value) (f:GFunc):Prop:=∃s,v=.agg #[.int .i64 f.args,.int .i64 f.locals,s]∧I64 f.args∧I64 f.locals∧Ops w S s f.code
def FrameC (w:World) (S:Nat→Prop) (b o:Nat) (f:GFrame):Prop :=
 IntC w S b o f.func∧IntC w S b (o+1) f.at_∧(∃v,w.cell? ⟨b,o+2,none⟩=some v∧Ints w S v f.locals)∧∃v,w.cell? ⟨b,o+3,none⟩=some v∧Ints w S v f.stack
def vX (w:World) (S:Nat→Prop):Value→List GFrame→Prop:=Sl (FrameC w S) 4 64
def zAh (w:World) (S:Nat→Prop) (v:Value) (f:GFrame):Prop :=
 ∃s t,v=.agg #[.int .i64 f.func,.int .i64 f.at_,s,t]∧I64 f.func∧I64 f.at_∧Ints w S s f.locals∧Ints w S t f.stack
def FiberC (w:World) (S:Nat→Prop) (b o:Nat) (f:GFiber):Prop:=(∃v,w.cell? ⟨b,o,none⟩=some v∧vX w S v f.frames)∧IntC w S b (o+1) f.caller
def zAi (w:World) (S:Nat→Prop):Value→List GFiber→Prop:=Sl (FiberC w S) 2 32
def uW (w:World) (S:Nat→Prop) (v:Value) (f:GFiber):Prop:=∃s,v=.agg #[s,.int .i64 f.caller]∧vX w S s f.frames∧I64 f.caller
def zW (w:World) (S:Nat→Prop) (v:Value) (s:GState):Prop :=
 ∃x y,v=.agg #[x,.int .i64 s.now,y]∧zAi w S x s.fibers∧I64 s.now∧Ints w S y s.out
def uU (S T:Nat→Prop) (w w':World):Prop:=∀b o v,S b→w.cell? ⟨b,o,none⟩=some v→w'.cell? ⟨b,o,none⟩=some v∧T b
theorem uU.of_below {S:Nat→Prop} {w w':World} (h:Below w.heap.size w w'):uU S S w w':=fun _ _ _ hb hc=>⟨Below.cells h hc,hb⟩
theorem uU.widen {S T:Nat→Prop} {w:World} (h:∀b,S b→T b):uU S T w w:=fun b _ _ hb hc=>⟨hc,h b hb⟩
section
variable {S T:Nat→Prop} {w w':World} (hs:uU S T w w')
include hs
theorem IntC.stays {b o:Nat} {n:Int} (h:IntC w S b o n):IntC w' T b o n:=⟨(hs _ _ _ h.1 h.2.1).2,(hs _ _ _ h.1 h.2.1).1,h.2.2⟩
theorem BoolC.stays {b o:Nat} {n:Bool} (h:BoolC w S b o n):BoolC w' T b o n:=⟨(hs _ _ _ h.1 h.2).2,(hs _ _ _ h.1 h.2).1⟩
theorem Ints.stays {v:Value} {l:List Int} (h:Ints w S v l):Ints w' T v l:=Sl.mono h fun _ _ _ h=>IntC.stays hs h
theorem Bools.stays {v:Value} {l:List Bool} (h:Bools w S v l):Bools w' T v l:=Sl.mono h fun _ _ _ h=>BoolC.stays hs h
theorem OpC.stays {b o:Nat} {x:GOp} (h:OpC w S b o x):OpC w' T b o x:=⟨IntC.stays hs h.1,IntC.stays hs h.2⟩
theorem Ops.stays {v:Value} {l:List GOp} (h:Ops w S v l):Ops w' T v l:=Sl.mono h fun _ _ _ h=>OpC.stays hs h
theorem NodeC.stays {b o:Nat} {x:GNode} (h:NodeC w S b o x):NodeC w' T b o x:=⟨IntC.stays hs h.1,IntC.stays hs h.2⟩
theorem zIj.stays {v:Value} {l:List GNode} (h:zIj w S v l):zIj w' T v l:=Sl.mono h fun _ _ _ h=>NodeC.stays hs h
theorem FuncC.stays {b o:Nat} {x:GFunc} (h:FuncC w S b o x):FuncC w' T b o x:=by
 obtain⟨h1,h2,v,h3,h4⟩:=h;exact⟨IntC.stays hs h1,IntC.stays hs h2,v,(hs _ _ _ h1.1 h3).1,Ops.stays hs h4⟩
theorem zM.stays {v:Value} {l:List GFunc} (h:zM w S v l):zM w' T v l:=Sl.mono h fun _ _ _ h=>FuncC.stays hs h
theorem FuncV.stays {v:Value} {f:GFunc} (h:FuncV w S v f):FuncV w' T v f:=by
 obtain⟨s,rfl,h1,h2,h3⟩:=h;exact⟨s,rfl,h1,h2,Ops.stays hs h3⟩
theorem FrameC.stays {b o:Nat} {x:GFrame} (h:FrameC w S b o x):FrameC w' T b o x:=by
 obtain⟨h1,h2,⟨v,h3,h4⟩,u,h5,h6⟩:=h;exact⟨IntC.stays hs h1,IntC.stays hs h2,⟨v,(hs _ _ _ h1.1 h3).1,Ints.stays hs h4⟩,u,(hs _ _ _ h1.1 h5).1,Ints.stays hs h6⟩
theorem vX.stays {v:Value} {l:List GFrame} (h:vX w S v l):vX w' T v l:=Sl.mono h fun _ _ _ h=>FrameC.stays hs h
theorem zAh.stays {v:Value} {f:GFrame} (h:zAh w S v f):zAh w' T v f:=by
 obtain⟨s,t,rfl,h1,h2,h3,h4⟩:=h;exact⟨s,t,rfl,h1,h2,Ints.stays hs h3,Ints.stays hs h4⟩
theorem FiberC.stays {b o:Nat} {x:GFiber} (h:FiberC w S b o x):FiberC w' T b o x:=by
 obtain⟨⟨v,h1,h2⟩,h3⟩:=h;exact⟨⟨v,(hs _ _ _ h3.1 h1).1,vX.stays hs h2⟩,IntC.stays hs h3⟩
theorem zAi.stays {v:Value} {l:List GFiber} (h:zAi w S v l):zAi w' T v l:=Sl.mono h fun _ _ _ h=>FiberC.stays hs h
theorem uW.stays {v:Value} {f:GFiber} (h:uW w S v f):uW w' T v f:=by
 obtain⟨s,rfl,h1,h2⟩:=h;exact⟨s,rfl,vX.stays hs h1,h2⟩
theorem zW.stays {v:Value} {f:GState} (h:zW w S v f):zW w' T v f:=by
 obtain⟨x,y,rfl,h1,h2,h3⟩:=h;exact⟨x,y,rfl,zAi.stays hs h1,h2,Ints.stays hs h3⟩
end
theorem qS {k:IntKind} {a b:Int} (h:a=b):Ending.returned (.int k a)=.returned (.int k b):=by rw [h]
theorem zHr {a b:Bool} (h:a=b):Ending.returned (.bool a)=.returned (.bool b):=by rw [h]
def Ext (w w':World):Prop:=Below w.heap.size w w'
theorem Ext.refl (w:World):Ext w w:=Below.refl _ _
theorem Ext.size {w w':World} (h:Ext w w'):w.heap.size≤w'.heap.size:=Below.size h
theorem Ext.trans {a b c:World} (h:Ext a b) (k:Ext b c):Ext a c:=Below.trans h (Below.mono k (Ext.size h))
theorem Ext.alloc {w w':World} (h:Ext w w') (o:Obj):Ext w (w'.alloc o):=Below.alloc h (Ext.size h) o
theorem Ext.drew {w w':World} (h:Ext w w'):Ext w w'.drew:=Below.drew h
theorem Ext.drewN {w w':World} (h:Ext w w') (n:Nat):Ext w (w'.drewN n):=h.trans ⟨rfl,rfl,rfl,Nat.le_refl _,fun _ _=>rfl⟩
theorem Ext.setCell {w w':World} (h:Ext w w') {p:Addr} (hp:w.heap.size≤p.block) (u:Value):Ext w (w'.setCell p u):=Below.setCell h hp u
theorem Ext.setRow {w w':World} (h:Ext w w') {g:Nat} (hg:w.heap.size≤g) (cs:Array Value):Ext w (w'.setRow g cs) :=
 Below.trans h ⟨rfl,rfl,rfl,by simp,fun k hk=>setRow_other _ _ _ _ (by omega)⟩
theorem Ext.grown {w w' w'':World} {row:Option Nat} (h:Ext w w') (hg:w'.grownBy w'' row) (hr:∀k,row=some k→w.heap.size≤k):Ext w w'' :=
 Below.grown h hg (Ext.size h) hr
theorem Ext.cell {w w':World} (h:Ext w w') {b o:Nat} {v:Value} (hc:w.cell? ⟨b,o,none⟩=some v):w'.cell? ⟨b,o,none⟩=some v:=Below.cells h hc
theorem eR (w:World):Ext w w:=Ext.refl w
theorem eA {w w':World} (h:Ext w w') (o:Obj):Ext w (w'.alloc o):=Ext.alloc h o
theorem eD {w w':World} (h:Ext w w'):Ext w w'.drew:=Ext.drew h
theorem eN {w w':World} (h:Ext w w') (n:Nat):Ext w (w'.drewN n):=Ext.drewN h n
theorem eS {w w':World} (h:Ext w w') {p:Addr} (hp:w.heap.size≤p.block) (u:Value):Ext w (w'.setCell p u):=Ext.setCell h hp u
theorem eT {a b c:World} (h:Ext a b) (k:Ext b c):Ext a c:=Ext.trans h k
theorem eC {w w':World} (h:Ext w w') {b o:Nat} {v:Value} (hc:w.cell? ⟨b,o,none⟩=some v):w'.cell? ⟨b,o,none⟩=some v:=Ext.cell h hc
theorem eH {p:Prop} (h:p):Hid p:=Lib.hid h
theorem xL {α} (l:List α) (i:Nat) (a:α):l.toArray.setIfInBounds i a=(l.set i a).toArray:=by simp
theorem xM {α} (a:α) (l:List α) (n:Nat) (b:α):(a::l).set (n+1) b=a::l.set n b:=rfl
theorem xN {α} (a:α) (l:List α) (b:α):(a::l).set 0 b=b::l:=rfl
theorem xO {α} (a:α) (l:List α):(a::l)[0]?=some a:=rfl
theorem xP {α} (a:α) (l:List α) (i:Nat):(a::l)[i+1]?=l[i]?:=rfl
theorem Ext.heap {w w':World} (h:Ext w w') {g:Nat} {o:Obj} (hg:w.heap[g]?=some o):w'.heap[g]?=some o:=by
 rw [Below.block h g (Array.getElem?_eq_some_iff.1 hg).1];exact hg
theorem Ext.stays {S:Nat→Prop} {w w':World} (h:Ext w w'):uU S S w w':=uU.of_below h
theorem addr_lt {w:World} {a:Addr} (h:(w.cell? a).isSome=true):a.block<w.heap.size:=by
 obtain⟨v,hv⟩:=Option.isSome_iff_exists.1 h;exact World.block_lt_of_cell? w a hv
theorem Ext.keep {w w':World} (h:Ext w w'):∀a:Addr,(w.cell? a).isSome=true→w'.cell? a=w.cell? a:=fun _ ha=>Below.cell h (addr_lt ha)
theorem Ext.keepF {w w':World} (h:Ext w w'):∀a:Addr,(w.cell? a).isSome=true→w'.frozen? a=w.frozen? a:=fun _ ha=>Below.frozen h (addr_lt ha)
theorem ext_both {w w':World} (h:Ext w w'):Ext w w'∧∀a,(w.cell? a).isSome=true→w'.cell? a=w.cell? a:=⟨h,Ext.keep h⟩
theorem zF:∀(w:World) (o:Obj) (a:Addr),(w.cell? a).isSome=true→(w.alloc o).cell? a=w.cell? a:=fun w o=>Ext.keep ((eR w).alloc o)
theorem zCm (w:World) (a b:Int) (t:TypeId):(w.alloc (.cells #[.int .i64 a,.int .i64 b] t)).cell? ⟨w.heap.size,0,none⟩=some (.int .i64 a):=by simp
theorem zFp (w:World) (a b:Int) (t:TypeId):(w.alloc (.cells #[.int .i64 a,.int .i64 b] t)).cell? ⟨w.heap.size,1,none⟩=some (.int .i64 b):=by simp
theorem kB {P:Program} {id:Nat} {Q:Exit→Act→World→Prop} {a:Act} {w:World} {l:List Oper} (hm:P.follows .mixedOrders=true) (hB:Region.lexB .any l.toArray=true)
  (h:wpQuiet P l.toArray (Ext w) (fun a'=>∀w',Ext w w'→Q .normal a' w') l a):(Code.region id l.toArray true).wp P Q a w :=
 wp_region_quiet (C:=Ext w) hm hB (Ext.drew (eR w)) (by simpa using h)
end Go.Proofs.YtpcjkfppacnkgaaGreatDoor
end
section
namespace Go.Proofs.YtpcjkfppacnkgaaGreatDoor
open Go Go.RowKit Go.Deep Go.ChangeShapes Go.WideShapes Go.ChangeAt
section
variable {H:Type} {enc:TypeId × Value→H} {P:Program} {w:World}
end
end Go.Proofs.YtpcjkfppacnkgaaGreatDoor
end
section
namespace Go.Proofs.YtpcjkfppacnkgaaGreatDoor
open Go Go.RowKit Go.ChangeShapes Go.WideShapes Go.ChangeAt
theorem own:ownKnob Tryz.prog.godebug=none:=by kernel_rfl
theorem laidOut:laidOutB Tryz.prog=true:=by kernel_rfl
section
variable {H:Type} {enc:TypeId × Value→H} {P:Program}
theorem zGi (hl:laidOutB P=true) {W W':World} (hb:Below W.heap.size W W'):∀{ts:List TypeId} {vs:List Value} {ds:List (DataW H)} {ps:List MemPlace},
  (∀t∈ts,P.readableRec t=true∧t<P.types.size)→DataW.TrodAll enc P W 0 (fun _=>true) true ts vs ds ps→(∀x∈ps,x.block<W.heap.size) →
  DataW.TrodAll enc P W' 0 (fun b=>decide (b<W.heap.size)) true ts vs ds ps
 | [],vs,ds,ps,_,h,_=>by
  obtain⟨rfl,rfl,rfl⟩:=trodAll_nil h;rfl
 | t::ts,vs,ds,ps,hr,h,hp=>by
  obtain⟨v,vs',d,ds',p,q,rfl,rfl,rfl,h1,h2⟩:=trodAll_cons h;exact⟨p,q,Below.trod hl (hr t (by simp)).1 (hr t (by simp)).2 h1 hb (fun x hx=>hp x (List.mem_append.2 (.inl hx))),
   zGi hl hb (fun t' ht'=>hr t' (List.mem_cons_of_mem _ ht')) h2 (fun x hx=>hp x (List.mem_append.2 (.inr hx))),rfl⟩
theorem law_post {f:Func} {s:ChangeSpec} (hl:laidOutB P=true) (hr:∀t∈f.params.toList,P.readableRec t=true∧t<P.types.size) {T:TypeId} (hrt:f.resultTypes=#[T]) (hT:P.underlying T=some .bool)
  {W W':World} {args:Array Value} {ds gs:List (DataW H)} {before:List MemPlace} (hv:s.vars=[]) (hW:DataW.Whole enc P f.params.toList s.vars false W args.toList ds gs before)
  (h1:∀ds:List (DataW H),ds.length=f.params.size→(s.fn H (ds++[])).results=[.lit (.bool true)]∧(s.fn H (ds++[])).args=ds∧(s.fn H (ds++[])).vars=[]) (hE:Ext W W') :
  s.post enc P f false true false false W args (.bool true) W':=by
 have hW':=hW;obtain⟨p,q,hA,hV,rfl,hfz,hnd⟩:=hW;rw [hv] at hV;obtain⟨rfl,rfl⟩:=trodVars_none hV;have hlen:ds.length=f.params.size:=by
  have:∀{ts:List TypeId} {vs:List Value} {ds:List (DataW H)} {ps:List MemPlace},DataW.TrodAll enc P W 0 (fun _=>true) true ts vs ds ps→ds.length=ts.length:=by
   intro ts
   induction ts with
   | nil=>intro vs ds ps h;obtain⟨_,rfl,_⟩:=trodAll_nil h;rfl
   | cons t ts ih=>intro vs ds ps h;obtain⟨v,vs',d,ds',p,q,rfl,rfl,rfl,h1,h2⟩:=trodAll_cons h;simp [ih h2]
  simpa using this hA
 obtain⟨e1,e2,e3⟩:=h1 ds hlen;have hlt:=hW'.lt;simp only [List.append_nil] at hW' hlt;refine⟨ds,[],p,[],p,[],hW',?_,?_,?_,Below.frame hE _,fun h=>by cases h⟩
 ·rw [hrt,e1];exact trodAll_mk1 (shut_bool hT true)
 ·rw [e2];exact zGi hl hE hr hA hlt
 ·rw [hv,e3];rfl
end
end Go.Proofs.YtpcjkfppacnkgaaGreatDoor
end
