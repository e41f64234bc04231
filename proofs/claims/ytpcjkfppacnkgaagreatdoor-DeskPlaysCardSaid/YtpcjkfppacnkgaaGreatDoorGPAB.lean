/- Contracts and plain facts. -/
import Derived.Test.YtpcjkfppacnkgaaGreatDoorGPAA
import Derived.Deep.AppendSrc
import Derived.Deep.MidRow
import Derived.Deep.Upon
import Derived.Laws.AppendOwn
import Derived.Laws.OwnMore
import Derived.OwnWalkIn
import Derived.Tactics
set_option maxHeartbeats 4000000
set_option maxRecDepth 100000
namespace Go.Proofs.YtpcjkfppacnkgaaGreatDoor
open Go Go.RowKit
structure Chg (M:Nat→Prop) (w w':World):Prop where
 os:w'.os=w.os
 tape:w'.tape=w.tape
 output:w'.output=w.output
 size:w.heap.size≤w'.heap.size
 block:∀k,k<w.heap.size→¬M k→w'.heap[k]?=w.heap[k]?
theorem Chg.refl (M:Nat→Prop) (w:World):Chg M w w:=⟨rfl,rfl,rfl,Nat.le_refl _,fun _ _ _=>rfl⟩
theorem Chg.trans' {M M':Nat→Prop} {a b c:World} (h:Chg M a b) (k:Chg M' b c) (hM:∀n,n<a.heap.size→M' n→M n):Chg M a c :=
 ⟨k.os.trans h.os,k.tape.trans h.tape,k.output.trans h.output,Nat.le_trans h.size k.size,fun i hi hm=>(k.block i (Nat.lt_of_lt_of_le hi h.size) (fun h'=>hm (hM i hi h'))).trans (h.block i hi hm)⟩
theorem Chg.trans {M:Nat→Prop} {a b c:World} (h:Chg M a b) (k:Chg M b c):Chg M a c:=h.trans' k (fun _ _ h=>h)
theorem Chg.mono {M M':Nat→Prop} {a b:World} (h:Chg M a b) (hM:∀n,n<a.heap.size→M n→M' n):Chg M' a b:=⟨h.os,h.tape,h.output,h.size,fun i hi hm=>h.block i hi (fun h'=>hm (hM i hi h'))⟩
theorem Chg.of_ext {M:Nat→Prop} {a b:World} (h:Ext a b):Chg M a b:=⟨h.os,h.tape,h.output,h.size,fun i hi _=>h.block i hi⟩
theorem Chg.ext {M:Nat→Prop} {a b:World} (h:Chg M a b) (hM:∀n,n<a.heap.size→¬M n):Ext a b:=⟨h.os,h.tape,h.output,h.size,fun i hi=>h.block i hi (hM i hi)⟩
theorem Chg.ext_from {M:Nat→Prop} {w a b:World} (h0:Ext w a) (h:Chg M a b) (hM:∀n,M n→w.heap.size≤n):Ext w b :=
 ⟨h.os.trans h0.os,h.tape.trans h0.tape,h.output.trans h0.output,Nat.le_trans h0.size h.size,fun i hi=>(h.block i (Nat.lt_of_lt_of_le hi h0.size) (fun h'=>by have:=hM i h';omega)).trans (h0.block i hi)⟩
theorem Chg.alloc {M:Nat→Prop} {w w':World} (h:Chg M w w') (o:Obj):Chg M w (w'.alloc o):=h.trans (Chg.of_ext ((eR _).alloc o))
theorem Chg.drew {M:Nat→Prop} {w w':World} (h:Chg M w w'):Chg M w w'.drew:=h.trans (Chg.of_ext (eR _).drew)
theorem Chg.drewN {M:Nat→Prop} {w w':World} (h:Chg M w w') (n:Nat):Chg M w (w'.drewN n):=h.trans (Chg.of_ext ((eR _).drewN n))
theorem Chg.setCell {M:Nat→Prop} {w w':World} (h:Chg M w w') {p:Addr} (hp:M p.block∨w.heap.size≤p.block) (u:Value):Chg M w (w'.setCell p u) :=
 ⟨h.os,h.tape,h.output,by simpa using h.size,fun i hi hm=>(Below.heap_setCell _ _ _ _ (fun e=>by rcases hp with hp | hp;exact hm (e ▸ hp);omega)).trans (h.block i hi hm)⟩
theorem Chg.setRow {M:Nat→Prop} {w w':World} (h:Chg M w w') {g:Nat} (hg:M g∨w.heap.size≤g) (cs:Array Value):Chg M w (w'.setRow g cs) :=
 ⟨h.os,h.tape,h.output,by simpa using h.size,fun i hi hm=>(setRow_other _ _ _ _ (fun e=>by rcases hg with hp | hp;exact hm (e ▸ hp);omega)).trans (h.block i hi hm)⟩
theorem Chg.grown {M:Nat→Prop} {w w' w'':World} {row:Option Nat} (h:Chg M w w') (hg:w'.grownBy w'' row) (hr:∀k,row=some k→M k∨w.heap.size≤k):Chg M w w'' :=
 ⟨hg.os.trans h.os,hg.tape.trans h.tape,hg.output.trans h.output,Nat.le_trans h.size hg.size,fun i hi hm=>(hg.block i (Nat.lt_of_lt_of_le hi h.size) (fun e=>by rcases hr i e.symm with hp | hp;exact hm hp;omega)).trans (h.block i hi hm)⟩
theorem Chg.heap {M:Nat→Prop} {w w':World} (h:Chg M w w') {g:Nat} (hm:¬M g) {o:Obj} (hg:w.heap[g]?=some o):w'.heap[g]?=some o:=by
 rw [h.block g (Array.getElem?_eq_some_iff.1 hg).1 hm];exact hg
theorem Chg.cell {M:Nat→Prop} {w w':World} (h:Chg M w w') {b o:Nat} (hm:¬M b) {v:Value} (hc:w.cell? ⟨b,o,none⟩=some v):w'.cell? ⟨b,o,none⟩=some v :=
 (World.cell?_of_block (a:=⟨b,o,none⟩) (h.block b (zY hc) hm)).trans hc
theorem Chg.frozen {M:Nat→Prop} {w w':World} (h:Chg M w w') {b o:Nat} (hm:¬M b) (hb:b<w.heap.size):w'.frozen? ⟨b,o,none⟩=w.frozen? ⟨b,o,none⟩ :=
 World.frozen?_of_block (a:=⟨b,o,none⟩) (h.block b hb hm)
theorem Chg.stays {M S:Nat→Prop} {w w':World} (h:Chg M w w') (hS:∀b,S b→¬M b):uU S S w w':=fun _ _ _ hb hc=>⟨h.cell (hS _ hb) hc,hb⟩
def qL (w:World) (size:Nat) (x:Value) (m:Nat) (news:List Value):Prop :=
 ∃a c,x=.slice a m c∧news.length=m * size∧(∀u∈news,u.oneCell'=true)∧(m=0∨∃ad,a=some ad∧∀j u,news[j]?=some u→w.cell? (ad.add j)=some u)
section
variable {P:Program} {w:World}
end
theorem Sl.src {α:Type} {E:Nat→Nat→α→Prop} {sz bytes:Nat} {v:Value} {l:List α} {w:World} (f:α→List Value) (h:Sl E sz bytes v l) (hf:∀y,(f y).length=sz)
  (h1:∀y,∀u∈f y,u.oneCell'=true) (hE:∀b o y,E b o y→∀j u,(f y)[j]?=some u→w.cell? ⟨b,o+j,none⟩=some u):qL w sz v l.length (l.flatMap f):=by
 have hlen:∀l:List α,(l.flatMap f).length=l.length * sz:=by
  intro l
  induction l with
  | nil=>simp
  | cons y l ih=>simp [ih,hf,Nat.add_mul];omega
 obtain⟨a,cap,rfl,h2,h3,h4⟩:=h;refine⟨a,cap,rfl,hlen l,?_,?_⟩
 ·intro u hu;obtain⟨y,_,hy⟩:=List.mem_flatMap.1 hu;exact h1 y u hy
 ·by_cases h0:l.length=0
  ·exact .inl h0
  ·right;obtain⟨b,o,rfl,_⟩:=h4 0 (by omega);refine⟨_,rfl,fun j u hj=>?_⟩;have hjl:j<l.length * sz:=by
    rw [←hlen l];exact(List.getElem?_eq_some_iff.1 hj).1
   have key:∀(l:List α) (j:Nat) (u:Value),(l.flatMap f)[j]?=some u→∃i r,∃h:i<l.length,j=i * sz+r∧(f l[i])[r]?=some u:=by
    intro l
    induction l with
    | nil=>intro j u h;simp at h
    | cons y l ih =>
     intro j u h;rw [List.flatMap_cons] at h;by_cases hj:j<sz
     ·rw [List.getElem?_append_left (by rw [hf];exact hj)] at h;exact⟨0,j,by simp,by simp,h⟩
     ·rw [List.getElem?_append_right (by rw [hf];omega),hf] at h;obtain⟨i,r,hi,e,hu⟩:=ih _ _ h;exact⟨i+1,r,by simpa using hi,by rw [Nat.add_mul];omega,by simpa using hu⟩
   obtain⟨i,r,hi,rfl,hu⟩:=key l j u hj;obtain⟨b',o',e,hE'⟩:=h4 i hi;simp only [Option.some.injEq,Addr.mk.injEq] at e;obtain⟨rfl,rfl,_⟩:=e;have:=hE _ _ _ hE' r u hu;rw [Addr.add_lit,←Nat.add_assoc];exact this
def opF (x:GOp):List Value:=[.int .i64 x.kind,.int .i64 x.a]
def nodeF (x:GNode):List Value:=[.int .i64 x.kind,.int .i64 x.n]
def intF (n:Int):List Value:=[.int .i64 n]
theorem Ints.src {w:World} {S:Nat→Prop} {v:Value} {l:List Int} (h:Ints w S v l):qL w 1 v l.length (l.flatMap intF) :=
 Sl.src intF h (fun _=>rfl) (by simp [intF,Value.oneCell']) (fun b o y hE j u hu=>by
  match j,hu with
  | 0,hu=>cases hu;exact hE.2.1)
theorem Ops.src {w:World} {S:Nat→Prop} {v:Value} {l:List GOp} (h:Ops w S v l):qL w 2 v l.length (l.flatMap opF) :=
 Sl.src opF h (fun _=>rfl) (by simp [opF,Value.oneCell']) (fun b o y hE j u hu=>by
  match j,hu with
  | 0,hu=>cases hu;exact hE.1.2.1
  | 1,hu=>cases hu;exact hE.2.2.1)
theorem zIj.src {w:World} {S:Nat→Prop} {v:Value} {l:List GNode} (h:zIj w S v l):qL w 2 v l.length (l.flatMap nodeF) :=
 Sl.src nodeF h (fun _=>rfl) (by simp [nodeF,Value.oneCell']) (fun b o y hE j u hu=>by
  match j,hu with
  | 0,hu=>cases hu;exact hE.1.2.1
  | 1,hu=>cases hu;exact hE.2.2.1)
theorem Ints.i64 {w:World} {S:Nat→Prop} {v:Value} {l:List Int} (h:Ints w S v l):∀x∈l,I64 x:=by
 intro x hx;obtain⟨i,hi,rfl⟩:=List.getElem_of_mem hx;obtain⟨a,cap,rfl,_,_,h4⟩:=h;obtain⟨b,o,_,hE⟩:=h4 i hi;exact hE.2.2
theorem Ops.i64 {w:World} {S:Nat→Prop} {v:Value} {l:List GOp} (h:Ops w S v l):∀x∈l,I64 x.kind∧I64 x.a:=by
 intro x hx;obtain⟨i,hi,rfl⟩:=List.getElem_of_mem hx;obtain⟨a,cap,rfl,_,_,h4⟩:=h;obtain⟨b,o,_,hE⟩:=h4 i hi;exact⟨hE.1.2.2,hE.2.2.2⟩
theorem zIj.i64 {w:World} {S:Nat→Prop} {v:Value} {l:List GNode} (h:zIj w S v l):∀x∈l,I64 x.kind∧I64 x.n:=by
 intro x hx;obtain⟨i,hi,rfl⟩:=List.getElem_of_mem hx;obtain⟨a,cap,rfl,_,_,h4⟩:=h;obtain⟨b,o,_,hE⟩:=h4 i hi;exact⟨hE.1.2.2,hE.2.2.2⟩
theorem Sl.bd {α:Type} {E:Nat→Nat→α→Prop} {sz bytes:Nat} {v:Value} {l:List α} (h:Sl E sz bytes v l):l.length * bytes≤140737488355328:=by
 obtain⟨a,cap,rfl,_,h3,_⟩:=h;exact h3.1
structure RowAt (w:World) (base size:Nat) (v:Value) (n:Nat) (xs:List Value):Prop where
 len:xs.length=n * size
 val:∃a cap,v=.slice a n cap∧n≤cap∧cap≤maxLen∧(cap=0∨∃g o,a=some ⟨g,o,none⟩∧base≤g ∧
  (∀j,j<n * size→w.cell? ⟨g,o+j,none⟩=xs[j]?)∧(∀j,j<cap * size→(w.cell? ⟨g,o+j,none⟩).isSome=true∧w.frozen? ⟨g,o+j,none⟩=false))
def zB:Value→Option Nat
 | .slice (some a) _ cap=>if cap=0 then none else some a.block
 | _=>none
theorem zK (g o n cap:Nat) (h:cap≠0):zB (.slice (some ⟨g,o,none⟩) n cap)=some g:=by simp [zB,h]
theorem RowAt.nil (w:World) (base size:Nat) (a:Option Addr):RowAt w base size (.slice a 0 0) 0 []:=⟨by simp,a,0,rfl,Nat.le_refl _,Nat.zero_le _,.inl rfl⟩
theorem RowAt.shape {w:World} {base size:Nat} {v:Value} {n:Nat} {xs:List Value} (h:RowAt w base size v n xs):∃a cap,v=.slice a n cap∧n≤cap∧cap≤maxLen:=by
 obtain⟨a,cap,e,h1,h2,_⟩:=h.val;exact⟨a,cap,e,h1,h2⟩
theorem RowAt.keep {w w':World} {base size:Nat} {v:Value} {n:Nat} {xs:List Value} (h:RowAt w base size v n xs) (hk:∀g,zB v=some g→g<w.heap.size→w'.heap[g]?=w.heap[g]?) (hs:0<size):RowAt w' base size v n xs:=by
 obtain⟨hl,a,cap,rfl,h1,h2,h3⟩:=h;refine⟨hl,a,cap,rfl,h1,h2,?_⟩;by_cases hc0:cap=0
 ·exact .inl hc0
 rcases h3 with h3 | ⟨g,o,rfl,hb,hc,ht⟩
 ·exact .inl h3
 ·have hcs:0<cap * size:=Nat.mul_pos (by omega) hs;have hg:g<w.heap.size:=World.block_lt_of_cell? w _ (Option.isSome_iff_exists.1 (ht 0 hcs).1).choose_spec;have e:=hk g (zK g o n cap hc0) hg;exact .inr ⟨g,o,rfl,hb,fun j hj=>(World.cell?_of_block (a:=⟨g,o+j,none⟩) e).trans (hc j hj),fun j hj=>by
   rw [World.cell?_of_block (a:=⟨g,o+j,none⟩) e,World.frozen?_of_block (a:=⟨g,o+j,none⟩) e];exact ht j hj⟩
theorem RowAt.chg {M:Nat→Prop} {w w':World} {base size:Nat} {v:Value} {n:Nat} {xs:List Value} (h:RowAt w base size v n xs) (hc:Chg M w w') (hM:∀g,zB v=some g→¬M g) (hs:0<size):RowAt w' base size v n xs :=
 h.keep (fun g hg hl=>hc.block g hl (hM g hg)) hs
theorem RowAt.ext {w w':World} {base size:Nat} {v:Value} {n:Nat} {xs:List Value} (h:RowAt w base size v n xs) (hc:Ext w w') (hs:0<size):RowAt w' base size v n xs :=
 h.keep (fun g _ hl=>hc.block g hl) hs
theorem RowAt.mono {w:World} {base base' size:Nat} {v:Value} {n:Nat} {xs:List Value} (h:RowAt w base size v n xs) (hb:base'≤base):RowAt w base' size v n xs:=by
 obtain⟨hl,a,cap,rfl,h1,h2,h3⟩:=h;refine⟨hl,a,cap,rfl,h1,h2,h3.imp id ?_⟩;rintro ⟨g,o,rfl,hbb,hc⟩;exact⟨g,o,rfl,Nat.le_trans hb hbb,hc⟩
theorem RowAt.made (W:World) (cs:Array Value) (e:TypeId) (size n base:Nat) (hb:base≤W.heap.size) (hn:n≤maxLen) (hs:cs.size=n * size) :
  RowAt (W.alloc (.cells cs e)) base size (.slice (some ⟨W.heap.size,0,none⟩) n n) n cs.toList:=by
 refine⟨by simpa using hs,_,n,rfl,Nat.le_refl _,hn,.inr ⟨W.heap.size,0,rfl,hb,fun j hj=>?_,fun j hj=>?_⟩⟩
 ·rw [Nat.zero_add];have:(W.alloc (.cells cs e)).cell? ⟨W.heap.size,j,none⟩=cs[j]?:=World.cell?_alloc_new W _ _ j;rw [this];simp
 ·rw [Nat.zero_add];have e1:(W.alloc (.cells cs e)).cell? ⟨W.heap.size,j,none⟩=cs[j]?:=World.cell?_alloc_new W _ _ j;refine⟨by rw [e1,Array.getElem?_eq_getElem (by omega)];rfl,World.frozen?_alloc_new W _ _ j⟩
theorem RowAt.le {w:World} {base size:Nat} {v:Value} {n:Nat} {xs:List Value} (h:RowAt w base size v n xs):∀g,zB v=some g→base≤g:=by
 obtain⟨hl,a,cap,rfl,h1,h2,h3⟩:=h;intro g' hg;by_cases hc0:cap=0
 ·subst hc0;cases a<;>simp [zB] at hg
 ·obtain⟨g,o,rfl,hb,_⟩:=h3.resolve_left hc0;rw [zK g o n cap hc0] at hg
  cases hg
  exact hb
theorem zGj (b:Nat):∀(vs:List Value) (o:Nat) (w:World),(w.setCells b o vs).tape=w.tape
 | [],_,_=>rfl
 | v::r,o,w=>(zGj b r (o+1) (w.setCell ⟨b,o,none⟩ v)).trans rfl
theorem zAk (b:Nat):∀(vs:List Value) (o:Nat) (w:World),(w.setCells b o vs).heap.size=w.heap.size
 | [],_,_=>rfl
 | v::r,o,w=>(zAk b r (o+1) (w.setCell ⟨b,o,none⟩ v)).trans (by simp)
theorem Chg.setCells {M:Nat→Prop} {w w':World} (h:Chg M w w') {b:Nat} (hb:M b∨w.heap.size≤b) (o:Nat) (vs:List Value):Chg M w (w'.setCells b o vs) :=
 ⟨(World.os_setCells _ _ _ _).trans h.os,(zGj _ _ _ _).trans h.tape,(World.output_setCells _ _ _ _).trans h.output,by rw [zAk];exact h.size,
  fun k hk hm=>(World.heap_setCells_other w' b o vs (Nat.lt_of_lt_of_le hk h.size) (fun e=>by subst e;rcases hb with hb | hb;exact hm hb;omega)).trans (h.block k hk hm)⟩
section
variable {P:Program} {w:World}
theorem src_of_sl {size:Nat} {tx e':TypeId} (hk:P.underlying tx=some (.slice e')) {x:Value} {m:Nat} {news:List Value} (hx:qL w size x m news):Src P size tx x m news w:=by
 obtain⟨a,c,rfl,hl,h1,hc⟩:=hx
 match a with
 | some ad =>
  refine Src.ofSlice w hk ad m c news hl ?_ h1;rcases hc with rfl | ⟨ad',e,h⟩
  ·intro j u hj;have:news=[]:=List.eq_nil_of_length_eq_zero (by simpa using hl);rw [this] at hj;simp at hj
  ·cases e;exact h
 | none =>
  have hm:m=0:=by
   rcases hc with h | ⟨ad,e,_⟩
   ·exact h
   ·cases e
  subst hm;have hn:news=[]:=List.eq_nil_of_length_eq_zero (by simpa using hl);subst hn;exact Src.ofNil w hk c
def kO (w w':World) (base size:Nat) (v v':Value) (n:Nat) (xs:List Value):Prop :=
 RowAt w' base size v' n xs∧Chg (fun g=>zB v=some g) w w'∧(zB v'=zB v∨∀g,zB v'=some g→w.heap.size≤g)
theorem zEy (base:Nat) (t ty e:TypeId) (i:TypeInfo) (z:Value) (size bytes:Nat) (ht:P.underlying t=some (.slice e)) (hi:P.info? e=some i) (hz:i.zero=some z)
  (hsize:i.size=size) (hby:i.bytes=bytes) (hzs:z.cells.size=size) (hsz:0<size)
  (v:Value) (n:Nat) (xs:List Value) (hown:RowAt w base size v n xs) (x:Value) (m:Nat) (news:List Value) (hx:qL w size x m news)
  (h63:n+m≤maxLen) (hbytes:(n+m) * bytes≤140737488355328) (hbase:base≤w.heap.size) :
  ∃v' w',(Builtin.append_ #[t,t] ty #[v,x]).run P w=.ok v' w'∧kO w w' base size v v' (n+m) (xs++news):=by
 subst hsize;subst hby;have hs:=src_of_sl (P:=P) (tx:=t) ht hx;have hnl:=hs.newsLen;have hlen:(xs++news).length=(n+m) * i.size:=by rw [List.length_append,hown.len,hnl,Nat.add_mul]
 obtain⟨hl,a,cap,rfl,h1,h2,h3⟩:=hown;have grow:cap<n+m→(Builtin.firstCells i.size n (.slice a n cap)).run P w.drew=.ok xs.toArray w.drew →
   ∃v' w',(Builtin.append_ #[t,t] ty #[.slice a n cap,x]).run P w=.ok v' w'∧kO w w' base i.size (.slice a n cap) v' (n+m) (xs++news):=by
  intro hg hold;have hsmall:n+m≤9223372036854775807:=by simp only [maxLen] at h63;omega
  have hrun:=run_append_grow_src (P:=P) w t t ty e i z ht hi hz a n cap xs hold x m news hs hg (by omega) (growslice_fits hg hbytes);have hge:=grownCap_ge w (n+m) cap e;have hcm:=grownCap_le_maxLen w (n+m) cap e h63;have hsize:((xs++news).toArray++Builtin.zeroCells z.cells (grownCap w (n+m) cap e - (n+m))).size=grownCap w (n+m) cap e * i.size:=by
   rw [Array.size_append,List.size_toArray,hlen,size_zeroCells,hzs,←Nat.add_mul]
   congr 1
   omega
  refine⟨_,_,hrun,⟨hlen,_,_,rfl,hge,hcm,.inr ⟨w.heap.size,0,rfl,hbase,fun j hj=>?_,fun j hj=>?_⟩⟩,(Chg.of_ext (eR w).drew).alloc _,.inr (fun g hg=>by
   have:zB (.slice (some ⟨w.heap.size,0,none⟩) (n+m) (grownCap w (n+m) cap e))=some w.heap.size:=zK _ _ _ _ (by omega);rw [this] at hg;cases hg;exact Nat.le_refl _)⟩
  ·rw [Nat.zero_add];have e1:(w.drew.alloc (.cells ((xs++news).toArray++Builtin.zeroCells z.cells (grownCap w (n+m) cap e - (n+m))) e)).cell? ⟨w.heap.size,j,none⟩=_:=World.cell?_alloc_new w.drew _ _ j;rw [e1,Array.getElem?_append_left (by simp only [List.size_toArray];rw [hlen];exact hj),List.getElem?_toArray]
  ·rw [Nat.zero_add];have e1:(w.drew.alloc (.cells ((xs++news).toArray++Builtin.zeroCells z.cells (grownCap w (n+m) cap e - (n+m))) e)).cell? ⟨w.heap.size,j,none⟩=_:=World.cell?_alloc_new w.drew _ _ j;exact⟨by rw [e1,Array.getElem?_eq_getElem (by rw [hsize];exact hj)];rfl,World.frozen?_alloc_new w.drew _ _ j⟩
 by_cases hc0:cap=0
 ·subst hc0;obtain rfl:n=0:=by omega
  obtain rfl:xs=[]:=List.eq_nil_of_length_eq_zero (by simpa using hl);by_cases hm:m=0
  ·subst hm;obtain rfl:news=[]:=List.eq_nil_of_length_eq_zero (by simpa using hnl);exact⟨_,_,run_append_nothing (P:=P) w t t ty e i ht hi a 0 0 (Nat.le_refl _) x hs,by simpa using RowAt.nil w base i.size a,Chg.refl _ _,.inl rfl⟩
  ·refine grow (by omega) ?_;have:=run_firstCells_none (P:=P) w.drew i.size 0 0 0
   cases a with
   | none=>exact this
   | some ad=>exact run_firstCells_some w.drew i.size 0 ad 0 0 [] (by simp) (by simp)
 ·obtain⟨g,o,rfl,hb,hc,ht'⟩:=h3.resolve_left hc0;by_cases hroom:n+m≤cap
  ·have hfit:(n+m) * i.size≤cap * i.size:=Nat.mul_le_mul_right _ hroom;have eaddr:∀j,o+n * i.size+j=o+(n * i.size+j):=fun j=>Nat.add_assoc _ _ _
   have hin:∀j,j<news.length→n * i.size+j<cap * i.size:=fun j hj=>by rw [hnl] at hj;rw [Nat.add_mul] at hfit;omega
   have hsome:∀j,j<news.length→(w.cell? ⟨g,o+n * i.size+j,none⟩).isSome=true:=fun j hj=>by rw [eaddr];exact(ht' _ (hin j hj)).1
   have hrun:=run_append_room_src (P:=P) w t t ty e i ht hi g o n cap x m news hs hroom hsome (fun j hj=>by rw [eaddr];exact(ht' _ (hin j hj)).2);refine⟨_,_,hrun,⟨hlen,_,_,rfl,hroom,h2,.inr ⟨g,o,rfl,hb,fun j hj=>?_,fun j hj=>?_⟩⟩,Chg.setCells (M:=fun b=>zB (Value.slice (some ⟨g,o,none⟩) n cap)=some b) (Chg.refl _ _) (.inl (zK g o n cap hc0)) _ _,.inl (by simp [zB])⟩
   ·by_cases hj':j<n * i.size
    ·rw [World.cell?_setCells_out g _ _ _ _ (fun _ _=>.inl (by show o+j<o+n * i.size;omega)),hc j hj',List.getElem?_append_left (by omega)]
    ·have hjn:j - n * i.size<news.length:=by rw [hnl];rw [Nat.add_mul] at hj;omega
     have:=World.cell?_setCells_in g news (o+n * i.size) w hsome (j - n * i.size) hjn;rw [eaddr,show n * i.size+(j - n * i.size)=j by omega] at this;rw [this,List.getElem?_append_right (by omega),hl,List.getElem?_eq_getElem hjn]
   ·exact⟨World.isSome_setCells g _ _ _ _ (ht' j hj).1,by rw [World.frozen?_setCells];exact(ht' j hj).2⟩
  ·refine grow (by omega) (run_firstCells_some w.drew i.size n _ n cap xs hl fun j u hu=>?_);have hj:j<n * i.size:=by rw [←hl];exact(List.getElem?_eq_some_iff.1 hu).1
   rw [World.cell?_drew,Addr.add_lit,hc j hj,hu]
theorem wp_append_row {o:Oper} {a:Act} {K:Act→World→Prop} {Q:Exit→Act→World→Prop} (s x:Operand) (t:TypeId)
  (ho:o.op=.call { callee:=.builtin .append,args:=#[s,x],argTypes:=#[t,t] })
  (base:Nat) (e:TypeId) (i:TypeInfo) (z:Value) (size bytes:Nat) (ht:P.underlying t=some (.slice e)) (hi:P.info? e=some i) (hz:i.zero=some z)
  (hsize:i.size=size) (hby:i.bytes=bytes) (hzs:z.cells.size=size) (hsz:0<size)
  (v:Value) (n:Nat) (xs:List Value) (hs:a.eval s=v) (hown:RowAt w base size v n xs) (m:Nat) (news:List Value) (hx:qL w size (a.eval x) m news)
  (h63:n+m≤maxLen) (hbytes:(n+m) * bytes≤140737488355328) (hbase:base≤w.heap.size)
  (h:∀v' w',kO w w' base size v v' (n+m) (xs++news)→K (a.put o.dst v') w'):o.wp P a w K Q:=by
 obtain⟨v',w',hr,h2⟩:=zEy (P:=P) base t o.type e i z size bytes ht hi hz hsize hby hzs hsz v n xs hown (a.eval x) m news hx h63 hbytes hbase;unfold Oper.wp execOp;simp only [ho,resolve,invoke,builtin,Sem.run_bind,Sem.run_pure,Result.andThen_ok,List.map_toArray,List.map_cons,List.map_nil,hs,hr];exact h v' w' h2
theorem zE {ops:Array Oper} {rest:List Oper} {o:Oper} {a:Act} {Q:Exit→Act→World→Prop} (hgd:o.guard=none) (s x:Operand) (t:TypeId)
  (ho:o.op=.call { callee:=.builtin .append,args:=#[s,x],argTypes:=#[t,t] })
  (base:Nat) (e:TypeId) (i:TypeInfo) (z:Value) (size bytes:Nat) (ht:P.underlying t=some (.slice e)) (hi:P.info? e=some i) (hz:i.zero=some z)
  (hsize:i.size=size) (hby:i.bytes=bytes) (hzs:z.cells.size=size) (hsz:0<size)
  (v:Value) (n:Nat) (xs:List Value) (hs:a.eval s=v) (hown:RowAt w base size v n xs) (m:Nat) (news:List Value) (hx:qL w size (a.eval x) m news)
  (h63:n+m≤maxLen) (hbytes:(n+m) * bytes≤140737488355328) (hbase:base≤w.heap.size)
  (h:∀v' w',kO w w' base size v v' (n+m) (xs++news)→wpList P ops Q rest (a.put o.dst v') w'):wpList P ops Q (o::rest) a w :=
 wpList_plain hgd fun _ hK=>wp_append_row s x t ho base e i z size bytes ht hi hz hsize hby hzs hsz v n xs hs hown m news hx h63 hbytes hbase fun v' w' h2=>hK _ _ (h v' w' h2)
theorem zGf {F:Fence} {nF:Nat} {ops:Array Oper} {rest:List Oper} {o:Oper} {a:Act} {Q:Exit→Act→World→Prop} (hgd:o.guard=none) (s x:Operand) (t:TypeId)
  (ho:o.op=.call { callee:=.builtin .append,args:=#[s,x],argTypes:=#[t,t] })
  (base:Nat) (e:TypeId) (i:TypeInfo) (z:Value) (size bytes:Nat) (ht:P.underlying t=some (.slice e)) (hi:P.info? e=some i) (hz:i.zero=some z)
  (hsize:i.size=size) (hby:i.bytes=bytes) (hzs:z.cells.size=size) (hsz:0<size)
  (v:Value) (n:Nat) (xs:List Value) (hs:a.eval s=v) (hown:RowAt w base size v n xs) (m:Nat) (news:List Value) (hx:qL w size (a.eval x) m news)
  (h63:n+m≤maxLen) (hbytes:(n+m) * bytes≤140737488355328) (hbase:base≤w.heap.size)
  (h:∀v' w',kO w w' base size v v' (n+m) (xs++news)→wpListIn F nF P ops Q rest (a.put o.dst v') w'):wpListIn F nF P ops Q (o::rest) a w:=by
 refine wpListIn_plain hgd fun K hK'=>?_
 obtain⟨v',w',hrun,r1⟩:=zEy (P:=P) base t o.type e i z size bytes ht hi hz hsize hby hzs hsz v n xs hown (a.eval x) m news hx h63 hbytes hbase;unfold Oper.wpIn;refine⟨?_,?_⟩
 ·simp [Oper.about,ho,resolve,Target.leads,Sem.run_pure]
 ·rw [Oper.semAt_plain F _ _ (by rw [ho];intro c hc';cases hc')];simp only [execOp,ho,resolve,invoke,builtin,Sem.run_bind,Sem.run_pure,Result.andThen_ok,List.map_toArray,List.map_cons,List.map_nil,hs,hrun];exact hK' _ _ (h v' w' r1)
end
theorem ext_row {w W W':World} {base size:Nat} {v v':Value} {n n':Nat} {xs xs':List Value} (h:Ext w W) (ho:RowAt W base size v n xs) (hb:w.heap.size≤base) (hr:kO W W' base size v v' n' xs'):Ext w W' :=
 Chg.ext_from h hr.2.1 (fun g hg=>Nat.le_trans hb (ho.le g hg))
theorem Sl.of_row {α:Type} {E:Nat→Nat→α→Prop} {sz bytes base:Nat} {v:Value} {l:List α} {w:World} (f:α→List Value) (h:RowAt w base sz v l.length (l.flatMap f)) (hf:∀y,(f y).length=sz)
  (hb:l.length * bytes≤140737488355328) (hE:∀b o y,base≤b→zB v=some b→y∈l→(∀j u,(f y)[j]?=some u→w.cell? ⟨b,o+j,none⟩=some u)→E b o y):Sl E sz bytes v l:=by
 obtain⟨hl,a,cap,rfl,h1,h2,h3⟩:=h;refine⟨a,cap,rfl,h1,⟨hb,by unfold maxLen at h2;omega⟩,fun i hi=>?_⟩;obtain⟨g,o,rfl,hbg,hc,_⟩:=h3.resolve_left (by omega);refine⟨g,o,rfl,hE _ _ _ hbg (zK g o _ _ (by omega)) (List.getElem_mem hi) fun j u hu=>?_⟩;have hjs:j<sz:=by rw [←hf l[i]];exact(List.getElem?_eq_some_iff.1 hu).1
 have key:∀(l:List α) (i:Nat) (hi:i<l.length) (r:Nat),r<sz→(l.flatMap f)[i * sz+r]?=(f l[i])[r]?:=by
  intro l
  induction l with
  | nil=>intro i hi;simp at hi
  | cons y l ih =>
   intro i hi r hr;rw [List.flatMap_cons]
   cases i with
   | zero=>rw [List.getElem?_append_left (by rw [hf];omega)];simp
   | succ i =>
    rw [List.getElem?_append_right (by rw [hf,Nat.add_mul];omega),hf];rw [show (i+1) * sz+r - sz=i * sz+r by rw [Nat.add_mul];omega];simpa using ih i (by simpa using hi) r hr
 have h5:=key l i hi j hjs;have hlt:i * sz+j<l.length * sz:=by
  have:(i+1) * sz≤l.length * sz:=Nat.mul_le_mul_right _ hi;rw [Nat.add_mul] at this;omega
 rw [Nat.add_assoc,hc _ hlt,h5,hu]
theorem Ints.of_row {w:World} {base:Nat} {v:Value} {l:List Int} (h:RowAt w base 1 v l.length (l.flatMap intF)) (hb:l.length * 8≤140737488355328) (hI:∀x∈l,I64 x) (S:Nat→Prop) (hS:∀b,base≤b→zB v=some b→S b):Ints w S v l :=
 Sl.of_row intF h (fun _=>rfl) hb fun b _ y hbb ho hy hc=>⟨hS b hbb ho,hc 0 _ rfl,hI y hy⟩
theorem Ops.of_row {w:World} {base:Nat} {v:Value} {l:List GOp} (h:RowAt w base 2 v l.length (l.flatMap opF)) (hb:l.length * 16≤140737488355328) (hI:∀x∈l,I64 x.kind∧I64 x.a) (S:Nat→Prop) (hS:∀b,base≤b→zB v=some b→S b):Ops w S v l :=
 Sl.of_row opF h (fun _=>rfl) hb fun b _ y hbb ho hy hc=>⟨⟨hS b hbb ho,hc 0 _ rfl,(hI y hy).1⟩,hS b hbb ho,hc 1 _ rfl,(hI y hy).2⟩
theorem zIj.of_row {w:World} {base:Nat} {v:Value} {l:List GNode} (h:RowAt w base 2 v l.length (l.flatMap nodeF)) (hb:l.length * 16≤140737488355328) (hI:∀x∈l,I64 x.kind∧I64 x.n) (S:Nat→Prop) (hS:∀b,base≤b→zB v=some b→S b):zIj w S v l :=
 Sl.of_row nodeF h (fun _=>rfl) hb fun b _ y hbb ho hy hc=>⟨⟨hS b hbb ho,hc 0 _ rfl,(hI y hy).1⟩,hS b hbb ho,hc 1 _ rfl,(hI y hy).2⟩
theorem RowAt.tail {w:World} {base size cap n:Nat} {a:Option Addr} {xs:List Value} (h:RowAt w base size (.slice a (n+1) cap) (n+1) xs) :
  ∃g o,a=some ⟨g,o,none⟩∧n<cap∧cap≤maxLen∧RowAt w base size (.slice (if cap=1 then some ⟨g,o,none⟩ else some ⟨g,o+size,none⟩) n (cap - 1)) n (xs.drop size)∧(∀j,j<size→w.cell? ⟨g,o+j,none⟩=xs[j]?):=by
 obtain⟨hl,a',cap',e,h1,h2,h3⟩:=h;simp only [Value.slice.injEq] at e;obtain⟨rfl,-,rfl⟩:=e;obtain⟨g,o,rfl,hb,hc,ht⟩:=h3.resolve_left (by omega);rw [Nat.add_mul,Nat.one_mul] at hl hc;refine⟨g,o,rfl,by omega,h2,⟨by rw [List.length_drop];omega,_,_,rfl,by omega,by omega,?_⟩,fun j hj=>hc j (by omega)⟩;by_cases hc1:cap=1
 ·exact .inl (by omega)
 ·rw [if_neg hc1];have hcap:(cap - 1) * size+size=cap * size:=by rw [←Nat.succ_mul];congr 1;omega
  refine .inr ⟨g,o+size,rfl,hb,fun j hj=>?_,fun j hj=>?_⟩
  ·rw [Nat.add_assoc,hc _ (by omega),List.getElem?_drop]
  ·rw [Nat.add_assoc];exact ht _ (by omega)
theorem RowAt.store {w:World} {base size n cap g o:Nat} {xs:List Value} (h:RowAt w base size (.slice (some ⟨g,o,none⟩) n cap) n xs) {j:Nat} (hj:j<n * size) (u:Value) :
  RowAt (w.setCell ⟨g,o+j,none⟩ u) base size (.slice (some ⟨g,o,none⟩) n cap) n (xs.set j u):=by
 obtain⟨hl,a',cap',e,h1,h2,h3⟩:=h;simp only [Value.slice.injEq] at e;obtain⟨rfl,-,rfl⟩:=e;have hn:0<n:=by
  rcases Nat.eq_zero_or_pos n with h0 | h0
  ·subst h0;simp at hj
  ·exact h0
 obtain⟨g',o',e,hb,hc,ht⟩:=h3.resolve_left (by omega);simp only [Option.some.injEq,Addr.mk.injEq] at e;obtain⟨rfl,rfl,-⟩:=e;have hcap:n * size≤cap * size:=Nat.mul_le_mul_right _ h1;refine⟨by simpa using hl,_,cap,rfl,h1,h2,.inr ⟨g,o,rfl,hb,fun i hi=>?_,fun i hi=>?_⟩⟩
 ·by_cases e:i=j
  ·subst e;rw [World.cell?_setCell_same' _ _ _ (ht i (by omega)).1,List.getElem?_set_self (by omega)]
  ·have hne:(⟨g,o+j,none⟩:Addr)≠⟨g,o+i,none⟩:=by intro h;simp only [Addr.mk.injEq] at h;omega
   rw [List.getElem?_set_ne (fun h=>e h.symm),←hc i hi];exact World.cell?_setCell_other _ _ _ _ hne
 ·refine⟨?_,by rw [World.frozen?_setCell];exact(ht i hi).2⟩;have:=World.isSome_setCells g [u] (o+j) w ⟨g,o+i,none⟩ (ht i hi).1;exact this
theorem RowAt.cell {w:World} {base size n cap:Nat} {a:Option Addr} {xs:List Value} (h:RowAt w base size (.slice a n cap) n xs) (hn:0<n):∃g o,a=some ⟨g,o,none⟩∧base≤g∧(∀j,j<n * size→w.cell? ⟨g,o+j,none⟩=xs[j]?∧w.frozen? ⟨g,o+j,none⟩=false):=by
 obtain⟨hl,a',cap',e,h1,h2,h3⟩:=h;simp only [Value.slice.injEq] at e;obtain⟨rfl,-,rfl⟩:=e;obtain⟨g,o,rfl,hb,hc,ht⟩:=h3.resolve_left (by omega);have hcap:n * size≤cap * size:=Nat.mul_le_mul_right _ h1;exact⟨g,o,rfl,hb,fun j hj=>⟨hc j hj,(ht j (by omega)).2⟩⟩
def nx (x:GOp) (k:Nat):List Nat :=
 (if x.kind=9∨x.kind=10 then [x.a.toNat] else [])++(if x.kind=9∨x.kind=12 then [] else [k+1])
def nOf (p:List GFunc) (x:GOp) (h:Int):Int:=h - zP p x+kA x
def badB (p:List GFunc) (x:GOp) (h:Int):Bool:=decide (h<zP p x) || (decide (8<nOf p x h) || (decide (x.kind=12) && decide (0<nOf p x h)))
def goOn (len:Nat) (n:Int):List Nat→List Int→List Nat→Option (List Int × List Nat)
 | [],out,work=>some (out,work)
 | i::is,out,work =>
  if i=len∨(0≤out.getD i 0∧out.getD i 0≠n) then none
  else if out.getD i 0<0 then goOn len n is (out.set i n) (work++[i])
  else goOn len n is out work
def wl (p:List GFunc) (code:List GOp):Nat→List Int→List Nat→Option (List Int)
 | 0,_,_=>none
 | _+1,out,[]=>some out
 | f+1,out,k::work =>
  if badB p (code.getD k default) (out.getD k 0) then none
  else match goOn code.length (nOf p (code.getD k default) (out.getD k 0)) (nx (code.getD k default) k) out work with
   | none=>none
   | some (o,w)=>wl p code f o w
def out0 (n:Nat):List Int:=(List.replicate n (-1)).set 0 0
def hts (p:List GFunc) (code:List GOp):Option (List Int) :=
 if code=[] then none else wl p code (code.length+1) (out0 code.length) [0]
def uZ (len:Nat) (n:Int):List Nat→List Int→Option (List Int)
 | [],out=>some out
 | i::is,out=>if i=len∨(0≤out.getD i 0∧out.getD i 0≠n) then none else uZ len n is (out.set i n)
def one1 (p:List GFunc) (code:List GOp) (k:Nat) (out:List Int):Option (List Int) :=
 if out.getD k 0<0 then some out
 else if badB p (code.getD k default) (out.getD k 0) then none
 else uZ code.length (nOf p (code.getD k default) (out.getD k 0)) (nx (code.getD k default) k) out
def oneR (p:List GFunc) (code:List GOp):List Nat→List Int→Option (List Int)
 | [],out=>some out
 | k::ks,out=>match one1 p code k out with
  | none=>none
  | some o=>oneR p code ks o
def zFa (p:List GFunc) (code:List GOp):Nat→List Int→Option (List Int)
 | 0,out=>some out
 | r+1,out=>match oneR p code (List.range code.length) out with
  | none=>none
  | some o=>zFa p code r o
def htsR (p:List GFunc) (code:List GOp):Option (List Int) :=
 if code=[] then none else zFa p code (code.length+1) (out0 code.length)
inductive Come (p:List GFunc) (code:List GOp):Nat→Int→Prop
 | start:Come p code 0 0
 | next {k:Nat} {h:Int} {j:Nat}:Come p code k h→k<code.length→j∈nx (code.getD k default) k→Come p code j (nOf p (code.getD k default) h)
def Bad (p:List GFunc) (code:List GOp):Prop :=
 ∃k h,Come p code k h∧(code.length≤k∨badB p (code.getD k default) h=true∨∃h',Come p code k h'∧h'≠h)
structure Inv (p:List GFunc) (code:List GOp) (out:List Int):Prop where
 len:out.length=code.length
 low:∀k,k<code.length → -1≤out.getD k 0
 come:∀k,k<code.length→0≤out.getD k 0→Come p code k (out.getD k 0)
def Thru (p:List GFunc) (code:List GOp) (out:List Int) (k:Nat):Prop :=
 badB p (code.getD k default) (out.getD k 0)=false∧∀i∈nx (code.getD k default) k,i<code.length∧out.getD i 0=nOf p (code.getD k default) (out.getD k 0)
structure Full (p:List GFunc) (code:List GOp) (out:List Int):Prop extends Inv p code out where
 zero:0<code.length∧out.getD 0 0=0
 thru:∀k,k<code.length→0≤out.getD k 0→Thru p code out k
theorem zIg {p:List GFunc} {x:GOp} {h:Int} (hb:badB p x h=false):zP p x≤h∧nOf p x h≤8∧(x.kind=12→nOf p x h≤0):=by
 unfold badB at hb;simp only [Bool.or_eq_false_iff,Bool.and_eq_false_iff,decide_eq_false_iff_not] at hb;refine⟨by omega,by omega,fun hk=>?_⟩;rcases hb.2.2 with h | h
 ·exact absurd hk h
 ·omega
theorem zAz (x:GOp):0≤kA x:=by unfold kA;split<;>omega
theorem zAd {p:List GFunc} {x:GOp} {h:Int} (hb:badB p x h=false):0≤nOf p x h:=by
 have:=(zIg hb).1;have:=zAz x;unfold nOf;omega
theorem Full.come_eq {p:List GFunc} {code:List GOp} {out:List Int} (hf:Full p code out) {k:Nat} {h:Int} (hc:Come p code k h):k<code.length∧out.getD k 0=h∧0≤h:=by
 induction hc with
 | start=>exact⟨hf.zero.1,hf.zero.2,by omega⟩
 | next hc hk hj ih =>
  obtain⟨h1,h2,h3⟩:=ih;obtain⟨t1,t2⟩:=hf.thru _ h1 (by omega);obtain⟨a,b⟩:=t2 _ hj;rw [h2] at t1 b;exact⟨a,b,zAd t1⟩
theorem Full.not_bad {p:List GFunc} {code:List GOp} {out:List Int} (hf:Full p code out):¬Bad p code:=by
 rintro ⟨k,h,hc,hb⟩;obtain⟨h1,h2,h3⟩:=hf.come_eq hc;rcases hb with hb | hb | ⟨h',hc',hb⟩
 ·omega
 ·obtain⟨t1,_⟩:=hf.thru _ h1 (by omega);rw [h2,hb] at t1
  cases t1
 ·have:=(hf.come_eq hc').2.1;omega
theorem Full.eq {p:List GFunc} {code:List GOp} {o1 o2:List Int} (h1:Full p code o1) (h2:Full p code o2):o1=o2:=by
 have l1:=h1.len;have l2:=h2.len;apply List.ext_getElem (by omega);intro k hk hk';have a1:=h1.low k (by omega);have a2:=h2.low k (by omega);have e1:o1.getD k 0=o1[k]:=by simp [List.getD,List.getElem?_eq_getElem hk]
 have e2:o2.getD k 0=o2[k]:=by simp [List.getD,List.getElem?_eq_getElem hk']
 rw [←e1,←e2];by_cases c1:0≤o1.getD k 0
 ·exact(h2.come_eq (h1.come k (by omega) c1)).2.1.symm
 ·by_cases c2:0≤o2.getD k 0
  ·exact(h1.come_eq (h2.come k (by omega) c2)).2.1
  ·omega
def zFs (p:List GFunc) (code:List GOp):Option (List Int)→Prop
 | none=>Bad p code
 | some out=>Full p code out
theorem zFs.eq {p:List GFunc} {code:List GOp} {a b:Option (List Int)} (ha:zFs p code a) (hb:zFs p code b):a=b:=by
 cases a with
 | none=>cases b with
  | none=>rfl
  | some o=>exact absurd ha (Full.not_bad hb)
 | some o=>cases b with
  | none=>exact absurd hb (Full.not_bad ha)
  | some o'=>rw [Full.eq ha hb]
theorem zFs.empty {p:List GFunc}:zFs p [] none:=⟨0,0,.start,.inl (by simp)⟩
def zIk (code:List GOp):Prop:=∀k,k<code.length→(code.getD k default).kind=9∨(code.getD k default).kind=10→(code.getD k default).a.toNat<code.length
theorem nx_le {code:List GOp} (hj:zIk code) {k:Nat} (hk:k<code.length):∀i∈nx (code.getD k default) k,i≤code.length:=by
 intro i hi;unfold nx at hi;rcases List.mem_append.1 hi with hi | hi
 ·split at hi
  ·rename_i h
   have:=hj k hk h;simp at hi;rw [hi];exact Nat.le_of_lt this
  ·simp at hi
 ·split at hi
  ·simp at hi
  ·simp at hi;omega
theorem qU {l:List Int} {i:Nat} {n:Int} (h:i<l.length):(l.set i n).getD i 0=n:=by simp [List.getD,h]
theorem jY {l:List Int} {i j:Nat} {n:Int} (h:i≠j):(l.set i n).getD j 0=l.getD j 0:=by simp [List.getD,h]
theorem Inv.set {p:List GFunc} {code:List GOp} {out:List Int} (hi:Inv p code out) {i:Nat} {n:Int} (h0 : -1≤n) (hc:Come p code i n):Inv p code (out.set i n):=by
 refine⟨by simp [hi.len],fun k hk=>?_,fun k hk hk0=>?_⟩
 ·by_cases e:i=k
  ·subst e;rw [qU (by rw [hi.len];exact hk)];exact h0
  ·rw [jY e];exact hi.low k hk
 ·by_cases e:i=k
  ·subst e;rw [qU (by rw [hi.len];exact hk)];exact hc
  ·rw [jY e] at hk0 ⊢;exact hi.come k hk hk0
def More (len:Nat) (a b:List Int):Prop:=∀k,k<len→0≤a.getD k 0→b.getD k 0=a.getD k 0
theorem More.refl (len:Nat) (a:List Int):More len a a:=fun _ _ _=>rfl
theorem More.trans {len:Nat} {a b c:List Int} (h:More len a b) (k:More len b c):More len a c:=fun i hi h0=>by
 have:=h i hi h0;rw [k i hi (by omega),this]
theorem More.set {len:Nat} {a:List Int} {i:Nat} {n:Int} (hl:a.length=len) (h:¬(0≤a.getD i 0∧a.getD i 0≠n)):More len a (a.set i n):=by
 intro k hk h0;by_cases e:i=k
 ·subst e;rw [qU (by omega)];by_cases h2:a.getD i 0=n
  ·exact h2.symm
  ·exact absurd ⟨h0,h2⟩ h
 ·rw [jY e]
theorem Thru.more {p:List GFunc} {code:List GOp} {a b:List Int} {k:Nat} (hm:More code.length a b) (hk:k<code.length) (h0:0≤a.getD k 0) (h:Thru p code a k):Thru p code b k:=by
 have e:=hm k hk h0;refine⟨by rw [e];exact h.1,fun i hi=>?_⟩;obtain⟨h1,h2⟩:=h.2 i hi;have:=zAd h.1;refine⟨h1,?_⟩;rw [e,hm i h1 (by omega),h2]
theorem bad_way {p:List GFunc} {code:List GOp} {out:List Int} (hi:Inv p code out) {i:Nat} {n:Int} (hc:Come p code i n) (hle:i≤code.length) (h:i=code.length∨(0≤out.getD i 0∧out.getD i 0≠n)):Bad p code:=by
 by_cases hlt:i<code.length
 ·obtain⟨h1,h2⟩:0≤out.getD i 0∧out.getD i 0≠n:=by
   rcases h with h | h
   ·omega
   ·exact h
  exact⟨i,n,hc,.inr (.inr ⟨_,hi.come i hlt h1,h2⟩)⟩
 ·exact⟨i,n,hc,.inl (by omega)⟩
theorem goOn_ok {p:List GFunc} {code:List GOp} {n:Int} (hn:0≤n):∀(is:List Nat) (out:List Int) (work:List Nat),Inv p code out→(∀i∈is,Come p code i n∧i≤code.length) →
  match goOn code.length n is out work with
  | none=>Bad p code
  | some (o,w)=>Inv p code o∧More code.length out o∧(∀i∈is,i<code.length∧o.getD i 0=n)∧(∃new,w=work++new∧(∀j,j<code.length→out.getD j 0<0→0≤o.getD j 0→j∈new)∧(∀j∈new,j<code.length∧0≤o.getD j 0))
 | [],out,work,hi,_=>by
  simp only [goOn];exact⟨hi,More.refl _ _,by simp,[],by simp,fun j _ h1 h2=>by omega,by simp⟩
 | i::is,out,work,hi,hc=>by
  obtain⟨hci,hle⟩:=hc i (by simp);unfold goOn;by_cases hb:i=code.length∨(0≤out.getD i 0∧out.getD i 0≠n)
  ·rw [if_pos hb];exact bad_way hi hci hle hb
  ·rw [if_neg hb];have hlt:i<code.length:=by omega
   have hlen:=hi.len;by_cases h0:out.getD i 0<0
   ·rw [if_pos h0];have IH:=goOn_ok hn is (out.set i n) (work++[i]) (hi.set (by omega) hci) (fun j hj=>hc j (by simp [hj]))
    revert IH
    cases goOn code.length n is (out.set i n) (work++[i]) with
    | none=>exact id
    | some r =>
     obtain⟨o,w⟩:=r;rintro ⟨a1,a2,a3,new,a4,a5,a6⟩;have hm:More code.length out o:=(More.set hlen (fun h=>hb (.inr h))).trans a2;have hio:o.getD i 0=n:=by rw [a2 i hlt (by rw [qU (by omega)];exact hn),qU (by omega)]
     refine⟨a1,hm,?_,i::new,by simp [a4],?_,?_⟩
     ·intro j hj;rcases List.mem_cons.1 hj with rfl | hj
      ·exact⟨hlt,hio⟩
      ·exact a3 j hj
     ·intro j hj h1 h2;by_cases e:i=j
      ·subst e;simp
      ·exact List.mem_cons_of_mem _ (a5 j hj (by rw [jY e];exact h1) h2)
     ·intro j hj;rcases List.mem_cons.1 hj with rfl | hj
      ·exact⟨hlt,by omega⟩
      ·exact a6 j hj
   ·rw [if_neg h0];have IH:=goOn_ok hn is out work hi (fun j hj=>hc j (by simp [hj]))
    revert IH
    cases goOn code.length n is out work with
    | none=>exact id
    | some r =>
     obtain⟨o,w⟩:=r;rintro ⟨a1,a2,a3,new,a4,a5,a6⟩;refine⟨a1,a2,?_,new,a4,a5,a6⟩;intro j hj;rcases List.mem_cons.1 hj with rfl | hj
     ·refine⟨hlt,?_⟩;rw [a2 j hlt (by omega)];by_cases h2:out.getD j 0=n
      ·exact h2
      ·exact absurd (.inr ⟨by omega,h2⟩) hb
     ·exact a3 j hj
def unk (l:List Int):Nat:=l.countP (fun x=>decide (x<0))
theorem unk_set {l:List Int} {i:Nat} {n:Int} (hi:i<l.length) (h0:l.getD i 0<0) (hn:0≤n):unk (l.set i n)+1=unk l:=by
 induction l generalizing i with
 | nil=>simp at hi
 | cons x l ih =>
  cases i with
  | zero =>
   simp [List.getD] at h0;simp [unk,List.countP_cons,h0];omega
  | succ i =>
   have:=ih (i:=i) (by simpa using hi) (by simpa [List.getD] using h0);simp only [unk,xM,List.countP_cons] at this ⊢;omega
theorem zFj {len:Nat} {n:Int} (hn:0≤n):∀(is:List Nat) (out:List Int) (work:List Nat) (o:List Int) (w:List Nat),out.length=len→(∀i∈is,i≤len)→goOn len n is out work=some (o,w)→unk o+w.length=unk out+work.length∧o.length=len
 | [],out,work,o,w,hl,_,h=>by simp [goOn] at h;obtain⟨rfl,rfl⟩:=h;exact⟨rfl,hl⟩
 | i::is,out,work,o,w,hl,hle,h=>by
  unfold goOn at h
  split at h
  ·cases h
  ·rename_i hb
   have:=hle i (by simp)
   split at h
   ·rename_i h0
    have ih:=zFj hn is _ _ o w (by simpa using hl) (fun j hj=>hle j (by simp [hj])) h;have:=unk_set (l:=out) (i:=i) (n:=n) (by omega) h0 hn;simp at ih;omega
   ·exact zFj hn is _ _ o w hl (fun j hj=>hle j (by simp [hj])) h
theorem wl_ok {p:List GFunc} {code:List GOp} (hj:zIk code):∀(f:Nat) (out:List Int) (work:List Nat),Inv p code out→0<code.length∧out.getD 0 0=0→(∀k∈work,k<code.length∧0≤out.getD k 0) →
  (∀k,k<code.length→0≤out.getD k 0→k∈work∨Thru p code out k)→unk out+work.length<f→zFs p code (wl p code f out work)
 | 0,_,_,_,_,_,_,hf=>by omega
 | f+1,out,[],hi,hz,_,ht,_=>by
  simp only [wl];exact⟨hi,hz,fun k hk h0=>(ht k hk h0).resolve_left (by simp)⟩
 | f+1,out,k::work,hi,hz,hw,ht,hf=>by
  obtain⟨hk,hk0⟩:=hw k (by simp);have hck:=hi.come k hk hk0;unfold wl
  cases hb:badB p (code.getD k default) (out.getD k 0) with
  | true =>
   rw [if_pos rfl];exact⟨k,_,hck,.inr (.inl hb)⟩
  | false =>
   rw [if_neg (by simp)];have hn:=zAd hb;have hle:=nx_le hj hk;have G:=goOn_ok (p:=p) hn (nx (code.getD k default) k) out work hi (fun i hin=>⟨.next hck hk hin,hle i hin⟩);have U:=zFj (len:=code.length) hn (nx (code.getD k default) k) out work
   revert G U
   cases goOn code.length (nOf p (code.getD k default) (out.getD k 0)) (nx (code.getD k default) k) out work with
   | none=>intro G _;exact G
   | some r =>
    obtain⟨o,w⟩:=r;rintro ⟨a1,a2,a3,new,a4,a5,a6⟩ U;obtain⟨u1,u2⟩:=U o w hi.len hle rfl;have ek:=a2 k hk hk0;refine wl_ok hj f o w a1 ⟨hz.1,by rw [a2 0 hz.1 (by omega)];exact hz.2⟩ ?_ ?_ (by simp at hf;omega)
    ·intro j hjw;rw [a4] at hjw;rcases List.mem_append.1 hjw with h | h
     ·obtain⟨b1,b2⟩:=hw j (by simp [h]);exact⟨b1,by rw [a2 j b1 b2];exact b2⟩
     ·exact a6 j h
    ·intro j hjl hj0;by_cases hjo:0≤out.getD j 0
     ·rcases ht j hjl hjo with h | h
      ·rcases List.mem_cons.1 h with rfl | h
       ·right;exact⟨by rw [ek];exact hb,fun i hin=>by rw [ek];exact a3 i hin⟩
       ·left;rw [a4];simp [h]
      ·right;exact h.more a2 hjl hjo
     ·left;rw [a4];simp [a5 j hjl (by omega) hj0]
theorem zAa (n k:Nat) (hk:k<n):(out0 n).getD k 0=if k=0 then 0 else -1:=by
 unfold out0;by_cases e:k=0
 ·subst e;rw [qU (by simp;omega)];simp
 ·rw [jY (by omega),if_neg e];simp [List.getD,hk]
theorem out0_inv {p:List GFunc} {code:List GOp}:Inv p code (out0 code.length):=by
 refine⟨by simp [out0],fun k hk=>?_,fun k hk h0=>?_⟩
 ·rw [zAa _ _ hk];split<;>omega
 ·rw [zAa _ _ hk] at h0 ⊢;split
  ·rename_i e;subst e;exact .start
  ·rename_i e;rw [if_neg e] at h0;omega
theorem zHj (n:Nat) (hn:0<n):unk (out0 n)+1=n:=by
 have h:=unk_set (l:=List.replicate n (-1)) (i:=0) (n:=0) (by simpa using hn) (by simp [List.getD,hn]) (by omega);have:unk (List.replicate n (-1))=n:=by simp [unk,List.countP_replicate]
 unfold out0;omega
theorem hts_finds {p:List GFunc} {code:List GOp} (hj:zIk code):zFs p code (hts p code):=by
 unfold hts;by_cases hc:code=[]
 ·rw [if_pos hc,hc];exact zFs.empty
 ·rw [if_neg hc];have hl:0<code.length:=List.length_pos_iff.2 hc;refine wl_ok hj _ _ _ out0_inv ⟨hl,by rw [zAa _ _ hl];rfl⟩ ?_ ?_ (by have:=zHj _ hl;simp;omega)
  ·intro k hk;simp at hk;subst hk;exact⟨hl,by rw [zAa _ _ hl];simp⟩
  ·intro k hk h0;rw [zAa _ _ hk] at h0
   split at h0
   ·rename_i e;left;simp [e]
   ·omega
theorem putAll_ok {p:List GFunc} {code:List GOp} {n:Int} (hn:0≤n):∀(is:List Nat) (out:List Int),Inv p code out→(∀i∈is,Come p code i n∧i≤code.length) →
  match uZ code.length n is out with
  | none=>Bad p code
  | some o=>Inv p code o∧More code.length out o∧(∀i∈is,i<code.length∧o.getD i 0=n)
 | [],out,hi,_=>by
  simp only [uZ];exact⟨hi,More.refl _ _,by simp⟩
 | i::is,out,hi,hc=>by
  obtain⟨hci,hle⟩:=hc i (by simp);unfold uZ;by_cases hb:i=code.length∨(0≤out.getD i 0∧out.getD i 0≠n)
  ·rw [if_pos hb];exact bad_way hi hci hle hb
  ·rw [if_neg hb];have hlt:i<code.length:=by omega
   have hlen:=hi.len;have IH:=putAll_ok hn is (out.set i n) (hi.set (by omega) hci) (fun j hj=>hc j (by simp [hj]))
   revert IH
   cases uZ code.length n is (out.set i n) with
   | none=>exact id
   | some o =>
    rintro ⟨a1,a2,a3⟩;refine⟨a1,(More.set hlen (fun h=>hb (.inr h))).trans a2,?_⟩;intro j hj;rcases List.mem_cons.1 hj with rfl | hj
    ·exact⟨hlt,by rw [a2 j hlt (by rw [qU (by omega)];exact hn),qU (by omega)]⟩
    ·exact a3 j hj
theorem oneR_ok {p:List GFunc} {code:List GOp} (hj:zIk code):∀(ks:List Nat) (out:List Int),(∀k∈ks,k<code.length)→Inv p code out →
  match oneR p code ks out with
  | none=>Bad p code
  | some o=>Inv p code o∧More code.length out o∧(∀k∈ks,0≤out.getD k 0→Thru p code o k)
 | [],out,_,hi=>by
  simp only [oneR];exact⟨hi,More.refl _ _,by simp⟩
 | k::ks,out,hks,hi=>by
  have hk:=hks k (by simp);have A:match one1 p code k out with
    | none=>Bad p code
    | some o=>Inv p code o∧More code.length out o∧(0≤out.getD k 0→Thru p code o k):=by
   unfold one1;by_cases h0:out.getD k 0<0
   ·rw [if_pos h0];exact⟨hi,More.refl _ _,fun h=>by omega⟩
   ·rw [if_neg h0];have hk0:0≤out.getD k 0:=by omega
    have hck:=hi.come k hk hk0
    cases hb:badB p (code.getD k default) (out.getD k 0) with
    | true =>
     rw [if_pos rfl];exact⟨k,_,hck,.inr (.inl hb)⟩
    | false =>
     rw [if_neg (by simp)];have G:=putAll_ok (p:=p) (zAd hb) (nx (code.getD k default) k) out hi (fun i hin=>⟨.next hck hk hin,nx_le hj hk i hin⟩)
     revert G
     cases uZ code.length (nOf p (code.getD k default) (out.getD k 0)) (nx (code.getD k default) k) out with
     | none=>exact id
     | some o =>
      rintro ⟨a1,a2,a3⟩;have ek:=a2 k hk hk0;exact⟨a1,a2,fun _=>⟨by rw [ek];exact hb,fun i hin=>by rw [ek];exact a3 i hin⟩⟩
  unfold oneR
  revert A
  cases one1 p code k out with
  | none=>exact id
  | some o =>
   rintro ⟨a1,a2,a3⟩;have IH:=oneR_ok hj ks o (fun j hjk=>hks j (by simp [hjk])) a1;show match oneR p code ks o with
    | none=>Bad p code
    | some o=>Inv p code o∧More code.length out o∧(∀j∈k::ks,0≤out.getD j 0→Thru p code o j)
   revert IH
   cases oneR p code ks o with
   | none=>exact id
   | some o2 =>
    rintro ⟨b1,b2,b3⟩;refine⟨b1,a2.trans b2,fun j hjk h0=>?_⟩;rcases List.mem_cons.1 hjk with rfl | hjk
    ·exact(a3 h0).more b2 hk (by rw [a2 j hk h0];exact h0)
    ·exact b3 j hjk (by rw [a2 j (hks j (by simp [hjk])) h0];exact h0)
theorem unk_more:∀{a b:List Int},a.length=b.length→(∀k,k<a.length → -1≤a.getD k 0)→(∀k,k<b.length → -1≤b.getD k 0)→More a.length a b→unk b≤unk a∧(unk b=unk a→a=b)
 | [],[],_,_,_,_=>by simp
 | [],_::_,h,_,_,_=>by simp at h
 | _::_,[],h,_,_,_=>by simp at h
 | x::a,y::b,h,ha,hb,hm=>by
  obtain⟨i1,i2⟩:=unk_more (a:=a) (b:=b) (by simpa using h) (fun k hk=>by simpa [List.getD] using ha (k+1) (by simpa using hk)) (fun k hk=>by simpa [List.getD] using hb (k+1) (by simpa using hk))
   (fun k hk h0=>by simpa [List.getD] using hm (k+1) (by simpa using hk) (by simpa [List.getD] using h0))
  have m0:=hm 0 (by simp);have xa:=ha 0 (by simp);have xb:=hb 0 (by simp);simp [List.getD] at m0 xa xb;simp only [unk,List.countP_cons] at i1 i2 ⊢;by_cases hx:x<0
  ·by_cases hy:y<0
   ·simp [hx,hy];exact⟨i1,fun e=>⟨by omega,i2 e⟩⟩
   ·simp [hx,hy];exact⟨by omega,fun e=>by omega⟩
  ·have:=m0 (by omega);subst this;simp [hx];exact⟨i1,i2⟩
theorem rounds_ok {p:List GFunc} {code:List GOp} (hj:zIk code):∀(r:Nat) (out:List Int),Inv p code out→0<code.length∧out.getD 0 0=0→((∀k,k<code.length→0≤out.getD k 0→Thru p code out k)∨unk out<r)→zFs p code (zFa p code r out)
 | 0,out,hi,hz,ht=>by
  simp only [zFa];exact⟨hi,hz,ht.resolve_right (by omega)⟩
 | r+1,out,hi,hz,ht=>by
  unfold zFa;have G:=oneR_ok hj (List.range code.length) out (by simp) hi
  revert G
  cases oneR p code (List.range code.length) out with
  | none=>exact id
  | some o =>
   rintro ⟨a1,a2,a3⟩;refine rounds_ok hj r o a1 ⟨hz.1,by rw [a2 0 hz.1 (by omega)];exact hz.2⟩ ?_;obtain⟨u1,u2⟩:=unk_more (a:=out) (b:=o) (by rw [hi.len,a1.len]) (fun k hk=>hi.low k (by rw [←hi.len];exact hk)) (fun k hk=>a1.low k (by rw [←a1.len];exact hk)) (by rw [hi.len];exact a2);by_cases hu:unk o=unk out
   ·left;have e:=u2 hu;subst e;exact fun k hk h0=>a3 k (by simpa using hk) h0
   ·rcases ht with ht | ht
    ·left;intro k hk h0;by_cases hk0:0≤out.getD k 0
     ·exact(ht k hk hk0).more a2 hk hk0
     ·exfalso;have hfull:Full p code out:=⟨hi,hz,ht⟩
      have:=(hfull.come_eq (a1.come k hk h0)).2.1;omega
    ·right;omega
theorem htsR_finds {p:List GFunc} {code:List GOp} (hj:zIk code):zFs p code (htsR p code):=by
 unfold htsR;by_cases hc:code=[]
 ·rw [if_pos hc,hc];exact zFs.empty
 ·rw [if_neg hc];have hl:0<code.length:=List.length_pos_iff.2 hc;refine rounds_ok hj _ _ out0_inv ⟨hl,by rw [zAa _ _ hl];rfl⟩ (.inr ?_);have:=zHj _ hl;omega
theorem zIa {p:List GFunc} {code:List GOp} (hj:zIk code):htsR p code=hts p code:=(htsR_finds hj).eq (hts_finds hj)
theorem hts_full {p:List GFunc} {code:List GOp} (hj:zIk code) {l:List Int} (h:hts p code=some l):Full p code l:=by
 have:=hts_finds (p:=p) hj;rw [h] at this;exact this
theorem Come.from {p:List GFunc} {code:List GOp} {j:Nat} {n:Int} (h:Come p code j n):(j=0∧n=0)∨∃k h,Come p code k h∧k<code.length∧j∈nx (code.getD k default) k∧n=nOf p (code.getD k default) h:=by
 cases h with
 | start=>exact .inl ⟨rfl,rfl⟩
 | next a b c=>exact .inr ⟨_,_,a,b,c,rfl⟩
end Go.Proofs.YtpcjkfppacnkgaaGreatDoor
