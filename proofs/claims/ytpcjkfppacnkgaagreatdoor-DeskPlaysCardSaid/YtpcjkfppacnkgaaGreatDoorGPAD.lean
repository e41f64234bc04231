/- Contracts and plain facts. -/
import Derived.Test.YtpcjkfppacnkgaaGreatDoorGPAB
import Derived.Test.YtpcjkfppacnkgaaGreatDoorGPAC
import Derived.Deep.RegionLaw
import Derived.Laws.CopyOwn
import Derived.LoopIn
import Derived.LoopNIn
import Derived.RangeFuncBound
import Derived.RangeFuncCalls
import Derived.RangeFuncLeaves
import Derived.RangeFuncNested
import Derived.Shelf.Abstract
import Derived.Shelf.Bits.Mul64
import Derived.Shelf.RegionOpen
import Derived.TacticsInMore
set_option maxHeartbeats 4000000
set_option maxRecDepth 100000
section
namespace Go.Proofs.YtpcjkfppacnkgaaGreatDoor
open Go Go.RowKit
set_option maxRecDepth 100000 in
theorem vM:(Tryz.prog.info? 3).map (fun i=>(i.zero,i.size,i.bytes))=some (some (.int .i64 0),1,8):=by kernel_rfl
def ints (l:List Int):List Value:=l.map (Value.int .i64)
theorem kU (l:List Int):l.flatMap intF=ints l:=by
 induction l with
 | nil=>rfl
 | cons x l ih=>rw [List.flatMap_cons,ih];rfl
theorem ints_set (l:List Int) (k:Nat) (n:Int):(ints l).set k (.int .i64 n)=ints (l.set k n):=by simp [ints,List.map_set]
theorem vL (l:List Int) (k:Nat) (h:k<l.length):(ints l)[k]?=some (.int .i64 (l.getD k 0)):=by simp [ints,List.getD,h]
theorem qP (l:List Int):(ints l).length=l.length:=by simp [ints]
theorem yK (l m:List Int):ints (l++m)=ints l++ints m:=by simp [ints]
def IRow (w:World) (base g:Nat) (l:List Int):Prop:=RowAt w base 1 (.slice (some ⟨g,0,none⟩) l.length l.length) l.length (ints l)
theorem IRow.at {w:World} {base g:Nat} {l:List Int} (h:IRow w base g l) {k:Nat} (hk:k<l.length):w.cell? ⟨g,k,none⟩=some (.int .i64 (l.getD k 0))∧w.frozen? ⟨g,k,none⟩=false∧base≤g:=by
 obtain⟨g',o,e,hb,hc⟩:=h.cell (by omega);simp only [Option.some.injEq,Addr.mk.injEq] at e;obtain⟨rfl,rfl,-⟩:=e;have:=hc k (by omega);rw [Nat.zero_add,vL l k hk] at this;exact⟨this.1,this.2,hb⟩
theorem IRow.store {w:World} {base g:Nat} {l:List Int} (h:IRow w base g l) {k:Nat} (hk:k<l.length) (n:Int):IRow (w.setCell ⟨g,k,none⟩ (.int .i64 n)) base g (l.set k n):=by
 have:=RowAt.store h (j:=k) (by omega) (.int .i64 n);rw [Nat.zero_add,ints_set] at this;unfold IRow;rw [List.length_set];exact this
theorem IRow.ext {w w':World} {base g:Nat} {l:List Int} (h:IRow w base g l) (he:Ext w w'):IRow w' base g l:=RowAt.ext h he (by decide)
theorem IRow.chg {M:Nat→Prop} {w w':World} {base g:Nat} {l:List Int} (h:IRow w base g l) (he:Chg M w w') (hM:¬M g):IRow w' base g l :=
 RowAt.chg h he (fun g' hg=>by
  simp only [zB] at hg
  split at hg
  ·cases hg
  ·cases hg;exact hM) (by decide)
theorem zO (w:World) (b o:Nat) (u:Value):Chg (·=b) w (w.setCell ⟨b,o,none⟩ u):=Chg.setCell (M:=(·=b)) (p:=⟨b,o,none⟩) (Chg.refl _ _) (.inl rfl) u
theorem IRow.other {w:World} {base g:Nat} {l:List Int} (h:IRow w base g l) {b o:Nat} (hb:b≠g) (u:Value):IRow (w.setCell ⟨b,o,none⟩ u) base g l :=
 h.chg (zO w b o u) (fun e=>hb e.symm)
theorem IRow.mono {w:World} {base base' g:Nat} {l:List Int} (h:IRow w base g l) (hb:base'≤base):IRow w base' g l:=RowAt.mono h hb
theorem IRow.ints {w:World} {base g:Nat} {l:List Int} (h:IRow w base g l) (hb:l.length≤1000000) (hI:∀x∈l,I64 x) (S:Nat→Prop) (hS:∀b,base≤b→S b):Ints w S (.slice (some ⟨g,0,none⟩) l.length l.length) l :=
 Ints.of_row (base:=base) (by rw [kU];exact h) (by omega) hI S (fun b hbb _=>hS b hbb)
theorem RowAt.of_own {w:World} {base:Nat} {e:TypeId} {size:Nat} {v:Value} {n:Nat} {xs:List Value} (h:w.ownsRow base e size v n xs):RowAt w base size v n xs:=by
 refine⟨h.1,?_⟩;rcases h.2 with ⟨rfl,rfl⟩ | ⟨g,cap,cur,rfl,hbg,hg,hnc,hcm,hcs,htake⟩
 ·exact⟨none,0,rfl,Nat.le_refl _,Nat.zero_le _,.inl rfl⟩
 ·refine⟨_,cap,rfl,hnc,hcm,.inr ⟨g,0,rfl,hbg,fun j hj=>?_,fun j hj=>?_⟩⟩
  ·rw [Nat.zero_add,cell_of_row w g _ cur e (0,0) hg,←htake,List.getElem?_take,if_pos hj,Array.getElem?_toList]
  ·rw [Nat.zero_add];refine⟨by rw [cell_of_row w g _ cur e (0,0) hg,Array.getElem?_eq_getElem (by omega)];rfl,frozen_of_row w g _ cur e hg⟩
theorem uR {w w':World} (hg:w.grownBy w' none):Ext w w':=(eR w).grown hg (fun _ h=>by cases h)
structure RightF (p:List GFunc) (f:GFunc):Prop where
 len:f.code.length≤24
 op:∀x∈f.code,0≤x.kind∧x.kind≤16∧0≤x.a∧(x.kind=9∨x.kind=10→x.a<f.code.length)∧(x.kind=11→x.a<p.length)∧0≤zP p x∧zP p x≤4
 locals:0≤f.args∧f.args≤f.locals∧f.locals≤4
theorem zDl {f:GFunc} (h:qO f=true):0≤f.args∧f.args≤f.locals∧f.locals≤4:=by
 unfold qO at h;exact of_decide_eq_true h
theorem vA {p:List GFunc} {f:Int} (h:funcErr p f=0):0≤f∧f<p.length∧∀hf:f.toNat<p.length,RightF p p[f.toNat]:=by
 unfold funcErr at h;by_cases hf:0≤f∧f<p.length
 ·rw [if_neg (fun k=>k hf)] at h;refine⟨hf.1,hf.2,fun hl=>?_⟩;have e:p.getD f.toNat default=p[f.toNat]:=by simp [List.getD,List.getElem?_eq_getElem hl]
  rw [e] at h;by_cases h2:24<p[f.toNat].code.length
  ·rw [if_pos h2] at h;omega
  ·rw [if_neg h2] at h
   cases h3:qO p[f.toNat] with
   | false=>rw [if_pos h3] at h;omega
   | true =>
    rw [if_neg (by rw [h3];decide)] at h;refine⟨by omega,fun x hx=>?_,zDl h3⟩;have hops:=ok_ops h x hx;obtain⟨k0,k1,a0,a1,hs,_⟩:=ok_facts hops;have h11:x.kind=11→x.a<p.length:=fun hk=>by
     unfold qJ at a1;rw [if_neg (by omega),if_neg (by omega),if_neg (by omega),if_pos (.inl hk)] at a1;omega
    refine⟨k0,k1,a0,fun hk=>?_,h11,?_⟩
    ·unfold qJ at a1;rw [if_neg (by omega),if_neg (by omega),if_pos hk] at a1;omega
    ·unfold zP;split
     ·omega
     ·split
      ·omega
      ·split
       ·rename_i hk
        have:=zDl (hs (.inl hk));omega
       ·omega
 ·rw [if_pos hf] at h;omega
theorem RightF.jumps {p:List GFunc} {f:GFunc} (h:RightF p f):zIk f.code:=by
 intro k hk hj;have e:f.code.getD k default=f.code[k]:=by simp [List.getD,List.getElem?_eq_getElem hk]
 rw [e] at hj ⊢;obtain⟨_,_,h3,h4,_⟩:=h.op _ (List.getElem_mem hk);have:=h4 hj;omega
theorem RowAt.get_int {w:World} {base cap:Nat} {a:Option Addr} {l:List Int} (h:RowAt w base 1 (.slice a l.length cap) l.length (ints l)) {q:Nat} (hq:q<l.length) :
  ∃g o,a=some ⟨g,o,none⟩∧base≤g∧w.cell? ⟨g,o+q,none⟩=some (.int .i64 (l.getD q 0)):=by
 obtain⟨g,o,rfl,hb,hc⟩:=h.cell (by omega);refine⟨g,o,rfl,hb,?_⟩;rw [(hc q (by omega)).1,vL l q hq]
theorem uK (w:World) (n:Int) (t:TypeId):qL (w.alloc (.cells #[.int .i64 n] t)) 1 (.slice (some ⟨w.heap.size,0,none⟩) 1 1) 1 (ints [n]):=by
 refine⟨_,1,rfl,rfl,by simp [ints,Value.oneCell'],.inr ⟨_,rfl,fun j u hj=>?_⟩⟩
 match j,hj with
 | 0,hj =>
  cases hj
  rw [Addr.add_zero'];exact World.cell?_alloc_new w _ _ 0
def nats (l:List Nat):List Int:=l.map (fun k:Nat=>(k:Int))
theorem nats_len (l:List Nat):(nats l).length=l.length:=by simp [nats]
theorem nats_get (l:List Nat) (q:Nat) (h:q<l.length):(nats l).getD q 0=(l.getD q 0:Nat):=by simp [nats,List.getD,h]
def yQ (p:List GFunc) (code:List GOp) (i:Nat) (out:List Int):Option (List Int):=oneR p code (List.range' i (code.length - i)) out
theorem oneFrom_zero (p:List GFunc) (code:List GOp) (out:List Int):oneR p code (List.range code.length) out=yQ p code 0 out:=by unfold yQ;rw [List.range_eq_range',Nat.sub_zero]
theorem oneFrom_end (p:List GFunc) (code:List GOp) (out:List Int):yQ p code code.length out=some out:=by unfold yQ;rw [Nat.sub_self];rfl
theorem zDo (p:List GFunc) (code:List GOp) {i:Nat} (out:List Int) (h:i<code.length):yQ p code i out=match one1 p code i out with
  | none=>none
  | some o=>yQ p code (i+1) o:=by
 unfold yQ;rw [show code.length - i=(code.length - (i+1))+1 by omega,List.range'_succ];rfl
theorem zDy {l:List GOp} {i:Nat} (h:i<l.length):l.getD i default=l[i]:=by simp [List.getD,List.getElem?_eq_getElem h]
theorem one1_neg {p:List GFunc} {code:List GOp} {i:Nat} {out:List Int} (h:out.getD i 0<0):one1 p code i out=some out:=by unfold one1;rw [if_pos h]
theorem one1_bad {p:List GFunc} {code:List GOp} {i:Nat} {out:List Int} (hi:i<code.length) (h:¬out.getD i 0<0) (hb:badB p code[i] (out.getD i 0)=true):one1 p code i out=none:=by
 unfold one1;rw [if_neg h,zDy hi,if_pos hb]
theorem one1_put {p:List GFunc} {code:List GOp} {i:Nat} {out:List Int} (hi:i<code.length) (h:¬out.getD i 0<0) (hb:badB p code[i] (out.getD i 0)=false):one1 p code i out=uZ code.length (nOf p code[i] (out.getD i 0)) (nx code[i] i) out:=by
 unfold one1;rw [if_neg h,zDy hi,hb];rfl
theorem putAll_drop {len:Nat} {n:Int} {is:List Nat} {out:List Int} {q:Nat} (h:q<is.length):uZ len n (is.drop q) out=if is.getD q 0=len∨(0≤out.getD (is.getD q 0) 0∧out.getD (is.getD q 0) 0≠n) then none else uZ len n (is.drop (q+1)) (out.set (is.getD q 0) n):=by
 rw [List.drop_eq_getElem_cons h,show is.getD q 0=is[q] by simp [List.getD,List.getElem?_eq_getElem h]];rfl
end Go.Proofs.YtpcjkfppacnkgaaGreatDoor
end
section
namespace Go.Proofs.YtpcjkfppacnkgaaGreatDoor
open Go Go.RowKit Go.Shelf
attribute [local go_sem] Oper.semAt_some
def RowB (W:World) (bw b:Nat):Prop:=∃v,W.cell? ⟨bw,0,none⟩=some v∧zB v=some b
structure KpF (fx:Nat→Prop) (bw:Nat) (A B:World):Prop where
 size:A.heap.size≤B.heap.size
 same:∀b o,¬fx b→¬RowB A bw b→A.heap[b]?=some o→o.isCells=true→B.heap[b]?=some o
 row:∀b,RowB B bw b→RowB A bw b∨A.heap.size≤b
theorem KpF.trans {fx:Nat→Prop} {bw:Nat} {A B C:World} (h:KpF fx bw A B) (k:KpF fx bw B C):KpF fx bw A C where
 size:=Nat.le_trans h.size k.size
 same b o hf hr ho hc:=k.same b o hf (fun hb=>(h.row b hb).elim hr (fun hle=>by have:=(Array.getElem?_eq_some_iff.1 ho).1;omega)) (h.same b o hf hr ho hc) hc
 row b hb:=(k.row b hb).elim (h.row b) (fun hle=>.inr (Nat.le_trans h.size hle))
theorem KpF.put {fx:Nat→Prop} {bw:Nat} {w:World} (hbw:bw<w.heap.size) (W:World) (l:Nat) (o o':Obj) (hl:w.heap.size≤l) (ho:W.heap[l]?=some o) (hc:o.isCells=false) (_:o.isWalk=false):KpF fx bw W (W.putObj l o') where
 size:=by simp
 same b o'' _ _ hb hcb:=by
  have:b≠l:=fun e=>by subst e;rw [ho] at hb;cases hb;rw [hc] at hcb;cases hcb
  exact(World.putObj_heap_other this).trans hb
 row b hb:=by
  obtain⟨v,hv,hr⟩:=hb;refine .inl ⟨v,?_,hr⟩;rw [←hv];exact(World.cell?_of_block (World.putObj_heap_other (by show bw≠l;omega))).symm
theorem KpF.cell {fx:Nat→Prop} {bw:Nat} {A B:World} (h:KpF fx bw A B) {b o:Nat} {v:Value} (hf:¬fx b) (hr:¬RowB A bw b) (hc:A.cell? ⟨b,o,none⟩=some v):B.cell? ⟨b,o,none⟩=some v:=by
 obtain⟨ob,ho,hcc⟩:=cells_of_cell hc;have:=h.same b ob hf hr ho hcc;rw [←hc];exact World.cell?_of_block (this.trans ho.symm)
theorem RowB.of_below {w W:World} {bw b:Nat} (hW:Below w.heap.size w W) (hbw:bw<w.heap.size) (h:RowB W bw b):RowB w bw b:=by
 obtain⟨v,hv,hr⟩:=h;exact⟨v,by rw [←hv];exact(hW.cell (p:=⟨bw,0,none⟩) hbw).symm,hr⟩
theorem next_any (ca:Option Addr) (cn ccap:Nat) (k:Int) (w:World) :
  Calls Tryz.prog 125 #[.slice ca cn ccap,.int .i64 k] w fun e w'=>e=.returned (.func (.func 156) #[] #[.pointer (some ⟨w.heap.size,0,none⟩),.pointer (some ⟨w.heap.size+1,0,none⟩)])∧w'=(w.alloc (.cells #[.slice ca cn ccap] 47)).alloc (.cells #[.int .i64 k] 3):=by
 go_enter Tryz.func125,Tryz.ntmps125
 go_wp2_with fail
 go_ret;exact⟨rfl,rfl⟩
theorem next_stops (n:Nat) (hn:1≤n) (fx:Nat→Prop) (bw b2 b3:Nat) (cb co cn ccap:Nat) (x:GOp) (k:Nat) (w:World)
  (hk:k<cn) (hk24:cn≤24) (h2:w.cell? ⟨b2,0,none⟩=some (.slice (some ⟨cb,co,none⟩) cn ccap)) (h3:w.cell? ⟨b3,0,none⟩=some (.int .i64 k))
  (hx0:w.cell? ⟨cb,co+k * 2,none⟩=some (.int .i64 x.kind)) (hx1:w.cell? ⟨cb,co+k * 2+1,none⟩=some (.int .i64 x.a)) (ha:0≤x.a) (hle:∀i∈nx x k,i≤cn)
  (hfx:∀b,fx b→b<w.heap.size∧b≠b3) (hbw:bw<w.heap.size) (hrow:∀b,RowB w bw b→b<w.heap.size∧b≠b3) :
  SeqStopsK Fence.wide n Tryz.prog 156 #[.pointer (some ⟨b2,0,none⟩),.pointer (some ⟨b3,0,none⟩)] (fun i:{ i:Nat // i≤cn }=>#[Value.int .i64 i.1]) (KpF fx bw) (fun xs=>xs.map (·.1)=nx x k) (fun pre=>pre.map (·.1) <+: nx x k) 2 w:=by
 intro l J Jx W hW hJ hJx hY h0;have y2:W.cell? ⟨b2,0,none⟩=some (.slice (some ⟨cb,co,none⟩) cn ccap):=eC hW h2;have y3:W.cell? ⟨b3,0,none⟩=some (.int .i64 k):=eC hW h3;have z0:W.cell? ⟨cb,co+k * 2,none⟩=some (.int .i64 x.kind):=eC hW hx0;have z1:W.cell? ⟨cb,co+k * 2+1,none⟩=some (.int .i64 x.a):=eC hW hx1;have hJ0:J [] (W.alloc (.cells #[.int .i64 x.kind,.int .i64 x.a] 51)):=hJ [] W _ none h0 (World.grownBy_alloc W _ none) (fun r e=>by cases e);have RA:=zF;have hsz:w.heap.size≤W.heap.size:=Ext.size hW;have hb3:=zY h3;refine callsIn_of_wp Tryz.func156 rfl trivial ?_ rfl;simp only [Tryz.ntmps156,List.size_toArray,List.length_cons,List.length_nil,Nat.reduceAdd,Nat.reduceSub,Array.replicate_succ,Array.replicate_zero,List.push_toArray,List.append_toArray,List.nil_append,List.cons_append];have hW1:Below w.heap.size w (W.alloc (.cells #[.int .i64 x.kind,.int .i64 x.a] 51)):=Ext.alloc hW _;have hrow1:∀b,RowB (W.alloc (.cells #[.int .i64 x.kind,.int .i64 x.a] 51)) bw b→b<w.heap.size∧b≠b3:=fun b h=>hrow b (RowB.of_below hW1 hbw h)
 have y3':=zF W (.cells #[.int .i64 x.kind,.int .i64 x.a] 51) ⟨b3,0,none⟩ (by rw [y3];rfl);rw [y3] at y3';have KK:IntKind.i64.wrap ((k:Int)+1)=(k:Int)+1:=IntWalk.i64_in _ (by omega);have HX0:=eH (fun W3 (hk3:KpF fx bw (W.alloc (.cells #[.int .i64 x.kind,.int .i64 x.a] 51)) W3) =>
  KpF.cell hk3 (b:=W.heap.size) (o:=0) (fun h=>by have:=(hfx _ h).1;omega) (fun h=>by have:=(hrow1 _ h).1;omega) (zCm W x.kind x.a 51))
 have HX3:=eH (fun W3 (hk3:KpF fx bw (W.alloc (.cells #[.int .i64 x.kind,.int .i64 x.a] 51)) W3) =>
  KpF.cell hk3 (b:=b3) (o:=0) (fun h=>(hfx _ h).2 rfl) (fun h=>(hrow1 _ h).2 rfl) y3')
 by_cases h9:x.kind=9
 ·have T9:(x.kind == 9)=true:=by simp [h9]
  have hnx:nx x k=[x.a.toNat]:=by simp [nx,h9]
  have T9n:(x.kind != 9)=false:=by simp [h9]
  clear h9;obtain⟨fn,tmps,assign,body,hy,hR⟩:=hY [] ⟨x.a.toNat,hle _ (by rw [hnx];simp)⟩ _ hJ0 (Nat.succ_pos 1);dsimp only at hy;rw [show ((x.a.toNat:Nat):Int)=x.a by omega] at hy
  gi_wp2
  refine hR.mono ?_;rintro e W3 (⟨rfl,hJ3,hk3⟩ | ⟨rfl,hJx3⟩)
  ·have q0:=HX0.out _ hk3
   gi_wp2
   go_end0;refine⟨⟨_,rfl⟩,.inl ⟨_,?_,hJ3⟩⟩;exact hnx.symm
  ·gi_wp2
   refine bodyPost_ret (results_none rfl _ _ _) rfl ?_;refine⟨⟨_,rfl⟩,.inr ⟨_,?_,hJx3⟩⟩;have hp:=List.prefix_refl (nx x k);exact(congrArg (· <+: nx x k) hnx).mp hp
 ·have T9:(x.kind == 9)=false:=by simp [h9]
  have T9n:(x.kind != 9)=true:=by simp [h9]
  by_cases h10:x.kind=10
  ·have T10:(x.kind == 10)=true:=by simp [h10]
   have T12:(x.kind != 12)=true:=by simp [h10]
   have hnx:nx x k=[x.a.toNat,k+1]:=by simp [nx,h10]
   clear h9 h10;obtain⟨fn,tmps,assign,body,hy,hR⟩:=hY [] ⟨x.a.toNat,hle _ (by rw [hnx];simp)⟩ _ hJ0 (Nat.succ_pos 1);dsimp only at hy;rw [show ((x.a.toNat:Nat):Int)=x.a by omega] at hy
   gi_wp2
   refine hR.mono ?_;rintro e W3 (⟨rfl,hJ3,hk3⟩ | ⟨rfl,hJx3⟩)
   ·have q0:=HX0.out _ hk3;have q3:=HX3.out _ hk3;clear hy hR;obtain⟨fn,tmps,assign,body,hy,hR⟩:=hY [⟨x.a.toNat,hle _ (by rw [hnx];simp)⟩] ⟨k+1,hle _ (by rw [hnx];simp)⟩ _ hJ3 (Nat.lt_succ_self 1);rw [show ((k+1:Nat):Int)=(k:Int)+1 by omega] at hy
    gi_wp2
    refine hR.mono ?_;rintro e W4 (⟨rfl,hJ4,hk4⟩ | ⟨rfl,hJx4⟩)
    ·gi_wp2
     go_end0;refine⟨⟨_,rfl⟩,.inl ⟨_,?_,hJ4⟩⟩;exact hnx.symm
    ·gi_wp2
     go_end0;refine⟨⟨_,rfl⟩,.inr ⟨_,?_,hJx4⟩⟩;have hp:=List.prefix_refl (nx x k);exact(congrArg (· <+: nx x k) hnx).mp hp
   ·gi_wp2
    refine bodyPost_ret (results_none rfl _ _ _) rfl ?_;refine⟨⟨_,rfl⟩,.inr ⟨_,?_,hJx3⟩⟩;exact⟨[k+1],hnx.symm⟩
  ·have T10:(x.kind == 10)=false:=by simp [h10]
   by_cases h12:x.kind=12
   ·have T12:(x.kind != 12)=false:=by simp [h12]
    have hnx:nx x k=[]:=by simp [nx,h12]
    clear h9 h10 h12
    gi_wp2
    refine⟨fun _ h=>(by cases h),?_⟩
    gi_wp2
    go_end0;refine⟨⟨_,rfl⟩,.inl ⟨_,?_,hJ0⟩⟩;exact hnx.symm
   ·have T12:(x.kind != 12)=true:=by simp [h12]
    have hnx:nx x k=[k+1]:=by simp [nx,h9,h10,h12]
    clear h9 h10 h12;obtain⟨fn,tmps,assign,body,hy,hR⟩:=hY [] ⟨k+1,hle _ (by rw [hnx];simp)⟩ _ hJ0 (Nat.succ_pos 1);dsimp only at hy;rw [show ((k+1:Nat):Int)=(k:Int)+1 by omega] at hy
    gi_wp2
    refine⟨fun _ h=>(by cases h),?_⟩
    gi_wp2
    refine hR.mono ?_;rintro e W4 (⟨rfl,hJ4,hk4⟩ | ⟨rfl,hJx4⟩)
    ·gi_wp2
     go_end0;refine⟨⟨_,rfl⟩,.inl ⟨_,?_,hJ4⟩⟩;exact hnx.symm
    ·gi_wp2
     go_end0;refine⟨⟨_,rfl⟩,.inr ⟨_,?_,hJx4⟩⟩;have hp:=List.prefix_refl (nx x k);exact(congrArg (· <+: nx x k) hnx).mp hp
theorem rangeF_ex {F:Fence} {n:Nat} {P:Program} {α:Type} {g:Operand} {ps:Array Tmp} {assign body:Code} {Q:Exit→Act→World→Prop} {a:Act} {w:World}
  (hro:F.round=none) (h1:1≤n) {gf:Nat} {lb:Array Value} (hg:a.eval g=.func (.func gf) #[] lb) (hFg:F.fn gf) (eg:∀args w,(callFunc gf args).run P w=.ok (.enter gf args) w)
  {encs:α→Array Value} {Kp:World→World→Prop} {S Sp:List α→Prop} {N:Nat} {w0:World} (hseq:SeqStopsK F (n - 1) P gf lb encs Kp S Sp N w0)
  (hKt:∀{A B C:World},Kp A B→Kp B C→Kp A C) (hKb:∀(W:World) (l:Nat) (o o':Obj),w.heap.size≤l→W.heap[l]?=some o→o.isCells=false→o.isWalk=false→Kp W (W.putObj l o')) (hb0:Below w0.heap.size w0 w) (hps:∀x,(encs x).size=ps.size)
  (I:List α→World→Prop) (Ix:Code→List α→World→Prop) (hI:OwnFrom w.heap.size I) (hIx:∀c,OwnFrom w.heap.size (Ix c)) (h0:I [] w)
  (hab:∃a₁:α→Act,(∀(l:Nat) (x:α) (W:World) (K:Act→World→Prop),K (a₁ x) W →
   assign.wpIn (F.inRound l) (n - 1 - 1) P (Exit.then K (fun _ _ _=>False)) { tmps:=(ps.zip (encs x)).foldl (fun t (p,v)=>t.setIfInBounds p v) a.tmps,defers:=[] } W) ∧
   (∀(l:Nat) (pre:List α) (x:α) (W:World),I pre W→pre.length<N→body.wpIn (F.inRound l) (n - 1 - 1) P (ownPostK Kp I Ix (pre++[x]) W) (a₁ x) W))
  (hdone:∀(D:Nat) (xs:List α) (W:World),w.heap.size≤D→S xs→I xs W→W.heap[D]?=some (.deferred (some []))→Q .normal { a with defers:={ target:=.collected D,args:=#[] }::a.defers } W)
  (hstop:∀(D:Nat) (c:Code) (pre:List α) (W:World),w.heap.size≤D→Sp pre→Ix c pre W→W.heap[D]?=some (.deferred (some []))→c.wpIn F n P Q { a with defers:={ target:=.collected D,args:=#[] }::a.defers } W) :
  (Code.rangeFunc g ps assign body).wpIn F n P Q a w:=by
 obtain⟨a₁,h1a,h1b⟩:=hab;exact wpIn_rangeFunc_ownF hro h1 hg hFg eg hseq hKt hKb hb0 hps I Ix hI hIx h0 a₁ h1a h1b hdone hstop
end Go.Proofs.YtpcjkfppacnkgaaGreatDoor
end
section
namespace Go.Proofs.YtpcjkfppacnkgaaGreatDoor
open Go Go.RowKit Go.Lib
theorem mul64_any (x y:Nat) (hx:x<18446744073709551616) (hy:y<18446744073709551616) (w:World) :
  Calls Tryz.prog 191 #[.int .u64 x,.int .u64 y] w fun e w'=>e=.returned (.tuple #[.int .u64 ((x * y / 18446744073709551616:Nat):Int),.int .u64 ((x * y % 18446744073709551616:Nat):Int)])∧w=w':=by
 obtain⟨bd,bt,bw,hhi⟩:=Lib.mul64_hi x y hx hy;have ba:=Lib.half_mul_le (a:=x / 4294967296) (b:=y / 4294967296) (by omega) (by omega);have bb:=Lib.half_mul_le (a:=x / 4294967296) (b:=y % 4294967296) (by omega) (by omega);have bc:=Lib.half_mul_le (a:=x % 4294967296) (b:=y / 4294967296) (by omega) (by omega);have ba':x / 4294967296 * (y / 4294967296)<18446744073709551616:=by omega
 have bb':x / 4294967296 * (y % 4294967296)<18446744073709551616:=by omega
 have bc':x % 4294967296 * (y / 4294967296)<18446744073709551616:=by omega
 have bh1:x / 4294967296 * (y / 4294967296)+(x / 4294967296 * (y % 4294967296)+x % 4294967296 * (y % 4294967296) / 4294967296) / 4294967296<18446744073709551616:=by omega
 have bh:x / 4294967296 * (y / 4294967296)+(x / 4294967296 * (y % 4294967296)+x % 4294967296 * (y % 4294967296) / 4294967296) / 4294967296+((x / 4294967296 * (y % 4294967296)+x % 4294967296 * (y % 4294967296) / 4294967296) % 4294967296+x % 4294967296 * (y / 4294967296)) / 4294967296<18446744073709551616:=by omega
 go_enter Tryz.func191,Tryz.ntmps191
 go_wp2
 simp only [Mul64.maskN x hx,Mul64.maskN y hy,Mul64.divN,Mul64.mulN,Mul64.addN,Mul64.wrapN _ bd,Mul64.wrapN _ bb',Mul64.wrapN _ bt,Mul64.maskN _ bt,Mul64.wrapN _ bc',Mul64.wrapN _ bw,Mul64.wrapN _ ba',Mul64.wrapN _ bh1,Mul64.wrapN _ bh,Mul64.wrapM (x * y)];rw [hhi]
 go_ret2
 exact⟨rfl,rfl⟩
theorem mul_any (y:Nat) (hy:y<18446744073709551616) (w:World) :
  Calls Tryz.prog 155 #[.int .u64 1,.int .u64 y] w fun e w'=>e=.returned (.tuple #[.int .u64 0,.int .u64 y])∧w=w':=by
 have c:=mul64_any 1 y (by omega) hy w;rw [Nat.one_mul,Nat.mod_eq_of_lt hy,Nat.div_eq_of_lt hy] at c;go_enter Tryz.func155,Tryz.ntmps155
 go_wp2_with (first
  | (go_at_call 191;refine c.mono ?_;rintro e w1 ⟨rfl,rfl⟩))
 go_ret2
 exact⟨rfl,rfl⟩
def repL (N k:Nat):List Value:=ints (List.replicate k (-1)++List.replicate (N - k) 0)
theorem zFb {N k:Nat} (h:k≤N):(repL N k).length=N:=by simp [repL,ints];omega
theorem infoIs:(Tryz.prog.info? 3).map (·.size)=some 1:=by kernel_rfl
theorem repL_splice {N k m:Nat} (_h:k+m≤N):splice (repL N k) k (ints (List.replicate m (-1)))=repL N (k+m):=by
 unfold splice repL ints;simp only [List.map_append,List.map_replicate,List.length_replicate];rw [List.take_left' (by simp),List.drop_append];simp only [List.length_replicate,List.drop_replicate];rw [show k - (k+m)=0 by omega,show k+m - k=m by omega,show N - k - m=N - (k+m) by omega,List.replicate_zero,List.nil_append,←List.append_assoc,List.replicate_append_replicate]
theorem repeat_any (v:Value) (bx ox cx N:Nat) (hN:1≤N) (hN':N≤24) (w:World) (hv:v=.slice (some ⟨bx,ox,none⟩) 1 cx) (hc:w.cell? ⟨bx,ox,none⟩=some (.int .i64 (-1))) :
  Calls Tryz.prog 123 #[v,.int .i64 N] w fun e w'=>e=.returned (.slice (some ⟨w.heap.size,0,none⟩) N N)∧Ext w w'∧w'.heap[w.heap.size]?=some (.cells (repL N N).toArray 3 (0,0)):=by
 subst hv;have RA:=zF;obtain⟨i0,hi0,hz0,hz1,hz2⟩:=info_parts vM;have HM:=eH (mul_any N (by omega));have KW:IntKind.u64.wrap (N:Int)=N:=by rw [IntKind.wrap_u64];omega
 have KW2:IntKind.i64.wrap (N:Int)=N:=IntWalk.i64_in _ (by omega);have KN:¬(N:Int)<0:=by omega
 have KL:¬(N:Int) > 9223372036854775807:=by omega
 have hb:=zY hc;go_enter Tryz.func123,Tryz.ntmps123
 go_upto_region 7 with (first
  | (go_at_call 155;refine(HM.out _).mono ?_;rintro e w1 ⟨rfl,rfl⟩)
  | (at_make;refine wpList_make_full _ rfl _ _ 30 rfl w.heap.size 3 i0 (.int .i64 0) 1 Tryz.underlying30 hi0 hz0 hz1 .i64 .i64 _ _ N rfl rfl rfl rfl (by rw [hz2];omega) (by unfold maxLen;omega) (Nat.le_refl _) ?_;intro w1 hown1 hgr1))
 have hE:Ext w w1:=uR hgr1;have hg1:w1.heap[w.heap.size]?=some (.cells (repL N 0).toArray 3 (0,0)):=by
  rcases hown1.2 with ⟨h,h'⟩ | ⟨g,cap,cur,e,_,hg,_,_,hcs,htk⟩
  ·omega
  ·simp only [Value.slice.injEq,Option.some.injEq,Addr.mk.injEq] at e;obtain⟨⟨rfl,-⟩,-,rfl⟩:=e;rw [hg]
   congr 2
   rw [←Array.toArray_toList (xs:=cur)]
   congr 1
   rw [List.take_of_length_le (by simp;omega)] at htk;rw [htk,show (Value.int IntKind.i64 0).cells=#[.int .i64 0] from rfl,toList_madeCells_one,Nat.mul_one];simp [repL,ints]
 have hc1:=eC hE hc;have HMIN:(ints (List.replicate 1 (-1))).length=Nat.min 1 N:=by rw [show Nat.min 1 N=1 from Nat.min_eq_left hN];rfl
 have HFIT:0+(ints (List.replicate 1 (-1))).length≤(repL N 0).length:=by rw [zFb (by omega)];simp [ints];omega
 have HSRC:∀(j:Nat) (v:Value),(ints (List.replicate 1 (-1)))[j]?=some v→w1.cell? ((⟨bx,ox,none⟩:Addr).add j)=some v:=fun j v hj=>by
  match j,hj with
  | 0,hj=>cases hj;rw [Addr.add_zero'];exact hc1
 clear hown1 hgr1
 go_wp2_with (first
  | (refine wpList_copy_splice rfl _ _ 30 30 rfl 3 Tryz.underlying30 infoIs _ _ _ _ _ _ rfl rfl w.heap.size 0 (repL N 0) 3 hg1 (ints (List.replicate 1 (-1))) HMIN (fun _=>⟨rfl,_,rfl,HSRC⟩) HFIT (by simp [ints,Value.oneCell']) w.heap.size w hE (Nat.le_refl _) ?_;intro w2 hg2 hE2))
 have HG2:Hid (w2.heap[w.heap.size]?=some (.cells (repL N 1).toArray 3 (0,0))):=by
  have:=hg2.out
  rwa [repL_splice (by omega)] at this
 have HE2:Hid (Ext w w2):=eH hE2;clear hg2 hE2 hg1 hE hc1
 go_loopw [8] (fun q wr=>∃k:Nat,1≤k∧k≤N∧q=.int .i64 k∧Ext w wr∧wr.heap[w.heap.size]?=some (.cells (repL N k).toArray 3 (0,0))) (fun q _=>N - (intOf q).toNat)
 case atStart=>exact⟨1,by omega,hN,rfl,HE2.out,HG2.out⟩
 case round =>
  obtain⟨k,hk1,hkN,rfl,he3,hg3⟩:=hrel;have HE3:=eH he3;have HG3:=eH hg3;clear he3 hg3 HE2 HG2;by_cases hlt:k<N
  ·have hne:¬N=k:=by omega
   have hne2:¬N - k=0:=by omega
   have hle:k≤N:=hkN;obtain⟨m,hm⟩:∃m,Nat.min k (N - k)=m:=⟨_,rfl⟩
   have hm1:1≤m∧m≤k∧k+m≤N:=by
    rw [←hm];have h1:=Nat.min_le_left k (N - k);have h2:=Nat.min_le_right k (N - k);have h3:1≤min k (N - k):=Nat.le_min.2 ⟨hk1,by omega⟩;exact⟨h3,h1,by have:Nat.min k (N - k)≤N - k:=h2;omega⟩
   obtain⟨hm1,hm2,hm3⟩:=hm1;have HMIN:(ints (List.replicate m (-1))).length=Nat.min k (N - k):=by rw [hm];simp [ints]
   have HFIT:k+(ints (List.replicate m (-1))).length≤(repL N k).length:=by rw [zFb (by omega)];simp [ints];omega
   have HSRC:∀(j:Nat) (v:Value),(ints (List.replicate m (-1)))[j]?=some v→wr.drew.cell? ((⟨w.heap.size,0,none⟩:Addr).add j)=some v:=fun j v hj=>by
    have hj':j<m:=by
     have:=(List.getElem?_eq_some_iff.1 hj).1;simpa [ints] using this
    show wr.cell? _=_;rw [Addr.add_lit,cell_of_row wr _ _ _ _ (0,0) HG3.out,Nat.zero_add];rw [←hj];simp only [repL,ints,List.getElem?_toArray,List.map_append,List.map_replicate];rw [List.getElem?_append_left (by simp;omega),List.getElem?_replicate,List.getElem?_replicate,if_pos (by omega),if_pos hj']
   have HGI:goInt (ints (List.replicate m (-1))).length=.int .i64 (m:Int):=by simp [ints,goInt]
   have HMI:Hid ((m:Int)=((ints (List.replicate m (-1))).length:Int)):=by unfold Hid;simp [ints]
   have KK:IntKind.i64.wrap ((k:Int)+(m:Int))=(k:Int)+m:=IntWalk.i64_in _ (by omega)
   go_wp2_with fail
   go_region_law (refine step_copy_splice rfl (.tmp 41) (.tmp 44) 30 30 rfl 3 Tryz.underlying30 infoIs (some ⟨w.heap.size,k,none⟩) (some ⟨w.heap.size,0,none⟩) (N - k) (N - k) k N (by simp [Act.eval,Act.put]) (by simp [Act.eval,Act.put]) w.heap.size k (repL N k) 3 (by exact HG3.out) (ints (List.replicate m (-1))) HMIN (fun _=>⟨rfl,_,rfl,HSRC⟩) HFIT (by simp [ints,Value.oneCell']) w.heap.size w HE3.out.drew (Nat.le_refl _) ?_;rw [HGI];intro w4 hg4 hb4)
   have hg5:=hg4.out;rw [repL_splice hm3] at hg5;clear hg4;simp only [Act.put,List.getElem_toArray,List.getElem_cons_succ,List.getElem_cons_zero,xL,xM,xN]
   go_wp2_with fail
   go_roundw
   case rel=>exact⟨k+m,by omega,by omega,by go_num,hb4,hg5⟩
   case measure=>simp [intOf];omega
  ·obtain rfl:k=N:=by omega
   go_wp2_with fail
   go_ret;exact⟨rfl,HE3.out,HG3.out⟩
end Go.Proofs.YtpcjkfppacnkgaaGreatDoor
end
section
namespace Go.Proofs.YtpcjkfppacnkgaaGreatDoor
open Go Go.RowKit
def HtsRet (B:Nat) (r:Option (List Int)) (e:Ending) (w':World):Prop:=match r with
 | none=>e=.returned (.tuple #[.slice none 0 0,.bool false])
 | some l=>∃v,e=.returned (.tuple #[v,.bool true])∧Ints w' (B≤·) v l
def zFl (N k:Nat):List Int:=List.replicate k (-1)++List.replicate (N - k) 0
theorem fillL_len {N k:Nat} (h:k≤N):(zFl N k).length=N:=by simp [zFl];omega
theorem fillL_set {N k:Nat} (h:k<N):(zFl N k).set k (-1)=zFl N (k+1):=by
 unfold zFl;rw [List.set_append_right _ _ (by simp),List.length_replicate,Nat.sub_self,show N - k=(N - (k+1))+1 by omega,List.replicate_succ,xN,List.replicate_succ',List.append_assoc];rfl
theorem fillL_full (N:Nat):zFl N N=List.replicate N (-1):=by simp [zFl]
def Hgt (N:Nat) (out:List Int):Prop:=out.length=N∧∀x∈out,-1≤x∧x≤8
theorem Hgt.get {N:Nat} {out:List Int} (h:Hgt N out) {k:Nat} (hk:k<N) : -1≤out.getD k 0∧out.getD k 0≤8:=by
 have hk':k<out.length:=by rw [h.1];exact hk
 have e:out.getD k 0=out[k]:=by simp [List.getD,List.getElem?_eq_getElem hk']
 rw [e];exact h.2 _ (List.getElem_mem hk')
theorem Hgt.set {N:Nat} {out:List Int} (h:Hgt N out) (k:Nat) {n:Int} (hn : -1≤n∧n≤8):Hgt N (out.set k n):=by
 refine⟨by rw [List.length_set];exact h.1,fun x hx=>?_⟩;rcases List.mem_or_eq_of_mem_set hx with h' | rfl
 ·exact h.2 x h'
 ·exact hn
theorem Hgt.i64 {N:Nat} {out:List Int} (h:Hgt N out):∀x∈out,I64 x:=fun x hx=>by have:=h.2 x hx;unfold I64;omega
theorem Hgt.out0 (N:Nat):Hgt N (out0 N):=by
 unfold Hgt Proofs.YtpcjkfppacnkgaaGreatDoor.out0;refine⟨by simp,fun x hx=>?_⟩;rcases List.mem_or_eq_of_mem_set hx with h' | rfl
 ·rw [List.eq_of_mem_replicate h'];omega
 ·omega
structure NxtR (w wx:World) (B:Nat) (o2:List Int) (x:GOp) (v:Value) (is:List Nat):Prop where
 ext:Ext w wx
 out:IRow wx w.heap.size w.heap.size o2
 row:RowAt wx B 1 v is.length (ints (nats is))
 kind:wx.cell? ⟨B,0,none⟩=some (.int .i64 x.kind)
theorem zAv (p:List GFunc) (v:Value) (S:Nat→Prop) (n:Nat) (w:World) (hp:zM w S v p) (hn:n<p.length) (hR:RightF p p[n]) :
    Calls Tryz.prog 43 #[v,.int .i64 n] w fun e w'=>HtsRet w.heap.size (htsR p p[n].code) e w'∧Ext w w':=by
  have hp0:=hp;obtain⟨b,o,cap,rfl,hcap,hby,_,_,vc,hC,hcode⟩:=hp.get hn;have hcode0:=hcode;obtain⟨ca,ccap,rfl,hcc,hcby,hops⟩:=hcode;have RA:=zF;have hlen:=hR.len;obtain⟨i0,hi0,hz0,hz1,hz2⟩:=info_parts vM;generalize hF:p[n]=F at *;obtain⟨A,L,C⟩:=F;simp only at *;have HP:=eH hp0;have HO:=eH hops;have HR:=eH hR;clear hF hp hp0 hops hcode0 hR;by_cases hN:C.length=0
  · obtain rfl:C=[]:=List.eq_nil_of_length_eq_zero hN
    have hres:htsR p []=none:=rfl;rw [hres];go_enter Tryz.func43,Tryz.ntmps43
    go_wp2_with (first
      | (at_make;refine wpList_make_full _ rfl _ _ 30 rfl w.heap.size 3 i0 (.int .i64 0) 1 Tryz.underlying30 hi0 hz0 hz1 .i64 .i64 _ _ 0 rfl rfl rfl rfl (by rw [hz2];omega) (by unfold maxLen;omega) (Nat.le_refl _) ?_;intro w1 hown1 hgr1))
    have hE:=uR hgr1;clear hown1 hgr1
    go_loopw [8] (fun i wr=>i=.int .i64 0∧Ext w wr) (fun i _=>0)
    case atStart=>exact⟨rfl,hE⟩
    case round =>
      obtain⟨rfl,hbr⟩:=hrel;have HB:=eH hbr;clear hbr hE
      go_wp2_with fail
      go_ret2
      exact⟨rfl,HB.out⟩
  · have hN':0<C.length:=by omega
    have TN:((C.length:Int) == 0)=false:=beq_eq_false_iff_ne.2 (by omega);clear hN;obtain⟨R,hRR⟩:∃R,htsR p C=R:=⟨_,rfl⟩
    rw [hRR];have HRR:=eH hRR;clear hRR;go_enter Tryz.func43,Tryz.ntmps43
    go_wp2_with (first
      | (at_make;refine wpList_make_full _ rfl _ _ 30 rfl w.heap.size 3 i0 (.int .i64 0) 1 Tryz.underlying30 hi0 hz0 hz1 .i64 .i64 _ _ C.length rfl rfl rfl rfl (by rw [hz2];omega) (by unfold maxLen;omega) (Nat.le_refl _) ?_;intro w1 hown1 hgr1))
    have hE:=uR hgr1;have hrow:IRow w1 w.heap.size w.heap.size (zFl C.length 0):=by
      have:=RowAt.of_own hown1;unfold IRow;rw [fillL_len (Nat.zero_le _)];have e:ints (zFl C.length 0)=(madeCells (Value.int IntKind.i64 0).cells (C.length * 1)).toList:=by
        rw [show (Value.int IntKind.i64 0).cells=#[.int .i64 0] from rfl,toList_madeCells_one,Nat.mul_one];simp [ints,zFl]
      rw [e];exact this
    clear hown1 hgr1
    go_loopw [8] (fun i wr=>∃k:Nat,k≤C.length∧i=.int .i64 k∧Ext w wr∧IRow wr w.heap.size w.heap.size (zFl C.length k)) (fun i _=>C.length - (intOf i).toNat)
    case atStart=>exact⟨0,Nat.zero_le _,rfl,hE,hrow⟩
    case round =>
      obtain⟨k,hk,rfl,hbr,hrw⟩:=hrel;have HB:=eH hbr;have HW:=eH hrw;clear hbr hrw hE hrow;by_cases hlt:k<C.length
      · obtain⟨c0,f0,_⟩:=HW.out.at (k:=k) (by rw [fillL_len hk];exact hlt)
        go_wp2_with fail
        go_roundw
        case rel=>exact⟨k+1,by omega,by go_num,HB.out.setCell (Nat.le_refl _) _,by
          have:=HW.out.store (k:=k) (by rw [fillL_len hk];exact hlt) (-1)
          rwa [fillL_set hlt] at this⟩
        case measure=>simp [intOf];omega
      · obtain rfl:k=C.length:=by omega
        rw [fillL_full] at HW;obtain⟨c0,f0,_⟩:=HW.out.at (k:=0) (by simpa using hN');clear hlt hk
        go_wp2_with fail
        have hE2:=HB.out.setCell (p:=⟨w.heap.size,0,none⟩) (Nat.le_refl _) (.int .i64 0);have hr2:=HW.out.store (k:=0) (by simpa using hN') 0;generalize wr.setCell ⟨w.heap.size,0,none⟩ (.int .i64 0)=w2 at *;clear HB HW c0 f0;have HF:Hid (zFa p C (C.length+1) (out0 C.length)=htsR p C):=by
          unfold Hid htsR;rw [if_neg (fun h=>by rw [h] at hN';exact absurd hN' (by simp))]
        rw [HRR.out] at HF
        go_loopw [9] (fun r wr=>∃k:Nat,k≤C.length+1∧r=.int .i64 k∧∃out,Hgt C.length out∧Ext w wr∧IRow wr w.heap.size w.heap.size out∧zFa p C (C.length+1 - k) out=R) (fun r _=>C.length+1 - (intOf r).toNat)
        case atStart=>exact⟨0,Nat.zero_le _,rfl,_,Hgt.out0 _,hE2,hr2,HF.out⟩
        case round =>
          obtain⟨k,hk,rfl,out,hgt,hbr,hrw,hres⟩:=hrel;have HG:=eH hgt;have HB:=eH hbr;have HW:=eH hrw;have HX:=eH hres;clear hgt hbr hrw hres hE2 hr2 HF;by_cases hlt:k<C.length+1
          · rename World=>wr1
            have HY:Hid ((match yQ p C 0 out with | none=>none | some o=>zFa p C (C.length - k) o)=R):=by
              have:=HX.out;rw [show C.length+1 - k=(C.length - k)+1 by omega] at this;rw [←oneFrom_zero];exact this
            have hle:k≤C.length:=by omega
            have TLE:decide (k≤C.length)=true:=by simp;omega
            go_wp2_with fail
            go_loopw [10] (fun j wr=>∃i:Nat,i≤C.length∧j=.int .i64 i∧∃o2,Hgt C.length o2∧Ext w wr∧IRow wr w.heap.size w.heap.size o2∧yQ p C i o2=yQ p C 0 out) (fun j _=>C.length - (intOf j).toNat)
            case atStart=>exact⟨0,Nat.zero_le _,rfl,_,HG.out,HB.out,HW.out,rfl⟩
            case round =>
              obtain⟨i,hi,rfl,o2,hgt2,hbr2,hrw2,hres2⟩:=hrel;have HG2:=eH hgt2;have HB2:=eH hbr2;have HW2:=eH hrw2;have HX2:=eH hres2;clear hgt2 hbr2 hrw2 hres2 HB HW HG HX;by_cases hil:i<C.length
              · obtain⟨c0,f0,_⟩:=HW2.out.at (k:=i) (by rw [HG2.out.1];exact hil)
                obtain⟨hh,hhd⟩:∃x,o2.getD i 0=x:=⟨_,rfl⟩
                rw [hhd] at c0;have HH:=eH hhd;clear hhd;by_cases h0:hh<0
                · go_wp2_with fail
                  go_roundw
                  case rel=>exact⟨i+1,by omega,by go_num,o2,HG2.out,HB2.out,HW2.out,by rw [←HX2.out,zDo p C o2 hil,one1_neg (by rw [HH.out];exact h0)]⟩
                  case measure=>simp [intOf];omega
                · obtain⟨cb,co,rfl,⟨_,x0,_⟩,_,x1,_⟩:=HO.out i hil
                  have hxop:=HR.out.op _ (List.getElem_mem hil);have hg8:=HG2.out.get hil;rw [HH.out] at hg8;have HBAD:=eH (one1_bad (p:=p) (code:=C) (out:=o2) hil (by rw [HH.out];exact h0));have HPUTY:=eH (one1_put (p:=p) (code:=C) (out:=o2) hil (by rw [HH.out];exact h0));have HLEX:=eH (nx_le (code:=C) HR.out.jumps hil);rw [HH.out] at HBAD HPUTY;rw [zDy hil] at HLEX;generalize C[i]=x at *;obtain⟨k0,k1,a0,aj,ac,tk0,tk1⟩:=hxop;have HA:Hid (x.kind=11→0≤x.a∧x.a<p.length):=fun h=>⟨a0,ac h⟩
                  have lv0:=zAz x;have lv1:kA x≤1:=by unfold kA;split<;>omega
                  have HNONE:Hid (one1 p C i o2=none→R=none):=fun h=>by
                    have:=HY.out;rw [←HX2.out,zDo p C o2 hil,h] at this;exact this.symm
                  have HSOME:Hid (∀o3,one1 p C i o2=some o3→yQ p C (i+1) o3=yQ p C 0 out):=fun o3 h=>by
                    rw [←HX2.out,zDo p C o2 hil,h]
                  have HQ0:Hid (Ext w (wr.alloc (.cells #[.int .i64 x.kind,.int .i64 x.a] 51))):=HB2.out.alloc _;have hsz0:=HB2.out.size;have hsz7:=zY c0;have y0:=eC HB2.out x0;have y1:=eC HB2.out x1;clear aj ac
                  go_wp2_with fail
                  by_cases hb1:hh<zP p x
                  · have hn:=HNONE.out (HBAD.out (by unfold badB;simp [hb1]))
                    clear HNONE HSOME HY HRR HX2 HPUTY HBAD;subst hn;refine kB (by kernel_rfl) (by kernel_rfl) ?_
                    repeat (first
                      | go_big_quiet_skip
                      | (go_big_quiet_want
                         unfold Oper.quiet;apply Exists.intro;refine⟨fun w' hw'=>?_,?_⟩
                         focus
                           have hcq:=Ext.keep hw';go_simp
                           first
                             | with_reducible rfl
                             | ((go_at_call 95;refine(takes_any p _ S x _ (zM.stays (Ext.stays (HQ0.out.trans hw')) HP.out) k0 k1 HA.out).mono ?_;rintro e w1 ⟨rfl,hb⟩;exact⟨rfl,hw'.trans hb⟩))
                         (try dsimp only [Act.put])
                         (try simp only [xL,xM,xN])
                         go_big_quiet_on))
                    refine wpQuiet_nil ?_;intro wq hq
                    go_wp2_with fail
                    go_ret2
                    exact⟨rfl,HQ0.out.trans hq⟩
                  · have hb2:zP p x≤hh:=by omega
                    refine kB (by kernel_rfl) (by kernel_rfl) ?_
                    repeat (first
                      | go_big_quiet_skip
                      | (go_big_quiet_want
                         unfold Oper.quiet;apply Exists.intro;refine⟨fun w' hw'=>?_,?_⟩
                         focus
                           have hcq:=Ext.keep hw';go_simp
                           first
                             | with_reducible rfl
                             | ((go_at_call 95;refine(takes_any p _ S x _ (zM.stays (Ext.stays (HQ0.out.trans hw')) HP.out) k0 k1 HA.out).mono ?_;rintro e w1 ⟨rfl,hb⟩;exact⟨rfl,hw'.trans hb⟩))
                         (try dsimp only [Act.put])
                         (try simp only [xL,xM,xN])
                         go_big_quiet_on))
                    refine wpQuiet_nil ?_;intro wq hq;have xk1:=eC hq (zCm wr x.kind x.a 51);have xa1:=eC hq (zFp wr x.kind x.a 51);have c1:=eC hq (eC ((eR wr).alloc (.cells #[.int .i64 x.kind,.int .i64 x.a] 51)) c0);have HQ1:=eH (HQ0.out.trans hq);have HQ4:=eH (((eR wr).alloc _).trans hq);rename World=>wq1
                    clear hq;obtain⟨nn,hnn⟩:∃nn,hh - zP p x+kA x=nn:=⟨_,rfl⟩
                    have HW1:Hid (IntKind.i64.wrap (hh - zP p x)=hh - zP p x):=IntWalk.i64_in _ (by omega);have HW2':Hid (IntKind.i64.wrap (hh - zP p x+kA x)=nn):=by unfold Hid;rw [IntWalk.i64_in _ (by omega)];exact hnn
                    have HNN:=eH hnn;clear hnn
                    go_wp2_with fail
                    have hw1:=HW1.out;have hw2:=HW2'.out;refine kB (by kernel_rfl) (by kernel_rfl) ?_
                    repeat (first
                      | go_big_quiet_skip
                      | (go_big_quiet_want
                         unfold Oper.quiet;apply Exists.intro;refine⟨fun w' hw'=>?_,?_⟩
                         focus
                           have hcq:=Ext.keep hw';go_simp
                           first
                             | with_reducible rfl
                             | ((go_at_call 95;refine(takes_any p _ S x _ (zM.stays (Ext.stays (HQ1.out.trans hw')) HP.out) k0 k1 HA.out).mono ?_;rintro e w1 ⟨rfl,hb⟩;exact⟨rfl,hw'.trans hb⟩)) | ((go_at_call 96;refine(leaves_any x _ k0 k1).mono ?_;rintro e w1 ⟨rfl,hb⟩;exact⟨rfl,hw'.trans hb⟩))
                         (try dsimp only [Act.put])
                         (try simp only [xL,xM,xN])
                         go_big_quiet_on))
                    refine wpQuiet_nil ?_;intro wq hq;clear hw1 hw2 HW1 HW2';have hnn:=HNN.out;rename World=>wq2
                    have HQ2:=eH (HQ1.out.trans hq);have HQ3:=eH (HQ4.out.trans hq);have xk:=eC hq xk1;have xa:=eC hq xa1;have hsz2:=HQ3.out.size;have HBB:Hid (badB p x hh=(decide (8<nn) || (decide (x.kind=12) && decide (0<nn)))):=by
                      unfold Hid badB;rw [show nOf p x hh=nn from hnn,decide_eq_false (by omega:¬hh<zP p x),Bool.false_or]
                    have HPUTZ:Hid (badB p x hh=false→one1 p C i o2=uZ C.length nn (nx x i) o2):=by
                      have:=HPUTY.out
                      rwa [show nOf p x hh=nn from hnn] at this
                    have nn0:0≤nn:=by omega
                    clear hq xk1 xa1 c1 c0 hnn HPUTY hb1;by_cases hb3:8<nn
                    · have hn:=HNONE.out (HBAD.out (by rw [HBB.out];simp [hb3]))
                      clear HNONE HSOME HY HRR HX2 HPUTZ HBAD HBB;subst hn
                      go_wp2_with fail
                      go_ret2
                      exact⟨rfl,HQ2.out⟩
                    · have nn8:nn≤8:=by omega
                      by_cases hb4:x.kind=12∧0<nn
                      · obtain⟨hk,hp0⟩:=hb4
                        have T12:(x.kind == 12)=true:=by simp [hk]
                        have TZ:(nn != 0)=true:=bne_iff_ne.2 (by omega);have hn:=HNONE.out (HBAD.out (by rw [HBB.out];simp [hk,hp0]));clear HNONE HSOME HY HRR HX2 HPUTZ HBAD HBB hk;subst hn
                        go_wp2_with fail
                        go_ret2
                        exact⟨rfl,HQ2.out⟩
                      · have HPUTX:=eH (HPUTZ.out (by
                          rw [HBB.out];simp only [Bool.or_eq_false_iff,Bool.and_eq_false_iff,decide_eq_false_iff_not];refine⟨hb3,?_⟩;by_cases hk:x.kind=12
                          · right;exact fun h=>hb4 ⟨hk,h⟩
                          · left;exact hk))
                        have HB12:Hid (x.kind=12→¬0<nn):=fun hk h=>hb4 ⟨hk,h⟩
                        have TN8:decide (8<nn)=false:=by simp;omega
                        clear hb3 hb4 HBB HPUTZ HBAD
                        go_upto_region 21 with fail
                        go_cut [87] (fun v wx=>v=.bool false∧wq2=wx)
                        case first =>
                          clear HPUTX HLEX HNONE HSOME HY HRR HX2;by_cases hk:x.kind=12
                          · have T12:(x.kind == 12)=true:=by simp [hk]
                            have TZ:(nn != 0)=false:=by rw [bne_eq_false_iff_eq];have:=HB12.out hk;omega
                            clear hk
                            go_wp2_with fail
                            go_meet
                            exact⟨rfl,rfl⟩
                          · have T12:(x.kind == 12)=false:=by simp [hk]
                            clear hk
                            go_wp2_with fail
                            go_meet
                            exact⟨rfl,rfl⟩
                        case rest =>
                          obtain⟨rfl,rfl⟩:=hcut
                          go_upto_region 24 with fail
                          go_cut [95] (fun v wx=>v=.bool (decide (x.kind=9∨x.kind=10))∧wq2=wx)
                          case first =>
                            clear HPUTX HLEX HNONE HSOME HY HRR HX2;by_cases hk:x.kind=9
                            · have T9:(x.kind == 9)=true:=by simp [hk]
                              have TT:decide (x.kind=9∨x.kind=10)=true:=by simp [hk]
                              clear hk
                              go_wp2_with fail
                              go_meet
                              exact⟨by rw [TT],rfl⟩
                            · have T9:(x.kind == 9)=false:=by simp [hk]
                              by_cases hk':x.kind=10
                              · have T10:(x.kind == 10)=true:=by simp [hk']
                                have TT:decide (x.kind=9∨x.kind=10)=true:=by simp [hk']
                                clear hk hk'
                                go_wp2_with fail
                                go_meet
                                exact⟨by rw [TT],rfl⟩
                              · have T10:(x.kind == 10)=false:=by simp [hk']
                                have TT:decide (x.kind=9∨x.kind=10)=false:=by simp [hk,hk']
                                clear hk hk'
                                go_wp2_with fail
                                go_meet
                                exact⟨by rw [TT],rfl⟩
                          case rest =>
                            obtain⟨rfl,rfl⟩:=hcut
                            go_upto_if 95 with fail
                            go_cut [13] (fun v wx=>NxtR w wx wr.heap.size o2 x v (if x.kind=9∨x.kind=10 then [x.a.toNat] else []))
                            case first =>
                              clear HPUTX HLEX HNONE HSOME HY HRR HX2;by_cases hJ:x.kind=9∨x.kind=10
                              · have TT:decide (x.kind=9∨x.kind=10)=true:=by simp [hJ]
                                have HJ:=eH hJ;clear hJ
                                go_wp2_with (first
                                  | (at_builtin;refine zE rfl _ _ 30 rfl wr.heap.size 3 i0 (.int .i64 0) 1 8 Tryz.underlying30 hi0 hz0 hz1 hz2 rfl (by decide) _ _ _ rfl (RowAt.nil _ wr.heap.size 1 none) _ _ (uK _ _ _) (by unfold maxLen;omega) (by omega) (by simp;omega) ?_;intro v1 Wv1 rv1;replace rv1:kO _ Wv1 wr.heap.size 1 (.slice none 0 0) v1 _ _:=rv1))
                                go_meet
                                rw [if_pos HJ.out];have hl4:RowAt Wv1 wr.heap.size 1 v1 1 (ints (nats [x.a.toNat])):=by have:=rv1.1;rwa [show nats [x.a.toNat]=[x.a] by simp [nats];omega]
                                exact⟨ext_row (HQ2.out.alloc _) (RowAt.nil _ wr.heap.size 1 none) (by omega) rv1,IRow.chg ((HW2.out.ext HQ3.out).ext ((eR wq2).alloc _)) rv1.2.1 (by simp [zB]),hl4,rv1.2.1.cell (b:=wr.heap.size) (o:=0) (by simp [zB]) (eC ((eR wq2).alloc _) xk)⟩
                              · have TT:decide (x.kind=9∨x.kind=10)=false:=by simp [hJ]
                                have HJ:=eH hJ;clear hJ
                                go_wp2_with fail
                                go_meet
                                rw [if_neg HJ.out];exact⟨HQ2.out,HW2.out.ext HQ3.out,RowAt.nil _ _ _ _,xk⟩
                            case rest =>
                              obtain⟨he5,hw5,hl5,hk5⟩:=hcut;have HE5:=eH he5;have HW5:=eH hw5;have HL5:=eH hl5;clear he5 hw5 hl5 xk xa hsz2 HQ3 HQ2 HQ1 HQ4 HB12 RA;rename World=>w5
                              have hk5':=hk5
                              go_upto_region 26 with fail
                              go_cut [108] (fun v wx=>v=.bool (decide (¬(x.kind=9∨x.kind=12)))∧w5=wx)
                              case first =>
                                clear HPUTX HLEX HNONE HSOME HY HRR HX2;by_cases hk:x.kind=9
                                · have T9:(x.kind != 9)=false:=by simp [hk]
                                  have TT:decide (¬(x.kind=9∨x.kind=12))=false:=by simp [hk]
                                  clear hk
                                  go_wp2_with fail
                                  go_meet
                                  exact⟨by rw [TT],rfl⟩
                                · have T9:(x.kind != 9)=true:=by simp [hk]
                                  by_cases hk':x.kind=12
                                  · have T12:(x.kind != 12)=false:=by simp [hk']
                                    have TT:decide (¬(x.kind=9∨x.kind=12))=false:=by simp [hk']
                                    clear hk hk'
                                    go_wp2_with fail
                                    go_meet
                                    exact⟨by rw [TT],rfl⟩
                                  · have T12:(x.kind != 12)=true:=by simp [hk']
                                    have TT:decide (¬(x.kind=9∨x.kind=12))=true:=by simp [hk,hk']
                                    clear hk hk'
                                    go_wp2_with fail
                                    go_meet
                                    exact⟨by rw [TT],rfl⟩
                              case rest =>
                                obtain⟨rfl,rfl⟩:=hcut
                                go_upto_if 108 with fail
                                go_cut [13] (fun v wx=>Ext w wx∧IRow wx w.heap.size w.heap.size o2∧RowAt wx wr.heap.size 1 v (nx x i).length (ints (nats (nx x i))))
                                case first =>
                                  obtain⟨L5,hL5⟩:∃L5,(if x.kind=9∨x.kind=10 then [x.a.toNat] else [])=L5:=⟨_,rfl⟩
                                  rw [hL5] at HL5;have HNX:Hid (nx x i=L5++if x.kind=9∨x.kind=12 then [] else [i+1]):=by unfold Hid nx;rw [hL5]
                                  have hlen5:L5.length≤1:=by rw [←hL5];split<;>simp
                                  clear hL5;obtain⟨a13,cap13,rfl,hs1,hs2⟩:=HL5.out.shape;have hsz5:=HE5.out.size;have hsz6:=zY hk5;clear HPUTX HLEX HNONE HSOME HY HRR HX2;by_cases hJ:x.kind=9∨x.kind=12
                                  · have TT:decide (¬(x.kind=9∨x.kind=12))=false:=by simp [hJ]
                                    have HJ:=eH hJ;clear hJ
                                    go_wp2_with fail
                                    go_meet
                                    rw [HNX.out,if_pos HJ.out,List.append_nil];exact⟨HE5.out,HW5.out,HL5.out⟩
                                  · have TT:decide (¬(x.kind=9∨x.kind=12))=true:=by simp [hJ]
                                    have HJ:=eH hJ;clear hJ
                                    go_wp2_with (first
                                      | (at_builtin;refine zE rfl _ _ 30 rfl wr.heap.size 3 i0 (.int .i64 0) 1 8 Tryz.underlying30 hi0 hz0 hz1 hz2 rfl (by decide) _ _ _ rfl (RowAt.ext HL5.out ((eR w5).alloc _) (by decide)) _ _ (uK _ _ _) (by unfold maxLen;omega) (by omega) (by simp;omega) ?_;intro v2 Wv2 rv2))
                                    go_meet
                                    rw [HNX.out,if_neg HJ.out];have hl4:RowAt Wv2 wr.heap.size 1 v2 (L5++[i+1]).length (ints (nats (L5++[i+1]))):=by
                                      have:=rv2.1
                                      rwa [show nats (L5++[i+1])=nats L5++[(i:Int)+1] by simp [nats],yK,List.length_append]
                                    exact⟨ext_row (HE5.out.alloc _) (RowAt.ext HL5.out ((eR w5).alloc _) (by decide)) (by omega) rv2,IRow.chg (HW5.out.ext ((eR w5).alloc _)) rv2.2.1 (fun h=>by have:=HL5.out.le _ h;omega),hl4⟩
                                case rest =>
                                  obtain⟨he6,hw6,hl6⟩:=hcut;have HE6:=eH he6;have HW6:=eH hw6;clear he6 hw6 HE5 HW5 HL5 hk5;rename World=>w6
                                  obtain⟨a13,cap13,rfl,hs1,hs2⟩:=hl6.shape;have HL6:=eH hl6;clear hl6;have HPUT:=eH HPUTX.out.symm;obtain⟨L6,hL6⟩:∃L6,nx x i=L6:=⟨_,rfl⟩
                                  rw [hL6] at HL6 HLEX hs1 HPUT ⊢;have hL2:L6.length≤2:=by rw [←hL6];unfold nx;(repeat' split)<;>simp
                                  clear hL6 HPUTX hk5'
                                  go_wp2_with fail
                                  go_loopw [14] (fun q wy=>∃m:Nat,m≤L6.length∧q=.int .i64 m∧∃o3,Hgt C.length o3∧Ext w wy∧IRow wy w.heap.size w.heap.size o3∧RowAt wy wr.heap.size 1 (.slice a13 L6.length cap13) L6.length (ints (nats L6))∧uZ C.length nn (L6.drop m) o3=one1 p C i o2) (fun q _=>L6.length - (intOf q).toNat)
                                  case atStart=>exact⟨0,Nat.zero_le _,rfl,_,HG2.out,HE6.out,HW6.out,HL6.out,HPUT.out⟩
                                  case round =>
                                    obtain⟨m,hm,rfl,o3,hgt3,hb3,hrw3,hl3,hres3⟩:=hrel;have HG3:=eH hgt3;have HB3:=eH hb3;have HW3:=eH hrw3;have HL3:=eH hl3;have HX3:=eH hres3;clear hgt3 hb3 hrw3 hl3 hres3;by_cases hml:m<L6.length
                                    · have hl3':=HL3.out
                                      rw [←nats_len] at hl3';obtain⟨g,oo,rfl,hg,cj⟩:=RowAt.get_int (l:=nats L6) hl3' (q:=m) (by rw [nats_len];exact hml);clear hl3';have HD:=eH (putAll_drop (len:=C.length) (n:=nn) (is:=L6) (out:=o3) (q:=m) hml);have hjl:L6.getD m 0≤C.length:=HLEX.out _ (by rw [show L6.getD m 0=L6[m] by rw [List.getD_eq_getElem?_getD,List.getElem?_eq_getElem hml];rfl];exact List.getElem_mem hml);rw [nats_get _ _ hml] at cj;generalize L6.getD m 0=j at *;by_cases hjN:j=C.length
                                      · have TJ:((j:Int) == (C.length:Int))=true:=beq_iff_eq.2 (by omega)
                                        have hn:=HNONE.out (by rw [←HX3.out,HD.out,if_pos (.inl hjN)]);clear HNONE HSOME HY HRR HX2 HPUT HX3 HD hjN;subst hn
                                        go_wp2_with fail
                                        go_ret2
                                        exact⟨rfl,HB3.out⟩
                                      · have TJ:((j:Int) == (C.length:Int))=false:=beq_eq_false_iff_ne.2 (by omega)
                                        have hjlt:j<C.length:=by omega
                                        obtain⟨cc,ff,_⟩:=HW3.out.at (k:=j) (by rw [HG3.out.1];omega);obtain⟨hj3,hj3d⟩:∃z,o3.getD j 0=z:=⟨_,rfl⟩
                                        rw [hj3d] at cc;have HJ:=eH hj3d;clear hj3d;by_cases hbad:0≤hj3∧hj3≠nn
                                        · obtain⟨hb0,hb1⟩:=hbad
                                          have TB:(hj3 != nn)=true:=bne_iff_ne.2 hb1;have hn:=HNONE.out (by rw [←HX3.out,HD.out,HJ.out,if_pos (.inr ⟨hb0,hb1⟩)]);clear HNONE HSOME HY HRR HX2 HPUT HX3 HD hb1 hjN;subst hn
                                          go_wp2_with fail
                                          go_ret2
                                          exact⟨rfl,HB3.out⟩
                                        · have HNX:Hid (uZ C.length nn (L6.drop (m+1)) (o3.set j nn)=one1 p C i o2):=by
                                            unfold Hid;rw [←HX3.out,HD.out,HJ.out,if_neg (fun h=>h.elim (fun h=>hjN h) (fun h=>hbad h))]
                                          have hst:=HW3.out.store (k:=j) (by rw [HG3.out.1];omega) nn;have hls:=RowAt.chg HL3.out (zO _ w.heap.size j (.int .i64 nn)) (fun g' hg' e=>by
                                            simp only [zB] at hg'
                                            split at hg'
                                            · cases hg'
                                            · cases hg';omega) (by decide)
                                          have HS1:=eH hst;have HS2:=eH hls;clear hst hls;by_cases hneg:hj3<0
                                          · clear hbad hjN
                                            go_wp2_with fail
                                            go_roundw
                                            case rel=>exact⟨m+1,by omega,by go_num,_,HG3.out.set j (by omega),HB3.out.setCell (Nat.le_refl _) _,HS1.out,HS2.out,HNX.out⟩
                                            case measure=>simp [intOf];omega
                                          · have TB:(hj3 != nn)=false:=by
                                              rw [bne_eq_false_iff_eq];exact Decidable.byContradiction fun h=>hbad ⟨by omega,h⟩
                                            have hpos:0≤hj3:=by omega
                                            clear hbad hneg hjN
                                            go_wp2_with fail
                                            go_roundw
                                            case rel=>exact⟨m+1,by omega,by go_num,_,HG3.out.set j (by omega),HB3.out.setCell (Nat.le_refl _) _,HS1.out,HS2.out,HNX.out⟩
                                            case measure=>simp [intOf];omega
                                    · obtain rfl:m=L6.length:=by omega
                                      have HZ:Hid (yQ p C (i+1) o3=yQ p C 0 out):=HSOME.out o3 (by have:=HX3.out;rw [List.drop_length] at this;exact this.symm);clear hml
                                      go_wp2_with fail
                                      go_roundw
                                      case rel=>exact⟨i+1,by omega,by go_num,o3,HG3.out,HB3.out,HW3.out,HZ.out⟩
                                      case measure=>simp [intOf];omega
              · obtain rfl:i=C.length:=by omega
                clear hil
                go_wp2_with fail
                go_roundw
                case rel=>exact⟨k+1,by omega,by go_num,o2,HG2.out,HB2.out,HW2.out,by
                  rw [←HY.out,←HX2.out,oneFrom_end,show C.length+1 - (k+1)=C.length - k by omega]⟩
                case measure=>simp [intOf];omega
          · obtain rfl:k=C.length+1:=by omega
            have HY:Hid (R=some out):=by
              have:=HX.out;rw [Nat.sub_self] at this;exact this.symm
            have hy:=HY.out;clear HY HRR HX;subst hy;clear hlt
            go_wp2_with fail
            go_ret2
            refine⟨⟨_,rfl,?_⟩,HB.out⟩;have h:=HW.out.ints (by rw [HG.out.1];omega) HG.out.i64 (w.heap.size≤·) (fun _ h=>h);rw [HG.out.1] at h;exact h
end Go.Proofs.YtpcjkfppacnkgaaGreatDoor
end
