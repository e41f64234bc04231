/- Contracts and plain facts. -/
import Derived.Test.YtpcjkfppacnkgaaGreatDoorGPAF
import Derived.Laws.ResultCell
set_option maxHeartbeats 4000000
set_option maxRecDepth 100000
namespace Go.Proofs.YtpcjkfppacnkgaaGreatDoor
open Go Go.RowKit
def Cx (W:World) (b j:Nat) (v:Value):Prop:=W.cell? ⟨b,j,none⟩=some v∧W.frozen? ⟨b,j,none⟩=false
theorem Cx.lt {W:World} {b j:Nat} {v:Value} (h:Cx W b j v):b<W.heap.size:=zY h.1
theorem Cx.new (W:World) (vs:List Value) (t:TypeId) {j:Nat} {v:Value} (hj:vs[j]?=some v):Cx (W.alloc (.cells vs.toArray t)) W.heap.size j v:=by
 refine⟨?_,World.frozen?_alloc_new W vs.toArray t j⟩;have:=World.cell?_alloc_new W vs.toArray t j;rw [this,List.getElem?_toArray,hj]
theorem Cx.ext {W W':World} {b j:Nat} {v:Value} (h:Cx W b j v) (he:Ext W W'):Cx W' b j v :=
 ⟨eC he h.1,by rw [Ext.keepF he _ (by rw [h.1];rfl)];exact h.2⟩
theorem Cx.chg {M:Nat→Prop} {W W':World} {b j:Nat} {v:Value} (h:Cx W b j v) (hc:Chg M W W') (hM:¬M b):Cx W' b j v :=
 ⟨Chg.cell hc hM h.1,by rw [Chg.frozen hc hM h.lt];exact h.2⟩
theorem Cx.set {W:World} {b j:Nat} {v:Value} (h:Cx W b j v) (u:Value):Cx (W.setCell ⟨b,j,none⟩ u) b j u :=
 ⟨World.cell?_setCell_same' _ _ _ (by rw [h.1];rfl),by rw [World.frozen?_setCell];exact h.2⟩
theorem Cx.other {W:World} {b j b' j':Nat} {v:Value} (h:Cx W b j v) (hne:b≠b'∨j≠j') (u:Value):Cx (W.setCell ⟨b',j',none⟩ u) b j v :=
 ⟨by rw [World.cell?_setCell_other (a:=⟨b',j',none⟩) (b:=⟨b,j,none⟩) (h:=by intro e;simp only [Addr.mk.injEq] at e;omega)];exact h.1,by rw [World.frozen?_setCell];exact h.2⟩
theorem qG {P:Program} {fn:Func} {p:Tmp} {ty:TypeId} (h:fn.results=#[.cell p ty]) (tmps:Array Value) (w:World) (b o:Nat) (cs:List Value) (d:TypeDesc)
  (hp:tmps.getD p undef=.pointer (some ⟨b,o,none⟩)) (hc:w.rangeAt b o cs) (hu:P.underlying ty=some d) (hd:d.isRow=true) (hi:(P.info? ty).map (·.size)=some cs.length) :
  (results fn tmps).run P w=.ok (.agg cs.toArray) w:=by
 have hp':tmps[p]?.getD undef=.pointer (some ⟨b,o,none⟩):=by simpa using hp
 simp [results,h,hp',asAddr,run_loadVar_mid w b o ty cs d hc hu hd hi]
theorem range3 {w:World} {b:Nat} {x y z:Value} (h0:w.cell? ⟨b,0,none⟩=some x) (h1:w.cell? ⟨b,1,none⟩=some y) (h2:w.cell? ⟨b,2,none⟩=some z):w.rangeAt b 0 [x,y,z]:=by
 intro j v hj;rw [Nat.zero_add]
 match j,hj with
 | 0,hj=>cases hj;exact h0
 | 1,hj=>cases hj;exact h1
 | 2,hj=>cases hj;exact h2
theorem IRow.made {w:World} {base:Nat} {e:TypeId} {g n:Nat} (h:w.ownsRow base e 1 (.slice (some ⟨g,0,none⟩) n n) n (madeCells (Value.int .i64 0).cells (n * 1)).toList):IRow w base g (List.replicate n 0):=by
 have:=RowAt.of_own h;unfold IRow;rw [List.length_replicate];rw [show (Value.int .i64 0).cells=#[.int .i64 0] from rfl,toList_madeCells_one,Nat.mul_one] at this
 rwa [show Proofs.YtpcjkfppacnkgaaGreatDoor.ints (List.replicate n 0)=List.replicate n (Value.int .i64 0) by simp [Proofs.YtpcjkfppacnkgaaGreatDoor.ints]]
theorem Sl.one {α:Type} {E:Nat→Nat→α→Prop} {sz bytes b o:Nat} {y:α} (h:E b o y) (hb:bytes≤1000):Sl E sz bytes (.slice (some ⟨b,o,none⟩) 1 1) [y]:=by
 refine⟨_,1,rfl,Nat.le_refl _,⟨by simp;omega,by decide⟩,fun i hi=>⟨b,o,rfl,?_⟩⟩;have:i=0:=by simpa using hi
 subst this;rw [Nat.zero_mul,Nat.add_zero];exact h
theorem box3 {W:World} {b:Nat} {u0 u1 u2:Value} (h0:Cx W b 0 u0) (h1:Cx W b 1 u1) (h2:Cx W b 2 u2) (x y z:Value) :
  (((W.setCell ⟨b,0,none⟩ x).setCell ⟨b,1,none⟩ y).setCell ⟨b,2,none⟩ z).rangeAt b 0 [x,y,z] :=
 range3 (((h0.set x).other (.inr (by decide)) y).other (.inr (by decide)) z).1 (((h1.other (.inr (by decide)) x).set y).other (.inr (by decide)) z).1 (((h2.other (.inr (by decide)) x).other (.inr (by decide)) y).set z).1
theorem chg3 (W:World) (b:Nat) (x y z:Value):Chg (·=b) W (((W.setCell ⟨b,0,none⟩ x).setCell ⟨b,1,none⟩ y).setCell ⟨b,2,none⟩ z):=((zO _ _ 0 _).trans (zO _ _ 1 _)).trans (zO _ _ 2 _)
theorem ext3 {w W:World} (h:Ext w W) (x y z:Value):Ext w (((W.setCell ⟨w.heap.size,0,none⟩ x).setCell ⟨w.heap.size,1,none⟩ y).setCell ⟨w.heap.size,2,none⟩ z) :=
 ((h.setCell (p:=⟨w.heap.size,0,none⟩) (Nat.le_refl _) _).setCell (p:=⟨w.heap.size,1,none⟩) (Nat.le_refl _) _).setCell (p:=⟨w.heap.size,2,none⟩) (Nat.le_refl _) _
theorem kI {P:Program} {fn:Func} {p u:Tmp} {ty:TypeId} (h:fn.results=#[.cell p ty,.tmp u]) (tmps:Array Value) (w:World) (b o:Nat) (cs:List Value) (d:TypeDesc)
  (hp:tmps.getD p undef=.pointer (some ⟨b,o,none⟩)) (hc:w.rangeAt b o cs) (hu:P.underlying ty=some d) (hd:d.isRow=true) (hi:(P.info? ty).map (·.size)=some cs.length) :
  (results fn tmps).run P w=.ok (.tuple #[.agg cs.toArray,tmps.getD u undef]) w:=by
 rw [results_cell_tmp h];have hp':tmps[p]?.getD undef=.pointer (some ⟨b,o,none⟩):=by simpa using hp
 simp [hp',asAddr,run_loadVar_mid w b o ty cs d hc hu hd hi,Result.andThen]
theorem trimGo_skip {l:List Int} {C:List GOp} {k:Nat} (hk:k<C.length) (hl:l.length=C.length) (h:¬0≤l.getD k 0):jE l (C.drop k) (l.drop k)=jE l (C.drop (k+1)) (l.drop (k+1)):=by
 have hk':k<l.length:=by omega
 rw [List.drop_eq_getElem_cons hk,List.drop_eq_getElem_cons hk'];simp only [List.getD,List.getElem?_eq_getElem hk',Option.getD_some] at h;simp only [jE,if_neg h]
theorem trimGo_put {l:List Int} {C:List GOp} {k:Nat} (hk:k<C.length) (hl:l.length=C.length) (h:0≤l.getD k 0):jE l (C.drop k) (l.drop k)=jW l C[k]::jE l (C.drop (k+1)) (l.drop (k+1)):=by
 have hk':k<l.length:=by omega
 rw [List.drop_eq_getElem_cons hk,List.drop_eq_getElem_cons hk'];simp only [List.getD,List.getElem?_eq_getElem hk',Option.getD_some] at h;simp only [jE,if_pos h]
structure TI (w2 w5:World) (g b10 N:Nat) (A L:Int) (l:List Int) (acc:List GOp) (wx:World):Prop where
 ext:Ext w2 wx
 tt:∃t,IRow wx g g t∧t.length=N∧∀i,i<N→t.getD i 0=qR l i
 c0:Cx wx b10 0 (.int .i64 A)
 c1:Cx wx b10 1 (.int .i64 L)
 c2:∃v,Cx wx b10 2 v∧RowAt wx (b10+1) 2 v acc.length (acc.flatMap opF)
 size:w5.heap.size≤wx.heap.size
theorem TI.ext' {w2 w5:World} {g b10 N:Nat} {A L:Int} {l:List Int} {acc:List GOp} {wx wy:World} (h:TI w2 w5 g b10 N A L l acc wx) (he:Ext wx wy):TI w2 w5 g b10 N A L l acc wy:=by
 obtain⟨t,h1,h2,h3⟩:=h.tt;obtain⟨v,h4,h5⟩:=h.c2;exact⟨h.ext.trans he,⟨t,h1.ext he,h2,h3⟩,h.c0.ext he,h.c1.ext he,⟨v,h4.ext he,h5.ext he (by decide)⟩,Nat.le_trans h.size he.size⟩
theorem src_op (w:World) (y:GOp) (t:TypeId):qL (w.alloc (.cells #[.int .i64 y.kind,.int .i64 y.a] t)) 2 (.slice (some ⟨w.heap.size,0,none⟩) 1 1) 1 (opF y):=by
 refine⟨_,1,rfl,rfl,by simp [opF,Value.oneCell'],.inr ⟨_,rfl,fun j u hj=>?_⟩⟩
 match j,hj with
 | 0,hj=>cases hj;rw [Addr.add_zero'];exact World.cell?_alloc_new w _ _ 0
 | 1,hj=>cases hj;exact World.cell?_alloc_new w _ _ 1
theorem infoO:(Tryz.prog.info? 51).map (fun i=>(i.zero,i.size,i.bytes))=some (some (.agg #[.int .i64 0,.int .i64 0]),2,16):=by kernel_rfl
theorem TI.grow {w2 w5:World} {g b10 N:Nat} {A L:Int} {l:List Int} {acc:List GOp} {wx W7 W8:World} {y:GOp} {v v1:Value} (h:TI w2 w5 g b10 N A L l acc wx) (hb:w2.heap.size≤b10) (hg:g<b10)
  (he:Ext wx W7) (hc:Cx wx b10 2 v) (hr:RowAt wx (b10+1) 2 v acc.length (acc.flatMap opF)) (hn:kO W7 W8 (b10+1) 2 v v1 (acc.length+1) (acc.flatMap opF++opF y)) :
  TI w2 w5 g b10 N A L l (acc++[y]) (W8.setCell ⟨b10,2,none⟩ v1)∧Cx W8 b10 2 v:=by
 obtain⟨t,h1,h2,h3⟩:=h.tt;have hM:∀q,zB v=some q→b10+1≤q:=hr.le;have hch:=hn.2.1;have k2:Cx W8 b10 2 v:=(hc.ext he).chg hch (fun e=>by have:=hM _ e;omega);refine⟨⟨?_,⟨t,?_,h2,h3⟩,?_,?_,⟨v1,k2.set v1,?_⟩,?_⟩,k2⟩
 ·exact(Chg.ext_from (h.ext.trans he) hch (fun q e=>by have:=hM _ e;omega)).setCell (p:=⟨b10,2,none⟩) hb _
 ·exact((h1.ext he).chg hch (fun e=>by have:=hM _ e;omega)).other (by omega) _
 ·exact((h.c0.ext he).chg hch (fun e=>by have:=hM _ e;omega)).other (.inr (by omega)) _
 ·exact((h.c1.ext he).chg hch (fun e=>by have:=hM _ e;omega)).other (.inr (by omega)) _
 ·rw [List.length_append,List.length_singleton,List.flatMap_append,List.flatMap_singleton];exact hn.1.chg (zO W8 b10 2 v1) (fun q e hq=>by have:=hn.1.le _ e;omega) (by decide)
 ·have e1:=h.size;have e2:=he.size;have e3:=hch.size;have e4:(W8.setCell ⟨b10,2,none⟩ v1).heap.size=W8.heap.size:=zAk b10 [v1] 2 W8;omega
theorem zGw (l:List Int) (hl:l.length≤1000000):∀(C:List GOp) (m:List Int),(∀y∈C,I64 y.kind∧I64 y.a)→∀y∈jE l C m,I64 y.kind∧I64 y.a
 | [],m,_,y,hy=>by simp [jE] at hy
 | x::C,[],_,y,hy=>by simp [jE] at hy
 | x::C,h::m,hC,y,hy=>by
  have hr:=zGw l hl C m (fun z hz=>hC z (List.mem_cons_of_mem _ hz)) y;have hx:=hC x (List.mem_cons_self ..);unfold jE at hy
  split at hy
  ·rcases List.mem_cons.mp hy with rfl | h
   ·unfold jW;split
    ·refine⟨hx.1,I64.nat ?_⟩;have:qR l x.a.toNat≤l.length:=Nat.le_trans List.countP_le_length (List.length_take_le' _ _);omega
    ·exact hx
   ·exact hr h
  ·exact hr hy
theorem keepN_le (l:List Int) (n:Nat):qR l n≤n:=Nat.le_trans List.countP_le_length (by rw [List.length_take];omega)
theorem indexI_any (l:List Int) (v:Value) (x:Int) (S:Nat→Prop) (w:World) (hl:Ints w S v l) :
  Calls Tryz.prog 128 #[v,.int .i64 x] w fun e w'=>(∃i:Int,e=.returned (.int .i64 i)∧(0≤i↔x∈l)∧I64 i)∧Ext w w':=by
 have HL:=eH hl;obtain⟨pa,ca,rfl,hca,hba,_⟩:=hl;go_enter Tryz.func128,Tryz.ntmps128
 go_wp2_with fail
 go_loopw [8] (fun q wr=>∃k:Nat,k≤l.length∧q=.int .i64 k∧Ext w wr∧x ∉ l.take k) (fun q _=>l.length - (intOf q).toNat)
 case atStart=>exact⟨0,Nat.zero_le _,rfl,eR _,by simp⟩
 case round =>
  obtain⟨k,hk,rfl,hb3,htk⟩:=hrel;have HB3:=eH hb3;have HTK:=eH htk;clear hb3 htk;by_cases hlt:k<l.length
  ·obtain⟨ba,oa,_,e1,_,_,_,x0,_⟩:=HL.out.get hlt;simp only [Value.slice.injEq] at e1;obtain⟨rfl,-,rfl⟩:=e1;rw [Nat.mul_one] at x0;have x1:=eC HB3.out x0;have HM:Hid (l[k]∈l):=List.getElem_mem hlt;have HS:Hid (l.take (k+1)=l.take k++[l[k]]):=List.take_succ_eq_append_getElem hlt;clear x0;generalize l[k]=u at *;by_cases hu:x=u
   ·have TT:(x == u)=true:=by simp [hu]
    have HX:Hid (x∈l):=hu ▸ HM.out;clear hu
    go_wp2_with fail
    go_ret;exact⟨⟨k,rfl,⟨fun _=>HX.out,fun _=>by omega⟩,I64.nat (by omega)⟩,HB3.out⟩
   ·have TT:(x == u)=false:=by simp [hu]
    have HX:Hid (x ∉ l.take (k+1)):=by unfold Hid;rw [HS.out,List.mem_append,List.mem_singleton];exact fun h=>h.elim HTK.out hu
    clear hu
    go_wp2_with fail
    go_roundw
    case rel=>exact⟨k+1,by omega,by go_num,HB3.out,HX.out⟩
    case measure=>simp [intOf];omega
  ·obtain rfl:k=l.length:=by omega
   have HX:Hid (x ∉ l):=by have:=HTK.out;rwa [List.take_length] at this
   go_wp2_with fail
   go_ret;exact⟨⟨-1,rfl,⟨fun h=>by omega,fun h=>(HX.out h).elim⟩,I64.small (by omega) (by omega)⟩,HB3.out⟩
theorem qI (l:List Int) (v:Value) (x:Int) (S:Nat→Prop) (w:World) (hl:Ints w S v l) :
  Calls Tryz.prog 90 #[v,.int .i64 x] w fun e w'=>e=.returned (.bool (decide (x∈l)))∧Ext w w':=by
 have HL:=eH hl;obtain⟨pa,ca,rfl,hca,hba,_⟩:=hl;obtain⟨t,ht⟩:∃t,decide (x∈l)=t:=⟨_,rfl⟩
 rw [ht];have HT:=eH ht;clear ht;go_enter Tryz.func90,Tryz.ntmps90
 go_wp2_with (first
  | (go_at_call 128;(with_reducible refine(indexI_any l _ x S _ HL.out).mono ?_);rintro e w2 ⟨⟨i,rfl,hi,_⟩,hx⟩;have HI:=eH hi;clear hi))
 go_ret;refine⟨?_,hx⟩;exact congrArg (fun b=>Ending.returned (.bool b)) ((decide_eq_decide.2 HI.out).trans HT.out)
end Go.Proofs.YtpcjkfppacnkgaaGreatDoor
