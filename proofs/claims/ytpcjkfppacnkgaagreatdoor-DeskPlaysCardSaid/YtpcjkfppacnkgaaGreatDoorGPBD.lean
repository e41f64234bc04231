/- Contracts and plain facts. -/
import Derived.Test.YtpcjkfppacnkgaaGreatDoorGPBC
set_option maxHeartbeats 4000000
set_option maxRecDepth 100000
namespace Go.Proofs.YtpcjkfppacnkgaaGreatDoor
open Go Go.RowKit
set_option linter.unusedSimpArgs false
theorem taT_hit (v:Value) (w:World):(Instr.typeAssert (.iface 173 v) 20 173 true).run Tryz.prog w=.ok (.tuple #[v,.bool true]) w:=by
 unfold Instr.typeAssert;simp only [Sem.run_bind,run_underlying Tryz.underlying173,Result.andThen_ok];rfl
theorem zeroT (w:World):(zeroValue 173).run Tryz.prog w=.ok (.agg #[.int .i64 0]) w:=by kernel_rfl
theorem taT_miss (w:World):(Instr.typeAssert .nilIface 20 173 true).run Tryz.prog w=.ok (.tuple #[.agg #[.int .i64 0],.bool false]) w:=by
 unfold Instr.typeAssert;simp only [Sem.run_bind,run_underlying Tryz.underlying173,Result.andThen_ok,if_true,zeroT];rfl
theorem catchT_panicking (b b2:Nat) (r x:Int) (u0 u1 u2:Value) (older:List PanicEntry) (w:World) (h0:Cx w b 0 u0) (h1:Cx w b 1 u1) (h2:Cx w b 2 u2) (hc:Cx w b2 0 (.int .i64 x)) (hne:b≠b2) :
  CallsD Tryz.prog 132 #[.pointer (some ⟨b,0,none⟩),.pointer (some ⟨b2,0,none⟩)] (.panicking ({ v:=.iface 173 (.agg #[.int .i64 r]),recovered:=false }::older)) w fun e u' w' =>
   e=.returned (.tuple #[])∧u'=.panicking ({ v:=.iface 173 (.agg #[.int .i64 r]),recovered:=true }::older)∧(Cx w' b 0 (.slice none 0 0)∧Cx w' b 1 (.int .i64 0)∧Cx w' b 2 (.slice none 0 0)∧Cx w' b2 0 (.int .i64 r))∧Chg (fun k=>k=b∨k=b2) w w':=by
 refine callsD_of_wpS Tryz.func132 rfl fun c₀ cs hu=>?_
 apply wpS_seq;apply wpS_region;simp [wpOpsS,go_sem,recoverD,hu,Tryz.ntmps132,Exit.thenS];refine wpS_of_wp ?_;simp only [Array.replicate,List.reduceReplicate,xL,xM,xN,List.append_toArray,List.cons_append,List.nil_append];have hta:=taT_hit;have RA:=zF;have hnb:b≠w.heap.size:=Nat.ne_of_lt h0.lt;have hnb2:b2≠w.heap.size:=Nat.ne_of_lt hc.lt;have hX:Ext w (w.alloc (.cells #[.int .i64 r] 173)):=(eR w).alloc _;have H:=eH (⟨h0.ext hX,h1.ext hX,h2.ext hX,hc.ext hX⟩:_∧_∧_∧_);have HX:=eH hX;clear h0 h1 h2 hc hX
 go_upto_region 3 with fail
 obtain⟨W,hW⟩:∃W,W=w.alloc (.cells #[.int .i64 r] 173):=⟨_,rfl⟩
 have k0:Cx W w.heap.size 0 (.int .i64 r):=by rw [hW];exact Cx.new w [.int .i64 r] _ (j:=0) rfl
 rw [←hW] at H HX ⊢;obtain⟨⟨h0,h0'⟩,⟨h1,h1'⟩,⟨h2,h2'⟩,⟨h3,h3'⟩⟩:=H.out;have KS:=eH (((k0.other (b':=b) (j':=0) (.inl (Ne.symm hnb)) (.slice none 0 0)).other (b':=b) (j':=1) (.inl (Ne.symm hnb)) (.int .i64 0)).other (b':=b) (j':=2) (.inl (Ne.symm hnb)) (.slice none 0 0));have K0:=eH k0;obtain⟨k0,-⟩:=k0;clear hW;generalize w.heap.size=z at *;refine zX (fun w'=>w'.cell? ⟨z,0,none⟩=some (.int .i64 r)) 4 [0,1,2] [3,4] (by kernel_rfl) (by kernel_rfl) (fun _ _ _ _ _ h=>h) (by exact k0) ?_
 (try simp only [zH,List.filterMap_cons,List.filterMap_nil,xO,xP])
 repeat (
  refine zN (by rfl) ?_;apply Exists.intro;refine⟨fun w' hw'=>?_,?_⟩
  focus
   (try dsimp only at hw')
   go_split_ands;go_simp
   (try with_reducible rfl)
  (try dsimp only [Act.put])
  (try simp only [xL,xM,xN]))
 refine zL ?_;refine zC ?_
 go_wp2_with fail
 refine zD (by exact KS.out.1) ?_;have HS:=eH (((((H.out.2.2.2.other (b':=b) (j':=0) (.inl (Ne.symm hne)) (.slice none 0 0)).other (b':=b) (j':=1) (.inl (Ne.symm hne)) (.int .i64 0)).other (b':=b) (j':=2) (.inl (Ne.symm hne)) (.slice none 0 0))));obtain⟨e3,e3'⟩:=HS.out;refine zC ?_
 go_wp2_with fail
 refine zS ?_
 go_wp2_with fail
 have q:=H.out;have hx:=(eR ((((W.setCell ⟨b,0,none⟩ (.slice none 0 0)).setCell ⟨b,1,none⟩ (.int .i64 0)).setCell ⟨b,2,none⟩ (.slice none 0 0)).setCell ⟨b2,0,none⟩ (.int .i64 r))).drew;refine⟨rfl,_,rfl,_,results_none rfl _ _ _,rfl,rfl,⟨Cx.ext ?_ hx,Cx.ext ?_ hx,Cx.ext ?_ hx,Cx.ext ?_ hx⟩,?_⟩
 ·exact(((q.1.set _).other (.inr (by decide)) _).other (.inr (by decide)) _).other (.inl hne) _
 ·exact(((q.2.1.other (.inr (by decide)) _).set _).other (.inr (by decide)) _).other (.inl hne) _
 ·exact(((q.2.2.1.other (.inr (by decide)) _).other (.inr (by decide)) _).set _).other (.inl hne) _
 ·exact(((q.2.2.2.other (.inl (Ne.symm hne)) _).other (.inl (Ne.symm hne)) _).other (.inl (Ne.symm hne)) _).set _
 ·exact((Chg.of_ext HX.out).trans (((chg3 W b _ _ _).mono (fun k _ h=>.inl h)).trans ((zO _ b2 0 _).mono (fun k _ h=>.inr h)))).drew
theorem catchT_idle (b b2:Nat) (w:World) :
  CallsD Tryz.prog 132 #[.pointer (some ⟨b,0,none⟩),.pointer (some ⟨b2,0,none⟩)] .returning w fun e u' w'=>e=.returned (.tuple #[])∧u'=.returning∧Ext w w':=by
 refine callsD_of_wpS Tryz.func132 rfl fun c₀ cs hu=>?_
 apply wpS_seq;apply wpS_region;simp [wpOpsS,go_sem,recoverD,hu,Tryz.ntmps132,Exit.thenS];refine wpS_of_wp ?_;simp only [Array.replicate,List.reduceReplicate,xL,xM,xN,List.append_toArray,List.cons_append,List.nil_append];have hta:=taT_miss
 go_wp2_with fail
 refine⟨rfl,.returning,?_,_,results_none rfl _ _ _,rfl,rfl,(eR w).alloc _⟩
 cases c₀
 cases hu
 rfl
theorem resultT (tmps:Array Value) (w:World) (b b2:Nat) (x y z:Value) (r:Int) (hp:tmps.getD 4 undef=.pointer (some ⟨b,0,none⟩)) (hp2:tmps.getD 5 undef=.pointer (some ⟨b2,0,none⟩)) (hc:Cx w b 0 x∧Cx w b 1 y∧Cx w b 2 z) (hr:Cx w b2 0 (.int .i64 r)) :
  (results Tryz.f92 tmps).run Tryz.prog w=.ok (.tuple #[.agg #[x,y,z],.int .i64 r]) w:=by
 have hp':tmps[4]?.getD undef=.pointer (some ⟨b,0,none⟩):=by simpa using hp
 have hp2':tmps[5]?.getD undef=.pointer (some ⟨b2,0,none⟩):=by simpa using hp2
 simp [results,Tryz.results92,go_sem,hp',hp2',hc.1.1,hc.2.1.1,hc.2.2.1,hr.1]
def ImpFit (p:List GFunc) (s:GState):Prop:=zEr p s∧FarFit p (advG s) (opAt p (curX s)).kind∧0≤(opAt p (curX s)).kind∧(opAt p (curX s)).kind≤16
theorem zHn (p:List GFunc) (v:Value) (S T:Nat→Prop) (s:GState) (vs:Value) (w:World) (hp:zM w S v p) (hs:zW w T vs s) (hf:FewS s) (hfit:s.now<0∨ImpFit p s) :
  Calls Tryz.prog 92 #[v,vs] w fun e w'=>(∃x,e=.returned (.tuple #[x,.int .i64 (yM p s).1])∧kZ w' w.heap.size x (yM p s).2)∧Ext w w':=by
 have HP:=eH hp;have HS:=eH hs;obtain⟨a,c,b,d,rfl⟩:=hs.few;obtain⟨ap,capp,rfl,_,_,_⟩:=hp;have RA:=zF;have hmf:∀(fn:Fn) (first cap:Array Value) (w:World),(Instr.makeFunc fn first cap).run Tryz.prog w=.ok (.func fn first cap) w:=fun _ _ _ _=>rfl
 obtain⟨W1,hW1⟩:∃W1,W1=((w.alloc (.cells #[.slice a s.fibers.length c,.int .i64 s.now,.slice b s.out.length d] 58)).alloc (.cells #[.slice none 0 0,.int .i64 0,.slice none 0 0] 58)).alloc (.cells #[.int .i64 0] 22):=⟨_,rfl⟩
 have hz1:(w.alloc (.cells #[.slice a s.fibers.length c,.int .i64 s.now,.slice b s.out.length d] 58)).heap.size=w.heap.size+1:=Array.size_push _;have hz2:((w.alloc (.cells #[.slice a s.fibers.length c,.int .i64 s.now,.slice b s.out.length d] 58)).alloc (.cells #[.slice none 0 0,.int .i64 0,.slice none 0 0] 58)).heap.size=w.heap.size+2:=by simp
 have hx1:Ext (w.alloc (.cells #[.slice a s.fibers.length c,.int .i64 s.now,.slice b s.out.length d] 58)) W1:=by rw [hW1];exact((eR _).alloc _).alloc _
 have hx2:Ext ((w.alloc (.cells #[.slice a s.fibers.length c,.int .i64 s.now,.slice b s.out.length d] 58)).alloc (.cells #[.slice none 0 0,.int .i64 0,.slice none 0 0] 58)) W1:=by rw [hW1];exact(eR _).alloc _
 have s0:=(Cx.new w [.slice a s.fibers.length c,.int .i64 s.now,.slice b s.out.length d] 58 (j:=0) rfl).ext hx1;have s1:=(Cx.new w [.slice a s.fibers.length c,.int .i64 s.now,.slice b s.out.length d] 58 (j:=1) rfl).ext hx1;have s2:=(Cx.new w [.slice a s.fibers.length c,.int .i64 s.now,.slice b s.out.length d] 58 (j:=2) rfl).ext hx1;have r0:=(Cx.new (w.alloc (.cells #[.slice a s.fibers.length c,.int .i64 s.now,.slice b s.out.length d] 58)) [.slice none 0 0,.int .i64 0,.slice none 0 0] 58 (j:=0) rfl).ext hx2;have r1:=(Cx.new (w.alloc (.cells #[.slice a s.fibers.length c,.int .i64 s.now,.slice b s.out.length d] 58)) [.slice none 0 0,.int .i64 0,.slice none 0 0] 58 (j:=1) rfl).ext hx2;have r2:=(Cx.new (w.alloc (.cells #[.slice a s.fibers.length c,.int .i64 s.now,.slice b s.out.length d] 58)) [.slice none 0 0,.int .i64 0,.slice none 0 0] 58 (j:=2) rfl).ext hx2;have re:Cx W1 (w.heap.size+2) 0 (.int .i64 0):=by rw [hW1,←hz2];exact Cx.new _ [.int .i64 0] _ (j:=0) rfl
 rw [hz1] at r0 r1 r2;have hE1:Ext w W1:=by rw [hW1];exact(((eR w).alloc _).alloc _).alloc _
 have hS1:W1.heap.size=w.heap.size+3:=by rw [hW1];simp
 have HR:=eH (⟨r0,r1,r2,re⟩:_∧_∧_∧_);have HSS:=eH (⟨s0,s1,s2⟩:_∧_∧_);have HE1:=eH hE1;have HS1:=eH hS1;clear hz1 hz2 hx1 hx2 s0 s1 s2 r0 r1 r2 re hE1 hS1;by_cases hn:s.now<0
 ·have T1:decide (s.now<0)=true:=decide_eq_true hn;have HG:Hid (yM p s=(8,⟨[],0,[]⟩)):=by unfold Hid yM;rw [if_pos hn]
  clear hn;obtain⟨⟨r0,r0'⟩,⟨r1,r1'⟩,⟨r2,r2'⟩,⟨re,re'⟩⟩:=HR.out;obtain⟨⟨s0,s0'⟩,⟨s1,s1'⟩,⟨s2,s2'⟩⟩:=HSS.out;have hfin:=eH (box3 ⟨r0,r0'⟩ ⟨r1,r1'⟩ ⟨r2,r2'⟩ (.slice none 0 0) (.int .i64 0) (.slice none 0 0))
  go_enter_defers Tryz.func92,Tryz.ntmps92
  go_upto_region 1 with fail
  rw [←hW1];clear hW1
  go_wp2_with fail
  rw [HG.out];have q:=HR.out;have hce:Cx ((((W1.setCell ⟨w.heap.size+1,0,none⟩ (.slice none 0 0)).setCell ⟨w.heap.size+1,1,none⟩ (.int .i64 0)).setCell ⟨w.heap.size+1,2,none⟩ (.slice none 0 0)).setCell ⟨w.heap.size+2,0,none⟩ (.int .i64 8)) (w.heap.size+2) 0 (.int .i64 8) :=
   (((q.2.2.2.other (.inl (by omega)) _).other (.inl (by omega)) _).other (.inl (by omega)) _).set _
  refine⟨_,resultT _ _ (w.heap.size+1) (w.heap.size+2) (.slice none 0 0) (.int .i64 0) (.slice none 0 0) 8 rfl rfl ⟨?_,?_,?_⟩ hce,⟨_,rfl,zDi _ _⟩,?_⟩
  ·exact(((q.1.set _).other (.inr (by decide)) _).other (.inr (by decide)) _).other (.inl (by omega)) _
  ·exact(((q.2.1.other (.inr (by decide)) _).set _).other (.inr (by decide)) _).other (.inl (by omega)) _
  ·exact(((q.2.2.1.other (.inr (by decide)) _).other (.inr (by decide)) _).set _).other (.inl (by omega)) _
  ·exact(((HE1.out.setCell (p:=⟨w.heap.size+1,0,none⟩) (Nat.le_succ _) _).setCell (p:=⟨w.heap.size+1,1,none⟩) (Nat.le_succ _) _).setCell (p:=⟨w.heap.size+1,2,none⟩) (Nat.le_succ _) _).setCell (p:=⟨w.heap.size+2,0,none⟩) (by show w.heap.size≤w.heap.size+2;omega) _
 ·have T1:decide (s.now<0)=false:=decide_eq_false hn;obtain⟨hop,hfar,hkk⟩:=hfit.resolve_left hn;have HOP:=eH hop;have HFAR:=eH hfar;have HKK:=eH hkk;have HFEW:=eH hf;have HNN:=eH hn;have HST1:=eH (zW.stays (Ext.stays HE1.out) HS.out);have HP1:=eH (zM.stays (Ext.stays HE1.out) HP.out);clear hn hop hfar hkk hf hfit;obtain⟨⟨s0,s0'⟩,⟨s1,s1'⟩,⟨s2,s2'⟩⟩:=HSS.out
  go_enter_defers Tryz.func92,Tryz.ntmps92
  go_upto_region 1 with fail
  rw [←hW1];clear hW1
  go_upto_region 5 with (first
   | (go_at_call 91;(with_reducible refine(own_any s _ T _ HST1.out HFEW.out).mono ?_);rintro e w2 ⟨⟨P,rfl,hO,hg⟩,hx2⟩;obtain⟨av,cv,ev,_,_⟩:=hO.row.shape;obtain⟨ao,co,eo,_,_⟩:=hO.out.shape;rw [ev,eo];have HO:=eH hO;have HGP:=eH hg;have HX2:=eH hx2;have HEV:=eH ev;have HEO:=eH eo;clear hO hg hx2 ev eo))
  clear s0 s0' s1 s1' s2 s2' HSS HST1;obtain⟨W3,hW3⟩:∃W3,W3=w2.alloc (.cells #[.slice av P.fs.length cv,.int .i64 P.now,.slice ao P.out.length co] 58):=⟨_,rfl⟩
  have c0:Cx W3 w2.heap.size 0 (.slice av P.fs.length cv):=by rw [hW3];exact Cx.new w2 [.slice av P.fs.length cv,.int .i64 P.now,.slice ao P.out.length co] _ (j:=0) rfl
  have c1:Cx W3 w2.heap.size 1 (.int .i64 P.now):=by rw [hW3];exact Cx.new w2 [.slice av P.fs.length cv,.int .i64 P.now,.slice ao P.out.length co] _ (j:=1) rfl
  have c2:Cx W3 w2.heap.size 2 (.slice ao P.out.length co):=by rw [hW3];exact Cx.new w2 [.slice av P.fs.length cv,.int .i64 P.now,.slice ao P.out.length co] _ (j:=2) rfl
  have hE23:Ext w2 W3:=by rw [hW3];exact(eR _).alloc _
  have hOS:OwnS W3 W1.heap.size w2.heap.size P:=(HO.out.ext hE23).box (by rw [HEV.out];exact c0) c1 (by rw [HEO.out];exact c2) HX2.out.size (fun hm=>by have:=HO.out.lt _ hm;omega);have HOS:=eH hOS;have HE13:=eH (HX2.out.trans hE23);simp only [←hW3];have HB2:Hid (W1.heap.size≤w2.heap.size):=HX2.out.size;clear hW3 c0 c1 c2 hE23 hOS HO HX2 HEV HEO;generalize w2.heap.size=bo at *
  go_upto_region 6 with fail
  obtain⟨W4,hW4⟩:∃W4,W4=W3.alloc (.cells #[.pointer (some ⟨bo,0,none⟩),.slice ap p.length capp] 178):=⟨_,rfl⟩
  have e0:Cx W4 W3.heap.size 0 (.pointer (some ⟨bo,0,none⟩)):=by rw [hW4];exact Cx.new W3 [.pointer (some ⟨bo,0,none⟩),.slice ap p.length capp] _ (j:=0) rfl
  have e1:Cx W4 W3.heap.size 1 (.slice ap p.length capp):=by rw [hW4];exact Cx.new W3 [.pointer (some ⟨bo,0,none⟩),.slice ap p.length capp] _ (j:=1) rfl
  have hE34:Ext W3 W4:=by rw [hW4];exact(eR _).alloc _
  have HEN:Hid (EngS W4 W1.heap.size bo W3.heap.size p ap capp P):=⟨HOS.out.ext hE34,⟨e0,e1⟩,fun hm=>by have:=HOS.out.lt _ hm;omega⟩
  have HE14:=eH (HE13.out.trans hE34);have HPF:=eH (zM.stays (stays_below HE14.out (Nat.le_refl _)) HP1.out);simp only [←hW4];clear hW4 e0 e1 hE34 HOS HE13 HP1;generalize W3.heap.size=eb at *;have q:=HR.out;have hs1:=HS1.out;have hoff:∀(bb j:Nat) (u:Value) (w9:World),Cx W1 bb j u→bb<W1.heap.size→Chg (·∈bo::P.bl) W4 w9→Cx w9 bb j u:=fun bb j u w9 h hb hc=>(h.ext HE14.out).chg hc (fun hm=>by have:=HEN.out.own.ge _ hm;omega)
  have HOFF:=eH hoff;have hfew:FewS P.g:=by rw [HGP.out];exact HFEW.out
  have hopp:zEr p P.g:=by rw [HGP.out];exact HOP.out
  have hfrr:FarFit p (advG P.g) (opAt p (curX P.g)).kind:=by rw [HGP.out];exact HFAR.out
  have hkkk:0≤(opAt p (curX P.g)).kind∧(opAt p (curX P.g)).kind≤16:=by rw [HGP.out];exact HKK.out
  have hdo:=engDo_any HEN.out HPF.out hfew hopp hfrr hkkk;rw [HGP.out] at hdo;have HDO:=eH hdo;clear q hs1 hoff hfew hopp hfrr hkkk hdo;obtain⟨r,hr⟩:∃r,(kF p s).1=r:=⟨_,rfl⟩
  have HRR:=eH hr;clear hr;by_cases hz:r=0
  ·have HZ:Hid (endS r=.returned (.tuple #[])):=by unfold Hid endS;rw [if_pos hz]
   have HG:Hid (yM p s=(0,(kF p s).2)):=by unfold Hid yM;rw [if_neg (show ¬s.now<0 by have:=HNN.out;omega),if_pos (HRR.out.trans hz)]
   have HRZ:Hid ((kF p s).1=0):=HRR.out.trans hz;clear hz
   go_upto_region 7 with (first
    | (go_at_call 133;(refine(HDO.out).mono ?_);rintro e w5 ⟨he,d5⟩;rw [HRR.out,HZ.out] at he;subst he))
   obtain⟨⟨P5,o5,g5,s5⟩,ch5⟩:=d5.turn HRZ.out;obtain⟨av5,cv5,ev5,_,_⟩:=o5.row.shape;obtain⟨ao5,co5,eo5,_,_⟩:=o5.out.shape;obtain⟨k0,k0'⟩:=o5.c0;obtain⟨k1,k1'⟩:=o5.c1;obtain⟨k2,k2'⟩:=o5.c2;rw [ev5] at k0;rw [eo5] at k2;have q:=HR.out;have hs1:=HS1.out;have hR5:=eH (⟨HOFF.out _ _ _ _ q.1 (by omega) ch5,HOFF.out _ _ _ _ q.2.1 (by omega) ch5,HOFF.out _ _ _ _ q.2.2.1 (by omega) ch5,HOFF.out _ _ _ _ q.2.2.2 (by omega) ch5⟩:_∧_∧_∧_);obtain⟨⟨r0,r0'⟩,⟨r1,r1'⟩,⟨r2,r2'⟩,⟨re,re'⟩⟩:=hR5.out;have O5:=eH o5;have G5:=eH g5;have CH5:=eH ch5;have EV5:=eH ev5;have EO5:=eH eo5;clear o5 g5 s5 ch5 ev5 eo5 d5 q hs1
   go_wp2_with fail
   refine leaves_cons (f:=132) (args:=#[.pointer (some ⟨w.heap.size+1,0,none⟩),.pointer (some ⟨w.heap.size+1+1,0,none⟩)]) (by simp) (by simp [go_sem]) ?_;refine(catchT_idle (w.heap.size+1) (w.heap.size+1+1) _).mono ?_;rintro e u' w6 ⟨rfl,rfl,hx6⟩;have q:=hR5.out;have hs1:=HS1.out;obtain⟨W5,hW5⟩:∃W5,W5=(((w5.setCell ⟨w.heap.size+1,0,none⟩ (.slice av5 P5.fs.length cv5)).setCell ⟨w.heap.size+1,1,none⟩ (.int .i64 P5.now)).setCell ⟨w.heap.size+1,2,none⟩ (.slice ao5 P5.out.length co5)).setCell ⟨w.heap.size+2,0,none⟩ (.int .i64 0):=⟨_,rfl⟩
   have hx6:Ext W5 w6:=by rw [hW5];exact hx6
   have hch:Chg (fun k=>k=w.heap.size+1∨k=w.heap.size+2) w5 W5:=by rw [hW5];exact((chg3 w5 (w.heap.size+1) _ _ _).mono (fun k _ h=>.inl h)).trans ((zO _ (w.heap.size+2) 0 _).mono (fun k _ h=>.inr h))
   rw [HG.out];refine⟨_,resultT _ _ (w.heap.size+1) (w.heap.size+2) (.slice av5 P5.fs.length cv5) (.int .i64 P5.now) (.slice ao5 P5.out.length co5) 0 rfl rfl ⟨Cx.ext ?_ hx6,Cx.ext ?_ hx6,Cx.ext ?_ hx6⟩ (Cx.ext ?_ hx6),⟨_,rfl,P5,by rw [EV5.out,EO5.out],?_,G5.out⟩,?_⟩
   ·rw [hW5];exact(((q.1.set _).other (.inr (by decide)) _).other (.inr (by decide)) _).other (.inl (by omega)) _
   ·rw [hW5];exact(((q.2.1.other (.inr (by decide)) _).set _).other (.inr (by decide)) _).other (.inl (by omega)) _
   ·rw [hW5];exact(((q.2.2.1.other (.inr (by decide)) _).other (.inr (by decide)) _).set _).other (.inl (by omega)) _
   ·rw [hW5];exact(((q.2.2.2.other (.inl (by omega)) _).other (.inl (by omega)) _).other (.inl (by omega)) _).set _
   ·exact((O5.out.rows.chg hch (fun k hk e=>by have:=O5.out.ge k (List.mem_cons_of_mem _ hk);rcases e with e | e<;>omega)).ext hx6).mono (by omega)
   ·refine(Chg.ext_from (Chg.ext_from (HE1.out.trans HE14.out) CH5.out (fun k hm=>?_)) hch (fun k e=>?_)).trans hx6
    ·have:=HEN.out.own.ge k hm;omega
    ·rcases e with e | e<;>omega
  ·have HZ:Hid (endS r=.panicked (yU r)):=by unfold Hid endS;rw [if_neg hz]
   have HG:Hid (yM p s=(r,⟨[],0,[]⟩)):=by unfold Hid yM;rw [if_neg (show ¬s.now<0 by have:=HNN.out;omega),if_neg (fun h=>hz (HRR.out.symm.trans h)),HRR.out]
   clear hz
   go_wp2_with (first
    | (go_at_call 133;(refine(HDO.out).mono ?_);rintro e w5 ⟨he,d5⟩;rw [HRR.out,HZ.out] at he;subst he))
   have q:=HR.out;have hs1:=HS1.out;have ch5:=d5.chg;have hR5:=eH (⟨HOFF.out _ _ _ _ q.1 (by omega) ch5,HOFF.out _ _ _ _ q.2.1 (by omega) ch5,HOFF.out _ _ _ _ q.2.2.1 (by omega) ch5,HOFF.out _ _ _ _ q.2.2.2 (by omega) ch5⟩:_∧_∧_∧_);refine leaves_cons (f:=132) (args:=#[.pointer (some ⟨w.heap.size+1,0,none⟩),.pointer (some ⟨w.heap.size+1+1,0,none⟩)]) (by simp) (by simp [go_sem]) ?_;refine(catchT_panicking (w.heap.size+1) (w.heap.size+1+1) r 0 _ _ _ [] _ hR5.out.1 hR5.out.2.1 hR5.out.2.2.1 hR5.out.2.2.2 (by omega)).mono ?_;rintro e u' w6 ⟨rfl,rfl,⟨k0,k1,k2,ke⟩,hch⟩;have hset:settle (.panicking ({ v:=.iface 173 (.agg #[.int .i64 r]),recovered:=true }::([]:List PanicEntry)))=.returning:=by simp [settle]
   show Leaves _ _ _ _ [] (settle _) _;rw [hset,HG.out];refine⟨_,resultT _ _ (w.heap.size+1) (w.heap.size+2) _ _ _ r rfl rfl ⟨k0,k1,k2⟩ ke,⟨_,rfl,zDi _ _⟩,?_⟩;refine Chg.ext_from (Chg.ext_from (HE1.out.trans HE14.out) ch5 (fun k hm=>?_)) hch (fun k e=>?_)
   ·have:=HEN.out.own.ge k hm;omega
   ·rcases e with e | e<;>omega
theorem top_end {f:GFiber} {gs:List GFrame} {y:GFrame} (ef:f.frames=gs++[y]):vF f=y:=by
 unfold vF;rw [ef,List.length_append,List.length_singleton,Nat.add_sub_cancel];exact yV
theorem ok_fresh {p:List GFunc} {s:GState} {l:List Int} (h:Ok p s l) (h0:0≤s.now):FreshFit p (advG s):=by
 obtain⟨k,fs,x,r,hR⟩:=h.runs h0;obtain⟨hA,hN,_⟩:=hR.adv;have hlt:=hR.at_.lt;generalize advG s=t at *;have hN1:Near s (popG t) k:=hN.top hlt _ hA.now;have hA1:At (popG t) k fs _:=hA.top _ hA.now;have hN2:Near s (popG (popG t)) k:=hN1.top hlt _ hA1.now;have hcu:∀j,j<s.fibers.length→((popG (popG t)).fibers.getD j default).caller=(s.fibers.getD j default).caller:=fun j hj=>by
  by_cases ej:j=k
  ·rw [ej];exact hN2.caller
  ·rw [hN2.other j hj ej]
 have hrg:=vJ (fun k hk=>(h.callers k hk).2) h.lk h.now.2;have hll:qH (popG (popG t))=l:=by
  have hlk:Lk (popG (popG t)).fibers s.now l:=zBq (fun z hz=>by
   have:=hrg z hz;unfold kM;rw [hcu _ (by omega)]) h.lk
  have hl:l.length≤(popG (popG t)).fibers.length:=by rw [hN2.len];exact uC _ _ (zBp h.lk) hrg
  unfold qH;rw [lineS_of (by rw [hN2.now];exact hlk) hl];rfl
 intro f hf hn0 hn1 hnl hpos;rw [hll] at hnl;rw [hN2.len] at hn1;obtain⟨m,hm⟩:=Int.eq_ofNat_of_zero_le hn0;have hm:zR (popG t)=(m:Nat):=hm;rw [hm] at hf hn1 hnl;rw [Int.toNat_natCast] at hf;have hml:m<s.fibers.length:=by omega
 have hkl:(k:Int)∈l:=by rw [hR.line,hR.at_.now];simp
 have hmk:m≠k:=fun em=>hnl (by rw [em];exact hkl)
 rw [hN2.other m hml hmk] at hf;subst hf;have hb:=h.fib m hml;rw [decide_eq_false hnl,decide_eq_false (show ¬(m:Int)=s.now by rw [hR.at_.now];omega)] at hb;obtain⟨gs,y,ey,y1,y2,y3⟩:=zCk hb (fun e0=>by rw [e0] at hpos;exact absurd hpos (by simp));unfold topB at y3;rw [if_neg (by decide),if_neg (by decide),Bool.and_eq_true,Bool.or_eq_true] at y3;refine⟨?_,fun h9=>zFm (h.right.fib m hml) h9⟩;rw [top_end ey];rcases y3.2 with y4 | y4
 ·rw [y4,decide_eq_true (zEa y4 ey).1]
 ·have hne:=zHi y4;rw [decide_eq_false hne]
  cases hfb:qV p (s.fibers.getD m default) with
  | false=>rfl
  | true=>exact absurd (zEa hfb ey).1 hne
theorem ok_imp {p:List GFunc} {s:GState} {l:List Int} (h:Ok p s l) (h0:0≤s.now):ImpFit p s:=by
 obtain⟨hop,_⟩:=zBl h h0;obtain⟨k,fs,x,r,hR⟩:=h.runs h0;have hF:=opF_of (kH h.prog) hR.frame hR.full;obtain⟨hA,hN,_⟩:=hR.adv;have hx:curX s=x:=hR.at_.curX;unfold ImpFit;rw [hx];refine⟨hop,⟨h.out,by rw [hN.len];exact h.few,?_,fun _=>ok_fresh h h0⟩,hF.kind⟩;rw [hA.curF,List.length_append,List.length_singleton];have:=h.few5 hR;omega
theorem ok_step {p:List GFunc} {s:GState} {l:List Int} (h:Ok p s l):s.now<0∨ImpFit p s:=by
 by_cases h0:s.now<0
 ·exact .inl h0
 ·exact .inr (ok_imp h (by omega))
theorem jD {P:Program} {fn:Func} {p u u':Tmp} {ty:TypeId} (h:fn.results=#[.cell p ty,.tmp u,.tmp u']) (tmps:Array Value) (w:World) (b o:Nat) (cs:List Value) (d:TypeDesc)
  (hp:tmps.getD p undef=.pointer (some ⟨b,o,none⟩)) (hc:w.rangeAt b o cs) (hu:P.underlying ty=some d) (hd:d.isRow=true) (hi:(P.info? ty).map (·.size)=some cs.length) :
  (results fn tmps).run P w=.ok (.tuple #[.agg cs.toArray,tmps.getD u undef,tmps.getD u' undef]) w:=by
 have h1:(results fn tmps).run P w=((asAddr (tmps.getD p undef)).run P w).andThen fun a w₁=>((loadVar ty a).run P w₁).andThen fun v w₂=>.ok (.tuple #[v,tmps.getD u undef,tmps.getD u' undef]) w₂:=by
  simp only [results,h];simp [Sem.run_bind,Result.andThen]
 rw [h1];have hp':tmps[p]?.getD undef=.pointer (some ⟨b,o,none⟩):=by simpa using hp
 simp [hp',asAddr,run_loadVar_mid w b o ty cs d hc hu hd hi,Result.andThen]
theorem runG_zero (p:List GFunc) (s:GState):runG p 0 s=(s,0,0):=rfl
theorem runG_done (p:List GFunc) (s:GState) (k:Nat) (h:s.now<0):runG p k s=(s,0,0):=by
 cases k with
 | zero=>rfl
 | succ k=>rw [runG,if_pos h]
theorem runG_err (p:List GFunc) (s:GState) (k:Nat) (h:¬s.now<0) (he:(kF p s).1≠0):runG p (k+1) s=(s,0,(kF p s).1):=by rw [runG,if_neg h,if_pos he]
theorem runG_step (p:List GFunc) (s:GState) (k:Nat) (h:¬s.now<0) (he:(kF p s).1=0):runG p (k+1) s=((runG p k (kF p s).2).1,(runG p k (kF p s).2).2.1+1,(runG p k (kF p s).2).2.2):=by rw [runG,if_neg h,if_neg (by simpa using he)]
theorem kZ.few0 {w:World} {B:Nat} {v:Value} (h:kZ w B v ⟨[],0,[]⟩):∃a c b d,v=.agg #[.slice a 0 c,.int .i64 0,.slice b 0 d]:=h.few
structure Boxed (w:World) (B b:Nat) (s:GState):Prop where
 ex:∃a c d e,Cx w b 0 (.slice a s.fibers.length c)∧Cx w b 1 (.int .i64 s.now)∧Cx w b 2 (.slice d s.out.length e)∧kZ w B (.agg #[.slice a s.fibers.length c,.int .i64 s.now,.slice d s.out.length e]) s
theorem Boxed.ext {w w':World} {B b:Nat} {s:GState} (h:Boxed w B b s) (he:Ext w w'):Boxed w' B b s:=by
 obtain⟨a,c,d,e,h1,h2,h3,h4⟩:=h.ex;exact⟨a,c,d,e,h1.ext he,h2.ext he,h3.ext he,h4.ext he⟩
theorem Boxed.store {w:World} {B b:Nat} {u0 u1 u2 x0 x1 x2:Value} {s:GState} (h0:Cx w b 0 u0) (h1:Cx w b 1 u1) (h2:Cx w b 2 u2) (h:kZ w B (.agg #[x0,x1,x2]) s) (hb:b<B):Boxed (((w.setCell ⟨b,0,none⟩ x0).setCell ⟨b,1,none⟩ x1).setCell ⟨b,2,none⟩ x2) B b s:=by
 obtain⟨a,c,d,e,he⟩:=h.few;simp only [Value.agg.injEq,Array.mk.injEq,List.cons.injEq,and_true] at he;obtain⟨rfl,rfl,rfl⟩:=he;refine⟨a,c,d,e,((h0.set _).other (.inr (by decide)) _).other (.inr (by decide)) _,((h1.other (.inr (by decide)) _).set _).other (.inr (by decide)) _,((h2.other (.inr (by decide)) _).other (.inr (by decide)) _).set _,h.chg (chg3 w b _ _ _) (fun k hk e=>by have:k=b:=e;omega)⟩
theorem uB {w wr:World} {x:Value} {s:GState} (h:kZ wr (w.heap.size+2) x s) (a b c:Value):kZ (((wr.setCell ⟨w.heap.size+1,0,none⟩ a).setCell ⟨w.heap.size+1,1,none⟩ b).setCell ⟨w.heap.size+1,2,none⟩ c) w.heap.size x s :=
 (h.chg (chg3 wr (w.heap.size+1) a b c) (fun g hg e=>by have:g=w.heap.size+1:=e;omega)).mono (by omega)
theorem uL {w wr:World} (h:Ext w wr) (a b c:Value):Ext w (((wr.setCell ⟨w.heap.size+1,0,none⟩ a).setCell ⟨w.heap.size+1,1,none⟩ b).setCell ⟨w.heap.size+1,2,none⟩ c) :=
 ((h.setCell (p:=⟨w.heap.size+1,0,none⟩) (Nat.le_succ _) _).setCell (p:=⟨w.heap.size+1,1,none⟩) (Nat.le_succ _) _).setCell (p:=⟨w.heap.size+1,2,none⟩) (Nat.le_succ _) _
theorem run_any (p:List GFunc) (v:Value) (S T:Nat→Prop) (s:GState) (vs:Value) (fuel:Nat) (w:World) (hp:zM w S v p) (hs:zW w T vs s) (hfit:zFr p fuel s) (hfu:fuel≤1000000) :
  Calls Tryz.prog 85 #[v,vs,.int .i64 fuel] w fun e w'=>(∃x,e=.returned (.tuple #[x,.int .i64 (runG p fuel s).2.1,.int .i64 (runG p fuel s).2.2])∧kZ w' w.heap.size x (runG p fuel s).1)∧Ext w w':=by
 have hfew:FewS s:=by cases fuel with | zero=>exact hfit | succ k=>exact hfit.1
 have HP:=eH hp;have HS:=eH hs;have HFEW:=eH hfew;have HFIT:=eH hfit;obtain⟨a,c,b,d,rfl⟩:=hs.few;obtain⟨ap,cp,rfl,_,_,_⟩:=hp;have RA:=zF;have hs0:(w.alloc (.cells #[.slice a s.fibers.length c,.int .i64 s.now,.slice b s.out.length d] 58)).heap.size=w.heap.size+1:=Array.size_push _;have r0:=Cx.new (w.alloc (.cells #[.slice a s.fibers.length c,.int .i64 s.now,.slice b s.out.length d] 58)) [.slice none 0 0,.int .i64 0,.slice none 0 0] 58 (j:=0) rfl;have r1:=Cx.new (w.alloc (.cells #[.slice a s.fibers.length c,.int .i64 s.now,.slice b s.out.length d] 58)) [.slice none 0 0,.int .i64 0,.slice none 0 0] 58 (j:=1) rfl;have r2:=Cx.new (w.alloc (.cells #[.slice a s.fibers.length c,.int .i64 s.now,.slice b s.out.length d] 58)) [.slice none 0 0,.int .i64 0,.slice none 0 0] 58 (j:=2) rfl;rw [hs0] at r0 r1 r2;have HR:=eH (⟨r0,r1,r2⟩:_∧_∧_);have HQ:=eH (⟨(Cx.new w [.slice a s.fibers.length c,.int .i64 s.now,.slice b s.out.length d] 58 (j:=0) rfl).ext ((eR _).alloc (.cells #[.slice none 0 0,.int .i64 0,.slice none 0 0] 58)),(Cx.new w [.slice a s.fibers.length c,.int .i64 s.now,.slice b s.out.length d] 58 (j:=1) rfl).ext ((eR _).alloc (.cells #[.slice none 0 0,.int .i64 0,.slice none 0 0] 58)),(Cx.new w [.slice a s.fibers.length c,.int .i64 s.now,.slice b s.out.length d] 58 (j:=2) rfl).ext ((eR _).alloc (.cells #[.slice none 0 0,.int .i64 0,.slice none 0 0] 58))⟩:_∧_∧_);have HE1:Hid (Ext w ((w.alloc (.cells #[.slice a s.fibers.length c,.int .i64 s.now,.slice b s.out.length d] 58)).alloc (.cells #[.slice none 0 0,.int .i64 0,.slice none 0 0] 58))):=((eR w).alloc _).alloc _;have HS1:Hid (((w.alloc (.cells #[.slice a s.fibers.length c,.int .i64 s.now,.slice b s.out.length d] 58)).alloc (.cells #[.slice none 0 0,.int .i64 0,.slice none 0 0] 58)).heap.size=w.heap.size+2):=by unfold Hid;simp
 clear hs0 r0 r1 r2 hfit hfew;go_enter Tryz.func85,Tryz.ntmps85
 go_upto_region 1 with fail
 go_cut [12] (fun _ wr=>Boxed wr (w.heap.size+2) w.heap.size s∧Ext w wr∧Cx wr (w.heap.size+1) 0 (.slice none 0 0)∧Cx wr (w.heap.size+1) 1 (.int .i64 0)∧Cx wr (w.heap.size+1) 2 (.slice none 0 0))
 case first =>
  go_wp2_with (first
   | (go_at_call 118;(with_reducible refine(zHs s _ T _ (zW.stays (Ext.stays (by ((repeat first|assumption|exact eR _|exact And.left (by assumption)|apply eA|apply eD|apply eN|refine eS ?_ (by simp<;>omega) _|refine eT ?_ (by assumption));done))) HS.out) HFEW.out).mono ?_);rintro e w2 ⟨⟨P,rfl,hO,hg⟩,hx2⟩;rw [HS1.out] at hO;obtain⟨q0,q0'⟩:=(HQ.out).1.ext hx2;obtain⟨q1,q1'⟩:=(HQ.out).2.1.ext hx2;obtain⟨q2,q2'⟩:=(HQ.out).2.2.ext hx2;obtain⟨av,cv,ev,_,_⟩:=hO.row.shape;obtain⟨ao,co,eo,_,_⟩:=hO.out.shape;have hst:kZ w2 (w.heap.size+2) _ _:=⟨P,rfl,hO,hg⟩;rw [ev,eo] at hst ⊢;have HST:=eH hst;have HX2:=eH hx2;clear hO hg hx2 ev eo hst))
  go_meet
  have hr:=HR.out;refine⟨Boxed.store ⟨q0,q0'⟩ ⟨q1,q1'⟩ ⟨q2,q2'⟩ HST.out (by omega),(((HE1.out.trans HX2.out).setCell (p:=⟨w.heap.size,0,none⟩) (Nat.le_refl _) _).setCell (p:=⟨w.heap.size,1,none⟩) (Nat.le_refl _) _).setCell (p:=⟨w.heap.size,2,none⟩) (Nat.le_refl _) _,?_,?_,?_⟩
  ·exact(hr.1.ext HX2.out).chg (chg3 w2 w.heap.size _ _ _) (by omega)
  ·exact(hr.2.1.ext HX2.out).chg (chg3 w2 w.heap.size _ _ _) (by omega)
  ·exact(hr.2.2.ext HX2.out).chg (chg3 w2 w.heap.size _ _ _) (by omega)
 case rest =>
  rename World=>w2
  obtain⟨hB2,hE2,hR2⟩:=hcut;have HB2:=eH hB2;have HE2:=eH hE2;have HR2:=eH hR2;clear hB2 hE2 hR2 HR HQ HE1 HS1 HS HFEW
  go_wp2_with fail
  go_loopw [9] (fun q9 wr=>∃(n k:Nat) (s':GState),n+k=fuel∧q9=.int .i64 n∧(n=0∨(0<k∧¬s'.now<0))∧zFr p k s'∧runG p fuel s=((runG p k s').1,(runG p k s').2.1+n,(runG p k s').2.2) ∧
    Boxed wr (w.heap.size+2) w.heap.size s'∧Ext w wr∧Cx wr (w.heap.size+1) 0 (.slice none 0 0)∧Cx wr (w.heap.size+1) 1 (.int .i64 0)∧Cx wr (w.heap.size+1) 2 (.slice none 0 0)) (fun q _=>fuel - (intOf q).toNat)
  case atStart=>exact⟨0,fuel,s,Nat.zero_add _,rfl,.inl rfl,HFIT.out,by simp,HB2.out,HE2.out,HR2.out⟩
  case round =>
   obtain⟨n,k,s',hnk,rfl,hgo,hfit,hrun,hbx,hE,hR⟩:=hrel;have HGO:=eH hgo;have HFITK:=eH hfit;have HRUN:=eH hrun;have HEK:=eH hE;have HRK:=eH hR;have HBXK:=eH hbx;obtain⟨ax,cx,dx,ex,⟨b0,b0'⟩,⟨b1,b1'⟩,⟨b2,b2'⟩,hst⟩:=hbx.ex;have HST:=eH hst;obtain⟨⟨r0,r0'⟩,⟨r1,r1'⟩,⟨r2,r2'⟩⟩:=hR;clear hgo hfit hrun hbx hE hst;rename World=>wr
   have hexit:k=0∨s'.now<0→n=0:=fun h=>by rcases HGO.out with h1 | h1;exact h1;rcases h with h2 | h2;omega;exact absurd h2 h1.2
   by_cases hk:k=0
   ·subst hk;have hn0:=hexit (.inl rfl);subst hn0;have TF:decide (((0:Nat):Int)<(fuel:Int))=false:=decide_eq_false (by omega);have TF':decide ((0:Int)<(fuel:Int))=false:=decide_eq_false (by omega);have HRES:Hid (runG p fuel s=(s',0,0)):=HRUN.out
    go_wp2_with fail
    refine bodyPost_ret (jD rfl _ _ (w.heap.size+1) 0 _ _ rfl (box3 ⟨r0,r0'⟩ ⟨r1,r1'⟩ ⟨r2,r2'⟩ _ _ _) rfl rfl (by kernel_rfl)) rfl ?_;rw [HRES.out];exact⟨⟨_,by rfl,uB HST.out _ _ _⟩,uL HEK.out _ _ _⟩
   ·obtain⟨k,rfl⟩:∃j,k=j+1:=⟨k - 1,by omega⟩
    have TF:decide ((n:Int)<(fuel:Int))=true:=decide_eq_true (by omega);by_cases hneg:s'.now<0
    ·have hn0:=hexit (.inr hneg);subst hn0;have TF':decide ((0:Int)<(fuel:Int))=true:=decide_eq_true (by omega);have TN:decide ((0:Int)≤s'.now)=false:=decide_eq_false (by omega);have HRES:Hid (runG p fuel s=(s',0,0)):=by
      have h:=HRUN.out;rw [runG_done p s' _ hneg] at h;exact h
     go_wp2_with fail
     refine bodyPost_ret (jD rfl _ _ (w.heap.size+1) 0 _ _ rfl (box3 ⟨r0,r0'⟩ ⟨r1,r1'⟩ ⟨r2,r2'⟩ _ _ _) rfl rfl (by kernel_rfl)) rfl ?_;rw [HRES.out];exact⟨⟨_,by rfl,uB HST.out _ _ _⟩,uL HEK.out _ _ _⟩
    ·have TN:decide ((0:Int)≤s'.now)=true:=decide_eq_true (by omega);have hfk:=HFITK.out;rw [zFr] at hfk;obtain⟨hfewk,hopk⟩:=hfk;obtain⟨hopk,hnext⟩:=hopk.resolve_left hneg;have HFEWK:=eH hfewk;have HOPK:Hid (s'.now<0∨zEr p s'):=eH (.inr hopk);have HNEXT:=eH hnext;have HNEG:=eH hneg;clear hfewk hopk hnext hexit hk;by_cases he:(kF p s').1=0
     ·have hsg:yM p s'=(0,(kF p s').2):=by unfold yM;rw [if_neg hneg,if_pos he]
      have hnx:=HNEXT.out.resolve_left (fun h=>h he);have hrn:=HRUN.out;rw [runG_step p s' k hneg he] at hrn;obtain⟨t,ht⟩:∃t,(kF p s').2=t:=⟨_,rfl⟩
      rw [ht] at hsg hnx hrn;have HSG:=eH hsg;have HNX:=eH hnx;have HRN:=eH hrn;clear hsg hnx hrn ht he hneg
      go_upto_region 9 with (first
       | (go_at_call 119;(with_reducible refine(stepped_any p _ S _ s' _ _ (zM.stays (Ext.stays HEK.out) HP.out) HST.out.state HFEWK.out HOPK.out).mono ?_);rintro e w3 ⟨⟨x,rfl,hx⟩,hx3⟩;rw [HSG.out] at hx ⊢;obtain⟨ax3,cx3,dx3,ex3,rfl⟩:=hx.few;obtain⟨hq0,hq0'⟩:=(Cx.ext (W:=wr) ⟨b0,b0'⟩ hx3).ext ((eR w3).alloc (.cells #[.slice ax3 t.fibers.length cx3,.int .i64 t.now,.slice dx3 t.out.length ex3] 58));obtain⟨hq1,hq1'⟩:=(Cx.ext (W:=wr) ⟨b1,b1'⟩ hx3).ext ((eR w3).alloc (.cells #[.slice ax3 t.fibers.length cx3,.int .i64 t.now,.slice dx3 t.out.length ex3] 58));obtain⟨hq2,hq2'⟩:=(Cx.ext (W:=wr) ⟨b2,b2'⟩ hx3).ext ((eR w3).alloc (.cells #[.slice ax3 t.fibers.length cx3,.int .i64 t.now,.slice dx3 t.out.length ex3] 58));have hr0:=(Cx.ext (W:=wr) ⟨r0,r0'⟩ hx3).ext ((eR w3).alloc (.cells #[.slice ax3 t.fibers.length cx3,.int .i64 t.now,.slice dx3 t.out.length ex3] 58));have hr1:=(Cx.ext (W:=wr) ⟨r1,r1'⟩ hx3).ext ((eR w3).alloc (.cells #[.slice ax3 t.fibers.length cx3,.int .i64 t.now,.slice dx3 t.out.length ex3] 58));have hr2:=(Cx.ext (W:=wr) ⟨r2,r2'⟩ hx3).ext ((eR w3).alloc (.cells #[.slice ax3 t.fibers.length cx3,.int .i64 t.now,.slice dx3 t.out.length ex3] 58));have HX3:=eH hx3;have HXS:=eH hx;clear hx hx3))
      have HR3:=eH (⟨hr0,hr1,hr2⟩:_∧_∧_);have hrs:w.heap.size+2≤wr.heap.size:=by have:=Cx.lt (W:=wr) ⟨r0,r0'⟩;omega
      have hB5:=Boxed.store (w:=w3.alloc (.cells #[.slice ax3 t.fibers.length cx3,.int .i64 t.now,.slice dx3 t.out.length ex3] 58)) (B:=w.heap.size+2) ⟨hq0,hq0'⟩ ⟨hq1,hq1'⟩ ⟨hq2,hq2'⟩ ((HXS.out.ext ((eR _).alloc _)).mono hrs) (by omega);obtain⟨W5,hW5⟩:∃W5,W5=(((w3.alloc (.cells #[.slice ax3 t.fibers.length cx3,.int .i64 t.now,.slice dx3 t.out.length ex3] 58)).setCell ⟨w.heap.size,0,none⟩ (.slice ax3 t.fibers.length cx3)).setCell ⟨w.heap.size,1,none⟩ (.int .i64 t.now)).setCell ⟨w.heap.size,2,none⟩ (.slice dx3 t.out.length ex3):=⟨_,rfl⟩
      rw [←hW5] at hB5 ⊢;have HE5:Hid (Ext w W5):=by
       rw [hW5];exact((((HEK.out.trans HX3.out).alloc _).setCell (p:=⟨w.heap.size,0,none⟩) (Nat.le_refl _) _).setCell (p:=⟨w.heap.size,1,none⟩) (Nat.le_refl _) _).setCell (p:=⟨w.heap.size,2,none⟩) (Nat.le_refl _) _
      have HR5:Hid (Cx W5 (w.heap.size+1) 0 (.slice none 0 0)∧Cx W5 (w.heap.size+1) 1 (.int .i64 0)∧Cx W5 (w.heap.size+1) 2 (.slice none 0 0)):=by
       rw [hW5];exact⟨(HR3.out).1.chg (chg3 _ w.heap.size _ _ _) (by omega),(HR3.out).2.1.chg (chg3 _ w.heap.size _ _ _) (by omega),(HR3.out).2.2.chg (chg3 _ w.heap.size _ _ _) (by omega)⟩
      have HB5:=eH hB5;obtain⟨ay,cy,dy,ey,⟨y0,y0'⟩,⟨y1,y1'⟩,⟨y2,y2'⟩,hsty⟩:=hB5.ex;have HSTY:=eH hsty;obtain⟨⟨p0,p0'⟩,⟨p1,p1'⟩,⟨p2,p2'⟩⟩:=HR5.out;have KN:IntKind.i64.wrap ((n:Int)+1)=(n:Int)+1:=IntWalk.i64_in _ (by omega);clear hW5 hB5 hsty hq0 hq0' hq1 hq1' hq2 hq2' hr0 hr1 hr2 HR3 HXS b0 b0' b1 b1' b2 b2' r0 r0' r1 r1' r2 r2' HBXK HST HRK hrs;rename World=>w5
      by_cases hk0:k=0
      ·subst hk0;have TF9:((n:Int)+1 == (fuel:Int))=true:=by simp;omega
       have HRES:Hid (runG p fuel s=(t,(n:Int)+1,0)):=by
        have h:=HRN.out;rw [runG_zero] at h;unfold Hid;rw [h];simp;omega
       go_wp2_with fail
       refine bodyPost_ret (jD rfl _ _ (w.heap.size+1) 0 _ _ rfl (box3 ⟨p0,p0'⟩ ⟨p1,p1'⟩ ⟨p2,p2'⟩ _ _ _) rfl rfl (by kernel_rfl)) rfl ?_;rw [HRES.out];exact⟨⟨_,rfl,uB HSTY.out _ _ _⟩,uL HE5.out _ _ _⟩
      ·have TF9:((n:Int)+1 == (fuel:Int))=false:=by simp;omega
       by_cases hneg:t.now<0
       ·have TN9:decide (t.now<0)=true:=decide_eq_true hneg;have HRES:Hid (runG p fuel s=(t,(n:Int)+1,0)):=by
         have h:=HRN.out;rw [runG_done p t k hneg] at h;unfold Hid;rw [h];simp;omega
        go_wp2_with fail
        refine bodyPost_ret (jD rfl _ _ (w.heap.size+1) 0 _ _ rfl (box3 ⟨p0,p0'⟩ ⟨p1,p1'⟩ ⟨p2,p2'⟩ _ _ _) rfl rfl (by kernel_rfl)) rfl ?_;rw [HRES.out];exact⟨⟨_,rfl,uB HSTY.out _ _ _⟩,uL HE5.out _ _ _⟩
       ·have TN9:decide (t.now<0)=false:=decide_eq_false hneg
        go_wp2_with fail
        go_roundw
        case rel=>exact⟨n+1,k,t,by omega,by go_num,.inr ⟨by omega,hneg⟩,HNX.out,by rw [HRN.out];simp;omega,HB5.out,HE5.out,HR5.out⟩
        case measure=>simp [intOf];omega
     ·have hsg:yM p s'=((kF p s').1,⟨[],0,[]⟩):=by unfold yM;rw [if_neg hneg,if_neg he]
      have TE:((kF p s').1 != 0)=true:=bne_iff_ne.2 he;have hrn:=HRUN.out;rw [runG_err p s' k hneg he] at hrn;obtain⟨re,hre⟩:∃re,(kF p s').1=re:=⟨_,rfl⟩
      rw [hre] at TE hsg hrn;have HSG:=eH hsg;have HRN:=eH hrn;clear hsg hrn hre he hneg
      go_wp2_with (first
       | (go_at_call 119;(with_reducible refine(stepped_any p _ S _ s' _ _ (zM.stays (Ext.stays HEK.out) HP.out) HST.out.state HFEWK.out HOPK.out).mono ?_);rintro e w3 ⟨⟨x,rfl,hx⟩,hx3⟩;rw [HSG.out] at hx ⊢;obtain⟨ax3,cx3,dx3,ex3,rfl⟩:=hx.few0;obtain⟨hq0,hq0'⟩:=(Cx.ext (W:=wr) ⟨b0,b0'⟩ hx3).ext ((eR w3).alloc (.cells #[.slice ax3 0 cx3,.int .i64 0,.slice dx3 0 ex3] 58));obtain⟨hq1,hq1'⟩:=(Cx.ext (W:=wr) ⟨b1,b1'⟩ hx3).ext ((eR w3).alloc (.cells #[.slice ax3 0 cx3,.int .i64 0,.slice dx3 0 ex3] 58));obtain⟨hq2,hq2'⟩:=(Cx.ext (W:=wr) ⟨b2,b2'⟩ hx3).ext ((eR w3).alloc (.cells #[.slice ax3 0 cx3,.int .i64 0,.slice dx3 0 ex3] 58));have hr0:=(Cx.ext (W:=wr) ⟨r0,r0'⟩ hx3).ext ((eR w3).alloc (.cells #[.slice ax3 0 cx3,.int .i64 0,.slice dx3 0 ex3] 58));have hr1:=(Cx.ext (W:=wr) ⟨r1,r1'⟩ hx3).ext ((eR w3).alloc (.cells #[.slice ax3 0 cx3,.int .i64 0,.slice dx3 0 ex3] 58));have hr2:=(Cx.ext (W:=wr) ⟨r2,r2'⟩ hx3).ext ((eR w3).alloc (.cells #[.slice ax3 0 cx3,.int .i64 0,.slice dx3 0 ex3] 58));obtain⟨p0,p0'⟩:=hr0;obtain⟨p1,p1'⟩:=hr1;obtain⟨p2,p2'⟩:=hr2;have HX3:=eH hx3;clear hx hx3))
      have HRES:Hid (runG p fuel s=(s',(n:Int),re)):=by
       have h:=HRN.out;unfold Hid;rw [h];simp
      refine bodyPost_ret (jD rfl _ _ (w.heap.size+1) 0 _ _ rfl (box3 ⟨p0,p0'⟩ ⟨p1,p1'⟩ ⟨p2,p2'⟩ _ _ _) rfl rfl (by kernel_rfl)) rfl ?_;rw [HRES.out];exact⟨⟨_,rfl,uB (HST.out.ext (HX3.out.alloc _)) _ _ _⟩,uL ((HEK.out.trans HX3.out).alloc _) _ _ _⟩
theorem on_any (p:List GFunc) (v:Value) (S T:Nat→Prop) (s:GState) (l:List Int) (vs:Value) (fuel:Nat) (w:World) (hp:zM w S v p) (hs:zW w T vs s) (hok:Ok p s l) (hfu:fuel≤1000000) :
  Calls Tryz.prog 41 #[v,vs,.int .i64 fuel] w fun e w'=>(∃x,e=.returned (.tuple #[x,.int .i64 (runG p fuel s).2.1,.int .i64 (runG p fuel s).2.2])∧kZ w' w.heap.size x (runG p fuel s).1)∧Ext w w':=by
 have HP:=eH hp;have HS:=eH hs;have HFEW:=eH hok.fewS;have HOK:=eH hok;obtain⟨a,c,b,d,rfl⟩:=hs.few;obtain⟨ap,cp,rfl,_,_,_⟩:=hp;have RA:=zF;have hs0:(w.alloc (.cells #[.slice a s.fibers.length c,.int .i64 s.now,.slice b s.out.length d] 58)).heap.size=w.heap.size+1:=Array.size_push _;have r0:=Cx.new (w.alloc (.cells #[.slice a s.fibers.length c,.int .i64 s.now,.slice b s.out.length d] 58)) [.slice none 0 0,.int .i64 0,.slice none 0 0] 58 (j:=0) rfl;have r1:=Cx.new (w.alloc (.cells #[.slice a s.fibers.length c,.int .i64 s.now,.slice b s.out.length d] 58)) [.slice none 0 0,.int .i64 0,.slice none 0 0] 58 (j:=1) rfl;have r2:=Cx.new (w.alloc (.cells #[.slice a s.fibers.length c,.int .i64 s.now,.slice b s.out.length d] 58)) [.slice none 0 0,.int .i64 0,.slice none 0 0] 58 (j:=2) rfl;rw [hs0] at r0 r1 r2;have HR:=eH (⟨r0,r1,r2⟩:_∧_∧_);have HQ:=eH (⟨(Cx.new w [.slice a s.fibers.length c,.int .i64 s.now,.slice b s.out.length d] 58 (j:=0) rfl).ext ((eR _).alloc (.cells #[.slice none 0 0,.int .i64 0,.slice none 0 0] 58)),(Cx.new w [.slice a s.fibers.length c,.int .i64 s.now,.slice b s.out.length d] 58 (j:=1) rfl).ext ((eR _).alloc (.cells #[.slice none 0 0,.int .i64 0,.slice none 0 0] 58)),(Cx.new w [.slice a s.fibers.length c,.int .i64 s.now,.slice b s.out.length d] 58 (j:=2) rfl).ext ((eR _).alloc (.cells #[.slice none 0 0,.int .i64 0,.slice none 0 0] 58))⟩:_∧_∧_);have HE1:Hid (Ext w ((w.alloc (.cells #[.slice a s.fibers.length c,.int .i64 s.now,.slice b s.out.length d] 58)).alloc (.cells #[.slice none 0 0,.int .i64 0,.slice none 0 0] 58))):=((eR w).alloc _).alloc _;have HS1:Hid (((w.alloc (.cells #[.slice a s.fibers.length c,.int .i64 s.now,.slice b s.out.length d] 58)).alloc (.cells #[.slice none 0 0,.int .i64 0,.slice none 0 0] 58)).heap.size=w.heap.size+2):=by unfold Hid;simp
 clear hs0 r0 r1 r2 hok;go_enter Tryz.func41,Tryz.ntmps41
 go_upto_region 1 with fail
 go_cut [12] (fun _ wr=>Boxed wr (w.heap.size+2) w.heap.size s∧Ext w wr∧Cx wr (w.heap.size+1) 0 (.slice none 0 0)∧Cx wr (w.heap.size+1) 1 (.int .i64 0)∧Cx wr (w.heap.size+1) 2 (.slice none 0 0))
 case first =>
  go_wp2_with (first
   | (go_at_call 91;(with_reducible refine(own_any s _ T _ (zW.stays (Ext.stays (by ((repeat first|assumption|exact eR _|exact And.left (by assumption)|apply eA|apply eD|apply eN|refine eS ?_ (by simp<;>omega) _|refine eT ?_ (by assumption));done))) HS.out) HFEW.out).mono ?_);rintro e w2 ⟨⟨P,rfl,hO,hg⟩,hx2⟩;rw [HS1.out] at hO;obtain⟨q0,q0'⟩:=(HQ.out).1.ext hx2;obtain⟨q1,q1'⟩:=(HQ.out).2.1.ext hx2;obtain⟨q2,q2'⟩:=(HQ.out).2.2.ext hx2;obtain⟨av,cv,ev,_,_⟩:=hO.row.shape;obtain⟨ao,co,eo,_,_⟩:=hO.out.shape;have hst:kZ w2 (w.heap.size+2) _ _:=⟨P,rfl,hO,hg⟩;rw [ev,eo] at hst ⊢;have HST:=eH hst;have HX2:=eH hx2;clear hO hg hx2 ev eo hst))
  go_meet
  have hr:=HR.out;refine⟨Boxed.store ⟨q0,q0'⟩ ⟨q1,q1'⟩ ⟨q2,q2'⟩ HST.out (by omega),(((HE1.out.trans HX2.out).setCell (p:=⟨w.heap.size,0,none⟩) (Nat.le_refl _) _).setCell (p:=⟨w.heap.size,1,none⟩) (Nat.le_refl _) _).setCell (p:=⟨w.heap.size,2,none⟩) (Nat.le_refl _) _,?_,?_,?_⟩
  ·exact(hr.1.ext HX2.out).chg (chg3 w2 w.heap.size _ _ _) (by omega)
  ·exact(hr.2.1.ext HX2.out).chg (chg3 w2 w.heap.size _ _ _) (by omega)
  ·exact(hr.2.2.ext HX2.out).chg (chg3 w2 w.heap.size _ _ _) (by omega)
 case rest =>
  rename World=>w2
  obtain⟨hB2,hE2,hR2⟩:=hcut;have HB2:=eH hB2;have HE2:=eH hE2;have HR2:=eH hR2;clear hB2 hE2 hR2 HR HQ HE1 HS1 HS HFEW
  go_wp2_with fail
  go_loopw [9] (fun q9 wr=>∃(n k:Nat) (s':GState) (l':List Int),n+k=fuel∧q9=.int .i64 n∧Ok p s' l'∧runG p fuel s=((runG p k s').1,(runG p k s').2.1+n,(runG p k s').2.2) ∧
    Boxed wr (w.heap.size+2) w.heap.size s'∧Ext w wr∧Cx wr (w.heap.size+1) 0 (.slice none 0 0)∧Cx wr (w.heap.size+1) 1 (.int .i64 0)∧Cx wr (w.heap.size+1) 2 (.slice none 0 0)) (fun q _=>fuel - (intOf q).toNat)
  case atStart=>exact⟨0,fuel,s,l,Nat.zero_add _,rfl,HOK.out,by simp,HB2.out,HE2.out,HR2.out⟩
  case round =>
   obtain⟨n,k,s',l',hnk,rfl,hok,hrun,hbx,hE,hR⟩:=hrel;have HOKK:=eH hok;have HRUN:=eH hrun;have HEK:=eH hE;have HRK:=eH hR;have HBXK:=eH hbx;obtain⟨ax,cx,dx,ex,⟨b0,b0'⟩,⟨b1,b1'⟩,⟨b2,b2'⟩,hst⟩:=hbx.ex;have HST:=eH hst;obtain⟨⟨r0,r0'⟩,⟨r1,r1'⟩,⟨r2,r2'⟩⟩:=hR;clear hok hrun hbx hE hst;rename World=>wr
   by_cases hk:k=0
   ·subst hk;have TF:decide ((n:Int)<(fuel:Int))=false:=decide_eq_false (by omega);have HRES:Hid (runG p fuel s=(s',(n:Int),0)):=by unfold Hid;rw [HRUN.out,runG_zero];simp
    go_wp2_with fail
    refine bodyPost_ret (jD rfl _ _ (w.heap.size+1) 0 _ _ rfl (box3 ⟨r0,r0'⟩ ⟨r1,r1'⟩ ⟨r2,r2'⟩ _ _ _) rfl rfl (by kernel_rfl)) rfl ?_;rw [HRES.out];exact⟨⟨_,by rfl,uB HST.out _ _ _⟩,uL HEK.out _ _ _⟩
   ·obtain⟨k,rfl⟩:∃j,k=j+1:=⟨k - 1,by omega⟩
    have TF:decide ((n:Int)<(fuel:Int))=true:=decide_eq_true (by omega);by_cases hneg:s'.now<0
    ·have TN:decide ((0:Int)≤s'.now)=false:=decide_eq_false (by omega);have HRES:Hid (runG p fuel s=(s',(n:Int),0)):=by unfold Hid;rw [HRUN.out,runG_done p s' _ hneg];simp
     go_wp2_with fail
     refine bodyPost_ret (jD rfl _ _ (w.heap.size+1) 0 _ _ rfl (box3 ⟨r0,r0'⟩ ⟨r1,r1'⟩ ⟨r2,r2'⟩ _ _ _) rfl rfl (by kernel_rfl)) rfl ?_;rw [HRES.out];exact⟨⟨_,by rfl,uB HST.out _ _ _⟩,uL HEK.out _ _ _⟩
    ·have TN:decide ((0:Int)≤s'.now)=true:=decide_eq_true (by omega);have HFEWK:=eH HOKK.out.fewS;have HIMP:=eH (ok_step HOKK.out);have HNEG:=eH hneg;clear hk;by_cases he:(kF p s').1=0
     ·have hsg:yM p s'=(0,(kF p s').2):=by unfold yM;rw [if_neg hneg,if_pos he]
      have hnx:∃l9,Ok p (kF p s').2 l9:=by
       rcases (zBl HOKK.out (by omega)).2 with ⟨_,h⟩ | h
       ·exact h
       ·omega
      have hrn:=HRUN.out;rw [runG_step p s' k hneg he] at hrn;obtain⟨t,ht⟩:∃t,(kF p s').2=t:=⟨_,rfl⟩
      rw [ht] at hsg hnx hrn;obtain⟨l9,hnx⟩:=hnx;have HSG:=eH hsg;have HNX:=eH hnx;have HRN:=eH hrn;clear hsg hnx hrn ht he hneg;have KN:IntKind.i64.wrap ((n:Int)+1)=(n:Int)+1:=IntWalk.i64_in _ (by omega)
      go_wp2_with (first
       | (go_at_call 92;(with_reducible refine(zHn p _ S _ s' _ _ (zM.stays (Ext.stays HEK.out) HP.out) HST.out.state HFEWK.out HIMP.out).mono ?_);rintro e w3 ⟨⟨x,rfl,hx⟩,hx3⟩;rw [HSG.out] at hx ⊢;obtain⟨ax3,cx3,dx3,ex3,rfl⟩:=hx.few;obtain⟨hq0,hq0'⟩:=(Cx.ext (W:=wr) ⟨b0,b0'⟩ hx3).ext ((eR w3).alloc (.cells #[.slice ax3 t.fibers.length cx3,.int .i64 t.now,.slice dx3 t.out.length ex3] 58));obtain⟨hq1,hq1'⟩:=(Cx.ext (W:=wr) ⟨b1,b1'⟩ hx3).ext ((eR w3).alloc (.cells #[.slice ax3 t.fibers.length cx3,.int .i64 t.now,.slice dx3 t.out.length ex3] 58));obtain⟨hq2,hq2'⟩:=(Cx.ext (W:=wr) ⟨b2,b2'⟩ hx3).ext ((eR w3).alloc (.cells #[.slice ax3 t.fibers.length cx3,.int .i64 t.now,.slice dx3 t.out.length ex3] 58));have hr0:=(Cx.ext (W:=wr) ⟨r0,r0'⟩ hx3).ext ((eR w3).alloc (.cells #[.slice ax3 t.fibers.length cx3,.int .i64 t.now,.slice dx3 t.out.length ex3] 58));have hr1:=(Cx.ext (W:=wr) ⟨r1,r1'⟩ hx3).ext ((eR w3).alloc (.cells #[.slice ax3 t.fibers.length cx3,.int .i64 t.now,.slice dx3 t.out.length ex3] 58));have hr2:=(Cx.ext (W:=wr) ⟨r2,r2'⟩ hx3).ext ((eR w3).alloc (.cells #[.slice ax3 t.fibers.length cx3,.int .i64 t.now,.slice dx3 t.out.length ex3] 58));have HX3:=eH hx3;have HXS:=eH hx;have HR3:=eH (⟨hr0,hr1,hr2⟩:_∧_∧_);clear hx hx3 hr0 hr1 hr2))
      have hrs:w.heap.size+2≤wr.heap.size:=by have:=Cx.lt (W:=wr) ⟨r0,r0'⟩;omega
      go_roundw
      case rel =>
       refine⟨n+1,k,t,l9,by omega,by go_num,HNX.out,by rw [HRN.out];simp;omega,Boxed.store (w:=w3.alloc (.cells #[.slice ax3 t.fibers.length cx3,.int .i64 t.now,.slice dx3 t.out.length ex3] 58)) (B:=w.heap.size+2) ⟨hq0,hq0'⟩ ⟨hq1,hq1'⟩ ⟨hq2,hq2'⟩ ((HXS.out.ext ((eR _).alloc _)).mono hrs) (by omega),?_,?_,?_,?_⟩
       ·exact((((HEK.out.trans HX3.out).alloc _).setCell (p:=⟨w.heap.size,0,none⟩) (Nat.le_refl _) _).setCell (p:=⟨w.heap.size,1,none⟩) (Nat.le_refl _) _).setCell (p:=⟨w.heap.size,2,none⟩) (Nat.le_refl _) _
       ·exact(HR3.out).1.chg (chg3 _ w.heap.size _ _ _) (by omega)
       ·exact(HR3.out).2.1.chg (chg3 _ w.heap.size _ _ _) (by omega)
       ·exact(HR3.out).2.2.chg (chg3 _ w.heap.size _ _ _) (by omega)
      case measure=>simp [intOf];omega
     ·have hsg:yM p s'=((kF p s').1,⟨[],0,[]⟩):=by unfold yM;rw [if_neg hneg,if_neg he]
      have TE:((kF p s').1 != 0)=true:=bne_iff_ne.2 he;have hrn:=HRUN.out;rw [runG_err p s' k hneg he] at hrn;obtain⟨re,hre⟩:∃re,(kF p s').1=re:=⟨_,rfl⟩
      rw [hre] at TE hsg hrn;have HSG:=eH hsg;have HRN:=eH hrn;clear hsg hrn hre he hneg
      go_wp2_with (first
       | (go_at_call 92;(with_reducible refine(zHn p _ S _ s' _ _ (zM.stays (Ext.stays HEK.out) HP.out) HST.out.state HFEWK.out HIMP.out).mono ?_);rintro e w3 ⟨⟨x,rfl,hx⟩,hx3⟩;rw [HSG.out] at hx ⊢;obtain⟨ax3,cx3,dx3,ex3,rfl⟩:=hx.few0;obtain⟨hq0,hq0'⟩:=(Cx.ext (W:=wr) ⟨b0,b0'⟩ hx3).ext ((eR w3).alloc (.cells #[.slice ax3 0 cx3,.int .i64 0,.slice dx3 0 ex3] 58));obtain⟨hq1,hq1'⟩:=(Cx.ext (W:=wr) ⟨b1,b1'⟩ hx3).ext ((eR w3).alloc (.cells #[.slice ax3 0 cx3,.int .i64 0,.slice dx3 0 ex3] 58));obtain⟨hq2,hq2'⟩:=(Cx.ext (W:=wr) ⟨b2,b2'⟩ hx3).ext ((eR w3).alloc (.cells #[.slice ax3 0 cx3,.int .i64 0,.slice dx3 0 ex3] 58));have hr0:=(Cx.ext (W:=wr) ⟨r0,r0'⟩ hx3).ext ((eR w3).alloc (.cells #[.slice ax3 0 cx3,.int .i64 0,.slice dx3 0 ex3] 58));have hr1:=(Cx.ext (W:=wr) ⟨r1,r1'⟩ hx3).ext ((eR w3).alloc (.cells #[.slice ax3 0 cx3,.int .i64 0,.slice dx3 0 ex3] 58));have hr2:=(Cx.ext (W:=wr) ⟨r2,r2'⟩ hx3).ext ((eR w3).alloc (.cells #[.slice ax3 0 cx3,.int .i64 0,.slice dx3 0 ex3] 58));obtain⟨p0,p0'⟩:=hr0;obtain⟨p1,p1'⟩:=hr1;obtain⟨p2,p2'⟩:=hr2;have HX3:=eH hx3;clear hx hx3))
      have HRES:Hid (runG p fuel s=(s',(n:Int),re)):=by
       have h:=HRN.out;unfold Hid;rw [h];simp
      refine bodyPost_ret (jD rfl _ _ (w.heap.size+1) 0 _ _ rfl (box3 ⟨p0,p0'⟩ ⟨p1,p1'⟩ ⟨p2,p2'⟩ _ _ _) rfl rfl (by kernel_rfl)) rfl ?_;rw [HRES.out];exact⟨⟨_,rfl,uB (HST.out.ext (HX3.out.alloc _)) _ _ _⟩,uL ((HEK.out.trans HX3.out).alloc _) _ _ _⟩
end Go.Proofs.YtpcjkfppacnkgaaGreatDoor
