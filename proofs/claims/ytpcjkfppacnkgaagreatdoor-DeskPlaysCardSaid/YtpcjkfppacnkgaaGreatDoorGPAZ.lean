/- Contracts and plain facts. -/
import Derived.Test.YtpcjkfppacnkgaaGreatDoorGPAY
set_option maxHeartbeats 4000000
set_option maxRecDepth 100000
namespace Go.Proofs.YtpcjkfppacnkgaaGreatDoor
open Go Go.RowKit
structure Off (s u:GState) (n m:Int):Prop where
 len:u.fibers.length=s.fibers.length
 out:u.out=s.out
 keep:∀j,j<s.fibers.length→(j:Int)≠n→(j:Int)≠m→u.fibers.getD j default=s.fibers.getD j default
theorem Off.refl (s:GState) (n m:Int):Off s s n m:=⟨rfl,rfl,fun _ _ _ _=>rfl⟩
theorem Off.fib {s u:GState} {n m:Int} (h:Off s u n m) {i:Int} (hi:i=n∨i=m) (h0:0≤i) (g:GFiber→GFiber):Off s (kN u i g) n m:=by
 refine⟨(qK _ _ _).trans h.len,h.out,fun j hj h1 h2=>?_⟩;rw [yG _ _ _ _ (by rw [h.len];exact hj),if_neg (fun e=>by
  have:(j:Int)=i:=by omega
  rcases hi with hi | hi
  ·exact h1 (this.trans hi)
  ·exact h2 (this.trans hi))]
 exact h.keep j hj h1 h2
theorem Off.top {s u:GState} {n m:Int} (h:Off s u n m) {i:Int} (hi:i=n∨i=m) (h0:0≤i) (g:GFrame→GFrame):Off s (kT u i g) n m:=h.fib hi h0 _
theorem Off.now {s u:GState} {n m:Int} (h:Off s u n m) (k:Int):Off s { u with now:=k } n m:=⟨h.len,h.out,h.keep⟩
structure OneS (s t:GState):Prop where
 len:s.fibers.length≤t.fibers.length∧t.fibers.length≤s.fibers.length+1
 out:t.out=s.out∨∃v,t.out=s.out++[v]
 keep:∀j,j<s.fibers.length→(j:Int)≠s.now→(j:Int)≠t.now→t.fibers.getD j default=s.fibers.getD j default
theorem Off.one {s u:GState} (h:Off s u s.now u.now):OneS s u:=⟨by rw [h.len];omega,.inl h.out,h.keep⟩
theorem Runs.adv {p:List GFunc} {s:GState} {l r:List Int} {k:Nat} {fs:List GFrame} {x:GFrame} (hR:Runs p s l k fs x r) :
  At (advG s) k fs { x with at_:=x.at_+1 }∧Near s (advG s) k∧kF p s=zQ p (advG s) (opAt p x).kind (opAt p x).a:=by
 have hA:=hR.at_;exact⟨hA.top _ hA.now,(Near.refl s k).top hA.lt _ hA.now,by unfold kF;rw [hA.curX]⟩
structure BackF (s t:GState) (k m:Nat) (gs:List GFrame) (y:GFrame) (v:Int):Prop where
 caller:(s.fibers.getD k default).caller=(m:Nat)
 lt:m<s.fibers.length
 was:(s.fibers.getD m default).frames=gs++[y]
 now:t.now=(m:Nat)
 is_:(t.fibers.getD m default).frames=gs++[{ y with stack:=y.stack++[v] }]
 gone:(t.fibers.getD k default).caller = -1
 len:t.fibers.length=s.fibers.length
structure WakeF (s t:GState) (m:Nat):Prop where
 lt:m<s.fibers.length
 now:t.now=(m:Nat)
 is_:(t.fibers.getD m default).caller=s.now
 was:(s.fibers.getD m default).caller = -1
 len:t.fibers.length=s.fibers.length
theorem runG0 (p:List GFunc) (s:GState):runG p 0 s=(s,0,0):=by rw [runG]
theorem runG_over (p:List GFunc) (s:GState) (k:Nat) (h:s.now<0):runG p (k+1) s=(s,0,0):=by rw [runG,if_pos h]
theorem runG_bad (p:List GFunc) (s:GState) (k:Nat) (h:¬s.now<0) (e:(kF p s).1≠0):runG p (k+1) s=(s,0,(kF p s).1):=by rw [runG,if_neg h,if_pos e]
theorem runG_on (p:List GFunc) (s:GState) (k:Nat) (h:¬s.now<0) (e:(kF p s).1=0):runG p (k+1) s=((runG p k (kF p s).2).1,(runG p k (kF p s).2).2.1+1,(runG p k (kF p s).2).2.2):=by rw [runG,if_neg h,if_neg (fun k=>k e)]
theorem run_count (p:List GFunc):∀(n:Nat) (s:GState),0≤(runG p n s).2.1∧(runG p n s).2.1≤n
 | 0,s=>by rw [runG0];simp
 | n+1,s=>by
  by_cases h:s.now<0
  ·rw [runG_over p s n h];simp;omega
  ·by_cases e:(kF p s).1=0
   ·rw [runG_on p s n h e];have:=run_count p n (kF p s).2;simp only;omega
   ·rw [runG_bad p s n h e];simp;omega
structure RanF (p:List GFunc) (n:Nat) (r:GState × Int × Int):Prop where
 right:∃l,Ok p r.1 l
 fine:r.2.2=0→r.2.1=n∨r.1.now = -1
 bad:r.2.2≠0→r.2.1<n∧0≤r.1.now∧(kF p r.1).1=r.2.2
theorem run_ran {p:List GFunc}:∀(n:Nat) {s:GState} {l:List Int},Ok p s l→RanF p n (runG p n s)
 | 0,s,l,h=>by rw [runG0];exact⟨⟨l,h⟩,fun _=>.inl rfl,fun h=>absurd rfl h⟩
 | n+1,s,l,h=>by
  by_cases h0:s.now<0
  ·rw [runG_over p s n h0];exact⟨⟨l,h⟩,fun _=>.inr (by have:=h.now;show s.now = -1;omega),fun h=>absurd rfl h⟩
  ·by_cases e:(kF p s).1=0
   ·rw [runG_on p s n h0 e];obtain⟨_,hr⟩:=zBl h (by omega);obtain⟨l',h'⟩:∃l',Ok p (kF p s).2 l':=by
     rcases hr with ⟨_,h⟩ | h
     ·exact h
     ·omega
    obtain⟨a,b,c⟩:=run_ran n h';refine⟨a,fun h=>(b h).imp (fun h=>?_) id,fun h=>?_⟩
    ·simp only;omega
    ·obtain⟨c1,c2,c3⟩:=c h;exact⟨by simp only;omega,c2,c3⟩
   ·rw [runG_bad p s n h0 e];exact⟨⟨l,h⟩,fun h=>absurd h e,fun _=>⟨by simp only;omega,by simp only;omega,rfl⟩⟩
theorem begin_ok {p:List GFunc} (h:zZ p=0):Ok p (kG p) [0]:=by
 have hP:=kH h;have hpos:=hP.pos;obtain⟨_,_,hr⟩:=vA (hP.func 0 hpos);have hl:=(hr hpos).locals;have hF:zI p 0=p[0]:=by unfold zI;simp [List.getD,List.getElem?_eq_getElem hpos]
 have hloc:((List.replicate (zI p 0).locals.toNat (0:Int)).length:Int)=(zI p 0).locals:=by rw [List.length_replicate,hF];have e1:p[0]=p[(((0:Nat):Int)).toNat]:=rfl;rw [e1];omega
 obtain⟨n1,n2⟩:=new_full hP (f:=0) (Int.le_refl 0) (by omega) hloc;have key:∀k,k<1→k=0:=fun k hk=>by omega
 refine⟨h,by show 1≤5;omega,by show 0≤30;omega,fun k hk=>?_,by show 0<1;omega,by show (-1:Int)≤0∧(0:Int)≤((1:Nat):Int) - 1;omega,fun k hk=>?_,?_,by decide,fun h0=>absurd (by simp) h0,fun k hk=>?_⟩
 ·obtain rfl:=key k hk;show 1≤6;omega
 ·obtain rfl:=key k hk;show (-1:Int) ≤ -1∧(-1:Int)≤((1:Nat):Int) - 1;omega
 ·exact⟨rfl,Int.le_refl 0,by simp,show (-1:Int)<0 by decide⟩
 ·obtain rfl:=key k hk;show jK p ⟨[kY p 0],-1⟩ (decide (((0:Nat):Int)∈[(0:Int)])) (decide (((0:Nat):Int)=0))=true;rw [decide_eq_true (show ((0:Nat):Int)∈[(0:Int)] by simp),decide_eq_true (show ((0:Nat):Int)=0 by rfl)];exact vW (fs:=[]) (x:=kY p 0) rfl (fun j hj=>absurd hj (by simp)) n1 (zFt n2)
structure Eng (w:World) (eb b:Nat) (p:List GFunc) (a:Option Addr) (cap:Nat):Prop where
 e0:Cx w eb 0 (.pointer (some ⟨b,0,none⟩))
 e1:Cx w eb 1 (.slice a p.length cap)
theorem Eng.ext {w w':World} {eb b:Nat} {p:List GFunc} {a:Option Addr} {cap:Nat} (h:Eng w eb b p a cap) (he:Ext w w'):Eng w' eb b p a cap:=⟨h.e0.ext he,h.e1.ext he⟩
theorem zEc {P:PState} {L R:List PFiber} {y:PFiber} {F:List PFrame} {x:PFrame} {w:World} {B b g o cap:Nat} {eb:Nat} {p:List GFunc} {a:Option Addr} {cp:Nat} (h:OwnS w B b P)
    (hE:Eng w eb b p a cp) (hs:Spot P L y R F x) (hv:y.vf=.slice (some ⟨g,o,none⟩) (F++[x]).length cap) (hnow:P.now=(L.length:Int)) :
    Calls Tryz.prog 158 #[.pointer (some ⟨eb,0,none⟩)] w fun e w'=>e=.returned (.pointer (some ⟨g,o+F.length * 4,none⟩))∧Ext w w':=by
  have hrow:=h.row;have hfew:=h.few;rw [hs.fs] at hrow hfew;obtain⟨⟨c0,-⟩,⟨c1,-⟩,-⟩:=(⟨h.c0,h.c1,h.c2⟩:_∧_∧_)
  obtain⟨⟨x0,-⟩,-⟩:=hE;rw [hnow] at c1;obtain⟨g0,o0,cap0,e0,hb0,hc0,hm0,hx0⟩:=RowAt.place kK (fun _=>rfl) hrow;rw [e0] at c0;obtain⟨d0,-⟩:=hx0 0 _ (by decide) rfl;rw [hv,Nat.add_zero] at d0;have hnk:L.length<(L++y::R).length:=by simp
  have hfr:(F++[x]).length≤1000:=by
    have:=(h.fs y (by rw [hs.fs];simp)).few
    rwa [hs.fr] at this
  have hm1:(F++[x]).length=F.length+1:=by simp
  have hmN:F.length<(F++[x]).length:=by omega
  have KK:IntKind.i64.wrap (((F++[x]).length:Int) - 1)=(F.length:Int):=by
    have e:(((F++[x]).length:Int) - 1)=(F.length:Int):=by omega
    rw [e];exact IntWalk.i64_in _ (by omega)
  clear hrow hx0 hb0 hm0 hm1 hs hv hnow;have RA:=zF;generalize L.length=n at *;generalize F.length=m at *;generalize (L++y::R).length=nk at *;generalize (F++[x]).length=mk at *;go_enter Tryz.func158,Tryz.ntmps158
  go_upto_region 1 with fail
  refine kB (by kernel_rfl) (by kernel_rfl) ?_
  repeat (first
    | go_big_quiet_skip
    | (go_big_quiet_want
       unfold Oper.quiet;apply Exists.intro;refine⟨fun w' hw'=>?_,?_⟩
       focus
         have hcq:=Ext.keep hw';go_simp
         first
           | with_reducible rfl
       (try dsimp only [Act.put])
       (try simp only [xL,xM,xN])
       go_big_quiet_on))
  refine wpQuiet_nil ?_;intro wq hq
  go_wp2_with fail
  go_ret;exact⟨rfl,hq⟩
theorem src_given {w:World} {b o c:Nat} {v:Int} (h:w.cell? ⟨b,o,none⟩=some (.int .i64 v)):qL w 1 (.slice (some ⟨b,o,none⟩) 1 c) 1 (ints [v]):=by
 refine⟨_,_,rfl,by simp [ints],fun u hu=>by simp [ints] at hu;subst hu;rfl,.inr ⟨_,rfl,fun j u hj=>?_⟩⟩
 cases j with
 | zero=>simp [ints] at hj;subst hj;exact h
 | succ j=>simp [ints] at hj
theorem engPush_at {P:PState} {L R:List PFiber} {y:PFiber} {F:List PFrame} {x:PFrame} {w:World} {B b eb:Nat} {p:List GFunc} {a:Option Addr} {cp lb lo lc:Nat} (h:OwnS w B b P) (hE:Eng w eb b p a cp) (hs:Spot P L y R F x) (hnow:P.now=(L.length:Int)) (v:Int) (hv:I64 v) (hlen:x.f.stack.length<1000) (hc:w.cell? ⟨lb,lo,none⟩=some (.int .i64 v)) :
  Calls Tryz.prog 159 #[.pointer (some ⟨eb,0,none⟩),.slice (some ⟨lb,lo,none⟩) 1 lc] w fun e w'=>e=.returned (.tuple #[])∧(∃v1,OwnS w' B b (qT P L y R F ⟨{ x.f with stack:=x.f.stack++[v] },x.vl,v1⟩)∧(zB v1=zB x.vs∨∀k,zB v1=some k→w.heap.size≤k)) ∧
   Chg (fun k=>zB y.vf=some k∨zB x.vs=some k) w w':=by
 obtain⟨g,o,cap,e1,hcap,hmax,-,-,-,d3,hbl⟩:=h.spot hs;have hx:=(h.fs y (by rw [hs.fs];simp)).fr x (by rw [hs.fr];simp);have H:=eH h;have HB:Hid (B≤w.heap.size):=Nat.le_trans h.le (Nat.le_of_lt h.c0.lt);have HX:=eH hx;have D3:=eH d3;have HE1:=eH e1;obtain⟨i0,hi0,hz0,hz1,hz2⟩:=info_parts vM;have RA:=zF;obtain⟨as_,cs,es,hcs,hms⟩:=hx.s.shape;have HES:=eH es;have HENG:=eH hE;have HC:=eH hc;have HXS:Hid (RowAt w B 1 (.slice as_ x.f.stack.length cs) x.f.stack.length (ints x.f.stack)):=by unfold Hid;rw [←es];exact hx.s
 have HGX:Hid (¬zB (.slice as_ x.f.stack.length cs)=some g):=by unfold Hid;rw [←es];exact fun e=>(h.sep hs).1 g hbl (by unfold PFrame.bl;simp [e])
 clear hc hE h hx d3 e1 hcap hmax es hcs hms;go_enter Tryz.func159,Tryz.ntmps159
 go_upto_region 1 with (first
  | (go_at_call 158;(with_reducible refine(zEc H.out HENG.out hs HE1.out hnow).mono ?_);rintro e w2 ⟨rfl,hx2⟩))
 have HX2:=eH hx2;obtain⟨d3,d3'⟩:=D3.out.ext hx2;rw [HES.out] at d3;have HS2:Hid (B≤w2.heap.size):=Nat.le_trans HB.out hx2.size;clear hx2
 go_wp2_with (first
  | (at_builtin;refine zE rfl _ _ 30 rfl B 3 i0 (.int .i64 0) 1 8 Tryz.underlying30 hi0 hz0 hz1 hz2 rfl (by decide) _ _ _ rfl (by exact(HXS.out.ext (HX2.out) (by decide))) 1 (ints [v]) (src_given (eC HX2.out HC.out)) (by unfold maxLen;omega) (by omega) (by exact Nat.le_trans HS2.out (Nat.le_refl _)) ?_;intro v1 Wv1 rv1;have RV:=eH rv1;obtain⟨k0,k0'⟩:=(D3.out.ext (HX2.out)).chg rv1.2.1 HGX.out;obtain⟨a9,cap9,rfl,_,_⟩:=rv1.1.shape;clear rv1))
 go_end0;have hRV:kO w2 Wv1 B 1 (.slice as_ x.f.stack.length cs) (.slice a9 (x.f.stack.length+1) cap9) (x.f.stack.length+1) (ints x.f.stack++ints [v]):=RV.out;have hA:Ext w w2:=HX2.out;obtain⟨r1,r2,r3⟩:=hRV;have hfin:=H.out.stack hs HE1.out (W1:=Wv1) (st:=x.f.stack++[v]) (v1:=.slice a9 (x.f.stack.length+1) cap9)
  ((Chg.of_ext hA).trans (r2.mono (fun k _ e=>by rw [HES.out];exact e)))
  (by rw [List.length_append,List.length_singleton,yK];exact r1) (fun k hk=>by rcases List.mem_append.1 hk with h1 | h1;exact HX.out.i.2.2.2 k h1;rw [List.mem_singleton.1 h1];exact hv)
  (by rw [List.length_append,List.length_singleton];omega) (r3.imp (fun e=>by rw [HES.out];exact e) (fun e k hk=>Nat.le_trans hA.size (e k hk)))
 exact⟨rfl,⟨_,hfin.1,r3.imp (fun e=>by rw [HES.out];exact e) (fun e k hk=>Nat.le_trans hA.size (e k hk))⟩,hfin.2⟩
end Go.Proofs.YtpcjkfppacnkgaaGreatDoor
