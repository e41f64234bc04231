/- Contracts and plain facts. -/
import Derived.Test.YtpcjkfppacnkgaaGreatDoorGPAZ
import Derived.BigRegion
import Derived.Laws.IdiomCopy
set_option maxHeartbeats 4000000
set_option maxRecDepth 100000
namespace Go.Proofs.YtpcjkfppacnkgaaGreatDoor
open Go Go.RowKit
theorem Ints.srcV {w:World} {S:Nat→Prop} {v:Value} {l:List Int} (h:Ints w S v l):qL w 1 v l.length (ints l):=by have:=h.src;rwa [kU] at this
theorem src_up {w w':World} {size:Nat} {x:Value} {m:Nat} {news:List Value} (h:qL w size x m news) (he:Ext w w'):qL w' size x m news:=by
 obtain⟨a,c,rfl,h1,h2,h3⟩:=h;refine⟨a,c,rfl,h1,h2,h3.imp id fun ⟨ad,ha,hc⟩=>⟨ad,ha,fun j u hj=>?_⟩⟩;have hcj:=hc j u hj;exact(Ext.keep he _ (by rw [hcj];rfl)).trans hcj
theorem row_ext {W W':World} {base size n:Nat} {a:Option Addr} {v':Value} {xs:List Value} (h:kO W W' base size (.slice a 0 0) v' n xs):Ext W W':=h.2.1.ext (fun k _ e=>by cases a<;>simp [zB] at e)
theorem zEi (l:List Int) (v:Value) (S:Nat→Prop) (w:World) (hl:Ints w S v l) (hn:l.length≤1000) :
  Calls Tryz.prog 129 #[v] w fun e w'=>(∃v1,e=.returned v1∧RowAt w' w.heap.size 1 v1 l.length (ints l))∧Ext w w':=by
 have HSRC:=eH hl.srcV;obtain⟨a,c,rfl,hc,hb,hel⟩:=hl;obtain⟨i0,hi0,hz0,hz1,hz2⟩:=info_parts vM;have RA:=zF
 cases a with
 | none =>
  have hl0:l=[]:=by
   cases l with
   | nil=>rfl
   | cons x l=>obtain⟨b,o,e,_⟩:=hel 0 (by simp);cases e
  subst hl0;have hbn:∀w,(binOp .eql 30 (.slice none 0 c) (.slice none 0 0)).run Tryz.prog w=.ok (.bool true) w:=fun w=>by kernel_rfl
  clear hel hc hb;go_enter Tryz.func129,Tryz.ntmps129
  go_wp2_with fail
  go_ret;exact⟨⟨_,rfl,RowAt.nil _ _ _ _⟩,eR _⟩
 | some ad =>
  have hbn:∀w,(binOp .eql 30 (.slice (some ad) l.length c) (.slice none 0 0)).run Tryz.prog w=.ok (.bool false) w:=fun w=>by kernel_rfl
  clear hel;go_enter Tryz.func129,Tryz.ntmps129
  go_wp2_with (first
   | (at_builtin;refine zE rfl _ _ 30 rfl w.heap.size 3 i0 (.int .i64 0) 1 8 Tryz.underlying30 hi0 hz0 hz1 hz2 rfl (by decide) _ _ _ rfl (RowAt.nil _ _ _ _) l.length (ints l) (src_up HSRC.out (by ((repeat first|assumption|exact eR _|exact And.left (by assumption)|apply eA|apply eD|apply eN|refine eS ?_ (by simp<;>omega) _|refine eT ?_ (by assumption));done))) (by unfold maxLen;omega) (by omega) (by exact Ext.size (by ((repeat first|assumption|exact eR _|exact And.left (by assumption)|apply eA|apply eD|apply eN|refine eS ?_ (by simp<;>omega) _|refine eT ?_ (by assumption));done))) ?_;intro v1 Wv1 rv1;have RV:=eH rv1;have hxv:=row_ext rv1;obtain⟨a9,cap9,rfl,_,_⟩:=rv1.1.shape;clear rv1))
  go_ret;have hR:=RV.out;rw [Nat.zero_add,List.nil_append] at hR;exact⟨⟨_,rfl,hR.1⟩,by ((repeat first|assumption|exact eR _|exact And.left (by assumption)|apply eA|apply eD|apply eN|refine eS ?_ (by simp<;>omega) _|refine eT ?_ (by assumption));done)⟩
theorem RowAt.hind {w:World} {base:Nat} {a:Option Addr} {n cap:Nat} {l:List Int} (h:RowAt w base 1 (.slice a n cap) l.length (ints l)) (hI:∀k∈l,I64 k) (hl:l.length≤1000) (m:Nat) (hm:m≤l.length) :
  Ints w (fun _=>True) (.slice (if cap=m then a else a.map (·.add m)) (n - m) (cap - m)) (l.drop m):=by
 obtain⟨_,a',cap',e,h1,h2,h3⟩:=h;simp only [Value.slice.injEq] at e;obtain⟨rfl,rfl,rfl⟩:=e;unfold maxLen at h2;refine⟨_,cap - m,by rw [List.length_drop],by rw [List.length_drop];omega,⟨by rw [List.length_drop];omega,by omega⟩,fun i hi=>?_⟩;rw [List.length_drop] at hi;obtain⟨g,o,rfl,_,hc,_⟩:=h3.resolve_left (by omega);rw [if_neg (by omega)];refine⟨g,o+m,by simp [Addr.add],trivial,?_,hI _ (List.mem_of_mem_drop (List.getElem_mem _))⟩;have:=hc (m+i) (by omega);rw [←Nat.add_assoc] at this;rw [Nat.mul_one,this,List.getElem_drop];unfold Proofs.YtpcjkfppacnkgaaGreatDoor.ints;rw [List.getElem?_map,List.getElem?_eq_getElem (by omega)];rfl
theorem RowAt.front {w:World} {base n cap:Nat} {a:Option Addr} {l:List Int} (h:RowAt w base 1 (.slice a n cap) l.length (ints l)) (m:Nat) (hm:m≤l.length):RowAt w base 1 (.slice a m cap) (l.take m).length (ints (l.take m)):=by
 obtain⟨hl,a',cap',e,h1,h2,h3⟩:=h;simp only [Value.slice.injEq] at e;obtain⟨rfl,rfl,rfl⟩:=e;have hlen:(l.take m).length=m:=by rw [List.length_take];omega
 refine⟨by rw [qP,Nat.mul_one],_,_,by rw [hlen],by rw [hlen];omega,h2,?_⟩;rcases h3 with h3 | ⟨g,o,rfl,hb,hc,ht⟩
 ·exact .inl h3
 ·refine .inr ⟨g,o,rfl,hb,fun j hj=>?_,ht⟩;rw [hlen,Nat.mul_one] at hj;rw [hc j (by omega)];unfold Proofs.YtpcjkfppacnkgaaGreatDoor.ints;rw [List.getElem?_map,List.getElem?_map,List.getElem?_take,if_pos hj]
theorem engPull_at {P:PState} {L R:List PFiber} {y:PFiber} {F:List PFrame} {x:PFrame} {w:World} {B b eb:Nat} {p:List GFunc} {a:Option Addr} {cp:Nat} (h:OwnS w B b P) (hE:Eng w eb b p a cp) (hs:Spot P L y R F x) (hnw:P.now=(L.length:Int)) (n:Nat) (hn:n≤x.f.stack.length) :
  Calls Tryz.prog 160 #[.pointer (some ⟨eb,0,none⟩),.int .i64 n] w fun e w'=>∃v1,e=.returned v1∧Ints w' (w.heap.size≤·) v1 (x.f.stack.drop (x.f.stack.length - n)) ∧
   (∃v2,OwnS w' B b (qT P L y R F ⟨{ x.f with stack:=x.f.stack.take (x.f.stack.length - n) },x.vl,v2⟩)∧zB v2=zB x.vs)∧Chg (fun k=>zB y.vf=some k∨zB x.vs=some k) w w':=by
 obtain⟨g,o,cap,e1,hcap,hmax,-,-,-,d3,hbl⟩:=h.spot hs;have hx:=(h.fs y (by rw [hs.fs];simp)).fr x (by rw [hs.fr];simp);have hrow:=hx.s;obtain⟨as_,cs,es,hcs,hms⟩:=hrow.shape;rw [es] at hrow;rw [es] at d3;have hfew:=hx.few.2;obtain⟨m,hm⟩:∃m,x.f.stack.length - n=m:=⟨_,rfl⟩
 have hmn:m+n=x.f.stack.length:=by omega
 have htail:=hrow.hind hx.i.2.2.2 hfew m (by omega);have hfront:=hrow.front m (by omega);have KK:IntKind.i64.wrap ((x.f.stack.length:Int) - (n:Int))=(m:Int):=by
  have e:((x.f.stack.length:Int) - (n:Int))=(m:Int):=by omega
  rw [e];exact IntWalk.i64_in _ (by omega)
 have H:=eH h;have HX:=eH hx;have HE:=eH hE;have D3:=eH d3;have HE1:=eH e1;have HES:=eH es;have HT:=eH htail;have HFR:=eH hfront;have HDL:Hid ((x.f.stack.drop m).length=n):=by unfold Hid;rw [List.length_drop];omega
 have HBK:Hid (zB (.slice as_ m cs)=zB x.vs):=by unfold Hid;rw [es];cases as_<;>rfl
 have HDE:Hid ((x.f.stack.drop m).length≤1000):=by unfold Hid;rw [List.length_drop];omega
 have HTL:Hid ((x.f.stack.take m).length=m):=by unfold Hid;rw [List.length_take];omega
 have HMM:Hid (x.f.stack.length - n=m):=hm;have hmN:m≤x.f.stack.length:=by omega
 have hmC:m≤cs:=by omega
 rw [hm];clear h hx hE d3 e1 hcap hmax es hrow htail hfront hm hmn hn;have RA:=zF;generalize hN:x.f.stack.length=N at *;have HN:=eH hN;clear hN;go_enter Tryz.func160,Tryz.ntmps160
 go_upto_region 2 with (first
  | (go_at_call 158;(with_reducible refine(zEc H.out HE.out hs HE1.out hnw).mono ?_);rintro e w2 ⟨rfl,hx2⟩))
 have HX2:=eH hx2;obtain⟨d3,d3'⟩:=D3.out.ext hx2;have HT2:=eH (Ints.stays (Ext.stays hx2) HT.out);clear hx2;rcases Classical.em (cs=m) with hcm | hcm
 all_goals (first | (subst hcm;(obtain rfl:N=cs:=by omega);rw [if_pos rfl,Nat.sub_self] at HT2) | rw [if_neg hcm] at HT2)
 all_goals (
  go_upto_region 4 with (first
   | (go_at_call 129;(with_reducible refine(zEi (x.f.stack.drop _) _ (fun _=>True) _ HT2.out HDE.out).mono ?_);rintro e w3 ⟨⟨v1,rfl,hr3⟩,hx3⟩))
  have HX3:=eH hx3;have HR3:=eH hr3;obtain⟨d4,d4'⟩:=Cx.ext (W:=w2) ⟨d3,d3'⟩ hx3;clear d3 d3' hx3 hr3
  go_wp2_with fail
  go_ret;have hE:Ext w w3:=HX2.out.trans HX3.out;have hgw:g<w2.heap.size:=zY (HX2.out.cell (D3.out.1));have hrow:=fun u=>HR3.out.chg (zO w3 g (o+F.length * 4+3) u) (fun k hk e=>by have e:k=g:=e;have:=HR3.out.le k hk;omega) (by decide)
  have hfin:=H.out.stack hs HE1.out (W1:=w3) (Chg.of_ext hE) (HFR.out.ext hE (by decide)) (fun k hk=>HX.out.i.2.2.2 k (List.mem_of_mem_take hk)) (by rw [HTL.out];omega) (.inl HBK.out);refine⟨v1,rfl,?_,⟨_,hfin.1,HBK.out⟩,hfin.2⟩;exact Ints.of_row (by rw [kU];exact hrow _) (by have:=HDE.out;omega) (fun k hk=>HX.out.i.2.2.2 k (List.mem_of_mem_drop hk)) _ (fun k hk _=>Nat.le_trans HX2.out.size hk))
theorem engPull_any {P:PState} {w:World} {B b eb:Nat} {p:List GFunc} {a:Option Addr} {cp:Nat} (h:OwnS w B b P) (hE:Eng w eb b p a cp) (ht:zU P.g P.g.now) (n:Nat) (hn:n≤(curX P.g).stack.length) :
  Calls Tryz.prog 160 #[.pointer (some ⟨eb,0,none⟩),.int .i64 n] w fun e w'=>∃v1,e=.returned v1∧Ints w' (w.heap.size≤·) v1 ((curX P.g).stack.drop ((curX P.g).stack.length - n))∧Turn w w' B b P (jB P.g n):=by
 obtain⟨L,y,R,F,x,hs,hnw⟩:=yS ht;have hnw:P.now=(L.length:Int):=hnw;have hcx:=uS hs hnw;rw [hcx] at hn ⊢;refine(engPull_at h hE hs hnw n hn).mono ?_;rintro e w' ⟨v1,rfl,hv,⟨v2,o2,hb2⟩,hc⟩;exact⟨v1,rfl,hv,⟨⟨_,o2,(qC hs hnw rfl).symm,yO hs (uP (.inl hb2))⟩,uT hs hc⟩⟩
theorem zFy {P:PState} {w:World} {B b eb:Nat} {p:List GFunc} {a:Option Addr} {cp:Nat} (h:OwnS w B b P) (hE:Eng w eb b p a cp) (ht:zU P.g P.g.now) (n:Nat) (hn:n≤(curX P.g).stack.length) (k:Int) (hk:k=n) :
  Calls Tryz.prog 160 #[.pointer (some ⟨eb,0,none⟩),.int .i64 k] w fun e w'=>∃v1,e=.returned v1∧Ints w' (w.heap.size≤·) v1 ((curX P.g).stack.drop ((curX P.g).stack.length - n))∧Turn w w' B b P (jB P.g n):=by
 subst hk;exact engPull_any h hE ht n hn
theorem leave_one (s:GState):jB s 1=popG s:=by rw [zHb,leave_zero]
theorem drop_last (l:List Int) (h:1≤l.length):l.drop (l.length - 1)=[l.getD (l.length - 1) 0]:=by
 obtain⟨F,x,rfl⟩:=jP l (by omega);rw [yZ _ _ _ _ rfl];simp
theorem zEe {P:PState} {w:World} {B b eb:Nat} {p:List GFunc} {a:Option Addr} {cp:Nat} (h:OwnS w B b P) (hE:Eng w eb b p a cp) (ht:zU P.g P.g.now) (hn:1≤(curX P.g).stack.length) :
  Calls Tryz.prog 161 #[.pointer (some ⟨eb,0,none⟩)] w fun e w'=>e=.returned (.int .i64 (zR P.g))∧Turn w w' B b P (popG P.g):=by
 have H:=eH h;have HE:=eH hE;have HT:=eH ht;have HN:=eH hn;have HD:=eH (drop_last _ hn);clear h hE ht hn;have RA:=zF;go_enter Tryz.func161,Tryz.ntmps161
 go_wp2_with (first
  | (go_at_call 160;(with_reducible refine(zFy H.out HE.out HT.out 1 HN.out 1 rfl).mono ?_);rintro e w2 ⟨v1,rfl,hv,t2⟩;rw [HD.out] at hv;rw [leave_one] at t2;obtain⟨b1,o1,c1,rfl,_,_,_,hc1,_⟩:=Sl.get hv (i:=0) (by simp);simp only [Nat.zero_mul,Nat.add_zero,List.getElem_cons_zero] at hc1))
 go_ret;exact⟨rfl,t2⟩
theorem engOne_at {P:PState} {L R:List PFiber} {y:PFiber} {F:List PFrame} {x:PFrame} {w:World} {B b eb:Nat} {p:List GFunc} {a:Option Addr} {cp:Nat} (h:OwnS w B b P) (hE:Eng w eb b p a cp) (hs:Spot P L y R F x) (hnw:P.now=(L.length:Int)) (hn:1≤x.f.stack.length) :
  Calls Tryz.prog 161 #[.pointer (some ⟨eb,0,none⟩)] w fun e w'=>e=.returned (.int .i64 (x.f.stack.getD (x.f.stack.length - 1) 0)) ∧
   (∃v2,OwnS w' B b (qT P L y R F ⟨{ x.f with stack:=x.f.stack.dropLast },x.vl,v2⟩)∧zB v2=zB x.vs)∧Chg (fun k=>zB y.vf=some k∨zB x.vs=some k) w w':=by
 have H:=eH h;have HE:=eH hE;have HS:=eH hs;have HNW:=eH hnw;have HN:=eH hn;have HD:=eH (drop_last _ hn);clear h hE hs hnw hn;have RA:=zF;have pk:=fun (W:World) (h:OwnS W B b P) (hE:Eng W eb b p a cp)=>engPull_at h hE HS.out HNW.out 1 HN.out
 have PK:=eH pk;clear pk;go_enter Tryz.func161,Tryz.ntmps161
 go_wp2_with (first
  | (go_at_call 160;(refine(PK.out _ H.out HE.out).mono ?_);rintro e w2 ⟨v1,rfl,hv,t2,c2⟩;rw [HD.out] at hv;obtain⟨b1,o1,c1,rfl,_,_,_,hc1,_⟩:=Sl.get hv (i:=0) (by simp);simp only [Nat.zero_mul,Nat.add_zero,List.getElem_cons_zero] at hc1;have HT2:=eH t2;clear t2))
 go_ret;obtain⟨v2,o2,hb2⟩:=HT2.out;rw [←List.dropLast_eq_take] at o2;exact⟨rfl,⟨v2,o2,hb2⟩,c2⟩
def yU (r:Int):List PanicEntry:=[{ v:=.iface 173 (.agg #[.int .i64 r]),recovered:=false }]
def endS (r:Int):Ending:=if r=0 then .returned (.tuple #[]) else .panicked (yU r)
def zBo (c:Bool) (r:Int):Ending:=match c with
 | true=>.returned (.tuple #[])
 | false=>.panicked (yU r)
theorem jA (c:Bool) (r:Int) (w:World):Calls Tryz.prog 210 #[.bool c,.int .i64 r] w fun e w'=>e=zBo c r∧w'=w:=by
 have hpn:=@run_panic_iface Tryz.prog
 cases c with
 | true =>
  go_enter Tryz.func210,Tryz.ntmps210
  go_wp2_with fail
  go_end0;exact⟨rfl,rfl⟩
 | false =>
  go_enter Tryz.func210,Tryz.ntmps210
  go_wp2_with fail
  exact⟨rfl,rfl,rfl⟩
structure EngS (w:World) (B b eb:Nat) (p:List GFunc) (a:Option Addr) (cp:Nat) (P:PState):Prop where
 own:OwnS w B b P
 eng:Eng w eb b p a cp
 off:eb ∉ b::P.bl
theorem EngS.ext {w w':World} {B b eb:Nat} {p:List GFunc} {a:Option Addr} {cp:Nat} {P:PState} (h:EngS w B b eb p a cp P) (he:Ext w w'):EngS w' B b eb p a cp P:=⟨h.own.ext he,h.eng.ext he,h.off⟩
theorem Eng.chg {M:Nat→Prop} {w w':World} {eb b:Nat} {p:List GFunc} {a:Option Addr} {cap:Nat} (h:Eng w eb b p a cap) (hc:Chg M w w') (hM:¬M eb):Eng w' eb b p a cap:=⟨h.e0.chg hc hM,h.e1.chg hc hM⟩
theorem EngS.with {w w':World} {B b eb:Nat} {p:List GFunc} {a:Option Addr} {cp:Nat} {P P':PState} (h:EngS w B b eb p a cp P) (hc:Chg (·∈b::P.bl) w w') (ho:OwnS w' B b P') (hs:∀g∈P'.bl,g∈P.bl∨w.heap.size≤g):EngS w' B b eb p a cp P' :=
 ⟨ho,h.eng.chg hc h.off,not_grown' h.off hs h.eng.e0.lt⟩
where
 not_grown' {P P5:PState} {b bx n:Nat} (h:bx ∉ b::P.bl) (hs:∀g∈P5.bl,g∈P.bl∨n≤g) (hlt:bx<n):bx ∉ b::P5.bl:=fun hm=>by
  rcases List.mem_cons.1 hm with rfl | h1
  ·exact h List.mem_cons_self
  ·rcases hs bx h1 with h2 | h2
   ·exact h (List.mem_cons_of_mem _ h2)
   ·omega
theorem EngS.turn {w w':World} {B b eb:Nat} {p:List GFunc} {a:Option Addr} {cp:Nat} {P:PState} {s:GState} (h:EngS w B b eb p a cp P) (t:Turn w w' B b P s) :
  ∃P',EngS w' B b eb p a cp P'∧P'.g=s∧(∀g∈P'.bl,g∈P.bl∨w.heap.size≤g)∧Chg (·∈b::P.bl) w w':=by
 obtain⟨⟨P',o,e,hs⟩,hc⟩:=t;exact⟨P',h.with hc o hs,e,hs,hc⟩
theorem uG {P:PState} {w:World} {B b eb:Nat} {p:List GFunc} {a:Option Addr} {cp lb lo lc:Nat} (h:OwnS w B b P) (hE:Eng w eb b p a cp) (ht:zU P.g P.g.now) (hr:Room P.g) (v:Int) (hv:I64 v) (hc:w.cell? ⟨lb,lo,none⟩=some (.int .i64 v)) :
  Calls Tryz.prog 159 #[.pointer (some ⟨eb,0,none⟩),.slice (some ⟨lb,lo,none⟩) 1 lc] w fun e w'=>e=.returned (.tuple #[])∧Turn w w' B b P (kR P.g P.g.now v):=by
 obtain⟨L,y,R,F,x,hs,hn⟩:=yS ht;have hn:P.now=(L.length:Int):=hn;have hx:x.f.stack.length<1000:=hr y.g (by unfold PState.g;rw [hs.fs];simp) x.f (by unfold PFiber.g;rw [hs.fr];simp);refine(engPush_at h hE hs hn v hv hx hc).mono ?_;rintro e w' ⟨rfl,⟨v1,o1,hv1⟩,hc⟩;exact⟨rfl,⟨⟨_,o1,(qC hs (show P.g.now=_ from hn) rfl).symm,yO hs (uP hv1)⟩,uT hs hc⟩⟩
theorem engPush_new {P:PState} {w:World} {B b eb:Nat} {p:List GFunc} {a:Option Addr} {cp:Nat} (h:OwnS w B b P) (hE:Eng w eb b p a cp) (ht:zU P.g P.g.now) (hr:Room P.g) (v:Int) (hv:I64 v) (t:TypeId) :
  Calls Tryz.prog 159 #[.pointer (some ⟨eb,0,none⟩),.slice (some ⟨w.heap.size,0,none⟩) 1 1] (w.alloc (.cells #[.int .i64 v] t)) fun e w'=>e=.returned (.tuple #[])∧Turn w w' B b P (kR P.g P.g.now v):=by
 have he:Ext w (w.alloc (.cells #[.int .i64 v] t)):=(eR _).alloc _;refine(uG (h.ext he) (hE.ext he) ht hr v hv (by simp)).mono ?_;rintro e w' ⟨rfl,h⟩;exact⟨rfl,Turn.pre he h⟩
theorem drop_two (s:GState) (ht:zU s s.now) (h:2≤(curX s).stack.length):(curX s).stack.drop ((curX s).stack.length - 2)=[zR (popG s),zR s]:=by
 obtain⟨F,y,e⟩:=jP (curX s).stack (by omega);obtain⟨F',x,e'⟩:=jP F (by rw [e] at h;simp at h;omega);subst e';have h1:zR s=y:=by unfold zR;rw [e];exact yZ _ _ _ _ rfl
 have h2:zR (popG s)=x:=by
  unfold zR;rw [curX_pop s ht];show ((curX s).stack.dropLast).getD ((curX s).stack.dropLast.length - 1) 0=x;rw [e,List.dropLast_concat];exact yZ _ _ _ _ rfl
 rw [h1,h2,e];simp
theorem leave_two (s:GState):jB s 2=popG (popG s):=by rw [zHb,leave_one]
theorem ints_two {w:World} {S:Nat→Prop} {v:Value} {x y:Int} (h:Ints w S v [x,y]):∃b o c,v=.slice (some ⟨b,o,none⟩) 2 c∧w.cell? ⟨b,o,none⟩=some (.int .i64 x)∧w.cell? ⟨b,o+1,none⟩=some (.int .i64 y)∧I64 x∧I64 y:=by
 obtain⟨b1,o1,c1,e,_,_,_,h0,i0⟩:=Sl.get h (i:=0) (by simp);obtain⟨b2,o2,c2,e2,_,_,_,h1,i1⟩:=Sl.get h (i:=1) (by simp);rw [e] at e2;simp only [Value.slice.injEq,Option.some.injEq,Addr.mk.injEq] at e2;obtain⟨⟨rfl,rfl,-⟩,-,rfl⟩:=e2;simp only [Nat.zero_mul,Nat.add_zero,Nat.one_mul,List.getElem_cons_zero,List.getElem_cons_succ] at h0 h1 i0 i1;exact⟨b1,o1,c1,e,h0,h1,i0,i1⟩
theorem zBy (kd:Int) (k:Nat) (hcf:∀(args:Array Value) (W:World),(callFunc k args).run Tryz.prog W=.ok (Next.enter k args) W) (hof:∀(x y:Int) (W:World),Calls Tryz.prog k #[.int .i64 x,.int .i64 y] W fun e W'=>e=.returned (.int .i64 (yP kd x y))∧W'=W) (hI:∀x y,I64 (yP kd x y)) {P:PState} {w:World} {B b eb:Nat} {p:List GFunc} {a:Option Addr} {cp:Nat}
  (h:EngS w B b eb p a cp P) (ht:zU P.g P.g.now) (hr:Room P.g) (hl:2≤(curX P.g).stack.length) :
  Calls Tryz.prog 162 #[.pointer (some ⟨eb,0,none⟩),.func (.func k) #[] #[]] w fun e w'=>e=.returned (.tuple #[])∧Turn w w' B b P (kR (popG (popG P.g)) P.g.now (yP kd (zR (popG P.g)) (zR P.g))):=by
 have H:=eH h;have HT:=eH ht;have HL:=eH hl;have HD:=eH (drop_two _ ht hl);have HR:=eH hr;have HOF:=eH hof;have HII:=eH hI;clear h ht hl hr hof hI;have RA:=zF;generalize hx:zR (popG P.g)=x at *;generalize hy:zR P.g=y at *;clear hx hy;go_enter Tryz.func162,Tryz.ntmps162
 go_upto_region 1 with (first
  | (go_at_call 160;(with_reducible refine(zFy H.out.own H.out.eng HT.out 2 HL.out 2 rfl).mono ?_);rintro e w2 ⟨v1,rfl,hv,t2⟩;rw [HD.out] at hv;rw [leave_two] at t2;obtain⟨b1,o1,c1,rfl,c0,c1',_,_⟩:=ints_two hv))
 obtain⟨P2,h2,g2,bl2,ch2⟩:=H.out.turn t2;have H2:=eH h2;have HT2:Hid (zU P2.g P2.g.now):=by unfold Hid;rw [g2];exact HT.out.pop.pop
 have HR2:Hid (Room P2.g):=by unfold Hid;rw [g2];exact HR.out.pop.pop
 clear h2 t2 hv;refine qD (fun w'=>w'.cell? ⟨b1,o1,none⟩=some (.int .i64 x)∧w'.cell? ⟨b1,o1+1,none⟩=some (.int .i64 y)) 10 [0,1,2,3,4,5,6,7] [8,9,10] (by kernel_rfl) (by kernel_rfl) (fun _ _ _ _ _ h=>h) (by exact⟨c0,c1'⟩) ?_
 (try simp only [zH,List.filterMap_cons,List.filterMap_nil,xO,xP])
 repeat (
  refine zN (by rfl) ?_;apply Exists.intro;refine⟨fun w' hw'=>?_,?_⟩
  focus
   (try dsimp only at hw')
   go_split_ands;go_simp
   (try with_reducible rfl)
  (try dsimp only [Act.put])
  (try simp only [xL,xM,xN]))
 refine zL ?_;refine zC ?_
 go_wp2_with (first
  | ((with_reducible refine(HOF.out x y _).mono ?_);rintro e w3 ⟨rfl,rfl⟩))
 refine zD (by exact⟨c0,c1'⟩) ?_;refine zC ?_
 go_wp2_with fail
 refine zD (by constructor<;>simp [*]) ?_;refine zC ?_
 go_wp2_with (first
  | (go_at_call 159;(with_reducible refine(uG (H2.out.own.ext (by ((repeat first|assumption|exact eR _|exact And.left (by assumption)|apply eA|apply eD|apply eN|refine eS ?_ (by simp<;>omega) _|refine eT ?_ (by assumption));done))) (H2.out.eng.ext (by ((repeat first|assumption|exact eR _|exact And.left (by assumption)|apply eA|apply eD|apply eN|refine eS ?_ (by simp<;>omega) _|refine eT ?_ (by assumption));done))) HT2.out HR2.out _ (HII.out x y) (by simp)).mono ?_);rintro e w4 ⟨rfl,t4⟩))
 refine zS ?_;go_end0;rw [g2] at t4;exact⟨rfl,Turn.step ch2 bl2 (Turn.pre (show Ext w2 (w2.alloc (.cells #[.int .i64 (yP kd x y)] 3)).drew by ((repeat first|assumption|exact eR _|exact And.left (by assumption)|apply eA|apply eD|apply eN|refine eS ?_ (by simp<;>omega) _|refine eT ?_ (by assumption));done)) t4)⟩
theorem clos4 (x y:Int) (W:World):Calls Tryz.prog 163 #[.int .i64 x,.int .i64 y] W fun e W'=>e=.returned (.int .i64 (yP 4 x y))∧W'=W:=by
 go_enter Tryz.func163,Tryz.ntmps163
 go_wp2_with fail
 go_ret;exact⟨rfl,rfl⟩
theorem clos5 (x y:Int) (W:World):Calls Tryz.prog 164 #[.int .i64 x,.int .i64 y] W fun e W'=>e=.returned (.int .i64 (yP 5 x y))∧W'=W:=by
 go_enter Tryz.func164,Tryz.ntmps164
 go_wp2_with fail
 go_ret;exact⟨rfl,rfl⟩
theorem clos6 (x y:Int) (W:World):Calls Tryz.prog 165 #[.int .i64 x,.int .i64 y] W fun e W'=>e=.returned (.int .i64 (yP 6 x y))∧W'=W:=by
 go_enter Tryz.func165,Tryz.ntmps165
 go_wp2_with fail
 go_ret;exact⟨rfl,rfl⟩
theorem zGk (t:Bool) (w:World):Calls Tryz.prog 167 #[.bool t] w fun e w'=>e=.returned (.int .i64 (zCr t))∧w'=w:=by
 cases t with
 | true =>
  go_enter Tryz.func167,Tryz.ntmps167
  go_wp2_with fail
  go_ret;exact⟨rfl,rfl⟩
 | false =>
  go_enter Tryz.func167,Tryz.ntmps167
  go_wp2_with fail
  go_ret;exact⟨rfl,rfl⟩
theorem clos7 (x y:Int) (W:World):Calls Tryz.prog 166 #[.int .i64 x,.int .i64 y] W fun e W'=>e=.returned (.int .i64 (yP 7 x y))∧W'=W:=by
 go_enter Tryz.func166,Tryz.ntmps166
 go_wp2_with (first
  | (go_at_call 167;refine(zGk _ _).mono ?_;rintro e w2 ⟨rfl,rfl⟩))
 go_ret;exact⟨rfl,rfl⟩
theorem clos8 (x y:Int) (W:World):Calls Tryz.prog 168 #[.int .i64 x,.int .i64 y] W fun e W'=>e=.returned (.int .i64 (yP 8 x y))∧W'=W:=by
 go_enter Tryz.func168,Tryz.ntmps168
 go_wp2_with (first
  | (go_at_call 167;refine(zGk _ _).mono ?_;rintro e w2 ⟨rfl,rfl⟩))
 go_ret;exact⟨by show Ending.returned (Value.int .i64 (zCr (x == y)))=.returned (.int .i64 (zCr (decide (x=y))));rw [beq_dec],rfl⟩
theorem zEd {P:PState} {w:World} {B b eb:Nat} {p:List GFunc} {a:Option Addr} {cp:Nat} (h:EngS w B b eb p a cp P) (hl:P.g.out.length≤30) (v:Int) (hv:I64 v) :
  Calls Tryz.prog 199 #[.pointer (some ⟨eb,0,none⟩),.int .i64 v] w fun e w'=>e=endS (putG P.g v).1∧Did w w' B b P (putG P.g v):=by
 have hl':P.out.length≤30:=hl;obtain⟨ao,co,eo,hco,hmo⟩:=h.own.out.shape;have HRO:Hid (RowAt w B 1 (.slice ao P.out.length co) P.out.length (ints P.out)):=by unfold Hid;rw [←eo];exact h.own.out
 obtain⟨c2,c2'⟩:=h.own.c2;rw [eo] at c2;obtain⟨⟨x0,x0'⟩,-⟩:=h.eng;have HEO:=eH eo;have H:=eH h;have HB:Hid (B≤w.heap.size):=Nat.le_trans h.own.le (Nat.le_of_lt h.own.c0.lt);have HBO:Hid (∀k,zB (.slice ao P.out.length co)=some k→k≠b∧k≠eb):=by
  unfold Hid;rw [←eo];exact fun k e=>⟨fun e'=>h.own.dis.1 (PState.mem_vo (e' ▸ e)),fun e'=>h.off (List.mem_cons_of_mem _ (PState.mem_vo (e' ▸ e)))⟩
 obtain⟨i0,hi0,hz0,hz1,hz2⟩:=info_parts vM;have RA:=zF;by_cases h30:P.out.length=30
 ·have HG:Hid (putG P.g v=(2,P.g)):=by unfold Hid putG;rw [if_pos (show P.g.out.length=30 from h30)]
  rw [HG.out];have T:decide (((P.out.length:Nat):Int)<30)=false:=decide_eq_false (by omega);clear h eo h30 hl hl' hco hmo;generalize P.out.length=m at *;go_enter Tryz.func199,Tryz.ntmps199
  go_wp2_with (first
   | (go_at_call 210;(with_reducible refine(jA _ _ _).mono ?_);rintro e w2 ⟨he,rfl⟩;simp only [zBo] at he;subst he))
  exact⟨rfl,rfl,⟨Chg.refl _ _,fun h=>by cases h⟩⟩
 ·have HG:Hid (putG P.g v=(0,{ P.g with out:=P.g.out++[v] })):=by unfold Hid putG;rw [if_neg (show ¬P.g.out.length=30 from h30)]
  rw [HG.out];have T:decide (((P.out.length:Nat):Int)<30)=true:=decide_eq_true (by omega);clear h eo h30 hl hco hmo;go_enter Tryz.func199,Tryz.ntmps199
  go_upto_region 1 with (first
   | (go_at_call 210;(with_reducible refine(jA _ _ _).mono ?_);rintro e w2 ⟨he,rfl⟩;simp only [zBo] at he;subst he))
  refine zX (fun w'=>w'.cell? ⟨eb,0,none⟩=some (.pointer (some ⟨b,0,none⟩))∧w'.cell? ⟨b,2,none⟩=some (.slice ao P.out.length co)) 16 [0,1,2,3,4,5,6,7,8,9,10,11] [12,13,14,15,16] (by kernel_rfl) (by kernel_rfl) (fun _ _ _ _ _ h=>h) (by refine⟨?_,?_⟩<;>simpa) ?_
  (try simp only [zH,List.filterMap_cons,List.filterMap_nil,xO,xP])
  repeat (
   refine zN (by rfl) ?_;apply Exists.intro;refine⟨fun w' hw'=>?_,?_⟩
   focus
    (try dsimp only at hw')
    go_split_ands;go_simp
    (try with_reducible rfl)
   (try dsimp only [Act.put])
   (try simp only [xL,xM,xN]))
  refine zL ?_;refine zC ?_
  go_wp2_with fail
  have RX:=eH (show Ext w2 w2.drew from (eR _).drew);refine zD (by constructor<;>simp [*]) ?_;refine zC ?_
  go_wp2_with (first
   | (at_builtin;refine zE rfl _ _ 30 rfl B 3 i0 (.int .i64 0) 1 8 Tryz.underlying30 hi0 hz0 hz1 hz2 rfl (by decide) _ _ _ rfl (by exact(HRO.out.ext (by ((repeat first|assumption|exact eR _|exact And.left (by assumption)|apply eA|apply eD|apply eN|refine eS ?_ (by simp<;>omega) _|refine eT ?_ (by assumption));done)) (by decide))) 1 (ints [v]) (uK _ _ _) (by unfold maxLen;omega) (by omega) (by exact Nat.le_trans HB.out (Ext.size (show Ext w2 _ by ((repeat first|assumption|exact eR _|exact And.left (by assumption)|apply eA|apply eD|apply eN|refine eS ?_ (by simp<;>omega) _|refine eT ?_ (by assumption));done)))) ?_;intro v1 Wv1 rv1;have RV:=eH rv1;obtain⟨a9,cap9,rfl,_,_⟩:=rv1.1.shape;clear rv1))
  have hRV:kO (w2.alloc (.cells #[.int .i64 v] 3)).drew Wv1 B 1 (.slice ao P.out.length co) (.slice a9 (P.out.length+1) cap9) (P.out.length+1) (ints P.out++ints [v]):=RV.out;have hA:Ext w2 (w2.alloc (.cells #[.int .i64 v] 3)).drew:=by ((repeat first|assumption|exact eR _|exact And.left (by assumption)|apply eA|apply eD|apply eN|refine eS ?_ (by simp<;>omega) _|refine eT ?_ (by assumption));done)
  obtain⟨k0,k0'⟩:=(Cx.ext (W:=w2) ⟨c2,c2'⟩ hA).chg hRV.2.1 (fun e=>(HBO.out b e).1 rfl);obtain⟨k1,k1'⟩:=(Cx.ext (W:=w2) ⟨x0,x0'⟩ hA).chg hRV.2.1 (fun e=>(HBO.out eb e).2 rfl);refine zD (by exact⟨k1,k0⟩) ?_;refine zC ?_
  go_wp2_with fail
  refine zD (by exact⟨k1,k0⟩) ?_;refine zC ?_
  go_wp2_with fail
  refine zD (by exact⟨k1,k0⟩) ?_;refine zC ?_
  go_wp2_with fail
  refine zS ?_;go_end0;obtain⟨r1,r2,r3⟩:=hRV;have hfin:=H.out.own.setOut (W1:=Wv1) (out:=P.out++[v]) (v1:=.slice a9 (P.out.length+1) cap9)
   ((Chg.of_ext hA).trans (r2.mono (fun k _ e=>by rw [HEO.out];exact e)))
   (by rw [List.length_append,List.length_singleton,yK];exact r1) (fun k hk=>by rcases List.mem_append.1 hk with h1 | h1;exact H.out.own.i.2 k h1;rw [List.mem_singleton.1 h1];exact hv)
   (by rw [List.length_append,List.length_singleton];omega) (r3.imp (fun e=>by rw [HEO.out];exact e) (fun e k hk=>Nat.le_trans hA.size (e k hk)))
  refine⟨rfl,Did.of ⟨⟨_,hfin.1,rfl,fun g hg=>?_⟩,hfin.2⟩⟩;unfold PState.bl at hg;rcases List.mem_append.1 hg with h1 | h1
  ·rcases List.mem_append.1 h1 with h2 | h2
   ·exact .inl (PState.mem_vfs (by simpa using h2))
   ·have h3:zB (.slice a9 (P.out.length+1) cap9)=some g:=by simpa using h2
    rcases r3 with e | e
    ·exact .inl (PState.mem_vo (by rw [HEO.out,←e];exact h3))
    ·exact .inr (Nat.le_trans hA.size (e g h3))
  ·obtain⟨z,hz,h2⟩:=List.mem_flatMap.1 h1;exact .inl (PState.mem_fs hz h2)
theorem engBack_any {P:PState} {w:World} {B b eb:Nat} {p:List GFunc} {a:Option Addr} {cp:Nat} (h:EngS w B b eb p a cp P) (ht:0≤P.g.now∧P.g.now<P.g.fibers.length) (hr:Room P.g) (hc:zU { kN P.g P.g.now (fun f=>{ f with caller := -1 }) with now:=(curF P.g).caller } (curF P.g).caller) (v:Int) (hv:I64 v) :
    Calls Tryz.prog 211 #[.pointer (some ⟨eb,0,none⟩),.int .i64 v] w fun e w'=>e=.returned (.tuple #[])∧Turn w w' B b P (uH P.g v):=by
  obtain⟨L,y,R,hP,hn⟩:=hasFib (P:=P) (n:=P.now) ⟨ht.1,by have:=ht.2;simpa [PState.g] using this⟩;have hcur:(curF P.g).caller=y.caller:=by rw [zAn hP hn];rfl
  rw [hcur] at hc;obtain⟨g,o,cap,hvf,hlt,d0,⟨d1,d1'⟩,hbl⟩:=h.own.place hP;obtain⟨⟨c0,c0'⟩,⟨k1,k1'⟩⟩:=(⟨h.own.c0,h.own.c1⟩:_∧_)
  obtain⟨⟨x0,x0'⟩,-⟩:=h.eng;rw [hvf] at c0;rw [hn] at k1;have hgb:¬g=b:=fun e=>h.own.dis.1 (e ▸ PState.mem_vfs hbl)
  have hge:¬eb=g:=fun e=>h.off (List.mem_cons_of_mem _ (e ▸ PState.mem_vfs hbl))
  have hbe:¬eb=b:=fun e=>h.off (by rw [e];exact List.mem_cons_self)
  have hbg:¬b=g:=fun e=>hgb e.symm
  have H:=eH h;have HP:=eH hP;have HNW:=eH hn;have HVF:=eH hvf;have HC:=eH hc;have HR:=eH hr;have HCU:=eH hcur;clear h d0 hcur hc hr ht hn hP hvf;have RA:=zF;generalize hL:L.length=n at *;generalize hcl:y.caller=cl at *;have HL:=eH hL;have HCL:=eH hcl;clear hL hcl;go_enter Tryz.func211,Tryz.ntmps211
  go_upto_region 0 with fail
  refine kB (by kernel_rfl) (by kernel_rfl) ?_
  repeat (first
    | go_big_quiet_skip
    | (go_big_quiet_want
       unfold Oper.quiet;apply Exists.intro;refine⟨fun w' hw'=>?_,?_⟩
       focus
         have hcq:=Ext.keep hw';go_simp
         first
           | with_reducible rfl
       (try dsimp only [Act.put])
       (try simp only [xL,xM,xN])
       go_big_quiet_on))
  refine wpQuiet_nil ?_;intro wq hq;obtain⟨d1,d1'⟩:=Cx.ext (W:=w) ⟨d1,d1'⟩ hq;obtain⟨k1,k1'⟩:=Cx.ext (W:=w) ⟨k1,k1'⟩ hq;obtain⟨x0,x0'⟩:=Cx.ext (W:=w) ⟨x0,x0'⟩ hq;have HQ:=eH hq;clear hq
  go_upto_region 1 with fail
  refine zX (fun w'=>w'.cell? ⟨eb,0,none⟩=some (.pointer (some ⟨b,0,none⟩))∧w'.cell? ⟨g,o+n * 2+1,none⟩=some (.int .i64 cl)) 14 [0,1,2,3,4,5,6,7,8,9,10] [11,12,13,14] (by kernel_rfl) (by kernel_rfl) (fun _ _ _ _ _ h=>h) (by exact⟨x0,d1⟩) ?_
  (try simp only [zH,List.filterMap_cons,List.filterMap_nil,xO,xP])
  repeat (
    refine zN (by rfl) ?_;apply Exists.intro;refine⟨fun w' hw'=>?_,?_⟩
    focus
      (try dsimp only at hw')
      go_split_ands;go_simp
      (try with_reducible rfl)
    (try dsimp only [Act.put])
    (try simp only [xL,xM,xN]))
  refine zL ?_;refine zC ?_
  go_wp2_with fail
  have e0:=(Cx.other (W:=wq.drew) ⟨x0,x0'⟩ (b':=b) (j':=1) (.inl hbe) (.int .i64 cl)).1;have e1:=(Cx.other (W:=wq.drew) ⟨d1,d1'⟩ (b':=b) (j':=1) (.inl hgb) (.int .i64 cl)).1;refine zD (by exact⟨e0,e1⟩) ?_;refine zC ?_
  go_wp2_with fail
  refine zD (by exact⟨e0,e1⟩) ?_;refine zC ?_
  go_wp2_with fail
  refine zD (by exact⟨e0,e1⟩) ?_;refine zC ?_
  go_wp2_with fail
  refine zS ?_;have hEq:=HQ.out;obtain⟨P1,o1,g1,b1,ch1⟩:=(H.out.ext hEq).own.back HP.out (by rw [HL.out];exact HNW.out) HVF.out;rw [HL.out,HCL.out] at o1 ch1;rw [HCL.out] at g1;have hb1:∀k∈P1.bl,k∈P.bl∨wq.heap.size≤k:=fun k hk=>.inl ((b1 k).1 hk)
  have HE1:=eH ((H.out.ext hEq).with ch1 o1 hb1);have CH1:=eH ((Chg.of_ext hEq).trans ch1);have HT1:Hid (zU P1.g P1.g.now):=by unfold Hid;rw [g1];exact HC.out
  have HR1:Hid (Room P1.g):=by unfold Hid;rw [g1];exact HR.out.caller _ _
  have HG:Hid (uH P.g v=kR P1.g P1.g.now v):=by unfold Hid uH;rw [g1,HCU.out]
  have HB1:Hid (∀k∈P1.bl,k∈P.bl∨w.heap.size≤k):=fun k hk=>.inl ((b1 k).1 hk)
  clear ch1 o1 g1 hb1;obtain⟨W0,hW0⟩:∃W0,W0=(wq.setCell ⟨b,1,none⟩ (.int .i64 cl)).setCell ⟨g,o+n * 2+1,none⟩ (.int .i64 (-1)):=⟨_,rfl⟩
  rw [←hW0] at HE1 CH1;simp only [←hW0];clear hW0
  go_wp2_with (first
    | (go_at_call 159;(with_reducible refine(uG (HE1.out.own.ext (by ((repeat first|assumption|exact eR _|exact And.left (by assumption)|apply eA|apply eD|apply eN|refine eS ?_ (by simp<;>omega) _|refine eT ?_ (by assumption));done))) (HE1.out.eng.ext (by ((repeat first|assumption|exact eR _|exact And.left (by assumption)|apply eA|apply eD|apply eN|refine eS ?_ (by simp<;>omega) _|refine eT ?_ (by assumption));done))) HT1.out HR1.out v hv (by simp)).mono ?_);rintro e w4 ⟨rfl,t4⟩))
  go_end0;rw [HG.out];exact⟨rfl,Turn.step CH1.out HB1.out (Turn.pre (show Ext W0 (W0.alloc (.cells #[.int .i64 v] 3)).drew by ((repeat first|assumption|exact eR _|exact And.left (by assumption)|apply eA|apply eD|apply eN|refine eS ?_ (by simp<;>omega) _|refine eT ?_ (by assumption));done)) t4)⟩
theorem zId {P:PState} {w:World} {B b eb:Nat} {p:List GFunc} {a:Option Addr} {cp:Nat} (h:EngS w B b eb p a cp P) (ht:zU P.g P.g.now) (hr:Room P.g) (hl:1≤(curX P.g).stack.length) (hb:zAp (popG P.g)) :
    Calls Tryz.prog 198 #[.pointer (some ⟨eb,0,none⟩)] w fun e w'=>e=endS (yT P.g).1∧Did w w' B b P (yT P.g):=by
  have hLI:=h.own.lastI ht hl;have H:=eH h;have HT:=eH ht;have HL:=eH hl;clear h;have RA:=zF;generalize hv:zR P.g=v at *;have HV:=eH hv;go_enter Tryz.func198,Tryz.ntmps198
  go_upto_region 1 with (first
    | (go_at_call 161;(with_reducible refine(zEe H.out.own H.out.eng HT.out HL.out).mono ?_);rintro e w2 ⟨rfl,t2⟩;rw [HV.out]))
  clear hv;obtain⟨P1,h1,g1,s1,c1⟩:=H.out.turn t2;have hr1:Room P1.g:=by rw [g1];exact hr.pop
  have ht1:zU P1.g P1.g.now:=by rw [g1];exact ht.pop
  rw [←g1] at hb;have HY:Hid (yT P.g=if (curF P1.g).caller<0 then (7,P.g) else (0,uH P1.g v)):=by unfold Hid yT;rw [←g1,HV.out]
  obtain⟨L,y,R,F,x,hs,hn⟩:=yS ht1;have hn:P1.now=L.length:=hn;have hP:=hs.fs;have hcur:(curF P1.g).caller=y.caller:=by rw [zAn hP hn];rfl
  rw [hcur] at HY;obtain⟨g,o,cap,hvf,hlt,d0,⟨d1,d1'⟩,hbl⟩:=h1.own.place hP;obtain⟨⟨c0,c0'⟩,⟨k1,k1'⟩⟩:=(⟨h1.own.c0,h1.own.c1⟩:_∧_)
  obtain⟨⟨x0,x0'⟩,-⟩:=h1.eng;rw [hn] at k1;rw [hvf] at c0;have H1:=eH h1;have HB:=eH hb;have HC1:=eH c1;have HS1:=eH s1;have HR1:=eH hr1;have HT1:=eH ht1;have HCU:=eH hcur;clear hcur hvf hb hP hn hs ht1 h1 c1 s1 hr1 d0 hbl g1 hr ht hl HT HL t2;generalize L.length=n at *;generalize hcl:y.caller=cl at *;have HCL:=eH hcl;clear hcl;by_cases hc:cl<0
  · have T:decide (0≤cl)=false:=decide_eq_false (by omega)
    have HYE:Hid (yT P.g=(7,P.g)):=by unfold Hid;rw [HY.out,if_pos hc]
    clear hc;refine kW 18 (by kernel_rfl) (by kernel_rfl) ?_;simp only [List.take_succ_cons,List.take_zero,List.drop_succ_cons,List.drop_zero]
    repeat (first
      | go_big_quiet_skip
      | (go_big_quiet_want
         unfold Oper.quiet;apply Exists.intro;refine⟨fun w' hw'=>?_,?_⟩
         focus
           have hcq:=Ext.keep hw';go_simp
           first
             | with_reducible rfl
         (try dsimp only [Act.put])
         (try simp only [xL,xM,xN])
         go_big_quiet_on))
    refine wpQuiet_nil ?_;intro wq hq
    go_wp2_with (first
      | (go_at_call 210;(with_reducible refine(jA _ _ _).mono ?_);rintro e w3 ⟨he,rfl⟩;simp only [zBo] at he;subst he))
    rw [HYE.out];exact⟨rfl,rfl,⟨HC1.out.trans (Chg.of_ext hq),fun h=>by cases h⟩⟩
  · have T:decide (0≤cl)=true:=decide_eq_true (by omega)
    have HYE:Hid (yT P.g=(0,uH P1.g v)):=by unfold Hid;rw [HY.out,if_neg hc]
    have hbf:=HB.out.resolve_left (by rw [HCU.out];exact hc);have HBF:=eH hbf;have HTF:Hid (0≤P1.g.now∧P1.g.now<P1.g.fibers.length):=⟨HT1.out.1,HT1.out.2.1⟩
    clear hc hbf;refine kW 18 (by kernel_rfl) (by kernel_rfl) ?_;simp only [List.take_succ_cons,List.take_zero,List.drop_succ_cons,List.drop_zero]
    repeat (first
      | go_big_quiet_skip
      | (go_big_quiet_want
         unfold Oper.quiet;apply Exists.intro;refine⟨fun w' hw'=>?_,?_⟩
         focus
           have hcq:=Ext.keep hw';go_simp
           first
             | with_reducible rfl
         (try dsimp only [Act.put])
         (try simp only [xL,xM,xN])
         go_big_quiet_on))
    refine wpQuiet_nil ?_;intro wq hq;have H2:=eH (H1.out.ext hq)
    go_wp2_with (first
      | (go_at_call 210;(with_reducible refine(jA _ _ _).mono ?_);rintro e w3 ⟨he,rfl⟩;simp only [zBo] at he;subst he)
      | (go_at_call 211;(with_reducible refine(engBack_any H2.out HTF.out HR1.out HBF.out v hLI).mono ?_);rintro e w4 ⟨rfl,t4⟩))
    go_end0;rw [HYE.out];exact⟨rfl,Did.of (Turn.step (HC1.out.trans (Chg.of_ext hq)) HS1.out t4)⟩
theorem frameO_any (p:List GFunc) (v:Value) (S:Nat→Prop) (n N:Nat) (w:World) (hp:zM w S v p) (hn:n<p.length) (hN:(zI p n).locals=N) (hN9:N≤900) :
  Calls Tryz.prog 68 #[v,.int .i64 n] w fun e w'=>(∃g,e=.returned (.agg #[.int .i64 n,.int .i64 0,.slice (some ⟨g,0,none⟩) N N,.slice none 0 0])∧RowAt w' w.heap.size 1 (.slice (some ⟨g,0,none⟩) N N) N (ints (List.replicate N 0))∧w.heap.size≤g)∧Ext w w':=by
 have hF:zI p n=p[n]:=by unfold zI;simp [List.getD,List.getElem?_eq_getElem hn]
 rw [hF] at hN;obtain⟨b,o,cap,rfl,hcap,hby,_,⟨_,hL,iL⟩,_⟩:=hp.get hn;rw [hN] at hL;obtain⟨i0,hi0,hz0,hz1,hz2⟩:=info_parts vM;have RA:=zF;have c0:=eH (Cx.new w [.int .i64 0,.int .i64 0,.slice none 0 0,.slice none 0 0] 108 (j:=0) rfl);have c1:=eH (Cx.new w [.int .i64 0,.int .i64 0,.slice none 0 0,.slice none 0 0] 108 (j:=1) rfl);have c2:=eH (Cx.new w [.int .i64 0,.int .i64 0,.slice none 0 0,.slice none 0 0] 108 (j:=2) rfl);have c3:=eH (Cx.new w [.int .i64 0,.int .i64 0,.slice none 0 0,.slice none 0 0] 108 (j:=3) rfl);clear hp hN hF;go_enter Tryz.func68,Tryz.ntmps68
 go_wp2_with (first
  | (at_make;refine wpList_make_full _ rfl _ _ 30 rfl (w.heap.size+1) 3 i0 (.int .i64 0) 1 Tryz.underlying30 hi0 hz0 hz1 .i64 .i64 _ _ N rfl rfl rfl rfl (by rw [hz2];omega) (by unfold maxLen;omega) (by simp) ?_;intro w3 hown3 hgr3;have hE3:=uR hgr3;have hrow:=IRow.made hown3;obtain⟨⟨d0,d0'⟩,⟨d1,d1'⟩,⟨d2,d2'⟩,⟨d3,d3'⟩⟩:=(⟨c0.out.ext hE3,c1.out.ext hE3,c2.out.ext hE3,c3.out.ext hE3⟩:_∧_∧_∧_)))
 have hs1:(w.alloc (.cells #[.int .i64 0,.int .i64 0,.slice none 0 0,.slice none 0 0] 108)).heap.size=w.heap.size+1:=Array.size_push _;rw [hs1] at hrow;refine bodyPost_ret (qG rfl _ _ w.heap.size 0 _ _ rfl (box4 ⟨d0,d0'⟩ ⟨d1,d1'⟩ ⟨d2,d2'⟩ ⟨d3,d3'⟩ _ _ _ _) rfl rfl (by kernel_rfl)) rfl ?_;refine⟨⟨w.heap.size+1,rfl,?_,by omega⟩,ext4 (((eR w).alloc _).trans hE3) _ _ _ _⟩;have h9:=hrow.chg (chg4 w3 w.heap.size (.int .i64 n) (.int .i64 0) (.slice (some ⟨w.heap.size+1,0,none⟩) N N) (.slice none 0 0)) (by omega);have h9:=h9.mono (base':=w.heap.size) (by omega);unfold IRow at h9
 rwa [List.length_replicate] at h9
theorem copy_row {w:World} {base gl N A c1:Nat} {a1:Option Addr} {S:Nat→Prop} {l r:List Int} (hd:RowAt w base 1 (.slice (some ⟨gl,0,none⟩) N N) N (ints r)) (hs:Ints w S (.slice a1 A c1) l) (hA:A≤N) :
  ∃w9,(∀ty,(Builtin.copy_ #[30,30] ty #[.slice (some ⟨gl,0,none⟩) N N,.slice a1 A c1]).run Tryz.prog w=.ok (goInt A) w9)∧RowAt w9 base 1 (.slice (some ⟨gl,0,none⟩) N N) N (ints (l++r.drop A))∧Chg (fun k=>k=gl∧0<A) w w9:=by
 have hsrc:=hs.srcV;obtain⟨a',c',e,_,_,_⟩:=hs;simp only [Value.slice.injEq] at e;obtain⟨-,hlen,-⟩:=e;subst hlen;have hsz:(Tryz.prog.info? 3).map (·.size)=some 1:=infoIs;rcases Nat.eq_zero_or_pos l.length with h0 | h0
 ·have hl:l=[]:=List.eq_nil_of_length_eq_zero h0;subst hl;refine⟨w,fun ty=>?_,by simpa using hd,Chg.refl _ _⟩;exact run_copy_none w _ _ ty _ _ _ _ _ _ _ Tryz.underlying30 hsz (by simp)
 ·obtain⟨a2,c2,e,hnl,hone,hsr⟩:=hsrc;simp only [Value.slice.injEq,true_and] at e;obtain⟨rfl,rfl⟩:=e;obtain⟨ad,rfl,hcell⟩:=hsr.resolve_left (by omega);obtain⟨hxl,a3,c3,e,h1,h2,h3⟩:=hd;simp only [Value.slice.injEq,true_and] at e;obtain⟨rfl,rfl⟩:=e;obtain⟨g,o,e,hb,hc,ht⟩:=h3.resolve_left (by omega);simp only [Option.some.injEq,Addr.mk.injEq] at e;obtain⟨rfl,rfl,-⟩:=e;have hrl:r.length=N:=by rw [qP] at hxl;omega
  have hsm:∀j,j<(ints l).length→(w.cell? ⟨gl,0+j,none⟩).isSome=true:=fun j hj=>(ht j (by rw [qP] at hj;omega)).1
  refine⟨w.setCells gl 0 (ints l),fun ty=>?_,?_,Chg.setCells (M:=fun k=>k=gl∧0<l.length) (Chg.refl _ _) (.inl ⟨rfl,h0⟩) 0 _⟩
  ·have:=run_copy_cells w 30 30 ty 3 gl 0 N N ad l.length c1 (ints l) Tryz.underlying30 hsz (by rw [qP];exact(Nat.min_eq_left hA).symm) (fun j v hj=>hcell j v hj) hsm (fun j hj=>(ht j (by rw [qP] at hj;omega)).2) hone;rw [qP] at this;exact this
  ·refine⟨by rw [qP,List.length_append,List.length_drop];omega,_,_,rfl,Nat.le_refl _,h2,.inr ⟨gl,0,rfl,hb,fun j hj=>?_,fun j hj=>?_⟩⟩
   ·rw [yK];by_cases hjl:j<l.length
    ·rw [List.getElem?_append_left (by rw [qP];exact hjl),World.cell?_setCells_in gl (ints l) 0 w hsm j (by rw [qP];exact hjl),List.getElem?_eq_getElem]
    ·rw [List.getElem?_append_right (by rw [qP];omega),World.cell?_setCells_out gl (ints l) 0 w ⟨gl,0+j,none⟩ (fun _ _=>.inr (by rw [qP];show 0+l.length≤0+j;omega)),hc j hj,qP];unfold Proofs.YtpcjkfppacnkgaaGreatDoor.ints;rw [List.getElem?_map,List.getElem?_map,List.getElem?_drop]
     congr 2
     omega
   ·have:=ht j hj;rw [World.frozen?_setCells];refine⟨?_,this.2⟩;by_cases hjl:j<l.length
    ·rw [World.cell?_setCells_in gl (ints l) 0 w hsm j (by rw [qP];exact hjl)];rfl
    ·rw [World.cell?_setCells_out gl (ints l) 0 w ⟨gl,0+j,none⟩ (fun _ _=>.inr (by rw [qP];show 0+l.length≤0+j;omega))];exact this.1
theorem call_end {w wq Wm Wv:World} {B b:Nat} {P P':PState} {p:List GFunc} {n:Int} {gl N j:Nat} {L R:List PFiber} {y:PFiber} {F:List PFrame} {x:PFrame} {g o nn cap:Nat} {v1:Value} (own:OwnS wq B b P') (hg:P'.g=jB P.g j) (hbl:∀k∈P'.bl,k∈P.bl∨w.heap.size≤k) (hch:Chg (·∈b::P.bl) w wq) (nl:0<N→gl ∉ b::P'.bl) (hrow:RowAt wq w.heap.size 1 (.slice (some ⟨gl,0,none⟩) N N) N (ints (kL p P.g n j)))
  (hs:Spot P' L y R F x) (hnw:P'.now=L.length) (hv:P'.vfs=.slice (some ⟨g,o,none⟩) nn cap) (hRV:kO Wm Wv B 4 y.vf v1 (y.fr.length+1) (y.fr.flatMap frameF++[.int .i64 n,.int .i64 0,.slice (some ⟨gl,0,none⟩) N N,.slice none 0 0]))
  (hE:Ext wq Wm) (h9:y.fr.length<1000) (hgl:w.heap.size≤gl) (hB:B≤w.heap.size) (hlg:0<N→gl<wq.heap.size) (hI:I64 n) (hA:∀k∈kL p P.g n j,I64 k) (hlen:(kL p P.g n j).length=N) (hN:N≤1000) :
  Did w (Wv.setCell ⟨g,o+L.length * 2,none⟩ v1) B b P (0,kN (jB P.g j) P.g.now fun f=>{ f with frames:=f.frames++[⟨n,0,kL p P.g n j,[]⟩] }):=by
 obtain⟨r1,r2,r3⟩:=hRV;have hym:y∈P'.fs:=by rw [hs.fs];simp
 have hyb:∀k,zB y.vf=some k→k∈P'.bl:=fun k hk=>PState.mem_fs hym (by unfold PFiber.bl;simp [hk])
 have hvb:∀k,zB (.slice (some ⟨gl,0,none⟩) N N)=some k→k=gl∧0<N:=fun k hk=>by
  by_cases h0:N=0
  ·subst h0;simp [zB] at hk
  ·rw [zK _ _ _ _ h0] at hk;cases hk;exact⟨rfl,by omega⟩
 let X:PFrame:=⟨⟨n,0,kL p P.g n j,[]⟩,.slice (some ⟨gl,0,none⟩) N N,.slice none 0 0⟩
 have hXbl:∀k∈X.bl,k=gl∧0<N:=fun k hk=>by
  unfold PFrame.bl at hk;rcases List.mem_append.1 hk with h1 | h1
  ·exact hvb k (by simpa using h1)
  ·simp [X,zB] at h1
 have hXO:FrameO Wv B X:=by
  refine⟨⟨hI,I64.zero,hA,fun k hk=>by cases hk⟩,?_,RowAt.nil _ _ _ _,⟨by show (kL p P.g n j).length≤1000;omega,by show 0≤1000;omega⟩⟩;show RowAt Wv B 1 (.slice (some ⟨gl,0,none⟩) N N) (kL p P.g n j).length (ints (kL p P.g n j));rw [hlen];refine((hrow.mono hB).ext hE (by decide)).chg r2 (fun k hk e=>?_) (by decide);obtain⟨rfl,h0⟩:=hvb k hk;exact nl h0 (List.mem_cons_of_mem _ (hyb _ e))
 have hcg:Chg (fun k=>zB y.vf=some k) wq Wv:=(Chg.of_ext hE).trans r2;have hv1:zB v1=zB y.vf∨∀k,zB v1=some k→wq.heap.size≤k:=r3.imp id fun e k hk=>Nat.le_trans hE.size (e k hk)
 obtain⟨o9,c9⟩:=own.addFrame (x:=X) hs.fs hv hcg (by
   have e:(y.fr++[X]).flatMap frameF=y.fr.flatMap frameF++[.int .i64 n,.int .i64 0,.slice (some ⟨gl,0,none⟩) N N,.slice none 0 0]:=by rw [List.flatMap_append];rfl
   rw [e,List.length_append,List.length_singleton];exact r1) hXO h9 hv1 (by
   show ((zB (.slice (some ⟨gl,0,none⟩) N N)).toList++(zB (.slice none 0 0)).toList).Nodup
   cases zB (.slice (some ⟨gl,0,none⟩) N N)<;>simp [zB]) (fun k hk=>by
   obtain⟨rfl,h0⟩:=hXbl k hk;refine⟨nl h0,fun e=>?_⟩;rcases hv1 with h1 | h1
   ·exact nl h0 (List.mem_cons_of_mem _ (hyb _ (h1 ▸ e)))
   ·have:=h1 _ e;have:=hlg h0;omega)
 refine Did.of ⟨⟨_,o9,?_,fun k hk=>?_⟩,hch.trans' c9 fun k hk hm=>?_⟩
 ·rw [←hg];refine(uF hs.fs (n:=P.g.now) ?_ ?_).symm
  ·have e:P'.g.now=P.g.now:=by rw [hg];rfl
   rw [←e];exact hnw
  ·unfold PFiber.g;simp [X]
 ·unfold PState.bl at hk;simp only [List.flatMap_append,List.flatMap_cons,List.mem_append] at hk;have hback:k∈P'.bl→k∈P.bl∨w.heap.size≤k:=hbl k;rcases hk with (h3 | h3) | h3 | h3 | h3
  ·exact hback (PState.mem_vfs (by simpa using h3))
  ·exact hback (PState.mem_vo (by simpa using h3))
  ·obtain⟨z,hz,h4⟩:=List.mem_flatMap.1 h3;exact hback (PState.mem_fs (y:=z) (by rw [hs.fs];simp [hz]) h4)
  ·unfold PFiber.bl at h3;simp only [List.flatMap_append,List.mem_append] at h3;rcases h3 with h4 | h4 | h4
   ·have h5:zB v1=some k:=by simpa using h4
    rcases hv1 with h6 | h6
    ·exact hback (hyb k (h6 ▸ h5))
    ·exact .inr (Nat.le_trans hch.size (h6 k h5))
   ·refine hback (PState.mem_fs hym ?_);unfold PFiber.bl;exact List.mem_append.2 (.inr h4)
   ·have h5:k∈X.bl:=by simpa using h4
    exact .inr (by rw [(hXbl k h5).1];exact hgl)
  ·obtain⟨z,hz,h4⟩:=List.mem_flatMap.1 h3;exact hback (PState.mem_fs (y:=z) (by rw [hs.fs];simp [hz]) h4)
 ·rcases hbl k hm with h1 | h1
  ·exact List.mem_cons_of_mem _ h1
  ·omega
theorem argsOf_all (p:List GFunc) (s:GState) (a:Int) (A N:Nat) (hA:(zI p a).args=A) (hN:(zI p a).locals=N):kL p s a A=(curX s).stack.drop ((curX s).stack.length - A)++(List.replicate N 0).drop A:=by
 unfold kL;rw [hA,hN,List.drop_replicate];simp
theorem engCall_any (n:Nat) {P:PState} {w:World} {B b eb:Nat} {p:List GFunc} {a:Option Addr} {cp:Nat} (h:EngS w B b eb p a cp P) (hp:zM w (·<B) (.slice a p.length cp) p) (ht:zU P.g P.g.now) (h6:(curF P.g).frames.length≤6) (hb:zEm p P.g n) :
    Calls Tryz.prog 194 #[.pointer (some ⟨eb,0,none⟩),.int .i64 n] w fun e w'=>e=endS (zAw p P.g n).1∧Did w w' B b P (zAw p P.g n):=by
  obtain⟨-,hn,hA0,hAL,hL9,hst⟩:=hb;have hn:n<p.length:=by omega
  have hF:zI p n=p[n]:=by unfold zI;simp [List.getD,List.getElem?_eq_getElem hn]
  obtain⟨A,hA⟩:∃A:Nat,(zI p n).args=A:=⟨(zI p n).args.toNat,by omega⟩
  obtain⟨N,hN⟩:∃N:Nat,(zI p n).locals=N:=⟨(zI p n).locals.toNat,by omega⟩
  obtain⟨bp,op,cap,ep,hcap,hby,⟨hpB,hpA,_⟩,_⟩:=hp.get hn;simp only [Value.slice.injEq,true_and] at ep;obtain⟨rfl,rfl⟩:=ep;rw [←hF,hA] at hpA;have hpB:bp<B:=hpB;have hAN:A≤N:=by omega
  have hAs:A≤(curX P.g).stack.length:=by omega
  have hN9:N≤900:=by omega
  have hAt:(zI p n).args.toNat=A:=by omega
  obtain⟨L,y,R,F,x,hs,hnw⟩:=yS ht;have hnw:P.now=L.length:=hnw;obtain⟨g,o,cap2,hvf,hlt,d0,-,hbl⟩:=h.own.place hs.fs;have hym:y∈P.fs:=by rw [hs.fs];simp
  obtain⟨ay,cy,ey,hcy,_⟩:=(h.own.fs y hym).row.shape;rw [ey] at d0;obtain⟨d0,d0'⟩:=d0;obtain⟨⟨c0,c0'⟩,⟨k1,k1'⟩⟩:=(⟨h.own.c0,h.own.c1⟩:_∧_)
  obtain⟨⟨x0,x0'⟩,⟨x1,x1'⟩⟩:=h.eng;rw [hnw] at k1;rw [hvf] at c0;have hfl:(curF P.g).frames.length=y.fr.length:=by rw [zAn hs.fs hnw];unfold PFiber.g;simp
  rw [hfl] at h6;have hG:zAw p P.g n=if y.fr.length=6 then (2,P.g) else (0,kN (jB P.g A) P.g.now fun f=>{ f with frames:=f.frames++[⟨n,0,kL p P.g n A,[]⟩] }):=by unfold zAw;rw [hfl,hAt]
  have H:=eH h;have HP:=eH hp;have HT:=eH ht;have HA:=eH hA;have HN:=eH hN;have HAS:=eH hAs;have HG:=eH hG;have HB:Hid (B≤w.heap.size):=Nat.le_trans h.own.le (Nat.le_of_lt h.own.c0.lt);have HS:=eH hs;have HNW:=eH hnw;obtain⟨i0,hi0,hz0,hz1,hz2⟩:=info_parts vM;have RA:=zF;clear h hp ht hF hA0 hAL hL9 hA hN hAt hst hG hs hnw hvf ey hbl hym hfl hcy hAs;go_enter Tryz.func194,Tryz.ntmps194
  go_upto_region 0 with fail
  rcases Nat.lt_or_ge y.fr.length 6 with h5 | h5
  · have T6:decide (((y.fr.length:Nat):Int)<6)=true:=decide_eq_true (by omega)
    have HGE:Hid (zAw p P.g n=(0,kN (jB P.g A) P.g.now fun f=>{ f with frames:=f.frames++[⟨n,0,kL p P.g n A,[]⟩] })):=by unfold Hid;rw [HG.out,if_neg (by omega)]
    clear h5 HG;refine kW 19 (by kernel_rfl) (by kernel_rfl) ?_;simp only [List.take_succ_cons,List.take_zero,List.drop_succ_cons,List.drop_zero]
    repeat (first
      | go_big_quiet_skip
      | (go_big_quiet_want
         unfold Oper.quiet;apply Exists.intro;refine⟨fun w' hw'=>?_,?_⟩
         focus
           have hcq:=Ext.keep hw';go_simp
           first
             | with_reducible rfl
         (try dsimp only [Act.put])
         (try simp only [xL,xM,xN])
         go_big_quiet_on))
    refine wpQuiet_nil ?_;intro wq hq;have HQ:=eH hq;obtain⟨y1,y1'⟩:=Cx.ext (W:=w) ⟨x1,x1'⟩ hq;have HPQ:=eH (zM.stays (Ext.stays hq) HP.out);clear hq
    go_upto_region 2 with (first
      | (go_at_call 210;(with_reducible refine(jA _ _ _).mono ?_);rintro e w3 ⟨he,rfl⟩;simp only [zBo] at he;subst he)
      | (go_at_call 68;(with_reducible refine(frameO_any p _ (·<B) n N _ HPQ.out hn HN.out hN9).mono ?_);rintro e w4 ⟨⟨gl,rfl,hrow4,hgl4⟩,hx4⟩))
    have hbx4:0<N→gl<w4.heap.size:=fun h0=>hrow4.lt2 (by decide) _ (zK _ _ _ _ (by omega))
    obtain⟨W5,hW5⟩:∃W5,W5=w4.alloc (.cells #[.int .i64 n,.int .i64 0,.slice (some ⟨gl,0,none⟩) N N,.slice none 0 0] 108):=⟨_,rfl⟩
    have hE5:Ext w4 W5:=by rw [hW5];exact(eR _).alloc _
    have q0:Cx W5 w4.heap.size 0 (.int .i64 n):=by rw [hW5];exact Cx.new w4 [.int .i64 n,.int .i64 0,.slice (some ⟨gl,0,none⟩) N N,.slice none 0 0] _ (j:=0) rfl
    have q1:Cx W5 w4.heap.size 1 (.int .i64 0):=by rw [hW5];exact Cx.new w4 [.int .i64 n,.int .i64 0,.slice (some ⟨gl,0,none⟩) N N,.slice none 0 0] _ (j:=1) rfl
    have q2:Cx W5 w4.heap.size 2 (.slice (some ⟨gl,0,none⟩) N N):=by rw [hW5];exact Cx.new w4 [.int .i64 n,.int .i64 0,.slice (some ⟨gl,0,none⟩) N N,.slice none 0 0] _ (j:=2) rfl
    have q3:Cx W5 w4.heap.size 3 (.slice none 0 0):=by rw [hW5];exact Cx.new w4 [.int .i64 n,.int .i64 0,.slice (some ⟨gl,0,none⟩) N N,.slice none 0 0] _ (j:=3) rfl
    simp only [←hW5];have HE5:=eH ((HQ.out.trans hx4).trans hE5);have HR5:=eH (hrow4.ext hE5 (by decide));have HGL:Hid (w.heap.size≤gl∧w.heap.size≤w3.heap.size∧w.heap.size≤w4.heap.size∧w4.heap.size<W5.heap.size∧(0<N→gl<w4.heap.size)):=⟨Nat.le_trans HQ.out.size hgl4,HQ.out.size,(HQ.out.trans hx4).size,q0.lt,hbx4⟩
    have Q5:=eH (⟨q0,q1,q2,q3⟩:_∧_∧_∧_);clear hW5 hE5 hrow4 hgl4 hx4 hbx4 q0 q1 q3 HPQ y1 y1';generalize w4.heap.size=bx at *;have H5:=eH (H.out.ext HE5.out);obtain⟨q2,q2'⟩:=q2;obtain⟨y1,y1'⟩:=Cx.ext (W:=w) ⟨x1,x1'⟩ HE5.out;have hpA5:=eC HE5.out hpA;refine qD (fun w'=>w'.cell? ⟨bx,2,none⟩=some (.slice (some ⟨gl,0,none⟩) N N)∧w'.cell? ⟨eb,1,none⟩=some (.slice (some ⟨bp,op,none⟩) p.length cp)∧w'.cell? ⟨bp,op+n * 3,none⟩=some (.int .i64 A)) 12 [0,1,2,3,4,5,6,7,8,9,10] [11,12] (by kernel_rfl) (by kernel_rfl) (fun _ _ _ _ _ h=>h) (by exact⟨q2,y1,hpA5⟩) ?_
    (try simp only [zH,List.filterMap_cons,List.filterMap_nil,xO,xP])
    repeat (
      refine zN (by rfl) ?_;apply Exists.intro;refine⟨fun w' hw'=>?_,?_⟩
      focus
        (try dsimp only at hw')
        go_split_ands;go_simp
        (try with_reducible rfl)
      (try dsimp only [Act.put])
      (try simp only [xL,xM,xN]))
    refine zL ?_;have HBXO:Hid (bx ∉ b::P.bl):=fun hm=>by have:=H.out.own.lt _ hm;have:=HGL.out;omega
    have HBPO:Hid (bp ∉ b::P.bl):=fun hm=>by have:=H.out.own.ge _ hm;omega
    refine zC ?_
    go_wp2_with (first
      | (go_at_call 160;(with_reducible refine(engPull_any (H5.out.own.ext (eR _).drew) (H5.out.eng.ext (eR _).drew) HT.out A HAS.out).mono ?_);rintro e w6 ⟨v1,rfl,hv1,t6⟩))
    have hd6:W5.drew.heap.size=W5.heap.size:=rfl;obtain⟨P2,h2,g2,bl2,ch2⟩:=(H5.out.ext (eR W5).drew).turn t6;rw [hd6] at bl2;have hE6:Ext W5 W5.drew:=(eR _).drew;have z2:=Cx.chg (Cx.ext (W:=W5) ⟨q2,q2'⟩ hE6) ch2 HBXO.out;have z1:=Cx.chg (Cx.ext (W:=W5) ⟨y1,y1'⟩ hE6) ch2 H.out.off;have zA:=Chg.cell ch2 HBPO.out (eC hE6 hpA5);obtain⟨a1,c1,e1,_,_,_⟩:=id hv1;have hdl:((curX P.g).stack.drop ((curX P.g).stack.length - A)).length=A:=by rw [List.length_drop];have:=HAS.out;omega
    rw [hdl] at e1;subst e1;have hr6:=(HR5.out.ext hE6 (by decide)).chg ch2 (fun k hk e=>by
      have h0:0<N:=by
        rcases Nat.eq_zero_or_pos N with h0 | h0
        · subst h0;simp [zB] at hk
        · exact h0
      rw [zK _ _ _ _ (by omega)] at hk
      cases hk
      have:=H.out.own.lt _ e;have:=HGL.out.1
      omega) (by decide)
    obtain⟨w9,hcp,hr9,hc9⟩:=copy_row hr6 hv1 hAN;refine zD (by exact⟨z2.1,z1.1,zA⟩) ?_;refine zC ?_
    go_wp2_with fail
    refine zS ?_;have hgn:∀k,k=gl∧0<A→k ∉ b::P2.bl∧k≠eb∧k≠bx:=fun k ⟨hk,h0⟩=>by
      subst hk;have h1:=HGL.out;refine⟨fun hm=>?_,fun e=>?_,by omega⟩
      · rcases List.mem_cons.1 hm with e | e
        · have:=H.out.own.lt _ (show k∈b::P.bl by rw [e];exact List.mem_cons_self);omega
        · rcases bl2 k e with e | e
          · have:=H.out.own.lt _ (List.mem_cons_of_mem _ e);omega
          · omega
      · have:=H.out.eng.e0.lt;omega
    have hnl:0<N→gl ∉ b::P2.bl:=fun h0 hm=>by
      have h1:=HGL.out;rcases List.mem_cons.1 hm with e | e
      · have:=H.out.own.lt _ (show gl∈b::P.bl by rw [e];exact List.mem_cons_self);omega
      · rcases bl2 gl e with e | e
        · have:=H.out.own.lt _ (List.mem_cons_of_mem _ e);omega
        · omega
    have h9:EngS w9 B b eb p (some ⟨bp,op,none⟩) cp P2:=⟨h2.own.chg hc9 (fun e=>(hgn b e).1 List.mem_cons_self) (fun k hk e=>(hgn k e).1 (List.mem_cons_of_mem _ hk)),h2.eng.chg hc9 (fun e=>(hgn eb e).2.1 rfl),h2.off⟩
    have hch9:Chg (·∈b::P.bl) w w9:=((Chg.of_ext (HE5.out.trans hE6)).trans ch2).trans' hc9 (fun k hk e=>by have:=HGL.out.1;have:=e.1;omega);obtain⟨⟨b0,b0'⟩,⟨b1,b1'⟩,⟨b2,b2'⟩,⟨b3,b3'⟩⟩:=(⟨((Q5.out.1.ext hE6).chg ch2 HBXO.out).chg hc9 (fun e=>(hgn bx e).2.2 rfl),((Q5.out.2.1.ext hE6).chg ch2 HBXO.out).chg hc9 (fun e=>(hgn bx e).2.2 rfl),((Q5.out.2.2.1.ext hE6).chg ch2 HBXO.out).chg hc9 (fun e=>(hgn bx e).2.2 rfl),((Q5.out.2.2.2.ext hE6).chg ch2 HBXO.out).chg hc9 (fun e=>(hgn bx e).2.2 rfl)⟩:_∧_∧_∧_)
    have hT2:zU P2.g P2.g.now:=by rw [g2];exact HT.out.leave _
    obtain⟨L2,y2,R2,F2,x2,hs2,hnw2⟩:=yS hT2;have hnw2:P2.now=L2.length:=hnw2;obtain⟨gv,ov,cap3,hvf2,hlt2,e0,-,hbl2⟩:=h9.own.place hs2.fs;have hym2:y2∈P2.fs:=by rw [hs2.fs];simp
    obtain⟨ay2,cy2,ey2,hcy2,_⟩:=(h9.own.fs y2 hym2).row.shape;have hfew2:=(h9.own.fs y2 hym2).few;have hle2:y2.fr.length<1000:=by
      have e1:(curF P2.g).frames.length=y2.fr.length:=by rw [zAn hs2.fs hnw2];unfold PFiber.g;simp
      have e2:(curF P2.g).frames.length=(curF P.g).frames.length:=by rw [g2];exact curF_frames P.g HT.out _
      have e3:(curF P.g).frames.length=y.fr.length:=by rw [zAn HS.out.fs HNW.out];unfold PFiber.g;simp
      omega
    obtain⟨⟨f0,f0'⟩,⟨f1,f1'⟩⟩:=(⟨h9.own.c0,h9.own.c1⟩:_∧_)
    obtain⟨⟨u0,u0'⟩,-⟩:=h9.eng;rw [hnw2] at f1;rw [hvf2] at f0;rw [ey2] at e0;obtain⟨e0,e0'⟩:=e0;have H9:=eH h9;have G2:=eH g2;have BL2:Hid (∀k∈P2.bl,k∈P.bl∨w.heap.size≤k):=fun k hk=>(bl2 k hk).imp id (fun h=>by have:=HGL.out;omega)
    have CH9:=eH hch9;have NL:=eH hnl;have HR9:=eH hr9;have HS2:=eH hs2;have HNW2:=eH hnw2;have HVF2:=eH hvf2;have HEY2:=eH ey2;have HROW:Hid (RowAt w9 B 4 (.slice ay2 y2.fr.length cy2) y2.fr.length (y2.fr.flatMap frameF)):=by unfold Hid;rw [←ey2];exact(h9.own.fs y2 hym2).row
    have HBW:Hid (B≤w9.heap.size):=Nat.le_trans HB.out hch9.size;have HGY:Hid (∀k,zB (.slice ay2 y2.fr.length cy2)=some k→k≠b∧k≠gv∧k≠bx∧k≠eb∧k∈P2.bl):=by
      unfold Hid;intro k hk;rw [←ey2] at hk;have hm:k∈y2.bl:=by unfold PFiber.bl;simp [hk]
      have hmp:=PState.mem_fs hym2 hm;obtain⟨d0,d1,_⟩:=h9.own.dis;refine⟨fun e=>d0 (e ▸ hmp),fun e=>(d1 gv hbl2).2 y2 hym2 (e ▸ hm),fun e=>?_,fun e=>h9.off (List.mem_cons_of_mem _ (e ▸ hmp)),hmp⟩;subst e;have h1:=HGL.out;rcases bl2 k hmp with e | e
      · exact HBXO.out (List.mem_cons_of_mem _ e)
      · omega
    obtain⟨i1,hi1,hz3,hz4,hz5⟩:=info_parts infoFr;clear hgn hnl h9 hch9 hT2 hs2 hnw2 hvf2 hbl2 hym2 ey2 hcy2 z2 z1 zA h2 bl2 ch2 g2 t6 hr6 hcp hr9 hc9 hv1 hdl c0 c0' k1 k1' x0 x0' x1 x1' d0 d0' y1 y1' q2 q2' hpA hpA5 hd6 hE6
    go_upto_region 3 with fail
    refine zX (fun w'=>w'.cell? ⟨eb,0,none⟩=some (.pointer (some ⟨b,0,none⟩))∧w'.cell? ⟨b,0,none⟩=some (.slice (some ⟨gv,ov,none⟩) P2.fs.length cap3)∧w'.cell? ⟨b,1,none⟩=some (.int .i64 (L2.length:Int))∧w'.cell? ⟨gv,ov+L2.length * 2,none⟩=some (.slice ay2 y2.fr.length cy2) ∧
        w'.cell? ⟨bx,0,none⟩=some (.int .i64 n)∧w'.cell? ⟨bx,1,none⟩=some (.int .i64 0)∧w'.cell? ⟨bx,2,none⟩=some (.slice (some ⟨gl,0,none⟩) N N)∧w'.cell? ⟨bx,3,none⟩=some (.slice none 0 0))
      36 [0,1,2,3,4,5,6,7,8,9,10,11,12,13,14,15,16,17,18,19,20,21,22,23,24,25,26,27,28,29,30,31] [32,33,34,35,36] (by kernel_rfl) (by kernel_rfl) (fun _ _ _ _ _ h=>h) (by exact⟨u0,f0,f1,e0,b0,b1,b2,b3⟩) ?_
    (try simp only [zH,List.filterMap_cons,List.filterMap_nil,xO,xP])
    repeat (
      refine zN (by rfl) ?_;apply Exists.intro;refine⟨fun w' hw'=>?_,?_⟩
      focus
        (try dsimp only at hw')
        go_split_ands;go_simp
        (try with_reducible rfl)
      (try dsimp only [Act.put])
      (try simp only [xL,xM,xN]))
    refine zL ?_;refine zC ?_
    go_wp2_with fail
    have hA9:Ext w9 (w9.alloc (.cells #[.int .i64 n,.int .i64 0,.slice (some ⟨gl,0,none⟩) N N,.slice none 0 0] 108)).drew:=by ((repeat first|assumption|exact eR _|exact And.left (by assumption)|apply eA|apply eD|apply eN|refine eS ?_ (by simp<;>omega) _|refine eT ?_ (by assumption));done)
    have HA9:=eH hA9;have S9:=eH (⟨eC hA9 u0,eC hA9 f0,eC hA9 f1,eC hA9 e0,eC hA9 b0,eC hA9 b1,eC hA9 b2,eC hA9 b3⟩:_∧_∧_∧_∧_∧_∧_∧_);clear hA9;refine zD S9.out ?_;refine zC ?_
    go_wp2_with (first
      | (at_builtin;refine zE rfl _ _ 110 rfl B 108 i1 (.agg #[.int .i64 0,.int .i64 0,.slice none 0 0,.slice none 0 0]) 4 64 Tryz.underlying110 hi1 hz3 hz4 hz5 rfl (by decide) _ _ _ rfl (by exact(HROW.out.ext HA9.out (by decide))) 1 _ (by exact src_drew (vZ _ _ 4 rfl (by simp [Value.oneCell']) _)) (by unfold maxLen;omega) (by omega) (by exact Nat.le_trans HBW.out (Ext.size HA9.out)) ?_;intro v1 Wv1 rv1;have RV:=eH rv1;obtain⟨a9,cap9,rfl,_,_⟩:=rv1.1.shape;clear rv1))
    have hRV:kO (w9.alloc (.cells #[.int .i64 n,.int .i64 0,.slice (some ⟨gl,0,none⟩) N N,.slice none 0 0] 108)).drew Wv1 B 4 (.slice ay2 y2.fr.length cy2) (.slice a9 (y2.fr.length+1) cap9) (y2.fr.length+1) (y2.fr.flatMap frameF++[.int .i64 n,.int .i64 0,.slice (some ⟨gl,0,none⟩) N N,.slice none 0 0]):=RV.out;have SS:=eH (⟨Chg.cell hRV.2.1 (fun e=>(HGY.out eb e).2.2.2.1 rfl) S9.out.1,Chg.cell hRV.2.1 (fun e=>(HGY.out b e).1 rfl) S9.out.2.1,Chg.cell hRV.2.1 (fun e=>(HGY.out b e).1 rfl) S9.out.2.2.1,Chg.cell hRV.2.1 (fun e=>(HGY.out gv e).2.1 rfl) S9.out.2.2.2.1,
      Chg.cell hRV.2.1 (fun e=>(HGY.out bx e).2.2.1 rfl) S9.out.2.2.2.2.1,Chg.cell hRV.2.1 (fun e=>(HGY.out bx e).2.2.1 rfl) S9.out.2.2.2.2.2.1,Chg.cell hRV.2.1 (fun e=>(HGY.out bx e).2.2.1 rfl) S9.out.2.2.2.2.2.2.1,Chg.cell hRV.2.1 (fun e=>(HGY.out bx e).2.2.1 rfl) S9.out.2.2.2.2.2.2.2⟩:_∧_∧_∧_∧_∧_∧_∧_)
    obtain⟨v0,v0'⟩:=(Cx.ext (W:=w9) ⟨e0,e0'⟩ HA9.out).chg hRV.2.1 (fun e=>(HGY.out gv e).2.1 rfl);refine zD SS.out ?_;refine zC ?_
    go_wp2_with fail
    refine zD SS.out ?_;refine zC ?_
    go_wp2_with fail
    refine zD SS.out ?_;refine zC ?_
    go_wp2_with fail
    refine zS ?_;go_end0;rw [HGE.out];have hal:kL p P.g n A=(curX P.g).stack.drop ((curX P.g).stack.length - A)++(List.replicate N 0).drop A:=argsOf_all p P.g n A N HA.out HN.out;have hln:(kL p P.g n A).length=N:=by rw [hal,List.length_append,List.length_drop,List.length_drop,List.length_replicate];have:=HAS.out;omega
    have h1:=HGL.out;have hfin:=call_end H9.out.own G2.out BL2.out CH9.out NL.out ((by rw [hal];exact HR9.out.mono h1.2.1)) HS2.out HNW2.out HVF2.out (by rw [HEY2.out];exact hRV) HA9.out hle2 h1.1 HB.out (fun h0=>Nat.lt_trans (h1.2.2.2.2 h0) (zY b0)) (I64.nat (by omega)) (argsOf_i64 p P.g n _ (H.out.own.i64s HT.out).1) hln (by omega);exact⟨rfl,hfin⟩
  · have T6:decide (((y.fr.length:Nat):Int)<6)=false:=decide_eq_false (by omega)
    have HGE:Hid (zAw p P.g n=(2,P.g)):=by unfold Hid;rw [HG.out,if_pos (by omega)]
    clear h5 HG;refine kW 19 (by kernel_rfl) (by kernel_rfl) ?_;simp only [List.take_succ_cons,List.take_zero,List.drop_succ_cons,List.drop_zero]
    repeat (first
      | go_big_quiet_skip
      | (go_big_quiet_want
         unfold Oper.quiet;apply Exists.intro;refine⟨fun w' hw'=>?_,?_⟩
         focus
           have hcq:=Ext.keep hw';go_simp
           first
             | with_reducible rfl
         (try dsimp only [Act.put])
         (try simp only [xL,xM,xN])
         go_big_quiet_on))
    refine wpQuiet_nil ?_;intro wq hq
    go_wp2_with (first
      | (go_at_call 210;(with_reducible refine(jA _ _ _).mono ?_);rintro e w3 ⟨he,rfl⟩;simp only [zBo] at he;subst he))
    rw [HGE.out];exact⟨rfl,rfl,⟨Chg.of_ext hq,fun h=>by cases h⟩⟩
end Go.Proofs.YtpcjkfppacnkgaaGreatDoor
