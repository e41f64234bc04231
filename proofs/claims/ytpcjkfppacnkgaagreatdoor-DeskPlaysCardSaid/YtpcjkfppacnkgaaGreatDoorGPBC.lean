/- Contracts and plain facts. -/
import Derived.Test.YtpcjkfppacnkgaaGreatDoorGPBB
set_option maxHeartbeats 4000000
set_option maxRecDepth 100000
section
set_option maxHeartbeats 8000000
namespace Go.Proofs.YtpcjkfppacnkgaaGreatDoor
open Go Go.RowKit
theorem jM:endS 0=.returned (.tuple #[]):=by unfold endS;rw [if_pos rfl]
theorem engDo_any {P:PState} {w:World} {B b eb:Nat} {p:List GFunc} {pa:Option Addr} {cp:Nat} (hE:EngS w B b eb p pa cp P) (hp:zM w (·<B) (.slice pa p.length cp) p) (hf:FewS P.g) (hfit:zEr p P.g) (hi:FarFit p (advG P.g) (opAt p (curX P.g)).kind) (hkk:0≤(opAt p (curX P.g)).kind∧(opAt p (curX P.g)).kind≤16) :
  Calls Tryz.prog 133 #[.pointer (some ⟨eb,0,none⟩)] w fun e w'=>e=endS (kF p P.g).1∧Did w w' B b P (kF p P.g):=by
 obtain⟨⟨ht,hn0,hn1,ha0,ha1⟩,hwf⟩:=hfit;have h:=hE.own;obtain⟨L,y,R,F,x,hs,hnw⟩:=yS ht;have hnw:P.now=L.length:=hnw;have hcx:=uS hs hnw;rw [hcx] at hn0 hn1 ha0 ha1 hwf hi hkk;obtain⟨fn,hfn⟩:∃n:Nat,x.f.func=n:=⟨x.f.func.toNat,by omega⟩
 obtain⟨at',hat⟩:∃n:Nat,x.f.at_=n:=⟨x.f.at_.toNat,by omega⟩
 have hfl:fn<p.length:=by omega
 have hF:zI p x.f.func=p[fn]:=by rw [hfn];unfold zI;simp [List.getD,List.getElem?_eq_getElem hfl]
 rw [hF] at ha1;have hal:at'<p[fn].code.length:=by omega
 have hop:opAt p x.f=p[fn].code[at']:=by unfold opAt;rw [hF,hat];simp [List.getD,List.getElem?_eq_getElem hal]
 rw [hop] at hwf hi hkk;have hD:kF p P.g=zQ p (advG P.g) p[fn].code[at'].kind p[fn].code[at'].a:=by unfold kF;rw [hcx,hop]
 obtain⟨bp,op,capp,epa,hcapp,hby,_,_,vc,hcv,hops⟩:=hp.get hfl;simp only [Value.slice.injEq,true_and] at epa;obtain⟨rfl,rfl⟩:=epa;obtain⟨bc,oc,capc,rfl,hcapc,hbyc,⟨_,hk0,hk1⟩,_,hq0,hq1⟩:=hops.get hal;obtain⟨k,hk⟩:∃k,p[fn].code[at'].kind=k:=⟨_,rfl⟩
 obtain⟨a,ha⟩:∃a,p[fn].code[at'].a=a:=⟨_,rfl⟩
 obtain⟨M,hM⟩:∃M,p[fn].code.length=M:=⟨_,rfl⟩
 rw [hk] at hk0 hk1 hwf hD hi hkk;rw [ha] at hq0 hq1 hwf hD;rw [hM] at hal hcv hcapc hbyc;obtain⟨g,o,cap,hyv,hcap,hmax,⟨f0,_⟩,⟨f1,f1'⟩,_,_,hbl⟩:=h.spot hs;rw [hfn] at f0;rw [hat] at f1;have KA:IntKind.i64.wrap ((at':Int)+1)=(at':Int)+1:=IntWalk.i64_in _ (by omega);have HP:=eH hp;have H:=eH h;have HEng:=eH hE;have HS:=eH hs;have HNW:=eH hnw;have HYV:=eH hyv;have HD:=eH hD;have HF:=eH hf;have HT:=eH ht;have HWF:=eH hwf;have HBL:=eH hbl;have HAT:=eH hat;have HFF:=eH hi;have HKK:=eH hkk;obtain⟨e1,e1'⟩:=hE.eng.e1;have RA:=zF;clear hp h hE hs hnw hyv hD hf ht hwf hcx hop hF hbl hn0 hn1 ha0 ha1 hM hk ha hops hfn hat hi hkk;go_enter Tryz.func133,Tryz.ntmps133
 go_upto_region 1 with (first
  | (go_at_call 158;(with_reducible refine(zEc H.out HEng.out.eng HS.out HYV.out HNW.out).mono ?_);rintro e w2 ⟨rfl,hx2⟩))
 have HX2:=eH hx2;have f0:=eC hx2 f0;have f1w:=f1;have f1:=eC hx2 f1;have e1w:=eC hx2 e1;have hcv:=eC hx2 hcv;have hk0:=eC hx2 hk0;have hq0:=eC hx2 hq0;clear hx2;have f1'2:=(Cx.ext (W':=w2) ⟨f1w,f1'⟩ HX2.out).2;refine qD (fun w'=>w'.cell? ⟨eb,1,none⟩=some (.slice (some ⟨bp,op,none⟩) p.length cp)∧w'.cell? ⟨g,o+F.length * 4,none⟩=some (.int .i64 fn)∧w'.cell? ⟨g,o+F.length * 4+1,none⟩=some (.int .i64 at')∧w'.cell? ⟨bp,op+fn * 3+2,none⟩=some (.slice (some ⟨bc,oc,none⟩) M capc)∧w'.cell? ⟨bc,oc+at' * 2,none⟩=some (.int .i64 k)∧w'.cell? ⟨bc,oc+at' * 2+1,none⟩=some (.int .i64 a))
  18 [0,1,2,3,4,5,6,7,8,9,10,11,12,13,14,15,16] [17,18] (by kernel_rfl) (by kernel_rfl) (fun _ _ _ _ _ h=>h) (by exact⟨e1w,f0,f1,hcv,hk0,hq0⟩) ?_
 (try simp only [zH,List.filterMap_cons,List.filterMap_nil,xO,xP])
 repeat (
  refine zN (by rfl) ?_;apply Exists.intro;refine⟨fun w' hw'=>?_,?_⟩
  focus
   (try dsimp only at hw')
   go_split_ands;go_simp
   (try with_reducible rfl)
  (try dsimp only [Act.put])
  (try simp only [xL,xM,xN]))
 refine zL ?_;refine zC ?_
 go_wp2_with fail
 refine zD (by refine⟨?_,?_,?_,?_,?_,?_⟩<;>simp [*]) ?_;refine zC ?_
 go_wp2_with fail
 refine zS ?_;have f1b:=(Cx.ext (W:=w2) ⟨f1,f1'2⟩ ((eR w2).alloc (.cells #[.int .i64 k,.int .i64 a] 51))).2
 go_upto_region 3 with fail
 obtain⟨W4,hW4⟩:∃W4,W4=((w2.alloc (.cells #[.int .i64 k,.int .i64 a] 51)).setCell ⟨g,o+F.length * 4+1,none⟩ (.int .i64 ((at':Int)+1))).drew:=⟨_,rfl⟩
 rw [←hW4];obtain⟨P1,y1,x1,HO,HS1,HYV1,HNW1,HG1,C4,BL4,HXF1⟩:∃P1 y1 x1,Hid (OwnS W4 B b P1)∧Hid (Spot P1 L y1 R F x1)∧Hid (y1.vf=.slice (some ⟨g,o,none⟩) (F++[x1]).length cap)∧Hid (P1.now=L.length)∧Hid (P1.g=advG P.g)∧Hid (Chg (·∈b::P.bl) w W4)∧Hid (∀k∈P1.bl,k∈P.bl)∧Hid (x1.f.locals=x.f.locals∧x1.f.stack=x.f.stack):=by
  have h9:=((H.out).ext (HX2.out.alloc (.cells #[.int .i64 k,.int .i64 a] 51))).setAt HS.out HYV.out ((at':Int)+1) (by unfold I64;omega);refine⟨qT P L y R F ⟨{ x.f with at_:=(at':Int)+1 },x.vl,x.vs⟩,{ y with fr:=F++[⟨{ x.f with at_:=(at':Int)+1 },x.vl,x.vs⟩] },⟨{ x.f with at_:=(at':Int)+1 },x.vl,x.vs⟩,?_,⟨rfl,rfl⟩,by rw [List.length_append];have:=HYV.out;rw [List.length_append] at this;exact this,HNW.out,?_,?_,?_,⟨rfl,rfl⟩⟩
  ·rw [hW4];exact h9.1.ext (eR _).drew
  ·unfold Hid advG;refine(qC HS.out HNW.out ?_).symm;rw [HAT.out]
  ·rw [hW4];exact((Chg.of_ext (HX2.out.alloc _)).trans h9.2).drew
  ·intro k hk;exact zBh (x':=⟨{ x.f with at_:=(at':Int)+1 },x.vl,x.vs⟩) HS.out rfl k hk
 have hbx:w2.heap.size ∉ b::P1.bl:=fun hm=>by
  have h1:w2.heap.size∈b::P.bl:=by
   rcases List.mem_cons.1 hm with e | e
   ·rw [e];exact List.mem_cons_self
   ·exact List.mem_cons_of_mem _ (BL4.out _ e)
  have:=(H.out).lt _ h1;have:=HX2.out.size;omega
 have hcap0:cap≠0:=by simp at hcap;omega
 have hgb2:w2.heap.size≠g:=fun e=>hbx (List.mem_cons_of_mem _ ((HS1.out).bl (.inl (by rw [HYV1.out,e];exact zK _ _ _ _ hcap0))))
 have hb0:Cx W4 w2.heap.size 0 (.int .i64 k):=by rw [hW4];exact(((Cx.new w2 [.int .i64 k,.int .i64 a] _ (j:=0) rfl).other (.inl hgb2) _).ext (eR _).drew)
 have hb1:Cx W4 w2.heap.size 1 (.int .i64 a):=by rw [hW4];exact(((Cx.new w2 [.int .i64 k,.int .i64 a] _ (j:=1) rfl).other (.inl hgb2) _).ext (eR _).drew)
 have HEN:=eH (HEng.out.with C4.out HO.out (fun k hk=>.inl (BL4.out k hk)));have HBX:=eH hbx;have HB0:=eH hb0;have HB1:=eH hb1;obtain⟨hb0,-⟩:=hb0;obtain⟨hb1,-⟩:=hb1;generalize w2.heap.size=bx at *;have hD2:=HD.out;rw [←HG1.out] at hD2;have HD2:=eH hD2;have hw2:=HWF.out;rw [←HG1.out] at hw2;have HW2:=eH hw2;have hff2:=HFF.out;rw [←HG1.out] at hff2;have HFF2:=eH hff2;have HT1:Hid (zU P1.g P1.g.now):=by unfold Hid;rw [HG1.out];exact(HT.out).top _
 have HR1:Hid (Room P1.g):=by unfold Hid;rw [HG1.out];exact(HF.out).room.top _ (fun _=>Nat.le_refl _)
 have HPL:Hid (zM W4 (·<B) (.slice (some ⟨bp,op,none⟩) p.length cp) p):=zM.stays ((C4.out).stays (fun k hk hm=>by have:=(H.out).ge k hm;omega)) HP.out;obtain⟨x0,x0'⟩:=HEN.out.eng.e0;clear hW4 hbx hgb2 f0 f1 f1' f1'2 f1b f1w hcv hk0 hq0 e1 e1' e1w hD2 hw2 hff2 HX2 HD HWF HFF hcap hmax;rename World=>w2
 by_cases h0:k=0
 ·subst h0;have HWK:Hid (zQ p P1.g 0 a=(0,kR P1.g P1.g.now a)):=by unfold Hid zQ;rw [if_pos rfl]
  go_wp2_with (first
   | (go_at_call 159;(with_reducible refine(engPush_new HEN.out.own HEN.out.eng HT1.out HR1.out a hq1 _).mono ?_);rintro e w5 ⟨rfl,t5⟩))
  go_end0;obtain⟨e9,d9⟩:=kV HD2.out HWK.out C4.out BL4.out (Did.of t5);rw [e9];exact⟨jM.symm,d9⟩
 have T0:(k == 0)=false:=beq_false_of_ne h0;by_cases h1:k=1
 ·subst h1;have HWK:Hid (zQ p P1.g 1 a=(0,popG P1.g)):=by unfold Hid zQ;simp
  have hst:1≤(curX P1.g).stack.length:=by have h:=HW2.out;unfold zV at h;simpa using h
  have HST:=eH hst
  go_wp2_with (first
   | (go_at_call 160;(with_reducible refine(zFy HEN.out.own HEN.out.eng HT1.out 1 HST.out 1 rfl).mono ?_);rintro e w5 ⟨v1,rfl,_,t5⟩;rw [leave_one] at t5))
  go_end0;obtain⟨e9,d9⟩:=kV HD2.out HWK.out C4.out BL4.out (Did.of t5);rw [e9];exact⟨jM.symm,d9⟩
 have T1:(k == 1)=false:=beq_false_of_ne h1;by_cases h2:k=2
 ·subst h2;have hfit:0≤a∧a<(curX P1.g).locals.length:=by have h:=HW2.out;unfold zV at h;simpa using h
  obtain⟨an,han⟩:∃n:Nat,a=n:=⟨a.toNat,by omega⟩
  subst han;have hcx:=uS HS1.out HNW1.out;rw [hcx] at hfit;have hxl:an<x1.f.locals.length:=by omega
  have hxO:=((HO.out).fs y1 (by rw [(HS1.out).fs];simp)).fr x1 (by rw [(HS1.out).fr];simp);obtain⟨al9,cl9,ex,hcl,_⟩:=hxO.l.shape;have hlr:=hxO.l;rw [ex] at hlr;obtain⟨gl,ol,rfl,_,hcells⟩:=hlr.cell (by omega);have z0:=(hcells an (by omega)).1;rw [vL _ _ hxl] at z0;obtain⟨u,hu⟩:∃u,x1.f.locals.getD an 0=u:=⟨_,rfl⟩
  have hui:I64 u:=by rw [←hu,List.getD_eq_getElem?_getD,List.getElem?_eq_getElem hxl];exact hxO.i.2.2.1 _ (List.getElem_mem _)
  rw [hu] at z0;have HWK:Hid (zQ p P1.g 2 an=(0,kR P1.g P1.g.now u)):=by unfold Hid zQ;rw [if_neg (by decide),if_neg (by decide),if_pos rfl,Int.toNat_natCast,hcx,hu]
  obtain⟨g',o',cap',hv',_,_,_,_,⟨x2,_⟩,_,_⟩:=(HO.out).spot HS1.out;rw [HYV1.out] at hv';simp only [Value.slice.injEq,Option.some.injEq,Addr.mk.injEq] at hv';obtain⟨⟨rfl,rfl,-⟩,-,rfl⟩:=hv';rw [ex] at x2;clear hxO hlr hcells hcx ex hu
  go_upto_region 10 with fail
  refine qD (fun w'=>w'.cell? ⟨g,o+F.length * 4+2,none⟩=some (.slice (some ⟨gl,ol,none⟩) x1.f.locals.length cl9)∧w'.cell? ⟨bx,1,none⟩=some (.int .i64 an)∧w'.cell? ⟨gl,ol+an,none⟩=some (.int .i64 u)) 10 [0,1,2,3,4,5,6,7,8] [9,10] (by kernel_rfl) (by kernel_rfl) (fun _ _ _ _ _ h=>h) (by exact⟨x2,hb1,z0⟩) ?_
  (try simp only [zH,List.filterMap_cons,List.filterMap_nil,xO,xP])
  repeat (
   refine zN (by rfl) ?_;apply Exists.intro;refine⟨fun w' hw'=>?_,?_⟩
   focus
    (try dsimp only at hw')
    go_split_ands;go_simp
    (try with_reducible rfl)
   (try dsimp only [Act.put])
   (try simp only [xL,xM,xN]))
  refine zL ?_;refine zC ?_
  go_wp2_with fail
  refine zD (by refine⟨?_,?_,?_⟩<;>simp [*]) ?_;refine zC ?_
  go_wp2_with (first
   | (go_at_call 159;(with_reducible refine(uG (HEN.out.own.ext (by ((repeat first|assumption|exact eR _|exact And.left (by assumption)|apply eA|apply eD|apply eN|refine eS ?_ (by simp<;>omega) _|refine eT ?_ (by assumption));done))) (HEN.out.eng.ext (by ((repeat first|assumption|exact eR _|exact And.left (by assumption)|apply eA|apply eD|apply eN|refine eS ?_ (by simp<;>omega) _|refine eT ?_ (by assumption));done))) HT1.out HR1.out u hui (by simp)).mono ?_);rintro e w5 ⟨rfl,t5⟩))
  refine zS ?_;go_end0;obtain⟨e9,d9⟩:=kV HD2.out HWK.out C4.out BL4.out (Did.of (Turn.pre (show Ext w2 (w2.alloc (.cells #[.int .i64 u] 3)).drew by ((repeat first|assumption|exact eR _|exact And.left (by assumption)|apply eA|apply eD|apply eN|refine eS ?_ (by simp<;>omega) _|refine eT ?_ (by assumption));done)) t5));rw [e9];exact⟨jM.symm,d9⟩
 have T2:(k == 2)=false:=beq_false_of_ne h2;by_cases h3:k=3
 ·subst h3;have hfit:0≤a∧a<(curX P1.g).locals.length∧1≤(curX P1.g).stack.length:=by have h:=HW2.out;unfold zV at h;simpa using h
  obtain⟨an,han⟩:∃n:Nat,a=n:=⟨a.toNat,by omega⟩
  subst han;have hcx:=uS HS1.out HNW1.out;have hlv:zR P1.g=x1.f.stack.getD (x1.f.stack.length - 1) 0:=by unfold zR;rw [hcx]
  have hLI:=HO.out.lastI HT1.out hfit.2.2;rw [hcx] at hfit;rw [hlv] at hLI;have hxl:an<x1.f.locals.length:=by omega
  have hst1:1≤x1.f.stack.length:=hfit.2.2;have hxO:=((HO.out).fs y1 (by rw [(HS1.out).fs];simp)).fr x1 (by rw [(HS1.out).fr];simp);obtain⟨al9,cl9,ex,hcl,_⟩:=hxO.l.shape;have hlr:=hxO.l;rw [ex] at hlr;obtain⟨gl,ol,rfl,_,hcells⟩:=hlr.cell (by omega);have z0:=hcells an (by omega);rw [vL _ _ hxl] at z0;have HWK:Hid (zQ p P1.g 3 an=(0,kT (popG P1.g) P1.g.now fun x=>{ x with locals:=x.locals.set an (zR P1.g) })):=by unfold Hid zQ;simp
  obtain⟨g',o',cap',hv',_,_,_,_,⟨x2,_⟩,_,_⟩:=(HO.out).spot HS1.out;rw [HYV1.out] at hv';simp only [Value.slice.injEq,Option.some.injEq,Addr.mk.injEq] at hv';obtain⟨⟨rfl,rfl,-⟩,-,rfl⟩:=hv';rw [ex] at x2;have HEX:=eH ex;have HLV:=eH hlv;have HST1:=eH hst1;have HCX:=eH hcx;have Z0:=eH z0;have HSEP:=eH ((HO.out).sep HS1.out);obtain⟨z1,-⟩:=z0;clear hxO hlr hcells hcx ex hlv hst1 hfit
  go_upto_region 12 with fail
  refine qD (fun w'=>w'.cell? ⟨g,o+F.length * 4+2,none⟩=some (.slice (some ⟨gl,ol,none⟩) x1.f.locals.length cl9)∧w'.cell? ⟨bx,1,none⟩=some (.int .i64 an)) 9 [0,1,2,3,4,5,6] [7,8,9] (by kernel_rfl) (by kernel_rfl) (fun _ _ _ _ _ h=>h) (by exact⟨x2,hb1⟩) ?_
  (try simp only [zH,List.filterMap_cons,List.filterMap_nil,xO,xP])
  repeat (
   refine zN (by rfl) ?_;apply Exists.intro;refine⟨fun w' hw'=>?_,?_⟩
   focus
    (try dsimp only at hw')
    go_split_ands;go_simp
    (try with_reducible rfl)
   (try dsimp only [Act.put])
   (try simp only [xL,xM,xN]))
  refine zL ?_;refine zC ?_
  go_wp2_with (first
   | (go_at_call 161;(with_reducible refine(engOne_at (HEN.out.own.ext (eR _).drew) (HEN.out.eng.ext (eR _).drew) HS1.out HNW1.out HST1.out).mono ?_);rintro e w5 ⟨rfl,⟨v2,o5,hb5⟩,c5⟩))
  have HO5:=eH o5;have HC5:=eH c5;have HB5:=eH hb5;have hs5:Spot (qT P1 L y1 R F ⟨{ x1.f with stack:=x1.f.stack.dropLast },x1.vl,v2⟩) L { y1 with fr:=F++[⟨{ x1.f with stack:=x1.f.stack.dropLast },x1.vl,v2⟩] } R F ⟨{ x1.f with stack:=x1.f.stack.dropLast },x1.vl,v2⟩:=⟨rfl,rfl⟩
  obtain⟨g5,o5',cap5,hv5,_,_,_,_,⟨q2,_⟩,_,_⟩:=o5.spot hs5;have hv5:y1.vf=.slice (some ⟨g5,o5',none⟩) (F++[(⟨{ x1.f with stack:=x1.f.stack.dropLast },x1.vl,v2⟩:PFrame)]).length cap5:=hv5;rw [HYV1.out] at hv5;simp only [Value.slice.injEq,Option.some.injEq,Addr.mk.injEq] at hv5;obtain⟨⟨rfl,rfl,-⟩,-,rfl⟩:=hv5;have q2:w5.cell? ⟨g,o+F.length * 4+2,none⟩=some x1.vl:=q2;rw [HEX.out] at q2;have hrl:zB x1.vl=some gl:=by rw [HEX.out];exact zK _ _ _ _ (by have:=hxl;intro e;omega)
  have hgl5:¬(zB y1.vf=some gl∨zB x1.vs=some gl):=by
   rintro (e | e)
   ·exact HSEP.out.1 gl e (by unfold PFrame.bl;simp [hrl])
   ·exact HSEP.out.2.1 gl hrl e
  obtain⟨z5,z5'⟩:=(Cx.ext (W:=w2) Z0.out (eR w2).drew).chg c5 hgl5;have hb15:w5.cell? ⟨bx,1,none⟩=some (.int .i64 an):=Chg.cell c5 (fun e=>HBX.out (List.mem_cons_of_mem _ (HS1.out.bl (e.imp id (fun e=>by unfold PFrame.bl;simp [e]))))) (by simpa using hb1);clear o5 c5 hb5;refine zD (by exact⟨q2,hb15⟩) ?_;refine zC ?_
  go_wp2_with fail
  refine zD (by exact⟨q2,hb15⟩) ?_;refine zC ?_
  go_wp2_with fail
  refine zS ?_;go_end0;obtain⟨o9,c9⟩:=(HO5.out).setLocal hs5 HEX.out an hxl _ hLI;have hpop:popG P1.g=(qT P1 L y1 R F ⟨{ x1.f with stack:=x1.f.stack.dropLast },x1.vl,v2⟩).g:=qC HS1.out HNW1.out rfl;have tt:Turn w5 (w5.setCell ⟨gl,ol+an,none⟩ (.int .i64 (x1.f.stack.getD (x1.f.stack.length - 1) 0))) B b (qT P1 L y1 R F ⟨{ x1.f with stack:=x1.f.stack.dropLast },x1.vl,v2⟩) (kT (popG P1.g) P1.g.now fun x=>{ x with locals:=x.locals.set an (zR P1.g) }):=by
   refine⟨⟨_,o9,?_,yO hs5 (fun k hk=>.inl hk)⟩,c9⟩;rw [hpop,HLV.out];exact(qC hs5 (show P1.g.now=_ from HNW1.out) rfl).symm
  obtain⟨e9,d9⟩:=kV HD2.out HWK.out C4.out BL4.out (Did.of (Turn.pre (eR w2).drew (Turn.step (uT HS1.out HC5.out) (yO HS1.out (uP (.inl HB5.out))) tt)));rw [e9];exact⟨jM.symm,d9⟩
 have T3:(k == 3)=false:=beq_false_of_ne h3;by_cases h4:k=4
 ·subst h4;have HWK:Hid (zQ p P1.g 4 a=(0,kR (popG (popG P1.g)) P1.g.now (yP 4 (zR (popG P1.g)) (zR P1.g)))):=by unfold Hid zQ;simp
  have hst:2≤(curX P1.g).stack.length:=by have h:=HW2.out;unfold zV at h;simpa using h
  have HST:=eH hst
  go_wp2_with (first
   | (go_at_call 162;(with_reducible refine(zBy 4 163 (fun _ _=>rfl) clos4 (fun _ _=>zCw _ _ _) HEN.out HT1.out HR1.out HST.out).mono ?_);rintro e w5 ⟨rfl,t5⟩))
  go_end0;obtain⟨e9,d9⟩:=kV HD2.out HWK.out C4.out BL4.out (Did.of t5);rw [e9];exact⟨jM.symm,d9⟩
 have T4:(k == 4)=false:=beq_false_of_ne h4;by_cases h5:k=5
 ·subst h5;have HWK:Hid (zQ p P1.g 5 a=(0,kR (popG (popG P1.g)) P1.g.now (yP 5 (zR (popG P1.g)) (zR P1.g)))):=by unfold Hid zQ;simp
  have hst:2≤(curX P1.g).stack.length:=by have h:=HW2.out;unfold zV at h;simpa using h
  have HST:=eH hst
  go_wp2_with (first
   | (go_at_call 162;(with_reducible refine(zBy 5 164 (fun _ _=>rfl) clos5 (fun _ _=>zCw _ _ _) HEN.out HT1.out HR1.out HST.out).mono ?_);rintro e w5 ⟨rfl,t5⟩))
  go_end0;obtain⟨e9,d9⟩:=kV HD2.out HWK.out C4.out BL4.out (Did.of t5);rw [e9];exact⟨jM.symm,d9⟩
 have T5:(k == 5)=false:=beq_false_of_ne h5;by_cases h6:k=6
 ·subst h6;have HWK:Hid (zQ p P1.g 6 a=(0,kR (popG (popG P1.g)) P1.g.now (yP 6 (zR (popG P1.g)) (zR P1.g)))):=by unfold Hid zQ;simp
  have hst:2≤(curX P1.g).stack.length:=by have h:=HW2.out;unfold zV at h;simpa using h
  have HST:=eH hst
  go_wp2_with (first
   | (go_at_call 162;(with_reducible refine(zBy 6 165 (fun _ _=>rfl) clos6 (fun _ _=>zCw _ _ _) HEN.out HT1.out HR1.out HST.out).mono ?_);rintro e w5 ⟨rfl,t5⟩))
  go_end0;obtain⟨e9,d9⟩:=kV HD2.out HWK.out C4.out BL4.out (Did.of t5);rw [e9];exact⟨jM.symm,d9⟩
 have T6:(k == 6)=false:=beq_false_of_ne h6;by_cases h7:k=7
 ·subst h7;have HWK:Hid (zQ p P1.g 7 a=(0,kR (popG (popG P1.g)) P1.g.now (yP 7 (zR (popG P1.g)) (zR P1.g)))):=by unfold Hid zQ;simp
  have hst:2≤(curX P1.g).stack.length:=by have h:=HW2.out;unfold zV at h;simpa using h
  have HST:=eH hst
  go_wp2_with (first
   | (go_at_call 162;(with_reducible refine(zBy 7 166 (fun _ _=>rfl) clos7 (fun _ _=>zCw _ _ _) HEN.out HT1.out HR1.out HST.out).mono ?_);rintro e w5 ⟨rfl,t5⟩))
  go_end0;obtain⟨e9,d9⟩:=kV HD2.out HWK.out C4.out BL4.out (Did.of t5);rw [e9];exact⟨jM.symm,d9⟩
 have T7:(k == 7)=false:=beq_false_of_ne h7;by_cases h8:k=8
 ·subst h8;have HWK:Hid (zQ p P1.g 8 a=(0,kR (popG (popG P1.g)) P1.g.now (yP 8 (zR (popG P1.g)) (zR P1.g)))):=by unfold Hid zQ;simp
  have hst:2≤(curX P1.g).stack.length:=by have h:=HW2.out;unfold zV at h;simpa using h
  have HST:=eH hst
  go_wp2_with (first
   | (go_at_call 162;(with_reducible refine(zBy 8 168 (fun _ _=>rfl) clos8 (fun _ _=>zCw _ _ _) HEN.out HT1.out HR1.out HST.out).mono ?_);rintro e w5 ⟨rfl,t5⟩))
  go_end0;obtain⟨e9,d9⟩:=kV HD2.out HWK.out C4.out BL4.out (Did.of t5);rw [e9];exact⟨jM.symm,d9⟩
 have T8:(k == 8)=false:=beq_false_of_ne h8;by_cases h9:k=9
 ·subst h9;have HWK:Hid (zQ p P1.g 9 a=(0,zDm P1.g a)):=by unfold Hid zQ;simp
  obtain⟨g',o',cap',hv',_,_,_,⟨x2,x2'⟩,_,_,_⟩:=(HO.out).spot HS1.out;rw [HYV1.out] at hv';simp only [Value.slice.injEq,Option.some.injEq,Addr.mk.injEq] at hv';obtain⟨⟨rfl,rfl,-⟩,-,rfl⟩:=hv'
  go_wp2_with fail
  go_end0;obtain⟨e9,d9⟩:=kV HD2.out HWK.out C4.out BL4.out (Did.of (let h9:=(HO.out).setAt HS1.out HYV1.out a hq1;⟨⟨_,h9.1,(qC HS1.out HNW1.out rfl).symm,fun k hk=>.inl (zBh (x':=⟨{ x1.f with at_:=a },x1.vl,x1.vs⟩) HS1.out rfl k hk)⟩,h9.2⟩));rw [e9];exact⟨jM.symm,d9⟩
 have T9:(k == 9)=false:=beq_false_of_ne h9;by_cases h10:k=10
 ·subst h10;have hst:1≤(curX P1.g).stack.length:=by have h:=HW2.out;unfold zV at h;simpa using h
  have hcx:=uS HS1.out HNW1.out;have hlv:zR P1.g=x1.f.stack.getD (x1.f.stack.length - 1) 0:=by unfold zR;rw [hcx]
  rw [hcx] at hst;have HWK:Hid (zQ p P1.g 10 a=(0,if x1.f.stack.getD (x1.f.stack.length - 1) 0=0 then zDm (popG P1.g) a else popG P1.g)):=by unfold Hid zQ;rw [hlv];simp
  have HST1:=eH hst;clear hst hcx hlv;generalize hu:x1.f.stack.getD (x1.f.stack.length - 1) 0=u at *;have HU:=eH hu;clear hu
  go_upto_if 101 with (first
   | (go_at_call 161;(with_reducible refine(engOne_at HEN.out.own HEN.out.eng HS1.out HNW1.out HST1.out).mono ?_);rintro e w5 ⟨rfl,⟨v2,o5,hb5⟩,c5⟩;rw [HU.out]))
  have HO5:=eH o5;have HC5:=eH c5;have HB5:=eH hb5;have hs5:Spot (qT P1 L y1 R F ⟨{ x1.f with stack:=x1.f.stack.dropLast },x1.vl,v2⟩) L { y1 with fr:=F++[⟨{ x1.f with stack:=x1.f.stack.dropLast },x1.vl,v2⟩] } R F ⟨{ x1.f with stack:=x1.f.stack.dropLast },x1.vl,v2⟩:=⟨rfl,rfl⟩
  have HS5:=eH hs5;have hpop:popG P1.g=(qT P1 L y1 R F ⟨{ x1.f with stack:=x1.f.stack.dropLast },x1.vl,v2⟩).g:=qC HS1.out HNW1.out rfl;have HPOP:=eH hpop;obtain⟨g5,o5',cap5,hv5,_,_,_,⟨q1,q1'⟩,_,_,_⟩:=o5.spot hs5;have hv5:y1.vf=.slice (some ⟨g5,o5',none⟩) (F++[(⟨{ x1.f with stack:=x1.f.stack.dropLast },x1.vl,v2⟩:PFrame)]).length cap5:=hv5;rw [HYV1.out] at hv5;simp only [Value.slice.injEq,Option.some.injEq,Addr.mk.injEq] at hv5;obtain⟨⟨rfl,rfl,-⟩,-,rfl⟩:=hv5;have hb15:w5.cell? ⟨bx,1,none⟩=some (.int .i64 a):=Chg.cell c5 (fun e=>HBX.out (List.mem_cons_of_mem _ (HS1.out.bl (e.imp id (fun e=>by unfold PFrame.bl;simp [e]))))) hb1;clear o5 c5 hb5 hs5 hpop;by_cases hu:u=0
  ·have TU:(u == 0)=true:=by simpa using hu
   have TU':decide (u=0)=true:=decide_eq_true hu;have hwk:=HWK.out;rw [if_pos hu] at hwk;have HWK2:=eH hwk;clear hwk hu
   go_wp2_with fail
   go_end0;obtain⟨o9,c9⟩:=(HO5.out).setAt HS5.out (show PFiber.vf { y1 with fr:=F++[⟨{ x1.f with stack:=x1.f.stack.dropLast },x1.vl,v2⟩] }=.slice (some ⟨g,o,none⟩) (F++[x1]).length cap from HYV1.out) a hq1;have tt:Turn w5 (w5.setCell ⟨g,o+F.length * 4+1,none⟩ (.int .i64 a)) B b (qT P1 L y1 R F ⟨{ x1.f with stack:=x1.f.stack.dropLast },x1.vl,v2⟩) (zDm (popG P1.g) a):=by
    refine⟨⟨_,o9,?_,yO HS5.out (fun k hk=>.inl hk)⟩,c9⟩;rw [HPOP.out];exact(qC HS5.out (show P1.g.now=_ from HNW1.out) rfl).symm
   obtain⟨e9,d9⟩:=kV HD2.out HWK2.out C4.out BL4.out (Did.of (Turn.step (uT HS1.out HC5.out) (yO HS1.out (uP (.inl HB5.out))) tt));rw [e9];exact⟨jM.symm,d9⟩
  ·have TU:(u == 0)=false:=beq_false_of_ne hu;have TU':decide (u=0)=false:=decide_eq_false hu;have hwk:=HWK.out;rw [if_neg hu] at hwk;have HWK2:=eH hwk;clear hwk hu
   go_wp2_with fail
   go_end0;obtain⟨e9,d9⟩:=kV HD2.out HWK2.out C4.out BL4.out (Did.of ⟨⟨_,HO5.out,HPOP.out.symm,yO HS1.out (uP (.inl HB5.out))⟩,uT HS1.out HC5.out⟩);rw [e9];exact⟨jM.symm,d9⟩
 have T10:(k == 10)=false:=beq_false_of_ne h10;have hk11:11≤k∧k≤16:=by have:=HKK.out;omega
 obtain⟨r,hwr⟩:∃r,zQ p P1.g k a=r:=⟨_,rfl⟩
 have HWR:=eH hwr;have hdr:∀w9,Did w2 w9 B b P1 r→Did w w9 B b P (kF p P.g):=fun w9 d=>(kV HD2.out HWR.out C4.out BL4.out d).2
 have hd1:(kF p P.g).1=r.1:=by rw [HD2.out,HWR.out]
 have HDR:=eH hdr;have HD1:=eH hd1;clear hwr hdr hd1;obtain⟨r1,hr1⟩:∃r1,r.1=r1:=⟨_,rfl⟩
 have HRR:=eH hr1;clear hr1;by_cases hz:r1=0
 ·have HZ:Hid (endS r1=.returned (.tuple #[])):=by unfold Hid endS;rw [if_pos hz]
  clear hz
  go_wp2_with (first
   | (go_at_call 169;(with_reducible refine(engFar_any k a HEN.out HPL.out HT1.out HR1.out HW2.out HFF2.out hk11).mono ?_);rintro e w5 ⟨he,d5⟩;rw [HWR.out,HRR.out,HZ.out] at he;rw [HWR.out] at d5;subst he))
  go_end0;rw [HD1.out,HRR.out,HZ.out];exact⟨rfl,HDR.out _ d5⟩
 ·have HZ:Hid (endS r1=.panicked (yU r1)):=by unfold Hid endS;rw [if_neg hz]
  clear hz
  go_wp2_with (first
   | (go_at_call 169;(with_reducible refine(engFar_any k a HEN.out HPL.out HT1.out HR1.out HW2.out HFF2.out hk11).mono ?_);rintro e w5 ⟨he,d5⟩;rw [HWR.out,HRR.out,HZ.out] at he;rw [HWR.out] at d5;subst he))
  rw [HD1.out,HRR.out,HZ.out];exact⟨rfl,rfl,HDR.out _ d5⟩
end Go.Proofs.YtpcjkfppacnkgaaGreatDoor
end
section
namespace Go.Proofs.YtpcjkfppacnkgaaGreatDoor
open Go Go.RowKit
instance:Inhabited PFrame:=⟨⟨default,.slice none 0 0,.slice none 0 0⟩⟩
instance:Inhabited PFiber:=⟨⟨[],0,.slice none 0 0⟩⟩
theorem Sl.srcM {α:Type} {E:Nat→Nat→α→Prop} {sz bytes:Nat} {v:Value} {l:List α} {w:World} (f:α→List Value) (h:Sl E sz bytes v l) (hf:∀y,(f y).length=sz)
  (h1:∀b o y,E b o y→∀u∈f y,u.oneCell'=true) (hE:∀b o y,E b o y→∀j u,(f y)[j]?=some u→w.cell? ⟨b,o+j,none⟩=some u):qL w sz v l.length (l.flatMap f):=by
 have hlen:=zBu f hf l;obtain⟨a,cap,rfl,h2,h3,h4⟩:=h;refine⟨a,cap,rfl,hlen,?_,?_⟩
 ·intro u hu;obtain⟨y,hyl,hy⟩:=List.mem_flatMap.1 hu;obtain⟨i,hi,rfl⟩:=List.getElem_of_mem hyl;obtain⟨b,o,_,he⟩:=h4 i hi;exact h1 _ _ _ he u hy
 ·by_cases h0:l.length=0
  ·exact .inl h0
  ·right;obtain⟨b,o,rfl,_⟩:=h4 0 (by omega);refine⟨_,rfl,fun j u hj=>?_⟩;have key:∀(l:List α) (j:Nat) (u:Value),(l.flatMap f)[j]?=some u→∃i r,∃h:i<l.length,j=i * sz+r∧(f l[i])[r]?=some u:=by
    intro l
    induction l with
    | nil=>intro j u h;simp at h
    | cons y l ih =>
     intro j u h;rw [List.flatMap_cons] at h;by_cases hj:j<sz
     ·rw [List.getElem?_append_left (by rw [hf];exact hj)] at h;exact⟨0,j,by simp,by simp,h⟩
     ·rw [List.getElem?_append_right (by rw [hf];omega),hf] at h;obtain⟨i,r,hi,e,hu⟩:=ih _ _ h;exact⟨i+1,r,by simpa using hi,by rw [Nat.add_mul];omega,by simpa using hu⟩
   obtain⟨i,r,hi,rfl,hu⟩:=key l j u hj;obtain⟨b',o',e,hE'⟩:=h4 i hi;simp only [Option.some.injEq,Addr.mk.injEq] at e;obtain⟨rfl,rfl,_⟩:=e;have:=hE _ _ _ hE' r u hu;rw [Addr.add_lit,←Nat.add_assoc];exact this
theorem Sl.choose {α β:Type} [Inhabited β] {E:Nat→Nat→α→Prop} {R:Nat→Nat→α→β→Prop} {sz bytes:Nat} {v:Value} {l:List α} (h:Sl E sz bytes v l) (hR:∀b o x,E b o x→∃y,R b o x y) :
  ∃ys:List β,ys.length=l.length∧Sl (fun b o y=>∃x,R b o x y) sz bytes v ys∧∀i (hi:i<l.length),∃b o,R b o l[i] (ys.getD i default):=by
 obtain⟨a,cap,rfl,h1,h2,h3⟩:=h;have key:∀i,i<l.length→∃y:β,∀hi:i<l.length,∃b o,a=some ⟨b,o,none⟩∧R b (o+i * sz) l[i] y:=fun i hi=>by
  obtain⟨b,o,e,he⟩:=h3 i hi;obtain⟨y,hy⟩:=hR _ _ _ he;exact⟨y,fun _=>⟨b,o,e,hy⟩⟩
 obtain⟨Z,hZ⟩:=Go.Deep.choose_lt key;refine⟨(List.range l.length).map Z,by simp,⟨a,cap,by simp,by simpa using h1,by simpa using h2,fun i hi=>?_⟩,fun i hi=>?_⟩
 ·have hi':i<l.length:=by simpa using hi
  obtain⟨b,o,e,hr⟩:=hZ i hi' hi';exact⟨b,o,e,l[i],by simpa using hr⟩
 ·obtain⟨b,o,e,hr⟩:=hZ i hi hi;refine⟨b,o+i * sz,?_⟩;simpa [List.getD,List.getElem?_eq_getElem,hi] using hr
def RawB (w:World) (T:Nat→Prop) (b o:Nat) (x:GFiber) (y:PFiber):Prop :=
 w.cell? ⟨b,o,none⟩=some y.vf∧w.cell? ⟨b,o+1,none⟩=some (.int .i64 y.caller)∧vX w T y.vf x.frames∧y.caller=x.caller∧I64 x.caller
theorem zAi.raw {w:World} {T:Nat→Prop} {v:Value} {l:List GFiber} (h:zAi w T v l) :
  ∃ys:List PFiber,ys.length=l.length∧qL w 2 v l.length (ys.flatMap kK)∧∀i (hi:i<l.length),vX w T (ys.getD i default).vf l[i].frames∧(ys.getD i default).caller=l[i].caller∧I64 l[i].caller:=by
 obtain⟨ys,hl,hs,hr⟩:=Sl.choose (R:=RawB w T) h (fun b o x ⟨⟨v,h1,h2⟩,h3⟩=>⟨⟨[],x.caller,v⟩,h1,h3.2.1,h2,rfl,h3.2.2⟩);refine⟨ys,hl,?_,fun i hi=>?_⟩
 ·rw [←hl];refine Sl.srcM kK hs (fun _=>rfl) (fun b o y ⟨x,h1,h2,⟨a,c,e,_⟩,_⟩ u hu=>?_) (fun b o y ⟨x,h1,h2,_⟩ j u hj=>?_)
  ·simp only [kK,List.mem_cons,List.not_mem_nil,or_false] at hu;rcases hu with rfl | rfl
   ·rw [e];rfl
   ·rfl
  ·match j,hj with
   | 0,hj=>cases hj;exact h1
   | 1,hj=>cases hj;exact h2
 ·obtain⟨b,o,h1,h2,h3,h4,h5⟩:=hr i hi;exact⟨h3,h4,h5⟩
def RawF (w:World) (T:Nat→Prop) (b o:Nat) (x:GFrame) (y:PFrame):Prop :=
 w.cell? ⟨b,o,none⟩=some (.int .i64 y.f.func)∧w.cell? ⟨b,o+1,none⟩=some (.int .i64 y.f.at_)∧w.cell? ⟨b,o+2,none⟩=some y.vl∧w.cell? ⟨b,o+3,none⟩=some y.vs∧zAh w T (.agg #[.int .i64 x.func,.int .i64 x.at_,y.vl,y.vs]) x∧y.f=x
theorem vX.raw {w:World} {T:Nat→Prop} {v:Value} {l:List GFrame} (h:vX w T v l) :
  ∃ys:List PFrame,ys.length=l.length∧qL w 4 v l.length (ys.flatMap frameF)∧∀i (hi:i<l.length),zAh w T (.agg #[.int .i64 l[i].func,.int .i64 l[i].at_,(ys.getD i default).vl,(ys.getD i default).vs]) l[i]∧(ys.getD i default).f=l[i]:=by
 obtain⟨ys,hl,hs,hr⟩:=Sl.choose (R:=RawF w T) h (fun b o x ⟨i0,i1,⟨v,h1,h2⟩,u,h3,h4⟩=>⟨⟨x,v,u⟩,i0.2.1,i1.2.1,h1,h3,⟨v,u,rfl,i0.2.2,i1.2.2,h2,h4⟩,rfl⟩);refine⟨ys,hl,?_,fun i hi=>?_⟩
 ·rw [←hl];refine Sl.srcM frameF hs (fun _=>rfl) (fun b o y ⟨x,h1,h2,h3,h4,⟨s,t,e,_,_,⟨a,c,e1,_⟩,⟨a',c',e2,_⟩⟩,_⟩ u hu=>?_) (fun b o y ⟨x,h1,h2,h3,h4,_⟩ j u hj=>?_)
  ·simp only [Value.agg.injEq,Array.mk.injEq,List.cons.injEq,and_true,true_and] at e;obtain⟨e3,e4⟩:=e;simp only [frameF,List.mem_cons,List.not_mem_nil,or_false] at hu;rcases hu with rfl | rfl | rfl | rfl
   ·rfl
   ·rfl
   ·rw [e3,e1];rfl
   ·rw [e4,e2];rfl
  ·match j,hj with
   | 0,hj=>cases hj;exact h1
   | 1,hj=>cases hj;exact h2
   | 2,hj=>cases hj;exact h3
   | 3,hj=>cases hj;exact h4
 ·obtain⟨b,o,_,_,_,_,h5,h6⟩:=hr i hi;exact⟨h5,h6⟩
structure MidF (W:World) (B:Nat) (v:Value) (dn rs:List PFrame):Prop where
 row:RowAt W B 4 v (dn++rs).length ((dn++rs).flatMap frameF)
 fr:∀x∈dn,FrameO W B x
 nodup:((zB v).toList++dn.flatMap PFrame.bl).Nodup
structure MidB (W:World) (B:Nat) (v:Value) (dn rs:List PFiber):Prop where
 row:RowAt W B 2 v (dn++rs).length ((dn++rs).flatMap kK)
 fs:∀y∈dn,FiberO W B y
 nodup:((zB v).toList++dn.flatMap PFiber.bl).Nodup
theorem MidF.chg {M:Nat→Prop} {W W':World} {B:Nat} {v:Value} {dn rs:List PFrame} (h:MidF W B v dn rs) (hc:Chg M W W') (hM:∀g,B≤g→¬M g):MidF W' B v dn rs :=
 ⟨h.row.chg hc (fun g hg=>hM g (h.row.le g hg)) (by decide),fun x hx=>(h.fr x hx).chg hc (fun g hg=>hM g (by
  have hx':=h.fr x hx;unfold PFrame.bl at hg;rcases List.mem_append.1 hg with h1 | h1
  ·exact hx'.l.le g (by simpa using h1)
  ·exact hx'.s.le g (by simpa using h1))),h.nodup⟩
theorem MidF.new {W:World} {B:Nat} {v:Value} {rs:List PFrame} (h:RowAt W B 4 v rs.length (rs.flatMap frameF)):MidF W B v [] rs :=
 ⟨h,(fun x hx=>by cases hx),by cases zB v<;>simp⟩
theorem MidB.new {W:World} {B:Nat} {v:Value} {rs:List PFiber} (h:RowAt W B 2 v rs.length (rs.flatMap kK)):MidB W B v [] rs :=
 ⟨h,(fun x hx=>by cases hx),by cases zB v<;>simp⟩
theorem MidF.step {wr W1 W2:World} {B g o n cap:Nat} {dn rs:List PFrame} {x:PFrame} {v1 v2:Value} (h:MidF wr B (.slice (some ⟨g,o,none⟩) n cap) dn (x::rs)) (hB:B≤wr.heap.size) (h1:Ext wr W1) (h2:Ext W1 W2)
  (r1:RowAt W1 wr.heap.size 1 v1 x.f.locals.length (ints x.f.locals)) (r2:RowAt W2 W1.heap.size 1 v2 x.f.stack.length (ints x.f.stack))
  (hI:I64 x.f.func∧I64 x.f.at_∧(∀k∈x.f.locals,I64 k)∧∀k∈x.f.stack,I64 k) (hf:x.f.locals.length≤900∧x.f.stack.length≤900) :
  MidF ((W2.setCell ⟨g,o+dn.length * 4+2,none⟩ v1).setCell ⟨g,o+dn.length * 4+3,none⟩ v2) B (.slice (some ⟨g,o,none⟩) n cap) (dn++[⟨x.f,v1,v2⟩]) rs ∧
   Chg (·=g) wr ((W2.setCell ⟨g,o+dn.length * 4+2,none⟩ v1).setCell ⟨g,o+dn.length * 4+3,none⟩ v2):=by
 have hE:=h1.trans h2;obtain⟨g',o',cap',e,hbl,_,_,_⟩:=RowAt.place frameF (fun _=>rfl) h.row;simp only [Value.slice.injEq,Option.some.injEq,Addr.mk.injEq] at e;obtain⟨⟨rfl,rfl,-⟩,-,rfl⟩:=e;have hgl:g<wr.heap.size:=h.row.lt2 (by decide) g hbl;have hc:Chg (·=g) W2 ((W2.setCell ⟨g,o+dn.length * 4+2,none⟩ v1).setCell ⟨g,o+dn.length * 4+3,none⟩ v2):=(zO _ _ _ _).trans (zO _ _ _ _);have hcw:Chg (·=g) wr ((W2.setCell ⟨g,o+dn.length * 4+2,none⟩ v1).setCell ⟨g,o+dn.length * 4+3,none⟩ v2):=(Chg.of_ext hE).trans hc;have b1:∀k,zB v1=some k→wr.heap.size≤k∧k<W1.heap.size:=fun k hk=>⟨r1.le k hk,r1.lt2 (by decide) k hk⟩
 have b2:∀k,zB v2=some k→W1.heap.size≤k:=fun k hk=>r2.le k hk
 have hs1:=h1.size;refine⟨⟨?_,fun z hz=>?_,?_⟩,hcw⟩
 ·have e1:=(h.row.ext hE (by decide)).storeAt frameF (fun _=>rfl) (L:=dn) (y:=x) (y':=⟨x.f,v1,x.vs⟩) (R:=rs) (r:=2) (by decide) (u:=v1) rfl;have e2:=e1.storeAt frameF (fun _=>rfl) (L:=dn) (y:=⟨x.f,v1,x.vs⟩) (y':=⟨x.f,v1,v2⟩) (R:=rs) (r:=3) (by decide) (u:=v2) rfl;rw [show dn++[⟨x.f,v1,v2⟩]++rs=dn++⟨x.f,v1,v2⟩::rs by simp];exact e2
 ·rcases List.mem_append.1 hz with hz | hz
  ·refine(h.fr z hz).chg hcw fun k hk e=>?_
   have e:k=g:=e;subst e;exact(List.nodup_append.1 h.nodup).2.2 k (by simp [hbl]) k (List.mem_flatMap.2 ⟨z,hz,hk⟩) rfl
  ·obtain rfl:=List.mem_singleton.1 hz;refine⟨hI,?_,?_,by show x.f.locals.length≤1000∧x.f.stack.length≤1000;omega⟩
   ·exact((r1.mono hB).ext h2 (by decide)).chg hc (fun k hk e=>by have e:k=g:=e;have:=b1 k hk;omega) (by decide)
   ·exact(r2.mono (Nat.le_trans hB hs1)).chg hc (fun k hk e=>by have e:k=g:=e;have:=b2 k hk;omega) (by decide)
 ·rw [List.flatMap_append,←List.append_assoc,List.nodup_append];refine⟨h.nodup,?_,fun a ha c hc' e=>?_⟩
  ·simp only [List.flatMap_cons,List.flatMap_nil,List.append_nil];unfold PFrame.bl;rw [List.nodup_append];refine⟨by cases zB v1<;>simp,by cases zB v2<;>simp,fun a ha c hc' e=>?_⟩;subst e;have h3:=b1 a (by simpa using ha);have h4:=b2 a (by simpa using hc');omega
  ·subst e;have hold:a<wr.heap.size:=by
    rcases List.mem_append.1 ha with h3 | h3
    ·exact h.row.lt2 (by decide) a (by simpa using h3)
    ·obtain⟨z,hz,h4⟩:=List.mem_flatMap.1 h3;exact(h.fr z hz).lt a h4
   simp only [List.flatMap_cons,List.flatMap_nil,List.append_nil] at hc';unfold PFrame.bl at hc';rcases List.mem_append.1 hc' with h3 | h3
   ·have:=b1 a (by simpa using h3);omega
   ·have:=b2 a (by simpa using h3);omega
theorem MidF.blocks {W:World} {B:Nat} {v:Value} {dn rs:List PFrame} (h:MidF W B v dn rs):∀k∈(zB v).toList++dn.flatMap PFrame.bl,B≤k:=fun k hk=>by
 rcases List.mem_append.1 hk with h1 | h1
 ·exact h.row.le k (by simpa using h1)
 ·obtain⟨x,hx,h2⟩:=List.mem_flatMap.1 h1;unfold PFrame.bl at h2;rcases List.mem_append.1 h2 with h3 | h3
  ·exact(h.fr x hx).l.le k (by simpa using h3)
  ·exact(h.fr x hx).s.le k (by simpa using h3)
theorem MidB.step {wk wr:World} {B g o n cap:Nat} {dn rs:List PFiber} {y:PFiber} {vf:Value} {xs:List PFrame} (h:MidB wk B (.slice (some ⟨g,o,none⟩) n cap) dn (y::rs)) (hB:B≤wk.heap.size) (hc:Chg (·=g) wk wr)
  (hrow:RowAt wr B 2 (.slice (some ⟨g,o,none⟩) n cap) (dn++⟨[],y.caller,vf⟩::rs).length ((dn++⟨[],y.caller,vf⟩::rs).flatMap kK)) (hm:MidF wr wk.heap.size vf xs []) (hI:I64 y.caller) (hx:xs.length≤900) :
  MidB wr B (.slice (some ⟨g,o,none⟩) n cap) (dn++[⟨xs,y.caller,vf⟩]) rs:=by
 obtain⟨g',o',cap',e,hbl,_,_,_⟩:=RowAt.place kK (fun _=>rfl) h.row;simp only [Value.slice.injEq,Option.some.injEq,Addr.mk.injEq] at e;obtain⟨⟨rfl,rfl,-⟩,-,rfl⟩:=e;have hrow4:=hm.row;rw [List.append_nil] at hrow4;refine⟨?_,fun z hz=>?_,?_⟩
 ·rw [show dn++[⟨xs,y.caller,vf⟩]++rs=dn++⟨xs,y.caller,vf⟩::rs by simp];have e1:(dn++⟨xs,y.caller,vf⟩::rs).flatMap kK=(dn++(⟨[],y.caller,vf⟩:PFiber)::rs).flatMap kK:=by
   rw [List.flatMap_append,List.flatMap_append,List.flatMap_cons,List.flatMap_cons];rfl
  have e2:(dn++⟨xs,y.caller,vf⟩::rs).length=(dn++(⟨[],y.caller,vf⟩:PFiber)::rs).length:=by simp
  rw [e1,e2];exact hrow
 ·rcases List.mem_append.1 hz with hz | hz
  ·refine(h.fs z hz).chg hc fun k hk e=>?_
   have e:k=g:=e;subst e;exact(List.nodup_append.1 h.nodup).2.2 k (by simp [hbl]) k (List.mem_flatMap.2 ⟨z,hz,hk⟩) rfl
  ·obtain rfl:=List.mem_singleton.1 hz;exact⟨hI,hrow4.mono hB,fun u hu=>(hm.fr u hu).mono hB,by show xs.length≤1000;omega⟩
 ·rw [List.flatMap_append,←List.append_assoc,List.nodup_append];refine⟨h.nodup,?_,fun a ha c hc' e=>?_⟩
  ·simp only [List.flatMap_cons,List.flatMap_nil,List.append_nil];exact hm.nodup
  ·subst e;have hold:a<wk.heap.size:=by
    rcases List.mem_append.1 ha with h3 | h3
    ·exact h.row.lt2 (by decide) a (by simpa using h3)
    ·obtain⟨z,hz,h4⟩:=List.mem_flatMap.1 h3;exact(h.fs z hz).lt a h4
   simp only [List.flatMap_cons,List.flatMap_nil,List.append_nil] at hc';have:=hm.blocks a hc';omega
theorem cloneB_any (n:Nat) (xs:List Value) (v:Value) (w:World) (hl:qL w 2 v n xs) (hn:n≤1000) :
  Calls Tryz.prog 130 #[v] w fun e w'=>(∃v1,e=.returned v1∧RowAt w' w.heap.size 2 v1 n xs)∧Ext w w':=by
 have HSRC:=eH hl;obtain⟨a,c,rfl,hc,hb,hel⟩:=hl;obtain⟨i0,hi0,hz0,hz1,hz2⟩:=info_parts infoFb;have RA:=zF
 cases a with
 | none =>
  have hn0:n=0:=by
   rcases hel with h | ⟨ad,e,_⟩
   ·exact h
   ·cases e
  subst hn0;have hx0:xs=[]:=List.eq_nil_of_length_eq_zero (by simpa using hc);subst hx0;have hbn:∀w,(binOp .eql 56 (.slice none 0 c) (.slice none 0 0)).run Tryz.prog w=.ok (.bool true) w:=fun w=>by kernel_rfl
  clear hel hc hb;go_enter Tryz.func130,Tryz.ntmps130
  go_wp2_with fail
  go_ret;exact⟨⟨_,rfl,RowAt.nil _ _ _ _⟩,eR _⟩
 | some ad =>
  have hbn:∀w,(binOp .eql 56 (.slice (some ad) n c) (.slice none 0 0)).run Tryz.prog w=.ok (.bool false) w:=fun w=>by kernel_rfl
  clear hel hc hb;go_enter Tryz.func130,Tryz.ntmps130
  go_wp2_with (first
   | (at_builtin;refine zE rfl _ _ 56 rfl w.heap.size 112 i0 (.agg #[.slice none 0 0,.int .i64 0]) 2 32 Tryz.underlying56 hi0 hz0 hz1 hz2 rfl (by decide) _ _ _ rfl (RowAt.nil _ _ _ _) n xs (src_up HSRC.out (by ((repeat first|assumption|exact eR _|exact And.left (by assumption)|apply eA|apply eD|apply eN|refine eS ?_ (by simp<;>omega) _|refine eT ?_ (by assumption));done))) (by unfold maxLen;omega) (by omega) (by exact Ext.size (by ((repeat first|assumption|exact eR _|exact And.left (by assumption)|apply eA|apply eD|apply eN|refine eS ?_ (by simp<;>omega) _|refine eT ?_ (by assumption));done))) ?_;intro v1 Wv1 rv1;have RV:=eH rv1;have hxv:=row_ext rv1;obtain⟨a9,cap9,rfl,_,_⟩:=rv1.1.shape;clear rv1))
  go_ret;have hR:=RV.out;rw [Nat.zero_add,List.nil_append] at hR;exact⟨⟨_,rfl,hR.1⟩,by ((repeat first|assumption|exact eR _|exact And.left (by assumption)|apply eA|apply eD|apply eN|refine eS ?_ (by simp<;>omega) _|refine eT ?_ (by assumption));done)⟩
theorem cloneF_any (n:Nat) (xs:List Value) (v:Value) (w:World) (hl:qL w 4 v n xs) (hn:n≤1000) :
  Calls Tryz.prog 131 #[v] w fun e w'=>(∃v1,e=.returned v1∧RowAt w' w.heap.size 4 v1 n xs)∧Ext w w':=by
 have HSRC:=eH hl;obtain⟨a,c,rfl,hc,hb,hel⟩:=hl;obtain⟨i0,hi0,hz0,hz1,hz2⟩:=info_parts infoFr;have RA:=zF
 cases a with
 | none =>
  have hn0:n=0:=by
   rcases hel with h | ⟨ad,e,_⟩
   ·exact h
   ·cases e
  subst hn0;have hx0:xs=[]:=List.eq_nil_of_length_eq_zero (by simpa using hc);subst hx0;have hbn:∀w,(binOp .eql 110 (.slice none 0 c) (.slice none 0 0)).run Tryz.prog w=.ok (.bool true) w:=fun w=>by kernel_rfl
  clear hel hc hb;go_enter Tryz.func131,Tryz.ntmps131
  go_wp2_with fail
  go_ret;exact⟨⟨_,rfl,RowAt.nil _ _ _ _⟩,eR _⟩
 | some ad =>
  have hbn:∀w,(binOp .eql 110 (.slice (some ad) n c) (.slice none 0 0)).run Tryz.prog w=.ok (.bool false) w:=fun w=>by kernel_rfl
  clear hel hc hb;go_enter Tryz.func131,Tryz.ntmps131
  go_wp2_with (first
   | (at_builtin;refine zE rfl _ _ 110 rfl w.heap.size 108 i0 (.agg #[.int .i64 0,.int .i64 0,.slice none 0 0,.slice none 0 0]) 4 64 Tryz.underlying110 hi0 hz0 hz1 hz2 rfl (by decide) _ _ _ rfl (RowAt.nil _ _ _ _) n xs (src_up HSRC.out (by ((repeat first|assumption|exact eR _|exact And.left (by assumption)|apply eA|apply eD|apply eN|refine eS ?_ (by simp<;>omega) _|refine eT ?_ (by assumption));done))) (by unfold maxLen;omega) (by omega) (by exact Ext.size (by ((repeat first|assumption|exact eR _|exact And.left (by assumption)|apply eA|apply eD|apply eN|refine eS ?_ (by simp<;>omega) _|refine eT ?_ (by assumption));done))) ?_;intro v1 Wv1 rv1;have RV:=eH rv1;have hxv:=row_ext rv1;obtain⟨a9,cap9,rfl,_,_⟩:=rv1.1.shape;clear rv1))
  go_ret;have hR:=RV.out;rw [Nat.zero_add,List.nil_append] at hR;exact⟨⟨_,rfl,hR.1⟩,by ((repeat first|assumption|exact eR _|exact And.left (by assumption)|apply eA|apply eD|apply eN|refine eS ?_ (by simp<;>omega) _|refine eT ?_ (by assumption));done)⟩
end Go.Proofs.YtpcjkfppacnkgaaGreatDoor
end
section
namespace Go.Proofs.YtpcjkfppacnkgaaGreatDoor
open Go
section
variable {P:Program} {md:Region.Mode} {ops:Array Oper} {Q:Exit→Act→World→Prop} {S:World→Prop} {z:Nat}
theorem zGg:∀(fuel:Nat) (listed:Array Bool) (a:Act) (w:World),wpAny P md ops Q fuel listed a w→jO P md ops Q (fun _=>True) z fuel listed a w
 | 0,_,_,_,h=>h
 | fuel+1,_,_,_,h=>⟨h.1,fun i hi=>wpOp_mono (fun a' w' h'=>⟨.inr trivial,zGg fuel _ a' w' h'⟩) (h.2 i hi)⟩
theorem wpAnyZ_firstT {i F:Nat} {oi:Oper} {v:Value} (hiz:i≠z) (hz:zDe md ops F z i=true) (hi:ops[i]?=some oi) (hsel:∀(j:Nat) (o:Oper) cs b,ops[j]?=some o→o.op≠.select cs b)
  (hQ:∀c a w,Q (.panic c) (a.put oi.dst v) w→Q (.panic c) a w) :
  ∀(fuel:Nat) (listed:Array Bool) (a:Act) (w:World),listed.size=ops.size→zBf md ops listed →
   (∀j oj,ops[j]?=some oj→j≠i→listed.getD j true=false→(∀e∈oj.after,Region.binds md e=true→e.on≠i)→oi.apart ops oj=true) →
   i∈Region.ready md ops listed→YieldsIf P ops S oi v a→S w →
   wpAnyZ P md ops Q S z fuel (listed.setIfInBounds i true) (a.put oi.dst v) w→wpAnyZ P md ops Q S z (fuel+1) listed a w:=by
 intro fuel
 induction fuel with
 | zero =>
  intro listed a w _ _ _ hr hy hS H;refine⟨fun h=>(by rw [h] at hr;cases hr),fun j hj=>?_⟩;by_cases hji:j=i
  ·subst hji;exact hy.wpOp hi hS (by rw [if_neg hiz];exact⟨hS,H⟩)
  ·have:=ready_mono hj hji;rw [H.1] at this
   cases this
 | succ fuel ih =>
  intro listed a w hsz hcl hfree hr hy hS H;refine⟨fun h=>(by rw [h] at hr;cases hr),fun j hj=>?_⟩;by_cases hji:j=i
  ·subst hji;exact hy.wpOp hi hS (by rw [if_neg hiz];exact⟨hS,H⟩)
  ·have h1:=H.2 j (ready_mono hj hji);obtain⟨hjun,oj,hoj,hall⟩:=mem_ready.1 hj;have hun0:listed.getD i false≠true:=fun h=>by
    have h0:=(mem_ready.1 hr).1;rcases Nat.lt_or_ge i listed.size with h' | h'
    ·simp [h'] at h0 h;rw [h0] at h;cases h
    ·simp [Array.getElem?_eq_none h'] at h
   have hnot:∀e∈oj.after,Region.binds md e=true→e.on≠i:=fun e he hb heq=>hun0 (heq ▸ hall e he hb)
   have hjz:j≠z:=fun e=>by
    subst e;exact hun0 (zCq hcl F j hz (fun ok hk e he hb=>by rw [hoj] at hk;cases hk;exact hall e he hb))
   have h2:=wpOp_putIf hoj (hfree j oj hoj hji hjun hnot) (fun cs b=>hsel i oi cs b hi) (fun cs b=>hsel j oj cs b hoj) hQ hy h1;have hfree':∀k ok,ops[k]?=some ok→k≠i→(listed.setIfInBounds j true).getD k true=false →
     (∀e∈ok.after,Region.binds md e=true→e.on≠i)→oi.apart ops ok=true:=fun k ok hk hki hun hno=>by
    refine hfree k ok hk hki ?_ hno;by_cases hjk:j=k
    ·subst hjk;exact hjun
    ·rw [getD_set_ne true hjk] at hun;exact hun
   refine wpOp_mono (fun a' w' h3=>?_) h2;have h5:=h3.2;rw [if_neg hjz] at h5;rw [if_neg hjz];exact⟨h5.1,ih (listed.setIfInBounds j true) a' w' (by simpa using hsz) (hcl.set hj) hfree' (ready_mono hr (Ne.symm hji)) h3.1 h5.1 (by rw [Array.setIfInBounds_comm _ _ hji];exact h5.2)⟩
def rzHeadT (md:Region.Mode) (ops:Array Oper) (z z2:Nat) (tl tl2:List Nat):List Nat→Array Bool→Bool
 | [],listed=>rzTail md ops z z2 tl2 tl listed
 | k::l,listed=>(Region.ready md ops listed).contains k && Region.free md ops listed k && decide (k<ops.size) && zDe md ops ops.size z k && decide (k≠z) && rzHeadT md ops z z2 tl tl2 l (listed.setIfInBounds k true)
theorem zHg {l:List Oper} (hl:ops=l.toArray) (hsel:Region.noSelect ops=true) (hQ:∀c a d v w,Q (.panic c) (Act.put a (some d) v) w→Q (.panic c) a w) {w:World} (hS:S w) (z2:Nat) (tl tl2:List Nat) :
  ∀(rd:List Nat) (fuel:Nat) (listed:Array Bool) (a:Act),listed.size=ops.size→zBf md ops listed→rd.length+(tl.length+tl2.length)=fuel→rzHeadT md ops z z2 tl tl2 rd listed=true →
   vT P ops S (fun a'=>vY P ops S (thenZ P ops Q (zH l tl2)) (zH l tl) a' w) (zH l rd) a→wpAnyZ P md ops Q S z fuel listed a w
 | [],fuel,listed,a,hs,_,hf,hB,h=>wpAnyZ_tail hl z2 tl2 tl fuel listed a w (by simpa using hf) hB h
 | k::rd,fuel,listed,a,hs,hcl,hf,hB,h=>by
  simp only [rzHeadT,Bool.and_eq_true,decide_eq_true_eq] at hB;obtain⟨⟨⟨⟨⟨h1,h2⟩,h3⟩,h4⟩,h6⟩,h5⟩:=hB;obtain⟨o,ho⟩:∃o,l[k]?=some o:=⟨l[k]'(by subst hl;simpa using h3),by rw [List.getElem?_eq_getElem]⟩
  have ho':ops[k]?=some o:=by subst hl;simpa using ho
  have e:zH l (k::rd)=o::zH l rd:=by unfold zH;simp [ho]
  rw [e] at h;obtain⟨v,hy,hK⟩:=h;obtain⟨f,rfl⟩:∃f,fuel=f+1:=⟨fuel - 1,by simp at hf;omega⟩
  have hr:k∈Region.ready md ops listed:=by simpa using h1
  exact wpAnyZ_firstT h6 h4 ho' (Region.noSelect_spec hsel) (fun c a w h=>by cases hd:o.dst with | none=>rw [hd] at h;exact h | some d=>rw [hd] at h;exact hQ c _ _ _ w h) f listed a w hs hcl (Region.free_spec ho' h2) hr hy hS
   (zHg hl hsel hQ hS z2 tl tl2 rd f _ _ (by simpa using hs) (hcl.set hr) (by simp at hf;omega) h5 hK)
def rzfB (md:Region.Mode) (ops:Array Oper) (z z2 k:Nat) (rd tl tl2:List Nat):Bool :=
 Region.noSelect ops && decide (rd.length+(tl.length+tl2.length)+1=ops.size) && (Region.ready md ops (Array.replicate ops.size false)).contains k && Region.free md ops (Array.replicate ops.size false) k && decide (k<ops.size) && zDe md ops ops.size z2 k && rzHeadT md ops z z2 tl tl2 rd ((Array.replicate ops.size false).setIfInBounds k true)
theorem wp_region_rzf {id:Nat} {l:List Oper} {a:Act} {w:World} (S:World→Prop) (z z2 k:Nat) (rd tl tl2:List Nat) (hm:P.follows .mixedOrders=true) (hB:rzfB .any l.toArray z z2 k rd tl tl2=true) (hQ:∀c a d v w,Q (.panic c) (Act.put a (some d) v) w→Q (.panic c) a w) (hS:S w.drew)
  (h:vT P l.toArray (fun _=>True) (fun a1=>vT P l.toArray S (fun a'=>vY P l.toArray S (thenZ P l.toArray Q (zH l tl2)) (zH l tl) a' w.drew) (zH l rd) a1) (zH l [k]) a):(Code.region id l.toArray true).wp P Q a w:=by
 simp only [rzfB,Bool.and_eq_true,decide_eq_true_eq] at hB;obtain⟨⟨⟨⟨⟨⟨h1,h2⟩,h3⟩,h4⟩,h5⟩,h6⟩,h7⟩:=hB;refine wp_region_any hm ?_;obtain⟨o,ho⟩:∃o,l[k]?=some o:=⟨l[k]'(by simpa using h5),by rw [List.getElem?_eq_getElem]⟩
 have ho':l.toArray[k]?=some o:=by simpa using ho
 have e:zH l [k]=[o]:=by unfold zH;simp [ho]
 rw [e] at h;obtain⟨v,hy,hK⟩:=h;have hr:k∈Region.ready .any l.toArray (Array.replicate l.toArray.size false):=by simpa using h3
 rw [←h2];refine jC (S:=fun _=>True) (z:=z2) _ _ _ _ ?_;have hsz:(Array.replicate (rd.length+(tl.length+tl2.length)+1) false).size=l.toArray.size:=by rw [Array.size_replicate,h2]
 rw [←h2] at hr h4 h7;refine zGh h6 ho' (Region.noSelect_spec h1) (fun c a w h=>by cases hd:o.dst with | none=>rw [hd] at h;exact h | some d=>rw [hd] at h;exact hQ c _ _ _ w h) _ _ a _ hsz (zCl _) (Region.free_spec ho' h4) hr hy trivial ?_;refine zGg _ _ _ _ (wpAny_of_Z (S:=S) (z:=z) _ _ _ _ ?_);exact zHg rfl h1 hQ hS z2 tl tl2 rd _ _ _ (by simpa using hsz) ((zCl _).set hr) rfl h7 hK
end
end Go.Proofs.YtpcjkfppacnkgaaGreatDoor
end
section
namespace Go.Proofs.YtpcjkfppacnkgaaGreatDoor
open Go Go.RowKit
theorem drop_cons {α:Type} [Inhabited α] {ys:List α} {k:Nat} (h:k<ys.length):ys.drop k=ys.getD k default::ys.drop (k+1):=by
 rw [List.drop_eq_getElem_cons h];simp [List.getD,List.getElem?_eq_getElem h]
theorem take_snoc {α:Type} {l:List α} {k:Nat} (h:k<l.length):l.take (k+1)=l.take k++[l[k]]:=List.take_succ_eq_append_getElem h
theorem own_any (s:GState) (vs:Value) (T:Nat→Prop) (w:World) (hs:zW w T vs s) (hf:FewS s) :
  Calls Tryz.prog 91 #[vs] w fun e w'=>(∃P,e=.returned (.agg #[P.vfs,.int .i64 P.now,P.vo])∧OwnR w' w.heap.size P∧P.g=s)∧Ext w w':=by
 obtain⟨fs,nw,out⟩:=s;obtain⟨xf,xo,rfl,hfs,inow,ho⟩:=hs;have hIO:=ho.i64;have HO:=eH ho;obtain⟨ys,hyl,hysrc,hyr⟩:=zAi.raw hfs;obtain⟨hf1,hf2,hf3⟩:=hf;have hf1:fs.length≤900:=hf1;have hf2:out.length≤900:=hf2;have hf3:∀f∈fs,FewF f:=hf3;have HF3:=eH hf3;have HYR:=eH hyr;have HYS:=eH hysrc;have HYL:=eH hyl;have HIO:=eH hIO;obtain⟨af,cf,rfl,_,_,_⟩:=hfs;obtain⟨ao,co,rfl,_,_,_⟩:=ho;have RA:=zF;have hs0:(w.alloc (.cells #[.slice af fs.length cf,.int .i64 nw,.slice ao out.length co] 58)).heap.size=w.heap.size+1:=Array.size_push _;have q0:=Cx.new w [.slice af fs.length cf,.int .i64 nw,.slice ao out.length co] 58 (j:=0) rfl;have q1:=Cx.new w [.slice af fs.length cf,.int .i64 nw,.slice ao out.length co] 58 (j:=1) rfl;have q2:=Cx.new w [.slice af fs.length cf,.int .i64 nw,.slice ao out.length co] 58 (j:=2) rfl;have r0:=Cx.new (w.alloc (.cells #[.slice af fs.length cf,.int .i64 nw,.slice ao out.length co] 58)) [.slice none 0 0,.int .i64 0,.slice none 0 0] 58 (j:=0) rfl;have r1:=Cx.new (w.alloc (.cells #[.slice af fs.length cf,.int .i64 nw,.slice ao out.length co] 58)) [.slice none 0 0,.int .i64 0,.slice none 0 0] 58 (j:=1) rfl;have r2:=Cx.new (w.alloc (.cells #[.slice af fs.length cf,.int .i64 nw,.slice ao out.length co] 58)) [.slice none 0 0,.int .i64 0,.slice none 0 0] 58 (j:=2) rfl;rw [hs0] at r0 r1 r2;have hX:Ext (w.alloc (.cells #[.slice af fs.length cf,.int .i64 nw,.slice ao out.length co] 58)) ((w.alloc (.cells #[.slice af fs.length cf,.int .i64 nw,.slice ao out.length co] 58)).alloc (.cells #[.slice none 0 0,.int .i64 0,.slice none 0 0] 58)):=(eR _).alloc _;have HQ:=eH (⟨q0.ext hX,q1.ext hX,q2.ext hX,r0,r1,r2⟩:_∧_∧_∧_∧_∧_);have HE1:=eH (((eR w).alloc (.cells #[.slice af fs.length cf,.int .i64 nw,.slice ao out.length co] 58)).trans hX);have HS1:Hid (((w.alloc (.cells #[.slice af fs.length cf,.int .i64 nw,.slice ao out.length co] 58)).alloc (.cells #[.slice none 0 0,.int .i64 0,.slice none 0 0] 58)).heap.size=w.heap.size+2):=by unfold Hid;simp
 clear hs0 q0 q1 q2 r0 r1 r2 hX hyr hysrc hyl hf3 hIO;go_enter Tryz.func91,Tryz.ntmps91
 go_upto_region 1 with fail
 obtain⟨w1,hw1⟩:∃w1,w1=((w.alloc (.cells #[.slice af fs.length cf,.int .i64 nw,.slice ao out.length co] 58)).alloc (.cells #[.slice none 0 0,.int .i64 0,.slice none 0 0] 58)):=⟨_,rfl⟩
 rw [←hw1] at HQ HE1 HS1 ⊢;clear hw1;obtain⟨⟨q0,q0'⟩,⟨q1,q1'⟩,⟨q2,q2'⟩,-,-,-⟩:=HQ.out;have HO1:=eH (Ints.stays (Ext.stays HE1.out) HO.out)
 go_upto_region 2 with (first
  | (go_at_call 129;(with_reducible refine(zEi out _ T _ HO1.out (by omega)).mono ?_);rintro e w2 ⟨⟨v1,rfl,hr1⟩,hx2⟩;obtain⟨av1,cv1,rfl,_,_⟩:=hr1.shape;obtain⟨k2,k2'⟩:=(HQ.out.2.2.1).ext hx2))
 obtain⟨v1,hv1⟩:∃v1,v1=Value.slice av1 out.length cv1:=⟨_,rfl⟩
 rw [←hv1] at hr1;obtain⟨W2,hW2⟩:∃W2,W2=w2.setCell ⟨w.heap.size,2,none⟩ v1:=⟨_,rfl⟩
 simp only [←hv1,←hW2];have hq:=HQ.out;have a0:Cx W2 w.heap.size 0 (.slice af fs.length cf):=by rw [hW2];exact(hq.1.ext hx2).other (.inr (by decide)) _
 have a1:Cx W2 w.heap.size 1 (.int .i64 nw):=by rw [hW2];exact(hq.2.1.ext hx2).other (.inr (by decide)) _
 have a2:Cx W2 w.heap.size 2 v1:=by rw [hW2];exact(hq.2.2.1.ext hx2).set _
 have a3:Cx W2 (w.heap.size+1) 0 (.slice none 0 0)∧Cx W2 (w.heap.size+1) 1 (.int .i64 0)∧Cx W2 (w.heap.size+1) 2 (.slice none 0 0):=by rw [hW2];exact⟨(hq.2.2.2.1.ext hx2).other (.inl (by omega)) _,(hq.2.2.2.2.1.ext hx2).other (.inl (by omega)) _,(hq.2.2.2.2.2.ext hx2).other (.inl (by omega)) _⟩
 have hE2:Ext w W2:=by rw [hW2];exact(HE1.out.trans hx2).setCell (p:=⟨w.heap.size,2,none⟩) (Nat.le_refl _) _
 have hro:RowAt W2 (w.heap.size+2) 1 v1 out.length (ints out):=by
  rw [hW2];have hb:=HS1.out;exact(hr1.mono (by omega)).chg (zO w2 w.heap.size 2 v1) (fun k hk e=>by have e:k=w.heap.size:=e;have:=hr1.le k hk;omega) (by decide)
 clear hv1 hW2 hq hx2 hr1 q0 q0' q1 q1' q2 q2' k2 k2';have HA:=eH (⟨a0,a1,a2,a3⟩:_∧_∧_∧_);have HE2:=eH hE2;have HRO:=eH hro;have HYS2:=eH (src_up HYS.out hE2);obtain⟨a0,a0'⟩:=a0;clear a1 a2 a3 hE2 hro;rename World=>w2
 go_upto_region 3 with (first
  | (go_at_call 130;(with_reducible refine(cloneB_any fs.length (ys.flatMap kK) _ _ HYS2.out (by omega)).mono ?_);rintro e w3 ⟨⟨v2,rfl,hr2⟩,hx3⟩;obtain⟨av2,cv2,rfl,_,_⟩:=hr2.shape;obtain⟨k3,k3'⟩:=(HA.out.1).ext hx3))
 obtain⟨W3,hW3⟩:∃W3,W3=w3.setCell ⟨w.heap.size,0,none⟩ (.slice av2 fs.length cv2):=⟨_,rfl⟩
 simp only [←hW3];have ha:=HA.out;have b0:Cx W3 w.heap.size 0 (.slice av2 fs.length cv2):=by rw [hW3];exact(ha.1.ext hx3).set _
 have b1:Cx W3 w.heap.size 1 (.int .i64 nw):=by rw [hW3];exact(ha.2.1.ext hx3).other (.inr (by decide)) _
 have b2:Cx W3 w.heap.size 2 v1:=by rw [hW3];exact(ha.2.2.1.ext hx3).other (.inr (by decide)) _
 have b3:Cx W3 (w.heap.size+1) 0 (.slice none 0 0)∧Cx W3 (w.heap.size+1) 1 (.int .i64 0)∧Cx W3 (w.heap.size+1) 2 (.slice none 0 0):=by rw [hW3];exact⟨(ha.2.2.2.1.ext hx3).other (.inl (by omega)) _,(ha.2.2.2.2.1.ext hx3).other (.inl (by omega)) _,(ha.2.2.2.2.2.ext hx3).other (.inl (by omega)) _⟩
 have hE3:Ext w W3:=by rw [hW3];exact(HE2.out.trans hx3).setCell (p:=⟨w.heap.size,0,none⟩) (Nat.le_refl _) _
 have hB2:w.heap.size+1<w2.heap.size:=ha.2.2.2.1.lt;have hvo:∀k,zB v1=some k→w.heap.size+2≤k∧k<w2.heap.size:=fun k hk=>⟨HRO.out.le k hk,HRO.out.lt2 (by decide) k hk⟩
 have hro3:RowAt W3 (w.heap.size+2) 1 v1 out.length (ints out):=by
  rw [hW3];exact(HRO.out.ext hx3 (by decide)).chg (zO w3 w.heap.size 0 _) (fun k hk e=>by have e:k=w.heap.size:=e;have:=hvo k hk;omega) (by decide)
 have hr3:RowAt W3 w2.heap.size 2 (.slice av2 fs.length cv2) fs.length (ys.flatMap kK):=by
  rw [hW3];exact hr2.chg (zO w3 w.heap.size 0 _) (fun k hk e=>by have e:k=w.heap.size:=e;have:=hr2.le k hk;omega) (by decide)
 have HB3:=eH (⟨b0,b1,b2,b3⟩:_∧_∧_∧_);have HE3:=eH hE3;have HRO3:=eH hro3;have HMB:Hid (MidB W3 w2.heap.size (.slice av2 fs.length cv2) [] ys):=MidB.new (by rw [HYL.out];exact hr3);have HVO:=eH hvo;have HBS:Hid (w.heap.size+1<w2.heap.size∧w2.heap.size≤W3.heap.size):=⟨hB2,by rw [hW3];exact(Nat.le_trans hx3.size (Nat.le_of_eq (by simp)))⟩
 obtain⟨b0,b0'⟩:=b0;clear hW3 ha b1 b2 b3 hE3 hB2 hvo hro3 hr3 hr2 hx3 k3 k3' a0 a0' HA HRO HYS2 HQ HO1 HE1 HS1 HO;obtain⟨B1,hB1⟩:∃B1,w2.heap.size=B1:=⟨_,rfl⟩
 rw [hB1] at HMB HVO HBS;clear hB1
 go_wp2_with fail
 go_loopw [18] (fun q wr=>∃dn:List PFiber,q=.int .i64 (dn.length:Int)∧dn.length≤fs.length∧MidB wr B1 (.slice av2 fs.length cv2) dn (ys.drop dn.length)∧dn.map PFiber.g=fs.take dn.length∧Ext w wr∧B1≤wr.heap.size∧RowAt wr (w.heap.size+2) 1 v1 out.length (ints out) ∧
   Cx wr w.heap.size 0 (.slice av2 fs.length cv2)∧Cx wr w.heap.size 1 (.int .i64 nw)∧Cx wr w.heap.size 2 v1∧Cx wr (w.heap.size+1) 0 (.slice none 0 0)∧Cx wr (w.heap.size+1) 1 (.int .i64 0)∧Cx wr (w.heap.size+1) 2 (.slice none 0 0)) (fun q _=>fs.length - (intOf q).toNat)
 case atStart=>exact⟨[],rfl,Nat.zero_le _,HMB.out,rfl,HE3.out,HBS.out.2,HRO3.out,HB3.out.1,HB3.out.2.1,HB3.out.2.2.1,HB3.out.2.2.2.1,HB3.out.2.2.2.2.1,HB3.out.2.2.2.2.2⟩
 case round =>
  obtain⟨dn,rfl,hdn,hmb,hdg,hE,hBw,hro,z0,z1,z2,z3,z4,z5⟩:=hrel;have HMK:=eH hmb;have HDG:=eH hdg;have HEK:=eH hE;have HBW:=eH hBw;have HROK:=eH hro;have HZ:=eH (⟨z0,z1,z2,z3,z4,z5⟩:_∧_∧_∧_∧_∧_);obtain⟨z0,z0'⟩:=z0;obtain⟨z1,z1'⟩:=z1;obtain⟨z2,z2'⟩:=z2;clear hmb hdg hE hBw hro HMB HE3 HRO3 HB3 b0 b0';rename World=>wk
  by_cases hlt:dn.length<fs.length
  ·have hlty:dn.length<ys.length:=by rw [HYL.out];exact hlt
   have hmk:=HMK.out;rw [drop_cons hlty] at hmk;obtain⟨hyf,hyc,hyI⟩:=HYR.out dn.length hlt;have hff:FewF fs[dn.length]:=HF3.out _ (List.getElem_mem _);obtain⟨y,hy⟩:∃y,ys.getD dn.length default=y:=⟨_,rfl⟩
   rw [hy] at hmk hyf hyc;obtain⟨fb,hfb⟩:∃fb,fs[dn.length]=fb:=⟨_,rfl⟩
   have htk:fs.take (dn.length+1)=fs.take dn.length++[fb]:=by rw [take_snoc hlt,hfb]
   rw [hfb] at hyf hyc hyI hff;obtain⟨rs,hrs⟩:∃rs,ys.drop (dn.length+1)=rs:=⟨_,rfl⟩
   rw [hrs] at hmk;obtain⟨xs,hxl,hxs,hxr⟩:=vX.raw hyf;obtain⟨g,o,cap,e1,hbl,_,_,hcx⟩:=RowAt.place kK (fun _=>rfl) hmk.row;simp only [Value.slice.injEq] at e1;obtain⟨rfl,-,rfl⟩:=e1;obtain⟨y0,y0'⟩:=hcx 0 _ (by decide) rfl;rw [Nat.add_zero] at y0 y0';have hfl9:fb.frames.length≤900:=hff.1;have HMK2:=eH hmk;have HHY:=eH hy;have HTK:=eH htk;have HRS:=eH hrs;have HYC:=eH hyc;have HFF:=eH hff;have HXL:=eH hxl;have HXS:=eH (src_up hxs HEK.out);have HXR:=eH hxr;have HBL:=eH hbl;have HGB:Hid (B1≤g∧g<wk.heap.size):=⟨hmk.row.le g hbl,hmk.row.lt2 (by decide) g hbl⟩
   clear hmk hy htk hrs hyc hyf hff hxl hxs hxr hbl hcx hfb
   go_upto_region 8 with (first
    | (go_at_call 131;(with_reducible refine(cloneF_any fb.frames.length (xs.flatMap frameF) _ _ HXS.out (by omega)).mono ?_);rintro e w4 ⟨⟨v4,rfl,hr4⟩,hx4⟩;obtain⟨av4,cv4,rfl,_,_⟩:=hr4.shape;obtain⟨k4,k4'⟩:=(Cx.ext (W:=wk) ⟨y0,y0'⟩ hx4)))
   obtain⟨W5,hW5⟩:∃W5,W5=w4.setCell ⟨g,o+dn.length * 2,none⟩ (.slice av4 fb.frames.length cv4):=⟨_,rfl⟩
   simp only [←hW5];have hgb:=HGB.out;have c5:Cx W5 g (o+dn.length * 2) (.slice av4 fb.frames.length cv4):=by rw [hW5];exact(Cx.ext (W:=wk) ⟨y0,y0'⟩ hx4).set _
   have hc5:Chg (·=g) wk W5:=by rw [hW5];exact(Chg.of_ext hx4).trans (zO _ _ _ _)
   have hr5:RowAt W5 wk.heap.size 4 (.slice av4 fb.frames.length cv4) fb.frames.length (xs.flatMap frameF):=by
    rw [hW5];exact hr4.chg (zO w4 g (o+dn.length * 2) _) (fun k hk e=>by have e:k=g:=e;have:=hr4.le k hk;omega) (by decide)
   have hrow5:RowAt W5 B1 2 (.slice (some ⟨g,o,none⟩) fs.length cv2) (dn++⟨[],y.caller,.slice av4 fb.frames.length cv4⟩::rs).length ((dn++⟨[],y.caller,.slice av4 fb.frames.length cv4⟩::rs).flatMap kK):=by
    have h0:=(HMK2.out.row.ext hx4 (by decide)).storeAt kK (fun _=>rfl) (L:=dn) (y:=y) (y':=⟨[],y.caller,.slice av4 fb.frames.length cv4⟩) (R:=rs) (r:=0) (by decide) (u:=.slice av4 fb.frames.length cv4) rfl;rw [hW5];exact h0
   have hE5:Ext w W5:=Chg.ext_from HEK.out hc5 (fun k e=>by have e:k=g:=e;have:=HBS.out.1;omega);have hne:∀{b j:Nat} {v:Value},Cx wk b j v→b<B1→Cx W5 b j v:=fun h hb=>h.chg hc5 (fun e=>by have e:_=g:=e;omega)
   have hz:=HZ.out;have hb1:=HBS.out.1;have HZ5:=eH (⟨hne hz.1 (by omega),hne hz.2.1 (by omega),hne hz.2.2.1 (by omega),hne hz.2.2.2.1 (by omega),hne hz.2.2.2.2.1 (by omega),hne hz.2.2.2.2.2 (by omega)⟩:_∧_∧_∧_∧_∧_);have HRO5:=eH (HROK.out.chg hc5 (fun k hk e=>by have e:k=g:=e;have:=HVO.out k hk;omega) (by decide));have HMF:Hid (MidF W5 wk.heap.size (.slice av4 fb.frames.length cv4) [] xs):=MidF.new (by rw [HXL.out];exact hr5);have C5:=eH c5;have HC5:=eH hc5;have HROW5:=eH hrow5;have HE5:=eH hE5;have HSZ5:Hid (wk.heap.size≤W5.heap.size):=hc5.size;obtain⟨c5,c5'⟩:=c5;clear hW5 hgb hc5 hr5 hrow5 hE5 hne hz hb1 hr4 hx4 k4 k4' y0 y0' z0 z0' z1 z1' z2 z2' z3 z4 z5
   go_wp2_with fail
   go_loopw [38] (fun q wr=>∃fn:List PFrame,q=.int .i64 (fn.length:Int)∧fn.length≤fb.frames.length∧MidF wr wk.heap.size (.slice av4 fb.frames.length cv4) fn (xs.drop fn.length)∧fn.map PFrame.f=fb.frames.take fn.length∧Chg (wk.heap.size≤·) W5 wr) (fun q _=>fb.frames.length - (intOf q).toNat)
   case atStart=>exact⟨[],rfl,Nat.zero_le _,HMF.out,rfl,Chg.refl _ _⟩
   case round =>
    obtain⟨fn,rfl,hfn,hmf,hfg,hcr⟩:=hrel;have HMR:=eH hmf;have HFG:=eH hfg;have HCR:=eH hcr;have HC5R:=eH (C5.out.chg hcr (fun e=>by have:=HGB.out;omega));clear hmf hfg hcr HMF c5 c5';obtain⟨c5,c5'⟩:=HC5R.out;rename World=>wr
    have HWR:Hid (wk.heap.size≤wr.heap.size):=Nat.le_trans HSZ5.out HCR.out.size;by_cases hlt2:fn.length<fb.frames.length
    ·have hltx:fn.length<xs.length:=by rw [HXL.out];exact hlt2
     have hmr:=HMR.out;rw [drop_cons hltx] at hmr;obtain⟨hxv,hxf⟩:=HXR.out fn.length hlt2;have hfx:=HFF.out.2 _ (List.getElem_mem hlt2);obtain⟨x,hx⟩:∃x,xs.getD fn.length default=x:=⟨_,rfl⟩
     rw [hx] at hmr hxv hxf;have htk2:fb.frames.take (fn.length+1)=fb.frames.take fn.length++[x.f]:=by rw [take_snoc hlt2,hxf]
     rw [←hxf] at hxv hfx;obtain⟨rs2,hrs2⟩:∃rs2,xs.drop (fn.length+1)=rs2:=⟨_,rfl⟩
     rw [hrs2] at hmr;obtain⟨gf,og,capf,e2,hblf,_,_,hcxf⟩:=RowAt.place frameF (fun _=>rfl) hmr.row;simp only [Value.slice.injEq] at e2;obtain⟨rfl,-,rfl⟩:=e2;obtain⟨x2,x2'⟩:=hcxf 2 _ (by decide) rfl;obtain⟨x3,x3'⟩:=hcxf 3 _ (by decide) rfl;obtain⟨vl,vs,ea,iF,iA,hil,his⟩:=hxv;simp only [Value.agg.injEq,Array.mk.injEq,List.cons.injEq,and_true,true_and] at ea;obtain⟨e3,e4⟩:=ea;rw [←e3] at hil;rw [←e4] at his;have HEW:Hid (Ext w wr):=Chg.ext_from HE5.out HCR.out (fun k hk=>by have:=HEK.out.size;have hk:wk.heap.size≤k:=hk;omega);have HIL:=eH (Ints.stays (Ext.stays HEW.out) hil);have HIS:=eH (Ints.stays (Ext.stays HEW.out) his);have HI4:=eH (⟨iF,iA,hil.i64,his.i64⟩:_∧_∧_∧_);have HMR2:=eH hmr;have HRS2:=eH hrs2;have HTK2:=eH htk2;have hl9:=hfx.1;have hs9:=hfx.2;clear hmr hxf hfx hx htk2 hrs2 hblf hcxf e3 e4 hil his iF iA
     go_upto_region 12 with fail
     refine wp_region_rzf (fun w'=>w'.cell? ⟨gf,og+fn.length * 4+2,none⟩=some x.vl∧w'.cell? ⟨gf,og+fn.length * 4+3,none⟩=some x.vs) 14 17 1 [0,2,3,4,5,7,8,9,10] [6,11,12,13,14] [15,16,17] (by kernel_rfl) (by kernel_rfl) (fun _ _ _ _ _ h=>h) (by exact⟨x2,x3⟩) ?_
     (try simp only [zH,List.filterMap_cons,List.filterMap_nil,xO,xP])
     repeat (
      refine zN (by rfl) ?_;apply Exists.intro;refine⟨fun w' hw'=>?_,?_⟩
      focus
       (try dsimp only at hw')
       go_split_ands;go_simp
       (try with_reducible rfl)
      (try dsimp only [Act.put])
      (try simp only [xL,xM,xN]))
     refine zL ?_;refine zC ?_
     go_wp2_with (first
      | (go_at_call 129;(with_reducible refine(zEi x.f.locals _ T _ (Ints.stays (Ext.stays (eR wr).drew) HIL.out) (by omega)).mono ?_);rintro e w6 ⟨⟨u1,rfl,hra⟩,hxa⟩;obtain⟨au1,cu1,rfl,_,_⟩:=hra.shape))
     have hEa:Ext wr w6:=(eR wr).drew.trans hxa;have hra:RowAt w6 wr.heap.size 1 (.slice au1 x.f.locals.length cu1) x.f.locals.length (ints x.f.locals):=hra;have HEA:=eH hEa;have HRA:=eH hra;have S6:=eH (⟨eC hEa x2,eC hEa x3⟩:_∧_);clear hEa hra hxa;refine zD S6.out ?_;refine zC ?_
     go_wp2_with (first
      | (go_at_call 129;(with_reducible refine(zEi x.f.stack _ T _ (Ints.stays (Ext.stays HEA.out) HIS.out) (by omega)).mono ?_);rintro e w7 ⟨⟨u2,rfl,hrb⟩,hxb⟩;obtain⟨au2,cu2,rfl,_,_⟩:=hrb.shape))
     have HEB:=eH hxb;have HRB:=eH hrb;have S7:=eH (⟨eC hxb S6.out.1,eC hxb S6.out.2⟩:_∧_);obtain⟨k2,k2'⟩:=Cx.ext (W:=wr) ⟨x2,x2'⟩ (HEA.out.trans hxb);have k3:=eH (Cx.ext (W:=wr) ⟨x3,x3'⟩ (HEA.out.trans hxb));obtain⟨k4,k4'⟩:=k3.out.other (b':=gf) (j':=og+fn.length * 4+2) (.inr (by omega)) (.slice au1 x.f.locals.length cu1);clear hrb hxb;refine zD S7.out ?_;refine zC ?_
     go_wp2_with fail
     refine zD S7.out ?_;refine zC ?_
     go_wp2_with fail
     refine zD S7.out ?_;refine zC ?_
     go_wp2_with fail
     refine zS ?_;refine thenZ_go ?_;refine zC ?_
     go_wp2_with fail
     refine zD trivial ?_;refine zC ?_
     go_wp2_with fail
     refine zD trivial ?_;refine zC ?_
     go_wp2_with fail
     refine zS ?_;obtain⟨m9,c9⟩:=HMR2.out.step HWR.out HEA.out HEB.out HRA.out HRB.out HI4.out ⟨hl9,hs9⟩;have hmap:(fn++[(⟨x.f,.slice au1 x.f.locals.length cu1,.slice au2 x.f.stack.length cu2⟩:PFrame)]).map PFrame.f=fb.frames.take (fn.length+1):=by rw [List.map_append,HFG.out,HTK2.out];rfl
     have hgw:wk.heap.size≤gf:=HMR2.out.row.le gf (zK _ _ _ _ (by intro e;have h0:=HMR2.out.row.shape;obtain⟨a0,c0,e0,h1,_⟩:=h0;simp only [Value.slice.injEq] at e0;simp at h1;omega))
     go_wp2_with fail
     go_roundw
     case rel=>exact⟨fn++[⟨x.f,.slice au1 x.f.locals.length cu1,.slice au2 x.f.stack.length cu2⟩],by first | (simp;done) | go_num,by (simp only [List.length_append,List.length_singleton])<;>omega,by rw [List.length_append,List.length_singleton,HRS2.out];exact m9,by rw [List.length_append,List.length_singleton];exact hmap,HCR.out.trans (c9.mono (fun k _ e=>by have e:k=gf:=e;show wk.heap.size≤k;omega))⟩
     case measure=>first | (simp [intOf];done) | (simp [intOf];omega)
    ·have hfe:fn.length=fb.frames.length:=by omega
     have HFE:=eH hfe;clear hfe;have hcw:Chg (·=g) wk wr:=HC5.out.trans' HCR.out (fun k hk hm=>by have hm:wk.heap.size≤k:=hm;omega);have hrowr:RowAt wr B1 2 (.slice (some ⟨g,o,none⟩) fs.length cv2) (dn++⟨[],y.caller,.slice av4 fb.frames.length cv4⟩::rs).length ((dn++⟨[],y.caller,.slice av4 fb.frames.length cv4⟩::rs).flatMap kK):=HROW5.out.chg HCR.out (fun k hk e=>by rw [zK _ _ _ _ (by have:=hlt;intro e0;have h0:=HMK2.out.row.shape;obtain⟨a0,c0,e0',h1,_⟩:=h0;simp only [Value.slice.injEq] at e0';simp at h1;omega)] at hk;cases hk;have e:wk.heap.size≤g:=e;have:=HGB.out;omega) (by decide);have hmfr:MidF wr wk.heap.size (.slice av4 fb.frames.length cv4) fn []:=by
      have h0:=HMR.out
      rwa [show xs.drop fn.length=[] from List.drop_eq_nil_of_le (by rw [HXL.out,HFE.out];exact Nat.le_refl _)] at h0
     have m9:=HMK2.out.step HBW.out hcw hrowr hmfr (by rw [HYC.out];exact hyI) (by have:=HFE.out;omega);have hmap:(dn++[(⟨fn,y.caller,.slice av4 fb.frames.length cv4⟩:PFiber)]).map PFiber.g=fs.take (dn.length+1):=by
      rw [List.map_append,HDG.out,HTK.out];have:fn.map PFrame.f=fb.frames:=by rw [HFG.out,HFE.out,List.take_length]
      simp [PFiber.g,this,HYC.out]
     have hEr:Ext w wr:=Chg.ext_from HE5.out HCR.out (fun k hk=>by have:=HEK.out.size;have hk:wk.heap.size≤k:=hk;omega);have hbl:=HBW.out;have hkk:∀{b j:Nat} {v:Value},Cx W5 b j v→b<B1→Cx wr b j v:=fun h hb=>h.chg HCR.out (fun e=>by have e:wk.heap.size≤_:=e;omega)
     have hz:=HZ5.out;have hb1:=HBS.out.1;have HREL:=eH (⟨m9,hmap,hEr,Nat.le_trans hbl (Nat.le_trans HSZ5.out HCR.out.size),HRO5.out.chg HCR.out (fun k hk e=>by have:=HVO.out k hk;have e:wk.heap.size≤k:=e;omega) (by decide),hkk hz.1 (by omega),hkk hz.2.1 (by omega),hkk hz.2.2.1 (by omega),hkk hz.2.2.2.1 (by omega),hkk hz.2.2.2.2.1 (by omega),hkk hz.2.2.2.2.2 (by omega)⟩:_∧_∧_∧_∧_∧_∧_∧_∧_∧_∧_);clear hcw hrowr hmfr m9 hmap hEr hbl hkk hz hb1
     go_wp2_with fail
     go_roundw
     case rel =>
      obtain⟨m9,hmap,hEr,hsz,hro,a0,a1,a2,a3,a4,a5⟩:=HREL.out;exact⟨dn++[⟨fn,y.caller,.slice av4 fb.frames.length cv4⟩],by first | (simp;done) | go_num,by (simp only [List.length_append,List.length_singleton])<;>omega,by rw [List.length_append,List.length_singleton,HRS.out];exact m9,by rw [List.length_append,List.length_singleton];exact hmap,hEr,hsz,hro,a0,a1,a2,a3,a4,a5⟩
     case measure=>first | (simp [intOf];done) | (simp [intOf];omega)
  ·have hde:dn.length=fs.length:=by omega
   have HDE:=eH hde;clear hde;obtain⟨av1,cv1,rfl,_,_⟩:=HROK.out.shape;have hz:=HZ.out;obtain⟨z2,z2'⟩:=hz.2.2.1;obtain⟨z3,z3'⟩:=hz.2.2.2.1;obtain⟨z4,z4'⟩:=hz.2.2.2.2.1;obtain⟨z5,z5'⟩:=hz.2.2.2.2.2;clear hz
   go_wp2_with fail
   have hrs:ys.drop dn.length=[]:=List.drop_eq_nil_of_le (by rw [HYL.out,HDE.out];exact Nat.le_refl _);have hmb:=HMK.out;rw [hrs] at hmb;refine bodyPost_ret (qG rfl _ _ (w.heap.size+1) 0 _ _ rfl (box3 ⟨z3,z3'⟩ ⟨z4,z4'⟩ ⟨z5,z5'⟩ _ _ _) rfl rfl (by kernel_rfl)) rfl ?_;have hb1:=HBS.out.1;have hdg:dn.map PFiber.g=fs:=by rw [HDG.out,HDE.out,List.take_length]
   have hrow:=hmb.row;rw [List.append_nil,HDE.out] at hrow;have hOR:OwnR wk (w.heap.size+2) ⟨dn,nw,out,.slice av2 fs.length cv2,.slice av1 out.length cv1⟩:=by
    refine⟨⟨inow,HIO.out⟩,?_,HROK.out,fun z hz=>(hmb.fs z hz).mono (by omega),⟨by show dn.length≤1000;rw [HDE.out];omega,by show out.length≤1000;omega⟩,?_⟩
    ·show RowAt wk (w.heap.size+2) 2 (.slice av2 fs.length cv2) dn.length (dn.flatMap kK);rw [HDE.out];exact hrow.mono (by omega)
    ·unfold PState.bl;show ((zB (.slice av2 fs.length cv2)).toList++(zB (.slice av1 out.length cv1)).toList++dn.flatMap PFiber.bl).Nodup;have h1:=hmb.nodup;have hge:∀k∈(zB (.slice av2 fs.length cv2)).toList++dn.flatMap PFiber.bl,B1≤k:=fun k hk=>by
      rcases List.mem_append.1 hk with h2 | h2
      ·exact hmb.row.le k (by simpa using h2)
      ·obtain⟨z,hz,h3⟩:=List.mem_flatMap.1 h2;have hzO:=hmb.fs z hz;unfold PFiber.bl at h3;rcases List.mem_append.1 h3 with h4 | h4
       ·exact hzO.row.le k (by simpa using h4)
       ·obtain⟨x,hx,h5⟩:=List.mem_flatMap.1 h4;unfold PFrame.bl at h5;rcases List.mem_append.1 h5 with h6 | h6
        ·exact(hzO.fr x hx).l.le k (by simpa using h6)
        ·exact(hzO.fr x hx).s.le k (by simpa using h6)
     obtain⟨n1,n2,n3⟩:=List.nodup_append.1 h1;rw [List.append_assoc,List.nodup_append];refine⟨n1,?_,fun a ha c hc e=>?_⟩
     ·rw [List.nodup_append];refine⟨by cases zB (.slice av1 out.length cv1)<;>simp,n2,fun a ha c hc e=>?_⟩;subst e;have h2:=HVO.out a (by simpa using ha);have h3:=hge a (List.mem_append.2 (.inr hc));omega
     ·subst e;rcases List.mem_append.1 hc with h2 | h2
      ·have h3:=HVO.out a (by simpa using h2);have h4:=hge a (List.mem_append.2 (.inl ha));omega
      ·exact n3 a ha a h2 rfl
   refine⟨⟨_,rfl,(hOR.chg (chg3 wk (w.heap.size+1) _ _ _) (fun k hk e=>by have h2:=hOR.ge k hk;have e:k=w.heap.size+1:=e;omega)).mono (by omega),?_⟩,?_⟩
   ·unfold PState.g;simp only [hdg]
   ·exact((HEK.out.setCell (p:=⟨w.heap.size+1,0,none⟩) (Nat.le_succ _) _).setCell (p:=⟨w.heap.size+1,1,none⟩) (Nat.le_succ _) _).setCell (p:=⟨w.heap.size+1,2,none⟩) (Nat.le_succ _) _
end Go.Proofs.YtpcjkfppacnkgaaGreatDoor
end
