/- Contracts and plain facts. -/
import Derived.Test.YtpcjkfppacnkgaaGreatDoorGPBA
set_option maxHeartbeats 4000000
set_option maxRecDepth 100000
namespace Go.Proofs.YtpcjkfppacnkgaaGreatDoor
open Go Go.RowKit
theorem Did.pre {W W1 W2:World} {B b:Nat} {P:PState} {r:Int × GState} (he:Ext W W1) (h:Did W1 W2 B b P r):Did W W2 B b P r:=Did.step (Chg.of_ext he) (fun _ h=>.inl h) h
theorem EngS.setNow {w:World} {B b eb:Nat} {p:List GFunc} {a:Option Addr} {cp:Nat} {P:PState} (h:EngS w B b eb p a cp P) (n:Int) (hI:I64 n):EngS (w.setCell ⟨b,1,none⟩ (.int .i64 n)) B b eb p a cp { P with now:=n } :=
 ⟨h.own.setNow n hI,h.eng.chg (zO w b 1 _) (fun e=>h.off (by rw [show eb=b from e];exact List.mem_cons_self)),h.off⟩
theorem engGive_any {P:PState} {w:World} {B b eb:Nat} {p:List GFunc} {a:Option Addr} {cp:Nat} (h:EngS w B b eb p a cp P) (ht:zU P.g P.g.now) (hr:Room P.g) (ho:P.g.out.length≤30) (hb:vC P.g) :
    Calls Tryz.prog 195 #[.pointer (some ⟨eb,0,none⟩)] w fun e w'=>e=endS (yX P.g).1∧Did w w' B b P (yX P.g):=by
  obtain⟨hl,hb⟩:=hb;have hLI:=h.own.lastI ht hl;have H:=eH h;have HT:=eH ht;have HL:=eH hl;clear h;have RA:=zF;generalize hv:zR P.g=v at *;have HV:=eH hv;go_enter Tryz.func195,Tryz.ntmps195
  go_upto_region 1 with (first
    | (go_at_call 161;(with_reducible refine(zEe H.out.own H.out.eng HT.out HL.out).mono ?_);rintro e w2 ⟨rfl,t2⟩;rw [HV.out]))
  clear hv;obtain⟨P1,h1,g1,s1,c1⟩:=H.out.turn t2;have hr1:Room P1.g:=by rw [g1];exact hr.pop
  have ht1:zU P1.g P1.g.now:=by rw [g1];exact ht.pop
  have ho1:P1.g.out.length≤30:=by rw [g1];exact ho
  rw [←g1] at hb;have HY:Hid (yX P.g=if 0<(curF (kD P1.g)).frames.length then (0,kR (kD P1.g) P1.g.now v) else if (curF (kD P1.g)).caller<0 then putG { kD P1.g with now := -1 } v else (0,uH (kD P1.g) v)):=by
    unfold Hid yX;rw [←g1,HV.out,show P.g.now=P1.g.now from by rw [g1];rfl]
  obtain⟨L,y,R,F,x,hs,hn⟩:=yS ht1;have hn:P1.now=L.length:=hn;have hP:=hs.fs;obtain⟨g,o,cap,hvf,hlt,d0,-,hbl⟩:=h1.own.place hP;obtain⟨gf,og,cf,hyf,hcf,-,-,-,-,-,-⟩:=h1.own.spot hs;have hym:y∈P1.fs:=by rw [hP];simp
  have hfr:(F++[x]).length≤1000:=by
    have:=(h1.own.fs y hym).few
    rwa [hs.fr] at this
  have hlen:(F++[x]).length=F.length+1:=by simp
  have hmN:F.length<(F++[x]).length:=by omega
  have KK:IntKind.i64.wrap (((F++[x]).length:Int) - 1)=(F.length:Int):=by
    have e:(((F++[x]).length:Int) - 1)=(F.length:Int):=by omega
    rw [e];exact IntWalk.i64_in _ (by omega)
  obtain⟨⟨c0,c0'⟩,⟨k1,k1'⟩⟩:=(⟨h1.own.c0,h1.own.c1⟩:_∧_)
  obtain⟨⟨x0,x0'⟩,-⟩:=h1.eng;rw [hn] at k1;rw [hvf] at c0;rw [hyf] at d0;obtain⟨d0,d0'⟩:=d0;have HVF:=eH hvf;have HYF:=eH hyf;have HB:=eH hb;have HP:=eH hP;have HN:=eH hn;have HS:=eH hs;have H1:=eH h1;have HC1:=eH c1;have HS1:=eH s1;have HR1:=eH hr1;clear hvf hyf hb hP hn hs ht1 h1 c1 s1 hr1 hbl hym g1 hr ht hl HT HL hlen ho t2;generalize hN:(F++[x]).length=N at *;have HNN:=eH hN;have hmC:F.length≤cf:=by omega
  clear hN;refine kB (by kernel_rfl) (by kernel_rfl) ?_
  repeat (first
    | go_big_quiet_skip
    | (go_big_quiet_want
       unfold Oper.quiet;apply Exists.intro;refine⟨fun w' hw'=>?_,?_⟩
       focus
         have hcq:=Ext.keep hw';go_simp
         first
           | with_reducible rfl
       (try dsimp only [Act.put])
       (try simp only [xL,xM,xN])
       go_big_quiet_on))
  refine wpQuiet_nil ?_;intro wq hq;obtain⟨d0,d0'⟩:=Cx.ext (W:=w2) ⟨d0,d0'⟩ hq;obtain⟨x0,x0'⟩:=Cx.ext (W:=w2) ⟨x0,x0'⟩ hq;have HQ:=eH hq
  go_upto_region 2 with fail
  refine qD (fun w'=>w'.cell? ⟨g,o+L.length * 2,none⟩=some (.slice (some ⟨gf,og,none⟩) N cf)) 14 [0,1,2,3,4,5,6,7,8,9,10,11,12,13] [14] (by kernel_rfl) (by kernel_rfl) (fun _ _ _ _ _ h=>h) d0 ?_
  (try simp only [zH,List.filterMap_cons,List.filterMap_nil,xO,xP])
  repeat (
    refine zN (by rfl) ?_;apply Exists.intro;refine⟨fun w' hw'=>?_,?_⟩
    focus
      (try dsimp only at hw')
      go_split_ands;go_simp
      (try with_reducible rfl)
    (try dsimp only [Act.put])
    (try simp only [xL,xM,xN]))
  refine zL ?_;refine zC ?_
  go_wp2_with fail
  refine zS ?_;have H1q:=H1.out.ext hq;have h9:=H1q.own.dropTop HS.out HVF.out (by rw [HNN.out];exact HYF.out);obtain⟨o3,c3,b3⟩:=h9;have hE3:EngS _ B b eb p a cp _:=H1q.with (c3.mono (fun k _ hk=>List.mem_cons_of_mem _ hk)) o3 (fun k hk=>.inl (b3 k hk))
  have c4:=eH ((Chg.of_ext hq).trans (c3.mono (M':=fun k=>k∈b::P1.bl) (fun k _ hk=>List.mem_cons_of_mem _ hk)));have HB4:Hid (∀k∈PState.bl { P1 with fs:=L++⟨F,y.caller,.slice (some ⟨gf,og,none⟩) F.length cf⟩::R },k∈P1.bl∨w2.heap.size≤k):=fun k hk=>.inl (b3 k hk)
  have hg3:PState.g { P1 with fs:=L++⟨F,y.caller,.slice (some ⟨gf,og,none⟩) F.length cf⟩::R }=kD P1.g:=by
    unfold kD;refine(uF HP.out (n:=P1.g.now) HN.out ?_).symm;unfold PFiber.g;simp [HS.out.fr]
  have hf3:PState.fs { P1 with fs:=L++⟨F,y.caller,.slice (some ⟨gf,og,none⟩) F.length cf⟩::R }=L++⟨F,y.caller,.slice (some ⟨gf,og,none⟩) F.length cf⟩::R:=rfl;have hn3:PState.now { P1 with fs:=L++⟨F,y.caller,.slice (some ⟨gf,og,none⟩) F.length cf⟩::R }=L.length:=HN.out;have hv3:∃n,PState.vfs { P1 with fs:=L++⟨F,y.caller,.slice (some ⟨gf,og,none⟩) F.length cf⟩::R }=.slice (some ⟨g,o,none⟩) n cap:=⟨_,HVF.out⟩
  have ho3:(PState.g { P1 with fs:=L++⟨F,y.caller,.slice (some ⟨gf,og,none⟩) F.length cf⟩::R }).out.length≤30:=ho1;have hr3:Room (PState.g { P1 with fs:=L++⟨F,y.caller,.slice (some ⟨gf,og,none⟩) F.length cf⟩::R }):=by rw [hg3];exact HR1.out.drop
  have hcur:curF (kD P1.g)=PFiber.g ⟨F,y.caller,.slice (some ⟨gf,og,none⟩) F.length cf⟩:=by rw [←hg3];exact zAn hf3 hn3
  have hfl:(curF (kD P1.g)).frames.length=F.length:=by rw [hcur];show (F.map PFrame.f).length=_;rw [List.length_map]
  have hcl:(curF (kD P1.g)).caller=y.caller:=by rw [hcur];rfl
  have hnow:P1.g.now=L.length:=HN.out;have hdl:(kD P1.g).fibers.length=P1.g.fibers.length:=qK _ _ _;have hlt1:L.length<P1.g.fibers.length:=by unfold PState.g;simpa using hlt
  have hht:0<F.length→zU (kD P1.g) (kD P1.g).now:=fun h0=>by
    refine⟨by show 0≤P1.g.now;omega,by rw [hdl];show P1.g.now<_;omega,?_⟩;show 0<(curF (kD P1.g)).frames.length;rw [hfl];exact h0
  have hfib:0≤(kD P1.g).now∧(kD P1.g).now<(kD P1.g).fibers.length:=⟨by show 0≤P1.g.now;omega,by rw [hdl];show P1.g.now<_;omega⟩
  have HB':=HB.out;rw [hfl] at HB';have HYL:=HY.out;rw [hfl,hcl,show P1.g.now=(kD P1.g).now from rfl] at HYL;generalize ({ P1 with fs:=L++⟨F,y.caller,.slice (some ⟨gf,og,none⟩) F.length cf⟩::R }:PState)=P3 at *;rw [←hg3] at hht hfib HB' HYL hcl;obtain⟨W3,hW3⟩:∃W3,W3=wq.setCell ⟨g,o+L.length * 2,none⟩ (.slice (some ⟨gf,og,none⟩) F.length cf):=⟨_,rfl⟩
  rw [←hW3] at hE3 c4;simp only [←hW3];have hE5:=hE3.ext (eR W3).drew;obtain⟨n3,hv3⟩:=hv3;obtain⟨g',o',cap',e3,-,d0,⟨d1,d1'⟩,-⟩:=hE3.own.place hf3;rw [hv3] at e3;simp only [Value.slice.injEq,Option.some.injEq,Addr.mk.injEq] at e3;obtain⟨⟨rfl,rfl,-⟩,-,-⟩:=e3;obtain⟨d0,d0'⟩:=d0;obtain⟨k1,k1'⟩:=hE3.own.c1;obtain⟨x0,x0'⟩:=hE3.eng.e0;rw [hn3] at k1;have HE3:=eH hE3;have HE5:=eH hE5;have HT3:=eH hht;have HFB:=eH hfib;have HB3:=eH HB';have HR3:=eH hr3;have HCL:=eH hcl;have HYY:=eH HYL;clear hE3 hE5 hht hfib HB' hg3 hf3 hn3 hv3 hr3 HYL hcur hfl hcl hnow c3 HY HB KK hmN o3 b3 H1q hW3 hdl hlt1;generalize hcl:y.caller=cl at *;have HCC:=eH hcl;generalize hm:F.length=m at *;clear hcl hm;by_cases h0:0<m
  · have T:decide ((m:Int) > 0)=true:=decide_eq_true (by omega)
    have T':decide (0<(m:Int))=true:=decide_eq_true (by omega);have HTT:=eH (HT3.out h0);have e:=HYY.out;rw [if_pos h0] at e;have HE:=eH e;clear e
    go_wp2_with (first
      | (go_at_call 159;(with_reducible refine(uG (HE3.out.own.ext (by ((repeat first|assumption|exact eR _|exact And.left (by assumption)|apply eA|apply eD|apply eN|refine eS ?_ (by simp<;>omega) _|refine eT ?_ (by assumption));done))) (HE3.out.eng.ext (by ((repeat first|assumption|exact eR _|exact And.left (by assumption)|apply eA|apply eD|apply eN|refine eS ?_ (by simp<;>omega) _|refine eT ?_ (by assumption));done))) HTT.out HR3.out v hLI (by simp)).mono ?_);rintro e w5 ⟨rfl,t5⟩))
    go_end0;rw [HE.out];exact⟨rfl,Did.of (Turn.step HC1.out HS1.out (Turn.step c4.out HB4.out (Turn.pre (show Ext W3 (W3.alloc (.cells #[.int .i64 v] 3)).drew by ((repeat first|assumption|exact eR _|exact And.left (by assumption)|apply eA|apply eD|apply eN|refine eS ?_ (by simp<;>omega) _|refine eT ?_ (by assumption));done)) t5)))⟩
  · have T:decide ((m:Int) > 0)=false:=decide_eq_false (by omega)
    have T':decide (0<(m:Int))=false:=decide_eq_false (by omega);by_cases hc:cl<0
    · have T2:decide (0≤cl)=false:=decide_eq_false (by omega)
      have e:=HYY.out;rw [if_neg h0,if_pos hc] at e;have HE:=eH e;have HE6:=eH (((HE3.out).setNow (-1) (by unfold I64;decide)).ext (eR _).drew);have HO4:Hid ((PState.g { P3 with now := -1 }).out.length≤30):=ho3;have hfin:∀w5,Did (W3.setCell ⟨b,1,none⟩ (.int .i64 (-1))).drew w5 B b { P3 with now := -1 } (putG { P3.g with now := -1 } v)→Did w w5 B b P (putG { P3.g with now := -1 } v):=fun w5 t5 =>
        Did.step HC1.out HS1.out (Did.step c4.out HB4.out (Did.step (P1:={ P3 with now := -1 }) ((zO W3 b 1 (.int .i64 (-1))).mono (fun k _ hk=>by rw [show k=b from hk];exact List.mem_cons_self)) (fun k hk=>.inl hk) (Did.pre (eR _).drew t5)))
      have HFIN:=eH hfin;clear e hc hfin;obtain⟨rz,hrz⟩:∃rz,(putG { P3.g with now := -1 } v).1=rz:=⟨_,rfl⟩
      have hrz':(putG (PState.g { P3 with now := -1 }) v).1=rz:=hrz;have HRZ:=eH hrz;have HRZ':=eH hrz';clear hrz hrz';by_cases hz:rz=0
      · have HZ:Hid (endS rz=.returned (.tuple #[])):=by unfold Hid endS;rw [if_pos hz]
        clear hz
        go_wp2_with (first
          | (go_at_call 199;(with_reducible refine(zEd HE6.out HO4.out v hLI).mono ?_);rintro e w5 ⟨he,t5⟩;rw [HRZ'.out,HZ.out] at he;subst he))
        go_end0;rw [HE.out,HRZ.out,HZ.out];exact⟨rfl,HFIN.out _ t5⟩
      · have HZ:Hid (endS rz=.panicked (yU rz)):=by unfold Hid endS;rw [if_neg hz]
        clear hz
        go_wp2_with (first
          | (go_at_call 199;(with_reducible refine(zEd HE6.out HO4.out v hLI).mono ?_);rintro e w5 ⟨he,t5⟩;rw [HRZ'.out,HZ.out] at he;subst he))
        rw [HE.out,HRZ.out,HZ.out];exact⟨rfl,rfl,HFIN.out _ t5⟩
    · have T2:decide (0≤cl)=true:=decide_eq_true (by omega)
      have e:=HYY.out;rw [if_neg h0,if_neg hc] at e;have HE:=eH e;have hbk:=(HB3.out.resolve_left h0).resolve_left (by rw [HCL.out];exact hc);have HBK:=eH hbk;clear e hc hbk
      go_wp2_with (first
        | (go_at_call 211;(with_reducible refine(engBack_any HE5.out HFB.out HR3.out HBK.out v hLI).mono ?_);rintro e w5 ⟨rfl,t5⟩))
      go_end0;rw [HE.out];exact⟨rfl,Did.of (Turn.step HC1.out HS1.out (Turn.step c4.out HB4.out (Turn.pre (eR W3).drew t5)))⟩
theorem add_end {w5 w6 Wv:World} {B b gl:Nat} {P:PState} {an:Int} {N:Nat} {v1:Value} (h:OwnS w5 B b P) (hE:Ext w5 w6) (hrow:RowAt w6 w5.heap.size 1 (.slice (some ⟨gl,0,none⟩) N N) N (ints (List.replicate N 0))) (tf tb:TypeId)
  (hRV:kO ((w6.alloc (.cells #[.int .i64 an,.int .i64 0,.slice (some ⟨gl,0,none⟩) N N,.slice none 0 0] tf)).alloc (.cells #[.slice (some ⟨w6.heap.size,0,none⟩) 1 1,.int .i64 (-1)] tb)) Wv B 2 P.vfs v1 (P.fs.length+1) (P.fs.flatMap kK++[.slice (some ⟨w6.heap.size,0,none⟩) 1 1,.int .i64 (-1)]))
  (hgl:w5.heap.size≤gl) (hI:I64 an) (hN:N≤1000) (hl:P.fs.length<1000) :
  Turn w5 (Wv.setCell ⟨b,0,none⟩ v1) B b P { P.g with fibers:=P.g.fibers++[⟨[⟨an,0,List.replicate N 0,[]⟩],-1⟩] }:=by
 obtain⟨r1,r2,r3⟩:=hRV
 let X:PFrame:=⟨⟨an,0,List.replicate N 0,[]⟩,.slice (some ⟨gl,0,none⟩) N N,.slice none 0 0⟩
 let Y:PFiber:=⟨[X],-1,.slice (some ⟨w6.heap.size,0,none⟩) 1 1⟩
 have hBw:B≤w5.heap.size:=Nat.le_trans h.le (Nat.le_of_lt h.c0.lt);have hEm:Ext w5 ((w6.alloc (.cells #[.int .i64 an,.int .i64 0,.slice (some ⟨gl,0,none⟩) N N,.slice none 0 0] tf)).alloc (.cells #[.slice (some ⟨w6.heap.size,0,none⟩) 1 1,.int .i64 (-1)] tb)):=(hE.alloc _).alloc _;have hE6:Ext w6 ((w6.alloc (.cells #[.int .i64 an,.int .i64 0,.slice (some ⟨gl,0,none⟩) N N,.slice none 0 0] tf)).alloc (.cells #[.slice (some ⟨w6.heap.size,0,none⟩) 1 1,.int .i64 (-1)] tb)):=((eR _).alloc _).alloc _;have hold:∀k,zB P.vfs=some k→k<w5.heap.size:=fun k hk=>h.lt k (List.mem_cons_of_mem _ (PState.mem_vfs hk))
 have h56:=hE.size;have hvb:∀k,zB (.slice (some ⟨gl,0,none⟩) N N)=some k→k=gl∧gl<w6.heap.size:=fun k hk=>by
  by_cases h0:N=0
  ·subst h0;simp [zB] at hk
  ·have h1:=hrow.lt2 (by decide) k hk;rw [zK _ _ _ _ h0] at hk
   cases hk
   exact⟨rfl,h1⟩
 have hXO:FrameO Wv B X:=by
  refine⟨⟨hI,I64.zero,fun k hk=>?_,fun k hk=>by cases hk⟩,?_,RowAt.nil _ _ _ _,⟨by show (List.replicate N (0:Int)).length≤1000;rw [List.length_replicate];exact hN,by show 0≤1000;omega⟩⟩
  ·rw [List.eq_of_mem_replicate hk];exact I64.zero
  ·show RowAt Wv B 1 (.slice (some ⟨gl,0,none⟩) N N) (List.replicate N (0:Int)).length (ints (List.replicate N 0));rw [List.length_replicate];refine((hrow.mono hBw).ext hE6 (by decide)).chg r2 (fun k hk e=>?_) (by decide);have:=(hvb k hk).1;have:=hold k e;omega
 have hYO:FiberO Wv B Y:=by
  refine⟨I64.neg1,?_,fun u hu=>?_,by show 1≤1000;omega⟩
  ·have hm:=RowAt.made w6 #[.int .i64 an,.int .i64 0,.slice (some ⟨gl,0,none⟩) N N,.slice none 0 0] tf 4 1 B (by omega) (by unfold maxLen;omega) rfl;refine(hm.ext ((eR _).alloc _) (by decide)).chg r2 (fun k hk e=>?_) (by decide);have hk':w6.heap.size=k:=by simpa [zB] using hk
   have:=hold k e;omega
  ·rw [List.mem_singleton.1 hu];exact hXO
 have hms:((w6.alloc (.cells #[.int .i64 an,.int .i64 0,.slice (some ⟨gl,0,none⟩) N N,.slice none 0 0] tf)).alloc (.cells #[.slice (some ⟨w6.heap.size,0,none⟩) 1 1,.int .i64 (-1)] tb)).heap.size=w6.heap.size+2:=by simp
 have hv1:zB v1=zB P.vfs∨∀k,zB v1=some k→w6.heap.size+2≤k:=r3.imp id fun e k hk=>by have:=e k hk;omega
 have hYbl:∀k∈Y.bl,k=w6.heap.size∨(k=gl∧gl<w6.heap.size):=fun k hk=>by
  unfold PFiber.bl at hk;simp only [Y,List.flatMap_cons,List.flatMap_nil,List.append_nil,List.mem_append] at hk;rcases hk with h1 | h1
  ·left;simpa [zB,eq_comm] using h1
  ·unfold PFrame.bl at h1;rcases List.mem_append.1 h1 with h2 | h2
   ·exact .inr (hvb k (by simpa using h2))
   ·simp [X,zB] at h2
 obtain⟨o9,c9⟩:=h.addFiber (y:=Y) (v1:=v1) ((Chg.of_ext hEm).trans r2) (by
   rw [List.length_append,List.length_singleton,List.flatMap_append];exact r1) hYO hl (hv1.imp id fun e k hk=>by have:=e k hk;omega) (by
   unfold PFiber.bl;simp only [Y,List.flatMap_cons,List.flatMap_nil,List.append_nil];unfold PFrame.bl;rw [show zB X.vs=none from rfl,show zB (.slice (some ⟨w6.heap.size,0,none⟩) 1 1)=some w6.heap.size from zK _ _ _ _ (by decide)]
   cases hr:zB X.vl with
   | none=>simp
   | some k =>
    have h3:=hvb k hr;have h4:w6.heap.size≠k:=by omega
    simp [h4]) (fun k hk=>by
   refine⟨by rcases hYbl k hk with h1 | h1<;>omega,fun e=>?_⟩;rcases hv1 with h2 | h2
   ·have:=hold k (h2 ▸ e);rcases hYbl k hk with h1 | h1<;>omega
   ·have:=h2 k e;rcases hYbl k hk with h1 | h1<;>omega)
 refine⟨⟨_,o9,?_,fun k hk=>?_⟩,c9⟩
 ·unfold PState.g;simp [Y,X,PFiber.g]
 ·unfold PState.bl at hk;simp only [List.flatMap_append,List.mem_append] at hk;rcases hk with (h3 | h3) | h3 | h3
  ·have h4:zB v1=some k:=by simpa using h3
   rcases hv1 with h5 | h5
   ·exact .inl (PState.mem_vfs (h5 ▸ h4))
   ·have:=h5 k h4;exact .inr (by omega)
  ·exact .inl (PState.mem_vo (by simpa using h3))
  ·obtain⟨z,hz,h4⟩:=List.mem_flatMap.1 h3;exact .inl (PState.mem_fs hz h4)
  ·have h4:k∈Y.bl:=by simpa using h3
   exact .inr (by rcases hYbl k h4 with h1 | h1<;>omega)
theorem funcs_turn {w w':World} {B b:Nat} {P:PState} {v:Value} {p:List GFunc} (h:OwnS w B b P) (hp:zM w (·<B) v p) (hc:Chg (·∈b::P.bl) w w'):zM w' (·<B) v p :=
 zM.stays (hc.stays (fun k hk hm=>by have:=h.ge k hm;omega)) hp
theorem zIe (n:Nat) {P:PState} {w:World} {B b eb:Nat} {p:List GFunc} {a:Option Addr} {cp:Nat} (h:EngS w B b eb p a cp P) (hp:zM w (·<B) (.slice a p.length cp) p) (ht:zU P.g P.g.now) (hr:Room P.g) (h5:P.g.fibers.length≤5) (hb:zGd p n) :
  Calls Tryz.prog 196 #[.pointer (some ⟨eb,0,none⟩),.int .i64 n] w fun e w'=>e=endS (zEo p P.g n).1∧Did w w' B b P (zEo p P.g n):=by
 obtain⟨-,hn,hL0,hL9⟩:=hb;have hn:n<p.length:=by omega
 obtain⟨N,hN⟩:∃N:Nat,(zI p n).locals=N:=⟨(zI p n).locals.toNat,by omega⟩
 have hN9:N≤900:=by omega
 have hfl:P.g.fibers.length=P.fs.length:=by unfold PState.g;simp
 rw [hfl] at h5;have hG:zEo p P.g n=if P.fs.length=5 then (2,P.g) else (0,{ kR P.g P.g.now P.fs.length with fibers:=(kR P.g P.g.now P.fs.length).fibers++[⟨[⟨n,0,List.replicate N 0,[]⟩],-1⟩] }):=by
  unfold zEo kY;rw [hfl,hN];rfl
 have hby:=Sl.bd hp;obtain⟨av,cv,ev,hcv,_⟩:=h.own.row.shape;obtain⟨c0,c0'⟩:=h.own.c0;rw [ev] at c0;obtain⟨⟨x0,x0'⟩,⟨x1,x1'⟩⟩:=h.eng;have H:=eH h;have HP:=eH hp;have HT:=eH ht;have HR:=eH hr;have HN:=eH hN;have HG:=eH hG;have HFL:=eH hfl;obtain⟨i2,hi2,hz6,hz7,hz8⟩:=info_parts infoFb;have RA:=zF;clear h hp ht hr hN hG hfl ev hcv hL0 hL9;generalize hM:P.fs.length=M at *;have HM:=eH hM;clear hM;go_enter Tryz.func196,Tryz.ntmps196;rcases Nat.lt_or_ge M 5 with hlt | hlt
 ·have T:decide (((M:Nat):Int)<5)=true:=decide_eq_true (by omega);have HGE:Hid (zEo p P.g n=(0,{ kR P.g P.g.now M with fibers:=(kR P.g P.g.now M).fibers++[⟨[⟨n,0,List.replicate N 0,[]⟩],-1⟩] })):=by unfold Hid;rw [HG.out,if_neg (by omega)]
  go_upto_region 3 with (first
   | (go_at_call 210;(with_reducible refine(jA _ _ _).mono ?_);rintro e w3 ⟨he,rfl⟩;simp only [zBo] at he;subst he)
   | (go_at_call 159;(with_reducible refine(engPush_new H.out.own H.out.eng HT.out HR.out (M:Int) (I64.nat (by omega)) _).mono ?_);rintro e w5 ⟨rfl,t5⟩))
  obtain⟨P5,h5',g5,s5,c5⟩:=H.out.turn t5;have hl5:P5.fs.length=M:=by
   have e1:P5.fs.length=P5.g.fibers.length:=by unfold PState.g;simp
   rw [e1,g5];exact(qK _ _ _).trans HFL.out
  obtain⟨a5,c5v,e5,hc5,hm5⟩:=h5'.own.row.shape;obtain⟨k50,k50'⟩:=h5'.own.c0;rw [e5,hl5] at k50;obtain⟨⟨y0,y0'⟩,⟨y1,y1'⟩⟩:=h5'.eng;have HP5:=eH (funcs_turn H.out.own HP.out c5);have H5:=eH h5';have HG5:=eH g5;have HS5:=eH s5;have HC5:=eH c5;have HL5:=eH hl5;have HE5:=eH e5;have HROW5:Hid (RowAt w5 B 2 (.slice a5 M c5v) M (P5.fs.flatMap kK)):=by unfold Hid;rw [←hl5,←e5];exact h5'.own.row
  have HBW:Hid (B≤w5.heap.size):=Nat.le_trans h5'.own.le (Nat.le_of_lt h5'.own.c0.lt);have HNB:Hid (∀k,zB (.slice a5 M c5v)=some k→k≠b∧k≠eb):=by
   unfold Hid;rw [←hl5,←e5];exact fun k e=>⟨fun e'=>h5'.own.dis.1 (PState.mem_vfs (e' ▸ e)),fun e'=>h5'.off (List.mem_cons_of_mem _ (PState.mem_vfs (e' ▸ e)))⟩
  clear h5' g5 s5 c5 hl5 e5 t5 hc5 hm5 x0 x0' x1 x1' c0 c0';rename World=>w5
  refine zX (fun w'=>w'.cell? ⟨eb,0,none⟩=some (.pointer (some ⟨b,0,none⟩))∧w'.cell? ⟨eb,1,none⟩=some (.slice a p.length cp)∧w'.cell? ⟨b,0,none⟩=some (.slice a5 M c5v))
   23 [0,1,2,3,4,5,6,7,8,9,10,11,12,13,14,15] [16,17,18,19,20,21,22,23] (by kernel_rfl) (by kernel_rfl) (fun _ _ _ _ _ h=>h) (by exact⟨y0,y1,k50⟩) ?_
  (try simp only [zH,List.filterMap_cons,List.filterMap_nil,xO,xP])
  repeat (
   refine zN (by rfl) ?_;apply Exists.intro;refine⟨fun w' hw'=>?_,?_⟩
   focus
    (try dsimp only at hw')
    go_split_ands;go_simp
    (try with_reducible rfl)
   (try dsimp only [Act.put])
   (try simp only [xL,xM,xN]))
  refine zL ?_;have HPD:=eH (zM.stays (Ext.stays (eR w5).drew) HP5.out);refine zC ?_
  go_wp2_with (first
   | (go_at_call 68;(with_reducible refine(frameO_any p _ (·<B) n N _ HPD.out hn HN.out hN9).mono ?_);rintro e w6 ⟨⟨gl,rfl,hrow6,hgl6⟩,hx6⟩))
  have hE6:Ext w5 w6:=(eR w5).drew.trans hx6;have HE6:=eH hE6;have HROW6:Hid (RowAt w6 w5.heap.size 1 (.slice (some ⟨gl,0,none⟩) N N) N (ints (List.replicate N 0))):=hrow6;have HGL:Hid (w5.heap.size≤gl):=hgl6;have S6:=eH (⟨eC hE6 y0,eC hE6 y1,eC hE6 k50⟩:_∧_∧_);clear hE6 hrow6 hgl6 hx6;refine zD S6.out ?_;refine zC ?_
  go_wp2_with fail
  have hA7:Ext w6 (w6.alloc (.cells #[.int .i64 n,.int .i64 0,.slice (some ⟨gl,0,none⟩) N N,.slice none 0 0] 108)):=(eR _).alloc _;have S7:=eH (⟨eC hA7 S6.out.1,eC hA7 S6.out.2.1,eC hA7 S6.out.2.2⟩:_∧_∧_);clear hA7;refine zD S7.out ?_;refine zC ?_
  go_wp2_with fail
  refine zD S7.out ?_;refine zC ?_
  go_wp2_with fail
  have hA8:Ext w6 ((w6.alloc (.cells #[.int .i64 n,.int .i64 0,.slice (some ⟨gl,0,none⟩) N N,.slice none 0 0] 108)).alloc (.cells #[.slice (some ⟨w6.heap.size,0,none⟩) 1 1,.int .i64 (-1)] 112)):=((eR _).alloc _).alloc _;have HA8:=eH hA8;have S8:=eH (⟨eC hA8 S6.out.1,eC hA8 S6.out.2.1,eC hA8 S6.out.2.2⟩:_∧_∧_);clear hA8;have HS66:Hid ((w6.alloc (.cells #[.int .i64 n,.int .i64 0,.slice (some ⟨gl,0,none⟩) N N,.slice none 0 0] 108)).heap.size=w6.heap.size+1):=Array.size_push _;refine zD S8.out ?_;refine zC ?_
  go_wp2_with (first
   | (at_builtin;refine zE rfl _ _ 56 rfl B 112 i2 (.agg #[.slice none 0 0,.int .i64 0]) 2 32 Tryz.underlying56 hi2 hz6 hz7 hz8 rfl (by decide) _ _ _ rfl (by exact(HROW5.out.ext (HE6.out.trans HA8.out) (by decide))) 1 _ (by rw [←HS66.out];exact vZ _ _ 2 rfl (by simp [Value.oneCell']) _) (by unfold maxLen;omega) (by omega) (by exact Nat.le_trans HBW.out (Ext.size (HE6.out.trans HA8.out))) ?_;intro v1 Wv1 rv1;have RV:=eH rv1;obtain⟨a9,cap9,rfl,_,_⟩:=rv1.1.shape;clear rv1))
  have hRV:kO ((w6.alloc (.cells #[.int .i64 n,.int .i64 0,.slice (some ⟨gl,0,none⟩) N N,.slice none 0 0] 108)).alloc (.cells #[.slice (some ⟨w6.heap.size,0,none⟩) 1 1,.int .i64 (-1)] 112)) Wv1 B 2 (.slice a5 M c5v) (.slice a9 (M+1) cap9) (M+1) (P5.fs.flatMap kK++[.slice (some ⟨w6.heap.size,0,none⟩) 1 1,.int .i64 (-1)]):=RV.out;have SS:=eH (⟨Chg.cell hRV.2.1 (fun e=>(HNB.out eb e).2 rfl) S8.out.1,Chg.cell hRV.2.1 (fun e=>(HNB.out eb e).2 rfl) S8.out.2.1,Chg.cell hRV.2.1 (fun e=>(HNB.out b e).1 rfl) S8.out.2.2⟩:_∧_∧_);obtain⟨v0,v0'⟩:=(Cx.ext (W:=w5) ⟨k50,k50'⟩ (HE6.out.trans HA8.out)).chg hRV.2.1 (fun e=>(HNB.out b e).1 rfl);refine zD SS.out ?_;refine zC ?_
  go_wp2_with fail
  refine zD SS.out ?_;refine zC ?_
  go_wp2_with fail
  refine zD SS.out ?_;refine zC ?_
  go_wp2_with fail
  refine zS ?_;go_end0;rw [HGE.out];have hfin:=add_end H5.out.own HE6.out HROW6.out 108 112 (by rw [HE5.out,HL5.out];exact hRV) HGL.out (I64.nat (by omega)) (by omega) (by rw [HL5.out];omega);refine⟨rfl,Did.of (Turn.step HC5.out HS5.out ?_)⟩;rw [HG5.out] at hfin;exact hfin
 ·have T:decide (((M:Nat):Int)<5)=false:=decide_eq_false (by omega);have HGE:Hid (zEo p P.g n=(2,P.g)):=by unfold Hid;rw [HG.out,if_pos (by omega)]
  go_wp2_with (first
   | (go_at_call 210;(with_reducible refine(jA _ _ _).mono ?_);rintro e w3 ⟨he,rfl⟩;simp only [zBo] at he;subst he))
  rw [HGE.out];exact⟨rfl,rfl,⟨Chg.refl _ _,fun h=>by cases h⟩⟩
theorem zAx.ll {B:Nat} {s:GState} {e:Ending} {w:World} (h:zAx B s e w):∃a c ok,e=.returned (.tuple #[.slice a (qH s).length c,.bool ok])∧Ints w (B≤·) (.slice a (qH s).length c) (qH s):=by
 unfold zAx at h;unfold qH
 cases hl:yA s with
 | none=>rw [hl] at h;exact⟨none,0,false,h,Sl.nil _ _ _⟩
 | some l=>rw [hl] at h;obtain⟨a,c,e1,h1⟩:=h;exact⟨a,c,true,e1,h1⟩
theorem funcs_turn' {w w':World} {B b:Nat} {P:PState} {v:Value} {p:List GFunc} (h:OwnS w B b P) (hp:zM w (·<B) v p) (hc:Chg (·∈b::P.bl) w w'):zM w' (·<B) v p :=
 zM.stays (hc.stays (fun k hk hm=>by have:=h.ge k hm;omega)) hp
theorem zAr (c:Bool) (r:Int) (w:World):Calls Tryz.prog 210 #[.bool c,.int .i64 r] w fun e w'=>e=zBo c r∧w=w' :=
 (jA c r w).mono fun _ _ h=>⟨h.1,h.2.symm⟩
theorem EngS.setNow' {w:World} {B b eb:Nat} {p:List GFunc} {a:Option Addr} {cp:Nat} {P:PState} (h:EngS w B b eb p a cp P) (n:Int) (hI:I64 n):EngS (w.setCell ⟨b,1,none⟩ (.int .i64 n)) B b eb p a cp { P with now:=n } :=
 ⟨h.own.setNow n hI,h.eng.chg (zO w b 1 _) (fun e=>h.off (by rw [show eb=b from e];exact List.mem_cons_self)),h.off⟩
def FreshFit (p:List GFunc) (s:GState):Prop:=∀f:GFiber,f=(popG (popG s)).fibers.getD (zR (popG s)).toNat default→0≤zR (popG s)→zR (popG s)<(popG (popG s)).fibers.length→zR (popG s) ∉ qH (popG (popG s))→0<f.frames.length →
 qV p f=decide ((vF f).at_=0)∧∀h:0<f.frames.length,0≤f.frames[0].func∧f.frames[0].func<p.length
theorem zGp {P:PState} {w:World} {B b eb:Nat} {p:List GFunc} {a:Option Addr} {cp:Nat} (h:EngS w B b eb p a cp P) (hp:zM w (·<B) (.slice a p.length cp) p) (ht:zU P.g P.g.now) (hr:Room P.g) (hb:vD P.g) (hff:FreshFit p P.g) :
    Calls Tryz.prog 197 #[.pointer (some ⟨eb,0,none⟩)] w fun e w'=>e=endS (yE P.g).1∧Did w w' B b P (yE P.g):=by
  obtain⟨hl,hco,hloc⟩:=hb;have hLI:=h.own.lastI ht (by omega);have H:=eH h;have HP:=eH hp;have HT:=eH ht;have HL:=eH hl;have HD:=eH (drop_two _ ht hl);have HFF:=eH hff;clear h hp ht hl hff;have RA:=zF;generalize hv:zR P.g=v at *;have HV:=eH hv;generalize hn:zR (popG P.g)=n at *;have HN:=eH hn;clear hv hn;go_enter Tryz.func197,Tryz.ntmps197
  go_upto_region 1 with (first
    | (go_at_call 160;(with_reducible refine(zFy H.out.own H.out.eng HT.out 2 HL.out 2 rfl).mono ?_);rintro e w2 ⟨v1,rfl,hv1,t2⟩;rw [HD.out] at hv1;rw [leave_two] at t2;obtain⟨b1,o1,c1,rfl,c0,c1',hnI,_⟩:=ints_two hv1))
  obtain⟨P2,h2,g2,s2,ch2⟩:=H.out.turn t2;have HP2:=eH (funcs_turn' H.out.own HP.out ch2);clear hv1 t2;refine kB (by kernel_rfl) (by kernel_rfl) ?_
  repeat (first
    | go_big_quiet_skip
    | (go_big_quiet_want
       unfold Oper.quiet;apply Exists.intro;refine⟨fun w' hw'=>?_,?_⟩
       focus
         have hcq:=Ext.keep hw';go_simp
         first
           | with_reducible rfl
       (try dsimp only [Act.put])
       (try simp only [xL,xM,xN])
       go_big_quiet_on))
  refine wpQuiet_nil ?_;intro wq hq;rename World=>wk
  have H2:=eH (h2.ext hq);have HPQ:=eH (zM.stays (Ext.stays hq) HP2.out);have HG2:=eH g2;have HS2:=eH s2;have HC2:=eH (ch2.trans (Chg.of_ext hq));clear h2 g2 s2 ch2 hq c0 c1' HP2 HP;obtain⟨⟨c20,c20'⟩,⟨c21,c21'⟩,⟨c22,c22'⟩⟩:=(⟨H2.out.own.c0,H2.out.own.c1,H2.out.own.c2⟩:_∧_∧_)
  obtain⟨⟨x0,x0'⟩,⟨x1,x1'⟩⟩:=H2.out.eng;have hfw:=H2.out.own.few.1;obtain⟨a2,cp2,e2,_,_⟩:=H2.out.own.row.shape;rw [e2] at c20;have HE2:=eH e2;clear e2;have HY:Hid (yE P.g=if ¬(0≤n∧n<P2.fs.length) then (5,P.g) else if n∈qH P2.g∨(P2.g.fibers.getD n.toNat default).frames.length=0 then (6,P.g) else (0,zHh P2.g n v)):=by
    unfold Hid yE;rw [HN.out,HV.out,←HG2.out];have e:P2.fs.length=P.g.fibers.length:=by
      have:P2.fs.length=P2.g.fibers.length:=by unfold PState.g;simp
      rw [this,HG2.out];unfold popG kT;rw [qK,qK]
    rw [e]
  have hbad:∀w9 (r:Int) , Ext wk w9→r≠0→Did w w9 B b P (r,P.g):=fun w9 r hx hr0=>⟨HC2.out.trans (Chg.of_ext hx),fun h=>absurd h hr0⟩
  have HBAD:=eH hbad;clear hbad;by_cases hn0:0≤n
  case neg =>
    have T1:decide (0≤n)=false:=decide_eq_false hn0;have HE:Hid (yE P.g=(5,P.g)):=by unfold Hid;rw [HY.out,if_pos (fun h=>hn0 h.1)]
    clear hn0
    go_wp2_with (first
      | (go_at_call 210;(with_reducible refine(zAr _ _ _).mono ?_);rintro e w3 ⟨he,rfl⟩;simp only [zBo] at he;subst he))
    rw [HE.out];exact⟨rfl,rfl,HBAD.out _ _ (eR _) (by decide)⟩
  have T1:decide (0≤n)=true:=decide_eq_true hn0;by_cases hn1:n<P2.fs.length
  case neg =>
    have T2:decide (n<(P2.fs.length:Int))=false:=decide_eq_false hn1;have HE:Hid (yE P.g=(5,P.g)):=by unfold Hid;rw [HY.out,if_pos (fun h=>hn1 h.2)]
    clear hn0 hn1
    go_wp2_with (first
      | (go_at_call 210;(with_reducible refine(zAr _ _ _).mono ?_);rintro e w3 ⟨he,rfl⟩;simp only [zBo] at he;subst he))
    rw [HE.out];exact⟨rfl,rfl,HBAD.out _ _ (eR _) (by decide)⟩
  have T2:decide (n<(P2.fs.length:Int))=true:=decide_eq_true hn1;obtain⟨L,y,R,hP,hnL⟩:=hasFib (P:=P2) ⟨hn0,hn1⟩;have hfl:P2.g.fibers.length=P2.fs.length:=by unfold PState.g;simp
  have hcal:Callers P2.g:=(by rw [HG2.out];exact hco:zAj P2.g).callers (by rw [hfl];exact hfw);have HCAL:=eH hcal;have hst:=(H2.out.own).state (fun g=>B≤g) (fun _ h=>h);rw [HE2.out] at hst;have HST:=eH hst;obtain⟨g,o,cap,hvf,hlt,d0,d1,hbl⟩:=(H2.out.own).place hP;have HVF:=eH hvf;rw [HE2.out] at hvf;simp only [Value.slice.injEq,true_and] at hvf;obtain⟨rfl,rfl⟩:=hvf;have e:=HY.out;rw [if_neg (fun h=>h ⟨hn0,hn1⟩),hnL,Int.toNat_natCast,zBx hP] at e;have hlen:y.g.frames.length=y.fr.length:=by unfold PFiber.g;simp
  rw [hlen] at e;have HYY:=eH e;have hym:y∈P2.fs:=by rw [hP];simp
  have hyO:=(H2.out.own).fs y hym;obtain⟨ay,cy,ey,_,_⟩:=hyO.row.shape;rw [ey] at d0;obtain⟨d0,d0'⟩:=d0;have hFV:uW wk (B≤·) (.agg #[.slice ay y.fr.length cy,.int .i64 y.caller]) y.g:=⟨_,rfl,by rw [←ey];exact hyO.frames _ (fun _ h=>h),hyO.i⟩
  have HFV:=eH hFV;have HEY:=eH ey;have HP2:=eH hP;have hloc2:0<y.fr.length→(vF y.g).at_=0→0<(vF y.g).locals.length:=by
    have:=hloc;rw [←HG2.out,hnL,Int.toNat_natCast,zBx hP,hfl,hlen] at this;exact fun hf=>this ⟨by omega,by omega,hf⟩
  have HLOC:=eH hloc2;have hff2:(L.length:Int) ∉ qH P2.g→0<y.fr.length→qV p y.g=decide ((vF y.g).at_=0)∧∀h:0<y.g.frames.length,0≤y.g.frames[0].func∧y.g.frames[0].func<p.length:=by
    have:=HFF.out y.g;rw [HN.out,←HG2.out,hnL,Int.toNat_natCast,zBx hP,hfl] at this;exact fun h1 h2=>this rfl (by omega) (by omega) h1 (by rw [hlen];exact h2)
  have HF2:=eH hff2;have D1:=eH d1;subst hnL;have hnF:L.length<(P2.fs).length:=hlt;clear hcal hst e hlen hym ey hP hloc2 hco hloc HY d1 hfl hff2 HFF hFV hyO hn0 hn1;by_cases hm:(L.length:Int)∈qH P2.g
  · have HM:Hid (decide ((L.length:Int)∈qH P2.g)=true):=decide_eq_true hm
    have e:=HYY.out;rw [if_pos (Or.inl hm)] at e;have HE:=eH e;clear e hm
    go_wp2_with (first
      | (go_at_call 210;(with_reducible refine(zAr _ _ _).mono ?_);rintro e w3 ⟨he,rfl⟩;simp only [zBo] at he;subst he)
      | (go_at_call 109;(with_reducible refine(zFg P2.g _ _ _ HST.out HCAL.out).mono ?_);rintro e w5 ⟨hlr,hx5⟩;obtain⟨al,cl,ok,rfl,hline⟩:=hlr.ll;have HLN:=eH hline;have HX5:=eH hx5;clear hlr hline)
      | (go_at_call 90;(with_reducible refine(qI (qH P2.g) _ _ _ _ HLN.out).mono ?_);rintro e w6 ⟨rfl,hx6⟩;rw [HM.out]))
    rw [HE.out];exact⟨rfl,rfl,HBAD.out _ _ (HX5.out.trans hx6) (by decide)⟩
  have HM:Hid (decide ((L.length:Int)∈qH P2.g)=false):=decide_eq_false hm;have HNM:=eH hm;by_cases hz:y.fr.length=0
  · have T3:decide ((y.fr.length:Int) > 0)=false:=decide_eq_false (by omega)
    have T3':decide (0<(y.fr.length:Int))=false:=decide_eq_false (by omega);have T3n:decide (0<y.fr.length)=false:=decide_eq_false (by omega);have e:=HYY.out;rw [if_pos (Or.inr hz)] at e;have HE:=eH e;clear e hm hz
    go_wp2_with (first
      | (go_at_call 210;(with_reducible refine(zAr _ _ _).mono ?_);rintro e w3 ⟨he,rfl⟩;simp only [zBo] at he;subst he)
      | (go_at_call 109;(with_reducible refine(zFg P2.g _ _ _ HST.out HCAL.out).mono ?_);rintro e w5 ⟨hlr,hx5⟩;obtain⟨al,cl,ok,rfl,hline⟩:=hlr.ll;have HLN:=eH hline;have HX5:=eH hx5;clear hlr hline)
      | (go_at_call 90;(with_reducible refine(qI (qH P2.g) _ _ _ _ HLN.out).mono ?_);rintro e w6 ⟨rfl,hx6⟩;rw [HM.out];have f0:=eC (HX5.out.trans hx6) c20;have f1:=eC (HX5.out.trans hx6) d0;have f2:=eC (HX5.out.trans hx6) x0))
    rw [HE.out];exact⟨rfl,rfl,HBAD.out _ _ (HX5.out.trans hx6) (by decide)⟩
  have T3:decide ((y.fr.length:Int) > 0)=true:=decide_eq_true (by omega);have T3':decide (0<(y.fr.length:Int))=true:=decide_eq_true (by omega);have T3n:decide (0<y.fr.length)=true:=decide_eq_true (by omega);have e:=HYY.out;rw [if_neg (by rintro (h | h);exact hm h;exact hz h)] at e;have HE:=eH e;obtain⟨F,x,hfr⟩:=jP y.fr (by omega);have HFR:=eH hfr;obtain⟨hfb,hfn⟩:=HF2.out hm (by omega);have HFB:=eH hfb;have HFN:=eH hfn;clear e hm hz HYY hfr hfb hfn HF2
  go_upto_region 5 with (first
    | (go_at_call 210;(with_reducible refine(zAr _ _ _).mono ?_);rintro e w3 ⟨he,rfl⟩;simp only [zBo] at he;subst he)
    | (go_at_call 109;(with_reducible refine(zFg P2.g _ _ _ HST.out HCAL.out).mono ?_);rintro e w5 ⟨hlr,hx5⟩;obtain⟨al,cl,ok,rfl,hline⟩:=hlr.ll;have HLN:=eH hline;have HX5:=eH hx5;clear hlr hline)
    | (go_at_call 90;(with_reducible refine(qI (qH P2.g) _ _ _ _ HLN.out).mono ?_);rintro e w6 ⟨rfl,hx6⟩;rw [HM.out];have f0:=eC (HX5.out.trans hx6) c20;have f1:=eC (HX5.out.trans hx6) d0;have f2:=eC (HX5.out.trans hx6) x0))
  have HX6:=eH (HX5.out.trans hx6);obtain⟨y1,y1'⟩:=Cx.ext (W:=wk) ⟨x1,x1'⟩ HX6.out;have f3:=eC HX6.out D1.out.1;clear hx6;obtain⟨rfb,hrfb⟩:∃rfb,qV p y.g=rfb:=⟨_,rfl⟩
  have HRF:=eH hrfb;clear hrfb;have HP6:=eH (zM.stays (Ext.stays HX6.out) HPQ.out);have HV6:=eH (uW.stays (Ext.stays HX6.out) HFV.out);refine kB (by kernel_rfl) (by kernel_rfl) ?_
  repeat (first
    | go_big_quiet_skip
    | (go_big_quiet_want
       unfold Oper.quiet;apply Exists.intro;refine⟨fun w' hw'=>?_,?_⟩
       focus
         have hcq:=Ext.keep hw';go_simp
         first
           | with_reducible rfl
           | (go_at_call 142;refine(zBm p _ _ _ y.g _ _ (zM.stays (Ext.stays hw') HP6.out) (uW.stays (Ext.stays hw') HV6.out) HFN.out).mono ?_;rintro e w8 ⟨rfl,hx8⟩;rw [HRF.out];exact⟨rfl,hw'.trans hx8⟩)
       (try dsimp only [Act.put])
       (try simp only [xL,xM,xN])
       go_big_quiet_on))
  refine wpQuiet_nil ?_;intro wq hq;rename World=>w7
  have HE7:=eH (HX6.out.trans hq);obtain⟨y0,y0'⟩:=Cx.ext (W:=wk) ⟨x0,x0'⟩ HE7.out;obtain⟨z0,z0'⟩:=Cx.ext (W:=wk) ⟨c20,c20'⟩ HE7.out;obtain⟨z1,z1'⟩:=Cx.ext (W:=wk) ⟨c21,c21'⟩ HE7.out;obtain⟨e1,e1'⟩:=D1.out.ext HE7.out;have hgb:g≠b:=fun e=>H2.out.own.dis.1 (e ▸ PState.mem_vfs hbl)
  have hbg:b≠g:=fun e=>hgb e.symm
  have heg:eb≠g:=fun e=>H2.out.off (List.mem_cons_of_mem _ (e ▸ PState.mem_vfs hbl))
  clear hq y1 y1' f0 f1 f2 f3
  go_upto_region 6 with fail
  refine qD (fun w'=>w'.cell? ⟨eb,0,none⟩=some (.pointer (some ⟨b,0,none⟩))∧w'.cell? ⟨b,0,none⟩=some (.slice (some ⟨g,o,none⟩) P2.fs.length cp2)∧w'.cell? ⟨b,1,none⟩=some (.int .i64 P2.now)) 25 [0,1,2,3,4,5,6,7,8,9,10,11,12,13,14,15,16,17,18,19,20,21] [22,23,24,25] (by kernel_rfl) (by kernel_rfl) (fun _ _ _ _ _ h=>h) (by exact⟨y0,z0,z1⟩) ?_
  (try simp only [zH,List.filterMap_cons,List.filterMap_nil,xO,xP])
  repeat (
    refine zN (by rfl) ?_;apply Exists.intro;refine⟨fun w' hw'=>?_,?_⟩
    focus
      (try dsimp only at hw')
      go_split_ands;go_simp
      (try with_reducible rfl)
    (try dsimp only [Act.put])
    (try simp only [xL,xM,xN]))
  refine zL ?_;have S7:=eH (⟨(Cx.other (W:=w7) ⟨y0,y0'⟩ (b':=g) (j':=o+L.length * 2+1) (.inl heg) (.int .i64 P2.now)).1,(Cx.other (W:=w7) ⟨z0,z0'⟩ (b':=g) (j':=o+L.length * 2+1) (.inl hbg) (.int .i64 P2.now)).1,(Cx.other (W:=w7) ⟨z1,z1'⟩ (b':=g) (j':=o+L.length * 2+1) (.inl hbg) (.int .i64 P2.now)).1⟩:_∧_∧_);refine zC ?_
  go_wp2_with fail
  refine zD (by exact S7.out) ?_;refine zC ?_
  go_wp2_with fail
  refine zD (by exact S7.out) ?_;refine zC ?_
  go_wp2_with fail
  refine zD (by exact S7.out) ?_;refine zC ?_
  go_wp2_with fail
  refine zS ?_;have hI:I64 (L.length:Int):=hnI;have h7:=H2.out.ext HE7.out;obtain⟨o7,c7⟩:=h7.own.setCaller HP2.out HVF.out P2.now (h7.own.i.1);have hE7:EngS _ B b eb p a cp _:=h7.with (c7.mono (fun k _ hk=>List.mem_cons_of_mem _ hk)) o7 (fun k hk=>.inl (by
    unfold PState.bl at hk ⊢;rw [HP2.out];simp only [List.flatMap_append,List.flatMap_cons] at hk ⊢;exact hk))
  have hE8:=hE7.setNow' (L.length:Int) hI;have C8:=eH ((Chg.of_ext HE7.out).trans (c7.mono (M':=fun k=>k∈b::P2.bl) (fun k _ hk=>List.mem_cons_of_mem _ hk)) |>.trans ((zO _ b 1 (.int .i64 (L.length:Int))).mono (fun k _ hk=>by rw [show k=b from hk];exact List.mem_cons_self)));obtain⟨W8,hW8⟩:∃W8,W8=(w7.setCell ⟨g,o+L.length * 2+1,none⟩ (.int .i64 P2.now)).setCell ⟨b,1,none⟩ (.int .i64 (L.length:Int)):=⟨_,rfl⟩
  rw [←hW8] at hE8 C8;simp only [←hW8];obtain⟨P4,HO8,hs4,hn4,hg4,hb4⟩:∃P4,Hid (EngS W8 B b eb p a cp P4)∧Spot P4 L { y with caller:=P2.now } R F x∧P4.now=(L.length:Int)∧P4.g={ kN P2.g (L.length:Int) (fun f=>{ f with caller:=P2.g.now }) with now:=(L.length:Int) }∧∀k∈P4.bl,k∈P2.bl∨wk.heap.size≤k:=by
    refine⟨_,eH hE8,⟨rfl,HFR.out⟩,rfl,?_,fun k hk=>.inl ?_⟩
    · have e:=uF (n:=(L.length:Int)) HP2.out rfl (y':={ y with caller:=P2.now }) (g:=fun f=>{ f with caller:=P2.g.now }) rfl
      rw [e];rfl
    · unfold PState.bl at hk ⊢
      rw [HP2.out];simp only [List.flatMap_append,List.flatMap_cons] at hk ⊢;exact hk
  obtain⟨gf,og,cf,hvf4,_,_,q0,q1,q2,_,_⟩:=(HO8.out).own.spot hs4;have X2:=eH q2;have HV4:=eH hvf4;have HS4:=eH hs4;have HN4:=eH hn4;have hat:vF y.g=x.f:=top_at HFR.out;have HW:Hid (zHh P2.g (L.length:Int) v=if x.f.at_=0 then kT P4.g (L.length:Int) (fun z=>{ z with locals:=z.locals.set 0 v }) else kR P4.g (L.length:Int) v):=by
    unfold Hid zHh;rw [Int.toNat_natCast,zBx HP2.out,hat,hg4]
  have hlc:=HLOC.out (by rw [HFR.out];simp);rw [hat] at hlc;have HLC:=eH hlc;have hrf:decide (x.f.at_=0)=rfb:=by rw [←hat,←HFB.out];exact HRF.out
  have HRB:=eH hrf;have ht4:zU P4.g P4.g.now:=by
    have e:P4.g.now=(L.length:Int):=hn4;rw [e];refine⟨by omega,?_,?_⟩
    · show (L.length:Int)<((P4.fs.map PFiber.g).length:Nat)
      rw [hs4.fs];simp;omega
    · rw [Int.toNat_natCast,zBx hs4.fs]
      show 0<(y.fr.map PFrame.f).length;rw [HFR.out];simp
  have HT4:=eH ht4;have hr4:Room P4.g:=by
    rw [hg4,HG2.out];exact((hr.pop).pop).caller _ _
  have HR4:=eH hr4;clear q0 q1 q2 hvf4 hs4 hat hlc hg4 o7 c7 hn4 hrf ht4 hr4 h7 hE7 hE8 hW8 y0 y0' z0 z0' z1 z1' e1 e1' S7;by_cases ha:x.f.at_=0
  · have HRT:Hid (rfb=true):=by unfold Hid;rw [←HRB.out];exact decide_eq_true ha
    obtain rfl:=HRT.out;have e:=HW.out;rw [if_pos ha] at e;have HWE:=eH e;have h0l:=HLC.out ha;have hxO:=((HO8.out).own.fs { y with caller:=P2.now } (by rw [HS4.out.fs];simp)).fr x (by rw [HS4.out.fr];simp);obtain⟨al9,cl9,ex,hcl,_⟩:=hxO.l.shape;have hlr:=hxO.l;rw [ex] at hlr;obtain⟨gl,ol,rfl,_,hcells⟩:=hlr.cell h0l;have z0:=(hcells 0 (by omega)).1;rw [vL _ _ h0l] at z0;have Z0:Hid (Cx W8 gl ol (.int .i64 (x.f.locals.getD 0 0))):=eH ⟨z0,(hcells 0 (by omega)).2⟩;have HEX:=eH ex;have X3:Hid (Cx W8 gf (og+F.length * 4+2) (.slice (some ⟨gl,ol,none⟩) x.f.locals.length cl9)):=by unfold Hid;rw [←ex];exact X2.out
    clear e ha hlr hcells hxO ex z0
    go_wp2_with (first
      | (go_at_call 158;(with_reducible refine(zEc (HO8.out.own.ext (by ((repeat first|assumption|exact eR _|exact And.left (by assumption)|apply eA|apply eD|apply eN|refine eS ?_ (by simp<;>omega) _|refine eT ?_ (by assumption));done))) (HO8.out.eng.ext (by ((repeat first|assumption|exact eR _|exact And.left (by assumption)|apply eA|apply eD|apply eN|refine eS ?_ (by simp<;>omega) _|refine eT ?_ (by assumption));done))) HS4.out HV4.out HN4.out).mono ?_);rintro e w9 ⟨rfl,hx9⟩;have hx9:=(eR W8).drew.trans hx9;obtain⟨x3,x3'⟩:=(X3.out).ext hx9;obtain⟨z0,z0'⟩:=(Z0.out).ext hx9;have HX9:=eH hx9;clear hx9))
    refine bodyPost_ret (results_none rfl _ _ _) rfl ?_;rw [HE.out,HWE.out];obtain⟨o9,c9⟩:=((HO8.out).own.ext HX9.out).setLocal HS4.out HEX.out 0 h0l v hLI;exact⟨rfl,Did.of (Turn.step HC2.out HS2.out (Turn.step ((C8.out).trans (Chg.of_ext HX9.out)) hb4 ⟨⟨_,o9,(qC HS4.out rfl rfl).symm,yO HS4.out (fun k hk=>.inl hk)⟩,c9⟩))⟩
  · have HRT:Hid (rfb=false):=by unfold Hid;rw [←HRB.out];exact decide_eq_false ha
    obtain rfl:=HRT.out;have e:=HW.out;rw [if_neg ha] at e;have HWE:=eH e;clear e ha
    go_wp2_with (first
      | (go_at_call 159;(with_reducible refine(uG (HO8.out.own.ext (by ((repeat first|assumption|exact eR _|exact And.left (by assumption)|apply eA|apply eD|apply eN|refine eS ?_ (by simp<;>omega) _|refine eT ?_ (by assumption));done))) (HO8.out.eng.ext (by ((repeat first|assumption|exact eR _|exact And.left (by assumption)|apply eA|apply eD|apply eN|refine eS ?_ (by simp<;>omega) _|refine eT ?_ (by assumption));done))) HT4.out HR4.out v hLI (by simp)).mono ?_);rintro e w10 ⟨rfl,t10⟩))
    go_end0;rw [HE.out,HWE.out];rw [show P4.g.now=(L.length:Int) from HN4.out] at t10;exact⟨rfl,Did.of (Turn.step HC2.out HS2.out (Turn.step C8.out hb4 (Turn.pre (show Ext W8 (W8.alloc (.cells #[.int .i64 v] 3)).drew by ((repeat first|assumption|exact eR _|exact And.left (by assumption)|apply eA|apply eD|apply eN|refine eS ?_ (by simp<;>omega) _|refine eT ?_ (by assumption));done)) t10)))⟩
structure FarFit (p:List GFunc) (s:GState) (k:Int):Prop where
 out:s.out.length≤30
 fibers:s.fibers.length≤5
 frames:(curF s).frames.length≤6
 fresh:k=14→FreshFit p s
theorem engFar_any {P:PState} {w:World} {B b eb:Nat} {p:List GFunc} {a:Option Addr} {cp:Nat} (k c:Int) (h:EngS w B b eb p a cp P) (hp:zM w (·<B) (.slice a p.length cp) p) (ht:zU P.g P.g.now) (hr:Room P.g) (hw:zV p P.g k c) (hi:FarFit p P.g k) (hk:11≤k∧k≤16) :
  Calls Tryz.prog 169 #[.pointer (some ⟨eb,0,none⟩),.agg #[.int .i64 k,.int .i64 c]] w fun e w'=>e=endS (zQ p P.g k c).1∧Did w w' B b P (zQ p P.g k c):=by
 have he:Ext w (w.alloc (.cells #[.int .i64 k,.int .i64 c] 51)):=(eR _).alloc _;have H1:=eH (h.ext he);have HP1:=eH (zM.stays (Ext.stays he) hp);have HT:=eH ht;have HR:=eH hr;have HI:=eH hi;have RA:=zF;clear h hp ht hr hi he;have hcs:k=11∨k=12∨k=13∨k=14∨k=15∨k=16:=by omega
 obtain⟨r,hwr⟩:∃r,zQ p P.g k c=r:=⟨_,rfl⟩
 rw [hwr];have HW:=eH hwr;have hfin:∀w2,Did (w.alloc (.cells #[.int .i64 k,.int .i64 c] 51)) w2 B b P r→Did w w2 B b P r:=fun w2 d=>Did.pre ((eR _).alloc _) d
 have HFIN:=eH hfin;clear hwr hfin hk;obtain⟨r1,hr1⟩:∃r1,r.1=r1:=⟨_,rfl⟩
 rw [hr1];have HR1:=eH hr1;clear hr1;rcases hcs with rfl | rfl | rfl | rfl | rfl | rfl
 ·have hcf:zEm p P.g c:=by simpa [zV] using hw
  obtain⟨n,rfl⟩:∃n:Nat,c=n:=⟨c.toNat,by have:=hcf.1;omega⟩
  have HCF:=eH hcf;have HWE:Hid (zAw p P.g n=r):=by unfold Hid;rw [←HW.out];simp [zQ]
  clear hw hcf HW;by_cases hz:r1=0
  ·have HZ:Hid (endS r1=.returned (.tuple #[])):=by unfold Hid endS;rw [if_pos hz]
   clear hz;go_enter Tryz.func169,Tryz.ntmps169
   go_wp2_with (first
    | (go_at_call 194;(with_reducible refine(engCall_any n H1.out HP1.out HT.out HI.out.frames HCF.out).mono ?_);rintro e w2 ⟨he,d2⟩;rw [HWE.out,HR1.out,HZ.out] at he;rw [HWE.out] at d2;subst he))
   go_end0;rw [HZ.out];exact⟨rfl,HFIN.out _ d2⟩
  ·have HZ:Hid (endS r1=.panicked (yU r1)):=by unfold Hid endS;rw [if_neg hz]
   clear hz;go_enter Tryz.func169,Tryz.ntmps169
   go_wp2_with (first
    | (go_at_call 194;(with_reducible refine(engCall_any n H1.out HP1.out HT.out HI.out.frames HCF.out).mono ?_);rintro e w2 ⟨he,d2⟩;rw [HWE.out,HR1.out,HZ.out] at he;rw [HWE.out] at d2;subst he))
   rw [HZ.out];exact⟨rfl,rfl,HFIN.out _ d2⟩
 ·have hcf:vC P.g:=by simpa [zV] using hw
  have HCF:=eH hcf;have HWE:Hid (yX P.g=r):=by unfold Hid;rw [←HW.out];simp [zQ]
  clear hw hcf HW;by_cases hz:r1=0
  ·have HZ:Hid (endS r1=.returned (.tuple #[])):=by unfold Hid endS;rw [if_pos hz]
   clear hz;go_enter Tryz.func169,Tryz.ntmps169
   go_wp2_with (first
    | (go_at_call 195;(with_reducible refine(engGive_any H1.out HT.out HR.out HI.out.out HCF.out).mono ?_);rintro e w2 ⟨he,d2⟩;rw [HWE.out,HR1.out,HZ.out] at he;rw [HWE.out] at d2;subst he))
   go_end0;rw [HZ.out];exact⟨rfl,HFIN.out _ d2⟩
  ·have HZ:Hid (endS r1=.panicked (yU r1)):=by unfold Hid endS;rw [if_neg hz]
   clear hz;go_enter Tryz.func169,Tryz.ntmps169
   go_wp2_with (first
    | (go_at_call 195;(with_reducible refine(engGive_any H1.out HT.out HR.out HI.out.out HCF.out).mono ?_);rintro e w2 ⟨he,d2⟩;rw [HWE.out,HR1.out,HZ.out] at he;rw [HWE.out] at d2;subst he))
   rw [HZ.out];exact⟨rfl,rfl,HFIN.out _ d2⟩
 ·have hcf:zGd p c:=by simpa [zV] using hw
  obtain⟨n,rfl⟩:∃n:Nat,c=n:=⟨c.toNat,by have:=hcf.1;omega⟩
  have HCF:=eH hcf;have HWE:Hid (zEo p P.g n=r):=by unfold Hid;rw [←HW.out];simp [zQ]
  clear hw hcf HW;by_cases hz:r1=0
  ·have HZ:Hid (endS r1=.returned (.tuple #[])):=by unfold Hid endS;rw [if_pos hz]
   clear hz;go_enter Tryz.func169,Tryz.ntmps169
   go_wp2_with (first
    | (go_at_call 196;(with_reducible refine(zIe n H1.out HP1.out HT.out HR.out HI.out.fibers HCF.out).mono ?_);rintro e w2 ⟨he,d2⟩;rw [HWE.out,HR1.out,HZ.out] at he;rw [HWE.out] at d2;subst he))
   go_end0;rw [HZ.out];exact⟨rfl,HFIN.out _ d2⟩
  ·have HZ:Hid (endS r1=.panicked (yU r1)):=by unfold Hid endS;rw [if_neg hz]
   clear hz;go_enter Tryz.func169,Tryz.ntmps169
   go_wp2_with (first
    | (go_at_call 196;(with_reducible refine(zIe n H1.out HP1.out HT.out HR.out HI.out.fibers HCF.out).mono ?_);rintro e w2 ⟨he,d2⟩;rw [HWE.out,HR1.out,HZ.out] at he;rw [HWE.out] at d2;subst he))
   rw [HZ.out];exact⟨rfl,rfl,HFIN.out _ d2⟩
 ·have hcf:vD P.g:=by simpa [zV] using hw
  have HCF:=eH hcf;have HWE:Hid (yE P.g=r):=by unfold Hid;rw [←HW.out];simp [zQ]
  clear hw hcf HW;by_cases hz:r1=0
  ·have HZ:Hid (endS r1=.returned (.tuple #[])):=by unfold Hid endS;rw [if_pos hz]
   clear hz;go_enter Tryz.func169,Tryz.ntmps169
   go_wp2_with (first
    | (go_at_call 197;(with_reducible refine(zGp H1.out HP1.out HT.out HR.out HCF.out (HI.out.fresh rfl)).mono ?_);rintro e w2 ⟨he,d2⟩;rw [HWE.out,HR1.out,HZ.out] at he;rw [HWE.out] at d2;subst he))
   go_end0;rw [HZ.out];exact⟨rfl,HFIN.out _ d2⟩
  ·have HZ:Hid (endS r1=.panicked (yU r1)):=by unfold Hid endS;rw [if_neg hz]
   clear hz;go_enter Tryz.func169,Tryz.ntmps169
   go_wp2_with (first
    | (go_at_call 197;(with_reducible refine(zGp H1.out HP1.out HT.out HR.out HCF.out (HI.out.fresh rfl)).mono ?_);rintro e w2 ⟨he,d2⟩;rw [HWE.out,HR1.out,HZ.out] at he;rw [HWE.out] at d2;subst he))
   rw [HZ.out];exact⟨rfl,rfl,HFIN.out _ d2⟩
 ·have hcf:1≤(curX P.g).stack.length∧zAp (popG P.g):=by simpa [zV] using hw
  have HCF:=eH hcf;have HWE:Hid (yT P.g=r):=by unfold Hid;rw [←HW.out];simp [zQ]
  clear hw hcf HW;by_cases hz:r1=0
  ·have HZ:Hid (endS r1=.returned (.tuple #[])):=by unfold Hid endS;rw [if_pos hz]
   clear hz;go_enter Tryz.func169,Tryz.ntmps169
   go_wp2_with (first
    | (go_at_call 198;(with_reducible refine(zId H1.out HT.out HR.out HCF.out.1 HCF.out.2).mono ?_);rintro e w2 ⟨he,d2⟩;rw [HWE.out,HR1.out,HZ.out] at he;rw [HWE.out] at d2;subst he))
   go_end0;rw [HZ.out];exact⟨rfl,HFIN.out _ d2⟩
  ·have HZ:Hid (endS r1=.panicked (yU r1)):=by unfold Hid endS;rw [if_neg hz]
   clear hz;go_enter Tryz.func169,Tryz.ntmps169
   go_wp2_with (first
    | (go_at_call 198;(with_reducible refine(zId H1.out HT.out HR.out HCF.out.1 HCF.out.2).mono ?_);rintro e w2 ⟨he,d2⟩;rw [HWE.out,HR1.out,HZ.out] at he;rw [HWE.out] at d2;subst he))
   rw [HZ.out];exact⟨rfl,rfl,HFIN.out _ d2⟩
 ·have hcf:1≤(curX P.g).stack.length:=by simpa [zV] using hw
  have HCF:=eH hcf;have HWE:Hid (putG (popG P.g) (zR P.g)=r):=by unfold Hid;rw [←HW.out];simp [zQ]
  have hLI:=H1.out.own.lastI HT.out hcf;clear hw hcf HW;generalize hlv:zR P.g=v at *;have HLV:=eH hlv;clear hlv;by_cases hz:r1=0
  ·have HZ:Hid (endS r1=.returned (.tuple #[])):=by unfold Hid endS;rw [if_pos hz]
   clear hz;go_enter Tryz.func169,Tryz.ntmps169
   go_wp2_with (first
    | (go_at_call 161;(with_reducible refine(zEe H1.out.own H1.out.eng HT.out HCF.out).mono ?_);rintro e w2 ⟨rfl,t2⟩;rw [HLV.out];obtain⟨P2,h2,g2,s2,c2⟩:=H1.out.turn t2;have H2:=eH h2;have HG2:=eH g2;have HS2:=eH s2;have HC2:=eH c2;have HO2:Hid (P2.g.out.length≤30):=(by unfold Hid;rw [g2];exact HI.out.out);clear t2 h2 g2 s2 c2)
    | (go_at_call 199;(with_reducible refine(zEd H2.out HO2.out v hLI).mono ?_);rintro e w3 ⟨he,d3⟩;rw [HG2.out,HWE.out,HR1.out,HZ.out] at he;rw [HG2.out,HWE.out] at d3;subst he))
   go_end0;rw [HZ.out];exact⟨rfl,HFIN.out _ (Did.step HC2.out HS2.out d3)⟩
  ·have HZ:Hid (endS r1=.panicked (yU r1)):=by unfold Hid endS;rw [if_neg hz]
   clear hz;go_enter Tryz.func169,Tryz.ntmps169
   go_wp2_with (first
    | (go_at_call 161;(with_reducible refine(zEe H1.out.own H1.out.eng HT.out HCF.out).mono ?_);rintro e w2 ⟨rfl,t2⟩;rw [HLV.out];obtain⟨P2,h2,g2,s2,c2⟩:=H1.out.turn t2;have H2:=eH h2;have HG2:=eH g2;have HS2:=eH s2;have HC2:=eH c2;have HO2:Hid (P2.g.out.length≤30):=(by unfold Hid;rw [g2];exact HI.out.out);clear t2 h2 g2 s2 c2)
    | (go_at_call 199;(with_reducible refine(zEd H2.out HO2.out v hLI).mono ?_);rintro e w3 ⟨he,d3⟩;rw [HG2.out,HWE.out,HR1.out,HZ.out] at he;rw [HG2.out,HWE.out] at d3;subst he))
   rw [HZ.out];exact⟨rfl,rfl,HFIN.out _ (Did.step HC2.out HS2.out d3)⟩
end Go.Proofs.YtpcjkfppacnkgaaGreatDoor
