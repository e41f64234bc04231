/- Contracts and plain facts. -/
import Derived.Test.YtpcjkfppacnkgaaGreatDoorGPAT
set_option maxHeartbeats 4000000
set_option maxRecDepth 100000
namespace Go.Proofs.YtpcjkfppacnkgaaGreatDoor
open Go Go.RowKit
theorem src_two (w:World) (t:TypeId):qL (w.alloc (.cells #[txtV [],txtV []] t)) 1 (.slice (some ⟨w.heap.size,0,none⟩) 2 2) 2 [txtV [],txtV []]:=by
 refine⟨_,2,rfl,rfl,by simp [txtV,Value.oneCell'],.inr ⟨_,rfl,fun j u hj=>?_⟩⟩
 match j,hj with
 | 0,hj=>cases hj;rw [Addr.add_zero'];exact World.cell?_alloc_new w _ _ 0
 | 1,hj=>cases hj;exact World.cell?_alloc_new w _ _ 1
def FromRet (w:World) (s:By) (e:Ending) (w':World):Prop:=∃v,e=.returned (.tuple #[v,.bool (docT s).1])∧zM w' (w.heap.size≤·) v (docT s).2
theorem lineG_at_func {l x0 x1 x2:By} {xr:List By} (h:qY l=x0::x1::x2::xr) (h0:x0=zBc) (p:List GFunc):zAt p l=p++[⟨numG x1,numG x2,[]⟩]:=by
 unfold zAt;rw [h,List.headD_cons,if_pos h0];rfl
theorem lineG_at_op {l x0 x1 x2:By} {xr:List By} (h:qY l=x0::x1::x2::xr) (h0:x0≠zBc) (p:List GFunc):zAt p l=if kC.idxOf x0<17∧0<p.length then zCo p ⟨(kC.idxOf x0:Nat),max 0 (numG x1)⟩ else p:=by
 unfold zAt;rw [h,List.headD_cons,if_neg h0];rfl
theorem names_hit {x0:By} {q:Nat} (h:kC.idxOf x0=q) (m:Nat) (hm:m<kC.length):(kC[m] == x0)=decide (m=q):=by
 have hi:kC.idxOf kC[m]=m:=by
  have:=namesT_idx ⟨m,hm⟩;simpa [List.getD,List.getElem?_eq_getElem hm] using this
 by_cases hq:m=q
 ·subst hq;rw [decide_eq_true rfl,beq_iff_eq];have:=List.getElem_idxOf (xs:=kC) (x:=x0) (by rw [h];exact hm);simpa only [h] using this
 ·rw [decide_eq_false hq,beq_eq_false_iff_ne];intro e;apply hq;rw [←h,←e];exact hi.symm
theorem progFrom_any (s:By) (w:World) (hl:s.length≤9000) :
  Calls Tryz.prog 18 #[txtV s] w fun e w'=>FromRet w s e w'∧Ext w w':=by
 obtain⟨X,hX⟩:∃X:ByteArray,(⟨s.toArray⟩:ByteArray)=X:=⟨_,rfl⟩
 have HX:=eH hX;obtain⟨i0,hi0,hz0,hz1,hz2⟩:=info_parts infoF;obtain⟨i1,hi1,hy0,hy1,hy2⟩:=info_parts infoStr;obtain⟨i2,hi2,hx0,hx1,hx2⟩:=info_parts infoO;have hNL:kC.length=17:=rfl;obtain⟨ls,hls⟩:∃ls,zT 10 s=ls:=⟨_,rfl⟩
 have HLS:=eH hls;have HSP:Hid (Calls Tryz.prog 51 #[.string X,.int .u8 10] w fun e w'=>∃v,e=.returned v∧RowAt w' w.heap.size 1 v ls.length (ls.flatMap txtF)∧ls.length≤s.length+1∧Ext w w'):=by
  unfold Hid;rw [←hX,←hls];exact split_any s 10 w (by omega)
 change Calls Tryz.prog 18 #[.string ⟨s.toArray⟩] w _;rw [hX];clear hX hls;go_enter Tryz.func18,Tryz.ntmps18
 go_wp2_with (first
  | (go_at_call 51;refine HSP.out.mono ?_;rintro e wl0 ⟨vl,rfl,hrl,hll,hb1⟩))
 obtain⟨gl,hgl⟩:∃gl,zB vl=gl:=⟨_,rfl⟩
 have HRL:=eH hrl;have HB1:=eH hb1;obtain⟨al,capl,rfl,_,_⟩:=hrl.shape;clear hrl hb1;obtain⟨Bw,hBw⟩:∃Bw,wl0.heap.size=Bw:=⟨_,rfl⟩
 have HBW:=eH hBw;clear hBw
 go_loopw [4,6] (fun q4 q6 wr=>∃(k:Nat) (fs:List (GFunc × Value)),q6=.int .i64 k∧k≤ls.length∧fs.map Prod.fst=(ls.take k).foldl zAt []∧FewP k fs∧PF (fun g=>g<wl0.heap.size) w wl0 Bw q4 fs wr) (fun _ q6 _=>ls.length - (intOf q6).toNat)
 case atStart=>exact⟨0,[],rfl,Nat.zero_le _,rfl,⟨Nat.le_refl _,by simp⟩,PF.start (fun _ h=>h) HB1.out (by rw [←HBW.out];exact HB1.out.size) (PRow.nil _ _) (by simp [jV,zB])⟩
 case round =>
  obtain⟨k,fs,rfl,hk,hfs,hfew,hpf⟩:=hrel;have HFS:=eH hfs;have HFEW:=eH hfew;have HPF:=eH hpf;have HB:=eH hpf.ext;have hfl:=hfew.1;obtain⟨ap,capp,rfl,_,_⟩:=hpf.row.row.shape;clear hfs hfew hpf;by_cases hlt:k<ls.length
  ·obtain⟨b,o,rfl,_,hbw,hcl⟩:=HRL.out.strs (by omega);have c0:wr.cell? ⟨b,o+k,none⟩=some (txtV ls[k]):=HPF.out.cell hbw (hcl k hlt);have HSTEP:=eH (foldl_take_succ zAt [] hlt);have HML:Hid (ls[k]∈ls):=List.getElem_mem hlt;have hll2:ls[k].length≤s.length:=yD (c:=10) (by rw [HLS.out];exact HML.out);obtain⟨x0,x1,x2,xr,hw⟩:=words_at ls[k];have HW:=eH hw;obtain⟨l,hl0⟩:∃l,ls[k]=l:=⟨_,rfl⟩
   rw [hl0] at c0 HSTEP hll2 HW;have hwl:(zT 32 l).length+2=(qY l).length:=by unfold qY;simp
   obtain⟨Y,hY⟩:∃Y:ByteArray,(⟨l.toArray⟩:ByteArray)=Y:=⟨_,rfl⟩
   have HSL:∀W,Hid (Calls Tryz.prog 51 #[.string Y,.int .u8 32] W fun e w'=>∃v,e=.returned v∧RowAt w' W.heap.size 1 v (zT 32 l).length ((zT 32 l).flatMap txtF)∧(zT 32 l).length≤l.length+1∧Ext W w'):=fun W=>by
    unfold Hid;rw [←hY];exact split_any l 32 W (by omega)
   replace c0:wr.cell? ⟨b,o+k,none⟩=some (.string Y):=by rw [←hY];exact c0
   have HSPW:Hid (zT 32 l++[[],[]]=qY l):=rfl;have HLF:=eH (lineG_at_func HW.out);have HLO:=eH (lineG_at_op HW.out);have hx1l:x1.length≤9000:=Nat.le_trans (mem_wordsG (l:=l) (by rw [HW.out];simp)) (by omega);have hx2l:x2.length≤9000:=Nat.le_trans (mem_wordsG (l:=l) (by rw [HW.out];simp)) (by omega);clear hY hw hl0 hcl;generalize zT 32 l=sp at *;generalize qY l=wl at *
   go_upto_region 7 with (first
    | (go_at_call 51;(with_reducible refine(HSL _).out.mono ?_);rintro e w2 ⟨vw,rfl,hrw,hwl2,hb2⟩;have HRW:=eH hrw;have HB2:=eH hb2;obtain⟨aw,capw,rfl,_,_⟩:=hrw.shape;clear hrw hb2)
    | (at_builtin;refine zE rfl _ _ 79 rfl wr.heap.size 9 i1 (.string ⟨#[]⟩) 1 16 Tryz.underlying79 hi1 hy0 hy1 hy2 rfl (by decide) _ _ _ rfl (by exact HRW.out.ext ((eR _).alloc _) (by decide)) 2 [txtV [],txtV []] (src_two _ _) (by unfold maxLen;omega) (by omega) (by exact Nat.le_trans HB2.out.size ((eR _).alloc _).size) ?_;intro v1 Wv1 rv1;have RV:=eH rv1;obtain⟨a9,cap9,rfl,_,_⟩:=rv1.1.shape;have HX9:=eH (Chg.ext_from (HB2.out.alloc (.cells #[txtV [],txtV []] 9)) RV.out.2.1 (fun g e=>HRW.out.le g e));clear rv1))
   have hrw:RowAt Wv1 wr.heap.size 1 (.slice a9 wl.length cap9) wl.length (wl.flatMap txtF):=by
    have:=RV.out.1;rw [hwl] at this;have e2:wl.flatMap txtF=sp.flatMap txtF++[txtV [],txtV []]:=by rw [←HSPW.out,List.flatMap_append];rfl
    rw [e2];exact this
   have hw3:3≤wl.length:=by rw [HW.out];simp
   have t0:(0:Int)<(wl.length:Int):=by omega
   have t0n:0<wl.length:=by omega
   have t1:(1:Int)<(wl.length:Int):=by omega
   have t2:(2:Int)<(wl.length:Int):=by omega
   obtain⟨gw,ow,rfl,hgw,hgw2,hcw⟩:=hrw.strs (by omega);have w0:Wv1.cell? ⟨gw,ow,none⟩=some (.string ⟨x0.toArray⟩):=by have:=hcw 0 (by omega);simp only [HW.out] at this;exact this
   have w1:Wv1.cell? ⟨gw,ow+1,none⟩=some (.string ⟨x1.toArray⟩):=by have:=hcw 1 (by omega);simp only [HW.out] at this;exact this
   have w2:Wv1.cell? ⟨gw,ow+2,none⟩=some (.string ⟨x2.toArray⟩):=by have:=hcw 2 (by omega);simp only [HW.out] at this;exact this
   have HPK:=eH (HPF.out.with HX9.out hgw hgw2);have HPF:=eH (HPF.out.more HX9.out);have HBL:Hid (Bw≤Wv1.heap.size):=by unfold Hid;rw [←HBW.out];exact HPF.out.le
   have HBa:=eH (HB.out.trans HX9.out);clear RV HX9 HSPW HSL HRW hrw hcw c0 HB2 HB;rename World=>wa
   obtain⟨A1,hA1⟩:∃A1,numG x1=A1:=⟨_,rfl⟩
   obtain⟨A2,hA2⟩:∃A2,numG x2=A2:=⟨_,rfl⟩
   have HN1:∀W,Hid (Calls Tryz.prog 52 #[.string ⟨x1.toArray⟩] W fun e w'=>e=.returned (.int .i64 A1)∧Ext W w'):=fun W=>by unfold Hid;rw [←hA1];exact num_any x1 W (by omega)
   have HN2:∀W,Hid (Calls Tryz.prog 52 #[.string ⟨x2.toArray⟩] W fun e w'=>e=.returned (.int .i64 A2)∧Ext W w'):=fun W=>by unfold Hid;rw [←hA2];exact num_any x2 W (by omega)
   have bA1 : -1≤A1∧A1≤999999:=by rw [←hA1];exact zAl x1
   have bA2 : -1≤A2∧A2≤999999:=by rw [←hA2];exact zAl x2
   have iA1:I64 A1:=by unfold I64;omega
   have iA2:I64 A2:=by unfold I64;omega
   rw [hA1,hA2] at HLF;rw [hA1] at HLO;clear hA1 hA2;by_cases hfn:x0=zBc
   ·have HL:=eH (HLF.out hfn);have TF:(x0 == [102,117,110,99])=true:=by rw [hfn];rfl
    clear hfn HLF HLO
    go_wp2_with fail
    refine zX (fun w'=>w'.cell? ⟨gw,ow+1,none⟩=some (.string ⟨x1.toArray⟩)∧w'.cell? ⟨gw,ow+2,none⟩=some (.string ⟨x2.toArray⟩)) 12 [0,1,2,3,5,6,7] [4,8,9,10,11,12] (by kernel_rfl) (by kernel_rfl) (fun _ _ _ _ _ h=>h) (by exact⟨w1,w2⟩) ?_
    (try simp only [zH,List.filterMap_cons,List.filterMap_nil,xO,xP])
    repeat (
     refine zN (by rfl) ?_;apply Exists.intro;refine⟨fun w' hw'=>?_,?_⟩
     focus
      (try dsimp only at hw')
      go_split_ands;go_simp
      (try with_reducible rfl)
     (try dsimp only [Act.put])
     (try simp only [xL,xM,xN]))
    refine zL ?_;refine zC ?_
    go_wp2_with (first
     | (go_at_call 52;(with_reducible refine(HN1 _).out.mono ?_);rintro e w3 ⟨rfl,hb3⟩))
    refine zD (by exact⟨eC hb3 w1,eC hb3 w2⟩) ?_;refine zC ?_
    go_wp2_with (first
     | (go_at_call 52;(with_reducible refine(HN2 _).out.mono ?_);rintro e w4 ⟨rfl,hb4⟩))
    have HE4:=eH (((eR wa).drew.trans hb3).trans hb4);refine zD (by exact⟨eC HE4.out w1,eC HE4.out w2⟩) ?_;refine zC ?_
    go_wp2_with fail
    refine zD (by exact⟨eC HE4.out w1,eC HE4.out w2⟩) ?_;refine zC ?_
    go_wp2_with fail
    have HEA:=eH (HE4.out.alloc (.cells #[.int .i64 A1,.int .i64 A2,.slice none 0 0] 49));have HPA:=eH (HPK.out.more HEA.out);refine zD (by exact⟨eC HEA.out w1,eC HEA.out w2⟩) ?_;refine zC ?_
    go_wp2_with (first
     | (at_builtin;refine zE rfl _ _ 27 rfl Bw 49 i0 (.agg #[.int .i64 0,.int .i64 0,.slice none 0 0]) 3 40 Tryz.underlying27 hi0 hz0 hz1 hz2 rfl (by decide) _ _ _ rfl (by exact HPA.out.row.row) 1 (zCj (⟨A1,A2,[]⟩,.slice none 0 0)) (src_func _ ⟨A1,A2,[]⟩ none 0 0 _) (by unfold maxLen;omega) (by omega) (by exact Nat.le_trans HBL.out HPA.out.le) ?_;intro v1 Wv1 rv1;have RV:=eH (HPA.out.push (eR _) rv1 iA1 iA2 (by omega));obtain⟨a9,cap9,rfl,_,_⟩:=rv1.1.shape;clear rv1))
    refine zD (by exact⟨RV.out.cell (.inr rfl) w1,RV.out.cell (.inr rfl) w2⟩) ?_;refine zC ?_
    go_wp2_with fail
    refine zS ?_
    go_wp2_with fail
    go_roundw
    case rel=>exact⟨k+1,fs++[(⟨A1,A2,[]⟩,.slice none 0 0)],by go_num,by omega,by rw [HSTEP.out,HL.out,List.map_append,HFS.out];rfl,HFEW.out.push _ _ _,RV.out.back HPF.out (fun _ h=>.inl h)⟩
    case measure=>simp [intOf];omega
   ·have HL:=eH (HLO.out hfn);have TF:(x0 == [102,117,110,99])=false:=beq_eq_false_iff_ne.2 hfn;clear hfn HLF HLO;by_cases hf0:fs.length=0
    ·obtain rfl:fs=[]:=List.eq_nil_of_length_eq_zero hf0;have HLL:Hid (zAt ([]:List GFunc) l=[]):=by unfold Hid;rw [HL.out,if_neg (fun h=>absurd h.2 (by simp))]
     clear hf0
     go_wp2_with fail
     go_loopw [8] (fun q8 wx=>q8=.int .i64 0∧Ext wa wx) (fun _ _=>0)
     case atStart=>exact⟨rfl,eR _⟩
     case round =>
      obtain⟨rfl,hbx⟩:=hrel;have HBX:=eH hbx;clear hbx
      go_wp2_with (first
       | (go_at_call 44;refine(zAb _).mono ?_;rintro e w3 ⟨vn,rfl,hvn,hb3⟩;obtain⟨an,cn,rfl,_,_⟩:=hvn))
      go_roundw
      case rel=>exact⟨k+1,[],by go_num,by omega,by rw [HSTEP.out,←HFS.out];exact HLL.out.symm,HFEW.out.next,HPF.out.more (HBX.out.trans hb3)⟩
      case measure=>simp [intOf];omega
    ·obtain⟨L,y,rfl⟩:∃L y,fs=L++[y]:=⟨fs.dropLast,fs.getLast (fun e=>hf0 (by rw [e];rfl)),(List.dropLast_concat_getLast _).symm⟩
     obtain⟨f,u0⟩:=y;have hap:∃g o,ap=some ⟨g,o,none⟩:=by
      obtain⟨g,o,e,_⟩:=HPF.out.row.row.cell (by simp);exact⟨g,o,e⟩
     obtain⟨g,o2,rfl⟩:=hap;obtain⟨q,hq⟩:∃q,kC.idxOf x0=q:=⟨_,rfl⟩
     obtain⟨A0,hA0⟩:∃A0,max 0 A1=A0:=⟨_,rfl⟩
     have HIX:=eH (names_hit hq);have HLL:Hid (zAt ((L++[(f,u0)]).map Prod.fst) l=if q<17 then (L++[({ f with code:=f.code++[(⟨(q:Int),A0⟩:GOp)] },u0)]).map Prod.fst else (L++[(f,u0)]).map Prod.fst):=by
      unfold Hid;rw [HL.out,hq,hA0,←zHf L (f,u0) (⟨(q:Int),A0⟩:GOp) u0];by_cases h17:q<17
      ·rw [if_pos h17,if_pos ⟨h17,by simp⟩]
      ·rw [if_neg h17,if_neg (fun h=>h17 h.1)]
     have hlen:(L++[(f,u0)]).length=L.length+1:=by simp
     have hfc:=HFEW.out.2 (f,u0) (by simp);have hmx:(if 0<A1 then A1 else 0)=A0:=by rw [←hA0];split<;>omega
     have bA0:0≤A0∧A0≤999999:=by omega
     simp only at hfc;rw [hlen];have hmx2:max 0 A1=A0:=hA0;have hmx3:max A1 0=A0:=by rw [Int.max_comm];exact hA0
     clear hf0 hq hA0
     go_wp2_with fail
     go_loopw [8] (fun q8 wx=>∃(m:Nat) (c:List GOp) (u1:Value),q8=.int .i64 m∧m≤17∧PF (fun b=>b<wl0.heap.size∨b=gw) w wa Bw (.slice (some ⟨g,o2,none⟩) (L.length+1) capp) (L++[({ f with code:=c },u1)]) wx∧(m≤q∧c=f.code∨q<m∧c=f.code++[(⟨(q:Int),A0⟩:GOp)])) (fun q8 _=>17 - (intOf q8).toNat)
     case atStart=>exact⟨0,f.code,u0,rfl,by omega,by rw [←hlen];exact HPK.out,.inl ⟨Nat.zero_le _,rfl⟩⟩
     case round =>
      obtain⟨m,c,u1,rfl,hm,hpx,hcc⟩:=hrel;have HPX:=eH hpx;have HCC:=eH hcc;clear hpx hcc;by_cases hm17:m<17
      ·have hmn:m<kC.length:=hm17;obtain⟨nm,hnm⟩:∃nm,kC[m]=nm:=⟨_,rfl⟩
       have HNM:=eH hnm;have hix:=HIX.out m hmn;rw [hnm] at hix;clear hnm;have tl0:(0:Int)<((L.length+1:Nat):Int):=by omega
       by_cases hmq:m=q
       ·have TM:(nm == x0)=true:=by rw [hix,decide_eq_true hmq]
        obtain rfl:c=f.code:=by
         rcases HCC.out with h | h
         ·exact h.2
         ·omega
        clear hix;subst hmq
        go_upto_region 12 with (first
         | (go_at_call 44;refine(zAb _).mono ?_;rintro e w3 ⟨vn,rfl,hvn,hb3⟩;obtain⟨an,cn,rfl,_,_⟩:=hvn))
        have HPX:=eH (HPX.out.more hb3);clear hb3;rename World=>wb
        have w0':=HPX.out.cell (.inr rfl) w0;refine qD (fun w'=>w'.cell? ⟨gw,ow,none⟩=some (.string ⟨x0.toArray⟩)) 7 [1,4,5,6] [0,2,3,7] (by kernel_rfl) (by kernel_rfl) (fun _ _ _ _ _ h=>h) (by exact w0') ?_
        (try simp only [zH,List.filterMap_cons,List.filterMap_nil,xO,xP])
        repeat (
         refine zN (by rfl) ?_;apply Exists.intro;refine⟨fun w' hw'=>?_,?_⟩
         focus
          (try dsimp only at hw')
          go_split_ands;go_simp
          (try with_reducible rfl)
         (try dsimp only [Act.put])
         (try simp only [xL,xM,xN]))
        refine zL ?_;refine zC ?_
        go_wp2_with (first
         | (go_at_call 44;refine(zAb _).mono ?_;rintro e w4 ⟨vn,rfl,hvn,hb4⟩;obtain⟨bn,on,cn',rfl,_,xn⟩:=zDh hvn hmn;rw [HNM.out] at xn;replace xn:w4.cell? ⟨bn,on+m,none⟩=some (.string ⟨nm.toArray⟩):=xn))
        refine zD (by exact eC hb4 w0') ?_;refine zC ?_
        go_wp2_with fail
        refine zD (by exact eC hb4 w0') ?_;refine zC ?_
        go_wp2_with fail
        refine zD (by exact eC hb4 w0') ?_;refine zC ?_
        go_wp2_with fail
        refine zS ?_;have HPX:=eH (HPX.out.more ((eR _).drew.trans hb4));clear hb4 xn w0' hvn;rename World=>wc
        have w1':=HPX.out.cell (.inr rfl) w1;obtain⟨hcl,hfz⟩:=HPX.out.row.last;simp only at hcl;have hsh:∃a8 c8,u1=.slice a8 f.code.length c8:=by
         obtain⟨a,c,e,_⟩:=(HPX.out.row.fn ({ f with code:=f.code },u1) (by simp)).2.2.1.shape;exact⟨a,c,e⟩
        obtain⟨a8,c8,rfl⟩:=hsh;have hf9:f.code.length≤9001:=by omega
        have iK:I64 (m:Int)∧I64 A0:=by unfold I64;omega
        go_upto_region 14 with fail
        refine qD (fun w'=>w'.cell? ⟨g,o2+L.length * 3+2,none⟩=some (.slice a8 f.code.length c8)∧w'.frozen? ⟨g,o2+L.length * 3+2,none⟩=false∧w'.cell? ⟨gw,ow+1,none⟩=some (.string ⟨x1.toArray⟩)) 16 [0,1,2,3,4,5,6,7,8] [9,10,11,12,13,14,15,16] (by kernel_rfl) (by kernel_rfl) (fun _ _ _ _ _ h=>h) (by exact⟨hcl,hfz,w1'⟩) ?_
        (try simp only [zH,List.filterMap_cons,List.filterMap_nil,xO,xP])
        repeat (
         refine zN (by rfl) ?_;apply Exists.intro;refine⟨fun w' hw'=>?_,?_⟩
         focus
          (try dsimp only at hw')
          go_split_ands;go_simp
          (try with_reducible rfl)
         (try dsimp only [Act.put])
         (try simp only [xL,xM,xN]))
        refine zL ?_;refine zC ?_
        go_wp2_with (first
         | (go_at_call 52;(with_reducible refine(HN1 _).out.mono ?_);rintro e w4 ⟨rfl,hb4⟩))
        have HE4:=eH ((eR wc).drew.trans hb4);refine zD (by exact⟨eC HE4.out hcl,(Ext.froz HE4.out hcl).trans hfz,eC HE4.out w1'⟩) ?_;refine zC ?_
        go_wp2_with fail
        refine zD (by exact⟨eC HE4.out hcl,(Ext.froz HE4.out hcl).trans hfz,eC HE4.out w1'⟩) ?_;refine zC ?_
        go_wp2_with fail
        refine zD (by exact⟨eC HE4.out hcl,(Ext.froz HE4.out hcl).trans hfz,eC HE4.out w1'⟩) ?_;refine zC ?_
        go_wp2_with fail
        have HE5:=eH (HE4.out.alloc (.cells #[.int .i64 (m:Int),.int .i64 A0] 51));have HRO:Hid (RowAt _ Bw 2 (.slice a8 f.code.length c8) f.code.length (f.code.flatMap opF)):=eH ((HPX.out.row.fn ({ f with code:=f.code },.slice a8 f.code.length c8) (by simp)).2.2.1.ext HE5.out (by decide));refine zD (by exact⟨eC HE5.out hcl,(Ext.froz HE5.out hcl).trans hfz,eC HE5.out w1'⟩) ?_;refine zC ?_
        go_wp2_with (first
         | (at_builtin;refine zE rfl _ _ 47 rfl Bw 51 i2 (.agg #[.int .i64 0,.int .i64 0]) 2 16 Tryz.underlying47 hi2 hx0 hx1 hx2 rfl (by decide) _ _ _ rfl (by exact HRO.out) 1 (opF ⟨(m:Int),A0⟩) (src_op _ ⟨(m:Int),A0⟩ _) (by unfold maxLen;omega) (by omega) (by exact Nat.le_trans HBL.out (Nat.le_trans HPX.out.le HE5.out.size)) ?_;intro v1 Wv2 rv1;have RV:=eH rv1;have RK:=eH (HPX.out.op_keeps HE5.out rv1);obtain⟨a9,cap9,rfl,_,_⟩:=rv1.1.shape;clear rv1))
        have hcl':Wv2.cell? ⟨g,o2+L.length * 3+2,none⟩=some (.slice a8 f.code.length c8):=(World.cell?_of_block RK.out.2).trans hcl;have hfz':Wv2.frozen? ⟨g,o2+L.length * 3+2,none⟩=false:=(World.frozen?_of_block RK.out.2).trans hfz;have hw1':Wv2.cell? ⟨gw,ow+1,none⟩=some (.string ⟨x1.toArray⟩):=(RK.out.1.cell (.inr rfl)).trans w1;have HPN:=eH (HPX.out.op (x:=⟨(m:Int),A0⟩) HE5.out RV.out iK (show f.code.length<10000 by omega));refine zD (by exact⟨hcl',hfz',hw1'⟩) ?_;refine zC ?_
        go_wp2_with fail
        refine zD (by exact⟨hcl',hfz',hw1'⟩) ?_;refine zC ?_
        go_wp2_with fail
        refine zD (by exact⟨hcl',hfz',hw1'⟩) ?_;refine zC ?_
        go_wp2_with fail
        refine zS ?_
        go_wp2_with fail
        go_roundw
        case rel=>exact⟨m+1,f.code++[⟨(m:Int),A0⟩],.slice a9 (f.code.length+1) cap9,by go_num,by omega,HPN.out,.inr ⟨by omega,rfl⟩⟩
        case measure=>simp [intOf];omega
       ·have TM:(nm == x0)=false:=by rw [hix,decide_eq_false hmq]
        clear hix
        go_upto_region 12 with (first
         | (go_at_call 44;refine(zAb _).mono ?_;rintro e w3 ⟨vn,rfl,hvn,hb3⟩;obtain⟨an,cn,rfl,_,_⟩:=hvn))
        have HPX:=eH (HPX.out.more hb3);clear hb3;rename World=>wb
        have w0':=HPX.out.cell (.inr rfl) w0;refine qD (fun w'=>w'.cell? ⟨gw,ow,none⟩=some (.string ⟨x0.toArray⟩)) 7 [1,4,5,6] [0,2,3,7] (by kernel_rfl) (by kernel_rfl) (fun _ _ _ _ _ h=>h) (by exact w0') ?_
        (try simp only [zH,List.filterMap_cons,List.filterMap_nil,xO,xP])
        repeat (
         refine zN (by rfl) ?_;apply Exists.intro;refine⟨fun w' hw'=>?_,?_⟩
         focus
          (try dsimp only at hw')
          go_split_ands;go_simp
          (try with_reducible rfl)
         (try dsimp only [Act.put])
         (try simp only [xL,xM,xN]))
        refine zL ?_;refine zC ?_
        go_wp2_with (first
         | (go_at_call 44;refine(zAb _).mono ?_;rintro e w4 ⟨vn,rfl,hvn,hb4⟩;obtain⟨bn,on,cn',rfl,_,xn⟩:=zDh hvn hmn;rw [HNM.out] at xn;replace xn:w4.cell? ⟨bn,on+m,none⟩=some (.string ⟨nm.toArray⟩):=xn))
        refine zD (by exact eC hb4 w0') ?_;refine zC ?_
        go_wp2_with fail
        refine zD (by exact eC hb4 w0') ?_;refine zC ?_
        go_wp2_with fail
        refine zD (by exact eC hb4 w0') ?_;refine zC ?_
        go_wp2_with fail
        refine zS ?_;have HPX:=eH (HPX.out.more ((eR _).drew.trans hb4));clear hb4 xn w0' hvn;rename World=>wc
        go_wp2_with fail
        go_roundw
        case rel=>exact⟨m+1,c,u1,by go_num,by omega,HPX.out,HCC.out.imp (fun h=>⟨by omega,h.2⟩) (fun h=>⟨by omega,h.2⟩)⟩
        case measure=>simp [intOf];omega
      ·obtain rfl:m=17:=by omega
       go_wp2_with (first
        | (go_at_call 44;refine(zAb _).mono ?_;rintro e w3 ⟨vn,rfl,hvn,hb3⟩;obtain⟨an,cn,rfl,_,_⟩:=hvn))
       go_roundw
       case rel =>
        refine⟨k+1,L++[({ f with code:=c },u1)],by go_num,by omega,?_,?_,?_⟩
        ·rw [HSTEP.out,←HFS.out,HLL.out];rcases HCC.out with ⟨h1,rfl⟩ | ⟨h1,rfl⟩
         ·rw [if_neg (by omega)];simp
         ·rw [if_pos h1];simp
        ·rcases HCC.out with ⟨h1,rfl⟩ | ⟨h1,rfl⟩
         ·exact⟨by have:=HFEW.out.1;simp at this ⊢;omega,fun z hz=>by
           rcases List.mem_append.1 hz with h2 | h2
           ·have:=HFEW.out.2 z (by simp [h2]);omega
           ·rw [List.mem_singleton.1 h2];simp only;omega⟩
         ·exact HFEW.out.op _ _
        ·exact(HPX.out.more hb3).back HPF.out (fun _ h=>.inl h)
       case measure=>simp [intOf];omega
  ·obtain rfl:k=ls.length:=by omega
   have HDR:Hid (fs.map Prod.fst=docR s):=by
    unfold Hid docR;rw [HFS.out,List.take_length,HLS.out]
   have HFU:∀W,Ext wr W→Hid (zM W (w.heap.size≤·) (.slice ap fs.length capp) (docR s)):=fun W hW=>by
    unfold Hid;rw [←HDR.out];exact(HPF.out.row.ext hW).funcs _ (fun b hb=>Nat.le_trans HPF.out.base hb)
   obtain⟨P,hP⟩:∃P,docR s=P:=⟨_,rfl⟩
   rw [hP] at HDR HFU;have HPS:=eH hP;obtain⟨r,hr⟩:∃r,zZ P=r:=⟨_,rfl⟩
   have HR:=eH hr;clear hlt hP hr;by_cases h0:r=0
   ·subst h0;obtain⟨t,ht⟩:∃t,qZ P=t:=⟨_,rfl⟩
    have HT:=eH ht;obtain⟨Y,hY⟩:∃Y:ByteArray,(⟨t.toArray⟩:ByteArray)=Y:=⟨_,rfl⟩
    have HY:=eH hY;have HPT:∀W,Ext wr W→Hid (Calls Tryz.prog 15 #[.slice ap fs.length capp] W fun e w'=>e=.returned (.string Y)∧Ext W w'):=fun W hW=>by
     unfold Hid;rw [←hY,←ht];exact progText_any P _ _ W (HFU W hW).out HR.out
    clear ht hY;by_cases hts:t=s
    ·have HDT:Hid (docT s=(true,P)):=by
      unfold Hid docT;rw [HPS.out,if_pos ⟨HR.out,HT.out.trans hts⟩]
     have hXY:Y=X:=by rw [←HY.out,←HX.out,hts]
     clear hts
     go_wp2_with (first
      | (go_at_call 14;(with_reducible refine(zCt P _ _ _ (HFU _ (eR _)).out).mono ?_);rintro e w3 ⟨rfl,hb3⟩;rw [HR.out])
      | (go_at_call 15;(with_reducible refine(HPT _ (by assumption)).out.mono ?_);rintro e w4 ⟨rfl,hb4⟩;rw [hXY]))
     go_ret2
     exact⟨⟨_,by rw [HDT.out];rfl,by rw [HDT.out];exact(HFU _ (hb3.trans hb4)).out⟩,HB.out.trans (hb3.trans hb4)⟩
    ·have HDT:Hid (docT s=(false,[])):=by
      unfold Hid docT;rw [HPS.out,if_neg (fun h=>hts (HT.out.symm.trans h.2))]
     have hXY:(Y.toList == X.toList)=false:=beq_eq_false_iff_ne.2 (fun e=>hts (by rw [←HX.out,←HY.out,ByteArray.toList_mk,ByteArray.toList_mk] at e;exact e));clear hts
     go_wp2_with (first
      | (go_at_call 14;(with_reducible refine(zCt P _ _ _ (HFU _ (eR _)).out).mono ?_);rintro e w3 ⟨rfl,hb3⟩;rw [HR.out])
      | (go_at_call 15;(with_reducible refine(HPT _ (by assumption)).out.mono ?_);rintro e w4 ⟨rfl,hb4⟩))
     go_ret2
     exact⟨⟨_,by rw [HDT.out];rfl,by rw [HDT.out];exact Sl.nil _ _ _⟩,HB.out.trans (hb3.trans hb4)⟩
   ·have HDT:Hid (docT s=(false,[])):=by
     unfold Hid docT;rw [HPS.out,if_neg (fun h=>h0 (HR.out.symm.trans h.1))]
    have T0:(r != 0)=true:=bne_iff_ne.2 h0;clear h0
    go_wp2_with (first
     | (go_at_call 14;(with_reducible refine(zCt P _ _ _ (HFU _ (eR _)).out).mono ?_);rintro e w3 ⟨rfl,hb3⟩;rw [HR.out]))
    go_ret2
    exact⟨⟨_,by rw [HDT.out];rfl,by rw [HDT.out];exact Sl.nil _ _ _⟩,HB.out.trans hb3⟩
theorem join_any (L:List By) (a:Option Addr) (cap:Nat) (w:World) (base:Nat) (h:RowAt w base 1 (.slice a L.length cap) L.length (L.flatMap txtF)) (hn:0<L.length) (hN:L.length≤100000) (hlen:(Lib.join L [32]).length≤100000) :
  Calls Tryz.prog 141 #[.slice a L.length cap,.string ⟨#[32]⟩] w fun e w'=>e=.returned (.string ⟨(Lib.join L [32]).toArray⟩)∧Ext w w':=by
 obtain⟨g,o,rfl,_,hg,hc⟩:=h.strs hn;obtain⟨a',c',e,h1,_⟩:=h.shape;simp only [Value.slice.injEq] at e;obtain⟨_,_,rfl⟩:=e;have e1:(L.map fun x:By=>(⟨x.toArray⟩:ByteArray)).length=L.length:=by simp
 have e2:((L.map fun x:By=>(⟨x.toArray⟩:ByteArray)).map (·.data.toList))=L:=by simp [Function.comp_def]
 have hJ:=Tryz.strings_Join g o cap (L.map fun x:By=>(⟨x.toArray⟩:ByteArray)) ⟨#[32]⟩ w (fun j x hx=>by
  rw [List.getElem?_map,Option.map_eq_some_iff] at hx;obtain⟨y,hy,rfl⟩:=hx;obtain⟨hj,rfl⟩:=List.getElem?_eq_some_iff.1 hy;exact hc j hj) hg (by rw [e1];omega) (by rw [e1];omega) (by rw [e2];show (Lib.join L [32]).length≤_;omega)
 rw [e1,e2] at hJ;exact hJ
theorem jZ (n:Int) (w:World) (hg:Glob w) (hn:I64 n):Calls Tryz.prog 76 #[.int .i64 n] w fun e w'=>e=.returned (.string ⟨(errT n).toArray⟩)∧Ext w w':=by
 have HG:=eH hg;have hcat:=jS;have hlen:=zAo;have hdl:(Lib.itoa n).length≤21:=Lib.itoa_length_le n hn.1 hn.2;obtain⟨d,hd⟩:∃d,Lib.itoa n=d:=⟨_,rfl⟩
 have HD:=eH hd;rw [hd] at hdl;have n1:¬9223372036854775807<6+d.length:=by omega
 clear hd hg;go_enter Tryz.func76,Tryz.ntmps76
 go_wp2_with (first
  | (go_at_call 75;(with_reducible refine(zFi _ _ hn HG.out).mono ?_);rintro e w3 ⟨rfl,hb3⟩;rw [HD.out]))
 go_ret;exact⟨by unfold errT;rw [HD.out];rfl,hb3⟩
theorem vU (l:List Int) (v:Value) (S:Nat→Prop) (w:World) (hg:Glob w) (hv:Ints w S v l) (hl:l.length≤1000) :
  Calls Tryz.prog 108 #[v] w fun e w'=>e=.returned (.string ⟨(jT l).toArray⟩)∧Ext w w':=by
 have HV:=eH hv;have HG:=eH hg;obtain⟨i0,hi0,hz0,hz1,hz2⟩:=info_parts infoStr;have hI:∀n∈l,I64 n:=fun n hn=>by
  obtain⟨i,hi,rfl⟩:=List.getElem_of_mem hn;obtain⟨b,o,cap,_,_,_,_,_,h⟩:=Sl.get hv hi;exact h
 have hjl:=joinI_len l hI;obtain⟨a,cap,rfl,hcap,hby,_⟩:=hv;clear hg;by_cases h0:l.length=0
 ·obtain rfl:l=[]:=List.length_eq_zero_iff.1 h0;go_enter Tryz.func108,Tryz.ntmps108
  go_wp2_with fail
  go_ret;exact⟨rfl,eR _⟩
 ·have T0:((l.length:Int) == 0)=false:=beq_eq_false_iff_ne.2 (by omega);go_enter Tryz.func108,Tryz.ntmps108
  go_wp2_with fail
  go_loopw [3,11] (fun q3 q11 wr=>∃(k:Nat) (L:List By),k≤l.length∧q11=.int .i64 k∧L=(l.take k).map Lib.itoa∧Ext w wr∧RowAt wr w.heap.size 1 q3 L.length (L.flatMap txtF)) (fun _ q _=>l.length - (intOf q).toNat)
  case atStart=>exact⟨0,[],Nat.zero_le _,rfl,rfl,eR _,RowAt.nil _ _ _ _⟩
  case round =>
   obtain⟨k,L,hk,rfl,hL,hb,hrow⟩:=hrel;have HB:=eH hb;have HROW:=eH hrow;have hLl:L.length≤1000:=by rw [hL,List.length_map,List.length_take];omega
   obtain⟨ar,capr,rfl,_,_⟩:=hrow.shape;by_cases hlt:k<l.length
   ·obtain⟨b,o,cap',e0,_,_,_,x0,iN⟩:=(Ints.stays (Ext.stays HB.out) HV.out).get hlt;simp only [Value.slice.injEq] at e0;obtain⟨rfl,-,rfl⟩:=e0;rw [Nat.mul_one] at x0;have HLN:Hid (L++[Lib.itoa l[k]]=(l.take (k+1)).map Lib.itoa):=by unfold Hid;rw [hL,List.take_succ_eq_append_getElem hlt,List.map_append];rfl
    generalize l[k]=n at *;obtain⟨d,hd⟩:∃d,Lib.itoa n=d:=⟨_,rfl⟩
    have HD:=eH hd;rw [hd] at HLN;clear hd hb hrow hL
    go_wp2_with (first
     | (go_at_call 75;(with_reducible refine(zFi _ _ iN (HG.out.ext HB.out)).mono ?_);rintro e w3 ⟨rfl,hb3⟩;rw [HD.out];have HB3:=eH hb3;have HS7:Hid (w.heap.size≤(w3.alloc (.cells #[txtV d] 9)).heap.size):=Nat.le_trans HB.out.size ((hb3.alloc _).size);clear hb3)
     | (at_builtin;refine zE rfl _ _ 79 rfl w.heap.size 9 i0 (.string ⟨#[]⟩) 1 16 Tryz.underlying79 hi0 hz0 hz1 hz2 rfl (by decide) _ _ _ rfl (by exact HROW.out.ext (HB3.out.alloc (.cells #[txtV d] 9)) (by decide)) 1 (txtF d) (src_txt _ _ _) (by unfold maxLen;omega) (by omega) (by exact HS7.out) ?_;intro v1 Wv1 rv1;have RV:=eH rv1;obtain⟨a9,cap9,rfl,_,_⟩:=rv1.1.shape;have HX9:=eH (Chg.ext_from ((HB.out.trans HB3.out).alloc (.cells #[txtV d] 9)) RV.out.2.1 (fun b e=>HROW.out.le b e));clear rv1))
    go_roundw
    case rel=>exact⟨k+1,L++[d],by omega,by go_num,HLN.out,HX9.out,by rw [List.length_append,List.length_singleton,List.flatMap_append,List.flatMap_singleton];exact RV.out.1⟩
    case measure=>simp [intOf];omega
   ·obtain rfl:k=l.length:=by omega
    rw [List.take_length] at hL;have hLn:L.length=l.length:=by rw [hL,List.length_map]
    have HJ:Hid (Lib.join L [32]=jT l):=by unfold Hid jT;rw [if_neg (fun e=>h0 (by rw [e];rfl)),hL,joinI_join]
    have hjn:(Lib.join L [32]).length≤100000:=by rw [hL,joinI_join];omega
    have HLN:=eH hLn;clear hL hlt hb hLn
    go_wp2_with (first
     | (go_at_call 141;(with_reducible refine(join_any L _ _ _ w.heap.size HROW.out (by have:=HLN.out;omega) (by omega) hjn).mono ?_);rintro e w3 ⟨rfl,hb3⟩))
    go_ret;exact⟨by rw [HJ.out];rfl,HB.out.trans hb3⟩
theorem OwnS.setAt {P:PState} {L R:List PFiber} {y:PFiber} {F:List PFrame} {x:PFrame} {W:World} {B b g o n cap:Nat} (h:OwnS W B b P) (hs:Spot P L y R F x) (hv:y.vf=.slice (some ⟨g,o,none⟩) n cap) (a:Int) (hI:I64 a) :
  OwnS (W.setCell ⟨g,o+F.length * 4+1,none⟩ (.int .i64 a)) B b (qT P L y R F ⟨{ x.f with at_:=a },x.vl,x.vs⟩)∧Chg (·∈b::P.bl) W (W.setCell ⟨g,o+F.length * 4+1,none⟩ (.int .i64 a)):=by
 obtain⟨s1,s2,s3⟩:=h.sep hs;have hy:=h.fs y (by rw [hs.fs];simp);have hx:=hy.fr x (by rw [hs.fr];simp);have hrow:=hy.row;rw [hs.fr] at hrow;obtain⟨g',o',cap',e1,hbl,_⟩:=RowAt.place frameF (fun _=>rfl) hrow;rw [hv] at e1;simp only [Value.slice.injEq,Option.some.injEq,Addr.mk.injEq] at e1;obtain⟨⟨rfl,rfl,-⟩,-,rfl⟩:=e1;have hCh:=zO W g (o+F.length * 4+1) (.int .i64 a);have hgx:∀k∈x.bl,¬k=g:=fun k hk e=>by subst e;exact s1 _ hbl hk
 have hx':=hx.chg hCh hgx;refine⟨h.frame hs.fs hs.fr hCh (fun k hk _=>.inl (by rw [show k=g from hk];exact hbl)) ⟨⟨hx.i.1,hI,hx.i.2.2⟩,hx'.l,hx'.s,hx.few⟩ ?_ s3 (fun k hk=>.inl hk),hCh.mono (fun k _ hk=>List.mem_cons_of_mem _ (hs.bl (.inl (by rw [show k=g from hk];exact hbl))))⟩;rw [hv] at hrow ⊢;exact hrow.storeAt frameF (fun _=>rfl) (by decide) rfl
theorem OwnS.setLocal {P:PState} {L R:List PFiber} {y:PFiber} {F:List PFrame} {x:PFrame} {W:World} {B b g o n cap:Nat} (h:OwnS W B b P) (hs:Spot P L y R F x) (hv:x.vl=.slice (some ⟨g,o,none⟩) n cap) (i:Nat) (hi:i<x.f.locals.length) (v:Int) (hI:I64 v) :
  OwnS (W.setCell ⟨g,o+i,none⟩ (.int .i64 v)) B b (qT P L y R F ⟨{ x.f with locals:=x.f.locals.set i v },x.vl,x.vs⟩)∧Chg (·∈b::P.bl) W (W.setCell ⟨g,o+i,none⟩ (.int .i64 v)):=by
 obtain⟨s1,s2,s3⟩:=h.sep hs;have hy:=h.fs y (by rw [hs.fs];simp);have hx:=hy.fr x (by rw [hs.fr];simp);have hl:=hx.l;obtain⟨a1,c1,e1,_,_⟩:=hl.shape;have e2:=hv;rw [e1] at e2;simp only [Value.slice.injEq] at e2;obtain⟨rfl,rfl,rfl⟩:=e2;rw [e1] at hl;obtain⟨g',o',e3,hbk,hcell⟩:=hl.cell (by omega);simp only [Option.some.injEq,Addr.mk.injEq] at e3;obtain⟨rfl,rfl,-⟩:=e3;have hcap:c1≠0:=by
  intro e;subst e;obtain⟨_,_,_,e4,h5,_⟩:=hl;simp only [Value.slice.injEq] at e4;omega
 have hbl:zB x.vl=some g:=by rw [e1];exact zK _ _ _ _ hcap
 have hgm:g∈x.bl:=by unfold PFrame.bl;simp [hbl]
 have hCh:=zO W g (o+i) (.int .i64 v);refine⟨h.frame hs.fs hs.fr hCh (fun k hk _=>.inr (by rw [show k=g from hk];exact hgm)) ⟨⟨hx.i.1,hx.i.2.1,fun k hk=>?_,hx.i.2.2.2⟩,?_,?_,?_,hx.few.2⟩ ?_ s3 (fun k hk=>.inl hk),hCh.mono (fun k _ hk=>List.mem_cons_of_mem _ (hs.bl (.inr (by rw [show k=g from hk];exact hgm))))⟩
 ·rcases List.mem_or_eq_of_mem_set hk with h1 | h1
  ·exact hx.i.2.2.1 k h1
  ·rw [h1];exact hI
 ·show RowAt _ B 1 x.vl (x.f.locals.set i v).length (ints (x.f.locals.set i v));rw [←ints_set,List.length_set];have:=hl.store (j:=i) (by omega) (.int .i64 v);rw [e1];exact this
 ·exact hx.s.chg hCh (fun k hk e=>s2 g hbl (by rw [show k=g from e] at hk;exact hk)) (by decide)
 ·show (x.f.locals.set i v).length≤1000;rw [List.length_set];exact hx.few.1
 ·have hrow:=hy.row;rw [hs.fr] at hrow;have h2:=hrow.chg hCh (fun k hk e=>s1 k hk (by rw [show k=g from e];exact hgm)) (by decide);simp only [List.flatMap_append,List.length_append,List.length_cons,List.flatMap_cons] at h2 ⊢;exact h2
theorem topOf_mod (f:GFiber) (h:0<f.frames.length) (g:GFrame→GFrame):vF { f with frames:=f.frames.modify (f.frames.length - 1) g }=g (vF f):=by
 unfold vF;obtain⟨F,x,hf⟩:=jP f.frames h;simp only [hf,List.length_modify];rw [zFd _ _ _ _ rfl];have e:(F++[g x]).length=(F++[x]).length:=by simp
 rw [←e,yZ _ _ _ _ rfl,e,yZ _ _ _ _ rfl]
theorem curF_mod (s:GState) (h:0≤s.now∧s.now<s.fibers.length) (g:GFiber→GFiber):curF (kN s s.now g)=g (curF s):=by
 unfold curF;show (kN s s.now g).fibers.getD s.now.toNat default=_;rw [yG _ _ _ _ (by omega),if_pos rfl]
theorem curX_mod (s:GState) (h:zU s s.now) (g:GFrame→GFrame):curX (kT s s.now g)=g (curX s):=by
 unfold curX kT;rw [curF_mod s ⟨h.1,h.2.1⟩];exact topOf_mod _ h.2.2 g
theorem curX_pop (s:GState) (h:zU s s.now):curX (popG s)={ curX s with stack:=(curX s).stack.dropLast }:=curX_mod s h _
theorem zCp.ll {B:Nat} {s:GState} {e:Ending} {w:World} (h:zCp B s e w):∃a c ok,e=.returned (.tuple #[.slice a (qH s).length c,.bool ok])∧Ints w (B≤·) (.slice a (qH s).length c) (qH s):=by
 unfold zCp at h;unfold qH
 cases hl:yA s with
 | none=>rw [hl] at h;exact⟨none,0,false,h,Sl.nil _ _ _⟩
 | some l=>rw [hl] at h;obtain⟨a,c,h1,h2⟩:=h;exact⟨a,c,_,h1,h2⟩
theorem zAj.callers {s:GState} (h:zAj s) (hf:s.fibers.length≤1000):Callers s :=
 ⟨h.1,fun k hk=>by
  rw [List.getD_eq_getElem?_getD,List.getElem?_eq_getElem hk];exact h.2 _ (List.getElem_mem _),hf⟩
theorem resumed_any {P:PState} {w:World} {B b:Nat} (h:OwnS w B b P) (ht:zU P.g P.g.now) (hr:Room P.g) (hb:vD P.g) :
  Calls Tryz.prog 186 #[.pointer (some ⟨b,0,none⟩)] w fun e w'=>e=.returned (.int .i64 (yE P.g).1)∧Did w w' B b P (yE P.g):=by
 obtain⟨hl,hco,hloc⟩:=hb;have hLI:=h.lastI ht (by omega);have hcx:=curX_pop P.g ht;have hl1:1≤(curX (popG P.g)).stack.length:=by rw [hcx];show 1≤(curX P.g).stack.dropLast.length;rw [List.length_dropLast];omega
 have H:=eH h;have HT:=eH ht;have HL:Hid (1≤(curX P.g).stack.length):=by unfold Hid;omega
 have HL1:=eH hl1;clear h hcx hl hl1;have RA:=zF;generalize hv:zR P.g=v at *;have HV:=eH hv;generalize hn:zR (popG P.g)=n at *;have HN:=eH hn;go_enter Tryz.func186,Tryz.ntmps186;clear hv hn
 go_upto_if 20 with (first
  | (go_at_call 183;(with_reducible refine(vI H.out HT.out HL.out).mono ?_);rintro e w2 ⟨rfl,t2⟩;rw [HV.out];obtain⟨⟨P1,o1,g1,s1⟩,c1⟩:=t2;have HO1:=eH o1;have HG1:=eH g1;have HS1:=eH s1;have HC1:=eH c1;have HT1:Hid (zU P1.g P1.g.now):=(by unfold Hid;rw [HG1.out];exact HT.out.pop);have HL2:Hid (1≤(curX P1.g).stack.length):=(by unfold Hid;rw [HG1.out];exact HL1.out);clear o1 g1 s1 c1)
  | (go_at_call 183;(with_reducible refine(vI HO1.out HT1.out HL2.out).mono ?_);rintro e w3 ⟨rfl,t3⟩;rw [HG1.out,HN.out];obtain⟨⟨P2,o2,g2,s2⟩,c2⟩:=t3;have HO2:=eH o2;have HG2:=eH g2;have HS2:=eH s2;have HC2:=eH c2;obtain⟨c20,c20'⟩:=o2.c0;obtain⟨c21,c21'⟩:=o2.c1;obtain⟨c22,c22'⟩:=o2.c2;have hfw:=o2.few.1;obtain⟨a2,cp2,e2,_,_⟩:=o2.row.shape;rw [e2] at c20;have HE2:=eH e2;clear o2 g2 s2 c2 e2;have KK:IntKind.i64.wrap ((P2.fs.length:Int) - 1)=(P2.fs.length:Int) - 1:=(by exact IntWalk.i64_in _ (by omega)))
  | (go_at_call 62;(with_reducible refine(kS _ _ _ _).mono ?_);rintro e w4 ⟨rfl,rfl⟩;obtain⟨tw,htw⟩:∃tw,decide (0≤n∧n≤(P2.fs.length:Int) - 1)=tw:=⟨_,rfl⟩;rw [htw];have HTW:=eH htw;clear htw))
 have hg2:P2.g=popG (popG P.g):=by rw [HG2.out,HG1.out]
 have HY:Hid (yE P.g=if ¬(0≤n∧n<P2.fs.length) then (5,P.g) else if n∈qH P2.g∨(P2.g.fibers.getD n.toNat default).frames.length=0 then (6,P.g) else (0,zHh P2.g n v)):=by
  unfold Hid yE;rw [HN.out,HV.out,←hg2];have e:P2.fs.length=P.g.fibers.length:=by
   have:P2.fs.length=P2.g.fibers.length:=by unfold PState.g;simp
   rw [this,hg2];unfold popG kT;rw [qK,qK]
  rw [e]
 clear hg2
 cases tw with
 | false =>
  have e:=HY.out;have h0:=of_decide_eq_false HTW.out;rw [if_pos (fun h=>h0 (by omega))] at e;have HE:=eH e;clear e h0
  go_wp2_with fail
  go_ret;rw [HE.out];exact⟨rfl,Did.step HC1.out HS1.out (Did.step HC2.out HS2.out ⟨Chg.refl _ _,fun h=>by cases h⟩)⟩
 | true =>
 obtain⟨h0,h1⟩:=of_decide_eq_true HTW.out;obtain⟨L,y,R,hP,hnL⟩:=hasFib (P:=P2) ⟨h0,by omega⟩;have hfl:P2.g.fibers.length=P2.fs.length:=by unfold PState.g;simp
 have hcal:Callers P2.g:=(by rw [HG2.out,HG1.out];exact hco:zAj P2.g).callers (by rw [hfl];exact hfw);have HCAL:=eH hcal;have hst:=(HO2.out).state (fun g=>B≤g) (fun _ h=>h);rw [HE2.out] at hst;have HST:=eH hst;obtain⟨g,o,cap,hvf,hlt,d0,d1,hbl⟩:=(HO2.out).place hP;have HVF:=eH hvf;rw [HE2.out] at hvf;simp only [Value.slice.injEq,true_and] at hvf;obtain⟨rfl,rfl⟩:=hvf;have e:=HY.out;rw [if_neg (fun h=>h ⟨h0,by omega⟩),hnL,Int.toNat_natCast,zBx hP] at e;have hlen:y.g.frames.length=y.fr.length:=by unfold PFiber.g;simp
 rw [hlen] at e;have HYY:=eH e;have hym:y∈P2.fs:=by rw [hP];simp
 obtain⟨ay,cy,ey,_,_⟩:=((HO2.out).fs y hym).row.shape;rw [ey] at d0;obtain⟨d0,d0'⟩:=d0;have HEY:=eH ey;have HP:=eH hP;have hloc2:0<y.fr.length→(vF y.g).at_=0→0<(vF y.g).locals.length:=by
  have:=hloc;rw [←HG1.out,←HG2.out,hnL,Int.toNat_natCast,zBx hP,hfl,hlen] at this;exact fun hf=>this ⟨by omega,by omega,hf⟩
 have HLOC:=eH hloc2;have D1:=eH d1;subst hnL;clear hcal hst e hlen hym ey hP hloc2 hco hloc h0 h1 HY d1 hfl;by_cases hm:(L.length:Int)∈qH P2.g
 ·have HM:Hid (decide ((L.length:Int)∈qH P2.g)=true):=decide_eq_true hm;have e:=HYY.out;rw [if_pos (Or.inl hm)] at e;have HE:=eH e;clear e hm
  go_wp2_with (first
   | (go_at_call 115;(with_reducible refine(zDs P2.g _ _ _ HST.out HCAL.out).mono ?_);rintro e w5 ⟨hlr,hx5⟩;obtain⟨al,cl,ok,rfl,hline⟩:=hlr.ll;have HLN:=eH hline;have HX5:=eH hx5;clear hlr hline)
   | (go_at_call 116;(with_reducible refine(zFx (qH P2.g) _ _ _ _ HLN.out).mono ?_);rintro e w6 ⟨rfl,hx6⟩;rw [HM.out]))
  go_ret;rw [HE.out];exact⟨rfl,Did.step HC1.out HS1.out (Did.step HC2.out HS2.out ⟨Chg.of_ext (HX5.out.trans hx6),fun h=>by cases h⟩)⟩
 have HM:Hid (decide ((L.length:Int)∈qH P2.g)=false):=decide_eq_false hm;by_cases hz:y.fr.length=0
 ·have T2:decide ((y.fr.length:Int)=0)=true:=decide_eq_true (by omega);have T2':((y.fr.length:Int) == 0)=true:=by simpa using hz
  have e:=HYY.out;rw [if_pos (Or.inr hz)] at e;have HE:=eH e;clear e hm hz
  go_wp2_with (first
   | (go_at_call 115;(with_reducible refine(zDs P2.g _ _ _ HST.out HCAL.out).mono ?_);rintro e w5 ⟨hlr,hx5⟩;obtain⟨al,cl,ok,rfl,hline⟩:=hlr.ll;have HLN:=eH hline;have HX5:=eH hx5;clear hlr hline)
   | (go_at_call 116;(with_reducible refine(zFx (qH P2.g) _ _ _ _ HLN.out).mono ?_);rintro e w6 ⟨rfl,hx6⟩;rw [HM.out];have f0:=eC (HX5.out.trans hx6) c20;have f1:=eC (HX5.out.trans hx6) d0))
  go_ret;rw [HE.out];exact⟨rfl,Did.step HC1.out HS1.out (Did.step HC2.out HS2.out ⟨Chg.of_ext (HX5.out.trans hx6),fun h=>by cases h⟩)⟩
 have T2:decide ((y.fr.length:Int)=0)=false:=decide_eq_false (by omega);have T2':((y.fr.length:Int) == 0)=false:=by simpa using hz
 have e:=HYY.out;rw [if_neg (by rintro (h | h);exact hm h;exact hz h)] at e;have HE:=eH e;obtain⟨F,x,hfr⟩:=jP y.fr (by omega);have HFR:=eH hfr;clear e hm hz HYY hfr
 go_upto_region 8 with (first
  | (go_at_call 115;(with_reducible refine(zDs P2.g _ _ _ HST.out HCAL.out).mono ?_);rintro e w5 ⟨hlr,hx5⟩;obtain⟨al,cl,ok,rfl,hline⟩:=hlr.ll;have HLN:=eH hline;have HX5:=eH hx5;clear hlr hline)
  | (go_at_call 116;(with_reducible refine(zFx (qH P2.g) _ _ _ _ HLN.out).mono ?_);rintro e w6 ⟨rfl,hx6⟩;rw [HM.out];have f0:=eC (HX5.out.trans hx6) c20;have f1:=eC (HX5.out.trans hx6) d0))
 have HX6:=eH (HX5.out.trans hx6);obtain⟨f2,f2'⟩:=Cx.ext (W:=w3) ⟨c21,c21'⟩ HX6.out;obtain⟨f3,f3'⟩:=(D1.out).ext HX6.out;clear hx6
 go_cut [53] (fun _ wr=>OwnS wr B b { P2 with fs:=L++{ y with caller:=P2.now }::R }∧Chg (·∈P2.bl) w6 wr)
 case first =>
  go_region
  go_wp2_with fail
  go_meet
  have h9:=((HO2.out).ext HX6.out).setCaller HP.out HVF.out P2.now ((HO2.out).i.1);exact⟨h9.1.ext (eR _).drew,h9.2.drew⟩
 case rest =>
  rename World=>w7
  obtain⟨o7,c7⟩:=hcut;have hI:I64 (L.length:Int):=by unfold I64;omega
  have C8:=eH ((Chg.of_ext HX6.out).trans (c7.mono (M':=fun k=>k∈b::P2.bl) (fun k _ hk=>List.mem_cons_of_mem _ hk)) |>.trans ((zO w7 b 1 (.int .i64 (L.length:Int))).mono (fun k _ hk=>by rw [show k=b from hk];exact List.mem_cons_self)));obtain⟨P4,HO8,hs4,hg4,hb4⟩:∃P4,Hid (OwnS (w7.setCell ⟨b,1,none⟩ (.int .i64 (L.length:Int))) B b P4)∧Spot P4 L { y with caller:=P2.now } R F x∧P4.g={ kN P2.g (L.length:Int) (fun f=>{ f with caller:=P2.g.now }) with now:=(L.length:Int) }∧∀k∈P4.bl,k∈P2.bl∨w3.heap.size≤k:=by
   refine⟨_,eH (o7.setNow (L.length:Int) hI),⟨rfl,HFR.out⟩,?_,fun k hk=>.inl ?_⟩
   ·have e:=uF (n:=(L.length:Int)) HP.out rfl (y':={ y with caller:=P2.now }) (g:=fun f=>{ f with caller:=P2.g.now }) rfl;rw [e];rfl
   ·unfold PState.bl at hk ⊢;rw [HP.out];simp only [List.flatMap_append,List.flatMap_cons] at hk ⊢;exact hk
  obtain⟨gf,og,cf,hvf4,_,_,x0,x1,x2,_,_⟩:=(HO8.out).spot hs4;have X1:=eH x1;have X2:=eH x2;have HV4:=eH hvf4;have HS4:=eH hs4;have hat:vF y.g=x.f:=top_at HFR.out;have HW:Hid (zHh P2.g (L.length:Int) v=if x.f.at_=0 then kT P4.g (L.length:Int) (fun z=>{ z with locals:=z.locals.set 0 v }) else kR P4.g (L.length:Int) v):=by
   unfold Hid zHh;rw [Int.toNat_natCast,zBx HP.out,hat,hg4]
  have hlc:=HLOC.out (by rw [HFR.out];simp);rw [hat] at hlc;have HLC:=eH hlc;have ht4:zU P4.g (L.length:Int):=by
   refine⟨by omega,?_,?_⟩
   ·show (L.length:Int)<((P4.fs.map PFiber.g).length:Nat);rw [hs4.fs];simp;omega
   ·rw [Int.toNat_natCast,zBx hs4.fs];show 0<(y.fr.map PFrame.f).length;rw [HFR.out];simp
  have hr4:Room P4.g:=by
   rw [hg4,HG2.out,HG1.out];exact((hr.pop).pop).caller _ _
  obtain⟨e1,e1'⟩:=o7.c1;clear x0 x1 x2 hvf4 hs4 hat hlc hg4 o7 c7;by_cases ha:x.f.at_=0
  ·have T3:decide (x.f.at_=0)=true:=decide_eq_true ha;have T3':(x.f.at_ == 0)=true:=by rw [ha];rfl
   have e:=HW.out;rw [if_pos ha] at e;have HWE:=eH e;have h0l:=HLC.out ha;have hxO:=((HO8.out).fs { y with caller:=P2.now } (by rw [HS4.out.fs];simp)).fr x (by rw [HS4.out.fr];simp);obtain⟨al9,cl9,ex,hcl,_⟩:=hxO.l.shape;have hlr:=hxO.l;rw [ex] at hlr;obtain⟨gl,ol,rfl,_,hcells⟩:=hlr.cell h0l;have z0:=(hcells 0 (by omega)).1;rw [vL _ _ h0l] at z0;have Z0:Hid (Cx (w7.setCell ⟨b,1,none⟩ (.int .i64 (L.length:Int))) gl ol (.int .i64 (x.f.locals.getD 0 0))):=eH ⟨z0,(hcells 0 (by omega)).2⟩;have HEX:=eH ex;have X3:Hid (Cx (w7.setCell ⟨b,1,none⟩ (.int .i64 (L.length:Int))) gf (og+F.length * 4+2) (.slice (some ⟨gl,ol,none⟩) x.f.locals.length cl9)):=by unfold Hid;rw [←ex];exact X2.out
   clear e ha hlr hcells hxO ex z0
   go_wp2_with (first
    | (go_at_call 181;(with_reducible refine(zHl HO8.out HS4.out HV4.out L.length rfl).mono ?_);rintro e w9 ⟨rfl,hx9⟩;obtain⟨x1,x1'⟩:=(X1.out).ext hx9;obtain⟨x3,x3'⟩:=(X3.out).ext hx9;obtain⟨z0,z0'⟩:=(Z0.out).ext hx9;have HX9:=eH hx9;clear hx9))
   go_ret;rw [HE.out,HWE.out];obtain⟨o9,c9⟩:=((HO8.out).ext HX9.out).setLocal HS4.out HEX.out 0 h0l v hLI;exact⟨rfl,Did.of (Turn.step HC1.out HS1.out (Turn.step HC2.out HS2.out (Turn.step ((C8.out).trans (Chg.of_ext HX9.out)) hb4 ⟨⟨_,o9,(qC HS4.out rfl rfl).symm,yO HS4.out (fun k hk=>.inl hk)⟩,c9⟩)))⟩
  ·have T3:decide (x.f.at_=0)=false:=decide_eq_false ha;have T3':(x.f.at_ == 0)=false:=beq_false_of_ne ha;have e:=HW.out;rw [if_neg ha] at e;have HWE:=eH e;clear e ha
   go_wp2_with (first
    | (go_at_call 181;(with_reducible refine(zHl HO8.out HS4.out HV4.out L.length rfl).mono ?_);rintro e w9 ⟨rfl,hx9⟩;obtain⟨x1,x1'⟩:=(X1.out).ext hx9;have HX9:=eH hx9;clear hx9)
    | (go_at_call 182;(with_reducible refine(zAs ((HO8.out).ext HX9.out) L.length ht4 hr4 v hLI).mono ?_);rintro e w10 ⟨rfl,t10⟩))
   go_ret;rw [HE.out,HWE.out];exact⟨rfl,Did.of (Turn.step HC1.out HS1.out (Turn.step HC2.out HS2.out (Turn.step ((C8.out).trans (Chg.of_ext HX9.out)) hb4 t10)))⟩
end Go.Proofs.YtpcjkfppacnkgaaGreatDoor
