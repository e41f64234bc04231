/- Contracts and plain facts. -/
import Derived.Test.YtpcjkfppacnkgaaGreatDoorGPBD
import Derived.Lib.IndexBytes
import Derived.Lib.IndexLaws
import Derived.Lib.IndexMore
set_option maxHeartbeats 4000000
set_option maxRecDepth 100000
namespace Go.Proofs.YtpcjkfppacnkgaaGreatDoor
open Go Go.RowKit
theorem opErr_bd (p : List GFunc) (f : GFunc) (x : GOp) : 0 ≤ kP p f x ∧ kP p f x ≤ 5 := by
  unfold kP
  repeat' split
  all_goals omega
theorem opsErr_bd (p:List GFunc) (f:GFunc):∀l,0≤opsErr p f l∧opsErr p f l≤5
 | []=>by unfold opsErr;omega
 | x::l=>by
  unfold opsErr;split
  ·exact opErr_bd p f x
  ·exact opsErr_bd p f l
theorem funcErr_bd (p:List GFunc) (f:Int):0≤funcErr p f∧funcErr p f≤5:=by
 unfold funcErr;split
 ·omega
 ·split
  ·omega
  ·split
   ·omega
   ·exact opsErr_bd _ _ _
theorem hErr_bd (p:List GFunc) (f:Int):0≤hErr p f∧hErr p f≤5:=by
 unfold hErr;split
 ·exact funcErr_bd p f
 ·split<;>omega
theorem ran_bd {p:List GFunc} {s:GState} {l:List Int} (h:Ok p s l) (n:Nat):(0≤(runG p n s).2.1∧(runG p n s).2.1≤n)∧0≤(runG p n s).2.2∧(runG p n s).2.2≤7:=by
 refine⟨run_count p n s,?_⟩;obtain⟨⟨l',h'⟩,_,h3⟩:=run_ran n h;by_cases e:(runG p n s).2.2=0
 ·omega
 ·obtain⟨_,h0,he⟩:=h3 e;have hr:=(zBl h' h0).2;unfold Res at hr;rw [he] at hr;omega
theorem hList_le {p:List GFunc} (hz:zZ p=0) (f:Int):(yL p f).length≤1000:=by
 by_cases h0:hErr p f=0
 ·obtain⟨k,hk,rfl,hR,hF⟩:=hErr_inv h0;have h1:=hF.len;have h2:=(jX hz _ (List.getElem_mem hk)).2.1;omega
 ·by_cases h1:funcErr p f=0
  ·by_cases h2:hts p (p.getD f.toNat default).code=none
   ·rw [(zBi h1 h2).2];simp
   ·exact absurd (by unfold hErr;rw [if_neg (fun h=>h h1),if_neg h2]) h0
  ·rw [(zCz h1).2];simp
structure BoxG (W:World) (i B N M:Nat) (K:Int) (a:Option Addr) (c:Nat) (d:Option Addr) (e:Nat) (R:GState):Prop where
 c0:Cx W i 0 (.slice a N c)
 c1:Cx W i 1 (.int .i64 K)
 c2:Cx W i 2 (.slice d M e)
 st:zW W (B≤·) (.agg #[.slice a N c,.int .i64 K,.slice d M e]) R
theorem BoxG.new {w:World} {B i N M:Nat} {K:Int} {a:Option Addr} {c:Nat} {d:Option Addr} {e:Nat} {R:GState} (h:kZ w B (.agg #[.slice a N c,.int .i64 K,.slice d M e]) R) (hi:i≤B) (t:TypeId) :
  BoxG (w.alloc (.cells #[.slice a N c,.int .i64 K,.slice d M e] t)) w.heap.size i N M K a c d e R :=
 ⟨Cx.new w [.slice a N c,.int .i64 K,.slice d M e] t (j:=0) rfl,Cx.new w [.slice a N c,.int .i64 K,.slice d M e] t (j:=1) rfl,Cx.new w [.slice a N c,.int .i64 K,.slice d M e] t (j:=2) rfl,
  zW.stays (fun _ _ _ hb hc=>⟨eC ((eR _).alloc _) hc,Nat.le_trans hi hb⟩) h.state⟩
theorem BoxG.late {w:World} {B C i N M:Nat} {K:Int} {a:Option Addr} {c:Nat} {d:Option Addr} {e:Nat} {R:GState} {u0 u1 u2:Value} (h:kZ w B (.agg #[.slice a N c,.int .i64 K,.slice d M e]) R) (h0:Cx w i 0 u0) (h1:Cx w i 1 u1) (h2:Cx w i 2 u2) (hi:i<B) (hC:C≤B) :
  BoxG (((w.setCell ⟨i,0,none⟩ (.slice a N c)).setCell ⟨i,1,none⟩ (.int .i64 K)).setCell ⟨i,2,none⟩ (.slice d M e)) i C N M K a c d e R:=by
 have hc:=chg3 w i (.slice a N c) (.int .i64 K) (.slice d M e);refine⟨((h0.set _).other (.inr (by decide)) _).other (.inr (by decide)) _,((h1.other (.inr (by decide)) _).set _).other (.inr (by decide)) _,((h2.other (.inr (by decide)) _).other (.inr (by decide)) _).set _,
  zW.stays (fun b o v hb hv=>⟨hc.cell (fun e=>by have e:b=i:=e;have:B≤b:=hb;omega) hv,Nat.le_trans hC hb⟩) h.state⟩
def NotG (b:Nat):Prop:=b≠0∧b≠1∧b≠5∧b≠3∧b≠4
theorem var_lt {P:Program} {w:World} {n:String} {g:Nat} {cs:Array Value} (hg:P.globalNamed n=some g) (hv:w.var? P n=some cs):g<w.heap.size:=by
 unfold World.var? at hv;rw [hg] at hv;simp only [Option.bind_some] at hv;refine Nat.lt_of_not_le fun hn=>?_
 rw [Array.getElem?_eq_none hn] at hv
 cases hv
theorem var_chg {P:Program} {w w':World} {b:Nat} (h:Chg (·=b) w w') {n:String} {g:Nat} {cs:Array Value} (hg:P.globalNamed n=some g) (hb:b≠g) (hv:w.var? P n=some cs):w'.var? P n=some cs:=by
 have hl:=var_lt hg hv;unfold World.var? at hv ⊢;rw [hg] at hv ⊢;simp only [Option.bind_some] at hv ⊢;rw [h.block g hl (fun e=>hb e.symm)];exact hv
theorem Glob.notG {w:World} {b:Nat} (h:Glob w) (hb:w.heap.size≤b):NotG b:=by
 obtain⟨h1,h2,⟨m,h3⟩,⟨e4,h4,_⟩,e5,h5,_⟩:=h;have k1:=var_lt (g:=5) (by kernel_rfl) h1;have k2:=var_lt (g:=1) (by kernel_rfl) h2;have k3:=zY h3;have k4:=zY h4;have k5:=zY h5;unfold NotG;omega
theorem Glob.chg {w w':World} {b:Nat} (h:Glob w) (hc:Chg (·=b) w w') (hb:NotG b):Glob w':=by
 obtain⟨h1,h2,⟨m,h3⟩,⟨e4,h4,h4'⟩,e5,h5,h5'⟩:=h;obtain⟨n1,n2,n3,n4,n5⟩:=hb;exact⟨var_chg hc (g:=5) (by kernel_rfl) n3 h1,var_chg hc (g:=1) (by kernel_rfl) n2 h2,⟨m,hc.cell (fun e=>n1 e.symm) h3⟩,⟨e4,hc.cell (fun e=>n4 e.symm) h4,h4'⟩,e5,hc.cell (fun e=>n5 e.symm) h5,h5'⟩
theorem heights_desk (p:List GFunc) (s:GState) (n:Int) (S:Nat→Prop) (b:Nat) (w:World) (hg:Glob w) (hT:TabX w S b p s) (hz:zZ p=0) :
  Calls Tryz.prog 78 #[.pointer (some ⟨b,0,none⟩),.int .i64 n] w fun e W'=>e=.returned (.string ⟨(vN p n).toArray⟩)∧Ext w W':=by
 have HG:=eH hg;obtain⟨pa,pc,fa,fc,oa,oc,hT⟩:=hT;have HT:=eH hT;obtain⟨c0,c0'⟩:=hT.c0;have hbd:=hErr_bd p n;have hll:(yL p n).length≤1000:=hList_le hz n;obtain⟨r,hr⟩:∃r,hErr p n=r:=⟨_,rfl⟩
 have HR:=eH hr;rw [hr] at hbd;have hIr:I64 r:=I64.small (by omega) (by omega);unfold vN;rw [hr];by_cases h0:r=0
 ·subst h0;rw [if_neg (by decide)];clear hg hT hr;go_enter Tryz.func78,Tryz.ntmps78
  go_wp2_with (first
   | (go_at_call 98;(with_reducible refine(zEq p _ _ n _ HT.out.pr).mono ?_);rintro e w2 ⟨⟨v2,rfl,hx2⟩,hb2⟩;rw [HR.out])
   | (go_at_call 108;(with_reducible refine(vU (yL p n) _ _ _ (HG.out.ext hb2) hx2 hll).mono ?_);rintro e w3 ⟨rfl,hb3⟩))
  go_ret;exact⟨rfl,hb2.trans hb3⟩
 ·rw [if_pos h0];have TR:(r != 0)=true:=bne_iff_ne.2 h0;clear hg hT hr h0;go_enter Tryz.func78,Tryz.ntmps78
  go_wp2_with (first
   | (go_at_call 98;(with_reducible refine(zEq p _ _ n _ HT.out.pr).mono ?_);rintro e w2 ⟨⟨v2,rfl,hx2⟩,hb2⟩;rw [HR.out])
   | (go_at_call 76;(with_reducible refine(jZ r _ (HG.out.ext hb2) hIr).mono ?_);rintro e w3 ⟨rfl,hb3⟩))
  go_ret;exact⟨rfl,hb2.trans hb3⟩
theorem step_desk (p:List GFunc) (s:GState) (l:List Int) (n:Nat) (S:Nat→Prop) (b:Nat) (w:World) (hg:Glob w) (hT:TabX w S b p s) (hok:Ok p s l) (hn:n≤1000000) (hnb:NotG b) :
  Calls Tryz.prog 77 #[.pointer (some ⟨b,0,none⟩),.int .i64 n] w fun e W'=>e=.returned (.string ⟨(zEn p s n).2.toArray⟩)∧TabX W' (Up S w.heap.size) b p (zEn p s n).1∧Chg (·=b) w W':=by
 have HG:=eH hg;obtain⟨pa,pc,fa,fc,oa,oc,hT⟩:=hT;have HT:=eH hT;obtain⟨c0,c0'⟩:=hT.c0;obtain⟨c1,c1'⟩:=hT.c1;obtain⟨c2,c2'⟩:=hT.c2;obtain⟨c3,c3'⟩:=hT.c3;have hcat:=jS;have hlen:=zAo;have RA:=zF;unfold zEn;by_cases h5:500<n
 ·rw [if_pos (by omega)];have TL:decide ((500:Int)<(n:Int))=true:=decide_eq_true (by omega);clear hg hT;go_enter Tryz.func77,Tryz.ntmps77
  go_wp2_with (first
   | (go_at_call 76;(with_reducible refine(jZ 3 _ HG.out (I64.small (by decide) (by decide))).mono ?_);rintro e w3 ⟨rfl,hb3⟩))
  go_ret;exact⟨rfl,(HT.out.ext hb3).upX HT.out.lt,Chg.of_ext hb3⟩
 ·rw [if_neg (by omega)];have TL:decide ((500:Int)<(n:Int))=false:=decide_eq_false (by omega);rw [Int.toNat_natCast];have hbd:=ran_bd hok n;have HON:=eH (fun W (h:Ext w W)=>on_any p _ _ _ s l _ n W (zM.stays (Ext.stays h) HT.out.pr) (zW.stays (Ext.stays h) HT.out.st) hok hn);obtain⟨⟨R,rn,rg⟩,hrr⟩:∃z,runG p n s=z:=⟨_,rfl⟩
  rw [hrr] at hbd;replace hbd:(0≤rn∧rn≤n)∧0≤rg∧rg≤7:=hbd;have hrn:I64 rn:=I64.small (by omega) (by omega);have hrg:I64 rg:=I64.small (by omega) (by omega);have HRR:Hid (∀W,Ext w W→Calls Tryz.prog 41 #[.slice pa p.length pc,.agg #[.slice fa s.fibers.length fc,.int .i64 s.now,.slice oa s.out.length oc],.int .i64 n] W fun e w'=>(∃x,e=.returned (.tuple #[x,.int .i64 rn,.int .i64 rg])∧kZ w' W.heap.size x R)∧Ext W w'):=by
   intro W h;have:=HON.out W h;rw [hrr] at this;exact this
  rw [hrr];clear hrr HON hg hT;go_enter Tryz.func77,Tryz.ntmps77
  go_upto_region 3 with fail
  go_cut [5,6,7] (fun q5 q6 q7 wr=>∃i a c d e,q5=.pointer (some ⟨i,0,none⟩)∧q6=.int .i64 rn∧q7=.int .i64 rg∧Ext w wr∧w.heap.size≤i∧BoxG wr i w.heap.size R.fibers.length R.out.length R.now a c d e R)
  case first =>
   have S2:∀W,Ext w W→((fun W=>W.cell? ⟨b,0,none⟩=some (.slice pa p.length pc)∧W.cell? ⟨b,1,none⟩=some (.slice fa s.fibers.length fc)∧W.cell? ⟨b,2,none⟩=some (.int .i64 s.now)∧W.cell? ⟨b,3,none⟩=some (.slice oa s.out.length oc)) W):=fun W h=>⟨eC h c0,eC h c1,eC h c2,eC h c3⟩
   refine yW (fun W=>W.cell? ⟨b,0,none⟩=some (.slice pa p.length pc)∧W.cell? ⟨b,1,none⟩=some (.slice fa s.fibers.length fc)∧W.cell? ⟨b,2,none⟩=some (.int .i64 s.now)∧W.cell? ⟨b,3,none⟩=some (.slice oa s.out.length oc)) 17 [0,1,2,3,4,5,6,7,8] 9 (by kernel_rfl) (by kernel_rfl) (fun _ _ _ _ _ h=>h) (S2 _ (by ((repeat first|assumption|exact eR _|exact And.left (by assumption)|apply eA|apply eD|apply eN|refine eS ?_ (by simp<;>omega) _|refine eT ?_ (by assumption));done))) ?_
   (try simp only [zH,List.filterMap_cons,List.filterMap_nil,xO,xP])
   repeat (
    refine zN (by rfl) ?_;apply Exists.intro;refine⟨fun w' hw'=>?_,?_⟩
    focus
     (try dsimp only at hw')
     go_split_ands;go_simp
     (try with_reducible rfl)
    (try dsimp only [Act.put])
    (try simp only [xL,xM,xN]))
   refine zL ?_;refine yB 9 14 (by kernel_rfl) rfl rfl ?_ ?_
   ·go_wp2_with (first
     | (go_at_call 41;(with_reducible refine(HRR.out _ (by ((repeat first|assumption|exact eR _|exact And.left (by assumption)|apply eA|apply eD|apply eN|refine eS ?_ (by simp<;>omega) _|refine eT ?_ (by assumption));done))).mono ?_);rintro e w9 ⟨⟨x9,rfl,hx9⟩,hb9⟩;obtain⟨ra,rc,rb,rd,rfl⟩:=hx9.few;have HX9:=eH hx9;clear hx9))
    refine zJ (S2 _ (by ((repeat first|assumption|exact eR _|exact And.left (by assumption)|apply eA|apply eD|apply eN|refine eS ?_ (by simp<;>omega) _|refine eT ?_ (by assumption));done))) ?_;refine kE 10 (by kernel_rfl) (by kernel_rfl) (by kernel_rfl) (by kernel_rfl) (by kernel_rfl) (fun _ _ _ _ _ h=>h) rfl (by rfl) (S2 _ (by ((repeat first|assumption|exact eR _|exact And.left (by assumption)|apply eA|apply eD|apply eN|refine eS ?_ (by simp<;>omega) _|refine eT ?_ (by assumption));done))) ?_;apply Exists.intro;refine⟨fun w' hw'=>?_,?_⟩
    focus
     go_simp
     (try with_reducible rfl)
    (try dsimp only [Act.put])
    (try simp only [xL])
    refine kE 11 (by kernel_rfl) (by kernel_rfl) (by kernel_rfl) (by kernel_rfl) (by kernel_rfl) (fun _ _ _ _ _ h=>h) rfl (by rfl) (S2 _ (by ((repeat first|assumption|exact eR _|exact And.left (by assumption)|apply eA|apply eD|apply eN|refine eS ?_ (by simp<;>omega) _|refine eT ?_ (by assumption));done))) ?_;apply Exists.intro;refine⟨fun w' hw'=>?_,?_⟩
    focus
     go_simp
     (try with_reducible rfl)
    (try dsimp only [Act.put])
    (try simp only [xL])
    refine kE 12 (by kernel_rfl) (by kernel_rfl) (by kernel_rfl) (by kernel_rfl) (by kernel_rfl) (fun _ _ _ _ _ h=>h) rfl (by rfl) (S2 _ (by ((repeat first|assumption|exact eR _|exact And.left (by assumption)|apply eA|apply eD|apply eN|refine eS ?_ (by simp<;>omega) _|refine eT ?_ (by assumption));done))) ?_;apply Exists.intro;refine⟨fun w' hw'=>?_,?_⟩
    focus
     go_simp
     (try with_reducible rfl)
    (try dsimp only [Act.put])
    (try simp only [xL])
    refine kE 13 (by kernel_rfl) (by kernel_rfl) (by kernel_rfl) (by kernel_rfl) (by kernel_rfl) (fun _ _ _ _ _ h=>h) rfl (by rfl) (S2 _ (by ((repeat first|assumption|exact eR _|exact And.left (by assumption)|apply eA|apply eD|apply eN|refine eS ?_ (by simp<;>omega) _|refine eT ?_ (by assumption));done))) ?_;apply Exists.intro;refine⟨fun w' hw'=>?_,?_⟩
    focus
     go_simp
     (try with_reducible rfl)
    (try dsimp only [Act.put])
    (try simp only [xL])
    refine zG 14 (by kernel_rfl) rfl ?_
    go_wp2_with fail
    refine zJ (S2 _ (by ((repeat first|assumption|exact eR _|exact And.left (by assumption)|apply eA|apply eD|apply eN|refine eS ?_ (by simp<;>omega) _|refine eT ?_ (by assumption));done))) ?_;refine zG 15 (by kernel_rfl) rfl ?_
    go_wp2_with fail
    refine zJ (S2 _ (by ((repeat first|assumption|exact eR _|exact And.left (by assumption)|apply eA|apply eD|apply eN|refine eS ?_ (by simp<;>omega) _|refine eT ?_ (by assumption));done))) ?_;refine zG 16 (by kernel_rfl) rfl ?_
    go_wp2_with fail
    refine zJ (S2 _ (by ((repeat first|assumption|exact eR _|exact And.left (by assumption)|apply eA|apply eD|apply eN|refine eS ?_ (by simp<;>omega) _|refine eT ?_ (by assumption));done))) ?_;refine zG 17 (by kernel_rfl) rfl ?_
    go_wp2_with fail
    refine qM rfl (by kernel_rfl) ?_
    go_wp2_with fail
    go_meet
    exact⟨_,_,_,_,_,rfl,rfl,rfl,by ((repeat first|assumption|exact eR _|exact And.left (by assumption)|apply eA|apply eD|apply eN|refine eS ?_ (by simp<;>omega) _|refine eT ?_ (by assumption));done),hb9.size,BoxG.new HX9.out (i:=w.heap.size) (Nat.le_refl _) _⟩
   ·go_wp2_with fail
    refine zJ (S2 _ (by ((repeat first|assumption|exact eR _|exact And.left (by assumption)|apply eA|apply eD|apply eN|refine eS ?_ (by simp<;>omega) _|refine eT ?_ (by assumption));done))) ?_;refine zG 9 (by kernel_rfl) rfl ?_;have BX:Hid (Cx (w.drew.alloc (.cells #[.slice none 0 0,.int .i64 0,.slice none 0 0] 58)) w.heap.size 0 (.slice none 0 0)∧Cx (w.drew.alloc (.cells #[.slice none 0 0,.int .i64 0,.slice none 0 0] 58)) w.heap.size 1 (.int .i64 0)∧Cx (w.drew.alloc (.cells #[.slice none 0 0,.int .i64 0,.slice none 0 0] 58)) w.heap.size 2 (.slice none 0 0)):=⟨Cx.new w.drew [.slice none 0 0,.int .i64 0,.slice none 0 0] 58 (j:=0) rfl,Cx.new w.drew [.slice none 0 0,.int .i64 0,.slice none 0 0] 58 (j:=1) rfl,Cx.new w.drew [.slice none 0 0,.int .i64 0,.slice none 0 0] 58 (j:=2) rfl⟩
    have hszB:w.heap.size<(w.drew.alloc (.cells #[.slice none 0 0,.int .i64 0,.slice none 0 0] 58)).heap.size:=by show w.heap.size<(w.heap.push _).size;simp
    go_wp2_with (first
     | (go_at_call 41;(with_reducible refine(HRR.out _ (by ((repeat first|assumption|exact eR _|exact And.left (by assumption)|apply eA|apply eD|apply eN|refine eS ?_ (by simp<;>omega) _|refine eT ?_ (by assumption));done))).mono ?_);rintro e w9 ⟨⟨x9,rfl,hx9⟩,hb9⟩;obtain⟨ra,rc,rb,rd,rfl⟩:=hx9.few;have HX9:=eH hx9;clear hx9))
    replace BX:=eH (⟨BX.out.1.ext hb9,BX.out.2.1.ext hb9,BX.out.2.2.ext hb9⟩:_∧_∧_);refine zJ (S2 _ (by ((repeat first|assumption|exact eR _|exact And.left (by assumption)|apply eA|apply eD|apply eN|refine eS ?_ (by simp<;>omega) _|refine eT ?_ (by assumption));done))) ?_;refine zG 10 (by kernel_rfl) rfl ?_
    go_wp2_with fail
    refine zJ (S2 _ (by ((repeat first|assumption|exact eR _|exact And.left (by assumption)|apply eA|apply eD|apply eN|refine eS ?_ (by simp<;>omega) _|refine eT ?_ (by assumption));done))) ?_;refine kE 11 (by kernel_rfl) (by kernel_rfl) (by kernel_rfl) (by kernel_rfl) (by kernel_rfl) (fun _ _ _ _ _ h=>h) rfl (by rfl) (S2 _ (by ((repeat first|assumption|exact eR _|exact And.left (by assumption)|apply eA|apply eD|apply eN|refine eS ?_ (by simp<;>omega) _|refine eT ?_ (by assumption));done))) ?_;apply Exists.intro;refine⟨fun w' hw'=>?_,?_⟩
    focus
     go_simp
     (try with_reducible rfl)
    (try dsimp only [Act.put])
    (try simp only [xL])
    refine kE 12 (by kernel_rfl) (by kernel_rfl) (by kernel_rfl) (by kernel_rfl) (by kernel_rfl) (fun _ _ _ _ _ h=>h) rfl (by rfl) (S2 _ (by ((repeat first|assumption|exact eR _|exact And.left (by assumption)|apply eA|apply eD|apply eN|refine eS ?_ (by simp<;>omega) _|refine eT ?_ (by assumption));done))) ?_;apply Exists.intro;refine⟨fun w' hw'=>?_,?_⟩
    focus
     go_simp
     (try with_reducible rfl)
    (try dsimp only [Act.put])
    (try simp only [xL])
    refine kE 13 (by kernel_rfl) (by kernel_rfl) (by kernel_rfl) (by kernel_rfl) (by kernel_rfl) (fun _ _ _ _ _ h=>h) rfl (by rfl) (S2 _ (by ((repeat first|assumption|exact eR _|exact And.left (by assumption)|apply eA|apply eD|apply eN|refine eS ?_ (by simp<;>omega) _|refine eT ?_ (by assumption));done))) ?_;apply Exists.intro;refine⟨fun w' hw'=>?_,?_⟩
    focus
     go_simp
     (try with_reducible rfl)
    (try dsimp only [Act.put])
    (try simp only [xL])
    obtain⟨⟨z0,z0'⟩,⟨z1,z1'⟩,⟨z2,z2'⟩⟩:=BX.out;refine zG 15 (by kernel_rfl) rfl ?_
    go_wp2_with fail
    refine zJ (S2 _ (by ((repeat first|assumption|exact eR _|exact And.left (by assumption)|apply eA|apply eD|apply eN|refine eS ?_ (by simp<;>omega) _|refine eT ?_ (by assumption));done))) ?_;refine zG 16 (by kernel_rfl) rfl ?_
    go_wp2_with fail
    refine zJ (S2 _ (by ((repeat first|assumption|exact eR _|exact And.left (by assumption)|apply eA|apply eD|apply eN|refine eS ?_ (by simp<;>omega) _|refine eT ?_ (by assumption));done))) ?_;refine zG 17 (by kernel_rfl) rfl ?_
    go_wp2_with fail
    refine qM rfl (by kernel_rfl) ?_
    go_wp2_with fail
    go_meet
    exact⟨_,_,_,_,_,rfl,rfl,rfl,ext3 (w:=w) (by ((repeat first|assumption|exact eR _|exact And.left (by assumption)|apply eA|apply eD|apply eN|refine eS ?_ (by simp<;>omega) _|refine eT ?_ (by assumption));done)) _ _ _,Nat.le_refl _,BoxG.late HX9.out BX.out.1 BX.out.2.1 BX.out.2.2 hszB (Nat.le_of_lt hszB)⟩
  case rest =>
   obtain⟨i,a,c,d,e,rfl,rfl,rfl,hE,hi,hB⟩:=hcut;rename World=>wr
   have HE:=eH hE;have HB:=eH hB;have hbi:b≠i:=by have:=HT.out.lt;omega
   obtain⟨z0,z0'⟩:=hB.c0;obtain⟨z1,z1'⟩:=hB.c1;obtain⟨z2,z2'⟩:=hB.c2;have hT2:=HT.out.ext hE;have HT2:=eH hT2;clear c0 c0' c1 c1' c2 c2' c3 c3';obtain⟨c0,c0'⟩:=hT2.c0;obtain⟨c1,c1'⟩:=hT2.c1;obtain⟨c2,c2'⟩:=hT2.c2;obtain⟨c3,c3'⟩:=hT2.c3;have hN:=(hT2.up HT.out.lt).turn (s':=R) (zW.stays (fun g o v hg hc=>⟨hc,.inr hg⟩) hB.st);have hC:=chgT3 wr b (.slice a R.fibers.length c) (.int .i64 R.now) (.slice d R.out.length e);obtain⟨W4,hW4⟩:∃W4,((wr.setCell ⟨b,1,none⟩ (.slice a R.fibers.length c)).setCell ⟨b,2,none⟩ (.int .i64 R.now)).setCell ⟨b,3,none⟩ (.slice d R.out.length e)=W4:=⟨_,rfl⟩
   have HW4:=eH hW4;rw [hW4] at hN hC;have HN:=eH hN;have HC:=eH ((Chg.of_ext HE.out).trans hC);have HG4:=eH (HG.out.chg HC.out hnb);clear hE hB hT2 hN hC hW4
   go_upto_region 5 with fail
   rw [HW4.out];clear z0 z0' z1 z1' z2 z2' c0 c0' c1 c1' c2 c2' c3 c3';have hdl:(Lib.itoa rn).length≤21:=Lib.itoa_length_le rn hrn.1 hrn.2;have hdg:(Lib.itoa rg).length≤21:=Lib.itoa_length_le rg hrg.1 hrg.2;have HL1:Hid (jT [rn]=Lib.itoa rn):=zFu rn;have HI1:∀W:World,Hid (Ints (W.alloc (.cells #[.int .i64 rn] 3)) (fun _=>True) (.slice (some ⟨W.heap.size,0,none⟩) 1 1) [rn]):=fun W=>zDx W [rn] (by intro m hm;rw [List.mem_singleton.1 hm];exact hrn) (by simp)
   by_cases h0:rg=0
   ·subst h0;have HRT:Hid (ranT (R,rn,0)=jT [rn]):=by unfold Hid ranT;rw [if_neg (fun h=>h rfl)];exact(zFu rn).symm
    go_wp2_with (first
     | (go_at_call 108;(with_reducible refine(vU [rn] _ _ _ (HG4.out.ext ((eR _).alloc _)) (HI1 _).out (by simp)).mono ?_);rintro e w2 ⟨rfl,hb2⟩))
    go_ret;exact⟨by rw [HRT.out];rfl,⟨_,_,_,_,_,_,(HN.out.ext ((eR _).alloc _)).ext hb2⟩,(HC.out.trans (Chg.of_ext ((eR _).alloc _))).trans (Chg.of_ext hb2)⟩
   ·have HRT0:Hid (ranT (R,rn,rg)=Lib.itoa rn++32::errT rg):=by unfold Hid ranT;rw [if_pos h0]
    have TG:(rg != 0)=true:=bne_iff_ne.2 h0;obtain⟨d1,hd1⟩:∃d1,Lib.itoa rn=d1:=⟨_,rfl⟩
    obtain⟨d2,hd2⟩:∃d2,errT rg=d2:=⟨_,rfl⟩
    have hdl2:d2.length≤27:=by rw [←hd2];unfold errT;simp only [List.length_append,List.length_cons,List.length_nil];omega
    rw [hd1] at hdl;have HL2:Hid (jT [rn]=d1):=by rw [←hd1];exact zFu rn
    have HD2:=eH hd2;have n1:¬9223372036854775807<d1.length+1:=by omega
    have n2:¬9223372036854775807<d1.length+1+d2.length:=by omega
    have HRT:Hid (ranT (R,rn,rg)=d1++32::d2):=by rw [←hd1,←hd2];exact HRT0.out
    clear hd1 hd2 h0 HL1 HRT0
    go_wp2_with (first
     | (go_at_call 108;(with_reducible refine(vU [rn] _ _ _ (HG4.out.ext ((eR _).alloc _)) (HI1 _).out (by simp)).mono ?_);rintro e w2 ⟨rfl,hb2⟩;rw [HL2.out];have HX2:=eH (((eR _).alloc _).trans hb2))
     | (go_at_call 76;(with_reducible refine(jZ rg _ (HG4.out.ext HX2.out) hrg).mono ?_);rintro e w3 ⟨rfl,hb3⟩;rw [HD2.out]))
    go_ret;exact⟨by rw [HRT.out];simp [cat],⟨_,_,_,_,_,_,(HN.out.ext HX2.out).ext hb3⟩,(HC.out.trans (Chg.of_ext HX2.out)).trans (Chg.of_ext hb3)⟩
theorem zFz (x:By):((32:UInt8) ∉ x∧Lib.cut x [32]=(x,[],false))∨(∃a r,(32:UInt8) ∉ a∧x=a++32::r∧Lib.cut x [32]=(a,r,true)):=by
 unfold Lib.cut;rw [Lib.index_one];by_cases h:0≤Lib.indexByte x 32
 ·rw [if_pos h];obtain⟨i,hi⟩:∃i:Nat,Lib.indexByte x 32=i:=⟨(Lib.indexByte x 32).toNat,by omega⟩
  obtain⟨h1,h2⟩:=Lib.indexByte_some hi;rw [hi,Int.toNat_natCast];obtain⟨hl,he⟩:=List.getElem?_eq_some_iff.1 h1;refine .inr ⟨x.take i,x.drop (i+1),fun hm=>?_,?_,rfl⟩
  ·obtain⟨k,hk,e⟩:=List.getElem_of_mem hm;rw [List.length_take] at hk;rw [List.getElem_take] at e;exact h2 k (by omega) (by rw [List.getElem?_eq_getElem (by omega),e])
  ·conv=>lhs;rw [←List.take_append_drop i x,List.drop_eq_getElem_cons hl,he]
 ·rw [if_neg h];refine .inl ⟨fun hm=>?_,rfl⟩;have:=Lib.indexByte_ge x 32;obtain⟨k,hk,e⟩:=List.getElem_of_mem hm;have hn:Lib.indexByte x 32 = -1:=by omega
  exact Lib.indexByte_none hn k (by rw [List.getElem?_eq_getElem hk,e])
def goodN (r:By) (n:Int):Prop:=uI r=some n∧0≤n∧r.length≤6∧Lib.itoa n=r
theorem good_num {r:By} {n:Int} (h:goodN r n):numG r=n∧(32:UInt8) ∉ r∧n≤999999:=by
 obtain⟨_,h0,hl,he⟩:=h;have hfree:(32:UInt8) ∉ r:=by rw [←he];exact zAf n 32 (by decide)
 have hd:Lib.itoa n=Lib.decDigits n.toNat:=vK h0;have hnum:numG r=n:=by
  have hp:=zFn n.toNat;unfold numG;rw [←he,hd,zBz,Option.getD_some,if_pos ⟨⟨by obtain⟨b,t,e,_⟩:=hp;rw [e];simp,by rw [←hd,he];exact hl⟩,vP _,by rw [vK (by omega)];congr 1⟩];omega
 have:=zAl r;exact⟨hnum,hfree,by omega⟩
theorem num_good {r:By} (h:0≤numG r):goodN r (numG r):=by
 have hb:=zAl r;unfold numG at h ⊢;by_cases hc:(1≤r.length∧r.length≤6)∧(∀b∈r,48≤b.toNat∧b.toNat≤57)∧Lib.itoa ((Lib.decFrom 0 r).getD 0:Nat)=r
 ·have hn:numG r=((Lib.decFrom 0 r).getD 0:Nat):=by unfold numG;rw [if_pos hc]
  rw [if_pos hc];rw [hn] at hb;refine⟨?_,by omega,hc.1.2,hc.2.2⟩;have:=zCn (n:=((Lib.decFrom 0 r).getD 0:Nat)) (by omega) (by omega);rw [hc.2.2] at this;exact this
 ·rw [if_neg hc] at h;exact absurd h (by decide)
theorem tail_bad {x op rest:By} {f:Bool} (hc:Lib.cut x [32]=(op,rest,f)) (h:∀n,¬goodN rest n):(zT 32 x).length≠2∨numG ((zT 32 x).getD 1 [])<0:=by
 rcases zFz x with ⟨h1,h2⟩ | ⟨a,r,h1,h2,h3⟩
 ·rw [uA _ _ h1];exact .inl (by simp)
 ·rw [h3] at hc;simp only [Prod.mk.injEq] at hc;obtain⟨rfl,rfl,-⟩:=hc;rw [h2,yC _ _ _ h1];by_cases hr:(32:UInt8)∈r
  ·rcases zFz r with ⟨k1,_⟩ | ⟨a',r',k1,k2,_⟩
   ·exact absurd hr k1
   ·rw [k2,yC _ _ _ k1];have:=zDj 32 r' [];exact .inl (by simp only [List.length_cons];unfold zT;omega)
  ·rw [uA _ _ hr];refine .inr ?_;show numG r<0;refine Int.not_le.1 fun h0=>h _ (num_good h0)
theorem tail_good {x op rest:By} {f:Bool} {n:Int} (hc:Lib.cut x [32]=(op,rest,f)) (h:goodN rest n):zT 32 x=[op,rest]∧numG rest=n:=by
 obtain⟨e1,e2,_⟩:=good_num h;refine⟨?_,e1⟩;rcases zFz x with ⟨h1,h2⟩ | ⟨a,r,h1,h2,h3⟩
 ·rw [h2] at hc;simp only [Prod.mk.injEq] at hc;obtain⟨-,rfl,-⟩:=hc;have:=h.2.2.2;have hne:=zEg n.toNat;rw [vK h.2.1] at this;exact absurd this hne
 ·rw [h3] at hc;simp only [Prod.mk.injEq] at hc;obtain⟨rfl,rfl,-⟩:=hc;rw [h2,yC _ _ _ h1,uA _ _ e2]
theorem play_bad {p:List GFunc} {s:GState} {x op rest:By} {f:Bool} (hw:jN p s x=none) (hc:Lib.cut x [32]=(op,rest,f)) (h:∀n,¬goodN rest n):qQ p s x=(s,errT 1):=by
 unfold qQ;rw [hw];simp only;rw [if_pos (tail_bad hc h)]
theorem play_good {p:List GFunc} {s:GState} {x op rest:By} {f:Bool} {n:Int} (hw:jN p s x=none) (hc:Lib.cut x [32]=(op,rest,f)) (h:goodN rest n) :
  qQ p s x=if op=zHo then zEn p s n else if op=uO then (s,vN p n) else (s,errT 1):=by
 obtain⟨e1,e2⟩:=tail_good hc h;unfold qQ;rw [hw];simp only;have h0:=h.2.1;rw [e1];simp only [List.getD_cons_succ,List.getD_cons_zero,e2];rw [if_neg (fun hh=>hh.elim (fun h1=>h1 rfl) (fun h1=>by omega))]
theorem zBn {P:Program} (w:World) (es:Array MapEntry) (c:Nat):(getObj w.heap.size).run P (w.alloc (.map es c))=.ok (.map es c) (w.alloc (.map es c)):=by
 have h:=heap_alloc_new w (.map es c);simp only [getObj,Sem.run,h]
theorem set_push {α:Type} (l:Array α) (a b:α):(l.push a).setIfInBounds l.size b=l.push b:=by
 apply Array.ext';simp
theorem zEx {P:Program} (w:World) (es es':Array MapEntry) (c c':Nat):(setObj w.heap.size (.map es' c')).run P (w.alloc (.map es c))=.ok () (w.alloc (.map es' c')):=by
 have h:=heap_alloc_new w (.map es c);simp only [setObj,Sem.run,h]
 congr 1
 show ({ w with heap:=(w.heap.push (.map es c)).setIfInBounds w.heap.size (.map es' c') }:World)={ w with heap:=w.heap.push (.map es' c') };rw [set_push]
section
variable {P:Program} {T K E:TypeId} (hT:P.underlying T=some (.map K E)) (hK:P.underlying K=some (.int .i64)) (w:World)
include hK in
include hK in
include hT hK
end
section
variable {P:Program} {T K E:TypeId} (hT:P.underlying T=some (.map K E)) (hK:P.underlying K=some .string) (w:World)
include hK in
theorem uY (b:Bool) (k:ByteArray):(Instr.checkKey b 10000 K (.string k)).run P w=.ok () w:=by
 rw [show (10000:Nat)=9999+1 from rfl];unfold Instr.checkKey;simp only [Sem.run_bind,run_underlying hK,Result.andThen_ok];rfl
include hK in
theorem zAy (k:ByteArray) (es:List MapEntry) (r:Option (Nat × Value)) (h:Instr.findNow .string (.string k) es 0=some r):(Instr.findKey K (.string k) es).run P w=.ok r w:=by
 unfold Instr.findKey;simp only [Sem.run_bind,run_underlying hK,Result.andThen_ok,h];rfl
include hT hK
theorem run_updS0 (a:ByteArray) (x:Value):(Instr.mapUpdate T (.map (some w.heap.size)) (.string a) x).run P (w.alloc (.map #[] 0))=.ok () (w.alloc (.map #[⟨.string a,x,0⟩] 1)):=by
 unfold Instr.mapUpdate;simp only [Sem.run_bind,run_underlying hT,zBn,Result.andThen_ok,uY hK,zAy hK _ a [] none rfl,zEx];rfl
theorem run_updS1 (a b:ByteArray) (hab:(b == a)=false) (x y:Value):(Instr.mapUpdate T (.map (some w.heap.size)) (.string b) y).run P (w.alloc (.map #[⟨.string a,x,0⟩] 1))=.ok () (w.alloc (.map #[⟨.string a,x,0⟩,⟨.string b,y,1⟩] 2)):=by
 have e:Instr.findNow .string (.string b) [⟨.string a,x,0⟩] 0=some none:=by simp [Instr.findNow,Instr.sameNow,hab]
 unfold Instr.mapUpdate;simp only [Sem.run_bind,run_underlying hT,zBn,Result.andThen_ok,uY hK,zAy hK _ b [⟨.string a,x,0⟩] none e,zEx];rfl
theorem run_lookS (a b k:ByteArray) (x y z:Value) (hz:∀w:World,(zeroValue E).run P w=.ok z w):(Instr.lookup T (.map (some w.heap.size)) (.string k) false).run P (w.alloc (.map #[⟨.string a,x,0⟩,⟨.string b,y,1⟩] 2)) =
  .ok (if k == a then x else if k == b then y else z) (w.alloc (.map #[⟨.string a,x,0⟩,⟨.string b,y,1⟩] 2)):=by
 unfold Instr.lookup;have e:Instr.findNow .string (.string k) [⟨.string a,x,0⟩,⟨.string b,y,1⟩] 0=some (if k == a then some (0,x) else if k == b then some (1,y) else none):=by
  cases h0:k == a with
  | true=>simp [Instr.findNow,Instr.sameNow,h0]
  | false =>
   cases h1:k == b with
   | true=>simp [Instr.findNow,Instr.sameNow,h0,h1]
   | false=>simp [Instr.findNow,Instr.sameNow,h0,h1]
 simp only [Sem.run_bind,Sem.run_pure,run_underlying hT,zBn,Result.andThen_ok,uY hK];rw [zAy hK _ k _ _ e]
 cases h0:k == a with
 | true=>simp only [if_true,Sem.run_bind,Sem.run_pure,Result.andThen_ok];rfl
 | false =>
  cases h1:k == b with
  | true=>simp only [if_true,Result.andThen_ok];rfl
  | false=>simp only [Bool.false_eq_true,if_false,Sem.run_bind,Sem.run_pure,Result.andThen_ok,hz]
end
end Go.Proofs.YtpcjkfppacnkgaaGreatDoor
