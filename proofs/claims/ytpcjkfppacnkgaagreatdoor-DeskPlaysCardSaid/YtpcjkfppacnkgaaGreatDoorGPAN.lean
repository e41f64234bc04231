/- Contracts and plain facts. -/
import Derived.Test.YtpcjkfppacnkgaaGreatDoorGPAM
import Derived.StillTailTactics
import Derived.WalkSmall
set_option maxHeartbeats 4000000
set_option maxRecDepth 100000
namespace Go.Proofs.YtpcjkfppacnkgaaGreatDoor
open Go Go.RowKit
def jV (v:Value) (fs:List (GFunc × Value)):List Nat:=(zB v).toList++fs.flatMap fun y=>(zB y.2).toList
theorem Ext.froz {w w':World} (h:Ext w w') {a:Addr} {v:Value} (hc:w.cell? a=some v):w'.frozen? a=w.frozen? a:=Ext.keepF h a (by rw [hc];rfl)
structure PF (Kp:Nat→Prop) (w w0:World) (B:Nat) (v:Value) (fs:List (GFunc × Value)) (wx:World):Prop where
 inK:∀g,Kp g→g<w0.heap.size
 le:w0.heap.size≤wx.heap.size
 keep:Keep Kp w0 wx
 ext:Ext w wx
 base:w.heap.size≤B
 row:PRow wx B v fs
 off:∀g∈jV v fs,¬Kp g
theorem PF.start {Kp:Nat→Prop} {w w0:World} {B:Nat} {v:Value} {fs:List (GFunc × Value)} (hK:∀g,Kp g→g<w0.heap.size) (he:Ext w w0) (hb:w.heap.size≤B) (hr:PRow w0 B v fs) (ho:∀g∈jV v fs,¬Kp g):PF Kp w w0 B v fs w0 :=
 ⟨hK,Nat.le_refl _,Keep.refl _ _,he,hb,hr,ho⟩
theorem PF.more {Kp:Nat→Prop} {w w0 wx W:World} {B:Nat} {v:Value} {fs:List (GFunc × Value)} (h:PF Kp w w0 B v fs wx) (he:Ext wx W):PF Kp w w0 B v fs W :=
 ⟨h.inK,Nat.le_trans h.le he.size,fun b hb=>(he.block b (Nat.lt_of_lt_of_le (h.inK b hb) h.le)).trans (h.keep b hb),h.ext.trans he,h.base,h.row.ext he,h.off⟩
theorem PF.back {Kp Kp':Nat→Prop} {w w0 wa wx:World} {B:Nat} {v v0:Value} {fs fs0:List (GFunc × Value)} (h:PF Kp' w wa B v fs wx) (h0:PF Kp w w0 B v0 fs0 wa) (hK:∀g,Kp g→Kp' g):PF Kp w w0 B v fs wx :=
 ⟨h0.inK,Nat.le_trans h0.le h.le,fun b hb=>(h.keep b (hK b hb)).trans (h0.keep b hb),h.ext,h.base,h.row,fun g hg hk=>h.off g hg (hK g hk)⟩
theorem PF.with {Kp:Nat→Prop} {w w0 wr wa:World} {B g:Nat} {v:Value} {fs:List (GFunc × Value)} (h:PF Kp w w0 B v fs wr) (he:Ext wr wa) (hg:wr.heap.size≤g) (hga:g<wa.heap.size):PF (fun b=>Kp b∨b=g) w wa B v fs wa:=by
 refine PF.start (fun b hb=>?_) (h.ext.trans he) h.base (h.row.ext he) (fun b hb hk=>?_)
 ·rcases hb with hb | rfl
  ·exact Nat.lt_of_lt_of_le (h.inK b hb) (Nat.le_trans h.le he.size)
  ·exact hga
 ·rcases hk with hk | rfl
  ·exact h.off b hb hk
  ·have:=(h.row.ge b hb).2;omega
theorem PF.cell {Kp:Nat→Prop} {w w0 wx:World} {B:Nat} {v:Value} {fs:List (GFunc × Value)} (h:PF Kp w w0 B v fs wx) {g o:Nat} {u:Value} (hg:Kp g) (hc:w0.cell? ⟨g,o,none⟩=some u):wx.cell? ⟨g,o,none⟩=some u:=(h.keep.cell hg).trans hc
theorem PF.push {Kp:Nat→Prop} {w w0 wx W W':World} {B:Nat} {v v':Value} {fs:List (GFunc × Value)} {A L:Int} (h:PF Kp w w0 B v fs wx) (he:Ext wx W)
  (hn:kO W W' B 3 v v' (fs.length+1) (fs.flatMap zCj++[.int .i64 A,.int .i64 L,.slice none 0 0])) (hA:I64 A) (hL:I64 L) (hl:fs.length<10000):PF Kp w w0 B v' (fs++[(⟨A,L,[]⟩,.slice none 0 0)]) W':=by
 have h1:=h.more he;have hv:∀g,zB v=some g→¬Kp g:=fun g e=>h.off g (by unfold jV;rw [e];simp)
 refine⟨h.inK,Nat.le_trans h1.le hn.2.1.size,fun b hb=>?_,Chg.ext_from h1.ext hn.2.1 (fun g e=>Nat.le_trans h.base (h1.row.row.le g e)),h.base,h1.row.push hn hA hL hl,fun g hg=>?_⟩
 ·exact(hn.2.1.block b (Nat.lt_of_lt_of_le (h.inK b hb) h1.le) (fun e=>hv b e hb)).trans (h1.keep b hb)
 ·unfold jV at hg;rw [List.flatMap_append] at hg;have e0:(zB (.slice none 0 0)).toList=[]:=rfl;simp only [List.flatMap_cons,List.flatMap_nil,List.append_nil,e0] at hg;rcases List.mem_append.1 hg with h2 | h2
  ·rcases hn.2.2 with e | e
   ·rw [e] at h2;exact h.off g (List.mem_append.2 (.inl h2))
   ·intro hK;have:=e g (by simpa using h2);have:=h.inK g hK;have:=h1.le;omega
  ·exact h.off g (List.mem_append.2 (.inr h2))
theorem PF.op {Kp:Nat→Prop} {w w0 wx W W':World} {B g o n cap:Nat} {L:List (GFunc × Value)} {y:GFunc × Value} {v1:Value} {x:GOp} (h:PF Kp w w0 B (.slice (some ⟨g,o,none⟩) n cap) (L++[y]) wx) (he:Ext wx W)
  (hn:kO W W' B 2 y.2 v1 (y.1.code.length+1) (y.1.code.flatMap opF++opF x)) (hx:I64 x.kind∧I64 x.a) (hl:y.1.code.length<10000) :
  PF Kp w w0 B (.slice (some ⟨g,o,none⟩) n cap) (L++[({ y.1 with code:=y.1.code++[x] },v1)]) (W'.setCell ⟨g,o+L.length * 3+2,none⟩ v1):=by
 have h1:=h.more he;have hcap:cap≠0:=by
  obtain⟨a,c,e,h1,_⟩:=h.row.row.shape;simp only [Value.slice.injEq] at e;have:(L++[y]).length=L.length+1:=by simp
  omega
 have hgb:zB (.slice (some ⟨g,o,none⟩) n cap)=some g:=zK _ _ _ _ hcap;have hg:¬Kp g:=h.off g (by unfold jV;rw [hgb];simp);have hgB:B≤g:=h.row.row.le g hgb;have hv:∀k,zB y.2=some k→¬Kp k:=fun k e=>h.off k (by unfold jV;rw [List.flatMap_append];simp [e])
 have hvB:∀k,zB y.2=some k→B≤k:=fun k e=>(h.row.fn y (by simp)).2.2.1.le k e
 have hc:=zO W' g (o+L.length * 3+2) v1;refine⟨h.inK,?_,fun b hb=>?_,?_,h.base,h1.row.op hn hx hl,fun k hk=>?_⟩
 ·exact Nat.le_trans (Nat.le_trans h1.le hn.2.1.size) hc.size
 ·refine(hc.block b (Nat.lt_of_lt_of_le (h.inK b hb) (Nat.le_trans h1.le hn.2.1.size)) (fun e=>hg (by subst e;exact hb))).trans ?_;exact(hn.2.1.block b (Nat.lt_of_lt_of_le (h.inK b hb) h1.le) (fun e=>hv b e hb)).trans (h1.keep b hb)
 ·refine Chg.ext_from (Chg.ext_from h1.ext hn.2.1 (fun k e=>Nat.le_trans h.base (hvB k e))) hc (fun k e=>?_);subst e;exact Nat.le_trans h.base hgB
 ·unfold jV at hk;rw [List.flatMap_append] at hk;simp only [List.flatMap_cons,List.flatMap_nil,List.append_nil] at hk;rcases List.mem_append.1 hk with h2 | h2
  ·exact h.off k (List.mem_append.2 (.inl h2))
  rcases List.mem_append.1 h2 with h3 | h3
  ·exact h.off k (by unfold jV;rw [List.flatMap_append];exact List.mem_append.2 (.inr (List.mem_append.2 (.inl h3))))
  ·rcases hn.2.2 with e | e
   ·exact hv k (by rw [←e];simpa using h3)
   ·intro hK;have:=e k (by simpa using h3);have:=h.inK k hK;have:=h1.le;omega
theorem flat_txt:∀(l:List By),l.flatMap txtF=l.map txtV
 | []=>rfl
 | x::l=>by rw [List.flatMap_cons,flat_txt l];rfl
theorem RowAt.strs {w:World} {base cap:Nat} {a:Option Addr} {l:List By} (h:RowAt w base 1 (.slice a l.length cap) l.length (l.flatMap txtF)) (hn:0<l.length) :
  ∃g o,a=some ⟨g,o,none⟩∧base≤g∧g<w.heap.size∧∀i (hi:i<l.length),w.cell? ⟨g,o+i,none⟩=some (txtV l[i]):=by
 obtain⟨g,o,rfl,hb,hc⟩:=h.cell hn;have h1:∀i (hi:i<l.length),w.cell? ⟨g,o+i,none⟩=some (txtV l[i]):=fun i hi=>by
  rw [(hc i (by omega)).1,flat_txt,List.getElem?_map,List.getElem?_eq_getElem hi];rfl
 exact⟨g,o,rfl,hb,zY (h1 0 hn),h1⟩
theorem zCu:∀(L:List (GFunc × Value)),(L.flatMap zCj).length=L.length * 3
 | []=>rfl
 | y::L=>by rw [List.flatMap_cons,List.length_append,zCu L,List.length_cons];simp [zCj];omega
theorem PRow.last {w:World} {B g o n cap:Nat} {L:List (GFunc × Value)} {y:GFunc × Value} (h:PRow w B (.slice (some ⟨g,o,none⟩) n cap) (L++[y])) :
  w.cell? ⟨g,o+L.length * 3+2,none⟩=some y.2∧w.frozen? ⟨g,o+L.length * 3+2,none⟩=false:=by
 have hr:=h.row;obtain⟨a,c,e,h1,h2⟩:=hr.shape;simp only [Value.slice.injEq] at e;obtain⟨-,e1,-⟩:=e;rw [e1] at hr;have hlen:(L++[y]).length=L.length+1:=by simp
 obtain⟨g',o',e2,_,hc⟩:=hr.cell (by omega);simp only [Option.some.injEq,Addr.mk.injEq,and_true] at e2;obtain⟨rfl,rfl⟩:=e2;have h3:=hc (L.length * 3+2) (by omega);rw [Nat.add_assoc];refine⟨?_,h3.2⟩;rw [h3.1,List.flatMap_append,List.getElem?_append_right (by rw [zCu];omega),zCu,show L.length * 3+2 - L.length * 3=2 by omega];rfl
theorem PF.op_keeps {Kp:Nat→Prop} {w w0 wx W W':World} {B g o n cap m:Nat} {L:List (GFunc × Value)} {y:GFunc × Value} {v1:Value} {xs:List Value} (h:PF Kp w w0 B (.slice (some ⟨g,o,none⟩) n cap) (L++[y]) wx) (he:Ext wx W)
  (hn:kO W W' B 2 y.2 v1 m xs):Keep Kp w0 W'∧W'.heap[g]?=wx.heap[g]?:=by
 have h1:=h.more he;have hcap:cap≠0:=by
  obtain⟨a,c,e,h1,_⟩:=h.row.row.shape;simp only [Value.slice.injEq] at e;have:(L++[y]).length=L.length+1:=by simp
  omega
 have hgb:zB (.slice (some ⟨g,o,none⟩) n cap)=some g:=zK _ _ _ _ hcap;have hv:∀k,zB y.2=some k→¬Kp k:=fun k e=>h.off k (by unfold jV;rw [List.flatMap_append];simp [e])
 have hgw:g<wx.heap.size:=(h.row.ge g (by rw [hgb];simp)).2;have hgy:zB y.2≠some g:=fun e=>by
  have hnd:=h.row.nodup;rw [hgb] at hnd;obtain⟨_,_,n3⟩:=List.nodup_append.1 hnd;exact n3 g (by simp) g (by rw [List.flatMap_append];simp [e]) rfl
 exact⟨fun b hb=>(hn.2.1.block b (Nat.lt_of_lt_of_le (h.inK b hb) h1.le) (fun e=>hv b e hb)).trans (h1.keep b hb),(hn.2.1.block g (Nat.lt_of_lt_of_le hgw he.size) hgy).trans (he.block g hgw)⟩
theorem zEv (c:UInt8):∀(l cur:By),(∀p∈kJ c cur l,p.length≤cur.length+l.length)
 | [],cur=>by simp [kJ]
 | b::l,cur=>by
  rw [kJ];split
  ·intro p hp;rcases List.mem_cons.1 hp with rfl | hp
   ·simp
   ·have:=zEv c l [] p hp;simp at this ⊢;omega
  ·intro p hp;have:=zEv c l (cur++[b]) p hp;simp at this ⊢;omega
theorem yD {c:UInt8} {s p:By} (h:p∈zT c s):p.length≤s.length:=by simpa using zEv c s [] p h
theorem zDj (c:UInt8):∀(l cur:By),1≤(kJ c cur l).length
 | [],cur=>by simp [kJ]
 | b::l,cur=>by
  rw [kJ];split
  ·simp
  ·exact zDj c l _
theorem wordsG_len (l:By):3≤(qY l).length:=by
 have:=zDj 32 l [];unfold qY zT;simp;omega
theorem words_at (l:By):∃a b c r,qY l=a::b::c::r:=by
 have:=wordsG_len l
 match h:qY l,this with
 | a::b::c::r,_=>exact⟨a,b,c,r,rfl⟩
theorem mem_wordsG {l p:By} (h:p∈qY l):p.length≤l.length:=by
 unfold qY at h;rcases List.mem_append.1 h with h | h
 ·exact yD h
 ·simp only [List.mem_cons,List.not_mem_nil,or_false,or_self] at h;subst h;simp
theorem decFrom_lt:∀(s:By) (n m:Nat),Lib.decFrom n s=some m→m<(n+1) * 10 ^ s.length
 | [],n,m,h=>by
  rw [Lib.decFrom] at h
  cases h
  simp
 | b::s,n,m,h=>by
  rw [Lib.decFrom] at h
  cases hd:Lib.digitVal b with
  | none=>rw [hd] at h;exact absurd h (by simp)
  | some d =>
   rw [hd] at h;have hd9:d≤9:=by
    unfold Lib.digitVal at hd
    split at hd
    ·cases hd;omega
    ·exact absurd hd (by simp)
   have:=decFrom_lt s (n * 10+d) m h;rw [List.length_cons,Nat.pow_succ];refine Nat.lt_of_lt_of_le this ?_;rw [Nat.mul_comm (10 ^ s.length) 10,←Nat.mul_assoc];exact Nat.mul_le_mul_right _ (by omega)
theorem zAl (s:By) : -1≤numG s∧numG s≤999999:=by
 unfold numG;split
 ·rename_i h
  refine⟨by omega,?_⟩
  cases hd:Lib.decFrom 0 s with
  | none=>simp
  | some m =>
   have h1:=decFrom_lt s 0 m hd;have h2:10 ^ s.length≤10 ^ 6:=Nat.pow_le_pow_right (by decide) h.1.2;simp only [Option.getD_some];have:(10:Nat) ^ 6=1000000:=by decide
   omega
 ·omega
theorem zHf (L:List (GFunc × Value)) (y:GFunc × Value) (x:GOp) (u:Value):zCo ((L++[y]).map Prod.fst) x=(L++[({ y.1 with code:=y.1.code++[x] },u)]).map Prod.fst:=by
 rw [List.map_append,List.map_append,List.map_singleton,zEl];rfl
theorem foldl_take_succ {α β:Type} (f:β→α→β) (b:β) {l:List α} {k:Nat} (h:k<l.length):(l.take (k+1)).foldl f b=f ((l.take k).foldl f b) l[k]:=by
 rw [List.take_succ_eq_append_getElem h,List.foldl_append];rfl
def FewP (k:Nat) (fs:List (GFunc × Value)):Prop:=fs.length≤k∧∀y∈fs,y.1.code.length≤k
theorem FewP.next {k:Nat} {fs:List (GFunc × Value)} (h:FewP k fs):FewP (k+1) fs:=⟨by have:=h.1;omega,fun y hy=>by have:=h.2 y hy;omega⟩
theorem FewP.push {k:Nat} {fs:List (GFunc × Value)} (h:FewP k fs) (A L:Int) (u:Value):FewP (k+1) (fs++[(⟨A,L,[]⟩,u)]):=by
 refine⟨by have:=h.1;simp;omega,fun y hy=>?_⟩;rcases List.mem_append.1 hy with h1 | h1
 ·have:=h.2 y h1;omega
 ·rw [List.mem_singleton.1 h1];simp
theorem FewP.op {k:Nat} {L:List (GFunc × Value)} {y:GFunc × Value} (h:FewP k (L++[y])) (x:GOp) (u:Value):FewP (k+1) (L++[({ y.1 with code:=y.1.code++[x] },u)]):=by
 refine⟨by have:=h.1;simp at this ⊢;omega,fun z hz=>?_⟩;rcases List.mem_append.1 hz with h1 | h1
 ·have:=h.2 z (by simp [h1]);omega
 ·rw [List.mem_singleton.1 h1];have:=h.2 y (by simp);simp;omega
theorem fresh_any (p:List GFunc) (v:Value) (S T:Nat→Prop) (x:GFiber) (vx:Value) (w:World) (hp:zM w S v p) (hx:uW w T vx x) (hf:∀h:0<x.frames.length,0≤x.frames[0].func∧x.frames[0].func<p.length) :
  Calls Tryz.prog 117 #[v,vx] w fun e w'=>e=.returned (.bool (qV p x))∧Ext w w':=by
 have HP:=eH hp;obtain⟨fs,cl⟩:=x;obtain⟨vf,rfl,hfr,_⟩:=hx;have hfr0:=hfr;obtain⟨a1,c1,rfl,_,_,_⟩:=hfr;simp only at *;have RA:=zF;obtain⟨r,hr⟩:∃r,qV p ⟨fs,cl⟩=r:=⟨_,rfl⟩
 rw [hr];have HR:=eH hr;clear hr;by_cases h1:fs.length=1
 ·have T1:((fs.length:Int) != 1)=false:=by rw [bne_eq_false_iff_eq];omega
  obtain⟨x,rfl⟩:∃x,fs=[x]:=List.length_eq_one_iff.1 h1;obtain⟨b0,b1⟩:=hf (by simp);obtain⟨bf,of,cf,e1,_,_,⟨_,x0,_⟩,⟨_,x1,_⟩,⟨vl,x2,hls⟩,⟨vs,x3,hss⟩⟩:=hfr0.get (i:=0) (by simp);simp only [Value.slice.injEq,List.getElem_cons_zero] at e1 x0 x1 hls hss b0 b1;obtain⟨rfl,-,rfl⟩:=e1;rw [Nat.zero_mul,Nat.add_zero] at x0 x1 x2 x3;obtain⟨fn,at_,ls,st⟩:=x;simp only at *;obtain⟨n,rfl⟩:∃n:Nat,fn=n:=⟨fn.toNat,by omega⟩
  have hn:n<p.length:=by omega
  obtain⟨b,o,cap,rfl,hcap,hby,⟨_,hA,iA⟩,_,_⟩:=hp.get hn;have hF:=funcOf_nat hn;have HLS:=eH hls;obtain⟨a2,c2,rfl,_,_,_⟩:=hls;obtain⟨a3,c3,rfl,_,_,_⟩:=hss;have HRR:Hid (r=(decide (at_=0) && decide (p[n].args=1) && decide (st.length=0) && allK ls.length (fun k=>decide (ls.getD k 0=0)))):=by
   unfold Hid;rw [←HR.out];unfold qV;simp only [List.getD_cons_zero,hF];simp
  clear hF HR hfr0 hp b0 b1 hf h1;by_cases h2:at_=0
  ·have T2:(at_ != 0)=false:=by rw [bne_eq_false_iff_eq];exact h2
   by_cases h3:p[n].args=1
   ·have T3:(p[n].args != 1)=false:=by rw [bne_eq_false_iff_eq];exact h3
    by_cases h4:st.length=0
    ·have T4:((st.length:Int) != 0)=false:=by rw [bne_eq_false_iff_eq];omega
     have HR2:Hid (r=allK ls.length (fun k=>decide (ls.getD k 0=0))):=by unfold Hid;rw [HRR.out];simp [h2,h3,h4]
     clear h2 h3 h4 HRR;go_enter Tryz.func117,Tryz.ntmps117;have BX:=eH (Cx.new w [.slice (some ⟨bf,of,none⟩) 1 c1,.int .i64 cl] 112 (j:=0) rfl);have HX2:=eH x2
     go_wp2_with fail
     go_loopw [5] (fun q wr=>∃k:Nat,k≤ls.length∧q=.int .i64 k∧Ext (w.alloc (.cells #[.slice (some ⟨bf,of,none⟩) 1 c1,.int .i64 cl] 112)) wr∧∀i,i<k→ls.getD i 0=0) (fun q _=>ls.length - (intOf q).toNat)
     case atStart=>exact⟨0,Nat.zero_le _,rfl,eR _,fun i hi=>absurd hi (Nat.not_lt_zero _)⟩
     case round =>
      obtain⟨k,hk,rfl,hb,hz0⟩:=hrel;have HB:=eH hb;have HZ0:=eH hz0;have q0:=(BX.out.ext hb).1;have q2:=eC (((eR w).alloc _).trans hb) HX2.out;clear hb hz0 x0 x1 x2 x3 hA;by_cases hlt:k<ls.length
      ·obtain⟨bl,ol,rfl,l0⟩:=Ints.at' HLS.out hlt;have l1:=eC (((eR w).alloc _).trans HB.out) l0;clear l0;generalize hu:ls.getD k 0=u at *;have HU:=eH hu;clear hu;by_cases h0:u=0
       ·have T0:(u != 0)=false:=by rw [bne_eq_false_iff_eq];exact h0
        have HZ1:Hid (∀i,i<k+1→ls.getD i 0=0):=fun i hi=>by
         by_cases e:i=k
         ·rw [e,HU.out];exact h0
         ·exact HZ0.out i (by omega)
        clear h0
        go_wp2_with fail
        go_roundw
        case rel=>exact⟨k+1,by omega,by go_num,HB.out,HZ1.out⟩
        case measure=>simp [intOf];omega
       ·have T0:(u != 0)=true:=bne_iff_ne.2 h0;have HR3:Hid (r=false):=by unfold Hid;rw [HR2.out];exact allK_false hlt (by rw [HU.out];exact decide_eq_false h0)
        clear h0
        go_wp2_with fail
        go_ret;exact⟨by rw [HR3.out];rfl,((eR w).alloc _).trans HB.out⟩
      ·obtain rfl:k=ls.length:=by omega
       have HR3:Hid (r=true):=by unfold Hid;rw [HR2.out];exact zGb (fun i hi=>decide_eq_true (HZ0.out i hi))
       clear hlt
       go_wp2_with fail
       go_ret;exact⟨by rw [HR3.out];rfl,((eR w).alloc _).trans HB.out⟩
    ·have T4:((st.length:Int) != 0)=true:=bne_iff_ne.2 (by omega);have HR2:Hid (r=false):=by unfold Hid;rw [HRR.out];simp [h4]
     clear h2 h3 h4 HRR;go_enter Tryz.func117,Tryz.ntmps117
     go_wp2_with fail
     go_ret;exact⟨by rw [HR2.out];rfl,(eR w).alloc _⟩
   ·have T3:(p[n].args != 1)=true:=bne_iff_ne.2 h3;have HR2:Hid (r=false):=by unfold Hid;rw [HRR.out];simp [h3]
    clear h2 h3 HRR;go_enter Tryz.func117,Tryz.ntmps117
    go_wp2_with fail
    go_ret;exact⟨by rw [HR2.out];rfl,(eR w).alloc _⟩
  ·have T2:(at_ != 0)=true:=bne_iff_ne.2 h2;have HR2:Hid (r=false):=by unfold Hid;rw [HRR.out];simp [h2]
   clear h2 HRR;go_enter Tryz.func117,Tryz.ntmps117
   go_wp2_with fail
   go_ret;exact⟨by rw [HR2.out];rfl,(eR w).alloc _⟩
 ·have T1:((fs.length:Int) != 1)=true:=bne_iff_ne.2 (by omega);have HR2:Hid (r=false):=by unfold Hid;rw [←HR.out];unfold qV;simp [h1]
  obtain⟨a,cap,rfl,_,_,_⟩:=hp;clear h1 HR;go_enter Tryz.func117,Tryz.ntmps117
  go_wp2_with fail
  go_ret;exact⟨by rw [HR2.out];rfl,(eR w).alloc _⟩
theorem Bools.at' {w:World} {S:Nat→Prop} {a:Option Addr} {l:List Bool} {n c:Nat} (h:Bools w S (.slice a n c) l) {m:Nat} (hm:m<l.length):∃b o,a=some ⟨b,o,none⟩∧w.cell? ⟨b,o+m,none⟩=some (.bool l[m]):=by
 obtain⟨b,o,_,e1,_,_,_,x0⟩:=h.get hm;simp only [Value.slice.injEq] at e1;obtain⟨rfl,-,rfl⟩:=e1;rw [Nat.mul_one] at x0;exact⟨b,o,rfl,x0⟩
set_option linter.unusedSimpArgs false
def HtsL (w:World):Value→List (List Int)→Prop:=Sl (fun b o l=>∃v,w.cell? ⟨b,o,none⟩=some v∧Ints w (fun _=>True) v l) 1 24
theorem HtsL.ext {w w':World} {v:Value} {l:List (List Int)} (h:HtsL w v l) (he:Ext w w'):HtsL w' v l :=
 Sl.mono h fun _ _ _ ⟨v,h1,h2⟩=>⟨v,eC he h1,Ints.stays (Ext.stays he) h2⟩
end Go.Proofs.YtpcjkfppacnkgaaGreatDoor
