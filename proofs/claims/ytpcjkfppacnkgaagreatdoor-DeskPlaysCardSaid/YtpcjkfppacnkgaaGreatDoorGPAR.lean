/- Contracts and plain facts. -/
import Derived.Test.YtpcjkfppacnkgaaGreatDoorGPAQ
set_option maxHeartbeats 4000000
set_option maxRecDepth 100000
namespace Go.Proofs.YtpcjkfppacnkgaaGreatDoor
open Go Go.RowKit
structure HFacts (p:List GFunc) (C:List GOp) (l:List Int):Prop where
 len:l.length=C.length
 pos:0<C.length
 zero:l.getD 0 0=0
 low:∀k,k<C.length→l.getD k 0<0→l.getD k 0 = -1
 hi:∀k,k<C.length→l.getD k 0≤8
 thru:∀k,(hk:k<C.length)→0≤l.getD k 0→zP p C[k]≤l.getD k 0∧nOf p C[k] (l.getD k 0)≤8∧(C[k].kind=12→l.getD k 0=1)∧∀i∈nx C[k] k,i<C.length∧l.getD i 0=nOf p C[k] (l.getD k 0)
 from_:∀k,k<C.length→0≤l.getD k 0→k≠0→∃j,∃hj:j<C.length,0≤l.getD j 0∧k∈nx C[j] j
theorem hfacts {p:List GFunc} {F:GFunc} (hR:RightF p F) {l:List Int} (h:hts p F.code=some l):HFacts p F.code l:=by
 have hF:=hts_full hR.jumps h;refine⟨hF.len,hF.zero.1,hF.zero.2,fun k hk h0=>by have:=hF.low k hk;omega,fun k hk=>?_,fun k hk h0=>?_,fun k hk h0 hne=>?_⟩
 ·by_cases h0:0≤l.getD k 0
  ·rcases (hF.come k hk h0).from with ⟨_,h2⟩ | ⟨j,hh,hc,hj,hin,he⟩
   ·omega
   ·obtain⟨_,e,h0'⟩:=hF.come_eq hc;have:=(zIg (hF.thru j hj (by omega)).1).2.1;rw [he,←e];exact this
  ·omega
 ·obtain⟨t1,t2⟩:=hF.thru k hk h0;rw [zDy hk] at t1 t2;obtain⟨a1,a2,a3⟩:=zIg t1;refine⟨a1,a2,fun h12=>?_,t2⟩;have h3:=a3 h12;have ht:zP p F.code[k]=1:=by unfold zP;rw [if_neg (by omega),if_pos (by omega)]
  have hl:kA F.code[k]=0:=by unfold kA;rw [if_pos (by omega)]
  unfold nOf at h3;omega
 ·rcases (hF.come k hk h0).from with ⟨h1,_⟩ | ⟨j,hh,hc,hj,hin,_⟩
  ·exact absurd h1 hne
  ·obtain⟨_,e,h0'⟩:=hF.come_eq hc;rw [zDy hj] at hin;exact⟨j,hj,by rw [e];exact h0',hin⟩
theorem goT {p q:List GFunc} (ht:∀x,zP p x=zP q x) (x:GOp) (h:Int):nOf p x h=nOf q x h∧badB p x h=badB q x h:=by
 have:nOf p x h=nOf q x h:=by unfold nOf;rw [ht]
 exact⟨this,by unfold badB;rw [ht,this]⟩
theorem wl_same {p q:List GFunc} (ht:∀x,zP p x=zP q x) (code:List GOp):∀(f:Nat) (out:List Int) (work:List Nat),wl p code f out work=wl q code f out work
 | 0,_,_=>rfl
 | _+1,_,[]=>rfl
 | f+1,out,k::work=>by
  unfold wl;rw [(goT ht _ _).2,(goT ht _ _).1];split
  ·rfl
  ·split
   ·rfl
   ·exact wl_same ht code f _ _
theorem hts_same {p q:List GFunc} (ht:∀x,zP p x=zP q x) (code:List GOp):hts p code=hts q code:=by
 unfold hts;rw [wl_same ht]
structure Sim (p q:List GFunc):Prop where
 len:q.length=p.length
 same:∀k,(hp:k<p.length)→(hq:k<q.length)→q[k].args=p[k].args∧q[k].locals=p[k].locals
theorem Sim.getD {p q:List GFunc} (h:Sim p q) (k:Nat):(q.getD k default).args=(p.getD k default).args∧(q.getD k default).locals=(p.getD k default).locals:=by
 by_cases hk:k<p.length
 ·have hq:k<q.length:=by rw [h.len];exact hk
  simp only [List.getD,List.getElem?_eq_getElem hk,List.getElem?_eq_getElem hq,Option.getD_some];exact h.same k hk hq
 ·have hq:¬k<q.length:=by rw [h.len];exact hk
  simp [List.getD,List.getElem?_eq_none (by omega:p.length≤k),List.getElem?_eq_none (by omega:q.length≤k)]
theorem Sim.takes {p q:List GFunc} (h:Sim p q) (x:GOp):zP q x=zP p x:=by unfold zP;rw [(h.getD _).1]
theorem Sim.sized {p q:List GFunc} (h:Sim p q) (k:Nat):qO (q.getD k default)=qO (p.getD k default):=by unfold qO;rw [(h.getD _).1,(h.getD _).2]
theorem Sim.opsErr {p q:List GFunc} (h:Sim p q) {F G:GFunc} (hl:F.locals=G.locals) (hc:F.code=G.code):∀l:List GOp,opsErr q F l=opsErr p G l
 | []=>rfl
 | x::l=>by
  have:kP q F x=kP p G x:=by unfold kP qJ;rw [hl,hc,h.len,h.sized,(h.getD _).1]
  unfold Proofs.YtpcjkfppacnkgaaGreatDoor.opsErr;rw [this,Sim.opsErr h hl hc l]
theorem Sim.funcErr {p q:List GFunc} (h:Sim p q) {f:Int} (hc:(q.getD f.toNat default).code=(p.getD f.toNat default).code):funcErr q f=funcErr p f:=by
 unfold Proofs.YtpcjkfppacnkgaaGreatDoor.funcErr;rw [h.len,hc,h.sized,h.opsErr (h.getD f.toNat).2 hc]
theorem Sim.heights {p q:List GFunc} (h:Sim p q) {f:Int} (hc:(q.getD f.toNat default).code=(p.getD f.toNat default).code):hErr q f=hErr p f∧yL q f=yL p f:=by
 unfold hErr yL;rw [h.funcErr hc,hc,hts_same (fun x=>h.takes x)];exact⟨rfl,rfl⟩
theorem hErr_inv {p:List GFunc} {f:Int} (h:hErr p f=0):∃(n:Nat) (hn:n<p.length),f=n∧RightF p p[n]∧HFacts p p[n].code (yL p f):=by
 by_cases h0:funcErr p f=0
 ·obtain⟨n,hn,rfl,hg,hR⟩:=zHz h0
  cases hh:hts p (p.getD (n:Int).toNat default).code with
  | none=>rw [(zBi h0 hh).1] at h;cases h
  | some l =>
   refine⟨n,hn,rfl,hR,?_⟩;rw [(hErr_some h0 hh).2];rw [hg] at hh;exact hfacts hR hh
 ·rw [(zCz h0).1] at h;exact absurd h h0
structure FrameF (p:List GFunc) (x:GFrame):Prop where
 func:0≤x.func∧x.func<p.length
 locals:(x.locals.length:Int)=(zI p x.func).locals
 at_:0≤x.at_∧x.at_<(zI p x.func).code.length
 stack:x.stack.length≤8
theorem zCv {p:List GFunc} (h:RightP p) {f:Int} (h0:0≤f) (h1:f<p.length):RightF p (zI p f)∧HFacts p (zI p f).code (hgt p f):=by
 have hf:f.toNat<p.length:=by omega
 have e:zI p f=p[f.toNat]:=by unfold zI;simp [List.getD,List.getElem?_eq_getElem hf]
 have hr:RightF p (zI p f):=by
  rw [e];have e0:((f.toNat:Nat):Int)=f:=by omega
  have:=h.func f.toNat hf;rw [e0] at this;exact(vA this).2.2 hf
 refine⟨hr,?_⟩;have hs:=h.hts f.toNat hf;unfold hgt;have e2:p.getD f.toNat default=zI p f:=rfl;rw [e2] at hs ⊢
 cases hh:hts p (zI p f).code with
 | none=>rw [hh] at hs;cases hs
 | some l=>exact hfacts hr hh
theorem uQ {p:List GFunc} {x:GFrame} (h:qW p x=true):(0≤x.func∧x.func<p.length)∧(x.locals.length:Int)=(zI p x.func).locals∧(0≤x.at_∧x.at_<(zI p x.func).code.length)∧0≤(hgt p x.func).getD x.at_.toNat 0:=by
 unfold qW at h;simp only [Bool.and_eq_true,decide_eq_true_eq] at h;exact⟨h.1.1.1,h.1.1.2,h.1.2,h.2⟩
theorem zCb {p:List GFunc} {x:GFrame} {k a:Int} (h:zBa p x k a=true):(x.stack.length:Int)=(hgt p x.func).getD x.at_.toNat 0 - 1:=by
 unfold zBa at h;simp only [Bool.and_eq_true,decide_eq_true_eq] at h;exact h.1.2
theorem RightS.onF {p:List GFunc} {s:GState} {l:List Int} (h:RightS p s l) {k j:Nat} (hk:k<s.fibers.length) (hj:j<(s.fibers.getD k default).frames.length) :
  onB p (s.fibers.getD k default).frames j=true∧topB p (s.fibers.getD k default) (decide ((k:Int)∈l)) (decide ((k:Int)=s.now)) ((s.fibers.getD k default).frames.getD ((s.fibers.getD k default).frames.length - 1) default)=true:=by
 have hb:=h.fib k hk;unfold fibK at hb;rw [Bool.and_eq_true] at hb;have hb:=hb.1;unfold jK at hb;rw [if_neg (by omega),Bool.and_eq_true] at hb;exact⟨allK_of hb.1 j hj,hb.2⟩
theorem RightS.frameF {p:List GFunc} {s:GState} {l:List Int} (h:RightS p s l) {k j:Nat} (hk:k<s.fibers.length) (hj:j<(s.fibers.getD k default).frames.length) :
  FrameF p ((s.fibers.getD k default).frames.getD j default):=by
 obtain⟨ho,ht⟩:=h.onF hk hj;have hP:=kH h.prog;generalize s.fibers.getD k default=f at *;unfold onB at ho;rw [Bool.and_eq_true] at ho;obtain⟨ho1,ho2⟩:=ho;obtain⟨f1,f2,f3,f4⟩:=uQ ho1;refine⟨f1,f2,f3,?_⟩;have hh:=(zCv hP f1.1 f1.2).2.hi (f.frames.getD j default).at_.toNat (by omega);by_cases hl:j+1<f.frames.length
 ·rw [decide_eq_true hl] at ho2;simp only [Bool.not_true,Bool.false_or,Bool.and_eq_true] at ho2;have:=zCb ho2.2;omega
 ·obtain rfl:j=f.frames.length - 1:=by omega
  unfold topB at ht
  split at ht
  ·unfold zBs at ht;have:=of_decide_eq_true ht;omega
  ·split at ht
   ·have:=zCb ht;omega
   ·rw [Bool.and_eq_true,Bool.or_eq_true] at ht;rcases ht.2 with h2 | h2
    ·unfold qV at h2;simp only [Bool.and_eq_true,decide_eq_true_eq] at h2;have e1:f.frames.length - 1=0:=by omega
     rw [e1];have:=h2.1.2;omega
    ·have:=zCb h2;omega
def fnAt (fs:List GFrame) (g:Int) (j:Nat):Int:=if j+1<fs.length then (fs.getD (j+1) default).func else g
def OnL (p:List GFunc) (fs:List GFrame) (g:Int):Prop:=∀j,j<fs.length→qW p (fs.getD j default)=true∧zBa p (fs.getD j default) 11 (fnAt fs g j)=true
theorem zAg {α:Type} [Inhabited α] {fs:List α} {x:α} {j:Nat} (h:j<fs.length):(fs++[x]).getD j default=fs.getD j default:=by
 simp [List.getD,List.getElem?_append_left h]
theorem yV {α:Type} [Inhabited α] {fs:List α} {x:α}:(fs++[x]).getD fs.length default=x:=by simp [List.getD]
theorem fn_next (fs:List GFrame) (x:GFrame) {j:Nat} (h:j<fs.length):((fs++[x]).getD (j+1) default).func=fnAt fs x.func j:=by
 unfold fnAt;by_cases hj:j+1<fs.length
 ·rw [if_pos hj,zAg hj]
 ·rw [if_neg hj];have:j+1=fs.length:=by omega
  rw [this,yV]
theorem frameB_func {p:List GFunc} {x:GFrame} (h:qW p x=true):0≤x.func∧x.func<p.length:=(uQ h).1
theorem zCk {p:List GFunc} {f:GFiber} {on runs:Bool} (h:jK p f on runs=true) (h0:f.frames≠[]) :
  ∃fs x,f.frames=fs++[x]∧OnL p fs x.func∧qW p x=true∧topB p f on runs x=true:=by
 refine⟨f.frames.dropLast,f.frames.getLast h0,(List.dropLast_concat_getLast h0).symm,?_⟩;have e:=(List.dropLast_concat_getLast h0).symm;generalize f.frames.dropLast=fs at *;generalize f.frames.getLast h0=x at *;unfold jK at h;rw [if_neg (by rw [e];simp),Bool.and_eq_true] at h;obtain⟨h1,h2⟩:=h;have h1:=allK_of h1;rw [e] at h1 h2;rw [List.length_append,List.length_singleton,Nat.add_sub_cancel,yV] at h2;have hx:=h1 fs.length (by simp);unfold onB at hx;rw [yV,Bool.and_eq_true] at hx;refine⟨fun j hj=>?_,hx.1,h2⟩;have hj1:=h1 j (by simp;omega);unfold onB at hj1;rw [decide_eq_true (show j+1<(fs++[x]).length by simp;omega),fn_next fs x hj,zAg hj] at hj1;simp only [Bool.not_true,Bool.false_or,Bool.and_eq_true] at hj1;exact⟨hj1.1,hj1.2.2⟩
theorem vW {p:List GFunc} {f:GFiber} {on runs:Bool} {fs:List GFrame} {x:GFrame} (e:f.frames=fs++[x]) (hl:OnL p fs x.func) (hx:qW p x=true)
  (ht:topB p f on runs x=true):jK p f on runs=true:=by
 unfold jK;rw [if_neg (by rw [e];simp),Bool.and_eq_true];rw [e];refine⟨zGb fun j hj=>?_,?_⟩
 ·rw [List.length_append,List.length_singleton] at hj;unfold onB;by_cases hj1:j<fs.length
  ·obtain⟨a1,a2⟩:=hl j hj1;rw [decide_eq_true (show j+1<(fs++[x]).length by simp;omega),fn_next fs x hj1,zAg hj1,a1,a2];have:0≤fnAt fs x.func j∧fnAt fs x.func j<p.length:=by
    unfold fnAt;split
    ·exact frameB_func (hl _ (by assumption)).1
    ·exact frameB_func hx
   rw [decide_eq_true this];rfl
  ·obtain rfl:j=fs.length:=by omega
   rw [yV,hx,decide_eq_false (by simp)];rfl
 ·rw [List.length_append,List.length_singleton,Nat.add_sub_cancel,yV];exact ht
def Lk (fs:List GFiber):Int→List Int→Prop
 | n,[]=>n<0
 | n,k::r=>k=n∧0≤n∧n ∉ r∧Lk fs (kM fs n) r
theorem go_of_lk {fs:List GFiber}:∀(r:List Int) (k:Nat) (n:Int) (out:List Int),Lk fs n r→(∀x∈r,x ∉ out)→r.length<k→jJ fs k n out=some (out++r)
 | _,0,_,_,_,_,h=>by omega
 | [],k+1,n,out,h,_,_=>by
  rw [jJ,if_pos (show n<0 from h)];simp
 | m::r,k+1,n,out,⟨hm,h0,h1,h2⟩,h3,h4=>by
  subst hm;rw [List.length_cons] at h4;rw [jJ,if_neg (by omega),if_neg (h3 _ (by simp)),go_of_lk r k _ _ h2 (fun x hx ho=>?_) (by omega)]
  ·simp
  ·rcases List.mem_append.1 ho with ho | ho
   ·exact h3 x (by simp [hx]) ho
   ·rw [List.mem_singleton] at ho;subst ho;exact h1 hx
theorem zBq {fs gs:List GFiber}:∀{r:List Int} {n:Int},(∀x∈r,kM fs x=kM gs x)→Lk fs n r→Lk gs n r
 | [],_,_,h=>h
 | m::r,n,hc,⟨hm,h0,h1,h2⟩=>by
  subst hm;exact⟨rfl,h0,h1,by rw [←hc _ (by simp)];exact zBq (fun x hx=>hc x (by simp [hx])) h2⟩
theorem zBp {fs:List GFiber}:∀{r:List Int} {n:Int},Lk fs n r→r.Nodup
 | [],_,_=>by simp
 | m::r,n,⟨hm,_,h1,h2⟩=>by
  subst hm;exact List.nodup_cons.2 ⟨h1,zBp h2⟩
theorem vJ {fs:List GFiber} (hc:∀k,k<fs.length→(fs.getD k default).caller≤(fs.length:Int) - 1):∀{r:List Int} {n:Int},Lk fs n r→n≤(fs.length:Int) - 1→∀x∈r,0≤x∧x<fs.length
 | [],_,_,_,_,hx=>by cases hx
 | m::r,n,⟨hm,h0,h1,h2⟩,hn,x,hx=>by
  subst hm;rcases List.mem_cons.1 hx with rfl | hx
  ·omega
  ·exact vJ hc h2 (hc _ (by omega)) x hx
theorem lineS_of {s:GState} {l:List Int} (h:Lk s.fibers s.now l) (hl:l.length≤s.fibers.length):yA s=some l:=by
 unfold yA;rw [go_of_lk l _ _ [] h (fun _ _ h=>by cases h) (by omega)];rfl
structure Ok (p:List GFunc) (s:GState) (l:List Int):Prop where
 prog:zZ p=0
 few:s.fibers.length≤5
 out:s.out.length≤30
 frames:∀k,k<s.fibers.length→(s.fibers.getD k default).frames.length≤6
 pos:0<s.fibers.length
 now : -1≤s.now∧s.now≤(s.fibers.length:Int) - 1
 callers:∀k,k<s.fibers.length → -1≤(s.fibers.getD k default).caller∧(s.fibers.getD k default).caller≤(s.fibers.length:Int) - 1
 lk:Lk s.fibers s.now l
 ends:vR l=true
 zero:(0:Int) ∉ l→(s.fibers.getD 0 default).frames.length=0
 fib:∀k,k<s.fibers.length→jK p (s.fibers.getD k default) (decide ((k:Int)∈l)) (decide ((k:Int)=s.now))=true
theorem Ok.right {p:List GFunc} {s:GState} {l:List Int} (h:Ok p s l):RightS p s l:=by
 have hl:l.length≤s.fibers.length:=uC _ _ (zBp h.lk) (vJ (fun k hk=>(h.callers k hk).2) h.lk h.now.2);refine⟨h.prog,h.few,h.out,h.frames,h.pos,⟨h.now,h.callers,by have:=h.few;omega⟩,lineS_of h.lk hl,h.ends,fun ⟨h1,h2⟩=>?_,fun k hk=>?_⟩
 ·have:l=[]:=by
   have:=h.lk
   cases l with
   | nil=>rfl
   | cons a r=>obtain⟨_,h0,_⟩:=this;omega
  have:=h.zero (by rw [this];simp);omega
 ·unfold fibK;rw [h.fib k hk,Bool.true_and];by_cases h0:k=0
  ·subst h0;by_cases hz:(0:Int)∈l
   ·rw [decide_eq_true hz];simp
   ·rw [decide_eq_false (show ¬0<(s.fibers.getD 0 default).frames.length by rw [h.zero hz];omega)];simp
  ·rw [decide_eq_false h0];simp
theorem OwnS.sep {P:PState} {L R:List PFiber} {y:PFiber} {F:List PFrame} {x:PFrame} {W:World} {B b:Nat} (h:OwnS W B b P) (hs:Spot P L y R F x) :
  (∀k,zB y.vf=some k→k ∉ x.bl)∧(∀k,zB x.vl=some k→zB x.vs≠some k)∧x.bl.Nodup:=by
 have h1:=(List.nodup_cons.1 h.nodup).2;unfold PState.bl at h1;rw [hs.fs,List.flatMap_append,List.flatMap_cons] at h1;have h4:=(List.nodup_append.1 (List.nodup_append.1 (List.nodup_append.1 h1).2.1).2.1).1;unfold PFiber.bl at h4;rw [hs.fr,List.flatMap_append] at h4;obtain⟨_,h5,h6⟩:=List.nodup_append.1 h4;have h7:=(List.nodup_append.1 h5).2.1;rw [List.flatMap_cons,List.flatMap_nil,List.append_nil] at h7;refine⟨fun k hk hx=>h6 k (by simp [hk]) k (by simp [hx]) rfl,fun k hk hv=>?_,h7⟩;unfold PFrame.bl at h7;exact(List.nodup_append.1 h7).2.2 k (by simp [hk]) k (by simp [hv]) rfl
theorem OwnS.stack {P:PState} {L R:List PFiber} {y:PFiber} {F:List PFrame} {x:PFrame} {W W1:World} {B b g o n cap:Nat} (h:OwnS W B b P) (hs:Spot P L y R F x) (hv:y.vf=.slice (some ⟨g,o,none⟩) n cap)
  {st:List Int} {v1:Value} (hc:Chg (fun k=>zB x.vs=some k) W W1) (hr:RowAt W1 B 1 v1 st.length (ints st)) (hI:∀k∈st,I64 k) (hl:st.length≤1000) (hb:zB v1=zB x.vs∨∀k,zB v1=some k→W.heap.size≤k) :
  OwnS (W1.setCell ⟨g,o+F.length * 4+3,none⟩ v1) B b (qT P L y R F ⟨{ x.f with stack:=st },x.vl,v1⟩)∧Chg (fun k=>zB y.vf=some k∨zB x.vs=some k) W (W1.setCell ⟨g,o+F.length * 4+3,none⟩ v1):=by
 obtain⟨s1,s2,s3⟩:=h.sep hs;have hy:=h.fs y (by rw [hs.fs];simp);have hx:=hy.fr x (by rw [hs.fr];simp);have hrow:=hy.row;rw [hs.fr] at hrow;obtain⟨g',o',cap',e1,hbl,_⟩:=RowAt.place frameF (fun _=>rfl) hrow;rw [hv] at e1;simp only [Value.slice.injEq,Option.some.injEq,Addr.mk.injEq] at e1;obtain⟨⟨rfl,rfl,-⟩,-,rfl⟩:=e1;have hgs:g<W.heap.size:=hy.lt g (by unfold PFiber.bl;simp [hbl]);have hgx:zB x.vs≠some g:=fun e=>s1 g hbl (by unfold PFrame.bl;simp [e])
 have hgl:zB x.vl≠some g:=fun e=>s1 g hbl (by unfold PFrame.bl;simp [e])
 have hg1:∀k,zB v1=some k→k≠g:=fun k hk e=>by
  subst e;rcases hb with h1 | h1
  ·exact hgx (h1 ▸ hk)
  ·have:=h1 k hk;omega
 have hCh:Chg (fun k=>zB y.vf=some k∨zB x.vs=some k) W (W1.setCell ⟨g,o+F.length * 4+3,none⟩ v1):=(hc.mono (fun _ _ e=>.inr e)).setCell (p:=⟨g,o+F.length * 4+3,none⟩) (.inl (.inl hbl)) v1;refine⟨h.frame hs.fs hs.fr hCh (fun k hk _=>hk.imp id (fun e=>by unfold PFrame.bl;simp [e])) ⟨⟨hx.i.1,hx.i.2.1,hx.i.2.2.1,hI⟩,?_,?_,hx.few.1,hl⟩ ?_ ?_ ?_,hCh⟩
 ·refine hx.l.chg hCh (fun k hk hm=>?_) (by decide);rcases hm with h1 | h1
  ·rw [hbl] at h1;cases h1;exact hgl hk
  ·exact s2 k hk h1
 ·exact hr.chg (zO W1 g (o+F.length * 4+3) v1) (fun k hk e=>hg1 k hk e) (by decide)
 ·have hrow1:=hrow.chg hc (fun k hk e=>by rw [hbl] at hk;cases hk;exact hgx e) (by decide);rw [hv] at hrow1 ⊢;exact hrow1.storeAt frameF (fun _=>rfl) (by decide) rfl
 ·unfold PFrame.bl;rw [List.nodup_append];refine⟨by cases zB x.vl<;>simp,by cases zB v1<;>simp,fun a ha c hc' e=>?_⟩;subst e;have ha':zB x.vl=some a:=by simpa using ha
  have hc2:zB v1=some a:=by simpa using hc'
  rcases hb with h1 | h1
  ·exact s2 a ha' (h1 ▸ hc2)
  ·have h2:=h1 a hc2;have h3:=hx.lt a (by unfold PFrame.bl;simp [ha']);omega
 ·intro k hk;unfold PFrame.bl at hk ⊢;rcases List.mem_append.1 hk with h1 | h1
  ·exact .inl (List.mem_append.2 (.inl h1))
  ·have h2:zB v1=some k:=by simpa using h1
   rcases hb with h3 | h3
   ·exact .inl (List.mem_append.2 (.inr (by rw [←h3];exact h1)))
   ·exact .inr (h3 k h2)
theorem OwnS.spot {P:PState} {L R:List PFiber} {y:PFiber} {F:List PFrame} {x:PFrame} {W:World} {B b:Nat} (h:OwnS W B b P) (hs:Spot P L y R F x) :
  ∃g o cap,y.vf=.slice (some ⟨g,o,none⟩) (F++[x]).length cap∧(F++[x]).length≤cap∧cap≤maxLen∧Cx W g (o+F.length * 4) (.int .i64 x.f.func)∧Cx W g (o+F.length * 4+1) (.int .i64 x.f.at_)∧Cx W g (o+F.length * 4+2) x.vl∧Cx W g (o+F.length * 4+3) x.vs∧zB y.vf=some g:=by
 have hy:=h.fs y (by rw [hs.fs];simp);have hrow:=hy.row;rw [hs.fr] at hrow;obtain⟨g,o,cap,e1,hbl,hc,hm,hx⟩:=RowAt.place frameF (fun _=>rfl) hrow;exact⟨g,o,cap,e1,hc,hm,hx 0 _ (by decide) rfl,hx 1 _ (by decide) rfl,hx 2 _ (by decide) rfl,hx 3 _ (by decide) rfl,hbl⟩
theorem push_at {P:PState} {L R:List PFiber} {y:PFiber} {F:List PFrame} {x:PFrame} {w:World} {B b:Nat} (h:OwnS w B b P) (hs:Spot P L y R F x) (n:Nat) (hn:n=L.length) (v:Int) (hv:I64 v) (hlen:x.f.stack.length<1000) :
  Calls Tryz.prog 182 #[.pointer (some ⟨b,0,none⟩),.int .i64 n,.int .i64 v] w fun e w'=>e=.returned (.tuple #[])∧(∃v1,OwnS w' B b (qT P L y R F ⟨{ x.f with stack:=x.f.stack++[v] },x.vl,v1⟩)∧(zB v1=zB x.vs∨∀k,zB v1=some k→w.heap.size≤k)) ∧
   Chg (fun k=>zB y.vf=some k∨zB x.vs=some k) w w':=by
 obtain⟨g,o,cap,e1,hcap,hmax,-,-,-,d3,hbl⟩:=h.spot hs;have hx:=(h.fs y (by rw [hs.fs];simp)).fr x (by rw [hs.fr];simp);have H:=eH h;have HB:Hid (B≤w.heap.size):=Nat.le_trans h.le (Nat.le_of_lt h.c0.lt);have HX:=eH hx;have D3:=eH d3;have HE1:=eH e1;obtain⟨i0,hi0,hz0,hz1,hz2⟩:=info_parts vM;have RA:=zF;obtain⟨as_,cs,es,hcs,hms⟩:=hx.s.shape;have HES:=eH es;have HN:=eH hn;have HXS:Hid (RowAt w B 1 (.slice as_ x.f.stack.length cs) x.f.stack.length (ints x.f.stack)):=by unfold Hid;rw [←es];exact hx.s
 have HGX:Hid (¬zB (.slice as_ x.f.stack.length cs)=some g):=by unfold Hid;rw [←es];exact fun e=>(h.sep hs).1 g hbl (by unfold PFrame.bl;simp [e])
 clear hn h hx d3 e1 hcap hmax es hcs hms;go_enter Tryz.func182,Tryz.ntmps182
 go_upto_region 1 with (first
  | (go_at_call 181;(with_reducible refine(zHl H.out hs HE1.out n HN.out).mono ?_);rintro e w2 ⟨rfl,hx2⟩))
 have HX2:=eH hx2;obtain⟨d3,d3'⟩:=D3.out.ext hx2;rw [HES.out] at d3;have HS2:Hid (B≤w2.heap.size):=Nat.le_trans HB.out hx2.size;clear hx2
 go_wp2_with (first
  | (at_builtin;refine zE rfl _ _ 30 rfl B 3 i0 (.int .i64 0) 1 8 Tryz.underlying30 hi0 hz0 hz1 hz2 rfl (by decide) _ _ _ rfl (by exact(HXS.out.ext (HX2.out.alloc _) (by decide))) 1 (ints [v]) (uK _ _ _) (by unfold maxLen;omega) (by omega) (by exact Nat.le_trans HS2.out (Ext.size ((eR _).alloc _))) ?_;intro v1 Wv1 rv1;have RV:=eH rv1;obtain⟨k0,k0'⟩:=(D3.out.ext (HX2.out.alloc _)).chg rv1.2.1 HGX.out;obtain⟨a9,cap9,rfl,_,_⟩:=rv1.1.shape;clear rv1))
 go_end0;have hRV:kO (w2.alloc (.cells #[.int .i64 v] 3)) Wv1 B 1 (.slice as_ x.f.stack.length cs) (.slice a9 (x.f.stack.length+1) cap9) (x.f.stack.length+1) (ints x.f.stack++ints [v]):=RV.out;have hA:Ext w (w2.alloc (.cells #[.int .i64 v] 3)):=HX2.out.alloc _;obtain⟨r1,r2,r3⟩:=hRV;have hfin:=H.out.stack hs HE1.out (W1:=Wv1) (st:=x.f.stack++[v]) (v1:=.slice a9 (x.f.stack.length+1) cap9)
  ((Chg.of_ext hA).trans (r2.mono (fun k _ e=>by rw [HES.out];exact e)))
  (by rw [List.length_append,List.length_singleton,yK];exact r1) (fun k hk=>by rcases List.mem_append.1 hk with h1 | h1;exact HX.out.i.2.2.2 k h1;rw [List.mem_singleton.1 h1];exact hv)
  (by rw [List.length_append,List.length_singleton];omega) (r3.imp (fun e=>by rw [HES.out];exact e) (fun e k hk=>Nat.le_trans hA.size (e k hk)))
 exact⟨rfl,⟨_,hfin.1,r3.imp (fun e=>by rw [HES.out];exact e) (fun e k hk=>Nat.le_trans hA.size (e k hk))⟩,hfin.2⟩
theorem RowAt.cut {w:World} {base n cap:Nat} {a:Option Addr} {l:List Int} {u:Int} (h:RowAt w base 1 (.slice a (l++[u]).length cap) (l++[u]).length (ints (l++[u]))) (hn:n=l.length):RowAt w base 1 (.slice a n cap) l.length (ints l):=by
 obtain⟨hl,a',cap',e,h1,h2,h3⟩:=h;simp only [Value.slice.injEq] at e;obtain⟨rfl,-,rfl⟩:=e;subst hn;rw [List.length_append,List.length_singleton] at h1;refine⟨by rw [qP];omega,_,_,rfl,by omega,h2,h3.imp id ?_⟩;rintro ⟨g,o,rfl,hb,hc,ht⟩;refine⟨g,o,rfl,hb,fun j hj=>?_,ht⟩;rw [hc j (by rw [List.length_append,List.length_singleton];omega),yK,List.getElem?_append_left (by rw [qP];omega)]
theorem pull_at {P:PState} {L R:List PFiber} {y:PFiber} {F:List PFrame} {x:PFrame} {w:World} {B b:Nat} (h:OwnS w B b P) (hs:Spot P L y R F x) (hn:P.now=(L.length:Int)) (st:List Int) (u:Int) (hst:x.f.stack=st++[u]) :
    Calls Tryz.prog 183 #[.pointer (some ⟨b,0,none⟩)] w fun e w'=>e=.returned (.int .i64 u)∧(∃v1,OwnS w' B b (qT P L y R F ⟨{ x.f with stack:=st },x.vl,v1⟩)∧zB v1=zB x.vs) ∧
      Chg (fun k=>zB y.vf=some k∨zB x.vs=some k) w w':=by
  obtain⟨g,o,cap,e1,hcap,hmax,-,-,-,d3,hbl⟩:=h.spot hs;have hx:=(h.fs y (by rw [hs.fs];simp)).fr x (by rw [hs.fr];simp);have hrow:=hx.s;rw [hst] at hrow;obtain⟨as_,cs,es,hcs,hms⟩:=hrow.shape;rw [es] at hrow;obtain⟨g2,o2,rfl,_,hcell⟩:=hrow.cell (by simp);have hlen:(st++[u]).length=st.length+1:=by simp
  have d4:=(hcell st.length (by omega)).1;rw [yK,List.getElem?_append_right (by rw [qP];exact Nat.le_refl _),qP,Nat.sub_self] at d4;have d4:w.cell? ⟨g2,o2+st.length,none⟩=some (.int .i64 u):=d4;have hfew:(st++[u]).length≤1000:=by rw [←hst];exact hx.few.2
  have hmN:st.length<(st++[u]).length:=by omega
  have KK:IntKind.i64.wrap (((st++[u]).length:Int) - 1)=(st.length:Int):=by
    have e:(((st++[u]).length:Int) - 1)=(st.length:Int):=by omega
    rw [e];exact IntWalk.i64_in _ (by omega)
  have H:=eH h;have HX:=eH hx;have D3:Hid (Cx w g (o+F.length * 4+3) (.slice (some ⟨g2,o2,none⟩) (st++[u]).length cs)):=by unfold Hid;rw [←es];exact d3
  have D4:=eH d4;have HE1:=eH e1;have HROW:=eH hrow;have HES:=eH es;obtain⟨c1,-⟩:=h.c1;rw [hn] at c1;have HGX:Hid (¬zB x.vs=some g):=fun e=>(h.sep hs).1 g hbl (by unfold PFrame.bl;simp [e])
  have HST:=eH hst;clear hn h hx d3 d4 e1 hcap hmax es hms hst hrow hcell hlen;have RA:=zF;go_enter Tryz.func183,Tryz.ntmps183
  go_upto_region 2 with (first
    | (go_at_call 181;(with_reducible refine(zHl H.out hs HE1.out L.length rfl).mono ?_);rintro e w2 ⟨rfl,hx2⟩))
  have HX2:=eH hx2;obtain⟨d3,d3'⟩:=D3.out.ext hx2;have d4:=eC hx2 D4.out;generalize hm:st.length=m at *;generalize hN:(st++[u]).length=N at *;have HM:=eH hm;have HN:=eH hN;clear hx2 hm hN;refine kB (by kernel_rfl) (by kernel_rfl) ?_
  repeat (first
    | go_big_quiet_skip
    | (go_big_quiet_want
       unfold Oper.quiet;apply Exists.intro;refine⟨fun w' hw'=>?_,?_⟩
       focus
         have hcq:=Ext.keep hw';go_simp
         first
           | with_reducible rfl
       (try dsimp only [Act.put])
       (try simp only [xL,xM,xN])
       go_big_quiet_on))
  refine wpQuiet_nil ?_;intro wq hq
  go_upto_region 3 with fail
  have HQ:=eH hq;have D3q:=eH (Cx.ext (W:=w2) ⟨d3,d3'⟩ hq);clear d3 d3' d4 hq;obtain⟨d3,d3'⟩:=D3q.out
  go_region
  go_wp2_with fail
  go_ret;have hE:Ext w wq:=HX2.out.trans HQ.out;have hbk:zB (.slice (some ⟨g2,o2,none⟩) m cs)=zB x.vs:=by rw [HES.out];rfl
  have hrow:RowAt w B 1 (.slice (some ⟨g2,o2,none⟩) (st++[u]).length cs) (st++[u]).length (ints (st++[u])):=by rw [HN.out];exact HROW.out
  have hst:=HST.out;have hfin:=H.out.stack hs HE1.out (W1:=wq) (st:=st) (v1:=.slice (some ⟨g2,o2,none⟩) m cs)
    (Chg.of_ext hE) (hrow.cut HM.out.symm |>.ext hE (by decide)) (fun k hk=>HX.out.i.2.2.2 k (by rw [hst];simp [hk])) (by have:=HX.out.few.2;rw [hst] at this;simp at this;omega) (.inl hbk)
  exact⟨rfl,⟨_,hfin.1.ext (eR _).drew,hbk⟩,hfin.2.drew⟩
end Go.Proofs.YtpcjkfppacnkgaaGreatDoor
