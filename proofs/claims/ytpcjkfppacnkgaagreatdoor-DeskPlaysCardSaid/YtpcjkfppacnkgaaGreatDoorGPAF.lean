/- Contracts and plain facts. -/
import Derived.Test.YtpcjkfppacnkgaaGreatDoorGPAE
set_option maxHeartbeats 4000000
set_option maxRecDepth 100000
namespace Go.Proofs.YtpcjkfppacnkgaaGreatDoor
open Go Go.RowKit
def hErr (p:List GFunc) (f:Int):Int:=if funcErr p f≠0 then funcErr p f else if hts p (p.getD f.toNat default).code=none then 1 else 0
def yL (p:List GFunc) (f:Int):List Int:=if funcErr p f≠0 then [] else (hts p (p.getD f.toNat default).code).getD []
theorem zCz {p:List GFunc} {f:Int} (h:funcErr p f≠0):hErr p f=funcErr p f∧yL p f=[]:=by
 simp [hErr,yL,h]
theorem zBi {p:List GFunc} {f:Int} (h:funcErr p f=0) (hn:hts p (p.getD f.toNat default).code=none):hErr p f=1∧yL p f=[]:=by
 simp only [hErr,yL,h,hn];simp
theorem hErr_some {p:List GFunc} {f:Int} {l:List Int} (h:funcErr p f=0) (hn:hts p (p.getD f.toNat default).code=some l):hErr p f=0∧yL p f=l:=by
 simp only [hErr,yL,h,hn];simp
def HRet (B:Nat) (p:List GFunc) (f:Int) (e:Ending) (w':World):Prop:=∃v,e=.returned (.tuple #[v,.int .i64 (hErr p f)])∧Ints w' (B≤·) v (yL p f)
theorem zHz {p:List GFunc} {f:Int} (h:funcErr p f=0):∃(n:Nat) (hn:n<p.length),f=n∧p.getD f.toNat default=p[n]∧RightF p p[n]:=by
 obtain⟨h0,h1,hR⟩:=vA h;have hn:f.toNat<p.length:=by omega
 exact⟨f.toNat,hn,by omega,by simp [List.getD,List.getElem?_eq_getElem hn],hR hn⟩
theorem zEq (p:List GFunc) (v:Value) (S:Nat→Prop) (f:Int) (w:World) (hp:zM w S v p) :
  Calls Tryz.prog 98 #[v,.int .i64 f] w fun e w'=>HRet w.heap.size p f e w'∧Ext w w':=by
 have HP:=eH hp;obtain⟨a,cap,rfl,_,_,_⟩:=hp;by_cases h0:funcErr p f=0
 ·obtain⟨n,hn,rfl,hg,hR⟩:=zHz h0;have H0:=eH h0;clear h0
  cases hh:hts p p[n].code with
  | none =>
   have hx:=zBi H0.out (by rw [hg];exact hh);have HH:=eH hh;clear hh;go_enter Tryz.func98,Tryz.ntmps98
   go_wp2_with (first
    | (go_at_call 88;(with_reducible refine(zBt p _ S n _ (zM.stays (Ext.stays hb) HP.out) hn hR).mono ?_);rintro e w2 ⟨hr,hb2⟩;rw [HH.out] at hr;obtain rfl:=hr)
    | (go_at_call 87;(with_reducible refine(zDa p _ S n _ HP.out).mono ?_);rintro e w1 ⟨rfl,hb⟩;rw [H0.out]))
   go_ret2
   exact⟨⟨_,by rw [hx.1];rfl,by rw [hx.2];exact Sl.nil _ _ _⟩,hb.trans hb2⟩
  | some l =>
   have hx:=hErr_some H0.out (by rw [hg];exact hh);have HH:=eH hh;clear hh;go_enter Tryz.func98,Tryz.ntmps98
   go_wp2_with (first
    | (go_at_call 88;(with_reducible refine(zBt p _ S n _ (zM.stays (Ext.stays hb) HP.out) hn hR).mono ?_);rintro e w2 ⟨hr,hb2⟩;rw [HH.out] at hr;obtain⟨vl,rfl,hl⟩:=hr;obtain⟨al,cl,rfl,_,_,_⟩:=(⟨hl,trivial⟩:_∧True).1)
    | (go_at_call 87;(with_reducible refine(zDa p _ S n _ HP.out).mono ?_);rintro e w1 ⟨rfl,hb⟩;rw [H0.out]))
   go_ret2
   exact⟨⟨_,by rw [hx.1];rfl,by rw [hx.2];exact Ints.stays (uU.widen (fun b hB=>Nat.le_trans hb.size hB)) hl⟩,hb.trans hb2⟩
 ·have hx:=zCz h0;obtain⟨r,hr⟩:∃r,funcErr p f=r:=⟨_,rfl⟩
  rw [hr] at hx h0;have HR:=eH hr;clear hr;have TB:(r != 0)=true:=bne_iff_ne.2 h0;clear h0;go_enter Tryz.func98,Tryz.ntmps98
  go_wp2_with (first
   | (go_at_call 87;(with_reducible refine(zDa p _ S f _ HP.out).mono ?_);rintro e w1 ⟨rfl,hb⟩;rw [HR.out]))
  go_ret2
  exact⟨⟨_,by rw [hx.1];rfl,by rw [hx.2];exact Sl.nil _ _ _⟩,hb⟩
def zFk (p:List GFunc):List Nat→Int
 | []=>0
 | k::ks=>if funcErr p k≠0 then funcErr p k else zFk p ks
def allHts (p:List GFunc):List Nat→Bool
 | []=>true
 | k::ks=>(hts p (p.getD k default).code).isSome && allHts p ks
def zZ (p:List GFunc):Int :=
 if 5<p.length then 2 else if p.length=0 then 5 else if (p.getD 0 default).args≠0 then 1
 else if zFk p (List.range p.length)≠0 then zFk p (List.range p.length) else if allHts p (List.range p.length)=true then 0 else 1
def kX (p:List GFunc) (i:Nat):Int:=zFk p (List.range' i (p.length - i))
def yI (p:List GFunc) (i:Nat):Bool:=allHts p (List.range' i (p.length - i))
theorem zBv (p:List GFunc):zFk p (List.range p.length)=kX p 0:=by unfold kX;rw [List.range_eq_range',Nat.sub_zero]
theorem zEj (p:List GFunc):allHts p (List.range p.length)=yI p 0:=by unfold yI;rw [List.range_eq_range',Nat.sub_zero]
theorem zGo (p:List GFunc):kX p p.length=0:=by unfold kX;rw [Nat.sub_self];rfl
theorem allFrom_end (p:List GFunc):yI p p.length=true:=by unfold yI;rw [Nat.sub_self];rfl
theorem zBw (p:List GFunc) {i:Nat} (h:i<p.length):kX p i=if funcErr p i≠0 then funcErr p i else kX p (i+1):=by
 unfold kX;rw [show p.length - i=(p.length - (i+1))+1 by omega,List.range'_succ];rfl
theorem zEk (p:List GFunc) {i:Nat} (h:i<p.length):yI p i=((hts p (p.getD i default).code).isSome && yI p (i+1)):=by
 unfold yI;rw [show p.length - i=(p.length - (i+1))+1 by omega,List.range'_succ];rfl
theorem zAm {p:List GFunc}:∀(m i:Nat),p.length - i=m→kX p i=0→∀k,i≤k→k<p.length→funcErr p k=0
 | 0,i,hm,_,k,h1,h2=>by omega
 | m+1,i,hm,h,k,h1,h2=>by
  rw [zBw p (by omega)] at h;by_cases he:funcErr p i=0
  ·rw [if_neg (fun h=>h he)] at h;by_cases hk:k=i
   ·rw [hk];exact he
   ·exact zAm m (i+1) (by omega) h k (by omega) h2
  ·rw [if_pos he] at h;exact absurd h he
theorem allFrom_nil {p:List GFunc}:∀(m i:Nat),p.length - i=m→yI p i=true→∀k,i≤k→k<p.length→(hts p (p.getD k default).code).isSome=true
 | 0,i,hm,_,k,h1,h2=>by omega
 | m+1,i,hm,h,k,h1,h2=>by
  rw [zEk p (by omega),Bool.and_eq_true] at h;by_cases hk:k=i
  ·rw [hk];exact h.1
  ·exact allFrom_nil m (i+1) (by omega) h.2 k (by omega) h2
structure RightP (p:List GFunc):Prop where
 most:p.length≤5
 pos:0<p.length
 zero:(p.getD 0 default).args=0
 func:∀k,k<p.length→funcErr p k=0
 hts:∀k,k<p.length→(Proofs.YtpcjkfppacnkgaaGreatDoor.hts p (p.getD k default).code).isSome=true
theorem kH {p:List GFunc} (h:zZ p=0):RightP p:=by
 unfold zZ at h;by_cases h1:5<p.length
 ·rw [if_pos h1] at h;cases h
 ·rw [if_neg h1] at h;by_cases h2:p.length=0
  ·rw [if_pos h2] at h;cases h
  ·rw [if_neg h2] at h;by_cases h3:(p.getD 0 default).args≠0
   ·rw [if_pos h3] at h;cases h
   ·rw [if_neg h3,zBv,zEj] at h;by_cases h4:kX p 0=0
    ·rw [if_neg (fun k=>k h4)] at h;by_cases h5:yI p 0=true
     ·exact⟨by omega,by omega,by simpa using h3,fun k hk=>zAm _ 0 rfl h4 k (Nat.zero_le _) hk,fun k hk=>allFrom_nil _ 0 rfl h5 k (Nat.zero_le _) hk⟩
     ·rw [if_neg h5] at h;cases h
    ·rw [if_pos h4] at h;exact absurd h h4
def zGa (p:List GFunc) (k:Nat):List Nat:=((p.getD k default).code.filter (fun x=>decide (x.kind=11∨x.kind=13))).map (fun x=>x.a.toNat)
inductive Reach (p:List GFunc) (f:Nat):Nat→Prop
 | here:Reach p f f
 | step {k j:Nat}:Reach p f k→j∈zGa p k→Reach p f j
theorem Reach.trans {p:List GFunc} {a b c:Nat} (h:Reach p a b) (k:Reach p b c):Reach p a c:=by
 induction k with
 | here=>exact h
 | step _ hj ih=>exact .step ih hj
structure IsCalls (p:List GFunc) (f:Nat) (o:List Bool):Prop where
 len:o.length=p.length
 self:o.getD f false=true
 closed:∀k,o.getD k false=true→∀j∈zGa p k,o.getD j false=true
 only:∀k,o.getD k false=true→Reach p f k
theorem IsCalls.iff {p:List GFunc} {f:Nat} {o:List Bool} (h:IsCalls p f o) (k:Nat):o.getD k false=true↔Reach p f k:=by
 refine⟨h.only k,fun hr=>?_⟩
 induction hr with
 | here=>exact h.self
 | step _ hj ih=>exact h.closed _ ih _ hj
theorem IsCalls.eq {p:List GFunc} {f:Nat} {a b:List Bool} (ha:IsCalls p f a) (hb:IsCalls p f b):a=b:=by
 apply List.ext_getElem (by rw [ha.len,hb.len]);intro k h1 h2;have e1:a.getD k false=a[k]:=by simp [List.getD,List.getElem?_eq_getElem h1]
 have e2:b.getD k false=b[k]:=by simp [List.getD,List.getElem?_eq_getElem h2]
 have:=(ha.iff k).trans (hb.iff k).symm;rw [e1,e2] at this;exact Bool.eq_iff_iff.2 this
structure Vis (p:List GFunc) (k:Nat) (a b:List Bool):Prop where
 len:b.length=a.length
 more:∀i,a.getD i false=true→b.getD i false=true
 self:b.getD k false=true
 closed:∀i,b.getD i false=true→a.getD i false=false→∀j∈zGa p i,b.getD j false=true
 only:∀i,b.getD i false=true→a.getD i false=false→Reach p k i
def falses (l:List Bool):Nat:=l.countP (fun x=>!x)
theorem Vis.here {p:List GFunc} {k:Nat} {a:List Bool} (h:a.getD k false=true):Vis p k a a :=
 ⟨rfl,fun _ h=>h,h,fun i h1 h2=>(by rw [h1] at h2;cases h2),fun i h1 h2=>(by rw [h1] at h2;cases h2)⟩
theorem Vis.calls {p:List GFunc} {k:Nat} {o:List Bool} {n:Nat} (hn:n=p.length) (h:Vis p k (List.replicate n false) o):IsCalls p k o:=by
 have hz:∀i,(List.replicate n false).getD i false=false:=fun i=>by
  simp only [List.getD,List.getElem?_replicate];split<;>rfl
 exact⟨by rw [h.len,List.length_replicate,hn],h.self,fun i hi=>h.closed i hi (hz i),fun i hi=>h.only i hi (hz i)⟩
structure Mid (p:List GFunc) (k i:Nat) (a b:List Bool):Prop where
 len:b.length=a.length
 more:∀i,a.getD i false=true→b.getD i false=true
 self:b.getD k false=true
 mine:∀m,m<i→∀(hm:m<(p.getD k default).code.length),((p.getD k default).code[m].kind=11∨(p.getD k default).code[m].kind=13)→b.getD (p.getD k default).code[m].a.toNat false=true
 closed:∀i,i≠k→b.getD i false=true→a.getD i false=false→∀j∈zGa p i,b.getD j false=true
 only:∀i,b.getD i false=true→a.getD i false=false→Reach p k i
theorem getDB_set_same {l:List Bool} {i:Nat} (h:i<l.length) (n:Bool):(l.set i n).getD i false=n:=by simp [List.getD,h]
theorem getDB_set_other {l:List Bool} {i j:Nat} (h:i≠j) (n:Bool):(l.set i n).getD j false=l.getD j false:=by simp [List.getD,h]
theorem falses_mono:∀{a b:List Bool},b.length=a.length→(∀i,a.getD i false=true→b.getD i false=true)→falses b≤falses a
 | [],[],_,_=>Nat.le_refl _
 | x::a,y::b,hl,h=>by
  have ih:=falses_mono (a:=a) (b:=b) (by simpa using hl) (fun i hi=>by have:=h (i+1) (by simpa using hi);simpa using this);have h0:=h 0;simp only [List.getD_cons_zero] at h0;unfold falses at ih ⊢;rw [List.countP_cons,List.countP_cons]
  cases x<;>cases y<;>simp_all<;>omega
structure RndInv (p:List GFunc) (f r:Nat) (o:List Bool):Prop where
 len:o.length=p.length
 self:o.getD f false=true
 only:∀i,o.getD i false=true→Reach p f i
 near:(∀k,o.getD k false=true→∀j∈zGa p k,o.getD j false=true)∨falses o+r+1≤p.length
structure RndMid (p:List GFunc) (k:Nat) (a b:List Bool):Prop where
 len:b.length=a.length
 more:∀i,a.getD i false=true→b.getD i false=true
 done:∀m,m<k→a.getD m false=true→∀j∈zGa p m,b.getD j false=true
 only:∀i,b.getD i false=true→∃s,a.getD s false=true∧Reach p s i
structure RndOp (p:List GFunc) (k i:Nat) (a b:List Bool):Prop extends RndMid p k a b where
 mine:a.getD k false=true→∀m,m<i→∀(hm:m<(p.getD k default).code.length),((p.getD k default).code[m].kind=11∨(p.getD k default).code[m].kind=13)→b.getD (p.getD k default).code[m].a.toNat false=true
theorem RndMid.start (p:List GFunc) (a:List Bool):RndMid p 0 a a:=⟨rfl,fun _ h=>h,fun m hm=>by omega,fun i hi=>⟨i,hi,.here⟩⟩
theorem RndOp.start {p:List GFunc} {k:Nat} {a b:List Bool} (h:RndMid p k a b):RndOp p k 0 a b:=⟨h,fun _ m hm=>by omega⟩
theorem getDB_out {l:List Bool} {k:Nat} (h:l.getD k false=true):k<l.length:=by
 by_cases hk:k<l.length
 ·exact hk
 ·simp [List.getD,List.getElem?_eq_none (by omega:l.length≤k)] at h
def qR (l:List Int) (n:Nat):Nat:=(l.take n).countP (fun h=>decide (0≤h))
def jW (l:List Int) (x:GOp):GOp:=if x.kind=9∨x.kind=10 then ⟨x.kind,qR l x.a.toNat⟩ else x
def jE (l:List Int):List GOp→List Int→List GOp
 | x::C,h::m=>if 0≤h then jW l x::jE l C m else jE l C m
 | _,_=>[]
def vE (C:List GOp) (l:List Int):List GOp:=jE l C l
def keepL (l:List Int):List Int:=l.filter (fun h=>decide (0≤h))
def zAq (p:List GFunc) (F:GFunc):GFunc:=⟨F.args,F.locals,vE F.code ((hts p F.code).getD [])⟩
theorem keepN_zero (l:List Int):qR l 0=0:=by simp [qR]
theorem keepN_succ {l:List Int} {n:Nat} (h:n<l.length):qR l (n+1)=qR l n+if 0≤l.getD n 0 then 1 else 0:=by
 unfold qR;rw [List.take_succ_eq_append_getElem h,List.countP_append];simp only [List.countP_singleton,List.getD,List.getElem?_eq_getElem h,Option.getD_some]
 split<;>simp_all
theorem Full.height {p:List GFunc} {C:List GOp} {l:List Int} (hF:Full p C l) {k j:Nat} (hk:k<C.length) (h0:0≤l.getD k 0) (hj:j∈nx C[k] k):j<C.length∧l.getD j 0=nOf p C[k] (l.getD k 0)∧0≤l.getD j 0:=by
 obtain⟨t1,t2⟩:=hF.thru k hk h0;have e:C.getD k default=C[k]:=by simp [List.getD,List.getElem?_eq_getElem hk]
 rw [e] at t1 t2;obtain⟨a,b⟩:=t2 j hj;exact⟨a,b,by rw [b];exact zAd t1⟩
theorem zDf (l:List Int):∀(C:List GOp) (m:List Int),(jE l C m).length≤C.length
 | [],m=>by simp [jE]
 | x::C,[]=>by simp [jE]
 | x::C,h::m=>by
  have:=zDf l C m;unfold jE
  split<;>simp<;>omega
structure TrimFacts (p:List GFunc) (k:Nat) (hk:k<p.length) (l:List Int):Prop where
 right:RightF p p[k]
 h:hts p p[k].code=some l
 g:zAq p p[k]=⟨p[k].args,p[k].locals,vE p[k].code l⟩
 hq:hts (p.map (zAq p)) (vE p[k].code l)=some (keepL l)
 len:(vE p[k].code l).length=(keepL l).length
 most:(vE p[k].code l).length≤24
 err:funcErr (p.map (zAq p)) k=0
end Go.Proofs.YtpcjkfppacnkgaaGreatDoor
