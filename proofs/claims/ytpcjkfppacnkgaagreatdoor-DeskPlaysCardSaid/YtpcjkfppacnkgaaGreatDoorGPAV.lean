/- Contracts and plain facts. -/
import Derived.Test.YtpcjkfppacnkgaaGreatDoorGPAU
set_option maxHeartbeats 4000000
set_option maxRecDepth 100000
namespace Go.Proofs.YtpcjkfppacnkgaaGreatDoor
open Go Go.RowKit
theorem zFc {α:Type}:∀(l:List α) (n:Nat) (g:α→α),(∀x,g x=x)→l.modify n g=l
 | [],n,g,_=>by cases n<;>rfl
 | a::l,0,g,h=>by rw [List.modify_zero_cons,h]
 | a::l,n+1,g,h=>by rw [List.modify_succ_cons,zFc l n g h]
theorem zDq {α:Type}:∀(l:List α) (n:Nat) (g f:α→α),(l.modify n f).modify n g=l.modify n (fun x=>g (f x))
 | [],n,g,f=>by cases n<;>rfl
 | a::l,0,g,f=>by simp only [List.modify_zero_cons]
 | a::l,n+1,g,f=>by simp only [List.modify_succ_cons,zDq l n g f]
theorem modFib_same (s:GState) (n:Int) (g:GFiber→GFiber) (h:∀f,g f=f):kN s n g=s:=by
 unfold kN;rw [zFc _ _ _ h]
theorem modFib_twice (s:GState) (n:Int) (g f:GFiber→GFiber):kN (kN s n f) n g=kN s n fun x=>g (f x):=by
 unfold kN;simp only [zDq]
theorem modTop_same (s:GState) (n:Int) (g:GFrame→GFrame) (h:∀f,g f=f):kT s n g=s :=
 modFib_same s n _ fun f=>by rw [zFc _ _ _ h]
theorem modTop_twice (s:GState) (n:Int) (g f:GFrame→GFrame):kT (kT s n f) n g=kT s n fun x=>g (f x):=by
 unfold kT;rw [modFib_twice];simp only [List.length_modify,zDq]
theorem leave_zero (s:GState):jB s 0=s:=modTop_same s _ _ fun x=>by rw [Nat.sub_zero,List.take_length]
theorem zHb (s:GState) (j:Nat):jB s (j+1)=popG (jB s j):=by
 unfold jB popG;show _=kT (kT s s.now _) s.now _;rw [modTop_twice];refine congrArg (kT s s.now) (funext fun x=>?_);simp only [GFrame.mk.injEq,true_and];rw [List.dropLast_eq_take,List.take_take,List.length_take]
 congr 1
 omega
theorem curX_leave (s:GState) (h:zU s s.now) (j:Nat):curX (jB s j)={ curX s with stack:=(curX s).stack.take ((curX s).stack.length - j) }:=curX_mod s h _
theorem zU.leave {s:GState} {n:Int} (h:zU s n) (j:Nat):zU (jB s j) n:=h.top _
theorem Room.leave {s:GState} (h:Room s) (j:Nat):Room (jB s j):=h.top _ fun x=>by simp
theorem argsOf_len (p:List GFunc) (s:GState) (a:Int) (j:Nat) (hj:j≤(zI p a).args.toNat) (hl:j≤(curX s).stack.length) (h0:0≤(zI p a).args∧(zI p a).args≤(zI p a).locals):(kL p s a j).length=(zI p a).locals.toNat:=by
 unfold kL;simp only [List.length_append,List.length_replicate,List.length_drop];omega
theorem argsOf_zero (p:List GFunc) (s:GState) (a:Int) (h0:0≤(zI p a).args∧(zI p a).args≤(zI p a).locals):kL p s a 0=List.replicate (zI p a).locals.toNat 0:=by
 unfold kL;rw [Nat.sub_zero,Nat.sub_zero,List.drop_length,List.append_nil,List.replicate_append_replicate]
 congr 1
 omega
theorem argsOf_succ (p:List GFunc) (s:GState) (h:zU s s.now) (a:Int) (j:Nat) (hj:j<(zI p a).args.toNat) (hl:j<(curX s).stack.length) :
  (kL p s a j).set ((zI p a).args.toNat - j - 1) (zR (jB s j))=kL p s a (j+1):=by
 obtain⟨A,hA⟩:∃A,(zI p a).args.toNat=A:=⟨_,rfl⟩
 have hlast:zR (jB s j)=(curX s).stack.getD ((curX s).stack.length - (j+1)) 0:=by
  unfold zR;rw [curX_leave s h];simp only [List.length_take];have e:min ((curX s).stack.length - j) (curX s).stack.length - 1=(curX s).stack.length - (j+1):=by omega
  rw [e,List.getD_eq_getElem?_getD,List.getElem?_take_of_lt (by omega),←List.getD_eq_getElem?_getD]
 have hd:(curX s).stack.drop ((curX s).stack.length - (j+1))=(curX s).stack.getD ((curX s).stack.length - (j+1)) 0::(curX s).stack.drop ((curX s).stack.length - j):=by
  have hlt:(curX s).stack.length - (j+1)<(curX s).stack.length:=by omega
  rw [List.drop_eq_getElem_cons hlt,List.getD_eq_getElem?_getD,List.getElem?_eq_getElem hlt]
  congr 2
  omega
 unfold kL;rw [hlast,hd];rw [hA] at hj ⊢;obtain⟨d,rfl⟩:∃d,A=j+1+d:=⟨A - (j+1),by omega⟩
 have e1:j+1+d - j=d+1:=by omega
 have e2:j+1+d - (j+1)=d:=by omega
 have e3:j+1+d - j - 1=d:=by omega
 rw [e3,e1,e2,List.replicate_succ'];simp only [List.append_assoc];rw [List.set_append_right _ _ (by rw [List.length_replicate];exact Nat.le_refl _),List.length_replicate,Nat.sub_self];simp
theorem argsOf_i64 (p:List GFunc) (s:GState) (a:Int) (j:Nat) (h:∀k∈(curX s).stack,I64 k):∀k∈kL p s a j,I64 k:=by
 intro k hk;unfold kL at hk;simp only [List.mem_append] at hk;rcases hk with (hk | hk) | hk
 ·rw [List.eq_of_mem_replicate hk];exact I64.zero
 ·exact h k (List.drop_subset _ _ hk)
 ·rw [List.eq_of_mem_replicate hk];exact I64.zero
theorem vZ (w:World) (cs:List Value) (n:Nat) (hn:cs.length=n) (h1:∀u∈cs,u.oneCell'=true) (t:TypeId):qL (w.alloc (.cells cs.toArray t)) n (.slice (some ⟨w.heap.size,0,none⟩) 1 1) 1 cs:=by
 refine⟨_,1,rfl,by omega,h1,.inr ⟨_,rfl,fun j u hj=>?_⟩⟩;rw [show ((⟨w.heap.size,0,none⟩:Addr).add j)=⟨w.heap.size,j,none⟩ by unfold Addr.add;split<;>simp_all,World.cell?_alloc_new,List.getElem?_toArray,hj]
theorem infoFr:(Tryz.prog.info? 108).map (fun i=>(i.zero,i.size,i.bytes))=some (some (.agg #[.int .i64 0,.int .i64 0,.slice none 0 0,.slice none 0 0]),4,64):=by kernel_rfl
theorem infoFb:(Tryz.prog.info? 112).map (fun i=>(i.zero,i.size,i.bytes))=some (some (.agg #[.slice none 0 0,.int .i64 0]),2,32):=by kernel_rfl
theorem OwnS.addFrame {P:PState} {L R:List PFiber} {y:PFiber} {x:PFrame} {W W1:World} {B b g o n cap:Nat} (h:OwnS W B b P) (hP:P.fs=L++y::R) (hv:P.vfs=.slice (some ⟨g,o,none⟩) n cap) {v1:Value}
  (hc:Chg (fun k=>zB y.vf=some k) W W1) (hr:RowAt W1 B 4 v1 (y.fr++[x]).length ((y.fr++[x]).flatMap frameF)) (hx:FrameO W1 B x) (hl:y.fr.length<1000)
  (hv1:zB v1=zB y.vf∨∀k,zB v1=some k→W.heap.size≤k) (hn:x.bl.Nodup) (hf:∀k∈x.bl,k ∉ b::P.bl∧zB v1≠some k) :
  OwnS (W1.setCell ⟨g,o+L.length * 2,none⟩ v1) B b { P with fs:=L++⟨y.fr++[x],y.caller,v1⟩::R }∧Chg (·∈P.bl) W (W1.setCell ⟨g,o+L.length * 2,none⟩ v1):=by
 have hym:y∈P.fs:=by rw [hP];simp
 have hy:=h.fs y hym;have hnd:=h.fnodup hP;have hsub:∀k∈y.bl,k∈P.bl:=fun k hk=>PState.mem_fs hym hk
 have hbl:y.bl=(zB y.vf).toList++y.fr.flatMap PFrame.bl:=rfl;have hbl':PFiber.bl ⟨y.fr++[x],y.caller,v1⟩=(zB v1).toList++(y.fr.flatMap PFrame.bl++x.bl):=by unfold PFiber.bl;simp
 rw [hbl] at hnd;obtain⟨-,hn2,hn3⟩:=List.nodup_append.1 hnd;have hfr:∀u∈y.fr,FrameO W1 B u:=fun u hu=>(hy.fr u hu).chg hc fun k hk e=>by
  have h1:k∈y.fr.flatMap PFrame.bl:=List.mem_flatMap.2 ⟨u,hu,hk⟩;exact hn3 k (by rw [show zB y.vf=some k from e];simp) k h1 rfl
 refine h.setFrames' (y':=⟨y.fr++[x],y.caller,v1⟩) hP hv hc rfl ⟨hy.i,hr,fun u hu=>?_,?_⟩ ?_ fun k hk=>?_
 ·have hu':u∈y.fr++[x]:=hu;rcases List.mem_append.1 hu' with h1 | h1
  ·exact hfr u h1
  ·rw [List.mem_singleton.1 h1];exact hx
 ·show (y.fr++[x]).length≤1000;rw [List.length_append,List.length_singleton];omega
 ·rw [hbl',List.nodup_append];refine⟨by cases zB v1<;>simp,List.nodup_append.2 ⟨hn2,hn,fun a ha c hc e=>?_⟩,fun a ha c hc e=>?_⟩
  ·subst e;exact(hf a hc).1 (List.mem_cons_of_mem _ (hsub a (by rw [hbl];exact List.mem_append.2 (.inr ha))))
  ·subst e;have ha':zB v1=some a:=by simpa using ha
   rcases List.mem_append.1 hc with h1 | h1
   ·rcases hv1 with h2 | h2
    ·exact hn3 a (by rw [←h2,ha'];simp) a h1 rfl
    ·have h3:=h2 a ha';have h4:=h.lt a (List.mem_cons_of_mem _ (hsub a (by rw [hbl];exact List.mem_append.2 (.inr h1))));omega
   ·exact(hf a h1).2 ha'
 ·rw [hbl'] at hk;rcases List.mem_append.1 hk with h1 | h1
  ·have h1':zB v1=some k:=by simpa using h1
   rcases hv1 with h2 | h2
   ·exact .inl (by rw [hbl,←h2,h1'];simp)
   ·refine .inr fun h3=>?_
    have h4:=h2 k h1';have h5:=h.lt k h3;omega
  ·rcases List.mem_append.1 h1 with h2 | h2
   ·exact .inl (by rw [hbl];exact List.mem_append.2 (.inr h2))
   ·exact .inr (hf k h2).1
structure CallI (w wr:World) (B b:Nat) (P:PState) (p:List GFunc) (a:Int) (bx gl N j:Nat) (P':PState):Prop where
 own:OwnS wr B b P'
 g:P'.g=jB P.g j
 bl:∀k∈P'.bl,k∈P.bl∨w.heap.size≤k
 chg:Chg (·∈b::P.bl) w wr
 nb:bx ∉ b::P'.bl
 nl:gl ∉ b::P'.bl
 row:RowAt wr w.heap.size 1 (.slice (some ⟨gl,0,none⟩) N N) N (ints (kL p P.g a j))
 c0:Cx wr bx 0 (.int .i64 a)
 c1:Cx wr bx 1 (.int .i64 0)
 c2:Cx wr bx 2 (.slice (some ⟨gl,0,none⟩) N N)
 c3:Cx wr bx 3 (.slice none 0 0)
theorem CallI.ext {w wr wr':World} {B b:Nat} {P P':PState} {p:List GFunc} {a:Int} {bx gl N j:Nat} (h:CallI w wr B b P p a bx gl N j P') (he:Ext wr wr'):CallI w wr' B b P p a bx gl N j P' :=
 ⟨h.own.ext he,h.g,h.bl,h.chg.trans (Chg.of_ext he),h.nb,h.nl,h.row.ext he (by decide),h.c0.ext he,h.c1.ext he,h.c2.ext he,h.c3.ext he⟩
theorem CallI.cell {w wr:World} {B b:Nat} {P P':PState} {p:List GFunc} {a:Int} {bx gl N j:Nat} (h:CallI w wr B b P p a bx gl N j P') {r:Nat} (hr:r<N) (hN:N=(kL p P.g a j).length):∃u,Cx wr gl r u:=by
 obtain⟨g,o,e,_,hc⟩:=h.row.cell (by omega);simp only [Option.some.injEq,Addr.mk.injEq] at e;obtain⟨rfl,rfl,-⟩:=e;have:=hc r (by omega);rw [vL _ _ (by omega),Nat.zero_add] at this;exact⟨_,this⟩
theorem CallI.pull {w wr wr':World} {B b:Nat} {P P':PState} {p:List GFunc} {a:Int} {bx gl N j r:Nat} (h:CallI w wr B b P p a bx gl N j P') (ht:zU P.g P.g.now) (hgl:w.heap.size≤gl) (hne:gl≠bx)
  (hj:j<(zI p a).args.toNat) (hl:j<(curX P.g).stack.length) (hr:(zI p a).args.toNat - j - 1=r) (hN:r<N) (hNN:N=(kL p P.g a j).length) (t:Turn wr wr' B b P' (popG P'.g)) :
  ∃P'',CallI w (wr'.setCell ⟨gl,r,none⟩ (.int .i64 (zR P'.g))) B b P p a bx gl N (j+1) P'':=by
 have hlg:gl<wr.heap.size:=by
  obtain⟨g,o,e,_,hc⟩:=h.row.cell (by omega);simp only [Option.some.injEq,Addr.mk.injEq] at e;obtain⟨rfl,rfl,-⟩:=e;have:=(hc 0 (by omega)).1;rw [vL _ _ (by omega)] at this;exact zY this
 have hlb:=h.c0.lt;have hNM:∀k,k ∉ b::P'.bl→¬(k∈b::P'.bl):=fun k h=>h
 obtain⟨⟨P'',o,e,hs⟩,hc⟩:=t;have nsub:∀k,k<wr.heap.size→k ∉ b::P'.bl→k ∉ b::P''.bl:=fun k hk hn hm=>by
  rcases List.mem_cons.1 hm with rfl | h1
  ·exact hn List.mem_cons_self
  ·rcases hs k h1 with h2 | h2
   ·exact hn (List.mem_cons_of_mem _ h2)
   ·omega
 have hnl:=nsub gl hlg h.nl;have hnb:=nsub bx hlb h.nb;have hC:=zO wr' gl r (.int .i64 (zR P'.g));have hrow:RowAt wr' w.heap.size 1 (.slice (some ⟨gl,0,none⟩) N N) N (ints (kL p P.g a j)):=h.row.chg hc (fun k hk e=>by
  have:k=gl:=by
   by_cases h0:N=0
   ·omega
   ·rw [zK _ _ _ _ h0] at hk;cases hk;rfl
  subst this;exact h.nl e) (by decide)
 refine⟨P'',o.chg hC (fun e=>hnl (by rw [show b=gl from e];exact List.mem_cons_self)) (fun k hk e=>hnl (by rw [←show k=gl from e];exact List.mem_cons_of_mem _ hk)),?_,fun k hk=>?_,?_,hnb,hnl,?_,?_,?_,?_,?_⟩
 ·rw [e,h.g,←zHb]
 ·rcases hs k hk with h1 | h1
  ·exact h.bl k h1
  ·exact .inr (Nat.le_trans h.chg.size h1)
 ·refine(h.chg.trans' hc fun n hn hm=>?_).setCell (p:=⟨gl,r,none⟩) (.inr hgl) _;rcases List.mem_cons.1 hm with rfl | h1
  ·exact List.mem_cons_self
  ·rcases h.bl n h1 with h2 | h2
   ·exact List.mem_cons_of_mem _ h2
   ·omega
 ·rw [←argsOf_succ p P.g ht a j hj hl,hr,←ints_set,←h.g];have h9:=hrow.store (j:=r) (by omega) (.int .i64 (zR P'.g))
  rwa [Nat.zero_add] at h9
 ·exact(h.c0.chg hc h.nb).other (.inl (Ne.symm hne)) _
 ·exact(h.c1.chg hc h.nb).other (.inl (Ne.symm hne)) _
 ·exact(h.c2.chg hc h.nb).other (.inl (Ne.symm hne)) _
 ·exact(h.c3.chg hc h.nb).other (.inl (Ne.symm hne)) _
theorem cell_other {W:World} {bx g j:Nat} {u:Value} (h:W.cell? ⟨bx,2,none⟩=some u) (hne:bx≠g) (v:Value):(W.setCell ⟨g,j,none⟩ v).cell? ⟨bx,2,none⟩=some u:=by
 rw [World.cell?_setCell_other (a:=⟨g,j,none⟩) (b:=⟨bx,2,none⟩) (h:=by intro e;simp only [Addr.mk.injEq] at e;omega)];exact h
theorem src_drew {w:World} {size:Nat} {x:Value} {m:Nat} {news:List Value} (h:qL w size x m news):qL w.drew size x m news:=h
theorem call_fin {w wq Wm Wv:World} {B b:Nat} {P P':PState} {p:List GFunc} {n:Int} {bx gl N j:Nat} {L R:List PFiber} {y:PFiber} {F:List PFrame} {x:PFrame} {g o nn cap:Nat} {v1:Value} (h:CallI w wq B b P p n bx gl N j P')
  (hs:Spot P' L y R F x) (hnw:P'.now=L.length) (hv:P'.vfs=.slice (some ⟨g,o,none⟩) nn cap) (hRV:kO Wm Wv B 4 y.vf v1 (y.fr.length+1) (y.fr.flatMap frameF++[.int .i64 n,.int .i64 0,.slice (some ⟨gl,0,none⟩) N N,.slice none 0 0]))
  (hE:Ext wq Wm) (h9:y.fr.length<1000) (hgl:w.heap.size=gl) (hB:B≤gl) (hlt:0<N→gl<bx) (hI:I64 n) (hA:∀k∈kL p P.g n j,I64 k) (hlen:(kL p P.g n j).length=N) (hN:N≤1000) :
  Did w (Wv.setCell ⟨g,o+L.length * 2,none⟩ v1) B b P (0,kN (jB P.g j) P.g.now fun f=>{ f with frames:=f.frames++[⟨n,0,kL p P.g n j,[]⟩] }):=by
 obtain⟨r1,r2,r3⟩:=hRV;have hym:y∈P'.fs:=by rw [hs.fs];simp
 have hyb:∀k,zB y.vf=some k→k∈P'.bl:=fun k hk=>PState.mem_fs hym (by unfold PFiber.bl;simp [hk])
 have hvb:∀k,zB (.slice (some ⟨gl,0,none⟩) N N)=some k→k=gl∧0<N:=fun k hk=>by
  by_cases h0:N=0
  ·subst h0;simp [zB] at hk
  ·rw [zK _ _ _ _ h0] at hk;cases hk;exact⟨rfl,by omega⟩
 let X:PFrame:=⟨⟨n,0,kL p P.g n j,[]⟩,.slice (some ⟨gl,0,none⟩) N N,.slice none 0 0⟩
 have hXbl:∀k∈X.bl,k=gl∧0<N:=fun k hk=>by
  unfold PFrame.bl at hk;rcases List.mem_append.1 hk with h1 | h1
  ·exact hvb k (by simpa using h1)
  ·simp [X,zB] at h1
 have hlg:0<N→gl<wq.heap.size:=fun h0=>Nat.lt_trans (hlt h0) h.c0.lt
 have hXO:FrameO Wv B X:=by
  refine⟨⟨hI,I64.zero,hA,fun k hk=>by cases hk⟩,?_,RowAt.nil _ _ _ _,⟨by show (kL p P.g n j).length≤1000;omega,by show 0≤1000;omega⟩⟩;show RowAt Wv B 1 (.slice (some ⟨gl,0,none⟩) N N) (kL p P.g n j).length (ints (kL p P.g n j));rw [hlen];refine((h.row.mono (by omega)).ext hE (by decide)).chg r2 (fun k hk e=>?_) (by decide);obtain⟨rfl,_⟩:=hvb k hk;exact h.nl (List.mem_cons_of_mem _ (hyb _ e))
 have hcg:Chg (fun k=>zB y.vf=some k) wq Wv:=(Chg.of_ext hE).trans r2;have hv1:zB v1=zB y.vf∨∀k,zB v1=some k→wq.heap.size≤k:=r3.imp id fun e k hk=>Nat.le_trans hE.size (e k hk)
 obtain⟨o9,c9⟩:=h.own.addFrame (x:=X) hs.fs hv hcg (by
   have e:(y.fr++[X]).flatMap frameF=y.fr.flatMap frameF++[.int .i64 n,.int .i64 0,.slice (some ⟨gl,0,none⟩) N N,.slice none 0 0]:=by rw [List.flatMap_append];rfl
   rw [e,List.length_append,List.length_singleton];exact r1) hXO h9 hv1 (by
   show ((zB (.slice (some ⟨gl,0,none⟩) N N)).toList++(zB (.slice none 0 0)).toList).Nodup
   cases zB (.slice (some ⟨gl,0,none⟩) N N)<;>simp [zB]) (fun k hk=>by
   obtain⟨rfl,h0⟩:=hXbl k hk;refine⟨h.nl,fun e=>?_⟩;rcases hv1 with h1 | h1
   ·exact h.nl (List.mem_cons_of_mem _ (hyb _ (h1 ▸ e)))
   ·have:=h1 _ e;have:=hlg h0;omega)
 refine Did.of ⟨⟨_,o9,?_,fun k hk=>?_⟩,h.chg.trans' c9 fun k hk hm=>?_⟩
 ·rw [←h.g];refine(uF hs.fs (n:=P.g.now) ?_ ?_).symm
  ·have e:P'.g.now=P.g.now:=by rw [h.g];rfl
   rw [←e];exact hnw
  ·unfold PFiber.g;simp [X]
 ·unfold PState.bl at hk;simp only [List.flatMap_append,List.flatMap_cons,List.mem_append] at hk;have hback:k∈P'.bl→k∈P.bl∨w.heap.size≤k:=h.bl k;rcases hk with (h3 | h3) | h3 | h3 | h3
  ·exact hback (PState.mem_vfs (by simpa using h3))
  ·exact hback (PState.mem_vo (by simpa using h3))
  ·obtain⟨z,hz,h4⟩:=List.mem_flatMap.1 h3;exact hback (PState.mem_fs (y:=z) (by rw [hs.fs];simp [hz]) h4)
  ·unfold PFiber.bl at h3;simp only [List.flatMap_append,List.mem_append] at h3;rcases h3 with h4 | h4 | h4
   ·have h5:zB v1=some k:=by simpa using h4
    rcases hv1 with h6 | h6
    ·exact hback (hyb k (h6 ▸ h5))
    ·exact .inr (Nat.le_trans h.chg.size (h6 k h5))
   ·refine hback (PState.mem_fs hym ?_);unfold PFiber.bl;exact List.mem_append.2 (.inr h4)
   ·have h5:k∈X.bl:=by simpa using h4
    exact .inr (by rw [hgl,(hXbl k h5).1];exact Nat.le_refl _)
  ·obtain⟨z,hz,h4⟩:=List.mem_flatMap.1 h3;exact hback (PState.mem_fs (y:=z) (by rw [hs.fs];simp [hz]) h4)
 ·rcases h.bl k hm with h1 | h1
  ·exact List.mem_cons_of_mem _ h1
  ·omega
theorem called_any (p:List GFunc) (v:Value) (S:Nat→Prop) {P:PState} {w:World} {B b:Nat} (n:Nat) (hp:zM w S v p) (h:OwnS w B b P) (ht:zU P.g P.g.now) (hfr9:(curF P.g).frames.length<1000) (hb:zEm p P.g n) :
    Calls Tryz.prog 184 #[v,.pointer (some ⟨b,0,none⟩),.int .i64 n] w fun e w'=>e=.returned (.int .i64 (zAw p P.g n).1)∧Did w w' B b P (zAw p P.g n):=by
  obtain⟨-,hn,hA0,hAL,hL9,hst⟩:=hb;have hn:n<p.length:=by omega
  have hF:zI p n=p[n]:=by unfold zI;simp [List.getD,List.getElem?_eq_getElem hn]
  obtain⟨A,hA⟩:∃A:Nat,(zI p n).args=A:=⟨(zI p n).args.toNat,by omega⟩
  obtain⟨N,hN⟩:∃N:Nat,(zI p n).locals=N:=⟨(zI p n).locals.toNat,by omega⟩
  obtain⟨bp,op,cap,rfl,hcap,hby,⟨_,hpA,_⟩,⟨_,hpL,_⟩,_⟩:=hp.get hn;rw [←hF,hA] at hpA;rw [←hF,hN] at hpL;have hAN:A≤N:=by omega
  have hAs:A≤(curX P.g).stack.length:=by omega
  have hN9:N≤900:=by omega
  have hAt:(zI p n).args.toNat=A:=by omega
  have hNt:(zI p n).locals.toNat=N:=by omega
  have ha0:kL p P.g n 0=List.replicate N 0:=by rw [argsOf_zero p P.g n ⟨hA0,hAL⟩,hNt]
  have hal:∀j,j≤A→(kL p P.g n j).length=N:=fun j hj=>by rw [argsOf_len p P.g n j (by omega) (by omega) ⟨hA0,hAL⟩,hNt]
  have H:=eH h;have HT:=eH ht;have HP:=eH hp;have HA:=eH hA;have HN:=eH hN;have HAT:=eH hAt;have HA0:=eH ha0;have HAL:=eH hal;have HB:Hid (B≤w.heap.size):=Nat.le_trans h.le (Nat.le_of_lt h.c0.lt);obtain⟨i0,hi0,hz0,hz1,hz2⟩:=info_parts vM;have RA:=zF;have KA:IntKind.i64.wrap ((A:Int) - 1)=(A:Int) - 1:=IntWalk.i64_in _ (by omega);clear hp h hF hA0 hAL hL9 hA hN hAt hNt ha0 hal;go_enter Tryz.func184,Tryz.ntmps184
  go_wp2_with (first
    | (at_make;refine wpList_make_full _ rfl _ _ 30 rfl w.heap.size 3 i0 (.int .i64 0) 1 Tryz.underlying30 hi0 hz0 hz1 .i64 .i64 _ _ N rfl rfl rfl rfl (by rw [hz2];omega) (by unfold maxLen;omega) (by simp) ?_;intro w3 hown3 hgr3;have hE3:=uR hgr3;have hrow:=IRow.made hown3;have hpA3:=eC hE3 hpA))
  have HS3:Hid (w.heap.size≤w3.heap.size):=hE3.size;obtain⟨W4,hW4⟩:∃W4,W4=w3.alloc (.cells #[.int .i64 n,.int .i64 0,.slice (some ⟨w.heap.size,0,none⟩) N N,.slice none 0 0] 108):=⟨_,rfl⟩
  have hE4:Ext w W4:=by rw [hW4];exact hE3.alloc _
  have hgl3:w.heap.size<w3.heap.size∨N=0:=by
    by_cases h0:N=0
    · exact .inr h0
    · refine .inl ?_
      have hr:RowAt w3 w.heap.size 1 (.slice (some ⟨w.heap.size,0,none⟩) N N) N (ints (List.replicate N 0)):=by have:=hrow;unfold IRow at this;rwa [List.length_replicate] at this
      exact hr.lt2 (by decide) _ (zK _ _ _ _ h0)
  have hI0:CallI w W4 B b P p n w3.heap.size w.heap.size N 0 P:=by
    have hlt:=(H.out).lt;refine⟨(H.out).ext hE4,(leave_zero _).symm,fun k hk=>.inl hk,Chg.of_ext hE4,fun hm=>?_,fun hm=>?_,?_,?_,?_,?_,?_⟩
    · have:=hlt _ hm;have:=HS3.out;omega
    · have:=hlt _ hm;omega
    · rw [HA0.out]
      have hr:RowAt w3 w.heap.size 1 (.slice (some ⟨w.heap.size,0,none⟩) N N) N (ints (List.replicate N 0)):=by have:=hrow;unfold IRow at this;rwa [List.length_replicate] at this
      rw [hW4];exact hr.ext ((eR _).alloc _) (by decide)
    · rw [hW4];exact Cx.new w3 [.int .i64 n,.int .i64 0,.slice (some ⟨w.heap.size,0,none⟩) N N,.slice none 0 0] _ (j:=0) rfl
    · rw [hW4];exact Cx.new w3 [.int .i64 n,.int .i64 0,.slice (some ⟨w.heap.size,0,none⟩) N N,.slice none 0 0] _ (j:=1) rfl
    · rw [hW4];exact Cx.new w3 [.int .i64 n,.int .i64 0,.slice (some ⟨w.heap.size,0,none⟩) N N,.slice none 0 0] _ (j:=2) rfl
    · rw [hW4];exact Cx.new w3 [.int .i64 n,.int .i64 0,.slice (some ⟨w.heap.size,0,none⟩) N N,.slice none 0 0] _ (j:=3) rfl
  rw [←hW4];have HI0:=eH hI0;generalize hbx:w3.heap.size=bx at *;have HBX:Hid (w.heap.size≤bx∧(w.heap.size<bx∨N=0)):=⟨HS3.out,hgl3⟩
  clear hE3 hgr3 hrow hpA hpL hpA3 hW4 hE4 hgl3 hI0 hbx HS3 hown3;generalize hgl:w.heap.size=gl at *;have HGL:=eH hgl;clear hgl
  go_loopw [8] (fun q8 wr=>∃(j r:Nat) (P':PState),j+r=A∧q8=.int .i64 ((r:Int) - 1)∧CallI w wr B b P p n bx gl N j P') (fun q _=>(intOf q+1).toNat)
  case atStart=>exact⟨0,A,P,by omega,rfl,HI0.out⟩
  case round =>
    obtain⟨j,r,P',hjr,rfl,hI⟩:=hrel;have HI:=eH hI;clear hI;rcases r with _ | r
    · have e1:(((0:Nat):Int) - 1) = -1:=rfl
      rw [e1];obtain rfl:j=A:=by omega
      clear e1;have hT':zU P'.g P'.g.now:=by rw [(HI.out).g];exact(HT.out).leave _
      obtain⟨L,y,R,F,x,hs,hnw⟩:=yS hT';have hnw:P'.now=L.length:=hnw;obtain⟨g,o,cap2,hvf,hlt,d0,-,hbl⟩:=(HI.out).own.place hs.fs;obtain⟨ay,cy,ey,hcy,_⟩:=((HI.out).own.fs y (by rw [hs.fs];simp)).row.shape;have hfew:=((HI.out).own.fs y (by rw [hs.fs];simp)).few;obtain⟨c0,c0'⟩:=(HI.out).own.c0;obtain⟨k1,k1'⟩:=(HI.out).own.c1;rw [hnw] at k1;rw [hvf] at c0;rw [ey] at d0;have hCF:curF P'.g=y.g:=zAn hs.fs hnw;have hfl:(curF P.g).frames.length=y.fr.length:=by
        have e:(curF P'.g).frames.length=(curF P.g).frames.length:=by
          rw [(HI.out).g];unfold jB kT;rw [curF_mod P.g ⟨(HT.out).1,(HT.out).2.1⟩];simp
        rw [←e,hCF];unfold PFiber.g;simp
      have HS:=eH hs;have HVF:=eH hvf;have HEY:=eH ey;have HNW:=eH hnw;have HFL:=eH hfl;have HBL:=eH hbl;have D0:=eH d0;obtain⟨d0,d0'⟩:=d0;clear hT' hvf ey hnw hfl hs hCF hbl
      go_upto_region 6 with fail
      by_cases h6:y.fr.length=6
      · have T6:(((y.fr.length:Nat):Int) == 6)=true:=by rw [h6];rfl
        have HG:Hid (zAw p P.g n=(2,P.g)):=by unfold Hid zAw;rw [if_pos (by rw [HFL.out];exact h6)]
        clear h6;refine kB (by kernel_rfl) (by kernel_rfl) ?_
        repeat (first
          | go_big_quiet_skip
          | (go_big_quiet_want
             unfold Oper.quiet;apply Exists.intro;refine⟨fun w' hw'=>?_,?_⟩
             focus
               have hcq:=Ext.keep hw';go_simp
               first
                 | with_reducible rfl
             (try dsimp only [Act.put])
             (try simp only [xL,xM,xN])
             go_big_quiet_on))
        refine wpQuiet_nil ?_;intro wq hq
        go_wp2_with fail
        go_ret;rw [HG.out];exact⟨rfl,⟨(HI.out).chg.trans (Chg.of_ext hq),fun h=>by cases h⟩⟩
      · have T6:(((y.fr.length:Nat):Int) == 6)=false:=beq_false_of_ne (by omega)
        have HG:Hid (zAw p P.g n=(0,kN (jB P.g (zI p n).args.toNat) P.g.now fun f=>{ f with frames:=f.frames++[⟨n,0,kL p P.g n (zI p n).args.toNat,[]⟩] })):=by unfold Hid zAw;rw [if_neg (by rw [HFL.out];exact h6)]
        clear h6;refine kB (by kernel_rfl) (by kernel_rfl) ?_
        repeat (first
          | go_big_quiet_skip
          | (go_big_quiet_want
             unfold Oper.quiet;apply Exists.intro;refine⟨fun w' hw'=>?_,?_⟩
             focus
               have hcq:=Ext.keep hw';go_simp
               first
                 | with_reducible rfl
             (try dsimp only [Act.put])
             (try simp only [xL,xM,xN])
             go_big_quiet_on))
        refine wpQuiet_nil ?_;intro wq hq;have HQ:=eH hq;obtain⟨i1,hi1,hz3,hz4,hz5⟩:=info_parts infoFr;have HIQ:=eH ((HI.out).ext hq);obtain⟨c0,c0'⟩:=Cx.ext (W:=wr) ⟨c0,c0'⟩ hq;obtain⟨k1,k1'⟩:=Cx.ext (W:=wr) ⟨k1,k1'⟩ hq;obtain⟨d0,d0'⟩:=Cx.ext (W:=wr) ⟨d0,d0'⟩ hq;obtain⟨b0,b0'⟩:=(HIQ.out).c0;obtain⟨b1,b1'⟩:=(HIQ.out).c1;obtain⟨b2,b2'⟩:=(HIQ.out).c2;obtain⟨b3,b3'⟩:=(HIQ.out).c3;clear hq
        go_upto_region 8 with fail
        refine zX (fun w'=>w'.cell? ⟨b,0,none⟩=some (.slice (some ⟨g,o,none⟩) P'.fs.length cap2)∧w'.cell? ⟨b,1,none⟩=some (.int .i64 (L.length:Int))∧w'.cell? ⟨g,o+L.length * 2,none⟩=some (.slice ay y.fr.length cy) ∧
            w'.cell? ⟨bx,0,none⟩=some (.int .i64 n)∧w'.cell? ⟨bx,1,none⟩=some (.int .i64 0)∧w'.cell? ⟨bx,2,none⟩=some (.slice (some ⟨gl,0,none⟩) N N)∧w'.cell? ⟨bx,3,none⟩=some (.slice none 0 0))
          24 [0,1,2,3,4,5,6,7,8,9,10,11,12,13,14,15,16,17,18,19] [20,21,22,23,24] (by kernel_rfl) (by kernel_rfl) (fun _ _ _ _ _ h=>h) (by refine⟨?_,?_,?_,?_,?_,?_,?_⟩<;>simpa) ?_
        (try simp only [zH,List.filterMap_cons,List.filterMap_nil,xO,xP])
        repeat (
          refine zN (by rfl) ?_;apply Exists.intro;refine⟨fun w' hw'=>?_,?_⟩
          focus
            (try dsimp only at hw')
            go_split_ands;go_simp
            (try with_reducible rfl)
          (try dsimp only [Act.put])
          (try simp only [xL,xM,xN]))
        refine zL ?_;have hown:=(HIQ.out).own;have hyO:=hown.fs y (by rw [(HS.out).fs];simp);have HROW:Hid (RowAt wq B 4 (.slice ay y.fr.length cy) y.fr.length (y.fr.flatMap frameF)):=by unfold Hid;rw [←HEY.out];exact hyO.row
        have HX9:Hid (frameF ⟨⟨n,0,kL p P.g n j,[]⟩,.slice (some ⟨gl,0,none⟩) N N,.slice none 0 0⟩=[.int .i64 n,.int .i64 0,.slice (some ⟨gl,0,none⟩) N N,.slice none 0 0]):=rfl;have HBW:Hid (B≤wq.heap.size):=Nat.le_trans HB.out (by rw [←HGL.out];exact(HIQ.out).chg.size);have HGY:Hid (∀k,zB (.slice ay y.fr.length cy)=some k→k≠b∧k≠g∧k≠bx∧k∈P'.bl):=by
          intro k hk;rw [←HEY.out] at hk;have hm:k∈y.bl:=by unfold PFiber.bl;simp [hk]
          have hym:y∈P'.fs:=by rw [(HS.out).fs];simp
          have hmp:=PState.mem_fs hym hm;obtain⟨d0,d1,_⟩:=hown.dis;exact⟨fun e=>d0 (e ▸ hmp),fun e=>(d1 g HBL.out).2 y hym (e ▸ hm),fun e=>(HIQ.out).nb (List.mem_cons_of_mem _ (e ▸ hmp)),hmp⟩
        have HIQ2:=eH ((HIQ.out).ext ((eR wq).alloc (.cells #[.int .i64 n,.int .i64 0,.slice (some ⟨gl,0,none⟩) N N,.slice none 0 0] 108)).drew);have D0Q:=eH (Cx.ext (W:=wq) ⟨d0,d0'⟩ ((eR wq).alloc (.cells #[.int .i64 n,.int .i64 0,.slice (some ⟨gl,0,none⟩) N N,.slice none 0 0] 108)).drew);clear hown hyO;refine zC ?_
        go_wp2_with fail
        refine zD (by refine⟨?_,?_,?_,?_,?_,?_,?_⟩<;>simp [*]) ?_;refine zC ?_
        go_wp2_with (first
          | (at_builtin;refine zE rfl _ _ 110 rfl B 108 i1 (.agg #[.int .i64 0,.int .i64 0,.slice none 0 0,.slice none 0 0]) 4 64 Tryz.underlying110 hi1 hz3 hz4 hz5 rfl (by decide) _ _ _ rfl (by exact(HROW.out.ext (((eR _).alloc _).drew) (by decide))) 1 _ (by exact src_drew (vZ _ _ 4 rfl (by simp [Value.oneCell']) _)) (by unfold maxLen;omega) (by omega) (by exact Nat.le_trans HBW.out (Ext.size (((eR _).alloc _).drew))) ?_;intro v1 Wv1 rv1;have RV:=eH rv1;obtain⟨a9,cap9,rfl,_,_⟩:=rv1.1.shape;clear rv1))
        have hRV:kO (wq.alloc (.cells #[.int .i64 n,.int .i64 0,.slice (some ⟨gl,0,none⟩) N N,.slice none 0 0] 108)).drew Wv1 B 4 (.slice ay y.fr.length cy) (.slice a9 (y.fr.length+1) cap9) (y.fr.length+1) (y.fr.flatMap frameF++[.int .i64 n,.int .i64 0,.slice (some ⟨gl,0,none⟩) N N,.slice none 0 0]):=RV.out;have e0:=Chg.cell hRV.2.1 (b:=b) (o:=0) (fun e=>(HGY.out b e).1 rfl) (HIQ2.out).own.c0.1;have e1:=Chg.cell hRV.2.1 (b:=b) (o:=1) (fun e=>(HGY.out b e).1 rfl) (HIQ2.out).own.c1.1;have e2:=Cx.chg (D0Q.out) hRV.2.1 (fun e=>(HGY.out g e).2.1 rfl);have e3:=Chg.cell hRV.2.1 (b:=bx) (o:=0) (fun e=>(HGY.out bx e).2.2.1 rfl) (HIQ2.out).c0.1;have e4:=Chg.cell hRV.2.1 (b:=bx) (o:=1) (fun e=>(HGY.out bx e).2.2.1 rfl) (HIQ2.out).c1.1;have e5:=Chg.cell hRV.2.1 (b:=bx) (o:=2) (fun e=>(HGY.out bx e).2.2.1 rfl) (HIQ2.out).c2.1;have e6:=Chg.cell hRV.2.1 (b:=bx) (o:=3) (fun e=>(HGY.out bx e).2.2.1 rfl) (HIQ2.out).c3.1;rw [HVF.out] at e0;rw [HNW.out] at e1;have HSS:=eH (⟨e0,e1,e2.1,e3,e4,e5,e6⟩:_∧_∧_∧_∧_∧_∧_);refine zD HSS.out ?_;obtain⟨e2,e2'⟩:=e2;clear e0 e1 e3 e4 e5 e6;refine zC ?_
        go_wp2_with fail
        refine zD HSS.out ?_;refine zC ?_
        go_wp2_with fail
        refine zD HSS.out ?_;refine zC ?_
        go_wp2_with fail
        refine zS ?_
        go_wp2_with fail
        go_ret;rw [HG.out,HAT.out];have hfin:=call_fin (HIQ.out) (HS.out) (HNW.out) (HVF.out) (by rw [HEY.out];exact hRV) (eR wq |>.alloc _ |>.drew) (by rw [←HFL.out];exact hfr9) (HGL.out) (HB.out) (fun hN=>by have:=(HBX.out).2;omega) (I64.nat (by omega)) (argsOf_i64 p P.g n _ ((H.out).i64s HT.out).1) (by rw [HAL.out _ (Nat.le_refl _)]) (by omega);exact⟨rfl,hfin⟩
    · have e1:(((r+1:Nat):Int) - 1)=(r:Int):=by omega
      rw [e1];have hT':zU P'.g P'.g.now:=by rw [(HI.out).g];exact(HT.out).leave j
      have hcx:(curX P'.g).stack.length=(curX P.g).stack.length - j:=by rw [(HI.out).g,curX_leave _ HT.out,List.length_take];omega
      have HT':=eH hT';have HL':Hid (1≤(curX P'.g).stack.length):=by unfold Hid;omega
      obtain⟨x2,x2'⟩:=(HI.out).c2;have hrN:r<N:=by omega
      have KR:IntKind.i64.wrap ((r:Int) - 1)=(r:Int) - 1:=IntWalk.i64_in _ (by omega);have hne2:bx≠gl:=by have:=(HBX.out).2;omega
      clear hT' hcx e1
      go_upto_region 5 with fail
      obtain⟨u,hu⟩:=(HI.out).cell hrN (by rw [HAL.out j (by omega)]);have HU:=eH hu;clear hu
      go_region_held3 (fun w'=>w'.cell? ⟨bx,2,none⟩=some (.slice (some ⟨gl,0,none⟩) N N))
        (first | assumption | exact cell_other (by assumption) hne2 _)
        ((go_at_call 183;(with_reducible refine(vI ((HI.out).own.ext (by ((repeat first|assumption|exact eR _|exact And.left (by assumption)|apply eA|apply eD|apply eN|refine eS ?_ (by simp<;>omega) _|refine eT ?_ (by assumption));done))) HT'.out HL'.out).mono ?_);rintro e w2 ⟨rfl,t2⟩;have hk2:w2.cell? ⟨bx,2,none⟩=some (.slice (some ⟨gl,0,none⟩) N N):=Chg.cell t2.chg (HI.out).nb (by simpa using x2);obtain⟨y2,y2'⟩:=((HU.out).ext (eR _).drew).chg t2.chg (HI.out).nl))
      go_wp2_with fail
      have t3:Turn wr w2 B b P' (popG P'.g):=Turn.pre (eR _).drew t2;obtain⟨P'',hI2⟩:=(HI.out).pull HT.out (Nat.le_of_eq HGL.out) (Ne.symm hne2) (by rw [HAT.out];omega) (by omega) (by rw [HAT.out];omega) hrN (by rw [HAL.out j (by omega)]) t3;go_roundw
      case rel=>exact⟨j+1,r,P'',by omega,rfl,hI2⟩
      case measure=>simp [intOf]
theorem OwnS.ge {W:World} {B b:Nat} {P:PState} (h:OwnS W B b P):∀g∈b::P.bl,B≤g:=by
 intro g hg;rcases List.mem_cons.1 hg with rfl | hg
 ·exact h.le
 ·unfold PState.bl at hg;rcases List.mem_append.1 hg with h1 | h1
  ·rcases List.mem_append.1 h1 with h2 | h2
   ·exact h.row.le g (by simpa using h2)
   ·exact h.out.le g (by simpa using h2)
  ·obtain⟨y,hy,h2⟩:=List.mem_flatMap.1 h1;unfold PFiber.bl at h2;rcases List.mem_append.1 h2 with h3 | h3
   ·exact(h.fs y hy).row.le g (by simpa using h3)
   ·obtain⟨x,hx,h4⟩:=List.mem_flatMap.1 h3;unfold PFrame.bl at h4;rcases List.mem_append.1 h4 with h5 | h5
    ·exact((h.fs y hy).fr x hx).l.le g (by simpa using h5)
    ·exact((h.fs y hy).fr x hx).s.le g (by simpa using h5)
theorem curF_frames (s:GState) (h:zU s s.now) (g:GFrame→GFrame):(curF (kT s s.now g)).frames.length=(curF s).frames.length:=by
 unfold kT;rw [curF_mod s ⟨h.1,h.2.1⟩];simp
theorem FewS.cur {s:GState} (h:FewS s) (ht:zU s s.now):(curF s).frames.length<1000:=by
 have hm:curF s∈s.fibers:=by
  unfold curF;rw [List.getD_eq_getElem?_getD,List.getElem?_eq_getElem (by have:=ht.1;have:=ht.2.1;omega)];exact List.getElem_mem _
 have:=(h.2.2 _ hm).1;omega
theorem zBh {P:PState} {L R:List PFiber} {y:PFiber} {F:List PFrame} {x x':PFrame} (hs:Spot P L y R F x) (h:x'.bl=x.bl):∀g∈(qT P L y R F x').bl,g∈P.bl:=by
 intro g hg;rcases yO (n:=g+1) hs (fun k hk=>.inl (h ▸ hk)) g hg with h1 | h1
 ·exact h1
 ·omega
theorem kV {p:List GFunc} {w W4 w':World} {B b:Nat} {P P1:PState} {k a:Int} {r:Int × GState} (hD:kF p P.g=zQ p P1.g k a) (hw:zQ p P1.g k a=r) (c:Chg (·∈b::P.bl) w W4) (bl:∀k∈P1.bl,k∈P.bl) (d:Did W4 w' B b P1 r) :
  (kF p P.g).1=r.1∧Did w w' B b P (kF p P.g):=by
 rw [hD,hw];exact⟨rfl,Did.step c (fun k hk=>.inl (bl k hk)) d⟩
theorem zCw (k a b:Int):I64 (yP k a b):=by
 have hw:∀n,I64 (wrap64 n):=fun n=>by unfold I64 wrap64;omega
 have ht:∀t,I64 (zCr t):=fun t=>by cases t<;>(unfold I64 zCr;decide)
 unfold yP;split
 ·exact hw _
 ·split
  ·exact hw _
  ·split
   ·exact hw _
   ·split<;>exact ht _
theorem not_grown {P P5:PState} {b bx n:Nat} (h:bx ∉ b::P.bl) (hs:∀g∈P5.bl,g∈P.bl∨n≤g) (hlt:bx<n):bx ∉ b::P5.bl:=fun hm=>by
 rcases List.mem_cons.1 hm with rfl | h1
 ·exact h List.mem_cons_self
 ·rcases hs bx h1 with h2 | h2
  ·exact h (List.mem_cons_of_mem _ h2)
  ·omega
theorem cells3_ext {w w':World} {a b c:Addr} {x y z:Value} (h:w.cell? a=some x∧w.cell? b=some y∧w.cell? c=some z) (he:Ext w w'):w'.cell? a=some x∧w'.cell? b=some y∧w'.cell? c=some z :=
 ⟨(Ext.keep he a (by rw [h.1];rfl)).trans h.1,(Ext.keep he b (by rw [h.2.1];rfl)).trans h.2.1,(Ext.keep he c (by rw [h.2.2];rfl)).trans h.2.2⟩
theorem add_fin {w5 w6 Wv:World} {B b:Nat} {P:PState} {an:Int} {N:Nat} {v1:Value} (h:OwnS w5 B b P) (hE:Ext w5 w6) (hrow:RowAt w6 w5.heap.size 1 (.slice (some ⟨w5.heap.size,0,none⟩) N N) N (ints (List.replicate N 0))) (tf tb:TypeId)
  (hRV:kO ((w6.alloc (.cells #[.int .i64 an,.int .i64 0,.slice (some ⟨w5.heap.size,0,none⟩) N N,.slice none 0 0] tf)).alloc (.cells #[.slice (some ⟨w6.heap.size,0,none⟩) 1 1,.int .i64 (-1)] tb)) Wv B 2 P.vfs v1 (P.fs.length+1) (P.fs.flatMap kK++[.slice (some ⟨w6.heap.size,0,none⟩) 1 1,.int .i64 (-1)]))
  (hI:I64 an) (hN:N≤1000) (hl:P.fs.length<1000) :
  Turn w5 (Wv.setCell ⟨b,0,none⟩ v1) B b P { P.g with fibers:=P.g.fibers++[⟨[⟨an,0,List.replicate N 0,[]⟩],-1⟩] }:=by
 obtain⟨r1,r2,r3⟩:=hRV
 let X:PFrame:=⟨⟨an,0,List.replicate N 0,[]⟩,.slice (some ⟨w5.heap.size,0,none⟩) N N,.slice none 0 0⟩
 let Y:PFiber:=⟨[X],-1,.slice (some ⟨w6.heap.size,0,none⟩) 1 1⟩
 have hBw:B≤w5.heap.size:=Nat.le_trans h.le (Nat.le_of_lt h.c0.lt);have hEm:Ext w5 ((w6.alloc (.cells #[.int .i64 an,.int .i64 0,.slice (some ⟨w5.heap.size,0,none⟩) N N,.slice none 0 0] tf)).alloc (.cells #[.slice (some ⟨w6.heap.size,0,none⟩) 1 1,.int .i64 (-1)] tb)):=(hE.alloc _).alloc _;have hE6:Ext w6 ((w6.alloc (.cells #[.int .i64 an,.int .i64 0,.slice (some ⟨w5.heap.size,0,none⟩) N N,.slice none 0 0] tf)).alloc (.cells #[.slice (some ⟨w6.heap.size,0,none⟩) 1 1,.int .i64 (-1)] tb)):=((eR _).alloc _).alloc _;have hold:∀k,zB P.vfs=some k→k<w5.heap.size:=fun k hk=>h.lt k (List.mem_cons_of_mem _ (PState.mem_vfs hk))
 have h56:=hE.size;have hvb:∀k,zB (.slice (some ⟨w5.heap.size,0,none⟩) N N)=some k→k=w5.heap.size∧w5.heap.size<w6.heap.size:=fun k hk=>by
  by_cases h0:N=0
  ·subst h0;simp [zB] at hk
  ·have h1:=hrow.lt2 (by decide) k hk;rw [zK _ _ _ _ h0] at hk
   cases hk
   exact⟨rfl,h1⟩
 have hXO:FrameO Wv B X:=by
  refine⟨⟨hI,I64.zero,fun k hk=>?_,fun k hk=>by cases hk⟩,?_,RowAt.nil _ _ _ _,⟨by show (List.replicate N (0:Int)).length≤1000;rw [List.length_replicate];exact hN,by show 0≤1000;omega⟩⟩
  ·rw [List.eq_of_mem_replicate hk];exact I64.zero
  ·show RowAt Wv B 1 (.slice (some ⟨w5.heap.size,0,none⟩) N N) (List.replicate N (0:Int)).length (ints (List.replicate N 0));rw [List.length_replicate];refine((hrow.mono hBw).ext hE6 (by decide)).chg r2 (fun k hk e=>?_) (by decide);have:=(hvb k hk).1;have:=hold k e;omega
 have hYO:FiberO Wv B Y:=by
  refine⟨I64.neg1,?_,fun u hu=>?_,by show 1≤1000;omega⟩
  ·have hm:=RowAt.made w6 #[.int .i64 an,.int .i64 0,.slice (some ⟨w5.heap.size,0,none⟩) N N,.slice none 0 0] tf 4 1 B (by omega) (by unfold maxLen;omega) rfl;refine(hm.ext ((eR _).alloc _) (by decide)).chg r2 (fun k hk e=>?_) (by decide);have hk':w6.heap.size=k:=by simpa [zB] using hk
   have:=hold k e;omega
  ·rw [List.mem_singleton.1 hu];exact hXO
 have hms:((w6.alloc (.cells #[.int .i64 an,.int .i64 0,.slice (some ⟨w5.heap.size,0,none⟩) N N,.slice none 0 0] tf)).alloc (.cells #[.slice (some ⟨w6.heap.size,0,none⟩) 1 1,.int .i64 (-1)] tb)).heap.size=w6.heap.size+2:=by simp
 have hv1:zB v1=zB P.vfs∨∀k,zB v1=some k→w6.heap.size+2≤k:=r3.imp id fun e k hk=>by have:=e k hk;omega
 have hYbl:∀k∈Y.bl,k=w6.heap.size∨(k=w5.heap.size∧w5.heap.size<w6.heap.size):=fun k hk=>by
  unfold PFiber.bl at hk;simp only [Y,List.flatMap_cons,List.flatMap_nil,List.append_nil,List.mem_append] at hk;rcases hk with h1 | h1
  ·left;simpa [zB,eq_comm] using h1
  ·unfold PFrame.bl at h1;rcases List.mem_append.1 h1 with h2 | h2
   ·exact .inr (hvb k (by simpa using h2))
   ·simp [X,zB] at h2
 obtain⟨o9,c9⟩:=h.addFiber (y:=Y) (v1:=v1) ((Chg.of_ext hEm).trans r2) (by
   rw [List.length_append,List.length_singleton,List.flatMap_append];exact r1) hYO hl (hv1.imp id fun e k hk=>by have:=e k hk;omega) (by
   unfold PFiber.bl;simp only [Y,List.flatMap_cons,List.flatMap_nil,List.append_nil];unfold PFrame.bl;rw [show zB X.vs=none from rfl,show zB (.slice (some ⟨w6.heap.size,0,none⟩) 1 1)=some w6.heap.size from zK _ _ _ _ (by decide)]
   cases hr:zB X.vl with
   | none=>simp
   | some k =>
    have h3:=hvb k hr;have h4:w6.heap.size≠k:=by omega
    simp [h4]) (fun k hk=>by
   refine⟨by rcases hYbl k hk with h1 | h1<;>omega,fun e=>?_⟩;rcases hv1 with h2 | h2
   ·have:=hold k (h2 ▸ e);rcases hYbl k hk with h1 | h1<;>omega
   ·have:=h2 k e;rcases hYbl k hk with h1 | h1<;>omega)
 refine⟨⟨_,o9,?_,fun k hk=>?_⟩,c9⟩
 ·unfold PState.g;simp [Y,X,PFiber.g]
 ·unfold PState.bl at hk;simp only [List.flatMap_append,List.mem_append] at hk;rcases hk with (h3 | h3) | h3 | h3
  ·have h4:zB v1=some k:=by simpa using h3
   rcases hv1 with h5 | h5
   ·exact .inl (PState.mem_vfs (h5 ▸ h4))
   ·have:=h5 k h4;exact .inr (by omega)
  ·exact .inl (PState.mem_vo (by simpa using h3))
  ·obtain⟨z,hz,h4⟩:=List.mem_flatMap.1 h3;exact .inl (PState.mem_fs hz h4)
  ·have h4:k∈Y.bl:=by simpa using h3
   exact .inr (by rcases hYbl k h4 with h1 | h1<;>omega)
theorem done_any (p:List GFunc) (v:Value) {P:PState} {w:World} {B b:Nat} (hp:zM w (·<B) v p) (h:OwnS w B b P) (hf:FewS P.g) (hfit:zEr p P.g) :
    Calls Tryz.prog 149 #[v,.pointer (some ⟨b,0,none⟩)] w fun e w'=>e=.returned (.int .i64 (kF p P.g).1)∧Did w w' B b P (kF p P.g):=by
  obtain⟨⟨ht,hn0,hn1,ha0,ha1⟩,hwf⟩:=hfit;obtain⟨L,y,R,F,x,hs,hnw⟩:=yS ht;have hnw:P.now=L.length:=hnw;have hcx:=uS hs hnw;rw [hcx] at hn0 hn1 ha0 ha1 hwf;obtain⟨fn,hfn⟩:∃n:Nat,x.f.func=n:=⟨x.f.func.toNat,by omega⟩
  obtain⟨at',hat⟩:∃n:Nat,x.f.at_=n:=⟨x.f.at_.toNat,by omega⟩
  have hfl:fn<p.length:=by omega
  have hF:zI p x.f.func=p[fn]:=by rw [hfn];unfold zI;simp [List.getD,List.getElem?_eq_getElem hfl]
  rw [hF] at ha1;have hal:at'<p[fn].code.length:=by omega
  have hop:opAt p x.f=p[fn].code[at']:=by unfold opAt;rw [hF,hat];simp [List.getD,List.getElem?_eq_getElem hal]
  rw [hop] at hwf;have hD:kF p P.g=zQ p (advG P.g) p[fn].code[at'].kind p[fn].code[at'].a:=by unfold kF;rw [hcx,hop]
  obtain⟨bp,op,capp,rfl,hcapp,hby,_,_,vc,hcv,hops⟩:=hp.get hfl;obtain⟨bc,oc,capc,rfl,hcapc,hbyc,⟨_,hk0,hk1⟩,_,hq0,hq1⟩:=hops.get hal;obtain⟨k,hk⟩:∃k,p[fn].code[at'].kind=k:=⟨_,rfl⟩
  obtain⟨a,ha⟩:∃a,p[fn].code[at'].a=a:=⟨_,rfl⟩
  obtain⟨M,hM⟩:∃M,p[fn].code.length=M:=⟨_,rfl⟩
  rw [hk] at hk0 hk1 hwf hD;rw [ha] at hq0 hq1 hwf hD;rw [hM] at hal hcv hcapc hbyc;obtain⟨g,o,cap,hyv,hcap,hmax,⟨f0,_⟩,⟨f1,f1'⟩,_,_,hbl⟩:=h.spot hs;rw [hfn] at f0;rw [hat] at f1;have KA:IntKind.i64.wrap ((at':Int)+1)=(at':Int)+1:=IntWalk.i64_in _ (by omega);have hlen2:P.fs.length≤1000:=h.few.1;have HP:=eH hp;have H:=eH h;have HS:=eH hs;have HNW:=eH hnw;have HYV:=eH hyv;have HD:=eH hD;have HF:=eH hf;have HT:=eH ht;have HWF:=eH hwf;have HBL:=eH hbl;have HAT:=eH hat;obtain⟨i0,hi0,hz0,hz1,hz2⟩:=info_parts vM;obtain⟨i2,hi2,hz6,hz7,hz8⟩:=info_parts infoFb;have RA:=zF;obtain⟨c1,-⟩:=h.c1;rw [hnw] at c1;clear hp h hs hnw hyv hD hf ht hwf hcx hop hF hbl hn0 hn1 ha0 ha1 hM hk ha hops hfn hat;go_enter Tryz.func149,Tryz.ntmps149
  go_upto_region 2 with (first
    | (go_at_call 181;(with_reducible refine(zHl H.out HS.out HYV.out L.length rfl).mono ?_);rintro e w2 ⟨rfl,hx2⟩))
  have HX2:=eH hx2;have f0:=eC hx2 f0;have f1w:=f1;have f1:=eC hx2 f1;have hcv:=eC hx2 hcv;have hk0:=eC hx2 hk0;have hq0:=eC hx2 hq0;clear hx2;have f1'2:=(Cx.ext (W':=w2) ⟨f1w,f1'⟩ HX2.out).2;refine zX (fun w'=>w'.cell? ⟨g,o+F.length * 4,none⟩=some (.int .i64 fn)∧w'.cell? ⟨g,o+F.length * 4+1,none⟩=some (.int .i64 at')∧w'.cell? ⟨bp,op+fn * 3+2,none⟩=some (.slice (some ⟨bc,oc,none⟩) M capc)∧w'.cell? ⟨bc,oc+at' * 2,none⟩=some (.int .i64 k)∧w'.cell? ⟨bc,oc+at' * 2+1,none⟩=some (.int .i64 a))
    15 [0,1,2,3,4,5,6,7,8,9,10,11,12,13] [14,15] (by kernel_rfl) (by kernel_rfl) (fun _ _ _ _ _ h=>h) ⟨f0,f1,hcv,hk0,hq0⟩ ?_
  (try simp only [zH,List.filterMap_cons,List.filterMap_nil,xO,xP])
  repeat (
    refine zN (by rfl) ?_;apply Exists.intro;refine⟨fun w' hw'=>?_,?_⟩
    focus
      (try dsimp only at hw')
      go_split_ands;go_simp
      (try with_reducible rfl)
    (try dsimp only [Act.put])
    (try simp only [xL,xM,xN]))
  refine zL ?_;refine zC ?_
  go_wp2_with fail
  refine zD (by refine⟨?_,?_,?_,?_,?_⟩<;>simp [*]) ?_;refine zC ?_
  go_wp2_with fail
  refine zS ?_;have f1b:=(Cx.ext (W:=w2) ⟨f1,f1'2⟩ ((eR w2).alloc (.cells #[.int .i64 k,.int .i64 a] 51))).2
  go_upto_region 4 with fail
  obtain⟨W4,hW4⟩:∃W4,W4=((w2.alloc (.cells #[.int .i64 k,.int .i64 a] 51)).setCell ⟨g,o+F.length * 4+1,none⟩ (.int .i64 ((at':Int)+1))).drew:=⟨_,rfl⟩
  rw [←hW4];obtain⟨P1,y1,x1,HO,HS1,HYV1,HNW1,HG1,C4,BL4,HXF1⟩:∃P1 y1 x1,Hid (OwnS W4 B b P1)∧Hid (Spot P1 L y1 R F x1)∧Hid (y1.vf=.slice (some ⟨g,o,none⟩) (F++[x1]).length cap)∧Hid (P1.now=L.length)∧Hid (P1.g=advG P.g)∧Hid (Chg (·∈b::P.bl) w W4)∧Hid (∀k∈P1.bl,k∈P.bl)∧Hid (x1.f.locals=x.f.locals∧x1.f.stack=x.f.stack):=by
    have h9:=((H.out).ext (HX2.out.alloc (.cells #[.int .i64 k,.int .i64 a] 51))).setAt HS.out HYV.out ((at':Int)+1) (by unfold I64;omega);refine⟨qT P L y R F ⟨{ x.f with at_:=(at':Int)+1 },x.vl,x.vs⟩,{ y with fr:=F++[⟨{ x.f with at_:=(at':Int)+1 },x.vl,x.vs⟩] },⟨{ x.f with at_:=(at':Int)+1 },x.vl,x.vs⟩,?_,⟨rfl,rfl⟩,by rw [List.length_append];have:=HYV.out;rw [List.length_append] at this;exact this,HNW.out,?_,?_,?_,⟨rfl,rfl⟩⟩
    · rw [hW4];exact h9.1.ext (eR _).drew
    · unfold Hid advG
      refine(qC HS.out HNW.out ?_).symm;rw [HAT.out]
    · rw [hW4]
      exact((Chg.of_ext (HX2.out.alloc _)).trans h9.2).drew
    · intro k hk
      exact zBh (x':=⟨{ x.f with at_:=(at':Int)+1 },x.vl,x.vs⟩) HS.out rfl k hk
  have hbx:w2.heap.size ∉ b::P1.bl:=fun hm=>by
    have h1:w2.heap.size∈b::P.bl:=by
      rcases List.mem_cons.1 hm with e | e
      · rw [e];exact List.mem_cons_self
      · exact List.mem_cons_of_mem _ (BL4.out _ e)
    have:=(H.out).lt _ h1;have:=HX2.out.size;omega
  have hcap0:cap≠0:=by simp at hcap;omega
  have hgb2:w2.heap.size≠g:=fun e=>hbx (List.mem_cons_of_mem _ ((HS1.out).bl (.inl (by rw [HYV1.out,e];exact zK _ _ _ _ hcap0))))
  have hb0:Cx W4 w2.heap.size 0 (.int .i64 k):=by rw [hW4];exact(((Cx.new w2 [.int .i64 k,.int .i64 a] _ (j:=0) rfl).other (.inl hgb2) _).ext (eR _).drew)
  have hb1:Cx W4 w2.heap.size 1 (.int .i64 a):=by rw [hW4];exact(((Cx.new w2 [.int .i64 k,.int .i64 a] _ (j:=1) rfl).other (.inl hgb2) _).ext (eR _).drew)
  have HBX:=eH hbx;have HB1:=eH hb1;obtain⟨hb0,-⟩:=hb0;obtain⟨hb1,-⟩:=hb1;generalize w2.heap.size=bx at *;have hD2:=HD.out;rw [←HG1.out] at hD2;have HD2:=eH hD2;have hw2:=HWF.out;rw [←HG1.out] at hw2;have HW2:=eH hw2;have HT1:Hid (zU P1.g P1.g.now):=by unfold Hid;rw [HG1.out];exact(HT.out).top _
  have HTL:Hid (zU P1.g (L.length:Int)):=by unfold Hid;rw [←HNW1.out];exact HT1.out
  have HR1:Hid (Room P1.g):=by unfold Hid;rw [HG1.out];exact(HF.out).room.top _ (fun _=>Nat.le_refl _)
  have HOUT:Hid (P1.g.out.length<1000):=by unfold Hid;rw [HG1.out];have:=(HF.out).2.1;show P.g.out.length<1000;omega
  have HCUR:Hid ((curF P1.g).frames.length<1000):=by unfold Hid;rw [HG1.out];unfold advG;rw [curF_frames _ HT.out];exact(HF.out).cur HT.out
  have HPL:Hid (zM W4 (·<B) (.slice (some ⟨bp,op,none⟩) p.length capp) p):=zM.stays ((C4.out).stays (fun k hk hm=>by have:=(H.out).ge k hm;omega)) HP.out;have hcb:=(HO.out).c1.1;rw [HNW1.out] at hcb;clear hW4 hbx hgb2 f0 f1 f1' f1'2 f1b f1w hcv hk0 hq0 c1 hD2 hw2 HX2 HD HWF hcap hmax;rename World=>w2
  by_cases h0:k=0
  · subst h0
    have HWK:Hid (zQ p P1.g 0 a=(0,kR P1.g (L.length:Int) a)):=by unfold Hid zQ;rw [if_pos rfl,show P1.g.now=(L.length:Int) from HNW1.out]
    go_upto_region 9 with fail
    refine kW 7 (by kernel_rfl) (by kernel_rfl) ?_;simp only [List.take_succ_cons,List.take_zero,List.drop_succ_cons,List.drop_zero]
    repeat (first
      | go_big_quiet_skip
      | (go_big_quiet_want
         unfold Oper.quiet;apply Exists.intro;refine⟨fun w' hw'=>?_,?_⟩
         focus
           have hcq:=Ext.keep hw';go_simp
           first
             | with_reducible rfl
         (try dsimp only [Act.put])
         (try simp only [xL,xM,xN])
         go_big_quiet_on))
    refine wpQuiet_nil ?_;intro wq hq
    go_wp2_with (first
      | (go_at_call 182;(with_reducible refine(zAs ((HO.out).ext (by ((repeat first|assumption|exact eR _|exact And.left (by assumption)|apply eA|apply eD|apply eN|refine eS ?_ (by simp<;>omega) _|refine eT ?_ (by assumption));done))) (L.length:Int) HTL.out HR1.out a hq1).mono ?_);rintro e w5 ⟨rfl,t5⟩))
    go_ret;obtain⟨e9,d9⟩:=kV HD2.out HWK.out C4.out BL4.out (Did.of (Turn.pre (by ((repeat first|assumption|exact eR _|exact And.left (by assumption)|apply eA|apply eD|apply eN|refine eS ?_ (by simp<;>omega) _|refine eT ?_ (by assumption));done)) t5));rw [e9];exact⟨rfl,d9⟩
  have T0:(k == 0)=false:=beq_false_of_ne h0;by_cases h1:k=1
  · subst h1
    have HWK:Hid (zQ p P1.g 1 a=(0,popG P1.g)):=by unfold Hid zQ;simp
    have hst:1≤(curX P1.g).stack.length:=by have h:=HW2.out;unfold zV at h;simpa using h
    have HST:=eH hst
    go_wp2_with (first
      | (go_at_call 183;(with_reducible refine(vI HO.out HT1.out HST.out).mono ?_);rintro e w5 ⟨rfl,t5⟩))
    go_ret;obtain⟨e9,d9⟩:=kV HD2.out HWK.out C4.out BL4.out (Did.of t5);rw [e9];exact⟨rfl,d9⟩
  have T1:(k == 1)=false:=beq_false_of_ne h1;by_cases h2:k=2
  · subst h2
    have hfit:0≤a∧a<(curX P1.g).locals.length:=by have h:=HW2.out;unfold zV at h;simpa using h
    obtain⟨an,han⟩:∃n:Nat,a=n:=⟨a.toNat,by omega⟩
    subst han;have hcx:=uS HS1.out HNW1.out;rw [hcx] at hfit;have hxl:an<x1.f.locals.length:=by omega
    have hxO:=((HO.out).fs y1 (by rw [(HS1.out).fs];simp)).fr x1 (by rw [(HS1.out).fr];simp);obtain⟨al9,cl9,ex,hcl,_⟩:=hxO.l.shape;have hlr:=hxO.l;rw [ex] at hlr;obtain⟨gl,ol,rfl,_,hcells⟩:=hlr.cell (by omega);have z0:=(hcells an (by omega)).1;rw [vL _ _ hxl] at z0;obtain⟨u,hu⟩:∃u,x1.f.locals.getD an 0=u:=⟨_,rfl⟩
    have hui:I64 u:=by rw [←hu,List.getD_eq_getElem?_getD,List.getElem?_eq_getElem hxl];exact hxO.i.2.2.1 _ (List.getElem_mem _)
    rw [hu] at z0;have HWK:Hid (zQ p P1.g 2 an=(0,kR P1.g (L.length:Int) u)):=by unfold Hid zQ;rw [if_neg (by decide),if_neg (by decide),if_pos rfl,Int.toNat_natCast,hcx,hu,show P1.g.now=(L.length:Int) from HNW1.out]
    obtain⟨g',o',cap',hv',_,_,_,_,⟨x2,_⟩,_,_⟩:=(HO.out).spot HS1.out;rw [HYV1.out] at hv';simp only [Value.slice.injEq,Option.some.injEq,Addr.mk.injEq] at hv';obtain⟨⟨rfl,rfl,-⟩,-,rfl⟩:=hv';rw [ex] at x2;clear hxO hlr hcells hcx ex hu
    go_upto_region 13 with fail
    refine kW 13 (by kernel_rfl) (by kernel_rfl) ?_;simp only [List.take_succ_cons,List.take_zero,List.drop_succ_cons,List.drop_zero]
    repeat (first
      | go_big_quiet_skip
      | (go_big_quiet_want
         unfold Oper.quiet;apply Exists.intro;refine⟨fun w' hw'=>?_,?_⟩
         focus
           have hcq:=Ext.keep hw';go_simp
           first
             | with_reducible rfl
         (try dsimp only [Act.put])
         (try simp only [xL,xM,xN])
         go_big_quiet_on))
    refine wpQuiet_nil ?_;intro wq hq
    go_wp2_with (first
      | (go_at_call 182;(with_reducible refine(zAs ((HO.out).ext (by ((repeat first|assumption|exact eR _|exact And.left (by assumption)|apply eA|apply eD|apply eN|refine eS ?_ (by simp<;>omega) _|refine eT ?_ (by assumption));done))) (L.length:Int) HTL.out HR1.out u hui).mono ?_);rintro e w5 ⟨rfl,t5⟩))
    go_ret;obtain⟨e9,d9⟩:=kV HD2.out HWK.out C4.out BL4.out (Did.of (Turn.pre (by ((repeat first|assumption|exact eR _|exact And.left (by assumption)|apply eA|apply eD|apply eN|refine eS ?_ (by simp<;>omega) _|refine eT ?_ (by assumption));done)) t5));rw [e9];exact⟨rfl,d9⟩
  have T2:(k == 2)=false:=beq_false_of_ne h2;by_cases h9:k=9
  · subst h9
    have HWK:Hid (zQ p P1.g 9 a=(0,zDm P1.g a)):=by unfold Hid zQ;simp
    obtain⟨g',o',cap',hv',_,_,_,⟨x2,x2'⟩,_,_,_⟩:=(HO.out).spot HS1.out;rw [HYV1.out] at hv';simp only [Value.slice.injEq,Option.some.injEq,Addr.mk.injEq] at hv';obtain⟨⟨rfl,rfl,-⟩,-,rfl⟩:=hv'
    go_wp2_with fail
    go_ret;obtain⟨e9,d9⟩:=kV HD2.out HWK.out C4.out BL4.out (Did.of (let h9:=(HO.out).setAt HS1.out HYV1.out a hq1;⟨⟨_,h9.1,(qC HS1.out HNW1.out rfl).symm,fun k hk=>.inl (zBh (x':=⟨{ x1.f with at_:=a },x1.vl,x1.vs⟩) HS1.out rfl k hk)⟩,h9.2⟩));rw [e9];exact⟨rfl,d9⟩
  have T9:(k == 9)=false:=beq_false_of_ne h9;by_cases h11:k=11
  · subst h11
    have hfit:zEm p P1.g a:=by have h:=HW2.out;unfold zV at h;simpa using h
    obtain⟨an,han⟩:∃n:Nat,a=n:=⟨a.toNat,by have:=hfit.1;omega⟩
    subst han;have HWK:Hid (zQ p P1.g 11 an=zAw p P1.g an):=by unfold Hid zQ;simp
    have HFIT:=eH hfit
    go_wp2_with (first
      | (go_at_call 184;(with_reducible refine(called_any p _ _ an HPL.out HO.out HT1.out HCUR.out HFIT.out).mono ?_);rintro e w5 ⟨rfl,t5⟩))
    go_ret;obtain⟨e9,d9⟩:=kV HD2.out HWK.out C4.out BL4.out (t5);rw [e9];exact⟨rfl,d9⟩
  have T11:(k == 11)=false:=beq_false_of_ne h11;by_cases h12:k=12
  · subst h12
    have hfit:vC P1.g:=by have h:=HW2.out;unfold zV at h;simpa using h
    have HWK:Hid (zQ p P1.g 12 a=yX P1.g):=by unfold Hid zQ;simp
    have HFIT:=eH hfit
    go_wp2_with (first
      | (go_at_call 185;(with_reducible refine(given_any HO.out HT1.out HR1.out HOUT.out HFIT.out).mono ?_);rintro e w5 ⟨rfl,t5⟩))
    go_ret;obtain⟨e9,d9⟩:=kV HD2.out HWK.out C4.out BL4.out (t5);rw [e9];exact⟨rfl,d9⟩
  have T12:(k == 12)=false:=beq_false_of_ne h12;by_cases h14:k=14
  · subst h14
    have hfit:vD P1.g:=by have h:=HW2.out;unfold zV at h;simpa using h
    have HWK:Hid (zQ p P1.g 14 a=yE P1.g):=by unfold Hid zQ;simp
    have HFIT:=eH hfit
    go_wp2_with (first
      | (go_at_call 186;(with_reducible refine(resumed_any HO.out HT1.out HR1.out HFIT.out).mono ?_);rintro e w5 ⟨rfl,t5⟩))
    go_ret;obtain⟨e9,d9⟩:=kV HD2.out HWK.out C4.out BL4.out (t5);rw [e9];exact⟨rfl,d9⟩
  have T14:(k == 14)=false:=beq_false_of_ne h14;by_cases h15:k=15
  · subst h15
    have hfit:1≤(curX P1.g).stack.length∧zAp (popG P1.g):=by have h:=HW2.out;unfold zV at h;simpa using h
    have HWK:Hid (zQ p P1.g 15 a=yT P1.g):=by unfold Hid zQ;simp
    have HFIT:=eH hfit
    go_wp2_with (first
      | (go_at_call 187;(with_reducible refine(yielded_any HO.out HT1.out HR1.out (HFIT.out).1 (HFIT.out).2).mono ?_);rintro e w5 ⟨rfl,t5⟩))
    go_ret;obtain⟨e9,d9⟩:=kV HD2.out HWK.out C4.out BL4.out (t5);rw [e9];exact⟨rfl,d9⟩
  have T15:(k == 15)=false:=beq_false_of_ne h15;by_cases h16:k=16
  · subst h16
    have hfit:1≤(curX P1.g).stack.length:=by have h:=HW2.out;unfold zV at h;simpa using h
    have HWK:Hid (zQ p P1.g 16 a=putG (popG P1.g) (zR P1.g)):=by unfold Hid zQ;simp
    have HFIT:=eH hfit;have hLI:=(HO.out).lastI HT1.out hfit;generalize hlv:zR P1.g=u at *;have HLV:=eH hlv;clear hlv
    go_wp2_with (first
      | (go_at_call 183;(with_reducible refine(vI HO.out HT1.out HFIT.out).mono ?_);rintro e w5 ⟨rfl,t5⟩;rw [HLV.out];obtain⟨⟨P5,o5,g5,s5⟩,c5⟩:=t5;have HO5:=eH o5;have HG5:=eH g5;have hl5:P5.g.out.length<1000:=(by rw [g5];exact HOUT.out);clear o5 g5)
      | (go_at_call 188;(with_reducible refine(put_any HO5.out hl5 u hLI).mono ?_);rintro e w6 ⟨rfl,t6⟩;rw [HG5.out] at t6 ⊢))
    go_ret;obtain⟨e9,d9⟩:=kV HD2.out HWK.out C4.out BL4.out (Did.step c5 s5 t6);rw [e9];exact⟨rfl,d9⟩
  have T16:(k == 16)=false:=beq_false_of_ne h16;by_cases h3:k=3
  · subst h3
    have hfit:0≤a∧a<(curX P1.g).locals.length∧1≤(curX P1.g).stack.length:=by have h:=HW2.out;unfold zV at h;simpa using h
    obtain⟨an,han⟩:∃n:Nat,a=n:=⟨a.toNat,by omega⟩
    subst han;have hcx:=uS HS1.out HNW1.out;rw [hcx] at hfit;obtain⟨st,u,hst⟩:=jP x1.f.stack (by omega);have hlast:zR P1.g=u:=by unfold zR;rw [hcx,hst];exact yZ _ _ _ _ rfl
    have hui:I64 u:=by have:=(HO.out).lastI HT1.out (by rw [hcx];omega);rwa [hlast] at this
    have HST:=eH hst;obtain⟨g',o',cap',hv',_,_,_,⟨x1a,x1a'⟩,⟨x2,x2'⟩,_,hblg⟩:=(HO.out).spot HS1.out;rw [HYV1.out] at hv';simp only [Value.slice.injEq,Option.some.injEq,Addr.mk.injEq] at hv';obtain⟨⟨rfl,rfl,-⟩,-,rfl⟩:=hv';have hbxc:¬(zB y1.vf=some bx∨zB x1.vs=some bx):=by
      rintro (e | e)
      · exact HBX.out (List.mem_cons_of_mem _ ((HS1.out).bl (.inl e)))
      · exact HBX.out (List.mem_cons_of_mem _ ((HS1.out).bl (.inr (by unfold PFrame.bl;simp [e]))))
    have HBXC:=eH hbxc;clear hbxc;have hxl:an<x1.f.locals.length:=by omega
    have HWK:Hid (zQ p P1.g 3 an=(0,kT (popG P1.g) (L.length:Int) fun x=>{ x with locals:=x.locals.set an u })):=by unfold Hid zQ;rw [if_neg (by decide),if_neg (by decide),if_neg (by decide),if_pos rfl,Int.toNat_natCast,hlast,show P1.g.now=(L.length:Int) from HNW1.out]
    obtain⟨al9,cl9,ex,hcl,_⟩:=(((HO.out).fs y1 (by rw [(HS1.out).fs];simp)).fr x1 (by rw [(HS1.out).fr];simp)).l.shape;have hlr:=(((HO.out).fs y1 (by rw [(HS1.out).fs];simp)).fr x1 (by rw [(HS1.out).fr];simp)).l;rw [ex] at hlr;obtain⟨gl,ol,rfl,_,_⟩:=hlr.cell (by omega);rw [ex] at x2;have HEX:=eH ex;clear hlr ex hcl hcx hlast hst
    go_upto_region 15 with fail
    refine zX (fun w'=>w'.cell? ⟨g,o+F.length * 4+2,none⟩=some (.slice (some ⟨gl,ol,none⟩) x1.f.locals.length cl9)∧w'.cell? ⟨bx,1,none⟩=some (.int .i64 an))
      9 [0,1,2,3,4,5,6] [7,8,9] (by kernel_rfl) (by kernel_rfl) (fun _ _ _ _ _ h=>h) ⟨x2,hb1⟩ ?_
    (try simp only [zH,List.filterMap_cons,List.filterMap_nil,xO,xP])
    repeat (
      refine zN (by rfl) ?_;apply Exists.intro;refine⟨fun w' hw'=>?_,?_⟩
      focus
        (try dsimp only at hw')
        go_split_ands;go_simp
        (try with_reducible rfl)
      (try dsimp only [Act.put])
      (try simp only [xL,xM,xN]))
    refine zL ?_;refine zC ?_
    go_wp2_with (first
      | (go_at_call 183;(with_reducible refine(pull_at ((HO.out).ext (eR _).drew) HS1.out HNW1.out st u HST.out).mono ?_);rintro e w5 ⟨rfl,⟨v5,o5,hv5⟩,c5⟩))
    obtain⟨P5,y5,x5,HO5,HS5,HY5,HX5,HG5,BL5,C5⟩:∃P5 y5 x5,Hid (OwnS w5 B b P5)∧Hid (Spot P5 L y5 R F x5)∧Hid (y5.vf=.slice (some ⟨g,o,none⟩) (F++[x5]).length cap)∧Hid (x5.vl=x1.vl∧x5.f.locals=x1.f.locals)∧Hid (P5.g=popG P1.g∧P5.now=L.length)∧Hid (∀k∈P5.bl,k∈P1.bl∨w2.heap.size≤k)∧Hid (Chg (·∈b::P1.bl) w2 w5):=by
      refine⟨_,_,_,o5,⟨rfl,rfl⟩,?_,⟨rfl,rfl⟩,⟨(qC HS1.out HNW1.out ?_).symm,HNW1.out⟩,yO HS1.out (uP (.inl hv5)),(Chg.of_ext (eR _).drew).trans (uT HS1.out c5)⟩
      · have:=HYV1.out
        rw [List.length_append,List.length_singleton] at this ⊢;exact this
      · rw [HST.out];simp
    obtain⟨g',o',cap',hv',_,_,_,⟨z1,z1'⟩,⟨z2,z2'⟩,_,_⟩:=(HO5.out).spot HS5.out;rw [HY5.out] at hv';simp only [Value.slice.injEq,Option.some.injEq,Addr.mk.injEq] at hv';obtain⟨⟨rfl,rfl,-⟩,-,rfl⟩:=hv';have hb1':=Chg.cell c5 (b:=bx) (o:=1) HBXC.out (by simpa using hb1);clear o5 hv5 c5;rw [(HX5.out).1,HEX.out] at z2;have HEX5:Hid (x5.vl=.slice (some ⟨gl,ol,none⟩) x1.f.locals.length cl9):=by unfold Hid;rw [(HX5.out).1];exact HEX.out
    have hxl5:an<x5.f.locals.length:=by rw [(HX5.out).2];exact hxl
    have hlr5:=(((HO5.out).fs y5 (by rw [(HS5.out).fs];simp)).fr x5 (by rw [(HS5.out).fr];simp)).l;rw [HEX5.out,(HX5.out).2] at hlr5;obtain⟨gl',ol',e5,_,hcells⟩:=hlr5.cell (by omega);simp only [Option.some.injEq,Addr.mk.injEq] at e5;obtain⟨rfl,rfl,-⟩:=e5;obtain⟨q0,q0'⟩:=hcells an (by omega);rw [vL _ _ hxl] at q0;clear hcells hlr5;refine zD ⟨z2,hb1'⟩ ?_;refine zC ?_
    go_wp2_with fail
    refine zD ⟨z2,hb1'⟩ ?_;refine zC ?_
    go_wp2_with fail
    refine zS ?_
    go_wp2_with fail
    go_ret;obtain⟨e9,d9⟩:=kV HD2.out HWK.out C4.out BL4.out (Did.of (by
      obtain⟨k1,k2⟩:=(HO5.out).setLocal HS5.out HEX5.out an hxl5 u hui;refine Turn.step C5.out BL5.out ⟨⟨_,k1,?_,fun k hk=>.inl (zBh (x':=⟨{ x5.f with locals:=x5.f.locals.set an u },x5.vl,x5.vs⟩) HS5.out rfl k hk)⟩,k2⟩;rw [←(HG5.out).1];exact(qC HS5.out rfl rfl).symm))
    rw [e9];exact⟨rfl,d9⟩
  have T3:(k == 3)=false:=beq_false_of_ne h3;by_cases h10:k=10
  · subst h10
    have hfit:1≤(curX P1.g).stack.length:=by have h:=HW2.out;unfold zV at h;simpa using h
    have hcx:=uS HS1.out HNW1.out;rw [hcx] at hfit;obtain⟨st,u,hst⟩:=jP x1.f.stack (by omega);have hlast:zR P1.g=u:=by unfold zR;rw [hcx,hst];exact yZ _ _ _ _ rfl
    have hui:I64 u:=by have:=(HO.out).lastI HT1.out (by rw [hcx];omega);rwa [hlast] at this
    have HST:=eH hst;obtain⟨g',o',cap',hv',_,_,_,⟨x1a,x1a'⟩,⟨x2,x2'⟩,_,hblg⟩:=(HO.out).spot HS1.out;rw [HYV1.out] at hv';simp only [Value.slice.injEq,Option.some.injEq,Addr.mk.injEq] at hv';obtain⟨⟨rfl,rfl,-⟩,-,rfl⟩:=hv';have hbxc:¬(zB y1.vf=some bx∨zB x1.vs=some bx):=by
      rintro (e | e)
      · exact HBX.out (List.mem_cons_of_mem _ ((HS1.out).bl (.inl e)))
      · exact HBX.out (List.mem_cons_of_mem _ ((HS1.out).bl (.inr (by unfold PFrame.bl;simp [e]))))
    have HBXC:=eH hbxc;clear hbxc;clear hcx hst;by_cases hu0:u=0
    · have TU:(u == 0)=true:=by rw [hu0];rfl
      have HWK:Hid (zQ p P1.g 10 a=(0,zDm (popG P1.g) a)):=by unfold Hid zQ;simp [hlast,hu0]
      clear hlast hu0
      go_upto_region 20 with (first
        | (go_at_call 183;(with_reducible refine(pull_at HO.out HS1.out HNW1.out st u HST.out).mono ?_);rintro e w5 ⟨rfl,⟨v5,o5,hv5⟩,c5⟩))
      obtain⟨P5,y5,x5,HO5,HS5,HY5,HX5,HG5,BL5,C5⟩:∃P5 y5 x5,Hid (OwnS w5 B b P5)∧Hid (Spot P5 L y5 R F x5)∧Hid (y5.vf=.slice (some ⟨g,o,none⟩) (F++[x5]).length cap)∧Hid (x5.vl=x1.vl∧x5.f.locals=x1.f.locals)∧Hid (P5.g=popG P1.g∧P5.now=L.length)∧Hid (∀k∈P5.bl,k∈P1.bl∨w2.heap.size≤k)∧Hid (Chg (·∈b::P1.bl) w2 w5):=by
        refine⟨_,_,_,o5,⟨rfl,rfl⟩,?_,⟨rfl,rfl⟩,⟨(qC HS1.out HNW1.out ?_).symm,HNW1.out⟩,yO HS1.out (uP (.inl hv5)),uT HS1.out c5⟩
        · have:=HYV1.out
          rw [List.length_append,List.length_singleton] at this ⊢;exact this
        · rw [HST.out];simp
      obtain⟨g',o',cap',hv',_,_,_,⟨z1,z1'⟩,⟨z2,z2'⟩,_,_⟩:=(HO5.out).spot HS5.out;rw [HY5.out] at hv';simp only [Value.slice.injEq,Option.some.injEq,Addr.mk.injEq] at hv';obtain⟨⟨rfl,rfl,-⟩,-,rfl⟩:=hv';have hb1':=Chg.cell c5 (b:=bx) (o:=1) HBXC.out hb1;clear o5 hv5 c5
      go_wp2_with fail
      go_ret;obtain⟨e9,d9⟩:=kV HD2.out HWK.out C4.out BL4.out (Did.of (by
        obtain⟨k1,k2⟩:=(HO5.out).setAt HS5.out HY5.out a hq1;refine Turn.step C5.out BL5.out ⟨⟨_,k1,?_,fun k hk=>.inl (zBh (x':=⟨{ x5.f with at_:=a },x5.vl,x5.vs⟩) HS5.out rfl k hk)⟩,k2⟩;rw [←(HG5.out).1];exact(qC HS5.out (HG5.out).2 rfl).symm))
      rw [e9];exact⟨rfl,d9⟩
    · have TU:(u == 0)=false:=beq_false_of_ne hu0
      have HWK:Hid (zQ p P1.g 10 a=(0,popG P1.g)):=by unfold Hid zQ;simp [hlast,hu0]
      have HFIT:Hid (1≤(curX P1.g).stack.length):=by have h:=HW2.out;unfold zV at h;unfold Hid;simpa using h
      have HLAST:=eH hlast;clear hlast hu0
      go_wp2_with (first
        | (go_at_call 183;(with_reducible refine(vI HO.out HT1.out HFIT.out).mono ?_);rintro e w5 ⟨rfl,t5⟩;rw [HLAST.out]))
      go_ret;obtain⟨e9,d9⟩:=kV HD2.out HWK.out C4.out BL4.out (Did.of t5);rw [e9];exact⟨rfl,d9⟩
  have T10:(k == 10)=false:=beq_false_of_ne h10;by_cases h13:k=13
  · subst h13
    have hfit:zGd p a:=by have h:=HW2.out;unfold zV at h;simpa using h
    obtain⟨hm0,hm1,hm2,hm3⟩:=hfit;obtain⟨an,han⟩:∃n:Nat,a=n:=⟨a.toNat,by omega⟩
    subst han;have hanl:an<p.length:=by omega
    have hFF:zI p an=p[an]:=by unfold zI;simp [List.getD,List.getElem?_eq_getElem hanl]
    obtain⟨N,hN⟩:∃N:Nat,(zI p an).locals=N:=⟨(zI p an).locals.toNat,by omega⟩
    have hN9:N≤900:=by omega
    have HNF:Hid (p[an].locals=N):=by unfold Hid;rw [←hFF];exact hN
    have hfr:kY p an=⟨an,0,List.replicate N 0,[]⟩:=by unfold kY;rw [hN];rfl
    have hfl1:P1.g.fibers.length=P1.fs.length:=by unfold PState.g;simp
    have hf9:P1.fs.length≤900:=by
      rw [←hfl1,HG1.out];have:=(HF.out).1;unfold advG kT;rw [qK];exact this
    obtain⟨c10,-⟩:=(HO.out).c0;obtain⟨av,cv,ev,hcv1,hcv2⟩:=(HO.out).row.shape;rw [ev] at c10;by_cases h5:P1.fs.length=5
    · have T5:(((P1.fs.length:Nat):Int) == 5)=true:=by rw [h5];rfl
      have HWK:Hid (zQ p P1.g 13 an=(2,P1.g)):=by unfold Hid zQ zEo;simp [hfl1,h5]
      clear hfl1 h5 hN hfr hFF
      go_wp2_with fail
      go_ret;obtain⟨e9,d9⟩:=kV HD2.out HWK.out C4.out BL4.out (⟨Chg.refl _ _,fun h=>by cases h⟩);rw [e9];exact⟨rfl,d9⟩
    · have T5:(((P1.fs.length:Nat):Int) == 5)=false:=beq_false_of_ne (by omega)
      have HWK:Hid (zQ p P1.g 13 an=(0,{ kR P1.g (L.length:Int) P1.fs.length with fibers:=(kR P1.g (L.length:Int) P1.fs.length).fibers++[⟨[⟨an,0,List.replicate N 0,[]⟩],-1⟩] })):=by
        unfold Hid zQ zEo;simp only [hfl1,hfr,show P1.g.now=(L.length:Int) from HNW1.out];simp [h5]
      clear hfl1 h5 hN hfr hFF
      go_upto_region 28 with fail
      refine kW 10 (by kernel_rfl) (by kernel_rfl) ?_;simp only [List.take_succ_cons,List.take_zero,List.drop_succ_cons,List.drop_zero]
      repeat (first
        | go_big_quiet_skip
        | (go_big_quiet_want
           unfold Oper.quiet;apply Exists.intro;refine⟨fun w' hw'=>?_,?_⟩
           focus
             have hcq:=Ext.keep hw';go_simp
             first
               | with_reducible rfl
           (try dsimp only [Act.put])
           (try simp only [xL,xM,xN])
           go_big_quiet_on))
      refine wpQuiet_nil ?_;intro wq hq
      go_upto_region 29 with (first
        | (go_at_call 182;(with_reducible refine(zAs ((HO.out).ext (by ((repeat first|assumption|exact eR _|exact And.left (by assumption)|apply eA|apply eD|apply eN|refine eS ?_ (by simp<;>omega) _|refine eT ?_ (by assumption));done))) (L.length:Int) HTL.out HR1.out P1.fs.length (I64.nat (by omega))).mono ?_);rintro e w5 ⟨rfl,t5⟩))
      obtain⟨⟨P5,o5,g5,s5⟩,c5⟩:=Turn.pre (by ((repeat first|assumption|exact eR _|exact And.left (by assumption)|apply eA|apply eD|apply eN|refine eS ?_ (by simp<;>omega) _|refine eT ?_ (by assumption));done)) t5;obtain⟨a5,c5v,e5,hc5,hm5⟩:=o5.row.shape;obtain⟨k50,-⟩:=o5.c0;rw [e5] at k50;have hl5:P5.fs.length=P1.fs.length:=by
        have e1:P5.fs.length=P5.g.fibers.length:=by unfold PState.g;simp
        have e2:P1.fs.length=P1.g.fibers.length:=by unfold PState.g;simp
        rw [e1,e2,g5];unfold kR kT;rw [qK]
      have hb15:=Chg.cell c5 (b:=bx) (o:=1) HBX.out hb1;have hp5:zM w5 (·<B) (.slice (some ⟨bp,op,none⟩) p.length capp) p:=zM.stays (c5.stays (fun k hk hm=>by have:=(HO.out).ge k hm;omega)) HPL.out;obtain⟨_,_,_,ep,_,_,_,⟨_,hpL,_⟩,_⟩:=hp5.get hanl;simp only [Value.slice.injEq,Option.some.injEq,Addr.mk.injEq] at ep;obtain⟨⟨rfl,rfl,-⟩,-,rfl⟩:=ep;rw [HNF.out] at hpL;have HB5:Hid (B≤w5.heap.size):=Nat.le_trans o5.le (Nat.le_of_lt o5.c0.lt);have HO5:=eH o5;have HG5:=eH g5;have HS5:=eH s5;have HC5:=eH c5;have HE5:=eH e5;have HL5:=eH hl5;have hl59:P5.fs.length≤900:=by omega
      have HROW5:Hid (RowAt w5 B 2 (.slice a5 P5.fs.length c5v) P5.fs.length (P5.fs.flatMap kK)):=by unfold Hid;rw [←e5];exact o5.row
      have HNB5:Hid (¬zB (.slice a5 P5.fs.length c5v)=some b):=by unfold Hid;rw [←e5];exact fun e=>o5.dis.1 (PState.mem_vfs e)
      have HNX5:Hid (¬zB (.slice a5 P5.fs.length c5v)=some bx):=by unfold Hid;rw [←e5];exact fun e=>not_grown HBX.out s5 (Cx.lt HB1.out) (List.mem_cons_of_mem _ (PState.mem_vfs e))
      have HNP5:Hid (¬zB (.slice a5 P5.fs.length c5v)=some bp):=by
        unfold Hid;rw [←e5];intro e;have h1:=o5.ge bp (List.mem_cons_of_mem _ (PState.mem_vfs e));obtain⟨b7,o7,_,e7,_,_,⟨h7,_⟩,_⟩:=hp5.get hanl;simp only [Value.slice.injEq,Option.some.injEq,Addr.mk.injEq] at e7;rw [←e7.1.1] at h7;have:bp<B:=h7;omega
      clear o5 g5 s5 c5 e5 hp5 t5 hq hl5;rename World=>w5
      have HK50:=eH k50;have HB15:=eH hb15;have HPL5:=eH hpL;refine zX (fun w'=>w'.cell? ⟨b,0,none⟩=some (.slice a5 P5.fs.length c5v)∧w'.cell? ⟨bx,1,none⟩=some (.int .i64 an)∧w'.cell? ⟨bp,op+an * 3+1,none⟩=some (.int .i64 N))
        21 [0,1,2,3,4,5,6,7,8,9,10,11,12] [13,14,15,16,17,18,19,20,21] (by kernel_rfl) (by kernel_rfl) (fun _ _ _ _ _ h=>h) ⟨k50,hb15,hpL⟩ ?_
      (try simp only [zH,List.filterMap_cons,List.filterMap_nil,xO,xP])
      repeat (
        refine zN (by rfl) ?_;apply Exists.intro;refine⟨fun w' hw'=>?_,?_⟩
        focus
          (try dsimp only at hw')
          go_split_ands;go_simp
          (try with_reducible rfl)
        (try dsimp only [Act.put])
        (try simp only [xL,xM,xN]))
      refine zL ?_;refine zC ?_
      go_wp2_with (first
        | (at_make;refine wpList_make_full _ rfl _ _ 30 rfl w5.heap.size 3 i0 (.int .i64 0) 1 Tryz.underlying30 hi0 hz0 hz1 .i64 .i64 _ _ N rfl rfl rfl rfl (by rw [hz2];omega) (by unfold maxLen;omega) (by simp) ?_;intro w6 hown6 hgr6;have hE6:=(eR w5).drew.trans (uR hgr6);have hrow6:=IRow.made hown6))
      have HE6:=eH hE6;have hS6:w6.cell? ⟨b,0,none⟩=some (.slice a5 P5.fs.length c5v)∧w6.cell? ⟨bx,1,none⟩=some (.int .i64 an)∧w6.cell? ⟨bp,op+an * 3+1,none⟩=some (.int .i64 N):=⟨eC hE6 HK50.out,eC hE6 HB15.out,eC hE6 HPL5.out⟩
      have HS6:=eH hS6;clear hE6 hgr6 hown6 hS6 k50 hb15 hpL;refine zD HS6.out ?_;refine zC ?_
      go_wp2_with fail
      refine zD HS6.out ?_;refine zC ?_
      go_wp2_with fail
      have HS7:Hid ((w6.alloc (.cells #[.int .i64 an,.int .i64 0,.slice (some ⟨w5.heap.size,0,none⟩) N N,.slice none 0 0] 108)).cell? ⟨b,0,none⟩=some (.slice a5 P5.fs.length c5v)∧(w6.alloc (.cells #[.int .i64 an,.int .i64 0,.slice (some ⟨w5.heap.size,0,none⟩) N N,.slice none 0 0] 108)).cell? ⟨bx,1,none⟩=some (.int .i64 an)∧(w6.alloc (.cells #[.int .i64 an,.int .i64 0,.slice (some ⟨w5.heap.size,0,none⟩) N N,.slice none 0 0] 108)).cell? ⟨bp,op+an * 3+1,none⟩=some (.int .i64 N)) :=
        ⟨eC ((eR _).alloc _) (HS6.out).1,eC ((eR _).alloc _) (HS6.out).2.1,eC ((eR _).alloc _) (HS6.out).2.2⟩
      refine zD HS7.out ?_;refine zC ?_
      go_wp2_with fail
      refine zD HS7.out ?_;refine zC ?_
      go_wp2_with fail
      have HS8:=eH (cells3_ext (HS7.out) ((eR _).alloc (.cells #[.slice (some ⟨w6.heap.size,0,none⟩) 1 1,.int .i64 (-1)] 112)));have HS66:Hid ((w6.alloc (.cells #[.int .i64 an,.int .i64 0,.slice (some ⟨w5.heap.size,0,none⟩) N N,.slice none 0 0] 108)).heap.size=w6.heap.size+1):=Array.size_push _;refine zD HS8.out ?_;refine zC ?_
      go_wp2_with (first
        | (at_builtin;refine zE rfl _ _ 56 rfl B 112 i2 (.agg #[.slice none 0 0,.int .i64 0]) 2 32 Tryz.underlying56 hi2 hz6 hz7 hz8 rfl (by decide) _ _ _ rfl (by exact(HROW5.out.ext (((HE6.out).alloc _).alloc _) (by decide))) 1 _ (by rw [←HS66.out];exact vZ _ _ 2 rfl (by simp [Value.oneCell']) _) (by unfold maxLen;omega) (by omega) (by exact Nat.le_trans HB5.out (Ext.size (((HE6.out).alloc _).alloc _))) ?_;intro v1 Wv1 rv1;have RV:=eH rv1;obtain⟨a9,cap9,rfl,_,_⟩:=rv1.1.shape;clear rv1))
      have hRV:kO ((w6.alloc (.cells #[.int .i64 an,.int .i64 0,.slice (some ⟨w5.heap.size,0,none⟩) N N,.slice none 0 0] 108)).alloc (.cells #[.slice (some ⟨w6.heap.size,0,none⟩) 1 1,.int .i64 (-1)] 112)) Wv1 B 2 (.slice a5 P5.fs.length c5v) (.slice a9 (P5.fs.length+1) cap9) (P5.fs.length+1) (P5.fs.flatMap kK++[.slice (some ⟨w6.heap.size,0,none⟩) 1 1,.int .i64 (-1)]):=RV.out;have HRV:=eH hRV;have HS9:Hid (Wv1.cell? ⟨b,0,none⟩=some (.slice a5 P5.fs.length c5v)∧Wv1.cell? ⟨bx,1,none⟩=some (.int .i64 an)∧Wv1.cell? ⟨bp,op+an * 3+1,none⟩=some (.int .i64 N)) :=
        ⟨Chg.cell hRV.2.1 HNB5.out (HS8.out).1,Chg.cell hRV.2.1 HNX5.out (HS8.out).2.1,Chg.cell hRV.2.1 HNP5.out (HS8.out).2.2⟩
      have HCB9:Hid (Cx Wv1 b 0 (.slice a5 P5.fs.length c5v)):=by
        have h1:=(((HO5.out).c0.ext ((HE6.out).alloc (.cells #[.int .i64 an,.int .i64 0,.slice (some ⟨w5.heap.size,0,none⟩) N N,.slice none 0 0] 108))).ext ((eR _).alloc (.cells #[.slice (some ⟨w6.heap.size,0,none⟩) 1 1,.int .i64 (-1)] 112))).chg hRV.2.1 HNB5.out;rw [HE5.out] at h1;exact h1
      obtain⟨q9,q9'⟩:=HCB9.out;clear hRV;refine zD HS9.out ?_;refine zC ?_
      go_wp2_with fail
      refine zD HS9.out ?_;refine zC ?_
      go_wp2_with fail
      refine zD HS9.out ?_;refine zC ?_
      go_wp2_with fail
      refine zS ?_
      go_wp2_with fail
      go_ret;obtain⟨e9,d9⟩:=kV HD2.out HWK.out C4.out BL4.out (Did.of (by
        have hr6:RowAt w6 w5.heap.size 1 (.slice (some ⟨w5.heap.size,0,none⟩) N N) N (ints (List.replicate N 0)):=by have:=hrow6;unfold IRow at this;rwa [List.length_replicate] at this
        have h9:=add_fin (HO5.out) (HE6.out) hr6 108 112 (by rw [HE5.out];exact HRV.out) (I64.nat (n:=an) (by omega)) (by omega) (by omega);rw [HG5.out] at h9;exact Turn.step HC5.out HS5.out h9))
      rw [e9];exact⟨rfl,d9⟩
  have T13:(k == 13)=false:=beq_false_of_ne h13;have hfit:2≤(curX P1.g).stack.length:=by have h:=HW2.out;unfold zV at h;rwa [if_neg h0,if_neg h1,if_neg h2,if_neg h3,if_neg h9,if_neg h10,if_neg h11,if_neg h12,if_neg h13,if_neg h14,if_neg h15,if_neg h16] at h
  have HWK:Hid (zQ p P1.g k a=(0,kR (popG (popG P1.g)) (L.length:Int) (yP k (zR (popG P1.g)) (zR P1.g)))):=by
    unfold Hid zQ;rw [if_neg h0,if_neg h1,if_neg h2,if_neg h3,if_neg h9,if_neg h10,if_neg h11,if_neg h12,if_neg h13,if_neg h14,if_neg h15,if_neg h16,show P1.g.now=(L.length:Int) from HNW1.out]
  have HFIT:Hid (1≤(curX P1.g).stack.length):=by unfold Hid;omega
  have HFIT2:Hid (1≤(curX (popG P1.g)).stack.length):=by unfold Hid;rw [curX_pop P1.g HT1.out];show 1≤(curX P1.g).stack.dropLast.length;rw [List.length_dropLast];omega
  generalize hlv:zR P1.g=v1 at *;generalize hlv2:zR (popG P1.g)=v2 at *;have HLV:=eH hlv;have HLV2:=eH hlv2;have hri:I64 (yP k v2 v1):=zCw k v2 v1;obtain⟨rv,hrv⟩:∃rv,yP k v2 v1=rv:=⟨_,rfl⟩
  rw [hrv] at hri;have HRV:=eH hrv;clear h0 h1 h2 h3 h9 h10 h11 h12 h13 h14 h15 h16 hfit hlv hlv2 hrv
  go_upto_region 7 with (first
    | (go_at_call 183;(with_reducible refine(vI HO.out HT1.out HFIT.out).mono ?_);rintro e w5 ⟨rfl,t5⟩;rw [HLV.out];obtain⟨⟨P5,o5,g5,s5⟩,c5⟩:=t5;have HO5:=eH o5;have HG5:=eH g5;have HT5:Hid (zU P5.g P5.g.now):=(by unfold Hid;rw [g5];exact(HT1.out).pop);have HF5:Hid (1≤(curX P5.g).stack.length):=(by unfold Hid;rw [g5];exact HFIT2.out);have hnb5:bx ∉ b::P5.bl:=(not_grown HBX.out s5 (Cx.lt HB1.out));have HB05:=Chg.cell c5 (b:=bx) (o:=0) HBX.out hb0;have HN5:=eH hnb5;have HS5:=eH s5;have HC5:=eH c5;have hlt5:=c5.size;clear o5 g5 s5 c5 hnb5)
    | (go_at_call 183;(with_reducible refine(vI HO5.out HT5.out HF5.out).mono ?_);rintro e w6 ⟨rfl,t6⟩;rw [HG5.out,HLV2.out];obtain⟨⟨P6,o6,g6,s6⟩,c6⟩:=t6;have HB06:=Chg.cell c6 (b:=bx) (o:=0) HN5.out HB05;have HO6:=eH o6;have HG6:Hid (P6.g=popG (popG P1.g)):=(by unfold Hid;rw [g6,HG5.out]);have HS6:=eH s6;have HC6:=eH c6;clear o6 g6 s6 c6))
  have HN6:Hid (P6.now=L.length):=by have h:P6.g.now=P1.g.now:=(by rw [HG6.out];rfl);unfold Hid;rw [show P6.now=P6.g.now from rfl,h];exact HNW1.out
  have HT6:Hid (zU P6.g (L.length:Int)):=by unfold Hid;rw [HG6.out];exact(HTL.out).pop.pop
  have HR6:Hid (Room P6.g):=by unfold Hid;rw [HG6.out];exact(HR1.out).pop.pop
  obtain⟨c61,-⟩:=(HO6.out).c1;rw [HN6.out] at c61;refine kW 10 (by kernel_rfl) (by kernel_rfl) ?_;simp only [List.take_succ_cons,List.take_zero,List.drop_succ_cons,List.drop_zero]
  repeat (first
    | go_big_quiet_skip
    | (go_big_quiet_want
       unfold Oper.quiet;apply Exists.intro;refine⟨fun w' hw'=>?_,?_⟩
       focus
         have hcq:=Ext.keep hw';go_simp
         first
           | with_reducible rfl
           | (go_at_call 189;refine(reckoned_any k v2 v1 _).mono ?_;rintro e w7 ⟨rfl,rfl⟩;rw [HRV.out];exact⟨rfl,hw'⟩)
       (try dsimp only [Act.put])
       (try simp only [xL,xM,xN])
       go_big_quiet_on))
  refine wpQuiet_nil ?_;intro wq hq
  go_wp2_with (first
    | (go_at_call 182;(with_reducible refine(zAs ((HO6.out).ext (by ((repeat first|assumption|exact eR _|exact And.left (by assumption)|apply eA|apply eD|apply eN|refine eS ?_ (by simp<;>omega) _|refine eT ?_ (by assumption));done))) (L.length:Int) HT6.out HR6.out rv hri).mono ?_);rintro e w8 ⟨rfl,t8⟩))
  go_ret;have hw3:=HWK.out;rw [HRV.out,←HG6.out] at hw3;obtain⟨e9,d9⟩:=kV HD2.out hw3 C4.out BL4.out (Did.of (Turn.step HC5.out HS5.out (Turn.step HC6.out HS6.out (Turn.pre (by ((repeat first|assumption|exact eR _|exact And.left (by assumption)|apply eA|apply eD|apply eN|refine eS ?_ (by simp<;>omega) _|refine eT ?_ (by assumption));done)) t8))));rw [e9];exact⟨rfl,d9⟩
end Go.Proofs.YtpcjkfppacnkgaaGreatDoor
