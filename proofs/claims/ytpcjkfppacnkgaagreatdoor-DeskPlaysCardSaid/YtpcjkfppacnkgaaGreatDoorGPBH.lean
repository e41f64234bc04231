/- Contracts and plain facts. -/
import Derived.Test.YtpcjkfppacnkgaaGreatDoorGPBG
import Derived.Shelf.Strings.BuilderK
set_option maxHeartbeats 4000000
set_option maxRecDepth 100000
section
set_option linter.unusedSimpArgs false
namespace Go.Proofs.YtpcjkfppacnkgaaGreatDoor
open Go Go.RowKit
theorem wpAt_block {P:Program} {f:FuncId} {Q:Exit→Act→World→Prop} {a:Act} {w:World} {id:Nat} {c:Code} (h:Code.wpAt f P c (Exit.inBlock id Q) a w):Code.wpAt f P (Code.block id c) Q a w:=by
 intro b k cs hro hb;have h0:(lone (b.atR a (.code (.block id c)::k)) cs w).fenced P Fence.wide:=fenced_calm (n:=0) trivial (room_wide _) rfl;obtain⟨e,a₁,w₁,hq,harr⟩:=h b (.inBlock id::k) cs hro hb
 cases e with
 | normal=>exact⟨.normal,a₁,w₁,hq,.head h0 stepR_block (StepsIn.trans harr (.one (fenced_calm (n:=0) trivial (room_wide _) rfl) stepR_inBlock))⟩
 | exit id' =>
  by_cases hid:id'=id
  ·simp only [Exit.inBlock,hid,if_true] at hq;exact⟨.normal,a₁,w₁,hq,.head h0 stepR_block (harr.1 k (by simp [exitTo,hid]))⟩
  ·simp only [Exit.inBlock,hid,if_false] at hq;have this:(id == id')=false:=by simp;exact fun h=>hid h.symm
   have hx:exitTo id' (.inBlock id::k)=exitTo id' k:=by simp [exitTo,this]
   exact⟨.exit id',a₁,w₁,hq,fun k' hk=>.head h0 stepR_block (harr.1 k' (by rw [hx];exact hk)),
    fun hr' hk=>let ⟨k₁,h1,h2⟩:=harr.2 hr' (by rw [hx];exact hk);⟨k₁,h1,.head h0 stepR_block h2⟩⟩
 | goto l =>
  have hx:gotoIn l (.inBlock id::k)=gotoIn l k:=by simp [gotoIn]
  exact⟨_,a₁,w₁,hq,fun k' hk=>.head h0 stepR_block (harr.1 k' (by rw [hx];exact hk)),
   fun hr' hk=>let ⟨k₁,h1,h2⟩:=harr.2 hr' (by rw [hx];exact hk);⟨k₁,h1,.head h0 stepR_block h2⟩⟩
 | ret=>exact⟨_,a₁,w₁,hq,.of_steps (.one h0 stepR_block) harr⟩
 | panic ch=>exact⟨_,a₁,w₁,hq,.of_steps (.one h0 stepR_block) harr⟩
 | outgrown=>exact⟨_,a₁,w₁,hq,.of_steps (.one h0 stepR_block) harr⟩
theorem wpAt_rangeQ {P:Program} {f:FuncId} {Q:Exit→Act→World→Prop} {a:Act} {w:World} {α:Type} {g:Operand} {p0:Tmp} {assign body:Code} {gf:Nat} {lb:Array Value} {enc:α→Value} {ys:List α} {own:Nat→Prop} (q:Nat)
  (hf:∃fn,P.funcs[f]?=some fn) (hg:a.eval g=.func (.func gf) #[] lb) (eg:∀args w,(callFunc gf args).run P w=.ok (.enter gf args) w)
  (hit:IterT P gf lb enc ys own w) (hown:∀b,own b→b<w.heap.size)
  (I:List α→World→Prop) (Ip:List PanicEntry→World→Prop) (hI:∀ys W W',I ys W→Kc w.heap.size W W'→I ys W') (hIo:∀ys W b u,I ys W→own b→I ys (W.setCell ⟨b,0,none⟩ u)) (h0:I ys w)
  (hassign:∀(l:Nat) (x:α) (W:World) (K:Act→World→Prop),K { tmps:=(a.tmps.setIfInBounds p0 (enc x)).setIfInBounds q (enc x),defers:=[] } W→assign.wpIn (Fence.wide.inRound l) 0 P (Exit.then K (fun _ _ _=>False)) { tmps:=a.tmps.setIfInBounds p0 (enc x),defers:=[] } W)
  (hbody:∀(l:Nat) (x:α) (ys:List α) (W:World),I (x::ys) W→(∀b o v,W.cell? ⟨b,o,none⟩=some v→b≠l)→w.heap.size<l→l<W.heap.size→body.wpIn (Fence.wide.inRound l) 0 P (fun e a' W'=>match e with
   | .normal=>I ys W'∧(∀b v,own b→Cx W b 0 v→Cx W' b 0 v)∧(∀(k:Nat) (o:Obj),w.heap.size≤k→W.heap[k]?=some o→o.isCells=false→W'.heap[k]?=some o)
   | .panic c=>a'.defers=[]∧Ip c W'∧(∀(k:Nat) (o:Obj),w.heap.size≤k→W.heap[k]?=some o→o.isCells=false→W'.heap[k]?=some o)
   | _=>False) { tmps:=(a.tmps.setIfInBounds p0 (enc x)).setIfInBounds q (enc x),defers:=[] } W)
  (hdone:∀(D:Nat) (W:World),w.heap.size≤D→I [] W→W.heap[D]?=some (.deferred (some []))→Q .normal { a with defers:={ target:=.collected D,args:=#[] }::a.defers } W)
  (hpanic:∀(D:Nat) (c:List PanicEntry) (W:World),w.heap.size≤D→Ip c W→W.heap[D]?=some (.deferred (some []))→Q (.panic c) { a with defers:={ target:=.collected D,args:=#[] }::a.defers } W) :
  Code.wpAt f P (Code.rangeFunc g #[p0] assign body) Q a w :=
 wpAt_rangeT hf hg eg hit hown I Ip hI hIo h0 (fun x=>{ tmps:=(a.tmps.setIfInBounds p0 (enc x)).setIfInBounds q (enc x),defers:=[] }) hassign hbody hdone hpanic
theorem readRes (tmps:Array Value) (W:World) (bp be:Nat) (v r:Value) (h2:tmps.getD 2 undef=.pointer (some ⟨bp,0,none⟩)) (h3:tmps.getD 3 undef=.pointer (some ⟨be,0,none⟩)) (hp:W.cell? ⟨bp,0,none⟩=some v) (he:W.cell? ⟨be,0,none⟩=some r) :
  (results Tryz.f16 tmps).run Tryz.prog W=.ok (.tuple #[v,r]) W:=by
 have h2':tmps[2]?.getD undef=.pointer (some ⟨bp,0,none⟩):=by simpa using h2
 have h3':tmps[3]?.getD undef=.pointer (some ⟨be,0,none⟩):=by simpa using h3
 simp [results,Tryz.results16,go_sem,h2',h3',hp,he]
def dR (bp be:Nat):Deferred:={ target:=.fn (.func 46) #[.pointer (some ⟨bp,0,none⟩),.pointer (some ⟨be,0,none⟩)],args:=#[] }
theorem leaveR_ok (tmps:Array Value) (W:World) (bp be:Nat) (v r:Value) (R:Ending→World→Prop) (h2:tmps.getD 2 undef=.pointer (some ⟨bp,0,none⟩)) (h3:tmps.getD 3 undef=.pointer (some ⟨be,0,none⟩)) (hp:W.cell? ⟨bp,0,none⟩=some v) (he:W.cell? ⟨be,0,none⟩=some r)
  (hR:R (.returned (.tuple #[v,r])) W):LeavesInM Fence.wide 0 Tryz.prog Tryz.f16 tmps R [dR bp be] .returning W:=by
 refine⟨by simp,.inr ⟨fun e=>Bool.noConfusion e,_,_,46,#[.pointer (some ⟨bp,0,none⟩),.pointer (some ⟨be,0,none⟩)],rfl,by simp [dR,go_sem],fun _ _=>trivial,?_⟩⟩;refine(catchR_idle bp be W).mono ?_;rintro e u' w' ⟨rfl,rfl,rfl⟩;exact⟨_,readRes tmps W bp be v r h2 h3 hp he,hR⟩
theorem zDt (tmps:Array Value) (W:World) (bp be:Nat) (hne:bp≠be) (v r:Value) (R:Ending→World→Prop) (h2:tmps.getD 2 undef=.pointer (some ⟨bp,0,none⟩)) (h3:tmps.getD 3 undef=.pointer (some ⟨be,0,none⟩)) (hp:Cx W bp 0 v) (he:Cx W be 0 r)
  (hR:∀W',Chg (fun b=>b=bp∨b=be) W W'→R (.returned (.tuple #[.slice none 0 0,.int .i64 1])) W'):LeavesInM Fence.wide 0 Tryz.prog Tryz.f16 tmps R [dR bp be] (.panicking [brkE]) W:=by
 refine⟨by simp,.inr ⟨fun e=>Bool.noConfusion e,_,_,46,#[.pointer (some ⟨bp,0,none⟩),.pointer (some ⟨be,0,none⟩)],rfl,by simp [dR,go_sem],fun _ _=>trivial,?_⟩⟩;refine(catchR_panicking bp be hne v r [] W hp he).mono ?_;rintro e u' w' ⟨rfl,rfl,q1,q2,hc⟩;exact⟨_,readRes tmps w' bp be _ _ h2 h3 q1.1 q2.1,hR w' hc⟩
theorem zCf {tmps:Array Value} {W:World} {D:Nat} {R:Ending→World→Prop} {u:FrameMode} {ds:List Deferred} (hu:u≠.run) (hD:W.heap[D]?=some (.deferred (some []))) (h:∀W',Kc D W W'→LeavesInM Fence.wide 0 Tryz.prog Tryz.f16 tmps R ds u W') :
  LeavesInM Fence.wide 0 Tryz.prog Tryz.f16 tmps R ({ target:=.collected D,args:=#[] }::ds) u W:=by
 refine⟨hu,.inl ⟨D,_,rfl,run_takeDeferred hD,h _ (Kc.putObj _ hD rfl (Nat.le_refl _))⟩⟩
theorem PF.kc {Kp:Nat→Prop} {w w0 wx W:World} {B:Nat} {v:Value} {fs:List (GFunc × Value)} (h:PF Kp w w0 B v fs wx) (hk:Kc w0.heap.size wx W) (hw:w.heap.size≤w0.heap.size):PF Kp w w0 B v fs W :=
 ⟨h.inK,Nat.le_trans h.le hk.below.size,fun b hb=>(hk.below.block b (h.inK b hb)).trans (h.keep b hb),hk.ext h.ext hw,h.base,h.row.kc hk,h.off⟩
theorem PF.box {Kp:Nat→Prop} {w w0 wx:World} {B b:Nat} {v:Value} {fs:List (GFunc × Value)} (h:PF Kp w w0 B v fs wx) (hK:¬Kp b) (hb:∀g∈jV v fs,g≠b) (hw:w.heap.size≤b) (u:Value):PF Kp w w0 B v fs (wx.setCell ⟨b,0,none⟩ u) :=
 ⟨h.inK,Nat.le_trans h.le (zO wx b 0 u).size,fun k hk=>((zO wx b 0 u).block k (Nat.lt_of_lt_of_le (h.inK k hk) h.le) (fun e=>hK (e ▸ hk))).trans (h.keep k hk),Chg.ext_from h.ext (zO wx b 0 u) (fun k e=>by have e:k=b:=e;omega),h.base,h.row.chg (zO wx b 0 u) (fun g hg e=>hb g hg e),h.off⟩
theorem PRow.cells {w:World} {B:Nat} {v:Value} {fs:List (GFunc × Value)} (h:PRow w B v fs) {g:Nat} (hg:g∈jV v fs):∃o,w.heap[g]?=some o∧o.isCells=true:=by
 rcases List.mem_append.1 hg with h1 | h1
 ·obtain⟨o,u,hc⟩:=h.row.isCells (by decide) (b:=g) (by simpa using h1);exact cells_of_cell hc
 ·obtain⟨y,hy,h2⟩:=List.mem_flatMap.1 h1;obtain⟨o,u,hc⟩:=(h.fn y hy).2.2.1.isCells (by decide) (b:=g) (by simpa using h2);exact cells_of_cell hc
theorem PRow.low {w:World} {B B':Nat} {v:Value} {fs:List (GFunc × Value)} (h:PRow w B v fs) (hB:B'≤B):PRow w B' v fs :=
 ⟨h.row.mono hB,fun y hy=>⟨(h.fn y hy).1,(h.fn y hy).2.1,(h.fn y hy).2.2.1.mono hB,(h.fn y hy).2.2.2⟩,h.nodup,h.few⟩
def uV (wS w0:World) (bp bs:Nat) (R:Option (List GFunc)) (N:Nat) (ys:List By) (W:World):Prop :=
 ∃fs v,PF (fun b=>b<w0.heap.size∧b≠bp∧b≠bs) wS w0 w0.heap.size v fs W∧Cx W bp 0 v∧yF (fs.map Prod.fst) ys=R∧FewP (N - ys.length) fs∧ys.length≤N∧∀y∈ys,y.length≤8192
def ReadIp (wS:World) (bp be:Nat) (R:Option (List GFunc)) (c:List PanicEntry) (W:World):Prop:=c=[brkE]∧R=none∧(∃v,Cx W bp 0 v)∧(∃v,Cx W be 0 v)∧Ext wS W
theorem uV.kc {wS w0:World} {bp bs N:Nat} {R:Option (List GFunc)} {ys:List By} {W W':World} (hw:wS.heap.size≤w0.heap.size) (h:uV wS w0 bp bs R N ys W) (hk:Kc w0.heap.size W W'):uV wS w0 bp bs R N ys W':=by
 obtain⟨fs,v,h1,h2,h3⟩:=h;exact⟨fs,v,h1.kc hk hw,hk.cx h2,h3⟩
theorem uV.own {wS w0:World} {bp bs N:Nat} {R:Option (List GFunc)} {ys:List By} {W:World} (h:uV wS w0 bp bs R N ys W) (hbs:bs<w0.heap.size) (hsw:wS.heap.size≤bs) (hne:bp≠bs) (u:Value):uV wS w0 bp bs R N ys (W.setCell ⟨bs,0,none⟩ u):=by
 obtain⟨fs,v,h1,h2,h3⟩:=h;exact⟨fs,v,h1.box (fun e=>e.2.2 rfl) (fun g hg e=>by have:=(h1.row.ge g hg).1;omega) hsw u,h2.other (.inl hne) u,h3⟩
theorem Cx.of_block {W W':World} {b o:Nat} {v:Value} (h:Cx W b o v) (e:W'.heap[b]?=W.heap[b]?):Cx W' b o v:=⟨(World.cell?_of_block e).trans h.1,by rw [World.frozen?_of_block e];exact h.2⟩
def Kr (W:World) (bp:Nat) (v:Value) (fs:List (GFunc × Value)) (b:Nat):Prop:=b<W.heap.size∧b≠bp∧b ∉ jV v fs
theorem uV.begin {wS w0 W:World} {bp bs:Nat} {v:Value} {fs:List (GFunc × Value)} (h:PF (fun b=>b<w0.heap.size∧b≠bp∧b≠bs) wS w0 w0.heap.size v fs W):PF (Kr W bp v fs) wS W w0.heap.size v fs W :=
 PF.start (fun _ h=>h.1) h.ext h.base h.row (fun _ hg hk=>hk.2.2 hg)
theorem others_kept {wS w0 W W':World} {bp B':Nat} {v v':Value} {fs fs':List (GFunc × Value)} (hbp:bp<w0.heap.size) (hr:PRow W w0.heap.size v fs) (h':PF (Kr W bp v fs) wS W B' v' fs' W'):∀(k:Nat) (o:Obj),w0.heap.size≤k→W.heap[k]?=some o→o.isCells=false→W'.heap[k]?=some o:=fun k o hk ho hc=>by
 rw [h'.keep k ⟨(Array.getElem?_eq_some_iff.1 ho).1,by omega,fun hm=>by
  obtain⟨o2,h1,h2⟩:=hr.cells hm;rw [ho] at h1
  cases h1
  rw [hc] at h2
  cases h2⟩]
 exact ho
theorem uV.next {wS w0 W W':World} {bp bs N:Nat} {R:Option (List GFunc)} {ys:List By} {v v':Value} {fs fs':List (GFunc × Value)} (hbp:bp<w0.heap.size) (hbs:bs<w0.heap.size) (hne:bs≠bp) (h:PF (fun b=>b<w0.heap.size∧b≠bp∧b≠bs) wS w0 w0.heap.size v fs W)
  (h':PF (Kr W bp v fs) wS W w0.heap.size v' fs' W') (hcp:Cx W' bp 0 v') (hgo:yF (fs'.map Prod.fst) ys=R) (hfew:FewP (N - ys.length) fs') (hl:ys.length≤N) (hys:∀y∈ys,y.length≤8192) :
  uV wS w0 bp bs R N ys W'∧(∀b v,b=bs→Cx W b 0 v→Cx W' b 0 v)∧(∀(k:Nat) (o:Obj),w0.heap.size≤k→W.heap[k]?=some o→o.isCells=false→W'.heap[k]?=some o):=by
 have hge:∀g∈jV v fs,w0.heap.size≤g:=fun g hg=>(h.row.ge g hg).1
 have hle:=h.le;refine⟨⟨fs',v',h'.back h (fun b hb=>⟨by omega,hb.2.1,fun hm=>by have:=hge b hm;omega⟩),hcp,hgo,hfew,hl,hys⟩,fun b u hb hc=>?_,others_kept hbp h.row h'⟩;subst hb;exact hc.of_block (h'.keep b ⟨by omega,hne,fun hm=>by have:=hge b hm;omega⟩)
theorem uV.fail {wS w0 W W':World} {bp be bs:Nat} {R:Option (List GFunc)} {v v' u:Value} {fs fs':List (GFunc × Value)} {B':Nat} (hbp:bp<w0.heap.size) (hbe:be<w0.heap.size) (hne:be≠bp) (hns:be≠bs) (h:PF (fun b=>b<w0.heap.size∧b≠bp∧b≠bs) wS w0 w0.heap.size v fs W)
  (h':PF (Kr W bp v fs) wS W B' v' fs' W') (hcp:∃q,Cx W' bp 0 q) (hce:Cx w0 be 0 u) (hR:R=none) :
  ReadIp wS bp be R [brkE] W'∧(∀(k:Nat) (o:Obj),w0.heap.size≤k→W.heap[k]?=some o→o.isCells=false→W'.heap[k]?=some o):=by
 have hge:∀g∈jV v fs,w0.heap.size≤g:=fun g hg=>(h.row.ge g hg).1
 have hle:=h.le;refine⟨⟨rfl,hR,hcp,⟨u,?_⟩,h'.ext⟩,others_kept hbp h.row h'⟩;exact(hce.of_block (h.keep be ⟨hbe,hne,hns⟩)).of_block (h'.keep be ⟨by omega,hne,fun hm=>by have:=hge be hm;omega⟩)
def ReadRet (w:World) (s:By) (e:Ending) (w':World):Prop:=∃v fs,e=.returned (.tuple #[v,.int .i64 (vG s).1])∧PRow w' w.heap.size v fs∧fs.map Prod.fst=(vG s).2
end Go.Proofs.YtpcjkfppacnkgaaGreatDoor
end
section
namespace Go.Proofs.YtpcjkfppacnkgaaGreatDoor
open Go Go.RowKit Go.Shelf
attribute [local go_sem] Oper.semAt_some
theorem zFf:∀(s cur:By),(yH cur s).length≤s.length+1∧(∀y∈yH cur s,y.length≤cur.length+s.length)∧(cur=[]→(yH cur s).length≤s.length)
 | [],cur=>by
  rw [yH];split
  ·rename_i h;simp [h]
  ·rename_i h
   exact⟨by simp,by simp,fun e=>absurd e h⟩
 | b::s,cur=>by
  rw [yH];split
  ·obtain⟨h1,h2,h3⟩:=zFf s [];have h3:=h3 rfl;refine⟨by simp;omega,fun y hy=>?_,fun _=>by simp;omega⟩;rcases List.mem_cons.1 hy with rfl | hy
   ·simp
   ·have:=h2 y hy;simp at this ⊢;omega
  ·obtain⟨h1,h2,h3⟩:=zFf s (cur++[b]);refine⟨by simp;omega,fun y hy=>?_,fun _=>by simp;omega⟩;have:=h2 y hy;simp at this ⊢;omega
theorem zHa (s:By):(qE s).length≤s.length∧∀y∈qE s,y.length≤s.length:=by
 obtain⟨_,h2,h3⟩:=zFf s [];exact⟨h3 rfl,fun y hy=>by have:=h2 y hy;simpa using this⟩
theorem zEw (c:UInt8):∀(l cur:By),(kJ c cur l).length≤l.length+1
 | [],cur=>by simp [kJ]
 | b::l,cur=>by
  rw [kJ];split
  ·have:=zEw c l [];simp;omega
  ·have:=zEw c l (cur++[b]);simp;omega
theorem numsR_len {l:List By} {n:Nat} {L:List Int} (h:yJ l n=some L):L.length=n:=by
 unfold yJ at h
 split at h
 ·rename_i hl
  have:∀(l:List By) (L:List Int),l.mapM uI=some L→L.length=l.length:=fun l=>by
   induction l with
   | nil=>intro L h;cases h;rfl
   | cons a l ih =>
    intro L h;rw [List.mapM_cons] at h;obtain⟨u,_,h⟩:=Option.bind_eq_some_iff.1 h;obtain⟨M,hM,h⟩:=Option.bind_eq_some_iff.1 h
    cases h
    simp [ih M hM]
  rw [this l L h,hl]
 ·cases h
theorem strs_tail (W:World) (bw:Nat) (x0:By) (wt:List By) (hc:∀i (h:i<(x0::wt).length),W.cell? ⟨bw,i,none⟩=some (txtV (x0::wt)[i])) (hl:wt.length≤100000) :
  Strs W (fun _=>True) (.slice (some ⟨bw,1,none⟩) wt.length wt.length) wt:=by
 refine⟨_,wt.length,rfl,Nat.le_refl _,⟨by omega,by omega⟩,fun i hi=>⟨bw,1,rfl,trivial,?_⟩⟩;have:=hc (i+1) (by simp;omega);rw [Nat.mul_one,Nat.add_comm 1 i,this];rfl
theorem read_any (s:By) (w:World) (hg:Glob w) :
  Calls Tryz.prog 16 #[.string ⟨s.toArray⟩] w fun e w'=>ReadRet w s e w'∧Ext w w':=by
 obtain⟨X,hX⟩:∃X:ByteArray,(⟨s.toArray⟩:ByteArray)=X:=⟨_,rfl⟩
 have hN:X.size=s.length:=by rw [←hX];exact yN s
 have HX:=eH hX;obtain⟨i0,hi0,hz0,hz1,hz2⟩:=info_parts infoF;obtain⟨j0,hj0,hx0,hx1,hx2⟩:=info_parts infoO;rw [hX];clear hX;refine zGq Tryz.func16 rfl ?_;simp only [Tryz.ntmps16,List.size_toArray,List.length_cons,List.length_nil,Nat.reduceAdd,Nat.reduceSub,Array.replicate_succ,Array.replicate_zero,List.push_toArray,List.append_toArray,List.nil_append,List.cons_append];have RA:=zF;refine kQ ?_
 go_wp2_with fail
 have hsz:(w.alloc (.cells #[.slice none 0 0] 27)).heap.size=w.heap.size+1:=Array.size_push _;have a2:Ext (w.alloc (.cells #[.slice none 0 0] 27)) ((w.alloc (.cells #[.slice none 0 0] 27)).alloc (.cells #[.int .i64 0] 22)):=(eR _).alloc _;have CP:=eH ((Cx.new w [.slice none 0 0] 27 (j:=0) rfl).ext a2);have CE:=eH (Cx.new (w.alloc (.cells #[.slice none 0 0] 27)) [.int .i64 0] 22 (j:=0) rfl);rw [hsz] at CE;have HE1:=eH (((eR w).alloc (.cells #[.slice none 0 0] 27)).trans a2);have HS1:Hid (((w.alloc (.cells #[.slice none 0 0] 27)).alloc (.cells #[.int .i64 0] 22)).heap.size=w.heap.size+2):=by unfold Hid;rw [World.size_alloc,hsz]
 have HG:=eH (hg.ext HE1.out);have hg0:=eH hg;clear hsz a2 hg;obtain⟨bp,hbp⟩:∃bp,w.heap.size=bp:=⟨_,rfl⟩
 have HBP:=eH hbp;simp only [hbp] at CP CE HS1 ⊢;clear hbp;generalize (w.alloc (.cells #[.slice none 0 0] 27)).alloc (.cells #[.int .i64 0] 22)=w1 at *;have cp0:=CP.out.1;have cp1:=CP.out.2;have CE2:=eH (CE.out.other (b':=bp) (j':=0) (.inl (by omega)) (.slice none 0 0));have ce0:=CE.out.1;have ce1:=CE.out.2;have ce2:=CE2.out.1;have ce3:=CE2.out.2;by_cases h8:8192<s.length
 ·have HRT:Hid (vG s=(2,[])):=by unfold Hid vG;rw [if_pos h8]
  refine kQ ?_
  go_wp2_with fail
  refine⟨_,readRes _ _ bp (bp+1) (.slice none 0 0) (.int .i64 2) rfl rfl ((CP.out.set (.slice none 0 0)).other (b':=bp+1) (j':=0) (.inl (by omega)) _).1 (CE2.out.set _).1,⟨.slice none 0 0,[],by rw [HRT.out],PRow.nil _ _,by rw [HRT.out];rfl⟩,?_⟩;exact(HE1.out.setCell (p:=⟨bp,0,none⟩) (by rw [HBP.out];exact Nat.le_refl _) _).setCell (p:=⟨bp+1,0,none⟩) (by rw [HBP.out];exact Nat.le_succ _) _
 ·have hs8:s.length≤8192:=by omega
  have hmf:∀(fn:Fn) (first cap:Array Value) (w:World),(Instr.makeFunc fn first cap).run Tryz.prog w=.ok (.func fn first cap) w:=fun _ _ _ _=>rfl
  refine kQ ?_
  go_wp2_with fail
  refine kQ ?_
  go_wp2_with fail
  refine kQ ?_
  go_wp2_with (first
   | (go_at_call 37;(with_reducible refine(namesI_any _ HG.out).mono ?_);rintro e w2 ⟨vn,rfl,hvn,hb2⟩;have HVN:=eH hvn;have HB2:=eH hb2;obtain⟨an,cn,rfl,_,_⟩:=hvn))
  refine wpAt_seq ?_;refine kQ ?_
  go_wp2_with (first
   | (go_at_call 28;refine(linesIt_any _ _).mono ?_;rintro e w3 ⟨rfl,rfl⟩))
  have hsz:(w2.alloc (.cells #[.slice an kC.length cn] 79)).heap.size=w2.heap.size+1:=Array.size_push _;have a2:Ext (w2.alloc (.cells #[.slice an kC.length cn] 79)) ((w2.alloc (.cells #[.slice an kC.length cn] 79)).alloc (.cells #[.string X] 9)):=(eR _).alloc _;have CN:=eH ((Cx.new w2 [.slice an kC.length cn] 79 (j:=0) rfl).ext a2);have CS:=eH (Cx.new (w2.alloc (.cells #[.slice an kC.length cn] 79)) [.string X] 9 (j:=0) rfl);rw [hsz] at CS;have HX2:Hid (Ext w2 ((w2.alloc (.cells #[.slice an kC.length cn] 79)).alloc (.cells #[.string X] 9))):=((eR w2).alloc (.cells #[.slice an kC.length cn] 79)).trans a2;have HS2:Hid (((w2.alloc (.cells #[.slice an kC.length cn] 79)).alloc (.cells #[.string X] 9)).heap.size=w2.heap.size+2):=by unfold Hid;rw [World.size_alloc,hsz]
  have HSW:Hid (bp+2≤w2.heap.size):=by unfold Hid;rw [←HS1.out];exact HB2.out.size
  obtain⟨bn,hbn⟩:∃bn,w2.heap.size=bn:=⟨_,rfl⟩
  have HVB:Hid (Strs w2 (fun b=>bp+2≤b∧b<bn) (.slice an kC.length cn) kC):=HVN.out.stays fun b o v hb hc=>⟨hc,by have:=HS1.out;have:=zY hc;omega⟩
  simp only [hbn] at CN CS HS2 HSW ⊢;clear hbn hsz a2;generalize (w2.alloc (.cells #[.slice an kC.length cn] 79)).alloc (.cells #[.string X] 9)=w0 at *;have HB0:=eH (HB2.out.trans HX2.out);have HE0:=eH (HE1.out.trans HB0.out);have CP0:=eH (CP.out.ext HB0.out);have CE0:=eH (CE.out.ext HB0.out);have HVN0:=eH (HVB.out.stays (Ext.stays HX2.out));have HG0:=eH (HG.out.ext HB0.out);clear cp0 cp1 CE2 ce0 ce1 ce2 ce3 CP CE HVN HX2 HB2 HE1 HB0 HG HS1 h8 hmf hb2;obtain⟨R,hR⟩:∃R,readR s=R:=⟨_,rfl⟩
  have HR:=eH hR;have hlen:=zHa s;have CS0:Hid (Cx w0 (bn+1) 0 (txtV s)):=by unfold Hid txtV;rw [HX.out];exact CS.out
  refine wpAt_block ?_;refine wpAt_rangeQ (α:=By) 5 (gf:=69) (lb:=#[.pointer (some ⟨bn+1,0,none⟩)]) (enc:=txtV) (ys:=qE s) (own:=(·=bn+1)) ⟨_,Tryz.func16⟩ rfl (enters_of Tryz.func69 (by kernel_rfl) rfl)
   (lines_iter s (bn+1) w0 CS0.out (by omega)) (fun b hb=>by subst hb;rw [HS2.out];omega) (uV w w0 bp (bn+1) R (qE s).length) (ReadIp w bp (bp+1) R)
   (fun ys W W' h hk=>h.kc (by rw [HS2.out,HBP.out];have:=HSW.out;omega) hk) (fun ys W b u h hb=>by subst hb;exact h.own (by rw [HS2.out];omega) (by rw [HBP.out];have:=HSW.out;omega) (by have:=HSW.out;omega) u) ?h0 ?hassign ?hbody ?hdone ?hpanic
  case h0 =>
   have hsw:=HSW.out;refine⟨[],.slice none 0 0,PF.start (fun b hb=>hb.1) HE0.out (by rw [HS2.out,HBP.out];omega) (PRow.nil _ _) (by simp [jV,zB]),CP0.out,?_,⟨by simp,by simp⟩,Nat.le_refl _,fun y hy=>Nat.le_trans (hlen.2 y hy) hs8⟩;rw [←hR];rfl
  case hassign =>
   intro l x W K hK;simp only [xL,xM,xN] at hK ⊢
   gi_wp2_with fail
   exact hK
  case hbody =>
   intro l x ys W hI hln hlw hlt;simp only [xL,xM,xN];obtain⟨fs,v,hpf,hcp,hgo,hfew,hlen2,hys⟩:=hI;obtain⟨av,cv,rfl,_,_⟩:=hpf.row.row.shape;have hsw:=HSW.out;have hs2:=HS2.out;have hwb:=HBP.out;have hle0:=hpf.le;have HPF:=eH hpf;have HPR:=eH (uV.begin hpf);have HCP:=eH hcp;have HGO:=eH hgo;have HFEW:=eH hfew;have HYS:Hid (∀y∈ys,y.length≤8192):=fun y hy=>hys y (List.mem_cons_of_mem _ hy)
   have hxl:x.length≤8192:=hys x (List.mem_cons_self ..);have HGW:=eH (hg0.out.ext hpf.ext);have HVW:=eH (HVN0.out);have HCN:Hid (Cx W bn 0 (.slice an kC.length cn)):=CN.out.of_block (hpf.keep bn ⟨by omega,by omega,by omega⟩);have HLN:Hid (ys.length+1≤(qE s).length):=hlen2;have hNl:=hlen.1;have hfl:fs.length≤8192:=by have:=hfew.1;omega
   have HM:Hid (∀g,zB (.slice av fs.length cv)=some g→w0.heap.size≤g∧g<W.heap.size):=fun g e=>hpf.row.ge g (by rw [e];simp)
   clear hpf hcp hgo hfew hys hlen2 hlen hln hlw hlt;obtain⟨tr,htr⟩:∃tr,Lib.trimSuffix x [10]=tr:=⟨_,rfl⟩
   have HTR:∀W2,Hid (Calls Tryz.prog 31 #[.string ⟨x.toArray⟩,.string ⟨#[10]⟩] W2 fun e w'=>e=.returned (.string ⟨tr.toArray⟩)∧W2=w'):=fun W2=>by
    unfold Hid;rw [←htr];exact trim_any x W2 (by omega)
   have htl:tr.length≤8192:=by
    rw [←htr];unfold Lib.trimSuffix;split
    ·simp;omega
    ·exact hxl
   obtain⟨ws,hws⟩:∃ws,zT 32 tr=ws:=⟨_,rfl⟩
   have HWS:Hid (uJ x=ws):=by unfold Hid uJ;rw [htr,hws]
   obtain⟨cs,hcs⟩:∃cs,(ws.map txtV).toArray=cs:=⟨_,rfl⟩
   have HSP:∀W2,Glob W2→Hid (Calls Tryz.prog 47 #[.string ⟨tr.toArray⟩,.string ⟨#[32]⟩] W2 fun e w'=>e=.returned (.slice (some ⟨W2.heap.size,0,none⟩) ws.length ws.length)∧w'=W2.alloc (.cells cs 9)):=fun W2 hg2=>by
    unfold Hid;rw [←hcs,←hws];exact splitI_any tr W2 hg2 (by omega)
   have hw1:1≤ws.length:=by rw [←hws];exact zDj 32 tr []
   have HCSS:=eH hcs;have hwm:∀y∈ws,y.length≤8192:=fun y hy=>Nat.le_trans (yD (by rw [hws];exact hy)) htl
   have HWM:=eH hwm;have hwn:ws.length≤8193:=by rw [←hws];exact Nat.le_trans (zEw 32 tr []) (by omega)
   clear htr hws hwm hcs;obtain⟨x0,wt,rfl⟩:∃x0 wt,ws=x0::wt:=by
    cases ws with
    | nil=>exact absurd hw1 (by simp)
    | cons a b=>exact⟨a,b,rfl⟩
   have hwtl:wt.length≤8192:=by simp at hwn;omega
   gi_upto_region 8 with (first
    | (refine⟨trivial,rfl,?_⟩;gi_at_call 31;refine(qX (HTR _).out).mono ?_;rintro e w3 ⟨rfl,rfl⟩)
    | (refine⟨trivial,rfl,?_⟩;gi_at_call 47;refine(qX (HSP _ HGW.out).out).mono ?_;rintro e w3 ⟨rfl,rfl⟩))
   have HCW:Hid (∀i (h:i<(x0::wt).length),(W.alloc (.cells cs 9)).cell? ⟨W.heap.size,i,none⟩=some (txtV (x0::wt)[i])):=fun i hi=>by
    rw [World.cell?_alloc_new,←HCSS.out,List.getElem?_toArray,List.getElem?_map,List.getElem?_eq_getElem hi];rfl
   have HXA:=eH ((eR W).alloc (.cells cs 9));have x00:(W.alloc (.cells cs 9)).cell? ⟨W.heap.size,0,none⟩=some (.string ⟨x0.toArray⟩):=HCW.out 0 (by simp);obtain⟨bw,hbw⟩:∃bw,W.heap.size=bw:=⟨_,rfl⟩
   have HBW:=eH hbw;simp only [hbw] at HCW x00 ⊢;clear hbw;generalize W.alloc (.cells cs 9)=wa at *;by_cases hfn:x0=zBc
   ·have TF:(x0 == [102,117,110,99])=true:=by rw [hfn];rfl
    have HLN2:Hid (zFh (fs.map Prod.fst) x=(yJ wt 2).map fun n=>fs.map Prod.fst++[⟨n.getD 0 0,n.getD 1 0,[]⟩]):=by
     unfold Hid zFh;rw [HWS.out,List.headD_cons,if_pos hfn,List.tail_cons]
    clear hfn;have HTL:=eH (strs_tail wa bw x0 wt HCW.out (by omega));have HNU:∀W2,Ext wa W2→Hid (Calls Tryz.prog 48 #[.slice (some ⟨bw,1,none⟩) wt.length wt.length,.int .i64 2] W2 fun e w'=>zIi W2.heap.size (yJ wt 2) e w'∧Ext W2 w'):=fun W2 h2=>by
     unfold Hid;exact zHt wt _ _ 2 W2 (HGW.out.ext (HXA.out.trans h2)) (HTL.out.stays (Ext.stays h2)) (by omega) (fun y hy=>by have:=HWM.out y (List.mem_cons_of_mem _ hy);omega) (by decide)
    have HNZ:∀W2,Ext wa W2→Hid (wt.length=0→Calls Tryz.prog 48 #[.slice (some ⟨bw,0,none⟩) 0 0,.int .i64 2] W2 fun e w'=>zIi W2.heap.size (yJ wt 2) e w'∧Ext W2 w'):=fun W2 h2=>by
     unfold Hid;intro hz;obtain rfl:=List.eq_nil_of_length_eq_zero hz;exact zHt [] _ (fun _=>True) 2 W2 (HGW.out.ext (HXA.out.trans h2)) ⟨_,0,rfl,Nat.le_refl _,by simp,fun i hi=>absurd hi (by simp)⟩ (by simp) (by simp) (by decide)
    cases ho:yJ wt 2 with
    | none =>
     have HRN:Hid (R=none):=by
      unfold Hid;rw [←HGO.out,yF,HLN2.out,ho];rfl
     simp only [ho] at HNU HNZ;clear ho HLN2
     gi_wp2_with (first
      | (refine⟨trivial,rfl,?_⟩;gi_at_call 48;first | (with_reducible refine(qX (HNU _ (eR _)).out).mono ?_) | (with_reducible refine(qX ((HNZ _ (eR _)).out (by first | omega | rfl | simp [*]))).mono ?_)))
     all_goals
      rintro e w4 ⟨he,hb4⟩;obtain rfl:=he;exact⟨rfl,uV.fail (by omega) (by omega) (by omega) (by omega) HPF.out (HPR.out.more (HXA.out.trans hb4)) ⟨_,HCP.out.ext (HXA.out.trans hb4)⟩ CE0.out HRN.out⟩
    | some L =>
     have HLL:Hid (yJ wt 2=some L):=ho;have hL2:=numsR_len ho;have hw2:wt.length=2:=by
      unfold yJ at ho;by_cases e:wt.length=2
      ·exact e
      ·rw [if_neg e] at ho;cases ho
     obtain⟨n1,n2,rfl⟩:∃n1 n2,L=[n1,n2]:=by
      match L,hL2 with
      | [a,b],_=>exact⟨a,b,rfl⟩
     simp only [ho] at HNU;have hgo2:yF ((fs++[((⟨n1,n2,[]⟩:GFunc),Value.slice none 0 0)]).map Prod.fst) ys=R:=by
      rw [←HGO.out,yF,HLN2.out,ho,List.map_append];rfl
     have HGO2:=eH hgo2;clear ho HLN2 hL2 HNZ hgo2;rw [hw2] at HNU
     gi_upto_region 10 with (first
      | (refine⟨trivial,rfl,?_⟩;gi_at_call 48;(with_reducible refine(qX (HNU _ (eR _)).out).mono ?_);rintro e w4 ⟨⟨an4,cn4,rfl,hi4⟩,hb4⟩))
     obtain⟨gn,on4,cn5,e4,_,_,hgn,y0,i1⟩:=Sl.get hi4 (i:=0) (by simp);obtain⟨gn',on4',cn5',e5,_,_,_,y1,i2⟩:=Sl.get hi4 (i:=1) (by simp);simp only [Value.slice.injEq] at e4 e5;obtain⟨rfl,-,rfl⟩:=e4;simp only [Option.some.injEq,Addr.mk.injEq,and_true] at e5;obtain⟨⟨rfl,rfl⟩,-,-⟩:=e5;simp only [List.getElem_cons_zero,List.getElem_cons_succ,Nat.mul_one,Nat.add_zero] at y0 y1 i1 i2;have HXE:=eH (HXA.out.trans hb4);have HPN:=eH (HPR.out.more HXE.out);have HCN4:=eH (HCP.out.ext HXE.out);have z0:=HCN4.out.1;have z0':=HCN4.out.2;have hgW:W.heap.size≤gn:=Nat.le_trans HXA.out.size hgn;refine vQ (fun w'=>w'.cell? ⟨bp,0,none⟩=some (.slice av fs.length cv)∧w'.frozen? ⟨bp,0,none⟩=false∧w'.cell? ⟨gn,on4,none⟩=some (.int .i64 n1)∧w'.cell? ⟨gn,on4+1,none⟩=some (.int .i64 n2)) 10 [0,1,2,3,4,5,6,7] [8,9,10] (by kernel_rfl) (by kernel_rfl) (by kernel_rfl) (fun ⟨_,_,h⟩=>h) (fun _ _ _ _ _ h=>h) (by exact⟨z0,z0',y0,y1⟩) ?_
     (try simp only [zH,List.filterMap_cons,List.filterMap_nil,xO,xP])
     repeat (
      refine zN (by rfl) ?_;apply Exists.intro;refine⟨fun w' hw'=>?_,?_⟩
      focus
       (try dsimp only at hw')
       go_split_ands;go_simp
       (try with_reducible rfl)
      (try dsimp only [Act.put])
      (try simp only [xL,xM,xN]))
     refine zL ?_;refine zC ?_
     go_wp2_with fail
     have HE5:=eH ((eR w4).drew.alloc (.cells #[.int .i64 n1,.int .i64 n2,.slice none 0 0] 49));have HP5:=eH (HPN.out.more HE5.out);have HC5:=eH (HCN4.out.ext HE5.out);have y05:=eC HE5.out y0;have y15:=eC HE5.out y1;refine zD (by exact⟨HC5.out.1,HC5.out.2,y05,y15⟩) ?_;refine zC ?_
     go_wp2_with (first
      | (at_builtin;refine zE rfl _ _ 27 rfl w0.heap.size 49 i0 (.agg #[.int .i64 0,.int .i64 0,.slice none 0 0]) 3 40 Tryz.underlying27 hi0 hz0 hz1 hz2 rfl (by decide) _ _ _ rfl (by exact HP5.out.row.row) 1 (zCj (⟨n1,n2,[]⟩,.slice none 0 0)) (src_func _ ⟨n1,n2,[]⟩ none 0 0 _) (by unfold maxLen;omega) (by omega) (by exact Nat.le_trans hle0 HP5.out.le) ?_;intro v1 Wv1 rv1;have RV:=eH (HP5.out.push (eR _) rv1 i1 i2 (by omega));have RC:=eH rv1.2.1;obtain⟨a9,cap9,rfl,_,_⟩:=rv1.1.shape;clear rv1))
     have HC6:=eH (HC5.out.chg RC.out (fun e=>by have:=HM.out bp e;omega));have y06:=Chg.cell RC.out (fun e=>by have:=HM.out gn e;omega) y05;have y16:=Chg.cell RC.out (fun e=>by have:=HM.out gn e;omega) y15;have z06:=HC6.out.1;have z16:=HC6.out.2;refine zD (by exact⟨z06,z16,y06,y16⟩) ?_;refine zC ?_
     go_wp2_with fail
     refine zS ?_
     gi_wp2_with fail
     have hpb:=RV.out.box (b:=bp) (fun h=>h.2.1 rfl) (fun g hg e=>by have:=(RV.out.row.ge g hg).1;omega) (by omega) (.slice a9 (fs.length+1) cap9);have hfin:=uV.next (bp:=bp) (bs:=bn+1) (by omega) (by omega) (by omega) HPF.out hpb (HC6.out.set _) HGO2.out (by
      have e:(qE s).length - ys.length=((qE s).length - (x::ys).length)+1:=by have:=HLN.out;simp;omega
      rw [e];exact HFEW.out.push _ _ _) (by have:=HLN.out;omega) HYS.out
     rw [hs2] at hfin;exact hfin
   ·have TF:(x0 == [102,117,110,99])=false:=beq_eq_false_iff_ne.2 hfn;obtain⟨q,hq⟩:∃q,kC.idxOf x0=q:=⟨_,rfl⟩
    have HLN2:Hid (zFh (fs.map Prod.fst) x=if q<17∧0<fs.length then (if jG (q:Int) then (yJ wt 1).map fun n=>zCo (fs.map Prod.fst) ⟨(q:Int),n.getD 0 0⟩ else some (zCo (fs.map Prod.fst) ⟨(q:Int),0⟩)) else none):=by
     unfold Hid zFh;rw [HWS.out,List.headD_cons,if_neg hfn,List.tail_cons,hq,List.length_map]
    obtain⟨kd,hkd⟩:∃kd:Int,(if q<17 then (q:Int) else -1)=kd:=⟨_,rfl⟩
    have HKD:=eH hkd;have HNW:=eH (HVN0.out);have HIX:∀W2,Ext wa W2→Hid (Calls Tryz.prog 49 #[.slice an kC.length cn,.string ⟨x0.toArray⟩] W2 fun e w'=>e=.returned (.int .i64 kd)∧W2=w'):=fun W2 h2=>by
     unfold Hid;have hst:Strs W2 (fun _=>True) (.slice an kC.length cn) kC:=by
      exact HVN0.out.stays fun b o u hb hc=>⟨eC (HXA.out.trans h2) ((World.cell?_of_block (HPF.out.keep b ⟨by omega,by omega,by omega⟩)).trans hc),trivial⟩
     have:=index_any kC _ _ x0 W2 hst (by decide) (by decide);rw [hq] at this;rw [←hkd];exact this
    clear hfn hq hkd
    gi_upto_region 11 with fail
    have HNB:Hid (∀W2,Ext wa W2→W2.cell? ⟨bn,0,none⟩=some (.slice an kC.length cn)∧W2.cell? ⟨bw,0,none⟩=some (.string ⟨x0.toArray⟩)):=fun W2 h2=>⟨eC (HXA.out.trans h2) HCN.out.1,eC h2 x00⟩
    have HB8:Hid (Cx (wa.alloc (.cells #[.int .i64 kd,.int .i64 0] 51)).drew wa.heap.size 0 (.int .i64 kd)):=Cx.new wa [.int .i64 kd,.int .i64 0] 51 (j:=0) rfl;have HB9:Hid (Cx (wa.alloc (.cells #[.int .i64 kd,.int .i64 0] 51)).drew wa.heap.size 1 (.int .i64 0)):=Cx.new wa [.int .i64 kd,.int .i64 0] 51 (j:=1) rfl
    gi_cut [8] from 46 (fun q8 wr=>∃b8,q8=.pointer (some ⟨b8,0,none⟩)∧Ext wa wr∧wa.heap.size≤b8∧Cx wr b8 0 (.int .i64 kd)∧Cx wr b8 1 (.int .i64 0))
    case first =>
     refine wpIn_region_rw (fun w'=>w'.cell? ⟨bn,0,none⟩=some (.slice an kC.length cn)∧w'.cell? ⟨bw,0,none⟩=some (.string ⟨x0.toArray⟩)) 7 [0,1,2,3] 4 (by kernel_rfl) (by kernel_rfl) (by kernel_rfl) (fun ⟨_,_,h⟩=>h) (fun _ _ _ _ _ h=>h) (by exact HNB.out _ (eR _).drew) ?_
     (try simp only [zH,List.filterMap_cons,List.filterMap_nil,xO,xP])
     repeat (
      refine zN (by rfl) ?_;apply Exists.intro;refine⟨fun w' hw'=>?_,?_⟩
      focus
       (try dsimp only at hw')
       go_split_ands;go_simp
       (try with_reducible rfl)
      (try dsimp only [Act.put])
      (try simp only [xL,xM,xN]))
     refine zL ?_;refine yB 4 6 (by kernel_rfl) rfl rfl ?_ ?_
     ·go_wp2_with (first
       | (go_at_call 49;(with_reducible refine(HIX _ (by ((repeat first|assumption|exact eR _|exact And.left (by assumption)|apply eA|apply eD|apply eN|refine eS ?_ (by simp<;>omega) _|refine eT ?_ (by assumption));done))).out.mono ?_);rintro e w5 ⟨rfl,rfl⟩))
      refine zJ (HNB.out _ (by ((repeat first|assumption|exact eR _|exact And.left (by assumption)|apply eA|apply eD|apply eN|refine eS ?_ (by simp<;>omega) _|refine eT ?_ (by assumption));done))) ?_;refine yB 5 6 (by kernel_rfl) rfl rfl ?_ ?_
      ·go_wp2_with fail
       refine zJ (HNB.out _ (by ((repeat first|assumption|exact eR _|exact And.left (by assumption)|apply eA|apply eD|apply eN|refine eS ?_ (by simp<;>omega) _|refine eT ?_ (by assumption));done))) ?_;refine zG 6 (by kernel_rfl) rfl ?_
       go_wp2_with fail
       refine zJ (HNB.out _ (by ((repeat first|assumption|exact eR _|exact And.left (by assumption)|apply eA|apply eD|apply eN|refine eS ?_ (by simp<;>omega) _|refine eT ?_ (by assumption));done))) ?_;refine zG 7 (by kernel_rfl) rfl ?_
       go_wp2_with fail
       refine qM rfl (by kernel_rfl) ?_
       gi_wp2_with fail
       gi_meet
       exact⟨_,rfl,((eR wa).alloc _).drew,Nat.le_refl _,HB8.out,HB9.out⟩
      ·go_wp2_with fail
       refine zJ (HNB.out _ (by ((repeat first|assumption|exact eR _|exact And.left (by assumption)|apply eA|apply eD|apply eN|refine eS ?_ (by simp<;>omega) _|refine eT ?_ (by assumption));done))) ?_;refine zG 5 (by kernel_rfl) rfl ?_
       go_wp2_with fail
       refine zJ (HNB.out _ (by ((repeat first|assumption|exact eR _|exact And.left (by assumption)|apply eA|apply eD|apply eN|refine eS ?_ (by simp<;>omega) _|refine eT ?_ (by assumption));done))) ?_;refine zG 7 (by kernel_rfl) rfl ?_
       go_wp2_with fail
       refine qM rfl (by kernel_rfl) ?_
       gi_wp2_with fail
       gi_meet
       exact⟨_,rfl,((eR wa).alloc _).drew,Nat.le_refl _,HB8.out,HB9.out⟩
     ·go_wp2_with fail
      refine zJ (HNB.out _ (by ((repeat first|assumption|exact eR _|exact And.left (by assumption)|apply eA|apply eD|apply eN|refine eS ?_ (by simp<;>omega) _|refine eT ?_ (by assumption));done))) ?_;refine zG 4 (by kernel_rfl) rfl ?_
      go_wp2_with (first
       | (go_at_call 49;(with_reducible refine(HIX _ (by ((repeat first|assumption|exact eR _|exact And.left (by assumption)|apply eA|apply eD|apply eN|refine eS ?_ (by simp<;>omega) _|refine eT ?_ (by assumption));done))).out.mono ?_);rintro e w5 ⟨rfl,rfl⟩))
      refine zJ (HNB.out _ (by ((repeat first|assumption|exact eR _|exact And.left (by assumption)|apply eA|apply eD|apply eN|refine eS ?_ (by simp<;>omega) _|refine eT ?_ (by assumption));done))) ?_;refine zG 5 (by kernel_rfl) rfl ?_
      go_wp2_with fail
      refine zJ (HNB.out _ (by ((repeat first|assumption|exact eR _|exact And.left (by assumption)|apply eA|apply eD|apply eN|refine eS ?_ (by simp<;>omega) _|refine eT ?_ (by assumption));done))) ?_;refine zG 7 (by kernel_rfl) rfl ?_
      go_wp2_with fail
      refine qM rfl (by kernel_rfl) ?_
      gi_wp2_with fail
      gi_meet
      exact⟨_,rfl,((eR wa).alloc _).drew,Nat.le_refl _,HB8.out,HB9.out⟩
    case rest =>
     obtain⟨b8,rfl,hxc,hb8,cK,cA⟩:=hcut;have HXC:=eH (HXA.out.trans hxc);have HXW:=eH hxc;have HCPc:=eH (HCP.out.ext HXC.out);have z0:=HCPc.out.1;have HCA:=eH cA;have HCK:=eH cK;have k0:=cK.1;have k1:=cA.1;have k2:=cA.2;clear cA cK hxc HNB HB8 HB9 HIX x00;by_cases hqf:q<17∧0<fs.length
     ·obtain⟨hq17,hf0⟩:=hqf;have hk:kd=(q:Int):=by rw [←HKD.out,if_pos hq17]
      subst hk;have HLN3:Hid (zFh (fs.map Prod.fst) x=if jG (q:Int) then (yJ wt 1).map fun n=>zCo (fs.map Prod.fst) ⟨(q:Int),n.getD 0 0⟩ else some (zCo (fs.map Prod.fst) ⟨(q:Int),0⟩)):=by unfold Hid;rw [HLN2.out,if_pos ⟨hq17,hf0⟩]
      obtain⟨L,y,rfl⟩:∃L y,fs=L++[y]:=⟨fs.dropLast,fs.getLast (fun e=>by rw [e] at hf0;exact absurd hf0 (by simp)),(List.dropLast_concat_getLast _).symm⟩
      obtain⟨f,u0⟩:=y;obtain⟨g,o2,rfl,hg0,_⟩:=HPF.out.row.row.cell hf0;have hsh:∃a8 c8,u0=.slice a8 f.code.length c8:=by
       obtain⟨a,c,e,_⟩:=(HPF.out.row.fn (f,u0) (by simp)).2.2.1.shape;exact⟨a,c,e⟩
      obtain⟨a8,c8,rfl⟩:=hsh;have hlen2:(L++[(f,Value.slice a8 f.code.length c8)]).length=L.length+1:=by simp
      have HM2:Hid (∀k,zB (.slice a8 f.code.length c8)=some k→w0.heap.size≤k∧k<W.heap.size):=fun k e=>HPF.out.row.ge k (by rw [List.flatMap_append];simp [e])
      have hgb:w0.heap.size≤g:=hg0;have hfc:=HFEW.out.2 (f,.slice a8 f.code.length c8) (by simp);simp only at hfc;have hf9:f.code.length≤9000:=by omega
      have hxs:=HXA.out.size
      cases htb:jG (q:Int) with
      | false =>
       have HTB:=eH htb;have HFIN:Hid (yF (zCo ((L++[(f,Value.slice a8 f.code.length c8)]).map Prod.fst) ⟨(q:Int),0⟩) ys=R):=by
        unfold Hid;rw [←HGO.out,yF,HLN3.out,htb];rfl
       clear htb
       gi_upto_region 15 with (first
        | (refine⟨trivial,rfl,?_⟩;gi_at_call 50;refine(qX (jL _ _)).mono ?_;rintro e w5 ⟨rfl,rfl⟩;rw [zAe])
        | (refine⟨trivial,rfl,?_⟩;gi_at_call 39;refine(qX (zEu _ _)).mono ?_;rintro e w5 ⟨rfl,hb5⟩;rw [HTB.out]))
       have HXZ:=eH (HXC.out.trans hb5);have HKZ:=eH (HCK.out.ext hb5);have HAZ:=eH (HCA.out.ext hb5);have iQA:I64 (q:Int)∧I64 (0:Int):=by unfold I64;omega
       clear z0 k0 k1 k2 hb5;rename World=>wz
       have HPZ:=eH (by have h:=HPR.out.more HXZ.out;rw [hlen2] at h;exact h:PF (Kr W bp (.slice (some ⟨g,o2,none⟩) (L.length+1) cv) (L++[(f,Value.slice a8 f.code.length c8)])) w W w0.heap.size (.slice (some ⟨g,o2,none⟩) (L.length+1) cv) (L++[(f,Value.slice a8 f.code.length c8)]) wz);have HCZ:Hid (Cx wz bp 0 (.slice (some ⟨g,o2,none⟩) (L.length+1) cv)):=by unfold Hid;rw [←hlen2];exact HCP.out.ext HXZ.out
       have z0:=HCZ.out.1
       gi_upto_region 16 with fail
       obtain⟨hcl,hfz⟩:=HPZ.out.row.last;simp only at hcl;have hm0:=HM2.out;refine vQ (fun w'=>w'.cell? ⟨g,o2+L.length * 3+2,none⟩=some (.slice a8 f.code.length c8)∧w'.frozen? ⟨g,o2+L.length * 3+2,none⟩=false∧w'.cell? ⟨b8,0,none⟩=some (.int .i64 (q:Int))∧w'.cell? ⟨b8,1,none⟩=some (.int .i64 (0:Int))) 10 [0,1,2,3,4,5] [6,7,8,9,10] (by kernel_rfl) (by kernel_rfl) (by kernel_rfl) (fun ⟨_,_,h⟩=>h) (fun _ _ _ _ _ h=>h) (by exact⟨hcl,hfz,HKZ.out.1,HAZ.out.1⟩) ?_
       (try simp only [zH,List.filterMap_cons,List.filterMap_nil,xO,xP])
       repeat (
        refine zN (by rfl) ?_;apply Exists.intro;refine⟨fun w' hw'=>?_,?_⟩
        focus
         (try dsimp only at hw')
         go_split_ands;go_simp
         (try with_reducible rfl)
        (try dsimp only [Act.put])
        (try simp only [xL,xM,xN]))
       refine zL ?_;refine zC ?_
       go_wp2_with fail
       have HE5:=eH ((eR wz).drew.alloc (.cells #[.int .i64 (q:Int),.int .i64 (0:Int)] 51));have HRO:Hid (RowAt _ w0.heap.size 2 (.slice a8 f.code.length c8) f.code.length (f.code.flatMap opF)):=eH ((HPZ.out.row.fn (f,.slice a8 f.code.length c8) (by simp)).2.2.1.ext HE5.out (by decide));refine zD (by exact⟨eC HE5.out hcl,(Ext.froz HE5.out hcl).trans hfz,eC HE5.out HKZ.out.1,eC HE5.out HAZ.out.1⟩) ?_;refine zC ?_
       go_wp2_with (first
        | (at_builtin;refine zE rfl _ _ 47 rfl w0.heap.size 51 j0 (.agg #[.int .i64 0,.int .i64 0]) 2 16 Tryz.underlying47 hj0 hx0 hx1 hx2 rfl (by decide) _ _ _ rfl (by exact HRO.out) 1 (opF ⟨(q:Int),(0:Int)⟩) (src_op _ ⟨(q:Int),(0:Int)⟩ _) (by unfold maxLen;omega) (by omega) (by exact Nat.le_trans hle0 (Nat.le_trans HPZ.out.le HE5.out.size)) ?_;intro v1 Wv2 rv1;have RV:=eH rv1;have RK:=eH (HPZ.out.op_keeps HE5.out rv1);obtain⟨a9,cap9,rfl,_,_⟩:=rv1.1.shape;clear rv1))
       have hcl':Wv2.cell? ⟨g,o2+L.length * 3+2,none⟩=some (.slice a8 f.code.length c8):=(World.cell?_of_block RK.out.2).trans hcl;have hfz':Wv2.frozen? ⟨g,o2+L.length * 3+2,none⟩=false:=(World.frozen?_of_block RK.out.2).trans hfz;have hk0':=Chg.cell RV.out.2.1 (fun e=>by have:=hm0 b8 e;omega) (eC HE5.out HKZ.out.1);have hk1':=Chg.cell RV.out.2.1 (fun e=>by have:=hm0 b8 e;omega) (eC HE5.out HAZ.out.1);have HCZ2:=eH ((HCZ.out.ext HE5.out).chg RV.out.2.1 (fun e=>by have:=hm0 bp e;omega));have HPY:=eH (HPZ.out.op (x:=⟨(q:Int),(0:Int)⟩) HE5.out RV.out iQA (show f.code.length<10000 by omega));refine zD (by exact⟨hcl',hfz',hk0',hk1'⟩) ?_;refine zC ?_
       go_wp2_with fail
       refine zD (by exact⟨hcl',hfz',hk0',hk1'⟩) ?_;refine zC ?_
       go_wp2_with fail
       refine zD (by exact⟨hcl',hfz',hk0',hk1'⟩) ?_;refine zC ?_
       go_wp2_with fail
       refine zS ?_
       gi_wp2_with fail
       have hpf2:=HPF.out;rw [hlen2] at hpf2;have hfin:=uV.next (bp:=bp) (bs:=bn+1) (N:=(qE s).length) (R:=R) (by omega) (by omega) (by omega) hpf2 HPY.out (HCZ2.out.other (b':=g) (j':=o2+L.length * 3+2) (.inl (by omega)) _) (by rw [←zHf L (f,.slice a8 f.code.length c8) ⟨(q:Int),(0:Int)⟩];exact HFIN.out) (by
        have e:(qE s).length - ys.length=((qE s).length - (x::ys).length)+1:=by have:=HLN.out;simp;omega
        rw [e];exact HFEW.out.op _ _) (by have:=HLN.out;omega) HYS.out
       rw [hs2] at hfin;exact hfin
      | true =>
       have HTB:=eH htb;have HLN4:Hid (zFh ((L++[(f,Value.slice a8 f.code.length c8)]).map Prod.fst) x=(yJ wt 1).map fun n=>zCo ((L++[(f,Value.slice a8 f.code.length c8)]).map Prod.fst) ⟨(q:Int),n.getD 0 0⟩):=by unfold Hid;rw [HLN3.out,htb,if_pos rfl]
       have HTL:=eH (strs_tail wa bw x0 wt HCW.out (by omega));have HNU:∀W2,Ext wa W2→Hid (Calls Tryz.prog 48 #[.slice (some ⟨bw,1,none⟩) wt.length wt.length,.int .i64 1] W2 fun e w'=>zIi W2.heap.size (yJ wt 1) e w'∧Ext W2 w'):=fun W2 h2=>by
        unfold Hid;exact zHt wt _ _ 1 W2 (HGW.out.ext (HXA.out.trans h2)) (HTL.out.stays (Ext.stays h2)) (by omega) (fun y hy=>by have:=HWM.out y (List.mem_cons_of_mem _ hy);omega) (by decide)
       have HNZ:∀W2,Ext wa W2→Hid (wt.length=0→Calls Tryz.prog 48 #[.slice (some ⟨bw,0,none⟩) 0 0,.int .i64 1] W2 fun e w'=>zIi W2.heap.size (yJ wt 1) e w'∧Ext W2 w'):=fun W2 h2=>by
        unfold Hid;intro hz;obtain rfl:=List.eq_nil_of_length_eq_zero hz;exact zHt [] _ (fun _=>True) 1 W2 (HGW.out.ext (HXA.out.trans h2)) ⟨_,0,rfl,Nat.le_refl _,by simp,fun i hi=>absurd hi (by simp)⟩ (by simp) (by simp) (by decide)
       clear htb
       cases ho:yJ wt 1 with
       | none =>
        have HRN:Hid (R=none):=by
         unfold Hid;rw [←HGO.out,yF,HLN4.out,ho];rfl
        simp only [ho] at HNU HNZ;clear ho
        gi_wp2_with (first
         | (refine⟨trivial,rfl,?_⟩;gi_at_call 50;refine(qX (jL _ _)).mono ?_;rintro e w5 ⟨rfl,rfl⟩;rw [zAe])
         | (refine⟨trivial,rfl,?_⟩;gi_at_call 39;refine(qX (zEu _ _)).mono ?_;rintro e w5 ⟨rfl,hb5⟩;rw [HTB.out];have HX5:=eH (HXW.out.trans hb5))
         | (refine⟨trivial,rfl,?_⟩;gi_at_call 48;first | (with_reducible refine(qX (HNU _ HX5.out).out).mono ?_) | (with_reducible refine(qX ((HNZ _ HX5.out).out (by first | omega | rfl | simp [*]))).mono ?_)))
        all_goals
         rintro e w6 ⟨he,hb6⟩;obtain rfl:=he;have HXZ:=(HXC.out.trans hb5).trans hb6;have hf:=uV.fail (bp:=bp) (be:=bp+1) (bs:=bn+1) (by omega) (by omega) (by omega) (by omega) HPF.out (HPR.out.more HXZ) ⟨_,HCP.out.ext HXZ⟩ CE0.out HRN.out;exact⟨rfl,hf⟩
       | some M =>
        have hM1:=numsR_len ho;have hw1':wt.length=1:=by
         unfold yJ at ho;by_cases e:wt.length=1
         ·exact e
         ·rw [if_neg e] at ho;cases ho
        obtain⟨n1,rfl⟩:∃n1,M=[n1]:=by
         match M,hM1 with
         | [a],_=>exact⟨a,rfl⟩
        simp only [ho] at HNU;have HFIN:Hid (yF (zCo ((L++[(f,Value.slice a8 f.code.length c8)]).map Prod.fst) ⟨(q:Int),n1⟩) ys=R):=by
         unfold Hid;rw [←HGO.out,yF,HLN4.out,ho];rfl
        clear ho HNZ hM1;rw [hw1'] at HNU
        gi_upto_region 14 with (first
         | (refine⟨trivial,rfl,?_⟩;gi_at_call 50;refine(qX (jL _ _)).mono ?_;rintro e w5 ⟨rfl,rfl⟩;rw [zAe])
         | (refine⟨trivial,rfl,?_⟩;gi_at_call 39;refine(qX (zEu _ _)).mono ?_;rintro e w5 ⟨rfl,hb5⟩;rw [HTB.out];have HX5:=eH (HXW.out.trans hb5)))
        have HK5:=eH (HCK.out.ext hb5);have HA5:=eH (HCA.out.ext hb5)
        gi_upto_region 15 with (first
         | (refine⟨trivial,rfl,?_⟩;gi_at_call 48;(with_reducible refine(qX (HNU _ HX5.out).out).mono ?_);rintro e w6 ⟨⟨an6,cn6,rfl,hi6⟩,hb6⟩;obtain⟨gn,on6,cn5,e4,_,_,hgn,y0,i1⟩:=Sl.get hi6 (i:=0) (by simp);simp only [Value.slice.injEq] at e4;obtain⟨rfl,-,rfl⟩:=e4;simp only [List.getElem_cons_zero,Nat.zero_mul,Nat.add_zero] at y0 i1;have ka:=(HA5.out.ext hb6).1;have kb:=(HA5.out.ext hb6).2))
        have hx6:Ext W (w6.setCell ⟨b8,1,none⟩ (.int .i64 n1)):=((HXC.out.trans hb5).trans hb6).setCell (p:=⟨b8,1,none⟩) (Nat.le_trans hxs hb8) _;have hk6:Cx (w6.setCell ⟨b8,1,none⟩ (.int .i64 n1)) b8 0 (.int .i64 (q:Int)):=(HK5.out.ext hb6).other (.inr (by decide)) _;have ha6:Cx (w6.setCell ⟨b8,1,none⟩ (.int .i64 n1)) b8 1 (.int .i64 n1):=(HA5.out.ext hb6).set _;have HXZ:=eH hx6;have HKZ:=eH hk6;have HAZ:=eH ha6;have iQA:I64 (q:Int)∧I64 n1:=⟨by unfold I64;omega,i1⟩
        clear hx6 hk6 ha6 ka kb y0 z0 k0 k1 k2 hgn hi6 HNU hw1';generalize w6.setCell ⟨b8,1,none⟩ (.int .i64 n1)=wz at *;have HPZ:=eH (by have h:=HPR.out.more HXZ.out;rw [hlen2] at h;exact h:PF (Kr W bp (.slice (some ⟨g,o2,none⟩) (L.length+1) cv) (L++[(f,Value.slice a8 f.code.length c8)])) w W w0.heap.size (.slice (some ⟨g,o2,none⟩) (L.length+1) cv) (L++[(f,Value.slice a8 f.code.length c8)]) wz);have HCZ:Hid (Cx wz bp 0 (.slice (some ⟨g,o2,none⟩) (L.length+1) cv)):=by unfold Hid;rw [←hlen2];exact HCP.out.ext HXZ.out
        have z0:=HCZ.out.1
        gi_upto_region 16 with fail
        obtain⟨hcl,hfz⟩:=HPZ.out.row.last;simp only at hcl;have hm0:=HM2.out;refine vQ (fun w'=>w'.cell? ⟨g,o2+L.length * 3+2,none⟩=some (.slice a8 f.code.length c8)∧w'.frozen? ⟨g,o2+L.length * 3+2,none⟩=false∧w'.cell? ⟨b8,0,none⟩=some (.int .i64 (q:Int))∧w'.cell? ⟨b8,1,none⟩=some (.int .i64 n1)) 10 [0,1,2,3,4,5] [6,7,8,9,10] (by kernel_rfl) (by kernel_rfl) (by kernel_rfl) (fun ⟨_,_,h⟩=>h) (fun _ _ _ _ _ h=>h) (by exact⟨hcl,hfz,HKZ.out.1,HAZ.out.1⟩) ?_
        (try simp only [zH,List.filterMap_cons,List.filterMap_nil,xO,xP])
        repeat (
         refine zN (by rfl) ?_;apply Exists.intro;refine⟨fun w' hw'=>?_,?_⟩
         focus
          (try dsimp only at hw')
          go_split_ands;go_simp
          (try with_reducible rfl)
         (try dsimp only [Act.put])
         (try simp only [xL,xM,xN]))
        refine zL ?_;refine zC ?_
        go_wp2_with fail
        have HE5:=eH ((eR wz).drew.alloc (.cells #[.int .i64 (q:Int),.int .i64 n1] 51));have HRO:Hid (RowAt _ w0.heap.size 2 (.slice a8 f.code.length c8) f.code.length (f.code.flatMap opF)):=eH ((HPZ.out.row.fn (f,.slice a8 f.code.length c8) (by simp)).2.2.1.ext HE5.out (by decide));refine zD (by exact⟨eC HE5.out hcl,(Ext.froz HE5.out hcl).trans hfz,eC HE5.out HKZ.out.1,eC HE5.out HAZ.out.1⟩) ?_;refine zC ?_
        go_wp2_with (first
         | (at_builtin;refine zE rfl _ _ 47 rfl w0.heap.size 51 j0 (.agg #[.int .i64 0,.int .i64 0]) 2 16 Tryz.underlying47 hj0 hx0 hx1 hx2 rfl (by decide) _ _ _ rfl (by exact HRO.out) 1 (opF ⟨(q:Int),n1⟩) (src_op _ ⟨(q:Int),n1⟩ _) (by unfold maxLen;omega) (by omega) (by exact Nat.le_trans hle0 (Nat.le_trans HPZ.out.le HE5.out.size)) ?_;intro v1 Wv2 rv1;have RV:=eH rv1;have RK:=eH (HPZ.out.op_keeps HE5.out rv1);obtain⟨a9,cap9,rfl,_,_⟩:=rv1.1.shape;clear rv1))
        have hcl':Wv2.cell? ⟨g,o2+L.length * 3+2,none⟩=some (.slice a8 f.code.length c8):=(World.cell?_of_block RK.out.2).trans hcl;have hfz':Wv2.frozen? ⟨g,o2+L.length * 3+2,none⟩=false:=(World.frozen?_of_block RK.out.2).trans hfz;have hk0':=Chg.cell RV.out.2.1 (fun e=>by have:=hm0 b8 e;omega) (eC HE5.out HKZ.out.1);have hk1':=Chg.cell RV.out.2.1 (fun e=>by have:=hm0 b8 e;omega) (eC HE5.out HAZ.out.1);have HCZ2:=eH ((HCZ.out.ext HE5.out).chg RV.out.2.1 (fun e=>by have:=hm0 bp e;omega));have HPY:=eH (HPZ.out.op (x:=⟨(q:Int),n1⟩) HE5.out RV.out iQA (show f.code.length<10000 by omega));refine zD (by exact⟨hcl',hfz',hk0',hk1'⟩) ?_;refine zC ?_
        go_wp2_with fail
        refine zD (by exact⟨hcl',hfz',hk0',hk1'⟩) ?_;refine zC ?_
        go_wp2_with fail
        refine zD (by exact⟨hcl',hfz',hk0',hk1'⟩) ?_;refine zC ?_
        go_wp2_with fail
        refine zS ?_
        gi_wp2_with fail
        have hpf2:=HPF.out;rw [hlen2] at hpf2;have hfin:=uV.next (bp:=bp) (bs:=bn+1) (N:=(qE s).length) (R:=R) (by omega) (by omega) (by omega) hpf2 HPY.out (HCZ2.out.other (b':=g) (j':=o2+L.length * 3+2) (.inl (by omega)) _) (by rw [←zHf L (f,.slice a8 f.code.length c8) ⟨(q:Int),n1⟩];exact HFIN.out) (by
         have e:(qE s).length - ys.length=((qE s).length - (x::ys).length)+1:=by have:=HLN.out;simp;omega
         rw [e];exact HFEW.out.op _ _) (by have:=HLN.out;omega) HYS.out
        rw [hs2] at hfin;exact hfin
     ·have HRN:Hid (R=none):=by
       unfold Hid;rw [←HGO.out,yF,HLN2.out,if_neg hqf]
      by_cases hq:q<17
      ·have hf0:fs.length=0:=by omega
       have hk:kd=(q:Int):=by rw [←HKD.out,if_pos hq]
       subst hk;clear hqf hq
       gi_wp2_with (first
        | (refine⟨trivial,rfl,?_⟩;gi_at_call 50;refine(qX (jL _ _)).mono ?_;rintro e w5 ⟨rfl,rfl⟩;rw [uE]))
       have hf:=uV.fail (bp:=bp) (be:=bp+1) (bs:=bn+1) (by omega) (by omega) (by omega) (by omega) HPF.out (HPR.out.more HXC.out) ⟨_,HCP.out.ext HXC.out⟩ CE0.out HRN.out;rw [hs2] at hf;exact hf
      ·have hk:kd = -1:=by rw [←HKD.out,if_neg hq]
       subst hk;clear hqf hq
       gi_wp2_with (first
        | (refine⟨trivial,rfl,?_⟩;gi_at_call 50;refine(qX (jL _ _)).mono ?_;rintro e w5 ⟨rfl,rfl⟩;rw [uE]))
       have hf:=uV.fail (bp:=bp) (be:=bp+1) (bs:=bn+1) (by omega) (by omega) (by omega) (by omega) HPF.out (HPR.out.more HXC.out) ⟨_,HCP.out.ext HXC.out⟩ CE0.out HRN.out;rw [hs2] at hf;exact hf
  case hdone =>
   intro D W hD hI hWD;obtain⟨fs,v,hpf,hcp,hgo,-,-,-⟩:=hI;have hsw:=HSW.out;have hs2:=HS2.out;have hwb:=HBP.out;obtain⟨av,cv,rfl,_,_⟩:=hpf.row.row.shape;have HPF:=eH hpf;have HCP:=eH hcp;have HRS:Hid (R=some (fs.map Prod.fst)):=hgo.symm;have HCE:Hid (Cx W (bp+1) 0 (.int .i64 0)):=by
    have hb:W.heap[bp+1]?=w0.heap[bp+1]?:=hpf.keep _ ⟨by omega,by omega,by omega⟩;exact⟨(World.cell?_of_block hb).trans CE0.out.1,by rw [World.frozen?_of_block hb];exact CE0.out.2⟩
   have HFU:=eH (hpf.row.funcs (w.heap.size≤·) (fun b hb=>Nat.le_trans hpf.base hb));have HEW:=eH hpf.ext;have HGW:=eH (hg0.out.ext hpf.ext);have HWD:=eH hWD;have hDW:=hWD;obtain⟨p,hp⟩:∃p,fs.map Prod.fst=p:=⟨_,rfl⟩
   have HPP:=eH hp;simp only [hp] at HRS HFU;have hlt:D<W.heap.size:=(Array.getElem?_eq_some_iff.1 hWD).1;have c0:=hcp.1;have c0':=hcp.2;clear hp hpf hcp hgo hWD hDW;obtain⟨r,hr⟩:∃r,zZ p=r:=⟨_,rfl⟩
   obtain⟨t,ht⟩:∃t,showT p=t:=⟨_,rfl⟩
   have HER:=eH hr;have HST:=eH ht;obtain⟨Y,hY⟩:∃Y:ByteArray,(⟨t.toArray⟩:ByteArray)=Y:=⟨_,rfl⟩
   have HY:=eH hY;have HSHOW:Hid (Calls Tryz.prog 11 #[.slice av fs.length cv] W fun e w'=>e=.returned (.tuple #[.string Y,.int .i64 r])∧Ext W w'):=by
    unfold Hid;rw [←hY,←ht,←hr];exact show_any p _ _ W HGW.out HFU.out
   clear hr ht hY;by_cases hok:r=0∧t=s
   ·obtain⟨rfl,hts⟩:=hok;have hYX:Y=X:=by rw [←HY.out,←HX.out,hts]
    have HRT:Hid (vG s=(0,p)):=by
     unfold Hid vG;rw [if_neg (by omega),hR,HRS.out];simp only;rw [if_pos ⟨HER.out,by rw [←hts,←HST.out];unfold showT;rw [if_pos HER.out]⟩]
    rw [hYX] at HSHOW;clear hYX hts;refine kQ ?_
    go_wp2_with (first
     | (go_at_call 11;refine HSHOW.out.mono ?_;rintro e w3 ⟨rfl,hb3⟩))
    refine kQ ?_
    go_wp2_with (first
     | (go_at_call 50;refine(jL _ _).mono ?_;rintro e w1 ⟨rfl,rfl⟩;rw [zAe]))
    have HCP3:=eH (HCP.out.ext hb3);have HCE3:=eH (HCE.out.ext hb3);have c1:=HCP3.out.1;have c1':=HCP3.out.2;have HCE4:=eH (HCE3.out.other (b':=bp) (j':=0) (.inl (by omega)) (.slice av fs.length cv));have c2:=HCE4.out.1;have c2':=HCE4.out.2;refine zGs ?_
    go_wp2_with fail
    have hr3:PRow ((w3.setCell ⟨bp,0,none⟩ (.slice av fs.length cv)).setCell ⟨bp+1,0,none⟩ (.int .i64 0)) w0.heap.size (.slice av fs.length cv) fs :=
     ((HPF.out.row.ext hb3).chg (zO w3 bp 0 _) (fun g hg e=>by have:=((HPF.out.row.ext hb3).ge g hg).1;omega)).chg (zO _ (bp+1) 0 _) (fun g hg e=>by have:=((HPF.out.row.ext hb3).ge g hg).1;omega)
    have hd3:((w3.setCell ⟨bp,0,none⟩ (.slice av fs.length cv)).setCell ⟨bp+1,0,none⟩ (.int .i64 0)).heap[D]?=some (.deferred (some [])):=by
     rw [Below.heap_setCell _ _ _ _ (by show D≠bp+1;omega),Below.heap_setCell _ _ _ _ (by show D≠bp;omega),hb3.block D hlt];exact HWD.out
    have he3:Ext w ((w3.setCell ⟨bp,0,none⟩ (.slice av fs.length cv)).setCell ⟨bp+1,0,none⟩ (.int .i64 0)):=((HEW.out.trans hb3).setCell (p:=⟨bp,0,none⟩) (by show _≤bp;omega) _).setCell (p:=⟨bp+1,0,none⟩) (by show _≤bp+1;omega) _;have hcp4:=(HCP3.out.set (.slice av fs.length cv)).other (b':=bp+1) (j':=0) (.inl (by omega)) (.int .i64 0);have hce4:=HCE4.out.set (.int .i64 0);refine zCf (by simp) hd3 fun W' hk=>leaveR_ok _ W' bp (bp+1) (.slice av fs.length cv) (.int .i64 0) _ rfl rfl (hk.cx hcp4).1 (hk.cx hce4).1 ?_
    exact⟨⟨_,fs,by rw [HRT.out],(hr3.kc hk).low (by omega),by rw [HRT.out,HPP.out]⟩,hk.ext he3 (by omega)⟩
   ·have HRT:Hid (vG s=(1,[])):=by
     unfold Hid vG;rw [if_neg (by omega),hR,HRS.out];simp only;rw [if_neg (fun h=>hok ⟨HER.out.symm.trans h.1,by rw [←HST.out];unfold showT;rw [if_pos h.1];exact h.2⟩)]
    by_cases h0:r=0
    ·subst h0;have hts:t≠s:=fun e=>hok ⟨rfl,e⟩
     have hYX:(Y.toList == X.toList)=false:=beq_eq_false_iff_ne.2 (fun e=>hts (by rw [←HX.out,←HY.out,ByteArray.toList_mk,ByteArray.toList_mk] at e;exact e));clear hok hts;refine kQ ?_
     go_wp2_with (first
      | (go_at_call 11;refine HSHOW.out.mono ?_;rintro e w3 ⟨rfl,hb3⟩))
     refine kQ ?_
     go_wp2_with (first
      | (go_at_call 50;refine(jL _ _).mono ?_;rintro e w1 ⟨rfl,rfl⟩;rw [uE]))
     refine zCf (by simp) ((hb3.block D hlt).trans HWD.out) fun W' hk=>zDt _ W' bp (bp+1) (by omega) _ _ _ rfl rfl (hk.cx (HCP.out.ext hb3)) (hk.cx (HCE.out.ext hb3)) fun W'' hc=>?_
     exact⟨⟨.slice none 0 0,[],by rw [HRT.out],PRow.nil _ _,by rw [HRT.out];rfl⟩,Chg.ext_from (hk.ext (HEW.out.trans hb3) (by omega)) hc (fun k e=>by rcases e with rfl | rfl<;>omega)⟩
    ·have T0:(r == 0)=false:=beq_eq_false_iff_ne.2 h0;clear hok h0;refine kQ ?_
     go_wp2_with (first
      | (go_at_call 11;refine HSHOW.out.mono ?_;rintro e w3 ⟨rfl,hb3⟩))
     refine kQ ?_
     go_wp2_with (first
      | (go_at_call 50;refine(jL _ _).mono ?_;rintro e w1 ⟨rfl,rfl⟩;rw [uE]))
     refine zCf (by simp) ((hb3.block D hlt).trans HWD.out) fun W' hk=>zDt _ W' bp (bp+1) (by omega) _ _ _ rfl rfl (hk.cx (HCP.out.ext hb3)) (hk.cx (HCE.out.ext hb3)) fun W'' hc=>?_
     exact⟨⟨.slice none 0 0,[],by rw [HRT.out],PRow.nil _ _,by rw [HRT.out];rfl⟩,Chg.ext_from (hk.ext (HEW.out.trans hb3) (by omega)) hc (fun k e=>by rcases e with rfl | rfl<;>omega)⟩
  case hpanic =>
   intro D c W hD hIp hWD;obtain⟨rfl,hRn,⟨v1,hp⟩,⟨v2,he⟩,hx⟩:=hIp;have hsw:=HSW.out;have hs2:=HS2.out;have hwb:=HBP.out;have HRT:Hid (vG s=(1,[])):=by unfold Hid vG;rw [if_neg (by omega),hR,hRn]
   refine zCf (by simp) hWD fun W' hk=>zDt _ W' bp (bp+1) (by omega) v1 v2 _ rfl rfl (hk.cx hp) (hk.cx he) fun W'' hc=>?_
   refine⟨⟨.slice none 0 0,[],by rw [HRT.out],PRow.nil _ _,by rw [HRT.out];rfl⟩,Chg.ext_from (hk.ext hx (by omega)) hc (fun k e=>by rcases e with rfl | rfl<;>omega)⟩
end Go.Proofs.YtpcjkfppacnkgaaGreatDoor
end
section
namespace Go.Proofs.YtpcjkfppacnkgaaGreatDoor
open Go Go.RowKit
theorem Bd.kc {lo:Nat} {W W':World} {B b:Nat} {l:By} (h:Bd W B b l) (hk:Kc lo W W'):Bd W' B b l:=by
 have one:∀{p:Value},Lib.BuilderAt 65 5 B b p (Lib.byteCells l) W→Lib.BuilderAt 65 5 B b p (Lib.byteCells l) W':=fun {p} ⟨hB,v,hb,hown,hne⟩ =>
  ⟨hB,v,hk.cells b _ hb rfl,⟨hown.1,hown.2.imp id (fun ⟨g,cap,cur,e,hbg,hg,r⟩=>⟨g,cap,cur,e,hbg,hk.cells g _ hg rfl,r⟩)⟩,hne⟩
 exact h.imp one one
theorem Bd.chg {M:Nat→Prop} {W W':World} {B b:Nat} {l:By} {v:Value} (h:Bd W B b l) (hc:Chg M W W') (hv:W.cell? ⟨b,1,none⟩=some v) (hb:¬M b) (ho:∀k,v.ownBlock=some k→¬M k):Bd W' B b l:=by
 have one:∀{p:Value},Lib.BuilderAt 65 5 B b p (Lib.byteCells l) W→Lib.BuilderAt 65 5 B b p (Lib.byteCells l) W':=fun {p} ⟨hB,v',hbk,hown,hne⟩=>by
  have e:v'=v:=by
   have:W.cell? ⟨b,1,none⟩=some v':=by rw [Lib.cell_of_heap hbk];rfl
   rw [hv] at this;exact(Option.some.inj this).symm
  subst e;exact⟨hB,v',hc.heap hb hbk,⟨hown.1,hown.2.imp id (fun ⟨g,cap,cur,e,hbg,hg,r⟩=>⟨g,cap,cur,e,hbg,hc.heap (ho g (by rw [e];rfl)) hg,r⟩)⟩,hne⟩
 exact h.imp one one
theorem Bd.cells {W:World} {B b:Nat} {l:By} {v:Value} (h:Bd W B b l) (hv:W.cell? ⟨b,1,none⟩=some v):∀k,MB b v k→B≤k∧∃o,W.heap[k]?=some o∧o.isCells=true:=by
 have one:∀{p:Value},Lib.BuilderAt 65 5 B b p (Lib.byteCells l) W→∀k,MB b v k→B≤k∧∃o,W.heap[k]?=some o∧o.isCells=true:=fun {p} ⟨hB,v',hbk,hown,hne⟩ k hk=>by
  have e:v'=v:=by
   have:W.cell? ⟨b,1,none⟩=some v':=by rw [Lib.cell_of_heap hbk];rfl
   rw [hv] at this;exact(Option.some.inj this).symm
  subst e;rcases hk with rfl | hk
  ·exact⟨hB,_,hbk,rfl⟩
  ·rcases hown.2 with ⟨e,_⟩ | ⟨g,cap,cur,e,hbg,hg,_⟩
   ·rw [e] at hk;cases hk
   ·rw [e] at hk
    cases hk
    exact⟨hbg,_,hg,rfl⟩
 exact h.elim one one
theorem TabX.kc {lo:Nat} {W W':World} {S:Nat→Prop} {b:Nat} {p:List GFunc} {s:GState} (h:TabX W S b p s) (hk:Kc lo W W'):TabX W' S b p s:=by
 obtain⟨pa,pc,fa,fc,oa,oc,h⟩:=h;exact⟨pa,pc,fa,fc,oa,oc,hk.cx h.c0,hk.cx h.c1,hk.cx h.c2,hk.cx h.c3,zM.stays (hk.stays S) h.pr,zW.stays (hk.stays S) h.st,h.nb⟩
theorem TabX.chg {M:Nat→Prop} {W W':World} {S:Nat→Prop} {b:Nat} {p:List GFunc} {s:GState} (h:TabX W S b p s) (hc:Chg M W W') (hb:¬M b) (hS:∀k,S k→¬M k):TabX W' S b p s:=by
 obtain⟨pa,pc,fa,fc,oa,oc,h⟩:=h;exact⟨pa,pc,fa,fc,oa,oc,h.c0.chg hc hb,h.c1.chg hc hb,h.c2.chg hc hb,h.c3.chg hc hb,zM.stays (hc.stays hS) h.pr,zW.stays (hc.stays hS) h.st,h.nb⟩
theorem TabX.low {W:World} {S:Nat→Prop} {b:Nat} {p:List GFunc} {s:GState} (h:TabX W S b p s):TabX W (fun k=>S k∧k<W.heap.size) b p s:=by
 obtain⟨pa,pc,fa,fc,oa,oc,h⟩:=h;have hs:uU S (fun k=>S k∧k<W.heap.size) W W:=fun k o v hk hc=>⟨hc,hk,zY hc⟩
 exact⟨pa,pc,fa,fc,oa,oc,h.c0,h.c1,h.c2,h.c3,zM.stays hs h.pr,zW.stays hs h.st,fun e=>h.nb e.1⟩
theorem TabX.out {W:World} {S:Nat→Prop} {b:Nat} {p:List GFunc} {s:GState} (h:TabX W S b p s):∀n∈s.out,I64 n:=by
 obtain⟨pa,pc,fa,fc,oa,oc,h⟩:=h;obtain⟨x,y,_,_,_,hints⟩:=h.st;intro n hn;obtain⟨i,hi,rfl⟩:=List.getElem_of_mem hn;obtain⟨b,o,cap,_,_,_,_,_,h⟩:=Sl.get hints hi;exact h
theorem TabX.cell {W:World} {S:Nat→Prop} {b:Nat} {p:List GFunc} {s:GState} (h:TabX W S b p s):∃o,W.heap[b]?=some o∧o.isCells=true:=by
 obtain⟨pa,pc,fa,fc,oa,oc,h⟩:=h;exact cells_of_cell h.c0.1
structure PlayF (w:World) (p:List GFunc) (bt bv bb bs:Nat) (T:By) (ys:List By) (W:World) (s:GState) (L:By) (v:Value) (S:Nat→Prop):Prop where
 ok:∃l,Ok p s l
 tab:TabX W S bt p s
 bd:Bd W bb bb L
 cell:W.cell? ⟨bb,1,none⟩=some v
 off:∀k,S k→k≠bb∧v.ownBlock≠some k∧k≠bs∧k≠bv
 own:v.ownBlock≠some bs∧v.ownBlock≠some bt∧v.ownBlock≠some bv
 var:Cx W bv 0 (.pointer (some ⟨bt,0,none⟩))
 text:L++uM p s (ys.map zBk)=T
 few:L.length+1001 * ys.length≤10000000
 lines:∀y∈ys,y.length≤8192
 ext:Ext w W
def zIh (w:World) (p:List GFunc) (bt bv bb bs:Nat) (T:By) (ys:List By) (W:World):Prop:=∃s L v S,PlayF w p bt bv bb bs T ys W s L v S
theorem zIh.kc {w W W':World} {p:List GFunc} {bt bv bb bs lo:Nat} {T:By} {ys:List By} (h:zIh w p bt bv bb bs T ys W) (hk:Kc lo W W') (hl:w.heap.size≤lo):zIh w p bt bv bb bs T ys W':=by
 obtain⟨s,L,v,S,h⟩:=h;exact⟨s,L,v,S,h.ok,h.tab.kc hk,h.bd.kc hk,hk.cell h.cell,h.off,h.own,hk.cx h.var,h.text,h.few,h.lines,hk.ext h.ext hl⟩
theorem zIh.own {w W:World} {p:List GFunc} {bt bv bb bs:Nat} {T:By} {ys:List By} (h:zIh w p bt bv bb bs T ys W) (h1:bs≠bt) (h2:bs≠bv) (h3:bs≠bb) (hw:w.heap.size≤bs) (u:Value):zIh w p bt bv bb bs T ys (W.setCell ⟨bs,0,none⟩ u):=by
 obtain⟨s,L,v,S,h⟩:=h;have hc:=zO W bs 0 u;exact⟨s,L,v,S,h.ok,h.tab.chg hc (fun e=>h1 e.symm) (fun k hk e=>(h.off k hk).2.2.1 e),h.bd.chg hc h.cell (fun e=>h3 e.symm) (fun k hk e=>h.own.1 (by rw [hk,e])),hc.cell (fun e=>h3 e.symm) h.cell,h.off,h.own,h.var.chg hc (fun e=>h2 e.symm),h.text,h.few,h.lines,
  h.ext.setCell (p:=⟨bs,0,none⟩) hw u⟩
theorem PlayF.next {w W W1 W2:World} {p:List GFunc} {bt bv bb bs:Nat} {T x y:By} {ys:List By} {s s':GState} {L:By} {v v':Value} {S:Nat→Prop} (h:PlayF w p bt bv bb bs T (y::ys) W s L v S) (d1:bt≠bb) (d2:bt≠bv) (d3:bv≠bb) (d4:bs≠bt) (_d5:bs≠bv) (d6:bs≠bb)
  (hbs:bs<W.heap.size) (hwt:w.heap.size≤bt) (hwb:w.heap.size≤bb) (hpl:qQ p s (zBk y)=(s',x)) (hx:x.length≤1000)
  (h1:TabX W1 (Up S W.heap.size) bt p s') (hc1:Chg (·=bt) W W1) (hb2:Bd W2 bb bb (L++(x++[10]))) (hv2:W2.cell? ⟨bb,1,none⟩=some v') (hwh:v'.ownBlock=v.ownBlock∨∀k,v'.ownBlock=some k→W1.heap.size≤k) (hc2:Chg (MB bb v) W1 W2) :
  zIh w p bt bv bb bs T ys W2∧(∀u,Cx W bs 0 u→Cx W2 bs 0 u)∧(∀(k:Nat) (o:Obj),W.heap[k]?=some o→o.isCells=false→W2.heap[k]?=some o):=by
 have hlb:bb<W.heap.size:=h.bd.lt;have hlv:bv<W.heap.size:=zY h.var.1;have hlt:bt<W.heap.size:=by obtain⟨_,_,_,_,_,_,ht⟩:=h.tab;exact ht.lt
 have hs1:=hc1.size;have hown:∀k,v.ownBlock=some k→k<W.heap.size:=fun k hk=>by
  obtain⟨_,o,ho,_⟩:=h.bd.cells h.cell k (.inr hk);exact(Array.getElem?_eq_some_iff.1 ho).1
 have hbd1:=h.bd.chg hc1 h.cell (fun e=>d1 e.symm) (fun k hk e=>h.own.2.1 (by rw [hk,e]));have hcell1:=hc1.cell (fun e=>d1 e.symm) h.cell;have hoff:∀k,(Up S W.heap.size k∧k<W1.heap.size)→k≠bb∧v'.ownBlock≠some k∧k≠bs∧k≠bv:=by
  rintro k ⟨hk,hkl⟩;rcases hk with hk | hk
  ·obtain⟨a1,a2,a3,a4⟩:=h.off k hk;refine⟨a1,fun e=>?_,a3,a4⟩;rcases hwh with h5 | h5
   ·exact a2 (h5 ▸ e)
   ·have:=h5 k e;omega
  ·refine⟨by omega,fun e=>?_,by omega,by omega⟩;rcases hwh with h5 | h5
   ·have:=hown k (h5 ▸ e);omega
   ·have:=h5 k e;omega
 have hMS:∀k,(Up S W.heap.size k∧k<W1.heap.size)→¬MB bb v k:=by
  rintro k ⟨hk,hkl⟩ hm;rcases hk with hk | hk
  ·obtain⟨a1,a2,_,_⟩:=h.off k hk;rcases hm with rfl | hm
   ·exact a1 rfl
   ·exact a2 hm
  ·rcases hm with rfl | hm
   ·omega
   ·have:=hown k hm;omega
 have hnv:∀k,k<W.heap.size→v.ownBlock≠some k→v'.ownBlock≠some k:=fun k hk hn e=>by
  rcases hwh with h5 | h5
  ·exact hn (h5 ▸ e)
  ·have:=h5 k e;omega
 have hNM:∀k,k≠bb→v.ownBlock≠some k→¬MB bb v k:=fun k a b hm=>hm.elim a b
 obtain⟨l,hok⟩:=h.ok;have hok':=play_ok (zBk y) hok;rw [hpl] at hok';have htx:=h.text;rw [List.map_cons,uM,hpl] at htx;have hfew:=h.few;rw [List.length_cons] at hfew;refine⟨⟨s',L++(x++[10]),v',_,hok',h1.low.chg hc2 (hNM bt d1 h.own.2.1) hMS,hb2,hv2,hoff,⟨hnv bs hbs h.own.1,hnv bt hlt h.own.2.1,hnv bv hlv h.own.2.2⟩,
  (h.var.chg hc1 (fun e=>d2 e.symm)).chg hc2 (hNM bv d3 h.own.2.2),?_,?_,fun z hz=>h.lines z (List.mem_cons_of_mem _ hz),?_⟩,fun u hu=>(hu.chg hc1 d4).chg hc2 (hNM bs d6 h.own.1),fun k o ho hcc=>?_⟩
 ·rw [←htx];simp
 ·simp only [List.length_append,List.length_cons,List.length_nil];omega
 ·exact Chg.ext_from (Chg.ext_from h.ext hc1 (fun k e=>by have e:k=bt:=e;omega)) hc2 (fun k e=>by have:=(hbd1.cells hcell1 k e).1;omega)
 ·have n1:¬(k=bt):=fun e=>by
   obtain⟨o',ho',hc'⟩:=h.tab.cell;rw [←e,ho] at ho'
   cases ho'
   rw [hcc] at hc'
   cases hc'
  refine hc2.heap (fun hm=>?_) (hc1.heap n1 ho);obtain⟨_,o',ho',hc'⟩:=h.bd.cells h.cell k hm;rw [ho] at ho'
  cases ho'
  rw [hcc] at hc'
  cases hc'
theorem play_start {w w3:World} {p:List GFunc} {a ya yb:Option Addr} {c yc yd B:Nat} {X:ByteArray} {t T:By} (hw:Ext w w3) (hf:zM w3 (fun _=>True) (.slice a p.length c) p)
  (hy:kZ w3 B (.agg #[.slice ya (kG p).fibers.length yc,.int .i64 (kG p).now,.slice yb (kG p).out.length yd]) (kG p)) (hz:zZ p=0) (hT:uM p (kG p) ((qE t).map zBk)=T) (hl:t.length≤8192) (t1 t2 t3:TypeId) :
  let w0:=(((w3.alloc (.cells #[.slice a p.length c,.slice ya (kG p).fibers.length yc,.int .i64 (kG p).now,.slice yb (kG p).out.length yd] t1)).alloc (.cells #[.pointer (some ⟨w3.heap.size,0,none⟩)] t2)).alloc (.cells #[.pointer none,.slice none 0 0] 65)).alloc (.cells #[.string X] t3)
  zIh w p w3.heap.size (w3.heap.size+1) (w3.heap.size+1+1) (w3.heap.size+1+1+1) T (qE t) w0∧w0.heap.size=w3.heap.size+1+1+1+1∧Cx w0 (w3.heap.size+1+1+1) 0 (.string X)∧Ext w w0:=by
 intro w0;obtain⟨W1,hW1⟩:∃W1,w3.alloc (.cells #[.slice a p.length c,.slice ya (kG p).fibers.length yc,.int .i64 (kG p).now,.slice yb (kG p).out.length yd] t1)=W1:=⟨_,rfl⟩
 obtain⟨W2,hW2⟩:∃W2,W1.alloc (.cells #[.pointer (some ⟨w3.heap.size,0,none⟩)] t2)=W2:=⟨_,rfl⟩
 obtain⟨W3,hW3⟩:∃W3,W2.alloc (.cells #[.pointer none,.slice none 0 0] 65)=W3:=⟨_,rfl⟩
 have hw0:W3.alloc (.cells #[.string X] t3)=w0:=by rw [←hW3,←hW2,←hW1]
 have s1:W1.heap.size=w3.heap.size+1:=by rw [←hW1];exact Array.size_push _
 have s2:W2.heap.size=w3.heap.size+1+1:=by rw [←hW2,World.size_alloc,s1]
 have s3:W3.heap.size=w3.heap.size+1+1+1:=by rw [←hW3,World.size_alloc,s2]
 have s4:w0.heap.size=w3.heap.size+1+1+1+1:=by rw [←hw0,World.size_alloc,s3]
 have e1:Ext w3 W1:=by rw [←hW1];exact(eR _).alloc _
 have e2:Ext W1 W2:=by rw [←hW2];exact(eR _).alloc _
 have e3:Ext W2 W3:=by rw [←hW3];exact(eR _).alloc _
 have e4:Ext W3 w0:=by rw [←hw0];exact(eR _).alloc _
 have e14:=((e1.trans e2).trans e3).trans e4;have e24:=(e2.trans e3).trans e4;have e34:=e3.trans e4;have k:∀j v,[Value.slice a p.length c,.slice ya (kG p).fibers.length yc,.int .i64 (kG p).now,.slice yb (kG p).out.length yd][j]?=some v→Cx w0 w3.heap.size j v:=fun j v hj=>by
  have h:=Cx.new w3 [Value.slice a p.length c,.slice ya (kG p).fibers.length yc,.int .i64 (kG p).now,.slice yb (kG p).out.length yd] t1 hj;rw [hW1] at h;exact h.ext e24
 have st:∀S:Nat→Prop,uU S (fun k=>k<w3.heap.size) w3 w0:=fun S b o v _ hc=>⟨eC e14 hc,zY hc⟩
 have hv:Cx w0 (w3.heap.size+1) 0 (.pointer (some ⟨w3.heap.size,0,none⟩)):=by
  have h:=Cx.new W1 [Value.pointer (some ⟨w3.heap.size,0,none⟩)] t2 (j:=0) rfl;rw [s1,hW2] at h;exact h.ext e34
 have hb:Bd w0 (w3.heap.size+1+1) (w3.heap.size+1+1) []:=by
  have h:=Bd.new W2 W2.heap.size (Nat.le_refl _);rw [hW3,s2] at h;exact h.ext e4
 have hb1:w0.cell? ⟨w3.heap.size+1+1,1,none⟩=some (.slice none 0 0):=by
  have h:=Cx.new W2 [Value.pointer none,.slice none 0 0] 65 (j:=1) rfl;rw [s2,hW3] at h;exact(h.ext e4).1
 have hs:Cx w0 (w3.heap.size+1+1+1) 0 (.string X):=by
  have h:=Cx.new W3 [Value.string X] t3 (j:=0) rfl;rw [s3,hw0] at h;exact h
 have hln:=zHa t;refine⟨⟨kG p,[],.slice none 0 0,fun k=>k<w3.heap.size,⟨_,begin_ok hz⟩,⟨_,_,_,_,_,_,k 0 _ rfl,k 1 _ rfl,k 2 _ rfl,k 3 _ rfl,zM.stays (st _) hf,zW.stays (st _) hy.state,fun h=>Nat.lt_irrefl _ h⟩,hb,hb1,fun k hk=>⟨by omega,by simp [Value.ownBlock],by omega,by omega⟩,⟨by simp [Value.ownBlock],by simp [Value.ownBlock],by simp [Value.ownBlock]⟩,hv,by simpa using hT,?_,fun y hy=>Nat.le_trans (hln.2 y hy) hl,hw.trans e14⟩,s4,hs,hw.trans e14⟩;have:=hln.1;simp only [List.length_nil];omega
theorem leaveP_mark {tmps:Array Value} {W:World} {D:Nat} {R:Ending→World→Prop} {u:FrameMode} {ds:List Deferred} (hu:u≠.run) (hD:W.heap[D]?=some (.deferred (some []))) (h:∀W',Kc D W W'→LeavesInM Fence.wide 0 Tryz.prog Tryz.f7 tmps R ds u W') :
  LeavesInM Fence.wide 0 Tryz.prog Tryz.f7 tmps R ({ target:=.collected D,args:=#[] }::ds) u W:=by
 refine⟨hu,.inl ⟨D,_,rfl,run_takeDeferred hD,h _ (Kc.putObj _ hD rfl (Nat.le_refl _))⟩⟩
end Go.Proofs.YtpcjkfppacnkgaaGreatDoor
end
section
namespace Go.Proofs.YtpcjkfppacnkgaaGreatDoor
open Go Go.RowKit
theorem play_unread {q:By} (t:By) (h:(vG q).1≠0):qB q t=([],(vG q).1):=by
 unfold qB;by_cases h8:8192<q.length
 ·rw [if_pos h8];unfold vG;rw [if_pos h8]
 ·rw [if_neg h8];have hd:=read_doc (s:=q) (by omega)
  cases e:(docT q).1 with
  | true=>rw [e,if_pos rfl] at hd;rw [hd] at h;exact absurd rfl h
  | false=>rw [e] at hd;rw [hd,if_pos rfl];rfl
theorem play_read {q:By} (t:By) (h:(vG q).1=0):zZ (vG q).2=0∧qB q t=if 8192<t.length∨40<t.count 10 then ([],2) else if t≠[]∧t.getLast?≠some 10 then ([],1) else (uM (vG q).2 (kG (vG q).2) (vV t),0):=by
 by_cases h8:8192<q.length
 ·unfold vG at h;rw [if_pos h8] at h;exact absurd h (by decide)
 ·have hd:=read_doc (s:=q) (by omega)
  cases e:(docT q).1 with
  | false=>rw [e] at hd;rw [hd] at h;exact absurd h (show ¬(1:Int)=0 by decide)
  | true =>
   rw [e,if_pos rfl] at hd;have hp:zZ (docT q).2=0:=by
    unfold docT at e ⊢
    split at e
    ·rename_i hc;rw [if_pos hc];exact hc.1
    ·cases e
   rw [hd];refine⟨hp,?_⟩;unfold qB;rw [if_neg h8,e,if_neg (by decide)]
theorem suffix_ten {t:By}:Lib.hasSuffix t [10]=decide (t.getLast?=some 10):=by
 unfold Lib.hasSuffix;by_cases h:t.getLast?=some 10
 ·rw [decide_eq_true h,List.isSuffixOf_iff_suffix];obtain⟨l,rfl⟩:=List.getLast?_eq_some_iff.1 h;exact List.suffix_append _ _
 ·rw [decide_eq_false h];refine Bool.eq_false_iff.2 fun e=>h ?_
  rw [List.isSuffixOf_iff_suffix] at e;obtain⟨l,rfl⟩:=e;simp
theorem count_ten (X:ByteArray) (t:By) (hX:(⟨t.toArray⟩:ByteArray)=X) (w:World):Calls Tryz.prog 25 #[.string X,.string ⟨#[10]⟩] w fun e w'=>e=.returned (.int .i64 (t.count 10))∧w=w':=by
 subst hX;refine(Tryz.strings_Count_one ⟨t.toArray⟩ 10 w).mono ?_;rintro e w' ⟨rfl,rfl⟩;exact⟨by simp [Lib.countByte],rfl⟩
theorem suffix_any (X:ByteArray) (t:By) (hX:(⟨t.toArray⟩:ByteArray)=X) (w:World) (hl:t.length≤100000):Calls Tryz.prog 26 #[.string X,.string ⟨#[10]⟩] w fun e w'=>e=.returned (.bool (decide (t.getLast?=some 10)))∧w=w':=by
 subst hX;refine(Tryz.strings_HasSuffix ⟨t.toArray⟩ ⟨#[10]⟩ w (by rw [yN];omega)).mono ?_;rintro e w' ⟨rfl,rfl⟩;refine⟨?_,rfl⟩;rw [←suffix_ten]
theorem string_kept (B b:Nat) (l:By) (w:World) (h:Bd w B b l) (hBw:B≤w.heap.size) :
  Calls Tryz.prog 32 #[.pointer (some ⟨b,0,none⟩)] w fun e w'=>e=.returned (.string ⟨l.toArray⟩)∧Below B w w'∧Lib.OthersKept 5 (some b) w w':=by
 have hF:Lib.IsBuilderF 65 5 B b (Lib.byteCells l) w:=h.imp Lib.BuilderAtF.of Lib.BuilderAtF.of;have hC:Calls Tryz.prog 32 #[.pointer (some ⟨b,0,none⟩)] w fun e w'=>e=.returned (.string ⟨l.toArray⟩)∧(Lib.IsBuilderF 65 5 B b (Lib.byteCells l) w'∧Below B w w'∧Lib.OthersKept 5 (some b) w w'):=Any.Builder_String_any_k Tryz.lays169 Tryz.Builder_Extra_169 B b l w hF hBw
 exact hC.mono fun e w' ⟨h1,_,h2,h3⟩=>⟨h1,h2,h3⟩
theorem play_any (q t:By) (w:World) (hg:Glob w) :
  Calls Tryz.prog 7 #[.string ⟨q.toArray⟩,.string ⟨t.toArray⟩] w fun e w'=>e=.returned (.tuple #[.string ⟨(qB q t).1.toArray⟩,.int .i64 (qB q t).2])∧Ext w w':=by
 obtain⟨X,hX⟩:∃X:ByteArray,(⟨t.toArray⟩:ByteArray)=X:=⟨_,rfl⟩
 have hN:X.size=t.length:=by rw [←hX];exact yN t
 have HX:=eH hX;have HG:=eH hg;obtain⟨r,hr⟩:∃r,(vG q).1=r:=⟨_,rfl⟩
 obtain⟨p,hp⟩:∃p,(vG q).2=p:=⟨_,rfl⟩
 have HRD:Hid (∀w,Glob w→Calls Tryz.prog 16 #[.string ⟨q.toArray⟩] w fun e w'=>(∃a c,e=.returned (.tuple #[.slice a p.length c,.int .i64 r])∧zM w' (fun _=>True) (.slice a p.length c) p)∧Ext w w'):=by
  unfold Hid;intro w hg;refine(read_any q w hg).mono ?_;rintro e w' ⟨⟨x,fs,rfl,hrow,hfs⟩,hx⟩;have hF:=hrow.funcs (fun _=>True) (fun _ _=>trivial);rw [hfs,hp] at hF;rw [hr];obtain⟨a,c,rfl,_,_,_⟩:=id hF;exact⟨⟨a,c,rfl,hF⟩,hx⟩
 rw [hX];obtain⟨Q,hQ⟩:∃Q:ByteArray,(⟨q.toArray⟩:ByteArray)=Q:=⟨_,rfl⟩
 rw [hQ] at HRD ⊢;by_cases h0:r=0
 ·subst h0;obtain⟨hz,hpl⟩:=play_read t hr;rw [hp] at hz hpl;have HZ:=eH hz;by_cases h8:8192<t.length
  ·have HP:Hid (qB q t=([],2)):=by unfold Hid;rw [hpl,if_pos (.inl h8)]
   have T8:decide ((8192:Int)<(t.length:Int))=true:=decide_eq_true (by omega);clear hpl hX hQ hr hp hz hg h8;go_enter Tryz.func7,Tryz.ntmps7
   go_wp2_with (first
    | (go_at_call 16;(with_reducible refine(HRD.out _ HG.out).mono ?_);rintro e w2 ⟨⟨a,c,rfl,hf⟩,hb2⟩))
   go_ret2
   exact⟨by rw [HP.out];rfl,hb2⟩
  have T8:decide ((8192:Int)<(t.length:Int))=false:=decide_eq_false (by omega);have HCO:∀w,Hid (Calls Tryz.prog 25 #[.string X,.string ⟨#[10]⟩] w fun e w'=>e=.returned (.int .i64 (t.count 10))∧w=w'):=fun w=>count_ten X t hX w
  by_cases h40:40<t.count 10
  ·have HP:Hid (qB q t=([],2)):=by unfold Hid;rw [hpl,if_pos (.inr h40)]
   obtain⟨n,hn⟩:∃n,t.count 10=n:=⟨_,rfl⟩
   rw [hn] at h40;simp only [hn] at HCO;have T4:decide ((40:Int)<(n:Int))=true:=decide_eq_true (by omega);clear hpl hX hQ hr hp hz hg h8 h40 hn;go_enter Tryz.func7,Tryz.ntmps7
   go_wp2_with (first
    | (go_at_call 16;(with_reducible refine(HRD.out _ HG.out).mono ?_);rintro e w2 ⟨⟨a,c,rfl,hf⟩,hb2⟩)
    | (go_at_call 25;(with_reducible refine(HCO _).out.mono ?_);rintro e w3 ⟨rfl,rfl⟩))
   go_ret2
   exact⟨by rw [HP.out];rfl,hb2⟩
  obtain⟨n,hn⟩:∃n,t.count 10=n:=⟨_,rfl⟩
  simp only [hn] at HCO;have T4:decide ((40:Int)<(n:Int))=false:=decide_eq_false (by omega);have HSU:∀w,Hid (Calls Tryz.prog 26 #[.string X,.string ⟨#[10]⟩] w fun e w'=>e=.returned (.bool (decide (t.getLast?=some 10)))∧w=w'):=fun w=>suffix_any X t hX w (by omega)
  by_cases hend:t≠[]∧t.getLast?≠some 10
  ·have HP:Hid (qB q t=([],1)):=by unfold Hid;rw [hpl,if_neg (by omega),if_pos hend]
   have T0:(X.toList == ([]:List UInt8))=false:=qA hX hend.1;have hsf:decide (t.getLast?=some 10)=false:=decide_eq_false hend.2;simp only [hsf] at HSU;clear hpl hX hQ hr hp hz hg h8 h40 hn hend hsf;go_enter Tryz.func7,Tryz.ntmps7
   go_wp2_with (first
    | (go_at_call 16;(with_reducible refine(HRD.out _ HG.out).mono ?_);rintro e w2 ⟨⟨a,c,rfl,hf⟩,hb2⟩)
    | (go_at_call 25;(with_reducible refine(HCO _).out.mono ?_);rintro e w3 ⟨rfl,rfl⟩)
    | (go_at_call 26;(with_reducible refine(HSU _).out.mono ?_);rintro e w4 ⟨rfl,rfl⟩))
   go_ret2
   exact⟨by rw [HP.out];rfl,hb2⟩
  have hlast:t=[]∨t.getLast?=some 10:=by
   by_cases h1:t=[]
   ·exact .inl h1
   ·exact .inr (Classical.not_not.1 fun h=>hend ⟨h1,h⟩)
  have HP:Hid (qB q t=(uM p (kG p) (vV t),0)):=by unfold Hid;rw [hpl,if_neg (by omega),if_neg hend]
  have hRP:=kH hz;obtain⟨T,hT⟩:∃T,uM p (kG p) (vV t)=T:=⟨_,rfl⟩
  have HPT:=eH hT;have hls:=lines_strip hlast;have HLS:=eH hls;have hlen:=zHa t;have HSB:∃b1 b2,Hid ((X.toList == ([]:List UInt8))=b1∧decide (t.getLast?=some 10)=b2∧(b1=true∨b1=false∧b2=true)):=by
   by_cases h1:t=[]
   ·exact⟨true,_,vS hX h1,rfl,.inl rfl⟩
   ·refine⟨false,true,qA hX h1,?_,.inr ⟨rfl,rfl⟩⟩;exact decide_eq_true (hlast.resolve_left h1)
  obtain⟨b1,b2,HB12⟩:=HSB;obtain⟨T0,e2,hbb⟩:=HB12.out;simp only [e2] at HSU;clear hpl hX hQ hr hp hg h40 hn hend hlast e2 HB12 hls;refine zGq Tryz.func7 rfl ?_;simp only [Tryz.ntmps7,List.size_toArray,List.length_cons,List.length_nil,Nat.reduceAdd,Nat.reduceSub,Array.replicate_succ,Array.replicate_zero,List.push_toArray,List.append_toArray,List.nil_append,List.cons_append];have RA:=zF;refine kQ ?_
  go_wp2_with fail
  refine kQ ?_
  go_wp2_with (first
   | (go_at_call 16;(with_reducible refine(HRD.out _ HG.out).mono ?_);rintro e w2 ⟨⟨a,c,rfl,hf⟩,hb2⟩;have HF:=eH hf;have HB2:=eH hb2;clear hf hb2))
  refine kQ ?_
  go_wp2_with fail
  refine kQ ?_
  go_wp2_with (first
   | (go_at_call 25;(with_reducible refine(HCO _).out.mono ?_);rintro e w3 ⟨rfl,rfl⟩))
  have HBB:=eH hbb;refine kQ ?_;rcases hbb with rfl | ⟨rfl,rfl⟩
  all_goals
   go_wp2_with (first
    | (go_at_call 26;(with_reducible refine(HSU _).out.mono ?_);rintro e w4 ⟨rfl,rfl⟩))
  all_goals
   refine kQ ?_
   go_wp2_with (first
    | (go_at_call 27;(with_reducible refine(first_own p _ _ _ HF.out HZ.out).mono ?_);rintro e w3 ⟨⟨y,rfl,hy⟩,hb3⟩;obtain⟨ya,yc,yb,yd,rfl⟩:=hy.few;have HY:=eH hy;have HB3:=eH hb3;clear hy hb3))
   refine kQ ?_
   go_wp2_with fail
   refine wpAt_seq ?_;refine kQ ?_
   go_wp2_with (first
    | (go_at_call 28;refine(linesIt_any _ _).mono ?_;rintro e w5 ⟨rfl,rfl⟩))
   obtain⟨hI0,hs0,hcs,hE0⟩:=play_start (w:=w) (T:=T) (X:=X) (t:=t) (HB2.out.trans HB3.out) (zM.stays (Ext.stays HB3.out) HF.out) HY.out HZ.out (by rw [HLS.out];exact HPT.out) (by omega) 61 55 9;have hB0:w.heap.size≤w3.heap.size:=(HB2.out.trans HB3.out).size;obtain⟨w0,hw0⟩:∃w0,(((w3.alloc (.cells #[.slice a p.length c,.slice ya (kG p).fibers.length yc,.int .i64 (kG p).now,.slice yb (kG p).out.length yd] 61)).alloc (.cells #[.pointer (some ⟨w3.heap.size,0,none⟩)] 55)).alloc (.cells #[.pointer none,.slice none 0 0] 65)).alloc (.cells #[.string X] 9)=w0:=⟨_,rfl⟩
   simp only [hw0] at hI0 hs0 hcs hE0 ⊢;clear hw0;generalize w3.heap.size=bt at *;have HI0:=eH hI0;have HS0:=eH hs0;have HCS:Hid (Cx w0 (bt+1+1+1) 0 (txtV t)):=by unfold Hid txtV;rw [HX.out];exact hcs
   have HE0:=eH hE0;have HB0:=eH hB0;clear hI0 hs0 hcs hE0 hB0 HRD HCO HSU;refine wpAt_block ?_;refine wpAt_rangeQ (α:=By) 10 (gf:=69) (lb:=#[.pointer (some ⟨bt+1+1+1,0,none⟩)]) (enc:=txtV) (ys:=qE t) (own:=(·=bt+1+1+1)) ⟨_,Tryz.func7⟩ rfl (enters_of Tryz.func69 (by kernel_rfl) rfl)
    (lines_iter t (bt+1+1+1) w0 HCS.out (by omega)) (fun b hb=>by subst hb;rw [HS0.out];omega) (zIh w p bt (bt+1) (bt+1+1) (bt+1+1+1) T) (fun _ _=>False)
    (fun ys W W' h hk=>h.kc hk (by have:=HS0.out;have:=HB0.out;omega)) (fun ys W b u h hb=>by subst hb;exact h.own (by omega) (by omega) (by omega) (by have:=HB0.out;omega) u) HI0.out ?hassign ?hbody ?hdone ?hpanic
   case hpanic=>intro D cc W _ hf;exact hf.elim
   case hassign =>
    intro l x W K hK;simp only [xL,xM,xN] at hK ⊢
    gi_wp2_with fail
    exact hK
   case hbody =>
    intro l x ys W hI hln hlw hlt;simp only [xL,xM,xN];obtain⟨s,L,v,S,hF⟩:=hI;have HFF:=eH hF;have hcv:=hF.var.1;have hxl:x.length≤8192:=hF.lines x (List.mem_cons_self ..);obtain⟨⟨s',r⟩,hpl⟩:∃z,qQ p s (zBk x)=z:=⟨_,rfl⟩
    have HPL:=eH hpl;obtain⟨l0,hok⟩:=hF.ok;have hrl:=play_len (zBk x) hok hF.tab.out;rw [hpl] at hrl;replace hrl:r.length≤1000:=hrl;have hsl:(zBk x).length≤8192:=by
     unfold zBk Lib.trimSuffix;split
     ·simp;omega
     ·exact hxl
    obtain⟨D,hD⟩:∃Y:ByteArray,(⟨(zBk x).toArray⟩:ByteArray)=Y:=⟨_,rfl⟩
    have HTR:∀W2,Hid (Calls Tryz.prog 31 #[.string ⟨x.toArray⟩,.string ⟨#[10]⟩] W2 fun e w'=>e=.returned (.string D)∧W2=w'):=fun W2=>by
     unfold Hid;rw [←hD];exact trim_any x W2 (by omega)
    have hnb:NotG bt:=HG.out.notG HB0.out;have HLN:Hid (Calls Tryz.prog 30 #[.pointer (some ⟨bt,0,none⟩),.string D] W.drew fun e W'=>e=.returned (.string ⟨r.toArray⟩)∧TabX W' (Up S W.heap.size) bt p s'∧Chg (·=bt) W W'):=by
     have h:=line_desk p s l0 (zBk x) D S bt W.drew (HG.out.ext hF.ext.drew) hD (hF.tab.ext (eR _).drew) hok hnb (by omega);rw [hpl] at h;exact h.mono fun e W' ⟨h1,h2,h3⟩=>⟨h1,h2,(Chg.of_ext (eR _).drew).trans h3⟩
    have n1:¬9223372036854775807<r.length+1:=by omega
    have hcat:=jS;have hclen:=zAo;have hlb:=hF.bd.lt;have hfew:=hF.few;rw [List.length_cons] at hfew;have hLl:L.length≤10000000:=by omega
    have hb0:=HB0.out;have hs0:=HS0.out;have hbs:bt+1+1+1<W.heap.size:=by omega
    clear hF hpl hok hsl hD hln hlw hfew
    gi_upto_region 12 with fail
    refine vQ (fun w'=>w'.cell? ⟨bt+1,0,none⟩=some (.pointer (some ⟨bt,0,none⟩))) 5 [0,1] [2,3,4,5] (by kernel_rfl) (by kernel_rfl) (by kernel_rfl) (fun ⟨_,_,h⟩=>h) (fun _ _ _ _ _ h=>h) (by exact hcv) ?_
    (try simp only [zH,List.filterMap_cons,List.filterMap_nil,xO,xP])
    repeat (
     refine zN (by rfl) ?_;apply Exists.intro;refine⟨fun w' hw'=>?_,?_⟩
     focus
      (try dsimp only at hw')
      go_split_ands;go_simp
      (try with_reducible rfl)
     (try dsimp only [Act.put])
     (try simp only [xL,xM,xN]))
    refine zL ?_;refine zC ?_
    go_wp2_with (first
     | (go_at_call 31;refine(HTR _).out.mono ?_;rintro e w6 ⟨rfl,rfl⟩))
    refine zD (by exact hcv) ?_;refine zC ?_
    go_wp2_with (first
     | (go_at_call 30;refine HLN.out.mono ?_;rintro e W1 ⟨rfl,ht1,hc1⟩))
    have hcv1:=hc1.cell (show ¬(bt+1=bt) by omega) hcv;have hbd1:=HFF.out.bd.chg hc1 HFF.out.cell (show ¬(bt+1+1=bt) by omega) (fun k hk e=>HFF.out.own.2.1 (by rw [hk,e]));have hcl1:=hc1.cell (show ¬(bt+1+1=bt) by omega) HFF.out.cell;have hs1:=hc1.size;have HBD1:=eH hbd1;have HCL1:=eH hcl1;have HT1:=eH ht1;have HC1:=eH hc1;clear hbd1 hcl1 ht1 hc1;refine zD (by exact hcv1) ?_;refine zC ?_
    go_wp2_with fail
    refine zD (by exact hcv1) ?_;refine zC ?_
    go_wp2_with (first
     | (go_at_call 29;refine(writeO (bt+1+1) (bt+1+1) L (cat r [10]) v W1 HBD1.out HCL1.out (by rw [hclen];simp only [List.length_cons,List.length_nil];omega) (by omega)).mono ?_;rintro e W2 ⟨rfl,hb2,⟨v',hv2,hwh⟩,hc2⟩))
    refine zS ?_
    gi_wp2_with fail
    obtain⟨k1,k2,k3⟩:=PlayF.next HFF.out (by omega) (by omega) (by omega) (by omega) (by omega) (by omega) hbs hb0 (by omega) HPL.out hrl HT1.out HC1.out hb2 hv2 hwh hc2;exact⟨k1,fun b u hb hu=>by subst hb;exact k2 u hu,fun k o _ ho hcc=>k3 k o ho hcc⟩
   case hdone =>
    intro D W hD hI hWD;obtain⟨s,L,v,S,hF⟩:=hI;have hLT:L=T:=by have:=hF.text;simpa [uM] using this
    subst hLT;have HFF:=eH hF;have HWD:=eH hWD;have hlb:=hF.bd.lt;have hs0:=HS0.out;clear hF hWD;refine kQ ?_
    go_wp2_with (first
     | (go_at_call 32;refine(string_kept (bt+1+1) (bt+1+1) L _ HFF.out.bd (by omega)).mono ?_;rintro e w5 ⟨rfl,hb5,ho5⟩))
    refine zGs ?_
    go_wp2_with fail
    have hd5:w5.heap[D]?=some (.deferred (some [])):=ho5 D _ HWD.out (fun e=>by cases e;omega) (fun _ _ e=>by cases e);refine leaveP_mark (by simp) hd5 fun W' hk=>⟨_,results_tmp2 rfl _ _ _,?_⟩
    refine⟨by rw [HP.out,HPT.out];rfl,?_⟩;have e5:Ext w w5:=Below.trans HFF.out.ext (Below.mono hb5 (by have:=HB0.out;omega));exact hk.ext e5 (by have:=HB0.out;omega)
 ·have HP:Hid (qB q t=([],r)):=by unfold Hid;rw [play_unread t (by rw [hr];exact h0),hr]
  have TR:(r != 0)=true:=bne_iff_ne.2 h0;clear hX hQ hr hp hg h0;go_enter Tryz.func7,Tryz.ntmps7
  go_wp2_with (first
   | (go_at_call 16;(with_reducible refine(HRD.out _ HG.out).mono ?_);rintro e w2 ⟨⟨a,c,rfl,hf⟩,hb2⟩))
  go_ret2
  exact⟨by rw [HP.out];rfl,hb2⟩
end Go.Proofs.YtpcjkfppacnkgaaGreatDoor
end
