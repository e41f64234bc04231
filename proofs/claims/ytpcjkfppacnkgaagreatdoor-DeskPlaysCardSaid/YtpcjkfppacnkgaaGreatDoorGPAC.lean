/- Contracts and plain facts. -/
import Derived.Test.YtpcjkfppacnkgaaGreatDoorGPAA
set_option maxHeartbeats 4000000
set_option maxRecDepth 100000
namespace Go.Proofs.YtpcjkfppacnkgaaGreatDoor
open Go Go.RowKit
theorem known_any (k:Int) (w:World) :
  Calls Tryz.prog 122 #[.int .i64 k] w fun e w'=>e=.returned (.bool (knownB k))∧w=w':=by
 unfold knownB;go_enter Tryz.func122,Tryz.ntmps122
 go_wp2
 all_goals (go_ret;refine⟨zHr ?_,rfl⟩;rw [Bool.eq_iff_iff];simp<;>omega)
theorem kS (k a b:Int) (w:World) :
  Calls Tryz.prog 62 #[.int .i64 k,.int .i64 a,.int .i64 b] w fun e w'=>e=.returned (.bool (decide (a≤k∧k≤b)))∧w=w':=by
 go_enter Tryz.func62,Tryz.ntmps62
 go_wp2
 all_goals (go_ret;refine⟨zHr ?_,rfl⟩;rw [Bool.eq_iff_iff];simp<;>omega)
theorem uX (a l:Int) (s:Value) (code:List GOp) (w:World) :
  Calls Tryz.prog 120 #[.agg #[.int .i64 a,.int .i64 l,s]] w fun e w'=>e=.returned (.bool (qO ⟨a,l,code⟩))∧Ext w w':=by
 unfold qO;go_enter Tryz.func120,Tryz.ntmps120
 go_wp2
 all_goals (go_ret;refine⟨zHr ?_,(eR _).alloc _⟩;rw [Bool.eq_iff_iff];simp<;>omega)
theorem qN (a l:Int) (s:Value) (code:List GOp) (w:World) :
  Calls Tryz.prog 93 #[.agg #[.int .i64 a,.int .i64 l,s]] w fun e w'=>e=.returned (.bool (!qO ⟨a,l,code⟩))∧Ext w w':=by
 unfold qO;go_enter Tryz.func93,Tryz.ntmps93
 go_wp2
 all_goals (go_ret;refine⟨zHr ?_,(eR _).alloc _⟩;rw [Bool.eq_iff_iff];simp<;>omega)
def zDv:Array Value:=#[.int .i64 0,.int .i64 1,.func (.func 151) #[] #[],.int .i64 1,.int .i64 0,.func (.func 150) #[] #[],.int .i64 0,.int .i64 1,.func (.func 152) #[] #[],.int .i64 1,.int .i64 0,.func (.func 152) #[] #[],.int .i64 2,.int .i64 1,.func (.func 150) #[] #[],.int .i64 2,.int .i64 1,.func (.func 150) #[] #[],.int .i64 2,.int .i64 1,.func (.func 150) #[] #[],.int .i64 2,.int .i64 1,.func (.func 150) #[] #[],.int .i64 2,.int .i64 1,.func (.func 150) #[] #[],.int .i64 0,.int .i64 0,.func (.func 153) #[] #[],.int .i64 1,.int .i64 0,.func (.func 153) #[] #[],.int .i64 0,.int .i64 1,.func (.func 154) #[] #[],.int .i64 1,.int .i64 0,.func (.func 150) #[] #[],.int .i64 0,.int .i64 1,.func (.func 154) #[] #[],.int .i64 2,.int .i64 1,.func (.func 150) #[] #[],.int .i64 1,.int .i64 1,.func (.func 150) #[] #[],.int .i64 1,.int .i64 0,.func (.func 150) #[] #[]]
def kindFn:List Nat:=[151,150,152,152,150,150,150,150,150,153,153,154,150,154,150,150,150]
def zFw:List Int:=[0,1,0,1,2,2,2,2,2,0,1,0,1,0,2,1,1]
def zDw:List Int:=[1,0,1,0,1,1,1,1,1,0,0,1,0,1,1,1,0]
theorem wpList_build_to {P:Program} {ops:Array Oper} {rest:List Oper} {o:Oper} {a:Act} {w:World} {Q:Exit→Act→World→Prop} (hg:o.guard=none) (t:TypeId) (parts:Array (Nat × Operand)) (ho:o.op=.build t parts)
  (cells:Array Value) (hf:P.built t (parts.map fun (i,x)=>(i,a.eval x)).toList=some cells)
  (h:wpList P ops Q rest (a.put o.dst (.agg cells)) w):wpList P ops Q (o::rest) a w :=
 wpList_build hg t parts ho (by rw [hf];rfl) (by rw [hf];exact h)
theorem kinds_any (w:World) :
  Calls Tryz.prog 121 #[] w fun e w'=>e=.returned (.agg zDv)∧Ext w w':=by
 obtain⟨R,hR⟩:∃R:Array Value,Hid (zDv=R):=⟨_,rfl⟩
 rw [hR.out];go_enter Tryz.func121,Tryz.ntmps121
 go_wp2_with (first | (refine wpList_build_to rfl 156 _ rfl R ?c1 ?_;case c1=>(rw [←hR.out];kernel_rfl)) | (refine wpList_store_row rfl 156 _ _ rfl w.heap.size R rfl rfl _ _ (heap_alloc2_old _ _ _) (by rw [←hR.out];kernel_rfl) (by rw [←hR.out];rfl) (by rw [←hR.out];kernel_rfl) ?_))
 refine bodyPost_ret (v:=.agg R) (results_cell_row rfl _ _ w.heap.size _ R (0,0) _ rfl (setRow_heap _ _ _ _ _ _ (heap_alloc2_old _ _ _)) rfl rfl (by rw [←hR.out];kernel_rfl)) rfl ⟨rfl,?_⟩;exact(((eR _).alloc _).alloc _).setRow (Nat.le_refl _) _
theorem jQ (a:Option Addr) (len cap:Nat) (A L:Int) (c:Option Addr) (n m:Nat) (w:World) :
  Calls Tryz.prog 150 #[.slice a len cap,.agg #[.int .i64 A,.int .i64 L,.slice c n m]] w fun e w'=>e=.returned (.int .i64 0)∧Ext w w':=by
 go_enter Tryz.func150,Tryz.ntmps150
 go_wp2
 go_ret;exact⟨rfl,(eR _).alloc _⟩
theorem kinds2_any (a:Option Addr) (len cap:Nat) (A L:Int) (c:Option Addr) (n m:Nat) (w:World) :
  Calls Tryz.prog 151 #[.slice a len cap,.agg #[.int .i64 A,.int .i64 L,.slice c n m]] w fun e w'=>e=.returned (.int .i64 999)∧Ext w w':=by
 go_enter Tryz.func151,Tryz.ntmps151
 go_wp2
 go_ret;exact⟨rfl,(eR _).alloc _⟩
theorem kinds3_any (a:Option Addr) (len cap:Nat) (A L:Int) (c:Option Addr) (n m:Nat) (h0:0≤L) (h1:L≤4) (w:World) :
  Calls Tryz.prog 152 #[.slice a len cap,.agg #[.int .i64 A,.int .i64 L,.slice c n m]] w fun e w'=>e=.returned (.int .i64 (L - 1))∧Ext w w':=by
 go_enter Tryz.func152,Tryz.ntmps152
 go_wp2
 go_ret;exact⟨rfl,(eR _).alloc _⟩
theorem kinds4_any (a:Option Addr) (len cap:Nat) (A L:Int) (c:Option Addr) (n m:Nat) (h0:n≤24) (w:World) :
  Calls Tryz.prog 153 #[.slice a len cap,.agg #[.int .i64 A,.int .i64 L,.slice c n m]] w fun e w'=>e=.returned (.int .i64 ((n:Int) - 1))∧Ext w w':=by
 go_enter Tryz.func153,Tryz.ntmps153
 go_wp2
 go_ret;exact⟨rfl,(eR _).alloc _⟩
theorem kinds5_any (a:Option Addr) (len cap:Nat) (A L:Int) (c:Option Addr) (n m:Nat) (h0:len≤140737488355328) (w:World) :
  Calls Tryz.prog 154 #[.slice a len cap,.agg #[.int .i64 A,.int .i64 L,.slice c n m]] w fun e w'=>e=.returned (.int .i64 ((len:Int) - 1))∧Ext w w':=by
 go_enter Tryz.func154,Tryz.ntmps154
 go_wp2
 go_ret;exact⟨rfl,(eR _).alloc _⟩
theorem most_any (k:Int) (hk0:0≤k) (hk:k≤16) (f:GFunc) (p:List GFunc) (a:Option Addr) (cap:Nat) (hl:p.length≤140737488355328)
  (A:Int) (c:Option Addr) (m:Nat) (h0:0≤f.locals) (h1:f.locals≤4) (hn:f.code.length≤24) (w:World) :
  Calls Tryz.prog (kindFn.getD k.toNat 0) #[.slice a p.length cap,.agg #[.int .i64 A,.int .i64 f.locals,.slice c f.code.length m]] w fun e w'=>e=.returned (.int .i64 (qJ p f k))∧Ext w w':=by
 obtain⟨j,rfl⟩:=Int.eq_ofNat_of_zero_le hk0;have hj:j<17:=by omega
 match j,hj with
 | 0,_=>exact kinds2_any a p.length cap A f.locals c f.code.length m w
 | 1,_=>exact jQ a p.length cap A f.locals c f.code.length m w
 | 2,_=>exact kinds3_any a p.length cap A f.locals c f.code.length m h0 h1 w
 | 3,_=>exact kinds3_any a p.length cap A f.locals c f.code.length m h0 h1 w
 | 4,_=>exact jQ a p.length cap A f.locals c f.code.length m w
 | 5,_=>exact jQ a p.length cap A f.locals c f.code.length m w
 | 6,_=>exact jQ a p.length cap A f.locals c f.code.length m w
 | 7,_=>exact jQ a p.length cap A f.locals c f.code.length m w
 | 8,_=>exact jQ a p.length cap A f.locals c f.code.length m w
 | 9,_=>exact kinds4_any a p.length cap A f.locals c f.code.length m hn w
 | 10,_=>exact kinds4_any a p.length cap A f.locals c f.code.length m hn w
 | 11,_=>exact kinds5_any a p.length cap A f.locals c f.code.length m hl w
 | 12,_=>exact jQ a p.length cap A f.locals c f.code.length m w
 | 13,_=>exact kinds5_any a p.length cap A f.locals c f.code.length m hl w
 | 14,_=>exact jQ a p.length cap A f.locals c f.code.length m w
 | 15,_=>exact jQ a p.length cap A f.locals c f.code.length m w
 | 16,_=>exact jQ a p.length cap A f.locals c f.code.length m w
 | (_+17),h=>omega
theorem kind_at (k:Nat) (hk:k<17) (w:World):(Instr.index 156 (.agg zDv) (.int .i64 k)).run Tryz.prog w =
  .ok (.agg #[.int .i64 (zFw.getD k 0),.int .i64 (zDw.getD k 0),.func (.func (kindFn.getD k 0)) #[] #[]]) w:=by
 match k,hk with
 | 0,_=>(show _=_;kernel_rfl)
 | 1,_=>(show _=_;kernel_rfl)
 | 2,_=>(show _=_;kernel_rfl)
 | 3,_=>(show _=_;kernel_rfl)
 | 4,_=>(show _=_;kernel_rfl)
 | 5,_=>(show _=_;kernel_rfl)
 | 6,_=>(show _=_;kernel_rfl)
 | 7,_=>(show _=_;kernel_rfl)
 | 8,_=>(show _=_;kernel_rfl)
 | 9,_=>(show _=_;kernel_rfl)
 | 10,_=>(show _=_;kernel_rfl)
 | 11,_=>(show _=_;kernel_rfl)
 | 12,_=>(show _=_;kernel_rfl)
 | 13,_=>(show _=_;kernel_rfl)
 | 14,_=>(show _=_;kernel_rfl)
 | 15,_=>(show _=_;kernel_rfl)
 | 16,_=>(show _=_;kernel_rfl)
 | (_+17),h=>omega
theorem kindRow_at (k:Nat) (hk:k<17):zDv[k * 3+2]?=some (.func (.func (kindFn.getD k 0)) #[] #[]):=by
 match k,hk with
 | 0,_=>rfl
 | 1,_=>rfl
 | 2,_=>rfl
 | 3,_=>rfl
 | 4,_=>rfl
 | 5,_=>rfl
 | 6,_=>rfl
 | 7,_=>rfl
 | 8,_=>rfl
 | 9,_=>rfl
 | 10,_=>rfl
 | 11,_=>rfl
 | 12,_=>rfl
 | 13,_=>rfl
 | 14,_=>rfl
 | 15,_=>rfl
 | 16,_=>rfl
 | (_+17),h=>omega
theorem kind_call (k:Nat) (hk:k<17) (args:Array Value) (w:World):(callFunc (kindFn[k]?.getD 0) args).run Tryz.prog w=.ok (.enter (kindFn[k]?.getD 0) args) w:=by
 match k,hk with
 | 0,_=>(show _=_;kernel_rfl)
 | 1,_=>(show _=_;kernel_rfl)
 | 2,_=>(show _=_;kernel_rfl)
 | 3,_=>(show _=_;kernel_rfl)
 | 4,_=>(show _=_;kernel_rfl)
 | 5,_=>(show _=_;kernel_rfl)
 | 6,_=>(show _=_;kernel_rfl)
 | 7,_=>(show _=_;kernel_rfl)
 | 8,_=>(show _=_;kernel_rfl)
 | 9,_=>(show _=_;kernel_rfl)
 | 10,_=>(show _=_;kernel_rfl)
 | 11,_=>(show _=_;kernel_rfl)
 | 12,_=>(show _=_;kernel_rfl)
 | 13,_=>(show _=_;kernel_rfl)
 | 14,_=>(show _=_;kernel_rfl)
 | 15,_=>(show _=_;kernel_rfl)
 | 16,_=>(show _=_;kernel_rfl)
 | (_+17),h=>omega
theorem takes_at (p:List GFunc) (x:GOp) (hk:0≤x.kind) (hk':x.kind≤16) (h:x.kind≠11):zFw.getD x.kind.toNat 0=zP p x:=by
 obtain⟨k,a⟩:=x;obtain⟨j,rfl⟩:=Int.eq_ofNat_of_zero_le hk;have hj:j<17:=by simp at hk';omega
 match j,hj with
 | 0,_=>rfl
 | 1,_=>rfl
 | 2,_=>rfl
 | 3,_=>rfl
 | 4,_=>rfl
 | 5,_=>rfl
 | 6,_=>rfl
 | 7,_=>rfl
 | 8,_=>rfl
 | 9,_=>rfl
 | 10,_=>rfl
 | 11,_=>simp at h
 | 12,_=>rfl
 | 13,_=>rfl
 | 14,_=>rfl
 | 15,_=>rfl
 | 16,_=>rfl
 | (_+17),h=>omega
theorem leaves_at (x:GOp) (hk:0≤x.kind) (hk':x.kind≤16):zDw.getD x.kind.toNat 0=kA x:=by
 obtain⟨k,a⟩:=x;obtain⟨j,rfl⟩:=Int.eq_ofNat_of_zero_le hk;have hj:j<17:=by simp at hk';omega
 match j,hj with
 | 0,_=>rfl
 | 1,_=>rfl
 | 2,_=>rfl
 | 3,_=>rfl
 | 4,_=>rfl
 | 5,_=>rfl
 | 6,_=>rfl
 | 7,_=>rfl
 | 8,_=>rfl
 | 9,_=>rfl
 | 10,_=>rfl
 | 11,_=>rfl
 | 12,_=>rfl
 | 13,_=>rfl
 | 14,_=>rfl
 | 15,_=>rfl
 | 16,_=>rfl
 | (_+17),h=>omega
theorem kinds_at (k:Int) (hk:0≤k) (hk':k≤16) (w:World) :
  Calls Tryz.prog 121 #[] w fun e w'=>(∃R,e=.returned (.agg R)∧∀w,(Instr.index 156 (.agg R) (.int .i64 k)).run Tryz.prog w =
   .ok (.agg #[.int .i64 (zFw.getD k.toNat 0),.int .i64 (zDw.getD k.toNat 0),.func (.func (kindFn.getD k.toNat 0)) #[] #[]]) w)∧Ext w w':=by
 refine(kinds_any w).mono fun e w' ⟨he,hb⟩=>⟨⟨_,he,fun w=>?_⟩,hb⟩
 obtain⟨j,rfl⟩:=Int.eq_ofNat_of_zero_le hk;exact kind_at j (by omega) w
theorem opOf_any (p:List GFunc) (v:Value) (S:Nat→Prop) (x:GOp) (w:World) (hp:zM w S v p) (hk:0≤x.kind) (hk':x.kind≤16) (ha:x.kind=11→0≤x.a∧x.a<p.length) :
    Calls Tryz.prog 124 #[v,.agg #[.int .i64 x.kind,.int .i64 x.a]] w fun e w'=>e=.returned (.tuple #[.int .i64 (zP p x),.int .i64 (kA x)])∧Ext w w':=by
  have hl:=leaves_at x hk hk';have ht:=takes_at p x hk hk';have RA:=zF;go_enter Tryz.func124,Tryz.ntmps124
  go_wp2_with fail
  go_cut [6] (fun v6 wr=>∃g,v6=.pointer (some ⟨g,0,none⟩)∧w.heap.size<g∧Ext w wr∧wr.cell? ⟨g,0,none⟩=some (.int .i64 (zFw[x.kind.toNat]?.getD 0))∧wr.cell? ⟨g,1,none⟩=some (.int .i64 (zDw[x.kind.toNat]?.getD 0))∧wr.frozen? ⟨g,0,none⟩=false
     ∧ wr.cell? ⟨w.heap.size,0,none⟩=some (.int .i64 x.kind)∧wr.cell? ⟨w.heap.size,1,none⟩=some (.int .i64 x.a))
  case first =>
    have e0:Ext w (w.alloc (.cells #[.int .i64 x.kind,.int .i64 x.a] 51)):=(eR w).alloc _;clear hl ht
    go_region_held3 (fun w'=>Ext (w.alloc (.cells #[.int .i64 x.kind,.int .i64 x.a] 51)) w'∧∀a,((w.alloc (.cells #[.int .i64 x.kind,.int .i64 x.a] 51)).cell? a).isSome=true→w'.cell? a=(w.alloc (.cells #[.int .i64 x.kind,.int .i64 x.a] 51)).cell? a)
      ((refine ext_both ?_;((repeat first|assumption|exact eR _|exact And.left (by assumption)|apply eA|apply eD|apply eN|refine eS ?_ (by simp<;>omega) _|refine eT ?_ (by assumption));done)))
      ((go_at_call 121;refine(kinds_at x.kind hk hk' _).mono ?_;rintro e w1 ⟨⟨R,rfl,hR⟩,hb⟩;have hc:=Ext.keep hb;have hf:=Ext.keepF hb;have hz:w.heap.size<w1.heap.size:=(by have:=Ext.size hb;simp at this;omega)))
    all_goals (go_wp2_with fail;go_meet;refine⟨_,rfl,?_,?_,?_,?_,?_,?_,?_⟩)
    all_goals first
      | exact hz
      | (simp;done)
      | (go_simp;done)
      | ((repeat first|assumption|exact eR _|exact And.left (by assumption)|apply eA|apply eD|apply eN|refine eS ?_ (by simp<;>omega) _|refine eT ?_ (by assumption));done)
  case rest =>
    obtain⟨g,rfl,hg,hb,c0,c1,f0,x0,x1⟩:=hcut;have HB:=eH hb;clear hb RA;by_cases h11:x.kind=11
    · obtain⟨h0,h1⟩:=ha h11
      obtain⟨b,o,cap,rfl,hcap,_,hf0,_⟩:=hp.get (i:=x.a.toNat) (by omega);have hff:=eC HB.out hf0.2.1;have HT:=eH (show zP p x=p[x.a.toNat].args by unfold zP;simp [h11];rw [List.getElem?_eq_getElem (by omega)];rfl);have HL:=eH hl;clear hp hf0 ha ht hl
      go_wp2
      go_quiet (fail)
      go_wp2
      go_ret2
      refine⟨?_,Ext.drewN (Ext.setCell HB.out (by simp;omega) _) _⟩;rw [HT.out,←HL.out];simp [h11]
    · have HT:=eH (ht h11)
      have HL:=eH hl;clear hp ha ht hl
      go_wp2
      go_quiet (fail)
      go_wp2
      go_ret2
      refine⟨?_,Ext.drewN HB.out _⟩;rw [←HT.out,←HL.out];simp
theorem known_true {k:Int} (h:0≤k) (h':k≤16):knownB k=true:=by unfold knownB;simp;omega
theorem known_false {k:Int} (h:¬(0≤k∧k≤16)):knownB k=false:=by unfold knownB;simp;omega
theorem leaves_any (x:GOp) (w:World) (hk:0≤x.kind) (hk':x.kind≤16) :
  Calls Tryz.prog 96 #[.agg #[.int .i64 x.kind,.int .i64 x.a]] w fun e w'=>e=.returned (.int .i64 (kA x))∧Ext w w':=by
 have e0:Ext w (w.alloc (.cells #[.int .i64 x.kind,.int .i64 x.a] 51)):=(eR w).alloc _;go_enter Tryz.func96,Tryz.ntmps96
 go_wp2
 all_goals (go_ret;refine⟨qS ?_,e0⟩;unfold kA;split<;>simp at *<;>omega)
theorem takes_any (p:List GFunc) (v:Value) (S:Nat→Prop) (x:GOp) (w:World) (hp:zM w S v p) (hk:0≤x.kind) (hk':x.kind≤16) (ha:x.kind=11→0≤x.a∧x.a<p.length) :
  Calls Tryz.prog 95 #[v,.agg #[.int .i64 x.kind,.int .i64 x.a]] w fun e w'=>e=.returned (.int .i64 (zP p x))∧Ext w w':=by
 have e0:Ext w (w.alloc (.cells #[.int .i64 x.kind,.int .i64 x.a] 51)):=(eR w).alloc _;by_cases h11:x.kind=11
 ·obtain⟨h0,h1⟩:=ha h11;obtain⟨k,xa⟩:=x;simp at h11 h0 h1;subst h11;obtain⟨b,o,cap,rfl,hcap,_,hf0,_⟩:=hp.get (i:=xa.toNat) (by omega);have hff:=hf0.2.1;have RA:=zF;clear hp hf0 ha;go_enter Tryz.func95,Tryz.ntmps95
  go_wp2
  go_ret;refine⟨qS ?_,e0⟩;simp [zP];rw [List.getElem?_eq_getElem (by omega)];rfl
 ·clear ha hp;go_enter Tryz.func95,Tryz.ntmps95
  go_wp2
  all_goals first
   | (go_ret;refine⟨qS ?_,e0⟩;unfold zP;(repeat' split)<;>simp at *<;>omega)
   | (exfalso;simp at *;omega)
theorem ok_ops {p:List GFunc} {f:GFunc}:∀{l:List GOp},opsErr p f l=0→∀x∈l,kP p f x=0
 | [],_,x,hx=>absurd hx (by simp)
 | y::l,h,x,hx=>by
  have hy:kP p f y=0:=by
   by_cases h0:kP p f y=0
   ·exact h0
   ·simp [opsErr,h0] at h
  rcases List.mem_cons.1 hx with rfl | hx
  ·exact hy
  ·exact ok_ops (by simpa [opsErr,hy] using h) x hx
theorem ok_facts {p:List GFunc} {f:GFunc} {x:GOp} (h:kP p f x=0):0≤x.kind∧x.kind≤16∧0≤x.a∧x.a≤qJ p f x.kind ∧
  (x.kind=11∨x.kind=13→qO (p.getD x.a.toNat default)=true)∧(x.kind=13→(p.getD x.a.toNat default).args=1):=by
 unfold kP at h;by_cases h1:¬(0≤x.kind∧x.kind≤16)
 ·rw [if_pos h1] at h;omega
 ·rw [if_neg h1] at h;by_cases h2:¬(0≤x.a∧x.a≤qJ p f x.kind)
  ·rw [if_pos h2] at h;omega
  ·rw [if_neg h2] at h;by_cases h3:(x.kind=11∨x.kind=13)∧qO (p.getD x.a.toNat default)=false
   ·rw [if_pos h3] at h;omega
   ·rw [if_neg h3] at h;by_cases h4:x.kind=13∧(p.getD x.a.toNat default).args≠1
    ·rw [if_pos h4] at h;omega
    ·refine⟨by omega,by omega,by omega,by omega,fun hk=>?_,fun hk=>?_⟩
     ·cases hs:qO (p.getD x.a.toNat default)
      ·exact absurd ⟨hk,hs⟩ h3
      ·rfl
     ·by_cases ha:(p.getD x.a.toNat default).args=1
      ·exact ha
      ·exact absurd ⟨hk,ha⟩ h4
end Go.Proofs.YtpcjkfppacnkgaaGreatDoor
