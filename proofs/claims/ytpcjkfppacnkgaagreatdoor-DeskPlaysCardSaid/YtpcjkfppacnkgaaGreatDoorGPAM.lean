/- Contracts and plain facts. -/
import Derived.Test.YtpcjkfppacnkgaaGreatDoorGPAL
import Derived.Handed
import Derived.LaidHandle
import Derived.LaidLaws
import Derived.LaidMore
import Derived.Lay
import Derived.Lib.AppendIntMem
import Derived.Lib.LaidTab
import Derived.MakeChecks
import Derived.Shelf.Vars
import Derived.Stop.LaidErr
import Derived.Test.YtpcjkfppacnkgaaGreatDoorShelf
import Derived.WalkSpells
set_option maxHeartbeats 4000000
set_option maxRecDepth 100000
section
namespace Go.Proofs.YtpcjkfppacnkgaaGreatDoor
open Go Go.RowKit
theorem var_ext {P:Program} {w w':World} (h:Ext w w') {n:String} {cs:Array Value} (hv:w.var? P n=some cs):w'.var? P n=some cs:=by
 unfold World.var? at hv ⊢
 cases hg:P.globalNamed n with
 | none=>rw [hg] at hv;exact hv
 | some g =>
  rw [hg] at hv;simp only [Option.bind_some] at hv ⊢;have hl:g<w.heap.size:=by
   refine Nat.lt_of_not_le fun hn=>?_
   rw [Array.getElem?_eq_none hn] at hv
   cases hv
  rw [h.block g hl];exact hv
structure Glob (w:World):Prop where
 pow:Lib.TabIs Tryz.prog w "internal/strconv.uint64pow10" .u64 Lib.pow10Tab
 spc:Lib.TabIs Tryz.prog w "strings.asciiSpace" .u8 Lib.asciiSpaceTab
 max:∃m,w.cell? ⟨0,0,none⟩=some (.int .i64 m)
 syn:∃ev,w.cell? ⟨3,0,none⟩=some ev∧(ev=.nilIface∨∃te pe,ev=.iface te pe)
 rng:∃ev,w.cell? ⟨4,0,none⟩=some ev∧(ev=.nilIface∨∃te pe,ev=.iface te pe)
theorem Glob.ext {w w':World} (h:Glob w) (he:Ext w w'):Glob w':=by
 obtain⟨h1,h2,⟨m,h3⟩,⟨e4,h4,h4'⟩,e5,h5,h5'⟩:=h;exact⟨var_ext he h1,var_ext he h2,⟨m,eC he h3⟩,⟨e4,eC he h4,h4'⟩,e5,eC he h5,h5'⟩
def zAc:List UInt8:=[112,117,115,104,32,112,111,112,32,108,111,97,100,32,115,116,111,114,101,32,97,100,100,32,115,117,98,32,109,117,108,32,108,101,115,115,32,115,97,109,101,32,106,117,109,112,32,122,101,114,111,32,99,97,108,108,32,114,101,116,117,114,110,32,109,97,107,101,32,114,101,115,117,109,101,32,121,105,101,108,100,32,112,117,116]
theorem namesLine_fields:Lib.fields zAc=kC:=by decide +kernel
theorem names_ascii:∀(j:Nat) b,zAc[j]?=some b→b.toNat<128:=by
 intro j b h;have hm:∀b∈zAc,b.toNat<128:=by decide +kernel
 exact hm b (List.mem_of_getElem? h)
theorem namesI_any (w:World) (hg:Glob w):Calls Tryz.prog 37 #[] w fun e w'=>∃v,e=.returned v∧Strs w' (fun b=>w.heap.size≤b) v kC∧Ext w w':=by
 have HF:Hid (Calls Tryz.prog 89 #[.string ⟨zAc.toArray⟩] w fun e w'=>∃v,e=.returned v∧Strs w' (fun b=>w.heap.size≤b) v kC∧Ext w w'):=by
  refine(Tryz.strings_Fields ⟨zAc.toArray⟩ w (by decide) names_ascii hg.spc).mono ?_;rintro e w' ⟨rfl,rfl⟩;have hf:Lib.fields (⟨zAc.toArray⟩:ByteArray).data.toList=kC:=namesLine_fields;rw [hf];refine⟨_,rfl,⟨some ⟨w.heap.size,0,none⟩,17,rfl,by decide,by decide,fun i hi=>⟨w.heap.size,0,rfl,Nat.le_refl _,?_⟩⟩,(eR w).alloc _⟩;rw [World.cell?_alloc_new,List.getElem?_toArray,List.getElem?_map,Nat.zero_add,Nat.mul_one,List.getElem?_eq_getElem hi];rfl
 clear hg;unfold zAc at HF;go_enter Tryz.func37,Tryz.ntmps37
 go_wp2_with (first
  | (go_at_call 89;refine HF.out.mono ?_;rintro e w1 ⟨v,rfl,hv,hx⟩))
 go_ret;exact⟨_,rfl,hv,hx⟩
theorem zEu (k:Int) (w:World):Calls Tryz.prog 39 #[.int .i64 k] w fun e w'=>e=.returned (.bool (jG k))∧Ext w w':=by
 have hb:([0,2,3,9,10,11,13]:List Int).contains k=jG k:=by
  unfold jG;simp only [List.contains_cons,List.contains_nil,Bool.or_false,Bool.or_assoc]
 have HF:Hid (Calls Tryz.prog 90 #[.slice (some ⟨w.heap.size,0,none⟩) 7 7,.int .i64 k] (w.alloc (.cells #[.int .i64 0,.int .i64 2,.int .i64 3,.int .i64 9,.int .i64 10,.int .i64 11,.int .i64 13] 3)) fun e w'=>e=.returned (.bool (jG k))∧w'=w.alloc (.cells #[.int .i64 0,.int .i64 2,.int .i64 3,.int .i64 9,.int .i64 10,.int .i64 11,.int .i64 13] 3)):=by
  refine(Tryz.slices_Contains_int w.heap.size 0 7 7 [0,2,3,9,10,11,13] k _ (by decide) (by decide) ?_).mono ?_
  ·intro j hj;rw [World.cell?_alloc_new]
   match j,hj with
   | 0,_=>rfl
   | 1,_=>rfl
   | 2,_=>rfl
   | 3,_=>rfl
   | 4,_=>rfl
   | 5,_=>rfl
   | 6,_=>rfl
   | j+7,h=>exact absurd h (by simp)
  ·rintro e w' ⟨rfl,rfl⟩;exact⟨by rw [←hb];rfl,rfl⟩
 clear hb;go_enter Tryz.func39,Tryz.ntmps39
 go_wp2_with (first
  | (go_at_call 90;refine HF.out.mono ?_;rintro e w1 ⟨rfl,rfl⟩))
 go_ret;exact⟨rfl,(eR w).alloc _⟩
end Go.Proofs.YtpcjkfppacnkgaaGreatDoor
end
section
namespace Go.Proofs.YtpcjkfppacnkgaaGreatDoor
open Go Go.RowKit Go.ChangeShapes Go.WideShapes Go.ChangeAt
abbrev zHy:List (String × DataW Unit):=[("math/bits.deBruijn32tab",Rows.laid_math_bits_deBruijn32tab),("math/bits.deBruijn64tab",Rows.laid_math_bits_deBruijn64tab),("internal/strconv.uint64pow10",Rows.laid_internal_strconv_uint64pow10),("unicode/utf8.acceptRanges",Rows.laid_unicode_utf8_acceptRanges),("strconv.ErrRange",Rows.laid_strconv_ErrRange),("strconv.ErrSyntax",Rows.laid_strconv_ErrSyntax),("unicode.White_Space",Rows.laid_unicode_White_Space),("strings.asciiSpace",Rows.laid_strings_asciiSpace),("unicode/utf8.first",Rows.laid_unicode_utf8_first)]
theorem star_err: "*"++ "errors.errorString"= "*errors.errorString":=by decide
theorem row_err (u:TypeId) (h:Tryz.prog.typeName? 3 u=some "*errors.errorString"):u=245 :=
 typeName_ptr_named (nm:= "errors.errorString") (by rw [star_err];kernel_rfl) (by kernel_rfl) (by decide) u (by rw [star_err];exact h)
theorem pow_tab:(Rows.laid_internal_strconv_uint64pow10:DataW Unit)=Lib.tabData .u64 Lib.pow10Tab:=by kernel_rfl
theorem spc_tab:(Rows.laid_strings_asciiSpace:DataW Unit)=Lib.tabData .u8 Lib.asciiSpaceTab:=by kernel_rfl
theorem cell_of_var {W:World} {n:String} {g:Nat} {v:Value} (hg:Tryz.prog.globalNamed n=some g) (h:W.var? Tryz.prog n=some #[v]):W.cell? ⟨g,0,none⟩=some v:=by
 simpa using World.var?_cell hg h 0
theorem glob_of {W:World} (hS:W.ShapedOpen Tryz.prog) (h:laidMetH Tryz.prog zHy W):Glob W:=by
 rw [MakeChecks.laidMetH_plain _ _ _ (by kernel_rfl)] at h;have h3:=h.tail.tail;have h5:=h3.tail.tail;have h6:=h5.tail;have h8:=h6.tail.tail;rw [pow_tab] at h3;rw [spc_tab] at h8;obtain⟨ar,sr,hr,_,_,_⟩:=laid_sentinel h5 (g:=4) (ti:=70) (tp:=245) (te:=247) (ts:=9) (by kernel_rfl) (by kernel_rfl) Tryz.underlying70 row_err Tryz.underlying245 Tryz.underlying247 rfl rfl Tryz.underlying9 (by kernel_rfl) (by kernel_rfl);obtain⟨asx,ss,hs,_,_,_⟩:=laid_sentinel h6 (g:=3) (ti:=70) (tp:=245) (te:=247) (ts:=9) (by kernel_rfl) (by kernel_rfl) Tryz.underlying70 row_err Tryz.underlying245 Tryz.underlying247 rfl rfl Tryz.underlying9 (by kernel_rfl) (by kernel_rfl);exact⟨Lib.tabIs_of_head (g:=5) (t:=248) (e:=212) (n:=20) (by kernel_rfl) (by kernel_rfl) (by kernel_rfl) (by kernel_rfl) (by kernel_rfl) (by kernel_rfl) h3,
  Lib.tabIs_of_head (g:=1) (t:=163) (e:=5) (n:=256) (by kernel_rfl) (by kernel_rfl) (by kernel_rfl) (by kernel_rfl) (by kernel_rfl) (by kernel_rfl) h8,
  cell_of_shapedOpen_int (zero:=#[.int .i64 0]) hS (of_decide_eq_true (by kernel_rfl)) (by kernel_rfl) rfl (by kernel_rfl) (by kernel_rfl) Tryz.underlying3,
  ⟨_,cell_of_var (by kernel_rfl) hs,.inr ⟨_,_,rfl⟩⟩,⟨_,cell_of_var (by kernel_rfl) hr,.inr ⟨_,_,rfl⟩⟩⟩
theorem lift_laid {H:Type} {enc:TypeId × Value→H} {a:Assume} {os:Os} {f:FuncId} {fn:Func} {s:ChangeSpec} {conds:List PathCond} {apart fresh handsOn again:Bool}
  (own:ownKnob Tryz.prog.godebug=none) (started:os.Started) (noInit:Tryz.prog.inits.idxOf? f=none) (hfn:Tryz.prog.funcs[f]?=some fn)
  (witness:∃(w:World) (tape:Tape) (i:Input),w.os=os∧(w.forCall tape i).Shaped Tryz.prog∧i.vars=[]∧Input.okWide Tryz.prog (w.forCall tape i) .any w.heap.size f i ∧
   ((s.pre enc Tryz.prog fn conds apart (w.forCall tape i).memory i.args∧laidMetH Tryz.prog zHy (w.forCall tape i).memory)∧sizedMet enc Tryz.prog fn (OpenSpec.ofChange s) apart (w.forCall tape i).memory i.args)∧a.holds Tryz.prog (lone (Frame.enter Tryz.prog f i.args .normal) [] (w.forCall tape i)))
  (contract:∀(W:World) (base:Nat) (args:Array Value) (ds gs:List (DataW H)) (before:List MemPlace),
   (∀(j:Nat) t v,fn.params[j]?=some t→args[j]?=some v→Value.okWide Tryz.prog W .any base t v) →
   DataW.Whole enc Tryz.prog fn.params.toList s.vars apart W args.toList ds gs before →
   (DataW.weightsEach Tryz.prog (fn.params.toList++s.plain.varTypes Tryz.prog) (ds++gs)).all (·≤reachBytes)=true→Glob W →
   Calls Tryz.prog f args W fun e W'=>∃v,e=.returned v∧s.post enc Tryz.prog fn apart fresh handsOn again W args v W') :
  ReturnsInHanded a Tryz.checked os f .any (fun w args=>(s.pre enc Tryz.prog fn conds apart w args∧laidMetH Tryz.prog zHy w)∧sizedMet enc Tryz.prog fn (OpenSpec.ofChange s) apart w args) (s.post enc Tryz.prog fn apart fresh handsOn again):=by
 refine returnsInHanded_of_calls (C:=Tryz.checked) own started noInit witness ?_;intro w tape i _ hsh _ hok hpre hholds;obtain⟨_,_,_,fn',hfn',_,_,_,_,hval⟩:=hok;have e:fn'=fn:=Option.some.inj (hfn'.symm.trans hfn);subst e;obtain⟨⟨⟨ds,gs,before,hw,hc⟩,hx⟩,hz⟩:=hpre;have hw':=DataW.Whole.of_heap (w':=w.forCall tape i) (by rfl) hw;refine(contract (w.forCall tape i) w.heap.size i.args ds gs before hval hw' (hz.weights hw) (glob_of hsh (hx.of_heap (by rfl)))).mono fun e W' ⟨v,he,hp⟩=>?_
 subst he;exact ChangeSpec.post_blind hp
theorem laid_met (os:Os) (args:Array Value):laidMetH Tryz.prog zHy ((World.laidAll Tryz.prog os zHy).forCall (fun _ _=>0) ⟨#[],args,[]⟩).memory:=by
 rw [MakeChecks.laidMetH_plain _ _ _ (by kernel_rfl)];exact laidMet_laidAll _ (by kernel_rfl) (by kernel_rfl)
theorem laid_shaped (os:Os) (args:Array Value):((World.laidAll Tryz.prog os zHy).forCall (fun _ _=>0) ⟨#[],args,[]⟩).Shaped Tryz.prog:=World.shaped_of_ZipB (by kernel_rfl) (by kernel_rfl)
end Go.Proofs.YtpcjkfppacnkgaaGreatDoor
end
section
namespace Go.Proofs.YtpcjkfppacnkgaaGreatDoor
open Go Go.RowKit
def jH (x:By) (l:List Int):By:=x++l.flatMap fun n=>32::Lib.itoa n
theorem wordsI_step (x:By) {l:List Int} {k:Nat} (h:k<l.length):jH x (l.take (k+1))=jH x (l.take k)++32::Lib.itoa l[k]:=by
 unfold jH;rw [List.take_succ_eq_append_getElem h,List.flatMap_append];simp
theorem zGt (x:By):∀(l:List Int),(∀n∈l,I64 n)→(jH x l).length≤x.length+22 * l.length
 | [],_=>by simp [jH]
 | n::l,h=>by
  have h1:=zGt x l (fun m hm=>h m (by simp [hm]));have h2:=h n (by simp);unfold I64 at h2;have h3:=Lib.itoa_length_le n h2.1 h2.2;unfold jH at h1 ⊢;simp only [List.flatMap_cons,List.length_append,List.length_cons] at h1 ⊢;omega
theorem zFi (n:Int) (w:World) (hn:I64 n) (hg:Glob w):Calls Tryz.prog 75 #[.int .i64 n] w fun e w'=>e=.returned (.string ⟨(Lib.itoa n).toArray⟩)∧Ext w w':=by
 refine(Tryz.strconv_Itoa n hn.1 hn.2 w hg.pow).mono ?_;rintro e w' ⟨rfl,k,os,rfl⟩;exact⟨rfl,Lib.below_grow _ w (Nat.le_refl _) k os⟩
theorem zDg (x:By) (l:List Int) (v:Value) (S:Nat→Prop) (w:World) (hg:Glob w) (hv:Ints w S v l) (hx:x.length≤1000) (hl:l.length≤10) :
  Calls Tryz.prog 38 #[.string ⟨x.toArray⟩,v] w fun e w'=>e=.returned (.string ⟨(jH x l++[10]).toArray⟩)∧Ext w w':=by
 have HV:=eH hv;have HG:=eH hg;have hcat:=jS;have hlen:=zAo;have hI:∀n∈l,I64 n:=fun n hn=>by
  obtain⟨i,hi,rfl⟩:=List.getElem_of_mem hn;obtain⟨b,o,cap,_,_,_,_,_,h⟩:=Sl.get hv hi;exact h
 have HI:=eH hI;clear hI;obtain⟨a,cap,rfl,hcap,hby,_⟩:=hv;clear hg;go_enter Tryz.func38,Tryz.ntmps38
 go_wp2_with fail
 go_loopw [0,9] (fun q0 q9 wr=>∃k:Nat,k≤l.length∧q9=.int .i64 k∧q0=.string ⟨(jH x (l.take k)).toArray⟩∧Ext w wr) (fun _ q _=>l.length - (intOf q).toNat)
 case atStart=>exact⟨0,Nat.zero_le _,rfl,by simp [jH],eR _⟩
 case round =>
  obtain⟨k,hk,rfl,rfl,hb⟩:=hrel;have HB:=eH hb;clear hb;have hsl:=zGt x (l.take k) (fun n hn=>HI.out n (List.mem_of_mem_take hn));have hkk:(l.take k).length≤10:=by simp;omega
  by_cases hlt:k<l.length
  ·have HST:=eH (wordsI_step x hlt);obtain⟨s,hs⟩:∃s,jH x (l.take k)=s:=⟨_,rfl⟩
   rw [hs] at hsl HST;rw [hs];obtain⟨b,o,cap',e0,_,_,_,x0,iN⟩:=(Ints.stays (Ext.stays HB.out) HV.out).get hlt;simp only [Value.slice.injEq] at e0;obtain⟨rfl,-,rfl⟩:=e0;rw [Nat.mul_one] at x0;generalize l[k]=n at *;have hdl:(Lib.itoa n).length≤21:=Lib.itoa_length_le n iN.1 iN.2;obtain⟨d,hd⟩:∃d,Lib.itoa n=d:=⟨_,rfl⟩
   have HD:=eH hd;rw [hd] at hdl HST;have n1:¬9223372036854775807<1+d.length:=by omega
   have n2:¬9223372036854775807<s.length+(1+d.length):=by omega
   clear hd hs
   go_wp2_with (first
    | (go_at_call 75;(with_reducible refine(zFi _ _ iN (HG.out.ext HB.out)).mono ?_);rintro e w3 ⟨rfl,hb3⟩;rw [HD.out]))
   go_roundw
   case rel=>exact⟨k+1,by omega,by go_num,by rw [HST.out];simp [cat],HB.out.trans hb3⟩
   case measure=>simp [intOf];omega
  ·obtain rfl:k=l.length:=by omega
   rw [List.take_length] at hsl ⊢;obtain⟨s,hs⟩:∃s,jH x l=s:=⟨_,rfl⟩
   have HS:=eH hs;rw [hs] at hsl ⊢;have n1:¬9223372036854775807<s.length+1:=by omega
   clear hlt hs
   go_wp2_with fail
   go_ret;exact⟨by rw [HS.out];rfl,HB.out⟩
end Go.Proofs.YtpcjkfppacnkgaaGreatDoor
end
section
namespace Go.Proofs.YtpcjkfppacnkgaaGreatDoor
open Go Go.RowKit
theorem infoStr:(Tryz.prog.info? 9).map (fun i=>(i.zero,i.size,i.bytes))=some (some (.string ⟨#[]⟩),1,16):=by kernel_rfl
theorem src_txt (w:World) (x:By) (t:TypeId):qL (w.alloc (.cells #[txtV x] t)) 1 (.slice (some ⟨w.heap.size,0,none⟩) 1 1) 1 (txtF x):=by
 refine⟨_,1,rfl,rfl,by simp [txtF,txtV,Value.oneCell'],.inr ⟨_,rfl,fun j u hj=>?_⟩⟩
 match j,hj with
 | 0,hj =>
  cases hj
  rw [Addr.add_zero'];exact World.cell?_alloc_new w _ _ 0
theorem zEb (s:By) (a b:Nat):(⟨s.toArray⟩:ByteArray).extract a b=⟨((s.take b).drop a).toArray⟩:=by
 apply ByteArray.ext;simp [ByteArray.data_extract,List.drop_take]
theorem yN (s:By):(⟨s.toArray⟩:ByteArray).size=s.length:=by simp [ByteArray.size]
theorem get_by (s:By) (k:Nat) (h:k<(⟨s.toArray⟩:ByteArray).size) (h':k<s.length):(⟨s.toArray⟩:ByteArray)[k]'h=s[k]:=rfl
theorem zHp (c:UInt8) {s:By} {k f:Nat} (h:k<s.length) (hf:f≤k) (hc:s[k]≠c):kJ c ((s.take k).drop f) (s.drop k)=kJ c ((s.take (k+1)).drop f) (s.drop (k+1)):=by
 rw [List.drop_eq_getElem_cons h,kJ,if_neg hc,List.take_succ_eq_append_getElem h,List.drop_append_of_le_length (by simp;omega)]
theorem splitGo_hit (c:UInt8) {s:By} {k f:Nat} (h:k<s.length) (hc:s[k]=c):kJ c ((s.take k).drop f) (s.drop k)=(s.take k).drop f::kJ c ((s.take (k+1)).drop (k+1)) (s.drop (k+1)):=by
 have e:(s.take (k+1)).drop (k+1)=[]:=List.drop_eq_nil_of_le (by simp;omega);rw [List.drop_eq_getElem_cons h,kJ,if_pos hc,e]
theorem splitGo_end (c:UInt8) (s:By) (f:Nat):kJ c ((s.take s.length).drop f) (s.drop s.length)=[(s.take s.length).drop f]:=by
 rw [List.drop_length,kJ]
def SplI (s:By) (c:UInt8) (k f:Nat) (L:List By):Prop:=f≤k∧L.length≤k∧(k≤s.length→zT c s=L++kJ c ((s.take k).drop f) (s.drop k))∧(k=s.length+1→L=zT c s)
theorem split_any (s:By) (c:UInt8) (w:World) (hl:s.length≤100000) :
  Calls Tryz.prog 51 #[txtV s,.int .u8 c.toNat] w fun e w'=>∃v,e=.returned v∧RowAt w' w.heap.size 1 v (zT c s).length ((zT c s).flatMap txtF)∧(zT c s).length≤s.length+1∧Ext w w':=by
 obtain⟨X,hX⟩:∃X:ByteArray,(⟨s.toArray⟩:ByteArray)=X:=⟨_,rfl⟩
 have hN:X.size=s.length:=by rw [←hX];exact yN s
 have HX:=eH hX;obtain⟨i0,hi0,hz0,hz1,hz2⟩:=info_parts infoStr;change Calls Tryz.prog 51 #[.string ⟨s.toArray⟩,.int .u8 c.toNat] w _;rw [hX];clear hX;go_enter Tryz.func51,Tryz.ntmps51
 go_wp2_with fail
 go_loopw [5,6,7] (fun q5 q6 q7 wr=>∃(k f:Nat) (L:List By),q7=.int .i64 k∧q6=.int .i64 f∧k≤s.length+1∧SplI s c k f L∧Ext w wr∧RowAt wr w.heap.size 1 q5 L.length (L.flatMap txtF)) (fun _ _ q7 _=>s.length+1 - (intOf q7).toNat)
 case atStart=>exact⟨0,0,[],rfl,rfl,by omega,⟨Nat.le_refl _,Nat.zero_le _,fun _=>by simp [zT],fun h=>by omega⟩,eR _,RowAt.nil _ _ _ _⟩
 case round =>
  obtain⟨k,f,L,rfl,rfl,hk,hsp,hb,hrow⟩:=hrel;have HSP:=eH hsp;have HB:=eH hb;have HROW:=eH hrow;have hf:=hsp.1;have hL:=hsp.2.1;obtain⟨ar,capr,rfl,_,_⟩:=hrow.shape;have HS7:∀x:By,Hid (w.heap.size≤(wr.alloc (.cells #[txtV x] 9)).heap.size):=fun _=>by unfold Hid;exact Nat.le_trans hb.size (((eR wr).alloc _).size)
  clear hsp hb hrow;by_cases hlt:k≤s.length
  ·have hEX:X.extract f k=⟨((s.take k).drop f).toArray⟩:=by rw [←HX.out];exact zEb s f k
   by_cases he:k=s.length
   ·have TE:((k:Int) == (s.length:Int))=true:=by simp [he]
    have HNX:Hid (SplI s c (k+1) (k+1) (L++[(s.take k).drop f])):=⟨Nat.le_refl _,by simp;omega,fun h=>by omega,fun _=>by rw [HSP.out.2.2.1 hlt,he,splitGo_end]⟩
    generalize (s.take k).drop f=x at *;clear he
    go_wp2_with (first
     | (at_builtin;refine zE rfl _ _ 79 rfl w.heap.size 9 i0 (.string ⟨#[]⟩) 1 16 Tryz.underlying79 hi0 hz0 hz1 hz2 rfl (by decide) _ _ _ rfl (by exact HROW.out.ext ((eR _).alloc _) (by decide)) 1 (txtF x) (src_txt _ _ _) (by unfold maxLen;omega) (by omega) (by exact(HS7 x).out) ?_;intro v1 Wv1 rv1;have RV:=eH rv1;obtain⟨a9,cap9,rfl,_,_⟩:=rv1.1.shape;have HX9:=eH (Chg.ext_from (HB.out.alloc (.cells #[txtV x] 9)) RV.out.2.1 (fun g e=>HROW.out.le g e));clear rv1))
    go_roundw
    case rel=>exact⟨k+1,k+1,L++[x],by go_num,by go_num,by omega,HNX.out,HX9.out,by rw [List.length_append,List.length_singleton,List.flatMap_append,List.flatMap_singleton];exact RV.out.1⟩
    case measure=>simp [intOf];omega
   ·have hks:k<s.length:=by omega
    have TE:((k:Int) == (s.length:Int))=false:=beq_eq_false_iff_ne.2 (by omega);have HGET:X[k]'(by omega)=s[k]:=by
     have:∀(Y:ByteArray) (hY:(⟨s.toArray⟩:ByteArray)=Y) (h:k<Y.size),Y[k]'h=s[k]:=fun Y hY h=>by subst hY;exact get_by s k h hks
     exact this X HX.out _
    by_cases hc:s[k]=c
    ·have HNX:Hid (SplI s c (k+1) (k+1) (L++[(s.take k).drop f])):=⟨Nat.le_refl _,by simp;omega,fun h=>by rw [HSP.out.2.2.1 hlt,splitGo_hit c hks hc,List.append_assoc,List.singleton_append],fun h=>by omega⟩
     have TC:(((s[k].toNat:Nat):Int) == (c.toNat:Int))=true:=by simp [hc]
     generalize (s.take k).drop f=x at *;generalize s[k]=b at *;clear he hc
     go_wp2_with (first
      | (at_builtin;refine zE rfl _ _ 79 rfl w.heap.size 9 i0 (.string ⟨#[]⟩) 1 16 Tryz.underlying79 hi0 hz0 hz1 hz2 rfl (by decide) _ _ _ rfl (by exact HROW.out.ext ((eR _).alloc _) (by decide)) 1 (txtF x) (src_txt _ _ _) (by unfold maxLen;omega) (by omega) (by exact(HS7 x).out) ?_;intro v1 Wv1 rv1;have RV:=eH rv1;obtain⟨a9,cap9,rfl,_,_⟩:=rv1.1.shape;have HX9:=eH (Chg.ext_from (HB.out.alloc (.cells #[txtV x] 9)) RV.out.2.1 (fun g e=>HROW.out.le g e));clear rv1))
     go_roundw
     case rel=>exact⟨k+1,k+1,L++[x],by go_num,by go_num,by omega,HNX.out,HX9.out,by rw [List.length_append,List.length_singleton,List.flatMap_append,List.flatMap_singleton];exact RV.out.1⟩
     case measure=>simp [intOf];omega
    ·have HNX:Hid (SplI s c (k+1) f L):=⟨by omega,by omega,fun h=>by rw [HSP.out.2.2.1 hlt,zHp c hks hf hc],fun h=>by omega⟩
     have TC:(((s[k].toNat:Nat):Int) == (c.toNat:Int))=false:=beq_eq_false_iff_ne.2 (fun e=>hc (UInt8.toNat_inj.1 (by omega)));generalize s[k]=b at *;clear he hc hEX
     go_wp2_with fail
     go_roundw
     case rel=>exact⟨k+1,f,L,by go_num,rfl,by omega,HNX.out,HB.out,HROW.out⟩
     case measure=>simp [intOf];omega
  ·obtain rfl:k=s.length+1:=by omega
   have HL:Hid (L=zT c s):=HSP.out.2.2.2 rfl;clear hlt
   go_wp2_with fail
   go_ret;exact⟨_,rfl,by rw [←HL.out];exact HROW.out,by rw [←HL.out];exact hL,HB.out⟩
end Go.Proofs.YtpcjkfppacnkgaaGreatDoor
end
