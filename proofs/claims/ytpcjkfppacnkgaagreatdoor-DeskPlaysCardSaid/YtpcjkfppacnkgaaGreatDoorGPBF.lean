/- Contracts and plain facts. -/
import Derived.Test.YtpcjkfppacnkgaaGreatDoorGPBE
import Derived.Lib.AtoiAllCases
import Derived.Lib.AtoiErrMem
set_option maxHeartbeats 4000000
set_option maxRecDepth 100000
namespace Go.Proofs.YtpcjkfppacnkgaaGreatDoor
open Go Go.RowKit
def brkE:PanicEntry:={ v:=.iface 138 (.agg #[]),recovered:=false }
def mustT (b:Bool):Ending:=if b then .returned (.tuple #[]) else .panicked [brkE]
theorem zAe:mustT true=.returned (.tuple #[]):=rfl
theorem uE:mustT false=.panicked [brkE]:=rfl
theorem jL (b:Bool) (w:World):Calls Tryz.prog 50 #[.bool b] w fun e w'=>e=mustT b∧w=w':=by
 cases b with
 | true =>
  go_enter Tryz.func50,Tryz.ntmps50
  go_wp2_with fail
  go_end0;exact⟨rfl,rfl⟩
 | false =>
  go_enter Tryz.func50,Tryz.ntmps50
  go_wp2_with fail
  exact⟨rfl,rfl,rfl⟩
def zEs (s:By) (x:Int) (ev:Value):Prop:=match uI s with
 | some v=>ev=.nilIface∧x=v∧I64 v
 | none=>∃te pe,ev=.iface te pe
theorem atoi_any (s:By) (w:World) (hg:Glob w) (hl:s.length≤100000) :
  Calls Tryz.prog 74 #[.string ⟨s.toArray⟩] w fun e w'=>(∃x ev,e=.returned (.tuple #[.int .i64 x,ev])∧zEs s x ev)∧Ext w w':=by
 have hsz:(⟨s.toArray⟩:ByteArray).size=s.length:=yN s;have hdt:(⟨s.toArray⟩:ByteArray).data.toList=s:=by simp
 rcases h:Lib.atoiAll s with v | _ | _
 ·refine(Tryz.strconv_Atoi_ok ⟨s.toArray⟩ (by omega) v (by rw [hdt];exact h) w).mono ?_;rintro e w' ⟨rfl,hw⟩;refine⟨⟨v,_,rfl,?_⟩,?_⟩
  ·unfold zEs uI;rw [h];exact⟨rfl,rfl,Lib.atoiAll_bounds h⟩
  ·rcases hw with rfl | ⟨t,rfl⟩
   ·exact eR _
   ·exact Lib.bytesWorld_below _ _ _
 ·obtain⟨ev,hv,hev⟩:=hg.syn;refine(Tryz.strconv_Atoi_syntax ⟨s.toArray⟩ (by omega) (by rw [hdt];exact h) ev w hv hev).mono ?_;rintro e w' ⟨N,rfl,_,_,hb⟩;refine⟨⟨_,_,rfl,?_⟩,hb⟩;unfold zEs uI;rw [h];exact⟨_,_,rfl⟩
 ·obtain⟨ev,hv,hev⟩:=hg.rng;refine(Tryz.strconv_Atoi_range ⟨s.toArray⟩ (by omega) (by rw [hdt];exact h) ev w hv hev).mono ?_;rintro e w' ⟨N,rfl,_,_,hb⟩;refine⟨⟨_,_,rfl,?_⟩,hb⟩;unfold zEs uI;rw [h];exact⟨_,_,rfl⟩
def zIi (B:Nat) (o:Option (List Int)) (e:Ending) (w':World):Prop:=match o with
 | some L=>∃a c,e=.returned (.slice a L.length c)∧Ints w' (B≤·) (.slice a L.length c) L
 | none=>e=.panicked [brkE]
theorem mapM_next {l:List By} {k:Nat} {L:List Int} (h:k<l.length) (hL:(l.take k).mapM uI=some L):(l.take (k+1)).mapM uI=(uI l[k]).map fun x=>L++[x]:=by
 rw [List.take_succ_eq_append_getElem h,List.mapM_append,hL];rw [List.mapM_cons]
 cases uI l[k] with
 | none=>rfl
 | some x=>rfl
theorem mapM_stop {l:List By} {k:Nat} {L:List Int} (h:k<l.length) (hL:(l.take k).mapM uI=some L) (hx:uI l[k]=none):l.mapM uI=none:=by
 have e:l=l.take (k+1)++l.drop (k+1):=(List.take_append_drop _ _).symm;rw [e,List.mapM_append,mapM_next h hL,hx];rfl
theorem zHt (l:List By) (v:Value) (S:Nat→Prop) (n:Nat) (w:World) (hg:Glob w) (hv:Strs w S v l) (hl:l.length≤100000) (hs:∀x∈l,x.length≤100000) (hn:n≤10) :
  Calls Tryz.prog 48 #[v,.int .i64 n] w fun e w'=>zIi w.heap.size (yJ l n) e w'∧Ext w w':=by
 have HV:=eH hv;have HG:=eH hg;have HS:=eH hs;obtain⟨i0,hi0,hz0,hz1,hz2⟩:=info_parts vM;obtain⟨a,cap,rfl,hcap,hby,_⟩:=hv;obtain⟨R,hR⟩:∃R,yJ l n=R:=⟨_,rfl⟩
 rw [hR];have HR:=eH hR;clear hR hg hs;by_cases hln:l.length=n
 ·subst hln;have T0:((l.length:Int) == (l.length:Int))=true:=beq_self_eq_true _;have HRR:Hid (l.mapM uI=R):=by unfold Hid;rw [←HR.out];unfold yJ;rw [if_pos rfl]
  go_enter Tryz.func48,Tryz.ntmps48
  go_wp2_with (first
   | (go_at_call 50;refine(jL _ _).mono ?_;rintro e w1 ⟨rfl,rfl⟩;rw [zAe]))
  go_loopw [5,17] (fun q5 q17 wr=>∃(k:Nat) (L:List Int),k≤l.length∧q17=.int .i64 k∧(l.take k).mapM uI=some L∧L.length=k∧(∀x∈L,I64 x)∧Ext w wr∧RowAt wr w.heap.size 1 q5 L.length (ints L)) (fun _ q _=>l.length - (intOf q).toNat)
  case atStart=>exact⟨0,[],Nat.zero_le _,rfl,rfl,rfl,by simp,eR _,RowAt.nil _ _ _ _⟩
  case round =>
   obtain⟨k,L,hk,rfl,hL,hLk,hI,hb,hrow⟩:=hrel;have HL:=eH hL;have HI:=eH hI;have HB:=eH hb;have HROW:=eH hrow;obtain⟨ar,capr,rfl,_,_⟩:=hrow.shape;have HBS:=hb.size;have HLK:=eH hLk;have hLb:L.length≤100000:=by omega
   clear hL hI hb hrow hLk;by_cases hlt:k<l.length
   ·obtain⟨bx,ox,cx,ex,_,hc⟩:=zDh (HV.out.stays (Ext.stays HB.out)) hlt;simp only [Value.slice.injEq] at ex;obtain⟨rfl,-,rfl⟩:=ex;have hxl:=HS.out _ (List.getElem_mem hlt);have HNX:=eH (mapM_next hlt HL.out);have HST:=eH (mapM_stop hlt HL.out);generalize l[k]=x at *;replace hc:_=some (Value.string ⟨x.toArray⟩):=hc
    cases hx:uI x with
    | none =>
     have HN:Hid (R=none):=by unfold Hid;rw [←HRR.out];exact HST.out hx
     have HXX:=eH hx;clear hx
     go_wp2_with (first
      | (go_at_call 74;(with_reducible refine(atoi_any x _ (HG.out.ext HB.out) hxl).mono ?_);rintro e w3 ⟨⟨y,ev,rfl,hy⟩,hb3⟩;unfold zEs at hy;rw [HXX.out] at hy;obtain⟨te,pe,rfl⟩:=hy)
      | (go_at_call 50;refine(jL _ _).mono ?_;rintro e w1 ⟨rfl,rfl⟩;rw [uE]))
     exact⟨rfl,by rw [HN.out];exact rfl,HB.out.trans hb3⟩
    | some z =>
     rw [hx] at HNX;have HXX:=eH hx;have HS7:∀W,Ext wr W→Hid (w.heap.size≤(W.alloc (.cells #[.int .i64 z] 3)).heap.size):=fun W h=>by unfold Hid;exact Nat.le_trans (Nat.le_trans HBS h.size) ((eR W).alloc _).size
     clear hx HST
     go_wp2_with (first
      | (go_at_call 74;(with_reducible refine(atoi_any x _ (HG.out.ext HB.out) hxl).mono ?_);rintro e w3 ⟨⟨y,ev,rfl,hy⟩,hb3⟩;unfold zEs at hy;rw [HXX.out] at hy;obtain⟨rfl,rfl,hzI⟩:=hy;have HE3:=eH (hb3.alloc (.cells #[.int .i64 y] 3)))
      | (go_at_call 50;refine(jL _ _).mono ?_;rintro e w1 ⟨rfl,rfl⟩;rw [zAe])
      | (at_builtin;refine zE rfl _ _ 30 rfl w.heap.size 3 i0 (.int .i64 0) 1 8 Tryz.underlying30 hi0 hz0 hz1 hz2 rfl (by decide) _ _ _ rfl (by exact HROW.out.ext HE3.out (by decide)) 1 (ints [y]) (uK _ _ _) (by unfold maxLen;omega) (by omega) (by exact(HS7 _ hb3).out) ?_;intro v1 Wv1 rv1;have RV:=eH rv1;obtain⟨a9,cap9,rfl,_,_⟩:=rv1.1.shape;have HX9:=eH (Chg.ext_from (HB.out.trans HE3.out) RV.out.2.1 (fun g e=>HROW.out.le g e));clear rv1))
     go_roundw
     case rel=>exact⟨k+1,L++[y],by omega,by go_num,HNX.out,by simp [HLK.out],fun u hu=>(List.mem_append.1 hu).elim (HI.out u) (fun h=>(List.mem_singleton.1 h) ▸ hzI),HX9.out,by rw [List.length_append,List.length_singleton,yK];exact RV.out.1⟩
     case measure=>simp [intOf];omega
   ·obtain rfl:k=l.length:=by omega
    have HN:Hid (R=some L):=by unfold Hid;rw [←HRR.out];have:=HL.out;rwa [List.take_length] at this
    clear hlt
    go_wp2_with fail
    go_ret;refine⟨?_,HB.out⟩;rw [HN.out];exact⟨ar,capr,rfl,Ints.of_row (by rw [kU];exact HROW.out) (by omega) HI.out _ (fun _ h _=>h)⟩
 ·have T0:((l.length:Int) == (n:Int))=false:=beq_eq_false_iff_ne.2 (by omega);have hRn:R=none:=by rw [←HR.out];unfold yJ;rw [if_neg hln]
  subst hRn;clear hln;go_enter Tryz.func48,Tryz.ntmps48
  go_wp2_with (first
   | (go_at_call 50;refine(jL _ _).mono ?_;rintro e w1 ⟨rfl,rfl⟩;rw [uE]))
  exact⟨rfl,rfl,eR _⟩
def pushP (b:UInt8):List By→List By
 | []=>[]
 | p::ps=>(b::p)::ps
def preP (cur:By):List By→List By
 | []=>[]
 | p::ps=>(cur++p)::ps
theorem splitK_one (c:UInt8) (k:Nat) (l:By):Lib.splitK [c] 0 (k+1) (c::l)=[]::Lib.splitK [c] 0 k l:=by
 have hi:Lib.index (c::l) [c]=0:=by unfold Lib.index;rw [if_pos (by simp)]
 rw [Lib.splitK,hi];simp
theorem splitK_other {b c:UInt8} (h:b≠c) (k:Nat) (l:By):Lib.splitK [c] 0 k (b::l)=pushP b (Lib.splitK [c] 0 k l):=by
 have hi:Lib.index (b::l) [c]=if Lib.index l [c] == -1 then -1 else Lib.index l [c]+1:=by
  rw [Lib.index,if_neg (by simp;exact fun e=>h e.symm)]
 cases k with
 | zero=>rfl
 | succ k =>
  rw [Lib.splitK,Lib.splitK,hi];by_cases hn:Lib.index l [c] = -1
  ·have hb:(Lib.index l [c] == -1)=true:=beq_iff_eq.2 hn;rw [hb];simp [pushP]
  ·have hb:(Lib.index l [c] == -1)=false:=beq_eq_false_iff_ne.2 hn;have hg:=Lib.index_ge l [c];obtain⟨i,hi⟩:∃i:Nat,Lib.index l [c]=i:=⟨(Lib.index l [c]).toNat,by omega⟩
   have e1:(((i:Int)+1) == -1)=false:=beq_eq_false_iff_ne.2 (by omega);have e2:((i:Int)+1).toNat=i+1:=by omega
   rw [hb];simp only [Bool.false_eq_true,if_false];rw [hi,e1];simp [pushP,e2]
theorem splitK_ne (c:UInt8) (k:Nat) (l:By):Lib.splitK [c] 0 k l≠[]:=by
 cases k with
 | zero=>simp [Lib.splitK]
 | succ k=>rw [Lib.splitK];split<;>simp
theorem splitGo_K (c:UInt8):∀(s cur:By),kJ c cur s=preP cur (Lib.splitK [c] 0 (Lib.count s [c]) s)
 | [],cur=>by
  rw [Lib.count_one];simp [kJ,Lib.splitK,preP]
 | b::l,cur=>by
  by_cases h:b=c
  ·subst h;rw [kJ,if_pos rfl,splitGo_K b l [],Lib.count_cons_eq,Nat.add_comm,splitK_one];have hne:=splitK_ne b (Lib.count l [b]) l
   cases he:Lib.splitK [b] 0 (Lib.count l [b]) l with
   | nil=>exact absurd he hne
   | cons p ps=>simp [preP]
  ·rw [kJ,if_neg h,splitGo_K c l (cur++[b]),Lib.count_cons_ne _ _ _ h,splitK_other h];have hne:=splitK_ne c (Lib.count l [c]) l
   cases he:Lib.splitK [c] 0 (Lib.count l [c]) l with
   | nil=>exact absurd he hne
   | cons p ps=>simp [preP,pushP]
theorem splitC_K (c:UInt8) (s:By):zT c s=Lib.splitK [c] 0 (Lib.count s [c]) s:=by
 unfold zT;rw [splitGo_K c s []]
 cases Lib.splitK [c] 0 (Lib.count s [c]) s with
 | nil=>rfl
 | cons p ps=>rfl
theorem txtV_data (b:ByteArray):txtV b.data.toList=.string b:=by unfold txtV;simp
theorem splitI_any (s:By) (w:World) (hg:Glob w) (hl:s.length≤100000) :
  Calls Tryz.prog 47 #[.string ⟨s.toArray⟩,.string ⟨#[32]⟩] w fun e w'=>e=.returned (.slice (some ⟨w.heap.size,0,none⟩) (zT 32 s).length (zT 32 s).length)∧w'=w.alloc (.cells ((zT 32 s).map txtV).toArray 9):=by
 obtain⟨m,hm⟩:=hg.max;have h1:1≤(⟨#[32]⟩:ByteArray).size:=by decide
 have hsz:=yN s;refine(Tryz.strings_Split ⟨s.toArray⟩ ⟨#[32]⟩ m w (by omega) hm h1).mono ?_;have hd:=Lib.splitB_data ⟨#[32]⟩ 0 (Lib.countB ⟨s.toArray⟩ ⟨#[32]⟩) ⟨s.toArray⟩;have hc:Lib.countB ⟨s.toArray⟩ ⟨#[32]⟩=Lib.count s [32]:=by unfold Lib.countB;simp
 have hd2:(Lib.splitB ⟨#[32]⟩ 0 (Lib.countB ⟨s.toArray⟩ ⟨#[32]⟩) ⟨s.toArray⟩).map (·.data.toList)=zT 32 s:=by
  rw [hd,splitC_K,hc]
 have hlen:=Lib.splitB_all ⟨#[32]⟩ h1 0 _ ⟨s.toArray⟩ rfl;have hlen2:(zT 32 s).length=Lib.countB ⟨s.toArray⟩ ⟨#[32]⟩+1:=by rw [←hd2,List.length_map,hlen]
 have hmap:(zT 32 s).map txtV=(Lib.splitB ⟨#[32]⟩ 0 (Lib.countB ⟨s.toArray⟩ ⟨#[32]⟩) ⟨s.toArray⟩).map Value.string:=by
  rw [←hd2,List.map_map];exact List.map_congr_left fun b _=>txtV_data b
 rintro e w' ⟨rfl,rfl⟩;exact⟨by rw [hlen2],by rw [hmap]⟩
theorem trim_any (s:By) (w:World) (hl:s.length≤100000) :
  Calls Tryz.prog 31 #[.string ⟨s.toArray⟩,.string ⟨#[10]⟩] w fun e w'=>e=.returned (.string ⟨(Lib.trimSuffix s [10]).toArray⟩)∧w=w':=by
 have hsz:=yN s;refine(Tryz.strings_TrimSuffix ⟨s.toArray⟩ ⟨#[10]⟩ w (by omega)).mono ?_;rintro e w' ⟨rfl,rfl⟩;exact⟨by simp,rfl⟩
theorem mk_inj {x y:By}:((⟨x.toArray⟩:ByteArray)=⟨y.toArray⟩)↔x=y:=⟨fun e=>by have:=congrArg (fun z:ByteArray=>z.data.toList) e;simpa using this,fun e=>by rw [e]⟩
theorem idxFrom_by (x:By):∀(l:List By) (i:Nat),Lib.idxFromS (l.map fun y=>(⟨y.toArray⟩:ByteArray)) ⟨x.toArray⟩ i=if l.idxOf x<l.length then ((i+l.idxOf x:Nat):Int) else -1
 | [],i=>rfl
 | y::l,i=>by
  rw [List.map_cons,Lib.idxFromS];by_cases h:y=x
  ·subst h;simp
  ·have hic:(y::l).idxOf x=l.idxOf x+1:=by
    have hb:(y == x)=false:=beq_eq_false_iff_ne.2 h;rw [List.idxOf_cons,hb];rfl
   have hne:¬(⟨y.toArray⟩:ByteArray)=⟨x.toArray⟩:=fun e=>h (mk_inj.1 e)
   rw [if_neg hne,idxFrom_by x l (i+1),hic,List.length_cons];by_cases h2:l.idxOf x<l.length
   ·rw [if_pos h2,if_pos (by omega)]
    congr 1
    omega
   ·rw [if_neg h2,if_neg (by omega)]
theorem index_any (l:List By) (v:Value) (S:Nat→Prop) (x:By) (w:World) (hv:Strs w S v l) (hl:0<l.length) (hm:l.length≤100000) :
  Calls Tryz.prog 49 #[v,.string ⟨x.toArray⟩] w fun e w'=>e=.returned (.int .i64 (if l.idxOf x<l.length then (l.idxOf x:Int) else -1))∧w=w':=by
 obtain⟨b,o,cap,rfl,_,_⟩:=zDh hv hl;have hz:(l.map fun y=>(⟨y.toArray⟩:ByteArray)).length=l.length:=by simp
 refine(Tryz.slices_Index_string b o l.length cap (l.map fun y=>(⟨y.toArray⟩:ByteArray)) ⟨x.toArray⟩ w (by omega) (by omega) ?_).mono ?_
 ·intro j hj;rw [hz] at hj;obtain⟨b',o',cap',e,_,hc⟩:=zDh hv hj;simp only [Value.slice.injEq,Option.some.injEq,Addr.mk.injEq] at e;obtain⟨⟨rfl,rfl,-⟩,-⟩:=e;rw [hc];simp [List.getD,List.getElem?_eq_getElem hj,txtV]
 ·rintro e w' ⟨rfl,rfl⟩;have ht:(l.map fun y=>(⟨y.toArray⟩:ByteArray)).take l.length=l.map fun y=>(⟨y.toArray⟩:ByteArray):=List.take_of_length_le (by omega)
  refine⟨?_,rfl⟩;rw [ht];unfold Lib.idxOfS;rw [idxFrom_by,Nat.zero_add]
theorem zIf (x op rest:By) (f:Bool) (X:ByteArray) (w:World) (hg:Glob w) (hX:(⟨x.toArray⟩:ByteArray)=X) (hc:Lib.cut x [32]=(op,rest,f)) (hl:x.length≤100000) :
  Calls Tryz.prog 73 #[.string X,.string ⟨#[32]⟩] w fun e w'=>e=.returned (.tuple #[.string ⟨op.toArray⟩,.string ⟨rest.toArray⟩,.bool f])∧Ext w w':=by
 obtain⟨m,hm⟩:=hg.max;subst hX;refine(Tryz.strings_Cut ⟨x.toArray⟩ ⟨#[32]⟩ m w (by rw [yN];omega) hm).mono ?_;rintro e w' ⟨rfl,n,rfl⟩;have e1:Lib.cut (⟨x.toArray⟩:ByteArray).data.toList (⟨#[32]⟩:ByteArray).data.toList=(op,rest,f):=by
  have:(⟨x.toArray⟩:ByteArray).data.toList=x:=by simp
  rw [this];exact hc
 rw [e1];exact⟨rfl,(eR _).drewN _⟩
theorem nfun_zero (w:World):(zeroValue 33).run Tryz.prog w=.ok .nilFunc w:=by kernel_rfl
theorem ba_beq (a b:ByteArray):(a == b)=(a.data == b.data):=by cases a;cases b;rfl
theorem ba_is {a b:ByteArray} (h:a=b):(a == b)=true:=by rw [ba_beq,h];exact beq_self_eq_true _
theorem ba_not {a b:ByteArray} (h:a≠b):(a == b)=false:=by
 rw [ba_beq];refine beq_eq_false_iff_ne.2 fun e=>h ?_
 cases a;cases b
 exact congrArg _ e
theorem zBj (f:FuncId) (b:Nat) (w:World):(binOp BinOp.eql 33 (.func (.func f) #[.pointer (some ⟨b,0,none⟩)] #[]) .nilFunc).run Tryz.prog w=.ok (.bool false) w:=by kernel_rfl
theorem zGz (w:World):(binOp BinOp.eql 33 .nilFunc .nilFunc).run Tryz.prog w=.ok (.bool true) w:=by kernel_rfl
theorem cut_len {x op rest:By} {f:Bool} (hc:Lib.cut x [32]=(op,rest,f)):op.length≤x.length∧rest.length≤x.length:=by
 rcases zFz x with ⟨_,h⟩ | ⟨a,r,_,h,h3⟩
 ·rw [h] at hc;simp only [Prod.mk.injEq] at hc;obtain⟨rfl,rfl,-⟩:=hc;simp
 ·rw [h3] at hc;simp only [Prod.mk.injEq] at hc;obtain⟨rfl,rfl,-⟩:=hc;rw [h];simp only [List.length_append,List.length_cons];omega
theorem line_desk (p:List GFunc) (s:GState) (l:List Int) (x:By) (X:ByteArray) (S:Nat→Prop) (b:Nat) (w:World) (hg:Glob w) (hX:(⟨x.toArray⟩:ByteArray)=X) (hT:TabX w S b p s) (hok:Ok p s l) (hnb:NotG b) (hx:x.length≤10000) :
  Calls Tryz.prog 30 #[.pointer (some ⟨b,0,none⟩),.string X] w fun e W'=>e=.returned (.string ⟨(qQ p s x).2.toArray⟩)∧TabX W' (Up S w.heap.size) b p (qQ p s x).1∧Chg (·=b) w W':=by
 have HG:=eH hg;have HX:=eH hX;have HOK:=eH hok;have HT:=eH hT;have hmm:=@run_makeMap Tryz.prog;obtain⟨r,hr⟩:∃r,jN p s x=r:=⟨_,rfl⟩
 have HW:=eH (word_any p s l x X S b w hg hX hT hok);have HWG:=eH hr;rw [hr] at HW
 cases r with
 | some r =>
  have HPL:Hid (qQ p s x=r):=by unfold Hid qQ;rw [hr]
  clear hg hX hT hr;go_enter Tryz.func30,Tryz.ntmps30
  go_wp2_with (first
   | (go_at_call 72;(with_reducible refine HW.out.mono ?_);rintro e w2 ⟨⟨rfl,ht2⟩,hc2⟩))
  go_ret;exact⟨by rw [HPL.out];rfl,by rw [HPL.out];exact ht2,hc2⟩
 | none =>
  obtain⟨⟨op,rest,f⟩,hcut⟩:∃z,Lib.cut x [32]=z:=⟨_,rfl⟩
  have HCUT:=eH hcut;have hlen:=cut_len hcut;obtain⟨OP,hOP⟩:∃Y:ByteArray,(⟨op.toArray⟩:ByteArray)=Y:=⟨_,rfl⟩
  obtain⟨RE,hRE⟩:∃Y:ByteArray,(⟨rest.toArray⟩:ByteArray)=Y:=⟨_,rfl⟩
  have HOP:=eH hOP;have HRE:=eH hRE;have hN:RE.size=rest.length:=by rw [←hRE];exact yN rest
  clear hg hX hT hr hcut hOP hRE;have HAT:Hid (∀w,Glob w→Calls Tryz.prog 74 #[.string RE] w fun e w'=>(∃n ev,e=.returned (.tuple #[.int .i64 n,ev])∧zEs rest n ev)∧Ext w w'):=by
   unfold Hid;intro w hg;rw [←HRE.out];exact atoi_any rest w hg (by omega)
  by_cases hgood:∃n,goodN rest n
  ·obtain⟨n,hgd⟩:=hgood;obtain⟨e1,e2,e3⟩:=good_num hgd;have HPG:=eH (play_good HWG.out HCUT.out hgd);obtain⟨g1,g2,g3,g4⟩:=hgd;obtain⟨m,rfl⟩:∃m:Nat,n=m:=⟨n.toNat,by omega⟩
   have HG1:=eH g1;have HIT:Hid ((⟨(Lib.itoa (m:Int)).toArray⟩:ByteArray)=RE):=by unfold Hid;rw [g4];exact HRE.out
   have T6:decide ((6:Int)<(rest.length:Int))=false:=decide_eq_false (by omega);have hIm:I64 (m:Int):=I64.small (by omega) (by omega);clear g1 g2 g4 e1 e2;go_enter Tryz.func30,Tryz.ntmps30
   go_upto_region 5 with (first
    | (go_at_call 72;(with_reducible refine HW.out.mono ?_);rintro e w2 ⟨⟨rfl,ht2⟩,hc2⟩;have HT2:=eH ht2;have HC2:=eH hc2;have HG2:=eH (HG.out.chg hc2 hnb);clear ht2 hc2)
    | (go_at_call 73;(with_reducible refine(zIf x op rest f X _ HG2.out HX.out HCUT.out (by omega)).mono ?_);rintro e w3 ⟨rfl,hb3⟩;rw [HOP.out,HRE.out];have HB3:=eH hb3;clear hb3))
   go_upto_region 6 with (first
    | (go_at_call 74;(with_reducible refine(HAT.out _ (HG2.out.ext HB3.out)).mono ?_);rintro e w4 ⟨⟨n4,ev,rfl,hr4⟩,hb4⟩;unfold zEs at hr4;rw [HG1.out] at hr4;obtain⟨rfl,rfl,_⟩:=hr4;have HE4:=eH (HB3.out.trans hb4);clear hb4))
   go_upto_region 8 with (first
    | (go_at_call 75;(with_reducible refine(zFi _ _ hIm (HG2.out.ext HE4.out)).mono ?_);rintro e w5 ⟨rfl,hb5⟩;rw [HIT.out];have HE5:=eH (HE4.out.trans hb5);clear hb5))
   rename World=>w5
   clear HW HCUT HAT HIT;have u0:(Instr.mapUpdate 119 (.map (some w5.heap.size)) (.string ⟨#[115,116,101,112]⟩) (.func (.func 77) #[.pointer (some ⟨b,0,none⟩)] #[])).run Tryz.prog (w5.alloc (.map #[] 0))=.ok () (w5.alloc (.map #[⟨.string ⟨#[115,116,101,112]⟩,.func (.func 77) #[.pointer (some ⟨b,0,none⟩)] #[],0⟩] 1)):=run_updS0 Tryz.underlying119 Tryz.underlying9 w5 _ _;have u1:(Instr.mapUpdate 119 (.map (some w5.heap.size)) (.string ⟨#[104,101,105,103,104,116,115]⟩) (.func (.func 78) #[.pointer (some ⟨b,0,none⟩)] #[])).run Tryz.prog (w5.alloc (.map #[⟨.string ⟨#[115,116,101,112]⟩,.func (.func 77) #[.pointer (some ⟨b,0,none⟩)] #[],0⟩] 1))=.ok () (w5.alloc (.map #[⟨.string ⟨#[115,116,101,112]⟩,.func (.func 77) #[.pointer (some ⟨b,0,none⟩)] #[],0⟩,⟨.string ⟨#[104,101,105,103,104,116,115]⟩,.func (.func 78) #[.pointer (some ⟨b,0,none⟩)] #[],1⟩] 2)):=run_updS1 Tryz.underlying119 Tryz.underlying9 w5 _ _ (by decide) _ _;have hmf:∀(fn:Fn) (first cap:Array Value) (w:World),(Instr.makeFunc fn first cap).run Tryz.prog w=.ok (.func fn first cap) w:=fun _ _ _ _=>rfl
   by_cases ho:op=zHo
   ·have q1:(OP == (⟨#[115,116,101,112]⟩:ByteArray))=true:=ba_is (by rw [←HOP.out,ho];rfl);have q2:(OP == (⟨#[104,101,105,103,104,116,115]⟩:ByteArray))=false:=ba_not (fun e=>absurd (mk_inj.1 (HOP.out.trans e)) (by rw [ho];decide));have HPQ:Hid (qQ p s x=zEn p s m):=by unfold Hid;rw [HPG.out,if_pos ho]
    clear ho;have la:(Instr.lookup 119 (.map (some w5.heap.size)) (.string OP) false).run Tryz.prog (w5.alloc (.map #[⟨.string ⟨#[115,116,101,112]⟩,.func (.func 77) #[.pointer (some ⟨b,0,none⟩)] #[],0⟩,⟨.string ⟨#[104,101,105,103,104,116,115]⟩,.func (.func 78) #[.pointer (some ⟨b,0,none⟩)] #[],1⟩] 2))=.ok (.func (.func 77) #[.pointer (some ⟨b,0,none⟩)] #[]) (w5.alloc (.map #[⟨.string ⟨#[115,116,101,112]⟩,.func (.func 77) #[.pointer (some ⟨b,0,none⟩)] #[],0⟩,⟨.string ⟨#[104,101,105,103,104,116,115]⟩,.func (.func 78) #[.pointer (some ⟨b,0,none⟩)] #[],1⟩] 2)):=by
     have h:=run_lookS Tryz.underlying119 Tryz.underlying9 w5 ⟨#[115,116,101,112]⟩ ⟨#[104,101,105,103,104,116,115]⟩ OP (.func (.func 77) #[.pointer (some ⟨b,0,none⟩)] #[]) (.func (.func 78) #[.pointer (some ⟨b,0,none⟩)] #[]) .nilFunc nfun_zero;simp only [q1,q2,Bool.false_eq_true,if_true,if_false] at h;exact h
    go_cut [12] (fun q12 wr=>q12=.func (.func 77) #[.pointer (some ⟨b,0,none⟩)] #[]∧Ext w5 wr)
    case first =>
     go_wp2_with fail
     go_meet
     exact⟨rfl,by ((repeat first|assumption|exact eR _|exact And.left (by assumption)|apply eA|apply eD|apply eN|refine eS ?_ (by simp<;>omega) _|refine eT ?_ (by assumption));done)⟩
    case rest =>
     obtain⟨rfl,hE8⟩:=hcut;have HE8:=eH (HE5.out.trans hE8);clear hE8 u0 u1 la;rename World=>w8
     have fn1:=zBj 77 b;have fn2:=zBj 78 b;have fn3:=zGz
     go_wp2_with (first
      | (go_at_call 77;(with_reducible refine(step_desk p s l m _ b _ (HG2.out.ext HE8.out) (HT2.out.ext HE8.out) HOK.out (by omega) hnb).mono ?_);rintro e w9 ⟨rfl,ht9,hc9⟩))
     go_ret;exact⟨by rw [HPQ.out];rfl,by rw [HPQ.out];exact ht9.fold (Nat.le_trans HC2.out.size HE8.out.size) HT2.out.nb,(HC2.out.trans (Chg.of_ext HE8.out)).trans hc9⟩
   ·by_cases ho2:op=uO
    ·have q1:(OP == (⟨#[115,116,101,112]⟩:ByteArray))=false:=ba_not (fun e=>absurd (mk_inj.1 (HOP.out.trans e)) (by rw [ho2];decide));have q2:(OP == (⟨#[104,101,105,103,104,116,115]⟩:ByteArray))=true:=ba_is (by rw [←HOP.out,ho2];rfl);have HPQ:Hid (qQ p s x=(s,vN p m)):=by unfold Hid;rw [HPG.out,if_neg ho,if_pos ho2]
     clear ho ho2;have la:(Instr.lookup 119 (.map (some w5.heap.size)) (.string OP) false).run Tryz.prog (w5.alloc (.map #[⟨.string ⟨#[115,116,101,112]⟩,.func (.func 77) #[.pointer (some ⟨b,0,none⟩)] #[],0⟩,⟨.string ⟨#[104,101,105,103,104,116,115]⟩,.func (.func 78) #[.pointer (some ⟨b,0,none⟩)] #[],1⟩] 2))=.ok (.func (.func 78) #[.pointer (some ⟨b,0,none⟩)] #[]) (w5.alloc (.map #[⟨.string ⟨#[115,116,101,112]⟩,.func (.func 77) #[.pointer (some ⟨b,0,none⟩)] #[],0⟩,⟨.string ⟨#[104,101,105,103,104,116,115]⟩,.func (.func 78) #[.pointer (some ⟨b,0,none⟩)] #[],1⟩] 2)):=by
      have h:=run_lookS Tryz.underlying119 Tryz.underlying9 w5 ⟨#[115,116,101,112]⟩ ⟨#[104,101,105,103,104,116,115]⟩ OP (.func (.func 77) #[.pointer (some ⟨b,0,none⟩)] #[]) (.func (.func 78) #[.pointer (some ⟨b,0,none⟩)] #[]) .nilFunc nfun_zero;simp only [q1,q2,Bool.false_eq_true,if_true,if_false] at h;exact h
     go_cut [12] (fun q12 wr=>q12=.func (.func 78) #[.pointer (some ⟨b,0,none⟩)] #[]∧Ext w5 wr)
     case first =>
      go_wp2_with fail
      go_meet
      exact⟨rfl,by ((repeat first|assumption|exact eR _|exact And.left (by assumption)|apply eA|apply eD|apply eN|refine eS ?_ (by simp<;>omega) _|refine eT ?_ (by assumption));done)⟩
     case rest =>
      obtain⟨rfl,hE8⟩:=hcut;have HE8:=eH (HE5.out.trans hE8);clear hE8 u0 u1 la;rename World=>w8
      have fn1:=zBj 77 b;have fn2:=zBj 78 b;have fn3:=zGz
      go_wp2_with (first
       | (go_at_call 78;(with_reducible refine(heights_desk p s m _ b _ (HG2.out.ext HE8.out) (HT2.out.ext HE8.out) HOK.out.prog).mono ?_);rintro e w9 ⟨rfl,hb9⟩))
      go_ret;exact⟨by rw [HPQ.out];rfl,by rw [HPQ.out];exact(HT2.out.ext HE8.out).ext hb9,(HC2.out.trans (Chg.of_ext HE8.out)).trans (Chg.of_ext hb9)⟩
    ·have q1:(OP == (⟨#[115,116,101,112]⟩:ByteArray))=false:=ba_not (fun e=>ho (mk_inj.1 (HOP.out.trans e)));have q2:(OP == (⟨#[104,101,105,103,104,116,115]⟩:ByteArray))=false:=ba_not (fun e=>ho2 (mk_inj.1 (HOP.out.trans e)));have HPQ:Hid (qQ p s x=(s,errT 1)):=by unfold Hid;rw [HPG.out,if_neg ho,if_neg ho2]
     clear ho ho2;have la:(Instr.lookup 119 (.map (some w5.heap.size)) (.string OP) false).run Tryz.prog (w5.alloc (.map #[⟨.string ⟨#[115,116,101,112]⟩,.func (.func 77) #[.pointer (some ⟨b,0,none⟩)] #[],0⟩,⟨.string ⟨#[104,101,105,103,104,116,115]⟩,.func (.func 78) #[.pointer (some ⟨b,0,none⟩)] #[],1⟩] 2))=.ok (.nilFunc) (w5.alloc (.map #[⟨.string ⟨#[115,116,101,112]⟩,.func (.func 77) #[.pointer (some ⟨b,0,none⟩)] #[],0⟩,⟨.string ⟨#[104,101,105,103,104,116,115]⟩,.func (.func 78) #[.pointer (some ⟨b,0,none⟩)] #[],1⟩] 2)):=by
      have h:=run_lookS Tryz.underlying119 Tryz.underlying9 w5 ⟨#[115,116,101,112]⟩ ⟨#[104,101,105,103,104,116,115]⟩ OP (.func (.func 77) #[.pointer (some ⟨b,0,none⟩)] #[]) (.func (.func 78) #[.pointer (some ⟨b,0,none⟩)] #[]) .nilFunc nfun_zero;simp only [q1,q2,Bool.false_eq_true,if_false] at h;exact h
     go_cut [12] (fun q12 wr=>q12=.nilFunc∧Ext w5 wr)
     case first =>
      go_wp2_with fail
      go_meet
      exact⟨rfl,by ((repeat first|assumption|exact eR _|exact And.left (by assumption)|apply eA|apply eD|apply eN|refine eS ?_ (by simp<;>omega) _|refine eT ?_ (by assumption));done)⟩
     case rest =>
      obtain⟨rfl,hE8⟩:=hcut;have HE8:=eH (HE5.out.trans hE8);clear hE8 u0 u1 la;rename World=>w8
      have fn1:=zBj 77 b;have fn2:=zBj 78 b;have fn3:=zGz
      go_wp2_with (first
       | (go_at_call 76;(with_reducible refine(jZ 1 _ (HG2.out.ext HE8.out) (I64.small (by decide) (by decide))).mono ?_);rintro e w9 ⟨rfl,hb9⟩))
      go_ret;exact⟨by rw [HPQ.out];rfl,by rw [HPQ.out];exact(HT2.out.ext HE8.out).ext hb9,(HC2.out.trans (Chg.of_ext HE8.out)).trans (Chg.of_ext hb9)⟩
  ·have HPB:=eH (play_bad HWG.out HCUT.out (fun n h=>hgood ⟨n,h⟩))
   cases ha:uI rest with
   | none =>
    have HA:=eH ha;clear ha hgood;go_enter Tryz.func30,Tryz.ntmps30
    go_upto_region 5 with (first
     | (go_at_call 72;(with_reducible refine HW.out.mono ?_);rintro e w2 ⟨⟨rfl,ht2⟩,hc2⟩;have HT2:=eH ht2;have HC2:=eH hc2;have HG2:=eH (HG.out.chg hc2 hnb);clear ht2 hc2)
     | (go_at_call 73;(with_reducible refine(zIf x op rest f X _ HG2.out HX.out HCUT.out (by omega)).mono ?_);rintro e w3 ⟨rfl,hb3⟩;rw [HOP.out,HRE.out];have HB3:=eH hb3;clear hb3))
    go_upto_region 6 with (first
     | (go_at_call 74;(with_reducible refine(HAT.out _ (HG2.out.ext HB3.out)).mono ?_);rintro e w4 ⟨⟨n4,ev,rfl,hr4⟩,hb4⟩;unfold zEs at hr4;rw [HA.out] at hr4;obtain⟨te,pe,rfl⟩:=hr4;have HE:=eH (HB3.out.trans hb4);clear hb4))
    go_wp2_with (first
     | (go_at_call 76;(with_reducible refine(jZ 1 _ (HG2.out.ext HE.out) (I64.small (by decide) (by decide))).mono ?_);rintro e w6 ⟨rfl,hb6⟩))
    go_ret;exact⟨by rw [HPB.out];rfl,by rw [HPB.out];exact HT2.out.ext (HE.out.trans hb6),HC2.out.trans (Chg.of_ext (HE.out.trans hb6))⟩
   | some n =>
    have HA:=eH ha;have hb:=fun (h0:0≤n) (h6:rest.length≤6) (he:Lib.itoa n=rest)=>hgood ⟨n,ha,h0,h6,he⟩
    clear ha hgood;by_cases h0:0≤n
    ·have T0:decide (n<0)=false:=decide_eq_false (by omega);by_cases h6:rest.length≤6
     ·have T6:decide ((6:Int)<(rest.length:Int))=false:=decide_eq_false (by omega);have hne:=hb h0 h6;clear hb;obtain⟨D,hD⟩:∃Y:ByteArray,(⟨(Lib.itoa n).toArray⟩:ByteArray)=Y:=⟨_,rfl⟩
      have HD:=eH hD;have TD:(D.toList == RE.toList)=false:=beq_eq_false_iff_ne.2 (fun e=>hne (by rw [←hD,←HRE.out,ByteArray.toList_mk,ByteArray.toList_mk] at e;exact e));clear hD hne;go_enter Tryz.func30,Tryz.ntmps30
      go_upto_region 5 with (first
       | (go_at_call 72;(with_reducible refine HW.out.mono ?_);rintro e w2 ⟨⟨rfl,ht2⟩,hc2⟩;have HT2:=eH ht2;have HC2:=eH hc2;have HG2:=eH (HG.out.chg hc2 hnb);clear ht2 hc2)
       | (go_at_call 73;(with_reducible refine(zIf x op rest f X _ HG2.out HX.out HCUT.out (by omega)).mono ?_);rintro e w3 ⟨rfl,hb3⟩;rw [HOP.out,HRE.out];have HB3:=eH hb3;clear hb3))
      go_upto_region 6 with (first
       | (go_at_call 74;(with_reducible refine(HAT.out _ (HG2.out.ext HB3.out)).mono ?_);rintro e w4 ⟨⟨n4,ev,rfl,hr4⟩,hb4⟩;unfold zEs at hr4;rw [HA.out] at hr4;obtain⟨rfl,rfl,hin⟩:=hr4;have HIN:=eH hin;have HE:=eH (HB3.out.trans hb4);clear hb4 hin))
      go_wp2_with (first
       | (go_at_call 75;(with_reducible refine(zFi _ _ HIN.out (HG2.out.ext HE.out)).mono ?_);rintro e w5 ⟨rfl,hb5⟩;rw [HD.out];have HE:=eH (HE.out.trans hb5);clear hb5)
       | (go_at_call 76;(with_reducible refine(jZ 1 _ (HG2.out.ext HE.out) (I64.small (by decide) (by decide))).mono ?_);rintro e w6 ⟨rfl,hb6⟩))
      go_ret;exact⟨by rw [HPB.out];rfl,by rw [HPB.out];exact HT2.out.ext (HE.out.trans hb6),HC2.out.trans (Chg.of_ext (HE.out.trans hb6))⟩
     ·have T6:decide ((6:Int)<(rest.length:Int))=true:=decide_eq_true (by omega);clear hb;go_enter Tryz.func30,Tryz.ntmps30
      go_upto_region 5 with (first
       | (go_at_call 72;(with_reducible refine HW.out.mono ?_);rintro e w2 ⟨⟨rfl,ht2⟩,hc2⟩;have HT2:=eH ht2;have HC2:=eH hc2;have HG2:=eH (HG.out.chg hc2 hnb);clear ht2 hc2)
       | (go_at_call 73;(with_reducible refine(zIf x op rest f X _ HG2.out HX.out HCUT.out (by omega)).mono ?_);rintro e w3 ⟨rfl,hb3⟩;rw [HOP.out,HRE.out];have HB3:=eH hb3;clear hb3))
      go_upto_region 6 with (first
       | (go_at_call 74;(with_reducible refine(HAT.out _ (HG2.out.ext HB3.out)).mono ?_);rintro e w4 ⟨⟨n4,ev,rfl,hr4⟩,hb4⟩;unfold zEs at hr4;rw [HA.out] at hr4;obtain⟨rfl,rfl,hin⟩:=hr4;have HIN:=eH hin;have HE:=eH (HB3.out.trans hb4);clear hb4 hin))
      go_wp2_with (first
       | (go_at_call 76;(with_reducible refine(jZ 1 _ (HG2.out.ext HE.out) (I64.small (by decide) (by decide))).mono ?_);rintro e w6 ⟨rfl,hb6⟩))
      go_ret;exact⟨by rw [HPB.out];rfl,by rw [HPB.out];exact HT2.out.ext (HE.out.trans hb6),HC2.out.trans (Chg.of_ext (HE.out.trans hb6))⟩
    ·have T0:decide (n<0)=true:=decide_eq_true (by omega);clear hb;go_enter Tryz.func30,Tryz.ntmps30
     go_upto_region 5 with (first
      | (go_at_call 72;(with_reducible refine HW.out.mono ?_);rintro e w2 ⟨⟨rfl,ht2⟩,hc2⟩;have HT2:=eH ht2;have HC2:=eH hc2;have HG2:=eH (HG.out.chg hc2 hnb);clear ht2 hc2)
      | (go_at_call 73;(with_reducible refine(zIf x op rest f X _ HG2.out HX.out HCUT.out (by omega)).mono ?_);rintro e w3 ⟨rfl,hb3⟩;rw [HOP.out,HRE.out];have HB3:=eH hb3;clear hb3))
     go_upto_region 6 with (first
      | (go_at_call 74;(with_reducible refine(HAT.out _ (HG2.out.ext HB3.out)).mono ?_);rintro e w4 ⟨⟨n4,ev,rfl,hr4⟩,hb4⟩;unfold zEs at hr4;rw [HA.out] at hr4;obtain⟨rfl,rfl,hin⟩:=hr4;have HIN:=eH hin;have HE:=eH (HB3.out.trans hb4);clear hb4 hin))
     go_wp2_with (first
      | (go_at_call 76;(with_reducible refine(jZ 1 _ (HG2.out.ext HE.out) (I64.small (by decide) (by decide))).mono ?_);rintro e w6 ⟨rfl,hb6⟩))
     go_ret;exact⟨by rw [HPB.out];rfl,by rw [HPB.out];exact HT2.out.ext (HE.out.trans hb6),HC2.out.trans (Chg.of_ext (HE.out.trans hb6))⟩
theorem zIc {e:Int} (h:0≤e∧e≤9):(errT e).length≤27:=by
 have:=Lib.itoa_length_le e (by omega) (by omega);unfold errT;simp only [List.length_append,List.length_cons,List.length_nil];omega
theorem small_itoa {n:Int} (h:0≤n∧n≤1000000):(Lib.itoa n).length≤21:=Lib.itoa_length_le n (by omega) (by omega)
theorem hList_i64 {p:List GFunc} (f:Int):∀n∈yL p f,I64 n:=by
 by_cases h0:hErr p f=0
 ·obtain⟨k,hk,rfl,hR,hF⟩:=hErr_inv h0;intro n hn;obtain⟨i,hi,rfl⟩:=List.getElem_of_mem hn;have hi':i<p[k].code.length:=by rw [←hF.len];exact hi
  have e:(yL p k).getD i 0=(yL p k)[i]:=by simp [List.getD,List.getElem?_eq_getElem hi]
  have h1:=hF.hi i hi';have h2:=hF.low i hi';rw [e] at h1 h2;by_cases h3:(yL p k)[i]<0
  ·rw [h2 h3];exact I64.neg1
  ·exact I64.small (by omega) (by omega)
 ·by_cases h1:funcErr p f=0
  ·by_cases h2:hts p (p.getD f.toNat default).code=none
   ·rw [(zBi h1 h2).2];simp
   ·exact absurd (by unfold hErr;rw [if_neg (fun h=>h h1),if_neg h2]) h0
  ·rw [(zCz h1).2];simp
theorem hList_24 {p:List GFunc} (hz:zZ p=0) (f:Int):(yL p f).length≤24:=by
 by_cases h0:hErr p f=0
 ·obtain⟨k,hk,rfl,hR,hF⟩:=hErr_inv h0;have h1:=hF.len;have h2:=(jX hz _ (List.getElem_mem hk)).2.1;omega
 ·by_cases h1:funcErr p f=0
  ·by_cases h2:hts p (p.getD f.toNat default).code=none
   ·rw [(zBi h1 h2).2];simp
   ·exact absurd (by unfold hErr;rw [if_neg (fun h=>h h1),if_neg h2]) h0
  ·rw [(zCz h1).2];simp
theorem word_len {p:List GFunc} {s:GState} {l:List Int} {x:By} {r:GState × By} (h:Ok p s l) (hI:∀n∈s.out,I64 n) (hw:jN p s x=some r):r.2.length≤1000:=by
 have hout:=h.out;have hfew:=h.few;unfold jN at hw;by_cases h1:x=outT
 ·rw [if_pos h1] at hw;cases hw;have:=zFv s.out hI;show (jT s.out).length≤1000;omega
 rw [if_neg h1] at hw;by_cases h2:x=zGm
 ·rw [if_pos h2] at hw;cases hw;show (jT ((yA s).getD [])).length≤1000;rw [h.right.line,Option.getD_some];have hr:=vJ (fun k hk=>(h.callers k hk).2) h.lk h.now.2;have hn:=uC _ _ (zBp h.lk) hr;have:=zFv l (fun n hn=>by have:=hr n hn;exact I64.small (by omega) (by omega));omega
 rw [if_neg h2] at hw;by_cases h3:x=zDu
 ·rw [if_pos h3] at hw;cases hw;show (jT (qF p s)).length≤1000;have:=zFv (qF p s) (fun n hn=>by
   unfold qF at hn;obtain⟨j,hj,rfl⟩:=List.mem_map.1 hn;have:=(h.right.kind (List.mem_range.1 hj)).1;exact I64.small (by omega) (by omega))
  have:=zBr p s;omega
 rw [if_neg h3] at hw;by_cases h4:x=trimT
 ·rw [if_pos h4] at hw;cases hw;show (Lib.itoa (zBb p p.length)).length≤1000;have h5:=zHk h.prog p.length (Nat.le_refl _);have h6:=(kH h.prog).most;have:=small_itoa (n:=(zBb p p.length:Int)) (by omega);omega
 rw [if_neg h4] at hw;by_cases h5:x=zHe
 ·rw [if_pos h5] at hw;cases hw;show okT.length≤1000;decide
 ·rw [if_neg h5] at hw;cases hw
theorem step_len {p:List GFunc} {s:GState} {l:List Int} (h:Ok p s l) {n:Int} (hn:0≤n):(zEn p s n).2.length≤1000:=by
 unfold zEn;by_cases h5:500<n
 ·rw [if_pos h5];have:=zIc (e:=3) (by omega);show (errT 3).length≤1000;omega
 ·rw [if_neg h5];have hb:=ran_bd h n.toNat;show (ranT (runG p n.toNat s)).length≤1000;have h1:=small_itoa (n:=(runG p n.toNat s).2.1) (by omega);have h2:=zIc (e:=(runG p n.toNat s).2.2) (by omega);unfold ranT;split
  ·simp only [List.length_append,List.length_cons];omega
  ·omega
theorem heights_len {p:List GFunc} (hz:zZ p=0) (n:Int):(vN p n).length≤1000:=by
 unfold vN;have hb:=hErr_bd p n;split
 ·have:=zIc (e:=hErr p n) (by omega);omega
 ·have:=zFv (yL p n) (hList_i64 n);have:=hList_24 hz n;omega
theorem play_len {p:List GFunc} {s:GState} {l:List Int} (x:By) (h:Ok p s l) (hI:∀n∈s.out,I64 n):(qQ p s x).2.length≤1000:=by
 have he:=zIc (e:=1) (by omega);unfold qQ
 cases hw:jN p s x with
 | some r=>exact word_len h hI hw
 | none =>
  simp only;split
  ·show (errT 1).length≤1000;omega
  ·rename_i hc
   split
   ·exact step_len h (by omega)
   ·split
    ·exact heights_len h.prog _
    ·show (errT 1).length≤1000;omega
theorem play_ok {p:List GFunc} {s:GState} {l:List Int} (x:By) (h:Ok p s l):∃l',Ok p (qQ p s x).1 l':=by
 have hbeg:∃l',Ok p (kG p) l':=⟨_,begin_ok h.prog⟩
 unfold qQ
 cases hw:jN p s x with
 | some r =>
  simp only;unfold jN at hw
  split at hw
  ·cases hw;exact⟨l,h⟩
  ·split at hw
   ·cases hw;exact⟨l,h⟩
   ·split at hw
    ·cases hw;exact⟨l,h⟩
    ·split at hw
     ·cases hw;exact⟨l,h⟩
     ·split at hw
      ·cases hw;exact hbeg
      ·cases hw
 | none =>
  simp only;split
  ·exact⟨l,h⟩
  ·split
   ·unfold zEn;split
    ·exact⟨l,h⟩
    ·exact(run_ran _ h).right
   ·split<;>exact⟨l,h⟩
def zBk (y:By):By:=Lib.trimSuffix y [10]
theorem zDk (c:UInt8):∀(t cur:By),c ∉ cur→∃ls r,kJ c cur t=ls++[r]∧cur++t=ls.flatMap (·++[c])++r∧(∀x∈ls,c ∉ x)∧c ∉ r
 | [],cur,h=>⟨[],cur,by simp [kJ],by simp,by simp,h⟩
 | b::t,cur,h=>by
  rw [kJ];by_cases hb:b=c
  ·rw [if_pos hb];obtain⟨ls,r,h1,h2,h3,h4⟩:=zDk c t [] (by simp);refine⟨cur::ls,r,by rw [h1];rfl,?_,?_,h4⟩
   ·rw [List.flatMap_cons,List.append_assoc,←h2,hb];simp
   ·intro x hx;rcases List.mem_cons.1 hx with rfl | hx
    ·exact h
    ·exact h3 x hx
  ·rw [if_neg hb];obtain⟨ls,r,h1,h2,h3,h4⟩:=zDk c t (cur++[b]) (by simp;exact⟨h,fun e=>hb e.symm⟩);exact⟨ls,r,h1,by rw [←h2];simp,h3,h4⟩
theorem lines_form {t:By} (h:t=[]∨t.getLast?=some 10):(∀x∈vV t,(10:UInt8) ∉ x)∧t=(vV t).flatMap (·++[10]):=by
 obtain⟨ls,r,h1,h2,h3,h4⟩:=zDk 10 t [] (by simp);have hr:r=[]:=by
  rcases h with rfl | h
  ·have:=congrArg List.length h2;rw [List.length_append,List.length_append] at this;exact List.eq_nil_of_length_eq_zero (by simp at this;omega)
  ·rw [List.nil_append] at h2
   cases hrr:r.getLast? with
   | none=>exact List.getLast?_eq_none_iff.1 hrr
   | some b =>
    have:t.getLast?=some b:=by rw [h2,List.getLast?_append,hrr];rfl
    rw [h] at this
    cases this
    exact absurd (List.mem_of_getLast? hrr) h4
 subst hr;have e:vV t=ls:=by unfold vV zT;rw [h1,List.dropLast_concat]
 rw [e];exact⟨h3,by simpa using h2⟩
theorem lines_strip {t:By} (h:t=[]∨t.getLast?=some 10):(qE t).map zBk=vV t:=by
 obtain⟨h1,h2⟩:=lines_form h
 conv=>lhs;rw [h2]
 rw [zDr _ h1,List.map_map]
 conv=>rhs;rw [←List.map_id (vV t)]
 refine List.map_congr_left fun x _=>?_
 exact trim_line x
end Go.Proofs.YtpcjkfppacnkgaaGreatDoor
