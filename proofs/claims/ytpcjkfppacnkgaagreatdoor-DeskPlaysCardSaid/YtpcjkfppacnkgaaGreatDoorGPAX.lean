/- Contracts and plain facts. -/
import Derived.Test.YtpcjkfppacnkgaaGreatDoorGPAW
import Derived.Laws.Externs
import Derived.Lib.AppendStr
import Derived.Lib.BufferKept
import Derived.Lib.Builder
import Derived.Lib.OwnKind
import Derived.Lib.Slices
import Derived.Lib.UnsafeStr
import Derived.Outline
import Derived.OwnWalk
set_option maxHeartbeats 4000000
set_option maxRecDepth 100000
namespace Go.Proofs.YtpcjkfppacnkgaaGreatDoor
open Go Go.RowKit
theorem bld_size:(Tryz.prog.info? 65).map (·.size)=some 2:=by kernel_rfl
theorem bld_lies:liesAt Tryz.prog Tryz.prog.depth 65 (2 / Tryz.prog.cellsOf 65) 0 65 1=true:=by kernel_rfl
theorem bld_byte:(Tryz.prog.info? 5).map (fun i=>(i.zero,i.size,i.bytes))=some (some (.int .u8 0),1,1):=by kernel_rfl
theorem ext_grown {w w':World} (h:Ext w w'):w.grownBy w' none:=⟨h.os,h.tape,h.output,h.size,fun k hk _=>h.block k hk⟩
def Bd (w:World) (B b:Nat) (l:List UInt8):Prop:=Lib.IsBuilder 65 5 B b (Lib.byteCells l) w
theorem BuilderAt.ext {T e:TypeId} {B b:Nat} {p:Value} {bs:List Value} {w w':World} (h:Lib.BuilderAt T e B b p bs w) (he:Ext w w'):Lib.BuilderAt T e B b p bs w':=by
 have hlt:=h.lt;obtain⟨hB,v,hb,hown,hne⟩:=h;exact⟨hB,v,(he.block b hlt).trans hb,hown.kept (row:=none) (ext_grown he) (by cases h:v.ownBlock<;>simp),hne⟩
theorem Bd.ext {w w':World} {B b:Nat} {l:List UInt8} (h:Bd w B b l) (he:Ext w w'):Bd w' B b l:=h.imp (fun h=>BuilderAt.ext h he) (fun h=>BuilderAt.ext h he)
theorem Bd.new (w:World) (B:Nat) (hB:B≤w.heap.size):Bd (w.alloc (.cells #[.pointer none,.slice none 0 0] 65)) B w.heap.size [] :=
 .inl ⟨hB,.slice none 0 0,World.alloc_heap_new w _,World.ownsRow_nil _ _ _ _,by simp [Value.ownBlock]⟩
theorem Bd.lt {w:World} {B b:Nat} {l:List UInt8} (h:Bd w B b l):b<w.heap.size:=h.elim (·.lt) (·.lt)
theorem others_set (w:World) (b o:Nat) (u:Value) (e:TypeId):Lib.OthersKept e (some b) w (w.setCell ⟨b,o,none⟩ u):=(Lib.OthersKept.refl e (some b) w).setCell ⟨b,o,none⟩ rfl u
theorem copyCheck_any (B b:Nat) (bs:List Value) (w:World) (h:Lib.IsBuilder 65 5 B b bs w) :
  Calls Tryz.prog 71 #[.pointer (some ⟨b,0,none⟩)] w fun e w'=>e=.returned (.tuple #[])∧Lib.BuilderAt 65 5 B b (.pointer (some ⟨b,0,none⟩)) bs w'∧Below B w w'∧Lib.OthersKept 5 (some b) w w':=by
 obtain⟨j,hj,hjs⟩:=Option.map_eq_some_iff.1 bld_size;rcases h with h | h
 ·have h0:=h.cell0;have hsh:=h.shape;have hfz:=h.frozen0;go_enter Tryz.func71,Tryz.ntmps71
  go_wp2
  rw [Lib.run_to_unsafe w ⟨b,0,none⟩ Tryz.underlying62 Tryz.underlying147 hj (by rw [hjs];decide) hsh (Nat.zero_lt_succ 1)];simp only [Result.andThen];rw [Oper.upon_value]
  go_wp2
  rw [run_callFunc_extern Tryz.func107 (by kernel_rfl) (by kernel_rfl) (by kernel_rfl) (e:=Extern.AbiNoEscape.same) (by kernel_rfl)];rw [Lib.run_noEscape];simp only [Result.andThen];rw [Oper.upon_value]
  go_wp2
  rw [Lib.run_from_unsafe w ⟨b,0,none⟩ Tryz.underlying147 Tryz.underlying62 hj hsh bld_lies];simp only [Result.andThen];rw [Oper.upon_value]
  go_wp2
  go_end0;exact⟨rfl,h.used _,(Below.refl B w).setCell (p:=⟨b,0,none⟩) h.1 _,others_set w b 0 _ _⟩
 ·have h0:=h.cell0;go_enter Tryz.func71,Tryz.ntmps71
  go_wp2
  rw [Lib.run_neq_ptr_same w _ Tryz.underlying62 hj]
  go_wp2
  go_end0;exact⟨rfl,h,Below.refl B _,Lib.OthersKept.refl _ _ _⟩
theorem writeString_any (B b:Nat) (bs:List Value) (s:ByteArray) (w:World) (h:Lib.IsBuilder 65 5 B b bs w) (hlen:bs.length+s.size≤140737488355328) (hBw:B≤w.heap.size) :
  Calls Tryz.prog 29 #[.pointer (some ⟨b,0,none⟩),.string s] w fun e w'=>e=.returned (.tuple #[.int .i64 s.size,.nilIface])∧Lib.BuilderAt 65 5 B b (.pointer (some ⟨b,0,none⟩)) (bs++Lib.strCells s) w'∧Below B w w'∧Lib.OthersKept 5 (some b) w w':=by
 obtain⟨i0,hi,hz0,hz1,hz2⟩:=info_parts bld_byte;go_enter Tryz.func29,Tryz.ntmps29
 go_wp2_with (go_at_call 71;refine(copyCheck_any B b bs _ h).mono ?_)
 rintro e w1 ⟨rfl,h1,hb1,ho1⟩;obtain⟨hB,v,hbk,hown,hne⟩:=h1;have c0:w1.cell? ⟨b,0,none⟩=some (.pointer (some ⟨b,0,none⟩)):=by rw [Lib.cell_of_heap hbk];rfl
 have c1:w1.cell? ⟨b,1,none⟩=some v:=by rw [Lib.cell_of_heap hbk];rfl
 go_wp2_with (at_builtin;refine Lib.wpList_append_own_string _ rfl _ _ 63 9 rfl B 5 i0 Tryz.underlying63 Tryz.underlying9 hi hz0 hz1 hz2 _ _ _ rfl hown s rfl ?c3 ?c4 ?c5 ?_)
 case c3=>unfold maxLen;omega
 case c4=>omega
 case c5=>have:=hb1.size;omega
 intro v' w2 hown' hgrow _;have hlt:b<w1.heap.size:=by
  rcases Nat.lt_or_ge b w1.heap.size with h' | h'
  ·exact h'
  ·simp [Array.getElem?_eq_none h'] at hbk
 have hb2:w2.heap[b]?=some (.cells #[.pointer (some ⟨b,0,none⟩),v] 65 (0,0)):=by
  rw [hgrow.block b hlt (fun e=>hne e.symm)];exact hbk
 have d0:w2.cell? ⟨b,0,none⟩=some (.pointer (some ⟨b,0,none⟩)):=by rw [Lib.cell_of_heap hb2];rfl
 have d1:w2.cell? ⟨b,1,none⟩=some v:=by rw [Lib.cell_of_heap hb2];rfl
 have f1:w2.frozen? ⟨b,1,none⟩=false:=Lib.frozen_of_heap hb2 1;obtain⟨ao,n',cap,rfl⟩:∃ao n' cap,v'=.slice ao n' cap:=by
  rcases hown'.2 with ⟨hv,_⟩ | ⟨g,cap,cur,hv,_⟩
  ·exact⟨_,_,_,hv⟩
  ·exact⟨_,_,_,hv⟩
 go_wp2
 go_ret2
 refine⟨rfl,?_,?_,?_⟩
 ·exact Lib.BuilderAt.put (T:=65) (e:=5) hB hb2 (bs':=bs++Lib.strCells s) (by simpa [Lib.strCells_length] using hown') (by decide)
 ·exact(hb1.grown hgrow (by have:=hb1.size;omega) (fun k hk=>(hown.lt k hk).1)).setCell (p:=⟨b,1,none⟩) hB _
 ·exact(ho1.grown hgrow (Lib.ownsRow_kind hown)).setCell ⟨b,1,none⟩ rfl _
theorem strCells_by (x:List UInt8):Lib.strCells ⟨x.toArray⟩=Lib.byteCells x:=by simp [Lib.strCells,Lib.byteCells]
theorem write_by (B b:Nat) (l x:List UInt8) (w:World) (h:Bd w B b l) (hlen:l.length+x.length≤140737488355328) (hBw:B≤w.heap.size) :
  Calls Tryz.prog 29 #[.pointer (some ⟨b,0,none⟩),.string ⟨x.toArray⟩] w fun e w'=>e=.returned (.tuple #[.int .i64 x.length,.nilIface])∧Bd w' B b (l++x)∧Below B w w'∧Lib.OthersKept 5 (some b) w w':=by
 have hsz:(⟨x.toArray⟩:ByteArray).size=x.length:=by simp [ByteArray.size]
 refine(writeString_any B b (Lib.byteCells l) ⟨x.toArray⟩ w h (by rw [hsz];simpa [Lib.byteCells] using hlen) hBw).mono ?_;rintro e w' ⟨rfl,h1,h2,h3⟩;refine⟨by rw [hsz],.inr ?_,h2,h3⟩;rw [strCells_by] at h1;simpa [Lib.byteCells] using h1
theorem zDx (W:World) (l:List Int) (hI:∀n∈l,I64 n) (hl:l.length≤1000):Ints (W.alloc (.cells (ints l).toArray 3)) (fun _=>True) (.slice (some ⟨W.heap.size,0,none⟩) l.length l.length) l:=by
 refine⟨some ⟨W.heap.size,0,none⟩,l.length,rfl,Nat.le_refl _,⟨by omega,by omega⟩,fun i hi=>⟨W.heap.size,0,rfl,trivial,?_,hI _ (List.getElem_mem hi)⟩⟩;rw [World.cell?_alloc_new,List.getElem?_toArray,Nat.zero_add,Nat.mul_one];unfold ints;rw [List.getElem?_map,List.getElem?_eq_getElem hi];rfl
theorem zIb {w2 W W':World} {b6:Nat} (e:w2.heap.size=b6) (h:Ext w2 W) (hb:Below b6 W W'):Ext w2 W':=by subst e;exact Below.trans h hb
theorem cells_at {w:World} {b:Nat} {cs:Array Value} {t:TypeId} {z:Nat × Nat} (h:w.heap[b]?=some (.cells cs t z)) (o:Nat):w.cell? ⟨b,o,none⟩=cs[o]?:=by simp [World.cell?,h]
theorem heap_new (w:World) (o:Obj):(w.alloc o).heap[w.heap.size]?=some o:=World.alloc_heap_new w _
def showT (p:List GFunc):By:=if zZ p=0 then qZ p else []
theorem words_head (f:GFunc):jH zBc [f.args,f.locals]=vH f:=by unfold jH vH;simp
theorem words_op (x:GOp) (h:jG x.kind=true):jH (yR x.kind) [x.a]=opW x:=by unfold jH opW;rw [h];simp
theorem words_op0 (x:GOp) (h:jG x.kind=false):jH (yR x.kind) []=opW x:=by unfold jH opW;rw [h];simp
theorem show_any (p:List GFunc) (v:Value) (S:Nat→Prop) (w:World) (hg:Glob w) (hp:zM w S v p) :
  Calls Tryz.prog 11 #[v] w fun e w'=>e=.returned (.tuple #[.string ⟨(showT p).toArray⟩,.int .i64 (zZ p)])∧Ext w w':=by
 have HP:=eH hp;have HG:=eH hg;obtain⟨r,hr⟩:∃r,zZ p=r:=⟨_,rfl⟩
 obtain⟨sh,hsh⟩:∃sh,showT p=sh:=⟨_,rfl⟩
 rw [hr,hsh];have HR:=eH hr;have HSH:=eH hsh;clear hr hsh hg;obtain⟨a,cap,rfl,hcap,hby,_⟩:=hp;by_cases h0:r=0
 ·subst h0;have HT:Hid (sh=qZ p):=by unfold Hid;rw [←HSH.out];unfold showT;rw [if_pos HR.out]
  have h5:=(kH HR.out).most;go_enter Tryz.func11,Tryz.ntmps11
  go_upto_region 5 with (first
   | (go_at_call 36;(with_reducible refine(zGl p _ _ _ HP.out).mono ?_);rintro e w1 ⟨rfl,hb1⟩;rw [HR.out])
   | (go_at_call 37;(with_reducible refine(namesI_any _ (HG.out.ext hb1)).mono ?_);rintro e w2 ⟨vn,rfl,hvn,hb2⟩;have HVN:=eH hvn;obtain⟨an,cn,rfl,_,_⟩:=hvn))
  have HB0:=eH (hb1.trans hb2);have HG2:=eH ((HG.out.ext hb1).ext hb2);clear hb1 hb2;have hu8:∀(W:World) (f:GFunc) (u:Value),Hid (∀c fz,(Obj.cells #[.int .i64 f.args,.int .i64 f.locals,u] 49 (0,0))≠.cells c 5 fz):=fun _ _ _=>by unfold Hid;intro c fz h;cases h
  have HBD:=eH (Bd.new w2 w2.heap.size (Nat.le_refl _));have HX6:=eH ((eR w2).alloc (.cells #[.pointer none,.slice none 0 0] 65));obtain⟨b6,hb6⟩:∃b6,w2.heap.size=b6:=⟨_,rfl⟩
  have HB6:=eH hb6;rw [hb6] at HBD;have hcat:=jS;have hlen:=zAo
  go_wp2_with fail
  clear hb6
  go_loopw [19] (fun q19 wr=>∃k:Nat,k≤p.length∧q19=.int .i64 k∧Bd wr b6 b6 (qZ (p.take k))∧Ext w2 wr) (fun q _=>p.length - (intOf q).toNat)
  case atStart=>exact⟨0,Nat.zero_le _,rfl,HBD.out,HX6.out⟩
  case round =>
   obtain⟨k,hk,rfl,hbd,hb⟩:=hrel;have HBD:=eH hbd;have HB:=eH hb;have hsl:=take_len HR.out k;have hbl:=hbd.lt;clear hbd hb;by_cases hlt:k<p.length
   ·obtain⟨s,hs⟩:∃s,qZ (p.take k)=s:=⟨_,rfl⟩
    rw [hs] at hsl HBD;have HS:=eH hs;obtain⟨⟨ra0,ra1,rl0,rl1⟩,hcl,hop⟩:=jX HR.out _ (List.getElem_mem hlt);obtain⟨bP,oP,capP,e0,_,_,⟨_,x0,iA⟩,⟨_,x1,iL⟩,vc,x2,hops⟩:=HP.out.get hlt;simp only [Value.slice.injEq] at e0;obtain⟨rfl,-,rfl⟩:=e0;replace x0:=eC (HB0.out.trans HB.out) x0;replace x1:=eC (HB0.out.trans HB.out) x1;replace x2:=eC (HB0.out.trans HB.out) x2;have HOPS:=eH hops;have HOP:=eH hop;obtain⟨hd,hhd⟩:∃hd,vH p[k]++[10]=hd:=⟨_,rfl⟩
    have HHD:=eH hhd;have lhd:hd.length≤19:=by
     rw [←hhd,List.length_append];have:=headW_len (f:=p[k]) ⟨ra0,ra1,rl0,rl1⟩;simp;omega
    have HLH:∀W,Hid (Glob W→Calls Tryz.prog 38 #[.string ⟨#[102,117,110,99]⟩,.slice (some ⟨W.heap.size,0,none⟩) 2 2] (W.alloc (.cells #[.int .i64 p[k].args,.int .i64 p[k].locals] 3)) fun e w'=>e=.returned (.string ⟨hd.toArray⟩)∧Ext (W.alloc (.cells #[.int .i64 p[k].args,.int .i64 p[k].locals] 3)) w'):=fun W=>by
     unfold Hid;intro hgW;rw [←hhd,←words_head];exact zDg zBc [p[k].args,p[k].locals] _ _ _ (hgW.ext ((eR _).alloc _)) (zDx W [p[k].args,p[k].locals] (fun n hn=>(List.mem_cons.1 hn).elim (fun e=>e ▸ iA) (fun hn=>(List.mem_singleton.1 hn) ▸ iL)) (by simp)) (by decide) (by simp)
    have HU:=hu8 wr p[k] vc;have O8:Hid ((wr.alloc (.cells #[.int .i64 p[k].args,.int .i64 p[k].locals,vc] 49)).heap[wr.heap.size]?=some (.cells #[.int .i64 p[k].args,.int .i64 p[k].locals,vc] 49 (0,0))):=heap_new _ _;generalize p[k].args=A at *;generalize p[k].locals=L at *;have HB8:=eH (HB.out.alloc (.cells #[.int .i64 A,.int .i64 L,vc] 49));have HBD8:=eH (Bd.ext HBD.out ((eR wr).alloc (.cells #[.int .i64 A,.int .i64 L,vc] 49)));clear hs hops hop ra0 ra1 rl0 rl1 hhd iA iL;obtain⟨ac,capc,rfl,hcapc,hbyc,_⟩:=HOPS.out
    go_upto_region 9 with fail
    obtain⟨b8,hb8⟩:∃b8,wr.heap.size=b8:=⟨_,rfl⟩
    rw [hb8] at O8;have hne8:b8≠b6:=by omega
    have hl8:b8<(wr.alloc (.cells #[.int .i64 A,.int .i64 L,.slice ac p[k].code.length capc] 49)).heap.size:=(Array.getElem?_eq_some_iff.1 O8.out).1;generalize wr.alloc (.cells #[.int .i64 A,.int .i64 L,.slice ac p[k].code.length capc] 49)=w8 at *;have c0:=cells_at O8.out 0;have c1:=cells_at O8.out 1;simp only [List.getElem?_toArray,xO,xP] at c0 c1;rw [hb8]
    go_upto_region 10 with (first
     | (go_at_call 38;(with_reducible refine((HLH w8).out (HG2.out.ext HB8.out)).mono ?_);rintro e w9 ⟨rfl,hb9⟩;have HX9:=eH (((eR w8).alloc _).trans hb9);have HBD9:=eH (Bd.ext HBD8.out HX9.out);have hl9:=HBD9.out.lt)
     | (go_at_call 29;(with_reducible refine(write_by b6 b6 s hd _ HBD9.out (by omega) (by omega)).mono ?_);rintro e wA ⟨rfl,hbA,hblA,hoA⟩))
    have HXA:=eH (zIb HB6.out (HB8.out.trans HX9.out) hblA);have O8A:=hoA b8 _ ((HX9.out.block b8 hl8).trans O8.out) (fun e=>hne8 (Option.some.inj e)) HU.out;have c2:=cells_at O8A 2;simp only [List.getElem?_toArray,xO,xP] at c2;have HBA:Hid (Bd wA b6 b6 (preT p p[k] k 0)):=by
     unfold Hid;rw [preT_zero,HS.out,HHD.out];exact hbA
    have HOPA:=eH (HOPS.out);clear hbA hblA hoA O8A O8 c0 c1 HU HLH hl8 lhd hsl HHD hb9
    go_wp2_with fail
    go_loopw [33] (fun q33 wx=>∃j:Nat,j≤p[k].code.length∧q33=.int .i64 j∧Bd wx b6 b6 (preT p p[k] k j)∧Ext w2 wx) (fun q _=>p[k].code.length - (intOf q).toNat)
    case atStart=>exact⟨0,Nat.zero_le _,rfl,HBA.out,HXA.out⟩
    case round =>
     rename World=>wx
     obtain⟨j,hj,rfl,hbd,hb⟩:=hrel;have HBDx:=eH hbd;have HBx:=eH hb;have hsl:=preT_len HR.out hlt j;have hblx:=hbd.lt;clear hbd hb;by_cases hjt:j<p[k].code.length
     ·obtain⟨s2,hs2⟩:∃s2,preT p p[k] k j=s2:=⟨_,rfl⟩
      rw [hs2] at hsl HBDx;obtain⟨⟨k0,k1⟩,⟨a0,a1⟩,_⟩:=HOP.out _ (List.getElem_mem hjt);obtain⟨bc,oc,capc',e0,_,_,⟨_,x3,_⟩,⟨_,x4,iA2⟩⟩:=(Ops.stays (Ext.stays (HB0.out.trans HBx.out)) HOPS.out).get hjt;simp only [Value.slice.injEq] at e0;obtain⟨rfl,-,rfl⟩:=e0;obtain⟨ln,hln⟩:∃ln,opW p[k].code[j]++[10]=ln:=⟨_,rfl⟩
      have HPR:Hid (preT p p[k] k (j+1)=s2++ln):=by
       unfold Hid;rw [preT_step _ _ _ hjt,hs2,hln]
      have lln:ln.length≤19:=by
       rw [←hln,List.length_append];have:=opW_len (HOP.out _ (List.getElem_mem hjt));simp;omega
      have HL1:∀W,Hid (jG p[k].code[j].kind=true→Glob W→Calls Tryz.prog 38 #[.string ⟨(yR p[k].code[j].kind).toArray⟩,.slice (some ⟨W.heap.size,0,none⟩) 1 1] (W.alloc (.cells #[.int .i64 p[k].code[j].a] 3)) fun e w'=>e=.returned (.string ⟨ln.toArray⟩)∧Ext (W.alloc (.cells #[.int .i64 p[k].code[j].a] 3)) w'):=fun W=>by
       unfold Hid;intro ht hgW;rw [←hln,←words_op _ ht];exact zDg _ [p[k].code[j].a] _ _ _ (hgW.ext ((eR _).alloc _)) (zDx W [p[k].code[j].a] (fun n hn=>(List.mem_singleton.1 hn) ▸ iA2) (by simp)) (Nat.le_trans (zDp _ (uD k0 k1)) (by decide)) (by simp)
      have HL0:∀W,Hid (jG p[k].code[j].kind=false→Glob W→Calls Tryz.prog 38 #[.string ⟨(yR p[k].code[j].kind).toArray⟩,.slice none 0 0] W fun e w'=>e=.returned (.string ⟨ln.toArray⟩)∧Ext W w'):=fun W=>by
       unfold Hid;intro ht hgW;rw [←hln,←words_op0 _ ht];exact zDg _ [] _ (fun _=>True) _ hgW (Sl.nil _ _ _) (Nat.le_trans (zDp _ (uD k0 k1)) (by decide)) (by simp)
      generalize p[k].code[j].kind=K at *;generalize p[k].code[j].a=A2 at *;obtain⟨m,rfl⟩:∃m:Nat,K=m:=⟨K.toNat,by omega⟩
      have hK:m<kC.length:=by show m<17;omega
      have HNX:Hid (kC[m]=yR (m:Int)):=by unfold Hid yR;simp [List.getD,List.getElem?_eq_getElem hK]
      obtain⟨nm,hnm⟩:∃nm,yR (m:Int)=nm:=⟨_,rfl⟩
      rw [hnm] at HNX;simp only [hnm] at HL1 HL0;obtain⟨bn,on,cn',en,_,xn⟩:=zDh (HVN.out.stays (Ext.stays HBx.out)) hK;simp only [Value.slice.injEq] at en;obtain⟨rfl,-,rfl⟩:=en;rw [HNX.out] at xn;replace xn:_=some (Value.string ⟨nm.toArray⟩):=xn;clear hs2 hln hnm k0 k1 a0 a1 iA2
      go_upto_region 13 with fail
      have y0:=(Cx.new wx [.int .i64 m,.int .i64 A2] 51 (j:=0) rfl).1;have y1:=(Cx.new wx [.int .i64 m,.int .i64 A2] 51 (j:=1) rfl).1;have HYX:=eH ((eR wx).alloc (.cells #[.int .i64 m,.int .i64 A2] 51));replace xn:=eC HYX.out xn;generalize wx.heap.size=bx at *;generalize wx.alloc (.cells #[.int .i64 m,.int .i64 A2] 51)=wy at *
      cases htb:jG (m:Int) with
      | false =>
       have HTB:=eH htb;clear htb
       go_wp2_with (first
        | (go_at_call 39;refine(zEu _ _).mono ?_;rintro e wt ⟨rfl,hbt⟩;rw [HTB.out];have HXT:=eH (HYX.out.trans hbt);have y0':=eC hbt y0;have xn':=eC hbt xn)
        | (go_at_call 38;(with_reducible refine((HL0 _).out HTB.out (HG2.out.ext (HBx.out.trans HXT.out))).mono ?_);rintro e wl ⟨rfl,hbl⟩;have HXL:=eH (HXT.out.trans hbl);have HBL:=eH (Bd.ext HBDx.out HXL.out);have hll:=HBL.out.lt)
        | (go_at_call 29;(with_reducible refine(write_by b6 b6 s2 ln _ HBL.out (by omega) (by omega)).mono ?_);rintro e wA2 ⟨rfl,hbA,hblA,hoA⟩))
       go_roundw
       case rel=>exact⟨j+1,by omega,by go_num,by rw [HPR.out];exact hbA,zIb HB6.out (HBx.out.trans HXL.out) hblA⟩
       case measure=>simp [intOf];omega
      | true =>
       have HTB:=eH htb;clear htb
       go_upto_region 14 with (first
        | (go_at_call 39;refine(zEu _ _).mono ?_;rintro e wt ⟨rfl,hbt⟩;rw [HTB.out];have HXT:=eH (HYX.out.trans hbt);have y0':=eC hbt y0;have y1':=eC hbt y1;have xn':=eC hbt xn))
       refine qD (fun w'=>w'.cell? ⟨bx,0,none⟩=some (.int .i64 (m:Int))∧w'.cell? ⟨bx,1,none⟩=some (.int .i64 A2)∧w'.cell? ⟨bn,on+m,none⟩=some (.string ⟨nm.toArray⟩)) 9 [0,1,2,3,4,5,6] [7,8,9] (by kernel_rfl) (by kernel_rfl) (fun _ _ _ _ _ h=>h) (by exact⟨y0',y1',xn'⟩) ?_
       (try simp only [zH,List.filterMap_cons,List.filterMap_nil,xO,xP])
       repeat (
        refine zN (by rfl) ?_;apply Exists.intro;refine⟨fun w' hw'=>?_,?_⟩
        focus
         (try dsimp only at hw')
         go_split_ands;go_simp
         (try with_reducible rfl)
        (try dsimp only [Act.put])
        (try simp only [xL,xM,xN]))
       refine zL ?_;refine zC ?_
       go_wp2_with fail
       have HXU:=eH (HXT.out.trans ((eR wt).drew.alloc (.cells #[.int .i64 A2] 3)));have HDR:=eH (HXT.out.trans (eR wt).drew);have HE7:=eH ((eR wt).drew.alloc (.cells #[.int .i64 A2] 3));refine zD (by exact⟨eC HE7.out y0',eC HE7.out y1',eC HE7.out xn'⟩) ?_;refine zC ?_
       go_wp2_with (first
        | (go_at_call 38;refine((HL1 wt.drew).out HTB.out (HG2.out.ext (HBx.out.trans HDR.out))).mono ?_;rintro e wl ⟨rfl,hbl⟩))
       have HXL:=eH (HXU.out.trans hbl);have HEL:=eH (HE7.out.trans hbl);have HBL:=eH (Bd.ext HBDx.out HXL.out);have hll:=HBL.out.lt;refine zD (by exact⟨eC HEL.out y0',eC HEL.out y1',eC HEL.out xn'⟩) ?_;refine zC ?_
       go_wp2_with (first
        | (go_at_call 29;(with_reducible refine(write_by b6 b6 s2 ln _ HBL.out (by omega) (by omega)).mono ?_);rintro e wA2 ⟨rfl,hbA,hblA,hoA⟩))
       refine zS ?_
       go_wp2_with fail
       go_roundw
       case rel=>exact⟨j+1,by omega,by go_num,by rw [HPR.out];exact hbA,zIb HB6.out (HBx.out.trans HXL.out) hblA⟩
       case measure=>simp [intOf];omega
     ·obtain rfl:j=p[k].code.length:=by omega
      have HBE:Hid (Bd wx b6 b6 (qZ (p.take (k+1)))):=by have:=HBDx.out;rw [preT_end p hlt] at this;exact this
      clear hjt hsl
      go_wp2_with fail
      go_roundw
      case rel=>exact⟨k+1,by omega,by go_num,HBE.out,HBx.out⟩
      case measure=>simp [intOf];omega
   ·obtain rfl:k=p.length:=by omega
    have HBE:Hid (Bd wr b6 b6 sh):=by have:=HBD.out;rw [List.take_length,←HT.out] at this;exact this
    clear hlt hsl
    go_wp2_with (first
     | (go_at_call 32;refine(Tryz.Builder_String_any b6 b6 sh _ HBE.out (by omega)).mono ?_;rintro e w4 ⟨rfl,hb4⟩))
    go_ret2
    exact⟨rfl,HB0.out.trans (zIb HB6.out HB.out hb4)⟩
 ·have hs0:sh=[]:=by rw [←HSH.out];unfold showT;rw [if_neg (fun e=>h0 (HR.out.symm.trans e))]
  subst hs0;have T0:(r != 0)=true:=bne_iff_ne.2 h0;clear h0;go_enter Tryz.func11,Tryz.ntmps11
  go_wp2_with (first
   | (go_at_call 36;(with_reducible refine(zGl p _ _ _ HP.out).mono ?_);rintro e w1 ⟨rfl,hb1⟩;rw [HR.out]))
  go_ret2
  exact⟨rfl,hb1⟩
structure Tab (W:World) (S:Nat→Prop) (b:Nat) (p:List GFunc) (s:GState) (pa:Option Addr) (pc:Nat) (fa:Option Addr) (fc:Nat) (oa:Option Addr) (oc:Nat):Prop where
 c0:Cx W b 0 (.slice pa p.length pc)
 c1:Cx W b 1 (.slice fa s.fibers.length fc)
 c2:Cx W b 2 (.int .i64 s.now)
 c3:Cx W b 3 (.slice oa s.out.length oc)
 pr:zM W S (.slice pa p.length pc) p
 st:zW W S (.agg #[.slice fa s.fibers.length fc,.int .i64 s.now,.slice oa s.out.length oc]) s
 nb:¬S b
def TabX (W:World) (S:Nat→Prop) (b:Nat) (p:List GFunc) (s:GState):Prop:=∃pa pc fa fc oa oc,Tab W S b p s pa pc fa fc oa oc
def Up (S:Nat→Prop) (n:Nat) (k:Nat):Prop:=S k∨n≤k
section
variable {W W':World} {S T:Nat→Prop} {b n:Nat} {p:List GFunc} {s s':GState} {pa:Option Addr} {pc:Nat} {fa:Option Addr} {fc:Nat} {oa:Option Addr} {oc:Nat}
theorem Tab.ext (h:Tab W S b p s pa pc fa fc oa oc) (he:Ext W W'):Tab W' S b p s pa pc fa fc oa oc :=
 ⟨h.c0.ext he,h.c1.ext he,h.c2.ext he,h.c3.ext he,zM.stays (Ext.stays he) h.pr,zW.stays (Ext.stays he) h.st,h.nb⟩
theorem Tab.wide (h:Tab W S b p s pa pc fa fc oa oc) (hS:∀k,S k→T k) (hb:¬T b):Tab W T b p s pa pc fa fc oa oc :=
 ⟨h.c0,h.c1,h.c2,h.c3,zM.stays (uU.widen hS) h.pr,zW.stays (uU.widen hS) h.st,hb⟩
theorem Tab.up (h:Tab W S b p s pa pc fa fc oa oc) (hb:b<n):Tab W (Up S n) b p s pa pc fa fc oa oc:=h.wide (fun _=>.inl) (fun e=>e.elim h.nb (fun e=>by omega))
theorem Tab.upX (h:Tab W S b p s pa pc fa fc oa oc) (hb:b<n):TabX W (Up S n) b p s:=⟨pa,pc,fa,fc,oa,oc,h.up hb⟩
theorem TabX.ext (h:TabX W S b p s) (he:Ext W W'):TabX W' S b p s:=by
 obtain⟨pa,pc,fa,fc,oa,oc,h⟩:=h;exact⟨pa,pc,fa,fc,oa,oc,h.ext he⟩
theorem TabX.wide (h:TabX W S b p s) (hS:∀k,S k→T k) (hb:¬T b):TabX W T b p s:=by
 obtain⟨pa,pc,fa,fc,oa,oc,h⟩:=h;exact⟨pa,pc,fa,fc,oa,oc,h.wide hS hb⟩
theorem Tab.lt (h:Tab W S b p s pa pc fa fc oa oc):b<W.heap.size:=zY h.c0.1
theorem TabX.fold {m:Nat} (h:TabX W (Up (Up S n) m) b p s) (hnm:n≤m) (hb:¬Up S n b):TabX W (Up S n) b p s:=h.wide (fun _ e=>e.elim id (fun e=>.inr (Nat.le_trans hnm e))) hb
theorem TabX.nb (h:TabX W S b p s):¬S b:=by obtain⟨_,_,_,_,_,_,h⟩:=h;exact h.nb
theorem chgT3 (W:World) (b:Nat) (x y z:Value):Chg (·=b) W (((W.setCell ⟨b,1,none⟩ x).setCell ⟨b,2,none⟩ y).setCell ⟨b,3,none⟩ z):=((zO _ _ _ _).trans (zO _ _ _ _)).trans (zO _ _ _ _)
theorem Tab.turn {xa ya:Option Addr} {xc yc:Nat} (h:Tab W S b p s pa pc fa fc oa oc)
  (hs:zW W S (.agg #[.slice xa s'.fibers.length xc,.int .i64 s'.now,.slice ya s'.out.length yc]) s') :
  Tab (((W.setCell ⟨b,1,none⟩ (.slice xa s'.fibers.length xc)).setCell ⟨b,2,none⟩ (.int .i64 s'.now)).setCell ⟨b,3,none⟩ (.slice ya s'.out.length yc)) S b p s' pa pc xa xc ya yc:=by
 have hc:=chgT3 W b (.slice xa s'.fibers.length xc) (.int .i64 s'.now) (.slice ya s'.out.length yc);have hS:∀k,S k→¬(k=b):=fun k hk e=>h.nb (e ▸ hk)
 exact⟨((h.c0.other (.inr (by decide)) _).other (.inr (by decide)) _).other (.inr (by decide)) _,((h.c1.set _).other (.inr (by decide)) _).other (.inr (by decide)) _,((h.c2.other (.inr (by decide)) _).set _).other (.inr (by decide)) _,
  ((h.c3.other (.inr (by decide)) _).other (.inr (by decide)) _).set _,zM.stays (hc.stays hS) h.pr,zW.stays (hc.stays hS) hs,h.nb⟩
end
theorem vS {x c:By} {X:ByteArray} (hX:(⟨x.toArray⟩:ByteArray)=X) (h:x=c):(X.toList == c)=true:=by
 subst h;rw [←hX,ByteArray.toList_mk];exact beq_self_eq_true _
theorem qA {x c:By} {X:ByteArray} (hX:(⟨x.toArray⟩:ByteArray)=X) (h:x≠c):(X.toList == c)=false :=
 beq_eq_false_iff_ne.2 (fun e=>h (by rw [←hX,ByteArray.toList_mk] at e;exact e))
theorem field_code (x y:Int) (v:Value) (w:World):(Instr.field 49 (.agg #[.int .i64 x,.int .i64 y,v]) 2).run Tryz.prog w=.ok v w:=by kernel_rfl
def WordRet (S:Nat→Prop) (p:List GFunc) (s:GState) (b:Nat) (W:World) (r:Option (GState × By)) (e:Ending) (W':World):Prop :=
 (match r with | some r=>e=.returned (.tuple #[.string ⟨r.2.toArray⟩,.bool true])∧TabX W' (Up S W.heap.size) b p r.1 | none=>e=.returned (.tuple #[.string ⟨#[]⟩,.bool false])∧TabX W' (Up S W.heap.size) b p s)∧Chg (·=b) W W'
theorem word_any (p:List GFunc) (s:GState) (l:List Int) (x:By) (X:ByteArray) (S:Nat→Prop) (b:Nat) (w:World) (hg:Glob w) (hX:(⟨x.toArray⟩:ByteArray)=X) (hT:TabX w S b p s) (hok:Ok p s l) :
  Calls Tryz.prog 72 #[.pointer (some ⟨b,0,none⟩),.string X] w fun e W'=>WordRet S p s b w (jN p s x) e W':=by
 have HG:=eH hg;have HX:=eH hX;have HOK:=eH hok;have hR:=hok.right;have HR:=eH hR;have hout:=hok.out;have hfew:=hok.few;obtain⟨pa,pc,fa,fc,oa,oc,hT⟩:=hT;have HT:=eH hT;obtain⟨c0,c0'⟩:=hT.c0;obtain⟨c1,c1'⟩:=hT.c1;obtain⟨c2,c2'⟩:=hT.c2;obtain⟨c3,c3'⟩:=hT.c3;obtain⟨_,_,e,_,_,hints⟩:=id hT.st;simp only [Value.agg.injEq,Array.mk.injEq,List.cons.injEq,true_and,and_true] at e;obtain⟨rfl,rfl⟩:=e;have HOUT:=eH hints;have RA:=zF;clear hg hints hT;unfold jN;by_cases h1:x=outT
 ·rw [if_pos h1];have t1:(X.toList == ([111,117,116]:List UInt8))=true:=vS hX h1;clear h1 hX;go_enter Tryz.func72,Tryz.ntmps72
  go_wp2_with (first
   | (go_at_call 108;(with_reducible refine(vU s.out _ _ _ HG.out HOUT.out (by omega)).mono ?_);rintro e w2 ⟨rfl,hb2⟩))
  go_ret2
  exact⟨⟨rfl,(HT.out.ext hb2).upX HT.out.lt⟩,Chg.of_ext hb2⟩
 rw [if_neg h1];have t1:(X.toList == ([111,117,116]:List UInt8))=false:=qA hX h1;by_cases h2:x=zGm
 ·rw [if_pos h2];have t2:(X.toList == ([108,105,110,101]:List UInt8))=true:=vS hX h2;have hline:=hR.line;have hll:l.length≤1000:=by
   have h:=hR.lineF;have:=uC _ _ (zBp hok.lk) (vJ (fun k hk=>(hok.callers k hk).2) hok.lk hok.now.2);omega
  have HL:=eH hline;clear h1 h2 hX hline;go_enter Tryz.func72,Tryz.ntmps72
  go_wp2_with (first
   | (go_at_call 109;(with_reducible refine(zFg s _ _ _ HT.out.st HR.out.callers).mono ?_);rintro e w2 ⟨hr2,hb2⟩;unfold zAx at hr2;rw [HL.out] at hr2;obtain⟨a2,k2,rfl,hx2⟩:=hr2)
   | (go_at_call 108;(with_reducible refine(vU l _ _ _ (HG.out.ext hb2) hx2 hll).mono ?_);rintro e w3 ⟨rfl,hb3⟩))
  go_ret2
  exact⟨⟨by rw [HL.out];rfl,(HT.out.ext (hb2.trans hb3)).upX HT.out.lt⟩,Chg.of_ext (hb2.trans hb3)⟩
 rw [if_neg h2];have t2:(X.toList == ([108,105,110,101]:List UInt8))=false:=qA hX h2;by_cases h3:x=zDu
 ·rw [if_pos h3];have t3:(X.toList == ([107,105,110,100,115]:List UInt8))=true:=vS hX h3;obtain⟨i0,hi0,hz0,hz1,hz2⟩:=info_parts vM;clear h1 h2 h3 hX;go_enter Tryz.func72,Tryz.ntmps72
  go_wp2_with fail
  go_loopw [8,41] (fun q8 q41 wr=>∃k:Nat,k≤s.fibers.length∧q41=.int .i64 k∧Ext w wr∧RowAt wr w.heap.size 1 q8 k (ints ((qF p s).take k))) (fun _ q _=>s.fibers.length - (intOf q).toNat)
  case atStart=>exact⟨0,Nat.zero_le _,rfl,eR _,RowAt.nil _ _ _ _⟩
  case round =>
   obtain⟨k,hk,rfl,hb,hrow⟩:=hrel;have HB:=eH hb;have HROW:=eH hrow;obtain⟨ar,capr,rfl,_,_⟩:=hrow.shape;have hT2:=HT.out.ext hb;have HTR:=eH hT2;by_cases hlt:k<s.fibers.length
   ·clear c0 c0' c1 c1' c2 c2' c3 c3';obtain⟨c0,c0'⟩:=hT2.c0;obtain⟨c1,c1'⟩:=hT2.c1;obtain⟨c2,c2'⟩:=hT2.c2;obtain⟨c3,c3'⟩:=hT2.c3;have HKS:=eH (kindsG_step (p:=p) hlt);have hkl:((qF p s).take k).length=k:=by rw [List.length_take,zBr];omega
    have HCH:=eH (fun W (h:Ext wr W)=>chainOf_any p _ _ _ s _ k l W (zM.stays (Ext.stays h) HTR.out.pr) (zW.stays (Ext.stays h) HTR.out.st) HR.out hlt);generalize uN p s k=q at *;obtain⟨L,hL⟩:∃L,(qF p s).take k=L:=⟨_,rfl⟩
    have HL:=eH hL;rw [hL] at hkl;have HROW2:Hid (RowAt wr w.heap.size 1 (.slice ar k capr) L.length (ints L)):=by rw [hkl,←hL];exact HROW.out
    clear hb hrow hT2 hL HROW
    go_upto_region 12 with fail
    refine zX (fun W'=>W'.cell? ⟨b,0,none⟩=some (.slice pa p.length pc)∧W'.cell? ⟨b,1,none⟩=some (.slice fa s.fibers.length fc)∧W'.cell? ⟨b,2,none⟩=some (.int .i64 s.now)∧W'.cell? ⟨b,3,none⟩=some (.slice oa s.out.length oc)) 13 [0,1,2,3,4,5,6,7,8,9] [10,11,12,13] (by kernel_rfl) (by kernel_rfl) (fun _ _ _ _ _ h=>h) (by exact⟨c0,c1,c2,c3⟩) ?_
    (try simp only [zH,List.filterMap_cons,List.filterMap_nil,xO,xP])
    repeat (
     refine zN (by rfl) ?_;apply Exists.intro;refine⟨fun w' hw'=>?_,?_⟩
     focus
      (try dsimp only at hw')
      go_split_ands;go_simp
      (try with_reducible rfl)
     (try dsimp only [Act.put])
     (try simp only [xL,xM,xN]))
    refine zL ?_;refine zC ?_
    go_wp2_with (first
     | (go_at_call 110;(with_reducible refine(HCH.out _ (eR _).drew).mono ?_);rintro e w4 ⟨rfl,hb4⟩))
    have e4:=(eR wr).drew.trans hb4;refine zD (by exact⟨eC e4 c0,eC e4 c1,eC e4 c2,eC e4 c3⟩) ?_;refine zC ?_
    go_wp2_with fail
    have e5:=e4.alloc (.cells #[.int .i64 q] 3);have HE5:=eH e5;have HS5:=eH (Nat.le_trans HB.out.size e5.size);refine zD (by exact⟨eC e5 c0,eC e5 c1,eC e5 c2,eC e5 c3⟩) ?_;refine zC ?_
    go_wp2_with (first
     | (at_builtin;refine zE rfl _ _ 30 rfl w.heap.size 3 i0 (.int .i64 0) 1 8 Tryz.underlying30 hi0 hz0 hz1 hz2 rfl (by decide) _ _ _ rfl (by exact HROW2.out.ext HE5.out (by decide)) 1 (ints [q]) (uK _ _ _) (by unfold maxLen;omega) (by omega) (by exact HS5.out) ?_;intro v1 Wv1 rv1;have RV:=eH rv1;obtain⟨a9,cap9,rfl,_,_⟩:=rv1.1.shape;have HX9:=eH (Chg.ext_from (HB.out.trans HE5.out) RV.out.2.1 (fun b e=>HROW2.out.le b e));have HC9:=eH (HT.out.ext HX9.out);clear rv1))
    refine zD (by exact⟨HC9.out.c0.1,HC9.out.c1.1,HC9.out.c2.1,HC9.out.c3.1⟩) ?_;refine zC ?_
    go_wp2_with fail
    refine zS ?_
    go_wp2_with fail
    go_roundw
    case rel=>exact⟨k+1,by omega,by go_num,HX9.out,by rw [HKS.out,HL.out,show ints (L++[q])=ints L++ints [q] by simp [ints]];have h:=RV.out.1;rw [hkl] at h;exact h⟩
    case measure=>simp [intOf];omega
   ·obtain rfl:k=s.fibers.length:=by omega
    have hkI:∀n∈qF p s,I64 n:=by
     intro n hn;unfold qF at hn;obtain⟨j,hj,rfl⟩:=List.mem_map.1 hn;have:=(HR.out.kind (List.mem_range.1 hj)).1;exact I64.small (by omega) (by omega)
    have hlen:=zBr p s;have hints:Ints wr (fun _=>True) (.slice ar s.fibers.length capr) (qF p s):=by
     have h:=HROW.out;rw [←hlen,List.take_length] at h;rw [←hlen];exact Ints.of_row (by rw [kU];exact h) (by omega) hkI _ (fun _ _ _=>trivial)
    have HIN:=eH hints;have hkl:(qF p s).length≤1000:=by omega
    clear hb hrow hints hlen hlt hT2
    go_wp2_with (first
     | (go_at_call 108;(with_reducible refine(vU (qF p s) _ _ _ (HG.out.ext HB.out) HIN.out hkl).mono ?_);rintro e w2 ⟨rfl,hb2⟩))
    go_ret2
    exact⟨⟨rfl,(HTR.out.ext hb2).upX HT.out.lt⟩,Chg.of_ext (HB.out.trans hb2)⟩
 rw [if_neg h3];have t3:(X.toList == ([107,105,110,100,115]:List UInt8))=false:=qA hX h3;by_cases h4:x=trimT
 ·rw [if_pos h4];have t4:(X.toList == ([116,114,105,109]:List UInt8))=true:=vS hX h4;clear h1 h2 h3 h4 hX;go_enter Tryz.func72,Tryz.ntmps72
  go_wp2_with fail
  go_loopw [10,67] (fun q10 q67 wr=>∃k:Nat,k≤p.length∧q67=.int .i64 k∧q10=.int .i64 (zBb p k)∧Ext w wr) (fun _ q _=>p.length - (intOf q).toNat)
  case atStart=>exact⟨0,Nat.zero_le _,rfl,rfl,eR _⟩
  case round =>
   obtain⟨k,hk,rfl,rfl,hb⟩:=hrel;have HB:=eH hb;have hT2:=HT.out.ext hb;have HTR:=eH hT2;have hRP:=kH HOK.out.prog;have hp5:=hRP.most;have htk:zBb p k≤k * 24:=zHk HOK.out.prog k hk;by_cases hlt:k<p.length
   ·clear c0 c0' c1 c1' c2 c2' c3 c3';obtain⟨c0,c0'⟩:=hT2.c0;obtain⟨hgd,hRF⟩:=hts_at (hRP.func k hlt) hlt;have hE:=hRP.hts k hlt;rw [hgd] at hE;obtain⟨lh,hlh⟩:=Option.isSome_iff_exists.1 hE;have HH:=eH hlh;have HRF:=eH hRF;have HSC:=eH (zGu hlt);have hle:(zAq p p[k]).code.length≤24:=trimG_le (jX HOK.out.prog _ (List.getElem_mem hlt)).2.1;generalize hge:zAq p p[k]=F at *;have HGE:=eH hge;clear hb hT2 hge hE hRP hlh hRF hgd
    go_wp2_with (first
     | (go_at_call 99;(with_reducible refine(trimOf_any p _ _ k _ HTR.out.pr hlt HRF.out lh HH.out).mono ?_);rintro e w3 ⟨⟨y,rfl,hy⟩,hb3⟩;rw [HGE.out] at hy;obtain⟨vs,rfl,_,_,hops⟩:=hy;obtain⟨sa,cs,rfl,_,_,_⟩:=hops;have hfd:=fun w=>field_code F.args F.locals (.slice sa F.code.length cs) w))
    go_roundw
    case rel=>exact⟨k+1,by omega,by go_num,by rw [HSC.out];go_num,HB.out.trans hb3⟩
    case measure=>simp [intOf];omega
   ·obtain rfl:k=p.length:=by omega
    obtain⟨n,hn⟩:∃n,zBb p p.length=n:=⟨_,rfl⟩
    have HN:=eH hn;rw [hn] at htk ⊢;have HL1:Hid (jT [(n:Int)]=Lib.itoa n):=zFu n;have HI1:∀W:World,Hid (Ints (W.alloc (.cells #[.int .i64 n] 3)) (fun _=>True) (.slice (some ⟨W.heap.size,0,none⟩) 1 1) [(n:Int)]):=fun W=>zDx W [(n:Int)] (by intro m hm;rw [List.mem_singleton.1 hm];exact I64.small (by omega) (by omega)) (by simp)
    clear hb hT2 hlt hn
    go_wp2_with (first
     | (go_at_call 108;(with_reducible refine(vU [(n:Int)] _ _ _ ((HG.out.ext HB.out).ext ((eR _).alloc _)) (HI1 _).out (by simp)).mono ?_);rintro e w2 ⟨rfl,hb2⟩))
    go_ret2
    exact⟨⟨by rw [HL1.out,HN.out];rfl,((HTR.out.ext ((eR _).alloc _)).ext hb2).upX HT.out.lt⟩,Chg.of_ext ((HB.out.alloc _).trans hb2)⟩
 rw [if_neg h4];have t4:(X.toList == ([116,114,105,109]:List UInt8))=false:=qA hX h4;by_cases h5:x=zHe
 ·rw [if_pos h5];have t5:(X.toList == ([97,103,97,105,110]:List UInt8))=true:=vS hX h5;clear h1 h2 h3 h4 h5 hX;go_enter Tryz.func72,Tryz.ntmps72
  go_wp2_with (first
   | (go_at_call 27;(with_reducible refine(first_own p _ _ _ HT.out.pr HOK.out.prog).mono ?_);rintro e w2 ⟨⟨y,rfl,hy⟩,hb2⟩;obtain⟨ya,yc,yb,yd,rfl⟩:=hy.few;obtain⟨⟨d0,d0'⟩,⟨d1,d1'⟩,⟨d2,d2'⟩,⟨d3,d3'⟩⟩:=(⟨(HT.out.ext hb2).c0,(HT.out.ext hb2).c1,(HT.out.ext hb2).c2,(HT.out.ext hb2).c3⟩:_∧_∧_∧_);have HY:=eH hy))
  go_ret2
  refine⟨⟨rfl,⟨_,_,_,_,_,_,((HT.out.ext hb2).up HT.out.lt).turn (s':=kG p) (zW.stays (fun g o v hg hc=>⟨hc,.inr hg⟩) HY.out.state)⟩⟩,(Chg.of_ext hb2).trans (chgT3 _ _ _ _ _)⟩
 rw [if_neg h5];have t5:(X.toList == ([97,103,97,105,110]:List UInt8))=false:=qA hX h5;clear h1 h2 h3 h4 h5 hX;go_enter Tryz.func72,Tryz.ntmps72
 go_wp2_with fail
 go_ret2
 exact⟨⟨rfl,HT.out.upX HT.out.lt⟩,Chg.refl _ _⟩
theorem op_right {p:List GFunc} (hP:RightP p) {f:Int} (h0:0≤f) (h1:f<p.length):∀x∈(zI p f).code,kP p (zI p f) x=0:=by
 have hf:f.toNat<p.length:=by omega
 have h:=hP.func f.toNat hf;have e0:((f.toNat:Nat):Int)=f:=by omega
 rw [e0] at h;unfold funcErr at h;rw [if_neg (fun k=>k ⟨h0,h1⟩)] at h;show ∀x∈(p.getD f.toNat default).code,kP p (p.getD f.toNat default) x=0;by_cases h2:24<(p.getD f.toNat default).code.length
 ·rw [if_pos h2] at h;omega
 ·rw [if_neg h2] at h
  cases h3:qO (p.getD f.toNat default) with
  | false=>rw [h3,if_pos rfl] at h;omega
  | true =>
   rw [h3,if_neg (by decide)] at h;exact ok_ops h
structure OpF (p:List GFunc) (x:GFrame) (o:GOp):Prop where
 fn:0≤x.func∧x.func<p.length
 locals:(x.locals.length:Int)=(zI p x.func).locals
 at_:0≤x.at_∧x.at_<(zI p x.func).code.length
 op:(zI p x.func).code.getD x.at_.toNat default=o
 kind:0≤o.kind∧o.kind≤16
 a:0≤o.a∧o.a≤qJ p (zI p x.func) o.kind
 callee:o.kind=11∨o.kind=13→0≤(zI p o.a).args∧(zI p o.a).args≤(zI p o.a).locals∧(zI p o.a).locals≤4
 one:o.kind=13→(zI p o.a).args=1
 takes:zP p o≤x.stack.length
 few:nOf p o x.stack.length≤8
 ret:o.kind=12→x.stack.length=1
 goes:∀i∈nx o x.at_.toNat,i<(zI p x.func).code.length∧(hgt p x.func).getD i 0=nOf p o x.stack.length
theorem opF_of {p:List GFunc} (hP:RightP p) {x:GFrame} (hx:qW p x=true) (hf:zBs p x=true):OpF p x (opAt p x):=by
 obtain⟨f1,f2,f3,f4⟩:=uQ hx;obtain⟨hr,hh⟩:=zCv hP f1.1 f1.2;have ha:x.at_.toNat<(zI p x.func).code.length:=by omega
 have e:opAt p x=(zI p x.func).code[x.at_.toNat]:=by unfold opAt;simp [List.getD,List.getElem?_eq_getElem ha]
 have hm:opAt p x∈(zI p x.func).code:=by rw [e];exact List.getElem_mem ha
 obtain⟨k0,k1,a0,a1,c1,c2⟩:=ok_facts (op_right hP f1.1 f1.2 _ hm);unfold zBs at hf;have hf:=of_decide_eq_true hf;obtain⟨t1,t2,t3,t4⟩:=hh.thru _ ha f4;rw [←e,←hf] at t1 t2 t4;rw [←e] at t3;refine⟨f1,f2,f3,rfl,⟨k0,k1⟩,⟨a0,a1⟩,fun hk=>zDl (c1 hk),fun hk=>c2 hk,t1,t2,fun hk=>?_,t4⟩;have:=t3 hk;omega
theorem leaves01 (o:GOp):0≤kA o∧kA o≤1:=by unfold kA;split<;>omega
theorem OpF.full {p:List GFunc} {x:GFrame} {o:GOp} (h:OpF p x o) {x':GFrame} (hf:x'.func=x.func) (hl:x'.locals.length=x.locals.length) {i:Nat} (hi:i∈nx o x.at_.toNat)
  (ha:x'.at_=i) (hs:(x'.stack.length:Int)=nOf p o x.stack.length):qW p x'=true∧zBs p x'=true:=by
 obtain⟨g1,g2⟩:=h.goes i hi;have:=h.takes;have:=leaves01 o;have e:x'.at_.toNat=i:=by rw [ha];simp
 unfold qW zBs;rw [hf,hl,e,ha,g2,hs];refine⟨?_,decide_eq_true rfl⟩;rw [decide_eq_true h.fn,decide_eq_true h.locals,decide_eq_true (show 0≤(i:Int)∧(i:Int)<((zI p x.func).code.length:Nat) from ⟨by omega,by omega⟩),decide_eq_true (show 0≤nOf p o x.stack.length by unfold nOf;omega)];rfl
theorem zBd {o:GOp} {k:Nat} (h9:o.kind≠9) (h12:o.kind≠12):k+1∈nx o k:=by
 unfold nx;rw [if_neg (show ¬(o.kind=9∨o.kind=12) by omega)];simp
theorem nx_jump {o:GOp} {k:Nat} (h:o.kind=9∨o.kind=10):o.a.toNat∈nx o k:=by
 unfold nx;rw [if_pos h];simp
theorem OpF.wait {p:List GFunc} {x:GFrame} {o:GOp} (h:OpF p x o) {x':GFrame} (hf:x'.func=x.func) (hl:x'.locals.length=x.locals.length) (h9:o.kind≠9) (h12:o.kind≠12)
  (ha:x'.at_=x.at_+1) (hs:(x'.stack.length:Int)=nOf p o x.stack.length - 1) {b:Int} (hb:o.kind=11→b=o.a):qW p x'=true∧zBa p x' o.kind b=true:=by
 obtain⟨g1,g2⟩:=h.goes _ (zBd h9 h12);have h1:=h.at_;have h0:0≤nOf p o x.stack.length:=by omega
 have e:x'.at_.toNat=x.at_.toNat+1:=by omega
 have ea:(x'.at_ - 1).toNat=x.at_.toNat:=by omega
 have eo:opBack p x'=o:=by unfold opBack;rw [hf,ea];exact h.op
 unfold qW zBa;rw [eo,hf,hl,e,ha,g2,hs];refine⟨?_,?_⟩
 ·rw [decide_eq_true h.fn,decide_eq_true h.locals,decide_eq_true (show 0≤x.at_+1∧x.at_+1<((zI p x.func).code.length:Nat) from ⟨by omega,by omega⟩),decide_eq_true h0];rfl
 ·rw [decide_eq_false (show ¬x.at_+1=0 by omega),decide_eq_true rfl,decide_eq_true rfl];by_cases h11:o.kind=11
  ·rw [decide_eq_true h11,hb h11,decide_eq_true rfl];rfl
  ·rw [decide_eq_false h11];rfl
theorem wait_full {p:List GFunc} {x:GFrame} {k a:Int} (h:zBa p x k a=true) (hx:qW p x=true) (v:Int) :
  qW p { x with stack:=x.stack++[v] }=true∧zBs p { x with stack:=x.stack++[v] }=true:=by
 have hs:=zCb h;refine⟨hx,?_⟩;unfold zBs;refine decide_eq_true ?_;show (((x.stack++[v]).length:Nat):Int)=_;rw [List.length_append,List.length_singleton];show ((x.stack.length+1:Nat):Int)=(hgt p x.func).getD x.at_.toNat 0;omega
theorem new_full {p:List GFunc} (hP:RightP p) {f:Int} (h0:0≤f) (h1:f<p.length) {l:List Int} (hl:(l.length:Int)=(zI p f).locals):qW p ⟨f,0,l,[]⟩=true∧zBs p ⟨f,0,l,[]⟩=true:=by
 obtain⟨hr,hh⟩:=zCv hP h0 h1;have hp:=hh.pos;have hz:=hh.zero;unfold qW zBs;rw [show (0:Int).toNat=0 from rfl,hz];refine⟨?_,decide_eq_true rfl⟩;rw [decide_eq_true (show 0≤f∧f<(p.length:Int) from ⟨h0,h1⟩),decide_eq_true hl,decide_eq_true (show (0:Int)≤0∧(0:Int)<((zI p f).code.length:Nat) from ⟨by omega,by omega⟩)];rfl
end Go.Proofs.YtpcjkfppacnkgaaGreatDoor
