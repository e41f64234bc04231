/- Contracts and plain facts. -/
import Derived.Test.YtpcjkfppacnkgaaGreatDoorGPBF
import Derived.OrdersIn
set_option maxHeartbeats 4000000
set_option maxRecDepth 100000
section
namespace Go.Proofs.YtpcjkfppacnkgaaGreatDoor
open Go Go.RowKit
theorem append_where {P:Program} {w w':World} {base:Nat} {t u ty e:TypeId} {i:TypeInfo} (ht:P.underlying t=some (.slice e)) (hu:P.underlying u=some .string) (hi:P.info? e=some i) (hz:i.zero=some (.int .u8 0)) (hs1:i.size=1) (hby:i.bytes=1)
  {v v':Value} {n:Nat} {xs:List Value} (hown:w.ownsRow base e 1 v n xs) {s:ByteArray} (hb:n+s.size≤140737488355328) (hr:(Builtin.append_ #[t,u] ty #[v,.string s]).run P w=.ok v' w')
  (hnil:v'=.slice none 0 0↔v=.slice none 0 0∧s.size=0):v'.ownBlock=v.ownBlock∨∀k,v'.ownBlock=some k→w.heap.size≤k:=by
 have hxl:xs.length=n:=by simpa using hown.1
 rcases hown.2 with ⟨rfl,rfl⟩ | ⟨g,cap,cur,rfl,_,hg,_,_,hcs,_⟩
 ·by_cases hm:s.size=0
  ·rw [hnil.2 ⟨rfl,hm⟩];exact .inl rfl
  ·have h:=run_append_nil_string (P:=P) w t u ty e i (.int .u8 0) ht hu hi hz s (by omega) (by omega) (by rw [hby];omega);rw [h] at hr
   cases hr
   exact .inr fun k hk=>by cases hk;exact Nat.le_refl _
 ·by_cases hroom:n+s.size≤cap
  ·have hc:cur.size=cap:=by simpa using hcs
   have h:=Lib.run_append_room_string (P:=P) w t u ty e i ht hu hi hs1 g n cap cur hg s hroom (by omega);rw [h] at hr
   cases hr
   exact .inl rfl
  ·have holds:∀j u,xs[j]?=some u→w.cell? ((⟨g,0,none⟩:Addr).add j)=some u:=hown.cells (g:=g) rfl;have h:=Lib.run_append_grow_string (P:=P) w t u ty e i (.int .u8 0) ht hu hi hz ⟨g,0,none⟩ n cap xs (by rw [hs1];simpa using hxl) holds s (by omega) (by omega) (by rw [hby];exact growslice_fits (by omega) (by omega));rw [h] at hr
   cases hr
   exact .inr fun k hk=>by cases hk;exact Nat.le_refl _
theorem zGe {P:Program} {w:World} {ops:Array Oper} {rest:List Oper} {o:Oper} {a:Act} {Q:Exit→Act→World→Prop} (hgd:o.guard=none) (sl x:Operand) (t u:TypeId)
  (ho:o.op=.call { callee:=.builtin .append,args:=#[sl,x],argTypes:=#[t,u] })
  (base:Nat) (e:TypeId) (i:TypeInfo) (ht:P.underlying t=some (.slice e)) (hu:P.underlying u=some .string) (hi:P.info? e=some i) (hz:i.zero=some (.int .u8 0))
  (hsize:i.size=1) (hby:i.bytes=1)
  (v:Value) (n:Nat) (xs:List Value) (hs:a.eval sl=v) (hown:w.ownsRow base e 1 v n xs) (s:ByteArray) (hx:a.eval x=.string s)
  (h63:n+s.size≤maxLen) (hbytes:n+s.size≤140737488355328) (hbase:base≤w.heap.size)
  (h:∀v' w',w'.ownsRow base e 1 v' (n+s.size) (xs++Lib.strCells s)→w.grownBy w' v.ownBlock→(v'.ownBlock=v.ownBlock∨∀k,v'.ownBlock=some k→w.heap.size≤k)→wpList P ops Q rest (a.put o.dst v') w'):wpList P ops Q (o::rest) a w:=by
 refine wpList_plain hgd fun K hK=>?_
 obtain⟨v',w',hr,h2,h3,h4⟩:=Lib.run_append_own_string (P:=P) w base t u o.type e i ht hu hi hz hsize hby v n xs hown s h63 hbytes hbase;have h5:=append_where ht hu hi hz hsize hby hown hbytes hr h4;unfold Oper.wp execOp;simp only [ho,resolve,invoke,builtin,Sem.run_bind,Sem.run_pure,Result.andThen_ok,List.map_toArray,List.map_cons,List.map_nil,hs,hx,hr];exact hK _ _ (h v' w' h2 h3 h5)
theorem copyCheckO (B b:Nat) (bs:List Value) (w:World) (h:Lib.IsBuilder 65 5 B b bs w) :
  Calls Tryz.prog 71 #[.pointer (some ⟨b,0,none⟩)] w fun e w'=>e=.returned (.tuple #[])∧Lib.BuilderAt 65 5 B b (.pointer (some ⟨b,0,none⟩)) bs w'∧(w'=w∨w'=w.setCell ⟨b,0,none⟩ (.pointer (some ⟨b,0,none⟩))):=by
 obtain⟨j,hj,hjs⟩:=Option.map_eq_some_iff.1 bld_size;rcases h with h | h
 ·have h0:=h.cell0;have hsh:=h.shape;have hfz:=h.frozen0;go_enter Tryz.func71,Tryz.ntmps71
  go_wp2
  rw [Lib.run_to_unsafe w ⟨b,0,none⟩ Tryz.underlying62 Tryz.underlying147 hj (by rw [hjs];decide) hsh (Nat.zero_lt_succ 1)];simp only [Result.andThen];rw [Oper.upon_value]
  go_wp2
  rw [run_callFunc_extern Tryz.func107 (by kernel_rfl) (by kernel_rfl) (by kernel_rfl) (e:=Extern.AbiNoEscape.same) (by kernel_rfl)];rw [Lib.run_noEscape];simp only [Result.andThen];rw [Oper.upon_value]
  go_wp2
  rw [Lib.run_from_unsafe w ⟨b,0,none⟩ Tryz.underlying147 Tryz.underlying62 hj hsh bld_lies];simp only [Result.andThen];rw [Oper.upon_value]
  go_wp2
  go_end0;exact⟨rfl,h.used _,.inr rfl⟩
 ·have h0:=h.cell0;go_enter Tryz.func71,Tryz.ntmps71
  go_wp2
  rw [Lib.run_neq_ptr_same w _ Tryz.underlying62 hj]
  go_wp2
  go_end0;exact⟨rfl,h,.inl rfl⟩
def MB (b:Nat) (v:Value) (k:Nat):Prop:=k=b∨v.ownBlock=some k
theorem writeO (B b:Nat) (l x:List UInt8) (v:Value) (w:World) (h:Bd w B b l) (hv:w.cell? ⟨b,1,none⟩=some v) (hlen:l.length+x.length≤140737488355328) (hBw:B≤w.heap.size) :
  Calls Tryz.prog 29 #[.pointer (some ⟨b,0,none⟩),.string ⟨x.toArray⟩] w fun e w'=>e=.returned (.tuple #[.int .i64 x.length,.nilIface])∧Bd w' B b (l++x)∧(∃v',w'.cell? ⟨b,1,none⟩=some v'∧(v'.ownBlock=v.ownBlock∨∀k,v'.ownBlock=some k→w.heap.size≤k))∧Chg (MB b v) w w':=by
 have hsz:(⟨x.toArray⟩:ByteArray).size=x.length:=by simp [ByteArray.size]
 have hbl:(Lib.byteCells l).length=l.length:=by simp [Lib.byteCells]
 obtain⟨i0,hi,hz0,hz1,hz2⟩:=info_parts bld_byte;have HS:Hid ((⟨x.toArray⟩:ByteArray).size=x.length):=hsz;obtain⟨s,hs⟩:∃s:ByteArray,(⟨x.toArray⟩:ByteArray)=s:=⟨_,rfl⟩
 have HX:=eH hs;have hN:s.size=x.length:=by rw [←hs];exact hsz
 rw [hs];clear hs hsz;go_enter Tryz.func29,Tryz.ntmps29
 go_wp2_with (go_at_call 71;refine(copyCheckO B b (Lib.byteCells l) _ h).mono ?_)
 rintro e w1 ⟨rfl,h1,hw1⟩;have hcg:Chg (MB b v) w w1:=by
  rcases hw1 with rfl | rfl
  ·exact Chg.refl _ _
  ·exact(Chg.refl _ _).setCell (.inl (.inl rfl)) _
 have hz9:w1.heap.size=w.heap.size:=by
  rcases hw1 with rfl | rfl
  ·rfl
  ·simp
 have hv1:w1.cell? ⟨b,1,none⟩=some v:=by
  rcases hw1 with rfl | rfl
  ·exact hv
  ·exact(World.cell?_setCell_other _ _ _ _ (by simp)).trans hv
 obtain⟨hB,v1,hbk,hown,hne⟩:=h1;have c0:w1.cell? ⟨b,0,none⟩=some (.pointer (some ⟨b,0,none⟩)):=by rw [Lib.cell_of_heap hbk];rfl
 have c1:w1.cell? ⟨b,1,none⟩=some v1:=by rw [Lib.cell_of_heap hbk];rfl
 obtain rfl:v1=v:=by rw [hv1] at c1;exact(Option.some.inj c1).symm
 rw [hbl] at hown;have hlt:b<w1.heap.size:=zY c0;have HW1:=eH hw1;clear hv1 hw1
 go_wp2_with (at_builtin;refine zGe rfl _ _ 63 9 rfl B 5 i0 Tryz.underlying63 Tryz.underlying9 hi hz0 hz1 hz2 _ _ _ rfl hown s rfl ?c3 ?c4 ?c5 ?_)
 case c3=>unfold maxLen;omega
 case c4=>omega
 case c5=>omega
 intro v' w2 hown' hgrow hwh;have hb2:w2.heap[b]?=some (.cells #[.pointer (some ⟨b,0,none⟩),v1] 65 (0,0)):=by
  rw [hgrow.block b hlt (fun e=>hne e.symm)];exact hbk
 have d0:w2.cell? ⟨b,0,none⟩=some (.pointer (some ⟨b,0,none⟩)):=by rw [Lib.cell_of_heap hb2];rfl
 have d1:w2.cell? ⟨b,1,none⟩=some v1:=by rw [Lib.cell_of_heap hb2];rfl
 have f1:w2.frozen? ⟨b,1,none⟩=false:=Lib.frozen_of_heap hb2 1;obtain⟨ao,n',cap,rfl⟩:∃ao n' cap,v'=.slice ao n' cap:=by
  rcases hown'.2 with ⟨hv,_⟩ | ⟨g,cap,cur,hv,_⟩
  ·exact⟨_,_,_,hv⟩
  ·exact⟨_,_,_,hv⟩
 go_wp2
 go_ret2
 refine⟨rfl,.inr ?_,⟨_,World.cell?_setCell_same _ _ _ d1,?_⟩,(hcg.grown hgrow (fun k hk=>.inl (.inr hk))).setCell (.inl (.inl rfl)) _⟩
 ·have hput:=Lib.BuilderAt.put (T:=65) (e:=5) hB hb2 (bs':=Lib.byteCells l++Lib.strCells s) (by rw [List.length_append,Lib.strCells_length,hbl,hN];exact hown') (by decide);rw [←HX.out,strCells_by] at hput;simpa [Lib.byteCells] using hput
 ·rcases hwh with h | h
  ·exact .inl h
  ·exact .inr fun k hk=>by have:=h k hk;omega
end Go.Proofs.YtpcjkfppacnkgaaGreatDoor
end
section
namespace Go.Proofs.YtpcjkfppacnkgaaGreatDoor
open Go Go.RowKit
section
variable {P:Program} {l:Nat} {md:Region.Mode} {ops:Array Oper} {Q:Exit→Act→World→Prop} {a:Act} {w:World}
theorem rows_in {row:String} {args:Array Value} {R:Value→World→Prop} (h:Rows P row args w R):RowsIn (Fence.wide.inRound l) (0 - 1) P row args w R:=fun c cs _ =>
 let ⟨v,w',r,s⟩:=h c cs;⟨v,w',r,stepsIn_wide.2 s⟩
theorem qX {f:FuncId} {args:Array Value} {R:Ending→World→Prop} (h:Calls P f args w R):CallsIn (Fence.wide.inRound l) (0 - 1) P f args w R:=(callsIn_wide (n:=0 - 1)).2 h
theorem op_in {o:Oper} {K:Act→World→Prop} (hd:∀c,o.op≠.defer c) (h:o.wp P a w K Q):o.wpIn (Fence.wide.inRound l) 0 P a w K Q:=by
 unfold Oper.wpIn;refine⟨fun _ _=>trivial,?_⟩;rw [Oper.semAt_eq _ _ _ hd];unfold Oper.wp at h;generalize (execOp a.eval o).run P w=r at *
 cases r with
 | ok x w' =>
  cases x<;>simp only [Oper.upon,Oper.uponIn] at h ⊢
  all_goals first
   | exact h
   | exact⟨fun e=>Bool.noConfusion e,qX h⟩
   | exact⟨fun e=>Bool.noConfusion e,rows_in h⟩
 | halt x w'=>cases x<;>simp only [Oper.upon,Oper.uponIn] at h ⊢<;>exact h
theorem wpOp_in {i:Nat} {K K':Act→World→Prop} (hLO:¬LetsOut Q) (hd:∀(i:Nat) o c,ops[i]?=some o→o.op≠.defer c) (hK:∀a w,K a w→K' a w) (h:wpOp P ops Q i K a w):wpOpIn (Fence.wide.inRound l) 0 P ops Q i K' a w:=by
 unfold wpOp at h;unfold wpOpIn;split
 ·rename_i ho
  simp only [ho] at h;exact hK _ _ h
 ·rename_i o ho
  simp only [ho] at h;split
  ·rename_i hw
   simp only [hw,if_true] at h;exact Oper.wpIn_mono hK (op_in (fun c=>hd i o c ho) (h.resolve_right (fun e=>hLO e.2)))
  ·rename_i hw
   simp only [hw] at h;exact⟨fun _ _=>trivial,hK _ _ h⟩
theorem wpAny_in (hLO:¬LetsOut Q) (hd:∀(i:Nat) o c,ops[i]?=some o→o.op≠.defer c):∀(fuel:Nat) (listed:Array Bool) (a:Act) (w:World),wpAny P md ops Q fuel listed a w→wpAnyIn (Fence.wide.inRound l) 0 P md ops Q fuel listed a w
 | 0,_,_,_,h=>h
 | fuel+1,_,_,_,h=>⟨h.1,fun i hi=>wpOp_in hLO hd (fun a w h=>wpAny_in hLO hd fuel _ a w h) (h.2 i hi)⟩
def noDefer (ops:List Oper):Bool:=ops.all fun o=>match o.op with | .defer _=>false | _=>true
theorem zHu {l:List Oper} (h:noDefer l=true):∀(i:Nat) o c,l.toArray[i]?=some o→o.op≠.defer c:=by
 intro i o c ho e;have hm:o∈l:=List.mem_of_getElem? (by simpa using ho);have:=List.all_eq_true.1 h o hm;simp [e] at this
theorem vQ {id:Nat} {os:List Oper} (S:World→Prop) (z:Nat) (rd tl:List Nat) (hm:P.follows .mixedOrders=true) (hB:rtBT .any os.toArray z rd tl=true) (hD:noDefer os=true) (hLO:¬LetsOut Q) (hQ:∀c a d v w,Q (.panic c) (Act.put a (some d) v) w→Q (.panic c) a w) (hS:S w.drew)
  (h:vT P os.toArray S (fun a'=>vY P os.toArray S Q (zH os tl) a' w.drew) (zH os rd) a):(Code.region id os.toArray true).wpIn (Fence.wide.inRound l) 0 P Q a w:=by
 simp only [rtBT,Bool.and_eq_true,decide_eq_true_eq] at hB;obtain⟨⟨h1,h2⟩,h4⟩:=hB;refine wpIn_region_any hm (wpAny_in hLO (zHu hD) _ _ _ _ (jC (S:=S) (z:=z) _ _ _ _ ?_));exact zDc rfl h1 hQ hS tl rd _ _ a (by simp) (zCl _) h2 h4 h
theorem wpIn_region_rw {id:Nat} {os:List Oper} (S:World→Prop) (z:Nat) (rd:List Nat) (f:Nat) (hm:P.follows .mixedOrders=true) (hB:rwB .any os.toArray z rd f=true) (hD:noDefer os=true) (hLO:¬LetsOut Q) (hQ:∀c a d v w,Q (.panic c) (Act.put a (some d) v) w→Q (.panic c) a w) (hS:S w.drew)
  (h:vT P os.toArray S (fun a'=>jO P .any os.toArray Q S z f (listedOf os.toArray.size rd) a' w.drew) (zH os rd) a):(Code.region id os.toArray true).wpIn (Fence.wide.inRound l) 0 P Q a w:=by
 simp only [rwB,Bool.and_eq_true,decide_eq_true_eq] at hB;obtain⟨⟨h1,h2⟩,h4⟩:=hB;refine wpIn_region_any hm (wpAny_in hLO (zHu hD) _ _ _ _ (jC (S:=S) (z:=z) _ _ _ _ ?_));have h5:=zDb rfl h1 hQ hS f rd (Array.replicate os.toArray.size false) a (by simp) h4 h
 rwa [h2] at h5
end
end Go.Proofs.YtpcjkfppacnkgaaGreatDoor
end
section
namespace Go.Proofs.YtpcjkfppacnkgaaGreatDoor
open Go Go.RowKit Go.Shelf
attribute [local go_sem] Oper.semAt_some
theorem lines_cut {s:By} {o:Nat} (h:Lib.indexByte s 10=(o:Int)):o<s.length∧qE s=s.take (o+1)::qE (s.drop (o+1)):=by
 obtain⟨h1,h2⟩:=Lib.indexByte_some h;have ho:o<s.length:=(List.getElem?_eq_some_iff.1 h1).1;have hso:s[o]=10:=(List.getElem?_eq_some_iff.1 h1).2;refine⟨ho,?_⟩;have e1:s=s.take o++10::s.drop (o+1):=by
  conv=>lhs;rw [←List.take_append_drop o s,List.drop_eq_getElem_cons ho,hso]
 have hn:(10:UInt8) ∉ s.take o:=fun hm=>by
  obtain⟨k,hk,e⟩:=List.getElem_of_mem hm;have hk':k<o:=by simp at hk;omega
  refine h2 k hk' ?_;rw [List.getElem?_eq_getElem (by omega)];rw [List.getElem_take] at e;rw [e]
 have e2:s.take (o+1)=s.take o++[10]:=by rw [List.take_succ_eq_append_getElem ho,hso]
 rw [e2]
 conv=>lhs;rw [e1]
 unfold qE;rw [zHw _ _ hn];rfl
theorem zHv:∀(s cur:By),(10:UInt8) ∉ s→cur++s≠[]→yH cur s=[cur++s]
 | [],cur,_,h=>by rw [yH,if_neg (by simpa using h),List.append_nil]
 | b::s,cur,hn,_=>by
  rw [yH,if_neg (fun e=>hn (by simp [e])),zHv s (cur++[b]) (fun h=>hn (List.mem_cons_of_mem _ h)) (by simp),List.append_assoc,List.singleton_append]
theorem lines_rest {s:By} (hs:0<s.length) (h:Lib.indexByte s 10 = -1):qE s=[s]:=by
 have hn:(10:UInt8) ∉ s:=fun hm=>by
  obtain⟨k,hk,e⟩:=List.getElem_of_mem hm;exact Lib.indexByte_none h k (by rw [List.getElem?_eq_getElem hk,e])
 unfold qE;rw [zHv s [] hn (by intro e;rw [List.nil_append] at e;rw [e] at hs;exact absurd hs (by simp))];rfl
theorem linesIt_any (X:ByteArray) (w:World):Calls Tryz.prog 28 #[.string X] w fun e w'=>e=.returned (.func (.func 69) #[] #[.pointer (some ⟨w.heap.size,0,none⟩)])∧w'=w.alloc (.cells #[.string X] 9):=by
 go_enter Tryz.func28,Tryz.ntmps28
 go_wp2_with fail
 go_ret;exact⟨rfl,rfl⟩
theorem indexB_by (s:By) (w:World):Calls Tryz.prog 70 #[.string ⟨s.toArray⟩,.int .u8 10] w fun e w'=>e=.returned (.int .i64 (Lib.indexByte s 10))∧w=w':=by
 refine(Tryz.strings_IndexByte ⟨s.toArray⟩ 10 w).mono ?_;rintro e w' ⟨rfl,rfl⟩;exact⟨by simp,rfl⟩
theorem lines_iter (s:By) (bs:Nat) (w:World) (hc:Cx w bs 0 (txtV s)) (hl:s.length≤100000):IterT Tryz.prog 69 #[.pointer (some ⟨bs,0,none⟩)] txtV (qE s) (·=bs) w:=by
 intro l J Jp W hW hown hJs hJd hY h0;have hcW:=hW.cx hc;refine callsIn_of_wp Tryz.func69 rfl trivial ?_ rfl;simp only [Tryz.ntmps69,List.size_toArray,List.length_cons,List.length_nil,Nat.reduceAdd,Nat.reduceSub,Array.replicate_succ,Array.replicate_zero,List.push_toArray,List.append_toArray,List.nil_append,List.cons_append];have RA:=zF;refine wpIn_block ?_;refine rounds_ind (fun m a W'=>∃(r:By),Cx W' bs 0 (txtV r)∧J (qE r) W'∧r.length<m∧r.length≤100000∧∃(u2 u3 u4 u5 u6 u7 u8 u9 u10 u11 u12 u13 u14 u15 u16 u17 u18 u19 u20 u21 u22 u23 u24:Value),a={ tmps:=#[.func (.yield l) #[] #[],.pointer (some ⟨bs,0,none⟩),u2,u3,u4,u5,u6,u7,u8,u9,u10,u11,u12,u13,u14,u15,u16,u17,u18,u19,u20,u21,u22,u23,u24],defers:=[] }) ?_ ?_ (s.length+1) _ _ ?_
 case refine_2 =>
  rintro a W' ⟨r,-,-,h,-⟩;omega
 case refine_3 =>
  refine⟨s,hcW,h0,Nat.lt_succ_self _,hl,?_⟩
  (repeat apply Exists.intro)
  rfl
 case refine_1 =>
  clear h0 hcW hc;rintro m a W' ⟨r,hcr,hj,hm,hrl,u2,u3,u4,u5,u6,u7,u8,u9,u10,u11,u12,u13,u14,u15,u16,u17,u18,u19,u20,u21,u22,u23,u24,rfl⟩;obtain⟨X,hX⟩:∃X:ByteArray,(⟨r.toArray⟩:ByteArray)=X:=⟨_,rfl⟩
  have hN:X.size=r.length:=by rw [←hX];exact yN r
  have HX:=eH hX;have HCR:=eH hcr;have hx0:W'.cell? ⟨bs,0,none⟩=some (.string X):=by rw [←hX];exact hcr.1
  have hf0:=hcr.2;clear hX hcr;by_cases hr0:r.length=0
  ·have hl0:qE r=[]:=by rw [List.eq_nil_of_length_eq_zero hr0];rfl
   have HJ:Hid (J [] W'):=by unfold Hid;rw [←hl0];exact hj
   have T0:¬0<r.length:=by omega
   clear hr0 hj hl0
   gi_wp2_with fail
   refine bodyPost_end (results_none rfl _ _ _) rfl ?_;exact .inl ⟨⟨_,rfl⟩,HJ.out⟩
  ·have T0:0<r.length:=by omega
   have HIB:∀W,Hid (Calls Tryz.prog 70 #[.string X,.int .u8 10] W fun e w'=>e=.returned (.int .i64 (Lib.indexByte r 10))∧W=w'):=fun W=>by
    unfold Hid;rw [←HX.out];exact indexB_by r W
   have HJ:=eH hj;clear hj;have hge:=Lib.indexByte_ge r 10;by_cases hi:Lib.indexByte r 10 = -1
   ·have hl1:=lines_rest (by omega) hi;rw [hl1] at HJ;rw [hi] at HIB;clear hi hl1 hr0 hge
    gi_wp2_with (first
     | (refine⟨trivial,rfl,?_⟩;gi_at_call 70;refine(callsIn_wide.2 (HIB _).out).mono ?_;rintro e w1 ⟨rfl,rfl⟩))
    have hJ1:J [r] (W'.setCell ⟨bs,0,none⟩ (.string ⟨#[]⟩)):=hJs _ _ _ _ HJ.out rfl;have hC1:Cx (W'.setCell ⟨bs,0,none⟩ (.string ⟨#[]⟩)) bs 0 (.string ⟨#[]⟩):=HCR.out.set _;obtain⟨fn,tmps,assign,body,hy,hR⟩:=hY r [] _ hJ1;replace hy:(Instr.yield l #[.string X]).run Tryz.prog (W'.setCell ⟨bs,0,none⟩ (.string ⟨#[]⟩))=.ok (.round l fn tmps assign body) (W'.setCell ⟨bs,0,none⟩ (.string ⟨#[]⟩)):=by rw [←HX.out];exact hy
    rw [hy]
    gi_wp2
    refine⟨rfl,?_⟩;refine hR.mono ?_;rintro e W3 (⟨rfl,hJ3,hk3⟩ | ⟨c,rfl,hJp⟩)
    ·have hC3:=hk3 bs _ rfl hC1;clear hR hy hJ1 hk3
     gi_wp2
     refine⟨[],hC3,hJ3,by simp;omega,by simp,?_⟩
     (repeat apply Exists.intro)
     rfl
    ·exact⟨rfl,.inr ⟨c,rfl,hJp⟩⟩
   ·obtain⟨o,ho⟩:∃o:Nat,Lib.indexByte r 10=o:=⟨(Lib.indexByte r 10).toNat,by omega⟩
    obtain⟨hol,hl1⟩:=lines_cut ho;rw [hl1] at HJ;rw [ho] at HIB;clear hi hl1 hr0 ho hge
    gi_upto_region 4 with (first
     | (refine⟨trivial,rfl,?_⟩;gi_at_call 70;refine(callsIn_wide.2 (HIB _).out).mono ?_;rintro e w1 ⟨rfl,rfl⟩))
    have hE1:X.extract 0 (o+1)=⟨(r.take (o+1)).toArray⟩:=by rw [←HX.out,zEb];simp
    have hE2:X.extract (o+1) r.length=⟨(r.drop (o+1)).toArray⟩:=by rw [←HX.out,zEb];simp
    have KO:IntKind.i64.wrap ((o:Int)+1)=((o+1:Nat):Int):=by rw [IntWalk.i64_in _ (by omega)];omega
    have hb1:(0:Int)≤(o:Int)+1:=by omega
    have hb2:(o:Int)+1≤(r.length:Int):=by omega
    refine(wpIn_wide (n:=0)).2 ?_;refine zX (fun w'=>w'.cell? ⟨bs,0,none⟩=some (.string X)∧w'.frozen? ⟨bs,0,none⟩=false) 9 [0,1,2,3,4,5,6,7,8] [9] (by kernel_rfl) (by kernel_rfl) (fun _ _ _ _ _ h=>h) (by exact⟨hx0,hf0⟩) ?_
    (try simp only [zH,List.filterMap_cons,List.filterMap_nil,xO,xP])
    repeat (
     refine zN (by rfl) ?_;apply Exists.intro;refine⟨fun w' hw'=>?_,?_⟩
     focus
      (try dsimp only at hw')
      go_split_ands;go_simp
      (try with_reducible rfl)
     (try dsimp only [Act.put])
     (try simp only [xL,xM,xN]))
    refine zL ?_;refine zC ?_
    go_wp2_with fail
    refine zS ?_;have hJ1:J (r.take (o+1)::qE (r.drop (o+1))) (W'.setCell ⟨bs,0,none⟩ (.string ⟨(r.drop (o+1)).toArray⟩)).drew:=hJd _ _ (hJs _ _ _ _ HJ.out rfl);have hC1:Cx (W'.setCell ⟨bs,0,none⟩ (.string ⟨(r.drop (o+1)).toArray⟩)).drew bs 0 (.string ⟨(r.drop (o+1)).toArray⟩):=HCR.out.set _;have hlen:(r.drop (o+1)).length<m:=by rw [List.length_drop];omega
    obtain⟨fn,tmps,assign,body,hy,hR⟩:=hY _ _ _ hJ1;replace hy:(Instr.yield l #[.string ⟨(r.take (o+1)).toArray⟩]).run Tryz.prog (W'.setCell ⟨bs,0,none⟩ (.string ⟨(r.drop (o+1)).toArray⟩)).drew=.ok (.round l fn tmps assign body) (W'.setCell ⟨bs,0,none⟩ (.string ⟨(r.drop (o+1)).toArray⟩)).drew:=hy;have hlr:(r.drop (o+1)).length≤100000:=by rw [List.length_drop];omega
    clear hb1 hb2 hE1 hE2 KO hx0 hf0 HIB;generalize r.drop (o+1)=r2 at *;generalize r.take (o+1)=r1 at *
    gi_wp2
    refine⟨rfl,?_⟩;refine hR.mono ?_;rintro e W3 (⟨rfl,hJ3,hk3⟩ | ⟨c,rfl,hJp⟩)
    ·have hC3:=hk3 bs _ rfl hC1;clear hR hy hJ1 hk3
     gi_wp2
     refine⟨r2,hC3,hJ3,hlen,hlr,?_⟩
     (repeat apply Exists.intro)
     rfl
    ·exact⟨rfl,.inr ⟨c,rfl,hJp⟩⟩
end Go.Proofs.YtpcjkfppacnkgaaGreatDoor
end
section
set_option linter.unusedSimpArgs false
namespace Go.Proofs.YtpcjkfppacnkgaaGreatDoor
open Go Go.RowKit
theorem catchR_panicking (bp be:Nat) (hne:bp≠be) (v1 v2:Value) (older:List PanicEntry) (w:World) (hp:Cx w bp 0 v1) (he:Cx w be 0 v2) :
  CallsDIn Fence.wide (0 - 1) Tryz.prog 46 #[.pointer (some ⟨bp,0,none⟩),.pointer (some ⟨be,0,none⟩)] (.panicking (brkE::older)) w fun e u' w' =>
   e=.returned (.tuple #[])∧u'=.panicking ({ brkE with recovered:=true }::older)∧Cx w' bp 0 (.slice none 0 0)∧Cx w' be 0 (.int .i64 1)∧Chg (fun b=>b=bp∨b=be) w w':=by
 unfold brkE;refine callsDIn_of_wpSIn Tryz.func46 rfl trivial fun c₀ cs hu=>?_
 apply wpSIn_seq;apply wpSIn_region;simp [wpOpsSIn,go_sem,recoverD,hu,Tryz.ntmps46,Exit.thenS];refine wpSIn_of_wpIn rfl ?_;refine(wpIn_wide (n:=0)).2 ?_;simp only [Array.replicate,List.reduceReplicate,xL,xM,xN,List.append_toArray,List.cons_append,List.nil_append];have h0:=hp.1;have h0':=hp.2;have H1:=eH (he.other (b':=bp) (j':=0) (.inl (Ne.symm hne)) (.slice none 0 0));have HP:=eH hp;have h1:=H1.out.1;have h1':=H1.out.2;clear hp he
 go_wp2_with fail
 refine⟨rfl,_,rfl,_,results_none rfl _ _ _,rfl,rfl,(HP.out.set _).other (.inl hne) _,H1.out.set _,?_⟩;exact((Chg.refl _ _).setCell (p:=⟨bp,0,none⟩) (.inl (.inl rfl)) _).setCell (p:=⟨be,0,none⟩) (.inl (.inr rfl)) _
theorem catchR_idle (bp be:Nat) (w:World) :
  CallsDIn Fence.wide (0 - 1) Tryz.prog 46 #[.pointer (some ⟨bp,0,none⟩),.pointer (some ⟨be,0,none⟩)] .returning w fun e u' w' =>
   e=.returned (.tuple #[])∧u'=.returning∧w=w':=by
 refine callsDIn_of_wpSIn Tryz.func46 rfl trivial fun c₀ cs hu=>?_
 apply wpSIn_seq;apply wpSIn_region;simp [wpOpsSIn,go_sem,recoverD,hu,Tryz.ntmps46,Exit.thenS];refine wpSIn_of_wpIn rfl ?_;refine(wpIn_wide (n:=0)).2 ?_;simp only [Array.replicate,List.reduceReplicate,xL,xM,xN,List.append_toArray,List.cons_append,List.nil_append]
 go_wp2_with fail
 refine⟨rfl,.returning,?_,_,results_none rfl _ _ _,rfl,rfl,rfl⟩
 cases c₀
 cases hu
 rfl
end Go.Proofs.YtpcjkfppacnkgaaGreatDoor
end
