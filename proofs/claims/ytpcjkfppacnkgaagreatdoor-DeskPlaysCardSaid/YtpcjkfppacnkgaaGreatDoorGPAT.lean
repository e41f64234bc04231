/- Contracts and plain facts. -/
import Derived.Test.YtpcjkfppacnkgaaGreatDoorGPAS
import Derived.Lib.Join
set_option maxHeartbeats 4000000
set_option maxRecDepth 100000
section
namespace Go.Proofs.YtpcjkfppacnkgaaGreatDoor
open Go Go.RowKit
def zCg:List Int→By
 | []=>[]
 | n::l=>jH (Lib.itoa n) l
def jT (l:List Int):By:=if l=[] then [45] else zCg l
def errT (e:Int):By:=[101,114,114,111,114,32]++Lib.itoa e
def qF (p:List GFunc) (s:GState):List Int:=(List.range s.fibers.length).map (uN p s)
def zBb (p:List GFunc) (k:Nat):Nat:=((p.take k).map fun F=>(zAq p F).code.length).sum
def outT:By:=[111,117,116]
def zGm:By:=[108,105,110,101]
def zDu:By:=[107,105,110,100,115]
def trimT:By:=[116,114,105,109]
def zHe:By:=[97,103,97,105,110]
def zHo:By:=[115,116,101,112]
def uO:By:=[104,101,105,103,104,116,115]
def okT:By:=[111,107]
def jN (p:List GFunc) (s:GState) (x:By):Option (GState × By) :=
 if x=outT then some (s,jT s.out)
 else if x=zGm then some (s,jT ((yA s).getD []))
 else if x=zDu then some (s,jT (qF p s))
 else if x=trimT then some (s,Lib.itoa (zBb p p.length))
 else if x=zHe then some (kG p,okT)
 else none
def ranT (r:GState × Int × Int):By:=if r.2.2≠0 then Lib.itoa r.2.1++32::errT r.2.2 else Lib.itoa r.2.1
def zEn (p:List GFunc) (s:GState) (n:Int):GState × By:=if 500<n then (s,errT 3) else ((runG p n.toNat s).1,ranT (runG p n.toNat s))
def vN (p:List GFunc) (n:Int):By:=if hErr p n≠0 then errT (hErr p n) else jT (yL p n)
def qQ (p:List GFunc) (s:GState) (x:By):GState × By :=
 match jN p s x with
 | some r=>r
 | none =>
  if (zT 32 x).length≠2∨numG ((zT 32 x).getD 1 [])<0 then (s,errT 1)
  else if (zT 32 x).getD 0 []=zHo then zEn p s (numG ((zT 32 x).getD 1 []))
  else if (zT 32 x).getD 0 []=uO then (s,vN p (numG ((zT 32 x).getD 1 [])))
  else (s,errT 1)
def playS (p:List GFunc):GState→List By→GState
 | s,[]=>s
 | s,x::l=>playS p (qQ p s x).1 l
def uM (p:List GFunc):GState→List By→By
 | _,[]=>[]
 | s,x::l=>(qQ p s x).2++10::uM p (qQ p s x).1 l
def vV (t:By):List By:=(zT 10 t).dropLast
def qB (q t:By):By × Int :=
 if 8192<q.length then ([],2)
 else if (docT q).1=false then ([],1)
 else if 8192<t.length∨40<t.count 10 then ([],2)
 else if t≠[]∧t.getLast?≠some 10 then ([],1)
 else (uM (docT q).2 (kG (docT q).2) (vV t),0)
theorem joinI_join:∀(l:List Int),Lib.join (l.map Lib.itoa) [32]=zCg l
 | []=>rfl
 | n::l=>by
  rw [List.map_cons,Lib.join_cons];show Lib.itoa n++Lib.joinTail [32] (l.map Lib.itoa)=jH (Lib.itoa n) l;unfold jH Lib.joinTail;rw [List.map_map,List.flatMap_def];rfl
theorem joinI_step {l:List Int} {k:Nat} (h:k<l.length):zCg (l.take (k+1))=if k=0 then Lib.itoa l[k] else zCg (l.take k)++32::Lib.itoa l[k]:=by
 match l,k,h with
 | n::l,0,_=>simp [zCg,jH]
 | n::l,k+1,h =>
  rw [if_neg (by omega)];simp only [List.take_succ_cons,zCg,List.getElem_cons_succ];exact wordsI_step _ (by simpa using h)
theorem joinI_len (l:List Int) (h:∀n∈l,I64 n):(zCg l).length≤22 * l.length:=by
 match l,h with
 | [],_=>simp [zCg]
 | n::l,h =>
  have h1:=zGt (Lib.itoa n) l (fun m hm=>h m (by simp [hm]));have h2:=h n (by simp);unfold I64 at h2;have h3:=Lib.itoa_length_le n h2.1 h2.2;simp only [zCg,List.length_cons];omega
theorem zFv (l:List Int) (h:∀n∈l,I64 n):(jT l).length≤22 * l.length+1:=by
 unfold jT;split
 ·simp
 ·have:=joinI_len l h;omega
theorem zFu (n:Int):jT [n]=Lib.itoa n:=by
 unfold jT;rw [if_neg (by simp)];simp [zCg,jH]
theorem zGu {p:List GFunc} {k:Nat} (h:k<p.length):zBb p (k+1)=zBb p k+(zAq p p[k]).code.length:=by
 unfold zBb;rw [List.take_succ_eq_append_getElem h,List.map_append,List.sum_append];simp
theorem trimG_le {p:List GFunc} {F:GFunc} (h:F.code.length≤24):(zAq p F).code.length≤24:=by
 unfold zAq vE;exact Nat.le_trans (zDf _ _ _) h
theorem zHk {p:List GFunc} (h:zZ p=0):∀(k:Nat),k≤p.length→zBb p k≤k * 24
 | 0,_=>by simp [zBb]
 | k+1,hk=>by
  have hlt:k<p.length:=by omega
  have h1:=zHk h k (by omega);have h2:=trimG_le (p:=p) (F:=p[k]) (jX h _ (List.getElem_mem hlt)).2.1;rw [zGu hlt];omega
theorem kindsG_step {p:List GFunc} {s:GState} {k:Nat} (h:k<s.fibers.length):(qF p s).take (k+1)=(qF p s).take k++[uN p s k]:=by
 have hl:k<(qF p s).length:=by unfold qF;simpa using h
 rw [List.take_succ_eq_append_getElem hl];have e:(qF p s)[k]=uN p s k:=by
  have e2:(qF p s)[k]?=some (uN p s k):=by
   unfold qF;rw [List.getElem?_map,List.getElem?_range h];rfl
  rw [List.getElem?_eq_getElem hl] at e2;exact Option.some.inj e2
 rw [e]
theorem zBr (p:List GFunc) (s:GState):(qF p s).length=s.fibers.length:=by unfold qF;simp
end Go.Proofs.YtpcjkfppacnkgaaGreatDoor
end
section
namespace Go.Proofs.YtpcjkfppacnkgaaGreatDoor
open Go Go.RowKit
theorem decFrom_step {s:By} {k n d:Nat} (h:k<s.length) (hd:s[k].toNat=48+d) (h9:d≤9):Lib.decFrom n (s.drop k)=Lib.decFrom (n * 10+d) (s.drop (k+1)):=by
 rw [List.drop_eq_getElem_cons h,Lib.decFrom];have:Lib.digitVal s[k]=some d:=by
  unfold Lib.digitVal;rw [hd,if_pos (by omega)]
  congr 1
  omega
 rw [this]
def NumI (s:By) (k n:Nat):Prop:=n<10 ^ k∧Lib.decFrom n (s.drop k)=Lib.decFrom 0 s∧∀b∈s.take k,48≤b.toNat∧b.toNat≤57
theorem NumI.next {s:By} {k n d:Nat} (h:NumI s k n) (hk:k<s.length) (hd:s[k].toNat=48+d) (h9:d≤9):NumI s (k+1) (10 * n+d):=by
 obtain⟨h1,h2,h3⟩:=h;refine⟨?_,?_,fun b hb=>?_⟩
 ·rw [Nat.pow_succ];generalize 10 ^ k=q at *;omega
 ·rw [←h2,decFrom_step hk hd h9,Nat.mul_comm]
 ·rw [List.take_succ_eq_append_getElem hk] at hb;rcases List.mem_append.1 hb with hb | hb
  ·exact h3 b hb
  ·rw [List.mem_singleton.1 hb];omega
theorem numG_bad {s:By} (h:¬(1≤s.length∧s.length≤6)):numG s = -1:=by unfold numG;rw [if_neg (fun e=>h e.1)]
theorem numG_sign {s:By} {k:Nat} (h:k<s.length) (hd:¬(48≤s[k].toNat∧s[k].toNat≤57)):numG s = -1:=by
 unfold numG;rw [if_neg (fun e=>hd (e.2.1 _ (List.getElem_mem h)))]
theorem numG_end {s:By} {n:Nat} (h:NumI s s.length n) (hs:1≤s.length∧s.length≤6):numG s=if Lib.itoa (n:Int)=s then (n:Int) else -1:=by
 obtain⟨h1,h2,h3⟩:=h;rw [List.take_length] at h3;rw [List.drop_length,Lib.decFrom] at h2;unfold numG;rw [←h2,Option.getD_some];by_cases he:Lib.itoa (n:Int)=s
 ·rw [if_pos he,if_pos ⟨hs,h3,he⟩]
 ·rw [if_neg he,if_neg (fun e=>he e.2.2)]
theorem num_any (s:By) (w:World) (hl:s.length≤100000) :
  Calls Tryz.prog 52 #[txtV s] w fun e w'=>e=.returned (.int .i64 (numG s))∧Ext w w':=by
 obtain⟨r,hr⟩:∃r,numG s=r:=⟨_,rfl⟩
 rw [hr];have HR:=eH hr;clear hr;obtain⟨X,hX⟩:∃X:ByteArray,(⟨s.toArray⟩:ByteArray)=X:=⟨_,rfl⟩
 have hN:X.size=s.length:=by rw [←hX];exact yN s
 have HX:=eH hX;change Calls Tryz.prog 52 #[.string ⟨s.toArray⟩] w _;rw [hX];clear hX;by_cases h16:1≤s.length∧s.length≤6
 ·have HW:Hid (decide ((1:Int)≤(s.length:Int)∧(s.length:Int)≤6)=true):=by unfold Hid;rw [decide_eq_true_eq];omega
  have hl6:=h16.2;have H16:=eH h16;clear h16;go_enter Tryz.func52,Tryz.ntmps52
  go_wp2_with (first
   | (go_at_call 62;refine(kS _ _ _ _).mono ?_;rintro e w4 ⟨rfl,rfl⟩;rw [HW.out]))
  go_loopw [3,4] (fun q3 q4 wr=>∃(k n:Nat),q4=.int .i64 k∧q3=.int .i64 n∧k≤s.length∧NumI s k n∧w=wr) (fun _ q4 _=>s.length - (intOf q4).toNat)
  case atStart=>exact⟨0,0,rfl,rfl,by omega,⟨by decide,by simp,by simp⟩,rfl⟩
  case round =>
   obtain⟨k,n,rfl,rfl,hk,hnu,rfl⟩:=hrel;have HNU:=eH hnu;have hn6:n<1000000:=Nat.lt_of_lt_of_le hnu.1 (Nat.pow_le_pow_right (n:=10) (by decide) (by omega:k≤6));clear hnu;by_cases hks:k<s.length
   ·have hn5:n<100000:=Nat.lt_of_lt_of_le HNU.out.1 (Nat.pow_le_pow_right (n:=10) (by decide) (by omega:k≤5));have hGET:X[k]'(by omega)=s[k]:=by
     have:∀(Y:ByteArray) (hY:(⟨s.toArray⟩:ByteArray)=Y) (h:k<Y.size),Y[k]'h=s[k]:=fun Y hY h=>by subst hY;exact get_by s k h hks
     exact this X HX.out _
    obtain⟨u,hu⟩:∃u,s[k].toNat=u:=⟨_,rfl⟩
    have HU:=eH hu;by_cases h0:u<48
    ·obtain rfl:r = -1:=by rw [←HR.out];exact numG_sign hks (by omega)
     have T0:decide ((u:Int)<48)=true:=decide_eq_true (by omega);generalize s[k]=b at *;clear h0
     go_wp2_with fail
     go_ret;exact⟨rfl,eR _⟩
    ·by_cases h9:57<u
     ·obtain rfl:r = -1:=by rw [←HR.out];exact numG_sign hks (by omega)
      have T0:decide ((u:Int)<48)=false:=decide_eq_false (by omega);have T1:decide ((57:Int)<(u:Int))=true:=decide_eq_true (by omega);generalize s[k]=b at *;clear h0 h9
      go_wp2_with fail
      go_ret;exact⟨rfl,eR _⟩
     ·obtain⟨d,rfl⟩:∃d,u=48+d:=⟨u - 48,by omega⟩
      have hd9:d≤9:=by omega
      have HNX:Hid (NumI s (k+1) (10 * n+d)):=HNU.out.next hks HU.out hd9;have T0:decide ((((48+d:Nat)):Int)<48)=false:=decide_eq_false (by omega);have T1:decide ((57:Int)<(((48+d:Nat)):Int))=false:=decide_eq_false (by omega);obtain⟨u,hu48⟩:∃u,48+d=u:=⟨_,rfl⟩
      rw [hu48] at T0 T1 hu;have K1:IntKind.u8.wrap ((u:Int) - 48)=(d:Int):=by rw [IntWalk.u8_in _ (by omega)];omega
      have K2:IntKind.i64.wrap (10 * (n:Int)+(d:Int))=((10 * n+d:Nat):Int):=by rw [IntWalk.i64_in _ (by omega)];omega
      generalize s[k]=b at *;clear h0 h9 hu48
      go_wp2_with fail
      go_roundw
      case rel=>exact⟨k+1,10 * n+d,by go_num,by go_num,by omega,HNX.out,trivial⟩
      case measure=>simp [intOf];omega
   ·obtain rfl:k=s.length:=by omega
    have HE:=eH (numG_end HNU.out H16.out);have iN:I64 (n:Int):=by unfold I64;omega
    obtain⟨t,ht⟩:∃t,Lib.itoa (n:Int)=t:=⟨_,rfl⟩
    have HT:=eH ht;rw [ht] at HE;obtain⟨Y,hY⟩:∃Y:ByteArray,(⟨t.toArray⟩:ByteArray)=Y:=⟨_,rfl⟩
    have HY:=eH hY;clear hks ht hY;by_cases he:t=s
    ·obtain rfl:r=(n:Int):=by rw [←HR.out,HE.out,if_pos he]
     have hXY:Y=X:=by rw [←HX.out,←HY.out,he]
     clear he
     go_wp2_with (first
      | (go_at_call 13;refine(jF _ _ iN).mono ?_;rintro e w4 ⟨rfl,hx4⟩;rw [HT.out,HY.out,hXY]))
     go_ret;exact⟨rfl,hx4⟩
    ·obtain rfl:r = -1:=by rw [←HR.out,HE.out,if_neg he]
     have hXY:(Y.toList == X.toList)=false:=beq_eq_false_iff_ne.2 (fun e=>he (by rw [←HX.out,←HY.out,ByteArray.toList_mk,ByteArray.toList_mk] at e;exact e));clear he
     go_wp2_with (first
      | (go_at_call 13;refine(jF _ _ iN).mono ?_;rintro e w4 ⟨rfl,hx4⟩;rw [HT.out,HY.out]))
     go_ret;exact⟨rfl,hx4⟩
 ·have HW:Hid (decide ((1:Int)≤(s.length:Int)∧(s.length:Int)≤6)=false):=by unfold Hid;rw [decide_eq_false_iff_not];omega
  obtain rfl:r = -1:=by rw [←HR.out];exact numG_bad h16
  clear h16;go_enter Tryz.func52,Tryz.ntmps52
  go_wp2_with (first
   | (go_at_call 62;refine(kS _ _ _ _).mono ?_;rintro e w4 ⟨rfl,rfl⟩;rw [HW.out]))
  go_ret;exact⟨rfl,eR _⟩
end Go.Proofs.YtpcjkfppacnkgaaGreatDoor
end
section
namespace Go.Proofs.YtpcjkfppacnkgaaGreatDoor
open Go
section
variable {P:Program} {md:Region.Mode} {ops:Array Oper} {Q:Exit→Act→World→Prop} {S:World→Prop} {z:Nat}
def wpAnyZ (P:Program) (md:Region.Mode) (ops:Array Oper) (Q:Exit→Act→World→Prop) (S:World→Prop) (z:Nat):Nat→Array Bool→Act→World→Prop
 | 0,listed,a,w=>Region.ready md ops listed=[]∧Q .normal a w
 | fuel+1,listed,a,w =>
  (Region.ready md ops listed=[]→Q .normal a w) ∧
  ∀i∈Region.ready md ops listed,wpOp P ops Q i (fun a' w'=>if i=z then wpAny P md ops Q fuel (listed.setIfInBounds i true) a' w' else S w'∧wpAnyZ P md ops Q S z fuel (listed.setIfInBounds i true) a' w') a w
theorem wpAny_of_Z:∀(fuel:Nat) (listed:Array Bool) (a:Act) (w:World),wpAnyZ P md ops Q S z fuel listed a w→wpAny P md ops Q fuel listed a w
 | 0,_,_,_,h=>h
 | fuel+1,_,_,_,h=>⟨h.1,fun i hi=>wpOp_mono (fun a' w' h'=>by
   by_cases e:i=z
   ·rw [if_pos e] at h';exact h'
   ·rw [if_neg e] at h';exact wpAny_of_Z fuel _ a' w' h'.2) (h.2 i hi)⟩
def thenZ (P:Program) (ops:Array Oper) (Q:Exit→Act→World→Prop) (l:List Oper):Exit→Act→World→Prop
 | .normal,a,w=>vY P ops (fun _=>True) Q l a w
 | e,a,w=>Q e a w
def rzTail (md:Region.Mode) (ops:Array Oper) (z z2:Nat) (tl2:List Nat):List Nat→Array Bool→Bool
 | [],_=>false
 | k::l,listed=>decide (Region.ready md ops listed=[k]) && decide (k<ops.size) && (decide (k=z) == l.isEmpty) && (if l.isEmpty then !tl2.isEmpty && zEz md ops z2 tl2 (listed.setIfInBounds k true) else rzTail md ops z z2 tl2 l (listed.setIfInBounds k true))
theorem wpAnyZ_tail {l:List Oper} (hl:ops=l.toArray) (z2:Nat) (tl2:List Nat):∀(tl:List Nat) (fuel:Nat) (listed:Array Bool) (a:Act) (w:World),tl.length+tl2.length=fuel→rzTail md ops z z2 tl2 tl listed=true→vY P ops S (thenZ P ops Q (zH l tl2)) (zH l tl) a w→wpAnyZ P md ops Q S z fuel listed a w
 | [],_,_,_,_,_,hB,_=>by simp [rzTail] at hB
 | k::tl,fuel,listed,a,w,hf,hB,h=>by
  obtain⟨f,rfl⟩:∃f,fuel=f+1:=⟨fuel - 1,by simp at hf;omega⟩
  simp only [rzTail,Bool.and_eq_true,decide_eq_true_eq] at hB;obtain⟨⟨⟨h1,h2⟩,h3⟩,h4⟩:=hB;obtain⟨o,ho⟩:∃o,l[k]?=some o:=⟨l[k]'(by subst hl;simpa using h2),by rw [List.getElem?_eq_getElem]⟩
  have ho':ops[k]?=some o:=by subst hl;simpa using ho
  have e:zH l (k::tl)=o::zH l tl:=by unfold zH;simp [ho]
  rw [e] at h;refine⟨fun h0=>(by rw [h1] at h0;cases h0),fun i hi=>?_⟩;rw [h1] at hi;obtain rfl:i=k:=by simpa using hi
  have hL:LetsOut (thenZ P ops Q (zH l tl2))→LetsOut Q:=fun ⟨a,w,h⟩=>⟨a,w,h⟩
  have hw:wpOp P ops Q i (fun a' w'=>(zH l tl=[]∨S w')∧vY P ops S (thenZ P ops Q (zH l tl2)) (zH l tl) a' w') a w:=by
   unfold wpOp;simp only [ho'];unfold vY at h
   split at h
   ·rename_i hw
    rw [if_pos hw];exact h.imp (fun h1=>Oper.wp_exits (fun _ _ _ h=>h) hL h1) (fun h1=>⟨h1.1,hL h1.2⟩)
   ·rename_i hw
    rw [if_neg hw];exact h
  cases tl with
  | nil =>
   have hz:i=z:=by simpa using h3
   simp only [List.isEmpty_nil,if_true,Bool.and_eq_true] at h4;refine wpOp_mono (fun a' w' h'=>?_) hw;rw [if_pos hz];exact jC _ _ _ _ (zCa hl tl2 f _ a' w' (by simp at hf;omega) h4.2 h'.2)
  | cons j tl' =>
   have hz:i≠z:=by simpa using h3
   simp only [List.isEmpty_cons,Bool.false_eq_true,if_false] at h4;have hne:zH l (j::tl')≠[]:=by
    have hj:j<ops.size:=by
     unfold rzTail at h4;simp only [Bool.and_eq_true,decide_eq_true_eq] at h4;exact h4.1.1.2
    unfold zH;have hj':l[j]?=some (l[j]'(by subst hl;simpa using hj)):=List.getElem?_eq_getElem _;simp [hj']
   refine wpOp_mono (fun a' w' h'=>?_) hw;rw [if_neg hz];exact⟨h'.1.resolve_left hne,wpAnyZ_tail hl z2 tl2 (j::tl') f _ a' w' (by simp at hf ⊢;omega) h4 h'.2⟩
theorem thenZ_go {l:List Oper} {a:Act} {w:World} (h:vY P ops (fun _=>True) Q l a w):thenZ P ops Q l .normal a w:=h
end
end Go.Proofs.YtpcjkfppacnkgaaGreatDoor
end
section
namespace Go.Proofs.YtpcjkfppacnkgaaGreatDoor
open Go
section
variable {P:Program} {md:Region.Mode} {ops:Array Oper} {Q:Exit→Act→World→Prop} {S:World→Prop} {z:Nat}
def zBf (md:Region.Mode) (ops:Array Oper) (listed:Array Bool):Prop:=∀k ok,ops[k]?=some ok→listed.getD k false=true→∀e∈ok.after,Region.binds md e=true→listed.getD e.on false=true
theorem getD_set_or {listed:Array Bool} {i k:Nat} (h:(listed.setIfInBounds i true).getD k false=true):k=i∨listed.getD k false=true:=by
 by_cases e:k=i
 ·exact .inl e
 ·rw [getD_set_ne false (Ne.symm e)] at h;exact .inr h
theorem zBf.set {listed:Array Bool} (h:zBf md ops listed) {i:Nat} (hr:i∈Region.ready md ops listed):zBf md ops (listed.setIfInBounds i true):=by
 intro k ok hk hl e he hb;obtain⟨_,oi,hoi,hall⟩:=mem_ready.1 hr;rcases getD_set_or hl with rfl | h1
 ·rw [hoi] at hk;cases hk;exact getD_set_true (hall e he hb)
 ·exact getD_set_true (h k ok hk h1 e he hb)
theorem zCl (n:Nat):zBf md ops (Array.replicate n false):=by
 intro k ok _ hl;exfalso;rw [Array.getD_eq_getD_getElem?,Array.getElem?_replicate] at hl
 split at hl<;>simp at hl
def zDe (md:Region.Mode) (ops:Array Oper):Nat→Nat→Nat→Bool
 | 0,_,_=>false
 | f+1,j,i=>match ops[j]? with
  | some oj=>oj.after.any fun e=>Region.binds md e && (e.on == i || zDe md ops f e.on i)
  | none=>false
theorem zCq {listed:Array Bool} (hc:zBf md ops listed) {i:Nat}:∀(f j:Nat),zDe md ops f j i=true→(∀oj,ops[j]?=some oj→∀e∈oj.after,Region.binds md e=true→listed.getD e.on false=true)→listed.getD i false=true
 | 0,_,h,_=>by simp [zDe] at h
 | f+1,j,h,hj=>by
  unfold zDe at h
  split at h
  ·rename_i oj hoj
   obtain⟨e,he,hb⟩:=Array.any_eq_true'.1 h;simp only [Bool.and_eq_true,Bool.or_eq_true,beq_iff_eq] at hb;have hl:=hj oj hoj e he hb.1;rcases hb.2 with h1 | h1
   ·rw [←h1];exact hl
   ·exact zCq hc f e.on h1 (fun ok hk=>hc e.on ok hk hl)
  ·cases h
theorem zGh {i F:Nat} {oi:Oper} {v:Value} (hz:zDe md ops F z i=true) (hi:ops[i]?=some oi) (hsel:∀(j:Nat) (o:Oper) cs b,ops[j]?=some o→o.op≠.select cs b)
  (hQ:∀c a w,Q (.panic c) (a.put oi.dst v) w→Q (.panic c) a w) :
  ∀(fuel:Nat) (listed:Array Bool) (a:Act) (w:World),listed.size=ops.size→zBf md ops listed →
   (∀j oj,ops[j]?=some oj→j≠i→listed.getD j true=false→(∀e∈oj.after,Region.binds md e=true→e.on≠i)→oi.apart ops oj=true) →
   i∈Region.ready md ops listed→YieldsIf P ops S oi v a→S w →
   jO P md ops Q S z fuel (listed.setIfInBounds i true) (a.put oi.dst v) w→jO P md ops Q S z (fuel+1) listed a w:=by
 intro fuel
 induction fuel with
 | zero =>
  intro listed a w _ _ _ hr hy hS H;refine⟨fun h=>(by rw [h] at hr;cases hr),fun j hj=>?_⟩;by_cases hji:j=i
  ·subst hji;exact hy.wpOp hi hS ⟨.inr hS,H⟩
  ·have:=ready_mono hj hji;rw [H.1] at this
   cases this
 | succ fuel ih =>
  intro listed a w hsz hcl hfree hr hy hS H;refine⟨fun h=>(by rw [h] at hr;cases hr),fun j hj=>?_⟩;by_cases hji:j=i
  ·subst hji;exact hy.wpOp hi hS ⟨.inr hS,H⟩
  ·have h1:=H.2 j (ready_mono hj hji);obtain⟨hjun,oj,hoj,hall⟩:=mem_ready.1 hj;have hun0:listed.getD i false≠true:=fun h=>by
    have h0:=(mem_ready.1 hr).1;rcases Nat.lt_or_ge i listed.size with h' | h'
    ·simp [h'] at h0 h;rw [h0] at h;cases h
    ·simp [Array.getElem?_eq_none h'] at h
   have hnot:∀e∈oj.after,Region.binds md e=true→e.on≠i:=fun e he hb heq=>hun0 (heq ▸ hall e he hb)
   have hjz:j≠z:=fun e=>by
    subst e;exact hun0 (zCq hcl F j hz (fun ok hk e he hb=>by rw [hoj] at hk;cases hk;exact hall e he hb))
   have h2:=wpOp_putIf hoj (hfree j oj hoj hji hjun hnot) (fun cs b=>hsel i oi cs b hi) (fun cs b=>hsel j oj cs b hoj) hQ hy h1;have hfree':∀k ok,ops[k]?=some ok→k≠i→(listed.setIfInBounds j true).getD k true=false →
     (∀e∈ok.after,Region.binds md e=true→e.on≠i)→oi.apart ops ok=true:=fun k ok hk hki hun hno=>by
    refine hfree k ok hk hki ?_ hno;by_cases hjk:j=k
    ·subst hjk;exact hjun
    ·rw [getD_set_ne true hjk] at hun;exact hun
   refine wpOp_mono (fun a' w' h3=>?_) h2;have h4:=h3.2.1.resolve_left hjz;exact⟨.inr h4,ih (listed.setIfInBounds j true) a' w' (by simpa using hsz) (hcl.set hj) hfree' (ready_mono hr (Ne.symm hji)) h3.1 h4 (by rw [Array.setIfInBounds_comm _ _ hji];exact h3.2.2)⟩
def rtHeadT (md:Region.Mode) (ops:Array Oper) (z:Nat) (tl:List Nat):List Nat→Array Bool→Bool
 | [],listed=>zEz md ops z tl listed
 | k::l,listed=>(Region.ready md ops listed).contains k && Region.free md ops listed k && decide (k<ops.size) && zDe md ops ops.size z k && rtHeadT md ops z tl l (listed.setIfInBounds k true)
def rtBT (md:Region.Mode) (ops:Array Oper) (z:Nat) (rd tl:List Nat):Bool :=
 Region.noSelect ops && decide (rd.length+tl.length=ops.size) && rtHeadT md ops z tl rd (Array.replicate ops.size false)
theorem zDc {l:List Oper} (hl:ops=l.toArray) (hsel:Region.noSelect ops=true)  (hQ:∀c a d v w,Q (.panic c) (Act.put a (some d) v) w→Q (.panic c) a w) {w:World} (hS:S w) (tl:List Nat) :
  ∀(rd:List Nat) (fuel:Nat) (listed:Array Bool) (a:Act),listed.size=ops.size→zBf md ops listed→rd.length+tl.length=fuel→rtHeadT md ops z tl rd listed=true→vT P ops S (fun a'=>vY P ops S Q (zH l tl) a' w) (zH l rd) a→jO P md ops Q S z fuel listed a w
 | [],fuel,listed,a,hs,_,hf,hB,h=>zCa hl tl fuel listed a w (by simpa using hf) hB h
 | k::rd,fuel,listed,a,hs,hcl,hf,hB,h=>by
  simp only [rtHeadT,Bool.and_eq_true,decide_eq_true_eq] at hB;obtain⟨⟨⟨⟨h1,h2⟩,h3⟩,h4⟩,h5⟩:=hB;obtain⟨o,ho⟩:∃o,l[k]?=some o:=⟨l[k]'(by subst hl;simpa using h3),by rw [List.getElem?_eq_getElem]⟩
  have ho':ops[k]?=some o:=by subst hl;simpa using ho
  have e:zH l (k::rd)=o::zH l rd:=by unfold zH;simp [ho]
  rw [e] at h;obtain⟨v,hy,hK⟩:=h;obtain⟨f,rfl⟩:∃f,fuel=f+1:=⟨fuel - 1,by simp at hf;omega⟩
  have hr:k∈Region.ready md ops listed:=by simpa using h1
  exact zGh h4 ho' (Region.noSelect_spec hsel) (fun c a w h=>by cases hd:o.dst with | none=>rw [hd] at h;exact h | some d=>rw [hd] at h;exact hQ c _ _ _ w h) f listed a w hs hcl (Region.free_spec ho' h2) hr hy hS
   (zDc hl hsel hQ hS tl rd f _ _ (by simpa using hs) (hcl.set hr) (by simp at hf;omega) h5 hK)
theorem qD {id:Nat} {l:List Oper} {a:Act} {w:World} (S:World→Prop) (z:Nat) (rd tl:List Nat) (hm:P.follows .mixedOrders=true) (hB:rtBT .any l.toArray z rd tl=true) (hQ:∀c a d v w,Q (.panic c) (Act.put a (some d) v) w→Q (.panic c) a w) (hS:S w.drew)
  (h:vT P l.toArray S (fun a'=>vY P l.toArray S Q (zH l tl) a' w.drew) (zH l rd) a):(Code.region id l.toArray true).wp P Q a w:=by
 simp only [rtBT,Bool.and_eq_true,decide_eq_true_eq] at hB;obtain⟨⟨h1,h2⟩,h4⟩:=hB;refine wp_region_any hm (jC (S:=S) (z:=z) _ _ _ _ ?_);exact zDc rfl h1 hQ hS tl rd _ _ a (by simp) (zCl _) h2 h4 h
end
end Go.Proofs.YtpcjkfppacnkgaaGreatDoor
end
