/- Contracts and plain facts. -/
import Derived.Test.YtpcjkfppacnkgaaGreatDoorGPAX
set_option maxHeartbeats 4000000
set_option maxRecDepth 100000
namespace Go.Proofs.YtpcjkfppacnkgaaGreatDoor
open Go Go.RowKit
def Res (p:List GFunc) (r:Int × GState):Prop:=(r.1=0∧∃l,Ok p r.2 l)∨r.1=2∨r.1=5∨r.1=6∨r.1=7
theorem Ok.few5 {p:List GFunc} {s:GState} {l r:List Int} {k:Nat} {fs:List GFrame} {x:GFrame} (h:Ok p s l) (hR:Runs p s l k fs x r):fs.length≤5:=by
 have:=h.frames k hR.at_.lt;rw [hR.at_.frames] at this;simp at this;omega
theorem stay {p:List GFunc} {s s':GState} {l r:List Int} {k:Nat} {fs:List GFrame} {x x':GFrame} {o:GOp} (h:Ok p s l) (hR:Runs p s l k fs x r) (hF:OpF p x o)
  (hn:Near s s' k) (ha:At s' k fs x') (hf:x'.func=x.func) (hl:x'.locals.length=x.locals.length) {i:Nat} (hi:i∈nx o x.at_.toNat) (hi':x'.at_=i)
  (hs:(x'.stack.length:Int)=nOf p o x.stack.length) (ho:s'.out.length≤30):Res p (0,s'):=by
 obtain⟨h1,h2⟩:=hF.full hf hl hi hi' hs;exact .inl ⟨rfl,l,h.near hn ha hR.zero (by rw [hf];exact hR.on) h1 h2 (h.few5 hR) ho⟩
theorem stays_right {p:List GFunc} {s t:GState} {l r:List Int} {k:Nat} {fs:List GFrame} {x:GFrame} {o:GOp} (h:Ok p s l) (hR:Runs p s l k fs x r) (hF:OpF p x o)
  (hN:Near s t k) (hA:At t k fs { x with at_:=x.at_+1 }) (hO:t.out=s.out) (hk:o.kind≤10):zV p t o.kind o.a∧Res p (zQ p t o.kind o.a):=by
 have hx:curX t={ x with at_:=x.at_+1 }:=hA.curX;have ht:=hF.takes;have hk0:=hF.kind.1;have ha0:=hF.a.1;have ham:=hF.a.2;have hlt:=hR.at_.lt;have hat:=hF.at_;have hloc:=hF.locals;have hout:t.out.length≤30:=by rw [hO];exact h.out
 have cases9:o.kind=0∨o.kind=1∨o.kind=2∨o.kind=3∨o.kind=9∨o.kind=10∨(4≤o.kind∧o.kind≤8):=by omega
 have hi1:((x.at_.toNat+1:Nat):Int)=x.at_+1:=by omega
 rcases cases9 with e | e | e | e | e | e | e
 ·have w:zQ p t o.kind o.a=(0,kR t t.now o.a):=by rw [e];simp [zQ]
  refine⟨by rw [e];simp [zV],?_⟩;rw [w];refine stay h hR hF (hN.top hlt _ hA.now) (hA.top _ hA.now) rfl rfl (zBd (by omega) (by omega)) hi1.symm ?_ hout;simp [nOf,zP,kA,e]
 ·have w:zQ p t o.kind o.a=(0,popG t):=by rw [e];simp [zQ]
  have tk:zP p o=1:=by simp [zP,e]
  refine⟨by rw [e];simp [zV,hx];omega,?_⟩;rw [w];refine stay h hR hF (hN.top hlt _ hA.now) (hA.top _ hA.now) rfl rfl (zBd (by omega) (by omega)) hi1.symm ?_ hout;simp [nOf,tk,kA,e];omega
 ·have w:zQ p t o.kind o.a=(0,kR t t.now ((curX t).locals.getD o.a.toNat 0)):=by rw [e];simp [zQ]
  have m:o.a≤(zI p x.func).locals - 1:=by simpa [qJ,e] using ham
  refine⟨by rw [e];simp [zV,hx];omega,?_⟩;rw [w];refine stay h hR hF (hN.top hlt _ hA.now) (hA.top _ hA.now) rfl rfl (zBd (by omega) (by omega)) hi1.symm ?_ hout;simp [nOf,zP,kA,e]
 ·have w:zQ p t o.kind o.a=(0,kT (popG t) t.now fun x=>{ x with locals:=x.locals.set o.a.toNat (zR t) }):=by rw [e];simp [zQ]
  have tk:zP p o=1:=by simp [zP,e]
  have m:o.a≤(zI p x.func).locals - 1:=by simpa [qJ,e] using ham
  refine⟨by rw [e];simp [zV,hx];omega,?_⟩;rw [w];refine stay h hR hF ((hN.top hlt _ hA.now).top hlt _ hA.now) ((hA.top _ hA.now).top _ hA.now) rfl (by simp) (zBd (by omega) (by omega)) hi1.symm ?_ hout;simp [nOf,tk,kA,e];omega
 ·have w:zQ p t o.kind o.a=(0,zDm t o.a):=by rw [e];simp [zQ]
  refine⟨by rw [e];simp [zV],?_⟩;rw [w];refine stay h hR hF (hN.top hlt _ hA.now) (hA.top _ hA.now) rfl rfl (nx_jump (.inl e)) (by show o.a=_;omega) ?_ hout;simp [nOf,zP,kA,e]
 ·have w:zQ p t o.kind o.a=(0,if zR t=0 then zDm (popG t) o.a else popG t):=by rw [e];simp [zQ]
  have tk:zP p o=1:=by simp [zP,e]
  refine⟨by rw [e];simp [zV,hx];omega,?_⟩;rw [w];by_cases hl:zR t=0
  ·rw [if_pos hl];refine stay h hR hF ((hN.top hlt _ hA.now).top hlt _ hA.now) ((hA.top _ hA.now).top _ hA.now) rfl rfl (nx_jump (.inr e)) (by show o.a=_;omega) ?_ hout;simp [nOf,tk,kA,e];omega
  ·rw [if_neg hl];refine stay h hR hF (hN.top hlt _ hA.now) (hA.top _ hA.now) rfl rfl (zBd (by omega) (by omega)) hi1.symm ?_ hout;simp [nOf,tk,kA,e];omega
 ·have w:zQ p t o.kind o.a=(0,kR (popG (popG t)) t.now (yP o.kind (zR (popG t)) (zR t))):=by
   unfold zQ;rw [if_neg (by omega),if_neg (by omega),if_neg (by omega),if_neg (by omega),if_neg (by omega),if_neg (by omega),if_neg (by omega),if_neg (by omega),if_neg (by omega),if_neg (by omega),if_neg (by omega),if_neg (by omega)]
  have tk:zP p o=2:=by unfold zP;rw [if_pos (by omega)]
  have lv:kA o=1:=by unfold kA;rw [if_neg (by omega)]
  refine⟨?_,?_⟩
  ·unfold zV;rw [if_neg (by omega),if_neg (by omega),if_neg (by omega),if_neg (by omega),if_neg (by omega),if_neg (by omega),if_neg (by omega),if_neg (by omega),if_neg (by omega),if_neg (by omega),if_neg (by omega),if_neg (by omega),hx];show 2≤x.stack.length;omega
  ·rw [w];refine stay h hR hF (((hN.top hlt _ hA.now).top hlt _ hA.now).top hlt _ hA.now) (((hA.top _ hA.now).top _ hA.now).top _ hA.now) rfl rfl (zBd (by omega) (by omega)) hi1.symm ?_ hout;simp [nOf,tk,lv];omega
theorem onL_snoc {p:List GFunc} {fs:List GFrame} {y:GFrame} {g:Int} (h:OnL p fs y.func) (hy:qW p y=true) (hw:zBa p y 11 g=true):OnL p (fs++[y]) g:=fun j hj=>by
 rw [List.length_append,List.length_singleton] at hj;unfold fnAt;by_cases hj1:j<fs.length
 ·rw [if_pos (by simp;omega),zAg hj1,fn_next fs y hj1];exact h j hj1
 ·obtain rfl:j=fs.length:=by omega
  rw [if_neg (by simp),yV];exact⟨hy,hw⟩
theorem onL_init {p:List GFunc} {fs:List GFrame} {y:GFrame} {g:Int} (h:OnL p (fs++[y]) g):OnL p fs y.func∧qW p y=true∧zBa p y 11 g=true:=by
 refine⟨fun j hj=>?_,?_⟩
 ·have:=h j (by simp;omega);unfold fnAt at this;rw [if_pos (by simp;omega),zAg hj,fn_next fs y hj] at this;exact this
 ·have:=h fs.length (by simp);unfold fnAt at this;rw [if_neg (by simp),yV] at this;exact this
theorem call_right {p:List GFunc} {s t:GState} {l r:List Int} {k:Nat} {fs:List GFrame} {x:GFrame} {o:GOp} (h:Ok p s l) (hR:Runs p s l k fs x r) (hF:OpF p x o)
  (hN:Near s t k) (hA:At t k fs { x with at_:=x.at_+1 }) (hO:t.out=s.out) (e:o.kind=11):zV p t o.kind o.a∧Res p (zQ p t o.kind o.a):=by
 have hx:curX t={ x with at_:=x.at_+1 }:=hA.curX;have w:zQ p t o.kind o.a=zAw p t o.a:=by rw [e];simp [zQ]
 have tk:zP p o=(zI p o.a).args:=by simp [zP,e,zI]
 have lv:kA o=1:=by simp [kA,e]
 have ht:=hF.takes;have ha0:=hF.a.1;have ham:o.a≤(p.length:Int) - 1:=by simpa [qJ,e] using hF.a.2
 obtain⟨c0,c1,c2⟩:=hF.callee (.inl e);have hlt:=hR.at_.lt;rw [tk] at ht;refine⟨?_,?_⟩
 ·rw [e];simp only [zV];refine⟨ha0,by omega,c0,c1,by omega,?_⟩;rw [hx];exact ht
 ·rw [w];unfold zAw;rw [hA.curF,List.length_append,List.length_singleton];by_cases h6:fs.length+1=6
  ·rw [if_pos h6];exact .inr (.inl rfl)
  ·rw [if_neg h6];have h5:=h.few5 hR;have hN1:Near s (jB t (zI p o.a).args.toNat) k:=hN.top hlt _ hA.now;have hA1:At (jB t (zI p o.a).args.toNat) k fs _:=hA.top _ hA.now;have hw:=hF.wait (x':={ x with at_:=x.at_+1,stack:=x.stack.take (x.stack.length - (zI p o.a).args.toNat) }) rfl rfl (by omega) (by omega) rfl (by
    rw [List.length_take];unfold nOf;rw [tk,lv];omega) (b:=o.a) (fun _=>rfl)
   rw [e] at hw;have hl:((kL p t o.a (zI p o.a).args.toNat).length:Int)=(zI p o.a).locals:=by
    unfold kL;rw [hx];simp only [List.length_append,List.length_replicate,List.length_drop];omega
   obtain⟨n1,n2⟩:=new_full (kH h.prog) ha0 (by omega) hl;have hA2:=hA1.fib (g:=fun f=>{ f with frames:=f.frames++[⟨o.a,0,kL p t o.a (zI p o.a).args.toNat,[]⟩] })
    (fs':=fs++[{ x with at_:=x.at_+1,stack:=x.stack.take (x.stack.length - (zI p o.a).args.toNat) }]) (x':=⟨o.a,0,kL p t o.a (zI p o.a).args.toNat,[]⟩)
    (fun f hf=>by show f.frames++_=_;rw [hf]) hA.now
   refine .inl ⟨rfl,l,h.near (hN1.fib hlt rfl hA.now) hA2 hR.zero (onL_snoc hR.on hw.1 hw.2) n1 n2 (by simp;omega) ?_⟩;show t.out.length≤30;rw [hO];exact h.out
theorem Ok.back {p : List GFunc} {s u : GState} {l r : List Int} {k : Nat} {fs : List GFrame} {x : GFrame} (h : Ok p s l) (hR : Runs p s l k fs x r) (hN : Near s u k) (ho : u.out.length ≤ 30)
    (hc : 0 ≤ (s.fibers.getD k default).caller) (hfr : (u.fibers.getD k default).frames.length ≤ 6) (hf : jK p { (u.fibers.getD k default) with caller := -1 } false false = true) (v : Int) :
    zAp u ∧ Ok p (uH u v) r := by
  have hlt := hR.at_.lt
  have hu : u.now = k := hN.now.trans hR.at_.now
  obtain ⟨m, hm⟩ := Int.eq_ofNat_of_zero_le hc
  have hm : (s.fibers.getD k default).caller = (m : Nat) := hm
  have hcu : (Proofs.YtpcjkfppacnkgaaGreatDoor.curF u).caller = (m : Nat) := by
    unfold Proofs.YtpcjkfppacnkgaaGreatDoor.curF
    rw [hu, Int.toNat_natCast, hN.caller, hm]
  have hml : m < s.fibers.length := by have := h.callers k hlt; omega
  have hlk := hR.lk
  rw [hm] at hlk
  obtain ⟨r', hr⟩ : ∃ r', r = (m : Int) :: r' := by
    cases r with
    | nil => exact absurd hlk (by show ¬ (m : Int) < 0; omega)
    | cons a r' => exact ⟨r', by rw [hlk.1]⟩
  have hmr : (m : Int) ∈ r := by rw [hr]; simp
  have hkr : (k : Int) ∉ r := by rw [← hR.at_.now]; exact hR.notin
  have hmk : m ≠ k := fun e => hkr (by rw [← e]; exact hmr)
  have hmf := h.fib m hml
  have hml' : (m : Int) ∈ l := by rw [hR.line]; simp [hmr]
  rw [decide_eq_true hml', decide_eq_false (show ¬ (m : Int) = s.now by rw [hR.at_.now]; omega)] at hmf
  have hne : (s.fibers.getD m default).frames ≠ [] := by
    intro e
    unfold jK at hmf
    rw [if_pos (by rw [e]; rfl)] at hmf
    cases hmf
  obtain ⟨gs, y, ey, y1, y2, y3⟩ := zCk hmf hne
  have y3 : zBa p y 14 0 = true := by
    unfold topB at y3
    rw [if_neg (by decide), if_pos rfl] at y3
    exact y3
  obtain ⟨z1, z2⟩ := wait_full y3 y2 v
  obtain ⟨U, hU⟩ : ∃ U, U = { kN u u.now (fun f => { f with caller := -1 }) with now := (Proofs.YtpcjkfppacnkgaaGreatDoor.curF u).caller } := ⟨_, rfl⟩
  have Ulen : U.fibers.length = s.fibers.length := by rw [hU]; exact (qK _ _ _).trans hN.len
  have Uget : ∀ j, j < s.fibers.length → U.fibers.getD j default = if k = j then { (u.fibers.getD j default) with caller := -1 } else s.fibers.getD j default := fun j hj => by
    rw [hU]
    show (kN u u.now _).fibers.getD j default = _
    rw [yG _ _ _ _ (by rw [hN.len]; exact hj), hu, Int.toNat_natCast]
    by_cases e : k = j
    · rw [if_pos e, if_pos e]
    · rw [if_neg e, if_neg e, hN.other j hj (fun e2 => e e2.symm)]
  have Unow : U.now = m := by rw [hU]; exact hcu
  have hAU : At U m gs y := ⟨Unow, by rw [Ulen]; exact hml, by rw [Uget m hml, if_neg (fun e => hmk e.symm)]; exact ey⟩
  have eB : uH u v = kR U (m : Nat) v := by unfold uH; rw [← hU, hcu]
  have hAB : At (kR U (m : Nat) v) m gs { y with stack := y.stack ++ [v] } := hAU.top _ rfl
  have hNB : Near U (kR U (m : Nat) v) m := (Near.refl U m).top hAU.lt _ rfl
  have Bc : ∀ j, j < s.fibers.length → ((kR U (m : Nat) v).fibers.getD j default).caller = if k = j then -1 else (s.fibers.getD j default).caller := fun j hj => by
    have e1 : ((kR U (m : Nat) v).fibers.getD j default).caller = (U.fibers.getD j default).caller := by
      by_cases e : j = m
      · rw [e]; exact hNB.caller
      · rw [hNB.other j (by rw [Ulen]; exact hj) e]
    rw [e1, Uget j hj]
    split <;> rfl
  refine ⟨.inr (by rw [← hU, hcu]; rw [← Unow]; exact hAU.hasTop), ?_⟩
  rw [eB]
  have Blen : (kR U (m : Nat) v).fibers.length = s.fibers.length := hNB.len.trans Ulen
  have h0r : (0 : Int) ∈ r := by
    have := zBe (hR.line ▸ h.ends)
    rw [hr] at this ⊢
    rw [List.getLast_cons (by simp)] at this
    rw [← this]
    exact List.getLast_mem _
  refine ⟨h.prog, by rw [Blen]; exact h.few, ?_, fun j hj => ?_, by rw [Blen]; exact h.pos, ?_, fun j hj => ?_, ?_, ?_, fun h0 => absurd h0r h0, fun j hj => ?_⟩
  · show U.out.length ≤ 30
    rw [hU]; exact ho
  · rw [Blen] at hj
    by_cases e : j = m
    · rw [e, hAB.frames]
      have := h.frames m hml
      rw [ey] at this
      simpa using this
    · rw [hNB.other j (by rw [Ulen]; exact hj) e, Uget j hj]
      by_cases e2 : k = j
      · rw [if_pos e2, ← e2]; exact hfr
      · rw [if_neg e2]; exact h.frames j hj
  · rw [Blen]
    show -1 ≤ U.now ∧ U.now ≤ _
    rw [Unow]
    omega
  · rw [Blen] at hj ⊢
    rw [Bc j hj]
    have := h.callers j hj
    have := h.pos
    split <;> omega
  · show Lk (kR U (m : Nat) v).fibers U.now r
    rw [Unow]
    have hrg := vJ (fun k hk => (h.callers k hk).2) hlk (by omega)
    refine zBq (fun z hz => ?_) hlk
    have := hrg z hz
    unfold kM
    rw [Bc _ (by omega), if_neg (fun e => hkr (by rw [e]; have e2 : ((z.toNat : Nat) : Int) = z := by omega
                                                  rw [e2]; exact hz))]
  · have := zBe (hR.line ▸ h.ends)
    unfold vR
    rw [hr] at this ⊢
    rw [List.getLast_cons (by simp), List.getLast_eq_getElem] at this
    rw [Bool.or_eq_true]
    refine .inr (decide_eq_true ?_)
    rw [← this]
    simp [List.getD]
  · rw [Blen] at hj
    show jK p _ _ (decide ((j : Int) = U.now)) = true
    rw [Unow]
    by_cases e : j = m
    · subst e
      rw [decide_eq_true hmr, decide_eq_true rfl]
      exact vW hAB.frames y1 z1 (zFt z2)
    · rw [hNB.other j (by rw [Ulen]; exact hj) e, Uget j hj, decide_eq_false (show ¬ (j : Int) = (m : Nat) by omega)]
      by_cases e2 : k = j
      · subst e2
        rw [if_pos rfl, decide_eq_false hkr]
        exact hf
      · rw [if_neg e2]
        have hb := h.fib j hj
        have e3 : decide ((j : Int) ∈ l) = decide ((j : Int) ∈ r) := by
          rw [hR.line, hR.at_.now]
          refine decide_eq_decide.2 ⟨fun hh => ?_, fun hh => by simp [hh]⟩
          rcases List.mem_cons.1 hh with hh | hh
          · omega
          · exact hh
        rw [e3, decide_eq_false (show ¬ (j : Int) = s.now by rw [hR.at_.now]; omega)] at hb
        exact hb
theorem waitsB {p:List GFunc} {f:GFiber} {fs:List GFrame} {x:GFrame} (e:f.frames=fs++[x]) (hc:f.caller = -1) (hl:OnL p fs x.func) (hx:qW p x=true) (hw:zBa p x 15 0=true) :
  jK p f false false=true:=vW e hl hx (by
 unfold topB;rw [if_neg (by decide),if_neg (by decide),hc,hw,decide_eq_true rfl,Bool.or_true]
 rfl)
theorem doneB {p:List GFunc} {f:GFiber} (e:f.frames=[]) (hc:f.caller = -1):jK p f false false=true:=by
 unfold jK;rw [if_pos (by rw [e];rfl),hc];rfl
theorem yield_right {p:List GFunc} {s t:GState} {l r:List Int} {k:Nat} {fs:List GFrame} {x:GFrame} {o:GOp} (h:Ok p s l) (hR:Runs p s l k fs x r) (hF:OpF p x o)
  (hN:Near s t k) (hA:At t k fs { x with at_:=x.at_+1 }) (hO:t.out=s.out) (e:o.kind=15):zV p t o.kind o.a∧Res p (zQ p t o.kind o.a):=by
 have hx:curX t={ x with at_:=x.at_+1 }:=hA.curX;have w:zQ p t o.kind o.a=yT t:=by rw [e];simp [zQ]
 have tk:zP p o=1:=by simp [zP,e]
 have lv:kA o=1:=by simp [kA,e]
 have ht:=hF.takes;rw [tk] at ht;have hlt:=hR.at_.lt;have hN1:Near s (popG t) k:=hN.top hlt _ hA.now;have hA1:At (popG t) k fs _:=hA.top _ hA.now;have hcu:(curF (popG t)).caller=(s.fibers.getD k default).caller:=by
  unfold curF;rw [hA1.now,Int.toNat_natCast,hN1.caller]
 have hs:1≤(curX t).stack.length:=by rw [hx];show 1≤x.stack.length;omega
 have key:0≤(s.fibers.getD k default).caller→zAp (popG t)∧Ok p (uH (popG t) (zR t)) r:=fun hc=>by
  have hw:=hF.wait (x':={ x with at_:=x.at_+1,stack:=x.stack.dropLast }) rfl rfl (by omega) (by omega) rfl (by
   rw [List.length_dropLast];unfold nOf;rw [tk,lv];omega) (b:=0) (fun h11=>by omega)
  rw [e] at hw;refine h.back hR hN1 (by show t.out.length≤30;rw [hO];exact h.out) hc (by rw [hA1.frames];have:=h.few5 hR;simp;omega) ?_ _;exact waitsB hA1.frames rfl hR.on hw.1 hw.2
 refine⟨?_,?_⟩
 ·rw [e];simp only [zV];refine⟨hs,?_⟩;by_cases hc:0≤(s.fibers.getD k default).caller
  ·exact(key hc).1
  ·exact .inl (by rw [hcu];omega)
 ·rw [w];unfold yT;rw [hcu];by_cases hc:0≤(s.fibers.getD k default).caller
  ·rw [if_neg (by omega)];exact .inl ⟨rfl,r,(key hc).2⟩
  ·rw [if_pos (by omega)];exact .inr (.inr (.inr (.inr rfl)))
theorem return_right {p:List GFunc} {s t:GState} {l r:List Int} {k:Nat} {fs:List GFrame} {x:GFrame} {o:GOp} (h:Ok p s l) (hR:Runs p s l k fs x r) (hF:OpF p x o)
  (hN:Near s t k) (hA:At t k fs { x with at_:=x.at_+1 }) (hO:t.out=s.out) (e:o.kind=12):zV p t o.kind o.a∧Res p (zQ p t o.kind o.a):=by
 have hx:curX t={ x with at_:=x.at_+1 }:=hA.curX;have w:zQ p t o.kind o.a=yX t:=by rw [e];simp [zQ]
 have hs1:=hF.ret e;have hlt:=hR.at_.lt;have hN1:Near s (popG t) k:=hN.top hlt _ hA.now;have hA1:At (popG t) k fs _:=hA.top _ hA.now;have hN2:Near s (kD (popG t)) k:=hN1.fib hlt rfl hA1.now;have hn2:(kD (popG t)).now=k:=hN2.now.trans hR.at_.now;have hfr:((kD (popG t)).fibers.getD k default).frames=fs:=by
  unfold kD;rw [yG _ _ _ _ hA1.lt,hA1.now,Int.toNat_natCast,if_pos rfl];show ((popG t).fibers.getD k default).frames.dropLast=fs;rw [hA1.frames,List.dropLast_concat]
 have hcF:curF (kD (popG t))=(kD (popG t)).fibers.getD k default:=by unfold curF;rw [hn2,Int.toNat_natCast]
 have hcu:(curF (kD (popG t))).caller=(s.fibers.getD k default).caller:=by rw [hcF,hN2.caller]
 have hff:(curF (kD (popG t))).frames=fs:=by rw [hcF,hfr]
 have hs:1≤(curX t).stack.length:=by rw [hx];show 1≤x.stack.length;omega
 have ho2:(kD (popG t)).out.length≤30:=by show t.out.length≤30;rw [hO];exact h.out
 have h5:=h.few5 hR;have hRt:yX t=if 0<(curF (kD (popG t))).frames.length then (0,kR (kD (popG t)) t.now (zR t))
  else if (curF (kD (popG t))).caller<0 then putG { kD (popG t) with now := -1 } (zR t) else (0,uH (kD (popG t)) (zR t)):=rfl
 have hfit:zV p t o.kind o.a=vC t:=by rw [e];simp [zV]
 rw [w,hfit,hRt];unfold vC;rw [hff];by_cases hpos:0<fs.length
 ·refine⟨⟨hs,.inl hpos⟩,?_⟩;rw [if_pos hpos];obtain⟨gs,y,rfl⟩:∃gs y,fs=gs++[y]:=⟨fs.dropLast,fs.getLast (by intro h;rw [h] at hpos;cases hpos),(List.dropLast_concat_getLast _).symm⟩
  obtain⟨y1,y2,y3⟩:=onL_init hR.on;obtain⟨z1,z2⟩:=wait_full y3 y2 (zR t);have hA2:At (kD (popG t)) k gs y:=⟨hn2,by rw [hN2.len];exact hlt,hfr⟩
  refine .inl ⟨rfl,l,h.near (hN2.top hlt _ hA.now) (hA2.top _ hA.now) hR.zero y1 z1 z2 (by simp at h5;omega) ho2⟩
 ·obtain rfl:fs=[]:=List.eq_nil_of_length_eq_zero (by omega);rw [if_neg hpos];by_cases hc:0≤(s.fibers.getD k default).caller
  ·have key:=h.back hR hN2 ho2 hc (by rw [hfr];simp) (doneB (f:={ ((kD (popG t)).fibers.getD k default) with caller := -1 }) hfr rfl) (zR t);refine⟨⟨hs,.inr key.1⟩,?_⟩;rw [hcu,if_neg (by omega)];exact .inl ⟨rfl,r,key.2⟩
  ·refine⟨⟨hs,.inr (.inl (by rw [hcu];omega))⟩,?_⟩;rw [hcu,if_pos (by omega)];unfold putG;by_cases h30:({ kD (popG t) with now := -1 }:GState).out.length=30
   ·rw [if_pos h30];exact .inr (.inl rfl)
   ·rw [if_neg h30];have hlk:=hR.lk;obtain rfl:r=[]:=by
     cases r with
     | nil=>rfl
     | cons a r'=>exact absurd hlk.2.1 (by omega)
    have hz:=hR.zero;rw [hR.line,hR.at_.now] at hz;have hk0:k=0:=by
     rcases List.mem_cons.1 hz with hz | hz
     ·omega
     ·cases hz
    subst hk0;have hcl:=h.callers 0 hlt;have hfib:∀j,j<s.fibers.length→jK p ((kD (popG t)).fibers.getD j default) false false=true:=fun j hj=>by
     by_cases ej:j=0
     ·subst ej;exact doneB hfr (by rw [hN2.caller];omega)
     ·rw [hN2.other j hj ej];have hb:=h.fib j hj;rw [hR.line,hR.at_.now,decide_eq_false (show ¬(j:Int)∈[((0:Nat):Int)] by simp;omega),decide_eq_false (show ¬(j:Int)=((0:Nat):Int) by omega)] at hb;exact hb
    refine .inl ⟨rfl,[],h.prog,by show (kD (popG t)).fibers.length≤5;rw [hN2.len];exact h.few,?_,fun j hj=>?_,by show 0<(kD (popG t)).fibers.length;rw [hN2.len];exact h.pos,?_,fun j hj=>?_,?_,by decide,fun _=>?_,fun j hj=>?_⟩
    ·show ((kD (popG t)).out++[zR t]).length≤30;rw [List.length_append,List.length_singleton];have:(kD (popG t)).out.length≠30:=h30;omega
    ·have hj:j<(kD (popG t)).fibers.length:=hj;rw [hN2.len] at hj;show ((kD (popG t)).fibers.getD j default).frames.length≤6;by_cases ej:j=0
     ·subst ej;rw [hfr];simp
     ·rw [hN2.other j hj ej];exact h.frames j hj
    ·show (-1:Int) ≤ -1∧(-1:Int)≤((kD (popG t)).fibers.length:Int) - 1;omega
    ·have hj:j<(kD (popG t)).fibers.length:=hj;show -1≤((kD (popG t)).fibers.getD j default).caller∧((kD (popG t)).fibers.getD j default).caller≤((kD (popG t)).fibers.length:Int) - 1;rw [hN2.len] at hj ⊢;by_cases ej:j=0
     ·subst ej;rw [hN2.caller];exact hcl
     ·rw [hN2.other j hj ej];exact h.callers j hj
    ·show (-1:Int)<0;decide
    ·show ((kD (popG t)).fibers.getD 0 default).frames.length=0;rw [hfr];rfl
    ·have hj:j<(kD (popG t)).fibers.length:=hj;rw [hN2.len] at hj;show jK p ((kD (popG t)).fibers.getD j default) (decide ((j:Int)∈([]:List Int))) (decide ((j:Int) = -1))=true;rw [decide_eq_false (by simp),decide_eq_false (show ¬(j:Int) = -1 by omega)];exact hfib j hj
theorem put_right {p:List GFunc} {s t:GState} {l r:List Int} {k:Nat} {fs:List GFrame} {x:GFrame} {o:GOp} (h:Ok p s l) (hR:Runs p s l k fs x r) (hF:OpF p x o)
  (hN:Near s t k) (hA:At t k fs { x with at_:=x.at_+1 }) (hO:t.out=s.out) (e:o.kind=16):zV p t o.kind o.a∧Res p (zQ p t o.kind o.a):=by
 have hx:curX t={ x with at_:=x.at_+1 }:=hA.curX;have w:zQ p t o.kind o.a=putG (popG t) (zR t):=by rw [e];simp [zQ]
 have tk:zP p o=1:=by simp [zP,e]
 have ht:=hF.takes;rw [tk] at ht;have hlt:=hR.at_.lt;have hat:=hF.at_;refine⟨by rw [e];simp [zV,hx];omega,?_⟩;rw [w];unfold putG;by_cases h30:(popG t).out.length=30
 ·rw [if_pos h30];exact .inr (.inl rfl)
 ·rw [if_neg h30];have hN1:Near s (popG t) k:=hN.top hlt _ hA.now;have hA1:At (popG t) k fs _:=hA.top _ hA.now;have ho:(popG t).out.length≤30:=by show t.out.length≤30;rw [hO];exact h.out
  refine stay h hR hF (s':={ popG t with out:=(popG t).out++[zR t] }) ⟨hN1.now,hN1.len,hN1.other,hN1.caller⟩ ⟨hA1.now,hA1.lt,hA1.frames⟩ rfl rfl (zBd (by omega) (by omega)) (show x.at_+1=((x.at_.toNat+1:Nat):Int) by omega) ?_ ?_
  ·simp [nOf,tk,kA,e];omega
  ·show ((popG t).out++[zR t]).length≤30;rw [List.length_append,List.length_singleton];omega
theorem Ok.add {p:List GFunc} {s:GState} {l:List Int} (h:Ok p s l) (h5:s.fibers.length≤4) {f:GFiber} (hf:jK p f false false=true) (hm:f.frames.length≤6) (hc:f.caller = -1) :
  Ok p { s with fibers:=s.fibers++[f] } l:=by
 have hr:=vJ (fun k hk=>(h.callers k hk).2) h.lk h.now.2;have hfr:∀j,j<s.fibers.length→(s.fibers++[f]).getD j default=s.fibers.getD j default:=fun j hj=>zAg hj
 have hen:(s.fibers++[f]).getD s.fibers.length default=f:=yV;have hlen:(s.fibers++[f]).length=s.fibers.length+1:=by simp
 have hn:=h.now;refine⟨h.prog,by show (s.fibers++[f]).length≤5;omega,h.out,fun j hj=>?_,by show 0<(s.fibers++[f]).length;omega,?_,fun j hj=>?_,?_,h.ends,fun h0=>?_,fun j hj=>?_⟩
 ·have hj:j<(s.fibers++[f]).length:=hj;show ((s.fibers++[f]).getD j default).frames.length≤6;by_cases e:j<s.fibers.length
  ·rw [hfr j e];exact h.frames j e
  ·obtain rfl:j=s.fibers.length:=by omega
   rw [hen];exact hm
 ·show -1≤s.now∧s.now≤((s.fibers++[f]).length:Int) - 1;rw [hlen];omega
 ·have hj:j<(s.fibers++[f]).length:=hj;show -1≤((s.fibers++[f]).getD j default).caller∧((s.fibers++[f]).getD j default).caller≤((s.fibers++[f]).length:Int) - 1;rw [hlen] at hj ⊢;by_cases e:j<s.fibers.length
  ·rw [hfr j e];have:=h.callers j e;omega
  ·obtain rfl:j=s.fibers.length:=by omega
   rw [hen,hc];omega
 ·show Lk (s.fibers++[f]) s.now l;refine zBq (fun z hz=>?_) h.lk;have:=hr z hz;unfold kM;rw [hfr _ (by omega)]
 ·show ((s.fibers++[f]).getD 0 default).frames.length=0;rw [hfr 0 h.pos];exact h.zero h0
 ·have hj:j<(s.fibers++[f]).length:=hj;rw [hlen] at hj;show jK p ((s.fibers++[f]).getD j default) (decide ((j:Int)∈l)) (decide ((j:Int)=s.now))=true;by_cases e:j<s.fibers.length
  ·rw [hfr j e];exact h.fib j e
  ·obtain rfl:j=s.fibers.length:=by omega
   rw [hen,decide_eq_false (show ¬((s.fibers.length:Nat):Int)∈l from fun hh=>by have:=hr _ hh;omega),decide_eq_false (show ¬((s.fibers.length:Nat):Int)=s.now by omega)];exact hf
theorem fresh_fine {p:List GFunc} (hP:RightP p) {a:Int} (h0:0≤a) (h1:a<p.length) (hl:0≤(zI p a).locals) (ha:(zI p a).args=1):jK p ⟨[kY p a],-1⟩ false false=true:=by
 have hloc:((List.replicate (zI p a).locals.toNat (0:Int)).length:Int)=(zI p a).locals:=by rw [List.length_replicate];omega
 obtain⟨n1,n2⟩:=new_full hP h0 h1 hloc;refine vW (fs:=[]) (x:=kY p a) rfl (fun j hj=>absurd hj (by simp)) n1 ?_;unfold topB;rw [if_neg (by decide),if_neg (by decide)];have hf:qV p ⟨[kY p a],-1⟩=true:=by
  unfold qV;simp only [Bool.and_eq_true,decide_eq_true_eq];refine⟨⟨⟨⟨rfl,rfl⟩,ha⟩,rfl⟩,zGb fun k _=>decide_eq_true ?_⟩;show (List.replicate (zI p a).locals.toNat (0:Int)).getD k 0=0;simp only [List.getD,List.getElem?_replicate]
  split<;>rfl
 rw [hf,Bool.true_or];rfl
theorem make_right {p:List GFunc} {s t:GState} {l r:List Int} {k:Nat} {fs:List GFrame} {x:GFrame} {o:GOp} (h:Ok p s l) (hR:Runs p s l k fs x r) (hF:OpF p x o)
  (hN:Near s t k) (hA:At t k fs { x with at_:=x.at_+1 }) (hO:t.out=s.out) (e:o.kind=13):zV p t o.kind o.a∧Res p (zQ p t o.kind o.a):=by
 have w:zQ p t o.kind o.a=zEo p t o.a:=by rw [e];simp [zQ]
 have tk:zP p o=0:=by simp [zP,e]
 have lv:kA o=1:=by simp [kA,e]
 have ha0:=hF.a.1;have ham:o.a≤(p.length:Int) - 1:=by simpa [qJ,e] using hF.a.2
 obtain⟨c0,c1,c2⟩:=hF.callee (.inr e);have hone:=hF.one e;have hlt:=hR.at_.lt;have hat:=hF.at_;refine⟨by rw [e];simp [zV];exact⟨ha0,by omega,by omega,by omega⟩,?_⟩;rw [w];unfold zEo;by_cases h5:t.fibers.length=5
 ·rw [if_pos h5];exact .inr (.inl rfl)
 ·rw [if_neg h5];have hN1:Near s (kR t t.now t.fibers.length) k:=hN.top hlt _ hA.now;have hA1:At (kR t t.now t.fibers.length) k fs _:=hA.top _ hA.now;obtain⟨f1,f2⟩:=hF.full (x':={ x with at_:=x.at_+1,stack:=x.stack++[(t.fibers.length:Int)] }) rfl rfl (zBd (by omega) (by omega)) (show x.at_+1=((x.at_.toNat+1:Nat):Int) by omega) (by simp [nOf,tk,lv]);have hOk:Ok p (kR t t.now t.fibers.length) l:=h.near hN1 hA1 hR.zero hR.on f1 f2 (h.few5 hR) (by show t.out.length≤30;rw [hO];exact h.out);have hf:=h.few;have hl:=hN.len;exact .inl ⟨rfl,l,hOk.add (by rw [hN1.len];omega) (fresh_fine (kH h.prog) ha0 (by omega) (by omega) hone) (by simp) rfl⟩
theorem zHi {p:List GFunc} {x:GFrame} {k a:Int} (h:zBa p x k a=true):x.at_≠0:=by
 unfold zBa at h;simp only [Bool.and_eq_true,Bool.not_eq_true',decide_eq_false_iff_not] at h;exact h.1.1
theorem zEa {p:List GFunc} {f:GFiber} {fs:List GFrame} {x:GFrame} (h:qV p f=true) (e:f.frames=fs++[x]):x.at_=0∧(zI p x.func).args=1∧x.stack.length=0:=by
 unfold qV at h;simp only [Bool.and_eq_true,decide_eq_true_eq] at h;obtain⟨⟨⟨⟨h1,h2⟩,h3⟩,h4⟩,_⟩:=h;rw [e] at h1 h2 h3 h4;have:fs=[]:=by simpa using h1
 subst this;exact⟨h2,h3,h4⟩
theorem resume_right {p:List GFunc} {s t:GState} {l r:List Int} {k:Nat} {fs:List GFrame} {x:GFrame} {o:GOp} (h:Ok p s l) (hR:Runs p s l k fs x r) (hF:OpF p x o)
  (hN:Near s t k) (hA:At t k fs { x with at_:=x.at_+1 }) (hO:t.out=s.out) (e:o.kind=14):zV p t o.kind o.a∧Res p (zQ p t o.kind o.a):=by
 have hP:=kH h.prog;have hx:curX t={ x with at_:=x.at_+1 }:=hA.curX;have w:zQ p t o.kind o.a=yE t:=by rw [e];simp [zQ]
 have tk:zP p o=2:=by simp [zP,e]
 have lv:kA o=1:=by simp [kA,e]
 have ht:=hF.takes;rw [tk] at ht;have hlt:=hR.at_.lt;have hat:=hF.at_;have hN1:Near s (popG t) k:=hN.top hlt _ hA.now;have hA1:At (popG t) k fs _:=hA.top _ hA.now;have hN2:Near s (popG (popG t)) k:=hN1.top hlt _ hA1.now;have hA2:At (popG (popG t)) k fs { x with at_:=x.at_+1,stack:=x.stack.dropLast.dropLast }:=hA1.top _ hA1.now;have hO2:(popG (popG t)).out=s.out:=hO;obtain⟨u,hu⟩:∃u,popG (popG t)=u:=⟨_,rfl⟩
 rw [hu] at hN2 hA2 hO2;obtain⟨n,hn⟩:∃n,zR (popG t)=n:=⟨_,rfl⟩
 obtain⟨v,hv⟩:∃v,zR t=v:=⟨_,rfl⟩
 have hs2:2≤(curX t).stack.length:=by rw [hx];show 2≤x.stack.length;omega
 have hw:=hF.wait (x':={ x with at_:=x.at_+1,stack:=x.stack.dropLast.dropLast }) rfl rfl (by omega) (by omega) rfl (by
  rw [List.length_dropLast,List.length_dropLast];unfold nOf;rw [tk,lv];omega) (b:=0) (fun h11=>by omega)
 rw [e] at hw;have hcu:∀j,j<s.fibers.length→(u.fibers.getD j default).caller=(s.fibers.getD j default).caller:=fun j hj=>by
  by_cases ej:j=k
  ·rw [ej];exact hN2.caller
  ·rw [hN2.other j hj ej]
 have hrg:=vJ (fun k hk=>(h.callers k hk).2) h.lk h.now.2;have hlk:Lk u.fibers s.now l:=zBq (fun z hz=>by
  have:=hrg z hz;unfold kM;rw [hcu _ (by omega)]) h.lk
 have hll:qH u=l:=by
  have hl:l.length≤u.fibers.length:=by rw [hN2.len];exact uC _ _ (zBp h.lk) hrg
  unfold qH;rw [lineS_of (by rw [hN2.now];exact hlk) hl];rfl
 have hkl:(k:Int)∈l:=by rw [hR.line,hR.at_.now];simp
 have top:∀m,m<s.fibers.length→0<(u.fibers.getD m default).frames.length→∃gs y,(u.fibers.getD m default).frames=gs++[y]∧OnL p gs y.func∧qW p y=true ∧
   ((y.at_=0→(zI p y.func).args=1)∧((m:Int) ∉ l→qW p y=true∧(y.at_=0→y.stack.length=0)∧(y.at_≠0→zBa p y 15 0=true))):=fun m hm hpos=>by
  by_cases em:m=k
  ·subst em;exact⟨fs,_,hA2.frames,hR.on,hw.1,fun h0=>absurd h0 (by show x.at_+1≠0;omega),fun hno=>absurd hkl hno⟩
  ·rw [hN2.other m hm em] at hpos ⊢;have hb:=h.fib m hm;rw [decide_eq_false (show ¬(m:Int)=s.now by rw [hR.at_.now];omega)] at hb;obtain⟨gs,y,ey,y1,y2,y3⟩:=zCk hb (fun e0=>by rw [e0] at hpos;exact absurd hpos (by simp));refine⟨gs,y,ey,y1,y2,?_⟩;unfold topB at y3;rw [if_neg (by decide)] at y3;by_cases hon:(m:Int)∈l
   ·rw [decide_eq_true hon,if_pos rfl] at y3;exact⟨fun h0=>absurd h0 (zHi y3),fun hno=>absurd hon hno⟩
   ·rw [decide_eq_false hon,if_neg (by decide),Bool.and_eq_true,Bool.or_eq_true] at y3;rcases y3.2 with y4 | y4
    ·obtain⟨g1,g2,g3⟩:=zEa y4 ey;exact⟨fun _=>g2,fun _=>⟨y2,fun _=>g3,fun hne=>absurd g1 hne⟩⟩
    ·exact⟨fun h0=>absurd h0 (zHi y4),fun _=>⟨y2,fun h0=>absurd h0 (zHi y4),fun _=>y4⟩⟩
 have topEq:∀{f:GFiber} {gs:List GFrame} {y:GFrame},f.frames=gs++[y]→vF f=y:=fun {f gs y} ef=>by
  unfold vF;rw [ef,List.length_append,List.length_singleton,Nat.add_sub_cancel];exact yV
 refine⟨?_,?_⟩
 ·rw [e];simp only [zV];show vD t;unfold vD;rw [hu,hn];refine⟨hs2,⟨by rw [hN2.now,hN2.len];exact h.now,fun f hf=>?_⟩,fun ⟨n0,n1,n2⟩ h0=>?_⟩
  ·obtain⟨i,hi,rfl⟩:=List.getElem_of_mem hf;have hi':i<s.fibers.length:=by rw [←hN2.len];exact hi
   have:=h.callers i hi';rw [←hcu i hi'] at this;rw [hN2.len];simpa [List.getD,List.getElem?_eq_getElem hi] using this
  ·have hm:n.toNat<s.fibers.length:=by rw [hN2.len] at n1;omega
   obtain⟨gs,y,ey,_,y2,y3,_⟩:=top n.toNat hm n2;rw [topEq ey] at h0 ⊢;obtain⟨f1,f2,_,_⟩:=uQ y2;have hl:=(zCv hP f1.1 f1.2).1.locals;have:=y3 h0;omega
 ·rw [w];unfold yE;rw [hu,hn,hv,hN.len];by_cases hr:0≤n∧n<s.fibers.length
  ·rw [if_neg (fun hh=>hh hr)];by_cases hbz:n∈qH u∨(u.fibers.getD n.toNat default).frames.length=0
   ·rw [if_pos hbz];exact .inr (.inr (.inr (.inl rfl)))
   ·rw [if_neg hbz];obtain⟨m,rfl⟩:=Int.eq_ofNat_of_zero_le hr.1;have hml:m<s.fibers.length:=by have:=hr.2;simp at this;omega
    rw [hll] at hbz;have hnl:(m:Int) ∉ l:=fun hh=>hbz (.inl hh)
    have hmk:m≠k:=fun em=>hnl (by rw [em];exact hkl)
    have hpos:0<(u.fibers.getD m default).frames.length:=by
     rcases Nat.eq_zero_or_pos (u.fibers.getD m default).frames.length with h0 | h0
     ·exact absurd (.inr (by simpa using h0)) hbz
     ·exact h0
    obtain⟨gs,y,ey,y1,y2,_,y4⟩:=top m hml hpos;obtain⟨_,y5,y6⟩:=y4 hnl;obtain⟨U,hU⟩:∃U,U={ kN u (m:Nat) (fun f=>{ f with caller:=u.now }) with now:=(m:Nat) }:=⟨_,rfl⟩
    have Ulen:U.fibers.length=s.fibers.length:=by rw [hU];exact(qK _ _ _).trans hN2.len
    have Uget:∀j,j<s.fibers.length→U.fibers.getD j default=if m=j then { (u.fibers.getD j default) with caller:=u.now } else u.fibers.getD j default:=fun j hj=>by
     rw [hU];show (kN u (m:Nat) _).fibers.getD j default=_;rw [yG _ _ _ _ (by rw [hN2.len];exact hj),Int.toNat_natCast]
    have Unow:U.now=m:=by rw [hU]
    have Uout:U.out=s.out:=by rw [hU];exact hO2
    have hAU:At U m gs y:=⟨Unow,by rw [Ulen];exact hml,by rw [Uget m hml,if_pos rfl];exact ey⟩
    obtain⟨V,y',hV,hNV,hAV,hVo,z0,z1,z2⟩:∃V y',zHh u (m:Nat) v=V∧Near U V m∧At V m gs y'∧V.out=U.out∧y'.func=y.func∧qW p y'=true∧zBs p y'=true:=by
     unfold zHh;rw [Int.toNat_natCast,topEq ey,←hU];by_cases h0:y.at_=0
     ·rw [if_pos h0];refine⟨_,_,rfl,(Near.refl U m).top hAU.lt _ rfl,hAU.top _ rfl,rfl,rfl,?_,?_⟩
      ·unfold qW at y2 ⊢;show (decide (0≤y.func∧y.func<(p.length:Int)) && decide (((y.locals.set 0 v).length:Int)=(zI p y.func).locals) && decide (0≤y.at_∧y.at_<((zI p y.func).code.length:Int)) && decide (0≤(hgt p y.func).getD y.at_.toNat 0))=true;rw [List.length_set];exact y2
      ·unfold zBs;refine decide_eq_true ?_;show (y.stack.length:Int)=(hgt p y.func).getD y.at_.toNat 0;obtain⟨f1,_,_,_⟩:=uQ y2;rw [y5 h0,h0];exact((zCv hP f1.1 f1.2).2.zero).symm
     ·rw [if_neg h0];obtain⟨z1,z2⟩:=wait_full (y6 h0) y2 v;exact⟨_,_,rfl,(Near.refl U m).top hAU.lt _ rfl,hAU.top _ rfl,rfl,rfl,z1,z2⟩
    rw [hV];have Vlen:V.fibers.length=s.fibers.length:=hNV.len.trans Ulen;have Vget:∀j,j<s.fibers.length→j≠m→V.fibers.getD j default=u.fibers.getD j default:=fun j hj hne=>by
     rw [hNV.other j (by rw [Ulen];exact hj) hne,Uget j hj,if_neg (fun em=>hne em.symm)]
    have Vcm:(V.fibers.getD m default).caller=s.now:=by
     rw [hNV.caller,Uget m hml,if_pos rfl];exact hN2.now
    have hlast:=zBe (hR.line ▸ h.ends);refine .inl ⟨rfl,(m:Nat)::l,h.prog,by rw [Vlen];exact h.few,by rw [hVo,Uout];exact h.out,fun j hj=>?_,by rw [Vlen];exact h.pos,by rw [hAV.now,Vlen];omega,fun j hj=>?_,?_,?_,fun h0=>absurd (List.mem_cons_of_mem _ hR.zero) h0,fun j hj=>?_⟩
    ·rw [Vlen] at hj;by_cases ej:j=m
     ·rw [ej,hAV.frames];have:=h.frames m hml;rw [←hN2.other m hml hmk,ey] at this;simpa using this
     ·rw [Vget j hj ej];by_cases ek:j=k
      ·rw [ek,hA2.frames];have:=h.few5 hR;simp;omega
      ·rw [hN2.other j hj ek];exact h.frames j hj
    ·rw [Vlen] at hj ⊢;by_cases ej:j=m
     ·rw [ej,Vcm];exact h.now
     ·rw [Vget j hj ej,hcu j hj];exact h.callers j hj
    ·rw [hAV.now];refine⟨rfl,by omega,hnl,?_⟩;have ec:kM V.fibers (m:Nat)=s.now:=by unfold kM;rw [Int.toNat_natCast];exact Vcm
     rw [ec];refine zBq (fun z hz=>?_) h.lk;have:=hrg z hz;unfold kM;rw [Vget _ (by omega) (fun em=>hnl (by
      have e2:((z.toNat:Nat):Int)=z:=by omega
      rw [←em,e2];exact hz)),hcu _ (by omega)]
    ·unfold vR;rw [Bool.or_eq_true];refine .inr (decide_eq_true ?_);rw [List.getLast_eq_getElem] at hlast;rw [hR.line];rw [←hlast];simp [List.getD]
    ·rw [Vlen] at hj;rw [hAV.now];by_cases ej:j=m
     ·subst ej;rw [decide_eq_true rfl];exact vW hAV.frames (by rw [z0];exact y1) z1 (zFt z2)
     ·rw [Vget j hj ej,decide_eq_false (show ¬(j:Int)=(m:Nat) by omega)];have em:decide ((j:Int)∈(m:Int)::l)=decide ((j:Int)∈l):=by
       refine decide_eq_decide.2 ⟨fun hh=>?_,fun hh=>List.mem_cons_of_mem _ hh⟩;rcases List.mem_cons.1 hh with hh | hh
       ·omega
       ·exact hh
      rw [em];by_cases ek:j=k
      ·subst ek;refine vW hA2.frames hR.on hw.1 ?_;unfold topB;rw [if_neg (by decide),decide_eq_true hkl,if_pos rfl];exact hw.2
      ·have hb:=h.fib j hj;rw [hN2.other j hj ek];rw [decide_eq_false (show ¬(j:Int)=s.now by rw [hR.at_.now];omega)] at hb;exact hb
  ·rw [if_pos hr];exact .inr (.inr (.inl rfl))
theorem zBl {p:List GFunc} {s:GState} {l:List Int} (h:Ok p s l) (h0:0≤s.now):zEr p s∧Res p (kF p s):=by
 obtain⟨k,fs,x,r,hR⟩:=h.runs h0;have hA:=hR.at_;have hF:=opF_of (kH h.prog) hR.frame hR.full;have hx:curX s=x:=hA.curX;have hA1:At (advG s) k fs { x with at_:=x.at_+1 }:=hA.top _ hA.now;have hN1:Near s (advG s) k:=(Near.refl s k).top hA.lt _ hA.now;have hO1:(advG s).out=s.out:=rfl;have key:zV p (advG s) (opAt p x).kind (opAt p x).a∧Res p (zQ p (advG s) (opAt p x).kind (opAt p x).a):=by
  generalize opAt p x=o at *;have hk:=hF.kind;have hh:o.kind≤10∨o.kind=11∨o.kind=12∨o.kind=13∨o.kind=14∨o.kind=15∨o.kind=16:=by omega
  rcases hh with e | e | e | e | e | e | e
  ·exact stays_right h hR hF hN1 hA1 hO1 e
  ·exact call_right h hR hF hN1 hA1 hO1 e
  ·exact return_right h hR hF hN1 hA1 hO1 e
  ·exact make_right h hR hF hN1 hA1 hO1 e
  ·exact resume_right h hR hF hN1 hA1 hO1 e
  ·exact yield_right h hR hF hN1 hA1 hO1 e
  ·exact put_right h hR hF hN1 hA1 hO1 e
 unfold zEr kF NowTop;rw [hx];exact⟨⟨⟨hA.hasTop,hF.fn.1,hF.fn.2,hF.at_.1,hF.at_.2⟩,key.1⟩,key.2⟩
theorem Ok.fewS {p:List GFunc} {s:GState} {l:List Int} (h:Ok p s l):FewS s:=by
 have hf:=h.few;have ho:=h.out;refine⟨by omega,by omega,fun f hfm=>?_⟩;obtain⟨k,hk,rfl⟩:=List.getElem_of_mem hfm;have ek:s.fibers.getD k default=s.fibers[k]:=by simp [List.getD,List.getElem?_eq_getElem hk]
 have h6:=h.frames k hk;rw [ek] at h6;refine⟨by omega,fun x hx=>?_⟩;obtain⟨j,hj,rfl⟩:=List.getElem_of_mem hx;have hF:=h.right.frameF hk (j:=j) (by rw [ek];exact hj);rw [ek] at hF;have ej:s.fibers[k].frames.getD j default=s.fibers[k].frames[j]:=by simp [List.getD,List.getElem?_eq_getElem hj]
 rw [ej] at hF;have hl:=(zCv (kH h.prog) hF.func.1 hF.func.2).1.locals;have h1:=hF.locals;have h2:=hF.stack;omega
theorem run_fit {p:List GFunc}:∀(n:Nat) {s:GState} {l:List Int},Ok p s l→zFr p n s
 | 0,_,_,h=>h.fewS
 | n+1,s,l,h=>by
  refine⟨h.fewS,?_⟩;by_cases h0:s.now<0
  ·exact .inl h0
  ·obtain⟨h1,h2⟩:=zBl h (by omega);refine .inr ⟨h1,?_⟩;rcases h2 with ⟨_,l',h3⟩ | h2
   ·exact .inr (run_fit n h3)
   ·exact .inl (by omega)
end Go.Proofs.YtpcjkfppacnkgaaGreatDoor
