/- Merged texts: contracts and plain facts, one part behind another; each part begins with what it says. -/
import Derived.Test.YtgahbngbpfilgaaGreatGEAK
import Derived.Test.YtgahbngbpfilgaaGreatGEAL
section
set_option maxHeartbeats 1000000
namespace Go.Proofs.YtgahbngbpfilgaaGreat
open Go Go.RowKit
structure Near (s0 s : GState) (k : Nat) : Prop where
 now : s.now = s0.now
 len : s.fibers.length = s0.fibers.length
 other : ∀ j, j < s0.fibers.length → j ≠ k → s.fibers.getD j default = s0.fibers.getD j default
 caller : (s.fibers.getD k default).caller = (s0.fibers.getD k default).caller
theorem Near.refl (s : GState) (k : Nat) : Near s s k := ⟨rfl, rfl, fun _ _ _ => rfl, rfl⟩
structure At (s : GState) (k : Nat) (fs : List GFrame) (x : GFrame) : Prop where
 now : s.now = k
 lt : k < s.fibers.length
 frames : (s.fibers.getD k default).frames = fs ++ [x]
theorem Near.fib {s0 s : GState} {k : Nat} (h : Near s0 s k) (hk : k < s0.fibers.length) {g : GFiber → GFiber} (hg : (g (s.fibers.getD k default)).caller = (s.fibers.getD k default).caller) {n : Int} (hn : n = k) : Near s0 (modFib s n g) k := by
 subst hn
 refine ⟨h.now, (modFib_len _ _ _).trans h.len, fun j hj hne => ?_, ?_⟩
 ·rw [modFib_get _ _ _ _ (by rw [h.len]; exact hj), Int.toNat_natCast, if_neg (fun e => hne e.symm)]
  exact h.other j hj hne
 ·rw [modFib_get _ _ _ _ (by rw [h.len]; exact hk), Int.toNat_natCast, if_pos rfl, hg]
  exact h.caller
theorem At.fib {s : GState} {k : Nat} {fs fs' : List GFrame} {x x' : GFrame} (h : At s k fs x) {g : GFiber → GFiber} (hg : ∀ f, f.frames = fs ++ [x] → (g f).frames = fs' ++ [x']) {n : Int} (hn : n = k) : At (modFib s n g) k fs' x' := by
 subst hn
 refine ⟨h.now, by rw [modFib_len]; exact h.lt, ?_⟩
 rw [modFib_get _ _ _ _ h.lt, Int.toNat_natCast, if_pos rfl]
 exact hg _ h.frames
theorem Near.top {s0 s : GState} {k : Nat} (h : Near s0 s k) (hk : k < s0.fibers.length) (g : GFrame → GFrame) {n : Int} (hn : n = k) : Near s0 (modTop s n g) k := h.fib hk rfl hn
theorem At.top {s : GState} {k : Nat} {fs : List GFrame} {x : GFrame} (h : At s k fs x) (g : GFrame → GFrame) {n : Int} (hn : n = k) : At (modTop s n g) k fs (g x) :=
 h.fib (fun f hf => by
  show f.frames.modify (f.frames.length - 1) g = _
  rw [hf]
  exact modify_last fs x g _ rfl) hn
theorem At.curF {s : GState} {k : Nat} {fs : List GFrame} {x : GFrame} (h : At s k fs x) : (curF s).frames = fs ++ [x] := by
 unfold Proofs.YtgahbngbpfilgaaGreat.curF
 rw [h.now, Int.toNat_natCast]
 exact h.frames
theorem At.curX {s : GState} {k : Nat} {fs : List GFrame} {x : GFrame} (h : At s k fs x) : curX s = x := by
 unfold Proofs.YtgahbngbpfilgaaGreat.curX topOf
 rw [h.curF, List.length_append, List.length_singleton, Nat.add_sub_cancel]
 exact getD_end
theorem At.hasTop {s : GState} {k : Nat} {fs : List GFrame} {x : GFrame} (h : At s k fs x) : HasTop s s.now := by
 have := h.lt
 refine ⟨by rw [h.now]; omega, by rw [h.now]; omega, ?_⟩
 rw [h.now, Int.toNat_natCast, h.frames]
 simp
theorem At.last {s : GState} {k : Nat} {fs : List GFrame} {x : GFrame} (h : At s k fs x) : lastV s = x.stack.getD (x.stack.length - 1) 0 := by
 unfold lastV
 rw [h.curX]
structure Runs (p : List GFunc) (s : GState) (l : List Int) (k : Nat) (fs : List GFrame) (x : GFrame) (r : List Int) : Prop where
 at_ : At s k fs x
 line : l = s.now :: r
 lk : Lk s.fibers (s.fibers.getD k default).caller r
 notin : s.now ∉ r
 zero : (0 : Int) ∈ l
 on : OnL p fs x.func
 frame : frameB p x = true
 full : fullB p x = true
theorem lineEnd_cons {a : Int} {r : List Int} (h : lineEnd (a :: r) = true) : (a :: r).getLast (by simp) = 0 := by
 unfold lineEnd at h
 rw [Bool.or_eq_true] at h
 rcases h with h | h
 ·have := of_decide_eq_true h
  simp at this
 ·have := of_decide_eq_true h
  rw [List.getLast_eq_getElem]
  simpa [List.getD, List.getElem?_eq_getElem] using this
theorem Ok.runs {p : List GFunc} {s : GState} {l : List Int} (h : Ok p s l) (h0 : 0 ≤ s.now) : ∃ k fs x r, Runs p s l k fs x r := by
 have hlk := h.lk
 cases l with
 | nil => exact absurd hlk (by show ¬ s.now < 0; omega)
 | cons a r =>
  obtain ⟨ha, _, hn, hr⟩ := hlk
  subst ha
  obtain ⟨k, hk⟩ := Int.eq_ofNat_of_zero_le h0
  have hk : s.now = (k : Nat) := hk
  have hlt : k < s.fibers.length := by have := h.now; omega
  have hz : (0 : Int) ∈ s.now :: r := by
   have := lineEnd_cons h.ends
   rw [← this]
   exact List.getLast_mem _
  have hf := h.fib k hlt
  rw [decide_eq_true hk.symm, decide_eq_true (show (k : Int) ∈ s.now :: r by rw [← hk]; simp)] at hf
  have hne : (s.fibers.getD k default).frames ≠ [] := by
   intro e
   unfold fiberB at hf
   rw [if_pos (by rw [e]; rfl)] at hf
   cases hf
  obtain ⟨fs, x, e, h1, h2, h3⟩ := fiber_split hf hne
  unfold callerOf at hr
  rw [hk, Int.toNat_natCast] at hr
  refine ⟨k, fs, x, r, ⟨⟨hk, hlt, e⟩, rfl, hr, hn, hz, h1, h2, ?_⟩⟩
  unfold topB at h3
  rw [if_pos rfl] at h3
  exact h3
theorem topB_runs {p : List GFunc} {f : GFiber} {on : Bool} {x : GFrame} (h : fullB p x = true) : topB p f on true x = true := by unfold topB; rw [if_pos rfl]; exact h
theorem Ok.near {p : List GFunc} {s0 s : GState} {l : List Int} {k : Nat} {fs : List GFrame} {x : GFrame} (h : Ok p s0 l) (hn : Near s0 s k) (ha : At s k fs x)
  (hz : (0 : Int) ∈ l) (hl : OnL p fs x.func) (hx : frameB p x = true) (hf : fullB p x = true) (hm : fs.length ≤ 5) (ho : s.out.length ≤ 30) : Ok p s l := by
 have hc : ∀ j, j < s0.fibers.length → (s.fibers.getD j default).caller = (s0.fibers.getD j default).caller := fun j hj => by
  by_cases e : j = k
  ·rw [e]; exact hn.caller
  ·rw [hn.other j hj e]
 refine ⟨h.prog, by rw [hn.len]; exact h.few, ho, fun j hj => ?_, by rw [hn.len]; exact h.pos, by rw [hn.now, hn.len]; exact h.now, fun j hj => ?_, ?_, h.ends, fun h0 => absurd hz h0, fun j hj => ?_⟩
 ·rw [hn.len] at hj
  by_cases e : j = k
  ·rw [e, ha.frames]; simp; omega
  ·rw [hn.other j hj e]; exact h.frames j hj
 ·rw [hn.len] at hj ⊢
  rw [hc j hj]
  exact h.callers j hj
 ·rw [hn.now]
  have hr := lk_range (fun k hk => (h.callers k hk).2) h.lk h.now.2
  refine lk_congr (fun y hy => ?_) h.lk
  unfold callerOf
  rw [hc _ (by have := hr y hy; omega)]
 ·rw [hn.len] at hj
  by_cases e : j = k
  ·subst e
   rw [ha.now, decide_eq_true rfl]
   exact fiber_join ha.frames hl hx (topB_runs hf)
  ·rw [hn.other j hj e, hn.now]
   exact h.fib j hj
end Go.Proofs.YtgahbngbpfilgaaGreat
end
section
set_option maxHeartbeats 1000000
namespace Go.Proofs.YtgahbngbpfilgaaGreat
open Go Go.RowKit
theorem op_right {p : List GFunc} (hP : RightP p) {f : Int} (h0 : 0 ≤ f) (h1 : f < p.length) : ∀ x ∈ (funcOf p f).code, opErr p (funcOf p f) x = 0 := by
 have hf : f.toNat < p.length := by omega
 have h := hP.func f.toNat hf
 have e0 : ((f.toNat : Nat) : Int) = f := by omega
 rw [e0] at h
 unfold funcErr at h
 rw [if_neg (fun k => k ⟨h0, h1⟩)] at h
 show ∀ x ∈ (p.getD f.toNat default).code, opErr p (p.getD f.toNat default) x = 0
 by_cases h2 : 24 < (p.getD f.toNat default).code.length
 ·rw [if_pos h2] at h; omega
 ·rw [if_neg h2] at h
  cases h3 : sizedB (p.getD f.toNat default) with
  | false => rw [h3, if_pos rfl] at h; omega
  | true =>
   rw [h3, if_neg (by decide)] at h
   exact ok_ops h
structure OpF (p : List GFunc) (x : GFrame) (o : GOp) : Prop where
 fn : 0 ≤ x.func ∧ x.func < p.length
 locals : (x.locals.length : Int) = (funcOf p x.func).locals
 at_ : 0 ≤ x.at_ ∧ x.at_ < (funcOf p x.func).code.length
 op : (funcOf p x.func).code.getD x.at_.toNat default = o
 kind : 0 ≤ o.kind ∧ o.kind ≤ 16
 a : 0 ≤ o.a ∧ o.a ≤ mostOf p (funcOf p x.func) o.kind
 callee : o.kind = 11 ∨ o.kind = 13 → 0 ≤ (funcOf p o.a).args ∧ (funcOf p o.a).args ≤ (funcOf p o.a).locals ∧ (funcOf p o.a).locals ≤ 4
 one : o.kind = 13 → (funcOf p o.a).args = 1
 takes : takesOf p o ≤ x.stack.length
 few : nOf p o x.stack.length ≤ 8
 ret : o.kind = 12 → x.stack.length = 1
 goes : ∀ i ∈ nx o x.at_.toNat, i < (funcOf p x.func).code.length ∧ (hgt p x.func).getD i 0 = nOf p o x.stack.length
theorem opF_of {p : List GFunc} (hP : RightP p) {x : GFrame} (hx : frameB p x = true) (hf : fullB p x = true) : OpF p x (opAt p x) := by
 obtain ⟨f1, f2, f3, f4⟩ := frameB_facts hx
 obtain ⟨hr, hh⟩ := right_hf hP f1.1 f1.2
 have ha : x.at_.toNat < (funcOf p x.func).code.length := by omega
 have e : opAt p x = (funcOf p x.func).code[x.at_.toNat] := by unfold opAt; simp [List.getD, List.getElem?_eq_getElem ha]
 have hm : opAt p x ∈ (funcOf p x.func).code := by rw [e]; exact List.getElem_mem ha
 obtain ⟨k0, k1, a0, a1, c1, c2⟩ := ok_facts (op_right hP f1.1 f1.2 _ hm)
 unfold fullB at hf
 have hf := of_decide_eq_true hf
 obtain ⟨t1, t2, t3, t4⟩ := hh.thru _ ha f4
 rw [← e, ← hf] at t1 t2 t4
 rw [← e] at t3
 refine ⟨f1, f2, f3, rfl, ⟨k0, k1⟩, ⟨a0, a1⟩, fun hk => sizedB_facts (c1 hk), fun hk => c2 hk, t1, t2, fun hk => ?_, t4⟩
 have := t3 hk
 omega
theorem leaves01 (o : GOp) : 0 ≤ leavesOf o ∧ leavesOf o ≤ 1 := by unfold leavesOf; split <;> omega
theorem OpF.full {p : List GFunc} {x : GFrame} {o : GOp} (h : OpF p x o) {x' : GFrame} (hf : x'.func = x.func) (hl : x'.locals.length = x.locals.length) {i : Nat} (hi : i ∈ nx o x.at_.toNat)
  (ha : x'.at_ = i) (hs : (x'.stack.length : Int) = nOf p o x.stack.length) : frameB p x' = true ∧ fullB p x' = true := by
 obtain ⟨g1, g2⟩ := h.goes i hi
 have := h.takes
 have := leaves01 o
 have e : x'.at_.toNat = i := by rw [ha]; simp
 unfold frameB fullB
 rw [hf, hl, e, ha, g2, hs]
 refine ⟨?_, decide_eq_true rfl⟩
 rw [decide_eq_true h.fn, decide_eq_true h.locals, decide_eq_true (show 0 ≤ (i : Int) ∧ (i : Int) < ((funcOf p x.func).code.length : Nat) from ⟨by omega, by omega⟩), decide_eq_true (show 0 ≤ nOf p o x.stack.length by unfold nOf; omega)]
 rfl
theorem nx_next {o : GOp} {k : Nat} (h9 : o.kind ≠ 9) (h12 : o.kind ≠ 12) : k + 1 ∈ nx o k := by
 unfold nx
 rw [if_neg (show ¬ (o.kind = 9 ∨ o.kind = 12) by omega)]
 simp
theorem nx_jump {o : GOp} {k : Nat} (h : o.kind = 9 ∨ o.kind = 10) : o.a.toNat ∈ nx o k := by
 unfold nx
 rw [if_pos h]
 simp
theorem OpF.wait {p : List GFunc} {x : GFrame} {o : GOp} (h : OpF p x o) {x' : GFrame} (hf : x'.func = x.func) (hl : x'.locals.length = x.locals.length) (h9 : o.kind ≠ 9) (h12 : o.kind ≠ 12)
  (ha : x'.at_ = x.at_ + 1) (hs : (x'.stack.length : Int) = nOf p o x.stack.length - 1) {b : Int} (hb : o.kind = 11 → b = o.a) : frameB p x' = true ∧ waitB p x' o.kind b = true := by
 obtain ⟨g1, g2⟩ := h.goes _ (nx_next h9 h12)
 have h1 := h.at_
 have h0 : 0 ≤ nOf p o x.stack.length := by omega
 have e : x'.at_.toNat = x.at_.toNat + 1 := by omega
 have ea : (x'.at_ - 1).toNat = x.at_.toNat := by omega
 have eo : opBack p x' = o := by unfold opBack; rw [hf, ea]; exact h.op
 unfold frameB waitB
 rw [eo, hf, hl, e, ha, g2, hs]
 refine ⟨?_, ?_⟩
 ·rw [decide_eq_true h.fn, decide_eq_true h.locals, decide_eq_true (show 0 ≤ x.at_ + 1 ∧ x.at_ + 1 < ((funcOf p x.func).code.length : Nat) from ⟨by omega, by omega⟩), decide_eq_true h0]
  rfl
 ·rw [decide_eq_false (show ¬ x.at_ + 1 = 0 by omega), decide_eq_true rfl, decide_eq_true rfl]
  by_cases h11 : o.kind = 11
  ·rw [decide_eq_true h11, hb h11, decide_eq_true rfl]; rfl
  ·rw [decide_eq_false h11]; rfl
theorem wait_full {p : List GFunc} {x : GFrame} {k a : Int} (h : waitB p x k a = true) (hx : frameB p x = true) (v : Int) :
  frameB p { x with stack := x.stack ++ [v] } = true ∧ fullB p { x with stack := x.stack ++ [v] } = true := by
 have hs := waitB_stack h
 refine ⟨hx, ?_⟩
 unfold fullB
 refine decide_eq_true ?_
 show (((x.stack ++ [v]).length : Nat) : Int) = _
 rw [List.length_append, List.length_singleton]
 show ((x.stack.length + 1 : Nat) : Int) = (hgt p x.func).getD x.at_.toNat 0
 omega
theorem new_full {p : List GFunc} (hP : RightP p) {f : Int} (h0 : 0 ≤ f) (h1 : f < p.length) {l : List Int} (hl : (l.length : Int) = (funcOf p f).locals) : frameB p ⟨f, 0, l, []⟩ = true ∧ fullB p ⟨f, 0, l, []⟩ = true := by
 obtain ⟨hr, hh⟩ := right_hf hP h0 h1
 have hp := hh.pos
 have hz := hh.zero
 unfold frameB fullB
 rw [show (0 : Int).toNat = 0 from rfl, hz]
 refine ⟨?_, decide_eq_true rfl⟩
 rw [decide_eq_true (show 0 ≤ f ∧ f < (p.length : Int) from ⟨h0, h1⟩), decide_eq_true hl, decide_eq_true (show (0 : Int) ≤ 0 ∧ (0 : Int) < ((funcOf p f).code.length : Nat) from ⟨by omega, by omega⟩)]
 rfl
end Go.Proofs.YtgahbngbpfilgaaGreat
end
section
set_option maxHeartbeats 1000000
namespace Go.Proofs.YtgahbngbpfilgaaGreat
open Go Go.RowKit
def Res (p : List GFunc) (r : Int × GState) : Prop := (r.1 = 0 ∧ ∃ l, Ok p r.2 l) ∨ r.1 = 2 ∨ r.1 = 5 ∨ r.1 = 6 ∨ r.1 = 7
theorem Ok.few5 {p : List GFunc} {s : GState} {l r : List Int} {k : Nat} {fs : List GFrame} {x : GFrame} (h : Ok p s l) (hR : Runs p s l k fs x r) : fs.length ≤ 5 := by
 have := h.frames k hR.at_.lt
 rw [hR.at_.frames] at this
 simp at this
 omega
theorem stay {p : List GFunc} {s s' : GState} {l r : List Int} {k : Nat} {fs : List GFrame} {x x' : GFrame} {o : GOp} (h : Ok p s l) (hR : Runs p s l k fs x r) (hF : OpF p x o)
  (hn : Near s s' k) (ha : At s' k fs x') (hf : x'.func = x.func) (hl : x'.locals.length = x.locals.length) {i : Nat} (hi : i ∈ nx o x.at_.toNat) (hi' : x'.at_ = i)
  (hs : (x'.stack.length : Int) = nOf p o x.stack.length) (ho : s'.out.length ≤ 30) : Res p (0, s') := by
 obtain ⟨h1, h2⟩ := hF.full hf hl hi hi' hs
 exact .inl ⟨rfl, l, h.near hn ha hR.zero (by rw [hf]; exact hR.on) h1 h2 (h.few5 hR) ho⟩
theorem stays_right {p : List GFunc} {s t : GState} {l r : List Int} {k : Nat} {fs : List GFrame} {x : GFrame} {o : GOp} (h : Ok p s l) (hR : Runs p s l k fs x r) (hF : OpF p x o)
  (hN : Near s t k) (hA : At t k fs { x with at_ := x.at_ + 1 }) (hO : t.out = s.out) (hk : o.kind ≤ 10) : WorkFit p t o.kind o.a ∧ Res p (workG p t o.kind o.a) := by
 have hx : curX t = { x with at_ := x.at_ + 1 } := hA.curX
 have ht := hF.takes
 have hk0 := hF.kind.1
 have ha0 := hF.a.1
 have ham := hF.a.2
 have hlt := hR.at_.lt
 have hat := hF.at_
 have hloc := hF.locals
 have hout : t.out.length ≤ 30 := by rw [hO]; exact h.out
 have cases9 : o.kind = 0 ∨ o.kind = 1 ∨ o.kind = 2 ∨ o.kind = 3 ∨ o.kind = 9 ∨ o.kind = 10 ∨ (4 ≤ o.kind ∧ o.kind ≤ 8) := by omega
 have hi1 : ((x.at_.toNat + 1 : Nat) : Int) = x.at_ + 1 := by omega
 rcases cases9 with e | e | e | e | e | e | e
 ·have w : workG p t o.kind o.a = (0, pushG t t.now o.a) := by rw [e]; simp [workG]
  refine ⟨by rw [e]; simp [WorkFit], ?_⟩
  rw [w]
  refine stay h hR hF (hN.top hlt _ hA.now) (hA.top _ hA.now) rfl rfl (nx_next (by omega) (by omega)) hi1.symm ?_ hout
  simp [nOf, takesOf, leavesOf, e]
 ·have w : workG p t o.kind o.a = (0, popG t) := by rw [e]; simp [workG]
  have tk : takesOf p o = 1 := by simp [takesOf, e]
  refine ⟨by rw [e]; simp [WorkFit, hx]; omega, ?_⟩
  rw [w]
  refine stay h hR hF (hN.top hlt _ hA.now) (hA.top _ hA.now) rfl rfl (nx_next (by omega) (by omega)) hi1.symm ?_ hout
  simp [nOf, tk, leavesOf, e]
  omega
 ·have w : workG p t o.kind o.a = (0, pushG t t.now ((curX t).locals.getD o.a.toNat 0)) := by rw [e]; simp [workG]
  have m : o.a ≤ (funcOf p x.func).locals - 1 := by simpa [mostOf, e] using ham
  refine ⟨by rw [e]; simp [WorkFit, hx]; omega, ?_⟩
  rw [w]
  refine stay h hR hF (hN.top hlt _ hA.now) (hA.top _ hA.now) rfl rfl (nx_next (by omega) (by omega)) hi1.symm ?_ hout
  simp [nOf, takesOf, leavesOf, e]
 ·have w : workG p t o.kind o.a = (0, modTop (popG t) t.now fun x => { x with locals := x.locals.set o.a.toNat (lastV t) }) := by rw [e]; simp [workG]
  have tk : takesOf p o = 1 := by simp [takesOf, e]
  have m : o.a ≤ (funcOf p x.func).locals - 1 := by simpa [mostOf, e] using ham
  refine ⟨by rw [e]; simp [WorkFit, hx]; omega, ?_⟩
  rw [w]
  refine stay h hR hF ((hN.top hlt _ hA.now).top hlt _ hA.now) ((hA.top _ hA.now).top _ hA.now) rfl (by simp) (nx_next (by omega) (by omega)) hi1.symm ?_ hout
  simp [nOf, tk, leavesOf, e]
  omega
 ·have w : workG p t o.kind o.a = (0, setAtG t o.a) := by rw [e]; simp [workG]
  refine ⟨by rw [e]; simp [WorkFit], ?_⟩
  rw [w]
  refine stay h hR hF (hN.top hlt _ hA.now) (hA.top _ hA.now) rfl rfl (nx_jump (.inl e)) (by show o.a = _; omega) ?_ hout
  simp [nOf, takesOf, leavesOf, e]
 ·have w : workG p t o.kind o.a = (0, if lastV t = 0 then setAtG (popG t) o.a else popG t) := by rw [e]; simp [workG]
  have tk : takesOf p o = 1 := by simp [takesOf, e]
  refine ⟨by rw [e]; simp [WorkFit, hx]; omega, ?_⟩
  rw [w]
  by_cases hl : lastV t = 0
  ·rw [if_pos hl]
   refine stay h hR hF ((hN.top hlt _ hA.now).top hlt _ hA.now) ((hA.top _ hA.now).top _ hA.now) rfl rfl (nx_jump (.inr e)) (by show o.a = _; omega) ?_ hout
   simp [nOf, tk, leavesOf, e]
   omega
  ·rw [if_neg hl]
   refine stay h hR hF (hN.top hlt _ hA.now) (hA.top _ hA.now) rfl rfl (nx_next (by omega) (by omega)) hi1.symm ?_ hout
   simp [nOf, tk, leavesOf, e]
   omega
 ·have w : workG p t o.kind o.a = (0, pushG (popG (popG t)) t.now (reckG o.kind (lastV (popG t)) (lastV t))) := by
   unfold workG
   rw [if_neg (by omega), if_neg (by omega), if_neg (by omega), if_neg (by omega), if_neg (by omega), if_neg (by omega), if_neg (by omega), if_neg (by omega), if_neg (by omega), if_neg (by omega), if_neg (by omega), if_neg (by omega)]
  have tk : takesOf p o = 2 := by unfold takesOf; rw [if_pos (by omega)]
  have lv : leavesOf o = 1 := by unfold leavesOf; rw [if_neg (by omega)]
  refine ⟨?_, ?_⟩
  ·unfold WorkFit
   rw [if_neg (by omega), if_neg (by omega), if_neg (by omega), if_neg (by omega), if_neg (by omega), if_neg (by omega), if_neg (by omega), if_neg (by omega), if_neg (by omega), if_neg (by omega), if_neg (by omega), if_neg (by omega), hx]
   show 2 ≤ x.stack.length
   omega
  ·rw [w]
   refine stay h hR hF (((hN.top hlt _ hA.now).top hlt _ hA.now).top hlt _ hA.now) (((hA.top _ hA.now).top _ hA.now).top _ hA.now) rfl rfl (nx_next (by omega) (by omega)) hi1.symm ?_ hout
   simp [nOf, tk, lv]
   omega
end Go.Proofs.YtgahbngbpfilgaaGreat
end
section
set_option maxHeartbeats 1000000
namespace Go.Proofs.YtgahbngbpfilgaaGreat
open Go Go.RowKit
theorem onL_snoc {p : List GFunc} {fs : List GFrame} {y : GFrame} {g : Int} (h : OnL p fs y.func) (hy : frameB p y = true) (hw : waitB p y 11 g = true) : OnL p (fs ++ [y]) g := fun j hj => by
 rw [List.length_append, List.length_singleton] at hj
 unfold fnAt
 by_cases hj1 : j < fs.length
 ·rw [if_pos (by simp; omega), getD_front hj1, fn_next fs y hj1]
  exact h j hj1
 ·obtain rfl : j = fs.length := by omega
  rw [if_neg (by simp), getD_end]
  exact ⟨hy, hw⟩
theorem onL_init {p : List GFunc} {fs : List GFrame} {y : GFrame} {g : Int} (h : OnL p (fs ++ [y]) g) : OnL p fs y.func ∧ frameB p y = true ∧ waitB p y 11 g = true := by
 refine ⟨fun j hj => ?_, ?_⟩
 ·have := h j (by simp; omega)
  unfold fnAt at this
  rw [if_pos (by simp; omega), getD_front hj, fn_next fs y hj] at this
  exact this
 ·have := h fs.length (by simp)
  unfold fnAt at this
  rw [if_neg (by simp), getD_end] at this
  exact this
theorem call_right {p : List GFunc} {s t : GState} {l r : List Int} {k : Nat} {fs : List GFrame} {x : GFrame} {o : GOp} (h : Ok p s l) (hR : Runs p s l k fs x r) (hF : OpF p x o)
  (hN : Near s t k) (hA : At t k fs { x with at_ := x.at_ + 1 }) (hO : t.out = s.out) (e : o.kind = 11) : WorkFit p t o.kind o.a ∧ Res p (workG p t o.kind o.a) := by
 have hx : curX t = { x with at_ := x.at_ + 1 } := hA.curX
 have w : workG p t o.kind o.a = callG p t o.a := by rw [e]; simp [workG]
 have tk : takesOf p o = (funcOf p o.a).args := by simp [takesOf, e, funcOf]
 have lv : leavesOf o = 1 := by simp [leavesOf, e]
 have ht := hF.takes
 have ha0 := hF.a.1
 have ham : o.a ≤ (p.length : Int) - 1 := by simpa [mostOf, e] using hF.a.2
 obtain ⟨c0, c1, c2⟩ := hF.callee (.inl e)
 have hlt := hR.at_.lt
 rw [tk] at ht
 refine ⟨?_, ?_⟩
 ·rw [e]
  simp only [WorkFit]
  refine ⟨ha0, by omega, c0, c1, by omega, ?_⟩
  rw [hx]
  exact ht
 ·rw [w]
  unfold callG
  rw [hA.curF, List.length_append, List.length_singleton]
  by_cases h6 : fs.length + 1 = 6
  ·rw [if_pos h6]; exact .inr (.inl rfl)
  ·rw [if_neg h6]
   have h5 := h.few5 hR
   have hN1 : Near s (leaveG t (funcOf p o.a).args.toNat) k := hN.top hlt _ hA.now
   have hA1 : At (leaveG t (funcOf p o.a).args.toNat) k fs _ := hA.top _ hA.now
   have hw := hF.wait (x' := { x with at_ := x.at_ + 1, stack := x.stack.take (x.stack.length - (funcOf p o.a).args.toNat) }) rfl rfl (by omega) (by omega) rfl (by
    rw [List.length_take]; unfold nOf; rw [tk, lv]; omega) (b := o.a) (fun _ => rfl)
   rw [e] at hw
   have hl : ((argsOf p t o.a (funcOf p o.a).args.toNat).length : Int) = (funcOf p o.a).locals := by
    unfold argsOf
    rw [hx]
    simp only [List.length_append, List.length_replicate, List.length_drop]
    omega
   obtain ⟨n1, n2⟩ := new_full (progErr_zero h.prog) ha0 (by omega) hl
   have hA2 := hA1.fib (g := fun f => { f with frames := f.frames ++ [⟨o.a, 0, argsOf p t o.a (funcOf p o.a).args.toNat, []⟩] })
    (fs' := fs ++ [{ x with at_ := x.at_ + 1, stack := x.stack.take (x.stack.length - (funcOf p o.a).args.toNat) }]) (x' := ⟨o.a, 0, argsOf p t o.a (funcOf p o.a).args.toNat, []⟩)
    (fun f hf => by show f.frames ++ _ = _; rw [hf]) hA.now
   refine .inl ⟨rfl, l, h.near (hN1.fib hlt rfl hA.now) hA2 hR.zero (onL_snoc hR.on hw.1 hw.2) n1 n2 (by simp; omega) ?_⟩
   show t.out.length ≤ 30
   rw [hO]
   exact h.out
theorem Ok.back {p : List GFunc} {s u : GState} {l r : List Int} {k : Nat} {fs : List GFrame} {x : GFrame} (h : Ok p s l) (hR : Runs p s l k fs x r) (hN : Near s u k) (ho : u.out.length ≤ 30)
    (hc : 0 ≤ (s.fibers.getD k default).caller) (hfr : (u.fibers.getD k default).frames.length ≤ 6) (hf : fiberB p { (u.fibers.getD k default) with caller := -1 } false false = true) (v : Int) :
    BackFit u ∧ Ok p (backG u v) r := by
  have hlt := hR.at_.lt
  have hu : u.now = k := hN.now.trans hR.at_.now
  obtain ⟨m, hm⟩ := Int.eq_ofNat_of_zero_le hc
  have hm : (s.fibers.getD k default).caller = (m : Nat) := hm
  have hcu : (Proofs.YtgahbngbpfilgaaGreat.curF u).caller = (m : Nat) := by
    unfold Proofs.YtgahbngbpfilgaaGreat.curF
    rw [hu, Int.toNat_natCast, hN.caller, hm]
  have hml : m < s.fibers.length := by have := h.callers k hlt; omega
  have hlk := hR.lk
  rw [hm] at hlk
  obtain ⟨r', hr⟩ : ∃ r', r = (m : Int) :: r' := by
    cases r with
    | nil => exact absurd hlk (by show ¬ (m : Int) < 0; omega)
    | cons a r' => exact ⟨r', by rw [hlk.1]⟩
  have hmr : (m : Int) ∈ r := by rw [hr]; simp
  have hkr : (k : Int) ∉ r := by rw [← hR.at_.now]; exact hR.notin
  have hmk : m ≠ k := fun e => hkr (by rw [← e]; exact hmr)
  have hmf := h.fib m hml
  have hml' : (m : Int) ∈ l := by rw [hR.line]; simp [hmr]
  rw [decide_eq_true hml', decide_eq_false (show ¬ (m : Int) = s.now by rw [hR.at_.now]; omega)] at hmf
  have hne : (s.fibers.getD m default).frames ≠ [] := by
    intro e
    unfold fiberB at hmf
    rw [if_pos (by rw [e]; rfl)] at hmf
    cases hmf
  obtain ⟨gs, y, ey, y1, y2, y3⟩ := fiber_split hmf hne
  have y3 : waitB p y 14 0 = true := by
    unfold topB at y3
    rw [if_neg (by decide), if_pos rfl] at y3
    exact y3
  obtain ⟨z1, z2⟩ := wait_full y3 y2 v
  obtain ⟨U, hU⟩ : ∃ U, U = { modFib u u.now (fun f => { f with caller := -1 }) with now := (Proofs.YtgahbngbpfilgaaGreat.curF u).caller } := ⟨_, rfl⟩
  have Ulen : U.fibers.length = s.fibers.length := by rw [hU]; exact (modFib_len _ _ _).trans hN.len
  have Uget : ∀ j, j < s.fibers.length → U.fibers.getD j default = if k = j then { (u.fibers.getD j default) with caller := -1 } else s.fibers.getD j default := fun j hj => by
    rw [hU]
    show (modFib u u.now _).fibers.getD j default = _
    rw [modFib_get _ _ _ _ (by rw [hN.len]; exact hj), hu, Int.toNat_natCast]
    by_cases e : k = j
    · rw [if_pos e, if_pos e]
    · rw [if_neg e, if_neg e, hN.other j hj (fun e2 => e e2.symm)]
  have Unow : U.now = m := by rw [hU]; exact hcu
  have hAU : At U m gs y := ⟨Unow, by rw [Ulen]; exact hml, by rw [Uget m hml, if_neg (fun e => hmk e.symm)]; exact ey⟩
  have eB : backG u v = pushG U (m : Nat) v := by unfold backG; rw [← hU, hcu]
  have hAB : At (pushG U (m : Nat) v) m gs { y with stack := y.stack ++ [v] } := hAU.top _ rfl
  have hNB : Near U (pushG U (m : Nat) v) m := (Near.refl U m).top hAU.lt _ rfl
  have Bc : ∀ j, j < s.fibers.length → ((pushG U (m : Nat) v).fibers.getD j default).caller = if k = j then -1 else (s.fibers.getD j default).caller := fun j hj => by
    have e1 : ((pushG U (m : Nat) v).fibers.getD j default).caller = (U.fibers.getD j default).caller := by
      by_cases e : j = m
      · rw [e]; exact hNB.caller
      · rw [hNB.other j (by rw [Ulen]; exact hj) e]
    rw [e1, Uget j hj]
    split <;> rfl
  refine ⟨.inr (by rw [← hU, hcu]; rw [← Unow]; exact hAU.hasTop), ?_⟩
  rw [eB]
  have Blen : (pushG U (m : Nat) v).fibers.length = s.fibers.length := hNB.len.trans Ulen
  have h0r : (0 : Int) ∈ r := by
    have := lineEnd_cons (hR.line ▸ h.ends)
    rw [hr] at this ⊢
    rw [List.getLast_cons (by simp)] at this
    rw [← this]
    exact List.getLast_mem _
  refine ⟨h.prog, by rw [Blen]; exact h.few, ?_, fun j hj => ?_, by rw [Blen]; exact h.pos, ?_, fun j hj => ?_, ?_, ?_, fun h0 => absurd h0r h0, fun j hj => ?_⟩
  · show U.out.length ≤ 30
    rw [hU]; exact ho
  · rw [Blen] at hj
    by_cases e : j = m
    · rw [e, hAB.frames]
      have := h.frames m hml
      rw [ey] at this
      simpa using this
    · rw [hNB.other j (by rw [Ulen]; exact hj) e, Uget j hj]
      by_cases e2 : k = j
      · rw [if_pos e2, ← e2]; exact hfr
      · rw [if_neg e2]; exact h.frames j hj
  · rw [Blen]
    show -1 ≤ U.now ∧ U.now ≤ _
    rw [Unow]
    omega
  · rw [Blen] at hj ⊢
    rw [Bc j hj]
    have := h.callers j hj
    have := h.pos
    split <;> omega
  · show Lk (pushG U (m : Nat) v).fibers U.now r
    rw [Unow]
    have hrg := lk_range (fun k hk => (h.callers k hk).2) hlk (by omega)
    refine lk_congr (fun z hz => ?_) hlk
    have := hrg z hz
    unfold callerOf
    rw [Bc _ (by omega), if_neg (fun e => hkr (by rw [e]; have e2 : ((z.toNat : Nat) : Int) = z := by omega
                                                  rw [e2]; exact hz))]
  · have := lineEnd_cons (hR.line ▸ h.ends)
    unfold lineEnd
    rw [hr] at this ⊢
    rw [List.getLast_cons (by simp), List.getLast_eq_getElem] at this
    rw [Bool.or_eq_true]
    refine .inr (decide_eq_true ?_)
    rw [← this]
    simp [List.getD]
  · rw [Blen] at hj
    show fiberB p _ _ (decide ((j : Int) = U.now)) = true
    rw [Unow]
    by_cases e : j = m
    · subst e
      rw [decide_eq_true hmr, decide_eq_true rfl]
      exact fiber_join hAB.frames y1 z1 (topB_runs z2)
    · rw [hNB.other j (by rw [Ulen]; exact hj) e, Uget j hj, decide_eq_false (show ¬ (j : Int) = (m : Nat) by omega)]
      by_cases e2 : k = j
      · subst e2
        rw [if_pos rfl, decide_eq_false hkr]
        exact hf
      · rw [if_neg e2]
        have hb := h.fib j hj
        have e3 : decide ((j : Int) ∈ l) = decide ((j : Int) ∈ r) := by
          rw [hR.line, hR.at_.now]
          refine decide_eq_decide.2 ⟨fun hh => ?_, fun hh => by simp [hh]⟩
          rcases List.mem_cons.1 hh with hh | hh
          · omega
          · exact hh
        rw [e3, decide_eq_false (show ¬ (j : Int) = s.now by rw [hR.at_.now]; omega)] at hb
        exact hb
end Go.Proofs.YtgahbngbpfilgaaGreat
end
