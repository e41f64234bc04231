/- Merged texts: contracts and plain facts, one part behind another; each part begins with what it says. -/
import Derived.Test.YtgahbngbpfilgaaGreatGHAI
import Derived.Test.YtgahbngbpfilgaaGreatGHAJ
import Derived.Test.YtgahbngbpfilgaaGreatGHAQ
section
set_option maxHeartbeats 1000000
namespace Go.Proofs.YtgahbngbpfilgaaGreat
open Go Go.RowKit
structure FrameF (p : List GFunc) (x : GFrame) : Prop where
 func : 0 ≤ x.func ∧ x.func < p.length
 locals : (x.locals.length : Int) = (funcOf p x.func).locals
 at_ : 0 ≤ x.at_ ∧ x.at_ < (funcOf p x.func).code.length
 stack : x.stack.length ≤ 8
theorem right_hf {p : List GFunc} (h : RightP p) {f : Int} (h0 : 0 ≤ f) (h1 : f < p.length) : RightF p (funcOf p f) ∧ HFacts p (funcOf p f).code (hgt p f) := by
 have hf : f.toNat < p.length := by omega
 have e : funcOf p f = p[f.toNat] := by unfold funcOf; simp [List.getD, List.getElem?_eq_getElem hf]
 have hr : RightF p (funcOf p f) := by
  rw [e]
  have e0 : ((f.toNat : Nat) : Int) = f := by omega
  have := h.func f.toNat hf
  rw [e0] at this
  exact (funcErr_zero this).2.2 hf
 refine ⟨hr, ?_⟩
 have hs := h.hts f.toNat hf
 unfold hgt
 have e2 : p.getD f.toNat default = funcOf p f := rfl
 rw [e2] at hs ⊢
 cases hh : hts p (funcOf p f).code with
 | none => rw [hh] at hs; cases hs
 | some l => exact hfacts hr hh
theorem frameB_facts {p : List GFunc} {x : GFrame} (h : frameB p x = true) : (0 ≤ x.func ∧ x.func < p.length) ∧ (x.locals.length : Int) = (funcOf p x.func).locals ∧ (0 ≤ x.at_ ∧ x.at_ < (funcOf p x.func).code.length) ∧ 0 ≤ (hgt p x.func).getD x.at_.toNat 0 := by
 unfold frameB at h
 simp only [Bool.and_eq_true, decide_eq_true_eq] at h
 exact ⟨h.1.1.1, h.1.1.2, h.1.2, h.2⟩
theorem waitB_stack {p : List GFunc} {x : GFrame} {k a : Int} (h : waitB p x k a = true) : (x.stack.length : Int) = (hgt p x.func).getD x.at_.toNat 0 - 1 := by
 unfold waitB at h
 simp only [Bool.and_eq_true, decide_eq_true_eq] at h
 exact h.1.2
theorem RightS.onF {p : List GFunc} {s : GState} {l : List Int} (h : RightS p s l) {k j : Nat} (hk : k < s.fibers.length) (hj : j < (s.fibers.getD k default).frames.length) :
  onB p (s.fibers.getD k default).frames j = true ∧ topB p (s.fibers.getD k default) (decide ((k : Int) ∈ l)) (decide ((k : Int) = s.now)) ((s.fibers.getD k default).frames.getD ((s.fibers.getD k default).frames.length - 1) default) = true := by
 have hb := h.fib k hk
 unfold fibK at hb
 rw [Bool.and_eq_true] at hb
 have hb := hb.1
 unfold fiberB at hb
 rw [if_neg (by omega), Bool.and_eq_true] at hb
 exact ⟨allK_of hb.1 j hj, hb.2⟩
theorem RightS.frameF {p : List GFunc} {s : GState} {l : List Int} (h : RightS p s l) {k j : Nat} (hk : k < s.fibers.length) (hj : j < (s.fibers.getD k default).frames.length) :
  FrameF p ((s.fibers.getD k default).frames.getD j default) := by
 obtain ⟨ho, ht⟩ := h.onF hk hj
 have hP := progErr_zero h.prog
 generalize s.fibers.getD k default = f at *
 unfold onB at ho
 rw [Bool.and_eq_true] at ho
 obtain ⟨ho1, ho2⟩ := ho
 obtain ⟨f1, f2, f3, f4⟩ := frameB_facts ho1
 refine ⟨f1, f2, f3, ?_⟩
 have hh := (right_hf hP f1.1 f1.2).2.hi (f.frames.getD j default).at_.toNat (by omega)
 by_cases hl : j + 1 < f.frames.length
 ·rw [decide_eq_true hl] at ho2
  simp only [Bool.not_true, Bool.false_or, Bool.and_eq_true] at ho2
  have := waitB_stack ho2.2
  omega
 ·obtain rfl : j = f.frames.length - 1 := by omega
  unfold topB at ht
  split at ht
  ·unfold fullB at ht
   have := of_decide_eq_true ht
   omega
  ·split at ht
   ·have := waitB_stack ht; omega
   ·rw [Bool.and_eq_true, Bool.or_eq_true] at ht
    rcases ht.2 with h2 | h2
    ·unfold freshB at h2
     simp only [Bool.and_eq_true, decide_eq_true_eq] at h2
     have e1 : f.frames.length - 1 = 0 := by omega
     rw [e1]
     have := h2.1.2
     omega
    ·have := waitB_stack h2; omega
end Go.Proofs.YtgahbngbpfilgaaGreat
end
section
set_option maxHeartbeats 1000000
namespace Go.Proofs.YtgahbngbpfilgaaGreat
open Go Go.RowKit
def fnAt (fs : List GFrame) (g : Int) (j : Nat) : Int := if j + 1 < fs.length then (fs.getD (j + 1) default).func else g
def OnL (p : List GFunc) (fs : List GFrame) (g : Int) : Prop := ∀ j, j < fs.length → frameB p (fs.getD j default) = true ∧ waitB p (fs.getD j default) 11 (fnAt fs g j) = true
theorem getD_front {α : Type} [Inhabited α] {fs : List α} {x : α} {j : Nat} (h : j < fs.length) : (fs ++ [x]).getD j default = fs.getD j default := by
 simp [List.getD, List.getElem?_append_left h]
theorem getD_end {α : Type} [Inhabited α] {fs : List α} {x : α} : (fs ++ [x]).getD fs.length default = x := by simp [List.getD]
theorem fn_next (fs : List GFrame) (x : GFrame) {j : Nat} (h : j < fs.length) : ((fs ++ [x]).getD (j + 1) default).func = fnAt fs x.func j := by
 unfold fnAt
 by_cases hj : j + 1 < fs.length
 ·rw [if_pos hj, getD_front hj]
 ·rw [if_neg hj]
  have : j + 1 = fs.length := by omega
  rw [this, getD_end]
theorem frameB_func {p : List GFunc} {x : GFrame} (h : frameB p x = true) : 0 ≤ x.func ∧ x.func < p.length := (frameB_facts h).1
theorem fiber_split {p : List GFunc} {f : GFiber} {on runs : Bool} (h : fiberB p f on runs = true) (h0 : f.frames ≠ []) :
  ∃ fs x, f.frames = fs ++ [x] ∧ OnL p fs x.func ∧ frameB p x = true ∧ topB p f on runs x = true := by
 refine ⟨f.frames.dropLast, f.frames.getLast h0, (List.dropLast_concat_getLast h0).symm, ?_⟩
 have e := (List.dropLast_concat_getLast h0).symm
 generalize f.frames.dropLast = fs at *
 generalize f.frames.getLast h0 = x at *
 unfold fiberB at h
 rw [if_neg (by rw [e]; simp), Bool.and_eq_true] at h
 obtain ⟨h1, h2⟩ := h
 have h1 := allK_of h1
 rw [e] at h1 h2
 rw [List.length_append, List.length_singleton, Nat.add_sub_cancel, getD_end] at h2
 have hx := h1 fs.length (by simp)
 unfold onB at hx
 rw [getD_end, Bool.and_eq_true] at hx
 refine ⟨fun j hj => ?_, hx.1, h2⟩
 have hj1 := h1 j (by simp; omega)
 unfold onB at hj1
 rw [decide_eq_true (show j + 1 < (fs ++ [x]).length by simp; omega), fn_next fs x hj, getD_front hj] at hj1
 simp only [Bool.not_true, Bool.false_or, Bool.and_eq_true] at hj1
 exact ⟨hj1.1, hj1.2.2⟩
theorem fiber_join {p : List GFunc} {f : GFiber} {on runs : Bool} {fs : List GFrame} {x : GFrame} (e : f.frames = fs ++ [x]) (hl : OnL p fs x.func) (hx : frameB p x = true)
  (ht : topB p f on runs x = true) : fiberB p f on runs = true := by
 unfold fiberB
 rw [if_neg (by rw [e]; simp), Bool.and_eq_true]
 rw [e]
 refine ⟨allK_true fun j hj => ?_, ?_⟩
 ·rw [List.length_append, List.length_singleton] at hj
  unfold onB
  by_cases hj1 : j < fs.length
  ·obtain ⟨a1, a2⟩ := hl j hj1
   rw [decide_eq_true (show j + 1 < (fs ++ [x]).length by simp; omega), fn_next fs x hj1, getD_front hj1, a1, a2]
   have : 0 ≤ fnAt fs x.func j ∧ fnAt fs x.func j < p.length := by
    unfold fnAt
    split
    ·exact frameB_func (hl _ (by assumption)).1
    ·exact frameB_func hx
   rw [decide_eq_true this]
   rfl
  ·obtain rfl : j = fs.length := by omega
   rw [getD_end, hx, decide_eq_false (by simp)]
   rfl
 ·rw [List.length_append, List.length_singleton, Nat.add_sub_cancel, getD_end]
  exact ht
def Lk (fs : List GFiber) : Int → List Int → Prop
 | n, [] => n < 0
 | n, k :: r => k = n ∧ 0 ≤ n ∧ n ∉ r ∧ Lk fs (callerOf fs n) r
theorem lk_of_go {fs : List GFiber} : ∀ (k : Nat) (n : Int) (out l : List Int), lineGo fs k n out = some l → ∃ r, l = out ++ r ∧ Lk fs n r ∧ ∀ x ∈ r, x ∉ out
 | 0, _, _, _, h => by cases h
 | k + 1, n, out, l, h => by
  rw [lineGo] at h
  by_cases hn : n < 0
  ·rw [if_pos hn] at h
   cases h
   exact ⟨[], by simp, hn, fun _ h => by cases h⟩
  ·rw [if_neg hn] at h
   by_cases hm : n ∈ out
   ·rw [if_pos hm] at h; cases h
   ·rw [if_neg hm] at h
    obtain ⟨r, e, h1, h2⟩ := lk_of_go k _ _ l h
    refine ⟨n :: r, by rw [e]; simp, ⟨rfl, by omega, fun hin => h2 n hin (by simp), h1⟩, fun x hx => ?_⟩
    rcases List.mem_cons.1 hx with rfl | hx
    ·exact hm
    ·exact fun ho => h2 x hx (by simp [ho])
theorem go_of_lk {fs : List GFiber} : ∀ (r : List Int) (k : Nat) (n : Int) (out : List Int), Lk fs n r → (∀ x ∈ r, x ∉ out) → r.length < k → lineGo fs k n out = some (out ++ r)
 | _, 0, _, _, _, _, h => by omega
 | [], k + 1, n, out, h, _, _ => by
  rw [lineGo, if_pos (show n < 0 from h)]; simp
 | m :: r, k + 1, n, out, ⟨hm, h0, h1, h2⟩, h3, h4 => by
  subst hm
  rw [List.length_cons] at h4
  rw [lineGo, if_neg (by omega), if_neg (h3 _ (by simp)), go_of_lk r k _ _ h2 (fun x hx ho => ?_) (by omega)]
  ·simp
  ·rcases List.mem_append.1 ho with ho | ho
   ·exact h3 x (by simp [hx]) ho
   ·rw [List.mem_singleton] at ho
    subst ho
    exact h1 hx
theorem lk_congr {fs gs : List GFiber} : ∀ {r : List Int} {n : Int}, (∀ x ∈ r, callerOf fs x = callerOf gs x) → Lk fs n r → Lk gs n r
 | [], _, _, h => h
 | m :: r, n, hc, ⟨hm, h0, h1, h2⟩ => by
  subst hm
  exact ⟨rfl, h0, h1, by rw [← hc _ (by simp)]; exact lk_congr (fun x hx => hc x (by simp [hx])) h2⟩
theorem lk_nodup {fs : List GFiber} : ∀ {r : List Int} {n : Int}, Lk fs n r → r.Nodup
 | [], _, _ => by simp
 | m :: r, n, ⟨hm, _, h1, h2⟩ => by
  subst hm
  exact List.nodup_cons.2 ⟨h1, lk_nodup h2⟩
theorem lk_range {fs : List GFiber} (hc : ∀ k, k < fs.length → (fs.getD k default).caller ≤ (fs.length : Int) - 1) : ∀ {r : List Int} {n : Int}, Lk fs n r → n ≤ (fs.length : Int) - 1 → ∀ x ∈ r, 0 ≤ x ∧ x < fs.length
 | [], _, _, _, _, hx => by cases hx
 | m :: r, n, ⟨hm, h0, h1, h2⟩, hn, x, hx => by
  subst hm
  rcases List.mem_cons.1 hx with rfl | hx
  ·omega
  ·exact lk_range hc h2 (hc _ (by omega)) x hx
theorem lineS_of {s : GState} {l : List Int} (h : Lk s.fibers s.now l) (hl : l.length ≤ s.fibers.length) : lineS s = some l := by
 unfold lineS
 rw [go_of_lk l _ _ [] h (fun _ _ h => by cases h) (by omega)]
 rfl
theorem lk_of {s : GState} {l : List Int} (h : lineS s = some l) : Lk s.fibers s.now l := by
 obtain ⟨r, e, h1, _⟩ := lk_of_go _ _ _ _ h
 rw [e]
 simpa using h1
structure Ok (p : List GFunc) (s : GState) (l : List Int) : Prop where
 prog : progErr p = 0
 few : s.fibers.length ≤ 5
 out : s.out.length ≤ 30
 frames : ∀ k, k < s.fibers.length → (s.fibers.getD k default).frames.length ≤ 6
 pos : 0 < s.fibers.length
 now : -1 ≤ s.now ∧ s.now ≤ (s.fibers.length : Int) - 1
 callers : ∀ k, k < s.fibers.length → -1 ≤ (s.fibers.getD k default).caller ∧ (s.fibers.getD k default).caller ≤ (s.fibers.length : Int) - 1
 lk : Lk s.fibers s.now l
 ends : lineEnd l = true
 zero : (0 : Int) ∉ l → (s.fibers.getD 0 default).frames.length = 0
 fib : ∀ k, k < s.fibers.length → fiberB p (s.fibers.getD k default) (decide ((k : Int) ∈ l)) (decide ((k : Int) = s.now)) = true
theorem RightS.ok {p : List GFunc} {s : GState} {l : List Int} (h : RightS p s l) : Ok p s l := by
 refine ⟨h.prog, h.few, h.out, h.frames, h.pos, h.callers.now, h.callers.all, lk_of h.line, h.ends, fun h0 => ?_, fun k hk => ?_⟩
 ·have hb := h.fib 0 h.pos
  unfold fibK at hb
  rw [Bool.and_eq_true] at hb
  have h2 := hb.2
  rw [decide_eq_true rfl, decide_eq_false h0] at h2
  simp only [Bool.not_false, Bool.and_true, Bool.true_and] at h2
  have := of_decide_eq_false (by simpa using h2 : decide (0 < (s.fibers.getD 0 default).frames.length) = false)
  omega
 ·have hb := h.fib k hk
  unfold fibK at hb
  rw [Bool.and_eq_true] at hb
  exact hb.1
theorem Ok.right {p : List GFunc} {s : GState} {l : List Int} (h : Ok p s l) : RightS p s l := by
 have hl : l.length ≤ s.fibers.length := nodup_len _ _ (lk_nodup h.lk) (lk_range (fun k hk => (h.callers k hk).2) h.lk h.now.2)
 refine ⟨h.prog, h.few, h.out, h.frames, h.pos, ⟨h.now, h.callers, by have := h.few; omega⟩, lineS_of h.lk hl, h.ends, fun ⟨h1, h2⟩ => ?_, fun k hk => ?_⟩
 ·have : l = [] := by
   have := h.lk
   cases l with
   | nil => rfl
   | cons a r => obtain ⟨_, h0, _⟩ := this; omega
  have := h.zero (by rw [this]; simp)
  omega
 ·unfold fibK
  rw [h.fib k hk, Bool.true_and]
  by_cases h0 : k = 0
  ·subst h0
   by_cases hz : (0 : Int) ∈ l
   ·rw [decide_eq_true hz]; simp
   ·rw [decide_eq_false (show ¬ 0 < (s.fibers.getD 0 default).frames.length by rw [h.zero hz]; omega)]; simp
  ·rw [decide_eq_false h0]; simp
end Go.Proofs.YtgahbngbpfilgaaGreat
end
section
set_option maxHeartbeats 1000000
namespace Go.Proofs.YtgahbngbpfilgaaGreat
open Go Go.RowKit
structure Near (s0 s : GState) (k : Nat) : Prop where
 now : s.now = s0.now
 len : s.fibers.length = s0.fibers.length
 other : ∀ j, j < s0.fibers.length → j ≠ k → s.fibers.getD j default = s0.fibers.getD j default
 caller : (s.fibers.getD k default).caller = (s0.fibers.getD k default).caller
theorem Near.refl (s : GState) (k : Nat) : Near s s k := ⟨rfl, rfl, fun _ _ _ => rfl, rfl⟩
structure At (s : GState) (k : Nat) (fs : List GFrame) (x : GFrame) : Prop where
 now : s.now = k
 lt : k < s.fibers.length
 frames : (s.fibers.getD k default).frames = fs ++ [x]
theorem Near.fib {s0 s : GState} {k : Nat} (h : Near s0 s k) (hk : k < s0.fibers.length) {g : GFiber → GFiber} (hg : (g (s.fibers.getD k default)).caller = (s.fibers.getD k default).caller) {n : Int} (hn : n = k) : Near s0 (modFib s n g) k := by
 subst hn
 refine ⟨h.now, (modFib_len _ _ _).trans h.len, fun j hj hne => ?_, ?_⟩
 ·rw [modFib_get _ _ _ _ (by rw [h.len]; exact hj), Int.toNat_natCast, if_neg (fun e => hne e.symm)]
  exact h.other j hj hne
 ·rw [modFib_get _ _ _ _ (by rw [h.len]; exact hk), Int.toNat_natCast, if_pos rfl, hg]
  exact h.caller
theorem At.fib {s : GState} {k : Nat} {fs fs' : List GFrame} {x x' : GFrame} (h : At s k fs x) {g : GFiber → GFiber} (hg : ∀ f, f.frames = fs ++ [x] → (g f).frames = fs' ++ [x']) {n : Int} (hn : n = k) : At (modFib s n g) k fs' x' := by
 subst hn
 refine ⟨h.now, by rw [modFib_len]; exact h.lt, ?_⟩
 rw [modFib_get _ _ _ _ h.lt, Int.toNat_natCast, if_pos rfl]
 exact hg _ h.frames
theorem Near.top {s0 s : GState} {k : Nat} (h : Near s0 s k) (hk : k < s0.fibers.length) (g : GFrame → GFrame) {n : Int} (hn : n = k) : Near s0 (modTop s n g) k := h.fib hk rfl hn
theorem At.top {s : GState} {k : Nat} {fs : List GFrame} {x : GFrame} (h : At s k fs x) (g : GFrame → GFrame) {n : Int} (hn : n = k) : At (modTop s n g) k fs (g x) :=
 h.fib (fun f hf => by
  show f.frames.modify (f.frames.length - 1) g = _
  rw [hf]
  exact modify_last fs x g _ rfl) hn
theorem At.curF {s : GState} {k : Nat} {fs : List GFrame} {x : GFrame} (h : At s k fs x) : (curF s).frames = fs ++ [x] := by
 unfold Proofs.YtgahbngbpfilgaaGreat.curF
 rw [h.now, Int.toNat_natCast]
 exact h.frames
theorem At.curX {s : GState} {k : Nat} {fs : List GFrame} {x : GFrame} (h : At s k fs x) : curX s = x := by
 unfold Proofs.YtgahbngbpfilgaaGreat.curX topOf
 rw [h.curF, List.length_append, List.length_singleton, Nat.add_sub_cancel]
 exact getD_end
theorem At.hasTop {s : GState} {k : Nat} {fs : List GFrame} {x : GFrame} (h : At s k fs x) : HasTop s s.now := by
 have := h.lt
 refine ⟨by rw [h.now]; omega, by rw [h.now]; omega, ?_⟩
 rw [h.now, Int.toNat_natCast, h.frames]
 simp
theorem At.last {s : GState} {k : Nat} {fs : List GFrame} {x : GFrame} (h : At s k fs x) : lastV s = x.stack.getD (x.stack.length - 1) 0 := by
 unfold lastV
 rw [h.curX]
structure Runs (p : List GFunc) (s : GState) (l : List Int) (k : Nat) (fs : List GFrame) (x : GFrame) (r : List Int) : Prop where
 at_ : At s k fs x
 line : l = s.now :: r
 lk : Lk s.fibers (s.fibers.getD k default).caller r
 notin : s.now ∉ r
 zero : (0 : Int) ∈ l
 on : OnL p fs x.func
 frame : frameB p x = true
 full : fullB p x = true
theorem lineEnd_cons {a : Int} {r : List Int} (h : lineEnd (a :: r) = true) : (a :: r).getLast (by simp) = 0 := by
 unfold lineEnd at h
 rw [Bool.or_eq_true] at h
 rcases h with h | h
 ·have := of_decide_eq_true h
  simp at this
 ·have := of_decide_eq_true h
  rw [List.getLast_eq_getElem]
  simpa [List.getD, List.getElem?_eq_getElem] using this
theorem Ok.runs {p : List GFunc} {s : GState} {l : List Int} (h : Ok p s l) (h0 : 0 ≤ s.now) : ∃ k fs x r, Runs p s l k fs x r := by
 have hlk := h.lk
 cases l with
 | nil => exact absurd hlk (by show ¬ s.now < 0; omega)
 | cons a r =>
  obtain ⟨ha, _, hn, hr⟩ := hlk
  subst ha
  obtain ⟨k, hk⟩ := Int.eq_ofNat_of_zero_le h0
  have hk : s.now = (k : Nat) := hk
  have hlt : k < s.fibers.length := by have := h.now; omega
  have hz : (0 : Int) ∈ s.now :: r := by
   have := lineEnd_cons h.ends
   rw [← this]
   exact List.getLast_mem _
  have hf := h.fib k hlt
  rw [decide_eq_true hk.symm, decide_eq_true (show (k : Int) ∈ s.now :: r by rw [← hk]; simp)] at hf
  have hne : (s.fibers.getD k default).frames ≠ [] := by
   intro e
   unfold fiberB at hf
   rw [if_pos (by rw [e]; rfl)] at hf
   cases hf
  obtain ⟨fs, x, e, h1, h2, h3⟩ := fiber_split hf hne
  unfold callerOf at hr
  rw [hk, Int.toNat_natCast] at hr
  refine ⟨k, fs, x, r, ⟨⟨hk, hlt, e⟩, rfl, hr, hn, hz, h1, h2, ?_⟩⟩
  unfold topB at h3
  rw [if_pos rfl] at h3
  exact h3
theorem topB_runs {p : List GFunc} {f : GFiber} {on : Bool} {x : GFrame} (h : fullB p x = true) : topB p f on true x = true := by unfold topB; rw [if_pos rfl]; exact h
theorem Ok.near {p : List GFunc} {s0 s : GState} {l : List Int} {k : Nat} {fs : List GFrame} {x : GFrame} (h : Ok p s0 l) (hn : Near s0 s k) (ha : At s k fs x)
  (hz : (0 : Int) ∈ l) (hl : OnL p fs x.func) (hx : frameB p x = true) (hf : fullB p x = true) (hm : fs.length ≤ 5) (ho : s.out.length ≤ 30) : Ok p s l := by
 have hc : ∀ j, j < s0.fibers.length → (s.fibers.getD j default).caller = (s0.fibers.getD j default).caller := fun j hj => by
  by_cases e : j = k
  ·rw [e]; exact hn.caller
  ·rw [hn.other j hj e]
 refine ⟨h.prog, by rw [hn.len]; exact h.few, ho, fun j hj => ?_, by rw [hn.len]; exact h.pos, by rw [hn.now, hn.len]; exact h.now, fun j hj => ?_, ?_, h.ends, fun h0 => absurd hz h0, fun j hj => ?_⟩
 ·rw [hn.len] at hj
  by_cases e : j = k
  ·rw [e, ha.frames]; simp; omega
  ·rw [hn.other j hj e]; exact h.frames j hj
 ·rw [hn.len] at hj ⊢
  rw [hc j hj]
  exact h.callers j hj
 ·rw [hn.now]
  have hr := lk_range (fun k hk => (h.callers k hk).2) h.lk h.now.2
  refine lk_congr (fun y hy => ?_) h.lk
  unfold callerOf
  rw [hc _ (by have := hr y hy; omega)]
 ·rw [hn.len] at hj
  by_cases e : j = k
  ·subst e
   rw [ha.now, decide_eq_true rfl]
   exact fiber_join ha.frames hl hx (topB_runs hf)
  ·rw [hn.other j hj e, hn.now]
   exact h.fib j hj
end Go.Proofs.YtgahbngbpfilgaaGreat
end
section
set_option maxHeartbeats 1000000
namespace Go.Proofs.YtgahbngbpfilgaaGreat
open Go Go.RowKit
theorem op_right {p : List GFunc} (hP : RightP p) {f : Int} (h0 : 0 ≤ f) (h1 : f < p.length) : ∀ x ∈ (funcOf p f).code, opErr p (funcOf p f) x = 0 := by
 have hf : f.toNat < p.length := by omega
 have h := hP.func f.toNat hf
 have e0 : ((f.toNat : Nat) : Int) = f := by omega
 rw [e0] at h
 unfold funcErr at h
 rw [if_neg (fun k => k ⟨h0, h1⟩)] at h
 show ∀ x ∈ (p.getD f.toNat default).code, opErr p (p.getD f.toNat default) x = 0
 by_cases h2 : 24 < (p.getD f.toNat default).code.length
 ·rw [if_pos h2] at h; omega
 ·rw [if_neg h2] at h
  cases h3 : sizedB (p.getD f.toNat default) with
  | false => rw [h3, if_pos rfl] at h; omega
  | true =>
   rw [h3, if_neg (by decide)] at h
   exact ok_ops h
structure OpF (p : List GFunc) (x : GFrame) (o : GOp) : Prop where
 fn : 0 ≤ x.func ∧ x.func < p.length
 locals : (x.locals.length : Int) = (funcOf p x.func).locals
 at_ : 0 ≤ x.at_ ∧ x.at_ < (funcOf p x.func).code.length
 op : (funcOf p x.func).code.getD x.at_.toNat default = o
 kind : 0 ≤ o.kind ∧ o.kind ≤ 16
 a : 0 ≤ o.a ∧ o.a ≤ mostOf p (funcOf p x.func) o.kind
 callee : o.kind = 11 ∨ o.kind = 13 → 0 ≤ (funcOf p o.a).args ∧ (funcOf p o.a).args ≤ (funcOf p o.a).locals ∧ (funcOf p o.a).locals ≤ 4
 one : o.kind = 13 → (funcOf p o.a).args = 1
 takes : takesOf p o ≤ x.stack.length
 few : nOf p o x.stack.length ≤ 8
 ret : o.kind = 12 → x.stack.length = 1
 goes : ∀ i ∈ nx o x.at_.toNat, i < (funcOf p x.func).code.length ∧ (hgt p x.func).getD i 0 = nOf p o x.stack.length
theorem opF_of {p : List GFunc} (hP : RightP p) {x : GFrame} (hx : frameB p x = true) (hf : fullB p x = true) : OpF p x (opAt p x) := by
 obtain ⟨f1, f2, f3, f4⟩ := frameB_facts hx
 obtain ⟨hr, hh⟩ := right_hf hP f1.1 f1.2
 have ha : x.at_.toNat < (funcOf p x.func).code.length := by omega
 have e : opAt p x = (funcOf p x.func).code[x.at_.toNat] := by unfold opAt; simp [List.getD, List.getElem?_eq_getElem ha]
 have hm : opAt p x ∈ (funcOf p x.func).code := by rw [e]; exact List.getElem_mem ha
 obtain ⟨k0, k1, a0, a1, c1, c2⟩ := ok_facts (op_right hP f1.1 f1.2 _ hm)
 unfold fullB at hf
 have hf := of_decide_eq_true hf
 obtain ⟨t1, t2, t3, t4⟩ := hh.thru _ ha f4
 rw [← e, ← hf] at t1 t2 t4
 rw [← e] at t3
 refine ⟨f1, f2, f3, rfl, ⟨k0, k1⟩, ⟨a0, a1⟩, fun hk => sizedB_facts (c1 hk), fun hk => c2 hk, t1, t2, fun hk => ?_, t4⟩
 have := t3 hk
 omega
theorem leaves01 (o : GOp) : 0 ≤ leavesOf o ∧ leavesOf o ≤ 1 := by unfold leavesOf; split <;> omega
theorem OpF.full {p : List GFunc} {x : GFrame} {o : GOp} (h : OpF p x o) {x' : GFrame} (hf : x'.func = x.func) (hl : x'.locals.length = x.locals.length) {i : Nat} (hi : i ∈ nx o x.at_.toNat)
  (ha : x'.at_ = i) (hs : (x'.stack.length : Int) = nOf p o x.stack.length) : frameB p x' = true ∧ fullB p x' = true := by
 obtain ⟨g1, g2⟩ := h.goes i hi
 have := h.takes
 have := leaves01 o
 have e : x'.at_.toNat = i := by rw [ha]; simp
 unfold frameB fullB
 rw [hf, hl, e, ha, g2, hs]
 refine ⟨?_, decide_eq_true rfl⟩
 rw [decide_eq_true h.fn, decide_eq_true h.locals, decide_eq_true (show 0 ≤ (i : Int) ∧ (i : Int) < ((funcOf p x.func).code.length : Nat) from ⟨by omega, by omega⟩), decide_eq_true (show 0 ≤ nOf p o x.stack.length by unfold nOf; omega)]
 rfl
theorem nx_next {o : GOp} {k : Nat} (h9 : o.kind ≠ 9) (h12 : o.kind ≠ 12) : k + 1 ∈ nx o k := by
 unfold nx
 rw [if_neg (show ¬ (o.kind = 9 ∨ o.kind = 12) by omega)]
 simp
theorem nx_jump {o : GOp} {k : Nat} (h : o.kind = 9 ∨ o.kind = 10) : o.a.toNat ∈ nx o k := by
 unfold nx
 rw [if_pos h]
 simp
theorem OpF.wait {p : List GFunc} {x : GFrame} {o : GOp} (h : OpF p x o) {x' : GFrame} (hf : x'.func = x.func) (hl : x'.locals.length = x.locals.length) (h9 : o.kind ≠ 9) (h12 : o.kind ≠ 12)
  (ha : x'.at_ = x.at_ + 1) (hs : (x'.stack.length : Int) = nOf p o x.stack.length - 1) {b : Int} (hb : o.kind = 11 → b = o.a) : frameB p x' = true ∧ waitB p x' o.kind b = true := by
 obtain ⟨g1, g2⟩ := h.goes _ (nx_next h9 h12)
 have h1 := h.at_
 have h0 : 0 ≤ nOf p o x.stack.length := by omega
 have e : x'.at_.toNat = x.at_.toNat + 1 := by omega
 have ea : (x'.at_ - 1).toNat = x.at_.toNat := by omega
 have eo : opBack p x' = o := by unfold opBack; rw [hf, ea]; exact h.op
 unfold frameB waitB
 rw [eo, hf, hl, e, ha, g2, hs]
 refine ⟨?_, ?_⟩
 ·rw [decide_eq_true h.fn, decide_eq_true h.locals, decide_eq_true (show 0 ≤ x.at_ + 1 ∧ x.at_ + 1 < ((funcOf p x.func).code.length : Nat) from ⟨by omega, by omega⟩), decide_eq_true h0]
  rfl
 ·rw [decide_eq_false (show ¬ x.at_ + 1 = 0 by omega), decide_eq_true rfl, decide_eq_true rfl]
  by_cases h11 : o.kind = 11
  ·rw [decide_eq_true h11, hb h11, decide_eq_true rfl]; rfl
  ·rw [decide_eq_false h11]; rfl
theorem wait_full {p : List GFunc} {x : GFrame} {k a : Int} (h : waitB p x k a = true) (hx : frameB p x = true) (v : Int) :
  frameB p { x with stack := x.stack ++ [v] } = true ∧ fullB p { x with stack := x.stack ++ [v] } = true := by
 have hs := waitB_stack h
 refine ⟨hx, ?_⟩
 unfold fullB
 refine decide_eq_true ?_
 show (((x.stack ++ [v]).length : Nat) : Int) = _
 rw [List.length_append, List.length_singleton]
 show ((x.stack.length + 1 : Nat) : Int) = (hgt p x.func).getD x.at_.toNat 0
 omega
theorem new_full {p : List GFunc} (hP : RightP p) {f : Int} (h0 : 0 ≤ f) (h1 : f < p.length) {l : List Int} (hl : (l.length : Int) = (funcOf p f).locals) : frameB p ⟨f, 0, l, []⟩ = true ∧ fullB p ⟨f, 0, l, []⟩ = true := by
 obtain ⟨hr, hh⟩ := right_hf hP h0 h1
 have hp := hh.pos
 have hz := hh.zero
 unfold frameB fullB
 rw [show (0 : Int).toNat = 0 from rfl, hz]
 refine ⟨?_, decide_eq_true rfl⟩
 rw [decide_eq_true (show 0 ≤ f ∧ f < (p.length : Int) from ⟨h0, h1⟩), decide_eq_true hl, decide_eq_true (show (0 : Int) ≤ 0 ∧ (0 : Int) < ((funcOf p f).code.length : Nat) from ⟨by omega, by omega⟩)]
 rfl
end Go.Proofs.YtgahbngbpfilgaaGreat
end
