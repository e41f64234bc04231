/- Merged texts: contracts and plain facts, one part behind another; each part begins with what it says. -/
import Derived.Test.YtpcjkfppacnkgaaGreatDoorGNAF
import Derived.Test.YtpcjkfppacnkgaaGreatDoorGNAK
import Derived.Test.YtpcjkfppacnkgaaGreatDoorGNAQ
section
/- Plain facts of heights, as FlowTrue and FlowSame ask them. -/
set_option maxHeartbeats 1000000
namespace Go.Proofs.YtpcjkfppacnkgaaGreatDoor
open Go Go.RowKit

/-- What holds of a right function's heights. -/
structure HFacts (p : List GFunc) (C : List GOp) (l : List Int) : Prop where
  len : l.length = C.length
  pos : 0 < C.length
  zero : l.getD 0 0 = 0
  low : ∀ k, k < C.length → l.getD k 0 < 0 → l.getD k 0 = -1
  hi : ∀ k, k < C.length → l.getD k 0 ≤ 8
  thru : ∀ k, (hk : k < C.length) → 0 ≤ l.getD k 0 → takesOf p C[k] ≤ l.getD k 0 ∧ nOf p C[k] (l.getD k 0) ≤ 8 ∧ (C[k].kind = 12 → l.getD k 0 = 1) ∧ ∀ i ∈ nx C[k] k, i < C.length ∧ l.getD i 0 = nOf p C[k] (l.getD k 0)
  from_ : ∀ k, k < C.length → 0 ≤ l.getD k 0 → k ≠ 0 → ∃ j, ∃ hj : j < C.length, 0 ≤ l.getD j 0 ∧ k ∈ nx C[j] j

theorem hfacts {p : List GFunc} {F : GFunc} (hR : RightF p F) {l : List Int} (h : hts p F.code = some l) : HFacts p F.code l := by
  have hF := hts_full hR.jumps h
  refine ⟨hF.len, hF.zero.1, hF.zero.2, fun k hk h0 => by have := hF.low k hk; omega, fun k hk => ?_, fun k hk h0 => ?_, fun k hk h0 hne => ?_⟩
  · by_cases h0 : 0 ≤ l.getD k 0
    · rcases (hF.come k hk h0).from with ⟨_, h2⟩ | ⟨j, hh, hc, hj, hin, he⟩
      · omega
      · obtain ⟨_, e, h0'⟩ := hF.come_eq hc
        have := (badB_low (hF.thru j hj (by omega)).1).2.1
        rw [he, ← e]
        exact this
    · omega
  · obtain ⟨t1, t2⟩ := hF.thru k hk h0
    rw [getD_eq hk] at t1 t2
    obtain ⟨a1, a2, a3⟩ := badB_low t1
    refine ⟨a1, a2, fun h12 => ?_, t2⟩
    have h3 := a3 h12
    have ht : takesOf p F.code[k] = 1 := by unfold takesOf; rw [if_neg (by omega), if_pos (by omega)]
    have hl : leavesOf F.code[k] = 0 := by unfold leavesOf; rw [if_pos (by omega)]
    unfold nOf at h3
    omega
  · rcases (hF.come k hk h0).from with ⟨h1, _⟩ | ⟨j, hh, hc, hj, hin, _⟩
    · exact absurd h1 hne
    · obtain ⟨_, e, h0'⟩ := hF.come_eq hc
      rw [getD_eq hj] at hin
      exact ⟨j, hj, by rw [e]; exact h0', hin⟩

/-! Heights hang on nothing but how many args those have that are called. -/

theorem goT {p q : List GFunc} (ht : ∀ x, takesOf p x = takesOf q x) (x : GOp) (h : Int) : nOf p x h = nOf q x h ∧ badB p x h = badB q x h := by
  have : nOf p x h = nOf q x h := by unfold nOf; rw [ht]
  exact ⟨this, by unfold badB; rw [ht, this]⟩
theorem wl_same {p q : List GFunc} (ht : ∀ x, takesOf p x = takesOf q x) (code : List GOp) : ∀ (f : Nat) (out : List Int) (work : List Nat), wl p code f out work = wl q code f out work
  | 0, _, _ => rfl
  | _ + 1, _, [] => rfl
  | f + 1, out, k :: work => by
    unfold wl
    rw [(goT ht _ _).2, (goT ht _ _).1]
    split
    · rfl
    · split
      · rfl
      · exact wl_same ht code f _ _
theorem hts_same {p q : List GFunc} (ht : ∀ x, takesOf p x = takesOf q x) (code : List GOp) : hts p code = hts q code := by
  unfold hts; rw [wl_same ht]

/-- The same but for other functions' ops. -/
structure Sim (p q : List GFunc) : Prop where
  len : q.length = p.length
  same : ∀ k, (hp : k < p.length) → (hq : k < q.length) → q[k].args = p[k].args ∧ q[k].locals = p[k].locals

theorem Sim.getD {p q : List GFunc} (h : Sim p q) (k : Nat) : (q.getD k default).args = (p.getD k default).args ∧ (q.getD k default).locals = (p.getD k default).locals := by
  by_cases hk : k < p.length
  · have hq : k < q.length := by rw [h.len]; exact hk
    simp only [List.getD, List.getElem?_eq_getElem hk, List.getElem?_eq_getElem hq, Option.getD_some]
    exact h.same k hk hq
  · have hq : ¬ k < q.length := by rw [h.len]; exact hk
    simp [List.getD, List.getElem?_eq_none (by omega : p.length ≤ k), List.getElem?_eq_none (by omega : q.length ≤ k)]
theorem Sim.takes {p q : List GFunc} (h : Sim p q) (x : GOp) : takesOf q x = takesOf p x := by unfold takesOf; rw [(h.getD _).1]
theorem Sim.sized {p q : List GFunc} (h : Sim p q) (k : Nat) : sizedB (q.getD k default) = sizedB (p.getD k default) := by unfold sizedB; rw [(h.getD _).1, (h.getD _).2]
theorem Sim.opsErr {p q : List GFunc} (h : Sim p q) {F G : GFunc} (hl : F.locals = G.locals) (hc : F.code = G.code) : ∀ l : List GOp, opsErr q F l = opsErr p G l
  | [] => rfl
  | x :: l => by
    have : opErr q F x = opErr p G x := by unfold opErr mostOf; rw [hl, hc, h.len, h.sized, (h.getD _).1]
    unfold Proofs.YtpcjkfppacnkgaaGreatDoor.opsErr
    rw [this, Sim.opsErr h hl hc l]
theorem Sim.funcErr {p q : List GFunc} (h : Sim p q) {f : Int} (hc : (q.getD f.toNat default).code = (p.getD f.toNat default).code) : funcErr q f = funcErr p f := by
  unfold Proofs.YtpcjkfppacnkgaaGreatDoor.funcErr
  rw [h.len, hc, h.sized, h.opsErr (h.getD f.toNat).2 hc]
theorem Sim.heights {p q : List GFunc} (h : Sim p q) {f : Int} (hc : (q.getD f.toNat default).code = (p.getD f.toNat default).code) : hErr q f = hErr p f ∧ hList q f = hList p f := by
  unfold hErr hList
  rw [h.funcErr hc, hc, hts_same (fun x => h.takes x)]
  exact ⟨rfl, rfl⟩

theorem hErr_inv {p : List GFunc} {f : Int} (h : hErr p f = 0) : ∃ (n : Nat) (hn : n < p.length), f = n ∧ RightF p p[n] ∧ HFacts p p[n].code (hList p f) := by
  by_cases h0 : funcErr p f = 0
  · obtain ⟨n, hn, rfl, hg, hR⟩ := hts_here h0
    cases hh : hts p (p.getD (n : Int).toNat default).code with
    | none => rw [(hErr_none h0 hh).1] at h; cases h
    | some l =>
      refine ⟨n, hn, rfl, hR, ?_⟩
      rw [(hErr_some h0 hh).2]
      rw [hg] at hh
      exact hfacts hR hh
  · rw [(hErr_bad h0).1] at h; exact absurd h h0
end Go.Proofs.YtpcjkfppacnkgaaGreatDoor
end
section
/- Plain data: the frames of a right state. No program in sight; no condition. -/
set_option maxHeartbeats 1000000
namespace Go.Proofs.YtpcjkfppacnkgaaGreatDoor
open Go Go.RowKit

/-- What holds of each frame of a right state. -/
structure FrameF (p : List GFunc) (x : GFrame) : Prop where
  func : 0 ≤ x.func ∧ x.func < p.length
  locals : (x.locals.length : Int) = (funcOf p x.func).locals
  at_ : 0 ≤ x.at_ ∧ x.at_ < (funcOf p x.func).code.length
  stack : x.stack.length ≤ 8

theorem right_hf {p : List GFunc} (h : RightP p) {f : Int} (h0 : 0 ≤ f) (h1 : f < p.length) : RightF p (funcOf p f) ∧ HFacts p (funcOf p f).code (hgt p f) := by
  have hf : f.toNat < p.length := by omega
  have e : funcOf p f = p[f.toNat] := by unfold funcOf; simp [List.getD, List.getElem?_eq_getElem hf]
  have hr : RightF p (funcOf p f) := by
    rw [e]
    have e0 : ((f.toNat : Nat) : Int) = f := by omega
    have := h.func f.toNat hf
    rw [e0] at this
    exact (funcErr_zero this).2.2 hf
  refine ⟨hr, ?_⟩
  have hs := h.hts f.toNat hf
  unfold hgt
  have e2 : p.getD f.toNat default = funcOf p f := rfl
  rw [e2] at hs ⊢
  cases hh : hts p (funcOf p f).code with
  | none => rw [hh] at hs; cases hs
  | some l => exact hfacts hr hh

theorem frameB_facts {p : List GFunc} {x : GFrame} (h : frameB p x = true) : (0 ≤ x.func ∧ x.func < p.length) ∧ (x.locals.length : Int) = (funcOf p x.func).locals ∧ (0 ≤ x.at_ ∧ x.at_ < (funcOf p x.func).code.length) ∧ 0 ≤ (hgt p x.func).getD x.at_.toNat 0 := by
  unfold frameB at h
  simp only [Bool.and_eq_true, decide_eq_true_eq] at h
  exact ⟨h.1.1.1, h.1.1.2, h.1.2, h.2⟩
theorem waitB_stack {p : List GFunc} {x : GFrame} {k a : Int} (h : waitB p x k a = true) : (x.stack.length : Int) = (hgt p x.func).getD x.at_.toNat 0 - 1 := by
  unfold waitB at h
  simp only [Bool.and_eq_true, decide_eq_true_eq] at h
  exact h.1.2

theorem RightS.onF {p : List GFunc} {s : GState} {l : List Int} (h : RightS p s l) {k j : Nat} (hk : k < s.fibers.length) (hj : j < (s.fibers.getD k default).frames.length) :
    onB p (s.fibers.getD k default).frames j = true ∧ topB p (s.fibers.getD k default) (decide ((k : Int) ∈ l)) (decide ((k : Int) = s.now)) ((s.fibers.getD k default).frames.getD ((s.fibers.getD k default).frames.length - 1) default) = true := by
  have hb := h.fib k hk
  unfold fibK at hb
  rw [Bool.and_eq_true] at hb
  have hb := hb.1
  unfold fiberB at hb
  rw [if_neg (by omega), Bool.and_eq_true] at hb
  exact ⟨allK_of hb.1 j hj, hb.2⟩

theorem RightS.frameF {p : List GFunc} {s : GState} {l : List Int} (h : RightS p s l) {k j : Nat} (hk : k < s.fibers.length) (hj : j < (s.fibers.getD k default).frames.length) :
    FrameF p ((s.fibers.getD k default).frames.getD j default) := by
  obtain ⟨ho, ht⟩ := h.onF hk hj
  have hP := progErr_zero h.prog
  generalize s.fibers.getD k default = f at *
  unfold onB at ho
  rw [Bool.and_eq_true] at ho
  obtain ⟨ho1, ho2⟩ := ho
  obtain ⟨f1, f2, f3, f4⟩ := frameB_facts ho1
  refine ⟨f1, f2, f3, ?_⟩
  have hh := (right_hf hP f1.1 f1.2).2.hi (f.frames.getD j default).at_.toNat (by omega)
  by_cases hl : j + 1 < f.frames.length
  · rw [decide_eq_true hl] at ho2
    simp only [Bool.not_true, Bool.false_or, Bool.and_eq_true] at ho2
    have := waitB_stack ho2.2
    omega
  · obtain rfl : j = f.frames.length - 1 := by omega
    unfold topB at ht
    split at ht
    · unfold fullB at ht
      have := of_decide_eq_true ht
      omega
    · split at ht
      · have := waitB_stack ht; omega
      · rw [Bool.and_eq_true, Bool.or_eq_true] at ht
        rcases ht.2 with h2 | h2
        · unfold freshB at h2
          simp only [Bool.and_eq_true, decide_eq_true_eq] at h2
          have e1 : f.frames.length - 1 = 0 := by omega
          rw [e1]
          have := h2.1.2
          omega
        · have := waitB_stack h2; omega

end Go.Proofs.YtpcjkfppacnkgaaGreatDoor
end
section
/- Plain data: a right state's fibers and line, as a step keeps them. No program in sight; no condition. -/
set_option maxHeartbeats 1000000
namespace Go.Proofs.YtpcjkfppacnkgaaGreatDoor
open Go Go.RowKit

/-! A fiber's frames: those that wait for the one above, and the topmost. -/
def fnAt (fs : List GFrame) (g : Int) (j : Nat) : Int := if j + 1 < fs.length then (fs.getD (j + 1) default).func else g
def OnL (p : List GFunc) (fs : List GFrame) (g : Int) : Prop := ∀ j, j < fs.length → frameB p (fs.getD j default) = true ∧ waitB p (fs.getD j default) 11 (fnAt fs g j) = true

theorem getD_front {α : Type} [Inhabited α] {fs : List α} {x : α} {j : Nat} (h : j < fs.length) : (fs ++ [x]).getD j default = fs.getD j default := by
  simp [List.getD, List.getElem?_append_left h]
theorem getD_end {α : Type} [Inhabited α] {fs : List α} {x : α} : (fs ++ [x]).getD fs.length default = x := by simp [List.getD]
theorem fn_next (fs : List GFrame) (x : GFrame) {j : Nat} (h : j < fs.length) : ((fs ++ [x]).getD (j + 1) default).func = fnAt fs x.func j := by
  unfold fnAt
  by_cases hj : j + 1 < fs.length
  · rw [if_pos hj, getD_front hj]
  · rw [if_neg hj]
    have : j + 1 = fs.length := by omega
    rw [this, getD_end]

theorem frameB_func {p : List GFunc} {x : GFrame} (h : frameB p x = true) : 0 ≤ x.func ∧ x.func < p.length := (frameB_facts h).1

theorem fiber_split {p : List GFunc} {f : GFiber} {on runs : Bool} (h : fiberB p f on runs = true) (h0 : f.frames ≠ []) :
    ∃ fs x, f.frames = fs ++ [x] ∧ OnL p fs x.func ∧ frameB p x = true ∧ topB p f on runs x = true := by
  refine ⟨f.frames.dropLast, f.frames.getLast h0, (List.dropLast_concat_getLast h0).symm, ?_⟩
  have e := (List.dropLast_concat_getLast h0).symm
  generalize f.frames.dropLast = fs at *
  generalize f.frames.getLast h0 = x at *
  unfold fiberB at h
  rw [if_neg (by rw [e]; simp), Bool.and_eq_true] at h
  obtain ⟨h1, h2⟩ := h
  have h1 := allK_of h1
  rw [e] at h1 h2
  rw [List.length_append, List.length_singleton, Nat.add_sub_cancel, getD_end] at h2
  have hx := h1 fs.length (by simp)
  unfold onB at hx
  rw [getD_end, Bool.and_eq_true] at hx
  refine ⟨fun j hj => ?_, hx.1, h2⟩
  have hj1 := h1 j (by simp; omega)
  unfold onB at hj1
  rw [decide_eq_true (show j + 1 < (fs ++ [x]).length by simp; omega), fn_next fs x hj, getD_front hj] at hj1
  simp only [Bool.not_true, Bool.false_or, Bool.and_eq_true] at hj1
  exact ⟨hj1.1, hj1.2.2⟩

theorem fiber_join {p : List GFunc} {f : GFiber} {on runs : Bool} {fs : List GFrame} {x : GFrame} (e : f.frames = fs ++ [x]) (hl : OnL p fs x.func) (hx : frameB p x = true)
    (ht : topB p f on runs x = true) : fiberB p f on runs = true := by
  unfold fiberB
  rw [if_neg (by rw [e]; simp), Bool.and_eq_true]
  rw [e]
  refine ⟨allK_true fun j hj => ?_, ?_⟩
  · rw [List.length_append, List.length_singleton] at hj
    unfold onB
    by_cases hj1 : j < fs.length
    · obtain ⟨a1, a2⟩ := hl j hj1
      rw [decide_eq_true (show j + 1 < (fs ++ [x]).length by simp; omega), fn_next fs x hj1, getD_front hj1, a1, a2]
      have : 0 ≤ fnAt fs x.func j ∧ fnAt fs x.func j < p.length := by
        unfold fnAt
        split
        · exact frameB_func (hl _ (by assumption)).1
        · exact frameB_func hx
      rw [decide_eq_true this]
      rfl
    · obtain rfl : j = fs.length := by omega
      rw [getD_end, hx, decide_eq_false (by simp)]
      rfl
  · rw [List.length_append, List.length_singleton, Nat.add_sub_cancel, getD_end]
    exact ht

/-! The line. -/
def Lk (fs : List GFiber) : Int → List Int → Prop
  | n, [] => n < 0
  | n, k :: r => k = n ∧ 0 ≤ n ∧ n ∉ r ∧ Lk fs (callerOf fs n) r

theorem lk_of_go {fs : List GFiber} : ∀ (k : Nat) (n : Int) (out l : List Int), lineGo fs k n out = some l → ∃ r, l = out ++ r ∧ Lk fs n r ∧ ∀ x ∈ r, x ∉ out
  | 0, _, _, _, h => by cases h
  | k + 1, n, out, l, h => by
    rw [lineGo] at h
    by_cases hn : n < 0
    · rw [if_pos hn] at h
      cases h
      exact ⟨[], by simp, hn, fun _ h => by cases h⟩
    · rw [if_neg hn] at h
      by_cases hm : n ∈ out
      · rw [if_pos hm] at h; cases h
      · rw [if_neg hm] at h
        obtain ⟨r, e, h1, h2⟩ := lk_of_go k _ _ l h
        refine ⟨n :: r, by rw [e]; simp, ⟨rfl, by omega, fun hin => h2 n hin (by simp), h1⟩, fun x hx => ?_⟩
        rcases List.mem_cons.1 hx with rfl | hx
        · exact hm
        · exact fun ho => h2 x hx (by simp [ho])
theorem go_of_lk {fs : List GFiber} : ∀ (r : List Int) (k : Nat) (n : Int) (out : List Int), Lk fs n r → (∀ x ∈ r, x ∉ out) → r.length < k → lineGo fs k n out = some (out ++ r)
  | _, 0, _, _, _, _, h => by omega
  | [], k + 1, n, out, h, _, _ => by
    rw [lineGo, if_pos (show n < 0 from h)]; simp
  | m :: r, k + 1, n, out, ⟨hm, h0, h1, h2⟩, h3, h4 => by
    subst hm
    rw [List.length_cons] at h4
    rw [lineGo, if_neg (by omega), if_neg (h3 _ (by simp)), go_of_lk r k _ _ h2 (fun x hx ho => ?_) (by omega)]
    · simp
    · rcases List.mem_append.1 ho with ho | ho
      · exact h3 x (by simp [hx]) ho
      · rw [List.mem_singleton] at ho
        subst ho
        exact h1 hx
theorem lk_congr {fs gs : List GFiber} : ∀ {r : List Int} {n : Int}, (∀ x ∈ r, callerOf fs x = callerOf gs x) → Lk fs n r → Lk gs n r
  | [], _, _, h => h
  | m :: r, n, hc, ⟨hm, h0, h1, h2⟩ => by
    subst hm
    exact ⟨rfl, h0, h1, by rw [← hc _ (by simp)]; exact lk_congr (fun x hx => hc x (by simp [hx])) h2⟩
theorem lk_nodup {fs : List GFiber} : ∀ {r : List Int} {n : Int}, Lk fs n r → r.Nodup
  | [], _, _ => by simp
  | m :: r, n, ⟨hm, _, h1, h2⟩ => by
    subst hm
    exact List.nodup_cons.2 ⟨h1, lk_nodup h2⟩
theorem lk_range {fs : List GFiber} (hc : ∀ k, k < fs.length → (fs.getD k default).caller ≤ (fs.length : Int) - 1) : ∀ {r : List Int} {n : Int}, Lk fs n r → n ≤ (fs.length : Int) - 1 → ∀ x ∈ r, 0 ≤ x ∧ x < fs.length
  | [], _, _, _, _, hx => by cases hx
  | m :: r, n, ⟨hm, h0, h1, h2⟩, hn, x, hx => by
    subst hm
    rcases List.mem_cons.1 hx with rfl | hx
    · omega
    · exact lk_range hc h2 (hc _ (by omega)) x hx
theorem lineS_of {s : GState} {l : List Int} (h : Lk s.fibers s.now l) (hl : l.length ≤ s.fibers.length) : lineS s = some l := by
  unfold lineS
  rw [go_of_lk l _ _ [] h (fun _ _ h => by cases h) (by omega)]
  rfl
theorem lk_of {s : GState} {l : List Int} (h : lineS s = some l) : Lk s.fibers s.now l := by
  obtain ⟨r, e, h1, _⟩ := lk_of_go _ _ _ _ h
  rw [e]
  simpa using h1

/-- A right state, as a step keeps it. -/
structure Ok (p : List GFunc) (s : GState) (l : List Int) : Prop where
  prog : progErr p = 0
  few : s.fibers.length ≤ 5
  out : s.out.length ≤ 30
  frames : ∀ k, k < s.fibers.length → (s.fibers.getD k default).frames.length ≤ 6
  pos : 0 < s.fibers.length
  now : -1 ≤ s.now ∧ s.now ≤ (s.fibers.length : Int) - 1
  callers : ∀ k, k < s.fibers.length → -1 ≤ (s.fibers.getD k default).caller ∧ (s.fibers.getD k default).caller ≤ (s.fibers.length : Int) - 1
  lk : Lk s.fibers s.now l
  ends : lineEnd l = true
  zero : (0 : Int) ∉ l → (s.fibers.getD 0 default).frames.length = 0
  fib : ∀ k, k < s.fibers.length → fiberB p (s.fibers.getD k default) (decide ((k : Int) ∈ l)) (decide ((k : Int) = s.now)) = true
theorem RightS.ok {p : List GFunc} {s : GState} {l : List Int} (h : RightS p s l) : Ok p s l := by
  refine ⟨h.prog, h.few, h.out, h.frames, h.pos, h.callers.now, h.callers.all, lk_of h.line, h.ends, fun h0 => ?_, fun k hk => ?_⟩
  · have hb := h.fib 0 h.pos
    unfold fibK at hb
    rw [Bool.and_eq_true] at hb
    have h2 := hb.2
    rw [decide_eq_true rfl, decide_eq_false h0] at h2
    simp only [Bool.not_false, Bool.and_true, Bool.true_and] at h2
    have := of_decide_eq_false (by simpa using h2 : decide (0 < (s.fibers.getD 0 default).frames.length) = false)
    omega
  · have hb := h.fib k hk
    unfold fibK at hb
    rw [Bool.and_eq_true] at hb
    exact hb.1
theorem Ok.right {p : List GFunc} {s : GState} {l : List Int} (h : Ok p s l) : RightS p s l := by
  have hl : l.length ≤ s.fibers.length := nodup_len _ _ (lk_nodup h.lk) (lk_range (fun k hk => (h.callers k hk).2) h.lk h.now.2)
  refine ⟨h.prog, h.few, h.out, h.frames, h.pos, ⟨h.now, h.callers, by have := h.few; omega⟩, lineS_of h.lk hl, h.ends, fun ⟨h1, h2⟩ => ?_, fun k hk => ?_⟩
  · have : l = [] := by
      have := h.lk
      cases l with
      | nil => rfl
      | cons a r => obtain ⟨_, h0, _⟩ := this; omega
    have := h.zero (by rw [this]; simp)
    omega
  · unfold fibK
    rw [h.fib k hk, Bool.true_and]
    by_cases h0 : k = 0
    · subst h0
      by_cases hz : (0 : Int) ∈ l
      · rw [decide_eq_true hz]; simp
      · rw [decide_eq_false (show ¬ 0 < (s.fibers.getD 0 default).frames.length by rw [h.zero hz]; omega)]; simp
    · rw [decide_eq_false h0]; simp
end Go.Proofs.YtpcjkfppacnkgaaGreatDoor
end
section
/- A state in own memory: another stack of a top frame. Contracts of the document's push and pull. -/
set_option maxHeartbeats 4000000
set_option maxRecDepth 100000
namespace Go.Proofs.YtpcjkfppacnkgaaGreatDoor
open Go Go.RowKit

theorem OwnS.sep {P : PState} {L R : List PFiber} {y : PFiber} {F : List PFrame} {x : PFrame} {W : World} {B b : Nat} (h : OwnS W B b P) (hs : Spot P L y R F x) :
    (∀ k, rowBlock y.vf = some k → k ∉ x.bl) ∧ (∀ k, rowBlock x.vl = some k → rowBlock x.vs ≠ some k) ∧ x.bl.Nodup := by
  have h1 := (List.nodup_cons.1 h.nodup).2
  unfold PState.bl at h1
  rw [hs.fs, List.flatMap_append, List.flatMap_cons] at h1
  have h4 := (List.nodup_append.1 (List.nodup_append.1 (List.nodup_append.1 h1).2.1).2.1).1
  unfold PFiber.bl at h4
  rw [hs.fr, List.flatMap_append] at h4
  obtain ⟨_, h5, h6⟩ := List.nodup_append.1 h4
  have h7 := (List.nodup_append.1 h5).2.1
  rw [List.flatMap_cons, List.flatMap_nil, List.append_nil] at h7
  refine ⟨fun k hk hx => h6 k (by simp [hk]) k (by simp [hx]) rfl, fun k hk hv => ?_, h7⟩
  unfold PFrame.bl at h7
  exact (List.nodup_append.1 h7).2.2 k (by simp [hk]) k (by simp [hv]) rfl

/-- The top frame has another stack. -/
theorem OwnS.stack {P : PState} {L R : List PFiber} {y : PFiber} {F : List PFrame} {x : PFrame} {W W1 : World} {B b g o n cap : Nat} (h : OwnS W B b P) (hs : Spot P L y R F x) (hv : y.vf = .slice (some ⟨g, o, none⟩) n cap)
    {st : List Int} {v1 : Value} (hc : Chg (fun k => rowBlock x.vs = some k) W W1) (hr : RowAt W1 B 1 v1 st.length (ints st)) (hI : ∀ k ∈ st, I64 k) (hl : st.length ≤ 1000) (hb : rowBlock v1 = rowBlock x.vs ∨ ∀ k, rowBlock v1 = some k → W.heap.size ≤ k) :
    OwnS (W1.setCell ⟨g, o + F.length * 4 + 3, none⟩ v1) B b (replTop P L y R F ⟨{ x.f with stack := st }, x.vl, v1⟩) ∧ Chg (fun k => rowBlock y.vf = some k ∨ rowBlock x.vs = some k) W (W1.setCell ⟨g, o + F.length * 4 + 3, none⟩ v1) := by
  obtain ⟨s1, s2, s3⟩ := h.sep hs
  have hy := h.fs y (by rw [hs.fs]; simp)
  have hx := hy.fr x (by rw [hs.fr]; simp)
  have hrow := hy.row
  rw [hs.fr] at hrow
  obtain ⟨g', o', cap', e1, hbl, _⟩ := RowAt.place frameF (fun _ => rfl) hrow
  rw [hv] at e1
  simp only [Value.slice.injEq, Option.some.injEq, Addr.mk.injEq] at e1
  obtain ⟨⟨rfl, rfl, -⟩, -, rfl⟩ := e1
  have hgs : g < W.heap.size := hy.lt g (by unfold PFiber.bl; simp [hbl])
  have hgx : rowBlock x.vs ≠ some g := fun e => s1 g hbl (by unfold PFrame.bl; simp [e])
  have hgl : rowBlock x.vl ≠ some g := fun e => s1 g hbl (by unfold PFrame.bl; simp [e])
  have hg1 : ∀ k, rowBlock v1 = some k → k ≠ g := fun k hk e => by
    subst e
    rcases hb with h1 | h1
    · exact hgx (h1 ▸ hk)
    · have := h1 k hk; omega
  have hCh : Chg (fun k => rowBlock y.vf = some k ∨ rowBlock x.vs = some k) W (W1.setCell ⟨g, o + F.length * 4 + 3, none⟩ v1) := (hc.mono (fun _ _ e => .inr e)).setCell (p := ⟨g, o + F.length * 4 + 3, none⟩) (.inl (.inl hbl)) v1
  refine ⟨h.frame hs.fs hs.fr hCh (fun k hk _ => hk.imp id (fun e => by unfold PFrame.bl; simp [e])) ⟨⟨hx.i.1, hx.i.2.1, hx.i.2.2.1, hI⟩, ?_, ?_, hx.few.1, hl⟩ ?_ ?_ ?_, hCh⟩
  · refine hx.l.chg hCh (fun k hk hm => ?_) (by decide)
    rcases hm with h1 | h1
    · rw [hbl] at h1; cases h1; exact hgl hk
    · exact s2 k hk h1
  · exact hr.chg (chg_one W1 g (o + F.length * 4 + 3) v1) (fun k hk e => hg1 k hk e) (by decide)
  · have hrow1 := hrow.chg hc (fun k hk e => by rw [hbl] at hk; cases hk; exact hgx e) (by decide)
    rw [hv] at hrow1 ⊢
    exact hrow1.storeAt frameF (fun _ => rfl) (by decide) rfl
  · unfold PFrame.bl
    rw [List.nodup_append]
    refine ⟨by cases rowBlock x.vl <;> simp, by cases rowBlock v1 <;> simp, fun a ha c hc' e => ?_⟩
    subst e
    have ha' : rowBlock x.vl = some a := by simpa using ha
    have hc2 : rowBlock v1 = some a := by simpa using hc'
    rcases hb with h1 | h1
    · exact s2 a ha' (h1 ▸ hc2)
    · have h2 := h1 a hc2
      have h3 := hx.lt a (by unfold PFrame.bl; simp [ha'])
      omega
  · intro k hk
    unfold PFrame.bl at hk ⊢
    rcases List.mem_append.1 hk with h1 | h1
    · exact .inl (List.mem_append.2 (.inl h1))
    · have h2 : rowBlock v1 = some k := by simpa using h1
      rcases hb with h3 | h3
      · exact .inl (List.mem_append.2 (.inr (by rw [← h3]; exact h1)))
      · exact .inr (h3 k h2)

/-- A place's pieces, for a walk. -/
theorem OwnS.spot {P : PState} {L R : List PFiber} {y : PFiber} {F : List PFrame} {x : PFrame} {W : World} {B b : Nat} (h : OwnS W B b P) (hs : Spot P L y R F x) :
    ∃ g o cap, y.vf = .slice (some ⟨g, o, none⟩) (F ++ [x]).length cap ∧ (F ++ [x]).length ≤ cap ∧ cap ≤ maxLen ∧ Cx W g (o + F.length * 4) (.int .i64 x.f.func) ∧ Cx W g (o + F.length * 4 + 1) (.int .i64 x.f.at_) ∧ Cx W g (o + F.length * 4 + 2) x.vl ∧ Cx W g (o + F.length * 4 + 3) x.vs ∧ rowBlock y.vf = some g := by
  have hy := h.fs y (by rw [hs.fs]; simp)
  have hrow := hy.row
  rw [hs.fr] at hrow
  obtain ⟨g, o, cap, e1, hbl, hc, hm, hx⟩ := RowAt.place frameF (fun _ => rfl) hrow
  exact ⟨g, o, cap, e1, hc, hm, hx 0 _ (by decide) rfl, hx 1 _ (by decide) rfl, hx 2 _ (by decide) rfl, hx 3 _ (by decide) rfl, hbl⟩

theorem RowAt.cut {w : World} {base n cap : Nat} {a : Option Addr} {l : List Int} {u : Int} (h : RowAt w base 1 (.slice a (l ++ [u]).length cap) (l ++ [u]).length (ints (l ++ [u]))) (hn : n = l.length) : RowAt w base 1 (.slice a n cap) l.length (ints l) := by
  obtain ⟨hl, a', cap', e, h1, h2, h3⟩ := h
  simp only [Value.slice.injEq] at e
  obtain ⟨rfl, -, rfl⟩ := e
  subst hn
  rw [List.length_append, List.length_singleton] at h1
  refine ⟨by rw [ints_len]; omega, _, _, rfl, by omega, h2, h3.imp id ?_⟩
  rintro ⟨g, o, rfl, hb, hc, ht⟩
  refine ⟨g, o, rfl, hb, fun j hj => ?_, ht⟩
  rw [hc j (by rw [List.length_append, List.length_singleton]; omega), ints_app, List.getElem?_append_left (by rw [ints_len]; omega)]

end Go.Proofs.YtpcjkfppacnkgaaGreatDoor
end
