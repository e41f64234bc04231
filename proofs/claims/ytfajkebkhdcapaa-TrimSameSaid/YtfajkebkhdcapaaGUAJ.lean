/- Merged texts: contracts and plain facts, one part behind another; each part begins with what it says. -/
import Derived.Test.YtfajkebkhdcapaaGUAC
import Derived.Test.YtfajkebkhdcapaaGUAE
import Derived.Test.YtfajkebkhdcapaaGUAF
import Derived.Test.YtfajkebkhdcapaaGUAG
import Derived.Test.YtfajkebkhdcapaaGUAI
section
/- Contract of trimBegun. -/
set_option maxHeartbeats 4000000
set_option maxRecDepth 100000
namespace Go.Proofs.Ytfajkebkhdcapaa
open Go Go.RowKit

theorem FuncV.wide {w : World} {S : Nat → Prop} {v : Value} {F : GFunc} (h : FuncV w S v F) : FuncV w (fun _ => True) v F := FuncV.stays (Stays.widen (fun _ _ => trivial)) h
theorem Funcs.wide {w : World} {S : Nat → Prop} {v : Value} {F : List GFunc} (h : Funcs w S v F) : Funcs w (fun _ => True) v F := Funcs.stays (Stays.widen (fun _ _ => trivial)) h

theorem trimFunc_val (p : List GFunc) (v : Value) (S : Nat → Prop) (f : Int) (w : World) (hp : Funcs w S v p) (r : Int) (F : GFunc) (n : Nat) (hr : hErr p f = r) (hF : trimF p f = F) (hn : F.code.length = n) :
    Calls Try.prog 27 #[v, .int .i64 f] w fun e w' => (∃ A L a c, e = .returned (.tuple #[.agg #[.int .i64 A, .int .i64 L, .slice a n c], .int .i64 r]) ∧ FuncV w' (fun _ => True) (.agg #[.int .i64 A, .int .i64 L, .slice a n c]) F) ∧ Ext w w' := by
  refine (trimFunc_any p v S f w hp).mono fun e w' ⟨⟨x, he, hx⟩, hb⟩ => ⟨?_, hb⟩
  rw [hF] at hx
  have hx2 := hx.wide
  obtain ⟨s, rfl, _, _, hops⟩ := hx
  obtain ⟨a, c, rfl, _, _, _⟩ := hops
  rw [hr] at he
  subst hn
  exact ⟨_, _, a, c, he, hx2⟩
theorem trimAll_val (p : List GFunc) (v : Value) (S : Nat → Prop) (w : World) (hp : Funcs w S v p) (r : Int) (q : List GFunc) (n : Nat) (hr : progErr p = r) (hq : trimP p = q) (hn : q.length = n) :
    Calls Try.prog 12 #[v] w fun e w' => (∃ a c, e = .returned (.tuple #[.slice a n c, .int .i64 r]) ∧ Funcs w' (fun _ => True) (.slice a n c) q) ∧ Ext w w' := by
  refine (trimAll_any p v S w hp).mono fun e w' ⟨⟨x, he, hx⟩, hb⟩ => ⟨?_, hb⟩
  rw [hq] at hx
  have hx2 := hx.wide
  obtain ⟨a, c, rfl, _, _, _⟩ := hx
  rw [hr] at he
  subst hn
  exact ⟨a, c, he, hx2⟩

def cut4 : List GOp := [⟨9, 2⟩, ⟨1, 0⟩, ⟨0, 1⟩, ⟨12, 0⟩]
def cut3 : List GOp := [⟨9, 1⟩, ⟨0, 1⟩, ⟨12, 0⟩]
theorem tc1 : hErr countP 1 = 0 := by decide
theorem tc2 : (trimF countP 1).code.length = 10 := by decide
theorem tc3 : progErr countP = 0 := by decide
theorem tc4 : (trimP countP).length = 3 := by decide
theorem tc5 : hErr [⟨0, 0, cut4⟩] 0 = 0 := by decide
theorem tc6 : trimF [⟨0, 0, cut4⟩] 0 = ⟨0, 0, cut3⟩ := by decide
theorem tc7 : hErr countP 3 = 5 := by decide
theorem tc8 : trimF countP 3 = ⟨0, 0, []⟩ := by decide

theorem funcV_new (w : World) (l : List GOp) (n : Nat) (hn : l.length = n) (cs : Array Value) (hcs : cs.toList = opCells l) (hI : ∀ x ∈ l, I64 x.kind ∧ I64 x.a) (hl : l.length ≤ 1000) (t : TypeId) :
    FuncV (w.alloc (.cells cs t)) (fun _ => True) (.agg #[.int .i64 0, .int .i64 0, .slice (some ⟨w.heap.size, 0, none⟩) n n]) ⟨0, 0, l⟩ := by
  subst hn
  exact ⟨_, rfl, ⟨by show (-9223372036854775808 : Int) ≤ 0; decide, by show (0 : Int) ≤ 9223372036854775807; decide⟩, ⟨by show (-9223372036854775808 : Int) ≤ 0; decide, by show (0 : Int) ≤ 9223372036854775807; decide⟩, ops_of_block (S := fun _ => True) l (heap_alloc_new _ _) hcs trivial hI (by omega)⟩

theorem trimBegun_any (w : World) : Calls Try.prog 13 #[] w fun e w' => e = .returned (.bool true) ∧ Ext w w' := by
  go_enter Try.func13, Try.ntmps13
  go_upto_region 2 with (first
    | (go_at_call 28; refine (count_any _).mono ?_; rintro e w1 ⟨⟨v, rfl, hv⟩, hb1⟩; have hf := hv.funcs)
    | (go_at_call 27; (with_reducible refine (trimFunc_val countP _ _ 1 _ hf _ _ 10 tc1 rfl tc2).mono ?_); rintro e w2 ⟨⟨A1, L1, a1, c1, rfl, hl1⟩, hb2⟩))
  have e2 : Ext w (w2.alloc (.cells #[.int .i64 A1, .int .i64 L1, .slice a1 10 c1] 55)) := by ((repeat (first | assumption | exact Ext.refl _ | (exact And.left (by assumption)) | refine Ext.alloc ?_ _ | refine Ext.drew ?_ | refine Ext.drewN ?_ _ | refine Ext.setCell ?_ (by simp) _ | refine Ext.setCell ?_ (by simp; omega) _ | refine Ext.trans ?_ (by assumption))); done)
  have cx2 := Cx.new w2 [.int .i64 A1, .int .i64 L1, .slice a1 10 c1] 55 (j := 2) rfl
  generalize w2.heap.size = bx1 at *
  generalize w2.alloc (.cells #[.int .i64 A1, .int .i64 L1, .slice a1 10 c1] 55) = w3 at *
  have E2 := Lib.hid e2
  have CX2 := Lib.hid cx2
  clear hf hv hb1 hb2 e2 hl1 cx2
  rename World => w3
  go_upto_region 3 with (first
    | (go_at_call 28; refine (count_any _).mono ?_; rintro e w1 ⟨⟨v, rfl, hv⟩, hb1⟩; have hf := hv.funcs)
    | (go_at_call 12; (with_reducible refine (trimAll_val countP _ _ _ hf _ _ 3 tc3 rfl tc4).mono ?_); rintro e w4 ⟨⟨a2, c2, rfl, hl2⟩, hb2⟩))
  have e3 : Ext w3 w4 := by ((repeat (first | assumption | exact Ext.refl _ | (exact And.left (by assumption)) | refine Ext.alloc ?_ _ | refine Ext.drew ?_ | refine Ext.drewN ?_ _ | refine Ext.setCell ?_ (by simp) _ | refine Ext.setCell ?_ (by simp; omega) _ | refine Ext.trans ?_ (by assumption))); done)
  have E3 := Lib.hid (E2.out.trans e3)
  have CX3 := Lib.hid (CX2.out.ext e3)
  clear hf hv hb1 hb2 e3 hl2 E2 CX2
  go_upto_region 4 with (first
    | (go_at_call 29; refine (o_any _ _ _).mono ?_; rintro e w1 ⟨rfl, hb⟩)
    | (go_at_call 27; (with_reducible refine (trimFunc_val [⟨0, 0, cut4⟩] _ _ 0 _ (prog_ops _ cut4 4 rfl #[.int .i64 9, .int .i64 2, .int .i64 1, .int .i64 0, .int .i64 0, .int .i64 1, .int .i64 12, .int .i64 0] rfl (small_ops (by decide)) (by decide) _ _) _ _ 3 tc5 tc6 rfl).mono ?_); rintro e w5 ⟨⟨A3, L3, a3, c3, rfl, hl3⟩, hb3⟩))
  have e4 : Ext w4 (w5.alloc (.cells #[.int .i64 A3, .int .i64 L3, .slice a3 3 c3] 55)) := by ((repeat (first | assumption | exact Ext.refl _ | (exact And.left (by assumption)) | refine Ext.alloc ?_ _ | refine Ext.drew ?_ | refine Ext.drewN ?_ _ | refine Ext.setCell ?_ (by simp) _ | refine Ext.setCell ?_ (by simp; omega) _ | refine Ext.trans ?_ (by assumption))); done)
  have y0 := Cx.new w5 [.int .i64 A3, .int .i64 L3, .slice a3 3 c3] 55 (j := 0) rfl
  have y1 := Cx.new w5 [.int .i64 A3, .int .i64 L3, .slice a3 3 c3] 55 (j := 1) rfl
  have y2 := Cx.new w5 [.int .i64 A3, .int .i64 L3, .slice a3 3 c3] 55 (j := 2) rfl
  have hl4 := FuncV.stays (Ext.stays ((Ext.refl w5).alloc (.cells #[.int .i64 A3, .int .i64 L3, .slice a3 3 c3] 55))) hl3
  generalize w5.heap.size = bx2 at *
  generalize w5.alloc (.cells #[.int .i64 A3, .int .i64 L3, .slice a3 3 c3] 55) = w6 at *
  have E4 := Lib.hid (E3.out.trans e4)
  have CX4 := Lib.hid (CX3.out.ext e4)
  have HL4 := Lib.hid hl4
  have Y := Lib.hid (⟨y0, y1, y2⟩ : _ ∧ _ ∧ _)
  clear e4 hl3 hl4 hb3 y0 y1 y2 E3 CX3
  rename World => w6
  go_upto_region 5 with (first
    | (go_at_call 28; refine (count_any _).mono ?_; rintro e w1 ⟨⟨v, rfl, hv⟩, hb1⟩; have hf := hv.funcs)
    | (go_at_call 27; (with_reducible refine (trimFunc_val countP _ _ 3 _ hf _ _ 0 tc7 tc8 rfl).mono ?_); rintro e w7 ⟨⟨A4, L4, a4, c4, rfl, hl5⟩, hb4⟩))
  have e5 : Ext w6 (w7.alloc (.cells #[.int .i64 A4, .int .i64 L4, .slice a4 0 c4] 55)) := by ((repeat (first | assumption | exact Ext.refl _ | (exact And.left (by assumption)) | refine Ext.alloc ?_ _ | refine Ext.drew ?_ | refine Ext.drewN ?_ _ | refine Ext.setCell ?_ (by simp) _ | refine Ext.setCell ?_ (by simp; omega) _ | refine Ext.trans ?_ (by assumption))); done)
  generalize w7.alloc (.cells #[.int .i64 A4, .int .i64 L4, .slice a4 0 c4] 55) = w8 at *
  have E5 := Lib.hid (E4.out.trans e5)
  have hx := CX4.out.ext e5
  have HL5 := Lib.hid (FuncV.stays (Ext.stays e5) HL4.out)
  have g0 := Y.out.1.ext e5
  have g1 := Y.out.2.1.ext e5
  have g2 := Y.out.2.2.ext e5
  clear hf hv hb1 hb4 e5 hl5 E4 CX4 HL4 Y
  rename World => w8
  obtain ⟨hx0, -⟩ := hx
  obtain ⟨g00, -⟩ := g0
  obtain ⟨g10, -⟩ := g1
  obtain ⟨g20, -⟩ := g2
  have RA := alloc_keep
  go_region_held3 (fun w' => Ext w8 w' ∧ ∀ a, (w8.cell? a).isSome = true → w'.cell? a = w8.cell? a)
    ((refine ext_both ?_; ((repeat (first | assumption | exact Ext.refl _ | (exact And.left (by assumption)) | refine Ext.alloc ?_ _ | refine Ext.drew ?_ | refine Ext.drewN ?_ _ | refine Ext.setCell ?_ (by simp) _ | refine Ext.setCell ?_ (by simp; omega) _ | refine Ext.trans ?_ (by assumption))); done)))
    ((first
      | (go_at_call 29; refine (o_any _ _ _).mono ?_; rintro e w9 ⟨rfl, hb⟩; have hc := Ext.keep hb)
      | (go_at_call 30; (with_reducible refine (sameFuncs_any ⟨0, 0, cut3⟩ ⟨0, 0, cut3⟩ _ _ (fun _ => True) (fun _ => True) _ (FuncV.stays (Ext.stays (by ((repeat (first | assumption | exact Ext.refl _ | (exact And.left (by assumption)) | refine Ext.alloc ?_ _ | refine Ext.drew ?_ | refine Ext.drewN ?_ _ | refine Ext.setCell ?_ (by simp) _ | refine Ext.setCell ?_ (by simp; omega) _ | refine Ext.trans ?_ (by assumption))); done))) HL5.out) (funcV_new _ cut3 3 rfl #[.int .i64 9, .int .i64 1, .int .i64 0, .int .i64 1, .int .i64 12, .int .i64 0] rfl (small_ops (by decide)) (by decide) _)).mono ?_); rintro e w10 ⟨rfl, hb10⟩; rw [show decide ((⟨0, 0, cut3⟩ : GFunc) = ⟨0, 0, cut3⟩) = true by decide])))
  all_goals
    go_wp2_with fail
    go_ret
    exact ⟨rfl, E5.out.trans (by ((repeat (first | assumption | exact Ext.refl _ | (exact And.left (by assumption)) | refine Ext.alloc ?_ _ | refine Ext.drew ?_ | refine Ext.drewN ?_ _ | refine Ext.setCell ?_ (by simp) _ | refine Ext.setCell ?_ (by simp; omega) _ | refine Ext.trans ?_ (by assumption))); done))⟩
end Go.Proofs.Ytfajkebkhdcapaa
end
section
/- Plain data of states: which are right, and the error. No program in sight; no condition. -/
namespace Go.Proofs.Ytfajkebkhdcapaa

/-- The heights of a program's function. -/
def hgt (p : List GFunc) (f : Int) : List Int := (hts p (p.getD f.toNat default).code).getD []
def funcOf (p : List GFunc) (f : Int) : GFunc := p.getD f.toNat default
def frameB (p : List GFunc) (x : GFrame) : Bool :=
  decide (0 ≤ x.func ∧ x.func < p.length) && decide ((x.locals.length : Int) = (funcOf p x.func).locals) && decide (0 ≤ x.at_ ∧ x.at_ < (funcOf p x.func).code.length) && decide (0 ≤ (hgt p x.func).getD x.at_.toNat 0)
/-- The op ahead of a frame's next one. -/
def opBack (p : List GFunc) (x : GFrame) : GOp := (funcOf p x.func).code.getD (x.at_ - 1).toNat default
def waitB (p : List GFunc) (x : GFrame) (kind a : Int) : Bool :=
  !decide (x.at_ = 0) && decide ((x.stack.length : Int) = (hgt p x.func).getD x.at_.toNat 0 - 1) && (decide ((opBack p x).kind = kind) && (!decide (kind = 11) || decide ((opBack p x).a = a)))
def fullB (p : List GFunc) (x : GFrame) : Bool := decide ((x.stack.length : Int) = (hgt p x.func).getD x.at_.toNat 0)
def allK (n : Nat) (g : Nat → Bool) : Bool := decide (∀ k, k < n → g k = true)
theorem allK_true {n : Nat} {g : Nat → Bool} (h : ∀ k, k < n → g k = true) : allK n g = true := decide_eq_true h
theorem allK_of {n : Nat} {g : Nat → Bool} (h : allK n g = true) : ∀ k, k < n → g k = true := of_decide_eq_true h
def freshB (p : List GFunc) (f : GFiber) : Bool :=
  decide (f.frames.length = 1) && decide ((f.frames.getD 0 default).at_ = 0) && decide ((funcOf p (f.frames.getD 0 default).func).args = 1) && decide ((f.frames.getD 0 default).stack.length = 0) && allK (f.frames.getD 0 default).locals.length (fun k => decide ((f.frames.getD 0 default).locals.getD k 0 = 0))
/-- Is a fiber's frame fine, and does it call the one above it? -/
def onB (p : List GFunc) (l : List GFrame) (k : Nat) : Bool :=
  frameB p (l.getD k default) && (!decide (k + 1 < l.length) || (decide (0 ≤ (l.getD (k + 1) default).func ∧ (l.getD (k + 1) default).func < p.length) && waitB p (l.getD k default) 11 (l.getD (k + 1) default).func))
def topB (p : List GFunc) (f : GFiber) (on runs : Bool) (x : GFrame) : Bool :=
  if runs then fullB p x else if on then waitB p x 14 0 else decide (f.caller = -1) && (freshB p f || waitB p x 15 0)
def fiberB (p : List GFunc) (f : GFiber) (on runs : Bool) : Bool :=
  if f.frames.length = 0 then !on && decide (f.caller = -1) else allK f.frames.length (onB p f.frames) && topB p f on runs (f.frames.getD (f.frames.length - 1) default)

/-- The fibers that go on: none where they go round. -/
def callerOf (fs : List GFiber) (n : Int) : Int := (fs.getD n.toNat default).caller
def lineGo (fs : List GFiber) : Nat → Int → List Int → Option (List Int)
  | 0, _, _ => none
  | k + 1, n, out => if n < 0 then some out else if n ∈ out then none else lineGo fs k (callerOf fs n) (out ++ [n])
def lineS (s : GState) : Option (List Int) := lineGo s.fibers (s.fibers.length + 2) s.now []
def lineEnd (l : List Int) : Bool := decide (l.length = 0) || decide (l.getD (l.length - 1) 0 = 0)

/-- A fiber of a state, its number and the line given. -/
def fibK (p : List GFunc) (s : GState) (line : List Int) (k : Nat) : Bool :=
  fiberB p (s.fibers.getD k default) (decide ((k : Int) ∈ line)) (decide ((k : Int) = s.now)) && !(decide (k = 0) && !decide ((0 : Int) ∈ line) && decide (0 < (s.fibers.getD 0 default).frames.length))
def callersB (s : GState) (k : Nat) : Bool := decide (-1 ≤ (s.fibers.getD k default).caller ∧ (s.fibers.getD k default).caller ≤ (s.fibers.length : Int) - 1)
def framesFew (s : GState) (k : Nat) : Bool := decide ((s.fibers.getD k default).frames.length ≤ 6)
def lineErr (p : List GFunc) (s : GState) : Int :=
  match lineS s with
  | none => 1
  | some l => if lineEnd l = false then 1 else if s.now = -1 ∧ 0 < (s.fibers.getD 0 default).frames.length then 1 else if allK s.fibers.length (fibK p s l) = false then 1 else 0
/-- A state's error. -/
def stateErr (p : List GFunc) (s : GState) : Int :=
  if progErr p ≠ 0 then progErr p else if 5 < s.fibers.length ∨ 30 < s.out.length then 2 else if allK s.fibers.length (framesFew s) = false then 2 else if s.fibers.length = 0 then 5
  else if ¬ (-1 ≤ s.now ∧ s.now ≤ (s.fibers.length : Int) - 1) then 3 else if allK s.fibers.length (callersB s) = false then 3 else lineErr p s

/-- The line so far: distinct numbers of fibers. -/
structure LineOn (fs : List GFiber) (n : Int) (out : List Int) : Prop where
  now : -1 ≤ n ∧ n ≤ (fs.length : Int) - 1
  nodup : out.Nodup
  range : ∀ x ∈ out, 0 ≤ x ∧ x < fs.length
theorem nodup_len : ∀ (m : Nat) (out : List Int), out.Nodup → (∀ x ∈ out, 0 ≤ x ∧ x < m) → out.length ≤ m
  | 0, out, _, h => by
    cases out with
    | nil => simp
    | cons x l => have := h x (by simp); omega
  | m + 1, out, hn, h => by
    have h1 := nodup_len m (out.filter (fun x => decide (x ≠ (m : Int)))) (hn.filter _) (fun x hx => by
      obtain ⟨hx1, hx2⟩ := List.mem_filter.1 hx
      have := h x hx1
      have : x ≠ (m : Int) := by simpa using hx2
      omega)
    have h2 : out.length ≤ (out.filter (fun x => decide (x ≠ (m : Int)))).length + 1 := by
      clear h h1
      induction out with
      | nil => simp
      | cons x l ih =>
        obtain ⟨hx, hl⟩ := List.nodup_cons.1 hn
        by_cases e : x = (m : Int)
        · have : l.filter (fun x => decide (x ≠ (m : Int))) = l := List.filter_eq_self.2 (fun y hy => by
            have : y ≠ (m : Int) := fun e2 => hx (by rw [e, ← e2]; exact hy)
            simpa using this)
          rw [List.filter_cons_of_neg (by simp [e]), this]
          simp
        · rw [List.filter_cons_of_pos (by simp [e])]
          have := ih hl
          simp only [List.length_cons]
          omega
    omega
theorem LineOn.len {fs : List GFiber} {n : Int} {out : List Int} (h : LineOn fs n out) : out.length ≤ fs.length := nodup_len _ _ h.nodup h.range
theorem LineOn.next {fs : List GFiber} {n : Int} {out : List Int} (h : LineOn fs n out) (h0 : 0 ≤ n) (hn : n ∉ out) (hc : ∀ k, k < fs.length → -1 ≤ (fs.getD k default).caller ∧ (fs.getD k default).caller ≤ (fs.length : Int) - 1) : LineOn fs (callerOf fs n) (out ++ [n]) := by
  have := h.now
  refine ⟨hc _ (by omega), ?_, fun x hx => ?_⟩
  · rw [List.nodup_append]
    exact ⟨h.nodup, by simp, fun a ha b hb e => by rw [List.mem_singleton] at hb; subst hb; subst e; exact hn ha⟩
  · rcases List.mem_append.1 hx with h1 | h1
    · exact h.range x h1
    · rw [List.mem_singleton] at h1; omega
end Go.Proofs.Ytfajkebkhdcapaa
end
section
/- Contracts of the document's has, frameFine, waits and fresh. -/
set_option maxHeartbeats 4000000
set_option maxRecDepth 100000
namespace Go.Proofs.Ytfajkebkhdcapaa
open Go Go.RowKit

theorem funcOf_nat {p : List GFunc} {k : Nat} (hk : k < p.length) : funcOf p k = p[k] := by
  unfold funcOf
  rw [show (k : Int).toNat = k by omega]
  simp [List.getD, List.getElem?_eq_getElem hk]

theorem Ints.at' {w : World} {S : Nat → Prop} {a : Option Addr} {l : List Int} {n c : Nat} (h : Ints w S (.slice a n c) l) {m : Nat} (hm : m < l.length) : ∃ b o, a = some ⟨b, o, none⟩ ∧ w.cell? ⟨b, o + m, none⟩ = some (.int .i64 (l.getD m 0)) := by
  obtain ⟨b, o, _, e1, _, _, _, x0, _⟩ := h.get hm
  simp only [Value.slice.injEq] at e1
  obtain ⟨rfl, -, rfl⟩ := e1
  rw [Nat.mul_one] at x0
  refine ⟨b, o, rfl, ?_⟩
  rw [x0]
  simp [List.getD, List.getElem?_eq_getElem hm]

end Go.Proofs.Ytfajkebkhdcapaa
end
section
/- Contract of the document's lineOf. -/
set_option maxHeartbeats 4000000
set_option maxRecDepth 100000
namespace Go.Proofs.Ytfajkebkhdcapaa
open Go Go.RowKit

def lenV : Value → Nat
  | .slice _ n _ => n
  | _ => 0

/-- What lineOf hands back. -/
def LineRet (B : Nat) (s : GState) (e : Ending) (w' : World) : Prop :=
  match lineS s with
  | none => e = .returned (.tuple #[.slice none 0 0, .bool false])
  | some l => ∃ a c, e = .returned (.tuple #[.slice a l.length c, .bool (lineEnd l)]) ∧ Ints w' (B ≤ ·) (.slice a l.length c) l

theorem lineGo_neg {fs : List GFiber} {k : Nat} {n : Int} {out : List Int} (h : n < 0) : lineGo fs (k + 1) n out = some out := by unfold lineGo; rw [if_pos h]
theorem lineGo_mem {fs : List GFiber} {k : Nat} {n : Int} {out : List Int} (h : ¬ n < 0) (hm : n ∈ out) : lineGo fs (k + 1) n out = none := by unfold lineGo; rw [if_neg h, if_pos hm]
theorem lineGo_next {fs : List GFiber} {k : Nat} {n : Int} {out : List Int} (h : ¬ n < 0) (hm : n ∉ out) : lineGo fs (k + 1) n out = lineGo fs k (callerOf fs n) (out ++ [n]) := by rw [lineGo, if_neg h, if_neg hm]

structure Callers (s : GState) : Prop where
  now : -1 ≤ s.now ∧ s.now ≤ (s.fibers.length : Int) - 1
  all : ∀ k, k < s.fibers.length → -1 ≤ (s.fibers.getD k default).caller ∧ (s.fibers.getD k default).caller ≤ (s.fibers.length : Int) - 1
  few : s.fibers.length ≤ 1000

end Go.Proofs.Ytfajkebkhdcapaa
end
