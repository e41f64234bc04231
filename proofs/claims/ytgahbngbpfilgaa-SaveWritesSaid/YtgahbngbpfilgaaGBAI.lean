/- Merged texts: contracts and plain facts, one part behind another; each part begins with what it says. -/
import Derived.Test.YtgahbngbpfilgaaGBAA
import Derived.Test.YtgahbngbpfilgaaGBAC
import Derived.Test.YtgahbngbpfilgaaGBAD
import Derived.Test.YtgahbngbpfilgaaGBAF
import Derived.Test.YtgahbngbpfilgaaGBAH
import Derived.StillTail
section
/- Contracts of the document's BeginOf, and of state's Frame, First, Begin. -/
set_option maxHeartbeats 4000000
set_option maxRecDepth 100000
namespace Go.Proofs.Ytgahbngbpfilgaa
open Go Go.RowKit

def freshFrame (p : List GFunc) (f : Int) : GFrame := ⟨f, 0, List.replicate (funcOf p f).locals.toNat 0, []⟩
def beginG (p : List GFunc) : GState := ⟨[⟨[freshFrame p 0], -1⟩], 0, []⟩

theorem I64.zero : I64 0 := I64.small (by decide) (by decide)
theorem I64.neg1 : I64 (-1) := I64.small (by decide) (by decide)
theorem FrameV.cells {w : World} {S : Nat → Prop} {x : GFrame} {sl st : Value} {b o : Nat} (h : FrameV w S (.agg #[.int .i64 x.func, .int .i64 x.at_, sl, st]) x) (hb : S b)
    (h0 : w.cell? ⟨b, o, none⟩ = some (.int .i64 x.func)) (h1 : w.cell? ⟨b, o + 1, none⟩ = some (.int .i64 x.at_)) (h2 : w.cell? ⟨b, o + 2, none⟩ = some sl) (h3 : w.cell? ⟨b, o + 3, none⟩ = some st) : FrameC w S b o x := by
  obtain ⟨s, t, e, i0, i1, hl, hs⟩ := h
  simp only [Value.agg.injEq] at e
  simp at e
  obtain ⟨rfl, rfl⟩ := e
  exact ⟨⟨hb, h0, i0⟩, ⟨hb, h1, i1⟩, ⟨_, h2, hl⟩, _, h3, hs⟩

/-- A first state in its new blocks, handed back in a box of the call. -/
theorem begin_state {w3 : World} {B base bx : Nat} {x : GFrame} {sl st : Value} (t1 t2 : TypeId) (h : FrameV w3 (base ≤ ·) (.agg #[.int .i64 x.func, .int .i64 x.at_, sl, st]) x) (hB : B ≤ bx) (hb : bx < base) (hb3 : bx < w3.heap.size) (u v z : Value) :
    StateV (((((w3.alloc (.cells #[.int .i64 x.func, .int .i64 x.at_, sl, st] t1)).alloc (.cells #[.slice (some ⟨w3.heap.size, 0, none⟩) 1 1, .int .i64 (-1)] t2)).setCell ⟨bx, 0, none⟩ u).setCell ⟨bx, 1, none⟩ v).setCell ⟨bx, 2, none⟩ z) (B ≤ ·)
      (.agg #[.slice (some ⟨w3.heap.size + 1, 0, none⟩) 1 1, .int .i64 0, .slice none 0 0]) ⟨[⟨[x], -1⟩], 0, []⟩ := by
  have hs4 : (w3.alloc (.cells #[.int .i64 x.func, .int .i64 x.at_, sl, st] t1)).heap.size = w3.heap.size + 1 := Array.size_push _
  have hE4 : Ext w3 (w3.alloc (.cells #[.int .i64 x.func, .int .i64 x.at_, sl, st] t1)) := (Ext.refl _).alloc _
  have f0 := Cx.new w3 [.int .i64 x.func, .int .i64 x.at_, sl, st] t1 (j := 0) rfl
  have f1 := Cx.new w3 [.int .i64 x.func, .int .i64 x.at_, sl, st] t1 (j := 1) rfl
  have f2 := Cx.new w3 [.int .i64 x.func, .int .i64 x.at_, sl, st] t1 (j := 2) rfl
  have f3 := Cx.new w3 [.int .i64 x.func, .int .i64 x.at_, sl, st] t1 (j := 3) rfl
  generalize w3.alloc (.cells [.int .i64 x.func, .int .i64 x.at_, sl, st].toArray t1) = w4 at *
  have hE5 : Ext w4 (w4.alloc (.cells #[.slice (some ⟨w3.heap.size, 0, none⟩) 1 1, .int .i64 (-1)] t2)) := (Ext.refl _).alloc _
  have g0 := Cx.new w4 [.slice (some ⟨w3.heap.size, 0, none⟩) 1 1, .int .i64 (-1)] t2 (j := 0) rfl
  have g1 := Cx.new w4 [.slice (some ⟨w3.heap.size, 0, none⟩) 1 1, .int .i64 (-1)] t2 (j := 1) rfl
  rw [hs4] at g0 g1
  generalize w4.alloc (.cells [.slice (some ⟨w3.heap.size, 0, none⟩) 1 1, .int .i64 (-1)].toArray t2) = w5 at *
  have hch := chg3 w5 bx u v z
  generalize ((w5.setCell ⟨bx, 0, none⟩ u).setCell ⟨bx, 1, none⟩ v).setCell ⟨bx, 2, none⟩ z = w6 at *
  have hfr : FrameV w6 (B ≤ ·) (.agg #[.int .i64 x.func, .int .i64 x.at_, sl, st]) x := FrameV.stays (S := (base ≤ ·)) (fun b o u' hb' hc => ⟨hch.cell (by show ¬ b = bx; have : base ≤ b := hb'; omega) (Ext.cell (hE4.trans hE5) hc), by show B ≤ b; have : base ≤ b := hb'; omega⟩) h
  have k : ∀ j u', Cx w4 w3.heap.size j u' → w6.cell? ⟨w3.heap.size, j, none⟩ = some u' := fun j u' h => ((h.ext hE5).chg hch (by omega)).1
  have k' : ∀ j u', Cx w5 (w3.heap.size + 1) j u' → w6.cell? ⟨w3.heap.size + 1, j, none⟩ = some u' := fun j u' h => (h.chg hch (by omega)).1
  refine ⟨_, _, rfl, Sl.one ⟨⟨_, k' _ _ g0, Sl.one (FrameV.cells hfr (by show B ≤ w3.heap.size; omega) (k _ _ f0) (k _ _ f1) (k _ _ f2) (k _ _ f3)) (by decide)⟩, by show B ≤ w3.heap.size + 1; omega, k' _ _ g1, I64.neg1⟩ (by decide), I64.zero, Sl.nil _ _ _⟩

theorem beginOf_any (p : List GFunc) (v : Value) (S : Nat → Prop) (w : World) (hp : Funcs w S v p) (hz : progErr p = 0) :
    Calls Try.prog 79 #[v] w fun e w' => (∃ x, e = .returned x ∧ StateV w' (w.heap.size ≤ ·) x (beginG p)) ∧ Ext w w' := by
  have hRP := progErr_zero hz
  have hpos := hRP.pos
  obtain ⟨_, _, hR'⟩ := funcErr_zero (hRP.func 0 hpos)
  have hR : RightF p p[0] := by have := hR' (by simpa using hpos); simpa using this
  have hloc := hR.locals
  have hF : funcOf p 0 = p[0] := by unfold funcOf; simp [List.getD, List.getElem?_eq_getElem hpos]
  obtain ⟨b, o, cap, rfl, hcap, hby, _, ⟨_, hL, iL⟩, _⟩ := hp.get hpos
  rw [Nat.zero_mul, Nat.add_zero] at hL
  obtain ⟨N, hN⟩ : ∃ N : Nat, p[0].locals = N := ⟨p[0].locals.toNat, by omega⟩
  have HG : Hid (freshFrame p 0 = ⟨0, 0, List.replicate N 0, []⟩) := by unfold Hid freshFrame; rw [hF, hN]; rfl
  rw [hN] at hL hloc
  have hN4 : N ≤ 4 := by omega
  obtain ⟨i0, hi0, hz0, hz1, hz2⟩ := info_parts infoI
  have RA := alloc_keep
  have c0 := Lib.hid (Cx.new w [.slice none 0 0, .int .i64 0, .slice none 0 0] 26 (j := 0) rfl)
  have c1 := Lib.hid (Cx.new w [.slice none 0 0, .int .i64 0, .slice none 0 0] 26 (j := 1) rfl)
  have c2 := Lib.hid (Cx.new w [.slice none 0 0, .int .i64 0, .slice none 0 0] 26 (j := 2) rfl)
  clear hz hRP hR hF hp hN hR'
  go_enter Try.func79, Try.ntmps79
  go_wp2_with (first
    | (at_make; refine wpList_make_full _ rfl _ _ 24 rfl (w.heap.size + 1) 3 i0 (.int .i64 0) 1 Try.underlying24 hi0 hz0 hz1 .i64 .i64 _ _ N rfl rfl rfl rfl (by rw [hz2]; omega) (by unfold maxLen; omega) (by simp) ?_; intro w3 hown3 hgr3; have hE3 := ext_none hgr3; have hrow := IRow.made hown3; have HE4 := Lib.hid ((hE3.alloc (.cells #[.int .i64 0, .int .i64 0, .slice (some ⟨w.heap.size + 1, 0, none⟩) N N, .slice none 0 0] 70)).alloc (.cells #[.slice (some ⟨w3.heap.size, 0, none⟩) 1 1, .int .i64 (-1)] 68)); obtain ⟨⟨d0, d0'⟩, ⟨d1, d1'⟩, ⟨d2, d2'⟩⟩ := (⟨c0.out.ext HE4.out, c1.out.ext HE4.out, c2.out.ext HE4.out⟩ : _ ∧ _ ∧ _)))
  have hs1 : (w.alloc (.cells #[.slice none 0 0, .int .i64 0, .slice none 0 0] 26)).heap.size = w.heap.size + 1 := Array.size_push _
  rw [hs1] at hrow
  have hfr : FrameV w3 (w.heap.size + 1 ≤ ·) (.agg #[.int .i64 0, .int .i64 0, .slice (some ⟨w.heap.size + 1, 0, none⟩) N N, .slice none 0 0]) ⟨0, 0, List.replicate N 0, []⟩ := by
    refine ⟨_, _, rfl, I64.zero, I64.zero, ?_, Sl.nil _ _ _⟩
    show Ints w3 _ _ (List.replicate N 0)
    have := hrow.ints (by rw [List.length_replicate]; omega) (fun x hx => by rw [List.eq_of_mem_replicate hx]; exact I64.small (by decide) (by decide)) (w.heap.size + 1 ≤ ·) (fun _ h => h)
    rwa [List.length_replicate] at this
  have hsz := hE3.size
  have hs1 : (w.alloc (.cells #[.slice none 0 0, .int .i64 0, .slice none 0 0] 26)).heap.size = w.heap.size + 1 := Array.size_push _
  refine bodyPost_ret (results_cell_mid rfl _ _ w.heap.size 0 _ _ rfl (box3 ⟨d0, d0'⟩ ⟨d1, d1'⟩ ⟨d2, d2'⟩ _ _ _) rfl rfl (by kernel_rfl)) rfl ?_
  refine ⟨⟨_, rfl, ?_⟩, ext3 (((Ext.refl w).alloc _).trans HE4.out) _ _ _⟩
  unfold beginG
  rw [HG.out]
  exact begin_state (x := ⟨0, 0, List.replicate N 0, []⟩) 70 68 hfr (Nat.le_refl _) (Nat.lt_succ_self _) (by omega) _ _ _

theorem range4 {w : World} {b : Nat} {x y z u : Value} (h0 : w.cell? ⟨b, 0, none⟩ = some x) (h1 : w.cell? ⟨b, 1, none⟩ = some y) (h2 : w.cell? ⟨b, 2, none⟩ = some z) (h3 : w.cell? ⟨b, 3, none⟩ = some u) : w.rangeAt b 0 [x, y, z, u] := by
  intro j v hj
  rw [Nat.zero_add]
  match j, hj with
  | 0, hj => cases hj; exact h0
  | 1, hj => cases hj; exact h1
  | 2, hj => cases hj; exact h2
  | 3, hj => cases hj; exact h3
theorem box4 {W : World} {b : Nat} {u0 u1 u2 u3 : Value} (h0 : Cx W b 0 u0) (h1 : Cx W b 1 u1) (h2 : Cx W b 2 u2) (h3 : Cx W b 3 u3) (x y z u : Value) :
    ((((W.setCell ⟨b, 0, none⟩ x).setCell ⟨b, 1, none⟩ y).setCell ⟨b, 2, none⟩ z).setCell ⟨b, 3, none⟩ u).rangeAt b 0 [x, y, z, u] :=
  range4 ((((h0.set x).other (.inr (by decide)) y).other (.inr (by decide)) z).other (.inr (by decide)) u).1 ((((h1.other (.inr (by decide)) x).set y).other (.inr (by decide)) z).other (.inr (by decide)) u).1
    ((((h2.other (.inr (by decide)) x).other (.inr (by decide)) y).set z).other (.inr (by decide)) u).1 ((((h3.other (.inr (by decide)) x).other (.inr (by decide)) y).other (.inr (by decide)) z).set u).1
end Go.Proofs.Ytgahbngbpfilgaa
end
section
/- States as bytes: plain facts. No program in sight; no condition. -/
set_option maxRecDepth 100000
namespace Go.Proofs.Ytgahbngbpfilgaa
open Go Go.RowKit

def by8 (n : Int) : UInt8 := UInt8.ofNat (n % 256).toNat
theorem by8_nat (b : UInt8) : by8 (b.toNat : Int) = b := by
  unfold by8
  have h := b.toNat_lt
  have e : (((b.toNat : Nat) : Int) % 256).toNat = b.toNat := by omega
  rw [e, UInt8.ofNat_toNat]
theorem by8_val (n : Int) : ((by8 n).toNat : Int) = n % 256 := by
  unfold by8
  rw [UInt8.toNat_ofNat']
  omega
theorem by8_of {n : Int} {b : UInt8} (h : n % 256 = (b.toNat : Int)) : by8 n = b := by
  unfold by8
  rw [h, Int.toNat_natCast, UInt8.ofNat_toNat]

/-- Bytes of a number, a list of them, a frame, a fiber, a state. -/
def eightL (n : Int) : List UInt8 := [by8 (n / 256 / 256 / 256 / 256 / 256 / 256 / 256), by8 (n / 256 / 256 / 256 / 256 / 256 / 256), by8 (n / 256 / 256 / 256 / 256 / 256), by8 (n / 256 / 256 / 256 / 256), by8 (n / 256 / 256 / 256), by8 (n / 256 / 256), by8 (n / 256), by8 n]
def manyL (l : List Int) : List UInt8 := by8 l.length :: l.flatMap eightL
def frameL (x : GFrame) : List UInt8 := by8 x.func :: by8 x.at_ :: (manyL x.locals ++ manyL x.stack)
def fiberL (f : GFiber) : List UInt8 := by8 (f.caller + 1) :: by8 f.frames.length :: f.frames.flatMap frameL
def stateL (s : GState) : List UInt8 := by8 (s.now + 1) :: by8 s.fibers.length :: (s.fibers.flatMap fiberL ++ manyL s.out)

/-- Reading: none: it ends too early. -/
abbrev Rd (α : Type) := List UInt8 → Option (α × List UInt8)
def rd1 : Rd Int
  | [] => none
  | b :: r => some ((b.toNat : Int), r)
def rdN {α : Type} (one : Rd α) : Nat → Rd (List α)
  | 0, r => some ([], r)
  | n + 1, r => match one r with
    | none => none
    | some (x, r1) => match rdN one n r1 with
      | none => none
      | some (l, r2) => some (x :: l, r2)
def rdL {α : Type} (one : Rd α) : Rd (List α) := fun r => match rd1 r with
  | none => none
  | some (n, r1) => rdN one n.toNat r1
def rdU : Nat → Int → Rd Int
  | 0, u, r => some (u, r)
  | _ + 1, _, [] => none
  | k + 1, u, b :: r => rdU k (u * 256 + (b.toNat : Int)) r
def rdW : Rd Int := fun r => match rdU 8 0 r with
  | none => none
  | some (u, r1) => some (wrap64 u, r1)
def rdF : Rd GFrame := fun r => match rd1 r with
  | none => none
  | some (f, r1) => match rd1 r1 with
    | none => none
    | some (a, r2) => match rdL rdW r2 with
      | none => none
      | some (l, r3) => match rdL rdW r3 with
        | none => none
        | some (t, r4) => some (⟨f, a, l, t⟩, r4)
def rdB : Rd GFiber := fun r => match rd1 r with
  | none => none
  | some (c, r1) => match rdL rdF r1 with
    | none => none
    | some (l, r2) => some (⟨l, c - 1⟩, r2)
def rdS : Rd GState := fun r => match rd1 r with
  | none => none
  | some (c, r1) => match rdL rdB r1 with
    | none => none
    | some (l, r2) => match rdL rdW r2 with
      | none => none
      | some (o, r3) => some (⟨l, c - 1, o⟩, r3)

/-- One reads what was written; and what is read was written so. -/
def Back {α : Type} (one : Rd α) (enc : α → List UInt8) (x : α) : Prop := ∀ r, one (enc x ++ r) = some (x, r)
def Forth {α : Type} (one : Rd α) (enc : α → List UInt8) : Prop := ∀ b x r, one b = some (x, r) → b = enc x ++ r

theorem rdN_back {α : Type} {one : Rd α} {enc : α → List UInt8} : ∀ (l : List α) (r : List UInt8), (∀ x ∈ l, Back one enc x) → rdN one l.length (l.flatMap enc ++ r) = some (l, r)
  | [], r, _ => rfl
  | x :: l, r, h => by
    have h1 := h x (by simp)
    rw [List.length_cons, rdN, List.flatMap_cons, List.append_assoc, h1]
    simp only
    rw [rdN_back l r fun y hy => h y (by simp [hy])]
theorem rdN_forth {α : Type} {one : Rd α} {enc : α → List UInt8} (h : Forth one enc) : ∀ (n : Nat) (b : List UInt8) (l : List α) (r : List UInt8), rdN one n b = some (l, r) → l.length = n ∧ b = l.flatMap enc ++ r
  | 0, b, l, r, e => by
    rw [rdN] at e
    cases e
    exact ⟨rfl, rfl⟩
  | n + 1, b, l, r, e => by
    rw [rdN] at e
    cases h1 : one b with
    | none => rw [h1] at e; cases e
    | some v =>
      obtain ⟨x, r1⟩ := v
      rw [h1] at e
      simp only at e
      cases h2 : rdN one n r1 with
      | none => rw [h2] at e; cases e
      | some v =>
        obtain ⟨l', r2⟩ := v
        rw [h2] at e
        cases e
        obtain ⟨a1, a2⟩ := rdN_forth h n r1 l' r h2
        refine ⟨by rw [List.length_cons, a1], ?_⟩
        rw [h b x r1 h1, a2, List.flatMap_cons, List.append_assoc]
def listL {α : Type} (enc : α → List UInt8) (l : List α) : List UInt8 := by8 l.length :: l.flatMap enc
theorem rdL_back {α : Type} {one : Rd α} {enc : α → List UInt8} {l : List α} (hl : l.length < 256) (h : ∀ x ∈ l, Back one enc x) : Back (rdL one) (listL enc) l := by
  intro r
  have e : ((by8 (l.length : Int)).toNat : Int) = l.length := by rw [by8_val]; omega
  unfold rdL listL
  rw [List.cons_append, rd1]
  simp only
  rw [e, Int.toNat_natCast]
  exact rdN_back l r h
theorem rdL_forth {α : Type} {one : Rd α} {enc : α → List UInt8} (h : Forth one enc) : Forth (rdL one) (listL enc) := by
  intro b l r e
  unfold rdL at e
  cases b with
  | nil => cases e
  | cons b0 b =>
    rw [rd1] at e
    simp only at e
    obtain ⟨a1, a2⟩ := rdN_forth h _ _ _ _ e
    rw [Int.toNat_natCast] at a1
    unfold listL
    rw [a1, by8_nat, a2]
    rfl
theorem rdW_back {n : Int} (h : I64 n) : Back rdW eightL n := by
  intro r
  unfold I64 at h
  unfold rdW eightL
  simp only [List.cons_append, List.nil_append, rdU, by8_val]
  have e : wrap64 ((((((((0 * 256 + n / 256 / 256 / 256 / 256 / 256 / 256 / 256 % 256) * 256 + n / 256 / 256 / 256 / 256 / 256 / 256 % 256) * 256 + n / 256 / 256 / 256 / 256 / 256 % 256) * 256 + n / 256 / 256 / 256 / 256 % 256) * 256 + n / 256 / 256 / 256 % 256) * 256 + n / 256 / 256 % 256) * 256 + n / 256 % 256) * 256 + n % 256) = n := by
    have h1 : n = 256 * (n / 256) + n % 256 := by omega
    have h2 : n / 256 = 256 * (n / 256 / 256) + n / 256 % 256 := by omega
    have h3 : n / 256 / 256 = 256 * (n / 256 / 256 / 256) + n / 256 / 256 % 256 := by omega
    have h4 : n / 256 / 256 / 256 = 256 * (n / 256 / 256 / 256 / 256) + n / 256 / 256 / 256 % 256 := by omega
    have h5 : n / 256 / 256 / 256 / 256 = 256 * (n / 256 / 256 / 256 / 256 / 256) + n / 256 / 256 / 256 / 256 % 256 := by omega
    have h6 : n / 256 / 256 / 256 / 256 / 256 = 256 * (n / 256 / 256 / 256 / 256 / 256 / 256) + n / 256 / 256 / 256 / 256 / 256 % 256 := by omega
    have h7 : n / 256 / 256 / 256 / 256 / 256 / 256 = 256 * (n / 256 / 256 / 256 / 256 / 256 / 256 / 256) + n / 256 / 256 / 256 / 256 / 256 / 256 % 256 := by omega
    generalize n / 256 / 256 / 256 / 256 / 256 / 256 / 256 = q7 at *
    generalize n / 256 / 256 / 256 / 256 / 256 / 256 = q6 at *
    generalize n / 256 / 256 / 256 / 256 / 256 = q5 at *
    generalize n / 256 / 256 / 256 / 256 = q4 at *
    generalize n / 256 / 256 / 256 = q3 at *
    generalize n / 256 / 256 = q2 at *
    generalize n / 256 = q1 at *
    unfold wrap64
    omega
  rw [e]
theorem step256 {n q : Int} {b : UInt8} (h : n = q * 256 + (b.toNat : Int)) : n / 256 = q ∧ by8 n = b := by
  have := b.toNat_lt
  exact ⟨by omega, by8_of (by omega)⟩
theorem rdW_forth : Forth rdW eightL := by
  intro b n r e
  unfold rdW at e
  match b, e with
  | b0 :: b1 :: b2 :: b3 :: b4 :: b5 :: b6 :: b7 :: b, e2 =>
    simp only [rdU, Option.some.injEq, Prod.mk.injEq] at e2
    obtain ⟨he, rfl⟩ := e2
    have hs : ∃ s : Int, n = (((((((s * 256 + (b0.toNat : Int)) * 256 + (b1.toNat : Int)) * 256 + (b2.toNat : Int)) * 256 + (b3.toNat : Int)) * 256 + (b4.toNat : Int)) * 256 + (b5.toNat : Int)) * 256 + (b6.toNat : Int)) * 256 + (b7.toNat : Int) := by
      have l0 := b0.toNat_lt
      have l1 := b1.toNat_lt
      have l2 := b2.toNat_lt
      have l3 := b3.toNat_lt
      have l4 := b4.toNat_lt
      have l5 := b5.toNat_lt
      have l6 := b6.toNat_lt
      have l7 := b7.toNat_lt
      unfold wrap64 at he
      by_cases h : b0.toNat < 128
      · exact ⟨0, by omega⟩
      · exact ⟨-1, by omega⟩
    obtain ⟨s, hs⟩ := hs
    clear he
    obtain ⟨e1, a7⟩ := step256 hs
    obtain ⟨q1, hq1⟩ : ∃ q, q = n / 256 := ⟨_, rfl⟩
    rw [← hq1] at e1
    obtain ⟨e2, a6⟩ := step256 e1
    obtain ⟨q2, hq2⟩ : ∃ q, q = q1 / 256 := ⟨_, rfl⟩
    rw [← hq2] at e2
    obtain ⟨e3, a5⟩ := step256 e2
    obtain ⟨q3, hq3⟩ : ∃ q, q = q2 / 256 := ⟨_, rfl⟩
    rw [← hq3] at e3
    obtain ⟨e4, a4⟩ := step256 e3
    obtain ⟨q4, hq4⟩ : ∃ q, q = q3 / 256 := ⟨_, rfl⟩
    rw [← hq4] at e4
    obtain ⟨e5, a3⟩ := step256 e4
    obtain ⟨q5, hq5⟩ : ∃ q, q = q4 / 256 := ⟨_, rfl⟩
    rw [← hq5] at e5
    obtain ⟨e6, a2⟩ := step256 e5
    obtain ⟨q6, hq6⟩ : ∃ q, q = q5 / 256 := ⟨_, rfl⟩
    rw [← hq6] at e6
    obtain ⟨e7, a1⟩ := step256 e6
    obtain ⟨q7, hq7⟩ : ∃ q, q = q6 / 256 := ⟨_, rfl⟩
    rw [← hq7] at e7
    obtain ⟨_, a0⟩ := step256 e7
    unfold eightL
    rw [← hq1, ← hq2, ← hq3, ← hq4, ← hq5, ← hq6, ← hq7, a0, a1, a2, a3, a4, a5, a6, a7]
    rfl
  | [_], e | [_, _], e | [_, _, _], e | [_, _, _, _], e | [_, _, _, _, _], e | [_, _, _, _, _, _], e | [_, _, _, _, _, _, _], e => cases e
  | [], e => cases e

theorem rdF_back {x : GFrame} (h1 : 0 ≤ x.func ∧ x.func < 256) (h2 : 0 ≤ x.at_ ∧ x.at_ < 256) (h3 : x.locals.length < 256) (h4 : x.stack.length < 256) (h5 : ∀ n ∈ x.locals, I64 n) (h6 : ∀ n ∈ x.stack, I64 n) : Back rdF frameL x := by
  intro r
  have e1 := rdL_back (one := rdW) (enc := eightL) h3 (fun n hn => rdW_back (h5 n hn))
  have e2 := rdL_back (one := rdW) (enc := eightL) h4 (fun n hn => rdW_back (h6 n hn))
  have b1 : ((by8 x.func).toNat : Int) = x.func := by rw [by8_val]; omega
  have b2 : ((by8 x.at_).toNat : Int) = x.at_ := by rw [by8_val]; omega
  unfold rdF frameL manyL
  rw [List.cons_append, rd1]
  simp only
  rw [List.cons_append, rd1]
  simp only
  rw [b1, b2, List.append_assoc, show (by8 (x.locals.length : Int) :: x.locals.flatMap eightL) = listL eightL x.locals from rfl, show (by8 (x.stack.length : Int) :: x.stack.flatMap eightL) = listL eightL x.stack from rfl, e1]
  simp only
  rw [e2]
theorem rd1_cases (b : List UInt8) : rd1 b = none ∨ ∃ c r, b = c :: r ∧ rd1 b = some ((c.toNat : Int), r) := by
  cases b with
  | nil => exact .inl rfl
  | cons c r => exact .inr ⟨c, r, rfl, rfl⟩
theorem rdF_forth : Forth rdF frameL := by
  intro b x r e
  unfold rdF at e
  rcases rd1_cases b with h | ⟨c, r1, rfl, h⟩
  · rw [h] at e; cases e
  rw [h] at e
  simp only at e
  rcases rd1_cases r1 with h | ⟨d, r2, rfl, h⟩
  · rw [h] at e; cases e
  rw [h] at e
  simp only at e
  cases h1 : rdL rdW r2 with
  | none => rw [h1] at e; cases e
  | some v =>
    obtain ⟨l, r3⟩ := v
    rw [h1] at e
    simp only at e
    cases h2 : rdL rdW r3 with
    | none => rw [h2] at e; cases e
    | some v =>
      obtain ⟨t, r4⟩ := v
      rw [h2] at e
      simp only [Option.some.injEq, Prod.mk.injEq] at e
      obtain ⟨rfl, rfl⟩ := e
      have k1 := rdL_forth rdW_forth _ _ _ h1
      have k2 := rdL_forth rdW_forth _ _ _ h2
      unfold frameL
      rw [by8_nat, by8_nat, k1, k2]
      simp only [List.cons_append, List.append_assoc]
      rfl
theorem rdB_back {f : GFiber} (h1 : -1 ≤ f.caller ∧ f.caller < 255) (h2 : f.frames.length < 256) (h3 : ∀ x ∈ f.frames, Back rdF frameL x) : Back rdB fiberL f := by
  intro r
  have e1 := rdL_back h2 h3
  have b1 : ((by8 (f.caller + 1)).toNat : Int) = f.caller + 1 := by rw [by8_val]; omega
  unfold rdB fiberL
  rw [List.cons_append, rd1]
  simp only
  rw [b1, show (by8 (f.frames.length : Int) :: f.frames.flatMap frameL) = listL frameL f.frames from rfl, e1]
  simp only
  rw [show f.caller + 1 - 1 = f.caller by omega]
theorem rdB_forth : Forth rdB fiberL := by
  intro b f r e
  unfold rdB at e
  rcases rd1_cases b with h | ⟨c, r1, rfl, h⟩
  · rw [h] at e; cases e
  rw [h] at e
  simp only at e
  cases h1 : rdL rdF r1 with
  | none => rw [h1] at e; cases e
  | some v =>
    obtain ⟨l, r3⟩ := v
    rw [h1] at e
    simp only [Option.some.injEq, Prod.mk.injEq] at e
    obtain ⟨rfl, rfl⟩ := e
    have k1 := rdL_forth rdF_forth _ _ _ h1
    unfold fiberL
    rw [k1, show ((c.toNat : Int) - 1 + 1) = (c.toNat : Int) by omega, by8_nat]
    rfl
theorem rdS_back {s : GState} (h1 : -1 ≤ s.now ∧ s.now < 255) (h2 : s.fibers.length < 256) (h3 : ∀ x ∈ s.fibers, Back rdB fiberL x) (h4 : s.out.length < 256) (h5 : ∀ n ∈ s.out, I64 n) : Back rdS stateL s := by
  intro r
  have e1 := rdL_back h2 h3
  have e2 := rdL_back (one := rdW) (enc := eightL) h4 (fun n hn => rdW_back (h5 n hn))
  have b1 : ((by8 (s.now + 1)).toNat : Int) = s.now + 1 := by rw [by8_val]; omega
  unfold rdS stateL manyL
  rw [List.cons_append, rd1]
  simp only
  rw [b1, ← List.cons_append, List.append_assoc, show (by8 (s.fibers.length : Int) :: s.fibers.flatMap fiberL) = listL fiberL s.fibers from rfl, show (by8 (s.out.length : Int) :: s.out.flatMap eightL) = listL eightL s.out from rfl, e1]
  simp only
  rw [e2]
  simp only
  rw [show s.now + 1 - 1 = s.now by omega]
theorem rdS_forth : Forth rdS stateL := by
  intro b s r e
  unfold rdS at e
  rcases rd1_cases b with h | ⟨c, r1, rfl, h⟩
  · rw [h] at e; cases e
  rw [h] at e
  simp only at e
  cases h1 : rdL rdB r1 with
  | none => rw [h1] at e; cases e
  | some v =>
    obtain ⟨l, r3⟩ := v
    rw [h1] at e
    simp only at e
    cases h2 : rdL rdW r3 with
    | none => rw [h2] at e; cases e
    | some v =>
      obtain ⟨t, r4⟩ := v
      rw [h2] at e
      simp only [Option.some.injEq, Prod.mk.injEq] at e
      obtain ⟨rfl, rfl⟩ := e
      have k1 := rdL_forth rdB_forth _ _ _ h1
      have k2 := rdL_forth rdW_forth _ _ _ h2
      unfold stateL
      rw [k1, k2, show ((c.toNat : Int) - 1 + 1) = (c.toNat : Int) by omega, by8_nat]
      simp only [List.cons_append, List.append_assoc]
      rfl
end Go.Proofs.Ytgahbngbpfilgaa
end
section
/- Bytes in a row of the call's own; contracts of the document's eight and many. No condition but that there is room. -/
set_option maxHeartbeats 4000000
set_option maxRecDepth 100000
namespace Go.Proofs.Ytgahbngbpfilgaa
open Go Go.RowKit

set_option maxRecDepth 100000 in
theorem infoB : (Try.prog.info? 5).map (fun i => (i.zero, i.size, i.bytes)) = some (some (.int .u8 0), 1, 1) := by kernel_rfl

def bys (l : List UInt8) : List Value := l.map fun b => .int .u8 (b.toNat : Int)
theorem bys_len (l : List UInt8) : (bys l).length = l.length := by simp [bys]
theorem bys_app (a b : List UInt8) : bys (a ++ b) = bys a ++ bys b := by simp [bys]
theorem wrap_by8 (n : Int) : IntKind.u8.wrap n = ((by8 n).toNat : Int) := by rw [by8_val, IntKind.wrap_u8]

/-- Bytes in a new block. -/
theorem src_bytes (w : World) (l : List UInt8) (n : Nat) (hn : l.length = n) (t : TypeId) : SrcSl (w.alloc (.cells (bys l).toArray t)) 1 (.slice (some ⟨w.heap.size, 0, none⟩) n n) n (bys l) := by
  refine ⟨_, n, rfl, by rw [bys_len, Nat.mul_one, hn], fun u hu => ?_, .inr ⟨_, rfl, fun j u hj => ?_⟩⟩
  · obtain ⟨b, _, rfl⟩ := List.mem_map.1 hu
    rfl
  · have e : (⟨w.heap.size, 0, none⟩ : Addr).add j = ⟨w.heap.size, 0 + j, none⟩ := Addr.add_lit _ _ _
    rw [e, Nat.zero_add]
    have h := World.cell?_alloc_new w (bys l).toArray t j
    rw [h, List.getElem?_toArray]
    exact hj
/-- A row of bytes, read. -/
theorem RowAt.srcB {w : World} {base : Nat} {v : Value} {n : Nat} {l : List UInt8} (h : RowAt w base 1 v n (bys l)) : SrcSl w 1 v n (bys l) := by
  obtain ⟨hl, a, cap, rfl, h1, h2, h3⟩ := h
  refine ⟨a, cap, rfl, hl, fun u hu => ?_, ?_⟩
  · obtain ⟨b, _, rfl⟩ := List.mem_map.1 hu
    rfl
  · by_cases hn : n = 0
    · exact .inl hn
    · obtain ⟨g, o, rfl, hb, hc, ht⟩ := h3.resolve_left (by omega)
      refine .inr ⟨_, rfl, fun j u hj => ?_⟩
      have hjl : j < (bys l).length := (List.getElem?_eq_some_iff.1 hj).1
      have e : (⟨g, o, none⟩ : Addr).add j = ⟨g, o + j, none⟩ := Addr.add_lit _ _ _
      rw [e, ← hj]
      exact hc j (by omega)
/-- A row that grows, seen from an earlier world. -/
theorem NewRow.from {w0 W W' : World} {s B : Nat} {v v' : Value} {n m : Nat} {xs ys : List Value} (hE : Ext w0 W) (hB : w0.heap.size ≤ B) (hr : RowAt W B s v m ys) (hn : NewRow W W' B s v v' n xs) : RowAt W' B s v' n xs ∧ Ext w0 W' :=
  ⟨hn.1, Chg.ext_from hE hn.2.1 (fun q e => Nat.le_trans hB (hr.le q e))⟩

/-- A byte of a number's eight. -/
theorem eight_at (n : Int) (i : Nat) (hi : i < 8) : IntKind.u8.wrap (IntKind.u64.wrap n / 2 ^ (56 - 8 * (i : Int)).toNat) = (((eightL n).getD i 0).toNat : Int) := by
  have hu : IntKind.u64.wrap n = n % 18446744073709551616 := by rw [IntKind.wrap_u64]
  rw [hu, IntKind.wrap_u8]
  match i, hi with
  | 0, _ => show _ = ((by8 _).toNat : Int); rw [by8_val]; simp; omega
  | 1, _ => show _ = ((by8 _).toNat : Int); rw [by8_val]; simp; omega
  | 2, _ => show _ = ((by8 _).toNat : Int); rw [by8_val]; simp; omega
  | 3, _ => show _ = ((by8 _).toNat : Int); rw [by8_val]; simp; omega
  | 4, _ => show _ = ((by8 _).toNat : Int); rw [by8_val]; simp; omega
  | 5, _ => show _ = ((by8 _).toNat : Int); rw [by8_val]; simp; omega
  | 6, _ => show _ = ((by8 _).toNat : Int); rw [by8_val]; simp; omega
  | 7, _ => show _ = ((by8 _).toNat : Int); rw [by8_val]; simp
theorem eight_len (n : Int) : (eightL n).length = 8 := rfl
theorem eight_take (n : Int) {i : Nat} (hi : i < 8) : bys ((eightL n).take (i + 1)) = bys ((eightL n).take i) ++ bys [(eightL n).getD i 0] := by
  rw [List.take_add_one, bys_app, List.getElem?_eq_getElem (by rw [eight_len]; exact hi)]
  simp [List.getD, List.getElem?_eq_getElem (show i < (eightL n).length by rw [eight_len]; exact hi)]

theorem eight_any (n : Int) (w : World) :
    Calls Try.prog 70 #[.int .i64 n] w fun e w' => (∃ v, e = .returned v ∧ RowAt w' w.heap.size 1 v 8 (bys (eightL n))) ∧ Ext w w' := by
  have RA := alloc_keep
  obtain ⟨i0, hi0, hz0, hz1, hz2⟩ := info_parts infoB
  go_enter Try.func70, Try.ntmps70
  go_wp2_with fail
  go_loopw [4, 5] (fun q4 q5 wr => ∃ i : Nat, i ≤ 8 ∧ q5 = .int .i64 (56 - 8 * (i : Int)) ∧ Ext w wr ∧ RowAt wr w.heap.size 1 q4 i (bys ((eightL n).take i))) (fun _ q _ => (intOf q + 8).toNat)
  case atStart => exact ⟨0, Nat.zero_le _, rfl, Ext.refl _, RowAt.nil _ _ _ _⟩
  case round =>
    obtain ⟨i, hi, rfl, hE, hrow⟩ := hrel
    obtain ⟨a4, c4, rfl, hc4, _⟩ := hrow.shape
    have HE := Lib.hid hE
    have HROW := Lib.hid hrow
    clear hE hrow
    by_cases hlt : i < 8
    · obtain ⟨kk, hkk⟩ : ∃ k : Int, 56 - 8 * (i : Int) = k := ⟨_, rfl⟩
      have hv := eight_at n i hlt
      have HTK := Lib.hid (eight_take n hlt)
      obtain ⟨bb, hbb⟩ : ∃ b, (eightL n).getD i 0 = b := ⟨_, rfl⟩
      rw [hbb] at hv HTK
      rw [hkk] at hv ⊢
      have K0 : 0 ≤ kk := by omega
      have K1 : kk ≤ 64 := by omega
      have TK : decide (0 ≤ kk) = true := decide_eq_true K0
      have KS : IntKind.i64.wrap (kk - 8) = kk - 8 := IntWalk.i64_in _ (by omega)
      have HKK := Lib.hid hkk
      have HSRC : Hid (∀ W : World, SrcSl (W.alloc (.cells #[.int .u8 (bb.toNat : Int)] 5)) 1 (.slice (some ⟨W.heap.size, 0, none⟩) 1 1) 1 (bys [bb])) := fun W => src_bytes W [bb] 1 rfl _
      clear hbb hkk
      go_wp2_with (first
        | (at_builtin; refine wpList_append_row rfl _ _ 62 rfl w.heap.size 5 i0 (.int .u8 0) 1 1 Try.underlying62 hi0 hz0 hz1 hz2 rfl (by decide) _ _ _ rfl (by exact HROW.out.ext ((Ext.refl _).alloc _) (by decide)) 1 (bys [bb]) (by exact HSRC.out _) (by unfold maxLen; omega) (by omega) (by exact Ext.size (HE.out.alloc _)) ?_; intro v5 W5w rv5; have h5 := Lib.hid (NewRow.from (HE.out.alloc _) (Nat.le_refl _) (HROW.out.ext ((Ext.refl _).alloc _) (by decide)) rv5); obtain ⟨a5, c5, rfl, _, _⟩ := rv5.1.shape; clear rv5))
      go_roundw
      case rel => exact ⟨i + 1, by omega, by have := HKK.out; go_num, h5.out.2, by rw [HTK.out]; exact h5.out.1⟩
      case measure => have := HKK.out; simp [intOf]; omega
    · obtain rfl : i = 8 := by omega
      clear hlt hi
      go_wp2_with fail
      go_ret
      exact ⟨⟨_, rfl, HROW.out⟩, HE.out⟩

theorem flat_eight (l : List Int) : (l.flatMap eightL).length = 8 * l.length := by
  induction l with
  | nil => rfl
  | cons n l ih => rw [List.flatMap_cons, List.length_append, ih, eight_len, List.length_cons]; omega
theorem many_len (l : List Int) : (manyL l).length = 1 + 8 * l.length := by unfold manyL; rw [List.length_cons, flat_eight]; omega
def manyTo (l : List Int) (i : Nat) : List UInt8 := by8 l.length :: (l.take i).flatMap eightL
theorem manyTo_succ (l : List Int) {i : Nat} (h : i < l.length) : bys (manyTo l (i + 1)) = bys (manyTo l i) ++ bys (eightL (l.getD i 0)) := by
  unfold manyTo
  rw [List.take_add_one, List.flatMap_append, ← List.cons_append, bys_app, List.getElem?_eq_getElem h]
  simp [List.getD, List.getElem?_eq_getElem h]
theorem manyTo_all (l : List Int) : manyTo l l.length = manyL l := by unfold manyTo manyL; rw [List.take_length]
theorem Ints.spot {w : World} {S : Nat → Prop} {a : Option Addr} {l : List Int} {n c : Nat} (h : Ints w S (.slice a n c) l) {m : Nat} (hm : m < l.length) : ∃ b o, a = some ⟨b, o, none⟩ ∧ w.cell? ⟨b, o + m, none⟩ = some (.int .i64 (l.getD m 0)) := by
  obtain ⟨b, o, _, e1, _, _, _, x0, _⟩ := h.get hm
  simp only [Value.slice.injEq] at e1
  obtain ⟨rfl, -, rfl⟩ := e1
  rw [Nat.mul_one] at x0
  refine ⟨b, o, rfl, ?_⟩
  rw [x0]
  simp [List.getD, List.getElem?_eq_getElem hm]

theorem many_any (l : List Int) (v : Value) (S : Nat → Prop) (w : World) (hl : Ints w S v l) (h1000 : l.length ≤ 1000) :
    Calls Try.prog 37 #[v] w fun e w' => (∃ v, e = .returned v ∧ RowAt w' w.heap.size 1 v (1 + 8 * l.length) (bys (manyL l))) ∧ Ext w w' := by
  have HL := Lib.hid hl
  obtain ⟨pa, pc, rfl, _, _, _⟩ := hl
  have RA := alloc_keep
  obtain ⟨i0, hi0, hz0, hz1, hz2⟩ := info_parts infoB
  have e0 : IntKind.u8.wrap (l.length : Int) = ((by8 (l.length : Int)).toNat : Int) := wrap_by8 _
  obtain ⟨b0, hb0⟩ : ∃ b, by8 (l.length : Int) = b := ⟨_, rfl⟩
  rw [hb0] at e0
  have HRW0 : Hid (RowAt (w.alloc (.cells #[.int .u8 (b0.toNat : Int)] 5)) w.heap.size 1 (.slice (some ⟨w.heap.size, 0, none⟩) 1 1) (1 + 8 * 0) (bys (manyTo l 0))) := by
    unfold manyTo
    rw [hb0]
    exact RowAt.made w #[.int .u8 (b0.toNat : Int)] 5 1 1 w.heap.size (Nat.le_refl _) (by unfold maxLen; omega) rfl
  clear hb0
  go_enter Try.func37, Try.ntmps37
  go_wp2_with fail
  go_loopw [3, 4] (fun q3 q4 wr => ∃ i : Nat, i ≤ l.length ∧ q4 = .int .i64 (i : Int) ∧ Ext w wr ∧ RowAt wr w.heap.size 1 q3 (1 + 8 * i) (bys (manyTo l i))) (fun _ q _ => l.length - (intOf q).toNat)
  case atStart => exact ⟨0, Nat.zero_le _, rfl, (Ext.refl _).alloc _, HRW0.out⟩
  case round =>
    obtain ⟨i, hi, rfl, hE, hrow⟩ := hrel
    obtain ⟨a4, c4, rfl, hc4, _⟩ := hrow.shape
    have HE := Lib.hid hE
    have HROW := Lib.hid hrow
    have KI : IntKind.i64.wrap ((i : Int) + 1) = (i : Int) + 1 := IntWalk.i64_in _ (by omega)
    clear hE hrow HRW0
    by_cases hlt : i < l.length
    · obtain ⟨bw, ow, e2, y0⟩ := Ints.spot (Ints.stays HE.out.stays HL.out) hlt
      subst e2
      have HTK := Lib.hid (manyTo_succ l hlt)
      generalize l.getD i 0 = u at *
      obtain ⟨n1, hn1⟩ : ∃ n, 1 + 8 * i = n := ⟨_, rfl⟩
      rw [hn1] at HROW ⊢
      have hn2 : 1 + 8 * (i + 1) = n1 + 8 := by omega
      have hnb : n1 ≤ 10000 := by omega
      have HN2 := Lib.hid hn2
      clear hn1 hn2
      go_wp2_with (first
        | (go_at_call 70; (with_reducible refine (eight_any u _).mono ?_); rintro e w2 ⟨⟨v2, rfl, h2⟩, hb2⟩; obtain ⟨a2, c2, rfl, _, _⟩ := h2.shape)
        | (at_builtin; refine wpList_append_row rfl _ _ 62 rfl w.heap.size 5 i0 (.int .u8 0) 1 1 Try.underlying62 hi0 hz0 hz1 hz2 rfl (by decide) _ _ _ rfl (by exact HROW.out.ext hb2 (by decide)) 8 (bys (eightL u)) (by exact h2.srcB) (by unfold maxLen; omega) (by omega) (by exact Ext.size (HE.out.trans hb2)) ?_; intro v5 W5w rv5; have h5 := Lib.hid (NewRow.from (HE.out.trans hb2) (Nat.le_refl _) (HROW.out.ext hb2 (by decide)) rv5); obtain ⟨a5, c5, rfl, _, _⟩ := rv5.1.shape; clear rv5))
      go_roundw
      case rel => exact ⟨i + 1, by omega, by go_num, h5.out.2, by rw [HTK.out, HN2.out]; exact h5.out.1⟩
      case measure => simp [intOf]; omega
    · obtain rfl : i = l.length := by omega
      clear hlt hi
      go_wp2_with fail
      go_ret
      rw [← manyTo_all]
      exact ⟨⟨_, rfl, HROW.out⟩, HE.out⟩
end Go.Proofs.Ytgahbngbpfilgaa
end
section
/- A region that draws its order: all but the last operations read, or call what may make memory and gives one value; the last ones come up in one order. No condition. -/
set_option maxHeartbeats 400000
namespace Go.Proofs.Ytgahbngbpfilgaa
open Go

section
variable {P : Program} {md : Region.Mode} {ops : Array Oper} {C : World → Prop}

/-- Whatever order is picked, as long as operations ahead of number n come up: all of them are quiet. -/
def headQ (P : Program) (md : Region.Mode) (ops : Array Oper) (C : World → Prop) (n : Nat) (L : Array Bool → Act → Prop) : Nat → Array Bool → Act → Prop
  | 0, listed, a => L listed a
  | f + 1, listed, a => Region.ready md ops listed ≠ [] ∧ ∀ i ∈ Region.ready md ops listed, i < n ∧ qOp P ops C i (headQ P md ops C n L f (listed.setIfInBounds i true)) a

theorem wpAny_of_headQ {n g : Nat} {L : Array Bool → Act → Prop} {Q' : Exit → Act → World → Prop} (hL : ∀ listed a w, C w → L listed a → wpAny P md ops Q' g listed a w) :
    ∀ (f : Nat) (listed : Array Bool) (a : Act) (w : World), C w → headQ P md ops C n L f listed a → wpAny P md ops Q' (f + g) listed a w
  | 0, listed, a, w, hw, h => by rw [Nat.zero_add]; exact hL _ _ _ hw h
  | f + 1, listed, a, w, hw, h => by
    rw [show f + 1 + g = (f + g) + 1 by omega]
    exact ⟨fun h0 => absurd h0 h.1, fun i hi => wpOp_of_qOp hw (fun a' w' hw' h' => wpAny_of_headQ hL f _ a' w' hw' h') (h.2 i hi).2⟩

theorem headQ_first {n i : Nat} {oi : Oper} {v : Value} {L : Array Bool → Act → Prop} (hi : ops[i]? = some oi) (hsel : ∀ (j : Nat) (o : Oper) cs b, ops[j]? = some o → o.op ≠ .select cs b)
    (hs : Region.sinkB md ops n = true) (hc : Region.chainB md ops n = true) (hn : n < ops.size) (hin : i < n) (hdone : ∀ listed a, L listed a → ∀ j ∈ Region.ready md ops listed, n ≤ j) :
    ∀ (f : Nat) (listed : Array Bool) (a : Act), HeadInv md ops n listed →
      (∀ j oj, ops[j]? = some oj → j ≠ i → listed.getD j true = false → (∀ e ∈ oj.after, Region.binds md e = true → e.on ≠ i) → oi.apart ops oj = true) →
      i ∈ Region.ready md ops listed → YieldsIn P ops C oi v a →
      headQ P md ops C n L f (listed.setIfInBounds i true) (a.put oi.dst v) → headQ P md ops C n L (f + 1) listed a := by
  intro f
  induction f with
  | zero =>
    intro listed a inv _ hr hy H
    have hun := (mem_ready.1 hr).1
    refine ⟨fun h => (by rw [h] at hr; cases hr), fun j hj => ?_⟩
    have hjn : j < n := by
      rcases Nat.lt_or_ge j n with h | h
      · exact h
      · exact absurd hj (tail_waits hs hc hn inv _ i rfl hin hun j h)
    refine ⟨hjn, ?_⟩
    by_cases hji : j = i
    · subst hji; exact hy.qOp hi H
    · have := hdone _ _ H j (ready_mono hj hji)
      omega
  | succ f ih =>
    intro listed a inv hfree hr hy H
    have hun := (mem_ready.1 hr).1
    refine ⟨fun h => (by rw [h] at hr; cases hr), fun j hj => ?_⟩
    have hjn : j < n := by
      rcases Nat.lt_or_ge j n with h | h
      · exact h
      · exact absurd hj (tail_waits hs hc hn inv _ i rfl hin hun j h)
    refine ⟨hjn, ?_⟩
    by_cases hji : j = i
    · subst hji; exact hy.qOp hi H
    · have h1 := (H.2 j (ready_mono hj hji)).2
      obtain ⟨hjun, oj, hoj, hall⟩ := mem_ready.1 hj
      have hnot : ∀ e ∈ oj.after, Region.binds md e = true → e.on ≠ i := fun e he hb heq => by
        have h1 := hall e he hb
        rw [heq, getD_both hun] at h1
        cases h1
      have h2 := qOp_put hoj (hfree j oj hoj hji hjun hnot) (fun cs b => hsel i oi cs b hi) (fun cs b => hsel j oj cs b hoj) hy h1
      have hfree' : ∀ k ok, ops[k]? = some ok → k ≠ i → (listed.setIfInBounds j true).getD k true = false →
          (∀ e ∈ ok.after, Region.binds md e = true → e.on ≠ i) → oi.apart ops ok = true := fun k ok hk hki hun hno => by
        refine hfree k ok hk hki ?_ hno
        by_cases hjk : j = k
        · subst hjk; exact hjun
        · rw [getD_set_ne true hjk] at hun; exact hun
      refine qOp_mono (fun a' h3 => ih (listed.setIfInBounds j true) a' (inv.set hj hjn) hfree' (ready_mono hr (Ne.symm hji)) h3.1 ?_) h2
      rw [Array.setIfInBounds_comm _ _ hji]
      exact h3.2

theorem headQ_lex {n g : Nat} {Lq : Act → Prop} (hsel : Region.noSelect ops = true) (hs : Region.sinkB md ops n = true) (hc : Region.chainB md ops n = true) (hn : n < ops.size) :
    ∀ (l : List Oper) (k : Nat) (listed : Array Bool) (a : Act), (∀ j, j < l.length → l[j]? = ops[k + j]?) → k + l.length = n → HeadInv md ops n listed →
    Region.lexHead md ops g l.length k listed = true → wpQuiet P ops C Lq l a →
    headQ P md ops C n (fun listed' a' => Region.seqB md ops g n listed' = true ∧ Lq a') l.length listed a
  | [], k, listed, a, _, hk, _, hB, h => by
    have : k = n := by simpa using hk
    subst this
    exact ⟨by simpa [Region.lexHead] using hB, h⟩
  | o :: l, k, listed, a, hl, hk, inv, hB, h => by
    have h0 : ops[k]? = some o := by simpa using (hl 0 (by simp)).symm
    simp only [List.length_cons, Region.lexHead, Bool.and_eq_true] at hB
    obtain ⟨⟨hr, hf⟩, hB'⟩ := hB
    have hkn : k < n := by simp only [List.length_cons] at hk; omega
    have hr' : k ∈ Region.ready md ops listed := by simpa using hr
    have hst : qOp P ops C k (wpQuiet P ops C Lq l) a := by unfold qOp; simp only [h0]; exact h
    obtain ⟨v, hy, hK⟩ := yieldsIn_of_qOp h0 hst
    exact headQ_first h0 (Region.noSelect_spec hsel) hs hc hn hkn (fun listed' a' hL => seqB_ready hL.1) l.length listed a inv (Region.free_spec h0 hf) hr' hy
      (headQ_lex hsel hs hc hn l (k + 1) _ _ (fun j hj => by have := hl (j + 1) (by simp; omega); simpa [Nat.add_assoc, Nat.add_comm 1 j] using this) (by simp only [List.length_cons] at hk; omega) (inv.set hr' hkn) hB' hK)

theorem wp_region_ext_tail {id : Nat} {Q : Exit → Act → World → Prop} {a : Act} {w : World} {l : List Oper} (n : Nat) (hm : P.follows .mixedOrders = true) (hB : Region.lexTailB .any l.toArray n = true)
    (h : wpQuiet P l.toArray (Ext w) (fun a' => ∀ w', Ext w w' → wpList P l.toArray Q (l.drop n) a' w') (l.take n) a) : (Code.region id l.toArray true).wp P Q a w := by
  simp only [Region.lexTailB, Bool.and_eq_true, decide_eq_true_eq] at hB
  obtain ⟨⟨⟨⟨hsel, hn⟩, hs⟩, hc⟩, hlex⟩ := hB
  have hn' : n < l.length := by simpa using hn
  have htl : (l.take n).length = n := by simp; omega
  have hdl : (l.drop n).length = l.toArray.size - n := by simp
  have inv0 : HeadInv .any l.toArray n (Array.replicate l.toArray.size false) :=
    ⟨by simp, fun j oj _ hl => (by rw [getD_replicate_false] at hl; cases hl), fun t _ ht => getD_in (by simpa using ht) (getD_replicate_false _ _)⟩
  have H := headQ_lex (md := .any) (g := l.toArray.size - n) hsel hs hc hn (l.take n) 0 _ a (fun j hj => by
    have hj' : j < n := by rw [htl] at hj; exact hj
    simp [hj']) (by simpa using htl) inv0 (by rw [htl]; exact hlex) h
  refine wp_region_any hm ?_
  have := wpAny_of_headQ (Q' := Q) (g := l.toArray.size - n) (fun listed a' w' hw' hL => by
    have := wpAny_of_seq (md := .any) (Q' := Q) (l.drop n) n listed a' w' (fun j => by simp [List.getElem?_drop]) (by rw [hdl]; exact hL.1) (hL.2 w' hw')
    rwa [hdl] at this) _ _ _ _ (Ext.drew (Ext.refl w)) H
  rw [htl, show n + (l.toArray.size - n) = l.toArray.size by omega] at this
  exact this
end
end Go.Proofs.Ytgahbngbpfilgaa
end
