/- Merged texts: contracts and plain facts, one part behind another; each part begins with what it says. -/
import Derived.Test.YtgahbngbpfilgaaGreatGEAA
import Derived.Test.YtgahbngbpfilgaaGreatGEAC
import Derived.Test.YtgahbngbpfilgaaGreatGEAD
import Derived.Test.YtgahbngbpfilgaaGreatGEAF
import Derived.Test.YtgahbngbpfilgaaGreatGEAH
import Derived.StillTail
section
set_option maxHeartbeats 4000000
set_option maxRecDepth 100000
namespace Go.Proofs.YtgahbngbpfilgaaGreat
open Go Go.RowKit
def freshFrame (p : List GFunc) (f : Int) : GFrame := ⟨f, 0, List.replicate (funcOf p f).locals.toNat 0, []⟩
def beginG (p : List GFunc) : GState := ⟨[⟨[freshFrame p 0], -1⟩], 0, []⟩
theorem I64.zero : I64 0 := I64.small (by decide) (by decide)
theorem I64.neg1 : I64 (-1) := I64.small (by decide) (by decide)
theorem FrameV.cells {w : World} {S : Nat → Prop} {x : GFrame} {sl st : Value} {b o : Nat} (h : FrameV w S (.agg #[.int .i64 x.func, .int .i64 x.at_, sl, st]) x) (hb : S b)
  (h0 : w.cell? ⟨b, o, none⟩ = some (.int .i64 x.func)) (h1 : w.cell? ⟨b, o + 1, none⟩ = some (.int .i64 x.at_)) (h2 : w.cell? ⟨b, o + 2, none⟩ = some sl) (h3 : w.cell? ⟨b, o + 3, none⟩ = some st) : FrameC w S b o x := by
 obtain ⟨s, t, e, i0, i1, hl, hs⟩ := h
 simp only [Value.agg.injEq] at e
 simp at e
 obtain ⟨rfl, rfl⟩ := e
 exact ⟨⟨hb, h0, i0⟩, ⟨hb, h1, i1⟩, ⟨_, h2, hl⟩, _, h3, hs⟩
theorem begin_state {w3 : World} {B base bx : Nat} {x : GFrame} {sl st : Value} (t1 t2 : TypeId) (h : FrameV w3 (base ≤ ·) (.agg #[.int .i64 x.func, .int .i64 x.at_, sl, st]) x) (hB : B ≤ bx) (hb : bx < base) (hb3 : bx < w3.heap.size) (u v z : Value) :
  StateV (((((w3.alloc (.cells #[.int .i64 x.func, .int .i64 x.at_, sl, st] t1)).alloc (.cells #[.slice (some ⟨w3.heap.size, 0, none⟩) 1 1, .int .i64 (-1)] t2)).setCell ⟨bx, 0, none⟩ u).setCell ⟨bx, 1, none⟩ v).setCell ⟨bx, 2, none⟩ z) (B ≤ ·)
   (.agg #[.slice (some ⟨w3.heap.size + 1, 0, none⟩) 1 1, .int .i64 0, .slice none 0 0]) ⟨[⟨[x], -1⟩], 0, []⟩ := by
 have hs4 : (w3.alloc (.cells #[.int .i64 x.func, .int .i64 x.at_, sl, st] t1)).heap.size = w3.heap.size + 1 := Array.size_push _
 have hE4 : Ext w3 (w3.alloc (.cells #[.int .i64 x.func, .int .i64 x.at_, sl, st] t1)) := (Ext.refl _).alloc _
 have f0 := Cx.new w3 [.int .i64 x.func, .int .i64 x.at_, sl, st] t1 (j := 0) rfl
 have f1 := Cx.new w3 [.int .i64 x.func, .int .i64 x.at_, sl, st] t1 (j := 1) rfl
 have f2 := Cx.new w3 [.int .i64 x.func, .int .i64 x.at_, sl, st] t1 (j := 2) rfl
 have f3 := Cx.new w3 [.int .i64 x.func, .int .i64 x.at_, sl, st] t1 (j := 3) rfl
 generalize w3.alloc (.cells [.int .i64 x.func, .int .i64 x.at_, sl, st].toArray t1) = w4 at *
 have hE5 : Ext w4 (w4.alloc (.cells #[.slice (some ⟨w3.heap.size, 0, none⟩) 1 1, .int .i64 (-1)] t2)) := (Ext.refl _).alloc _
 have g0 := Cx.new w4 [.slice (some ⟨w3.heap.size, 0, none⟩) 1 1, .int .i64 (-1)] t2 (j := 0) rfl
 have g1 := Cx.new w4 [.slice (some ⟨w3.heap.size, 0, none⟩) 1 1, .int .i64 (-1)] t2 (j := 1) rfl
 rw [hs4] at g0 g1
 generalize w4.alloc (.cells [.slice (some ⟨w3.heap.size, 0, none⟩) 1 1, .int .i64 (-1)].toArray t2) = w5 at *
 have hch := chg3 w5 bx u v z
 generalize ((w5.setCell ⟨bx, 0, none⟩ u).setCell ⟨bx, 1, none⟩ v).setCell ⟨bx, 2, none⟩ z = w6 at *
 have hfr : FrameV w6 (B ≤ ·) (.agg #[.int .i64 x.func, .int .i64 x.at_, sl, st]) x := FrameV.stays (S := (base ≤ ·)) (fun b o u' hb' hc => ⟨hch.cell (by show ¬ b = bx; have : base ≤ b := hb'; omega) (Ext.cell (hE4.trans hE5) hc), by show B ≤ b; have : base ≤ b := hb'; omega⟩) h
 have k : ∀ j u', Cx w4 w3.heap.size j u' → w6.cell? ⟨w3.heap.size, j, none⟩ = some u' := fun j u' h => ((h.ext hE5).chg hch (by omega)).1
 have k' : ∀ j u', Cx w5 (w3.heap.size + 1) j u' → w6.cell? ⟨w3.heap.size + 1, j, none⟩ = some u' := fun j u' h => (h.chg hch (by omega)).1
 refine ⟨_, _, rfl, Sl.one ⟨⟨_, k' _ _ g0, Sl.one (FrameV.cells hfr (by show B ≤ w3.heap.size; omega) (k _ _ f0) (k _ _ f1) (k _ _ f2) (k _ _ f3)) (by decide)⟩, by show B ≤ w3.heap.size + 1; omega, k' _ _ g1, I64.neg1⟩ (by decide), I64.zero, Sl.nil _ _ _⟩
theorem beginOf_any (p : List GFunc) (v : Value) (S : Nat → Prop) (w : World) (hp : Funcs w S v p) (hz : progErr p = 0) :
  Calls Tryz.prog 51 #[v] w fun e w' => (∃ x, e = .returned x ∧ StateV w' (w.heap.size ≤ ·) x (beginG p)) ∧ Ext w w' := by
 have hRP := progErr_zero hz
 have hpos := hRP.pos
 obtain ⟨_, _, hR'⟩ := funcErr_zero (hRP.func 0 hpos)
 have hR : RightF p p[0] := by have := hR' (by simpa using hpos); simpa using this
 have hloc := hR.locals
 have hF : funcOf p 0 = p[0] := by unfold funcOf; simp [List.getD, List.getElem?_eq_getElem hpos]
 obtain ⟨b, o, cap, rfl, hcap, hby, _, ⟨_, hL, iL⟩, _⟩ := hp.get hpos
 rw [Nat.zero_mul, Nat.add_zero] at hL
 obtain ⟨N, hN⟩ : ∃ N : Nat, p[0].locals = N := ⟨p[0].locals.toNat, by omega⟩
 have HG : Hid (freshFrame p 0 = ⟨0, 0, List.replicate N 0, []⟩) := by unfold Hid freshFrame; rw [hF, hN]; rfl
 rw [hN] at hL hloc
 have hN4 : N ≤ 4 := by omega
 obtain ⟨i0, hi0, hz0, hz1, hz2⟩ := info_parts infoI
 have RA := alloc_keep
 have c0 := Lib.hid (Cx.new w [.slice none 0 0, .int .i64 0, .slice none 0 0] 26 (j := 0) rfl)
 have c1 := Lib.hid (Cx.new w [.slice none 0 0, .int .i64 0, .slice none 0 0] 26 (j := 1) rfl)
 have c2 := Lib.hid (Cx.new w [.slice none 0 0, .int .i64 0, .slice none 0 0] 26 (j := 2) rfl)
 clear hz hRP hR hF hp hN hR'
 go_enter Tryz.func51, Tryz.ntmps51
 go_wp2_with (first
  | (at_make; refine wpList_make_full _ rfl _ _ 24 rfl (w.heap.size + 1) 3 i0 (.int .i64 0) 1 Tryz.underlying24 hi0 hz0 hz1 .i64 .i64 _ _ N rfl rfl rfl rfl (by rw [hz2]; omega) (by unfold maxLen; omega) (by simp) ?_; intro w3 hown3 hgr3; have hE3 := ext_none hgr3; have hrow := IRow.made hown3; have HE4 := Lib.hid ((hE3.alloc (.cells #[.int .i64 0, .int .i64 0, .slice (some ⟨w.heap.size + 1, 0, none⟩) N N, .slice none 0 0] 43)).alloc (.cells #[.slice (some ⟨w3.heap.size, 0, none⟩) 1 1, .int .i64 (-1)] 41)); obtain ⟨⟨d0, d0'⟩, ⟨d1, d1'⟩, ⟨d2, d2'⟩⟩ := (⟨c0.out.ext HE4.out, c1.out.ext HE4.out, c2.out.ext HE4.out⟩ : _ ∧ _ ∧ _)))
 have hs1 : (w.alloc (.cells #[.slice none 0 0, .int .i64 0, .slice none 0 0] 26)).heap.size = w.heap.size + 1 := Array.size_push _
 rw [hs1] at hrow
 have hfr : FrameV w3 (w.heap.size + 1 ≤ ·) (.agg #[.int .i64 0, .int .i64 0, .slice (some ⟨w.heap.size + 1, 0, none⟩) N N, .slice none 0 0]) ⟨0, 0, List.replicate N 0, []⟩ := by
  refine ⟨_, _, rfl, I64.zero, I64.zero, ?_, Sl.nil _ _ _⟩
  show Ints w3 _ _ (List.replicate N 0)
  have := hrow.ints (by rw [List.length_replicate]; omega) (fun x hx => by rw [List.eq_of_mem_replicate hx]; exact I64.small (by decide) (by decide)) (w.heap.size + 1 ≤ ·) (fun _ h => h)
  rwa [List.length_replicate] at this
 have hsz := hE3.size
 have hs1 : (w.alloc (.cells #[.slice none 0 0, .int .i64 0, .slice none 0 0] 26)).heap.size = w.heap.size + 1 := Array.size_push _
 refine bodyPost_ret (results_cell_mid rfl _ _ w.heap.size 0 _ _ rfl (box3 ⟨d0, d0'⟩ ⟨d1, d1'⟩ ⟨d2, d2'⟩ _ _ _) rfl rfl (by kernel_rfl)) rfl ?_
 refine ⟨⟨_, rfl, ?_⟩, ext3 (((Ext.refl w).alloc _).trans HE4.out) _ _ _⟩
 unfold beginG
 rw [HG.out]
 exact begin_state (x := ⟨0, 0, List.replicate N 0, []⟩) 43 41 hfr (Nat.le_refl _) (Nat.lt_succ_self _) (by omega) _ _ _
theorem range4 {w : World} {b : Nat} {x y z u : Value} (h0 : w.cell? ⟨b, 0, none⟩ = some x) (h1 : w.cell? ⟨b, 1, none⟩ = some y) (h2 : w.cell? ⟨b, 2, none⟩ = some z) (h3 : w.cell? ⟨b, 3, none⟩ = some u) : w.rangeAt b 0 [x, y, z, u] := by
 intro j v hj
 rw [Nat.zero_add]
 match j, hj with
 | 0, hj => cases hj; exact h0
 | 1, hj => cases hj; exact h1
 | 2, hj => cases hj; exact h2
 | 3, hj => cases hj; exact h3
theorem box4 {W : World} {b : Nat} {u0 u1 u2 u3 : Value} (h0 : Cx W b 0 u0) (h1 : Cx W b 1 u1) (h2 : Cx W b 2 u2) (h3 : Cx W b 3 u3) (x y z u : Value) :
  ((((W.setCell ⟨b, 0, none⟩ x).setCell ⟨b, 1, none⟩ y).setCell ⟨b, 2, none⟩ z).setCell ⟨b, 3, none⟩ u).rangeAt b 0 [x, y, z, u] :=
 range4 ((((h0.set x).other (.inr (by decide)) y).other (.inr (by decide)) z).other (.inr (by decide)) u).1 ((((h1.other (.inr (by decide)) x).set y).other (.inr (by decide)) z).other (.inr (by decide)) u).1
  ((((h2.other (.inr (by decide)) x).other (.inr (by decide)) y).set z).other (.inr (by decide)) u).1 ((((h3.other (.inr (by decide)) x).other (.inr (by decide)) y).other (.inr (by decide)) z).set u).1
theorem chg4 (W : World) (b : Nat) (x y z u : Value) : Chg (· = b) W ((((W.setCell ⟨b, 0, none⟩ x).setCell ⟨b, 1, none⟩ y).setCell ⟨b, 2, none⟩ z).setCell ⟨b, 3, none⟩ u) := (chg3 W b x y z).trans (chg_one _ _ 3 _)
theorem ext4 {w W : World} (h : Ext w W) (x y z u : Value) : Ext w ((((W.setCell ⟨w.heap.size, 0, none⟩ x).setCell ⟨w.heap.size, 1, none⟩ y).setCell ⟨w.heap.size, 2, none⟩ z).setCell ⟨w.heap.size, 3, none⟩ u) :=
 (ext3 h x y z).setCell (p := ⟨w.heap.size, 3, none⟩) (Nat.le_refl _) _
end Go.Proofs.YtgahbngbpfilgaaGreat
end
section
set_option maxRecDepth 100000
namespace Go.Proofs.YtgahbngbpfilgaaGreat
open Go Go.RowKit
def by8 (n : Int) : UInt8 := UInt8.ofNat (n % 256).toNat
theorem by8_val (n : Int) : ((by8 n).toNat : Int) = n % 256 := by
 unfold by8
 rw [UInt8.toNat_ofNat']
 omega
def eightL (n : Int) : List UInt8 := [by8 (n / 256 / 256 / 256 / 256 / 256 / 256 / 256), by8 (n / 256 / 256 / 256 / 256 / 256 / 256), by8 (n / 256 / 256 / 256 / 256 / 256), by8 (n / 256 / 256 / 256 / 256), by8 (n / 256 / 256 / 256), by8 (n / 256 / 256), by8 (n / 256), by8 n]
def manyL (l : List Int) : List UInt8 := by8 l.length :: l.flatMap eightL
def frameL (x : GFrame) : List UInt8 := by8 x.func :: by8 x.at_ :: (manyL x.locals ++ manyL x.stack)
def fiberL (f : GFiber) : List UInt8 := by8 (f.caller + 1) :: by8 f.frames.length :: f.frames.flatMap frameL
def stateL (s : GState) : List UInt8 := by8 (s.now + 1) :: by8 s.fibers.length :: (s.fibers.flatMap fiberL ++ manyL s.out)
abbrev Rd (α : Type) := List UInt8 → Option (α × List UInt8)
def rd1 : Rd Int
 | [] => none
 | b :: r => some ((b.toNat : Int), r)
def rdN {α : Type} (one : Rd α) : Nat → Rd (List α)
 | 0, r => some ([], r)
 | n + 1, r => match one r with
  | none => none
  | some (x, r1) => match rdN one n r1 with
   | none => none
   | some (l, r2) => some (x :: l, r2)
def rdL {α : Type} (one : Rd α) : Rd (List α) := fun r => match rd1 r with
 | none => none
 | some (n, r1) => rdN one n.toNat r1
def rdU : Nat → Int → Rd Int
 | 0, u, r => some (u, r)
 | _ + 1, _, [] => none
 | k + 1, u, b :: r => rdU k (u * 256 + (b.toNat : Int)) r
def rdW : Rd Int := fun r => match rdU 8 0 r with
 | none => none
 | some (u, r1) => some (wrap64 u, r1)
def rdF : Rd GFrame := fun r => match rd1 r with
 | none => none
 | some (f, r1) => match rd1 r1 with
  | none => none
  | some (a, r2) => match rdL rdW r2 with
   | none => none
   | some (l, r3) => match rdL rdW r3 with
    | none => none
    | some (t, r4) => some (⟨f, a, l, t⟩, r4)
def rdB : Rd GFiber := fun r => match rd1 r with
 | none => none
 | some (c, r1) => match rdL rdF r1 with
  | none => none
  | some (l, r2) => some (⟨l, c - 1⟩, r2)
def rdS : Rd GState := fun r => match rd1 r with
 | none => none
 | some (c, r1) => match rdL rdB r1 with
  | none => none
  | some (l, r2) => match rdL rdW r2 with
   | none => none
   | some (o, r3) => some (⟨l, c - 1, o⟩, r3)
def Back {α : Type} (one : Rd α) (enc : α → List UInt8) (x : α) : Prop := ∀ r, one (enc x ++ r) = some (x, r)
theorem rdN_back {α : Type} {one : Rd α} {enc : α → List UInt8} : ∀ (l : List α) (r : List UInt8), (∀ x ∈ l, Back one enc x) → rdN one l.length (l.flatMap enc ++ r) = some (l, r)
 | [], r, _ => rfl
 | x :: l, r, h => by
  have h1 := h x (by simp)
  rw [List.length_cons, rdN, List.flatMap_cons, List.append_assoc, h1]
  simp only
  rw [rdN_back l r fun y hy => h y (by simp [hy])]
def listL {α : Type} (enc : α → List UInt8) (l : List α) : List UInt8 := by8 l.length :: l.flatMap enc
theorem rdL_back {α : Type} {one : Rd α} {enc : α → List UInt8} {l : List α} (hl : l.length < 256) (h : ∀ x ∈ l, Back one enc x) : Back (rdL one) (listL enc) l := by
 intro r
 have e : ((by8 (l.length : Int)).toNat : Int) = l.length := by rw [by8_val]; omega
 unfold rdL listL
 rw [List.cons_append, rd1]
 simp only
 rw [e, Int.toNat_natCast]
 exact rdN_back l r h
theorem rdW_back {n : Int} (h : I64 n) : Back rdW eightL n := by
 intro r
 unfold I64 at h
 unfold rdW eightL
 simp only [List.cons_append, List.nil_append, rdU, by8_val]
 have e : wrap64 ((((((((0 * 256 + n / 256 / 256 / 256 / 256 / 256 / 256 / 256 % 256) * 256 + n / 256 / 256 / 256 / 256 / 256 / 256 % 256) * 256 + n / 256 / 256 / 256 / 256 / 256 % 256) * 256 + n / 256 / 256 / 256 / 256 % 256) * 256 + n / 256 / 256 / 256 % 256) * 256 + n / 256 / 256 % 256) * 256 + n / 256 % 256) * 256 + n % 256) = n := by
  have h1 : n = 256 * (n / 256) + n % 256 := by omega
  have h2 : n / 256 = 256 * (n / 256 / 256) + n / 256 % 256 := by omega
  have h3 : n / 256 / 256 = 256 * (n / 256 / 256 / 256) + n / 256 / 256 % 256 := by omega
  have h4 : n / 256 / 256 / 256 = 256 * (n / 256 / 256 / 256 / 256) + n / 256 / 256 / 256 % 256 := by omega
  have h5 : n / 256 / 256 / 256 / 256 = 256 * (n / 256 / 256 / 256 / 256 / 256) + n / 256 / 256 / 256 / 256 % 256 := by omega
  have h6 : n / 256 / 256 / 256 / 256 / 256 = 256 * (n / 256 / 256 / 256 / 256 / 256 / 256) + n / 256 / 256 / 256 / 256 / 256 % 256 := by omega
  have h7 : n / 256 / 256 / 256 / 256 / 256 / 256 = 256 * (n / 256 / 256 / 256 / 256 / 256 / 256 / 256) + n / 256 / 256 / 256 / 256 / 256 / 256 % 256 := by omega
  generalize n / 256 / 256 / 256 / 256 / 256 / 256 / 256 = q7 at *
  generalize n / 256 / 256 / 256 / 256 / 256 / 256 = q6 at *
  generalize n / 256 / 256 / 256 / 256 / 256 = q5 at *
  generalize n / 256 / 256 / 256 / 256 = q4 at *
  generalize n / 256 / 256 / 256 = q3 at *
  generalize n / 256 / 256 = q2 at *
  generalize n / 256 = q1 at *
  unfold wrap64
  omega
 rw [e]
theorem rdF_back {x : GFrame} (h1 : 0 ≤ x.func ∧ x.func < 256) (h2 : 0 ≤ x.at_ ∧ x.at_ < 256) (h3 : x.locals.length < 256) (h4 : x.stack.length < 256) (h5 : ∀ n ∈ x.locals, I64 n) (h6 : ∀ n ∈ x.stack, I64 n) : Back rdF frameL x := by
 intro r
 have e1 := rdL_back (one := rdW) (enc := eightL) h3 (fun n hn => rdW_back (h5 n hn))
 have e2 := rdL_back (one := rdW) (enc := eightL) h4 (fun n hn => rdW_back (h6 n hn))
 have b1 : ((by8 x.func).toNat : Int) = x.func := by rw [by8_val]; omega
 have b2 : ((by8 x.at_).toNat : Int) = x.at_ := by rw [by8_val]; omega
 unfold rdF frameL manyL
 rw [List.cons_append, rd1]
 simp only
 rw [List.cons_append, rd1]
 simp only
 rw [b1, b2, List.append_assoc, show (by8 (x.locals.length : Int) :: x.locals.flatMap eightL) = listL eightL x.locals from rfl, show (by8 (x.stack.length : Int) :: x.stack.flatMap eightL) = listL eightL x.stack from rfl, e1]
 simp only
 rw [e2]
theorem rdB_back {f : GFiber} (h1 : -1 ≤ f.caller ∧ f.caller < 255) (h2 : f.frames.length < 256) (h3 : ∀ x ∈ f.frames, Back rdF frameL x) : Back rdB fiberL f := by
 intro r
 have e1 := rdL_back h2 h3
 have b1 : ((by8 (f.caller + 1)).toNat : Int) = f.caller + 1 := by rw [by8_val]; omega
 unfold rdB fiberL
 rw [List.cons_append, rd1]
 simp only
 rw [b1, show (by8 (f.frames.length : Int) :: f.frames.flatMap frameL) = listL frameL f.frames from rfl, e1]
 simp only
 rw [show f.caller + 1 - 1 = f.caller by omega]
theorem rdS_back {s : GState} (h1 : -1 ≤ s.now ∧ s.now < 255) (h2 : s.fibers.length < 256) (h3 : ∀ x ∈ s.fibers, Back rdB fiberL x) (h4 : s.out.length < 256) (h5 : ∀ n ∈ s.out, I64 n) : Back rdS stateL s := by
 intro r
 have e1 := rdL_back h2 h3
 have e2 := rdL_back (one := rdW) (enc := eightL) h4 (fun n hn => rdW_back (h5 n hn))
 have b1 : ((by8 (s.now + 1)).toNat : Int) = s.now + 1 := by rw [by8_val]; omega
 unfold rdS stateL manyL
 rw [List.cons_append, rd1]
 simp only
 rw [b1, ← List.cons_append, List.append_assoc, show (by8 (s.fibers.length : Int) :: s.fibers.flatMap fiberL) = listL fiberL s.fibers from rfl, show (by8 (s.out.length : Int) :: s.out.flatMap eightL) = listL eightL s.out from rfl, e1]
 simp only
 rw [e2]
 simp only
 rw [show s.now + 1 - 1 = s.now by omega]
end Go.Proofs.YtgahbngbpfilgaaGreat
end
section
set_option maxHeartbeats 4000000
set_option maxRecDepth 100000
namespace Go.Proofs.YtgahbngbpfilgaaGreat
open Go Go.RowKit
set_option maxRecDepth 100000 in
theorem infoB : (Tryz.prog.info? 5).map (fun i => (i.zero, i.size, i.bytes)) = some (some (.int .u8 0), 1, 1) := by kernel_rfl
def bys (l : List UInt8) : List Value := l.map fun b => .int .u8 (b.toNat : Int)
theorem bys_len (l : List UInt8) : (bys l).length = l.length := by simp [bys]
theorem bys_app (a b : List UInt8) : bys (a ++ b) = bys a ++ bys b := by simp [bys]
theorem wrap_by8 (n : Int) : IntKind.u8.wrap n = ((by8 n).toNat : Int) := by rw [by8_val, IntKind.wrap_u8]
theorem src_bytes (w : World) (l : List UInt8) (n : Nat) (hn : l.length = n) (t : TypeId) : SrcSl (w.alloc (.cells (bys l).toArray t)) 1 (.slice (some ⟨w.heap.size, 0, none⟩) n n) n (bys l) := by
 refine ⟨_, n, rfl, by rw [bys_len, Nat.mul_one, hn], fun u hu => ?_, .inr ⟨_, rfl, fun j u hj => ?_⟩⟩
 ·obtain ⟨b, _, rfl⟩ := List.mem_map.1 hu
  rfl
 ·have e : (⟨w.heap.size, 0, none⟩ : Addr).add j = ⟨w.heap.size, 0 + j, none⟩ := Addr.add_lit _ _ _
  rw [e, Nat.zero_add]
  have h := World.cell?_alloc_new w (bys l).toArray t j
  rw [h, List.getElem?_toArray]
  exact hj
theorem NewRow.from {w0 W W' : World} {s B : Nat} {v v' : Value} {n m : Nat} {xs ys : List Value} (hE : Ext w0 W) (hB : w0.heap.size ≤ B) (hr : RowAt W B s v m ys) (hn : NewRow W W' B s v v' n xs) : RowAt W' B s v' n xs ∧ Ext w0 W' :=
 ⟨hn.1, Chg.ext_from hE hn.2.1 (fun q e => Nat.le_trans hB (hr.le q e))⟩
theorem eight_len (n : Int) : (eightL n).length = 8 := rfl
theorem flat_eight (l : List Int) : (l.flatMap eightL).length = 8 * l.length := by
 induction l with
 | nil => rfl
 | cons n l ih => rw [List.flatMap_cons, List.length_append, ih, eight_len, List.length_cons]; omega
theorem many_len (l : List Int) : (manyL l).length = 1 + 8 * l.length := by unfold manyL; rw [List.length_cons, flat_eight]; omega
def manyTo (l : List Int) (i : Nat) : List UInt8 := by8 l.length :: (l.take i).flatMap eightL
theorem manyTo_all (l : List Int) : manyTo l l.length = manyL l := by unfold manyTo manyL; rw [List.take_length]
theorem Ints.spot {w : World} {S : Nat → Prop} {a : Option Addr} {l : List Int} {n c : Nat} (h : Ints w S (.slice a n c) l) {m : Nat} (hm : m < l.length) : ∃ b o, a = some ⟨b, o, none⟩ ∧ w.cell? ⟨b, o + m, none⟩ = some (.int .i64 (l.getD m 0)) := by
 obtain ⟨b, o, _, e1, _, _, _, x0, _⟩ := h.get hm
 simp only [Value.slice.injEq] at e1
 obtain ⟨rfl, -, rfl⟩ := e1
 rw [Nat.mul_one] at x0
 refine ⟨b, o, rfl, ?_⟩
 rw [x0]
 simp [List.getD, List.getElem?_eq_getElem hm]
end Go.Proofs.YtgahbngbpfilgaaGreat
end
section
set_option maxHeartbeats 400000
namespace Go.Proofs.YtgahbngbpfilgaaGreat
open Go
section
variable {P : Program} {md : Region.Mode} {ops : Array Oper} {C : World → Prop}
def headQ (P : Program) (md : Region.Mode) (ops : Array Oper) (C : World → Prop) (n : Nat) (L : Array Bool → Act → Prop) : Nat → Array Bool → Act → Prop
 | 0, listed, a => L listed a
 | f + 1, listed, a => Region.ready md ops listed ≠ [] ∧ ∀ i ∈ Region.ready md ops listed, i < n ∧ qOp P ops C i (headQ P md ops C n L f (listed.setIfInBounds i true)) a
theorem wpAny_of_headQ {n g : Nat} {L : Array Bool → Act → Prop} {Q' : Exit → Act → World → Prop} (hL : ∀ listed a w, C w → L listed a → wpAny P md ops Q' g listed a w) :
  ∀ (f : Nat) (listed : Array Bool) (a : Act) (w : World), C w → headQ P md ops C n L f listed a → wpAny P md ops Q' (f + g) listed a w
 | 0, listed, a, w, hw, h => by rw [Nat.zero_add]; exact hL _ _ _ hw h
 | f + 1, listed, a, w, hw, h => by
  rw [show f + 1 + g = (f + g) + 1 by omega]
  exact ⟨fun h0 => absurd h0 h.1, fun i hi => wpOp_of_qOp hw (fun a' w' hw' h' => wpAny_of_headQ hL f _ a' w' hw' h') (h.2 i hi).2⟩
theorem headQ_first {n i : Nat} {oi : Oper} {v : Value} {L : Array Bool → Act → Prop} (hi : ops[i]? = some oi) (hsel : ∀ (j : Nat) (o : Oper) cs b, ops[j]? = some o → o.op ≠ .select cs b)
  (hs : Region.sinkB md ops n = true) (hc : Region.chainB md ops n = true) (hn : n < ops.size) (hin : i < n) (hdone : ∀ listed a, L listed a → ∀ j ∈ Region.ready md ops listed, n ≤ j) :
  ∀ (f : Nat) (listed : Array Bool) (a : Act), HeadInv md ops n listed →
   (∀ j oj, ops[j]? = some oj → j ≠ i → listed.getD j true = false → (∀ e ∈ oj.after, Region.binds md e = true → e.on ≠ i) → oi.apart ops oj = true) →
   i ∈ Region.ready md ops listed → YieldsIn P ops C oi v a →
   headQ P md ops C n L f (listed.setIfInBounds i true) (a.put oi.dst v) → headQ P md ops C n L (f + 1) listed a := by
 intro f
 induction f with
 | zero =>
  intro listed a inv _ hr hy H
  have hun := (mem_ready.1 hr).1
  refine ⟨fun h => (by rw [h] at hr; cases hr), fun j hj => ?_⟩
  have hjn : j < n := by
   rcases Nat.lt_or_ge j n with h | h
   ·exact h
   ·exact absurd hj (tail_waits hs hc hn inv _ i rfl hin hun j h)
  refine ⟨hjn, ?_⟩
  by_cases hji : j = i
  ·subst hji; exact hy.qOp hi H
  ·have := hdone _ _ H j (ready_mono hj hji)
   omega
 | succ f ih =>
  intro listed a inv hfree hr hy H
  have hun := (mem_ready.1 hr).1
  refine ⟨fun h => (by rw [h] at hr; cases hr), fun j hj => ?_⟩
  have hjn : j < n := by
   rcases Nat.lt_or_ge j n with h | h
   ·exact h
   ·exact absurd hj (tail_waits hs hc hn inv _ i rfl hin hun j h)
  refine ⟨hjn, ?_⟩
  by_cases hji : j = i
  ·subst hji; exact hy.qOp hi H
  ·have h1 := (H.2 j (ready_mono hj hji)).2
   obtain ⟨hjun, oj, hoj, hall⟩ := mem_ready.1 hj
   have hnot : ∀ e ∈ oj.after, Region.binds md e = true → e.on ≠ i := fun e he hb heq => by
    have h1 := hall e he hb
    rw [heq, getD_both hun] at h1
    cases h1
   have h2 := qOp_put hoj (hfree j oj hoj hji hjun hnot) (fun cs b => hsel i oi cs b hi) (fun cs b => hsel j oj cs b hoj) hy h1
   have hfree' : ∀ k ok, ops[k]? = some ok → k ≠ i → (listed.setIfInBounds j true).getD k true = false →
     (∀ e ∈ ok.after, Region.binds md e = true → e.on ≠ i) → oi.apart ops ok = true := fun k ok hk hki hun hno => by
    refine hfree k ok hk hki ?_ hno
    by_cases hjk : j = k
    ·subst hjk; exact hjun
    ·rw [getD_set_ne true hjk] at hun; exact hun
   refine qOp_mono (fun a' h3 => ih (listed.setIfInBounds j true) a' (inv.set hj hjn) hfree' (ready_mono hr (Ne.symm hji)) h3.1 ?_) h2
   rw [Array.setIfInBounds_comm _ _ hji]
   exact h3.2
theorem headQ_lex {n g : Nat} {Lq : Act → Prop} (hsel : Region.noSelect ops = true) (hs : Region.sinkB md ops n = true) (hc : Region.chainB md ops n = true) (hn : n < ops.size) :
  ∀ (l : List Oper) (k : Nat) (listed : Array Bool) (a : Act), (∀ j, j < l.length → l[j]? = ops[k + j]?) → k + l.length = n → HeadInv md ops n listed →
  Region.lexHead md ops g l.length k listed = true → wpQuiet P ops C Lq l a →
  headQ P md ops C n (fun listed' a' => Region.seqB md ops g n listed' = true ∧ Lq a') l.length listed a
 | [], k, listed, a, _, hk, _, hB, h => by
  have : k = n := by simpa using hk
  subst this
  exact ⟨by simpa [Region.lexHead] using hB, h⟩
 | o :: l, k, listed, a, hl, hk, inv, hB, h => by
  have h0 : ops[k]? = some o := by simpa using (hl 0 (by simp)).symm
  simp only [List.length_cons, Region.lexHead, Bool.and_eq_true] at hB
  obtain ⟨⟨hr, hf⟩, hB'⟩ := hB
  have hkn : k < n := by simp only [List.length_cons] at hk; omega
  have hr' : k ∈ Region.ready md ops listed := by simpa using hr
  have hst : qOp P ops C k (wpQuiet P ops C Lq l) a := by unfold qOp; simp only [h0]; exact h
  obtain ⟨v, hy, hK⟩ := yieldsIn_of_qOp h0 hst
  exact headQ_first h0 (Region.noSelect_spec hsel) hs hc hn hkn (fun listed' a' hL => seqB_ready hL.1) l.length listed a inv (Region.free_spec h0 hf) hr' hy
   (headQ_lex hsel hs hc hn l (k + 1) _ _ (fun j hj => by have := hl (j + 1) (by simp; omega); simpa [Nat.add_assoc, Nat.add_comm 1 j] using this) (by simp only [List.length_cons] at hk; omega) (inv.set hr' hkn) hB' hK)
theorem wp_region_ext_tail {id : Nat} {Q : Exit → Act → World → Prop} {a : Act} {w : World} {l : List Oper} (n : Nat) (hm : P.follows .mixedOrders = true) (hB : Region.lexTailB .any l.toArray n = true)
  (h : wpQuiet P l.toArray (Ext w) (fun a' => ∀ w', Ext w w' → wpList P l.toArray Q (l.drop n) a' w') (l.take n) a) : (Code.region id l.toArray true).wp P Q a w := by
 simp only [Region.lexTailB, Bool.and_eq_true, decide_eq_true_eq] at hB
 obtain ⟨⟨⟨⟨hsel, hn⟩, hs⟩, hc⟩, hlex⟩ := hB
 have hn' : n < l.length := by simpa using hn
 have htl : (l.take n).length = n := by simp; omega
 have hdl : (l.drop n).length = l.toArray.size - n := by simp
 have inv0 : HeadInv .any l.toArray n (Array.replicate l.toArray.size false) :=
  ⟨by simp, fun j oj _ hl => (by rw [getD_replicate_false] at hl; cases hl), fun t _ ht => getD_in (by simpa using ht) (getD_replicate_false _ _)⟩
 have H := headQ_lex (md := .any) (g := l.toArray.size - n) hsel hs hc hn (l.take n) 0 _ a (fun j hj => by
  have hj' : j < n := by rw [htl] at hj; exact hj
  simp [hj']) (by simpa using htl) inv0 (by rw [htl]; exact hlex) h
 refine wp_region_any hm ?_
 have := wpAny_of_headQ (Q' := Q) (g := l.toArray.size - n) (fun listed a' w' hw' hL => by
  have := wpAny_of_seq (md := .any) (Q' := Q) (l.drop n) n listed a' w' (fun j => by simp [List.getElem?_drop]) (by rw [hdl]; exact hL.1) (hL.2 w' hw')
  rwa [hdl] at this) _ _ _ _ (Ext.drew (Ext.refl w)) H
 rw [htl, show n + (l.toArray.size - n) = l.toArray.size by omega] at this
 exact this
end
end Go.Proofs.YtgahbngbpfilgaaGreat
end
