/- Contract of trimBegun. -/
import Derived.Test.YtpomcbginkhlbaaTrimA
import Derived.Test.YtpomcbginkhlbaaSameF
import Derived.Test.YtpomcbginkhlbaaHtsV
set_option maxHeartbeats 4000000
set_option maxRecDepth 100000
namespace Go.Proofs.Ytpomcbginkhlbaa
open Go Go.RowKit

theorem FuncV.wide {w : World} {S : Nat → Prop} {v : Value} {F : GFunc} (h : FuncV w S v F) : FuncV w (fun _ => True) v F := FuncV.stays (Stays.widen (fun _ _ => trivial)) h
theorem Funcs.wide {w : World} {S : Nat → Prop} {v : Value} {F : List GFunc} (h : Funcs w S v F) : Funcs w (fun _ => True) v F := Funcs.stays (Stays.widen (fun _ _ => trivial)) h

theorem trimFunc_val (p : List GFunc) (v : Value) (S : Nat → Prop) (f : Int) (w : World) (hp : Funcs w S v p) (r : Int) (F : GFunc) (n : Nat) (hr : hErr p f = r) (hF : trimF p f = F) (hn : F.code.length = n) :
    Calls Try.prog 9 #[v, .int .i64 f] w fun e w' => (∃ A L a c, e = .returned (.tuple #[.agg #[.int .i64 A, .int .i64 L, .slice a n c], .int .i64 r]) ∧ FuncV w' (fun _ => True) (.agg #[.int .i64 A, .int .i64 L, .slice a n c]) F) ∧ Ext w w' := by
  refine (trimFunc_any p v S f w hp).mono fun e w' ⟨⟨x, he, hx⟩, hb⟩ => ⟨?_, hb⟩
  rw [hF] at hx
  have hx2 := hx.wide
  obtain ⟨s, rfl, _, _, hops⟩ := hx
  obtain ⟨a, c, rfl, _, _, _⟩ := hops
  rw [hr] at he
  subst hn
  exact ⟨_, _, a, c, he, hx2⟩
theorem trimAll_val (p : List GFunc) (v : Value) (S : Nat → Prop) (w : World) (hp : Funcs w S v p) (r : Int) (q : List GFunc) (n : Nat) (hr : progErr p = r) (hq : trimP p = q) (hn : q.length = n) :
    Calls Try.prog 10 #[v] w fun e w' => (∃ a c, e = .returned (.tuple #[.slice a n c, .int .i64 r]) ∧ Funcs w' (fun _ => True) (.slice a n c) q) ∧ Ext w w' := by
  refine (trimAll_any p v S w hp).mono fun e w' ⟨⟨x, he, hx⟩, hb⟩ => ⟨?_, hb⟩
  rw [hq] at hx
  have hx2 := hx.wide
  obtain ⟨a, c, rfl, _, _, _⟩ := hx
  rw [hr] at he
  subst hn
  exact ⟨a, c, he, hx2⟩

theorem refTrimFunc_val (p : List GFunc) (v : Value) (S : Nat → Prop) (f : Int) (w : World) (hp : Funcs w S v p) (r : Int) (F : GFunc) (n : Nat) (hr : hErr p f = r) (hF : trimF p f = F) (hn : F.code.length = n) :
    Calls Try.prog 11 #[v, .int .i64 f] w fun e w' => (∃ A L a c, e = .returned (.tuple #[.agg #[.int .i64 A, .int .i64 L, .slice a n c], .int .i64 r]) ∧ FuncV w' (fun _ => True) (.agg #[.int .i64 A, .int .i64 L, .slice a n c]) F) ∧ Ext w w' := by
  refine (refTrimFunc_any p v S f w hp).mono fun e w' ⟨⟨x, he, hx⟩, hb⟩ => ⟨?_, hb⟩
  rw [hF] at hx
  have hx2 := hx.wide
  obtain ⟨s, rfl, _, _, hops⟩ := hx
  obtain ⟨a, c, rfl, _, _, _⟩ := hops
  rw [hr] at he
  subst hn
  exact ⟨_, _, a, c, he, hx2⟩
theorem refTrimAll_val (p : List GFunc) (v : Value) (S : Nat → Prop) (w : World) (hp : Funcs w S v p) (r : Int) (q : List GFunc) (n : Nat) (hr : progErr p = r) (hq : trimP p = q) (hn : q.length = n) :
    Calls Try.prog 12 #[v] w fun e w' => (∃ a c, e = .returned (.tuple #[.slice a n c, .int .i64 r]) ∧ Funcs w' (fun _ => True) (.slice a n c) q) ∧ Ext w w' := by
  refine (refTrimAll_any p v S w hp).mono fun e w' ⟨⟨x, he, hx⟩, hb⟩ => ⟨?_, hb⟩
  rw [hq] at hx
  have hx2 := hx.wide
  obtain ⟨a, c, rfl, _, _, _⟩ := hx
  rw [hr] at he
  subst hn
  exact ⟨a, c, he, hx2⟩

def cut4 : List GOp := [⟨9, 2⟩, ⟨1, 0⟩, ⟨0, 1⟩, ⟨12, 0⟩]
def cut3 : List GOp := [⟨9, 1⟩, ⟨0, 1⟩, ⟨12, 0⟩]
theorem tc1 : hErr countP 1 = 0 := by decide
theorem tc2 : (trimF countP 1).code.length = 10 := by decide
theorem tc3 : progErr countP = 0 := by decide
theorem tc4 : (trimP countP).length = 3 := by decide
theorem tc5 : hErr [⟨0, 0, cut4⟩] 0 = 0 := by decide
theorem tc6 : trimF [⟨0, 0, cut4⟩] 0 = ⟨0, 0, cut3⟩ := by decide
theorem tc7 : hErr countP 3 = 5 := by decide
theorem tc8 : trimF countP 3 = ⟨0, 0, []⟩ := by decide

theorem funcV_new (w : World) (l : List GOp) (n : Nat) (hn : l.length = n) (cs : Array Value) (hcs : cs.toList = opCells l) (hI : ∀ x ∈ l, I64 x.kind ∧ I64 x.a) (hl : l.length ≤ 1000) (t : TypeId) :
    FuncV (w.alloc (.cells cs t)) (fun _ => True) (.agg #[.int .i64 0, .int .i64 0, .slice (some ⟨w.heap.size, 0, none⟩) n n]) ⟨0, 0, l⟩ := by
  subst hn
  exact ⟨_, rfl, ⟨by show (-9223372036854775808 : Int) ≤ 0; decide, by show (0 : Int) ≤ 9223372036854775807; decide⟩, ⟨by show (-9223372036854775808 : Int) ≤ 0; decide, by show (0 : Int) ≤ 9223372036854775807; decide⟩, ops_of_block (S := fun _ => True) l (heap_alloc_new _ _) hcs trivial hI (by omega)⟩

theorem trimBegun_any (w : World) : Calls Try.prog 13 #[] w fun e w' => e = .returned (.bool true) ∧ Ext w w' := by
  go_enter Try.func13, Try.ntmps13
  go_upto_region 2 with (first
    | (go_at_call 36; refine (count_any _).mono ?_; rintro e w1 ⟨⟨v, rfl, hv⟩, hb1⟩; have hf := hv.funcs)
    | (go_at_call 9; (with_reducible refine (trimFunc_val countP _ _ 1 _ hf _ _ 10 tc1 rfl tc2).mono ?_); rintro e w2 ⟨⟨A1, L1, a1, c1, rfl, hl1⟩, hb2⟩))
  have e2 : Ext w (w2.alloc (.cells #[.int .i64 A1, .int .i64 L1, .slice a1 10 c1] 25)) := by ((repeat (first | assumption | exact Ext.refl _ | (exact And.left (by assumption)) | refine Ext.alloc ?_ _ | refine Ext.drew ?_ | refine Ext.drewN ?_ _ | refine Ext.setCell ?_ (by simp) _ | refine Ext.setCell ?_ (by simp; omega) _ | refine Ext.trans ?_ (by assumption))); done)
  have cx2 := Cx.new w2 [.int .i64 A1, .int .i64 L1, .slice a1 10 c1] 25 (j := 2) rfl
  generalize w2.heap.size = bx1 at *
  generalize w2.alloc (.cells #[.int .i64 A1, .int .i64 L1, .slice a1 10 c1] 25) = w3 at *
  have E2 := Lib.hid e2
  have CX2 := Lib.hid cx2
  clear hf hv hb1 hb2 e2 hl1 cx2
  rename World => w3
  go_upto_region 3 with (first
    | (go_at_call 36; refine (count_any _).mono ?_; rintro e w1 ⟨⟨v, rfl, hv⟩, hb1⟩; have hf := hv.funcs)
    | (go_at_call 10; (with_reducible refine (trimAll_val countP _ _ _ hf _ _ 3 tc3 rfl tc4).mono ?_); rintro e w4 ⟨⟨a2, c2, rfl, hl2⟩, hb2⟩))
  have e3 : Ext w3 w4 := by ((repeat (first | assumption | exact Ext.refl _ | (exact And.left (by assumption)) | refine Ext.alloc ?_ _ | refine Ext.drew ?_ | refine Ext.drewN ?_ _ | refine Ext.setCell ?_ (by simp) _ | refine Ext.setCell ?_ (by simp; omega) _ | refine Ext.trans ?_ (by assumption))); done)
  have E3 := Lib.hid (E2.out.trans e3)
  have CX3 := Lib.hid (CX2.out.ext e3)
  clear hf hv hb1 hb2 e3 hl2 E2 CX2
  go_upto_region 4 with (first
    | (go_at_call 37; refine (o_any _ _ _).mono ?_; rintro e w1 ⟨rfl, hb⟩)
    | (go_at_call 9; (with_reducible refine (trimFunc_val [⟨0, 0, cut4⟩] _ _ 0 _ (prog_ops _ cut4 4 rfl #[.int .i64 9, .int .i64 2, .int .i64 1, .int .i64 0, .int .i64 0, .int .i64 1, .int .i64 12, .int .i64 0] rfl (small_ops (by decide)) (by decide) _ _) _ _ 3 tc5 tc6 rfl).mono ?_); rintro e w5 ⟨⟨A3, L3, a3, c3, rfl, hl3⟩, hb3⟩))
  have e4 : Ext w4 (w5.alloc (.cells #[.int .i64 A3, .int .i64 L3, .slice a3 3 c3] 25)) := by ((repeat (first | assumption | exact Ext.refl _ | (exact And.left (by assumption)) | refine Ext.alloc ?_ _ | refine Ext.drew ?_ | refine Ext.drewN ?_ _ | refine Ext.setCell ?_ (by simp) _ | refine Ext.setCell ?_ (by simp; omega) _ | refine Ext.trans ?_ (by assumption))); done)
  have y0 := Cx.new w5 [.int .i64 A3, .int .i64 L3, .slice a3 3 c3] 25 (j := 0) rfl
  have y1 := Cx.new w5 [.int .i64 A3, .int .i64 L3, .slice a3 3 c3] 25 (j := 1) rfl
  have y2 := Cx.new w5 [.int .i64 A3, .int .i64 L3, .slice a3 3 c3] 25 (j := 2) rfl
  have hl4 := FuncV.stays (Ext.stays ((Ext.refl w5).alloc (.cells #[.int .i64 A3, .int .i64 L3, .slice a3 3 c3] 25))) hl3
  generalize w5.heap.size = bx2 at *
  generalize w5.alloc (.cells #[.int .i64 A3, .int .i64 L3, .slice a3 3 c3] 25) = w6 at *
  have E4 := Lib.hid (E3.out.trans e4)
  have CX4 := Lib.hid (CX3.out.ext e4)
  have HL4 := Lib.hid hl4
  have Y := Lib.hid (⟨y0, y1, y2⟩ : _ ∧ _ ∧ _)
  clear e4 hl3 hl4 hb3 y0 y1 y2 E3 CX3
  rename World => w6
  go_upto_region 5 with (first
    | (go_at_call 36; refine (count_any _).mono ?_; rintro e w1 ⟨⟨v, rfl, hv⟩, hb1⟩; have hf := hv.funcs)
    | (go_at_call 9; (with_reducible refine (trimFunc_val countP _ _ 3 _ hf _ _ 0 tc7 tc8 rfl).mono ?_); rintro e w7 ⟨⟨A4, L4, a4, c4, rfl, hl5⟩, hb4⟩))
  have e5 : Ext w6 (w7.alloc (.cells #[.int .i64 A4, .int .i64 L4, .slice a4 0 c4] 25)) := by ((repeat (first | assumption | exact Ext.refl _ | (exact And.left (by assumption)) | refine Ext.alloc ?_ _ | refine Ext.drew ?_ | refine Ext.drewN ?_ _ | refine Ext.setCell ?_ (by simp) _ | refine Ext.setCell ?_ (by simp; omega) _ | refine Ext.trans ?_ (by assumption))); done)
  generalize w7.alloc (.cells #[.int .i64 A4, .int .i64 L4, .slice a4 0 c4] 25) = w8 at *
  have E5 := Lib.hid (E4.out.trans e5)
  have hx := CX4.out.ext e5
  have HL5 := Lib.hid (FuncV.stays (Ext.stays e5) HL4.out)
  have g0 := Y.out.1.ext e5
  have g1 := Y.out.2.1.ext e5
  have g2 := Y.out.2.2.ext e5
  clear hf hv hb1 hb4 e5 hl5 E4 CX4 HL4 Y
  rename World => w8
  obtain ⟨hx0, -⟩ := hx
  obtain ⟨g00, -⟩ := g0
  obtain ⟨g10, -⟩ := g1
  obtain ⟨g20, -⟩ := g2
  have RA := alloc_keep
  go_region_held3 (fun w' => Ext w8 w' ∧ ∀ a, (w8.cell? a).isSome = true → w'.cell? a = w8.cell? a)
    ((refine ext_both ?_; ((repeat (first | assumption | exact Ext.refl _ | (exact And.left (by assumption)) | refine Ext.alloc ?_ _ | refine Ext.drew ?_ | refine Ext.drewN ?_ _ | refine Ext.setCell ?_ (by simp) _ | refine Ext.setCell ?_ (by simp; omega) _ | refine Ext.trans ?_ (by assumption))); done)))
    ((first
      | (go_at_call 37; refine (o_any _ _ _).mono ?_; rintro e w9 ⟨rfl, hb⟩; have hc := Ext.keep hb)
      | (go_at_call 14; (with_reducible refine (sameFuncs_any ⟨0, 0, cut3⟩ ⟨0, 0, cut3⟩ _ _ (fun _ => True) (fun _ => True) _ (FuncV.stays (Ext.stays (by ((repeat (first | assumption | exact Ext.refl _ | (exact And.left (by assumption)) | refine Ext.alloc ?_ _ | refine Ext.drew ?_ | refine Ext.drewN ?_ _ | refine Ext.setCell ?_ (by simp) _ | refine Ext.setCell ?_ (by simp; omega) _ | refine Ext.trans ?_ (by assumption))); done))) HL5.out) (funcV_new _ cut3 3 rfl #[.int .i64 9, .int .i64 1, .int .i64 0, .int .i64 1, .int .i64 12, .int .i64 0] rfl (small_ops (by decide)) (by decide) _)).mono ?_); rintro e w10 ⟨rfl, hb10⟩; rw [show decide ((⟨0, 0, cut3⟩ : GFunc) = ⟨0, 0, cut3⟩) = true by decide])))
  all_goals
    go_wp2_with fail
    go_ret
    exact ⟨rfl, E5.out.trans (by ((repeat (first | assumption | exact Ext.refl _ | (exact And.left (by assumption)) | refine Ext.alloc ?_ _ | refine Ext.drew ?_ | refine Ext.drewN ?_ _ | refine Ext.setCell ?_ (by simp) _ | refine Ext.setCell ?_ (by simp; omega) _ | refine Ext.trans ?_ (by assumption))); done))⟩
end Go.Proofs.Ytpomcbginkhlbaa
