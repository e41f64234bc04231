/- Merged texts: contracts and plain facts, one part behind another; each part begins with what it says. -/
import Derived.Test.YtgahbngbpfilgaaGFAD
import Derived.Test.YtgahbngbpfilgaaGFAE
import Derived.Test.YtgahbngbpfilgaaGFAF
import Derived.Test.YtgahbngbpfilgaaGFAG
section
/- Contract of the document's FuncError. -/
set_option maxHeartbeats 1000000
set_option maxRecDepth 100000
namespace Go.Proofs.Ytgahbngbpfilgaa
open Go Go.RowKit

end Go.Proofs.Ytgahbngbpfilgaa
end
section
/- Contracts of flow.Heights, the document's HeightsOf, SameInts and next. -/
set_option maxHeartbeats 2000000
set_option maxRecDepth 100000
namespace Go.Proofs.Ytgahbngbpfilgaa
open Go Go.RowKit

/-- The error of Heights, and the heights. -/
def hErr (p : List GFunc) (f : Int) : Int := if funcErr p f ≠ 0 then funcErr p f else if hts p (p.getD f.toNat default).code = none then 1 else 0
def hList (p : List GFunc) (f : Int) : List Int := if funcErr p f ≠ 0 then [] else (hts p (p.getD f.toNat default).code).getD []

theorem hErr_bad {p : List GFunc} {f : Int} (h : funcErr p f ≠ 0) : hErr p f = funcErr p f ∧ hList p f = [] := by
  simp [hErr, hList, h]
theorem hErr_none {p : List GFunc} {f : Int} (h : funcErr p f = 0) (hn : hts p (p.getD f.toNat default).code = none) : hErr p f = 1 ∧ hList p f = [] := by
  simp only [hErr, hList, h, hn]; simp
theorem hErr_some {p : List GFunc} {f : Int} {l : List Int} (h : funcErr p f = 0) (hn : hts p (p.getD f.toNat default).code = some l) : hErr p f = 0 ∧ hList p f = l := by
  simp only [hErr, hList, h, hn]; simp

def HRet (B : Nat) (p : List GFunc) (f : Int) (e : Ending) (w' : World) : Prop := ∃ v, e = .returned (.tuple #[v, .int .i64 (hErr p f)]) ∧ Ints w' (B ≤ ·) v (hList p f)

theorem hts_here {p : List GFunc} {f : Int} (h : funcErr p f = 0) : ∃ (n : Nat) (hn : n < p.length), f = n ∧ p.getD f.toNat default = p[n] ∧ RightF p p[n] := by
  obtain ⟨h0, h1, hR⟩ := funcErr_zero h
  have hn : f.toNat < p.length := by omega
  exact ⟨f.toNat, hn, by omega, by simp [List.getD, List.getElem?_eq_getElem hn], hR hn⟩

theorem flowHeights_any (p : List GFunc) (v : Value) (S : Nat → Prop) (f : Int) (w : World) (hp : Funcs w S v p) :
    Calls Try.prog 29 #[v, .int .i64 f] w fun e w' => HRet w.heap.size p f e w' ∧ Ext w w' := by
  have HP := Lib.hid hp
  obtain ⟨a, cap, rfl, _, _, _⟩ := hp
  by_cases h0 : funcErr p f = 0
  · obtain ⟨n, hn, rfl, hg, hR⟩ := hts_here h0
    have H0 := Lib.hid h0
    clear h0
    cases hh : hts p p[n].code with
    | none =>
      have hx := hErr_none H0.out (by rw [hg]; exact hh)
      have HH := Lib.hid hh
      clear hh
      go_enter Try.func29, Try.ntmps29
      go_wp2_with (first
        | (go_at_call 62; (with_reducible refine (flowOf_any p _ S n _ (Funcs.stays (Ext.stays hb) HP.out) hn hR).mono ?_); rintro e w2 ⟨hr, hb2⟩; rw [HH.out] at hr; obtain rfl := hr)
        | (go_at_call 61; (with_reducible refine (check_any p _ S n _ HP.out).mono ?_); rintro e w1 ⟨rfl, hb⟩; rw [H0.out]))
      go_ret2
      exact ⟨⟨_, by rw [hx.1]; rfl, by rw [hx.2]; exact Sl.nil _ _ _⟩, hb.trans hb2⟩
    | some l =>
      have hx := hErr_some H0.out (by rw [hg]; exact hh)
      have HH := Lib.hid hh
      clear hh
      go_enter Try.func29, Try.ntmps29
      go_wp2_with (first
        | (go_at_call 62; (with_reducible refine (flowOf_any p _ S n _ (Funcs.stays (Ext.stays hb) HP.out) hn hR).mono ?_); rintro e w2 ⟨hr, hb2⟩; rw [HH.out] at hr; obtain ⟨vl, rfl, hl⟩ := hr; obtain ⟨al, cl, rfl, _, _, _⟩ := (⟨hl, trivial⟩ : _ ∧ True).1)
        | (go_at_call 61; (with_reducible refine (check_any p _ S n _ HP.out).mono ?_); rintro e w1 ⟨rfl, hb⟩; rw [H0.out]))
      go_ret2
      exact ⟨⟨_, by rw [hx.1]; rfl, by rw [hx.2]; exact Ints.stays (Stays.widen (fun b hB => Nat.le_trans hb.size hB)) hl⟩, hb.trans hb2⟩
  · have hx := hErr_bad h0
    obtain ⟨r, hr⟩ : ∃ r, funcErr p f = r := ⟨_, rfl⟩
    rw [hr] at hx h0
    have HR := Lib.hid hr
    clear hr
    have TB : (r != 0) = true := bne_iff_ne.2 h0
    clear h0
    go_enter Try.func29, Try.ntmps29
    go_wp2_with (first
      | (go_at_call 61; (with_reducible refine (check_any p _ S f _ HP.out).mono ?_); rintro e w1 ⟨rfl, hb⟩; rw [HR.out]))
    go_ret2
    exact ⟨⟨_, by rw [hx.1]; rfl, by rw [hx.2]; exact Sl.nil _ _ _⟩, hb⟩
end Go.Proofs.Ytgahbngbpfilgaa
end
section
/- Contracts of prog.Check and the document's ProgError. -/
set_option maxHeartbeats 2000000
set_option maxRecDepth 100000
namespace Go.Proofs.Ytgahbngbpfilgaa
open Go Go.RowKit

theorem hts_at {p : List GFunc} {k : Nat} (h : funcErr p k = 0) (hk : k < p.length) : p.getD k default = p[k] ∧ RightF p p[k] := by
  obtain ⟨n, hn, e, hg, hR⟩ := hts_here h
  obtain rfl : k = n := by omega
  exact ⟨by simpa using hg, hR⟩

theorem progCheck_any (p : List GFunc) (v : Value) (S : Nat → Prop) (w : World) (hp : Funcs w S v p) :
    Calls Try.prog 25 #[v] w fun e w' => e = .returned (.int .i64 (progErr p)) ∧ Ext w w' := by
  have HP := Lib.hid hp
  obtain ⟨r, hr⟩ : ∃ r, progErr p = r := ⟨_, rfl⟩
  rw [hr]
  have HR := Lib.hid hr
  clear hr
  have hp0 := hp
  obtain ⟨a, cap, rfl, hcap, hby, _⟩ := hp
  by_cases h1 : 5 < p.length
  · have hres : r = 2 := by rw [← HR.out]; unfold progErr; rw [if_pos h1]
    subst hres
    clear hp0
    go_enter Try.func25, Try.ntmps25
    go_wp2_with fail
    go_ret
    exact ⟨rfl, Ext.refl _⟩
  · by_cases h2 : p.length = 0
    · have hres : r = 5 := by rw [← HR.out]; unfold progErr; rw [if_neg h1, if_pos h2]
      subst hres
      have TZ : ((p.length : Int) == 0) = true := by simp [h2]
      clear hp0 h2
      go_enter Try.func25, Try.ntmps25
      go_wp2_with fail
      go_ret
      exact ⟨rfl, Ext.refl _⟩
    · have hpos : 0 < p.length := by omega
      have TZ : ((p.length : Int) == 0) = false := beq_eq_false_iff_ne.2 (by omega)
      have h5 : p.length ≤ 5 := by omega
      obtain ⟨b, o, cap', e0, _, _, ⟨_, x0, _⟩, _, _⟩ := hp0.get hpos
      simp only [Value.slice.injEq] at e0
      obtain ⟨rfl, -, rfl⟩ := e0
      rw [Nat.zero_mul, Nat.add_zero] at x0
      have e1 : p.getD 0 default = p[0] := by simp [List.getD, List.getElem?_eq_getElem hpos]
      by_cases h3 : p[0].args ≠ 0
      · have hres : r = 1 := by rw [← HR.out]; unfold progErr; rw [if_neg h1, if_neg h2, e1, if_pos h3]
        subst hres
        have T3 : (p[0].args != 0) = true := bne_iff_ne.2 h3
        clear hp0 h2 h3 e1 h1
        go_enter Try.func25, Try.ntmps25
        go_wp2_with fail
        go_ret
        exact ⟨rfl, Ext.refl _⟩
      · have HRES : Hid (r = if firstFrom p 0 ≠ 0 then firstFrom p 0 else if allFrom p 0 = true then 0 else 1) := by
          unfold Hid
          rw [← HR.out, ← firstFrom_zero, ← allFrom_zero]
          unfold progErr
          rw [if_neg h1, if_neg h2, e1, if_neg h3]
        have T3 : (p[0].args != 0) = false := by rw [bne_eq_false_iff_eq]; exact Decidable.byContradiction h3
        clear hp0 h2 h3 e1 HR h1
        go_enter Try.func25, Try.ntmps25
        go_wp2_with fail
        go_loopw [24] (fun q wr => ∃ k : Nat, k ≤ p.length ∧ q = .int .i64 k ∧ Ext w wr ∧ firstFrom p k = firstFrom p 0) (fun q _ => p.length - (intOf q).toNat)
        case atStart => exact ⟨0, Nat.zero_le _, rfl, Ext.refl _, rfl⟩
        case round =>
          obtain ⟨k, hk, rfl, hb, hff⟩ := hrel
          have HB := Lib.hid hb
          have HFF := Lib.hid hff
          clear hb hff
          by_cases hlt : k < p.length
          · obtain ⟨e, he⟩ : ∃ e, funcErr p k = e := ⟨_, rfl⟩
            have HE := Lib.hid he
            have HST := Lib.hid (firstFrom_step p hlt)
            clear he
            by_cases hz : e = 0
            · subst hz
              go_wp2_with (first
                | (go_at_call 61; (with_reducible refine (check_any p _ S k _ (Funcs.stays (Ext.stays HB.out) HP.out)).mono ?_); rintro e w1 ⟨rfl, hb1⟩; rw [HE.out]))
              go_roundw
              case rel => exact ⟨k + 1, by omega, by go_num, HB.out.trans hb1, by rw [← HFF.out, HST.out, if_neg (fun h => h HE.out)]⟩
              case measure => simp [intOf]; omega
            · have TE : (e != 0) = true := bne_iff_ne.2 hz
              have hres : r = e := by
                rw [HRES.out, ← HFF.out, HST.out, HE.out, if_pos hz, if_pos hz]
              subst hres
              clear hz
              go_wp2_with (first
                | (go_at_call 61; (with_reducible refine (check_any p _ S k _ (Funcs.stays (Ext.stays HB.out) HP.out)).mono ?_); rintro e w1 ⟨rfl, hb1⟩; rw [HE.out]))
              go_ret
              exact ⟨rfl, HB.out.trans hb1⟩
          · obtain rfl : k = p.length := by omega
            have HZ : Hid (firstFrom p 0 = 0) := by
              unfold Hid
              rw [← HFF.out, firstFrom_end]
            clear hlt HFF
            rename World => wr1
            go_wp2_with fail
            go_loopw [36] (fun q wr => ∃ k : Nat, k ≤ p.length ∧ q = .int .i64 k ∧ Ext w wr ∧ allFrom p k = allFrom p 0) (fun q _ => p.length - (intOf q).toNat)
            case atStart => exact ⟨0, Nat.zero_le _, rfl, HB.out, rfl⟩
            case round =>
              obtain ⟨k, hk, rfl, hb, hff⟩ := hrel
              have HB2 := Lib.hid hb
              have HFF := Lib.hid hff
              clear hb hff HB
              by_cases hlt : k < p.length
              · have hfe := firstFrom_nil _ 0 rfl HZ.out k (Nat.zero_le _) hlt
                obtain ⟨hg, hR⟩ := hts_at hfe hlt
                have HST := Lib.hid (allFrom_step p hlt)
                rw [hg] at HST
                clear hfe hg
                cases hh : hts p p[k].code with
                | none =>
                  have HH := Lib.hid hh
                  have hres : r = 1 := by
                    rw [HRES.out, HZ.out, if_neg (fun h => h rfl), ← HFF.out, HST.out, hh]
                    rfl
                  subst hres
                  clear hh
                  go_wp2_with (first
                    | (go_at_call 62; (with_reducible refine (flowOf_any p _ S k _ (Funcs.stays (Ext.stays HB2.out) HP.out) hlt hR).mono ?_); rintro e w2 ⟨hr, hb2⟩; rw [HH.out] at hr; obtain rfl := hr))
                  go_ret
                  exact ⟨rfl, HB2.out.trans hb2⟩
                | some l =>
                  have HH := Lib.hid hh
                  clear hh
                  go_wp2_with (first
                    | (go_at_call 62; (with_reducible refine (flowOf_any p _ S k _ (Funcs.stays (Ext.stays HB2.out) HP.out) hlt hR).mono ?_); rintro e w2 ⟨hr, hb2⟩; rw [HH.out] at hr; obtain ⟨vl, rfl, hl⟩ := hr; obtain ⟨al, cl, rfl, _, _, _⟩ := (⟨hl, trivial⟩ : _ ∧ True).1))
                  go_roundw
                  case rel => exact ⟨k + 1, by omega, by go_num, HB2.out.trans hb2, by rw [← HFF.out, HST.out, HH.out]; rfl⟩
                  case measure => simp [intOf]; omega
              · obtain rfl : k = p.length := by omega
                have hres : r = 0 := by
                  rw [HRES.out, HZ.out, if_neg (fun h => h rfl), ← HFF.out, allFrom_end]
                  rfl
                subst hres
                clear hlt HFF
                go_wp2_with fail
                go_ret
                exact ⟨rfl, HB2.out⟩
end Go.Proofs.Ytgahbngbpfilgaa
end
section
/- Contracts of the document's BeginOf, and of state's Frame, First, Begin. -/
set_option maxHeartbeats 4000000
set_option maxRecDepth 100000
namespace Go.Proofs.Ytgahbngbpfilgaa
open Go Go.RowKit

def freshFrame (p : List GFunc) (f : Int) : GFrame := ⟨f, 0, List.replicate (funcOf p f).locals.toNat 0, []⟩
def beginG (p : List GFunc) : GState := ⟨[⟨[freshFrame p 0], -1⟩], 0, []⟩

theorem I64.zero : I64 0 := I64.small (by decide) (by decide)
theorem I64.neg1 : I64 (-1) := I64.small (by decide) (by decide)
theorem FrameV.cells {w : World} {S : Nat → Prop} {x : GFrame} {sl st : Value} {b o : Nat} (h : FrameV w S (.agg #[.int .i64 x.func, .int .i64 x.at_, sl, st]) x) (hb : S b)
    (h0 : w.cell? ⟨b, o, none⟩ = some (.int .i64 x.func)) (h1 : w.cell? ⟨b, o + 1, none⟩ = some (.int .i64 x.at_)) (h2 : w.cell? ⟨b, o + 2, none⟩ = some sl) (h3 : w.cell? ⟨b, o + 3, none⟩ = some st) : FrameC w S b o x := by
  obtain ⟨s, t, e, i0, i1, hl, hs⟩ := h
  simp only [Value.agg.injEq] at e
  simp at e
  obtain ⟨rfl, rfl⟩ := e
  exact ⟨⟨hb, h0, i0⟩, ⟨hb, h1, i1⟩, ⟨_, h2, hl⟩, _, h3, hs⟩

/-- A first state in its new blocks, handed back in a box of the call. -/
theorem begin_state {w3 : World} {B base bx : Nat} {x : GFrame} {sl st : Value} (t1 t2 : TypeId) (h : FrameV w3 (base ≤ ·) (.agg #[.int .i64 x.func, .int .i64 x.at_, sl, st]) x) (hB : B ≤ bx) (hb : bx < base) (hb3 : bx < w3.heap.size) (u v z : Value) :
    StateV (((((w3.alloc (.cells #[.int .i64 x.func, .int .i64 x.at_, sl, st] t1)).alloc (.cells #[.slice (some ⟨w3.heap.size, 0, none⟩) 1 1, .int .i64 (-1)] t2)).setCell ⟨bx, 0, none⟩ u).setCell ⟨bx, 1, none⟩ v).setCell ⟨bx, 2, none⟩ z) (B ≤ ·)
      (.agg #[.slice (some ⟨w3.heap.size + 1, 0, none⟩) 1 1, .int .i64 0, .slice none 0 0]) ⟨[⟨[x], -1⟩], 0, []⟩ := by
  have hs4 : (w3.alloc (.cells #[.int .i64 x.func, .int .i64 x.at_, sl, st] t1)).heap.size = w3.heap.size + 1 := Array.size_push _
  have hE4 : Ext w3 (w3.alloc (.cells #[.int .i64 x.func, .int .i64 x.at_, sl, st] t1)) := (Ext.refl _).alloc _
  have f0 := Cx.new w3 [.int .i64 x.func, .int .i64 x.at_, sl, st] t1 (j := 0) rfl
  have f1 := Cx.new w3 [.int .i64 x.func, .int .i64 x.at_, sl, st] t1 (j := 1) rfl
  have f2 := Cx.new w3 [.int .i64 x.func, .int .i64 x.at_, sl, st] t1 (j := 2) rfl
  have f3 := Cx.new w3 [.int .i64 x.func, .int .i64 x.at_, sl, st] t1 (j := 3) rfl
  generalize w3.alloc (.cells [.int .i64 x.func, .int .i64 x.at_, sl, st].toArray t1) = w4 at *
  have hE5 : Ext w4 (w4.alloc (.cells #[.slice (some ⟨w3.heap.size, 0, none⟩) 1 1, .int .i64 (-1)] t2)) := (Ext.refl _).alloc _
  have g0 := Cx.new w4 [.slice (some ⟨w3.heap.size, 0, none⟩) 1 1, .int .i64 (-1)] t2 (j := 0) rfl
  have g1 := Cx.new w4 [.slice (some ⟨w3.heap.size, 0, none⟩) 1 1, .int .i64 (-1)] t2 (j := 1) rfl
  rw [hs4] at g0 g1
  generalize w4.alloc (.cells [.slice (some ⟨w3.heap.size, 0, none⟩) 1 1, .int .i64 (-1)].toArray t2) = w5 at *
  have hch := chg3 w5 bx u v z
  generalize ((w5.setCell ⟨bx, 0, none⟩ u).setCell ⟨bx, 1, none⟩ v).setCell ⟨bx, 2, none⟩ z = w6 at *
  have hfr : FrameV w6 (B ≤ ·) (.agg #[.int .i64 x.func, .int .i64 x.at_, sl, st]) x := FrameV.stays (S := (base ≤ ·)) (fun b o u' hb' hc => ⟨hch.cell (by show ¬ b = bx; have : base ≤ b := hb'; omega) (Ext.cell (hE4.trans hE5) hc), by show B ≤ b; have : base ≤ b := hb'; omega⟩) h
  have k : ∀ j u', Cx w4 w3.heap.size j u' → w6.cell? ⟨w3.heap.size, j, none⟩ = some u' := fun j u' h => ((h.ext hE5).chg hch (by omega)).1
  have k' : ∀ j u', Cx w5 (w3.heap.size + 1) j u' → w6.cell? ⟨w3.heap.size + 1, j, none⟩ = some u' := fun j u' h => (h.chg hch (by omega)).1
  refine ⟨_, _, rfl, Sl.one ⟨⟨_, k' _ _ g0, Sl.one (FrameV.cells hfr (by show B ≤ w3.heap.size; omega) (k _ _ f0) (k _ _ f1) (k _ _ f2) (k _ _ f3)) (by decide)⟩, by show B ≤ w3.heap.size + 1; omega, k' _ _ g1, I64.neg1⟩ (by decide), I64.zero, Sl.nil _ _ _⟩

theorem range4 {w : World} {b : Nat} {x y z u : Value} (h0 : w.cell? ⟨b, 0, none⟩ = some x) (h1 : w.cell? ⟨b, 1, none⟩ = some y) (h2 : w.cell? ⟨b, 2, none⟩ = some z) (h3 : w.cell? ⟨b, 3, none⟩ = some u) : w.rangeAt b 0 [x, y, z, u] := by
  intro j v hj
  rw [Nat.zero_add]
  match j, hj with
  | 0, hj => cases hj; exact h0
  | 1, hj => cases hj; exact h1
  | 2, hj => cases hj; exact h2
  | 3, hj => cases hj; exact h3
theorem box4 {W : World} {b : Nat} {u0 u1 u2 u3 : Value} (h0 : Cx W b 0 u0) (h1 : Cx W b 1 u1) (h2 : Cx W b 2 u2) (h3 : Cx W b 3 u3) (x y z u : Value) :
    ((((W.setCell ⟨b, 0, none⟩ x).setCell ⟨b, 1, none⟩ y).setCell ⟨b, 2, none⟩ z).setCell ⟨b, 3, none⟩ u).rangeAt b 0 [x, y, z, u] :=
  range4 ((((h0.set x).other (.inr (by decide)) y).other (.inr (by decide)) z).other (.inr (by decide)) u).1 ((((h1.other (.inr (by decide)) x).set y).other (.inr (by decide)) z).other (.inr (by decide)) u).1
    ((((h2.other (.inr (by decide)) x).other (.inr (by decide)) y).set z).other (.inr (by decide)) u).1 ((((h3.other (.inr (by decide)) x).other (.inr (by decide)) y).other (.inr (by decide)) z).set u).1
theorem chg4 (W : World) (b : Nat) (x y z u : Value) : Chg (· = b) W ((((W.setCell ⟨b, 0, none⟩ x).setCell ⟨b, 1, none⟩ y).setCell ⟨b, 2, none⟩ z).setCell ⟨b, 3, none⟩ u) := (chg3 W b x y z).trans (chg_one _ _ 3 _)
theorem ext4 {w W : World} (h : Ext w W) (x y z u : Value) : Ext w ((((W.setCell ⟨w.heap.size, 0, none⟩ x).setCell ⟨w.heap.size, 1, none⟩ y).setCell ⟨w.heap.size, 2, none⟩ z).setCell ⟨w.heap.size, 3, none⟩ u) :=
  (ext3 h x y z).setCell (p := ⟨w.heap.size, 3, none⟩) (Nat.le_refl _) _

theorem frame_any (p : List GFunc) (v : Value) (S : Nat → Prop) (n : Nat) (w : World) (hp : Funcs w S v p) (hn : n < p.length) (hR : RightF p p[n]) :
    Calls Try.prog 96 #[v, .int .i64 n] w fun e w' => (∃ x, e = .returned x ∧ FrameV w' (w.heap.size ≤ ·) x (freshFrame p n)) ∧ Ext w w' := by
  have hloc := hR.locals
  obtain ⟨b, o, cap, rfl, hcap, hby, _, ⟨_, hL, iL⟩, _⟩ := hp.get hn
  obtain ⟨N, hN⟩ : ∃ N : Nat, p[n].locals = N := ⟨p[n].locals.toNat, by omega⟩
  have HG : Hid (freshFrame p n = ⟨n, 0, List.replicate N 0, []⟩) := by
    unfold Hid freshFrame funcOf
    rw [show (n : Int).toNat = n by omega, show p.getD n default = p[n] by simp [List.getD, List.getElem?_eq_getElem hn], hN]
    rfl
  rw [hN] at hL hloc
  have hN4 : N ≤ 4 := by omega
  have hnI : I64 n := I64.nat (by omega)
  obtain ⟨i0, hi0, hz0, hz1, hz2⟩ := info_parts infoI
  have RA := alloc_keep
  have c0 := Lib.hid (Cx.new w [.int .i64 0, .int .i64 0, .slice none 0 0, .slice none 0 0] 70 (j := 0) rfl)
  have c1 := Lib.hid (Cx.new w [.int .i64 0, .int .i64 0, .slice none 0 0, .slice none 0 0] 70 (j := 1) rfl)
  have c2 := Lib.hid (Cx.new w [.int .i64 0, .int .i64 0, .slice none 0 0, .slice none 0 0] 70 (j := 2) rfl)
  have c3 := Lib.hid (Cx.new w [.int .i64 0, .int .i64 0, .slice none 0 0, .slice none 0 0] 70 (j := 3) rfl)
  clear hR hp hN
  go_enter Try.func96, Try.ntmps96
  go_wp2_with (first
    | (at_make; refine wpList_make_full _ rfl _ _ 24 rfl (w.heap.size + 1) 3 i0 (.int .i64 0) 1 Try.underlying24 hi0 hz0 hz1 .i64 .i64 _ _ N rfl rfl rfl rfl (by rw [hz2]; omega) (by unfold maxLen; omega) (by simp) ?_; intro w3 hown3 hgr3; have hE3 := ext_none hgr3; have hrow := IRow.made hown3; obtain ⟨⟨d0, d0'⟩, ⟨d1, d1'⟩, ⟨d2, d2'⟩, ⟨d3, d3'⟩⟩ := (⟨c0.out.ext hE3, c1.out.ext hE3, c2.out.ext hE3, c3.out.ext hE3⟩ : _ ∧ _ ∧ _ ∧ _)))
  have hs1 : (w.alloc (.cells #[.int .i64 0, .int .i64 0, .slice none 0 0, .slice none 0 0] 70)).heap.size = w.heap.size + 1 := Array.size_push _
  rw [hs1] at hrow
  refine bodyPost_ret (results_cell_mid rfl _ _ w.heap.size 0 _ _ rfl (box4 ⟨d0, d0'⟩ ⟨d1, d1'⟩ ⟨d2, d2'⟩ ⟨d3, d3'⟩ _ _ _ _) rfl rfl (by kernel_rfl)) rfl ?_
  refine ⟨⟨_, rfl, ?_⟩, ext4 (((Ext.refl w).alloc _).trans hE3) _ _ _ _⟩
  rw [HG.out]
  refine ⟨_, _, rfl, hnI, I64.zero, ?_, Sl.nil _ _ _⟩
  have := hrow.chg (chg4 w3 w.heap.size (.int .i64 n) (.int .i64 0) (.slice (some ⟨w.heap.size + 1, 0, none⟩) N N) (.slice none 0 0)) (by omega)
  have := this.ints (by rw [List.length_replicate]; omega) (fun x hx => by rw [List.eq_of_mem_replicate hx]; exact I64.zero) (w.heap.size ≤ ·) (fun b h => by show w.heap.size ≤ b; omega)
  rwa [List.length_replicate] at this

theorem first_any (p : List GFunc) (v : Value) (S : Nat → Prop) (w : World) (hp : Funcs w S v p) (hz : progErr p = 0) :
    Calls Try.prog 65 #[v] w fun e w' => (∃ x, e = .returned x ∧ StateV w' (w.heap.size ≤ ·) x (beginG p)) ∧ Ext w w' := by
  have HP := Lib.hid hp
  have hRP := progErr_zero hz
  have hpos := hRP.pos
  obtain ⟨_, _, hR'⟩ := funcErr_zero (hRP.func 0 hpos)
  have hR : RightF p p[0] := by have := hR' (by simpa using hpos); simpa using this
  have RA := alloc_keep
  have c0 := Lib.hid (Cx.new w [.slice none 0 0, .int .i64 0, .slice none 0 0] 26 (j := 0) rfl)
  have c1 := Lib.hid (Cx.new w [.slice none 0 0, .int .i64 0, .slice none 0 0] 26 (j := 1) rfl)
  have c2 := Lib.hid (Cx.new w [.slice none 0 0, .int .i64 0, .slice none 0 0] 26 (j := 2) rfl)
  have HS1 : Hid ((w.alloc (.cells #[.slice none 0 0, .int .i64 0, .slice none 0 0] 26)).heap.size = w.heap.size + 1) := Array.size_push _
  obtain ⟨a, cap, rfl, _, _, _⟩ := hp
  obtain ⟨F, hF⟩ : ∃ F, freshFrame p ((0 : Nat) : Int) = F := ⟨_, rfl⟩
  have HF := Lib.hid hF
  have HG : Hid (beginG p = ⟨[⟨[F], -1⟩], 0, []⟩) := by unfold Hid beginG; rw [← hF]; rfl
  rw [HG.out]
  clear hz hRP hF
  go_enter Try.func65, Try.ntmps65
  go_wp2_with (first
    | (go_at_call 96; refine (frame_any p _ S 0 _ (Funcs.stays (Ext.stays ((Ext.refl w).alloc _)) HP.out) hpos hR).mono ?_; rintro e w3 ⟨⟨x, rfl, hx⟩, hE3⟩; rw [HS1.out, HF.out] at hx; have HX := Lib.hid hx; obtain ⟨sl, st, rfl, _, _, hsl, hst⟩ := hx; obtain ⟨a1, n1, rfl, _, _, _⟩ := hsl; obtain ⟨a2, n2, rfl, _, _, _⟩ := hst; have HE4 := Lib.hid ((hE3.alloc (.cells #[.int .i64 F.func, .int .i64 F.at_, .slice a1 F.locals.length n1, .slice a2 F.stack.length n2] 70)).alloc (.cells #[.slice (some ⟨w3.heap.size, 0, none⟩) 1 1, .int .i64 (-1)] 68)); obtain ⟨⟨d0, d0'⟩, ⟨d1, d1'⟩, ⟨d2, d2'⟩⟩ := (⟨c0.out.ext HE4.out, c1.out.ext HE4.out, c2.out.ext HE4.out⟩ : _ ∧ _ ∧ _)))
  refine bodyPost_ret (results_cell_mid rfl _ _ w.heap.size 0 _ _ rfl (box3 ⟨d0, d0'⟩ ⟨d1, d1'⟩ ⟨d2, d2'⟩ _ _ _) rfl rfl (by kernel_rfl)) rfl ?_
  refine ⟨⟨_, rfl, ?_⟩, ext3 (((Ext.refl w).alloc _).trans (hE3.trans (((Ext.refl _).alloc _).alloc _))) _ _ _⟩
  have hsz := hE3.size
  rw [HS1.out] at hsz
  exact begin_state (x := F) 70 68 HX.out (Nat.le_refl _) (Nat.lt_succ_self _) (by omega) _ _ _

end Go.Proofs.Ytgahbngbpfilgaa
end
