/- Merged texts: contracts and plain facts, one part behind another; each part begins with what it says. -/
import Derived.Test.YtgahbngbpfilgaaGFAD
import Derived.Test.YtgahbngbpfilgaaGFAI
import Derived.Test.YtgahbngbpfilgaaGFAU
import Derived.Recover
import Derived.Tactics2
section
/- Contract of state.Line. -/
set_option maxHeartbeats 4000000
set_option maxRecDepth 100000
namespace Go.Proofs.Ytgahbngbpfilgaa
open Go Go.RowKit

/-- What Line hands back. -/
def LineRetS (B : Nat) (s : GState) (e : Ending) (w' : World) : Prop :=
  match lineS s with
  | none => e = .returned (.tuple #[.slice none 0 0, .bool false])
  | some l => ∃ a c, e = .returned (.tuple #[.slice a l.length c, .bool true]) ∧ Ints w' (B ≤ ·) (.slice a l.length c) l

theorem line_any (s : GState) (vs : Value) (T : Nat → Prop) (w : World) (hs : StateV w T vs s) (hc : Callers s) :
    Calls Try.prog 81 #[vs] w fun e w' => LineRetS w.heap.size s e w' ∧ Ext w w' := by
  obtain ⟨fs, now, outs⟩ := s
  obtain ⟨x, y, rfl, hfs, _, hout⟩ := hs
  have HFS := Lib.hid hfs
  obtain ⟨af, cf, rfl, _, _, _⟩ := hfs
  obtain ⟨ao, co, rfl, _, _, _⟩ := hout
  simp only at *
  have RA := alloc_keep
  obtain ⟨i0, hi0, hz0, hz1, hz2⟩ := info_parts infoI
  have HC := Lib.hid hc
  have hfew := hc.few
  simp only at hfew
  clear hc
  obtain ⟨S, hS⟩ : ∃ S : GState, (⟨fs, now, outs⟩ : GState) = S := ⟨_, rfl⟩
  have hl0 : lineGo fs (fs.length + 2 - ([] : List Int).length) now [] = lineS S := by rw [← hS]; rfl
  have HS := Lib.hid hS
  have bx0 := Lib.hid (Cx.new w [.slice af fs.length cf, .int .i64 now, .slice ao outs.length co] 26 (j := 0) rfl)
  have bx1 := Lib.hid (Cx.new w [.slice af fs.length cf, .int .i64 now, .slice ao outs.length co] 26 (j := 1) rfl)
  have hE1 := (Ext.refl w).alloc (.cells #[.slice af fs.length cf, .int .i64 now, .slice ao outs.length co] 26)
  have hL0 : LineOn fs now [] := ⟨HC.out.now, List.nodup_nil, by simp⟩
  have HL0 := Lib.hid hl0
  have HLN := Lib.hid hL0
  have HE1 := Lib.hid hE1
  have HSZ1 : Hid ((w.alloc (.cells #[.slice af fs.length cf, .int .i64 now, .slice ao outs.length co] 26)).heap.size = w.heap.size + 1) := Array.size_push _
  rw [hS]
  clear hl0 hL0 hE1 hS
  go_enter Try.func81, Try.ntmps81
  go_wp2_with fail
  generalize w.alloc (.cells #[.slice af fs.length cf, .int .i64 now, .slice ao outs.length co] 26) = w1 at *
  have hsz1 := bx0.out.lt
  go_loopw [4, 5] (fun q4 q5 wr => ∃ n out, q5 = .int .i64 n ∧ LineOn fs n out ∧ lineGo fs (fs.length + 2 - out.length) n out = lineS S ∧ Ext w1 wr ∧ RowAt wr (w.heap.size + 1) 1 q4 out.length (ints out) ∧ lenV q4 = out.length) (fun q4 _ _ => fs.length + 1 - lenV q4)
  case atStart => exact ⟨now, [], rfl, HLN.out, HL0.out, Ext.refl _, RowAt.nil _ _ _ _, rfl⟩
  case round =>
    obtain ⟨n, out, rfl, hln, hlg, hb, hrow, _⟩ := hrel
    have HLN2 := Lib.hid hln
    have HLG := Lib.hid hlg
    have HB := Lib.hid hb
    have HROW := Lib.hid hrow
    have hol := hln.len
    obtain ⟨ar, capr, rfl, _, _⟩ := hrow.shape
    have hnow := hln.now
    obtain ⟨kf, hkf⟩ : ∃ kf, fs.length + 2 - out.length = kf + 1 := ⟨fs.length + 1 - out.length, by omega⟩
    rw [hkf] at HLG
    clear hln hlg hb hrow HLN HL0
    by_cases h0 : n < 0
    · have T0 : decide (0 ≤ n) = false := decide_eq_false (by omega)
      have HRES : Hid (lineS S = some out) := by unfold Hid; rw [← HLG.out, lineGo_neg h0]
      clear h0 HLG hkf
      have hfin : ∀ wq, Ext wr wq → Ints wq (w.heap.size ≤ ·) (.slice ar out.length capr) out := fun wq hq => by
        refine Ints.of_row (base := w.heap.size + 1) (by rw [flatMap_intF]; exact HROW.out.ext hq (by decide)) (by omega) (fun x hx => ?_) _ (fun b hb _ => by show w.heap.size ≤ b; omega)
        have := HLN2.out.range x hx
        exact ⟨by omega, by omega⟩
      have HFIN := Lib.hid hfin
      clear hfin
      go_wp2_with fail
      go_ret2
      refine ⟨?_, HE1.out.trans HB.out⟩
      unfold LineRetS
      rw [HRES.out]
      exact ⟨ar, capr, rfl, HFIN.out _ (Ext.refl _)⟩
    · have T0 : decide (0 ≤ n) = true := decide_eq_true (by omega)
      obtain ⟨m, rfl⟩ : ∃ m : Nat, n = m := ⟨n.toNat, by omega⟩
      have hml : m < fs.length := by omega
      clear hnow
      have HI64 : Hid (∀ x ∈ out, I64 x) := fun x hx => by
        have := HLN2.out.range x hx
        exact ⟨by omega, by omega⟩
      have HOUT : Hid (Ints wr (fun _ => True) (.slice ar out.length capr) out) := Ints.of_row (base := w.heap.size + 1) (by rw [flatMap_intF]; exact HROW.out) (by omega) HI64.out _ (fun _ _ _ => trivial)
      by_cases hmem : (m : Int) ∈ out
      · have HM : Hid (decide ((m : Int) ∈ out) = true) := decide_eq_true hmem
        have HRES : Hid (lineS S = none) := by unfold Hid; rw [← HLG.out]; exact lineGo_mem (by omega) hmem
        clear hmem
        go_wp2_with (first
          | (go_at_call 101; (with_reducible refine (containsI_any out _ _ _ _ HOUT.out).mono ?_); rintro e w2 ⟨rfl, hx2⟩; rw [HM.out]))
        go_ret2
        refine ⟨?_, HE1.out.trans (HB.out.trans hx2)⟩
        unfold LineRetS
        rw [HRES.out]
        rfl
      · have HM : Hid (decide ((m : Int) ∈ out) = false) := decide_eq_false hmem
        have HNM2 : Hid ((m : Int) ∉ out) := hmem
        clear hmem
        have HNX := Lib.hid (HLN2.out.next (by omega) HNM2.out HC.out.all)
        have HLG2 : Hid (lineGo fs kf (callerOf fs m) (out ++ [(m : Int)]) = lineS S) := by unfold Hid; rw [← lineGo_next (n := (m : Int)) (by omega) HNM2.out]; exact HLG.out
        obtain ⟨bf, of, _, ef, _, _, _, _, f1, _⟩ := HFS.out.get hml
        simp only [Value.slice.injEq] at ef
        obtain ⟨rfl, -, rfl⟩ := ef
        have HCL : Hid (fs[m].caller = callerOf fs m) := by unfold Hid callerOf; rw [show (m : Int).toNat = m by omega]; simp [List.getD, List.getElem?_eq_getElem hml]
        rw [HCL.out] at f1
        generalize callerOf fs m = cl at *
        clear h0 HLG
        go_upto_region 7 with (first
          | (go_at_call 101; (with_reducible refine (containsI_any out _ _ _ _ HOUT.out).mono ?_); rintro e w2 ⟨rfl, hx2⟩; rw [HM.out]))
        have HRW := Lib.hid (HROW.out.ext hx2 (by decide))
        have HBW := Lib.hid (HB.out.trans hx2)
        have HS7 : Hid ((w2.alloc (.cells #[.int .i64 (m : Int)] 3)).heap.size = w2.heap.size + 1) := Array.size_push _
        have HB1 : Hid (w.heap.size + 1 ≤ w2.heap.size) := by unfold Hid; rw [← HSZ1.out]; exact HBW.out.size
        clear hx2
        go_wp2_with (first
          | (at_builtin; refine wpList_append_row rfl _ _ 24 rfl (w.heap.size + 1) 3 i0 (.int .i64 0) 1 8 Try.underlying24 hi0 hz0 hz1 hz2 rfl (by decide) _ _ _ rfl (by exact HRW.out.ext ((Ext.refl _).alloc _) (by decide)) 1 (ints [(m : Int)]) (src_one _ _ _) (by unfold maxLen; omega) (by omega) (by rw [HS7.out]; exact Nat.le_succ_of_le HB1.out) ?_; intro v1 Wv1 rv1; have RV := Lib.hid rv1; obtain ⟨a9, cap9, rfl, _, _⟩ := rv1.1.shape; have HX9 := Lib.hid (Chg.ext_from (HBW.out.alloc (.cells #[.int .i64 (m : Int)] 3)) RV.out.2.1 (fun g e => by rw [HSZ1.out]; exact HRW.out.le g e)); have k0 := (bx0.out.ext HX9.out).1; have k1 := Ext.cell (HE1.out.trans HX9.out) f1; clear rv1))
        go_roundw
        case rel => exact ⟨cl, out ++ [(m : Int)], rfl, HNX.out, by rw [← HLG2.out, List.length_append, List.length_singleton, show fs.length + 2 - (out.length + 1) = kf by omega], HX9.out, by rw [List.length_append, List.length_singleton, ints_app]; exact RV.out.1, by rw [List.length_append, List.length_singleton]; rfl⟩
        case measure => simp [lenV]; omega
end Go.Proofs.Ytgahbngbpfilgaa
end
section
/- Contract of the judge's look. -/
set_option maxHeartbeats 4000000
set_option maxRecDepth 100000
set_option linter.unusedSimpArgs false
namespace Go.Proofs.Ytgahbngbpfilgaa
open Go Go.RowKit

/-- A row of the heights so far: a slice of slices that the call makes. -/
structure HRow (w : World) (base : Nat) (v : Value) (hs : List (Value × List Int)) : Prop where
  row : RowAt w base 1 v hs.length (hs.map Prod.fst)
  ints : ∀ y ∈ hs, (∃ a n c, y.1 = .slice a n c) ∧ Ints w (fun b => base ≤ b ∧ rowBlock v ≠ some b) y.1 y.2
theorem HRow.nil (w : World) (base : Nat) : HRow w base (.slice none 0 0) [] := ⟨RowAt.nil _ _ _ _, by simp⟩
theorem HRow.chg {M : Nat → Prop} {w w' : World} {base : Nat} {v : Value} {hs : List (Value × List Int)} (h : HRow w base v hs) (hc : Chg M w w') (hM : ∀ b, base ≤ b → ¬ M b) : HRow w' base v hs :=
  ⟨h.row.chg hc (fun g e => hM g (h.row.le g e)) (by decide), fun y hy => ⟨(h.ints y hy).1, Ints.stays (hc.stays (fun b hb => hM b hb.1)) (h.ints y hy).2⟩⟩
theorem HRow.grow {w w' : World} {base : Nat} {v v' : Value} {hs : List (Value × List Int)} {y : Value × List Int} (h : HRow w base v hs) (hn : NewRow w w' base 1 v v' (hs.length + 1) (hs.map Prod.fst ++ [y.1]))
    (hy : (∃ a n c, y.1 = .slice a n c) ∧ Ints w (fun b => base ≤ b ∧ rowBlock v ≠ some b) y.1 y.2) : HRow w' base v' (hs ++ [y]) := by
  obtain ⟨hr, hc, hb⟩ := hn
  refine ⟨?_, fun z hz => ?_⟩
  · rw [List.length_append, List.length_singleton, List.map_append]
    exact hr
  · have hz' : (∃ a n c, z.1 = .slice a n c) ∧ Ints w (fun b => base ≤ b ∧ rowBlock v ≠ some b) z.1 z.2 := by
      rcases List.mem_append.1 hz with h1 | h1
      · exact h.ints z h1
      · rw [List.mem_singleton] at h1; subst h1; exact hy
    refine ⟨hz'.1, Ints.stays (fun b o u hS hu => ⟨hc.cell hS.2 hu, hS.1, ?_⟩) hz'.2⟩
    rcases hb with e | e
    · rw [e]; exact hS.2
    · intro e2
      have := e b e2
      have := lt_of_cell hu
      omega
theorem HRow.htsL {w : World} {base : Nat} {v : Value} {hs : List (Value × List Int)} (h : HRow w base v hs) (hb : hs.length ≤ 1000000) : HtsL w v (hs.map Prod.snd) := by
  have h1 := h.row
  have hr : RowAt w base 1 v hs.length (hs.flatMap (fun y => [y.1])) := by
    have e : hs.flatMap (fun y => [y.1]) = hs.map Prod.fst := by
      clear h hb h1
      induction hs with
      | nil => rfl
      | cons y l ih => rw [List.flatMap_cons, ih]; rfl
    rw [e]; exact h1
  have : Sl (fun b o y => ∃ u, w.cell? ⟨b, o, none⟩ = some u ∧ Ints w (fun _ => True) u (Prod.snd y)) 1 24 v hs :=
    Sl.of_row (fun y => [y.1]) hr (fun _ => rfl) (by omega) fun b o y _ _ hy hc => ⟨y.1, hc 0 _ rfl, Ints.stays (Stays.widen (fun _ _ => trivial)) (h.ints y hy).2⟩
  obtain ⟨a, cap, e, q1, q2, q3⟩ := this
  refine ⟨a, cap, by rw [List.length_map]; exact e, by rw [List.length_map]; exact q1, by rw [List.length_map]; exact q2, fun i hi => ?_⟩
  obtain ⟨b, o, e2, h4⟩ := q3 i (by rwa [List.length_map] at hi)
  exact ⟨b, o, e2, by rw [List.getElem_map]; exact h4⟩

/-- The judge behind the line. -/
structure LK (w3 wr : World) (jb : Nat) (p : List GFunc) (vf vp vl : Value) (now : Int) (k : Nat) : Prop where
  chg : Chg (· = jb) w3 wr
  c0 : Cx wr jb 0 vf
  c1 : Cx wr jb 1 (.int .i64 now)
  c3 : Cx wr jb 3 vp
  c5 : Cx wr jb 5 vl
  hts : ∃ v hs, Cx wr jb 4 v ∧ HRow wr w3.heap.size v hs ∧ hs.map Prod.snd = (List.range k).map (fun i : Nat => hgt p i)

theorem LK.grow {w3 wr W7 W8 : World} {jb : Nat} {p : List GFunc} {vf vp vl v v1 : Value} {now : Int} {k : Nat} {hs : List (Value × List Int)} {y : Value × List Int} (h : LK w3 wr jb p vf vp vl now k) (hj : jb < w3.heap.size) (he : Ext wr W7)
    (hc : Cx wr jb 4 v) (hr : HRow wr w3.heap.size v hs) (hm : hs.map Prod.snd = (List.range k).map (fun i : Nat => hgt p i)) (hn : NewRow W7 W8 w3.heap.size 1 v v1 (hs.length + 1) (hs.map Prod.fst ++ [y.1]))
    (hy : (∃ a n c, y.1 = .slice a n c) ∧ Ints W7 (fun b => w3.heap.size ≤ b ∧ rowBlock v ≠ some b) y.1 y.2) (hy2 : y.2 = hgt p k) :
    LK w3 (W8.setCell ⟨jb, 4, none⟩ v1) jb p vf vp vl now (k + 1) ∧ Cx W8 jb 4 v := by
  have hM : ∀ q, rowBlock v = some q → w3.heap.size ≤ q := hr.row.le
  have hch := hn.2.1
  have k2 : Cx W8 jb 4 v := (hc.ext he).chg hch (fun e => by have := hM _ e; omega)
  have go : ∀ j u, j ≠ 4 → Cx wr jb j u → Cx (W8.setCell ⟨jb, 4, none⟩ v1) jb j u := fun j u hj4 hu => ((hu.ext he).chg hch (fun e => by have := hM _ e; omega)).other (.inr hj4) _
  refine ⟨⟨?_, go _ _ (by decide) h.c0, go _ _ (by decide) h.c1, go _ _ (by decide) h.c3, go _ _ (by decide) h.c5, v1, hs ++ [y], k2.set v1, ?_, ?_⟩, k2⟩
  · exact ((h.chg.trans (Chg.of_ext he)).trans' hch (fun q hq e => by have := hM _ e; omega)).setCell (p := ⟨jb, 4, none⟩) (.inl rfl) _
  · have h1 : HRow W7 w3.heap.size v hs := hr.chg (M := fun _ => False) (Chg.of_ext he) (fun _ _ h => h)
    exact (h1.grow hn hy).chg (chg_one W8 jb 4 v1) (fun b hb e => by have e2 : b = jb := e; omega)
  · rw [List.map_append, hm, List.range_succ, List.map_append, List.map_singleton, List.map_singleton, hy2]

theorem LK.judge {w3 wr : World} {jb : Nat} {p : List GFunc} {s : GState} {line : List Int} {af ap al : Option Addr} {cf cp cl : Nat} {S S2 : Nat → Prop} (h : LK w3 wr jb p (.slice af s.fibers.length cf) (.slice ap p.length cp) (.slice al line.length cl) s.now p.length) (hl : p.length ≤ 1000)
    (hf : Fibers wr S (.slice af s.fibers.length cf) s.fibers) (hp : Funcs wr S (.slice ap p.length cp) p) (hln : Ints wr S2 (.slice al line.length cl) line) : Judge wr jb p s line := by
  obtain ⟨v, hs, hc, hr, hm⟩ := h.hts
  have hlen : hs.length = p.length := by have := congrArg List.length hm; simpa using this
  have hH := hr.htsL (by omega)
  rw [hm] at hH
  obtain ⟨a, c, e, q1, q2, q3⟩ := hH
  have e2 : v = .slice a p.length c := by rw [e]; simp
  have hH2 := hr.htsL (by omega)
  rw [hm, e2] at hH2
  rw [e2] at hc
  have W : ∀ S', Stays S' (fun _ => True) wr wr := fun _ => Stays.widen (fun _ _ => trivial)
  exact ⟨⟨_, _, h.c0.1, Fibers.stays (W _) hf⟩, h.c1.1, ⟨_, _, h.c3.1, Funcs.stays (W _) hp⟩, ⟨_, _, hc.1, hH2⟩, ⟨_, _, h.c5.1, Ints.stays (W _) hln⟩⟩

end Go.Proofs.Ytgahbngbpfilgaa
end
section
/- Contract of state.Check: what look throws is caught. -/
set_option maxHeartbeats 4000000
set_option maxRecDepth 100000
set_option linter.unusedSimpArgs false
namespace Go.Proofs.Ytgahbngbpfilgaa
open Go Go.RowKit

end Go.Proofs.Ytgahbngbpfilgaa
end
section
/- Contracts of SameInts and next. -/
set_option maxHeartbeats 2000000
set_option maxRecDepth 100000
namespace Go.Proofs.Ytgahbngbpfilgaa
open Go Go.RowKit

theorem take_eq_of_ne {a b : List Int} {k : Nat} (_ : k < a.length) (_ : k < b.length) (h : a.getD k 0 ≠ b.getD k 0) : a ≠ b := fun e => h (by rw [e])
theorem take_succ_eq {a b : List Int} {k : Nat} (h1 : k < a.length) (h2 : k < b.length) (ht : a.take k = b.take k) (h : a.getD k 0 = b.getD k 0) : a.take (k + 1) = b.take (k + 1) := by
  simp only [List.getD, List.getElem?_eq_getElem h1, List.getElem?_eq_getElem h2, Option.getD_some] at h
  rw [List.take_succ_eq_append_getElem h1, List.take_succ_eq_append_getElem h2, ht, h]

theorem sameInts_any (a b : List Int) (va vb : Value) (S T : Nat → Prop) (w : World) (ha : Ints w S va a) (hb : Ints w T vb b) :
    Calls Try.prog 28 #[va, vb] w fun e w' => e = .returned (.bool (decide (a = b))) ∧ Ext w w' := by
  have HA := Lib.hid ha
  have HB := Lib.hid hb
  obtain ⟨pa, ca, rfl, hca, hba, _⟩ := ha
  obtain ⟨pb, cb, rfl, hcb, hbb, _⟩ := hb
  obtain ⟨t, ht⟩ : ∃ t, decide (a = b) = t := ⟨_, rfl⟩
  rw [ht]
  have HT := Lib.hid ht
  clear ht
  go_enter Try.func28, Try.ntmps28
  by_cases hl : a.length = b.length
  · have TL : ((a.length : Int) != (b.length : Int)) = false := by rw [bne_eq_false_iff_eq]; omega
    go_wp2_with fail
    go_loopw [5] (fun q wr => ∃ k : Nat, k ≤ a.length ∧ q = .int .i64 k ∧ Ext w wr ∧ a.take k = b.take k) (fun q _ => a.length - (intOf q).toNat)
    case atStart => exact ⟨0, Nat.zero_le _, rfl, Ext.refl _, rfl⟩
    case round =>
      obtain ⟨k, hk, rfl, hb3, htk⟩ := hrel
      have HB3 := Lib.hid hb3
      have HTK := Lib.hid htk
      clear hb3 htk
      by_cases hlt : k < a.length
      · have hlt' : k < b.length := by omega
        obtain ⟨ba, oa, _, e1, _, _, _, x0, _⟩ := HA.out.get hlt
        obtain ⟨bb, ob, _, e2, _, _, _, y0, _⟩ := HB.out.get hlt'
        simp only [Value.slice.injEq] at e1 e2
        obtain ⟨rfl, -, rfl⟩ := e1
        obtain ⟨rfl, -, rfl⟩ := e2
        rw [Nat.mul_one] at x0 y0
        have x1 := Ext.cell HB3.out x0
        have y1 := Ext.cell HB3.out y0
        have ea : a[k] = a.getD k 0 := by simp [List.getD, List.getElem?_eq_getElem hlt]
        have eb : b[k] = b.getD k 0 := by simp [List.getD, List.getElem?_eq_getElem hlt']
        rw [ea] at x1
        rw [eb] at y1
        clear x0 y0 ea eb
        obtain ⟨u, hu⟩ : ∃ u, a.getD k 0 = u := ⟨_, rfl⟩
        obtain ⟨z, hz⟩ : ∃ z, b.getD k 0 = z := ⟨_, rfl⟩
        rw [hu] at x1
        rw [hz] at y1
        have HU := Lib.hid hu
        have HZ := Lib.hid hz
        clear hu hz
        by_cases hne : u = z
        · have TN : (u != z) = false := by rw [bne_eq_false_iff_eq]; exact hne
          have HTK2 := Lib.hid (take_succ_eq hlt hlt' HTK.out (by rw [HU.out, HZ.out, hne]))
          clear hne
          go_wp2_with fail
          go_big_quiet (fail)
          go_wp2_with fail
          go_roundw
          case rel => exact ⟨k + 1, by omega, by go_num, HB3.out.drewN _, HTK2.out⟩
          case measure => simp [intOf]; omega
        · have TN : (u != z) = true := bne_iff_ne.2 hne
          have HF : Hid (t = false) := by
            unfold Hid
            rw [← HT.out]
            exact decide_eq_false (take_eq_of_ne hlt hlt' (by rw [HU.out, HZ.out]; exact hne))
          clear hne
          go_wp2_with fail
          go_big_quiet (fail)
          go_wp2_with fail
          go_ret
          exact ⟨by rw [HF.out]; rfl, HB3.out.drewN _⟩
      · obtain rfl : k = a.length := by omega
        have HF : Hid (t = true) := by
          unfold Hid
          rw [← HT.out]
          have := HTK.out
          rw [List.take_length, hl, List.take_length] at this
          exact decide_eq_true this
        clear hlt
        go_wp2_with fail
        go_ret
        exact ⟨by rw [HF.out]; rfl, HB3.out⟩
  · have TL : ((a.length : Int) != (b.length : Int)) = true := bne_iff_ne.2 (by omega)
    have HF : Hid (t = false) := by
      unfold Hid
      rw [← HT.out]
      exact decide_eq_false (fun e => hl (by rw [e]))
    clear hl
    go_wp2_with fail
    go_ret
    exact ⟨by rw [HF.out]; rfl, Ext.refl _⟩

end Go.Proofs.Ytgahbngbpfilgaa
end
