/- Merged texts: contracts and plain facts, one part behind another; each part begins with what it says. -/
import Derived.Test.YtgahbngbpfilgaaGreatGHAD
import Derived.Test.YtgahbngbpfilgaaGreatGHAH
import Derived.Test.YtgahbngbpfilgaaGreatGHAO
import Derived.Recover
import Derived.Tactics2
section
set_option maxHeartbeats 4000000
set_option maxRecDepth 100000
namespace Go.Proofs.YtgahbngbpfilgaaGreat
open Go Go.RowKit
def LineRetS (B : Nat) (s : GState) (e : Ending) (w' : World) : Prop :=
 match lineS s with
 | none => e = .returned (.tuple #[.slice none 0 0, .bool false])
 | some l => ∃ a c, e = .returned (.tuple #[.slice a l.length c, .bool true]) ∧ Ints w' (B ≤ ·) (.slice a l.length c) l
theorem line_any (s : GState) (vs : Value) (T : Nat → Prop) (w : World) (hs : StateV w T vs s) (hc : Callers s) :
  Calls Tryz.prog 68 #[vs] w fun e w' => LineRetS w.heap.size s e w' ∧ Ext w w' := by
 obtain ⟨fs, now, outs⟩ := s
 obtain ⟨x, y, rfl, hfs, _, hout⟩ := hs
 have HFS := Lib.hid hfs
 obtain ⟨af, cf, rfl, _, _, _⟩ := hfs
 obtain ⟨ao, co, rfl, _, _, _⟩ := hout
 simp only at *
 have RA := alloc_keep
 obtain ⟨i0, hi0, hz0, hz1, hz2⟩ := info_parts infoI
 have HC := Lib.hid hc
 have hfew := hc.few
 simp only at hfew
 clear hc
 obtain ⟨S, hS⟩ : ∃ S : GState, (⟨fs, now, outs⟩ : GState) = S := ⟨_, rfl⟩
 have hl0 : lineGo fs (fs.length + 2 - ([] : List Int).length) now [] = lineS S := by rw [← hS]; rfl
 have HS := Lib.hid hS
 have bx0 := Lib.hid (Cx.new w [.slice af fs.length cf, .int .i64 now, .slice ao outs.length co] 26 (j := 0) rfl)
 have bx1 := Lib.hid (Cx.new w [.slice af fs.length cf, .int .i64 now, .slice ao outs.length co] 26 (j := 1) rfl)
 have hE1 := (Ext.refl w).alloc (.cells #[.slice af fs.length cf, .int .i64 now, .slice ao outs.length co] 26)
 have hL0 : LineOn fs now [] := ⟨HC.out.now, List.nodup_nil, by simp⟩
 have HL0 := Lib.hid hl0
 have HLN := Lib.hid hL0
 have HE1 := Lib.hid hE1
 have HSZ1 : Hid ((w.alloc (.cells #[.slice af fs.length cf, .int .i64 now, .slice ao outs.length co] 26)).heap.size = w.heap.size + 1) := Array.size_push _
 rw [hS]
 clear hl0 hL0 hE1 hS
 go_enter Tryz.func68, Tryz.ntmps68
 go_wp2_with fail
 generalize w.alloc (.cells #[.slice af fs.length cf, .int .i64 now, .slice ao outs.length co] 26) = w1 at *
 have hsz1 := bx0.out.lt
 go_loopw [4, 5] (fun q4 q5 wr => ∃ n out, q5 = .int .i64 n ∧ LineOn fs n out ∧ lineGo fs (fs.length + 2 - out.length) n out = lineS S ∧ Ext w1 wr ∧ RowAt wr (w.heap.size + 1) 1 q4 out.length (ints out) ∧ lenV q4 = out.length) (fun q4 _ _ => fs.length + 1 - lenV q4)
 case atStart => exact ⟨now, [], rfl, HLN.out, HL0.out, Ext.refl _, RowAt.nil _ _ _ _, rfl⟩
 case round =>
  obtain ⟨n, out, rfl, hln, hlg, hb, hrow, _⟩ := hrel
  have HLN2 := Lib.hid hln
  have HLG := Lib.hid hlg
  have HB := Lib.hid hb
  have HROW := Lib.hid hrow
  have hol := hln.len
  obtain ⟨ar, capr, rfl, _, _⟩ := hrow.shape
  have hnow := hln.now
  obtain ⟨kf, hkf⟩ : ∃ kf, fs.length + 2 - out.length = kf + 1 := ⟨fs.length + 1 - out.length, by omega⟩
  rw [hkf] at HLG
  clear hln hlg hb hrow HLN HL0
  by_cases h0 : n < 0
  ·have T0 : decide (0 ≤ n) = false := decide_eq_false (by omega)
   have HRES : Hid (lineS S = some out) := by unfold Hid; rw [← HLG.out, lineGo_neg h0]
   clear h0 HLG hkf
   have hfin : ∀ wq, Ext wr wq → Ints wq (w.heap.size ≤ ·) (.slice ar out.length capr) out := fun wq hq => by
    refine Ints.of_row (base := w.heap.size + 1) (by rw [flatMap_intF]; exact HROW.out.ext hq (by decide)) (by omega) (fun x hx => ?_) _ (fun b hb _ => by show w.heap.size ≤ b; omega)
    have := HLN2.out.range x hx
    exact ⟨by omega, by omega⟩
   have HFIN := Lib.hid hfin
   clear hfin
   go_wp2_with fail
   go_ret2
   refine ⟨?_, HE1.out.trans HB.out⟩
   unfold LineRetS
   rw [HRES.out]
   exact ⟨ar, capr, rfl, HFIN.out _ (Ext.refl _)⟩
  ·have T0 : decide (0 ≤ n) = true := decide_eq_true (by omega)
   obtain ⟨m, rfl⟩ : ∃ m : Nat, n = m := ⟨n.toNat, by omega⟩
   have hml : m < fs.length := by omega
   clear hnow
   have HI64 : Hid (∀ x ∈ out, I64 x) := fun x hx => by
    have := HLN2.out.range x hx
    exact ⟨by omega, by omega⟩
   have HOUT : Hid (Ints wr (fun _ => True) (.slice ar out.length capr) out) := Ints.of_row (base := w.heap.size + 1) (by rw [flatMap_intF]; exact HROW.out) (by omega) HI64.out _ (fun _ _ _ => trivial)
   by_cases hmem : (m : Int) ∈ out
   ·have HM : Hid (decide ((m : Int) ∈ out) = true) := decide_eq_true hmem
    have HRES : Hid (lineS S = none) := by unfold Hid; rw [← HLG.out]; exact lineGo_mem (by omega) hmem
    clear hmem
    go_wp2_with (first
     | (go_at_call 101; (with_reducible refine (containsI_any out _ _ _ _ HOUT.out).mono ?_); rintro e w2 ⟨rfl, hx2⟩; rw [HM.out]))
    go_ret2
    refine ⟨?_, HE1.out.trans (HB.out.trans hx2)⟩
    unfold LineRetS
    rw [HRES.out]
    rfl
   ·have HM : Hid (decide ((m : Int) ∈ out) = false) := decide_eq_false hmem
    have HNM2 : Hid ((m : Int) ∉ out) := hmem
    clear hmem
    have HNX := Lib.hid (HLN2.out.next (by omega) HNM2.out HC.out.all)
    have HLG2 : Hid (lineGo fs kf (callerOf fs m) (out ++ [(m : Int)]) = lineS S) := by unfold Hid; rw [← lineGo_next (n := (m : Int)) (by omega) HNM2.out]; exact HLG.out
    obtain ⟨bf, of, _, ef, _, _, _, _, f1, _⟩ := HFS.out.get hml
    simp only [Value.slice.injEq] at ef
    obtain ⟨rfl, -, rfl⟩ := ef
    have HCL : Hid (fs[m].caller = callerOf fs m) := by unfold Hid callerOf; rw [show (m : Int).toNat = m by omega]; simp [List.getD, List.getElem?_eq_getElem hml]
    rw [HCL.out] at f1
    generalize callerOf fs m = cl at *
    clear h0 HLG
    go_upto_region 7 with (first
     | (go_at_call 101; (with_reducible refine (containsI_any out _ _ _ _ HOUT.out).mono ?_); rintro e w2 ⟨rfl, hx2⟩; rw [HM.out]))
    have HRW := Lib.hid (HROW.out.ext hx2 (by decide))
    have HBW := Lib.hid (HB.out.trans hx2)
    have HS7 : Hid ((w2.alloc (.cells #[.int .i64 (m : Int)] 3)).heap.size = w2.heap.size + 1) := Array.size_push _
    have HB1 : Hid (w.heap.size + 1 ≤ w2.heap.size) := by unfold Hid; rw [← HSZ1.out]; exact HBW.out.size
    clear hx2
    go_wp2_with (first
     | (at_builtin; refine wpList_append_row rfl _ _ 24 rfl (w.heap.size + 1) 3 i0 (.int .i64 0) 1 8 Tryz.underlying24 hi0 hz0 hz1 hz2 rfl (by decide) _ _ _ rfl (by exact HRW.out.ext ((Ext.refl _).alloc _) (by decide)) 1 (ints [(m : Int)]) (src_one _ _ _) (by unfold maxLen; omega) (by omega) (by rw [HS7.out]; exact Nat.le_succ_of_le HB1.out) ?_; intro v1 Wv1 rv1; have RV := Lib.hid rv1; obtain ⟨a9, cap9, rfl, _, _⟩ := rv1.1.shape; have HX9 := Lib.hid (Chg.ext_from (HBW.out.alloc (.cells #[.int .i64 (m : Int)] 3)) RV.out.2.1 (fun g e => by rw [HSZ1.out]; exact HRW.out.le g e)); have k0 := (bx0.out.ext HX9.out).1; have k1 := Ext.cell (HE1.out.trans HX9.out) f1; clear rv1))
    go_roundw
    case rel => exact ⟨cl, out ++ [(m : Int)], rfl, HNX.out, by rw [← HLG2.out, List.length_append, List.length_singleton, show fs.length + 2 - (out.length + 1) = kf by omega], HX9.out, by rw [List.length_append, List.length_singleton, ints_app]; exact RV.out.1, by rw [List.length_append, List.length_singleton]; rfl⟩
    case measure => simp [lenV]; omega
end Go.Proofs.YtgahbngbpfilgaaGreat
end
section
set_option maxHeartbeats 4000000
set_option maxRecDepth 100000
set_option linter.unusedSimpArgs false
namespace Go.Proofs.YtgahbngbpfilgaaGreat
open Go Go.RowKit
def lookE (r : Int) : Ending := if r = 0 then .returned (.tuple #[]) else .panicked (refusal r)
structure HRow (w : World) (base : Nat) (v : Value) (hs : List (Value × List Int)) : Prop where
 row : RowAt w base 1 v hs.length (hs.map Prod.fst)
 ints : ∀ y ∈ hs, (∃ a n c, y.1 = .slice a n c) ∧ Ints w (fun b => base ≤ b ∧ rowBlock v ≠ some b) y.1 y.2
theorem HRow.nil (w : World) (base : Nat) : HRow w base (.slice none 0 0) [] := ⟨RowAt.nil _ _ _ _, by simp⟩
theorem HRow.chg {M : Nat → Prop} {w w' : World} {base : Nat} {v : Value} {hs : List (Value × List Int)} (h : HRow w base v hs) (hc : Chg M w w') (hM : ∀ b, base ≤ b → ¬ M b) : HRow w' base v hs :=
 ⟨h.row.chg hc (fun g e => hM g (h.row.le g e)) (by decide), fun y hy => ⟨(h.ints y hy).1, Ints.stays (hc.stays (fun b hb => hM b hb.1)) (h.ints y hy).2⟩⟩
theorem HRow.grow {w w' : World} {base : Nat} {v v' : Value} {hs : List (Value × List Int)} {y : Value × List Int} (h : HRow w base v hs) (hn : NewRow w w' base 1 v v' (hs.length + 1) (hs.map Prod.fst ++ [y.1]))
  (hy : (∃ a n c, y.1 = .slice a n c) ∧ Ints w (fun b => base ≤ b ∧ rowBlock v ≠ some b) y.1 y.2) : HRow w' base v' (hs ++ [y]) := by
 obtain ⟨hr, hc, hb⟩ := hn
 refine ⟨?_, fun z hz => ?_⟩
 ·rw [List.length_append, List.length_singleton, List.map_append]
  exact hr
 ·have hz' : (∃ a n c, z.1 = .slice a n c) ∧ Ints w (fun b => base ≤ b ∧ rowBlock v ≠ some b) z.1 z.2 := by
   rcases List.mem_append.1 hz with h1 | h1
   ·exact h.ints z h1
   ·rw [List.mem_singleton] at h1; subst h1; exact hy
  refine ⟨hz'.1, Ints.stays (fun b o u hS hu => ⟨hc.cell hS.2 hu, hS.1, ?_⟩) hz'.2⟩
  rcases hb with e | e
  ·rw [e]; exact hS.2
  ·intro e2
   have := e b e2
   have := lt_of_cell hu
   omega
theorem HRow.htsL {w : World} {base : Nat} {v : Value} {hs : List (Value × List Int)} (h : HRow w base v hs) (hb : hs.length ≤ 1000000) : HtsL w v (hs.map Prod.snd) := by
 have h1 := h.row
 have hr : RowAt w base 1 v hs.length (hs.flatMap (fun y => [y.1])) := by
  have e : hs.flatMap (fun y => [y.1]) = hs.map Prod.fst := by
   clear h hb h1
   induction hs with
   | nil => rfl
   | cons y l ih => rw [List.flatMap_cons, ih]; rfl
  rw [e]; exact h1
 have : Sl (fun b o y => ∃ u, w.cell? ⟨b, o, none⟩ = some u ∧ Ints w (fun _ => True) u (Prod.snd y)) 1 24 v hs :=
  Sl.of_row (fun y => [y.1]) hr (fun _ => rfl) (by omega) fun b o y _ _ hy hc => ⟨y.1, hc 0 _ rfl, Ints.stays (Stays.widen (fun _ _ => trivial)) (h.ints y hy).2⟩
 obtain ⟨a, cap, e, q1, q2, q3⟩ := this
 refine ⟨a, cap, by rw [List.length_map]; exact e, by rw [List.length_map]; exact q1, by rw [List.length_map]; exact q2, fun i hi => ?_⟩
 obtain ⟨b, o, e2, h4⟩ := q3 i (by rwa [List.length_map] at hi)
 exact ⟨b, o, e2, by rw [List.getElem_map]; exact h4⟩
structure LK (w3 wr : World) (jb : Nat) (p : List GFunc) (vf vp vl : Value) (now : Int) (k : Nat) : Prop where
 chg : Chg (· = jb) w3 wr
 c0 : Cx wr jb 0 vf
 c1 : Cx wr jb 1 (.int .i64 now)
 c3 : Cx wr jb 3 vp
 c5 : Cx wr jb 5 vl
 hts : ∃ v hs, Cx wr jb 4 v ∧ HRow wr w3.heap.size v hs ∧ hs.map Prod.snd = (List.range k).map (fun i : Nat => hgt p i)
theorem RowAt.lt' {w : World} {base size : Nat} {v : Value} {n : Nat} {xs : List Value} (h : RowAt w base size v n xs) (hs : 0 < size) : ∀ g, rowBlock v = some g → g < w.heap.size := by
 obtain ⟨_, a, cap, rfl, _, _, h3⟩ := h
 intro g hg
 rcases h3 with h0 | ⟨g', o, rfl, _, _, ht⟩
 ·subst h0; cases a <;> simp [rowBlock] at hg
 ·by_cases hc : cap = 0
  ·subst hc; simp [rowBlock] at hg
  ·rw [rowBlock_some g' o n cap hc] at hg
   cases hg
   obtain ⟨v, hv⟩ := Option.isSome_iff_exists.1 (ht 0 (Nat.mul_pos (by omega) hs)).1
   exact lt_of_cell hv
theorem LK.grow {w3 wr W7 W8 : World} {jb : Nat} {p : List GFunc} {vf vp vl v v1 : Value} {now : Int} {k : Nat} {hs : List (Value × List Int)} {y : Value × List Int} (h : LK w3 wr jb p vf vp vl now k) (hj : jb < w3.heap.size) (he : Ext wr W7)
  (hc : Cx wr jb 4 v) (hr : HRow wr w3.heap.size v hs) (hm : hs.map Prod.snd = (List.range k).map (fun i : Nat => hgt p i)) (hn : NewRow W7 W8 w3.heap.size 1 v v1 (hs.length + 1) (hs.map Prod.fst ++ [y.1]))
  (hy : (∃ a n c, y.1 = .slice a n c) ∧ Ints W7 (fun b => w3.heap.size ≤ b ∧ rowBlock v ≠ some b) y.1 y.2) (hy2 : y.2 = hgt p k) :
  LK w3 (W8.setCell ⟨jb, 4, none⟩ v1) jb p vf vp vl now (k + 1) ∧ Cx W8 jb 4 v := by
 have hM : ∀ q, rowBlock v = some q → w3.heap.size ≤ q := hr.row.le
 have hch := hn.2.1
 have k2 : Cx W8 jb 4 v := (hc.ext he).chg hch (fun e => by have := hM _ e; omega)
 have go : ∀ j u, j ≠ 4 → Cx wr jb j u → Cx (W8.setCell ⟨jb, 4, none⟩ v1) jb j u := fun j u hj4 hu => ((hu.ext he).chg hch (fun e => by have := hM _ e; omega)).other (.inr hj4) _
 refine ⟨⟨?_, go _ _ (by decide) h.c0, go _ _ (by decide) h.c1, go _ _ (by decide) h.c3, go _ _ (by decide) h.c5, v1, hs ++ [y], k2.set v1, ?_, ?_⟩, k2⟩
 ·exact ((h.chg.trans (Chg.of_ext he)).trans' hch (fun q hq e => by have := hM _ e; omega)).setCell (p := ⟨jb, 4, none⟩) (.inl rfl) _
 ·have h1 : HRow W7 w3.heap.size v hs := hr.chg (M := fun _ => False) (Chg.of_ext he) (fun _ _ h => h)
  exact (h1.grow hn hy).chg (chg_one W8 jb 4 v1) (fun b hb e => by have e2 : b = jb := e; omega)
 ·rw [List.map_append, hm, List.range_succ, List.map_append, List.map_singleton, List.map_singleton, hy2]
theorem LK.judge {w3 wr : World} {jb : Nat} {p : List GFunc} {s : GState} {line : List Int} {af ap al : Option Addr} {cf cp cl : Nat} {S S2 : Nat → Prop} (h : LK w3 wr jb p (.slice af s.fibers.length cf) (.slice ap p.length cp) (.slice al line.length cl) s.now p.length) (hl : p.length ≤ 1000)
  (hf : Fibers wr S (.slice af s.fibers.length cf) s.fibers) (hp : Funcs wr S (.slice ap p.length cp) p) (hln : Ints wr S2 (.slice al line.length cl) line) : Judge wr jb p s line := by
 obtain ⟨v, hs, hc, hr, hm⟩ := h.hts
 have hlen : hs.length = p.length := by have := congrArg List.length hm; simpa using this
 have hH := hr.htsL (by omega)
 rw [hm] at hH
 obtain ⟨a, c, e, q1, q2, q3⟩ := hH
 have e2 : v = .slice a p.length c := by rw [e]; simp
 have hH2 := hr.htsL (by omega)
 rw [hm, e2] at hH2
 rw [e2] at hc
 have W : ∀ S', Stays S' (fun _ => True) wr wr := fun _ => Stays.widen (fun _ _ => trivial)
 exact ⟨⟨_, _, h.c0.1, Fibers.stays (W _) hf⟩, h.c1.1, ⟨_, _, h.c3.1, Funcs.stays (W _) hp⟩, ⟨_, _, hc.1, hH2⟩, ⟨_, _, h.c5.1, Ints.stays (W _) hln⟩⟩
theorem src_slice (w : World) (a : Option Addr) (n cap : Nat) (t : TypeId) : SrcSl (w.alloc (.cells #[.slice a n cap] t)) 1 (.slice (some ⟨w.heap.size, 0, none⟩) 1 1) 1 [.slice a n cap] := by
 refine ⟨_, 1, rfl, rfl, by simp [Value.oneCell'], .inr ⟨_, rfl, fun j u hj => ?_⟩⟩
 match j, hj with
 | 0, hj => cases hj; rw [Addr.add_zero']; exact World.cell?_alloc_new w _ _ 0
theorem lineGo_has {fs : List GFiber} : ∀ (k : Nat) (n : Int) (out l : List Int), lineGo fs k n out = some l → (∀ x ∈ out, x ∈ l) ∧ (0 ≤ n → n ∈ l)
 | 0, n, out, l, h => by cases h
 | k + 1, n, out, l, h => by
  rw [lineGo] at h
  by_cases h0 : n < 0
  ·rw [if_pos h0] at h
   cases h
   exact ⟨fun x hx => hx, fun h => by omega⟩
  ·rw [if_neg h0] at h
   by_cases hm : n ∈ out
   ·rw [if_pos hm] at h; cases h
   ·rw [if_neg hm] at h
    obtain ⟨h1, _⟩ := lineGo_has k _ _ _ h
    exact ⟨fun x hx => h1 x (by simp [hx]), fun _ => h1 n (by simp)⟩
theorem line_now {s : GState} {l : List Int} (h : lineS s = some l) (n : Nat) (hn : (n : Int) = s.now) : (n : Int) ∈ l := by
 rw [hn]
 exact (lineGo_has _ _ _ _ h).2 (by omega)
theorem line_done {s : GState} {l : List Int} (h : lineS s = some l) (hn : s.now = -1) : l = [] := by
 unfold lineS at h
 rw [lineGo, if_pos (by omega)] at h
 cases h
 rfl
theorem lineErr_eq {p : List GFunc} {s : GState} {l : List Int} (hl : lineS s = some l) (hpos : 0 < s.fibers.length) :
  (if lineEnd l = false then (1 : Int) else if s.now = -1 ∧ 0 < (s.fibers.getD 0 default).frames.length then 1 else if allK s.fibers.length (fibK p s l) = false then 1 else 0) = if lineEnd l = false then 1 else if allK s.fibers.length (fibK p s l) = false then 1 else 0 := by
 by_cases h : s.now = -1 ∧ 0 < (s.fibers.getD 0 default).frames.length
 ·have : allK s.fibers.length (fibK p s l) = false := allK_false hpos (by
   unfold fibK
   rw [line_done hl h.1, decide_eq_true h.2]
   simp)
  rw [if_pos h, if_pos this]
 ·rw [if_neg h]
theorem infoS : (Tryz.prog.info? 24).map (fun i => (i.zero, i.size, i.bytes)) = some (some (.slice none 0 0), 1, 24) := by kernel_rfl
theorem look_any (p : List GFunc) (s : GState) (jb : Nat) (S : Nat → Prop) (af ap : Option Addr) (cf cp : Nat) (ao : Option Addr) (co : Nat) (w : World) (hz : progErr p = 0)
  (c0 : Cx w jb 0 (.slice af s.fibers.length cf)) (c1 : Cx w jb 1 (.int .i64 s.now)) (c2 : Cx w jb 2 (.slice ao s.out.length co)) (c3 : Cx w jb 3 (.slice ap p.length cp)) (c4 : Cx w jb 4 (.slice none 0 0)) (c5 : Cx w jb 5 (.slice none 0 0))
  (hf : Fibers w S (.slice af s.fibers.length cf) s.fibers) (ho : Ints w S (.slice ao s.out.length co) s.out) (hp : Funcs w S (.slice ap p.length cp) p) (inow : I64 s.now) (hS : ∀ b, S b → b ≠ jb) :
  Calls Tryz.prog 53 #[.pointer (some ⟨jb, 0, none⟩)] w fun e w' => e = lookE (stateErr p s) ∧ Chg (· = jb) w w' := by
 have HZ := Lib.hid hz
 have HF := Lib.hid hf
 have HP := Lib.hid hp
 have HSV : Hid (StateV w S (.agg #[.slice af s.fibers.length cf, .int .i64 s.now, .slice ao s.out.length co]) s) := ⟨_, _, rfl, hf, inow, ho⟩
 have HC := Lib.hid (⟨c0, c1, c2, c3, c4, c5⟩ : _ ∧ _ ∧ _ ∧ _ ∧ _ ∧ _)
 have RA := alloc_keep
 obtain ⟨r, hr⟩ : ∃ r, stateErr p s = r := ⟨_, rfl⟩
 rw [hr]
 have HR1 : Hid (r = if 5 < s.fibers.length ∨ 30 < s.out.length then 2 else if allK s.fibers.length (framesFew s) = false then 2 else if s.fibers.length = 0 then 5 else if ¬ (-1 ≤ s.now ∧ s.now ≤ (s.fibers.length : Int) - 1) then 3 else if allK s.fibers.length (callersB s) = false then 3 else lineErr p s) := by
  unfold Hid
  rw [← hr]
  unfold stateErr
  rw [if_neg (fun h => h hz)]
 clear hr hz hf ho hp
 obtain ⟨⟨b0, -⟩, ⟨b1, -⟩, ⟨b2, -⟩⟩ := (⟨c0, c1, c2⟩ : _ ∧ _ ∧ _)
 clear c0 c1 c2 c3 c4 c5
 go_enter Tryz.func53, Tryz.ntmps53
 go_upto_region 0 with fail
 go_still_tail 14, (by kernel_rfl)
 change wpList _ _ _ _ _ w.drew
 have hE1 : Ext w w.drew := (Ext.refl _).drew
 generalize w.drew = w1 at *
 by_cases h5 : 5 < s.fibers.length ∨ 30 < s.out.length
 ·have HRR : Hid (r = 2) := by unfold Hid; rw [HR1.out, if_pos h5]
  have HB : Hid ((decide ((s.fibers.length : Int) ≤ 5) && decide ((s.out.length : Int) ≤ 30)) = false) := by
   unfold Hid
   rcases h5 with h | h
   ·rw [decide_eq_false (show ¬ (s.fibers.length : Int) ≤ 5 by omega)]; rfl
   ·rw [decide_eq_false (show ¬ (s.out.length : Int) ≤ 30 by omega), Bool.and_false]
  clear h5
  go_wp2_with (first
   | (go_at_call 67; refine (must2 _ _ _ _ _ ).mono ?_; rintro e w9 ⟨he, hx9⟩; rw [HB.out] at he; simp only [Bool.and_true, Bool.true_and, Bool.and_false, Bool.false_and, Bool.and_self, mustE] at he; subst he))
  exact ⟨rfl, by rw [HRR.out]; rfl, Chg.of_ext (hE1.trans (((Ext.refl _).alloc _).trans hx9))⟩
 ·have HB : Hid ((decide ((s.fibers.length : Int) ≤ 5) && decide ((s.out.length : Int) ≤ 30)) = true) := by
   unfold Hid
   rw [decide_eq_true (show (s.fibers.length : Int) ≤ 5 by omega), decide_eq_true (show (s.out.length : Int) ≤ 30 by omega)]
   rfl
  have HR2 : Hid (r = if allK s.fibers.length (framesFew s) = false then 2 else if s.fibers.length = 0 then 5 else if ¬ (-1 ≤ s.now ∧ s.now ≤ (s.fibers.length : Int) - 1) then 3 else if allK s.fibers.length (callersB s) = false then 3 else lineErr p s) := by unfold Hid; rw [HR1.out, if_neg h5]
  clear HR1
  go_upto_region 1 with (first
   | (go_at_call 67; refine (must2 _ _ _ _ _ ).mono ?_; rintro e w2 ⟨he, hx2⟩; rw [HB.out] at he; simp only [Bool.and_true, Bool.true_and, Bool.and_false, Bool.false_and, Bool.and_self, mustE] at he; subst he))
  have hl5 : s.fibers.length ≤ 5 := by omega
  have HE2 := Lib.hid (hE1.trans (((Ext.refl _).alloc _).trans hx2))
  clear hE1 hx2 h5 HB b0 b1 b2
  rename World => w2
  obtain ⟨⟨b0, -⟩, ⟨b1, -⟩, ⟨b2, -⟩⟩ := (⟨HC.out.1.ext HE2.out, HC.out.2.1.ext HE2.out, HC.out.2.2.1.ext HE2.out⟩ : _ ∧ _ ∧ _)
  go_wp2_with fail
  clear b0 b1 b2
  go_loopw [34] (fun q wr => ∃ k : Nat, k ≤ s.fibers.length ∧ q = .int .i64 k ∧ Ext w2 wr ∧ ∀ i, i < k → framesFew s i = true) (fun q _ => s.fibers.length - (intOf q).toNat)
  case atStart => exact ⟨0, Nat.zero_le _, rfl, Ext.refl _, fun i hi => absurd hi (Nat.not_lt_zero _)⟩
  case round =>
   obtain ⟨k, hk, rfl, hb, hall⟩ := hrel
   have HB := Lib.hid hb
   have HALL := Lib.hid hall
   clear hb hall
   by_cases hlt : k < s.fibers.length
   ·obtain ⟨bf, of, ag, cg, rfl, x0, x1, _⟩ := (Fibers.stays (Ext.stays (HE2.out.trans HB.out)) HF.out).at' hlt
    obtain ⟨m, hm⟩ : ∃ m, (s.fibers.getD k default).frames.length = m := ⟨_, rfl⟩
    rw [hm] at x0
    have HM := Lib.hid hm
    obtain ⟨clr, hclr⟩ : ∃ clr, (s.fibers.getD k default).caller = clr := ⟨_, rfl⟩
    rw [hclr] at x1
    clear hm hclr
    go_upto_region 4 with fail
    have hE7 : Ext wr (wr.alloc (.cells #[.slice ag m cg, .int .i64 clr] 41)) := (Ext.refl _).alloc _
    have xb0 := (Cx.new wr [.slice ag m cg, .int .i64 clr] 41 (j := 0) rfl).1
    have HE7 := Lib.hid hE7
    clear hE7 x0 x1
    generalize wr.alloc (.cells [.slice ag m cg, .int .i64 clr].toArray 41) = w7 at *
    by_cases h6 : m ≤ 6
    ·have T6 : Hid (decide ((m : Int) ≤ 6) = true) := decide_eq_true (by omega)
     have HO : Hid (framesFew s k = true) := by unfold Hid framesFew; rw [HM.out]; exact decide_eq_true h6
     clear h6
     go_wp2_with (first
      | (go_at_call 67; refine (must1 _ _ _ _ ).mono ?_; rintro e w9 ⟨he, hx9⟩; rw [T6.out] at he; simp only [Bool.and_true, Bool.true_and, Bool.and_false, Bool.false_and, Bool.and_self, mustE] at he; subst he))
     go_roundw
     case rel => exact ⟨k + 1, by omega, by go_num, HB.out.trans (HE7.out.trans (((Ext.refl _).alloc _).trans hx9)), fun i hi => by
      by_cases e : i = k
      ·rw [e]; exact HO.out
      ·exact HALL.out i (by omega)⟩
     case measure => simp [intOf]; omega
    ·have T6 : Hid (decide ((m : Int) ≤ 6) = false) := decide_eq_false (by omega)
     have HRR : Hid (r = 2) := by unfold Hid; rw [HR2.out, if_pos (allK_false hlt (by unfold framesFew; rw [HM.out]; exact decide_eq_false h6))]
     clear h6
     go_wp2_with (first
      | (go_at_call 67; refine (must1 _ _ _ _ ).mono ?_; rintro e w9 ⟨he, hx9⟩; rw [T6.out] at he; simp only [Bool.and_true, Bool.true_and, Bool.and_false, Bool.false_and, Bool.and_self, mustE] at he; subst he))
     exact ⟨rfl, by rw [HRR.out]; rfl, Chg.of_ext (((HE2.out.trans HB.out).trans HE7.out).trans (((Ext.refl _).alloc _).trans hx9))⟩
   ·obtain rfl : k = s.fibers.length := by omega
    have HR3 : Hid (r = if s.fibers.length = 0 then 5 else if ¬ (-1 ≤ s.now ∧ s.now ≤ (s.fibers.length : Int) - 1) then 3 else if allK s.fibers.length (callersB s) = false then 3 else lineErr p s) := by unfold Hid; rw [HR2.out, allK_true HALL.out, if_neg (by decide)]
    have HE3 := Lib.hid (HE2.out.trans HB.out)
    clear HE2 HR2 HALL hlt
    rename World => w3
    obtain ⟨⟨b0, -⟩, ⟨b1, -⟩, ⟨b2, -⟩⟩ := (⟨HC.out.1.ext HE3.out, HC.out.2.1.ext HE3.out, HC.out.2.2.1.ext HE3.out⟩ : _ ∧ _ ∧ _)
    by_cases h0 : s.fibers.length = 0
    ·have T0 : decide ((0 : Int) < (s.fibers.length : Int)) = false := decide_eq_false (by omega)
     have T0n : decide (0 < s.fibers.length) = false := decide_eq_false (by omega)
     have HRR : Hid (r = 5) := by unfold Hid; rw [HR3.out, if_pos h0]
     clear h0
     go_wp2_with (first
      | (go_at_call 67; refine (must1 _ _ _ _ ).mono ?_; rintro e w9 ⟨he, hx9⟩; simp only [Bool.and_true, Bool.true_and, Bool.and_false, Bool.false_and, Bool.and_self, mustE] at he; subst he))
     exact ⟨rfl, by rw [HRR.out]; rfl, Chg.of_ext (HE3.out.trans (((Ext.refl _).alloc _).trans hx9))⟩
    ·have T0 : decide ((0 : Int) < (s.fibers.length : Int)) = true := decide_eq_true (by omega)
     have T0n : decide (0 < s.fibers.length) = true := decide_eq_true (by omega)
     have hpos : 0 < s.fibers.length := by omega
     go_upto_region 7 with (first
      | (go_at_call 67; refine (must1 _ _ _ _ ).mono ?_; rintro e w4 ⟨he, hx4⟩; simp only [Bool.and_true, Bool.true_and, Bool.and_false, Bool.false_and, Bool.and_self, mustE] at he; subst he))
     have hE4 : Ext w3 w4 := ((Ext.refl _).alloc _).trans hx4
     have HE4 := Lib.hid (HE3.out.trans hE4)
     have d0 := Ext.cell hE4 b0
     have d1 := Ext.cell hE4 b1
     clear HE3 hE4 hx4 b0 b1 b2
     rename World => w4
     go_still_tail 18, (by kernel_rfl)
     change wpList _ _ _ _ _ w4.drew
     have hE5 : Ext w4 w4.drew := (Ext.refl _).drew
     generalize w4.drew = w5 at *
     by_cases hn : -1 ≤ s.now ∧ s.now ≤ (s.fibers.length : Int) - 1
     ·have HB2 : Hid ((decide (-1 ≤ s.now) && decide (s.now < (s.fibers.length : Int))) = true) := by
       unfold Hid
       rw [decide_eq_true hn.1, decide_eq_true (show s.now < (s.fibers.length : Int) by omega)]
       rfl
      have HNOW := Lib.hid hn
      have HR4 : Hid (r = if allK s.fibers.length (callersB s) = false then 3 else lineErr p s) := by unfold Hid; rw [HR3.out, if_neg h0, if_neg (fun h => h hn)]
      clear h0 hn HR3
      go_upto_region 8 with (first
       | (go_at_call 67; refine (must2 _ _ _ _ _ ).mono ?_; rintro e w6 ⟨he, hx6⟩; rw [HB2.out] at he; simp only [Bool.and_true, Bool.true_and, Bool.and_false, Bool.false_and, Bool.and_self, mustE] at he; subst he))
      have hE6 : Ext w4 w6 := hE5.trans (((Ext.refl _).alloc _).trans hx6)
      have HE6 := Lib.hid (HE4.out.trans hE6)
      clear hE5 hx6 d0 d1
      rename World => w6
      obtain ⟨⟨b0, -⟩, ⟨b1, -⟩, ⟨b2, -⟩⟩ := (⟨HC.out.1.ext HE6.out, HC.out.2.1.ext HE6.out, HC.out.2.2.1.ext HE6.out⟩ : _ ∧ _ ∧ _)
      clear hE6
      go_wp2_with fail
      clear b0 b1 b2
      go_loopw [80] (fun q wr => ∃ k : Nat, k ≤ s.fibers.length ∧ q = .int .i64 k ∧ Ext w6 wr ∧ ∀ i, i < k → callersB s i = true) (fun q _ => s.fibers.length - (intOf q).toNat)
      case atStart => exact ⟨0, Nat.zero_le _, rfl, Ext.refl _, fun i hi => absurd hi (Nat.not_lt_zero _)⟩
      case round =>
       obtain ⟨k, hk, rfl, hb, hall⟩ := hrel
       have HB := Lib.hid hb
       have HALL := Lib.hid hall
       clear hb hall
       by_cases hlt : k < s.fibers.length
       ·obtain ⟨bf, of, ag, cg, rfl, x0, x1, _⟩ := (Fibers.stays (Ext.stays (HE6.out.trans HB.out)) HF.out).at' hlt
        obtain ⟨m, hm⟩ : ∃ m, (s.fibers.getD k default).frames.length = m := ⟨_, rfl⟩
        rw [hm] at x0
        obtain ⟨clr, hclr⟩ : ∃ clr, (s.fibers.getD k default).caller = clr := ⟨_, rfl⟩
        rw [hclr] at x1
        have HM := Lib.hid hclr
        clear hm hclr
        go_upto_region 11 with fail
        have hE7 : Ext wr (wr.alloc (.cells #[.slice ag m cg, .int .i64 clr] 41)) := (Ext.refl _).alloc _
        have xb1 := (Cx.new wr [.slice ag m cg, .int .i64 clr] 41 (j := 1) rfl).1
        have HE7 := Lib.hid ((HE6.out.trans HB.out).trans hE7)
        have HX7 := Lib.hid hE7
        have b0 := (HC.out.1.ext HE7.out).1
        clear hE7 x0 x1
        generalize wr.alloc (.cells [.slice ag m cg, .int .i64 clr].toArray 41) = w7 at *
        go_still_tail 12, (by kernel_rfl)
        change wpList _ _ _ _ _ w7.drew
        have hE8 : Ext w7 w7.drew := (Ext.refl _).drew
        generalize w7.drew = w8 at *
        by_cases h6 : -1 ≤ clr ∧ clr ≤ (s.fibers.length : Int) - 1
        ·have T6 : Hid ((decide (-1 ≤ clr) && decide (clr < (s.fibers.length : Int))) = true) := by
          unfold Hid
          rw [decide_eq_true h6.1, decide_eq_true (show clr < (s.fibers.length : Int) by omega)]
          rfl
         have HO : Hid (callersB s k = true) := by unfold Hid callersB; rw [HM.out]; exact decide_eq_true h6
         clear h6
         go_wp2_with (first
          | (go_at_call 67; refine (must2 _ _ _ _ _ ).mono ?_; rintro e w9 ⟨he, hx9⟩; rw [T6.out] at he; simp only [Bool.and_true, Bool.true_and, Bool.and_false, Bool.false_and, Bool.and_self, mustE] at he; subst he))
         go_roundw
         case rel => exact ⟨k + 1, by omega, by go_num, HB.out.trans (HX7.out.trans (hE8.trans (((Ext.refl _).alloc _).trans hx9))), fun i hi => by
          by_cases e : i = k
          ·rw [e]; exact HO.out
          ·exact HALL.out i (by omega)⟩
         case measure => simp [intOf]; omega
        ·have T6 : Hid ((decide (-1 ≤ clr) && decide (clr < (s.fibers.length : Int))) = false) := by
          unfold Hid
          by_cases h : -1 ≤ clr
          ·rw [decide_eq_false (show ¬ clr < (s.fibers.length : Int) by omega), Bool.and_false]
          ·rw [decide_eq_false h]; rfl
         have HRR : Hid (r = 3) := by unfold Hid; rw [HR4.out, if_pos (allK_false hlt (by unfold callersB; rw [HM.out]; exact decide_eq_false h6))]
         clear h6
         go_wp2_with (first
          | (go_at_call 67; refine (must2 _ _ _ _ _ ).mono ?_; rintro e w9 ⟨he, hx9⟩; rw [T6.out] at he; simp only [Bool.and_true, Bool.true_and, Bool.and_false, Bool.false_and, Bool.and_self, mustE] at he; subst he))
         exact ⟨rfl, by rw [HRR.out]; rfl, Chg.of_ext ((HE7.out.trans hE8).trans (((Ext.refl _).alloc _).trans hx9))⟩
       ·obtain rfl : k = s.fibers.length := by omega
        have HR5 : Hid (r = lineErr p s) := by unfold Hid; rw [HR4.out, allK_true HALL.out, if_neg (by decide)]
        have HCS : Hid (Callers s) := ⟨HNOW.out, fun k hk => of_decide_eq_true (HALL.out k hk), by omega⟩
        have HE7 := Lib.hid (HE6.out.trans HB.out)
        clear HE6 HR4 HALL hlt
        rename World => w7
        obtain ⟨⟨b0, -⟩, ⟨b1, -⟩, ⟨b2, -⟩⟩ := (⟨HC.out.1.ext HE7.out, HC.out.2.1.ext HE7.out, HC.out.2.2.1.ext HE7.out⟩ : _ ∧ _ ∧ _)
        cases hl : lineS s with
        | none =>
         have HL := Lib.hid hl
         have HRR : Hid (r = 1) := by unfold Hid; rw [HR5.out]; unfold lineErr; rw [hl]
         clear hl
         go_wp2_with (first
          | (go_at_call 68; (with_reducible refine (line_any s _ _ _ (StateV.stays (Ext.stays HE7.out) HSV.out) HCS.out).mono ?_); rintro e w8 ⟨hlr, hx8⟩; unfold LineRetS at hlr; rw [HL.out] at hlr; obtain rfl := hlr)
          | (go_at_call 67; refine (must2 _ _ _ _ _ ).mono ?_; rintro e w9 ⟨he, hx9⟩; simp only [Bool.and_true, Bool.true_and, Bool.and_false, Bool.false_and, Bool.and_self, mustE] at he; subst he))
         exact ⟨rfl, by rw [HRR.out]; rfl, Chg.of_ext (HE7.out.trans (hx8.trans (((Ext.refl _).alloc _).trans hx9)))⟩
        | some l =>
         have HL := Lib.hid hl
         have HR6 : Hid (r = if lineEnd l = false then 1 else if s.now = -1 ∧ 0 < (s.fibers.getD 0 default).frames.length then 1 else if allK s.fibers.length (fibK p s l) = false then 1 else 0) := by unfold Hid; rw [HR5.out]; unfold lineErr; rw [hl]
         clear hl HR5
         have HJB7 : Hid (jb < w7.heap.size) := (HC.out.1.ext HE7.out).lt
         go_upto_region 14 with (first
          | (go_at_call 68; (with_reducible refine (line_any s _ _ _ (StateV.stays (Ext.stays HE7.out) HSV.out) HCS.out).mono ?_); rintro e w8 ⟨hlr, hx8⟩; unfold LineRetS at hlr; rw [HL.out] at hlr; obtain ⟨al, cl, rfl, hline⟩ := hlr))
         have HE8 := Lib.hid (HE7.out.trans hx8)
         have HLINE := Lib.hid hline
         have hal := hline
         clear HE7 hx8 hline b0 b1 b2
         rename World => w8
         have HR7 : Hid (r = if lineEnd l = false then 1 else if allK s.fibers.length (fibK p s l) = false then 1 else 0) := by unfold Hid; rw [HR6.out]; exact lineErr_eq HL.out hpos
         clear HR6
         go_cut [121] (fun _ wx => Ext w8 wx ∧ lineEnd l = true)
         case first =>
          by_cases h1 : l.length = 0
          ·have T1 : ((l.length : Int) == 0) = true := by simp [h1]
           have HEN : Hid (lineEnd l = true) := by unfold Hid lineEnd; rw [decide_eq_true h1]; rfl
           clear h1
           go_wp2_with (first
            | (go_at_call 67; refine (must2 _ _ _ _ _ ).mono ?_; rintro e w9 ⟨he, hx9⟩; simp only [Bool.and_true, Bool.true_and, Bool.and_false, Bool.false_and, Bool.and_self, mustE] at he; subst he))
           go_meet
           exact ⟨((Ext.refl _).alloc _).trans hx9, HEN.out⟩
          ·obtain ⟨j, hj⟩ : ∃ j, l.length = j + 1 := ⟨l.length - 1, by omega⟩
           have hl24 : l.length ≤ 140737488355328 := by obtain ⟨_, _, _, _, h, _⟩ := hal; omega
           have T1 : ((l.length : Int) == 0) = false := beq_eq_false_iff_ne.2 (by omega)
           have KK : IntKind.i64.wrap ((l.length : Int) - 1) = (j : Int) := by rw [IntWalk.i64_in _ (by omega)]; omega
           have hjl : j < l.length := by omega
           obtain ⟨g, o, rfl, l0⟩ := Ints.at' hal hjl
           obtain ⟨u, hu⟩ : ∃ u, l.getD j 0 = u := ⟨_, rfl⟩
           rw [hu] at l0
           have HEN : Hid (lineEnd l = (u == 0)) := by
            unfold Hid lineEnd
            rw [decide_eq_false h1, show l.length - 1 = j by omega, hu, Bool.false_or, Bool.eq_iff_iff]
            simp
           clear h1 hj hu hal
           by_cases hu0 : u = 0
           ·have T2 : (u == 0) = true := by simp [hu0]
            have HEN2 : Hid (lineEnd l = true) := by unfold Hid; rw [HEN.out, T2]
            clear hu0
            go_wp2_with (first
             | (go_at_call 67; refine (must2 _ _ _ _ _ ).mono ?_; rintro e w9 ⟨he, hx9⟩; simp only [Bool.and_true, Bool.true_and, Bool.and_false, Bool.false_and, Bool.and_self, mustE] at he; subst he))
            go_meet
            exact ⟨((Ext.refl _).alloc _).trans hx9, HEN2.out⟩
           ·have T2 : (u == 0) = false := beq_eq_false_iff_ne.2 hu0
            have HRR : Hid (r = 1) := by unfold Hid; rw [HR7.out, if_pos (by rw [HEN.out, T2])]
            clear hu0
            go_wp2_with (first
             | (go_at_call 67; refine (must2 _ _ _ _ _ ).mono ?_; rintro e w9 ⟨he, hx9⟩; simp only [Bool.and_true, Bool.true_and, Bool.and_false, Bool.false_and, Bool.and_self, mustE] at he; subst he))
            exact ⟨rfl, by rw [HRR.out]; rfl, Chg.of_ext (HE8.out.trans (((Ext.refl _).alloc _).trans hx9))⟩
         case rest =>
          obtain ⟨hx9, hle⟩ := hcut
          have HR8 : Hid (r = if allK s.fibers.length (fibK p s l) = false then 1 else 0) := by unfold Hid; rw [HR7.out, if_neg (by rw [hle]; decide)]
          have HE9 := Lib.hid (HE8.out.trans hx9)
          have HLN9 := Lib.hid (Ints.stays (Ext.stays hx9) HLINE.out)
          clear hx9 hle hal HR7 HE8 HLINE
          rename World => w9
          obtain ⟨c5, c5'⟩ := HC.out.2.2.2.2.2.ext HE9.out
          obtain ⟨c3, c3'⟩ := HC.out.2.2.2.1.ext HE9.out
          have hjb := c5
          have HJB : Hid (jb < w9.heap.size) := lt_of_cell c5
          have hlk : LK w9 (w9.setCell ⟨jb, 5, none⟩ (.slice al l.length cl)) jb p (.slice af s.fibers.length cf) (.slice ap p.length cp) (.slice al l.length cl) s.now 0 := by
           have o := fun j u (hj : j ≠ 5) (hu : Cx w9 jb j u) => hu.other (b' := jb) (j' := 5) (.inr hj) (.slice al l.length cl)
           exact ⟨chg_one _ _ _ _, o _ _ (by decide) (HC.out.1.ext HE9.out), o _ _ (by decide) (HC.out.2.1.ext HE9.out), o _ _ (by decide) (HC.out.2.2.2.1.ext HE9.out), (HC.out.2.2.2.2.2.ext HE9.out).set _, .slice none 0 0, [], o _ _ (by decide) (HC.out.2.2.2.2.1.ext HE9.out), HRow.nil _ _, rfl⟩
          have HLK := Lib.hid hlk
          clear hlk hjb
          go_upto_region 16 with fail
          generalize w9.setCell ⟨jb, 5, none⟩ (.slice al l.length cl) = w10 at *
          obtain ⟨d3, -⟩ := HLK.out.c3
          clear c5 c5' c3 c3'
          go_wp2_with fail
          have HPOS := Lib.hid hpos
          have hlen5 := (progErr_zero HZ.out).most
          obtain ⟨o0, ho0, hoz0, hoz1, hoz2⟩ := info_parts infoS
          go_loopw [131] (fun q wr => ∃ k : Nat, k ≤ p.length ∧ q = .int .i64 k ∧ LK w9 wr jb p (.slice af s.fibers.length cf) (.slice ap p.length cp) (.slice al l.length cl) s.now k) (fun q _ => p.length - (intOf q).toNat)
          case atStart => exact ⟨0, Nat.zero_le _, rfl, HLK.out⟩
          case round =>
           obtain ⟨k, hk, rfl, hlk⟩ := hrel
           have HLK2 := Lib.hid hlk
           have HPR := Lib.hid (Funcs.stays (hlk.chg.stays hS) (Funcs.stays (Ext.stays HE9.out) HP.out))
           clear hlk HLK d3
           by_cases hlt : k < p.length
           ·obtain ⟨d3, -⟩ := HLK2.out.c3
            obtain ⟨v, hs, hc4, hrow, hmm⟩ := HLK2.out.hts
            have hsl : hs.length ≤ 5 := by have := congrArg List.length hmm; simp at this; omega
            obtain ⟨ar, capr, rfl, _, _⟩ := hrow.row.shape
            have HC4 := Lib.hid hc4
            have HROW := Lib.hid hrow
            have HMM := Lib.hid hmm
            have HJBR : Hid (w9.heap.size ≤ wr.heap.size) := HLK2.out.chg.size
            clear hc4 hrow hmm
            go_wp2_with (first
             | (go_at_call 58; (with_reducible refine (flowOf_right p _ S k _ HPR.out HZ.out hlt).mono ?_); rintro e w11 ⟨⟨a3, n3, rfl, hi3⟩, hx11⟩; have HX11 := Lib.hid hx11; have HI3 := Lib.hid hi3; obtain ⟨d4, d4'⟩ := HC4.out.ext hx11; clear hx11 hi3; have HSZ : Hid ((w11.alloc (.cells #[.slice a3 (hgt p k).length n3] 24)).heap.size = w11.heap.size + 1) := Array.size_push _)
             | (at_builtin; refine wpList_append_row rfl _ _ 92 rfl w9.heap.size 24 o0 (.slice none 0 0) 1 24 Tryz.underlying92 ho0 hoz0 hoz1 hoz2 rfl (by decide) _ _ _ rfl (by exact HROW.out.row.ext (HX11.out.trans ((Ext.refl _).alloc _)) (by decide)) 1 [.slice a3 (hgt p k).length n3] (src_slice _ _ _ _ _) (by unfold maxLen; omega) (by omega) (by rw [HSZ.out]; exact Nat.le_succ_of_le (Nat.le_trans HJBR.out HX11.out.size)) ?_; intro v1 Wv1 rv1; obtain ⟨a1, cap1, rfl, _, _⟩ := rv1.1.shape; have HG := Lib.hid (HLK2.out.grow HJB.out (HX11.out.trans ((Ext.refl _).alloc (.cells #[.slice a3 (hgt p k).length n3] 24))) HC4.out HROW.out HMM.out (y := (.slice a3 (hgt p k).length n3, hgt p k)) rv1 ⟨⟨_, _, _, rfl⟩, Ints.stays (fun b o u hS' hu => ⟨Ext.cell ((Ext.refl _).alloc _) hu, Nat.le_trans HJBR.out hS', fun e => by have h1 := HROW.out.row.lt' (by decide) b e; have h2 : wr.heap.size ≤ b := hS'; omega⟩) HI3.out⟩ rfl); obtain ⟨k20, k21⟩ := HG.out.2))
            go_roundw
            case rel => exact ⟨k + 1, by omega, by go_num, HG.out.1⟩
            case measure => simp [intOf]; omega
           ·obtain rfl : k = p.length := by omega
            clear hlt
            have HJD : Hid (Judge wr jb p s l) := HLK2.out.judge (by omega) (Fibers.stays (HLK2.out.chg.stays hS) (Fibers.stays (Ext.stays HE9.out) HF.out)) HPR.out (Ints.stays (HLK2.out.chg.stays (fun b hb e => by have e2 : b = jb := e; have hb2 := hb; have := HJB7.out; omega)) HLN9.out)
            have HCH : Hid (Chg (· = jb) w wr) := (Chg.of_ext HE9.out).trans HLK2.out.chg
            obtain ⟨d0, -⟩ := HLK2.out.c0
            have HHAS := Lib.hid (line_now HL.out)
            clear HLK2 HPR
            rename World => w12
            go_wp2_with fail
            clear d0
            go_loopw [160] (fun q wr => ∃ k : Nat, k ≤ s.fibers.length ∧ q = .int .i64 k ∧ Ext w12 wr ∧ ∀ i, i < k → fibK p s l i = true) (fun q _ => s.fibers.length - (intOf q).toNat)
            case atStart => exact ⟨0, Nat.zero_le _, rfl, Ext.refl _, fun i hi => absurd hi (Nat.not_lt_zero _)⟩
            case round =>
             obtain ⟨k, hk, rfl, hb, hall⟩ := hrel
             have HB := Lib.hid hb
             have HALL := Lib.hid hall
             clear hb hall
             by_cases hlt : k < s.fibers.length
             ·have HEQ := Lib.hid (jfiber_eq (p := p) (s := s) (line := l) (n := k) (HHAS.out k))
              cases hok : fibK p s l k with
              | true =>
               have HOK := Lib.hid hok
               clear hok
               go_wp2_with (first
                | (go_at_call 69; (with_reducible refine (jfiber_any p s l jb k _ (HJD.out.ext HB.out) HZ.out hlt).mono ?_); rintro e w13 ⟨he, hx13⟩; rw [HEQ.out, HOK.out] at he; simp only [mustE] at he; subst he))
               go_roundw
               case rel => exact ⟨k + 1, by omega, by go_num, HB.out.trans hx13, fun i hi => by
                by_cases e : i = k
                ·rw [e]; exact HOK.out
                ·exact HALL.out i (by omega)⟩
               case measure => simp [intOf]; omega
              | false =>
               have HOK := Lib.hid hok
               have HRR : Hid (r = 1) := by unfold Hid; rw [HR8.out, if_pos (allK_false hlt hok)]
               clear hok
               go_wp2_with (first
                | (go_at_call 69; (with_reducible refine (jfiber_any p s l jb k _ (HJD.out.ext HB.out) HZ.out hlt).mono ?_); rintro e w13 ⟨he, hx13⟩; rw [HEQ.out, HOK.out] at he; simp only [mustE] at he; subst he))
               exact ⟨rfl, by rw [HRR.out]; rfl, HCH.out.trans (Chg.of_ext (HB.out.trans hx13))⟩
             ·obtain rfl : k = s.fibers.length := by omega
              have HRR : Hid (r = 0) := by unfold Hid; rw [HR8.out, allK_true HALL.out, if_neg (by decide)]
              clear hlt
              go_wp2_with fail
              go_end0
              exact ⟨by rw [HRR.out]; rfl, HCH.out.trans (Chg.of_ext HB.out)⟩
     ·have HRR : Hid (r = 3) := by unfold Hid; rw [HR3.out, if_neg h0, if_pos hn]
      have HB2 : Hid ((decide (-1 ≤ s.now) && decide (s.now < (s.fibers.length : Int))) = false) := by
       unfold Hid
       by_cases h : -1 ≤ s.now
       ·rw [decide_eq_false (show ¬ s.now < (s.fibers.length : Int) by omega), Bool.and_false]
       ·rw [decide_eq_false h]; rfl
      clear h0 hn HR3
      go_wp2_with (first
       | (go_at_call 67; refine (must2 _ _ _ _ _ ).mono ?_; rintro e w9 ⟨he, hx9⟩; rw [HB2.out] at he; simp only [Bool.and_true, Bool.true_and, Bool.and_false, Bool.false_and, Bool.and_self, mustE] at he; subst he))
      exact ⟨rfl, by rw [HRR.out]; rfl, Chg.of_ext ((HE4.out.trans hE5).trans (((Ext.refl _).alloc _).trans hx9))⟩
end Go.Proofs.YtgahbngbpfilgaaGreat
end
section
set_option maxHeartbeats 4000000
set_option maxRecDepth 100000
set_option linter.unusedSimpArgs false
namespace Go.Proofs.YtgahbngbpfilgaaGreat
open Go Go.RowKit
theorem ta_hit (v : Value) (w : World) : (Instr.typeAssert (.iface 89 v) 20 89 true).run Tryz.prog w = .ok (.tuple #[v, .bool true]) w := by
 unfold Instr.typeAssert
 simp only [Sem.run_bind, run_underlying Tryz.underlying89, Result.andThen_ok]
 rfl
theorem zeroR (w : World) : (zeroValue 89).run Tryz.prog w = .ok (.agg #[.int .i64 0]) w := by kernel_rfl
theorem ta_miss (w : World) : (Instr.typeAssert .nilIface 20 89 true).run Tryz.prog w = .ok (.tuple #[.agg #[.int .i64 0], .bool false]) w := by
 unfold Instr.typeAssert
 simp only [Sem.run_bind, run_underlying Tryz.underlying89, Result.andThen_ok, if_true, zeroR]
 rfl
theorem catch_panicking (b : Nat) (r x : Int) (older : List PanicEntry) (w : World) (hc : Cx w b 0 (.int .i64 x)) :
  CallsD Tryz.prog 52 #[.pointer (some ⟨b, 0, none⟩)] (.panicking ({ v := .iface 89 (.agg #[.int .i64 r]), recovered := false } :: older)) w fun e u' w' =>
   e = .returned (.tuple #[]) ∧ u' = .panicking ({ v := .iface 89 (.agg #[.int .i64 r]), recovered := true } :: older) ∧ Cx w' b 0 (.int .i64 r) ∧ Chg (· = b) w w' := by
 refine callsD_of_wpS Tryz.func52 rfl fun c₀ cs hu => ?_
 apply wpS_seq
 apply wpS_region
 simp [wpOpsS, go_sem, recoverD, hu, Tryz.ntmps52, Exit.thenS]
 refine wpS_of_wp ?_
 simp only [Array.replicate, List.reduceReplicate, List.setIfInBounds_toArray, List.set_cons_succ, List.set_cons_zero, List.append_toArray, List.cons_append, List.nil_append]
 have hta := ta_hit
 have RA := alloc_keep
 have hne : b ≠ w.heap.size := Nat.ne_of_lt hc.lt
 obtain ⟨h0, h0'⟩ := hc.ext ((Ext.refl w).alloc (.cells #[.int .i64 r] 89))
 have HC := Lib.hid (hc.ext ((Ext.refl w).alloc (.cells #[.int .i64 r] 89)))
 go_wp2_with fail
 refine ⟨rfl, _, rfl, _, results_none rfl _ _ _, rfl, rfl, HC.out.set _, ?_⟩
 exact (Chg.of_ext ((Ext.refl w).alloc _)).trans (chg_one _ _ _ _)
theorem catch_idle (b : Nat) (w : World) :
  CallsD Tryz.prog 52 #[.pointer (some ⟨b, 0, none⟩)] .returning w fun e u' w' => e = .returned (.tuple #[]) ∧ u' = .returning ∧ Ext w w' := by
 refine callsD_of_wpS Tryz.func52 rfl fun c₀ cs hu => ?_
 apply wpS_seq
 apply wpS_region
 simp [wpOpsS, go_sem, recoverD, hu, Tryz.ntmps52, Exit.thenS]
 refine wpS_of_wp ?_
 simp only [Array.replicate, List.reduceReplicate, List.setIfInBounds_toArray, List.set_cons_succ, List.set_cons_zero, List.append_toArray, List.cons_append, List.nil_append]
 have hta := ta_miss
 go_wp2_with fail
 refine ⟨rfl, .returning, ?_, _, results_none rfl _ _ _, rfl, rfl, (Ext.refl w).alloc _⟩
 cases c₀
 cases hu
 rfl
theorem resultE (tmps : Array Value) (w : World) (b : Nat) (r : Int) (hp : tmps.getD 4 undef = .pointer (some ⟨b, 0, none⟩)) (hc : w.cell? ⟨b, 0, none⟩ = some (.int .i64 r)) :
  (results Tryz.f29 tmps).run Tryz.prog w = .ok (.int .i64 r) w := by
 have hp' : tmps[4]?.getD undef = .pointer (some ⟨b, 0, none⟩) := by simpa using hp
 simp [results, Tryz.results29, go_sem, hp', hc]
theorem stays_lt {S : Nat → Prop} {w w' : World} {B : Nat} (he : Ext w w') (hB : w.heap.size ≤ B) : Stays S (· < B) w w' := fun b o v _ hc => ⟨Ext.cell he hc, by have := lt_of_cell hc; show b < B; omega⟩
theorem stateCheck_any (p : List GFunc) (v : Value) (S T : Nat → Prop) (s : GState) (vs : Value) (w : World) (hp : Funcs w S v p) (hs : StateV w T vs s) :
  Calls Tryz.prog 29 #[v, vs] w fun e w' => e = .returned (.int .i64 (stateErr p s)) ∧ Ext w w' := by
 have HP := Lib.hid hp
 have HS := Lib.hid hs
 obtain ⟨ap, capp, rfl, _, _, _⟩ := hp
 obtain ⟨x, y, rfl, hfs, inow, hout⟩ := hs
 have HFS := Lib.hid hfs
 have HOUT := Lib.hid hout
 obtain ⟨af, cf, rfl, _, _, _⟩ := hfs
 obtain ⟨ao, co, rfl, _, _, _⟩ := hout
 have RA := alloc_keep
 have hmf : ∀ (fn : Fn) (first cap : Array Value) (w : World), (Instr.makeFunc fn first cap).run Tryz.prog w = .ok (.func fn first cap) w := fun _ _ _ _ => rfl
 obtain ⟨r, hr⟩ : ∃ r, stateErr p s = r := ⟨_, rfl⟩
 rw [hr]
 have HR := Lib.hid hr
 clear hr
 have hsz : (w.alloc (.cells #[.slice af s.fibers.length cf, .int .i64 s.now, .slice ao s.out.length co] 26)).heap.size = w.heap.size + 1 := Array.size_push _
 have q0 := Cx.new w [.slice af s.fibers.length cf, .int .i64 s.now, .slice ao s.out.length co] 26 (j := 0) rfl
 have q1 := Cx.new w [.slice af s.fibers.length cf, .int .i64 s.now, .slice ao s.out.length co] 26 (j := 1) rfl
 have q2 := Cx.new w [.slice af s.fibers.length cf, .int .i64 s.now, .slice ao s.out.length co] 26 (j := 2) rfl
 have qE := Cx.new (w.alloc (.cells #[.slice af s.fibers.length cf, .int .i64 s.now, .slice ao s.out.length co] 26)) [.int .i64 0] 27 (j := 0) rfl
 rw [hsz] at qE
 have hX : Ext (w.alloc (.cells #[.slice af s.fibers.length cf, .int .i64 s.now, .slice ao s.out.length co] 26)) ((w.alloc (.cells #[.slice af s.fibers.length cf, .int .i64 s.now, .slice ao s.out.length co] 26)).alloc (.cells #[.int .i64 0] 27)) := (Ext.refl _).alloc _
 have QB := Lib.hid (⟨q0.ext hX, q1.ext hX, q2.ext hX, qE⟩ : _ ∧ _ ∧ _ ∧ _)
 have HE1 := Lib.hid (((Ext.refl w).alloc (.cells #[.slice af s.fibers.length cf, .int .i64 s.now, .slice ao s.out.length co] 26)).trans hX)
 clear hsz q0 q1 q2 qE hX
 by_cases hz : progErr p = 0
 ·have HZ := Lib.hid hz
  clear hz
  go_enter_defers Tryz.func29, Tryz.ntmps29
  go_upto_region 5 with (first
   | (go_at_call 33; (with_reducible refine (progCheck_any p _ S _ (Funcs.stays (Ext.stays (((Ext.refl w).alloc _).alloc _)) HP.out)).mono ?_); rintro e w2 ⟨rfl, hx2⟩; rw [HZ.out]))
  have HE2 := Lib.hid (HE1.out.trans hx2)
  have Q2 := Lib.hid (⟨QB.out.1.ext hx2, QB.out.2.1.ext hx2, QB.out.2.2.1.ext hx2, QB.out.2.2.2.ext hx2⟩ : _ ∧ _ ∧ _ ∧ _)
  clear QB hx2 HE1
  rename World => w2
  obtain ⟨⟨b0, -⟩, ⟨b1, -⟩, ⟨b2, -⟩, ⟨bE, bE'⟩⟩ := Q2.out
  go_upto_region 6 with fail
  have hsz2 := HE2.out.size
  have hE3 : Ext w2 (w2.alloc (.cells #[.slice af s.fibers.length cf, .int .i64 s.now, .slice ao s.out.length co, .slice ap p.length capp, .slice none 0 0, .slice none 0 0] 94)) := (Ext.refl _).alloc _
  have y0 := Cx.new w2 [.slice af s.fibers.length cf, .int .i64 s.now, .slice ao s.out.length co, .slice ap p.length capp, .slice none 0 0, .slice none 0 0] 94 (j := 0) rfl
  have y1 := Cx.new w2 [.slice af s.fibers.length cf, .int .i64 s.now, .slice ao s.out.length co, .slice ap p.length capp, .slice none 0 0, .slice none 0 0] 94 (j := 1) rfl
  have y2 := Cx.new w2 [.slice af s.fibers.length cf, .int .i64 s.now, .slice ao s.out.length co, .slice ap p.length capp, .slice none 0 0, .slice none 0 0] 94 (j := 2) rfl
  have y3 := Cx.new w2 [.slice af s.fibers.length cf, .int .i64 s.now, .slice ao s.out.length co, .slice ap p.length capp, .slice none 0 0, .slice none 0 0] 94 (j := 3) rfl
  have y4 := Cx.new w2 [.slice af s.fibers.length cf, .int .i64 s.now, .slice ao s.out.length co, .slice ap p.length capp, .slice none 0 0, .slice none 0 0] 94 (j := 4) rfl
  have y5 := Cx.new w2 [.slice af s.fibers.length cf, .int .i64 s.now, .slice ao s.out.length co, .slice ap p.length capp, .slice none 0 0, .slice none 0 0] 94 (j := 5) rfl
  have hjb := Q2.out.2.2.2.lt
  have HE3 := Lib.hid (HE2.out.trans hE3)
  have QE := Lib.hid (Q2.out.2.2.2.ext hE3)
  have HJB : Hid (w.heap.size + 1 < w2.heap.size) := hjb
  have Y := Lib.hid (⟨y0, y1, y2, y3, y4, y5⟩ : _ ∧ _ ∧ _ ∧ _ ∧ _ ∧ _)
  have HSZ2 : Hid (w.heap.size ≤ w2.heap.size) := HE2.out.size
  clear hE3 y0 y1 y2 y3 y4 y5 hjb hsz2 b0 b1 b2 bE bE'
  generalize w2.heap.size = jb at *
  generalize w2.alloc (.cells [.slice af s.fibers.length cf, .int .i64 s.now, .slice ao s.out.length co, .slice ap p.length capp, .slice none 0 0, .slice none 0 0].toArray 94) = w3 at *
  by_cases hr : r = 0
  ·have HLE : Hid (lookE r = .returned (.tuple #[])) := by unfold Hid lookE; rw [if_pos hr]
   have HR0 := Lib.hid hr
   clear hr
   go_wp2_with (first
    | (go_at_call 53; (with_reducible refine (look_any p s jb (· < jb) af ap cf capp ao co w3 HZ.out Y.out.1 Y.out.2.1 Y.out.2.2.1 Y.out.2.2.2.1 Y.out.2.2.2.2.1 Y.out.2.2.2.2.2 (Fibers.stays (stays_lt HE3.out HSZ2.out) HFS.out) (Ints.stays (stays_lt HE3.out HSZ2.out) HOUT.out) (Funcs.stays (stays_lt HE3.out HSZ2.out) HP.out) inow (fun b hb => Nat.ne_of_lt hb)).mono ?_); rintro e w4 ⟨he, hch⟩; rw [HR.out, HLE.out] at he; subst he; have HCH := Lib.hid hch; obtain ⟨bE, bE'⟩ := QE.out.chg hch (fun e => by have := HJB.out; omega); clear hch))
   refine leaves_cons (f := 52) (args := #[.pointer (some ⟨w.heap.size + 1, 0, none⟩)]) (by simp) (by simp [go_sem]) ?_
   refine (catch_idle (w.heap.size + 1) _).mono ?_
   rintro e u' w5 ⟨rfl, rfl, hx5⟩
   have hE := ((QE.out.chg HCH.out (fun e => by have := HJB.out; omega)).set (.int .i64 0)).ext hx5
   refine ⟨_, resultE _ _ (w.heap.size + 1) 0 rfl hE.1, by rw [HR0.out], ?_⟩
   exact ((Chg.ext_from HE3.out HCH.out (fun n e => by have e2 : n = jb := e; have := HSZ2.out; omega)).setCell (p := ⟨w.heap.size + 1, 0, none⟩) (Nat.le_succ _) _).trans hx5
  ·have HLE : Hid (lookE r = .panicked (refusal r)) := by unfold Hid lookE; rw [if_neg hr]
   clear hr
   go_wp2_with (first
    | (go_at_call 53; (with_reducible refine (look_any p s jb (· < jb) af ap cf capp ao co w3 HZ.out Y.out.1 Y.out.2.1 Y.out.2.2.1 Y.out.2.2.2.1 Y.out.2.2.2.2.1 Y.out.2.2.2.2.2 (Fibers.stays (stays_lt HE3.out HSZ2.out) HFS.out) (Ints.stays (stays_lt HE3.out HSZ2.out) HOUT.out) (Funcs.stays (stays_lt HE3.out HSZ2.out) HP.out) inow (fun b hb => Nat.ne_of_lt hb)).mono ?_); rintro e w4 ⟨he, hch⟩; rw [HR.out, HLE.out] at he; subst he; have HCH := Lib.hid hch; clear hch))
   refine leaves_cons (f := 52) (args := #[.pointer (some ⟨w.heap.size + 1, 0, none⟩)]) (by simp) (by simp [go_sem]) ?_
   refine (catch_panicking (w.heap.size + 1) r 0 [] _ (QE.out.chg HCH.out (fun e => by have := HJB.out; omega))).mono ?_
   rintro e u' w5 ⟨rfl, rfl, hE, hch5⟩
   have hs : settle (.panicking ({ v := .iface 89 (.agg #[.int .i64 r]), recovered := true } :: ([] : List PanicEntry))) = .returning := by simp [settle]
   show Leaves _ _ _ _ [] (settle _) _
   rw [hs]
   refine ⟨_, resultE _ _ (w.heap.size + 1) r rfl hE.1, rfl, ?_⟩
   exact Chg.ext_from (Chg.ext_from HE3.out HCH.out (fun n e => by have e2 : n = jb := e; have := HSZ2.out; omega)) hch5 (fun n e => by have e2 : n = w.heap.size + 1 := e; omega)
 ·have HRR : Hid (r = progErr p) := by unfold Hid; rw [← HR.out]; unfold stateErr; rw [if_pos hz]
  obtain ⟨q, hq⟩ : ∃ q, progErr p = q := ⟨_, rfl⟩
  rw [hq] at hz HRR
  have HQ := Lib.hid hq
  have TB : (q != 0) = true := bne_iff_ne.2 hz
  clear hz hq HR
  go_enter_defers Tryz.func29, Tryz.ntmps29
  go_wp2_with (first
   | (go_at_call 33; (with_reducible refine (progCheck_any p _ S _ (Funcs.stays (Ext.stays (((Ext.refl w).alloc _).alloc _)) HP.out)).mono ?_); rintro e w2 ⟨rfl, hx2⟩; rw [HQ.out]; have HX2 := Lib.hid hx2; obtain ⟨bE, bE'⟩ := QB.out.2.2.2.ext hx2))
  refine ⟨_, resultE _ _ (w.heap.size + 1) q rfl ((QB.out.2.2.2.ext HX2.out).set _).1, by rw [HRR.out], ?_⟩
  exact (HE1.out.trans HX2.out).setCell (p := ⟨w.heap.size + 1, 0, none⟩) (Nat.le_succ _) _
end Go.Proofs.YtgahbngbpfilgaaGreat
end
section
set_option maxHeartbeats 2000000
set_option maxRecDepth 100000
namespace Go.Proofs.YtgahbngbpfilgaaGreat
open Go Go.RowKit
theorem take_eq_of_ne {a b : List Int} {k : Nat} (_ : k < a.length) (_ : k < b.length) (h : a.getD k 0 ≠ b.getD k 0) : a ≠ b := fun e => h (by rw [e])
theorem take_succ_eq {a b : List Int} {k : Nat} (h1 : k < a.length) (h2 : k < b.length) (ht : a.take k = b.take k) (h : a.getD k 0 = b.getD k 0) : a.take (k + 1) = b.take (k + 1) := by
 simp only [List.getD, List.getElem?_eq_getElem h1, List.getElem?_eq_getElem h2, Option.getD_some] at h
 rw [List.take_succ_eq_append_getElem h1, List.take_succ_eq_append_getElem h2, ht, h]
theorem sameInts_any (a b : List Int) (va vb : Value) (S T : Nat → Prop) (w : World) (ha : Ints w S va a) (hb : Ints w T vb b) :
  Calls Tryz.prog 28 #[va, vb] w fun e w' => e = .returned (.bool (decide (a = b))) ∧ Ext w w' := by
 have HA := Lib.hid ha
 have HB := Lib.hid hb
 obtain ⟨pa, ca, rfl, hca, hba, _⟩ := ha
 obtain ⟨pb, cb, rfl, hcb, hbb, _⟩ := hb
 obtain ⟨t, ht⟩ : ∃ t, decide (a = b) = t := ⟨_, rfl⟩
 rw [ht]
 have HT := Lib.hid ht
 clear ht
 go_enter Tryz.func28, Tryz.ntmps28
 by_cases hl : a.length = b.length
 ·have TL : ((a.length : Int) != (b.length : Int)) = false := by rw [bne_eq_false_iff_eq]; omega
  go_wp2_with fail
  go_loopw [5] (fun q wr => ∃ k : Nat, k ≤ a.length ∧ q = .int .i64 k ∧ Ext w wr ∧ a.take k = b.take k) (fun q _ => a.length - (intOf q).toNat)
  case atStart => exact ⟨0, Nat.zero_le _, rfl, Ext.refl _, rfl⟩
  case round =>
   obtain ⟨k, hk, rfl, hb3, htk⟩ := hrel
   have HB3 := Lib.hid hb3
   have HTK := Lib.hid htk
   clear hb3 htk
   by_cases hlt : k < a.length
   ·have hlt' : k < b.length := by omega
    obtain ⟨ba, oa, _, e1, _, _, _, x0, _⟩ := HA.out.get hlt
    obtain ⟨bb, ob, _, e2, _, _, _, y0, _⟩ := HB.out.get hlt'
    simp only [Value.slice.injEq] at e1 e2
    obtain ⟨rfl, -, rfl⟩ := e1
    obtain ⟨rfl, -, rfl⟩ := e2
    rw [Nat.mul_one] at x0 y0
    have x1 := Ext.cell HB3.out x0
    have y1 := Ext.cell HB3.out y0
    have ea : a[k] = a.getD k 0 := by simp [List.getD, List.getElem?_eq_getElem hlt]
    have eb : b[k] = b.getD k 0 := by simp [List.getD, List.getElem?_eq_getElem hlt']
    rw [ea] at x1
    rw [eb] at y1
    clear x0 y0 ea eb
    obtain ⟨u, hu⟩ : ∃ u, a.getD k 0 = u := ⟨_, rfl⟩
    obtain ⟨z, hz⟩ : ∃ z, b.getD k 0 = z := ⟨_, rfl⟩
    rw [hu] at x1
    rw [hz] at y1
    have HU := Lib.hid hu
    have HZ := Lib.hid hz
    clear hu hz
    by_cases hne : u = z
    ·have TN : (u != z) = false := by rw [bne_eq_false_iff_eq]; exact hne
     have HTK2 := Lib.hid (take_succ_eq hlt hlt' HTK.out (by rw [HU.out, HZ.out, hne]))
     clear hne
     go_wp2_with fail
     go_big_quiet (fail)
     go_wp2_with fail
     go_roundw
     case rel => exact ⟨k + 1, by omega, by go_num, HB3.out.drewN _, HTK2.out⟩
     case measure => simp [intOf]; omega
    ·have TN : (u != z) = true := bne_iff_ne.2 hne
     have HF : Hid (t = false) := by
      unfold Hid
      rw [← HT.out]
      exact decide_eq_false (take_eq_of_ne hlt hlt' (by rw [HU.out, HZ.out]; exact hne))
     clear hne
     go_wp2_with fail
     go_big_quiet (fail)
     go_wp2_with fail
     go_ret
     exact ⟨by rw [HF.out]; rfl, HB3.out.drewN _⟩
   ·obtain rfl : k = a.length := by omega
    have HF : Hid (t = true) := by
     unfold Hid
     rw [← HT.out]
     have := HTK.out
     rw [List.take_length, hl, List.take_length] at this
     exact decide_eq_true this
    clear hlt
    go_wp2_with fail
    go_ret
    exact ⟨by rw [HF.out]; rfl, HB3.out⟩
 ·have TL : ((a.length : Int) != (b.length : Int)) = true := bne_iff_ne.2 (by omega)
  have HF : Hid (t = false) := by
   unfold Hid
   rw [← HT.out]
   exact decide_eq_false (fun e => hl (by rw [e]))
  clear hl
  go_wp2_with fail
  go_ret
  exact ⟨by rw [HF.out]; rfl, Ext.refl _⟩
end Go.Proofs.YtgahbngbpfilgaaGreat
end
