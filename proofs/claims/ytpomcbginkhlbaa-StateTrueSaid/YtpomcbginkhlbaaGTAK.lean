/- Merged texts: contracts and plain facts, one part behind another; each part begins with what it says. -/
import Derived.Test.YtpomcbginkhlbaaGTAC
import Derived.Test.YtpomcbginkhlbaaGTAD
import Derived.Test.YtpomcbginkhlbaaGTAF
import Derived.Test.YtpomcbginkhlbaaGTAH
import Derived.Test.YtpomcbginkhlbaaGTAJ
section
/- Contracts of the document's has, frameFine, waits and fresh. -/
set_option maxHeartbeats 4000000
set_option maxRecDepth 100000
namespace Go.Proofs.Ytpomcbginkhlbaa
open Go Go.RowKit

theorem rightAt {p : List GFunc} (h : progErr p = 0) {k : Nat} (hk : k < p.length) : RightF p p[k] ∧ ∃ l, hts p p[k].code = some l ∧ hgt p k = l ∧ l.length = p[k].code.length := by
  have hRP := progErr_zero h
  obtain ⟨_, _, hR'⟩ := funcErr_zero (hRP.func k hk)
  have hR : RightF p p[k] := by have := hR' (by simpa using hk); simpa using this
  have hs := hRP.hts k hk
  have e : p.getD k default = p[k] := by simp [List.getD, List.getElem?_eq_getElem hk]
  rw [e] at hs
  obtain ⟨l, hl⟩ := Option.isSome_iff_exists.1 hs
  refine ⟨hR, l, hl, ?_, (hts_full hR.jumps hl).len⟩
  unfold hgt
  rw [show (k : Int).toNat = k by omega, e, hl]
  rfl
theorem hgt_len {p : List GFunc} (h : progErr p = 0) {k : Nat} (hk : k < p.length) : (hgt p k).length = p[k].code.length := by
  obtain ⟨_, l, _, e, hl⟩ := rightAt h hk
  rw [e, hl]
theorem funcOf_nat {p : List GFunc} {k : Nat} (hk : k < p.length) : funcOf p k = p[k] := by
  unfold funcOf
  rw [show (k : Int).toNat = k by omega]
  simp [List.getD, List.getElem?_eq_getElem hk]

theorem Ints.at' {w : World} {S : Nat → Prop} {a : Option Addr} {l : List Int} {n c : Nat} (h : Ints w S (.slice a n c) l) {m : Nat} (hm : m < l.length) : ∃ b o, a = some ⟨b, o, none⟩ ∧ w.cell? ⟨b, o + m, none⟩ = some (.int .i64 (l.getD m 0)) := by
  obtain ⟨b, o, _, e1, _, _, _, x0, _⟩ := h.get hm
  simp only [Value.slice.injEq] at e1
  obtain ⟨rfl, -, rfl⟩ := e1
  rw [Nat.mul_one] at x0
  refine ⟨b, o, rfl, ?_⟩
  rw [x0]
  simp [List.getD, List.getElem?_eq_getElem hm]

theorem heights_right (p : List GFunc) (v : Value) (S : Nat → Prop) (n : Nat) (w : World) (hp : Funcs w S v p) (hz : progErr p = 0) (hn : n < p.length) :
    Calls Try.prog 42 #[v, .int .i64 n] w fun e w' => (∃ a c, e = .returned (.tuple #[.slice a (hgt p n).length c, .bool true]) ∧ Ints w' (w.heap.size ≤ ·) (.slice a (hgt p n).length c) (hgt p n)) ∧ Ext w w' := by
  obtain ⟨hR, l, hl, e, _⟩ := rightAt hz hn
  refine (heights_any p v S n w hp hn hR).mono fun e' w' ⟨h, hx⟩ => ⟨?_, hx⟩
  rw [htsR_eq hR.jumps, hl] at h
  obtain ⟨v2, he, hi⟩ := h
  have hi2 := hi
  obtain ⟨a, c, rfl, _, _, _⟩ := hi
  rw [e]
  exact ⟨a, c, he, hi2⟩
theorem flowOf_right (p : List GFunc) (v : Value) (S : Nat → Prop) (n : Nat) (w : World) (hp : Funcs w S v p) (hz : progErr p = 0) (hn : n < p.length) :
    Calls Try.prog 39 #[v, .int .i64 n] w fun e w' => (∃ a c, e = .returned (.tuple #[.slice a (hgt p n).length c, .bool true]) ∧ Ints w' (w.heap.size ≤ ·) (.slice a (hgt p n).length c) (hgt p n)) ∧ Ext w w' := by
  obtain ⟨hR, l, hl, e, _⟩ := rightAt hz hn
  refine (flowOf_any p v S n w hp hn hR).mono fun e' w' ⟨h, hx⟩ => ⟨?_, hx⟩
  rw [hl] at h
  obtain ⟨v2, he, hi⟩ := h
  have hi2 := hi
  obtain ⟨a, c, rfl, _, _, _⟩ := hi
  rw [e]
  exact ⟨a, c, he, hi2⟩

theorem has_any (l : List Int) (v : Value) (x : Int) (S : Nat → Prop) (w : World) (hl : Ints w S v l) :
    Calls Try.prog 49 #[v, .int .i64 x] w fun e w' => e = .returned (.bool (decide (x ∈ l))) ∧ Ext w w' := by
  have HL := Lib.hid hl
  obtain ⟨pa, ca, rfl, hca, hba, _⟩ := hl
  obtain ⟨t, ht⟩ : ∃ t, decide (x ∈ l) = t := ⟨_, rfl⟩
  rw [ht]
  have HT := Lib.hid ht
  clear ht
  go_enter Try.func49, Try.ntmps49
  go_wp2_with fail
  go_loopw [5] (fun q wr => ∃ k : Nat, k ≤ l.length ∧ q = .int .i64 k ∧ Ext w wr ∧ x ∉ l.take k) (fun q _ => l.length - (intOf q).toNat)
  case atStart => exact ⟨0, Nat.zero_le _, rfl, Ext.refl _, by simp⟩
  case round =>
    obtain ⟨k, hk, rfl, hb3, htk⟩ := hrel
    have HB3 := Lib.hid hb3
    have HTK := Lib.hid htk
    clear hb3 htk
    by_cases hlt : k < l.length
    · obtain ⟨ba, oa, _, e1, _, _, _, x0, _⟩ := HL.out.get hlt
      simp only [Value.slice.injEq] at e1
      obtain ⟨rfl, -, rfl⟩ := e1
      rw [Nat.mul_one] at x0
      have x1 := Ext.cell HB3.out x0
      have HM : Hid (l[k] ∈ l) := List.getElem_mem hlt
      have HS : Hid (l.take (k + 1) = l.take k ++ [l[k]]) := List.take_succ_eq_append_getElem hlt
      clear x0
      generalize l[k] = u at *
      by_cases hu : u = x
      · have TT : (u == x) = true := by simp [hu]
        have HX : Hid (t = true) := by unfold Hid; rw [← HT.out]; exact decide_eq_true (hu ▸ HM.out)
        clear hu
        go_wp2_with fail
        go_ret
        exact ⟨by rw [HX.out]; rfl, HB3.out⟩
      · have TT : (u == x) = false := by simp [hu]
        have HX : Hid (x ∉ l.take (k + 1)) := by unfold Hid; rw [HS.out, List.mem_append, List.mem_singleton]; exact fun h => h.elim HTK.out (fun e => hu e.symm)
        clear hu
        go_wp2_with fail
        go_roundw
        case rel => exact ⟨k + 1, by omega, by go_num, HB3.out, HX.out⟩
        case measure => simp [intOf]; omega
    · obtain rfl : k = l.length := by omega
      have HX : Hid (t = false) := by unfold Hid; rw [← HT.out]; exact decide_eq_false (by have := HTK.out; rwa [List.take_length] at this)
      go_wp2_with fail
      go_ret
      exact ⟨by rw [HX.out]; rfl, HB3.out⟩

theorem frameFine_any (p : List GFunc) (v : Value) (S T : Nat → Prop) (x : GFrame) (vx : Value) (w : World) (hp : Funcs w S v p) (hz : progErr p = 0) (hx : FrameV w T vx x) :
    Calls Try.prog 68 #[v, vx] w fun e w' => e = .returned (.bool (frameB p x)) ∧ Ext w w' := by
  have HP := Lib.hid hp
  have HZ := Lib.hid hz
  obtain ⟨fn, at_, ls, st⟩ := x
  obtain ⟨vs, vt, rfl, _, _, hls, hst⟩ := hx
  obtain ⟨a1, c1, rfl, _, _, _⟩ := hls
  obtain ⟨a2, c2, rfl, _, _, _⟩ := hst
  simp only at *
  have RA := alloc_keep
  have hlen5 := (progErr_zero hz).most
  have KK1 : IntKind.i64.wrap ((p.length : Int) - 1) = (p.length : Int) - 1 := IntWalk.i64_in _ (by omega)
  by_cases h1 : 0 ≤ fn ∧ fn < p.length
  · obtain ⟨n, rfl⟩ : ∃ n : Nat, fn = n := ⟨fn.toNat, by omega⟩
    have hn : n < p.length := by omega
    have W1 : Hid (decide (0 ≤ (n : Int) ∧ (n : Int) ≤ (p.length : Int) - 1) = true) := decide_eq_true (by omega)
    have hlm := hgt_len hz hn
    have hmax := (rightAt hz hn).1.len
    obtain ⟨b, o, cap, rfl, hcap, hby, ⟨_, hA, iA⟩, ⟨_, hL, iL⟩, vc, hC, hcode⟩ := hp.get hn
    obtain ⟨ca, ccap, rfl, hcc, hcby, _⟩ := hcode
    have hF := funcOf_nat hn
    have KK2 : IntKind.i64.wrap ((p[n].code.length : Int) - 1) = (p[n].code.length : Int) - 1 := IntWalk.i64_in _ (by omega)
    by_cases h2 : (ls.length : Int) = p[n].locals
    · have T2 : ((ls.length : Int) != p[n].locals) = false := by rw [bne_eq_false_iff_eq]; exact h2
      by_cases h3 : 0 ≤ at_ ∧ at_ < p[n].code.length
      · obtain ⟨m, rfl⟩ : ∃ m : Nat, at_ = m := ⟨at_.toNat, by omega⟩
        have hm : m < p[n].code.length := by omega
        have W3 : Hid (decide (0 ≤ (m : Int) ∧ (m : Int) ≤ (p[n].code.length : Int) - 1) = true) := decide_eq_true (by omega)
        have HR : Hid (frameB p ⟨n, m, ls, st⟩ = decide (0 ≤ (hgt p n).getD m 0)) := by
          unfold Hid frameB
          simp only [hF]
          rw [decide_eq_true h1, decide_eq_true h2, decide_eq_true h3]
          simp
        have HLM := Lib.hid hlm
        have hlm1 := Nat.le_of_eq hlm
        have hlm2 := Nat.le_of_eq hlm.symm
        clear hp hz h1 h2 h3 hF hlm
        obtain ⟨u, hu⟩ : ∃ u, (hgt p n).getD m 0 = u := ⟨_, rfl⟩
        have HU := Lib.hid hu
        rw [hu] at HR
        clear hu
        go_enter Try.func68, Try.ntmps68
        go_upto_region 1 with fail
        refine wp_region_ext (by kernel_rfl) (by kernel_rfl) ?_
        repeat (first
          | go_big_quiet_skip
          | (go_big_quiet_want
             unfold Oper.quiet
             apply Exists.intro
             refine ⟨fun w' hw' => ?_, ?_⟩
             focus
               have hcq := Ext.keep hw'
               go_simp
               first
                 | with_reducible rfl
                 | (go_at_call 46; refine (within_any _ _ _ _).mono ?_; rintro e w2 ⟨rfl, rfl⟩; first | (rw [W1.out]; exact ⟨rfl, hw'⟩) | (rw [W3.out]; exact ⟨rfl, hw'⟩))
             (try dsimp only [Act.put])
             (try simp only [List.setIfInBounds_toArray, List.set_cons_succ, List.set_cons_zero])
             go_big_quiet_on))
        refine wpQuiet_nil ?_
        intro wq hq
        have HQ := Lib.hid (((Ext.refl w).alloc _).trans hq)
        have hcq := Ext.keep hq
        go_wp2_with (first
          | (go_at_call 42; refine (heights_right p _ _ n _ (Funcs.stays (Ext.stays HQ.out) HP.out) HZ.out hn).mono ?_; rintro e w2 ⟨⟨a3, c3, rfl, hi⟩, hx2⟩; have hc2 := Ext.keep hx2; obtain ⟨bl, ol, rfl, x0⟩ := Ints.at' hi (m := m) (by omega); rw [HU.out] at x0))
        go_ret
        exact ⟨by rw [HR.out]; rfl, HQ.out.trans hx2⟩
      · have W3 : Hid (decide (0 ≤ at_ ∧ at_ ≤ (p[n].code.length : Int) - 1) = false) := decide_eq_false (by omega)
        have HR : Hid (frameB p ⟨n, at_, ls, st⟩ = false) := by
          unfold Hid frameB
          simp only [hF]
          rw [decide_eq_false h3]
          simp
        clear hp hz h1 h2 h3 hF hlm
        go_enter Try.func68, Try.ntmps68
        go_upto_region 1 with fail
        refine wp_region_ext (by kernel_rfl) (by kernel_rfl) ?_
        repeat (first
          | go_big_quiet_skip
          | (go_big_quiet_want
             unfold Oper.quiet
             apply Exists.intro
             refine ⟨fun w' hw' => ?_, ?_⟩
             focus
               have hcq := Ext.keep hw'
               go_simp
               first
                 | with_reducible rfl
                 | (go_at_call 46; refine (within_any _ _ _ _).mono ?_; rintro e w2 ⟨rfl, rfl⟩; first | (rw [W1.out]; exact ⟨rfl, hw'⟩) | (rw [W3.out]; exact ⟨rfl, hw'⟩))
             (try dsimp only [Act.put])
             (try simp only [List.setIfInBounds_toArray, List.set_cons_succ, List.set_cons_zero])
             go_big_quiet_on))
        refine wpQuiet_nil ?_
        intro wq hq
        go_wp2_with fail
        go_ret
        exact ⟨by rw [HR.out]; rfl, ((Ext.refl w).alloc _).trans hq⟩
    · have T2 : ((ls.length : Int) != p[n].locals) = true := bne_iff_ne.2 h2
      have HR : Hid (frameB p ⟨n, at_, ls, st⟩ = false) := by
        unfold Hid frameB
        simp only [hF]
        rw [decide_eq_false h2]
        simp
      clear hp hz h1 h2 hF hlm
      go_enter Try.func68, Try.ntmps68
      go_upto_region 1 with fail
      refine wp_region_ext (by kernel_rfl) (by kernel_rfl) ?_
      repeat (first
        | go_big_quiet_skip
        | (go_big_quiet_want
           unfold Oper.quiet
           apply Exists.intro
           refine ⟨fun w' hw' => ?_, ?_⟩
           focus
             have hcq := Ext.keep hw'
             go_simp
             first
               | with_reducible rfl
               | (go_at_call 46; refine (within_any _ _ _ _).mono ?_; rintro e w2 ⟨rfl, rfl⟩; rw [W1.out]; exact ⟨rfl, hw'⟩)
           (try dsimp only [Act.put])
           (try simp only [List.setIfInBounds_toArray, List.set_cons_succ, List.set_cons_zero])
           go_big_quiet_on))
      refine wpQuiet_nil ?_
      intro wq hq
      go_wp2_with fail
      go_ret
      exact ⟨by rw [HR.out]; rfl, ((Ext.refl w).alloc _).trans hq⟩
  · have W1 : Hid (decide (0 ≤ fn ∧ fn ≤ (p.length : Int) - 1) = false) := decide_eq_false (by omega)
    have HR : Hid (frameB p ⟨fn, at_, ls, st⟩ = false) := by
      unfold Hid frameB
      simp only
      rw [decide_eq_false h1]
      simp
    have hp0 := hp
    obtain ⟨a, cap, rfl, _, _, _⟩ := hp
    clear hz h1 hp0
    go_enter Try.func68, Try.ntmps68
    go_upto_region 1 with fail
    refine wp_region_ext (by kernel_rfl) (by kernel_rfl) ?_
    repeat (first
      | go_big_quiet_skip
      | (go_big_quiet_want
         unfold Oper.quiet
         apply Exists.intro
         refine ⟨fun w' hw' => ?_, ?_⟩
         focus
           have hcq := Ext.keep hw'
           go_simp
           first
             | with_reducible rfl
             | (go_at_call 46; refine (within_any _ _ _ _).mono ?_; rintro e w2 ⟨rfl, rfl⟩; rw [W1.out]; exact ⟨rfl, hw'⟩)
         (try dsimp only [Act.put])
         (try simp only [List.setIfInBounds_toArray, List.set_cons_succ, List.set_cons_zero])
         go_big_quiet_on))
    refine wpQuiet_nil ?_
    intro wq hq
    go_wp2_with fail
    go_ret
    exact ⟨by rw [HR.out]; rfl, ((Ext.refl w).alloc _).trans hq⟩
end Go.Proofs.Ytpomcbginkhlbaa
end
section
/- Contract of the document's lineOf. -/
set_option maxHeartbeats 4000000
set_option maxRecDepth 100000
namespace Go.Proofs.Ytpomcbginkhlbaa
open Go Go.RowKit

def lenV : Value → Nat
  | .slice _ n _ => n
  | _ => 0

/-- What lineOf hands back. -/
def LineRet (B : Nat) (s : GState) (e : Ending) (w' : World) : Prop :=
  match lineS s with
  | none => e = .returned (.tuple #[.slice none 0 0, .bool false])
  | some l => ∃ a c, e = .returned (.tuple #[.slice a l.length c, .bool (lineEnd l)]) ∧ Ints w' (B ≤ ·) (.slice a l.length c) l

theorem lineGo_neg {fs : List GFiber} {k : Nat} {n : Int} {out : List Int} (h : n < 0) : lineGo fs (k + 1) n out = some out := by unfold lineGo; rw [if_pos h]
theorem lineGo_mem {fs : List GFiber} {k : Nat} {n : Int} {out : List Int} (h : ¬ n < 0) (hm : n ∈ out) : lineGo fs (k + 1) n out = none := by unfold lineGo; rw [if_neg h, if_pos hm]
theorem lineGo_next {fs : List GFiber} {k : Nat} {n : Int} {out : List Int} (h : ¬ n < 0) (hm : n ∉ out) : lineGo fs (k + 1) n out = lineGo fs k (callerOf fs n) (out ++ [n]) := by rw [lineGo, if_neg h, if_neg hm]

structure Callers (s : GState) : Prop where
  now : -1 ≤ s.now ∧ s.now ≤ (s.fibers.length : Int) - 1
  all : ∀ k, k < s.fibers.length → -1 ≤ (s.fibers.getD k default).caller ∧ (s.fibers.getD k default).caller ≤ (s.fibers.length : Int) - 1
  few : s.fibers.length ≤ 1000

theorem lineOf_any (s : GState) (vs : Value) (T : Nat → Prop) (w : World) (hs : StateV w T vs s) (hc : Callers s) :
    Calls Try.prog 47 #[vs] w fun e w' => LineRet w.heap.size s e w' ∧ Ext w w' := by
  obtain ⟨fs, now, outs⟩ := s
  obtain ⟨x, y, rfl, hfs, _, hout⟩ := hs
  have HFS := Lib.hid hfs
  obtain ⟨af, cf, rfl, _, _, _⟩ := hfs
  obtain ⟨ao, co, rfl, _, _, _⟩ := hout
  simp only at *
  have RA := alloc_keep
  obtain ⟨i0, hi0, hz0, hz1, hz2⟩ := info_parts infoI
  have HC := Lib.hid hc
  have hfew := hc.few
  simp only at hfew
  clear hc
  obtain ⟨S, hS⟩ : ∃ S : GState, (⟨fs, now, outs⟩ : GState) = S := ⟨_, rfl⟩
  have hl0 : lineGo fs (fs.length + 2 - ([] : List Int).length) now [] = lineS S := by rw [← hS]; rfl
  have HS := Lib.hid hS
  have bx0 := Lib.hid (Cx.new w [.slice af fs.length cf, .int .i64 now, .slice ao outs.length co] 43 (j := 0) rfl)
  have bx1 := Lib.hid (Cx.new w [.slice af fs.length cf, .int .i64 now, .slice ao outs.length co] 43 (j := 1) rfl)
  have hE1 := (Ext.refl w).alloc (.cells #[.slice af fs.length cf, .int .i64 now, .slice ao outs.length co] 43)
  have hL0 : LineOn fs now [] := ⟨HC.out.now, List.nodup_nil, by simp⟩
  have HL0 := Lib.hid hl0
  have HLN := Lib.hid hL0
  have HE1 := Lib.hid hE1
  have HSZ1 : Hid ((w.alloc (.cells #[.slice af fs.length cf, .int .i64 now, .slice ao outs.length co] 43)).heap.size = w.heap.size + 1) := Array.size_push _
  rw [hS]
  clear hl0 hL0 hE1 hS
  go_enter Try.func47, Try.ntmps47
  go_wp2_with fail
  generalize w.alloc (.cells #[.slice af fs.length cf, .int .i64 now, .slice ao outs.length co] 43) = w1 at *
  have hsz1 := bx0.out.lt
  go_loopw [4, 5] (fun q4 q5 wr => ∃ n out, q5 = .int .i64 n ∧ LineOn fs n out ∧ lineGo fs (fs.length + 2 - out.length) n out = lineS S ∧ Ext w1 wr ∧ RowAt wr (w.heap.size + 1) 1 q4 out.length (ints out) ∧ lenV q4 = out.length) (fun q4 _ _ => fs.length + 1 - lenV q4)
  case atStart => exact ⟨now, [], rfl, HLN.out, HL0.out, Ext.refl _, RowAt.nil _ _ _ _, rfl⟩
  case round =>
    obtain ⟨n, out, rfl, hln, hlg, hb, hrow, _⟩ := hrel
    have HLN2 := Lib.hid hln
    have HLG := Lib.hid hlg
    have HB := Lib.hid hb
    have HROW := Lib.hid hrow
    have hol := hln.len
    obtain ⟨ar, capr, rfl, _, _⟩ := hrow.shape
    have hnow := hln.now
    obtain ⟨kf, hkf⟩ : ∃ kf, fs.length + 2 - out.length = kf + 1 := ⟨fs.length + 1 - out.length, by omega⟩
    rw [hkf] at HLG
    clear hln hlg hb hrow HLN HL0
    by_cases h0 : n < 0
    · have T0 : decide (0 ≤ n) = false := decide_eq_false (by omega)
      have HRES : Hid (lineS S = some out) := by unfold Hid; rw [← HLG.out, lineGo_neg h0]
      clear h0 HLG hkf
      have hfin : ∀ wq, Ext wr wq → Ints wq (w.heap.size ≤ ·) (.slice ar out.length capr) out := fun wq hq => by
        refine Ints.of_row (base := w.heap.size + 1) (by rw [flatMap_intF]; exact HROW.out.ext hq (by decide)) (by omega) (fun x hx => ?_) _ (fun b hb _ => by show w.heap.size ≤ b; omega)
        have := HLN2.out.range x hx
        exact ⟨by omega, by omega⟩
      have HFIN := Lib.hid hfin
      clear hfin
      by_cases h1 : out.length = 0
      · have T1 : ((out.length : Int) == 0) = true := by simp [h1]
        have HE : Hid (lineEnd out = true) := by unfold Hid lineEnd; rw [decide_eq_true h1]; rfl
        go_upto_region 11 with fail
        clear h1
        refine wp_region_ext (by kernel_rfl) (by kernel_rfl) ?_
        repeat (first
          | go_big_quiet_skip
          | (go_big_quiet_want
             unfold Oper.quiet
             apply Exists.intro
             refine ⟨fun w' hw' => ?_, ?_⟩
             focus
               have hcq := Ext.keep hw'
               go_simp
               first
                 | with_reducible rfl
                 | fail
             (try dsimp only [Act.put])
             (try simp only [List.setIfInBounds_toArray, List.set_cons_succ, List.set_cons_zero])
             go_big_quiet_on))
        refine wpQuiet_nil ?_
        intro wq hq
        go_wp2_with fail
        go_ret2
        refine ⟨?_, HE1.out.trans (HB.out.trans hq)⟩
        unfold LineRet
        rw [HRES.out]
        exact ⟨ar, capr, by rw [HE.out]; rfl, HFIN.out _ hq⟩
      · obtain ⟨j, hj⟩ : ∃ j, out.length = j + 1 := ⟨out.length - 1, by omega⟩
        have T1 : ((out.length : Int) == 0) = false := beq_eq_false_iff_ne.2 (by omega)
        have KK : IntKind.i64.wrap ((out.length : Int) - 1) = (j : Int) := by rw [IntWalk.i64_in _ (by omega)]; omega
        obtain ⟨g, o, rfl, _, l0⟩ := HROW.out.get_int (q := j) (by omega)
        obtain ⟨u, hu⟩ : ∃ u, out.getD j 0 = u := ⟨_, rfl⟩
        rw [hu] at l0
        have HE : Hid (lineEnd out = (u == 0)) := by
          unfold Hid lineEnd
          rw [decide_eq_false h1, show out.length - 1 = j by omega, hu, Bool.false_or, Bool.eq_iff_iff]
          simp
        have hjl : j < out.length := by omega
        go_upto_region 11 with fail
        clear h1 hj hu
        refine wp_region_ext (by kernel_rfl) (by kernel_rfl) ?_
        repeat (first
          | go_big_quiet_skip
          | (go_big_quiet_want
             unfold Oper.quiet
             apply Exists.intro
             refine ⟨fun w' hw' => ?_, ?_⟩
             focus
               have hcq := Ext.keep hw'
               go_simp
               first
                 | with_reducible rfl
                 | fail
             (try dsimp only [Act.put])
             (try simp only [List.setIfInBounds_toArray, List.set_cons_succ, List.set_cons_zero])
             go_big_quiet_on))
        refine wpQuiet_nil ?_
        intro wq hq
        go_wp2_with fail
        go_ret2
        refine ⟨?_, HE1.out.trans (HB.out.trans hq)⟩
        unfold LineRet
        rw [HRES.out]
        exact ⟨_, capr, by rw [HE.out]; rfl, HFIN.out _ hq⟩
    · have T0 : decide (0 ≤ n) = true := decide_eq_true (by omega)
      obtain ⟨m, rfl⟩ : ∃ m : Nat, n = m := ⟨n.toNat, by omega⟩
      have hml : m < fs.length := by omega
      clear hnow
      go_wp2_with fail
      go_loopw [6] (fun q wx => ∃ j : Nat, j ≤ out.length ∧ q = .int .i64 j ∧ wr = wx ∧ (m : Int) ∉ out.take j) (fun q _ => out.length - (intOf q).toNat)
      case atStart => exact ⟨0, Nat.zero_le _, rfl, rfl, by simp⟩
      case round =>
        obtain ⟨j, hj, rfl, rfl, hnm⟩ := hrel
        have HNM := Lib.hid hnm
        clear hnm
        by_cases hlt : j < out.length
        · obtain ⟨g, o, rfl, _, l0⟩ := HROW.out.get_int hlt
          have HM : Hid (out[j] ∈ out) := List.getElem_mem hlt
          have HSS : Hid (out.take (j + 1) = out.take j ++ [out[j]]) := List.take_succ_eq_append_getElem hlt
          have eg : out.getD j 0 = out[j] := by simp [List.getD, List.getElem?_eq_getElem hlt]
          rw [eg] at l0
          clear eg
          generalize out[j] = u at *
          by_cases hu : u = m
          · have TT : (u == (m : Int)) = true := by simp [hu]
            have HRES : Hid (lineS S = none) := by unfold Hid; rw [← HLG.out]; exact lineGo_mem (by omega) (hu ▸ HM.out)
            clear hu
            go_wp2_with fail
            go_ret2
            refine ⟨?_, HE1.out.trans HB.out⟩
            unfold LineRet
            rw [HRES.out]
            rfl
          · have TT : (u == (m : Int)) = false := beq_eq_false_iff_ne.2 hu
            have HX : Hid ((m : Int) ∉ out.take (j + 1)) := by unfold Hid; rw [HSS.out, List.mem_append, List.mem_singleton]; exact fun h => h.elim HNM.out (fun e => hu e.symm)
            clear hu
            go_wp2_with fail
            go_roundw
            case rel => exact ⟨j + 1, by omega, by go_num, trivial, HX.out⟩
            case measure => simp [intOf]; omega
        · obtain rfl : j = out.length := by omega
          have HNM2 : Hid ((m : Int) ∉ out) := by have := HNM.out; rwa [List.take_length] at this
          have HNX := Lib.hid (HLN2.out.next (by omega) HNM2.out HC.out.all)
          have HLG2 : Hid (lineGo fs kf (callerOf fs m) (out ++ [(m : Int)]) = lineS S) := by unfold Hid; rw [← lineGo_next (n := (m : Int)) (by omega) HNM2.out]; exact HLG.out
          obtain ⟨bf, of, _, ef, _, _, _, _, f1, _⟩ := HFS.out.get hml
          simp only [Value.slice.injEq] at ef
          obtain ⟨rfl, -, rfl⟩ := ef
          have HCL : Hid (fs[m].caller = callerOf fs m) := by unfold Hid callerOf; rw [show (m : Int).toNat = m by omega]; simp [List.getD, List.getElem?_eq_getElem hml]
          rw [HCL.out] at f1
          generalize callerOf fs m = cl at *
          clear hlt h0 HLG
          have HS7 : Hid ((wr.alloc (.cells #[.int .i64 (m : Int)] 3)).heap.size = wr.heap.size + 1) := Array.size_push _
          have HB1 : Hid (w.heap.size + 1 ≤ wr.heap.size) := by unfold Hid; rw [← HSZ1.out]; exact HB.out.size
          go_wp2_with (first
            | (at_builtin; refine wpList_append_row rfl _ _ 37 rfl (w.heap.size + 1) 3 i0 (.int .i64 0) 1 8 Try.underlying37 hi0 hz0 hz1 hz2 rfl (by decide) _ _ _ rfl (by exact HROW.out.ext ((Ext.refl _).alloc _) (by decide)) 1 (ints [(m : Int)]) (src_one _ _ _) (by unfold maxLen; omega) (by omega) (by rw [HS7.out]; exact Nat.le_succ_of_le HB1.out) ?_; intro v1 Wv1 rv1; have RV := Lib.hid rv1; obtain ⟨a9, cap9, rfl, _, _⟩ := rv1.1.shape; have HX9 := Lib.hid (Chg.ext_from (HB.out.alloc (.cells #[.int .i64 (m : Int)] 3)) RV.out.2.1 (fun g e => by rw [HSZ1.out]; exact HROW.out.le g e)); have k0 := (bx0.out.ext HX9.out).1; have k1 := Ext.cell (HE1.out.trans HX9.out) f1; clear rv1))
          go_roundw
          case rel => exact ⟨cl, out ++ [(m : Int)], rfl, HNX.out, by rw [← HLG2.out, List.length_append, List.length_singleton, show fs.length + 2 - (out.length + 1) = kf by omega], HX9.out, by rw [List.length_append, List.length_singleton, ints_app]; exact RV.out.1, by rw [List.length_append, List.length_singleton]; rfl⟩
          case measure => simp [lenV]; omega
end Go.Proofs.Ytpomcbginkhlbaa
end
section
/- Plain data: what a step does to a state, and what must hold that it can be done. No program in sight; no condition. -/
namespace Go.Proofs.Ytpomcbginkhlbaa
open Go Go.RowKit

def topOf (f : GFiber) : GFrame := f.frames.getD (f.frames.length - 1) default
def curF (s : GState) : GFiber := s.fibers.getD s.now.toNat default
def curX (s : GState) : GFrame := topOf (curF s)
def modFib (s : GState) (n : Int) (g : GFiber → GFiber) : GState := { s with fibers := s.fibers.modify n.toNat g }
def modTop (s : GState) (n : Int) (g : GFrame → GFrame) : GState := modFib s n fun f => { f with frames := f.frames.modify (f.frames.length - 1) g }
def pushG (s : GState) (n v : Int) : GState := modTop s n fun x => { x with stack := x.stack ++ [v] }
def popG (s : GState) : GState := modTop s s.now fun x => { x with stack := x.stack.dropLast }
def lastV (s : GState) : Int := (curX s).stack.getD ((curX s).stack.length - 1) 0
def putG (s : GState) (v : Int) : Int × GState := if s.out.length = 30 then (2, s) else (0, { s with out := s.out ++ [v] })
def advG (s : GState) : GState := modTop s s.now fun x => { x with at_ := x.at_ + 1 }
def setAtG (s : GState) (a : Int) : GState := modTop s s.now fun x => { x with at_ := a }
/-- The one that runs hands a value to its caller. -/
def backG (s : GState) (v : Int) : GState := pushG { modFib s s.now (fun f => { f with caller := -1 }) with now := (curF s).caller } (curF s).caller v
def dropG (s : GState) : GState := modFib s s.now fun f => { f with frames := f.frames.dropLast }
def returnG (s : GState) : Int × GState :=
  if 0 < (curF (dropG (popG s))).frames.length then (0, pushG (dropG (popG s)) s.now (lastV s))
  else if (curF (dropG (popG s))).caller < 0 then putG { dropG (popG s) with now := -1 } (lastV s)
  else (0, backG (dropG (popG s)) (lastV s))
def yieldG (s : GState) : Int × GState := if (curF (popG s)).caller < 0 then (7, s) else (0, backG (popG s) (lastV s))
def lineLL (s : GState) : List Int := (lineS s).getD []
/-- The one that is resumed runs. -/
def wakeG (s : GState) (n v : Int) : GState :=
  if (topOf (s.fibers.getD n.toNat default)).at_ = 0 then modTop { modFib s n (fun f => { f with caller := s.now }) with now := n } n (fun x => { x with locals := x.locals.set 0 v })
  else pushG { modFib s n (fun f => { f with caller := s.now }) with now := n } n v
def resumeG (s : GState) : Int × GState :=
  if ¬ (0 ≤ lastV (popG s) ∧ lastV (popG s) < s.fibers.length) then (5, s)
  else if lastV (popG s) ∈ lineLL (popG (popG s)) ∨ ((popG (popG s)).fibers.getD (lastV (popG s)).toNat default).frames.length = 0 then (6, s)
  else (0, wakeG (popG (popG s)) (lastV (popG s)) (lastV s))
/-- What is left of the caller, and the frame that is called: m args. -/
def leaveG (s : GState) (m : Nat) : GState := modTop s s.now fun x => { x with stack := x.stack.take (x.stack.length - m) }
def argsOf (p : List GFunc) (s : GState) (a : Int) (m : Nat) : List Int := List.replicate ((funcOf p a).args.toNat - m) 0 ++ (curX s).stack.drop ((curX s).stack.length - m) ++ List.replicate ((funcOf p a).locals.toNat - (funcOf p a).args.toNat) 0
def callG (p : List GFunc) (s : GState) (a : Int) : Int × GState :=
  if (curF s).frames.length = 6 then (2, s)
  else (0, modFib (leaveG s (funcOf p a).args.toNat) s.now fun f => { f with frames := f.frames ++ [⟨a, 0, argsOf p s a (funcOf p a).args.toNat, []⟩] })
def truthG (b : Bool) : Int := if b then 1 else 0
def reckG (k a b : Int) : Int :=
  if k = 4 then wrap64 (a + b) else if k = 5 then wrap64 (a - b) else if k = 6 then wrap64 (a * b) else if k = 7 then truthG (decide (a < b)) else truthG (decide (a = b))
def makeG (p : List GFunc) (s : GState) (a : Int) : Int × GState :=
  if s.fibers.length = 5 then (2, s) else (0, { pushG s s.now s.fibers.length with fibers := (pushG s s.now s.fibers.length).fibers ++ [⟨[freshFrame p a], -1⟩] })
def opAt (p : List GFunc) (x : GFrame) : GOp := (funcOf p x.func).code.getD x.at_.toNat default
/-- An op's work, its At already one on. -/
def workG (p : List GFunc) (s : GState) (k a : Int) : Int × GState :=
  if k = 0 then (0, pushG s s.now a)
  else if k = 1 then (0, popG s)
  else if k = 2 then (0, pushG s s.now ((curX s).locals.getD a.toNat 0))
  else if k = 3 then (0, modTop (popG s) s.now fun x => { x with locals := x.locals.set a.toNat (lastV s) })
  else if k = 9 then (0, setAtG s a)
  else if k = 10 then (0, if lastV s = 0 then setAtG (popG s) a else popG s)
  else if k = 11 then callG p s a
  else if k = 12 then returnG s
  else if k = 13 then makeG p s a
  else if k = 14 then resumeG s
  else if k = 15 then yieldG s
  else if k = 16 then putG (popG s) (lastV s)
  else (0, pushG (popG (popG s)) s.now (reckG k (lastV (popG s)) (lastV s)))
def doneG (p : List GFunc) (s : GState) : Int × GState := workG p (advG s) (opAt p (curX s)).kind (opAt p (curX s)).a
/-- Running: the state, how many steps, the error. -/
def runG (p : List GFunc) : Nat → GState → GState × Int × Int
  | 0, s => (s, 0, 0)
  | k + 1, s => if s.now < 0 then (s, 0, 0) else if (doneG p s).1 ≠ 0 then (s, 0, (doneG p s).1) else ((runG p k (doneG p s).2).1, (runG p k (doneG p s).2).2.1 + 1, (runG p k (doneG p s).2).2.2)

/-- There is room. -/
def FewF (f : GFiber) : Prop := f.frames.length ≤ 900 ∧ ∀ x ∈ f.frames, x.locals.length ≤ 900 ∧ x.stack.length ≤ 900
def FewS (s : GState) : Prop := s.fibers.length ≤ 900 ∧ s.out.length ≤ 900 ∧ ∀ f ∈ s.fibers, FewF f
/-- A fiber has a frame. -/
def HasTop (s : GState) (n : Int) : Prop := 0 ≤ n ∧ n < s.fibers.length ∧ 0 < (s.fibers.getD n.toNat default).frames.length
def NowTop (p : List GFunc) (s : GState) : Prop := HasTop s s.now ∧ 0 ≤ (curX s).func ∧ (curX s).func < p.length ∧ 0 ≤ (curX s).at_ ∧ (curX s).at_ < (funcOf p (curX s).func).code.length
def CallFit (p : List GFunc) (s : GState) (a : Int) : Prop := 0 ≤ a ∧ a < p.length ∧ 0 ≤ (funcOf p a).args ∧ (funcOf p a).args ≤ (funcOf p a).locals ∧ (funcOf p a).locals ≤ 900 ∧ (funcOf p a).args ≤ (curX s).stack.length
def BackFit (s : GState) : Prop := (curF s).caller < 0 ∨ HasTop { modFib s s.now (fun f => { f with caller := -1 }) with now := (curF s).caller } (curF s).caller
def ReturnFit (s : GState) : Prop := 1 ≤ (curX s).stack.length ∧ (0 < (curF (dropG (popG s))).frames.length ∨ BackFit (dropG (popG s)))
def MakeFit (p : List GFunc) (a : Int) : Prop := 0 ≤ a ∧ a < p.length ∧ 0 ≤ (funcOf p a).locals ∧ (funcOf p a).locals ≤ 900
def CallersOk (s : GState) : Prop := (-1 ≤ s.now ∧ s.now ≤ (s.fibers.length : Int) - 1) ∧ ∀ f ∈ s.fibers, -1 ≤ f.caller ∧ f.caller ≤ (s.fibers.length : Int) - 1
def ResumeFit (s : GState) : Prop := 2 ≤ (curX s).stack.length ∧ CallersOk (popG (popG s)) ∧
  ((topOf ((popG (popG s)).fibers.getD (lastV (popG s)).toNat default)).at_ = 0 → 0 < (topOf ((popG (popG s)).fibers.getD (lastV (popG s)).toNat default)).locals.length)
def WorkFit (p : List GFunc) (s : GState) (k a : Int) : Prop :=
  if k = 0 then True
  else if k = 1 then 1 ≤ (curX s).stack.length
  else if k = 2 then 0 ≤ a ∧ a < (curX s).locals.length
  else if k = 3 then 0 ≤ a ∧ a < (curX s).locals.length ∧ 1 ≤ (curX s).stack.length
  else if k = 9 then True
  else if k = 10 then 1 ≤ (curX s).stack.length
  else if k = 11 then CallFit p s a
  else if k = 12 then ReturnFit s
  else if k = 13 then MakeFit p a
  else if k = 14 then ResumeFit s
  else if k = 15 then 1 ≤ (curX s).stack.length ∧ BackFit (popG s)
  else if k = 16 then 1 ≤ (curX s).stack.length
  else 2 ≤ (curX s).stack.length
def OpFit (p : List GFunc) (s : GState) : Prop := NowTop p s ∧ WorkFit p (advG s) (opAt p (curX s)).kind (opAt p (curX s)).a
def RunFit (p : List GFunc) : Nat → GState → Prop
  | 0, s => FewS s
  | k + 1, s => FewS s ∧ (s.now < 0 ∨ (OpFit p s ∧ ((doneG p s).1 ≠ 0 ∨ RunFit p k (doneG p s).2)))

instance (f : GFiber) : Decidable (FewF f) := by unfold FewF; infer_instance
instance (s : GState) : Decidable (FewS s) := by unfold FewS; infer_instance
instance (s : GState) (n : Int) : Decidable (HasTop s n) := by unfold HasTop; infer_instance
instance (p : List GFunc) (s : GState) : Decidable (NowTop p s) := by unfold NowTop; infer_instance
instance (p : List GFunc) (s : GState) (a : Int) : Decidable (CallFit p s a) := by unfold CallFit; infer_instance
instance (s : GState) : Decidable (BackFit s) := by unfold BackFit; infer_instance
instance (s : GState) : Decidable (ReturnFit s) := by unfold ReturnFit; infer_instance
instance (p : List GFunc) (a : Int) : Decidable (MakeFit p a) := by unfold MakeFit; infer_instance
instance (s : GState) : Decidable (CallersOk s) := by unfold CallersOk; infer_instance
instance (s : GState) : Decidable (ResumeFit s) := by unfold ResumeFit; infer_instance
instance (p : List GFunc) (s : GState) (k a : Int) : Decidable (WorkFit p s k a) := by unfold WorkFit; infer_instance
instance (p : List GFunc) (s : GState) : Decidable (OpFit p s) := by unfold OpFit; infer_instance
instance decRunFit (p : List GFunc) : (k : Nat) → (s : GState) → Decidable (RunFit p k s)
  | 0, s => by unfold RunFit; infer_instance
  | k + 1, s => by
    have := decRunFit p k
    unfold RunFit
    infer_instance
end Go.Proofs.Ytpomcbginkhlbaa
end
