/- Merged texts: contracts and plain facts, one part behind another; each part begins with what it says. -/
import Derived.Test.YtfajkebkhdcapaaGRAB
import Derived.Test.YtfajkebkhdcapaaGRAC
import Derived.Test.YtfajkebkhdcapaaGRAD
import Derived.Test.YtfajkebkhdcapaaGRAE
section
/- Contracts of the document's has, frameFine, waits and fresh. -/
set_option maxHeartbeats 4000000
set_option maxRecDepth 100000
namespace Go.Proofs.Ytfajkebkhdcapaa
open Go Go.RowKit

theorem rightAt {p : List GFunc} (h : progErr p = 0) {k : Nat} (hk : k < p.length) : RightF p p[k] ∧ ∃ l, hts p p[k].code = some l ∧ hgt p k = l ∧ l.length = p[k].code.length := by
  have hRP := progErr_zero h
  obtain ⟨_, _, hR'⟩ := funcErr_zero (hRP.func k hk)
  have hR : RightF p p[k] := by have := hR' (by simpa using hk); simpa using this
  have hs := hRP.hts k hk
  have e : p.getD k default = p[k] := by simp [List.getD, List.getElem?_eq_getElem hk]
  rw [e] at hs
  obtain ⟨l, hl⟩ := Option.isSome_iff_exists.1 hs
  refine ⟨hR, l, hl, ?_, (hts_full hR.jumps hl).len⟩
  unfold hgt
  rw [show (k : Int).toNat = k by omega, e, hl]
  rfl
theorem hgt_len {p : List GFunc} (h : progErr p = 0) {k : Nat} (hk : k < p.length) : (hgt p k).length = p[k].code.length := by
  obtain ⟨_, l, _, e, hl⟩ := rightAt h hk
  rw [e, hl]
theorem funcOf_nat {p : List GFunc} {k : Nat} (hk : k < p.length) : funcOf p k = p[k] := by
  unfold funcOf
  rw [show (k : Int).toNat = k by omega]
  simp [List.getD, List.getElem?_eq_getElem hk]

theorem Ints.at' {w : World} {S : Nat → Prop} {a : Option Addr} {l : List Int} {n c : Nat} (h : Ints w S (.slice a n c) l) {m : Nat} (hm : m < l.length) : ∃ b o, a = some ⟨b, o, none⟩ ∧ w.cell? ⟨b, o + m, none⟩ = some (.int .i64 (l.getD m 0)) := by
  obtain ⟨b, o, _, e1, _, _, _, x0, _⟩ := h.get hm
  simp only [Value.slice.injEq] at e1
  obtain ⟨rfl, -, rfl⟩ := e1
  rw [Nat.mul_one] at x0
  refine ⟨b, o, rfl, ?_⟩
  rw [x0]
  simp [List.getD, List.getElem?_eq_getElem hm]

theorem heights_right (p : List GFunc) (v : Value) (S : Nat → Prop) (n : Nat) (w : World) (hp : Funcs w S v p) (hz : progErr p = 0) (hn : n < p.length) :
    Calls Try.prog 55 #[v, .int .i64 n] w fun e w' => (∃ a c, e = .returned (.tuple #[.slice a (hgt p n).length c, .bool true]) ∧ Ints w' (w.heap.size ≤ ·) (.slice a (hgt p n).length c) (hgt p n)) ∧ Ext w w' := by
  obtain ⟨hR, l, hl, e, _⟩ := rightAt hz hn
  refine (heights_any p v S n w hp hn hR).mono fun e' w' ⟨h, hx⟩ => ⟨?_, hx⟩
  rw [htsR_eq hR.jumps, hl] at h
  obtain ⟨v2, he, hi⟩ := h
  have hi2 := hi
  obtain ⟨a, c, rfl, _, _, _⟩ := hi
  rw [e]
  exact ⟨a, c, he, hi2⟩
theorem flowOf_right (p : List GFunc) (v : Value) (S : Nat → Prop) (n : Nat) (w : World) (hp : Funcs w S v p) (hz : progErr p = 0) (hn : n < p.length) :
    Calls Try.prog 43 #[v, .int .i64 n] w fun e w' => (∃ a c, e = .returned (.tuple #[.slice a (hgt p n).length c, .bool true]) ∧ Ints w' (w.heap.size ≤ ·) (.slice a (hgt p n).length c) (hgt p n)) ∧ Ext w w' := by
  obtain ⟨hR, l, hl, e, _⟩ := rightAt hz hn
  refine (flowOf_any p v S n w hp hn hR).mono fun e' w' ⟨h, hx⟩ => ⟨?_, hx⟩
  rw [hl] at h
  obtain ⟨v2, he, hi⟩ := h
  have hi2 := hi
  obtain ⟨a, c, rfl, _, _, _⟩ := hi
  rw [e]
  exact ⟨a, c, he, hi2⟩

theorem has_any (l : List Int) (v : Value) (x : Int) (S : Nat → Prop) (w : World) (hl : Ints w S v l) :
    Calls Try.prog 102 #[v, .int .i64 x] w fun e w' => e = .returned (.bool (decide (x ∈ l))) ∧ Ext w w' := by
  have HL := Lib.hid hl
  obtain ⟨pa, ca, rfl, hca, hba, _⟩ := hl
  obtain ⟨t, ht⟩ : ∃ t, decide (x ∈ l) = t := ⟨_, rfl⟩
  rw [ht]
  have HT := Lib.hid ht
  clear ht
  go_enter Try.func102, Try.ntmps102
  go_wp2_with fail
  go_loopw [5] (fun q wr => ∃ k : Nat, k ≤ l.length ∧ q = .int .i64 k ∧ Ext w wr ∧ x ∉ l.take k) (fun q _ => l.length - (intOf q).toNat)
  case atStart => exact ⟨0, Nat.zero_le _, rfl, Ext.refl _, by simp⟩
  case round =>
    obtain ⟨k, hk, rfl, hb3, htk⟩ := hrel
    have HB3 := Lib.hid hb3
    have HTK := Lib.hid htk
    clear hb3 htk
    by_cases hlt : k < l.length
    · obtain ⟨ba, oa, _, e1, _, _, _, x0, _⟩ := HL.out.get hlt
      simp only [Value.slice.injEq] at e1
      obtain ⟨rfl, -, rfl⟩ := e1
      rw [Nat.mul_one] at x0
      have x1 := Ext.cell HB3.out x0
      have HM : Hid (l[k] ∈ l) := List.getElem_mem hlt
      have HS : Hid (l.take (k + 1) = l.take k ++ [l[k]]) := List.take_succ_eq_append_getElem hlt
      clear x0
      generalize l[k] = u at *
      by_cases hu : u = x
      · have TT : (u == x) = true := by simp [hu]
        have HX : Hid (t = true) := by unfold Hid; rw [← HT.out]; exact decide_eq_true (hu ▸ HM.out)
        clear hu
        go_wp2_with fail
        go_ret
        exact ⟨by rw [HX.out]; rfl, HB3.out⟩
      · have TT : (u == x) = false := by simp [hu]
        have HX : Hid (x ∉ l.take (k + 1)) := by unfold Hid; rw [HS.out, List.mem_append, List.mem_singleton]; exact fun h => h.elim HTK.out (fun e => hu e.symm)
        clear hu
        go_wp2_with fail
        go_roundw
        case rel => exact ⟨k + 1, by omega, by go_num, HB3.out, HX.out⟩
        case measure => simp [intOf]; omega
    · obtain rfl : k = l.length := by omega
      have HX : Hid (t = false) := by unfold Hid; rw [← HT.out]; exact decide_eq_false (by have := HTK.out; rwa [List.take_length] at this)
      go_wp2_with fail
      go_ret
      exact ⟨by rw [HX.out]; rfl, HB3.out⟩

theorem frameFine_any (p : List GFunc) (v : Value) (S T : Nat → Prop) (x : GFrame) (vx : Value) (w : World) (hp : Funcs w S v p) (hz : progErr p = 0) (hx : FrameV w T vx x) :
    Calls Try.prog 121 #[v, vx] w fun e w' => e = .returned (.bool (frameB p x)) ∧ Ext w w' := by
  have HP := Lib.hid hp
  have HZ := Lib.hid hz
  obtain ⟨fn, at_, ls, st⟩ := x
  obtain ⟨vs, vt, rfl, _, _, hls, hst⟩ := hx
  obtain ⟨a1, c1, rfl, _, _, _⟩ := hls
  obtain ⟨a2, c2, rfl, _, _, _⟩ := hst
  simp only at *
  have RA := alloc_keep
  have hlen5 := (progErr_zero hz).most
  have KK1 : IntKind.i64.wrap ((p.length : Int) - 1) = (p.length : Int) - 1 := IntWalk.i64_in _ (by omega)
  by_cases h1 : 0 ≤ fn ∧ fn < p.length
  · obtain ⟨n, rfl⟩ : ∃ n : Nat, fn = n := ⟨fn.toNat, by omega⟩
    have hn : n < p.length := by omega
    have W1 : Hid (decide (0 ≤ (n : Int) ∧ (n : Int) ≤ (p.length : Int) - 1) = true) := decide_eq_true (by omega)
    have hlm := hgt_len hz hn
    have hmax := (rightAt hz hn).1.len
    obtain ⟨b, o, cap, rfl, hcap, hby, ⟨_, hA, iA⟩, ⟨_, hL, iL⟩, vc, hC, hcode⟩ := hp.get hn
    obtain ⟨ca, ccap, rfl, hcc, hcby, _⟩ := hcode
    have hF := funcOf_nat hn
    have KK2 : IntKind.i64.wrap ((p[n].code.length : Int) - 1) = (p[n].code.length : Int) - 1 := IntWalk.i64_in _ (by omega)
    by_cases h2 : (ls.length : Int) = p[n].locals
    · have T2 : ((ls.length : Int) != p[n].locals) = false := by rw [bne_eq_false_iff_eq]; exact h2
      by_cases h3 : 0 ≤ at_ ∧ at_ < p[n].code.length
      · obtain ⟨m, rfl⟩ : ∃ m : Nat, at_ = m := ⟨at_.toNat, by omega⟩
        have hm : m < p[n].code.length := by omega
        have W3 : Hid (decide (0 ≤ (m : Int) ∧ (m : Int) ≤ (p[n].code.length : Int) - 1) = true) := decide_eq_true (by omega)
        have HR : Hid (frameB p ⟨n, m, ls, st⟩ = decide (0 ≤ (hgt p n).getD m 0)) := by
          unfold Hid frameB
          simp only [hF]
          rw [decide_eq_true h1, decide_eq_true h2, decide_eq_true h3]
          simp
        have HLM := Lib.hid hlm
        have hlm1 := Nat.le_of_eq hlm
        have hlm2 := Nat.le_of_eq hlm.symm
        clear hp hz h1 h2 h3 hF hlm
        obtain ⟨u, hu⟩ : ∃ u, (hgt p n).getD m 0 = u := ⟨_, rfl⟩
        have HU := Lib.hid hu
        rw [hu] at HR
        clear hu
        go_enter Try.func121, Try.ntmps121
        go_upto_region 1 with fail
        refine wp_region_ext (by kernel_rfl) (by kernel_rfl) ?_
        repeat (first
          | go_big_quiet_skip
          | (go_big_quiet_want
             unfold Oper.quiet
             apply Exists.intro
             refine ⟨fun w' hw' => ?_, ?_⟩
             focus
               have hcq := Ext.keep hw'
               go_simp
               first
                 | with_reducible rfl
                 | (go_at_call 38; refine (within_any _ _ _ _).mono ?_; rintro e w2 ⟨rfl, rfl⟩; first | (rw [W1.out]; exact ⟨rfl, hw'⟩) | (rw [W3.out]; exact ⟨rfl, hw'⟩))
             (try dsimp only [Act.put])
             (try simp only [List.setIfInBounds_toArray, List.set_cons_succ, List.set_cons_zero])
             go_big_quiet_on))
        refine wpQuiet_nil ?_
        intro wq hq
        have HQ := Lib.hid (((Ext.refl w).alloc _).trans hq)
        have hcq := Ext.keep hq
        go_wp2_with (first
          | (go_at_call 55; refine (heights_right p _ _ n _ (Funcs.stays (Ext.stays HQ.out) HP.out) HZ.out hn).mono ?_; rintro e w2 ⟨⟨a3, c3, rfl, hi⟩, hx2⟩; have hc2 := Ext.keep hx2; obtain ⟨bl, ol, rfl, x0⟩ := Ints.at' hi (m := m) (by omega); rw [HU.out] at x0))
        go_ret
        exact ⟨by rw [HR.out]; rfl, HQ.out.trans hx2⟩
      · have W3 : Hid (decide (0 ≤ at_ ∧ at_ ≤ (p[n].code.length : Int) - 1) = false) := decide_eq_false (by omega)
        have HR : Hid (frameB p ⟨n, at_, ls, st⟩ = false) := by
          unfold Hid frameB
          simp only [hF]
          rw [decide_eq_false h3]
          simp
        clear hp hz h1 h2 h3 hF hlm
        go_enter Try.func121, Try.ntmps121
        go_upto_region 1 with fail
        refine wp_region_ext (by kernel_rfl) (by kernel_rfl) ?_
        repeat (first
          | go_big_quiet_skip
          | (go_big_quiet_want
             unfold Oper.quiet
             apply Exists.intro
             refine ⟨fun w' hw' => ?_, ?_⟩
             focus
               have hcq := Ext.keep hw'
               go_simp
               first
                 | with_reducible rfl
                 | (go_at_call 38; refine (within_any _ _ _ _).mono ?_; rintro e w2 ⟨rfl, rfl⟩; first | (rw [W1.out]; exact ⟨rfl, hw'⟩) | (rw [W3.out]; exact ⟨rfl, hw'⟩))
             (try dsimp only [Act.put])
             (try simp only [List.setIfInBounds_toArray, List.set_cons_succ, List.set_cons_zero])
             go_big_quiet_on))
        refine wpQuiet_nil ?_
        intro wq hq
        go_wp2_with fail
        go_ret
        exact ⟨by rw [HR.out]; rfl, ((Ext.refl w).alloc _).trans hq⟩
    · have T2 : ((ls.length : Int) != p[n].locals) = true := bne_iff_ne.2 h2
      have HR : Hid (frameB p ⟨n, at_, ls, st⟩ = false) := by
        unfold Hid frameB
        simp only [hF]
        rw [decide_eq_false h2]
        simp
      clear hp hz h1 h2 hF hlm
      go_enter Try.func121, Try.ntmps121
      go_upto_region 1 with fail
      refine wp_region_ext (by kernel_rfl) (by kernel_rfl) ?_
      repeat (first
        | go_big_quiet_skip
        | (go_big_quiet_want
           unfold Oper.quiet
           apply Exists.intro
           refine ⟨fun w' hw' => ?_, ?_⟩
           focus
             have hcq := Ext.keep hw'
             go_simp
             first
               | with_reducible rfl
               | (go_at_call 38; refine (within_any _ _ _ _).mono ?_; rintro e w2 ⟨rfl, rfl⟩; rw [W1.out]; exact ⟨rfl, hw'⟩)
           (try dsimp only [Act.put])
           (try simp only [List.setIfInBounds_toArray, List.set_cons_succ, List.set_cons_zero])
           go_big_quiet_on))
      refine wpQuiet_nil ?_
      intro wq hq
      go_wp2_with fail
      go_ret
      exact ⟨by rw [HR.out]; rfl, ((Ext.refl w).alloc _).trans hq⟩
  · have W1 : Hid (decide (0 ≤ fn ∧ fn ≤ (p.length : Int) - 1) = false) := decide_eq_false (by omega)
    have HR : Hid (frameB p ⟨fn, at_, ls, st⟩ = false) := by
      unfold Hid frameB
      simp only
      rw [decide_eq_false h1]
      simp
    have hp0 := hp
    obtain ⟨a, cap, rfl, _, _, _⟩ := hp
    clear hz h1 hp0
    go_enter Try.func121, Try.ntmps121
    go_upto_region 1 with fail
    refine wp_region_ext (by kernel_rfl) (by kernel_rfl) ?_
    repeat (first
      | go_big_quiet_skip
      | (go_big_quiet_want
         unfold Oper.quiet
         apply Exists.intro
         refine ⟨fun w' hw' => ?_, ?_⟩
         focus
           have hcq := Ext.keep hw'
           go_simp
           first
             | with_reducible rfl
             | (go_at_call 38; refine (within_any _ _ _ _).mono ?_; rintro e w2 ⟨rfl, rfl⟩; rw [W1.out]; exact ⟨rfl, hw'⟩)
         (try dsimp only [Act.put])
         (try simp only [List.setIfInBounds_toArray, List.set_cons_succ, List.set_cons_zero])
         go_big_quiet_on))
    refine wpQuiet_nil ?_
    intro wq hq
    go_wp2_with fail
    go_ret
    exact ⟨by rw [HR.out]; rfl, ((Ext.refl w).alloc _).trans hq⟩
end Go.Proofs.Ytfajkebkhdcapaa
end
section
/- Contract of the document's lineOf. -/
set_option maxHeartbeats 4000000
set_option maxRecDepth 100000
namespace Go.Proofs.Ytfajkebkhdcapaa
open Go Go.RowKit

def lenV : Value → Nat
  | .slice _ n _ => n
  | _ => 0

/-- What lineOf hands back. -/
def LineRet (B : Nat) (s : GState) (e : Ending) (w' : World) : Prop :=
  match lineS s with
  | none => e = .returned (.tuple #[.slice none 0 0, .bool false])
  | some l => ∃ a c, e = .returned (.tuple #[.slice a l.length c, .bool (lineEnd l)]) ∧ Ints w' (B ≤ ·) (.slice a l.length c) l

theorem lineGo_neg {fs : List GFiber} {k : Nat} {n : Int} {out : List Int} (h : n < 0) : lineGo fs (k + 1) n out = some out := by unfold lineGo; rw [if_pos h]
theorem lineGo_mem {fs : List GFiber} {k : Nat} {n : Int} {out : List Int} (h : ¬ n < 0) (hm : n ∈ out) : lineGo fs (k + 1) n out = none := by unfold lineGo; rw [if_neg h, if_pos hm]
theorem lineGo_next {fs : List GFiber} {k : Nat} {n : Int} {out : List Int} (h : ¬ n < 0) (hm : n ∉ out) : lineGo fs (k + 1) n out = lineGo fs k (callerOf fs n) (out ++ [n]) := by rw [lineGo, if_neg h, if_neg hm]

structure Callers (s : GState) : Prop where
  now : -1 ≤ s.now ∧ s.now ≤ (s.fibers.length : Int) - 1
  all : ∀ k, k < s.fibers.length → -1 ≤ (s.fibers.getD k default).caller ∧ (s.fibers.getD k default).caller ≤ (s.fibers.length : Int) - 1
  few : s.fibers.length ≤ 1000

theorem lineOf_any (s : GState) (vs : Value) (T : Nat → Prop) (w : World) (hs : StateV w T vs s) (hc : Callers s) :
    Calls Try.prog 100 #[vs] w fun e w' => LineRet w.heap.size s e w' ∧ Ext w w' := by
  obtain ⟨fs, now, outs⟩ := s
  obtain ⟨x, y, rfl, hfs, _, hout⟩ := hs
  have HFS := Lib.hid hfs
  obtain ⟨af, cf, rfl, _, _, _⟩ := hfs
  obtain ⟨ao, co, rfl, _, _, _⟩ := hout
  simp only at *
  have RA := alloc_keep
  obtain ⟨i0, hi0, hz0, hz1, hz2⟩ := info_parts infoI
  have HC := Lib.hid hc
  have hfew := hc.few
  simp only at hfew
  clear hc
  obtain ⟨S, hS⟩ : ∃ S : GState, (⟨fs, now, outs⟩ : GState) = S := ⟨_, rfl⟩
  have hl0 : lineGo fs (fs.length + 2 - ([] : List Int).length) now [] = lineS S := by rw [← hS]; rfl
  have HS := Lib.hid hS
  have bx0 := Lib.hid (Cx.new w [.slice af fs.length cf, .int .i64 now, .slice ao outs.length co] 35 (j := 0) rfl)
  have bx1 := Lib.hid (Cx.new w [.slice af fs.length cf, .int .i64 now, .slice ao outs.length co] 35 (j := 1) rfl)
  have hE1 := (Ext.refl w).alloc (.cells #[.slice af fs.length cf, .int .i64 now, .slice ao outs.length co] 35)
  have hL0 : LineOn fs now [] := ⟨HC.out.now, List.nodup_nil, by simp⟩
  have HL0 := Lib.hid hl0
  have HLN := Lib.hid hL0
  have HE1 := Lib.hid hE1
  have HSZ1 : Hid ((w.alloc (.cells #[.slice af fs.length cf, .int .i64 now, .slice ao outs.length co] 35)).heap.size = w.heap.size + 1) := Array.size_push _
  rw [hS]
  clear hl0 hL0 hE1 hS
  go_enter Try.func100, Try.ntmps100
  go_wp2_with fail
  generalize w.alloc (.cells #[.slice af fs.length cf, .int .i64 now, .slice ao outs.length co] 35) = w1 at *
  have hsz1 := bx0.out.lt
  go_loopw [4, 5] (fun q4 q5 wr => ∃ n out, q5 = .int .i64 n ∧ LineOn fs n out ∧ lineGo fs (fs.length + 2 - out.length) n out = lineS S ∧ Ext w1 wr ∧ RowAt wr (w.heap.size + 1) 1 q4 out.length (ints out) ∧ lenV q4 = out.length) (fun q4 _ _ => fs.length + 1 - lenV q4)
  case atStart => exact ⟨now, [], rfl, HLN.out, HL0.out, Ext.refl _, RowAt.nil _ _ _ _, rfl⟩
  case round =>
    obtain ⟨n, out, rfl, hln, hlg, hb, hrow, _⟩ := hrel
    have HLN2 := Lib.hid hln
    have HLG := Lib.hid hlg
    have HB := Lib.hid hb
    have HROW := Lib.hid hrow
    have hol := hln.len
    obtain ⟨ar, capr, rfl, _, _⟩ := hrow.shape
    have hnow := hln.now
    obtain ⟨kf, hkf⟩ : ∃ kf, fs.length + 2 - out.length = kf + 1 := ⟨fs.length + 1 - out.length, by omega⟩
    rw [hkf] at HLG
    clear hln hlg hb hrow HLN HL0
    by_cases h0 : n < 0
    · have T0 : decide (0 ≤ n) = false := decide_eq_false (by omega)
      have HRES : Hid (lineS S = some out) := by unfold Hid; rw [← HLG.out, lineGo_neg h0]
      clear h0 HLG hkf
      have hfin : ∀ wq, Ext wr wq → Ints wq (w.heap.size ≤ ·) (.slice ar out.length capr) out := fun wq hq => by
        refine Ints.of_row (base := w.heap.size + 1) (by rw [flatMap_intF]; exact HROW.out.ext hq (by decide)) (by omega) (fun x hx => ?_) _ (fun b hb _ => by show w.heap.size ≤ b; omega)
        have := HLN2.out.range x hx
        exact ⟨by omega, by omega⟩
      have HFIN := Lib.hid hfin
      clear hfin
      by_cases h1 : out.length = 0
      · have T1 : ((out.length : Int) == 0) = true := by simp [h1]
        have HE : Hid (lineEnd out = true) := by unfold Hid lineEnd; rw [decide_eq_true h1]; rfl
        go_upto_region 11 with fail
        clear h1
        refine wp_region_ext (by kernel_rfl) (by kernel_rfl) ?_
        repeat (first
          | go_big_quiet_skip
          | (go_big_quiet_want
             unfold Oper.quiet
             apply Exists.intro
             refine ⟨fun w' hw' => ?_, ?_⟩
             focus
               have hcq := Ext.keep hw'
               go_simp
               first
                 | with_reducible rfl
                 | fail
             (try dsimp only [Act.put])
             (try simp only [List.setIfInBounds_toArray, List.set_cons_succ, List.set_cons_zero])
             go_big_quiet_on))
        refine wpQuiet_nil ?_
        intro wq hq
        go_wp2_with fail
        go_ret2
        refine ⟨?_, HE1.out.trans (HB.out.trans hq)⟩
        unfold LineRet
        rw [HRES.out]
        exact ⟨ar, capr, by rw [HE.out]; rfl, HFIN.out _ hq⟩
      · obtain ⟨j, hj⟩ : ∃ j, out.length = j + 1 := ⟨out.length - 1, by omega⟩
        have T1 : ((out.length : Int) == 0) = false := beq_eq_false_iff_ne.2 (by omega)
        have KK : IntKind.i64.wrap ((out.length : Int) - 1) = (j : Int) := by rw [IntWalk.i64_in _ (by omega)]; omega
        obtain ⟨g, o, rfl, _, l0⟩ := HROW.out.get_int (q := j) (by omega)
        obtain ⟨u, hu⟩ : ∃ u, out.getD j 0 = u := ⟨_, rfl⟩
        rw [hu] at l0
        have HE : Hid (lineEnd out = (u == 0)) := by
          unfold Hid lineEnd
          rw [decide_eq_false h1, show out.length - 1 = j by omega, hu, Bool.false_or, Bool.eq_iff_iff]
          simp
        have hjl : j < out.length := by omega
        go_upto_region 11 with fail
        clear h1 hj hu
        refine wp_region_ext (by kernel_rfl) (by kernel_rfl) ?_
        repeat (first
          | go_big_quiet_skip
          | (go_big_quiet_want
             unfold Oper.quiet
             apply Exists.intro
             refine ⟨fun w' hw' => ?_, ?_⟩
             focus
               have hcq := Ext.keep hw'
               go_simp
               first
                 | with_reducible rfl
                 | fail
             (try dsimp only [Act.put])
             (try simp only [List.setIfInBounds_toArray, List.set_cons_succ, List.set_cons_zero])
             go_big_quiet_on))
        refine wpQuiet_nil ?_
        intro wq hq
        go_wp2_with fail
        go_ret2
        refine ⟨?_, HE1.out.trans (HB.out.trans hq)⟩
        unfold LineRet
        rw [HRES.out]
        exact ⟨_, capr, by rw [HE.out]; rfl, HFIN.out _ hq⟩
    · have T0 : decide (0 ≤ n) = true := decide_eq_true (by omega)
      obtain ⟨m, rfl⟩ : ∃ m : Nat, n = m := ⟨n.toNat, by omega⟩
      have hml : m < fs.length := by omega
      clear hnow
      go_wp2_with fail
      go_loopw [6] (fun q wx => ∃ j : Nat, j ≤ out.length ∧ q = .int .i64 j ∧ wr = wx ∧ (m : Int) ∉ out.take j) (fun q _ => out.length - (intOf q).toNat)
      case atStart => exact ⟨0, Nat.zero_le _, rfl, rfl, by simp⟩
      case round =>
        obtain ⟨j, hj, rfl, rfl, hnm⟩ := hrel
        have HNM := Lib.hid hnm
        clear hnm
        by_cases hlt : j < out.length
        · obtain ⟨g, o, rfl, _, l0⟩ := HROW.out.get_int hlt
          have HM : Hid (out[j] ∈ out) := List.getElem_mem hlt
          have HSS : Hid (out.take (j + 1) = out.take j ++ [out[j]]) := List.take_succ_eq_append_getElem hlt
          have eg : out.getD j 0 = out[j] := by simp [List.getD, List.getElem?_eq_getElem hlt]
          rw [eg] at l0
          clear eg
          generalize out[j] = u at *
          by_cases hu : u = m
          · have TT : (u == (m : Int)) = true := by simp [hu]
            have HRES : Hid (lineS S = none) := by unfold Hid; rw [← HLG.out]; exact lineGo_mem (by omega) (hu ▸ HM.out)
            clear hu
            go_wp2_with fail
            go_ret2
            refine ⟨?_, HE1.out.trans HB.out⟩
            unfold LineRet
            rw [HRES.out]
            rfl
          · have TT : (u == (m : Int)) = false := beq_eq_false_iff_ne.2 hu
            have HX : Hid ((m : Int) ∉ out.take (j + 1)) := by unfold Hid; rw [HSS.out, List.mem_append, List.mem_singleton]; exact fun h => h.elim HNM.out (fun e => hu e.symm)
            clear hu
            go_wp2_with fail
            go_roundw
            case rel => exact ⟨j + 1, by omega, by go_num, trivial, HX.out⟩
            case measure => simp [intOf]; omega
        · obtain rfl : j = out.length := by omega
          have HNM2 : Hid ((m : Int) ∉ out) := by have := HNM.out; rwa [List.take_length] at this
          have HNX := Lib.hid (HLN2.out.next (by omega) HNM2.out HC.out.all)
          have HLG2 : Hid (lineGo fs kf (callerOf fs m) (out ++ [(m : Int)]) = lineS S) := by unfold Hid; rw [← lineGo_next (n := (m : Int)) (by omega) HNM2.out]; exact HLG.out
          obtain ⟨bf, of, _, ef, _, _, _, _, f1, _⟩ := HFS.out.get hml
          simp only [Value.slice.injEq] at ef
          obtain ⟨rfl, -, rfl⟩ := ef
          have HCL : Hid (fs[m].caller = callerOf fs m) := by unfold Hid callerOf; rw [show (m : Int).toNat = m by omega]; simp [List.getD, List.getElem?_eq_getElem hml]
          rw [HCL.out] at f1
          generalize callerOf fs m = cl at *
          clear hlt h0 HLG
          have HS7 : Hid ((wr.alloc (.cells #[.int .i64 (m : Int)] 3)).heap.size = wr.heap.size + 1) := Array.size_push _
          have HB1 : Hid (w.heap.size + 1 ≤ wr.heap.size) := by unfold Hid; rw [← HSZ1.out]; exact HB.out.size
          go_wp2_with (first
            | (at_builtin; refine wpList_append_row rfl _ _ 27 rfl (w.heap.size + 1) 3 i0 (.int .i64 0) 1 8 Try.underlying27 hi0 hz0 hz1 hz2 rfl (by decide) _ _ _ rfl (by exact HROW.out.ext ((Ext.refl _).alloc _) (by decide)) 1 (ints [(m : Int)]) (src_one _ _ _) (by unfold maxLen; omega) (by omega) (by rw [HS7.out]; exact Nat.le_succ_of_le HB1.out) ?_; intro v1 Wv1 rv1; have RV := Lib.hid rv1; obtain ⟨a9, cap9, rfl, _, _⟩ := rv1.1.shape; have HX9 := Lib.hid (Chg.ext_from (HB.out.alloc (.cells #[.int .i64 (m : Int)] 3)) RV.out.2.1 (fun g e => by rw [HSZ1.out]; exact HROW.out.le g e)); have k0 := (bx0.out.ext HX9.out).1; have k1 := Ext.cell (HE1.out.trans HX9.out) f1; clear rv1))
          go_roundw
          case rel => exact ⟨cl, out ++ [(m : Int)], rfl, HNX.out, by rw [← HLG2.out, List.length_append, List.length_singleton, show fs.length + 2 - (out.length + 1) = kf by omega], HX9.out, by rw [List.length_append, List.length_singleton, ints_app]; exact RV.out.1, by rw [List.length_append, List.length_singleton]; rfl⟩
          case measure => simp [lenV]; omega
end Go.Proofs.Ytfajkebkhdcapaa
end
section
/- Plain data: right states, and their line. No program in sight; no condition. -/
set_option maxHeartbeats 4000000
set_option maxRecDepth 100000
namespace Go.Proofs.Ytfajkebkhdcapaa
open Go Go.RowKit

/-- A right state. -/
structure RightS (p : List GFunc) (s : GState) (l : List Int) : Prop where
  prog : progErr p = 0
  few : s.fibers.length ≤ 5
  out : s.out.length ≤ 30
  frames : ∀ k, k < s.fibers.length → (s.fibers.getD k default).frames.length ≤ 6
  pos : 0 < s.fibers.length
  callers : Callers s
  line : lineS s = some l
  ends : lineEnd l = true
  done : ¬ (s.now = -1 ∧ 0 < (s.fibers.getD 0 default).frames.length)
  fib : ∀ k, k < s.fibers.length → fibK p s l k = true

theorem stateErr_zero {p : List GFunc} {s : GState} (h : stateErr p s = 0) : ∃ l, RightS p s l := by
  unfold stateErr at h
  by_cases h0 : progErr p = 0
  · rw [if_neg (fun k => k h0)] at h
    by_cases h1 : 5 < s.fibers.length ∨ 30 < s.out.length
    · rw [if_pos h1] at h; cases h
    · rw [if_neg h1] at h
      cases h2 : allK s.fibers.length (framesFew s) with
      | false => rw [h2, if_pos rfl] at h; cases h
      | true =>
        rw [h2, if_neg (by decide)] at h
        by_cases h3 : s.fibers.length = 0
        · rw [if_pos h3] at h; cases h
        · rw [if_neg h3] at h
          by_cases h4 : -1 ≤ s.now ∧ s.now ≤ (s.fibers.length : Int) - 1
          · rw [if_neg (fun k => k h4)] at h
            cases h5 : allK s.fibers.length (callersB s) with
            | false => rw [h5, if_pos rfl] at h; cases h
            | true =>
              rw [h5, if_neg (by decide)] at h
              unfold lineErr at h
              cases h6 : lineS s with
              | none => rw [h6] at h; cases h
              | some l =>
                rw [h6] at h
                simp only at h
                cases h7 : lineEnd l with
                | false => rw [h7, if_pos rfl] at h; cases h
                | true =>
                  rw [h7, if_neg (by decide)] at h
                  by_cases h8 : s.now = -1 ∧ 0 < (s.fibers.getD 0 default).frames.length
                  · rw [if_pos h8] at h; cases h
                  · rw [if_neg h8] at h
                    cases h9 : allK s.fibers.length (fibK p s l) with
                    | false => rw [h9, if_pos rfl] at h; cases h
                    | true => exact ⟨l, h0, by omega, by omega, fun k hk => of_decide_eq_true (allK_of h2 k hk), by omega, ⟨h4, fun k hk => of_decide_eq_true (allK_of h5 k hk), by omega⟩, h6, h7, h8, allK_of h9⟩
          · rw [if_pos h4] at h; cases h
  · rw [if_pos h0] at h; exact absurd h h0

theorem fibK_frames {p : List GFunc} {s : GState} {l : List Int} {k : Nat} (h : fibK p s l k = true) : ∀ hk : 0 < (s.fibers.getD k default).frames.length, 0 ≤ ((s.fibers.getD k default).frames[0]).func ∧ ((s.fibers.getD k default).frames[0]).func < p.length := by
  intro hk
  unfold fibK at h
  rw [Bool.and_eq_true] at h
  have h1 := h.1
  unfold fiberB at h1
  rw [if_neg (by omega), Bool.and_eq_true] at h1
  have h2 := allK_of h1.1 0 hk
  unfold onB at h2
  rw [Bool.and_eq_true] at h2
  have h3 := h2.1
  unfold frameB at h3
  simp only [Bool.and_eq_true, decide_eq_true_eq] at h3
  have e : ∀ (L : List GFrame) (h : 0 < L.length), L.getD 0 default = L[0] := fun L h => by simp [List.getD, List.getElem?_eq_getElem h]
  rw [e _ hk] at h3
  exact h3.1.1.1

theorem getD_app_lt {l m : List Int} {i : Nat} (h : i < l.length) : (l ++ m).getD i 0 = l.getD i 0 := by
  simp [List.getD, List.getElem?_append_left h]
theorem getD_app_end {l : List Int} {n : Int} : (l ++ [n]).getD l.length 0 = n := by simp [List.getD]
theorem lineGo_facts {fs : List GFiber} (hc : ∀ k, k < fs.length → -1 ≤ (fs.getD k default).caller ∧ (fs.getD k default).caller ≤ (fs.length : Int) - 1) : ∀ (k : Nat) (n : Int) (out l : List Int), lineGo fs k n out = some l → LineOn fs n out →
    (∀ i, i + 1 < out.length → callerOf fs (out.getD i 0) = out.getD (i + 1) 0) → (0 < out.length → callerOf fs (out.getD (out.length - 1) 0) = n) →
    l.Nodup ∧ (∀ x ∈ l, 0 ≤ x ∧ x < fs.length) ∧ (∀ i, i + 1 < l.length → callerOf fs (l.getD i 0) = l.getD (i + 1) 0) ∧ (∀ i, i < out.length → l.getD i 0 = out.getD i 0) ∧ (0 ≤ n → out.length < l.length ∧ l.getD out.length 0 = n) ∧ (n < 0 → l = out)
  | 0, _, _, _, h, _, _, _ => by cases h
  | k + 1, n, out, l, h, hl, h1, h2 => by
    rw [lineGo] at h
    by_cases hn : n < 0
    · rw [if_pos hn] at h
      cases h
      exact ⟨hl.nodup, hl.range, h1, fun _ _ => rfl, fun h => by omega, fun _ => rfl⟩
    · rw [if_neg hn] at h
      by_cases hm : n ∈ out
      · rw [if_pos hm] at h; cases h
      · rw [if_neg hm] at h
        obtain ⟨r1, r2, r3, r4, r5, r6⟩ := lineGo_facts hc k _ _ l h (hl.next (by omega) hm hc) (fun i hi => by
          rw [List.length_append, List.length_singleton] at hi
          by_cases hi2 : i + 1 < out.length
          · rw [getD_app_lt (by omega), getD_app_lt hi2]; exact h1 i hi2
          · obtain rfl : i = out.length - 1 := by omega
            rw [getD_app_lt (by omega), h2 (by omega), show out.length - 1 + 1 = out.length by omega, getD_app_end]) (fun _ => by
          rw [List.length_append, List.length_singleton, Nat.add_sub_cancel, getD_app_end])
        have e4 : ∀ i, i < out.length → l.getD i 0 = out.getD i 0 := fun i hi => by rw [r4 i (by simp; omega), getD_app_lt hi]
        have e5 : l.getD out.length 0 = n := by rw [r4 out.length (by simp), getD_app_end]
        refine ⟨r1, r2, r3, e4, fun _ => ⟨?_, e5⟩, fun h => absurd h hn⟩
        by_cases hcn : 0 ≤ callerOf fs n
        · have := (r5 hcn).1; simp at this; omega
        · have := r6 (by omega)
          rw [this]; simp

structure LineF (s : GState) (l : List Int) : Prop where
  nodup : l.Nodup
  range : ∀ x ∈ l, 0 ≤ x ∧ x < s.fibers.length
  link : ∀ i, i + 1 < l.length → (s.fibers.getD (l.getD i 0).toNat default).caller = l.getD (i + 1) 0
  head : 0 ≤ s.now → 0 < l.length ∧ l.getD 0 0 = s.now
  none : s.now < 0 → l = []
theorem RightS.lineF {p : List GFunc} {s : GState} {l : List Int} (h : RightS p s l) : LineF s l := by
  have hc := h.callers
  obtain ⟨r1, r2, r3, _, r5, r6⟩ := lineGo_facts hc.all _ _ _ _ h.line ⟨hc.now, by simp, fun x hx => by cases hx⟩ (fun i hi => by simp at hi) (fun h => by simp at h)
  exact ⟨r1, r2, r3, r5, r6⟩

end Go.Proofs.Ytfajkebkhdcapaa
end
section
/- Contract of op.Check. -/
set_option maxHeartbeats 1000000
set_option maxRecDepth 100000
namespace Go.Proofs.Ytfajkebkhdcapaa
open Go Go.RowKit

theorem opsErr_drop (p : List GFunc) (f : GFunc) (l : List GOp) (k : Nat) (hk : k < l.length) (h : opErr p f l[k] = 0) : opsErr p f (l.drop k) = opsErr p f (l.drop (k + 1)) := by
  rw [List.drop_eq_getElem_cons hk]
  simp [opsErr, h]
theorem opsErr_hit (p : List GFunc) (f : GFunc) (l : List GOp) (k : Nat) (hk : k < l.length) (h : opErr p f l[k] ≠ 0) : opsErr p f (l.drop k) = opErr p f l[k] := by
  rw [List.drop_eq_getElem_cons hk]
  simp [opsErr, h]

theorem check_any (p : List GFunc) (v : Value) (S : Nat → Prop) (f : Int) (w : World) (hp : Funcs w S v p) :
    Calls Try.prog 42 #[v, .int .i64 f] w fun e w' => e = .returned (.int .i64 (funcErr p f)) ∧ Ext w w' := by
  by_cases hf : 0 ≤ f ∧ f < p.length
  · obtain ⟨h0, h1⟩ := hf
    obtain ⟨n, rfl⟩ := Int.eq_ofNat_of_zero_le h0
    have hn : n < p.length := by omega
    have hp0 := hp
    obtain ⟨b, o, cap, rfl, hcap, hby, hA, hL, vc, hC, hcode⟩ := hp.get hn
    have hA1 := hA.2.1
    have hL1 := hL.2.1
    obtain ⟨ca, ccap, rfl, hcc, hcby, hops⟩ := hcode
    have HF : Hid (funcErr p n = if 24 < p[n].code.length then 2 else if sizedB p[n] = false then 3 else opsErr p p[n] p[n].code) := by
      unfold funcErr Hid
      rw [if_neg (by omega)]
      have : p.getD (n : Int).toNat default = p[n] := by simp [List.getD, List.getElem?_eq_getElem hn]
      rw [this]
    have RA := alloc_keep
    rw [HF.out]
    clear hA hL HF h0 h1
    by_cases hm : 24 < p[n].code.length
    · rw [if_pos hm]
      go_enter Try.func42, Try.ntmps42
      go_wp2
      go_ret
      exact ⟨rfl, by ((repeat (first | assumption | exact Ext.refl _ | (exact And.left (by assumption)) | refine Ext.alloc ?_ _ | refine Ext.drew ?_ | refine Ext.drewN ?_ _ | refine Ext.setCell ?_ (by simp) _ | refine Ext.setCell ?_ (by simp; omega) _ | refine Ext.trans ?_ (by assumption))); done)⟩
    · rw [if_neg hm]
      have hm' : p[n].code.length ≤ 24 := by omega
      clear hm
      generalize hF : p[n] = F at *
      obtain ⟨A, L, code⟩ := F
      simp only at *
      cases hs : sizedB ⟨A, L, code⟩
      · rw [if_pos rfl]
        go_enter Try.func42, Try.ntmps42
        go_wp2_with (first
          | (go_at_call 58; refine (sized_any A L _ code _).mono ?_; rintro e w1 ⟨rfl, hb⟩))
        go_ret
        exact ⟨rfl, by ((repeat (first | assumption | exact Ext.refl _ | (exact And.left (by assumption)) | refine Ext.alloc ?_ _ | refine Ext.drew ?_ | refine Ext.drewN ?_ _ | refine Ext.setCell ?_ (by simp) _ | refine Ext.setCell ?_ (by simp; omega) _ | refine Ext.trans ?_ (by assumption))); done)⟩
      · rw [if_neg (by decide)]
        go_enter Try.func42, Try.ntmps42
        go_upto_region 8 with (first
          | (go_at_call 58; refine (sized_any A L _ code _).mono ?_; rintro e w1 ⟨rfl, hb⟩))
        have hc1 := Ext.keep hb
        go_cut [6] (fun v6 wr => ∃ g, v6 = .pointer (some ⟨g, 0, none⟩) ∧ Ext w wr ∧ (∀ j, wr.cell? ⟨g, j, none⟩ = kindRow[j]?) ∧
          wr.cell? ⟨w.heap.size, 0, none⟩ = some (.int .i64 A) ∧ wr.cell? ⟨w.heap.size, 1, none⟩ = some (.int .i64 L) ∧ wr.cell? ⟨w.heap.size, 2, none⟩ = some (.slice ca code.length ccap))
        case first =>
          go_wp2_with (first
            | (refine wpList_store_row rfl 99 _ _ rfl _ kindRow rfl rfl _ _ (heap_alloc_new _ _) (by kernel_rfl) rfl (by kernel_rfl) ?_)
            | (go_at_call 59; refine (kinds_any _).mono ?_; rintro e w2 ⟨rfl, hb2⟩))
          go_meet
          have e2 := Ext.setRow ((Ext.refl w2).alloc (.cells #[.int .i64 0] 0)) (Nat.le_refl _) kindRow
          have e1 := hb.trans hb2
          have e0 := Ext.alloc (Ext.refl w) (.cells #[.int .i64 A, .int .i64 L, .slice ca code.length ccap] 55)
          refine ⟨_, rfl, Ext.trans (e0.trans e1) (((Ext.refl _).alloc _).setRow (Nat.le_refl _) _), fun j => cell_setRow_same _ _ _ _ _ _ _ (heap_alloc_new _ _), ?_, ?_, ?_⟩
          all_goals exact Ext.cell (((Ext.refl _).alloc _).setRow (Nat.le_refl _) _) (Ext.cell e1 (by simp))
        case rest =>
          obtain ⟨g, rfl, hbc, hk, x0, x1, x2⟩ := hcut
          rename World => wk
          have HE := Lib.hid hbc
          clear hb hc1 hbc
          go_wp2_with fail
          go_loopw [32] (fun i wr => ∃ k : Nat, k ≤ code.length ∧ i = .int .i64 k ∧ Ext wk wr ∧ opsErr p ⟨A, L, code⟩ (code.drop k) = opsErr p ⟨A, L, code⟩ code) (fun i _ => code.length - (intOf i).toNat)
          case atStart => exact ⟨0, Nat.zero_le _, rfl, Ext.refl _, rfl⟩
          case round =>
            obtain ⟨k, hkl, rfl, hbr, hrest⟩ := hrel
            have HR := Lib.hid hrest
            have HB := Lib.hid hbr
            have hcr := Ext.keep hbr
            have hcw := Ext.keep HE.out
            clear hrest hbr
            by_cases hlt : k < code.length
            · obtain ⟨cb, co, rfl, ⟨_, o0, _⟩, _, o1, _⟩ := hops k hlt
              have HD := Lib.hid (fun h => opsErr_drop p ⟨A, L, code⟩ code k hlt h)
              have HH := Lib.hid (fun h => opsErr_hit p ⟨A, L, code⟩ code k hlt h)
              generalize hx : code[k] = x at *
              clear hx hops
              by_cases hk1 : 0 ≤ x.kind ∧ x.kind ≤ 16
              · have KT := known_true hk1.1 hk1.2
                obtain ⟨hk1, hk2⟩ := hk1
                go_upto_region 14 with (first
                  | (go_at_call 60; refine (known_any _ _).mono ?_; rintro e w1 ⟨rfl, rfl⟩))
                have hsz : 0 ≤ L ∧ L ≤ 4 := by unfold sizedB at hs; simp at hs; omega
                have hk3 : x.kind < 17 := by omega
                have gk := Ext.cell HB.out ((hk _).trans (kindRow_at x.kind.toNat (by omega)))
                have y0 := Ext.cell HB.out x0
                have kc := kind_call x.kind.toNat (by omega)
                have y1 := Ext.cell HB.out x1
                have y2 := Ext.cell HB.out x2
                go_cut [41] (fun v wq => v = .bool (decide (¬ (0 ≤ x.a ∧ x.a ≤ mostOf p ⟨A, L, code⟩ x.kind))) ∧ Ext (wr.alloc (.cells #[.int .i64 x.kind, .int .i64 x.a] 61)) wq)
                case first =>
                  by_cases hneg : x.a < 0
                  ·
                    refine wp_region_ext (by kernel_rfl) (by kernel_rfl) ?_
                    repeat (first
                      | go_big_quiet_skip
                      | (go_big_quiet_want
                         unfold Oper.quiet
                         apply Exists.intro
                         refine ⟨fun w' hw' => ?_, ?_⟩
                         focus
                           have hcq := Ext.keep hw'
                           go_simp
                           first
                             | with_reducible rfl
                             
                         (try dsimp only [Act.put])
                         (try simp only [List.setIfInBounds_toArray, List.set_cons_succ, List.set_cons_zero])
                         go_big_quiet_on))
                    refine wpQuiet_nil ?_
                    intro wq hq
                    go_wp2_with fail
                    go_meet
                    refine ⟨?_, hq⟩
                    simp; omega
                  ·
                    refine wp_region_ext (by kernel_rfl) (by kernel_rfl) ?_
                    repeat (first
                      | go_big_quiet_skip
                      | (go_big_quiet_want
                         unfold Oper.quiet
                         apply Exists.intro
                         refine ⟨fun w' hw' => ?_, ?_⟩
                         focus
                           have hcq := Ext.keep hw'
                           go_simp
                           first
                             | with_reducible rfl
                             | ((refine (most_any x.kind hk1 hk2 ⟨A, L, code⟩ p (some ⟨b, o, none⟩) cap (by omega) A (some ⟨cb, co, none⟩) ccap hsz.1 hsz.2 hm' _).mono ?_; rintro e w1 ⟨rfl, hb⟩; exact ⟨rfl, hw'.trans hb⟩))
                         (try dsimp only [Act.put])
                         (try simp only [List.setIfInBounds_toArray, List.set_cons_succ, List.set_cons_zero])
                         go_big_quiet_on))
                    refine wpQuiet_nil ?_
                    intro wq hq
                    go_wp2_with fail
                    go_meet
                    refine ⟨?_, hq⟩
                    simp; omega
                case rest =>
                  obtain ⟨hv, hq⟩ := hcut
                  have hW : Ext w wc := ((HE.out.trans HB.out).alloc _).trans hq
                  have hWc : Ext wk wc := (HB.out.alloc _).trans hq
                  have b0 := Ext.cell hq (cell_alloc0 wr x.kind x.a 61)
                  have b1 := Ext.cell hq (cell_alloc1 wr x.kind x.a 61)
                  have hkn : ¬ ¬ (0 ≤ x.kind ∧ x.kind ≤ 16) := by omega
                  clear hcr hcw gk kc y0 y1 y2 x0 x1 x2 hk
                  have HQ := Lib.hid hq
                  have HW := Lib.hid hW
                  have HWc := Lib.hid hWc
                  clear hq hW hWc
                  by_cases hin : 0 ≤ x.a ∧ x.a ≤ mostOf p ⟨A, L, code⟩ x.kind
                  · rw [show decide (¬ (0 ≤ x.a ∧ x.a ≤ mostOf p ⟨A, L, code⟩ x.kind)) = false by simpa using hin] at hv
                    subst hv
                    have HIN := Lib.hid hin
                    by_cases hcm : x.kind = 11 ∨ x.kind = 13
                    · have hm2 : mostOf p ⟨A, L, code⟩ x.kind = (p.length : Int) - 1 := by unfold mostOf; rcases hcm with h | h <;> simp [h]
                      rw [hm2] at hin
                      obtain ⟨ha0, ha1⟩ := hin
                      have ha2 : x.a < p.length := by omega
                      obtain ⟨b', o', cap', hbo, _, _, g0, g1, vc', g2, hcode'⟩ := hp0.get (i := x.a.toNat) (by omega)
                      obtain ⟨ca', ccap', rfl, _⟩ := hcode'
                      simp only [Value.slice.injEq, Option.some.injEq, Addr.mk.injEq] at hbo
                      obtain ⟨⟨rfl, rfl, -⟩, -, -⟩ := hbo
                      have z0 := Ext.cell HW.out g0.2.1
                      have z1 := Ext.cell HW.out g1.2.1
                      have z2 := Ext.cell HW.out g2
                      clear g0 g1 g2
                      have HG : Hid (p.getD x.a.toNat default = p[x.a.toNat]) := by unfold Hid; simp [List.getD, List.getElem?_eq_getElem (show x.a.toNat < p.length by omega)]
                      generalize hF2 : p[x.a.toNat] = F2 at *
                      clear hF2 hm2
                      cases hs2 : sizedB F2
                      · have HE1 : Hid (opErr p ⟨A, L, code⟩ x = 3) := by unfold Hid opErr; rw [if_neg hkn, if_neg (fun h => h HIN.out), if_pos ⟨hcm, by rw [HG.out]; exact hs2⟩]
                        rcases hcm with h11 | h13
                        · have T11 : (x.kind == 11) = true := by simp [h11]
                          clear h11
                          go_wp2_with (first
                              | (go_at_call 58; refine (sized_any F2.args F2.locals _ F2.code _).mono ?_; rintro e w1 ⟨rfl, hb⟩; have hcs := Ext.keep hb))
                          go_ret
                          exact ⟨ret_int (by rw [← HR.out, HH.out (by rw [HE1.out]; decide), HE1.out]), HW.out.trans hb⟩
                        · have T11 : (x.kind == 11) = false := by simp [h13]
                          have T13 : (x.kind == 13) = true := by simp [h13]
                          clear h13
                          go_wp2_with (first
                              | (go_at_call 58; refine (sized_any F2.args F2.locals _ F2.code _).mono ?_; rintro e w1 ⟨rfl, hb⟩; have hcs := Ext.keep hb))
                          go_ret
                          exact ⟨ret_int (by rw [← HR.out, HH.out (by rw [HE1.out]; decide), HE1.out]), HW.out.trans hb⟩
                      · rcases hcm with h11 | h13
                        · have T11 : (x.kind == 11) = true := by simp [h11]
                          have T13 : (x.kind == 13) = false := by simp [h11]
                          have HE1 : Hid (opErr p ⟨A, L, code⟩ x = 0) := by unfold Hid opErr; rw [if_neg hkn, if_neg (fun h => h HIN.out), if_neg (by rw [HG.out, hs2]; simp), if_neg (by simp [h11])]
                          clear h11
                          go_wp2_with (first
                              | (go_at_call 58; refine (sized_any F2.args F2.locals _ F2.code _).mono ?_; rintro e w1 ⟨rfl, hb⟩; have hcs := Ext.keep hb))
                          go_roundw
                          case rel => exact ⟨k + 1, by omega, by go_num, HWc.out.trans hb, by rw [← HR.out]; exact (HD.out HE1.out).symm⟩
                          case measure => simp [intOf]; omega
                        · have T11 : (x.kind == 11) = false := by simp [h13]
                          have T13 : (x.kind == 13) = true := by simp [h13]
                          by_cases ha : F2.args = 1
                          · have HE1 : Hid (opErr p ⟨A, L, code⟩ x = 0) := by unfold Hid opErr; rw [if_neg hkn, if_neg (fun h => h HIN.out), if_neg (by rw [HG.out, hs2]; simp), if_neg (by rw [HG.out]; simp [ha])]
                            have TA : (F2.args != 1) = false := by simp [ha]
                            clear h13 ha
                            go_wp2_with (first
                              | (go_at_call 58; refine (sized_any F2.args F2.locals _ F2.code _).mono ?_; rintro e w1 ⟨rfl, hb⟩; have hcs := Ext.keep hb))
                            go_roundw
                            case rel => exact ⟨k + 1, by omega, by go_num, HWc.out.trans hb, by rw [← HR.out]; exact (HD.out HE1.out).symm⟩
                            case measure => simp [intOf]; omega
                          · have HE1 : Hid (opErr p ⟨A, L, code⟩ x = 1) := by unfold Hid opErr; rw [if_neg hkn, if_neg (fun h => h HIN.out), if_neg (by rw [HG.out, hs2]; simp), if_pos (by rw [HG.out]; exact ⟨h13, ha⟩)]
                            have TA : (F2.args != 1) = true := by simp [ha]
                            clear h13 ha
                            go_wp2_with (first
                              | (go_at_call 58; refine (sized_any F2.args F2.locals _ F2.code _).mono ?_; rintro e w1 ⟨rfl, hb⟩; have hcs := Ext.keep hb))
                            go_ret
                            exact ⟨ret_int (by rw [← HR.out, HH.out (by rw [HE1.out]; decide), HE1.out]), HW.out.trans hb⟩
                    · have HE1 : Hid (opErr p ⟨A, L, code⟩ x = 0) := by
                        unfold Hid opErr
                        rw [if_neg hkn, if_neg (fun h => h HIN.out), if_neg (fun h => hcm h.1), if_neg (fun h => hcm (.inr h.1))]
                      have T11 : (x.kind == 11) = false := by simp; omega
                      have T13 : (x.kind == 13) = false := by simp; omega
                      clear hcm hin
                      go_wp2
                      go_roundw
                      case rel => exact ⟨k + 1, by omega, by go_num, HWc.out, by rw [← HR.out]; exact (HD.out HE1.out).symm⟩
                      case measure => simp [intOf]; omega
                  · have hin' : decide (¬ (0 ≤ x.a ∧ x.a ≤ mostOf p ⟨A, L, code⟩ x.kind)) = true := decide_eq_true hin
                    rw [hin'] at hv
                    subst hv
                    have e1 : opErr p ⟨A, L, code⟩ x = 3 := by unfold opErr; rw [if_neg hkn, if_pos hin]
                    clear hin'
                    have HE1 := Lib.hid e1
                    clear e1
                    go_wp2
                    go_ret
                    refine ⟨ret_int ?_, ?_⟩
                    · rw [← HR.out, HH.out (by rw [HE1.out]; decide), HE1.out]
                    · exact HW.out
              · have KT := known_false hk1
                go_wp2_with (first
                  | (go_at_call 60; refine (known_any _ _).mono ?_; rintro e w1 ⟨rfl, rfl⟩))
                go_ret
                refine ⟨ret_int ?_, ?_⟩
                · have e1 : opErr p ⟨A, L, code⟩ x = 4 := by unfold opErr; rw [if_pos hk1]
                  rw [← HR.out, HH.out (by rw [e1]; decide), e1]
                · have := HE.out; have := HB.out
                  ((repeat (first | assumption | exact Ext.refl _ | (exact And.left (by assumption)) | refine Ext.alloc ?_ _ | refine Ext.drew ?_ | refine Ext.drewN ?_ _ | refine Ext.setCell ?_ (by simp) _ | refine Ext.setCell ?_ (by simp; omega) _ | refine Ext.trans ?_ (by assumption))); done)
            · have hk' : k = code.length := by omega
              subst hk'
              go_wp2
              go_ret
              refine ⟨ret_int ?_, ?_⟩
              · rw [← HR.out]; simp [opsErr]
              · have := HE.out; have := HB.out
                ((repeat (first | assumption | exact Ext.refl _ | (exact And.left (by assumption)) | refine Ext.alloc ?_ _ | refine Ext.drew ?_ | refine Ext.drewN ?_ _ | refine Ext.setCell ?_ (by simp) _ | refine Ext.setCell ?_ (by simp; omega) _ | refine Ext.trans ?_ (by assumption))); done)
  · have HF : funcErr p f = 5 := by unfold funcErr; rw [if_pos hf]
    rw [HF]
    obtain ⟨a, cap, rfl, hcap, hby, _⟩ := hp
    by_cases h0 : f < 0
    · go_enter Try.func42, Try.ntmps42
      go_wp2
      go_ret
      exact ⟨rfl, by ((repeat (first | assumption | exact Ext.refl _ | (exact And.left (by assumption)) | refine Ext.alloc ?_ _ | refine Ext.drew ?_ | refine Ext.drewN ?_ _ | refine Ext.setCell ?_ (by simp) _ | refine Ext.setCell ?_ (by simp; omega) _ | refine Ext.trans ?_ (by assumption))); done)⟩
    · have h1 : (p.length : Int) ≤ f := by omega
      go_enter Try.func42, Try.ntmps42
      go_wp2
      go_ret
      exact ⟨rfl, by ((repeat (first | assumption | exact Ext.refl _ | (exact And.left (by assumption)) | refine Ext.alloc ?_ _ | refine Ext.drew ?_ | refine Ext.drewN ?_ _ | refine Ext.setCell ?_ (by simp) _ | refine Ext.setCell ?_ (by simp; omega) _ | refine Ext.trans ?_ (by assumption))); done)⟩
end Go.Proofs.Ytfajkebkhdcapaa
end
