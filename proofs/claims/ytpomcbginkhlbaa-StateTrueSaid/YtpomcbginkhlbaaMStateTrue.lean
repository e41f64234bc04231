/- StateTrue: of a right state all that a frame names is there, and the frame that runs has what its op takes. No condition. -/
import Derived.Test.YtpomcbginkhlbaaGTAB
import Derived.Test.YtpomcbginkhlbaaGTAD
import Derived.Test.YtpomcbginkhlbaaGTAV
import Derived.Test.YtpomcbginkhlbaaGTAX
set_option maxHeartbeats 4000000
set_option maxRecDepth 100000
namespace Go.Proofs.Ytpomcbginkhlbaa.stateTrue
open Go Go.RowKit Go.ChangeShapes Go.WideShapes Go.ChangeAt

theorem hs_fibers {w : World} {S : Nat → Prop} {a b : Option Addr} {n c m d : Nat} {k : Int} {s : GState} (h : StateV w S (.agg #[.slice a n c, .int .i64 k, .slice b m d]) s) : Fibers w S (.slice a n c) s.fibers := by
  obtain ⟨x, y, e, h1, _, _⟩ := h
  simp only [Value.agg.injEq, Array.mk.injEq, List.cons.injEq, and_true] at e
  rw [e.1]
  exact h1
theorem hf_frames {w : World} {S : Nat → Prop} {a : Option Addr} {n c : Nat} {k : Int} {f : GFiber} (h : FiberV w S (.agg #[.slice a n c, .int .i64 k]) f) : Frames w S (.slice a n c) f.frames := by
  obtain ⟨x, e, h1, _⟩ := h
  simp only [Value.agg.injEq, Array.mk.injEq, List.cons.injEq, and_true] at e
  rw [e.1]
  exact h1

theorem walk (w : World) (p : List GFunc) (v : Value) (hp : Funcs w (fun _ => True) v p) (s : GState) (vs : Value) (hs : StateV w (fun _ => True) vs s) (n : Int) (hn : I64 n) :
    Calls Try.prog 6 #[v, vs, .int .i64 n] w fun e w' => e = .returned (.bool true) ∧ Ext w w' := by
  have HP := Lib.hid hp
  have HS := Lib.hid hs
  obtain ⟨a0, cap, rfl, _, _, _⟩ := hp
  obtain ⟨sa, sc, sb, sd, rfl⟩ := hs.few
  have RA := alloc_keep
  have b0 := (Cx.new w [.slice sa s.fibers.length sc, .int .i64 s.now, .slice sb s.out.length sd] 43 (j := 0) rfl).1
  have b1 := (Cx.new w [.slice sa s.fibers.length sc, .int .i64 s.now, .slice sb s.out.length sd] 43 (j := 1) rfl).1
  have b2 := (Cx.new w [.slice sa s.fibers.length sc, .int .i64 s.now, .slice sb s.out.length sd] 43 (j := 2) rfl).1
  have E0 : Hid (Ext w (w.alloc (.cells #[.slice sa s.fibers.length sc, .int .i64 s.now, .slice sb s.out.length sd] 43))) := (Ext.refl w).alloc _
  by_cases hz : stateErr p s = 0
  · obtain ⟨l, hR⟩ := stateErr_zero hz
    have HR := Lib.hid hR
    have HZ := Lib.hid hz
    have hfew := hR.few
    have hpos := hR.pos
    have TZ : ((s.fibers.length : Int) == 0) = false := beq_eq_false_iff_ne.2 (by omega)
    have hch := chooseOf_lt n s.fibers.length (by omega)
    obtain ⟨k, hkk⟩ : ∃ k : Nat, chooseOf n s.fibers.length = k := ⟨_, (Int.toNat_of_nonneg hch.1).symm⟩
    have hk : k < s.fibers.length := by omega
    have HKK := Lib.hid hkk
    clear hz hR hch hkk
    go_enter Try.func6, Try.ntmps6
    go_upto_region 4 with (first
      | (go_at_call 25; (with_reducible refine (stateCheck_any p _ _ _ s _ _ (Funcs.stays (Ext.stays E0.out) HP.out) (StateV.stays (Ext.stays E0.out) HS.out)).mono ?_); rintro e w1 ⟨rfl, hb1⟩; rw [HZ.out]; have c0 := Ext.cell hb1 b0; have c1 := Ext.cell hb1 b1; have c2 := Ext.cell hb1 b2; have E1 := Lib.hid (E0.out.trans hb1); clear hb1)
      | (go_at_call 17; (with_reducible refine (choose_any n _ _ hn (by omega) (by omega)).mono ?_); rintro e w2 ⟨rfl, rfl⟩; rw [HKK.out]))
    rename World => w1
    have HFB := Lib.hid (hs_fibers (StateV.stays (Ext.stays E1.out) HS.out))
    obtain ⟨bf, of, af, cf, rfl, z0, _, hfv⟩ := (HFB.out).at' hk
    have HFR := Lib.hid (hf_frames hfv)
    have HFF := Lib.hid (fun j (hj : j < (s.fibers.getD k default).frames.length) => (HR.out).frameF hk hj)
    have HNF := Lib.hid (fun (h : s.now = k) => (HR.out).nowF h)
    have hf6 := (HR.out).frames k hk
    clear hfv
    generalize (s.fibers.getD k default).frames = fs at *
    obtain ⟨bb, hbb⟩ : ∃ bb, w.heap.size = bb := ⟨_, rfl⟩
    rw [hbb] at c0 c1 c2 ⊢
    clear hbb E0 b0 b1 b2
    go_wp2_with fail
    go_loopw [9] (fun q9 wr => ∃ i : Nat, i ≤ fs.length ∧ q9 = .int .i64 i ∧ Ext w1 wr) (fun q _ => fs.length - (intOf q).toNat)
    case atStart => exact ⟨0, Nat.zero_le _, rfl, Ext.refl _⟩
    case round =>
      obtain ⟨i, hi, rfl, hE⟩ := hrel
      have HEI := Lib.hid hE
      have b0 := Ext.cell hE c0
      have b1 := Ext.cell hE c1
      have b2 := Ext.cell hE c2
      have z0 := Ext.cell hE z0
      clear hE
      rename World => wi
      have KI : IntKind.i64.wrap ((i : Int) + 1) = (i : Int) + 1 := IntWalk.i64_in _ (by omega)
      by_cases hlt : i < fs.length
      · obtain ⟨bx, ox, al, cl, as_, cs, rfl, ⟨x0, x1, x2, x3⟩, _⟩ := (Frames.stays (Ext.stays HEI.out) HFR.out).at' hlt
        obtain ⟨hfn, hfl, hfa, hfs⟩ := HFF.out i hlt
        generalize fs.getD i default = x at *
        obtain ⟨m, hm⟩ : ∃ m : Nat, x.func = m := ⟨x.func.toNat, by omega⟩
        obtain ⟨t, ht⟩ : ∃ t : Nat, x.at_ = t := ⟨x.at_.toNat, by omega⟩
        rw [hm] at x0 hfn hfl hfa
        rw [ht] at x1 hfa
        have hmp : m < p.length := by omega
        have hF : funcOf p m = p[m] := by unfold funcOf; simp [List.getD, List.getElem?_eq_getElem hmp]
        rw [hF] at hfl hfa
        obtain ⟨b, o, cap', e, _, _, _, ⟨_, y1, _⟩, vc, y2, hcode⟩ := (Funcs.stays (Ext.stays (E1.out.trans HEI.out)) HP.out).get hmp
        obtain ⟨ca, ccap, rfl, _, _, _⟩ := hcode
        simp only [Value.slice.injEq] at e
        obtain ⟨rfl, -, rfl⟩ := e
        generalize hGF : p[m] = F at *
        have T1 : decide ((m : Int) < 0) = false := decide_eq_false (by omega)
        have T2 : decide ((p.length : Int) ≤ (m : Int)) = false := decide_eq_false (by omega)
        have T2' : decide (p.length ≤ m) = false := decide_eq_false (by omega)
        have T3 : decide ((t : Int) < 0) = false := decide_eq_false (by omega)
        have T4 : decide ((F.code.length : Int) ≤ (t : Int)) = false := decide_eq_false (by omega)
        have T4' : decide (F.code.length ≤ t) = false := decide_eq_false (by omega)
        have T5 : decide ((8 : Int) < (x.stack.length : Int)) = false := decide_eq_false (by omega)
        have T5' : decide (8 < x.stack.length) = false := decide_eq_false (by omega)
        have T6 : ((x.locals.length : Int) != F.locals) = false := by rw [bne_eq_false_iff_eq]; exact hfl
        clear hm ht hF hfl hfs hGF hfa hfn
        go_upto_region 8 with fail
        dsimp only [List.append]
        refine wp_region_ext (by kernel_rfl) (by kernel_rfl) ?_
        repeat (first
          | go_big_quiet_skip
          | (go_big_quiet_want
             unfold Oper.quiet
             apply Exists.intro
             refine ⟨fun w' hw' => ?_, ?_⟩
             focus
               have hcq := Ext.keep hw'
               go_simp
               first
                 | with_reducible rfl
                 
             (try dsimp only [Act.put])
             (try simp only [List.setIfInBounds_toArray, List.set_cons_succ, List.set_cons_zero])
             go_big_quiet_on))
        refine wpQuiet_nil ?_
        intro wq hq
        go_wp2_with fail
        go_roundw
        case rel => exact ⟨i + 1, by omega, by go_num, HEI.out.trans hq⟩
        case measure => simp [intOf]; omega
      · obtain rfl : i = fs.length := by omega
        clear hi hlt
        by_cases hnow : s.now = k
        · have TN : ((k : Int) != s.now) = false := by rw [bne_eq_false_iff_eq]; exact hnow.symm
          obtain ⟨_, hfp, hN⟩ := HNF.out hnow
          obtain ⟨hFx, hO⟩ := hN _ rfl
          have TL : ((fs.length : Int) == 0) = false := beq_eq_false_iff_ne.2 (by omega)
          obtain ⟨m, hm⟩ : ∃ m, fs.length = m + 1 := ⟨fs.length - 1, by omega⟩
          obtain ⟨bx, ox, al, cl, as_, cs, rfl, ⟨x0, x1, x2, x3⟩, _⟩ := (Frames.stays (Ext.stays HEI.out) HFR.out).at' (k := fs.length - 1) (by omega)
          have hm1 : fs.length - 1 = m := by omega
          rw [hm1] at x0 x1 x2 x3 hFx hO
          generalize fs.getD m default = x at *
          rw [hm]
          have KL : IntKind.i64.wrap (((m + 1 : Nat) : Int) - 1) = (m : Int) := by
            have e : (((m + 1 : Nat) : Int) - 1) = (m : Int) := by omega
            rw [e]; exact IntWalk.i64_in _ (by omega)
          have KL2 : IntKind.i64.wrap ((m : Int) + 1 - 1) = (m : Int) := by
            have e : ((m : Int) + 1 - 1) = (m : Int) := by omega
            rw [e]; exact IntWalk.i64_in _ (by omega)
          have KL3 : IntKind.i64.wrap (m : Int) = (m : Int) := IntWalk.i64_in _ (by omega)
          have TB3 : (0 : Int) ≤ (m : Int) := by omega
          have TB4 : (m : Int) < (m : Int) + 1 := by omega
          have TL2 : (((m : Int) + 1) == 0) = false := beq_eq_false_iff_ne.2 (by omega)
          obtain ⟨hfn, hfl, hfa, hfs⟩ := hFx
          obtain ⟨g, hg⟩ : ∃ g : Nat, x.func = g := ⟨x.func.toNat, by omega⟩
          obtain ⟨t, ht⟩ : ∃ t : Nat, x.at_ = t := ⟨x.at_.toNat, by omega⟩
          rw [hg] at x0 hfn hfl hfa hO
          rw [ht] at x1 hfa hO
          have hmp : g < p.length := by omega
          have hF : funcOf p g = p[g] := by unfold funcOf; simp [List.getD, List.getElem?_eq_getElem hmp]
          rw [hF] at hfl hfa hO
          rw [Int.toNat_natCast] at hO
          have htc : t < p[g].code.length := by omega
          obtain ⟨r1, r2⟩ := hO _ rfl
          rw [show p[g].code.getD t default = p[g].code[t] by simp [List.getD, List.getElem?_eq_getElem htc]] at r1 r2
          clear hm hm1 hfl hfs hfn hg ht hnow hN hfp
          go_upto_region 15 with fail
          obtain ⟨W4, hW4⟩ : ∃ W4, W4 = wi.alloc (.cells #[.int .i64 g, .int .i64 t, .slice al x.locals.length cl, .slice as_ x.stack.length cs] 54) := ⟨_, rfl⟩
          have t0 := (Cx.new wi [.int .i64 g, .int .i64 t, .slice al x.locals.length cl, .slice as_ x.stack.length cs] 54 (j := 0) rfl).1
          have t1 := (Cx.new wi [.int .i64 g, .int .i64 t, .slice al x.locals.length cl, .slice as_ x.stack.length cs] 54 (j := 1) rfl).1
          have t3 := (Cx.new wi [.int .i64 g, .int .i64 t, .slice al x.locals.length cl, .slice as_ x.stack.length cs] 54 (j := 3) rfl).1
          have E4 : Hid (Ext w W4) := by rw [hW4]; exact (E1.out.trans HEI.out).trans ((Ext.refl _).alloc _)
          rw [← hW4] at t0 t1 t3 ⊢
          obtain ⟨tb, htb⟩ : ∃ tb, wi.heap.size = tb := ⟨_, rfl⟩
          rw [htb] at t0 t1 t3 ⊢
          clear hW4 htb x0 x1 x2 x3 b0 b1 b2 z0
          rename World => W4
          obtain ⟨b, o, cap', e, _, _, _, _, vc, y2, hcode⟩ := (Funcs.stays (Ext.stays E4.out) HP.out).get hmp
          obtain ⟨ca, ccap, rfl, _, _, hops⟩ := hcode
          simp only [Value.slice.injEq] at e
          obtain ⟨rfl, -, rfl⟩ := e
          obtain ⟨cb, co, rfl, ⟨_, o0, _⟩, _, o1, _⟩ := hops t htc
          have hcl := htc
          have TC2 : (t : Int) < (p[g].code.length : Int) := by omega
          clear hops hfa
          generalize p[g].code[t] = xo at *
          generalize p[g].code.length = ncode at *
          obtain ⟨tk, htk⟩ : ∃ tk, effTakes p xo = tk := ⟨_, rfl⟩
          rw [htk] at r2
          have HR1 := Lib.hid r1
          have HTK := Lib.hid htk
          have TS : decide (tk ≤ (x.stack.length : Int)) = true := decide_eq_true r2
          clear r1 htk r2
          refine wp_region_ext (by kernel_rfl) (by kernel_rfl) ?_
          repeat (first
            | go_big_quiet_skip
            | (go_big_quiet_want
               unfold Oper.quiet
               apply Exists.intro
               refine ⟨fun w' hw' => ?_, ?_⟩
               focus
                 have hcq := Ext.keep hw'
                 go_simp
                 first
                   | with_reducible rfl
                   | ((go_at_call 27; refine (effect_any p _ (fun _ => True) xo _ (Funcs.stays (Ext.stays (E4.out.trans hw')) HP.out)).mono ?_; rintro e w9 ⟨rfl, hb9⟩; rw [HR1.out, HTK.out]; exact ⟨rfl, hw'.trans hb9⟩))
               (try dsimp only [Act.put])
               (try simp only [List.setIfInBounds_toArray, List.set_cons_succ, List.set_cons_zero])
               go_big_quiet_on))
          refine wpQuiet_nil ?_
          intro wq hq
          have t3' := Ext.cell hq t3
          have E5 := Lib.hid (E4.out.trans hq)
          clear t0 t1 t3 y2 o0 o1 hq
          rename World => W5
          go_wp2_with (first
            | (go_at_call 23; (with_reducible refine (stateBegun_any _).mono ?_); rintro e w8 ⟨rfl, hb8⟩; have t3'' := Ext.cell hb8 t3'))
          go_ret
          exact ⟨rfl, E5.out.trans hb8⟩
        · have TN : ((k : Int) != s.now) = true := bne_iff_ne.2 (fun h => hnow h.symm)
          clear hnow
          go_wp2_with (first
            | (go_at_call 23; (with_reducible refine (stateBegun_any _).mono ?_); rintro e w8 ⟨rfl, hb8⟩))
          go_ret
          exact ⟨rfl, E1.out.trans (HEI.out.trans hb8)⟩
  · have TB : (stateErr p s != 0) = true := bne_iff_ne.2 hz
    obtain ⟨se, hse⟩ : ∃ se, stateErr p s = se := ⟨_, rfl⟩
    rw [hse] at TB
    have HZ := Lib.hid hse
    clear hz hse
    go_enter Try.func6, Try.ntmps6
    go_wp2_with (first
      | (go_at_call 25; (with_reducible refine (stateCheck_any p _ _ _ s _ _ (Funcs.stays (Ext.stays E0.out) HP.out) (StateV.stays (Ext.stays E0.out) HS.out)).mono ?_); rintro e w1 ⟨rfl, hb1⟩; rw [HZ.out]; have E1 := Lib.hid (E0.out.trans hb1); clear hb1)
      | (go_at_call 23; (with_reducible refine (stateBegun_any _).mono ?_); rintro e w8 ⟨rfl, hb8⟩))
    go_ret
    exact ⟨rfl, E1.out.trans hb8⟩

theorem contract (H : Type) (enc : TypeId × Value → H) (W : World) (base : Nat) (args : Array Value) (ds gs : List (DataW H)) (before : List MemPlace)
    (hval : ∀ (j : Nat) t v, Try.f6.params[j]? = some t → args[j]? = some v → Value.okWide Try.prog W .any base t v)
    (hW : DataW.Whole enc Try.prog Try.f6.params.toList Rows.stateTrueSpec.vars false W args.toList ds gs before)
    (hsz : (DataW.weightsEach Try.prog (Try.f6.params.toList ++ Rows.stateTrueSpec.plain.varTypes Try.prog) (ds ++ gs)).all (· ≤ reachBytes) = true) :
    Calls Try.prog 6 args W fun e W' => ∃ v, e = .returned v ∧ Rows.stateTrueSpec.post enc Try.prog Try.f6 false true false false W args v W' := by
  have hW' := hW
  obtain ⟨p, q, hA, hV, rfl, hfz, hnd⟩ := hW
  rw [Try.params6] at hA hval
  obtain ⟨v0, vs0, d0, ds0, q0, t0, hargs, rfl, rfl, h0, r0⟩ := trodAll_cons hA
  obtain ⟨v1, vs1, d1, ds1, q1, t1, rfl, rfl, rfl, h1, r1⟩ := trodAll_cons r0
  obtain ⟨v2, vs2, d2, ds2, q2, t2, rfl, rfl, rfl, h2, r2⟩ := trodAll_cons r1
  obtain ⟨rfl, rfl, rfl⟩ := trodAll_nil r2
  obtain rfl : args = #[v0, v1, v2] := by cases args; simp_all
  obtain ⟨rfl, rfl⟩ := trodVars_none hV
  obtain ⟨a0, l0, c0, rfl⟩ := okWide_slice Try.underlying22 (hval 0 22 v0 rfl rfl)
  obtain ⟨fuel0, h0⟩ := h0
  obtain ⟨x0, h0⟩ := funcs_of_trod h0 (fun n hn => by
    have := List.all_eq_true.1 hsz n (DataW.weights_mem_each (j := 0) rfl rfl n hn)
    simpa using this)
  obtain ⟨x1, h1⟩ := state_of_trod (hval 1 43 v1 rfl rfl) h1 (fun n hn => by
    have := List.all_eq_true.1 hsz n (DataW.weights_mem_each (j := 1) rfl rfl n hn)
    simpa using this)
  obtain ⟨x2, rfl, rfl, rfl, wf2⟩ := open_int Try.underlying3 (hval 2 3 v2 rfl rfl) h2
  refine (walk W x0 _ h0 x1 _ h1 x2 (i64_of_wf wf2)).mono fun e W' ⟨he, hE⟩ => ⟨_, he, law_post laidOut ?_ rfl Try.underlying4 rfl hW' ?_ hE⟩
  · rw [Try.params6]
    intro t ht
    simp at ht
    (try rcases ht with rfl | rfl | rfl) <;> exact ⟨by kernel_rfl, of_decide_eq_true (by kernel_rfl)⟩
  · intro ds hds
    match ds, hds with
    | [d0, d1, d2], _ => exact ⟨rfl, rfl, rfl⟩

theorem lifted (os : Os) (started : os.Started) (H : Type) (enc : TypeId × Value → H) :
    ReturnsInHanded {} Try.checked os 6 .any (Rows.stateTrueSpec.pre6 enc Try.prog Try.f6 Rows.stateTrueRow.domain false) (Rows.stateTrueSpec.post enc Try.prog Try.f6 false true false false) := by
  refine returnsInHanded_of_change_sized (C := Try.checked) own started (by kernel_rfl) Try.func6
    (ChangeSpec.witness6 (enc := enc) (C := Try.checked) false ⟨#[], #[.slice none 0 0, .agg #[.slice none 0 0, .int .i64 0, .slice none 0 0], .int .i64 0], []⟩ 8 (by kernel_rfl) (by kernel_rfl) (by kernel_rfl) (by kernel_rfl)) ?_
  intro W base args ds gs before hval hW _ hsz _
  exact contract H enc W base args ds gs before hval hW hsz

theorem proved : Rows.StateTrueSaid :=
  OpenClaim.holds_of_wide 6 Try.f6 rfl rfl rfl rfl rfl rfl rfl ⟨rfl, rfl, rfl, rfl, rfl⟩ rfl rfl rfl rfl rfl (by as_aux_lemma => kernel_rfl) Try.func6 (by as_aux_lemma => kernel_rfl)
    (of_decide_eq_true (by as_aux_lemma => kernel_rfl)) (by unfold Func.isWrapper; rw [if_neg (of_decide_eq_false (by as_aux_lemma => kernel_rfl))]; exact ⟨rfl, rfl⟩)
    (fun os started H enc _ => lifted os started H enc)
end Go.Proofs.Ytpomcbginkhlbaa.stateTrue

