/- ProgTrue: who is called calls no more than who calls him; each calls itself; whoever an op names is called. No condition. -/
import Derived.Test.YtpiechbjponicaaLaw
import Derived.Test.YtpiechbjponicaaProgB
import Derived.Test.YtpiechbjponicaaChoose
set_option maxHeartbeats 4000000
set_option maxRecDepth 100000
namespace Go.Proofs.Ytpiechbjponicaa.progTrue
open Go Go.RowKit Go.ChangeShapes Go.WideShapes Go.ChangeAt

theorem calls_right (p : List GFunc) (v : Value) (S : Nat → Prop) (n : Nat) (w : World) (hp : Funcs w S v p) (h : progErr p = 0) (hn : n < p.length) :
    Calls Try.prog 29 #[v, .int .i64 n] w fun e w' => (∃ a cap o, e = .returned (.tuple #[.slice a p.length cap, .int .i64 0]) ∧ Bools w' (fun _ => True) (.slice a p.length cap) o ∧ IsCalls p n o) ∧ Ext w w' := by
  refine (progCalls_any p v S n w hp).mono fun e w' ⟨⟨a, cap, o, he, hb, hc⟩, hE⟩ => ⟨⟨a, cap, o, ?_⟩, hE⟩
  have hx := cErr_in (f := (n : Int)) h (by omega)
  unfold CallsIs at hc
  rw [hx, if_pos rfl, Int.toNat_natCast] at hc
  rw [hc.len] at he hb
  exact ⟨by rw [he, hx], hb, hc⟩

theorem walk (w : World) (p : List GFunc) (v : Value) (hp : Funcs w (fun _ => True) v p) (a_ : Int) (ha : I64 a_) (b_ : Int) (hb : I64 b_) :
    Calls Try.prog 12 #[v, .int .i64 a_, .int .i64 b_] w fun e w' => e = .returned (.bool true) ∧ Ext w w' := by
  have HP := Lib.hid hp
  have RA := alloc_keep
  obtain ⟨a0, cap, rfl, hcap, hby, _⟩ := hp
  obtain ⟨c, hc⟩ : ∃ c, progErr p = c := ⟨_, rfl⟩
  have HC := Lib.hid hc
  by_cases hz : c = 0
  · subst hz
    have hRP := progErr_zero hc
    have h5 := hRP.most
    have hpos := hRP.pos
    have TZ : ((p.length : Int) == 0) = false := beq_eq_false_iff_ne.2 (by omega)
    have hch := chooseOf_lt a_ p.length (by omega)
    have hch2 := chooseOf_lt b_ p.length (by omega)
    obtain ⟨i, hii⟩ : ∃ i : Nat, chooseOf a_ p.length = i := ⟨_, (Int.toNat_of_nonneg hch.1).symm⟩
    obtain ⟨k, hkk⟩ : ∃ k : Nat, chooseOf b_ p.length = k := ⟨_, (Int.toNat_of_nonneg hch2.1).symm⟩
    have hi : i < p.length := by omega
    have hk : k < p.length := by omega
    have HII := Lib.hid hii
    have HKK := Lib.hid hkk
    clear hch hch2 hii hkk hc
    go_enter Try.func12, Try.ntmps12
    go_upto_region 6 with (first
      | (go_at_call 33; (with_reducible refine (progCheck_any p _ (fun _ => True) _ HP.out).mono ?_); rintro e w1 ⟨rfl, hb1⟩; rw [HC.out])
      | (go_at_call 18; (with_reducible refine (choose_any a_ _ _ ha (by omega) (by omega)).mono ?_); rintro e w2 ⟨rfl, rfl⟩; rw [HII.out])
      | (go_at_call 18; (with_reducible refine (choose_any b_ _ _ hb (by omega) (by omega)).mono ?_); rintro e w2 ⟨rfl, rfl⟩; rw [HKK.out])
      | (go_at_call 29; (with_reducible refine (calls_right p _ (fun _ => True) i _ (Funcs.stays hb1.stays HP.out) HC.out hi).mono ?_); rintro e w3 ⟨⟨a3, c3, o3, rfl, hl3, hi3⟩, hb3⟩)
      | (go_at_call 29; (with_reducible refine (calls_right p _ (fun _ => True) k _ (Funcs.stays (hb1.trans hb3).stays HP.out) HC.out hk).mono ?_); rintro e w4 ⟨⟨a4, c4, o4, rfl, hl4, hi4⟩, hb4⟩))
    have HI3 := Lib.hid hi3
    have HI4 := Lib.hid hi4
    have hl33 := Bools.stays hb4.stays hl3
    have HB := Lib.hid ((hb1.trans hb3).trans hb4)
    have HL3 := Lib.hid hl33
    have HL4 := Lib.hid hl4
    have g3 : ∀ m, m < p.length → ∃ g o, a3 = some ⟨g, o, none⟩ ∧ w4.cell? ⟨g, o + m, none⟩ = some (.bool (o3.getD m false)) := fun m hm => by
      obtain ⟨g, o, _, e, _, _, _, hc⟩ := hl33.get (i := m) (by rw [hi3.len]; exact hm)
      simp only [Value.slice.injEq] at e
      refine ⟨g, o, e.1, ?_⟩
      rw [Nat.mul_one] at hc
      rw [hc]
      simp [List.getD, List.getElem?_eq_getElem (show m < o3.length by rw [hi3.len]; exact hm)]
    have g4 : ∀ m, m < p.length → ∃ g o, a4 = some ⟨g, o, none⟩ ∧ w4.cell? ⟨g, o + m, none⟩ = some (.bool (o4.getD m false)) := fun m hm => by
      obtain ⟨g, o, _, e, _, _, _, hc⟩ := hl4.get (i := m) (by rw [hi4.len]; exact hm)
      simp only [Value.slice.injEq] at e
      refine ⟨g, o, e.1, ?_⟩
      rw [Nat.mul_one] at hc
      rw [hc]
      simp [List.getD, List.getElem?_eq_getElem (show m < o4.length by rw [hi4.len]; exact hm)]
    obtain ⟨gx, ox, rfl, x0⟩ := g3 i hi
    rw [hi3.self] at x0
    have hg : p.getD i default = p[i] := by simp [List.getD, List.getElem?_eq_getElem hi]
    obtain ⟨bp, op, cap2, e0, _, _, _, _, vc, hC, hcode⟩ := HP.out.get hi
    simp only [Value.slice.injEq] at e0
    obtain ⟨rfl, -, rfl⟩ := e0
    obtain ⟨ca, ccap, rfl, hcc, hcby, hops⟩ := hcode
    have HO := Lib.hid hops
    have HCC := Lib.hid hC
    have hl24 : p[i].code.length ≤ 24 := (hts_at (hRP.func i hi) hi).2.len
    clear hC hops
    have G3 := Lib.hid g3
    have G4 := Lib.hid g4
    clear g3 g4 hl3 hl33 hl4 hi3 hi4 hb1 hb3 hb4
    rename World => w4
    go_wp2_with fail
    go_loopw [13] (fun q wr => ∃ m : Nat, m ≤ p.length ∧ q = .int .i64 m ∧ Ext w4 wr) (fun q _ => p.length - (intOf q).toNat)
    case atStart => exact ⟨0, Nat.zero_le _, rfl, Ext.refl _⟩
    case round =>
      obtain ⟨m, hm, rfl, hbr⟩ := hrel
      have HBR := Lib.hid hbr
      clear hbr
      obtain ⟨g1, o1, e1, x1⟩ := G3.out k hk
      simp only [Option.some.injEq, Addr.mk.injEq] at e1
      obtain ⟨rfl, rfl, -⟩ := e1
      have x1' := Ext.cell HBR.out x1
      clear x1
      have after : ∀ (wz : World), Ext w4 wz → True := fun _ _ => trivial
      clear after
      by_cases hlt : m < p.length
      · cases hbk : o3.getD k false with
        | false =>
          rw [hbk] at x1'
          clear hbk
          go_wp2_with fail
          go_loopw [14, 15] (fun q _ wr => ∃ m : Nat, m ≤ p[i].code.length ∧ q = .int .i64 m ∧ Ext w4 wr) (fun q _ _ => p[i].code.length - (intOf q).toNat)
          case atStart => exact ⟨0, Nat.zero_le _, rfl, HBR.out⟩
          case round =>
            obtain ⟨m2, hm2, rfl, hbr2⟩ := hrel
            have HBR2 := Lib.hid hbr2
            clear hbr2 HBR
            have yc := Ext.cell HBR2.out (Ext.cell HB.out HCC.out)
            by_cases hlt2 : m2 < p[i].code.length
            · obtain ⟨cb, co, rfl, ⟨_, z0, _⟩, _, z1, _⟩ := HO.out m2 hlt2
              have hcal := hRP.callee hi (i := m2) hlt2
              have HCL : Hid (∀ q : Nat, (p[i].code[m2].kind = 11 ∨ p[i].code[m2].kind = 13) → p[i].code[m2].a = q → o3.getD q false = true) := fun q hq1 hq2 => HI3.out.closed i HI3.out.self q (by
                unfold callees
                rw [hg]
                exact List.mem_map.2 ⟨_, List.mem_filter.2 ⟨List.getElem_mem hlt2, by simpa using hq1⟩, by rw [hq2]; rfl⟩)
              generalize p[i].code[m2] = x at *
              have y0 := Ext.cell HBR2.out (Ext.cell HB.out z0)
              have y1 := Ext.cell HBR2.out (Ext.cell HB.out z1)
              clear z0 z1
              by_cases hc : x.kind = 11 ∨ x.kind = 13
              · obtain ⟨ha0, ha1⟩ := hcal hc
                obtain ⟨n2, hn2⟩ : ∃ n2 : Nat, x.a = n2 := ⟨x.a.toNat, by omega⟩
                have hn2' : n2 < p.length := by omega
                have hx2 := HCL.out n2 hc hn2
                rw [hn2] at y1
                obtain ⟨g5, o5, e5, x5⟩ := G3.out n2 hn2'
                simp only [Option.some.injEq, Addr.mk.injEq] at e5
                obtain ⟨rfl, rfl, -⟩ := e5
                rw [hx2] at x5
                have x6 := Ext.cell HBR2.out x5
                have TNA : decide ((n2 : Int) < 0) = false := decide_eq_false (by omega)
                clear x5 hx2 hcal
                by_cases h11 : x.kind = 11
                · have T11 : (x.kind == 11) = true := by simp [h11]
                  clear hc h11
                  go_wp2_with fail
                  go_roundw
                  case rel => exact ⟨m2 + 1, by omega, by go_num, HBR2.out.alloc _⟩
                  case measure => simp [intOf]; omega
                · have T11 : (x.kind == 11) = false := by simp [h11]
                  have T13 : (x.kind == 13) = true := by simp; omega
                  clear hc h11
                  go_wp2_with fail
                  go_roundw
                  case rel => exact ⟨m2 + 1, by omega, by go_num, HBR2.out.alloc _⟩
                  case measure => simp [intOf]; omega
              · have T11 : (x.kind == 11) = false := by simp; omega
                have T13 : (x.kind == 13) = false := by simp; omega
                clear hc hcal HCL
                go_wp2_with fail
                go_roundw
                case rel => exact ⟨m2 + 1, by omega, by go_num, HBR2.out.alloc _⟩
                case measure => simp [intOf]; omega
            · obtain rfl : m2 = p[i].code.length := by omega
              clear hlt2
              go_wp2_with (first
                | (go_at_call 32; (with_reducible refine (progBegun_any _).mono ?_); rintro e w9 ⟨rfl, hb9⟩))
              go_ret
              exact ⟨rfl, (HB.out.trans HBR2.out).trans hb9⟩
        | true =>
          rw [hbk] at x1'
          have HBK := Lib.hid hbk
          clear hbk
          obtain ⟨g2, o2, e2, x2⟩ := G3.out m hlt
          simp only [Option.some.injEq, Addr.mk.injEq] at e2
          obtain ⟨rfl, rfl, -⟩ := e2
          obtain ⟨gy, oy, rfl, y2⟩ := G4.out m hlt
          have x2' := Ext.cell HBR.out x2
          have y2' := Ext.cell HBR.out y2
          clear x2 y2
          cases hym : o4.getD m false with
          | false =>
            rw [hym] at y2'
            clear hym
            go_wp2_with fail
            go_roundw
            case rel => exact ⟨m + 1, by omega, by go_num, HBR.out⟩
            case measure => simp [intOf]; omega
          | true =>
            rw [hym] at y2'
            have hxm : o3.getD m false = true := (HI3.out.iff m).2 ((HI3.out.only k HBK.out).trans (HI4.out.only m hym))
            rw [hxm] at x2'
            clear hym hxm
            go_wp2_with fail
            go_roundw
            case rel => exact ⟨m + 1, by omega, by go_num, HBR.out⟩
            case measure => simp [intOf]; omega
      · obtain rfl : m = p.length := by omega
        go_wp2_with fail
        go_loopw [14, 15] (fun q _ wr => ∃ m : Nat, m ≤ p[i].code.length ∧ q = .int .i64 m ∧ Ext w4 wr) (fun q _ _ => p[i].code.length - (intOf q).toNat)
        case atStart => exact ⟨0, Nat.zero_le _, rfl, HBR.out⟩
        case round =>
          obtain ⟨m2, hm2, rfl, hbr2⟩ := hrel
          have HBR2 := Lib.hid hbr2
          clear hbr2 HBR
          have yc := Ext.cell HBR2.out (Ext.cell HB.out HCC.out)
          by_cases hlt2 : m2 < p[i].code.length
          · obtain ⟨cb, co, rfl, ⟨_, z0, _⟩, _, z1, _⟩ := HO.out m2 hlt2
            have hcal := hRP.callee hi (i := m2) hlt2
            have HCL : Hid (∀ q : Nat, (p[i].code[m2].kind = 11 ∨ p[i].code[m2].kind = 13) → p[i].code[m2].a = q → o3.getD q false = true) := fun q hq1 hq2 => HI3.out.closed i HI3.out.self q (by
              unfold callees
              rw [hg]
              exact List.mem_map.2 ⟨_, List.mem_filter.2 ⟨List.getElem_mem hlt2, by simpa using hq1⟩, by rw [hq2]; rfl⟩)
            generalize p[i].code[m2] = x at *
            have y0 := Ext.cell HBR2.out (Ext.cell HB.out z0)
            have y1 := Ext.cell HBR2.out (Ext.cell HB.out z1)
            clear z0 z1
            by_cases hc : x.kind = 11 ∨ x.kind = 13
            · obtain ⟨ha0, ha1⟩ := hcal hc
              obtain ⟨n2, hn2⟩ : ∃ n2 : Nat, x.a = n2 := ⟨x.a.toNat, by omega⟩
              have hn2' : n2 < p.length := by omega
              have hx2 := HCL.out n2 hc hn2
              rw [hn2] at y1
              obtain ⟨g5, o5, e5, x5⟩ := G3.out n2 hn2'
              simp only [Option.some.injEq, Addr.mk.injEq] at e5
              obtain ⟨rfl, rfl, -⟩ := e5
              rw [hx2] at x5
              have x6 := Ext.cell HBR2.out x5
              have TNA : decide ((n2 : Int) < 0) = false := decide_eq_false (by omega)
              clear x5 hx2 hcal
              by_cases h11 : x.kind = 11
              · have T11 : (x.kind == 11) = true := by simp [h11]
                clear hc h11
                go_wp2_with fail
                go_roundw
                case rel => exact ⟨m2 + 1, by omega, by go_num, HBR2.out.alloc _⟩
                case measure => simp [intOf]; omega
              · have T11 : (x.kind == 11) = false := by simp [h11]
                have T13 : (x.kind == 13) = true := by simp; omega
                clear hc h11
                go_wp2_with fail
                go_roundw
                case rel => exact ⟨m2 + 1, by omega, by go_num, HBR2.out.alloc _⟩
                case measure => simp [intOf]; omega
            · have T11 : (x.kind == 11) = false := by simp; omega
              have T13 : (x.kind == 13) = false := by simp; omega
              clear hc hcal HCL
              go_wp2_with fail
              go_roundw
              case rel => exact ⟨m2 + 1, by omega, by go_num, HBR2.out.alloc _⟩
              case measure => simp [intOf]; omega
          · obtain rfl : m2 = p[i].code.length := by omega
            clear hlt2
            go_wp2_with (first
              | (go_at_call 32; (with_reducible refine (progBegun_any _).mono ?_); rintro e w9 ⟨rfl, hb9⟩))
            go_ret
            exact ⟨rfl, (HB.out.trans HBR2.out).trans hb9⟩
  · have TB : (c != 0) = true := bne_iff_ne.2 hz
    clear hc hz
    go_enter Try.func12, Try.ntmps12
    go_wp2_with (first
      | (go_at_call 33; (with_reducible refine (progCheck_any p _ (fun _ => True) _ HP.out).mono ?_); rintro e w1 ⟨rfl, hb1⟩; rw [HC.out])
      | (go_at_call 32; (with_reducible refine (progBegun_any _).mono ?_); rintro e w4 ⟨rfl, hb4⟩))
    go_ret
    exact ⟨rfl, by ((repeat (first | assumption | exact Ext.refl _ | (exact And.left (by assumption)) | refine Ext.alloc ?_ _ | refine Ext.drew ?_ | refine Ext.drewN ?_ _ | refine Ext.setCell ?_ (by simp) _ | refine Ext.setCell ?_ (by simp; omega) _ | refine Ext.trans ?_ (by assumption))); done)⟩

theorem contract (H : Type) (enc : TypeId × Value → H) (W : World) (base : Nat) (args : Array Value) (ds gs : List (DataW H)) (before : List MemPlace)
    (hval : ∀ (j : Nat) t v, Try.f12.params[j]? = some t → args[j]? = some v → Value.okWide Try.prog W .any base t v)
    (hW : DataW.Whole enc Try.prog Try.f12.params.toList Rows.progTrueSpec.vars false W args.toList ds gs before)
    (hsz : (DataW.weightsEach Try.prog (Try.f12.params.toList ++ Rows.progTrueSpec.plain.varTypes Try.prog) (ds ++ gs)).all (· ≤ reachBytes) = true) :
    Calls Try.prog 12 args W fun e W' => ∃ v, e = .returned v ∧ Rows.progTrueSpec.post enc Try.prog Try.f12 false true false false W args v W' := by
  have hW' := hW
  obtain ⟨p, q, hA, hV, rfl, hfz, hnd⟩ := hW
  rw [Try.params12] at hA hval
  obtain ⟨v0, vs0, d0, ds0, q0, t0, hargs, rfl, rfl, h0, r0⟩ := trodAll_cons hA
  obtain ⟨v1, vs1, d1, ds1, q1, t1, rfl, rfl, rfl, h1, r1⟩ := trodAll_cons r0
  obtain ⟨v2, vs2, d2, ds2, q2, t2, rfl, rfl, rfl, h2, r2⟩ := trodAll_cons r1
  obtain ⟨rfl, rfl, rfl⟩ := trodAll_nil r2
  obtain rfl : args = #[v0, v1, v2] := by cases args; simp_all
  obtain ⟨rfl, rfl⟩ := trodVars_none hV
  obtain ⟨a0, l0, c0, rfl⟩ := okWide_slice Try.underlying22 (hval 0 22 v0 rfl rfl)
  obtain ⟨fuel0, h0⟩ := h0
  obtain ⟨x0, h0⟩ := funcs_of_trod h0 (fun n hn => by
    have := List.all_eq_true.1 hsz n (DataW.weights_mem_each (j := 0) rfl rfl n hn)
    simpa using this)
  obtain ⟨x1, rfl, rfl, rfl, wf1⟩ := open_int Try.underlying3 (hval 1 3 v1 rfl rfl) h1
  obtain ⟨x2, rfl, rfl, rfl, wf2⟩ := open_int Try.underlying3 (hval 2 3 v2 rfl rfl) h2
  refine (walk W x0 _ h0 x1 (i64_of_wf wf1) x2 (i64_of_wf wf2)).mono fun e W' ⟨he, hE⟩ => ⟨_, he, law_post laidOut ?_ rfl Try.underlying4 rfl hW' ?_ hE⟩
  · rw [Try.params12]
    intro t ht
    simp at ht
    (try rcases ht with rfl | rfl) <;> exact ⟨by kernel_rfl, of_decide_eq_true (by kernel_rfl)⟩
  · intro ds hds
    match ds, hds with
    | [d0, d1, d2], _ => exact ⟨rfl, rfl, rfl⟩

theorem lifted (os : Os) (started : os.Started) (H : Type) (enc : TypeId × Value → H) :
    ReturnsInHanded {} Try.checked os 12 .any (Rows.progTrueSpec.pre6 enc Try.prog Try.f12 Rows.progTrueRow.domain false) (Rows.progTrueSpec.post enc Try.prog Try.f12 false true false false) := by
  refine returnsInHanded_of_change_sized (C := Try.checked) own started (by kernel_rfl) Try.func12
    (ChangeSpec.witness6 (enc := enc) (C := Try.checked) false ⟨#[], #[.slice none 0 0, .int .i64 0, .int .i64 0], []⟩ 8 (by kernel_rfl) (by kernel_rfl) (by kernel_rfl) (by kernel_rfl)) ?_
  intro W base args ds gs before hval hW _ hsz _
  exact contract H enc W base args ds gs before hval hW hsz

theorem proved : Rows.ProgTrueSaid :=
  OpenClaim.holds_of_wide 12 Try.f12 rfl rfl rfl rfl rfl rfl rfl ⟨rfl, rfl, rfl, rfl, rfl⟩ rfl rfl rfl rfl rfl (by as_aux_lemma => kernel_rfl) Try.func12 (by as_aux_lemma => kernel_rfl)
    (of_decide_eq_true (by as_aux_lemma => kernel_rfl)) (by unfold Func.isWrapper; rw [if_neg (of_decide_eq_false (by as_aux_lemma => kernel_rfl))]; exact ⟨rfl, rfl⟩)
    (fun os started H enc _ => lifted os started H enc)
end Go.Proofs.Ytpiechbjponicaa.progTrue

