/- RestProgs: what came, and was changed, changes nothing that was handed in, nor what comes next: programs, and what is made of them. No condition. -/
import Derived.Test.YtpcjkfppacnkgaaGreatDoorGJAM
import Derived.Test.YtpcjkfppacnkgaaGreatDoorGJAS
import Derived.Test.YtpcjkfppacnkgaaGreatDoorGJAW
import Derived.Test.YtpcjkfppacnkgaaGreatDoorGJAX
import Derived.Test.YtpcjkfppacnkgaaGreatDoorGJAY
import Derived.Test.YtpcjkfppacnkgaaGreatDoorGJBB
import Derived.Test.YtpcjkfppacnkgaaGreatDoorTie
import Derived.Test.YtpcjkfppacnkgaaGreatDoorCards
namespace Go.Proofs.YtpcjkfppacnkgaaGreatDoor.restProgs
set_option maxHeartbeats 4000000
set_option maxRecDepth 100000
open Go Go.RowKit Go.ChangeShapes Go.WideShapes Go.ChangeAt

theorem core (w : World) (hg : Glob w) (p : List GFunc) (v : Value) (hp : Funcs w (fun _ => True) v p) (es : List GNode) (ve : Value) (he : Nodes w (fun _ => True) ve es) (vals : List Int) (vv : Value) (hv : Ints w (fun _ => True) vv vals)
    (X : ByteArray) (fe : Int) (fp : List GFunc) (hpl : p.length ≤ 1000 ∧ ∀ F ∈ p, F.code.length ≤ 1000)
    (herr : ∀ w, Funcs w (fun _ => True) v p → Calls Tryz.prog 14 #[v] w fun e w' => e = .returned (.int .i64 0) ∧ Ext w w')
    (hshow : ∀ w, Glob w → Funcs w (fun _ => True) v p → Calls Tryz.prog 11 #[v] w fun e w' => e = .returned (.tuple #[.string X, .int .i64 0]) ∧ Ext w w')
    (hread : ∀ w, Glob w → Calls Tryz.prog 16 #[.string X] w fun e w' => (∃ a c fs, e = .returned (.tuple #[.slice a p.length c, .int .i64 0]) ∧ PRow w' w.heap.size (.slice a p.length c) fs ∧ fs.map Prod.fst = p) ∧ Ext w w')
    (hforge : ∀ w, Nodes w (fun _ => True) ve es → Ints w (fun _ => True) vv vals → Calls Tryz.prog 22 #[ve, vv] w fun e w' => (∃ a c fs, e = .returned (.tuple #[.slice a fp.length c, .int .i64 fe]) ∧ PRow w' w.heap.size (.slice a fp.length c) fs ∧ fs.map Prod.fst = fp) ∧ Ext w w')
    (hfdoc : ∀ w, Nodes w (fun _ => True) ve es → Ints w (fun _ => True) vv vals → Calls Tryz.prog 24 #[ve, vv] w fun e w' => (∃ a c, e = .returned (.tuple #[.slice a fp.length c, .int .i64 fe]) ∧ Funcs w' (fun _ => True) (.slice a fp.length c) fp) ∧ Ext w w') :
    Calls Tryz.prog 6 #[v, ve, vv] w fun e w' => e = .returned (.bool true) ∧ Ext w w' := by
  have HG := Lib.hid hg
  have HP := Lib.hid hp
  have HN := Lib.hid he
  have HV := Lib.hid hv
  have HPL := Lib.hid hpl
  have HERR := Lib.hid herr
  have HSHOW := Lib.hid hshow
  have HREAD := Lib.hid hread
  have HFORGE := Lib.hid hforge
  have HFDOC := Lib.hid hfdoc
  obtain ⟨ap, cp, rfl, _, _, _⟩ := hp
  obtain ⟨ae, ce, rfl, _, _, _⟩ := he
  obtain ⟨av, cv, rfl, _, _, _⟩ := hv
  have RA := alloc_keep
  clear hg hpl herr hshow hread hforge hfdoc
  go_enter Tryz.func6, Tryz.ntmps6
  go_upto_region 7 with (first
    | (go_at_call 14; (with_reducible refine (HERR.out _ HP.out).mono ?_); rintro e w1 ⟨rfl, hb1⟩; have E1 := Lib.hid hb1; clear hb1)
    | (go_at_call 21; (with_reducible refine (ownProg_any p _ _ _ (Funcs.stays (Ext.stays E1.out) HP.out) HPL.out.1 HPL.out.2).mono ?_); rintro e w2 ⟨⟨xm, rfl, hxm⟩, hb2⟩; have HM2 := Lib.hid (Funcs.stays (T := fun _ => True) (Stays.widen (fun _ _ => trivial)) hxm); have E2 := Lib.hid (E1.out.trans hb2); clear hb2 hxm)
    | (go_at_call 11; (with_reducible refine (HSHOW.out _ (HG.out.ext E2.out) (Funcs.stays (Ext.stays E2.out) HP.out)).mono ?_); rintro e w3 ⟨rfl, hb3⟩; have E3 := Lib.hid (E2.out.trans hb3); have HM3 := Lib.hid (Funcs.stays (Ext.stays hb3) HM2.out); clear hb3)
    | (go_at_call 16; (with_reducible refine (HREAD.out _ (HG.out.ext E3.out)).mono ?_); rintro e w4 ⟨⟨a4, c4, fs4, rfl, hr4, hf4⟩, hb4⟩; have HR4 := Lib.hid hr4; have B4 := Lib.hid hb4; have E4 := Lib.hid (E3.out.trans hb4); clear hb4 hr4 hf4)
    | (go_at_call 22; (with_reducible refine (HFORGE.out _ (Nodes.stays (Ext.stays E4.out) HN.out) (Ints.stays (Ext.stays E4.out) HV.out)).mono ?_); rintro e w5 ⟨⟨a5, c5, fs5, rfl, hr5, hf5⟩, hb5⟩; have HR5 := Lib.hid hr5; have B5 := Lib.hid hb5; clear hb5 hr5 hf5))
  clear HERR HSHOW HPL HM2 E1 E2 E4
  go_upto_region 8 with fail
  obtain ⟨K, hI⟩ := restP_start B4.out B5.out (Ext.refl _) HR4.out HR5.out 27
  have HI := Lib.hid hI
  clear hI HR4 HR5 B4 B5
  generalize w5.alloc _ = u8 at *
  generalize w5.heap.size = bl at *
  clear w4 w5
  go_wp2_with fail
  go_loopw [15] (fun q wr => ∃ i : Nat, i ≤ 2 ∧ q = .int .i64 i ∧ RestP K w3 bl (bl + 1) wr) (fun q _ => 2 - (intOf q).toNat)
  case atStart => exact ⟨0, by decide, rfl, HI.out⟩
  case round =>
    obtain ⟨i, hi, rfl, hI⟩ := hrel
    clear HI
    by_cases hi2 : i < 2
    · obtain ⟨fa, fl, fc, c0, -, hfl⟩ := hI.at hi2
      have HI := Lib.hid hI
      have hi2' : (i : Int) < 2 := by omega
      clear hI
      rename World => wi
      go_wp2_with fail
      go_loopw [16] (fun q wr => ∃ k : Nat, k ≤ fl ∧ q = .int .i64 k ∧ RestP K w3 bl (bl + 1) wr ∧ wr.cell? ⟨bl, i, none⟩ = some (.slice fa fl fc)) (fun q _ => fl - (intOf q).toNat)
      case atStart => exact ⟨0, Nat.zero_le _, rfl, HI.out, c0⟩
      case round =>
        clear c0 HI
        obtain ⟨k, hk, rfl, hI, c0⟩ := hrel
        by_cases hkn : k < fl
        · obtain ⟨gF, oF, xx, yy, la, ln, lc, rfl, hK2, -, -, ⟨f2, -⟩, hO⟩ := (hI.v hi2 c0).at hkn
          have hln := hO.le
          have HI := Lib.hid hI
          have HK2 := Lib.hid hK2
          clear hI hO hK2
          rename World => wk
          go_wp2_with fail
          go_loopw [17] (fun q wr => ∃ j : Nat, j ≤ ln ∧ q = .int .i64 j ∧ RestP K w3 bl (bl + 1) wr ∧ wr.cell? ⟨bl, i, none⟩ = some (.slice (some ⟨gF, oF, none⟩) fl fc) ∧ wr.cell? ⟨gF, oF + k * 3 + 2, none⟩ = some (.slice la ln lc)) (fun q _ => ln - (intOf q).toNat)
          case atStart => exact ⟨0, Nat.zero_le _, rfl, HI.out, c0, f2⟩
          case round =>
            clear c0 f2 HI
            obtain ⟨j, hj, rfl, hI, c0, f2⟩ := hrel
            by_cases hjn : j < ln
            · obtain ⟨gO, oO, x1, y1, rfl, hK1, ⟨o0, o0'⟩, ⟨o1, o1'⟩⟩ := ((hI.v hi2 c0).o hkn f2).1.at hjn
              have HI := Lib.hid hI
              have HK1 := Lib.hid hK1
              clear hI hK1
              rename World => wj
              go_upto_region 17 with fail
              refine wp_region_rt (fun W => W.cell? ⟨bl, i, none⟩ = some (.slice (some ⟨gF, oF, none⟩) fl fc) ∧ W.cell? ⟨gF, oF + k * 3 + 2, none⟩ = some (.slice (some ⟨gO, oO, none⟩) ln lc)) 11 [0, 1, 2, 3, 4, 5, 6, 7, 8] [9, 10, 11] (by kernel_rfl) (by kernel_rfl) (fun _ _ _ _ _ h => h) (by exact ⟨c0, f2⟩) ?_
              (try simp only [pickOps, List.filterMap_cons, List.filterMap_nil, List.getElem?_cons_zero, List.getElem?_cons_succ])
              repeat (
                refine readsQ_do (by rfl) ?_
                apply Exists.intro
                refine ⟨fun w' hw' => ?_, ?_⟩
                focus
                  (try dsimp only at hw')
                  go_split_ands
                  go_simp
                  (try with_reducible rfl)
                (try dsimp only [Act.put])
                (try simp only [List.setIfInBounds_toArray, List.set_cons_succ, List.set_cons_zero]))
              refine readsQ_nil ?_
              refine tailW_step ?_
              go_wp2_with (first
                | (go_at_call 23; refine (o_any _ _ _).mono ?_; rintro e w9 ⟨rfl, hb9⟩))
              have e9 := (Ext.refl wj).drew.trans hb9
              replace o0' := (Ext.froz e9 o0).trans o0'
              replace o1' := (Ext.froz e9 o1).trans o1'
              replace o0 := Ext.cell e9 o0
              replace o1 := Ext.cell e9 o1
              replace c0 := Ext.cell e9 c0
              replace f2 := Ext.cell e9 f2
              have HI := Lib.hid (HI.out.more e9)
              clear e9 hb9
              refine nextW_go (by exact ⟨c0, f2⟩) ?_
              refine tailW_step ?_
              go_wp2_with fail
              refine nextW_go (by exact ⟨c0, f2⟩) ?_
              refine tailW_step ?_
              go_wp2_with fail
              refine nextW_end ?_
              go_wp2_with fail
              go_roundw
              case rel => exact ⟨j + 1, by omega, by go_num, HI.out.op HK1.out _ (-1) (-1), pinP_op HK1.out (HI.out.nbl 1) c0, pinP_op HK1.out (HI.out.nkind HK2.out (by decide)) f2⟩
              case measure => simp [intOf]; omega
            · obtain rfl : j = ln := by omega
              obtain ⟨gF', oF', xx', yy', la', ln', lc', e, -, ⟨q0, q0'⟩, ⟨q1, q1'⟩, ⟨q2, q2'⟩, -⟩ := (hI.v hi2 c0).at hkn
              simp only [Option.some.injEq, Addr.mk.injEq] at e
              obtain ⟨rfl, rfl, -⟩ := e
              have HIM := Lib.hid hI
              clear hI
              rename World => wn
              go_wp2_with fail
              go_roundw
              case rel => exact ⟨k + 1, by omega, by go_num, HIM.out.fn HK2.out k (-1) 0, pinP_fn HK2.out (HIM.out.nbl 2) c0⟩
              case measure => simp [intOf]; omega
        · obtain rfl : k = fl := by omega
          have HIM := Lib.hid hI
          clear hI
          rename World => wk
          go_wp2_with fail
          go_roundw
          case rel => exact ⟨i + 1, by omega, by go_num, HIM.out⟩
          case measure => simp [intOf]; omega
    · obtain rfl : i = 2 := by omega
      have e9 := hI.ext
      have HM9 := Lib.hid (Funcs.stays (Ext.stays e9) HM3.out)
      have E9 := Lib.hid (E3.out.trans e9)
      clear hI e9 HM3 E3 hi2
      rename World => u9
      go_wp2_with (first
        | (go_at_call 16; (with_reducible refine (HREAD.out _ (HG.out.ext E9.out)).mono ?_); rintro e y1 ⟨⟨d1, k1, g1, rfl, hr1, hf1⟩, hb1⟩; have hx1 := hr1.funcs (fun _ => True) (fun _ _ => trivial); rw [hf1] at hx1; have HD1 := Lib.hid hx1; have F1 := Lib.hid hb1; clear hr1 hf1 hb1 hx1)
        | (go_at_call 22; (with_reducible refine (HFORGE.out _ (Nodes.stays (Ext.stays (E9.out.trans F1.out)) HN.out) (Ints.stays (Ext.stays (E9.out.trans F1.out)) HV.out)).mono ?_); rintro e y2 ⟨⟨d2, k2, g2, rfl, hr2, hf2⟩, hb2⟩; have hx2 := hr2.funcs (fun _ => True) (fun _ _ => trivial); rw [hf2] at hx2; have HD2 := Lib.hid hx2; have F2 := Lib.hid hb2; clear hr2 hf2 hb2 hx2)
        | (go_at_call 24; (with_reducible refine (HFDOC.out _ (Nodes.stays (Ext.stays ((E9.out.trans F1.out).trans F2.out)) HN.out) (Ints.stays (Ext.stays ((E9.out.trans F1.out).trans F2.out)) HV.out)).mono ?_); rintro e y3 ⟨⟨d3, k3, rfl, hx3⟩, hb3⟩; have HD3 := Lib.hid hx3; have F3 := Lib.hid hb3; clear hb3 hx3)
        | (go_at_call 20; (with_reducible refine (trimBegun_any _).mono ?_); rintro e y4 ⟨rfl, hb4⟩; have F4 := Lib.hid hb4; have G4 := Lib.hid (((F1.out.trans F2.out).trans F3.out).trans hb4); clear hb4)
        | (go_at_call 19; (with_reducible refine (sameProgs_any p p (.slice ap p.length cp) _ (fun _ => True) (fun _ => True) _ (Funcs.stays (Ext.stays (E9.out.trans G4.out)) HP.out) (Funcs.stays (Ext.stays G4.out) HM9.out)).mono ?_); rintro e y5 ⟨rfl, hb5⟩; rw [decide_eq_true (rfl : p = p)]; have F5 := Lib.hid (F4.out.trans hb5); have G5 := Lib.hid (G4.out.trans hb5); clear hb5)
        | (go_at_call 19; (with_reducible refine (sameProgs_any p p (.slice d1 p.length k1) _ (fun _ => True) (fun _ => True) _ (Funcs.stays (Ext.stays ((F2.out.trans F3.out).trans F5.out)) HD1.out) (Funcs.stays (Ext.stays G5.out) HM9.out)).mono ?_); rintro e y6 ⟨rfl, hb6⟩; rw [decide_eq_true (rfl : p = p)]; have F6 := Lib.hid (F5.out.trans hb6); have G6 := Lib.hid (G5.out.trans hb6); clear hb6)
        | (go_at_call 19; (with_reducible refine (sameProgs_any fp fp (.slice d2 fp.length k2) _ (fun _ => True) (fun _ => True) _ (Funcs.stays (Ext.stays (F3.out.trans F6.out)) HD2.out) (Funcs.stays (Ext.stays F6.out) HD3.out)).mono ?_); rintro e y7 ⟨rfl, hb7⟩; rw [decide_eq_true (rfl : fp = fp)]; have G7 := Lib.hid (G6.out.trans hb7); clear hb7))
      go_ret
      exact ⟨rfl, E9.out.trans G7.out⟩

theorem walk (w : World) (hg : Glob w) (p : List GFunc) (v : Value) (hp : Funcs w (fun _ => True) v p) (es : List GNode) (ve : Value) (he : Nodes w (fun _ => True) ve es) (vals : List Int) (vv : Value) (hv : Ints w (fun _ => True) vv vals) :
    Calls Tryz.prog 6 #[v, ve, vv] w fun e w' => e = .returned (.bool true) ∧ Ext w w' := by
  have HP := Lib.hid hp
  by_cases hz : progErr p = 0
  · have hRP := progErr_zero hz
    have hread : ∀ w, Glob w → Calls Tryz.prog 16 #[.string ⟨(textP p).toArray⟩] w fun e w' => (∃ a c fs, e = .returned (.tuple #[.slice a p.length c, .int .i64 0]) ∧ PRow w' w.heap.size (.slice a p.length c) fs ∧ fs.map Prod.fst = p) ∧ Ext w w' := by
      intro w hg
      refine (read_any _ w hg).mono ?_
      rintro e w' ⟨⟨x, fs, rfl, hr, hfs⟩, hx⟩
      rw [readT_text hz] at hfs ⊢
      replace hfs : fs.map Prod.fst = p := hfs
      obtain ⟨a, c, rfl, _, _⟩ := hr.row.shape
      have hl : fs.length = p.length := by rw [← hfs, List.length_map]
      rw [hl] at hr ⊢
      exact ⟨⟨a, c, fs, rfl, hr, hfs⟩, hx⟩
    refine core w hg p v hp es ve he vals vv hv ⟨(textP p).toArray⟩ (forgeErr es vals) (forgePr es vals) ?_ ?_ ?_ hread ?_ ?_
    · exact ⟨by have := hRP.most; omega, fun F hF => by
        have := (right_ops hz F hF).2.1
        omega⟩
    · intro w hp
      rw [← hz]
      exact progError_any p v _ w hp
    · intro w hg hp
      refine (show_any p v _ w hg hp).mono ?_
      rintro e w' ⟨rfl, hx⟩
      refine ⟨?_, hx⟩
      unfold showT
      rw [if_pos hz, hz]
    · intro w he hv
      refine (forgeProg_own es vals ve vv _ w he hv).mono ?_
      rintro e w' ⟨⟨x, fs, rfl, hr, hfs⟩, hx⟩
      obtain ⟨a, c, rfl, _, _⟩ := hr.row.shape
      have hl : fs.length = (forgePr es vals).length := by rw [← hfs, List.length_map]
      rw [hl] at hr ⊢
      exact ⟨⟨a, c, fs, rfl, hr, hfs⟩, hx⟩
    · intro w he hv
      refine (forgeProgOf_any es vals ve vv _ w he hv).mono ?_
      rintro e w' ⟨⟨x, rfl, hF⟩, hx⟩
      have hF' : Funcs w' (fun _ => True) x (forgePr es vals) := Sl.mono hF fun _ _ _ h => FuncC.stays (Stays.widen (fun _ _ => trivial)) h
      obtain ⟨a, c, rfl, _, _, _⟩ := id hF'
      exact ⟨⟨a, c, rfl, hF'⟩, hx⟩
  · obtain ⟨r, hr⟩ : ∃ r, progErr p = r := ⟨_, rfl⟩
    rw [hr] at hz
    have HR := Lib.hid hr
    have TR : (r != 0) = true := bne_iff_ne.2 hz
    obtain ⟨ap, cp, rfl, _, _, _⟩ := hp
    obtain ⟨ae, ce, rfl, _, _, _⟩ := he
    obtain ⟨av, cv, rfl, _, _, _⟩ := hv
    clear hz hr hg
    go_enter Tryz.func6, Tryz.ntmps6
    go_wp2_with (first
      | (go_at_call 14; (with_reducible refine (progError_any p _ _ _ HP.out).mono ?_); rintro e w1 ⟨rfl, hb1⟩; rw [HR.out])
      | (go_at_call 20; (with_reducible refine (trimBegun_any _).mono ?_); rintro e w2 ⟨rfl, hb2⟩))
    go_ret
    exact ⟨rfl, hb1.trans hb2⟩

theorem contract (H : Type) (enc : TypeId × Value → H) (W : World) (base : Nat) (args : Array Value) (ds gs : List (DataW H)) (before : List MemPlace)
    (hval : ∀ (j : Nat) t v, Tryz.f6.params[j]? = some t → args[j]? = some v → Value.okWide Tryz.prog W .any base t v)
    (hW : DataW.Whole enc Tryz.prog Tryz.f6.params.toList Rows.restProgsSpec.vars false W args.toList ds gs before)
    (hsz : (DataW.weightsEach Tryz.prog (Tryz.f6.params.toList ++ Rows.restProgsSpec.plain.varTypes Tryz.prog) (ds ++ gs)).all (· ≤ reachBytes) = true) (hg : Glob W) :
    Calls Tryz.prog 6 args W fun e W' => ∃ v, e = .returned v ∧ Rows.restProgsSpec.post enc Tryz.prog Tryz.f6 false true false false W args v W' := by
  have hW' := hW
  obtain ⟨p, q, hA, hV, rfl, hfz, hnd⟩ := hW
  rw [Tryz.params6] at hA hval
  obtain ⟨v0, vs0, d0, ds0, q0, t0, hargs, rfl, rfl, h0, r0⟩ := trodAll_cons hA
  obtain ⟨v1, vs1, d1, ds1, q1, t1, rfl, rfl, rfl, h1, r1⟩ := trodAll_cons r0
  obtain ⟨v2, vs2, d2, ds2, q2, t2, rfl, rfl, rfl, h2, r2⟩ := trodAll_cons r1
  obtain ⟨rfl, rfl, rfl⟩ := trodAll_nil r2
  obtain rfl : args = #[v0, v1, v2] := by cases args; simp_all
  obtain ⟨rfl, rfl⟩ := trodVars_none hV
  obtain ⟨a0, l0, c0, rfl⟩ := okWide_slice Tryz.underlying27 (hval 0 27 v0 rfl rfl)
  obtain ⟨fuel0, h0⟩ := h0
  obtain ⟨x0, h0⟩ := funcs_of_trod h0 (fun n hn => by
    have := List.all_eq_true.1 hsz n (DataW.weights_mem_each (j := 0) rfl rfl n hn)
    simpa using this)
  obtain ⟨a1, l1, c1, rfl⟩ := okWide_slice Tryz.underlying43 (hval 1 43 v1 rfl rfl)
  obtain ⟨fuel1, h1⟩ := h1
  obtain ⟨x1, h1⟩ := nodes_of_trod h1 (fun n hn => by
    have := List.all_eq_true.1 hsz n (DataW.weights_mem_each (j := 1) rfl rfl n hn)
    simpa using this)
  obtain ⟨a2, l2, c2, rfl⟩ := okWide_slice Tryz.underlying30 (hval 2 30 v2 rfl rfl)
  obtain ⟨fuel2, h2⟩ := h2
  obtain ⟨x2, h2⟩ := intl_of_trod h2 (fun n hn => by
    have := List.all_eq_true.1 hsz n (DataW.weights_mem_each (j := 2) rfl rfl n hn)
    simpa using this)
  refine (walk W hg x0 _ h0 x1 _ h1 x2 _ h2).mono fun e W' ⟨he, hE⟩ => ⟨_, he, law_post laidOut ?_ rfl Tryz.underlying4 rfl hW' ?_ hE⟩
  · rw [Tryz.params6]
    intro t ht
    simp at ht
    (try rcases ht with rfl | rfl | rfl) <;> exact ⟨by kernel_rfl, of_decide_eq_true (by kernel_rfl)⟩
  · intro ds hds
    match ds, hds with
    | [d0, d1, d2], _ => exact ⟨rfl, rfl, rfl⟩

theorem lifted (os : Os) (started : os.Started) (H : Type) (enc : TypeId × Value → H) :
    ReturnsInHanded {} Tryz.checked os 6 .any (fun w args => (Rows.restProgsSpec.pre enc Tryz.prog Tryz.f6 Rows.restProgsRow.domain false w args ∧ laidMetH Tryz.prog laidL w) ∧ sizedMet enc Tryz.prog Tryz.f6 (OpenSpec.ofChange Rows.restProgsSpec) false w args) (Rows.restProgsSpec.post enc Tryz.prog Tryz.f6 false true false false) := by
  refine lift_laid own started (by kernel_rfl) Tryz.func6
    (ChangeSpec.witness_shaped (enc := enc) (C := Tryz.checked) (os := os) (X := fun w _ => laidMetH Tryz.prog laidL w) false (World.laidAll Tryz.prog os laidL) #[.slice none 0 0, .slice none 0 0, .slice none 0 0] 8 (World.laidAll_os _ _ _) (laid_shaped os _) (by kernel_rfl) (by kernel_rfl) (by kernel_rfl) (laid_met os _)) ?_
  intro W base args ds gs before hval hW hsz hg
  exact contract H enc W base args ds gs before hval hW hsz hg

theorem proved : Rows.RestProgsSaid :=
  OpenClaim.holds_of_wide 6 Tryz.f6 rfl rfl rfl rfl rfl rfl rfl ⟨rfl, rfl, rfl, rfl, rfl⟩ rfl rfl rfl rfl rfl (by as_aux_lemma => kernel_rfl) Tryz.func6 (by as_aux_lemma => kernel_rfl)
    (of_decide_eq_true (by as_aux_lemma => kernel_rfl)) (by unfold Func.isWrapper; rw [if_neg (of_decide_eq_false (by as_aux_lemma => kernel_rfl))]; exact ⟨rfl, rfl⟩)
    (fun os started H enc _ => lifted os started H enc)
theorem carded : Rows.RestProgsCardSaid := by
  refine Claim7.holds_tied_plain_at .later [] _ true _ true proved (fun _ h => by cases h) (by kernel_rfl) (fun _ h => by cases h) restProgs_row_tie rfl ⟨rfl, rfl⟩ (by kernel_rfl) rfl (fun f fn hf hfn => ?_) (by kernel_rfl)
  obtain rfl : f = 6 := Option.some.inj ((show Tryz.prog.funcNamed "glebe/glebelaw.RestProgs" = some 6 by kernel_rfl).symm.trans hf) |>.symm
  obtain rfl : fn = Tryz.f6 := (Option.some.inj (Tryz.func6.symm.trans hfn)).symm
  refine ⟨by kernel_rfl, fun j t ht => ?_⟩
  rw [Tryz.params6] at ht
  have hm : t ∈ [27, 43, 30] := by simpa using Array.mem_of_getElem? ht
  have hall : ([27, 43, 30].all fun u => !Tryz.prog.wantsStandIn u) = true := by kernel_rfl
  exact (show Tryz.prog.wantsStandIn t = false by simpa using List.all_eq_true.1 hall t hm)
end Go.Proofs.YtpcjkfppacnkgaaGreatDoor.restProgs

