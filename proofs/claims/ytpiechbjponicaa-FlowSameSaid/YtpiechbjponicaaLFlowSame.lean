/- FlowSame: with other ops in all other functions the heights of a function are the same. No condition. -/
import Derived.Test.YtpiechbjponicaaLaw
import Derived.Test.YtpiechbjponicaaFlowS
set_option maxHeartbeats 4000000
set_option maxRecDepth 100000
namespace Go.Proofs.Ytpiechbjponicaa.flowSame
open Go Go.RowKit Go.ChangeShapes Go.WideShapes Go.ChangeAt

theorem infoF : (Try.prog.info? 34).map (fun i => (i.zero, i.size, i.bytes)) = some (some (.agg #[.int .i64 0, .int .i64 0, .slice none 0 0]), 3, 40) := by kernel_rfl

/-- A row of functions as a program. -/
theorem funcs_of_row {w : World} {base : Nat} {v : Value} {p q : List GFunc} {us : List Value} (hl : us.length = p.length) (hq : q.length = p.length) (h : RowAt w base 3 v p.length (rowF p us)) (h5 : p.length * 40 ≤ 140737488355328)
    (hI : ∀ F ∈ p, I64 F.args ∧ I64 F.locals) (hs : ∀ k (hk : k < p.length) (hkq : k < q.length) (hv : k < us.length), q[k].args = p[k].args ∧ q[k].locals = p[k].locals ∧ Ops w (fun _ => True) us[k] q[k].code) : Funcs w (fun _ => True) v q := by
  obtain ⟨a, cap, rfl, h1, h2⟩ := h.shape
  refine ⟨a, cap, by rw [hq], by rw [hq]; exact h1, ⟨by rw [hq]; exact h5, by have := h2; simp only [maxLen] at this; omega⟩, fun k hk => ?_⟩
  have hkp : k < p.length := by omega
  have hku : k < us.length := by omega
  obtain ⟨g, o, rfl, _, hc⟩ := h.cell (by omega)
  obtain ⟨r0, r1, r2⟩ := rowF_at hkp hku
  obtain ⟨s0, s1, s2⟩ := hs k hkp hk hku
  have i := hI _ (List.getElem_mem hkp)
  refine ⟨g, o, rfl, ⟨trivial, ?_, by rw [s0]; exact i.1⟩, ⟨trivial, ?_, by rw [s1]; exact i.2⟩, us[k], ?_, s2⟩
  · rw [(hc (k * 3) (by omega)).1, r0, s0]
  · rw [Nat.add_assoc, (hc (k * 3 + 1) (by omega)).1, r1, s1]
  · rw [Nat.add_assoc, (hc (k * 3 + 2) (by omega)).1, r2]

theorem walk (w : World) (p : List GFunc) (v : Value) (hp : Funcs w (fun _ => True) v p) (f : Int) (_ : I64 f) :
    Calls Try.prog 9 #[v, .int .i64 f] w fun e w' => e = .returned (.bool true) ∧ Ext w w' := by
  have HP := Lib.hid hp
  have RA := alloc_keep
  obtain ⟨vs, hvl, hsrc, hvo, hvi⟩ := funcs_vs hp
  obtain ⟨a0, cap, rfl, hcap, hby, _⟩ := hp
  obtain ⟨i0, hi0, hz0, hz1, hz2⟩ := info_parts infoF
  have HSRC := Lib.hid hsrc
  have HVO := Lib.hid hvo
  have HVI := Lib.hid hvi
  clear hsrc hvo hvi
  by_cases he : hErr p f = 0
  · obtain ⟨n, hn, rfl, hR, _⟩ := hErr_inv he
    clear hR
    obtain ⟨l, hl⟩ : ∃ l, hList p n = l := ⟨_, rfl⟩
    have HL := Lib.hid hl
    have HE := Lib.hid he
    clear he hl
    have TN0 : decide ((n : Int) < 0) = false := decide_eq_false (by omega)
    go_enter Try.func9, Try.ntmps9
    go_upto_region 5 with (first
      | (go_at_call 24; (with_reducible refine (heights_val p _ (fun _ => True) n _ HP.out 0 l l.length HE.out HL.out rfl).mono ?_); rintro e w1 ⟨⟨a1, c1, rfl, hl1⟩, hb1⟩)
      | (at_builtin; refine wpList_append_row rfl _ _ 22 rfl w1.heap.size 34 i0 _ 3 40 Try.underlying22 hi0 hz0 hz1 hz2 rfl (by decide) _ _ _ rfl (RowAt.nil _ w1.heap.size 3 _) p.length (rowF p vs) (SrcSl.ext HSRC.out (hb1.alloc _)) (by simp only [maxLen]; omega) (by omega) (by simp) ?_; intro v2 w2 rv2))
    have hrow : RowAt w2 w1.heap.size 3 v2 p.length (rowF p vs) := by have := rv2.1; simpa using this
    have e2 : Ext w1 w2 := Chg.ext_from ((Ext.refl w1).alloc _) rv2.2.1 (fun b hb => (RowAt.nil w1 w1.heap.size 3 (some ⟨w1.heap.size, 0, none⟩)).le b hb)
    obtain ⟨a2, c2, rfl, hs1, hs2⟩ := hrow.shape
    have HROW := Lib.hid hrow
    have HE2 := Lib.hid e2
    have HB1 := Lib.hid hb1
    have HL1 := Lib.hid hl1
    clear hrow e2 rv2 hb1 hl1
    rename World => w2
    have h5 : p.length ≤ 3518437208883 := by omega
    go_wp2_with fail
    go_loopw [8] (fun q wr => ∃ i : Nat, i ≤ p.length ∧ q = .int .i64 i ∧ Ext w1 wr ∧ ∃ us : List Value, ∃ hul : us.length = p.length, (∀ k (hk : k < p.length), us[k]'(by omega) = if k < i ∧ k ≠ n then .slice none 0 0 else vs[k]'(by omega)) ∧ RowAt wr w1.heap.size 3 (.slice a2 p.length c2) p.length (rowF p us)) (fun q _ => p.length - (intOf q).toNat)
    case atStart => exact ⟨0, Nat.zero_le _, rfl, HE2.out, vs, hvl, fun k hk => by rw [if_neg (by omega)], HROW.out⟩
    case round =>
      obtain ⟨i, hi, rfl, hbr, us, hul, hus, hrr⟩ := hrel
      have HBR := Lib.hid hbr
      have HUS := Lib.hid hus
      have HRR := Lib.hid hrr
      clear hbr hus hrr HROW HE2
      by_cases hlt : i < p.length
      · by_cases hin : i = n
        · have TN : ((i : Int) != (n : Int)) = false := by rw [bne_eq_false_iff_eq]; omega
          have HU2 : Hid (∀ k (hk : k < p.length), us[k]'(by omega) = if k < i + 1 ∧ k ≠ n then .slice none 0 0 else vs[k]'(by omega)) := fun k hk => by
            rw [HUS.out k hk]
            by_cases hk2 : k < i ∧ k ≠ n
            · rw [if_pos hk2, if_pos ⟨by omega, hk2.2⟩]
            · rw [if_neg hk2, if_neg (fun h => hk2 ⟨by omega, h.2⟩)]
          clear hin
          go_wp2_with fail
          go_roundw
          case rel => exact ⟨i + 1, by omega, by go_num, HBR.out, us, hul, HU2.out, HRR.out⟩
          case measure => simp [intOf]; omega
        · have TN : ((i : Int) != (n : Int)) = true := bne_iff_ne.2 (by omega)
          obtain ⟨g, o, rfl, hbg, hcc⟩ := HRR.out.cell (by omega)
          obtain ⟨cc, ff⟩ := hcc (i * 3 + 2) (by omega)
          rw [(rowF_at (p := p) (vs := us) hlt (by omega)).2.2, ← Nat.add_assoc] at cc
          rw [← Nat.add_assoc] at ff
          have hst := HRR.out.store (j := i * 3 + 2) (by omega) (.slice none 0 0)
          rw [rowF_set hlt hul, ← Nat.add_assoc] at hst
          have HST := Lib.hid hst
          have HU2 : Hid (∀ k (hk : k < p.length), (us.set i (.slice none 0 0))[k]'(by rw [List.length_set]; omega) = if k < i + 1 ∧ k ≠ n then .slice none 0 0 else vs[k]'(by omega)) := fun k hk => by
            rw [List.getElem_set]
            by_cases e : i = k
            · subst e
              rw [if_pos rfl, if_pos ⟨by omega, hin⟩]
            · rw [if_neg e, HUS.out k hk]
              by_cases hk2 : k < i ∧ k ≠ n
              · rw [if_pos hk2, if_pos ⟨by omega, hk2.2⟩]
              · rw [if_neg hk2, if_neg (fun h => hk2 ⟨by omega, h.2⟩)]
          clear hin hcc hst
          go_wp2_with fail
          go_roundw
          case rel => exact ⟨i + 1, by omega, by go_num, HBR.out.setCell (p := ⟨g, o + i * 3 + 2, none⟩) hbg _, _, by rw [List.length_set]; exact hul, HU2.out, HST.out⟩
          case measure => simp [intOf]; omega
      · obtain rfl : i = p.length := by omega
        have hw : Ext w wr := HB1.out.trans HBR.out
        have hq : Funcs wr (fun _ => True) (.slice a2 p.length c2) (strike n p.length p 0) := by
          refine funcs_of_row hul (strike_len _ _ _ _) HRR.out (by omega) HVI.out (fun k hk hkq hv => ?_)
          rw [strike_at n p.length p 0 k hk hkq, HUS.out k hk]
          by_cases hkn : k = n
          · rw [if_neg (fun h => h.2 (by omega)), if_neg (fun h => h.2 hkn)]
            exact ⟨rfl, rfl, Ops.stays hw.stays (HVO.out k hk (by omega))⟩
          · rw [if_pos ⟨by omega, by omega⟩, if_pos ⟨hk, hkn⟩]
            exact ⟨rfl, rfl, Sl.nil _ _ _⟩
        have hsim := (strike_sim n p).heights (f := (n : Int)) (strike_code n hn)
        have HQ := Lib.hid hq
        have HS1 : Hid (hErr (strike n p.length p 0) n = 0) := hsim.1.trans HE.out
        have HS2 : Hid (hList (strike n p.length p 0) n = l) := hsim.2.trans HL.out
        have HL2 := Lib.hid (Ints.stays HBR.out.stays HL1.out)
        have HW := Lib.hid hw
        clear hlt hq hsim hw
        go_wp2_with (first
          | (go_at_call 24; (with_reducible refine (heights_val (strike n p.length p 0) _ (fun _ => True) n _ HQ.out 0 l l.length HS1.out HS2.out rfl).mono ?_); rintro e w3 ⟨⟨a3, c3, rfl, hl3⟩, hb3⟩)
          | (go_at_call 26; (with_reducible refine (flowBegun_any _).mono ?_); rintro e w4 ⟨rfl, hb4⟩)
          | (go_at_call 27; (with_reducible refine (sameInts_any l l _ _ (fun _ => True) (fun _ => True) _ (Ints.stays (hb3.trans hb4).stays HL2.out) (Ints.stays hb4.stays hl3)).mono ?_); rintro e w5 ⟨rfl, hb5⟩))
        go_ret
        exact ⟨rfl, ((HW.out.trans hb3).trans hb4).trans hb5⟩
  · obtain ⟨r, hr⟩ : ∃ r, hErr p f = r := ⟨_, rfl⟩
    rw [hr] at he
    have HR := Lib.hid hr
    have TB : (r != 0) = true := bne_iff_ne.2 he
    clear he hr
    go_enter Try.func9, Try.ntmps9
    go_wp2_with (first
      | (go_at_call 24; (with_reducible refine (heights_val p _ (fun _ => True) f _ HP.out r (hList p f) (hList p f).length HR.out rfl rfl).mono ?_); rintro e w1 ⟨⟨a1, c1, rfl, hl1⟩, hb1⟩)
      | (go_at_call 26; (with_reducible refine (flowBegun_any _).mono ?_); rintro e w3 ⟨rfl, hb3⟩))
    go_ret
    exact ⟨rfl, by ((repeat (first | assumption | exact Ext.refl _ | (exact And.left (by assumption)) | refine Ext.alloc ?_ _ | refine Ext.drew ?_ | refine Ext.drewN ?_ _ | refine Ext.setCell ?_ (by simp) _ | refine Ext.setCell ?_ (by simp; omega) _ | refine Ext.trans ?_ (by assumption))); done)⟩

theorem contract (H : Type) (enc : TypeId × Value → H) (W : World) (base : Nat) (args : Array Value) (ds gs : List (DataW H)) (before : List MemPlace)
    (hval : ∀ (j : Nat) t v, Try.f9.params[j]? = some t → args[j]? = some v → Value.okWide Try.prog W .any base t v)
    (hW : DataW.Whole enc Try.prog Try.f9.params.toList Rows.flowSameSpec.vars false W args.toList ds gs before)
    (hsz : (DataW.weightsEach Try.prog (Try.f9.params.toList ++ Rows.flowSameSpec.plain.varTypes Try.prog) (ds ++ gs)).all (· ≤ reachBytes) = true) :
    Calls Try.prog 9 args W fun e W' => ∃ v, e = .returned v ∧ Rows.flowSameSpec.post enc Try.prog Try.f9 false true false false W args v W' := by
  have hW' := hW
  obtain ⟨p, q, hA, hV, rfl, hfz, hnd⟩ := hW
  rw [Try.params9] at hA hval
  obtain ⟨v0, vs0, d0, ds0, q0, t0, hargs, rfl, rfl, h0, r0⟩ := trodAll_cons hA
  obtain ⟨v1, vs1, d1, ds1, q1, t1, rfl, rfl, rfl, h1, r1⟩ := trodAll_cons r0
  obtain ⟨rfl, rfl, rfl⟩ := trodAll_nil r1
  obtain rfl : args = #[v0, v1] := by cases args; simp_all
  obtain ⟨rfl, rfl⟩ := trodVars_none hV
  obtain ⟨a0, l0, c0, rfl⟩ := okWide_slice Try.underlying22 (hval 0 22 v0 rfl rfl)
  obtain ⟨fuel0, h0⟩ := h0
  obtain ⟨x0, h0⟩ := funcs_of_trod h0 (fun n hn => by
    have := List.all_eq_true.1 hsz n (DataW.weights_mem_each (j := 0) rfl rfl n hn)
    simpa using this)
  obtain ⟨x1, rfl, rfl, rfl, wf1⟩ := open_int Try.underlying3 (hval 1 3 v1 rfl rfl) h1
  refine (walk W x0 _ h0 x1 (i64_of_wf wf1)).mono fun e W' ⟨he, hE⟩ => ⟨_, he, law_post laidOut ?_ rfl Try.underlying4 rfl hW' ?_ hE⟩
  · rw [Try.params9]
    intro t ht
    simp at ht
    (try rcases ht with rfl | rfl) <;> exact ⟨by kernel_rfl, of_decide_eq_true (by kernel_rfl)⟩
  · intro ds hds
    match ds, hds with
    | [d0, d1], _ => exact ⟨rfl, rfl, rfl⟩

theorem lifted (os : Os) (started : os.Started) (H : Type) (enc : TypeId × Value → H) :
    ReturnsInHanded {} Try.checked os 9 .any (Rows.flowSameSpec.pre6 enc Try.prog Try.f9 Rows.flowSameRow.domain false) (Rows.flowSameSpec.post enc Try.prog Try.f9 false true false false) := by
  refine returnsInHanded_of_change_sized (C := Try.checked) own started (by kernel_rfl) Try.func9
    (ChangeSpec.witness6 (enc := enc) (C := Try.checked) false ⟨#[], #[.slice none 0 0, .int .i64 0], []⟩ 8 (by kernel_rfl) (by kernel_rfl) (by kernel_rfl) (by kernel_rfl)) ?_
  intro W base args ds gs before hval hW _ hsz _
  exact contract H enc W base args ds gs before hval hW hsz

theorem proved : Rows.FlowSameSaid :=
  OpenClaim.holds_of_wide 9 Try.f9 rfl rfl rfl rfl rfl rfl rfl ⟨rfl, rfl, rfl, rfl, rfl⟩ rfl rfl rfl rfl rfl (by as_aux_lemma => kernel_rfl) Try.func9 (by as_aux_lemma => kernel_rfl)
    (of_decide_eq_true (by as_aux_lemma => kernel_rfl)) (by unfold Func.isWrapper; rw [if_neg (of_decide_eq_false (by as_aux_lemma => kernel_rfl))]; exact ⟨rfl, rfl⟩)
    (fun os started H enc _ => lifted os started H enc)
end Go.Proofs.Ytpiechbjponicaa.flowSame

