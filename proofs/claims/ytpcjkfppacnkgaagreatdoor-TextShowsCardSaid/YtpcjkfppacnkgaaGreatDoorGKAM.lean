/- Merged texts: contracts and plain facts, one part behind another; each part begins with what it says. -/
import Derived.Test.YtpcjkfppacnkgaaGreatDoorGKAA
import Derived.Test.YtpcjkfppacnkgaaGreatDoorGKAL
import Derived.Handed
import Derived.LaidHandle
import Derived.LaidLaws
import Derived.LaidMore
import Derived.Lay
import Derived.Lib.LaidTab
import Derived.MakeChecks
import Derived.Shelf.Vars
import Derived.Stop.LaidErr
import Derived.Test.YtpcjkfppacnkgaaGreatDoorShelf
import Derived.WalkSpells
section
/- The package-level variables that the library reads; contracts of the text package's names, told and line. No condition. -/
set_option maxHeartbeats 4000000
set_option maxRecDepth 100000
namespace Go.Proofs.YtpcjkfppacnkgaaGreatDoor
open Go Go.RowKit

theorem var_ext {P : Program} {w w' : World} (h : Ext w w') {n : String} {cs : Array Value} (hv : w.var? P n = some cs) : w'.var? P n = some cs := by
  unfold World.var? at hv ⊢
  cases hg : P.globalNamed n with
  | none => rw [hg] at hv; exact hv
  | some g =>
    rw [hg] at hv
    simp only [Option.bind_some] at hv ⊢
    have hl : g < w.heap.size := by
      refine Nat.lt_of_not_le fun hn => ?_
      rw [Array.getElem?_eq_none hn] at hv
      cases hv
    rw [h.block g hl]
    exact hv
/-- What the library's package-level variables hold. -/
structure Glob (w : World) : Prop where
  pow : Lib.TabIs Tryz.prog w "internal/strconv.uint64pow10" .u64 Lib.pow10Tab
  spc : Lib.TabIs Tryz.prog w "strings.asciiSpace" .u8 Lib.asciiSpaceTab
  max : ∃ m, w.cell? ⟨0, 0, none⟩ = some (.int .i64 m)
  syn : ∃ ev, w.cell? ⟨3, 0, none⟩ = some ev ∧ (ev = .nilIface ∨ ∃ te pe, ev = .iface te pe)
  rng : ∃ ev, w.cell? ⟨4, 0, none⟩ = some ev ∧ (ev = .nilIface ∨ ∃ te pe, ev = .iface te pe)
theorem Glob.ext {w w' : World} (h : Glob w) (he : Ext w w') : Glob w' := by
  obtain ⟨h1, h2, ⟨m, h3⟩, ⟨e4, h4, h4'⟩, e5, h5, h5'⟩ := h
  exact ⟨var_ext he h1, var_ext he h2, ⟨m, Ext.cell he h3⟩, ⟨e4, Ext.cell he h4, h4'⟩, e5, Ext.cell he h5, h5'⟩

def namesLine : List UInt8 := [112, 117, 115, 104, 32, 112, 111, 112, 32, 108, 111, 97, 100, 32, 115, 116, 111, 114, 101, 32, 97, 100, 100, 32, 115, 117, 98, 32, 109, 117, 108, 32, 108, 101, 115, 115, 32, 115, 97, 109, 101, 32, 106, 117, 109, 112, 32, 122, 101, 114, 111, 32, 99, 97, 108, 108, 32, 114, 101, 116, 117, 114, 110, 32, 109, 97, 107, 101, 32, 114, 101, 115, 117, 109, 101, 32, 121, 105, 101, 108, 100, 32, 112, 117, 116]
theorem namesLine_fields : Lib.fields namesLine = namesT := by decide +kernel
theorem names_ascii : ∀ (j : Nat) b, namesLine[j]? = some b → b.toNat < 128 := by
  intro j b h
  have hm : ∀ b ∈ namesLine, b.toNat < 128 := by decide +kernel
  exact hm b (List.mem_of_getElem? h)
theorem namesI_any (w : World) (hg : Glob w) : Calls Tryz.prog 37 #[] w fun e w' => ∃ v, e = .returned v ∧ Strs w' (fun b => w.heap.size ≤ b) v namesT ∧ Ext w w' := by
  have HF : Hid (Calls Tryz.prog 89 #[.string ⟨namesLine.toArray⟩] w fun e w' => ∃ v, e = .returned v ∧ Strs w' (fun b => w.heap.size ≤ b) v namesT ∧ Ext w w') := by
    refine (Tryz.strings_Fields ⟨namesLine.toArray⟩ w (by decide) names_ascii hg.spc).mono ?_
    rintro e w' ⟨rfl, rfl⟩
    have hf : Lib.fields (⟨namesLine.toArray⟩ : ByteArray).data.toList = namesT := namesLine_fields
    rw [hf]
    refine ⟨_, rfl, ⟨some ⟨w.heap.size, 0, none⟩, 17, rfl, by decide, by decide, fun i hi => ⟨w.heap.size, 0, rfl, Nat.le_refl _, ?_⟩⟩, (Ext.refl w).alloc _⟩
    rw [World.cell?_alloc_new, List.getElem?_toArray, List.getElem?_map, Nat.zero_add, Nat.mul_one, List.getElem?_eq_getElem hi]
    rfl
  clear hg
  unfold namesLine at HF
  go_enter Tryz.func37, Tryz.ntmps37
  go_wp2_with (first
    | (go_at_call 89; refine HF.out.mono ?_; rintro e w1 ⟨v, rfl, hv, hx⟩))
  go_ret
  exact ⟨_, rfl, hv, hx⟩
theorem told_any (k : Int) (w : World) : Calls Tryz.prog 39 #[.int .i64 k] w fun e w' => e = .returned (.bool (toldB k)) ∧ Ext w w' := by
  have hb : ([0, 2, 3, 9, 10, 11, 13] : List Int).contains k = toldB k := by
    unfold toldB
    simp only [List.contains_cons, List.contains_nil, Bool.or_false, Bool.or_assoc]
  have HF : Hid (Calls Tryz.prog 90 #[.slice (some ⟨w.heap.size, 0, none⟩) 7 7, .int .i64 k] (w.alloc (.cells #[.int .i64 0, .int .i64 2, .int .i64 3, .int .i64 9, .int .i64 10, .int .i64 11, .int .i64 13] 3)) fun e w' => e = .returned (.bool (toldB k)) ∧ w' = w.alloc (.cells #[.int .i64 0, .int .i64 2, .int .i64 3, .int .i64 9, .int .i64 10, .int .i64 11, .int .i64 13] 3)) := by
    refine (Tryz.slices_Contains_int w.heap.size 0 7 7 [0, 2, 3, 9, 10, 11, 13] k _ (by decide) (by decide) ?_).mono ?_
    · intro j hj
      rw [World.cell?_alloc_new]
      match j, hj with
      | 0, _ => rfl
      | 1, _ => rfl
      | 2, _ => rfl
      | 3, _ => rfl
      | 4, _ => rfl
      | 5, _ => rfl
      | 6, _ => rfl
      | j + 7, h => exact absurd h (by simp)
    · rintro e w' ⟨rfl, rfl⟩
      exact ⟨by rw [← hb]; rfl, rfl⟩
  clear hb
  go_enter Tryz.func39, Tryz.ntmps39
  go_wp2_with (first
    | (go_at_call 90; refine HF.out.mono ?_; rintro e w1 ⟨rfl, rfl⟩))
  go_ret
  exact ⟨rfl, (Ext.refl w).alloc _⟩
end Go.Proofs.YtpcjkfppacnkgaaGreatDoor
end
section
/- What a row's condition gives: the library's variables hold what they were laid with (Glob); the wrap of such a row; its witness. No condition. -/
set_option maxHeartbeats 4000000
set_option maxRecDepth 100000
namespace Go.Proofs.YtpcjkfppacnkgaaGreatDoor
open Go Go.RowKit Go.ChangeShapes Go.WideShapes Go.ChangeAt

abbrev laidL : List (String × DataW Unit) := [("math/bits.deBruijn32tab", Rows.laid_math_bits_deBruijn32tab), ("math/bits.deBruijn64tab", Rows.laid_math_bits_deBruijn64tab), ("internal/strconv.uint64pow10", Rows.laid_internal_strconv_uint64pow10), ("unicode/utf8.acceptRanges", Rows.laid_unicode_utf8_acceptRanges), ("strconv.ErrRange", Rows.laid_strconv_ErrRange), ("strconv.ErrSyntax", Rows.laid_strconv_ErrSyntax), ("unicode.White_Space", Rows.laid_unicode_White_Space), ("strings.asciiSpace", Rows.laid_strings_asciiSpace), ("unicode/utf8.first", Rows.laid_unicode_utf8_first)]

theorem star_err : "*" ++ "errors.errorString" = "*errors.errorString" := by decide
theorem row_err (u : TypeId) (h : Tryz.prog.typeName? 3 u = some "*errors.errorString") : u = 245 :=
  typeName_ptr_named (nm := "errors.errorString") (by rw [star_err]; kernel_rfl) (by kernel_rfl) (by decide) u (by rw [star_err]; exact h)
theorem pow_tab : (Rows.laid_internal_strconv_uint64pow10 : DataW Unit) = Lib.tabData .u64 Lib.pow10Tab := by kernel_rfl
theorem spc_tab : (Rows.laid_strings_asciiSpace : DataW Unit) = Lib.tabData .u8 Lib.asciiSpaceTab := by kernel_rfl
theorem cell_of_var {W : World} {n : String} {g : Nat} {v : Value} (hg : Tryz.prog.globalNamed n = some g) (h : W.var? Tryz.prog n = some #[v]) : W.cell? ⟨g, 0, none⟩ = some v := by
  simpa using World.var?_cell hg h 0
theorem glob_of {W : World} (hS : W.ShapedOpen Tryz.prog) (h : laidMetH Tryz.prog laidL W) : Glob W := by
  rw [MakeChecks.laidMetH_plain _ _ _ (by kernel_rfl)] at h
  have h3 := h.tail.tail
  have h5 := h3.tail.tail
  have h6 := h5.tail
  have h8 := h6.tail.tail
  rw [pow_tab] at h3
  rw [spc_tab] at h8
  obtain ⟨ar, sr, hr, _, _, _⟩ := laid_sentinel h5 (g := 4) (ti := 70) (tp := 245) (te := 247) (ts := 9) (by kernel_rfl) (by kernel_rfl) Tryz.underlying70 row_err Tryz.underlying245 Tryz.underlying247 rfl rfl Tryz.underlying9 (by kernel_rfl) (by kernel_rfl)
  obtain ⟨asx, ss, hs, _, _, _⟩ := laid_sentinel h6 (g := 3) (ti := 70) (tp := 245) (te := 247) (ts := 9) (by kernel_rfl) (by kernel_rfl) Tryz.underlying70 row_err Tryz.underlying245 Tryz.underlying247 rfl rfl Tryz.underlying9 (by kernel_rfl) (by kernel_rfl)
  exact ⟨Lib.tabIs_of_head (g := 5) (t := 248) (e := 212) (n := 20) (by kernel_rfl) (by kernel_rfl) (by kernel_rfl) (by kernel_rfl) (by kernel_rfl) (by kernel_rfl) h3,
    Lib.tabIs_of_head (g := 1) (t := 163) (e := 5) (n := 256) (by kernel_rfl) (by kernel_rfl) (by kernel_rfl) (by kernel_rfl) (by kernel_rfl) (by kernel_rfl) h8,
    cell_of_shapedOpen_int (zero := #[.int .i64 0]) hS (of_decide_eq_true (by kernel_rfl)) (by kernel_rfl) rfl (by kernel_rfl) (by kernel_rfl) Tryz.underlying3,
    ⟨_, cell_of_var (by kernel_rfl) hs, .inr ⟨_, _, rfl⟩⟩, ⟨_, cell_of_var (by kernel_rfl) hr, .inr ⟨_, _, rfl⟩⟩⟩

/-- The wrap of a row that lays variables: what the shape and the laid variables give is handed to the contract. -/
theorem lift_laid {H : Type} {enc : TypeId × Value → H} {a : Assume} {os : Os} {f : FuncId} {fn : Func} {s : ChangeSpec} {conds : List PathCond} {apart fresh handsOn again : Bool}
    (own : ownKnob Tryz.prog.godebug = none) (started : os.Started) (noInit : Tryz.prog.inits.idxOf? f = none) (hfn : Tryz.prog.funcs[f]? = some fn)
    (witness : ∃ (w : World) (tape : Tape) (i : Input), w.os = os ∧ (w.forCall tape i).Shaped Tryz.prog ∧ i.vars = [] ∧ Input.okWide Tryz.prog (w.forCall tape i) .any w.heap.size f i ∧
      ((s.pre enc Tryz.prog fn conds apart (w.forCall tape i).memory i.args ∧ laidMetH Tryz.prog laidL (w.forCall tape i).memory) ∧ sizedMet enc Tryz.prog fn (OpenSpec.ofChange s) apart (w.forCall tape i).memory i.args) ∧ a.holds Tryz.prog (lone (Frame.enter Tryz.prog f i.args .normal) [] (w.forCall tape i)))
    (contract : ∀ (W : World) (base : Nat) (args : Array Value) (ds gs : List (DataW H)) (before : List MemPlace),
      (∀ (j : Nat) t v, fn.params[j]? = some t → args[j]? = some v → Value.okWide Tryz.prog W .any base t v) →
      DataW.Whole enc Tryz.prog fn.params.toList s.vars apart W args.toList ds gs before →
      (DataW.weightsEach Tryz.prog (fn.params.toList ++ s.plain.varTypes Tryz.prog) (ds ++ gs)).all (· ≤ reachBytes) = true → Glob W →
      Calls Tryz.prog f args W fun e W' => ∃ v, e = .returned v ∧ s.post enc Tryz.prog fn apart fresh handsOn again W args v W') :
    ReturnsInHanded a Tryz.checked os f .any (fun w args => (s.pre enc Tryz.prog fn conds apart w args ∧ laidMetH Tryz.prog laidL w) ∧ sizedMet enc Tryz.prog fn (OpenSpec.ofChange s) apart w args) (s.post enc Tryz.prog fn apart fresh handsOn again) := by
  refine returnsInHanded_of_calls (C := Tryz.checked) own started noInit witness ?_
  intro w tape i _ hsh _ hok hpre hholds
  obtain ⟨_, _, _, fn', hfn', _, _, _, _, hval⟩ := hok
  have e : fn' = fn := Option.some.inj (hfn'.symm.trans hfn)
  subst e
  obtain ⟨⟨⟨ds, gs, before, hw, hc⟩, hx⟩, hz⟩ := hpre
  have hw' := DataW.Whole.of_heap (w' := w.forCall tape i) (by rfl) hw
  refine (contract (w.forCall tape i) w.heap.size i.args ds gs before hval hw' (hz.weights hw) (glob_of hsh (hx.of_heap (by rfl)))).mono fun e W' ⟨v, he, hp⟩ => ?_
  subst he
  exact ChangeSpec.post_blind hp
/-- A world in which the variables lie as listed meets the condition: closed facts. -/
theorem laid_met (os : Os) (args : Array Value) : laidMetH Tryz.prog laidL ((World.laidAll Tryz.prog os laidL).forCall (fun _ _ => 0) ⟨#[], args, []⟩).memory := by
  rw [MakeChecks.laidMetH_plain _ _ _ (by kernel_rfl)]
  exact laidMet_laidAll _ (by kernel_rfl) (by kernel_rfl)
theorem laid_shaped (os : Os) (args : Array Value) : ((World.laidAll Tryz.prog os laidL).forCall (fun _ _ => 0) ⟨#[], args, []⟩).Shaped Tryz.prog := World.shaped_of_ZipB (by kernel_rfl) (by kernel_rfl)
end Go.Proofs.YtpcjkfppacnkgaaGreatDoor
end
section
/- Contracts of the document's split and num. No condition. -/
set_option maxHeartbeats 4000000
set_option maxRecDepth 100000
namespace Go.Proofs.YtpcjkfppacnkgaaGreatDoor
open Go Go.RowKit

theorem infoS : (Tryz.prog.info? 9).map (fun i => (i.zero, i.size, i.bytes)) = some (some (.string ⟨#[]⟩), 1, 16) := by kernel_rfl
theorem src_txt (w : World) (x : By) (t : TypeId) : SrcSl (w.alloc (.cells #[txtV x] t)) 1 (.slice (some ⟨w.heap.size, 0, none⟩) 1 1) 1 (txtF x) := by
  refine ⟨_, 1, rfl, rfl, by simp [txtF, txtV, Value.oneCell'], .inr ⟨_, rfl, fun j u hj => ?_⟩⟩
  match j, hj with
  | 0, hj =>
    cases hj
    rw [Addr.add_zero']
    exact World.cell?_alloc_new w _ _ 0
theorem extract_by (s : By) (a b : Nat) : (⟨s.toArray⟩ : ByteArray).extract a b = ⟨((s.take b).drop a).toArray⟩ := by
  apply ByteArray.ext
  simp [ByteArray.data_extract, List.drop_take]
theorem size_by (s : By) : (⟨s.toArray⟩ : ByteArray).size = s.length := by simp [ByteArray.size]
theorem get_by (s : By) (k : Nat) (h : k < (⟨s.toArray⟩ : ByteArray).size) (h' : k < s.length) : (⟨s.toArray⟩ : ByteArray)[k]'h = s[k] := rfl

theorem splitGo_next (c : UInt8) {s : By} {k f : Nat} (h : k < s.length) (hf : f ≤ k) (hc : s[k] ≠ c) : splitGo c ((s.take k).drop f) (s.drop k) = splitGo c ((s.take (k + 1)).drop f) (s.drop (k + 1)) := by
  rw [List.drop_eq_getElem_cons h, splitGo, if_neg hc, List.take_succ_eq_append_getElem h, List.drop_append_of_le_length (by simp; omega)]
theorem splitGo_hit (c : UInt8) {s : By} {k f : Nat} (h : k < s.length) (hc : s[k] = c) : splitGo c ((s.take k).drop f) (s.drop k) = (s.take k).drop f :: splitGo c ((s.take (k + 1)).drop (k + 1)) (s.drop (k + 1)) := by
  have e : (s.take (k + 1)).drop (k + 1) = [] := List.drop_eq_nil_of_le (by simp; omega)
  rw [List.drop_eq_getElem_cons h, splitGo, if_pos hc, e]
theorem splitGo_end (c : UInt8) (s : By) (f : Nat) : splitGo c ((s.take s.length).drop f) (s.drop s.length) = [(s.take s.length).drop f] := by
  rw [List.drop_length, splitGo]

/-- What split has in its row when it stands at k. -/
def SplI (s : By) (c : UInt8) (k f : Nat) (L : List By) : Prop := f ≤ k ∧ L.length ≤ k ∧ (k ≤ s.length → splitC c s = L ++ splitGo c ((s.take k).drop f) (s.drop k)) ∧ (k = s.length + 1 → L = splitC c s)
theorem split_any (s : By) (c : UInt8) (w : World) (hl : s.length ≤ 100000) :
    Calls Tryz.prog 51 #[txtV s, .int .u8 c.toNat] w fun e w' => ∃ v, e = .returned v ∧ RowAt w' w.heap.size 1 v (splitC c s).length ((splitC c s).flatMap txtF) ∧ (splitC c s).length ≤ s.length + 1 ∧ Ext w w' := by
  obtain ⟨X, hX⟩ : ∃ X : ByteArray, (⟨s.toArray⟩ : ByteArray) = X := ⟨_, rfl⟩
  have hN : X.size = s.length := by rw [← hX]; exact size_by s
  have HX := Lib.hid hX
  obtain ⟨i0, hi0, hz0, hz1, hz2⟩ := info_parts infoS
  change Calls Tryz.prog 51 #[.string ⟨s.toArray⟩, .int .u8 c.toNat] w _
  rw [hX]
  clear hX
  go_enter Tryz.func51, Tryz.ntmps51
  go_wp2_with fail
  go_loopw [5, 6, 7] (fun q5 q6 q7 wr => ∃ (k f : Nat) (L : List By), q7 = .int .i64 k ∧ q6 = .int .i64 f ∧ k ≤ s.length + 1 ∧ SplI s c k f L ∧ Ext w wr ∧ RowAt wr w.heap.size 1 q5 L.length (L.flatMap txtF)) (fun _ _ q7 _ => s.length + 1 - (intOf q7).toNat)
  case atStart => exact ⟨0, 0, [], rfl, rfl, by omega, ⟨Nat.le_refl _, Nat.zero_le _, fun _ => by simp [splitC], fun h => by omega⟩, Ext.refl _, RowAt.nil _ _ _ _⟩
  case round =>
    obtain ⟨k, f, L, rfl, rfl, hk, hsp, hb, hrow⟩ := hrel
    have HSP := Lib.hid hsp
    have HB := Lib.hid hb
    have HROW := Lib.hid hrow
    have hf := hsp.1
    have hL := hsp.2.1
    obtain ⟨ar, capr, rfl, _, _⟩ := hrow.shape
    have HS7 : ∀ x : By, Hid (w.heap.size ≤ (wr.alloc (.cells #[txtV x] 9)).heap.size) := fun _ => by unfold Hid; exact Nat.le_trans hb.size (((Ext.refl wr).alloc _).size)
    clear hsp hb hrow
    by_cases hlt : k ≤ s.length
    · have hEX : X.extract f k = ⟨((s.take k).drop f).toArray⟩ := by rw [← HX.out]; exact extract_by s f k
      by_cases he : k = s.length
      · have TE : ((k : Int) == (s.length : Int)) = true := by simp [he]
        have HNX : Hid (SplI s c (k + 1) (k + 1) (L ++ [(s.take k).drop f])) := ⟨Nat.le_refl _, by simp; omega, fun h => by omega, fun _ => by rw [HSP.out.2.2.1 hlt, he, splitGo_end]⟩
        generalize (s.take k).drop f = x at *
        clear he
        go_wp2_with (first
          | (at_builtin; refine wpList_append_row rfl _ _ 79 rfl w.heap.size 9 i0 (.string ⟨#[]⟩) 1 16 Tryz.underlying79 hi0 hz0 hz1 hz2 rfl (by decide) _ _ _ rfl (by exact HROW.out.ext ((Ext.refl _).alloc _) (by decide)) 1 (txtF x) (src_txt _ _ _) (by unfold maxLen; omega) (by omega) (by exact (HS7 x).out) ?_; intro v1 Wv1 rv1; have RV := Lib.hid rv1; obtain ⟨a9, cap9, rfl, _, _⟩ := rv1.1.shape; have HX9 := Lib.hid (Chg.ext_from (HB.out.alloc (.cells #[txtV x] 9)) RV.out.2.1 (fun g e => HROW.out.le g e)); clear rv1))
        go_roundw
        case rel => exact ⟨k + 1, k + 1, L ++ [x], by go_num, by go_num, by omega, HNX.out, HX9.out, by rw [List.length_append, List.length_singleton, List.flatMap_append, List.flatMap_singleton]; exact RV.out.1⟩
        case measure => simp [intOf]; omega
      · have hks : k < s.length := by omega
        have TE : ((k : Int) == (s.length : Int)) = false := beq_eq_false_iff_ne.2 (by omega)
        have HGET : X[k]'(by omega) = s[k] := by
          have : ∀ (Y : ByteArray) (hY : (⟨s.toArray⟩ : ByteArray) = Y) (h : k < Y.size), Y[k]'h = s[k] := fun Y hY h => by subst hY; exact get_by s k h hks
          exact this X HX.out _
        by_cases hc : s[k] = c
        · have HNX : Hid (SplI s c (k + 1) (k + 1) (L ++ [(s.take k).drop f])) := ⟨Nat.le_refl _, by simp; omega, fun h => by rw [HSP.out.2.2.1 hlt, splitGo_hit c hks hc, List.append_assoc, List.singleton_append], fun h => by omega⟩
          have TC : (((s[k].toNat : Nat) : Int) == (c.toNat : Int)) = true := by simp [hc]
          generalize (s.take k).drop f = x at *
          generalize s[k] = b at *
          clear he hc
          go_wp2_with (first
            | (at_builtin; refine wpList_append_row rfl _ _ 79 rfl w.heap.size 9 i0 (.string ⟨#[]⟩) 1 16 Tryz.underlying79 hi0 hz0 hz1 hz2 rfl (by decide) _ _ _ rfl (by exact HROW.out.ext ((Ext.refl _).alloc _) (by decide)) 1 (txtF x) (src_txt _ _ _) (by unfold maxLen; omega) (by omega) (by exact (HS7 x).out) ?_; intro v1 Wv1 rv1; have RV := Lib.hid rv1; obtain ⟨a9, cap9, rfl, _, _⟩ := rv1.1.shape; have HX9 := Lib.hid (Chg.ext_from (HB.out.alloc (.cells #[txtV x] 9)) RV.out.2.1 (fun g e => HROW.out.le g e)); clear rv1))
          go_roundw
          case rel => exact ⟨k + 1, k + 1, L ++ [x], by go_num, by go_num, by omega, HNX.out, HX9.out, by rw [List.length_append, List.length_singleton, List.flatMap_append, List.flatMap_singleton]; exact RV.out.1⟩
          case measure => simp [intOf]; omega
        · have HNX : Hid (SplI s c (k + 1) f L) := ⟨by omega, by omega, fun h => by rw [HSP.out.2.2.1 hlt, splitGo_next c hks hf hc], fun h => by omega⟩
          have TC : (((s[k].toNat : Nat) : Int) == (c.toNat : Int)) = false := beq_eq_false_iff_ne.2 (fun e => hc (UInt8.toNat_inj.1 (by omega)))
          generalize s[k] = b at *
          clear he hc hEX
          go_wp2_with fail
          go_roundw
          case rel => exact ⟨k + 1, f, L, by go_num, rfl, by omega, HNX.out, HB.out, HROW.out⟩
          case measure => simp [intOf]; omega
    · obtain rfl : k = s.length + 1 := by omega
      have HL : Hid (L = splitC c s) := HSP.out.2.2.2 rfl
      clear hlt
      go_wp2_with fail
      go_ret
      exact ⟨_, rfl, by rw [← HL.out]; exact HROW.out, by rw [← HL.out]; exact hL, HB.out⟩
end Go.Proofs.YtpcjkfppacnkgaaGreatDoor
end
section
/- Contract of the document's num. No condition. -/
set_option maxHeartbeats 4000000
set_option maxRecDepth 100000
namespace Go.Proofs.YtpcjkfppacnkgaaGreatDoor
open Go Go.RowKit

theorem decFrom_step {s : By} {k n d : Nat} (h : k < s.length) (hd : s[k].toNat = 48 + d) (h9 : d ≤ 9) : Lib.decFrom n (s.drop k) = Lib.decFrom (n * 10 + d) (s.drop (k + 1)) := by
  rw [List.drop_eq_getElem_cons h, Lib.decFrom]
  have : Lib.digitVal s[k] = some d := by
    unfold Lib.digitVal
    rw [hd, if_pos (by omega)]
    congr 1
    omega
  rw [this]
/-- What num has when it stands at k. -/
def NumI (s : By) (k n : Nat) : Prop := n < 10 ^ k ∧ Lib.decFrom n (s.drop k) = Lib.decFrom 0 s ∧ ∀ b ∈ s.take k, 48 ≤ b.toNat ∧ b.toNat ≤ 57
theorem NumI.next {s : By} {k n d : Nat} (h : NumI s k n) (hk : k < s.length) (hd : s[k].toNat = 48 + d) (h9 : d ≤ 9) : NumI s (k + 1) (10 * n + d) := by
  obtain ⟨h1, h2, h3⟩ := h
  refine ⟨?_, ?_, fun b hb => ?_⟩
  · rw [Nat.pow_succ]; generalize 10 ^ k = q at *; omega
  · rw [← h2, decFrom_step hk hd h9, Nat.mul_comm]
  · rw [List.take_succ_eq_append_getElem hk] at hb
    rcases List.mem_append.1 hb with hb | hb
    · exact h3 b hb
    · rw [List.mem_singleton.1 hb]; omega
theorem numG_bad {s : By} (h : ¬ (1 ≤ s.length ∧ s.length ≤ 6)) : numG s = -1 := by unfold numG; rw [if_neg (fun e => h e.1)]
theorem numG_sign {s : By} {k : Nat} (h : k < s.length) (hd : ¬ (48 ≤ s[k].toNat ∧ s[k].toNat ≤ 57)) : numG s = -1 := by
  unfold numG
  rw [if_neg (fun e => hd (e.2.1 _ (List.getElem_mem h)))]
theorem numG_end {s : By} {n : Nat} (h : NumI s s.length n) (hs : 1 ≤ s.length ∧ s.length ≤ 6) : numG s = if Lib.itoa (n : Int) = s then (n : Int) else -1 := by
  obtain ⟨h1, h2, h3⟩ := h
  rw [List.take_length] at h3
  rw [List.drop_length, Lib.decFrom] at h2
  unfold numG
  rw [← h2, Option.getD_some]
  by_cases he : Lib.itoa (n : Int) = s
  · rw [if_pos he, if_pos ⟨hs, h3, he⟩]
  · rw [if_neg he, if_neg (fun e => he e.2.2)]

theorem num_any (s : By) (w : World) (hl : s.length ≤ 100000) :
    Calls Tryz.prog 52 #[txtV s] w fun e w' => e = .returned (.int .i64 (numG s)) ∧ Ext w w' := by
  obtain ⟨r, hr⟩ : ∃ r, numG s = r := ⟨_, rfl⟩
  rw [hr]
  have HR := Lib.hid hr
  clear hr
  obtain ⟨X, hX⟩ : ∃ X : ByteArray, (⟨s.toArray⟩ : ByteArray) = X := ⟨_, rfl⟩
  have hN : X.size = s.length := by rw [← hX]; exact size_by s
  have HX := Lib.hid hX
  change Calls Tryz.prog 52 #[.string ⟨s.toArray⟩] w _
  rw [hX]
  clear hX
  by_cases h16 : 1 ≤ s.length ∧ s.length ≤ 6
  · have HW : Hid (decide ((1 : Int) ≤ (s.length : Int) ∧ (s.length : Int) ≤ 6) = true) := by unfold Hid; rw [decide_eq_true_eq]; omega
    have hl6 := h16.2
    have H16 := Lib.hid h16
    clear h16
    go_enter Tryz.func52, Tryz.ntmps52
    go_wp2_with (first
      | (go_at_call 62; refine (within_any _ _ _ _).mono ?_; rintro e w4 ⟨rfl, rfl⟩; rw [HW.out]))
    go_loopw [3, 4] (fun q3 q4 wr => ∃ (k n : Nat), q4 = .int .i64 k ∧ q3 = .int .i64 n ∧ k ≤ s.length ∧ NumI s k n ∧ w = wr) (fun _ q4 _ => s.length - (intOf q4).toNat)
    case atStart => exact ⟨0, 0, rfl, rfl, by omega, ⟨by decide, by simp, by simp⟩, rfl⟩
    case round =>
      obtain ⟨k, n, rfl, rfl, hk, hnu, rfl⟩ := hrel
      have HNU := Lib.hid hnu
      have hn6 : n < 1000000 := Nat.lt_of_lt_of_le hnu.1 (Nat.pow_le_pow_right (n := 10) (by decide) (by omega : k ≤ 6))
      clear hnu
      by_cases hks : k < s.length
      · have hn5 : n < 100000 := Nat.lt_of_lt_of_le HNU.out.1 (Nat.pow_le_pow_right (n := 10) (by decide) (by omega : k ≤ 5))
        have hGET : X[k]'(by omega) = s[k] := by
          have : ∀ (Y : ByteArray) (hY : (⟨s.toArray⟩ : ByteArray) = Y) (h : k < Y.size), Y[k]'h = s[k] := fun Y hY h => by subst hY; exact get_by s k h hks
          exact this X HX.out _
        obtain ⟨u, hu⟩ : ∃ u, s[k].toNat = u := ⟨_, rfl⟩
        have HU := Lib.hid hu
        by_cases h0 : u < 48
        · obtain rfl : r = -1 := by rw [← HR.out]; exact numG_sign hks (by omega)
          have T0 : decide ((u : Int) < 48) = true := decide_eq_true (by omega)
          generalize s[k] = b at *
          clear h0
          go_wp2_with fail
          go_ret
          exact ⟨rfl, Ext.refl _⟩
        · by_cases h9 : 57 < u
          · obtain rfl : r = -1 := by rw [← HR.out]; exact numG_sign hks (by omega)
            have T0 : decide ((u : Int) < 48) = false := decide_eq_false (by omega)
            have T1 : decide ((57 : Int) < (u : Int)) = true := decide_eq_true (by omega)
            generalize s[k] = b at *
            clear h0 h9
            go_wp2_with fail
            go_ret
            exact ⟨rfl, Ext.refl _⟩
          · obtain ⟨d, rfl⟩ : ∃ d, u = 48 + d := ⟨u - 48, by omega⟩
            have hd9 : d ≤ 9 := by omega
            have HNX : Hid (NumI s (k + 1) (10 * n + d)) := HNU.out.next hks HU.out hd9
            have T0 : decide ((((48 + d : Nat)) : Int) < 48) = false := decide_eq_false (by omega)
            have T1 : decide ((57 : Int) < (((48 + d : Nat)) : Int)) = false := decide_eq_false (by omega)
            obtain ⟨u, hu48⟩ : ∃ u, 48 + d = u := ⟨_, rfl⟩
            rw [hu48] at T0 T1 hu
            have K1 : IntKind.u8.wrap ((u : Int) - 48) = (d : Int) := by rw [IntWalk.u8_in _ (by omega)]; omega
            have K2 : IntKind.i64.wrap (10 * (n : Int) + (d : Int)) = ((10 * n + d : Nat) : Int) := by rw [IntWalk.i64_in _ (by omega)]; omega
            generalize s[k] = b at *
            clear h0 h9 hu48
            go_wp2_with fail
            go_roundw
            case rel => exact ⟨k + 1, 10 * n + d, by go_num, by go_num, by omega, HNX.out, trivial⟩
            case measure => simp [intOf]; omega
      · obtain rfl : k = s.length := by omega
        have HE := Lib.hid (numG_end HNU.out H16.out)
        have iN : I64 (n : Int) := by unfold I64; omega
        obtain ⟨t, ht⟩ : ∃ t, Lib.itoa (n : Int) = t := ⟨_, rfl⟩
        have HT := Lib.hid ht
        rw [ht] at HE
        obtain ⟨Y, hY⟩ : ∃ Y : ByteArray, (⟨t.toArray⟩ : ByteArray) = Y := ⟨_, rfl⟩
        have HY := Lib.hid hY
        clear hks ht hY
        by_cases he : t = s
        · obtain rfl : r = (n : Int) := by rw [← HR.out, HE.out, if_pos he]
          have hXY : Y = X := by rw [← HX.out, ← HY.out, he]
          clear he
          go_wp2_with (first
            | (go_at_call 13; refine (digits_val _ _ iN).mono ?_; rintro e w4 ⟨rfl, hx4⟩; rw [HT.out, HY.out, hXY]))
          go_ret
          exact ⟨rfl, hx4⟩
        · obtain rfl : r = -1 := by rw [← HR.out, HE.out, if_neg he]
          have hXY : (Y.toList == X.toList) = false := beq_eq_false_iff_ne.2 (fun e => he (by rw [← HX.out, ← HY.out, ByteArray.toList_mk, ByteArray.toList_mk] at e; exact e))
          clear he
          go_wp2_with (first
            | (go_at_call 13; refine (digits_val _ _ iN).mono ?_; rintro e w4 ⟨rfl, hx4⟩; rw [HT.out, HY.out]))
          go_ret
          exact ⟨rfl, hx4⟩
  · have HW : Hid (decide ((1 : Int) ≤ (s.length : Int) ∧ (s.length : Int) ≤ 6) = false) := by unfold Hid; rw [decide_eq_false_iff_not]; omega
    obtain rfl : r = -1 := by rw [← HR.out]; exact numG_bad h16
    clear h16
    go_enter Tryz.func52, Tryz.ntmps52
    go_wp2_with (first
      | (go_at_call 62; refine (within_any _ _ _ _).mono ?_; rintro e w4 ⟨rfl, rfl⟩; rw [HW.out]))
    go_ret
    exact ⟨rfl, Ext.refl _⟩
end Go.Proofs.YtpcjkfppacnkgaaGreatDoor
end
