/- Merged texts: contracts and plain facts, one part behind another; each part begins with what it says. -/
import Derived.Test.YtpcjkfppacnkgaaGreatDoorGJAB
import Derived.Test.YtpcjkfppacnkgaaGreatDoorGJAC
import Derived.Test.YtpcjkfppacnkgaaGreatDoorGJAK
import Derived.Test.YtpcjkfppacnkgaaGreatDoorGJAU
import Derived.Test.YtpcjkfppacnkgaaGreatDoorGJAV
import Derived.Lib.Hide
section
/- Contract of slices.ContainsFunc with forge.Prog's test: is a value out of its bounds? No condition. -/
set_option maxHeartbeats 4000000
set_option maxRecDepth 100000
namespace Go.Proofs.YtpcjkfppacnkgaaGreatDoor
open Go Go.RowKit

theorem Ints.placeOf {w : World} {S : Nat → Prop} {a : Option Addr} {l : List Int} {n c : Nat} (h : Ints w S (.slice a n c) l) {m : Nat} (hm : m < l.length) : ∃ b o, a = some ⟨b, o, none⟩ ∧ w.cell? ⟨b, o + m, none⟩ = some (.int .i64 (l.getD m 0)) := by
  obtain ⟨b, o, _, e1, _, _, _, x0, _⟩ := h.get hm
  simp only [Value.slice.injEq] at e1
  obtain ⟨rfl, -, rfl⟩ := e1
  rw [Nat.mul_one] at x0
  refine ⟨b, o, rfl, ?_⟩
  rw [x0]
  simp [List.getD, List.getElem?_eq_getElem hm]
def outB (n : Int) : Bool := decide (n < 0) || decide (999 < n)
theorem outB_any (n : Int) (w : World) : Calls Tryz.prog 58 #[.int .i64 n] w fun e w' => e = .returned (.bool (outB n)) ∧ w = w' := by
  unfold outB
  by_cases h : n < 0
  · have T : decide (n < 0) = true := decide_eq_true h
    clear h
    go_enter Tryz.func58, Tryz.ntmps58
    go_wp2_with fail
    go_ret
    exact ⟨by rw [T]; rfl, rfl⟩
  · have T : decide (n < 0) = false := decide_eq_false h
    clear h
    go_enter Tryz.func58, Tryz.ntmps58
    go_wp2_with fail
    go_ret
    exact ⟨by rw [T]; rfl, rfl⟩

theorem indexOut_any (l : List Int) (v : Value) (S : Nat → Prop) (w : World) (hl : Ints w S v l) :
    Calls Tryz.prog 101 #[v, .func (.func 58) #[] #[]] w fun e w' => (∃ i : Int, e = .returned (.int .i64 i) ∧ (0 ≤ i ↔ ∃ k, k < l.length ∧ outB (l.getD k 0) = true)) ∧ Ext w w' := by
  have HL := Lib.hid hl
  obtain ⟨pa, ca, rfl, hca, hba, _⟩ := hl
  go_enter Tryz.func101, Tryz.ntmps101
  go_wp2_with fail
  go_loopw [8] (fun q wr => ∃ k : Nat, k ≤ l.length ∧ q = .int .i64 k ∧ Ext w wr ∧ ∀ i, i < k → outB (l.getD i 0) = false) (fun q _ => l.length - (intOf q).toNat)
  case atStart => exact ⟨0, Nat.zero_le _, rfl, Ext.refl _, fun i hi => absurd hi (Nat.not_lt_zero _)⟩
  case round =>
    obtain ⟨k, hk, rfl, hb3, htk⟩ := hrel
    have HB3 := Lib.hid hb3
    have HTK := Lib.hid htk
    clear hb3 htk
    by_cases hlt : k < l.length
    · obtain ⟨ba, oa, rfl, x0⟩ := Ints.placeOf HL.out hlt
      have x1 := Ext.cell HB3.out x0
      clear x0
      obtain ⟨u, hu⟩ : ∃ u, l.getD k 0 = u := ⟨_, rfl⟩
      rw [hu] at x1
      have HU := Lib.hid hu
      clear hu
      cases h0 : outB u with
      | false =>
        have HT := Lib.hid h0
        have HX : Hid (∀ i, i < k + 1 → outB (l.getD i 0) = false) := fun i hi => by
          by_cases e : i = k
          · rw [e, HU.out]; exact h0
          · exact HTK.out i (by omega)
        clear h0
        go_wp2_with (first | (go_at_call 58; (with_reducible refine (outB_any _ _).mono ?_); rintro e w4 ⟨rfl, rfl⟩; rw [HT.out]))
        go_roundw
        case rel => exact ⟨k + 1, by omega, by go_num, HB3.out, HX.out⟩
        case measure => simp [intOf]; omega
      | true =>
        have HT := Lib.hid h0
        have HX : Hid (∃ k, k < l.length ∧ outB (l.getD k 0) = true) := ⟨k, hlt, by rw [HU.out]; exact h0⟩
        clear h0
        go_wp2_with (first | (go_at_call 58; (with_reducible refine (outB_any _ _).mono ?_); rintro e w4 ⟨rfl, rfl⟩; rw [HT.out]))
        go_ret
        exact ⟨⟨k, rfl, ⟨fun _ => HX.out, fun _ => by omega⟩⟩, HB3.out⟩
    · obtain rfl : k = l.length := by omega
      have HX : Hid (¬ ∃ k, k < l.length ∧ outB (l.getD k 0) = true) := fun ⟨k, h1, h2⟩ => by have := HTK.out k h1; rw [this] at h2; cases h2
      clear hlt
      go_wp2_with fail
      go_ret
      exact ⟨⟨-1, rfl, ⟨fun h => by omega, fun h => (HX.out h).elim⟩⟩, HB3.out⟩

theorem containsOut_any (l : List Int) (v : Value) (S : Nat → Prop) (w : World) (hl : Ints w S v l) :
    Calls Tryz.prog 57 #[v, .func (.func 58) #[] #[]] w fun e w' => e = .returned (.bool (decide (∃ v ∈ l, ¬ (0 ≤ v ∧ v ≤ 999)))) ∧ Ext w w' := by
  have HL := Lib.hid hl
  obtain ⟨pa, ca, rfl, hca, hba, _⟩ := hl
  obtain ⟨t, ht⟩ : ∃ t, decide (∃ v ∈ l, ¬ (0 ≤ v ∧ v ≤ 999)) = t := ⟨_, rfl⟩
  rw [ht]
  have HT : Hid (decide (∃ k, k < l.length ∧ outB (l.getD k 0) = true) = t) := by
    unfold Hid
    rw [← ht]
    refine decide_eq_decide.2 ⟨fun ⟨k, h1, h2⟩ => ⟨l[k], List.getElem_mem h1, ?_⟩, fun ⟨v, hv, h2⟩ => ?_⟩
    · rw [show l.getD k 0 = l[k] by simp [List.getD, List.getElem?_eq_getElem h1]] at h2
      unfold outB at h2
      rw [Bool.or_eq_true] at h2
      rcases h2 with h2 | h2
      · have := of_decide_eq_true h2; omega
      · have := of_decide_eq_true h2; omega
    · obtain ⟨k, h1, e⟩ := List.getElem_of_mem hv
      refine ⟨k, h1, ?_⟩
      rw [show l.getD k 0 = l[k] by simp [List.getD, List.getElem?_eq_getElem h1], e]
      unfold outB
      rw [Bool.or_eq_true]
      by_cases h0 : v < 0
      · exact .inl (decide_eq_true h0)
      · exact .inr (decide_eq_true (by omega))
  clear ht
  go_enter Tryz.func57, Tryz.ntmps57
  go_wp2_with (first
    | (go_at_call 101; (with_reducible refine (indexOut_any l _ S _ HL.out).mono ?_); rintro e w2 ⟨⟨i, rfl, hi⟩, hx⟩; have HI := Lib.hid hi; clear hi))
  go_ret
  refine ⟨?_, hx⟩
  exact congrArg (fun b => Ending.returned (.bool b)) ((decide_eq_decide.2 HI.out).trans HT.out)
end Go.Proofs.YtpcjkfppacnkgaaGreatDoor
end
section
/- Contract of forge.Prog. No condition. -/
set_option maxHeartbeats 4000000
set_option maxRecDepth 100000
namespace Go.Proofs.YtpcjkfppacnkgaaGreatDoor
open Go Go.RowKit

def pushO (v : Int) : GOp := ⟨0, v⟩
theorem take_push (vals : List Int) {k : Nat} (h : k < vals.length) : (vals.take (k + 1)).map pushO = (vals.take k).map pushO ++ [⟨0, vals.getD k 0⟩] := by
  rw [List.take_add_one, List.map_append, List.getElem?_eq_getElem h]
  simp [pushO, List.getD, List.getElem?_eq_getElem h]

/-- Two functions in a row. -/
theorem funcs_two {w : World} {S : Nat → Prop} {g : Nat} {F G : GFunc} {vf vg : Value} (hg : S g) (c0 : w.cell? ⟨g, 0, none⟩ = some (.int .i64 F.args)) (c1 : w.cell? ⟨g, 1, none⟩ = some (.int .i64 F.locals)) (c2 : w.cell? ⟨g, 2, none⟩ = some vf)
    (d0 : w.cell? ⟨g, 3, none⟩ = some (.int .i64 G.args)) (d1 : w.cell? ⟨g, 4, none⟩ = some (.int .i64 G.locals)) (d2 : w.cell? ⟨g, 5, none⟩ = some vg) (iF : I64 F.args ∧ I64 F.locals) (iG : I64 G.args ∧ I64 G.locals) (hF : Ops w S vf F.code) (hG : Ops w S vg G.code) :
    Funcs w S (.slice (some ⟨g, 0, none⟩) 2 2) [F, G] := by
  refine ⟨_, _, rfl, Nat.le_refl _, by simp, fun i hi => ⟨g, 0, rfl, ?_⟩⟩
  match i, hi with
  | 0, _ => exact ⟨⟨hg, c0, iF.1⟩, ⟨hg, c1, iF.2⟩, vf, c2, hF⟩
  | 1, _ => exact ⟨⟨hg, d0, iG.1⟩, ⟨hg, d1, iG.2⟩, vg, d2, hG⟩

theorem main_i64 {vals : List Int} (hv : ∀ v ∈ vals, 0 ≤ v ∧ v ≤ 999) : ∀ y ∈ (mainF vals).code, I64 y.kind ∧ I64 y.a := by
  intro y hy
  simp only [mainF, List.mem_append, List.mem_map, List.mem_cons, List.not_mem_nil, or_false] at hy
  rcases hy with ⟨v, hv', rfl⟩ | rfl | rfl
  · have := hv v hv'
    exact ⟨I64.small (show (-1000000 : Int) ≤ 0 by decide) (show (0 : Int) ≤ 1000000 by decide), I64.small (by show -1000000 ≤ v; omega) (by show v ≤ 1000000; omega)⟩
  · exact ⟨I64.small (by decide) (by decide), I64.small (by decide) (by decide)⟩
  · exact ⟨I64.small (by decide) (by decide), I64.small (by decide) (by decide)⟩

end Go.Proofs.YtpcjkfppacnkgaaGreatDoor
end
section
/- forge.Of and forge.Prog: what they give lies in rows of its own. No condition. -/
set_option maxHeartbeats 4000000
set_option maxRecDepth 100000
namespace Go.Proofs.YtpcjkfppacnkgaaGreatDoor
open Go Go.RowKit

/-- A function whose ops lie in a row of its own. -/
def OwnF (w : World) (B : Nat) (x : Value) (F : GFunc) : Prop := ∃ vc, x = .agg #[.int .i64 F.args, .int .i64 F.locals, vc] ∧ I64 F.args ∧ I64 F.locals ∧ RowAt w B 2 vc F.code.length (F.code.flatMap opF) ∧ (∀ y ∈ F.code, I64 y.kind ∧ I64 y.a) ∧ F.code.length ≤ 10000
theorem forgeOf_own (t : ETree) (n : Nat) (ht : t.fits) (ho : t.nodes n) (h9 : t.flat.length ≤ 9) (hn : n ≤ 4) (v : Value) (S : Nat → Prop) (w : World) (hp : Nodes w S v t.flat) :
    Calls Tryz.prog 60 #[v, .int .i64 n] w fun e w' => (∃ x, e = .returned x ∧ OwnF w' w.heap.size x (t.func n)) ∧ Ext w w' := by
  have hp' : Nodes w (· < w.heap.size) v t.flat := Nodes.stays (S := S) (fun b o u _ hc => ⟨hc, lt_of_cell hc⟩) hp
  have HI := Lib.hid (func_i64 t ht ho h9 hn)
  have hc := t.cost_le
  have HCL := Lib.hid (show t.cost ≤ 12 by omega)
  have HMK := Lib.hid (make_any n t ht ho)
  obtain ⟨a, cap, rfl, _, _, _⟩ := hp
  have RA := alloc_keep
  obtain ⟨w2, hw2⟩ : ∃ w2, w2 = (w.alloc (.cells #[.int .i64 0, .int .i64 0, .slice none 0 0] 49)).alloc (.cells #[.slice a t.flat.length cap, .slice none 0 0] 103) := ⟨_, rfl⟩
  have hs1 : (w.alloc (.cells #[.int .i64 0, .int .i64 0, .slice none 0 0] 49)).heap.size = w.heap.size + 1 := Array.size_push _
  have he12 : Ext (w.alloc (.cells #[.int .i64 0, .int .i64 0, .slice none 0 0] 49)) w2 := by rw [hw2]; exact (Ext.refl _).alloc _
  have hE2 : Ext w w2 := ((Ext.refl w).alloc _).trans he12
  have r0 := (Cx.new w [.int .i64 0, .int .i64 0, .slice none 0 0] 49 (j := 0) rfl).ext he12
  have r1 := (Cx.new w [.int .i64 0, .int .i64 0, .slice none 0 0] 49 (j := 1) rfl).ext he12
  have r2 := (Cx.new w [.int .i64 0, .int .i64 0, .slice none 0 0] 49 (j := 2) rfl).ext he12
  have s0 := Cx.new (w.alloc (.cells #[.int .i64 0, .int .i64 0, .slice none 0 0] 49)) [.slice a t.flat.length cap, .slice none 0 0] 103 (j := 0) rfl
  have s1 := Cx.new (w.alloc (.cells #[.int .i64 0, .int .i64 0, .slice none 0 0] 49)) [.slice a t.flat.length cap, .slice none 0 0] 103 (j := 1) rfl
  rw [hs1] at s0 s1
  have HW2 : Hid ((w.alloc (.cells #[.int .i64 0, .int .i64 0, .slice none 0 0] 49)).alloc (.cells #[.slice a t.flat.length cap, .slice none 0 0] 103) = w2) := hw2.symm
  have hsm : Smi w2 (· < w.heap.size) (w.heap.size + 1) (t.flat ++ []) [] (.slice a t.flat.length cap) (.slice none 0 0) := by
    rw [hw2]
    refine ⟨s0, s1, ?_, RowAt.nil _ _ _ _⟩
    rw [List.append_nil, ← hw2]
    exact Nodes.stays hE2.stays hp'
  have HSM := Lib.hid hsm
  have HR := Lib.hid (⟨r0, r1, r2⟩ : _ ∧ _ ∧ _)
  have HE2 := Lib.hid hE2
  have HLS : Hid (∀ b, b < w.heap.size → b < w.heap.size + 1) := fun b hb => by omega
  clear hp' ht ho h9 hc hw2 hs1 he12 hE2 r0 r1 r2 s0 s1 hsm
  go_enter Tryz.func60, Tryz.ntmps60
  go_upto_region 2 with fail
  rw [HW2.out]
  go_upto_region 3 with (first
    | (go_at_call 102; (with_reducible refine (MakeC.call HMK.out HLS.out HSM.out (by have := HCL.out; simp; omega)).mono ?_); rintro e w3 ⟨rfl, v3, vc3, hs3, hc3, hg3⟩; rw [List.nil_append, List.length_nil] at hs3))
  go_upto_region 4 with (first
    | (go_at_call 59; (with_reducible refine (smithOp_any _ _ HLS.out hs3 (by have := HCL.out; rw [t.laid_len]; omega)).mono ?_); rintro e w4 ⟨rfl, vc4, hs4, hc4, hg4⟩))
  have hC := MS.trans hc3 hg3 hc4
  have hne : ¬ MS (w.heap.size + 1) (.slice none 0 0) w.heap.size := fun h => by
    rcases h with h | h
    · omega
    · cases h
  have d0 := (HR.out.1).chg hC hne
  have d1 := (HR.out.2.1).chg hC hne
  have d2 := (HR.out.2.2).chg hC hne
  obtain ⟨d0, d0'⟩ := d0
  obtain ⟨d1, d1'⟩ := d1
  obtain ⟨d2, d2'⟩ := d2
  have hE4 : Ext w w4 := Chg.ext_from HE2.out hC (fun b h => by
    rcases h with h | h
    · omega
    · cases h)
  have hrow := hs4.row
  obtain ⟨ac, cc, rfl, _, _⟩ := hrow.shape
  have x1 := hs4.c1.1
  obtain ⟨L, hL⟩ : ∃ L, (t.laid 0 ++ [(⟨12, 0⟩ : GOp)]).length = L := ⟨_, rfl⟩
  rw [hL] at x1
  have hrow2 : RowAt w4 (w.heap.size + 1 + 1) 2 (.slice ac L cc) (t.func n).code.length ((t.func n).code.flatMap opF) := by rw [← hL]; exact hrow
  have HROW := Lib.hid hrow2
  have HE4 := Lib.hid hE4
  have HCL2 : Hid ((t.func n).code.length ≤ 13) := by unfold Hid ETree.func; simp only [List.length_append, t.laid_len, List.length_singleton]; have := HCL.out; omega
  clear hs3 hc3 hg3 hs4 hc4 hg4 hC hne hrow hrow2 hE4 hL
  go_wp2_with fail
  refine bodyPost_ret (results_cell_mid rfl _ _ w.heap.size 0 _ _ rfl (box3 ⟨d0, d0'⟩ ⟨d1, d1'⟩ ⟨d2, d2'⟩ _ _ _) rfl rfl (by kernel_rfl)) rfl ?_
  refine ⟨⟨_, rfl, _, rfl, I64.small (by show (-1000000 : Int) ≤ n; omega) (by show (n : Int) ≤ 1000000; omega), I64.small (by show (-1000000 : Int) ≤ n; omega) (by show (n : Int) ≤ 1000000; omega), ?_, HI.out, by have := HCL2.out; omega⟩, ext3 HE4.out _ _ _⟩
  refine RowAt.mono (RowAt.chg (M := (· = w.heap.size)) HROW.out (chg3 _ _ _ _ _) (fun g e hg => ?_) (by decide)) (by omega)
  have h1 := HROW.out.le _ e
  omega

theorem forgeProg_own (es : List GNode) (vals : List Int) (v vv : Value) (S : Nat → Prop) (w : World) (hp : Nodes w S v es) (hv : Ints w S vv vals) :
    Calls Tryz.prog 22 #[v, vv] w fun e w' => (∃ x fs, e = .returned (.tuple #[x, .int .i64 (forgeErr es vals)]) ∧ PRow w' w.heap.size x fs ∧ fs.map Prod.fst = forgePr es vals) ∧ Ext w w' := by
  have HP := Lib.hid hp
  have HV := Lib.hid hv
  have hI : I64 vals.length := by obtain ⟨a, cap, _, hcap, hby, _⟩ := id hv; unfold I64; omega
  obtain ⟨a, cap, rfl, _, _, _⟩ := hp
  obtain ⟨va, vcap, rfl, _, _, _⟩ := hv
  have RA := alloc_keep
  by_cases h0 : exprErr es vals.length = 0
  · have H0 := Lib.hid h0
    by_cases hex : ∃ v ∈ vals, ¬ (0 ≤ v ∧ v ≤ 999)
    · have HF : Hid (forgeErr es vals = 3 ∧ forgePr es vals = []) := by
        have e : forgeErr es vals = 3 := by unfold forgeErr; rw [if_neg (fun h => h h0), if_pos hex]
        refine ⟨e, ?_⟩
        unfold forgePr
        rw [e, if_neg (by decide)]
      have TD : Hid (decide (∃ v ∈ vals, ¬ (0 ≤ v ∧ v ≤ 999)) = true) := decide_eq_true hex
      rw [HF.out.1, HF.out.2]
      clear h0 hex
      go_enter Tryz.func22, Tryz.ntmps22
      go_wp2_with (first
        | (go_at_call 56; (with_reducible refine (exprCheck_any es _ S vals.length _ HP.out hI).mono ?_); rintro e w2 ⟨rfl, hb2⟩; rw [H0.out])
        | (go_at_call 57; (with_reducible refine (containsOut_any vals _ S _ (Ints.stays hb2.stays HV.out)).mono ?_); rintro e w3 ⟨rfl, hb3⟩; rw [TD.out]))
      go_ret2
      exact ⟨⟨_, [], rfl, PRow.nil _ _, rfl⟩, hb2.trans hb3⟩
    · obtain ⟨t, ht, he, htr, h9, hl0, hl4, ho⟩ := exprErr_tree h0
      rw [Int.toNat_natCast] at ho
      have hvv : ∀ v ∈ vals, 0 ≤ v ∧ v ≤ 999 := fun v hv => by
        by_cases h : 0 ≤ v ∧ v ≤ 999
        · exact h
        · exact absurd ⟨v, hv, h⟩ hex
      have HF : Hid (forgeErr es vals = 0 ∧ forgePr es vals = [mainF vals, t.func vals.length]) := by
        have e : forgeErr es vals = 0 := by unfold forgeErr; rw [if_neg (fun h => h h0), if_neg hex]
        refine ⟨e, ?_⟩
        unfold forgePr
        rw [e, if_pos rfl, htr]
      have TD : Hid (decide (∃ v ∈ vals, ¬ (0 ≤ v ∧ v ≤ 999)) = false) := decide_eq_false hex
      have HOF := Lib.hid (fun (w' : World) (h : Ext w w') => forgeOf_own t vals.length ht ho h9 (by omega) (.slice a es.length cap) S w' (by rw [← he]; exact Nodes.stays h.stays HP.out))
      have HMI := Lib.hid (main_i64 hvv)
      have hv4 : vals.length ≤ 4 := by omega
      rw [HF.out.1, HF.out.2]
      clear h0 hex he htr ho h9 ht hl0 hl4 hvv
      go_enter Tryz.func22, Tryz.ntmps22
      go_upto_region 7 with (first
        | (go_at_call 56; (with_reducible refine (exprCheck_any es _ S vals.length _ HP.out hI).mono ?_); rintro e w2 ⟨rfl, hb2⟩; rw [H0.out])
        | (go_at_call 57; (with_reducible refine (containsOut_any vals _ S _ (Ints.stays hb2.stays HV.out)).mono ?_); rintro e w3 ⟨rfl, hb3⟩; rw [TD.out]))
      have hE3 := hb2.trans hb3
      clear hb2 hb3
      have s0 := Cx.new w3 [.slice none 0 0, .slice none 0 0] 103 (j := 0) rfl
      have s1 := Cx.new w3 [.slice none 0 0, .slice none 0 0] 103 (j := 1) rfl
      have hE5 : Ext w (w3.alloc (.cells #[.slice none 0 0, .slice none 0 0] 103)) := hE3.alloc _
      have hRw := hE3.size
      obtain ⟨R, hR⟩ : ∃ R, w3.heap.size = R := ⟨_, rfl⟩
      rw [hR] at s0 s1 hRw ⊢
      generalize w3.alloc (.cells #[.slice none 0 0, .slice none 0 0] 103) = w5 at *
      have HSM : Hid (Smi w5 (fun _ => False) R [] ((vals.take 0).map pushO) (.slice none 0 0) (.slice none 0 0)) := ⟨s0, s1, Sl.nil _ _ _, RowAt.nil _ _ _ _⟩
      have HE5 := Lib.hid hE5
      clear s0 s1 hE3 hE5 hR
      have HLS : Hid (∀ b, (fun _ => False : Nat → Prop) b → b < R) := fun b hb => hb.elim
      go_wp2_with fail
      go_loopw [23] (fun q wr => ∃ k : Nat, k ≤ vals.length ∧ q = .int .i64 k ∧ ∃ vc, Smi wr (fun _ => False) R [] ((vals.take k).map pushO) (.slice none 0 0) vc ∧ Chg (MS R (.slice none 0 0)) w5 wr ∧ Grows w5 (.slice none 0 0) vc) (fun q _ => vals.length - (intOf q).toNat)
      case atStart => exact ⟨0, Nat.zero_le _, rfl, _, HSM.out, Chg.refl _ _, Grows.refl _ _⟩
      case round =>
        obtain ⟨k, hk, rfl, vc, hsm, hch, hgr⟩ := hrel
        have hER : Ext w wr := Chg.ext_from HE5.out hch (fun b h => by
          rcases h with h | h
          · omega
          · cases h)
        have HER := Lib.hid hER
        have HCH := Lib.hid hch
        have HGR := Lib.hid hgr
        have HS2 := Lib.hid hsm
        clear hER hch hgr hsm
        have hkl : ((vals.take k).map pushO).length ≤ 4 := by rw [List.length_map, List.length_take]; omega
        by_cases hlt : k < vals.length
        · obtain ⟨bw, ow, e2, x0⟩ := Ints.placeOf (Ints.stays HER.out.stays HV.out) hlt
          subst e2
          have HTK := Lib.hid (take_push vals hlt)
          generalize vals.getD k 0 = u at *
          go_wp2_with (first
            | (go_at_call 59; (with_reducible refine (smithOp_any _ _ HLS.out HS2.out (by omega)).mono ?_); rintro e w6 ⟨rfl, vc6, hs6, hc6, hg6⟩; rw [← HTK.out] at hs6))
          go_roundw
          case rel => exact ⟨k + 1, by omega, by go_num, vc6, hs6, MS.trans HCH.out HGR.out hc6, HGR.out.trans HCH.out hg6⟩
          case measure => simp [intOf]; omega
        · obtain rfl : k = vals.length := by omega
          clear hlt hk
          go_upto_region 14 with (first
            | (go_at_call 59; (with_reducible refine (smithOp_any _ _ HLS.out hs6 (by rw [List.length_append]; simp only [List.length_singleton]; omega)).mono ?_); rintro e w7 ⟨rfl, vc7, hs7, hc7, hg7⟩; have HC7 := Lib.hid (MS.trans HC6.out HG6.out hc7))
            | (go_at_call 59; (with_reducible refine (smithOp_any _ _ HLS.out HS2.out (by omega)).mono ?_); rintro e w6 ⟨rfl, vc6, hs6, hc6, hg6⟩; have HC6 := Lib.hid (MS.trans HCH.out HGR.out hc6); have HG6 := Lib.hid (HGR.out.trans HCH.out hg6)))
          have hcode : ((vals.take vals.length).map pushO) ++ [⟨11, 1⟩] ++ [⟨12, 0⟩] = (mainF vals).code := by
            rw [List.take_length, List.append_assoc]
            rfl
          rw [hcode] at hs7
          obtain ⟨ac, cc, rfl, _, _⟩ := hs7.row.shape
          have x1 := hs7.c1.1
          have hE7 : Ext w w7 := Chg.ext_from HE5.out HC7.out (fun b h => by
            rcases h with h | h
            · omega
            · cases h)
          obtain ⟨L, hL⟩ : ∃ L, (mainF vals).code.length = L := ⟨_, rfl⟩
          have hrow : RowAt w7 (R + 1) 2 (.slice ac L cc) (mainF vals).code.length ((mainF vals).code.flatMap opF) := by rw [← hL]; exact hs7.row
          rw [hL] at x1
          have hLb : (mainF vals).code.length * 16 ≤ 140737488355328 := by simp only [mainF, List.length_append, List.length_map, List.length_cons, List.length_nil]; omega
          have hops := hrow.mono (base' := w.heap.size) (by omega)
          have HE7 := Lib.hid hE7
          have HOP := Lib.hid hops
          clear hs6 hc6 hg6 hs7 hc7 hg7 hcode hE7 hrow hLb hops HS2 HCH HGR HC6 HG6 HC7 HSM
          refine wp_region_rt (fun w' => w'.cell? ⟨R, 1, none⟩ = some (.slice ac L cc)) 11 [0, 1, 2, 3, 4, 5, 6, 7] [8, 9, 10, 11] (by kernel_rfl) (by kernel_rfl) (fun _ _ _ _ _ h => h) (by simpa using x1) ?_
          (try simp only [pickOps, List.filterMap_cons, List.filterMap_nil, List.getElem?_cons_zero, List.getElem?_cons_succ])
          repeat (
            refine readsQ_do (by rfl) ?_
            apply Exists.intro
            refine ⟨fun w' hw' => ?_, ?_⟩
            focus
              (try dsimp only at hw')
              go_split_ands
              go_simp
              (try with_reducible rfl)
            (try dsimp only [Act.put])
            (try simp only [List.setIfInBounds_toArray, List.set_cons_succ, List.set_cons_zero]))
          refine readsQ_nil ?_
          refine tailW_step ?_
          go_wp2_with (first
            | (go_at_call 60; (with_reducible refine (HOF.out _ (HE7.out.trans (Ext.refl _).drew)).mono ?_); rintro e w8 ⟨⟨x, rfl, hx⟩, hb8⟩; obtain ⟨s, rfl, ix, iy, hops, hi8, hn8⟩ := hx; obtain ⟨sa, cs, rfl, _, _⟩ := (⟨hops.shape, trivial⟩ : _ ∧ True).1))
          have hx8 := Ext.cell (((Ext.refl w7).drew).trans hb8) x1
          refine nextW_go (by exact hx8) ?_
          refine tailW_step ?_
          go_wp2_with fail
          have hgl := hb8.size
          have hw7 := HE7.out.size
          have hw7' : w.heap.size ≤ w7.drew.heap.size := hw7
          have hg78 : w7.heap.size ≤ w8.heap.size := hgl
          have hLb' : (mainF vals).code.length ≤ 10000 := by simp only [mainF, List.length_append, List.length_map, List.length_cons, List.length_nil]; omega
          have hg8 : w.heap.size ≤ w8.heap.size := by have : w7.drew.heap.size = w7.heap.size := rfl; omega
          have hq9 : Ext w8 (w8.alloc (.cells #[.int .i64 0, .int .i64 0, .slice ac L cc, .int .i64 (t.func vals.length).args, .int .i64 (t.func vals.length).locals, .slice sa (t.func vals.length).code.length cs] 49)) := (Ext.refl _).alloc _
          have hrw := RowAt.made w8 #[.int .i64 0, .int .i64 0, .slice ac L cc, .int .i64 (t.func vals.length).args, .int .i64 (t.func vals.length).locals, .slice sa (t.func vals.length).code.length cs] 49 3 2 w.heap.size hg8 (by decide) (by simp)
          generalize (w8.alloc (.cells #[.int .i64 0, .int .i64 0, .slice ac L cc, .int .i64 (t.func vals.length).args, .int .i64 (t.func vals.length).locals, .slice sa (t.func vals.length).code.length cs] 49)) = w9 at *
          have hE79 : Ext w7 w9 := ((Ext.refl w7).drew.trans hb8).trans hq9
          have hx9 := Ext.cell hE79 x1
          have hlt7 := RowAt.lt HOP.out (by decide)
          have hF : PRow w9 w.heap.size (.slice (some ⟨w8.heap.size, 0, none⟩) 2 2) [(mainF vals, .slice ac L cc), (t.func vals.length, .slice sa (t.func vals.length).code.length cs)] := by
            refine ⟨hrw, fun y hy => ?_, ?_, by simp⟩
            · simp only [List.mem_cons, List.not_mem_nil, or_false] at hy
              rcases hy with rfl | rfl
              · exact ⟨I64.small (show (-1000000 : Int) ≤ 0 by decide) (show (0 : Int) ≤ 1000000 by decide), I64.small (show (-1000000 : Int) ≤ 0 by decide) (show (0 : Int) ≤ 1000000 by decide), HOP.out.ext hE79 (by decide), HMI.out, hLb'⟩
              · exact ⟨ix, iy, (hops.ext hq9 (by decide)).mono hw7', hi8, hn8⟩
            · simp only [List.flatMap_cons, List.flatMap_nil, List.append_nil]
              have e1 : ∀ g ∈ (rowBlock (.slice ac L cc)).toList, g < w7.heap.size := fun g hg => hlt7 g (by simpa using hg)
              have e2 : ∀ g ∈ (rowBlock (.slice sa (t.func vals.length).code.length cs)).toList, w7.heap.size ≤ g ∧ g < w8.heap.size := fun g hg => ⟨hops.le g (by simpa using hg), RowAt.lt hops (by decide) g (by simpa using hg)⟩
              have e0 : (rowBlock (.slice (some ⟨w8.heap.size, 0, none⟩) 2 2)).toList = [w8.heap.size] := rfl
              rw [e0]
              refine List.nodup_append.2 ⟨by simp, List.nodup_append.2 ⟨by cases rowBlock (.slice ac L cc) <;> simp, by cases rowBlock (.slice sa (t.func vals.length).code.length cs) <;> simp, fun a ha b hb e => ?_⟩, fun a ha b hb e => ?_⟩
              · have := e1 a ha; have := e2 b hb; omega
              · rw [List.mem_singleton] at ha
                rcases List.mem_append.1 hb with h1 | h1
                · have := e1 b h1; omega
                · have := e2 b h1; omega
          have HF9 := Lib.hid hF
          have HE79 := Lib.hid hE79
          clear hF hE79 hops hrw
          refine nextW_go (by exact hx9) ?_
          refine tailW_step ?_
          go_wp2_with fail
          refine nextW_go (by exact hx9) ?_
          refine tailW_step ?_
          go_wp2_with fail
          refine nextW_end ?_
          go_wp2_with fail
          go_ret2
          exact ⟨⟨_, _, rfl, HF9.out, rfl⟩, HE7.out.trans HE79.out⟩
  · have HF : Hid (forgeErr es vals = exprErr es vals.length ∧ forgePr es vals = []) := by
      have e : forgeErr es vals = exprErr es vals.length := by unfold forgeErr; rw [if_pos h0]
      refine ⟨e, ?_⟩
      unfold forgePr
      rw [e, if_neg h0]
    rw [HF.out.1, HF.out.2]
    obtain ⟨r, hr⟩ : ∃ r, exprErr es vals.length = r := ⟨_, rfl⟩
    rw [hr] at h0 ⊢
    have HR := Lib.hid hr
    have TB : (r != 0) = true := bne_iff_ne.2 h0
    clear h0 hr HF
    go_enter Tryz.func22, Tryz.ntmps22
    go_wp2_with (first
      | (go_at_call 56; (with_reducible refine (exprCheck_any es _ S vals.length _ HP.out hI).mono ?_); rintro e w2 ⟨rfl, hb2⟩; rw [HR.out]))
    go_ret2
    exact ⟨⟨_, [], rfl, PRow.nil _ _, rfl⟩, hb2⟩
end Go.Proofs.YtpcjkfppacnkgaaGreatDoor
end
section
/- Contract of the document's laid: a tree's ops, in a row of its own. No condition but that there is room. -/
set_option maxHeartbeats 4000000
set_option maxRecDepth 100000
namespace Go.Proofs.YtpcjkfppacnkgaaGreatDoor
open Go Go.RowKit

theorem RowAt.srcO {w : World} {base : Nat} {v : Value} {n : Nat} {l : List GOp} (h : RowAt w base 2 v n (l.flatMap opF)) : SrcSl w 2 v n (l.flatMap opF) := by
  obtain ⟨hl, a, cap, rfl, h1, h2, h3⟩ := h
  refine ⟨a, cap, rfl, hl, fun u hu => ?_, ?_⟩
  · obtain ⟨y, _, hy⟩ := List.mem_flatMap.1 hu
    simp only [opF, List.mem_cons, List.not_mem_nil, or_false] at hy
    rcases hy with rfl | rfl <;> rfl
  · by_cases hn : n = 0
    · exact .inl hn
    · obtain ⟨g, o, rfl, hb, hc, ht⟩ := h3.resolve_left (by omega)
      refine .inr ⟨_, rfl, fun j u hj => ?_⟩
      have hjl : j < (l.flatMap opF).length := (List.getElem?_eq_some_iff.1 hj).1
      have e : (⟨g, o, none⟩ : Addr).add j = ⟨g, o + j, none⟩ := by simp [Addr.add]
      rw [e, ← hj]
      exact hc j (by omega)
theorem SrcSl.upE {w w' : World} {size : Nat} {x : Value} {m : Nat} {news : List Value} (h : SrcSl w size x m news) (he : Ext w w') : SrcSl w' size x m news := by
  obtain ⟨a, c, rfl, h1, h2, h3⟩ := h
  refine ⟨a, c, rfl, h1, h2, h3.imp id fun ⟨ad, e, h⟩ => ⟨ad, e, fun j u hj => ?_⟩⟩
  rw [← h j u hj]
  exact Ext.keep he _ (by rw [h j u hj]; rfl)
/-- A row that grows, seen from the world where it began. -/
theorem NewRow.on {W0 W W' : World} {v v' : Value} {n m : Nat} {xs ys : List Value} (hE : Ext W0 W) (hr : RowAt W W0.heap.size 2 v m ys) (hn : NewRow W W' W0.heap.size 2 v v' n xs) : RowAt W' W0.heap.size 2 v' n xs ∧ Ext W0 W' :=
  ⟨hn.1, Chg.ext_from hE hn.2.1 (fun q e => hr.le q e)⟩

def LaidC (t : ETree) : Prop := ∀ (S : Nat → Prop) (rest : List GNode) (w : World) (v : Value) (k : Nat), Nodes w S v (t.flat ++ rest) → k + t.cost ≤ 1000 →
  Calls Tryz.prog 104 #[v, .int .i64 k] w fun e w' => (∃ v1 v2, e = .returned (.tuple #[v1, v2]) ∧ RowAt w' w.heap.size 2 v1 t.cost ((t.laid k).flatMap opF) ∧ Nodes w' S v2 rest) ∧ Ext w w'
theorem LaidC.call {t : ETree} (h : LaidC t) {S : Nat → Prop} {rest : List GNode} {w : World} {v : Value} (k : Nat) (hv : Nodes w S v (t.flat ++ rest)) (hk : k + t.cost ≤ 1000) :
    Calls Tryz.prog 104 #[v, .int .i64 k] w fun e w' => (∃ v1 v2, e = .returned (.tuple #[v1, v2]) ∧ RowAt w' w.heap.size 2 v1 t.cost ((t.laid k).flatMap opF) ∧ Nodes w' S v2 rest) ∧ Ext w w' := h S rest w v k hv hk

theorem laid_leaf (n : Nat) (x : GNode) (hx : sizeN x.kind = 0) (ho : (ETree.leaf x).nodes n) : LaidC (.leaf x) := by
  intro S rest w v k hv _
  have e0 : Ext w (w.alloc (.cells #[.int .i64 x.kind, .int .i64 x.n] 140)) := (Ext.refl w).alloc _
  rw [show (ETree.leaf x).flat ++ rest = x :: rest from rfl] at hv
  obtain ⟨b, o, cap, rfl, hcap, hby, ⟨_, g0, _⟩, _, g1, _⟩ := hv.get (i := 0) (by simp)
  have HV := Lib.hid (Nodes.stays (T := S) e0.drew.stays hv.tail)
  have hk : x.kind = 0 ∨ x.kind = 1 := by
    have h := ho x (by simp [ETree.flat])
    unfold sizeN at hx
    split at hx
    · omega
    · split at hx <;> omega
  clear hx hv ho
  have RA := alloc_keep
  simp only [List.length_cons, Nat.zero_mul, Nat.add_zero, List.getElem_cons_zero] at g0 g1 hcap ⊢
  have hsz : (w.alloc (.cells #[.int .i64 x.kind, .int .i64 x.n] 140)).heap.size = w.heap.size + 1 := Array.size_push _
  have HRW : Hid (∀ kk : Int, RowAt ((w.alloc (.cells #[.int .i64 x.kind, .int .i64 x.n] 140)).alloc (.cells #[.int .i64 kk, .int .i64 x.n] 51)).drew w.heap.size 2 (.slice (some ⟨w.heap.size + 1, 0, none⟩) 1 1) 1 ([(⟨kk, x.n⟩ : GOp)].flatMap opF)) := fun kk => by
    have h := RowAt.made (w.alloc (.cells #[.int .i64 x.kind, .int .i64 x.n] 140)) #[.int .i64 kk, .int .i64 x.n] 51 2 1 w.heap.size (by omega) (by unfold maxLen; omega) rfl
    rw [hsz] at h
    exact h.ext (Ext.refl _).drew (by decide)
  have HEX : Hid (∀ kk : Int, Ext (w.alloc (.cells #[.int .i64 x.kind, .int .i64 x.n] 140)).drew ((w.alloc (.cells #[.int .i64 x.kind, .int .i64 x.n] 140)).alloc (.cells #[.int .i64 kk, .int .i64 x.n] 51)).drew) := fun kk => ⟨rfl, rfl, rfl, by show (w.alloc _).heap.size ≤ ((w.alloc _).alloc _).heap.size; exact ((Ext.refl _).alloc _).size, fun i hi => ((Ext.refl (w.alloc (.cells #[.int .i64 x.kind, .int .i64 x.n] 140))).alloc _).block i hi⟩
  clear hsz
  rcases hk with hk | hk
  · have HT : Hid ((ETree.leaf x).laid k = [⟨0, x.n⟩]) := by unfold Hid ETree.laid; rw [if_pos hk]
    have T0 : (x.kind == 0) = true := by simp [hk]
    clear hk
    by_cases hc1 : cap = 1
    all_goals (first | rw [if_neg hc1] at HV | (rw [if_pos hc1] at HV; subst hc1; obtain rfl : rest = [] := List.eq_nil_of_length_eq_zero (by omega)))
    all_goals
      go_enter Tryz.func104, Tryz.ntmps104
      go_wp2
      go_region
      go_wp2
      go_ret2
      rw [HT.out]
      exact ⟨⟨_, _, rfl, HRW.out 0, Nodes.stays (HEX.out 0).stays HV.out⟩, (e0.alloc _).drew⟩
  · have HT : Hid ((ETree.leaf x).laid k = [⟨2, x.n⟩]) := by unfold Hid ETree.laid; rw [if_neg (by omega)]
    have T0 : (x.kind == 0) = false := by simp [hk]
    have T1 : (x.kind == 1) = true := by simp [hk]
    clear hk
    by_cases hc1 : cap = 1
    all_goals (first | rw [if_neg hc1] at HV | (rw [if_pos hc1] at HV; subst hc1; obtain rfl : rest = [] := List.eq_nil_of_length_eq_zero (by omega)))
    all_goals
      go_enter Tryz.func104, Tryz.ntmps104
      go_wp2
      go_region
      go_wp2
      go_ret2
      rw [HT.out]
      exact ⟨⟨_, _, rfl, HRW.out 2, Nodes.stays (HEX.out 2).stays HV.out⟩, (e0.alloc _).drew⟩

theorem laid_three (x : GNode) (ta tb tc : ETree) (hx : x.kind = 7) (ha : LaidC ta) (hb : LaidC tb) (hc : LaidC tc) : LaidC (.three x ta tb tc) := by
  intro S rest w v k hv hl
  have e0 : Ext w (w.alloc (.cells #[.int .i64 x.kind, .int .i64 x.n] 140)) := (Ext.refl w).alloc _
  rw [show (ETree.three x ta tb tc).flat ++ rest = x :: (ta.flat ++ (tb.flat ++ (tc.flat ++ rest))) by simp [ETree.flat]] at hv
  obtain ⟨b, o, cap, rfl, hcap, hby, ⟨_, g0, _⟩, _, g1, _⟩ := hv.get (i := 0) (by simp)
  have HV := Lib.hid (Nodes.stays (T := S) e0.drew.stays hv.tail)
  have hc1 : ¬ cap = 1 := by have := ETree.flat_pos ta; simp at hcap; omega
  rw [if_neg hc1] at HV
  have RA := alloc_keep
  have hcost : (ETree.three x ta tb tc).cost = ta.cost + tb.cost + tc.cost + 2 := rfl
  rw [hcost] at hl
  have HA := Lib.hid ha
  have HB := Lib.hid hb
  have HC := Lib.hid hc
  have HL := Lib.hid hl
  have p1 := ta.cost_pos
  simp only [Nat.zero_mul, Nat.add_zero, List.getElem_cons_zero] at g0 g1 hcap
  simp only [List.length_append] at HV
  simp only [List.length_cons]
  obtain ⟨ka, hka⟩ : ∃ ka, k + ta.cost = ka := ⟨_, rfl⟩
  obtain ⟨k1, hk1⟩ : ∃ k1, ka + 1 = k1 := ⟨_, rfl⟩
  obtain ⟨kb, hkb⟩ : ∃ kb, k1 + tb.cost = kb := ⟨_, rfl⟩
  obtain ⟨kt, hkt⟩ : ∃ kt, kb + 1 = kt := ⟨_, rfl⟩
  obtain ⟨ke, hke⟩ : ∃ ke, kt + tc.cost = ke := ⟨_, rfl⟩
  have W1 : IntKind.i64.wrap ((k : Int) + (ta.cost : Int)) = (ka : Int) := by rw [IntWalk.i64_in _ (by omega)]; omega
  have W2 : IntKind.i64.wrap ((ka : Int) + 1) = (k1 : Int) := by rw [IntWalk.i64_in _ (by omega)]; omega
  have W3 : IntKind.i64.wrap ((k1 : Int) + (tb.cost : Int)) = (kb : Int) := by rw [IntWalk.i64_in _ (by omega)]; omega
  have W4 : IntKind.i64.wrap ((kb : Int) + 1) = (kt : Int) := by rw [IntWalk.i64_in _ (by omega)]; omega
  have W5 : IntKind.i64.wrap ((kt : Int) + (tc.cost : Int)) = (ke : Int) := by rw [IntWalk.i64_in _ (by omega)]; omega
  have HLD : Hid ((ETree.three x ta tb tc).laid k = ta.laid k ++ (⟨10, (kt : Nat)⟩ :: (tb.laid k1 ++ (⟨9, (ke : Nat)⟩ :: tc.laid kt)))) := by
    unfold Hid
    have h1 : thirdAt k ta.cost tb.cost = kt := by unfold thirdAt; omega
    have h2 : k + ta.cost + 1 = k1 := by omega
    rw [ETree.laid, h1, h2, hke]
  obtain ⟨n2, hn2⟩ : ∃ n, ta.cost + 1 = n := ⟨_, rfl⟩
  obtain ⟨n3, hn3⟩ : ∃ n, n2 + tb.cost = n := ⟨_, rfl⟩
  obtain ⟨n4, hn4⟩ : ∃ n, n3 + 1 = n := ⟨_, rfl⟩
  have hn5 : n4 + tc.cost = (ETree.three x ta tb tc).cost := by rw [hcost]; omega
  obtain ⟨n5, hn5'⟩ : ∃ n, (ETree.three x ta tb tc).cost = n := ⟨_, rfl⟩
  rw [hn5'] at hn5 ⊢
  have HNL := Lib.hid (show n2 ≤ 1000 ∧ n3 ≤ 1000 ∧ n4 ≤ 1000 ∧ n5 ≤ 1000 by omega)
  have HN := Lib.hid (⟨hn2, hn3, hn4, hn5⟩ : _ ∧ _ ∧ _ ∧ _)
  have HK := Lib.hid (⟨hka, hk1, hkb, hkt, hke⟩ : _ ∧ _ ∧ _ ∧ _ ∧ _)
  clear hv ha hb hc hl hcost hka hk1 hkb hkt hke hn2 hn3 hn4 hn5 hn5'
  obtain ⟨o0, ho0, hoz0, hoz1, hoz2⟩ := info_parts infoO
  obtain ⟨xk, xn⟩ := x
  simp only at hx
  subst hx
  simp only at g0 g1 HV e0
  go_enter Tryz.func104, Tryz.ntmps104
  go_wp2
  go_region
  have x0 := ((Cx.new w [.int .i64 7, .int .i64 xn] 140 (j := 0) rfl).ext (Ext.refl _).drew).1
  have hE1 : Ext w (w.alloc (.cells #[.int .i64 7, .int .i64 xn] 140)).drew := e0.drew
  obtain ⟨X, hX⟩ : ∃ X, w.heap.size = X := ⟨_, rfl⟩
  rw [hX] at x0 ⊢
  generalize (w.alloc (.cells #[.int .i64 7, .int .i64 xn] 140)).drew = w1 at *
  go_upto_region 7 with (first
    | (go_at_call 104; (with_reducible refine (LaidC.call HA.out k HV.out (by have := HL.out; omega)).mono ?_); rintro e w2 ⟨⟨va, v2, rfl, hra, hv2⟩, hb2⟩; obtain ⟨aa, ca, rfl, _, _⟩ := hra.shape; replace x0 := Ext.cell hb2 x0))
  go_upto_region 10 with (first
    | (go_at_call 104; (with_reducible refine (LaidC.call HB.out k1 hv2 (by have := HL.out; have := HK.out; omega)).mono ?_); rintro e w3 ⟨⟨vb, v3, rfl, hrb, hv3⟩, hb3⟩; obtain ⟨ab, cb, rfl, _, _⟩ := hrb.shape))
  go_upto_region 11 with (first
    | (go_at_call 104; (with_reducible refine (LaidC.call HC.out kt hv3 (by have := HL.out; have := HK.out; omega)).mono ?_); rintro e w4 ⟨⟨vc, v4, rfl, hrc, hv4⟩, hb4⟩; obtain ⟨ac, cc, rfl, _, _⟩ := hrc.shape))
  go_upto_region 12 with (first
    | (at_builtin; refine wpList_append_row rfl _ _ 47 rfl w4.heap.size 51 o0 (.agg #[.int .i64 0, .int .i64 0]) 2 16 Tryz.underlying47 ho0 hoz0 hoz1 hoz2 rfl (by decide) _ _ _ rfl (by exact h5.out.1.ext ((Ext.refl _).alloc _) (by decide)) 1 (opF ⟨10, (kt : Nat)⟩) (by exact src_op _ ⟨10, (kt : Nat)⟩ _) (by have := HL.out; have := HNL.out; unfold maxLen; omega) (by have := HL.out; have := HNL.out; omega) (by exact Ext.size (h5.out.2.alloc _)) ?_; intro v6 W6w rv6; rw [HN.out.1] at rv6; have h6 := Lib.hid (NewRow.on (h5.out.2.alloc _) (h5.out.1.ext ((Ext.refl _).alloc _) (by decide)) rv6); obtain ⟨a6, c6, rfl, _, _⟩ := rv6.1.shape; clear rv6)
    | (at_builtin; refine wpList_append_row rfl _ _ 47 rfl w4.heap.size 51 o0 (.agg #[.int .i64 0, .int .i64 0]) 2 16 Tryz.underlying47 ho0 hoz0 hoz1 hoz2 rfl (by decide) _ _ _ rfl (by exact RowAt.nil _ _ _ _) ta.cost ((ta.laid k).flatMap opF) (by exact ((hra.ext (hb3.trans hb4) (by decide)).srcO.upE ((Ext.refl w4).alloc _))) (by have := HL.out; have := HNL.out; unfold maxLen; omega) (by have := HL.out; have := HNL.out; omega) (by simp) ?_; intro v5 W5w rv5; rw [Nat.zero_add, List.nil_append] at rv5; have h5 := Lib.hid (NewRow.on ((Ext.refl w4).alloc _) (RowAt.nil _ _ _ _) rv5); obtain ⟨a5, c5, rfl, _, _⟩ := rv5.1.shape; clear rv5))
  go_upto_region 13 with (first
    | (at_builtin; refine wpList_append_row rfl _ _ 47 rfl w4.heap.size 51 o0 (.agg #[.int .i64 0, .int .i64 0]) 2 16 Tryz.underlying47 ho0 hoz0 hoz1 hoz2 rfl (by decide) _ _ _ rfl (by exact h7.out.1.ext ((Ext.refl _).alloc _) (by decide)) 1 (opF ⟨9, (ke : Nat)⟩) (by exact src_op _ ⟨9, (ke : Nat)⟩ _) (by have := HL.out; have := HNL.out; unfold maxLen; omega) (by have := HL.out; have := HNL.out; omega) (by exact Ext.size (h7.out.2.alloc _)) ?_; intro v8 W8w rv8; rw [HN.out.2.2.1] at rv8; have h8 := Lib.hid (NewRow.on (h7.out.2.alloc _) (h7.out.1.ext ((Ext.refl _).alloc _) (by decide)) rv8); obtain ⟨a8, c8, rfl, _, _⟩ := rv8.1.shape; clear rv8)
    | (at_builtin; refine wpList_append_row rfl _ _ 47 rfl w4.heap.size 51 o0 (.agg #[.int .i64 0, .int .i64 0]) 2 16 Tryz.underlying47 ho0 hoz0 hoz1 hoz2 rfl (by decide) _ _ _ rfl (by exact h6.out.1) tb.cost ((tb.laid k1).flatMap opF) (by exact ((hrb.ext hb4 (by decide)).srcO.upE h6.out.2)) (by have := HL.out; have := HNL.out; unfold maxLen; omega) (by have := HL.out; have := HNL.out; omega) (by exact Ext.size h6.out.2) ?_; intro v7 W7w rv7; rw [HN.out.2.1] at rv7; have h7 := Lib.hid (NewRow.on h6.out.2 h6.out.1 rv7); obtain ⟨a7, c7, rfl, _, _⟩ := rv7.1.shape; clear rv7))
  go_wp2_with (first
    | (at_builtin; refine wpList_append_row rfl _ _ 47 rfl w4.heap.size 51 o0 (.agg #[.int .i64 0, .int .i64 0]) 2 16 Tryz.underlying47 ho0 hoz0 hoz1 hoz2 rfl (by decide) _ _ _ rfl (by exact h8.out.1) tc.cost ((tc.laid kt).flatMap opF) (by exact (hrc.srcO.upE h8.out.2)) (by have := HL.out; have := HNL.out; unfold maxLen; omega) (by have := HL.out; have := HNL.out; omega) (by exact Ext.size h8.out.2) ?_; intro v9 W9w rv9; rw [HN.out.2.2.2] at rv9; have h9 := Lib.hid (NewRow.on h8.out.2 h8.out.1 rv9); obtain ⟨a9, c9, rfl, _, _⟩ := rv9.1.shape; clear rv9))
  go_ret2
  rw [HLD.out]
  have hfin := h9.out.1
  have hb14 := hE1.trans (hb2.trans (hb3.trans hb4))
  refine ⟨⟨_, _, rfl, ?_, Nodes.stays h9.out.2.stays hv4⟩, hb14.trans h9.out.2⟩
  have e : (ta.laid k ++ (⟨10, (kt : Nat)⟩ :: (tb.laid k1 ++ (⟨9, (ke : Nat)⟩ :: tc.laid kt)))).flatMap opF = (ta.laid k).flatMap opF ++ opF ⟨10, (kt : Nat)⟩ ++ (tb.laid k1).flatMap opF ++ opF ⟨9, (ke : Nat)⟩ ++ (tc.laid kt).flatMap opF := by
    simp [List.flatMap_append, List.flatMap_cons, List.append_assoc]
  rw [e]
  exact hfin.mono hb14.size
end Go.Proofs.YtpcjkfppacnkgaaGreatDoor
end
