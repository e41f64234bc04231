/- Merged texts: contracts and plain facts, one part behind another; each part begins with what it says. -/
import Derived.Test.YtfajkebkhdcapaaGUAB
import Derived.Test.YtfajkebkhdcapaaGUAC
section
/- Rows of numbers of the call's own, known whole; what a right function's ops are. No condition. -/
namespace Go.Proofs.Ytfajkebkhdcapaa
open Go Go.RowKit

set_option maxRecDepth 100000 in
theorem infoI : (Try.prog.info? 3).map (fun i => (i.zero, i.size, i.bytes)) = some (some (.int .i64 0), 1, 8) := by kernel_rfl

def ints (l : List Int) : List Value := l.map (Value.int .i64)
theorem flatMap_intF (l : List Int) : l.flatMap intF = ints l := by
  induction l with
  | nil => rfl
  | cons x l ih => rw [List.flatMap_cons, ih]; rfl
theorem ints_set (l : List Int) (k : Nat) (n : Int) : (ints l).set k (.int .i64 n) = ints (l.set k n) := by simp [ints, List.map_set]
theorem ints_get (l : List Int) (k : Nat) (h : k < l.length) : (ints l)[k]? = some (.int .i64 (l.getD k 0)) := by simp [ints, List.getD, h]
theorem ints_len (l : List Int) : (ints l).length = l.length := by simp [ints]
theorem ints_app (l m : List Int) : ints (l ++ m) = ints l ++ ints m := by simp [ints]

/-- A row of numbers at the head of block g. -/
def IRow (w : World) (base g : Nat) (l : List Int) : Prop := RowAt w base 1 (.slice (some ⟨g, 0, none⟩) l.length l.length) l.length (ints l)

theorem IRow.at {w : World} {base g : Nat} {l : List Int} (h : IRow w base g l) {k : Nat} (hk : k < l.length) : w.cell? ⟨g, k, none⟩ = some (.int .i64 (l.getD k 0)) ∧ w.frozen? ⟨g, k, none⟩ = false ∧ base ≤ g := by
  obtain ⟨g', o, e, hb, hc⟩ := h.cell (by omega)
  simp only [Option.some.injEq, Addr.mk.injEq] at e
  obtain ⟨rfl, rfl, -⟩ := e
  have := hc k (by omega)
  rw [Nat.zero_add, ints_get l k hk] at this
  exact ⟨this.1, this.2, hb⟩
theorem IRow.store {w : World} {base g : Nat} {l : List Int} (h : IRow w base g l) {k : Nat} (hk : k < l.length) (n : Int) : IRow (w.setCell ⟨g, k, none⟩ (.int .i64 n)) base g (l.set k n) := by
  have := RowAt.store h (j := k) (by omega) (.int .i64 n)
  rw [Nat.zero_add, ints_set] at this
  unfold IRow
  rw [List.length_set]
  exact this
theorem IRow.ext {w w' : World} {base g : Nat} {l : List Int} (h : IRow w base g l) (he : Ext w w') : IRow w' base g l := RowAt.ext h he (by decide)
theorem IRow.chg {M : Nat → Prop} {w w' : World} {base g : Nat} {l : List Int} (h : IRow w base g l) (he : Chg M w w') (hM : ¬ M g) : IRow w' base g l :=
  RowAt.chg h he (fun g' hg => by
    simp only [rowBlock] at hg
    split at hg
    · cases hg
    · cases hg; exact hM) (by decide)
theorem chg_one (w : World) (b o : Nat) (u : Value) : Chg (· = b) w (w.setCell ⟨b, o, none⟩ u) := Chg.setCell (M := (· = b)) (p := ⟨b, o, none⟩) (Chg.refl _ _) (.inl rfl) u
/-- Another block is written. -/
theorem IRow.other {w : World} {base g : Nat} {l : List Int} (h : IRow w base g l) {b o : Nat} (hb : b ≠ g) (u : Value) : IRow (w.setCell ⟨b, o, none⟩ u) base g l :=
  h.chg (chg_one w b o u) (fun e => hb e.symm)
theorem IRow.mono {w : World} {base base' g : Nat} {l : List Int} (h : IRow w base g l) (hb : base' ≤ base) : IRow w base' g l := RowAt.mono h hb
theorem IRow.ints {w : World} {base g : Nat} {l : List Int} (h : IRow w base g l) (hb : l.length ≤ 1000000) (hI : ∀ x ∈ l, I64 x) (S : Nat → Prop) (hS : ∀ b, base ≤ b → S b) : Ints w S (.slice (some ⟨g, 0, none⟩) l.length l.length) l :=
  Ints.of_row (base := base) (by rw [flatMap_intF]; exact h) (by omega) hI S (fun b hbb _ => hS b hbb)

theorem RowAt.of_own {w : World} {base : Nat} {e : TypeId} {size : Nat} {v : Value} {n : Nat} {xs : List Value} (h : w.ownsRow base e size v n xs) : RowAt w base size v n xs := by
  refine ⟨h.1, ?_⟩
  rcases h.2 with ⟨rfl, rfl⟩ | ⟨g, cap, cur, rfl, hbg, hg, hnc, hcm, hcs, htake⟩
  · exact ⟨none, 0, rfl, Nat.le_refl _, Nat.zero_le _, .inl rfl⟩
  · refine ⟨_, cap, rfl, hnc, hcm, .inr ⟨g, 0, rfl, hbg, fun j hj => ?_, fun j hj => ?_⟩⟩
    · rw [Nat.zero_add, cell_of_row w g _ cur e (0, 0) hg, ← htake, List.getElem?_take, if_pos hj, Array.getElem?_toList]
    · rw [Nat.zero_add]
      refine ⟨by rw [cell_of_row w g _ cur e (0, 0) hg, Array.getElem?_eq_getElem (by omega)]; rfl, frozen_of_row w g _ cur e hg⟩

theorem ext_none {w w' : World} (hg : w.grownBy w' none) : Ext w w' := (Ext.refl w).grown hg (fun _ h => by cases h)

/-- A right function's ops. -/
structure RightF (p : List GFunc) (f : GFunc) : Prop where
  len : f.code.length ≤ 24
  op : ∀ x ∈ f.code, 0 ≤ x.kind ∧ x.kind ≤ 16 ∧ 0 ≤ x.a ∧ (x.kind = 9 ∨ x.kind = 10 → x.a < f.code.length) ∧ (x.kind = 11 → x.a < p.length) ∧ 0 ≤ takesOf p x ∧ takesOf p x ≤ 4
  locals : 0 ≤ f.args ∧ f.args ≤ f.locals ∧ f.locals ≤ 4

theorem sizedB_facts {f : GFunc} (h : sizedB f = true) : 0 ≤ f.args ∧ f.args ≤ f.locals ∧ f.locals ≤ 4 := by
  unfold sizedB at h
  exact of_decide_eq_true h

theorem funcErr_zero {p : List GFunc} {f : Int} (h : funcErr p f = 0) : 0 ≤ f ∧ f < p.length ∧ ∀ hf : f.toNat < p.length, RightF p p[f.toNat] := by
  unfold funcErr at h
  by_cases hf : 0 ≤ f ∧ f < p.length
  · rw [if_neg (fun k => k hf)] at h
    refine ⟨hf.1, hf.2, fun hl => ?_⟩
    have e : p.getD f.toNat default = p[f.toNat] := by simp [List.getD, List.getElem?_eq_getElem hl]
    rw [e] at h
    by_cases h2 : 24 < p[f.toNat].code.length
    · rw [if_pos h2] at h; omega
    · rw [if_neg h2] at h
      cases h3 : sizedB p[f.toNat] with
      | false => rw [if_pos h3] at h; omega
      | true =>
        rw [if_neg (by rw [h3]; decide)] at h
        refine ⟨by omega, fun x hx => ?_, sizedB_facts h3⟩
        have hops := ok_ops h x hx
        obtain ⟨k0, k1, a0, a1, hs, _⟩ := ok_facts hops
        have h11 : x.kind = 11 → x.a < p.length := fun hk => by
          unfold mostOf at a1
          rw [if_neg (by omega), if_neg (by omega), if_neg (by omega), if_pos (.inl hk)] at a1
          omega
        refine ⟨k0, k1, a0, fun hk => ?_, h11, ?_⟩
        · unfold mostOf at a1
          rw [if_neg (by omega), if_neg (by omega), if_pos hk] at a1
          omega
        · unfold takesOf
          split
          · omega
          · split
            · omega
            · split
              · rename_i hk
                have := sizedB_facts (hs (.inl hk))
                omega
              · omega
  · rw [if_pos hf] at h; omega

theorem RightF.jumps {p : List GFunc} {f : GFunc} (h : RightF p f) : Jumps f.code := by
  intro k hk hj
  have e : f.code.getD k default = f.code[k] := by simp [List.getD, List.getElem?_eq_getElem hk]
  rw [e] at hj ⊢
  obtain ⟨_, _, h3, h4, _⟩ := h.op _ (List.getElem_mem hk)
  have := h4 hj
  omega

/-- One number in a new block. -/
theorem src_one (w : World) (n : Int) (t : TypeId) : SrcSl (w.alloc (.cells #[.int .i64 n] t)) 1 (.slice (some ⟨w.heap.size, 0, none⟩) 1 1) 1 (ints [n]) := by
  refine ⟨_, 1, rfl, rfl, by simp [ints, Value.oneCell'], .inr ⟨_, rfl, fun j u hj => ?_⟩⟩
  match j, hj with
  | 0, hj =>
    cases hj
    rw [Addr.add_zero']
    exact World.cell?_alloc_new w _ _ 0

def nats (l : List Nat) : List Int := l.map (fun k : Nat => (k : Int))
theorem getD_eq {l : List GOp} {i : Nat} (h : i < l.length) : l.getD i default = l[i] := by simp [List.getD, List.getElem?_eq_getElem h]

end Go.Proofs.Ytfajkebkhdcapaa
end
section
/- Contracts of SameInts and next. -/
set_option maxHeartbeats 2000000
set_option maxRecDepth 100000
namespace Go.Proofs.Ytfajkebkhdcapaa
open Go Go.RowKit

theorem take_eq_of_ne {a b : List Int} {k : Nat} (_ : k < a.length) (_ : k < b.length) (h : a.getD k 0 ≠ b.getD k 0) : a ≠ b := fun e => h (by rw [e])
theorem take_succ_eq {a b : List Int} {k : Nat} (h1 : k < a.length) (h2 : k < b.length) (ht : a.take k = b.take k) (h : a.getD k 0 = b.getD k 0) : a.take (k + 1) = b.take (k + 1) := by
  simp only [List.getD, List.getElem?_eq_getElem h1, List.getElem?_eq_getElem h2, Option.getD_some] at h
  rw [List.take_succ_eq_append_getElem h1, List.take_succ_eq_append_getElem h2, ht, h]

theorem sameInts_any (a b : List Int) (va vb : Value) (S T : Nat → Prop) (w : World) (ha : Ints w S va a) (hb : Ints w T vb b) :
    Calls Try.prog 16 #[va, vb] w fun e w' => e = .returned (.bool (decide (a = b))) ∧ Ext w w' := by
  have HA := Lib.hid ha
  have HB := Lib.hid hb
  obtain ⟨pa, ca, rfl, hca, hba, _⟩ := ha
  obtain ⟨pb, cb, rfl, hcb, hbb, _⟩ := hb
  obtain ⟨t, ht⟩ : ∃ t, decide (a = b) = t := ⟨_, rfl⟩
  rw [ht]
  have HT := Lib.hid ht
  clear ht
  go_enter Try.func16, Try.ntmps16
  by_cases hl : a.length = b.length
  · have TL : ((a.length : Int) != (b.length : Int)) = false := by rw [bne_eq_false_iff_eq]; omega
    go_wp2_with fail
    go_loopw [5] (fun q wr => ∃ k : Nat, k ≤ a.length ∧ q = .int .i64 k ∧ Ext w wr ∧ a.take k = b.take k) (fun q _ => a.length - (intOf q).toNat)
    case atStart => exact ⟨0, Nat.zero_le _, rfl, Ext.refl _, rfl⟩
    case round =>
      obtain ⟨k, hk, rfl, hb3, htk⟩ := hrel
      have HB3 := Lib.hid hb3
      have HTK := Lib.hid htk
      clear hb3 htk
      by_cases hlt : k < a.length
      · have hlt' : k < b.length := by omega
        obtain ⟨ba, oa, _, e1, _, _, _, x0, _⟩ := HA.out.get hlt
        obtain ⟨bb, ob, _, e2, _, _, _, y0, _⟩ := HB.out.get hlt'
        simp only [Value.slice.injEq] at e1 e2
        obtain ⟨rfl, -, rfl⟩ := e1
        obtain ⟨rfl, -, rfl⟩ := e2
        rw [Nat.mul_one] at x0 y0
        have x1 := Ext.cell HB3.out x0
        have y1 := Ext.cell HB3.out y0
        have ea : a[k] = a.getD k 0 := by simp [List.getD, List.getElem?_eq_getElem hlt]
        have eb : b[k] = b.getD k 0 := by simp [List.getD, List.getElem?_eq_getElem hlt']
        rw [ea] at x1
        rw [eb] at y1
        clear x0 y0 ea eb
        obtain ⟨u, hu⟩ : ∃ u, a.getD k 0 = u := ⟨_, rfl⟩
        obtain ⟨z, hz⟩ : ∃ z, b.getD k 0 = z := ⟨_, rfl⟩
        rw [hu] at x1
        rw [hz] at y1
        have HU := Lib.hid hu
        have HZ := Lib.hid hz
        clear hu hz
        by_cases hne : u = z
        · have TN : (u != z) = false := by rw [bne_eq_false_iff_eq]; exact hne
          have HTK2 := Lib.hid (take_succ_eq hlt hlt' HTK.out (by rw [HU.out, HZ.out, hne]))
          clear hne
          go_wp2_with fail
          go_big_quiet (fail)
          go_wp2_with fail
          go_roundw
          case rel => exact ⟨k + 1, by omega, by go_num, HB3.out.drewN _, HTK2.out⟩
          case measure => simp [intOf]; omega
        · have TN : (u != z) = true := bne_iff_ne.2 hne
          have HF : Hid (t = false) := by
            unfold Hid
            rw [← HT.out]
            exact decide_eq_false (take_eq_of_ne hlt hlt' (by rw [HU.out, HZ.out]; exact hne))
          clear hne
          go_wp2_with fail
          go_big_quiet (fail)
          go_wp2_with fail
          go_ret
          exact ⟨by rw [HF.out]; rfl, HB3.out.drewN _⟩
      · obtain rfl : k = a.length := by omega
        have HF : Hid (t = true) := by
          unfold Hid
          rw [← HT.out]
          have := HTK.out
          rw [List.take_length, hl, List.take_length] at this
          exact decide_eq_true this
        clear hlt
        go_wp2_with fail
        go_ret
        exact ⟨by rw [HF.out]; rfl, HB3.out⟩
  · have TL : ((a.length : Int) != (b.length : Int)) = true := bne_iff_ne.2 (by omega)
    have HF : Hid (t = false) := by
      unfold Hid
      rw [← HT.out]
      exact decide_eq_false (fun e => hl (by rw [e]))
    clear hl
    go_wp2_with fail
    go_ret
    exact ⟨by rw [HF.out]; rfl, Ext.refl _⟩

end Go.Proofs.Ytfajkebkhdcapaa
end
section
/- Contract of op.Check. -/
set_option maxHeartbeats 1000000
set_option maxRecDepth 100000
namespace Go.Proofs.Ytfajkebkhdcapaa
open Go Go.RowKit

theorem opsErr_drop (p : List GFunc) (f : GFunc) (l : List GOp) (k : Nat) (hk : k < l.length) (h : opErr p f l[k] = 0) : opsErr p f (l.drop k) = opsErr p f (l.drop (k + 1)) := by
  rw [List.drop_eq_getElem_cons hk]
  simp [opsErr, h]
theorem opsErr_hit (p : List GFunc) (f : GFunc) (l : List GOp) (k : Nat) (hk : k < l.length) (h : opErr p f l[k] ≠ 0) : opsErr p f (l.drop k) = opErr p f l[k] := by
  rw [List.drop_eq_getElem_cons hk]
  simp [opsErr, h]

theorem check_any (p : List GFunc) (v : Value) (S : Nat → Prop) (f : Int) (w : World) (hp : Funcs w S v p) :
    Calls Try.prog 42 #[v, .int .i64 f] w fun e w' => e = .returned (.int .i64 (funcErr p f)) ∧ Ext w w' := by
  by_cases hf : 0 ≤ f ∧ f < p.length
  · obtain ⟨h0, h1⟩ := hf
    obtain ⟨n, rfl⟩ := Int.eq_ofNat_of_zero_le h0
    have hn : n < p.length := by omega
    have hp0 := hp
    obtain ⟨b, o, cap, rfl, hcap, hby, hA, hL, vc, hC, hcode⟩ := hp.get hn
    have hA1 := hA.2.1
    have hL1 := hL.2.1
    obtain ⟨ca, ccap, rfl, hcc, hcby, hops⟩ := hcode
    have HF : Hid (funcErr p n = if 24 < p[n].code.length then 2 else if sizedB p[n] = false then 3 else opsErr p p[n] p[n].code) := by
      unfold funcErr Hid
      rw [if_neg (by omega)]
      have : p.getD (n : Int).toNat default = p[n] := by simp [List.getD, List.getElem?_eq_getElem hn]
      rw [this]
    have RA := alloc_keep
    rw [HF.out]
    clear hA hL HF h0 h1
    by_cases hm : 24 < p[n].code.length
    · rw [if_pos hm]
      go_enter Try.func42, Try.ntmps42
      go_wp2
      go_ret
      exact ⟨rfl, by ((repeat (first | assumption | exact Ext.refl _ | (exact And.left (by assumption)) | refine Ext.alloc ?_ _ | refine Ext.drew ?_ | refine Ext.drewN ?_ _ | refine Ext.setCell ?_ (by simp) _ | refine Ext.setCell ?_ (by simp; omega) _ | refine Ext.trans ?_ (by assumption))); done)⟩
    · rw [if_neg hm]
      have hm' : p[n].code.length ≤ 24 := by omega
      clear hm
      generalize hF : p[n] = F at *
      obtain ⟨A, L, code⟩ := F
      simp only at *
      cases hs : sizedB ⟨A, L, code⟩
      · rw [if_pos rfl]
        go_enter Try.func42, Try.ntmps42
        go_wp2_with (first
          | (go_at_call 58; refine (sized_any A L _ code _).mono ?_; rintro e w1 ⟨rfl, hb⟩))
        go_ret
        exact ⟨rfl, by ((repeat (first | assumption | exact Ext.refl _ | (exact And.left (by assumption)) | refine Ext.alloc ?_ _ | refine Ext.drew ?_ | refine Ext.drewN ?_ _ | refine Ext.setCell ?_ (by simp) _ | refine Ext.setCell ?_ (by simp; omega) _ | refine Ext.trans ?_ (by assumption))); done)⟩
      · rw [if_neg (by decide)]
        go_enter Try.func42, Try.ntmps42
        go_upto_region 8 with (first
          | (go_at_call 58; refine (sized_any A L _ code _).mono ?_; rintro e w1 ⟨rfl, hb⟩))
        have hc1 := Ext.keep hb
        go_cut [6] (fun v6 wr => ∃ g, v6 = .pointer (some ⟨g, 0, none⟩) ∧ Ext w wr ∧ (∀ j, wr.cell? ⟨g, j, none⟩ = kindRow[j]?) ∧
          wr.cell? ⟨w.heap.size, 0, none⟩ = some (.int .i64 A) ∧ wr.cell? ⟨w.heap.size, 1, none⟩ = some (.int .i64 L) ∧ wr.cell? ⟨w.heap.size, 2, none⟩ = some (.slice ca code.length ccap))
        case first =>
          go_wp2_with (first
            | (refine wpList_store_row rfl 99 _ _ rfl _ kindRow rfl rfl _ _ (heap_alloc_new _ _) (by kernel_rfl) rfl (by kernel_rfl) ?_)
            | (go_at_call 59; refine (kinds_any _).mono ?_; rintro e w2 ⟨rfl, hb2⟩))
          go_meet
          have e2 := Ext.setRow ((Ext.refl w2).alloc (.cells #[.int .i64 0] 0)) (Nat.le_refl _) kindRow
          have e1 := hb.trans hb2
          have e0 := Ext.alloc (Ext.refl w) (.cells #[.int .i64 A, .int .i64 L, .slice ca code.length ccap] 55)
          refine ⟨_, rfl, Ext.trans (e0.trans e1) (((Ext.refl _).alloc _).setRow (Nat.le_refl _) _), fun j => cell_setRow_same _ _ _ _ _ _ _ (heap_alloc_new _ _), ?_, ?_, ?_⟩
          all_goals exact Ext.cell (((Ext.refl _).alloc _).setRow (Nat.le_refl _) _) (Ext.cell e1 (by simp))
        case rest =>
          obtain ⟨g, rfl, hbc, hk, x0, x1, x2⟩ := hcut
          rename World => wk
          have HE := Lib.hid hbc
          clear hb hc1 hbc
          go_wp2_with fail
          go_loopw [32] (fun i wr => ∃ k : Nat, k ≤ code.length ∧ i = .int .i64 k ∧ Ext wk wr ∧ opsErr p ⟨A, L, code⟩ (code.drop k) = opsErr p ⟨A, L, code⟩ code) (fun i _ => code.length - (intOf i).toNat)
          case atStart => exact ⟨0, Nat.zero_le _, rfl, Ext.refl _, rfl⟩
          case round =>
            obtain ⟨k, hkl, rfl, hbr, hrest⟩ := hrel
            have HR := Lib.hid hrest
            have HB := Lib.hid hbr
            have hcr := Ext.keep hbr
            have hcw := Ext.keep HE.out
            clear hrest hbr
            by_cases hlt : k < code.length
            · obtain ⟨cb, co, rfl, ⟨_, o0, _⟩, _, o1, _⟩ := hops k hlt
              have HD := Lib.hid (fun h => opsErr_drop p ⟨A, L, code⟩ code k hlt h)
              have HH := Lib.hid (fun h => opsErr_hit p ⟨A, L, code⟩ code k hlt h)
              generalize hx : code[k] = x at *
              clear hx hops
              by_cases hk1 : 0 ≤ x.kind ∧ x.kind ≤ 16
              · have KT := known_true hk1.1 hk1.2
                obtain ⟨hk1, hk2⟩ := hk1
                go_upto_region 14 with (first
                  | (go_at_call 60; refine (known_any _ _).mono ?_; rintro e w1 ⟨rfl, rfl⟩))
                have hsz : 0 ≤ L ∧ L ≤ 4 := by unfold sizedB at hs; simp at hs; omega
                have hk3 : x.kind < 17 := by omega
                have gk := Ext.cell HB.out ((hk _).trans (kindRow_at x.kind.toNat (by omega)))
                have y0 := Ext.cell HB.out x0
                have kc := kind_call x.kind.toNat (by omega)
                have y1 := Ext.cell HB.out x1
                have y2 := Ext.cell HB.out x2
                go_cut [41] (fun v wq => v = .bool (decide (¬ (0 ≤ x.a ∧ x.a ≤ mostOf p ⟨A, L, code⟩ x.kind))) ∧ Ext (wr.alloc (.cells #[.int .i64 x.kind, .int .i64 x.a] 61)) wq)
                case first =>
                  by_cases hneg : x.a < 0
                  ·
                    refine wp_region_ext (by kernel_rfl) (by kernel_rfl) ?_
                    repeat (first
                      | go_big_quiet_skip
                      | (go_big_quiet_want
                         unfold Oper.quiet
                         apply Exists.intro
                         refine ⟨fun w' hw' => ?_, ?_⟩
                         focus
                           have hcq := Ext.keep hw'
                           go_simp
                           first
                             | with_reducible rfl
                             
                         (try dsimp only [Act.put])
                         (try simp only [List.setIfInBounds_toArray, List.set_cons_succ, List.set_cons_zero])
                         go_big_quiet_on))
                    refine wpQuiet_nil ?_
                    intro wq hq
                    go_wp2_with fail
                    go_meet
                    refine ⟨?_, hq⟩
                    simp; omega
                  ·
                    refine wp_region_ext (by kernel_rfl) (by kernel_rfl) ?_
                    repeat (first
                      | go_big_quiet_skip
                      | (go_big_quiet_want
                         unfold Oper.quiet
                         apply Exists.intro
                         refine ⟨fun w' hw' => ?_, ?_⟩
                         focus
                           have hcq := Ext.keep hw'
                           go_simp
                           first
                             | with_reducible rfl
                             | ((refine (most_any x.kind hk1 hk2 ⟨A, L, code⟩ p (some ⟨b, o, none⟩) cap (by omega) A (some ⟨cb, co, none⟩) ccap hsz.1 hsz.2 hm' _).mono ?_; rintro e w1 ⟨rfl, hb⟩; exact ⟨rfl, hw'.trans hb⟩))
                         (try dsimp only [Act.put])
                         (try simp only [List.setIfInBounds_toArray, List.set_cons_succ, List.set_cons_zero])
                         go_big_quiet_on))
                    refine wpQuiet_nil ?_
                    intro wq hq
                    go_wp2_with fail
                    go_meet
                    refine ⟨?_, hq⟩
                    simp; omega
                case rest =>
                  obtain ⟨hv, hq⟩ := hcut
                  have hW : Ext w wc := ((HE.out.trans HB.out).alloc _).trans hq
                  have hWc : Ext wk wc := (HB.out.alloc _).trans hq
                  have b0 := Ext.cell hq (cell_alloc0 wr x.kind x.a 61)
                  have b1 := Ext.cell hq (cell_alloc1 wr x.kind x.a 61)
                  have hkn : ¬ ¬ (0 ≤ x.kind ∧ x.kind ≤ 16) := by omega
                  clear hcr hcw gk kc y0 y1 y2 x0 x1 x2 hk
                  have HQ := Lib.hid hq
                  have HW := Lib.hid hW
                  have HWc := Lib.hid hWc
                  clear hq hW hWc
                  by_cases hin : 0 ≤ x.a ∧ x.a ≤ mostOf p ⟨A, L, code⟩ x.kind
                  · rw [show decide (¬ (0 ≤ x.a ∧ x.a ≤ mostOf p ⟨A, L, code⟩ x.kind)) = false by simpa using hin] at hv
                    subst hv
                    have HIN := Lib.hid hin
                    by_cases hcm : x.kind = 11 ∨ x.kind = 13
                    · have hm2 : mostOf p ⟨A, L, code⟩ x.kind = (p.length : Int) - 1 := by unfold mostOf; rcases hcm with h | h <;> simp [h]
                      rw [hm2] at hin
                      obtain ⟨ha0, ha1⟩ := hin
                      have ha2 : x.a < p.length := by omega
                      obtain ⟨b', o', cap', hbo, _, _, g0, g1, vc', g2, hcode'⟩ := hp0.get (i := x.a.toNat) (by omega)
                      obtain ⟨ca', ccap', rfl, _⟩ := hcode'
                      simp only [Value.slice.injEq, Option.some.injEq, Addr.mk.injEq] at hbo
                      obtain ⟨⟨rfl, rfl, -⟩, -, -⟩ := hbo
                      have z0 := Ext.cell HW.out g0.2.1
                      have z1 := Ext.cell HW.out g1.2.1
                      have z2 := Ext.cell HW.out g2
                      clear g0 g1 g2
                      have HG : Hid (p.getD x.a.toNat default = p[x.a.toNat]) := by unfold Hid; simp [List.getD, List.getElem?_eq_getElem (show x.a.toNat < p.length by omega)]
                      generalize hF2 : p[x.a.toNat] = F2 at *
                      clear hF2 hm2
                      cases hs2 : sizedB F2
                      · have HE1 : Hid (opErr p ⟨A, L, code⟩ x = 3) := by unfold Hid opErr; rw [if_neg hkn, if_neg (fun h => h HIN.out), if_pos ⟨hcm, by rw [HG.out]; exact hs2⟩]
                        rcases hcm with h11 | h13
                        · have T11 : (x.kind == 11) = true := by simp [h11]
                          clear h11
                          go_wp2_with (first
                              | (go_at_call 58; refine (sized_any F2.args F2.locals _ F2.code _).mono ?_; rintro e w1 ⟨rfl, hb⟩; have hcs := Ext.keep hb))
                          go_ret
                          exact ⟨ret_int (by rw [← HR.out, HH.out (by rw [HE1.out]; decide), HE1.out]), HW.out.trans hb⟩
                        · have T11 : (x.kind == 11) = false := by simp [h13]
                          have T13 : (x.kind == 13) = true := by simp [h13]
                          clear h13
                          go_wp2_with (first
                              | (go_at_call 58; refine (sized_any F2.args F2.locals _ F2.code _).mono ?_; rintro e w1 ⟨rfl, hb⟩; have hcs := Ext.keep hb))
                          go_ret
                          exact ⟨ret_int (by rw [← HR.out, HH.out (by rw [HE1.out]; decide), HE1.out]), HW.out.trans hb⟩
                      · rcases hcm with h11 | h13
                        · have T11 : (x.kind == 11) = true := by simp [h11]
                          have T13 : (x.kind == 13) = false := by simp [h11]
                          have HE1 : Hid (opErr p ⟨A, L, code⟩ x = 0) := by unfold Hid opErr; rw [if_neg hkn, if_neg (fun h => h HIN.out), if_neg (by rw [HG.out, hs2]; simp), if_neg (by simp [h11])]
                          clear h11
                          go_wp2_with (first
                              | (go_at_call 58; refine (sized_any F2.args F2.locals _ F2.code _).mono ?_; rintro e w1 ⟨rfl, hb⟩; have hcs := Ext.keep hb))
                          go_roundw
                          case rel => exact ⟨k + 1, by omega, by go_num, HWc.out.trans hb, by rw [← HR.out]; exact (HD.out HE1.out).symm⟩
                          case measure => simp [intOf]; omega
                        · have T11 : (x.kind == 11) = false := by simp [h13]
                          have T13 : (x.kind == 13) = true := by simp [h13]
                          by_cases ha : F2.args = 1
                          · have HE1 : Hid (opErr p ⟨A, L, code⟩ x = 0) := by unfold Hid opErr; rw [if_neg hkn, if_neg (fun h => h HIN.out), if_neg (by rw [HG.out, hs2]; simp), if_neg (by rw [HG.out]; simp [ha])]
                            have TA : (F2.args != 1) = false := by simp [ha]
                            clear h13 ha
                            go_wp2_with (first
                              | (go_at_call 58; refine (sized_any F2.args F2.locals _ F2.code _).mono ?_; rintro e w1 ⟨rfl, hb⟩; have hcs := Ext.keep hb))
                            go_roundw
                            case rel => exact ⟨k + 1, by omega, by go_num, HWc.out.trans hb, by rw [← HR.out]; exact (HD.out HE1.out).symm⟩
                            case measure => simp [intOf]; omega
                          · have HE1 : Hid (opErr p ⟨A, L, code⟩ x = 1) := by unfold Hid opErr; rw [if_neg hkn, if_neg (fun h => h HIN.out), if_neg (by rw [HG.out, hs2]; simp), if_pos (by rw [HG.out]; exact ⟨h13, ha⟩)]
                            have TA : (F2.args != 1) = true := by simp [ha]
                            clear h13 ha
                            go_wp2_with (first
                              | (go_at_call 58; refine (sized_any F2.args F2.locals _ F2.code _).mono ?_; rintro e w1 ⟨rfl, hb⟩; have hcs := Ext.keep hb))
                            go_ret
                            exact ⟨ret_int (by rw [← HR.out, HH.out (by rw [HE1.out]; decide), HE1.out]), HW.out.trans hb⟩
                    · have HE1 : Hid (opErr p ⟨A, L, code⟩ x = 0) := by
                        unfold Hid opErr
                        rw [if_neg hkn, if_neg (fun h => h HIN.out), if_neg (fun h => hcm h.1), if_neg (fun h => hcm (.inr h.1))]
                      have T11 : (x.kind == 11) = false := by simp; omega
                      have T13 : (x.kind == 13) = false := by simp; omega
                      clear hcm hin
                      go_wp2
                      go_roundw
                      case rel => exact ⟨k + 1, by omega, by go_num, HWc.out, by rw [← HR.out]; exact (HD.out HE1.out).symm⟩
                      case measure => simp [intOf]; omega
                  · have hin' : decide (¬ (0 ≤ x.a ∧ x.a ≤ mostOf p ⟨A, L, code⟩ x.kind)) = true := decide_eq_true hin
                    rw [hin'] at hv
                    subst hv
                    have e1 : opErr p ⟨A, L, code⟩ x = 3 := by unfold opErr; rw [if_neg hkn, if_pos hin]
                    clear hin'
                    have HE1 := Lib.hid e1
                    clear e1
                    go_wp2
                    go_ret
                    refine ⟨ret_int ?_, ?_⟩
                    · rw [← HR.out, HH.out (by rw [HE1.out]; decide), HE1.out]
                    · exact HW.out
              · have KT := known_false hk1
                go_wp2_with (first
                  | (go_at_call 60; refine (known_any _ _).mono ?_; rintro e w1 ⟨rfl, rfl⟩))
                go_ret
                refine ⟨ret_int ?_, ?_⟩
                · have e1 : opErr p ⟨A, L, code⟩ x = 4 := by unfold opErr; rw [if_pos hk1]
                  rw [← HR.out, HH.out (by rw [e1]; decide), e1]
                · have := HE.out; have := HB.out
                  ((repeat (first | assumption | exact Ext.refl _ | (exact And.left (by assumption)) | refine Ext.alloc ?_ _ | refine Ext.drew ?_ | refine Ext.drewN ?_ _ | refine Ext.setCell ?_ (by simp) _ | refine Ext.setCell ?_ (by simp; omega) _ | refine Ext.trans ?_ (by assumption))); done)
            · have hk' : k = code.length := by omega
              subst hk'
              go_wp2
              go_ret
              refine ⟨ret_int ?_, ?_⟩
              · rw [← HR.out]; simp [opsErr]
              · have := HE.out; have := HB.out
                ((repeat (first | assumption | exact Ext.refl _ | (exact And.left (by assumption)) | refine Ext.alloc ?_ _ | refine Ext.drew ?_ | refine Ext.drewN ?_ _ | refine Ext.setCell ?_ (by simp) _ | refine Ext.setCell ?_ (by simp; omega) _ | refine Ext.trans ?_ (by assumption))); done)
  · have HF : funcErr p f = 5 := by unfold funcErr; rw [if_pos hf]
    rw [HF]
    obtain ⟨a, cap, rfl, hcap, hby, _⟩ := hp
    by_cases h0 : f < 0
    · go_enter Try.func42, Try.ntmps42
      go_wp2
      go_ret
      exact ⟨rfl, by ((repeat (first | assumption | exact Ext.refl _ | (exact And.left (by assumption)) | refine Ext.alloc ?_ _ | refine Ext.drew ?_ | refine Ext.drewN ?_ _ | refine Ext.setCell ?_ (by simp) _ | refine Ext.setCell ?_ (by simp; omega) _ | refine Ext.trans ?_ (by assumption))); done)⟩
    · have h1 : (p.length : Int) ≤ f := by omega
      go_enter Try.func42, Try.ntmps42
      go_wp2
      go_ret
      exact ⟨rfl, by ((repeat (first | assumption | exact Ext.refl _ | (exact And.left (by assumption)) | refine Ext.alloc ?_ _ | refine Ext.drew ?_ | refine Ext.drewN ?_ _ | refine Ext.setCell ?_ (by simp) _ | refine Ext.setCell ?_ (by simp; omega) _ | refine Ext.trans ?_ (by assumption))); done)⟩
end Go.Proofs.Ytfajkebkhdcapaa
end
section
/- Contract of the document's FuncError. -/
set_option maxHeartbeats 1000000
set_option maxRecDepth 100000
namespace Go.Proofs.Ytfajkebkhdcapaa
open Go Go.RowKit

end Go.Proofs.Ytfajkebkhdcapaa
end
