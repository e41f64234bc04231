/- Rows of numbers of the call's own, known whole; what a right function's ops are. No condition. -/
import Derived.Test.YtpomcbginkhlbaaRow
import Derived.Test.YtpomcbginkhlbaaFlowP
import Derived.Test.YtpomcbginkhlbaaChoose
namespace Go.Proofs.Ytpomcbginkhlbaa
open Go Go.RowKit

set_option maxRecDepth 100000 in
theorem infoI : (Try.prog.info? 3).map (fun i => (i.zero, i.size, i.bytes)) = some (some (.int .i64 0), 1, 8) := by kernel_rfl

def ints (l : List Int) : List Value := l.map (Value.int .i64)
theorem flatMap_intF (l : List Int) : l.flatMap intF = ints l := by
  induction l with
  | nil => rfl
  | cons x l ih => rw [List.flatMap_cons, ih]; rfl
theorem ints_set (l : List Int) (k : Nat) (n : Int) : (ints l).set k (.int .i64 n) = ints (l.set k n) := by simp [ints, List.map_set]
theorem ints_get (l : List Int) (k : Nat) (h : k < l.length) : (ints l)[k]? = some (.int .i64 (l.getD k 0)) := by simp [ints, List.getD, h]
theorem ints_len (l : List Int) : (ints l).length = l.length := by simp [ints]
theorem ints_app (l m : List Int) : ints (l ++ m) = ints l ++ ints m := by simp [ints]

/-- A row of numbers at the head of block g. -/
def IRow (w : World) (base g : Nat) (l : List Int) : Prop := RowAt w base 1 (.slice (some ⟨g, 0, none⟩) l.length l.length) l.length (ints l)

theorem IRow.at {w : World} {base g : Nat} {l : List Int} (h : IRow w base g l) {k : Nat} (hk : k < l.length) : w.cell? ⟨g, k, none⟩ = some (.int .i64 (l.getD k 0)) ∧ w.frozen? ⟨g, k, none⟩ = false ∧ base ≤ g := by
  obtain ⟨g', o, e, hb, hc⟩ := h.cell (by omega)
  simp only [Option.some.injEq, Addr.mk.injEq] at e
  obtain ⟨rfl, rfl, -⟩ := e
  have := hc k (by omega)
  rw [Nat.zero_add, ints_get l k hk] at this
  exact ⟨this.1, this.2, hb⟩
theorem IRow.store {w : World} {base g : Nat} {l : List Int} (h : IRow w base g l) {k : Nat} (hk : k < l.length) (n : Int) : IRow (w.setCell ⟨g, k, none⟩ (.int .i64 n)) base g (l.set k n) := by
  have := RowAt.store h (j := k) (by omega) (.int .i64 n)
  rw [Nat.zero_add, ints_set] at this
  unfold IRow
  rw [List.length_set]
  exact this
theorem IRow.ext {w w' : World} {base g : Nat} {l : List Int} (h : IRow w base g l) (he : Ext w w') : IRow w' base g l := RowAt.ext h he (by decide)
theorem IRow.chg {M : Nat → Prop} {w w' : World} {base g : Nat} {l : List Int} (h : IRow w base g l) (he : Chg M w w') (hM : ¬ M g) : IRow w' base g l :=
  RowAt.chg h he (fun g' hg => by
    simp only [rowBlock] at hg
    split at hg
    · cases hg
    · cases hg; exact hM) (by decide)
theorem chg_one (w : World) (b o : Nat) (u : Value) : Chg (· = b) w (w.setCell ⟨b, o, none⟩ u) := Chg.setCell (M := (· = b)) (p := ⟨b, o, none⟩) (Chg.refl _ _) (.inl rfl) u
/-- Another block is written. -/
theorem IRow.other {w : World} {base g : Nat} {l : List Int} (h : IRow w base g l) {b o : Nat} (hb : b ≠ g) (u : Value) : IRow (w.setCell ⟨b, o, none⟩ u) base g l :=
  h.chg (chg_one w b o u) (fun e => hb e.symm)
theorem IRow.mono {w : World} {base base' g : Nat} {l : List Int} (h : IRow w base g l) (hb : base' ≤ base) : IRow w base' g l := RowAt.mono h hb
theorem IRow.ints {w : World} {base g : Nat} {l : List Int} (h : IRow w base g l) (hb : l.length ≤ 1000000) (hI : ∀ x ∈ l, I64 x) (S : Nat → Prop) (hS : ∀ b, base ≤ b → S b) : Ints w S (.slice (some ⟨g, 0, none⟩) l.length l.length) l :=
  Ints.of_row (base := base) (by rw [flatMap_intF]; exact h) (by omega) hI S (fun b hbb _ => hS b hbb)

theorem RowAt.of_own {w : World} {base : Nat} {e : TypeId} {size : Nat} {v : Value} {n : Nat} {xs : List Value} (h : w.ownsRow base e size v n xs) : RowAt w base size v n xs := by
  refine ⟨h.1, ?_⟩
  rcases h.2 with ⟨rfl, rfl⟩ | ⟨g, cap, cur, rfl, hbg, hg, hnc, hcm, hcs, htake⟩
  · exact ⟨none, 0, rfl, Nat.le_refl _, Nat.zero_le _, .inl rfl⟩
  · refine ⟨_, cap, rfl, hnc, hcm, .inr ⟨g, 0, rfl, hbg, fun j hj => ?_, fun j hj => ?_⟩⟩
    · rw [Nat.zero_add, cell_of_row w g _ cur e (0, 0) hg, ← htake, List.getElem?_take, if_pos hj, Array.getElem?_toList]
    · rw [Nat.zero_add]
      refine ⟨by rw [cell_of_row w g _ cur e (0, 0) hg, Array.getElem?_eq_getElem (by omega)]; rfl, frozen_of_row w g _ cur e hg⟩

theorem ext_none {w w' : World} (hg : w.grownBy w' none) : Ext w w' := (Ext.refl w).grown hg (fun _ h => by cases h)

/-- A right function's ops. -/
structure RightF (p : List GFunc) (f : GFunc) : Prop where
  len : f.code.length ≤ 24
  op : ∀ x ∈ f.code, 0 ≤ x.kind ∧ x.kind ≤ 16 ∧ 0 ≤ x.a ∧ (x.kind = 9 ∨ x.kind = 10 → x.a < f.code.length) ∧ (x.kind = 11 → x.a < p.length) ∧ 0 ≤ takesOf p x ∧ takesOf p x ≤ 4
  locals : 0 ≤ f.args ∧ f.args ≤ f.locals ∧ f.locals ≤ 4

theorem sizedB_facts {f : GFunc} (h : sizedB f = true) : 0 ≤ f.args ∧ f.args ≤ f.locals ∧ f.locals ≤ 4 := by
  unfold sizedB at h
  exact of_decide_eq_true h

theorem funcErr_zero {p : List GFunc} {f : Int} (h : funcErr p f = 0) : 0 ≤ f ∧ f < p.length ∧ ∀ hf : f.toNat < p.length, RightF p p[f.toNat] := by
  unfold funcErr at h
  by_cases hf : 0 ≤ f ∧ f < p.length
  · rw [if_neg (fun k => k hf)] at h
    refine ⟨hf.1, hf.2, fun hl => ?_⟩
    have e : p.getD f.toNat default = p[f.toNat] := by simp [List.getD, List.getElem?_eq_getElem hl]
    rw [e] at h
    by_cases h2 : 24 < p[f.toNat].code.length
    · rw [if_pos h2] at h; omega
    · rw [if_neg h2] at h
      cases h3 : sizedB p[f.toNat] with
      | false => rw [if_pos h3] at h; omega
      | true =>
        rw [if_neg (by rw [h3]; decide)] at h
        refine ⟨by omega, fun x hx => ?_, sizedB_facts h3⟩
        have hops := ok_ops h x hx
        obtain ⟨k0, k1, a0, a1, hs, _⟩ := ok_facts hops
        have h11 : x.kind = 11 → x.a < p.length := fun hk => by
          unfold mostOf at a1
          rw [if_neg (by omega), if_neg (by omega), if_neg (by omega), if_pos (.inl hk)] at a1
          omega
        refine ⟨k0, k1, a0, fun hk => ?_, h11, ?_⟩
        · unfold mostOf at a1
          rw [if_neg (by omega), if_neg (by omega), if_pos hk] at a1
          omega
        · unfold takesOf
          split
          · omega
          · split
            · omega
            · split
              · rename_i hk
                have := sizedB_facts (hs (.inl hk))
                omega
              · omega
  · rw [if_pos hf] at h; omega

theorem RightF.jumps {p : List GFunc} {f : GFunc} (h : RightF p f) : Jumps f.code := by
  intro k hk hj
  have e : f.code.getD k default = f.code[k] := by simp [List.getD, List.getElem?_eq_getElem hk]
  rw [e] at hj ⊢
  obtain ⟨_, _, h3, h4, _⟩ := h.op _ (List.getElem_mem hk)
  have := h4 hj
  omega

theorem RowAt.get_int {w : World} {base cap : Nat} {a : Option Addr} {l : List Int} (h : RowAt w base 1 (.slice a l.length cap) l.length (ints l)) {q : Nat} (hq : q < l.length) :
    ∃ g o, a = some ⟨g, o, none⟩ ∧ base ≤ g ∧ w.cell? ⟨g, o + q, none⟩ = some (.int .i64 (l.getD q 0)) := by
  obtain ⟨g, o, rfl, hb, hc⟩ := h.cell (by omega)
  refine ⟨g, o, rfl, hb, ?_⟩
  rw [(hc q (by omega)).1, ints_get l q hq]

/-- One number in a new block. -/
theorem src_one (w : World) (n : Int) (t : TypeId) : SrcSl (w.alloc (.cells #[.int .i64 n] t)) 1 (.slice (some ⟨w.heap.size, 0, none⟩) 1 1) 1 (ints [n]) := by
  refine ⟨_, 1, rfl, rfl, by simp [ints, Value.oneCell'], .inr ⟨_, rfl, fun j u hj => ?_⟩⟩
  match j, hj with
  | 0, hj =>
    cases hj
    rw [Addr.add_zero']
    exact World.cell?_alloc_new w _ _ 0

def nats (l : List Nat) : List Int := l.map (fun k : Nat => (k : Int))
theorem nats_len (l : List Nat) : (nats l).length = l.length := by simp [nats]
theorem nats_get (l : List Nat) (q : Nat) (h : q < l.length) : (nats l).getD q 0 = (l.getD q 0 : Nat) := by simp [nats, List.getD, h]

/-- The rounds, from a step on. -/
def oneFrom (p : List GFunc) (code : List GOp) (i : Nat) (out : List Int) : Option (List Int) := oneR p code (List.range' i (code.length - i)) out
theorem oneFrom_zero (p : List GFunc) (code : List GOp) (out : List Int) : oneR p code (List.range code.length) out = oneFrom p code 0 out := by unfold oneFrom; rw [List.range_eq_range', Nat.sub_zero]
theorem oneFrom_end (p : List GFunc) (code : List GOp) (out : List Int) : oneFrom p code code.length out = some out := by unfold oneFrom; rw [Nat.sub_self]; rfl
theorem oneFrom_step (p : List GFunc) (code : List GOp) {i : Nat} (out : List Int) (h : i < code.length) : oneFrom p code i out = match one1 p code i out with
    | none => none
    | some o => oneFrom p code (i + 1) o := by
  unfold oneFrom
  rw [show code.length - i = (code.length - (i + 1)) + 1 by omega, List.range'_succ]
  rfl

theorem getD_eq {l : List GOp} {i : Nat} (h : i < l.length) : l.getD i default = l[i] := by simp [List.getD, List.getElem?_eq_getElem h]

theorem one1_neg {p : List GFunc} {code : List GOp} {i : Nat} {out : List Int} (h : out.getD i 0 < 0) : one1 p code i out = some out := by unfold one1; rw [if_pos h]
theorem one1_bad {p : List GFunc} {code : List GOp} {i : Nat} {out : List Int} (hi : i < code.length) (h : ¬ out.getD i 0 < 0) (hb : badB p code[i] (out.getD i 0) = true) : one1 p code i out = none := by
  unfold one1; rw [if_neg h, getD_eq hi, if_pos hb]
theorem one1_put {p : List GFunc} {code : List GOp} {i : Nat} {out : List Int} (hi : i < code.length) (h : ¬ out.getD i 0 < 0) (hb : badB p code[i] (out.getD i 0) = false) : one1 p code i out = putAll code.length (nOf p code[i] (out.getD i 0)) (nx code[i] i) out := by
  unfold one1; rw [if_neg h, getD_eq hi, hb]; rfl

theorem putAll_drop {len : Nat} {n : Int} {is : List Nat} {out : List Int} {q : Nat} (h : q < is.length) : putAll len n (is.drop q) out = if is.getD q 0 = len ∨ (0 ≤ out.getD (is.getD q 0) 0 ∧ out.getD (is.getD q 0) 0 ≠ n) then none else putAll len n (is.drop (q + 1)) (out.set (is.getD q 0) n) := by
  rw [List.drop_eq_getElem_cons h, show is.getD q 0 = is[q] by simp [List.getD, List.getElem?_eq_getElem h]]
  rfl
end Go.Proofs.Ytpomcbginkhlbaa
