/- Merged texts: contracts and plain facts, one part behind another; each part begins with what it says. -/
import Derived.Test.YtpomcbginkhlbaaGTAB
import Derived.Test.YtpomcbginkhlbaaGTAD
import Derived.Test.YtpomcbginkhlbaaGTAE
import Derived.Deep.MidRow
section
/- Rows of numbers of the call's own, known whole; what a right function's ops are. No condition. -/
namespace Go.Proofs.Ytpomcbginkhlbaa
open Go Go.RowKit

set_option maxRecDepth 100000 in
theorem infoI : (Try.prog.info? 3).map (fun i => (i.zero, i.size, i.bytes)) = some (some (.int .i64 0), 1, 8) := by kernel_rfl

def ints (l : List Int) : List Value := l.map (Value.int .i64)
theorem flatMap_intF (l : List Int) : l.flatMap intF = ints l := by
  induction l with
  | nil => rfl
  | cons x l ih => rw [List.flatMap_cons, ih]; rfl
theorem ints_set (l : List Int) (k : Nat) (n : Int) : (ints l).set k (.int .i64 n) = ints (l.set k n) := by simp [ints, List.map_set]
theorem ints_get (l : List Int) (k : Nat) (h : k < l.length) : (ints l)[k]? = some (.int .i64 (l.getD k 0)) := by simp [ints, List.getD, h]
theorem ints_len (l : List Int) : (ints l).length = l.length := by simp [ints]
theorem ints_app (l m : List Int) : ints (l ++ m) = ints l ++ ints m := by simp [ints]

/-- A row of numbers at the head of block g. -/
def IRow (w : World) (base g : Nat) (l : List Int) : Prop := RowAt w base 1 (.slice (some ⟨g, 0, none⟩) l.length l.length) l.length (ints l)

theorem IRow.at {w : World} {base g : Nat} {l : List Int} (h : IRow w base g l) {k : Nat} (hk : k < l.length) : w.cell? ⟨g, k, none⟩ = some (.int .i64 (l.getD k 0)) ∧ w.frozen? ⟨g, k, none⟩ = false ∧ base ≤ g := by
  obtain ⟨g', o, e, hb, hc⟩ := h.cell (by omega)
  simp only [Option.some.injEq, Addr.mk.injEq] at e
  obtain ⟨rfl, rfl, -⟩ := e
  have := hc k (by omega)
  rw [Nat.zero_add, ints_get l k hk] at this
  exact ⟨this.1, this.2, hb⟩
theorem IRow.store {w : World} {base g : Nat} {l : List Int} (h : IRow w base g l) {k : Nat} (hk : k < l.length) (n : Int) : IRow (w.setCell ⟨g, k, none⟩ (.int .i64 n)) base g (l.set k n) := by
  have := RowAt.store h (j := k) (by omega) (.int .i64 n)
  rw [Nat.zero_add, ints_set] at this
  unfold IRow
  rw [List.length_set]
  exact this
theorem IRow.ext {w w' : World} {base g : Nat} {l : List Int} (h : IRow w base g l) (he : Ext w w') : IRow w' base g l := RowAt.ext h he (by decide)
theorem IRow.chg {M : Nat → Prop} {w w' : World} {base g : Nat} {l : List Int} (h : IRow w base g l) (he : Chg M w w') (hM : ¬ M g) : IRow w' base g l :=
  RowAt.chg h he (fun g' hg => by
    simp only [rowBlock] at hg
    split at hg
    · cases hg
    · cases hg; exact hM) (by decide)
theorem chg_one (w : World) (b o : Nat) (u : Value) : Chg (· = b) w (w.setCell ⟨b, o, none⟩ u) := Chg.setCell (M := (· = b)) (p := ⟨b, o, none⟩) (Chg.refl _ _) (.inl rfl) u
/-- Another block is written. -/
theorem IRow.other {w : World} {base g : Nat} {l : List Int} (h : IRow w base g l) {b o : Nat} (hb : b ≠ g) (u : Value) : IRow (w.setCell ⟨b, o, none⟩ u) base g l :=
  h.chg (chg_one w b o u) (fun e => hb e.symm)
theorem IRow.mono {w : World} {base base' g : Nat} {l : List Int} (h : IRow w base g l) (hb : base' ≤ base) : IRow w base' g l := RowAt.mono h hb
theorem IRow.ints {w : World} {base g : Nat} {l : List Int} (h : IRow w base g l) (hb : l.length ≤ 1000000) (hI : ∀ x ∈ l, I64 x) (S : Nat → Prop) (hS : ∀ b, base ≤ b → S b) : Ints w S (.slice (some ⟨g, 0, none⟩) l.length l.length) l :=
  Ints.of_row (base := base) (by rw [flatMap_intF]; exact h) (by omega) hI S (fun b hbb _ => hS b hbb)

theorem RowAt.of_own {w : World} {base : Nat} {e : TypeId} {size : Nat} {v : Value} {n : Nat} {xs : List Value} (h : w.ownsRow base e size v n xs) : RowAt w base size v n xs := by
  refine ⟨h.1, ?_⟩
  rcases h.2 with ⟨rfl, rfl⟩ | ⟨g, cap, cur, rfl, hbg, hg, hnc, hcm, hcs, htake⟩
  · exact ⟨none, 0, rfl, Nat.le_refl _, Nat.zero_le _, .inl rfl⟩
  · refine ⟨_, cap, rfl, hnc, hcm, .inr ⟨g, 0, rfl, hbg, fun j hj => ?_, fun j hj => ?_⟩⟩
    · rw [Nat.zero_add, cell_of_row w g _ cur e (0, 0) hg, ← htake, List.getElem?_take, if_pos hj, Array.getElem?_toList]
    · rw [Nat.zero_add]
      refine ⟨by rw [cell_of_row w g _ cur e (0, 0) hg, Array.getElem?_eq_getElem (by omega)]; rfl, frozen_of_row w g _ cur e hg⟩

theorem ext_none {w w' : World} (hg : w.grownBy w' none) : Ext w w' := (Ext.refl w).grown hg (fun _ h => by cases h)

/-- A right function's ops. -/
structure RightF (p : List GFunc) (f : GFunc) : Prop where
  len : f.code.length ≤ 24
  op : ∀ x ∈ f.code, 0 ≤ x.kind ∧ x.kind ≤ 16 ∧ 0 ≤ x.a ∧ (x.kind = 9 ∨ x.kind = 10 → x.a < f.code.length) ∧ (x.kind = 11 → x.a < p.length) ∧ 0 ≤ takesOf p x ∧ takesOf p x ≤ 4
  locals : 0 ≤ f.args ∧ f.args ≤ f.locals ∧ f.locals ≤ 4

theorem sizedB_facts {f : GFunc} (h : sizedB f = true) : 0 ≤ f.args ∧ f.args ≤ f.locals ∧ f.locals ≤ 4 := by
  unfold sizedB at h
  exact of_decide_eq_true h

theorem funcErr_zero {p : List GFunc} {f : Int} (h : funcErr p f = 0) : 0 ≤ f ∧ f < p.length ∧ ∀ hf : f.toNat < p.length, RightF p p[f.toNat] := by
  unfold funcErr at h
  by_cases hf : 0 ≤ f ∧ f < p.length
  · rw [if_neg (fun k => k hf)] at h
    refine ⟨hf.1, hf.2, fun hl => ?_⟩
    have e : p.getD f.toNat default = p[f.toNat] := by simp [List.getD, List.getElem?_eq_getElem hl]
    rw [e] at h
    by_cases h2 : 24 < p[f.toNat].code.length
    · rw [if_pos h2] at h; omega
    · rw [if_neg h2] at h
      cases h3 : sizedB p[f.toNat] with
      | false => rw [if_pos h3] at h; omega
      | true =>
        rw [if_neg (by rw [h3]; decide)] at h
        refine ⟨by omega, fun x hx => ?_, sizedB_facts h3⟩
        have hops := ok_ops h x hx
        obtain ⟨k0, k1, a0, a1, hs, _⟩ := ok_facts hops
        have h11 : x.kind = 11 → x.a < p.length := fun hk => by
          unfold mostOf at a1
          rw [if_neg (by omega), if_neg (by omega), if_neg (by omega), if_pos (.inl hk)] at a1
          omega
        refine ⟨k0, k1, a0, fun hk => ?_, h11, ?_⟩
        · unfold mostOf at a1
          rw [if_neg (by omega), if_neg (by omega), if_pos hk] at a1
          omega
        · unfold takesOf
          split
          · omega
          · split
            · omega
            · split
              · rename_i hk
                have := sizedB_facts (hs (.inl hk))
                omega
              · omega
  · rw [if_pos hf] at h; omega

theorem RightF.jumps {p : List GFunc} {f : GFunc} (h : RightF p f) : Jumps f.code := by
  intro k hk hj
  have e : f.code.getD k default = f.code[k] := by simp [List.getD, List.getElem?_eq_getElem hk]
  rw [e] at hj ⊢
  obtain ⟨_, _, h3, h4, _⟩ := h.op _ (List.getElem_mem hk)
  have := h4 hj
  omega

theorem RowAt.get_int {w : World} {base cap : Nat} {a : Option Addr} {l : List Int} (h : RowAt w base 1 (.slice a l.length cap) l.length (ints l)) {q : Nat} (hq : q < l.length) :
    ∃ g o, a = some ⟨g, o, none⟩ ∧ base ≤ g ∧ w.cell? ⟨g, o + q, none⟩ = some (.int .i64 (l.getD q 0)) := by
  obtain ⟨g, o, rfl, hb, hc⟩ := h.cell (by omega)
  refine ⟨g, o, rfl, hb, ?_⟩
  rw [(hc q (by omega)).1, ints_get l q hq]

/-- One number in a new block. -/
theorem src_one (w : World) (n : Int) (t : TypeId) : SrcSl (w.alloc (.cells #[.int .i64 n] t)) 1 (.slice (some ⟨w.heap.size, 0, none⟩) 1 1) 1 (ints [n]) := by
  refine ⟨_, 1, rfl, rfl, by simp [ints, Value.oneCell'], .inr ⟨_, rfl, fun j u hj => ?_⟩⟩
  match j, hj with
  | 0, hj =>
    cases hj
    rw [Addr.add_zero']
    exact World.cell?_alloc_new w _ _ 0

def nats (l : List Nat) : List Int := l.map (fun k : Nat => (k : Int))
theorem nats_len (l : List Nat) : (nats l).length = l.length := by simp [nats]
theorem nats_get (l : List Nat) (q : Nat) (h : q < l.length) : (nats l).getD q 0 = (l.getD q 0 : Nat) := by simp [nats, List.getD, h]

/-- The rounds, from a step on. -/
def oneFrom (p : List GFunc) (code : List GOp) (i : Nat) (out : List Int) : Option (List Int) := oneR p code (List.range' i (code.length - i)) out
theorem oneFrom_zero (p : List GFunc) (code : List GOp) (out : List Int) : oneR p code (List.range code.length) out = oneFrom p code 0 out := by unfold oneFrom; rw [List.range_eq_range', Nat.sub_zero]
theorem oneFrom_end (p : List GFunc) (code : List GOp) (out : List Int) : oneFrom p code code.length out = some out := by unfold oneFrom; rw [Nat.sub_self]; rfl
theorem oneFrom_step (p : List GFunc) (code : List GOp) {i : Nat} (out : List Int) (h : i < code.length) : oneFrom p code i out = match one1 p code i out with
    | none => none
    | some o => oneFrom p code (i + 1) o := by
  unfold oneFrom
  rw [show code.length - i = (code.length - (i + 1)) + 1 by omega, List.range'_succ]
  rfl

theorem getD_eq {l : List GOp} {i : Nat} (h : i < l.length) : l.getD i default = l[i] := by simp [List.getD, List.getElem?_eq_getElem h]

theorem one1_neg {p : List GFunc} {code : List GOp} {i : Nat} {out : List Int} (h : out.getD i 0 < 0) : one1 p code i out = some out := by unfold one1; rw [if_pos h]
theorem one1_bad {p : List GFunc} {code : List GOp} {i : Nat} {out : List Int} (hi : i < code.length) (h : ¬ out.getD i 0 < 0) (hb : badB p code[i] (out.getD i 0) = true) : one1 p code i out = none := by
  unfold one1; rw [if_neg h, getD_eq hi, if_pos hb]
theorem one1_put {p : List GFunc} {code : List GOp} {i : Nat} {out : List Int} (hi : i < code.length) (h : ¬ out.getD i 0 < 0) (hb : badB p code[i] (out.getD i 0) = false) : one1 p code i out = putAll code.length (nOf p code[i] (out.getD i 0)) (nx code[i] i) out := by
  unfold one1; rw [if_neg h, getD_eq hi, hb]; rfl

theorem putAll_drop {len : Nat} {n : Int} {is : List Nat} {out : List Int} {q : Nat} (h : q < is.length) : putAll len n (is.drop q) out = if is.getD q 0 = len ∨ (0 ≤ out.getD (is.getD q 0) 0 ∧ out.getD (is.getD q 0) 0 ≠ n) then none else putAll len n (is.drop (q + 1)) (out.set (is.getD q 0) n) := by
  rw [List.drop_eq_getElem_cons h, show is.getD q 0 = is[q] by simp [List.getD, List.getElem?_eq_getElem h]]
  rfl
end Go.Proofs.Ytpomcbginkhlbaa
end
section
/- A cell of the call's own: its value, and that it may be written. No condition. -/
set_option maxHeartbeats 400000
namespace Go.Proofs.Ytpomcbginkhlbaa
open Go Go.RowKit

/-- A cell's value, and that it may be written. -/
def Cx (W : World) (b j : Nat) (v : Value) : Prop := W.cell? ⟨b, j, none⟩ = some v ∧ W.frozen? ⟨b, j, none⟩ = false
theorem Cx.lt {W : World} {b j : Nat} {v : Value} (h : Cx W b j v) : b < W.heap.size := lt_of_cell h.1
theorem Cx.new (W : World) (vs : List Value) (t : TypeId) {j : Nat} {v : Value} (hj : vs[j]? = some v) : Cx (W.alloc (.cells vs.toArray t)) W.heap.size j v := by
  refine ⟨?_, World.frozen?_alloc_new W vs.toArray t j⟩
  have := World.cell?_alloc_new W vs.toArray t j
  rw [this, List.getElem?_toArray, hj]
theorem Cx.ext {W W' : World} {b j : Nat} {v : Value} (h : Cx W b j v) (he : Ext W W') : Cx W' b j v :=
  ⟨Ext.cell he h.1, by rw [Ext.keepF he _ (by rw [h.1]; rfl)]; exact h.2⟩
theorem Cx.chg {M : Nat → Prop} {W W' : World} {b j : Nat} {v : Value} (h : Cx W b j v) (hc : Chg M W W') (hM : ¬ M b) : Cx W' b j v :=
  ⟨Chg.cell hc hM h.1, by rw [Chg.frozen hc hM h.lt]; exact h.2⟩
theorem Cx.set {W : World} {b j : Nat} {v : Value} (h : Cx W b j v) (u : Value) : Cx (W.setCell ⟨b, j, none⟩ u) b j u :=
  ⟨World.cell?_setCell_same' _ _ _ (by rw [h.1]; rfl), by rw [World.frozen?_setCell]; exact h.2⟩
theorem Cx.other {W : World} {b j b' j' : Nat} {v : Value} (h : Cx W b j v) (hne : b ≠ b' ∨ j ≠ j') (u : Value) : Cx (W.setCell ⟨b', j', none⟩ u) b j v :=
  ⟨by rw [World.cell?_setCell_other (a := ⟨b', j', none⟩) (b := ⟨b, j, none⟩) (h := by intro e; simp only [Addr.mk.injEq] at e; omega)]; exact h.1, by rw [World.frozen?_setCell]; exact h.2⟩

/-- A whole result out of its cells. -/
theorem results_cell_mid {P : Program} {fn : Func} {p : Tmp} {ty : TypeId} (h : fn.results = #[.cell p ty]) (tmps : Array Value) (w : World) (b o : Nat) (cs : List Value) (d : TypeDesc)
    (hp : tmps.getD p undef = .pointer (some ⟨b, o, none⟩)) (hc : w.rangeAt b o cs) (hu : P.underlying ty = some d) (hd : d.isRow = true) (hi : (P.info? ty).map (·.size) = some cs.length) :
    (results fn tmps).run P w = .ok (.agg cs.toArray) w := by
  have hp' : tmps[p]?.getD undef = .pointer (some ⟨b, o, none⟩) := by simpa using hp
  simp [results, h, hp', asAddr, run_loadVar_mid w b o ty cs d hc hu hd hi]
theorem range3 {w : World} {b : Nat} {x y z : Value} (h0 : w.cell? ⟨b, 0, none⟩ = some x) (h1 : w.cell? ⟨b, 1, none⟩ = some y) (h2 : w.cell? ⟨b, 2, none⟩ = some z) : w.rangeAt b 0 [x, y, z] := by
  intro j v hj
  rw [Nat.zero_add]
  match j, hj with
  | 0, hj => cases hj; exact h0
  | 1, hj => cases hj; exact h1
  | 2, hj => cases hj; exact h2

end Go.Proofs.Ytpomcbginkhlbaa
end
section
/- A state in the call's own memory: rows in pairwise different blocks. No condition. -/
set_option maxHeartbeats 400000
namespace Go.Proofs.Ytpomcbginkhlbaa
open Go Go.RowKit

structure PFrame where
  f : GFrame
  vl : Value
  vs : Value
structure PFiber where
  fr : List PFrame
  caller : Int
  vf : Value
structure PState where
  fs : List PFiber
  now : Int
  out : List Int
  vfs : Value
  vo : Value
def PFiber.g (y : PFiber) : GFiber := ⟨y.fr.map PFrame.f, y.caller⟩
def PState.g (P : PState) : GState := ⟨P.fs.map PFiber.g, P.now, P.out⟩
def frameF (x : PFrame) : List Value := [.int .i64 x.f.func, .int .i64 x.f.at_, x.vl, x.vs]
def fiberF (y : PFiber) : List Value := [y.vf, .int .i64 y.caller]
/-- The blocks of its rows. -/
def PFrame.bl (x : PFrame) : List Nat := (rowBlock x.vl).toList ++ (rowBlock x.vs).toList
def PFiber.bl (y : PFiber) : List Nat := (rowBlock y.vf).toList ++ y.fr.flatMap PFrame.bl
def PState.bl (P : PState) : List Nat := (rowBlock P.vfs).toList ++ (rowBlock P.vo).toList ++ P.fs.flatMap PFiber.bl

structure FrameO (W : World) (B : Nat) (x : PFrame) : Prop where
  i : I64 x.f.func ∧ I64 x.f.at_ ∧ (∀ n ∈ x.f.locals, I64 n) ∧ (∀ n ∈ x.f.stack, I64 n)
  l : RowAt W B 1 x.vl x.f.locals.length (ints x.f.locals)
  s : RowAt W B 1 x.vs x.f.stack.length (ints x.f.stack)
  few : x.f.locals.length ≤ 1000 ∧ x.f.stack.length ≤ 1000
structure FiberO (W : World) (B : Nat) (y : PFiber) : Prop where
  i : I64 y.caller
  row : RowAt W B 4 y.vf y.fr.length (y.fr.flatMap frameF)
  fr : ∀ x ∈ y.fr, FrameO W B x
  few : y.fr.length ≤ 1000
structure OwnS (W : World) (B b : Nat) (P : PState) : Prop where
  c0 : Cx W b 0 P.vfs
  c1 : Cx W b 1 (.int .i64 P.now)
  c2 : Cx W b 2 P.vo
  i : I64 P.now ∧ ∀ n ∈ P.out, I64 n
  row : RowAt W B 2 P.vfs P.fs.length (P.fs.flatMap fiberF)
  out : RowAt W B 1 P.vo P.out.length (ints P.out)
  fs : ∀ y ∈ P.fs, FiberO W B y
  le : B ≤ b
  few : P.fs.length ≤ 1000 ∧ P.out.length ≤ 1000
  nodup : (b :: P.bl).Nodup

theorem FrameO.chg {M : Nat → Prop} {W W' : World} {B : Nat} {x : PFrame} (h : FrameO W B x) (hc : Chg M W W') (hM : ∀ g ∈ x.bl, ¬ M g) : FrameO W' B x :=
  ⟨h.i, h.l.chg hc (fun g e => hM g (by unfold PFrame.bl; simp [e])) (by decide), h.s.chg hc (fun g e => hM g (by unfold PFrame.bl; simp [e])) (by decide), h.few⟩
theorem FiberO.chg {M : Nat → Prop} {W W' : World} {B : Nat} {y : PFiber} (h : FiberO W B y) (hc : Chg M W W') (hM : ∀ g ∈ y.bl, ¬ M g) : FiberO W' B y :=
  ⟨h.i, h.row.chg hc (fun g e => hM g (by unfold PFiber.bl; simp [e])) (by decide), fun x hx => (h.fr x hx).chg hc (fun g hg => hM g (by unfold PFiber.bl; exact List.mem_append.2 (.inr (List.mem_flatMap.2 ⟨x, hx, hg⟩)))), h.few⟩
theorem OwnS.chg {M : Nat → Prop} {W W' : World} {B b : Nat} {P : PState} (h : OwnS W B b P) (hc : Chg M W W') (hb : ¬ M b) (hM : ∀ g ∈ P.bl, ¬ M g) : OwnS W' B b P :=
  ⟨h.c0.chg hc hb, h.c1.chg hc hb, h.c2.chg hc hb, h.i, h.row.chg hc (fun g e => hM g (by unfold PState.bl; simp [e])) (by decide), h.out.chg hc (fun g e => hM g (by unfold PState.bl; simp [e])) (by decide),
    fun y hy => (h.fs y hy).chg hc (fun g hg => hM g (by unfold PState.bl; exact List.mem_append.2 (.inr (List.mem_flatMap.2 ⟨y, hy, hg⟩)))), h.le, h.few, h.nodup⟩
theorem OwnS.ext {W W' : World} {B b : Nat} {P : PState} (h : OwnS W B b P) (he : Ext W W') : OwnS W' B b P := h.chg (M := fun _ => False) (Chg.of_ext he) (fun h => h) (fun _ _ h => h)

/-- Its frames, its fibers, the state as readings. -/
theorem FrameO.ints {W : World} {B : Nat} {x : PFrame} (h : FrameO W B x) (S : Nat → Prop) (hS : ∀ g, B ≤ g → S g) : Ints W S x.vl x.f.locals ∧ Ints W S x.vs x.f.stack := by
  have f := h.few
  exact ⟨Ints.of_row (by rw [flatMap_intF]; exact h.l) (by omega) h.i.2.2.1 S (fun b hb _ => hS b hb), Ints.of_row (by rw [flatMap_intF]; exact h.s) (by omega) h.i.2.2.2 S (fun b hb _ => hS b hb)⟩
theorem Sl.map' {α β : Type} {E : Nat → Nat → β → Prop} {sz bytes : Nat} {v : Value} {l : List α} (f : α → β) (h : Sl (fun b o y => E b o (f y)) sz bytes v l) : Sl E sz bytes v (l.map f) := by
  obtain ⟨a, cap, rfl, h1, h2, h3⟩ := h
  refine ⟨a, cap, by rw [List.length_map], by rw [List.length_map]; exact h1, by rw [List.length_map]; exact h2, fun i hi => ?_⟩
  obtain ⟨b, o, e, h4⟩ := h3 i (by rwa [List.length_map] at hi)
  exact ⟨b, o, e, by rw [List.getElem_map]; exact h4⟩
theorem FiberO.frames {W : World} {B : Nat} {y : PFiber} (h : FiberO W B y) (S : Nat → Prop) (hS : ∀ g, B ≤ g → S g) : Frames W S y.vf (y.fr.map PFrame.f) := by
  have f := h.few
  refine Sl.map' PFrame.f (Sl.of_row frameF h.row (fun _ => rfl) (by omega) fun b o x hb _ hx hc => ?_)
  have hx' := h.fr x hx
  exact ⟨⟨hS b hb, hc 0 _ rfl, hx'.i.1⟩, ⟨hS b hb, hc 1 _ rfl, hx'.i.2.1⟩, ⟨_, hc 2 _ rfl, (hx'.ints S hS).1⟩, _, hc 3 _ rfl, (hx'.ints S hS).2⟩
theorem OwnS.state {W : World} {B b : Nat} {P : PState} (h : OwnS W B b P) (S : Nat → Prop) (hS : ∀ g, B ≤ g → S g) : StateV W S (.agg #[P.vfs, .int .i64 P.now, P.vo]) P.g := by
  have f := h.few
  refine ⟨_, _, rfl, Sl.map' PFiber.g (Sl.of_row fiberF h.row (fun _ => rfl) (by omega) fun b o y hb _ hy hc => ?_), h.i.1, Ints.of_row (by rw [flatMap_intF]; exact h.out) (show P.out.length * 8 ≤ _ by omega) h.i.2 S (fun b hb _ => hS b hb)⟩
  have hy' := h.fs y hy
  exact ⟨⟨_, hc 0 _ rfl, hy'.frames S hS⟩, hS b hb, hc 1 _ rfl, hy'.i⟩
end Go.Proofs.Ytpomcbginkhlbaa
end
