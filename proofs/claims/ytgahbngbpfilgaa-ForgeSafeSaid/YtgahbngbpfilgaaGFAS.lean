/- Merged texts: contracts and plain facts, one part behind another; each part begins with what it says. -/
import Derived.Test.YtgahbngbpfilgaaGFAH
import Derived.Test.YtgahbngbpfilgaaGFAR
section
/- The document's OwnState: a state laid anew in own memory. No condition. -/
set_option maxHeartbeats 4000000
set_option maxRecDepth 100000
namespace Go.Proofs.Ytgahbngbpfilgaa
open Go Go.RowKit

/-- The rows of a state of own memory, without its box. -/
structure OwnR (W : World) (B : Nat) (P : PState) : Prop where
  i : I64 P.now ∧ ∀ n ∈ P.out, I64 n
  row : RowAt W B 2 P.vfs P.fs.length (P.fs.flatMap fiberF)
  out : RowAt W B 1 P.vo P.out.length (ints P.out)
  fs : ∀ y ∈ P.fs, FiberO W B y
  few : P.fs.length ≤ 1000 ∧ P.out.length ≤ 1000
  nodup : P.bl.Nodup
theorem OwnS.rows {W : World} {B b : Nat} {P : PState} (h : OwnS W B b P) : OwnR W B P := ⟨h.i, h.row, h.out, h.fs, h.few, (List.nodup_cons.1 h.nodup).2⟩
theorem OwnR.ext {W W' : World} {B : Nat} {P : PState} (h : OwnR W B P) (he : Ext W W') : OwnR W' B P :=
  ⟨h.i, h.row.ext he (by decide), h.out.ext he (by decide), fun y hy => (h.fs y hy).chg (M := fun _ => False) (Chg.of_ext he) (fun _ _ h => h), h.few, h.nodup⟩
theorem FrameO.mono {W : World} {B B' : Nat} {x : PFrame} (h : FrameO W B x) (hb : B' ≤ B) : FrameO W B' x := ⟨h.i, h.l.mono hb, h.s.mono hb, h.few⟩
theorem FiberO.mono {W : World} {B B' : Nat} {y : PFiber} (h : FiberO W B y) (hb : B' ≤ B) : FiberO W B' y := ⟨h.i, h.row.mono hb, fun x hx => (h.fr x hx).mono hb, h.few⟩
theorem OwnR.mono {W : World} {B B' : Nat} {P : PState} (h : OwnR W B P) (hb : B' ≤ B) : OwnR W B' P := ⟨h.i, h.row.mono hb, h.out.mono hb, fun y hy => (h.fs y hy).mono hb, h.few, h.nodup⟩
theorem OwnR.lt {W : World} {B : Nat} {P : PState} (h : OwnR W B P) : ∀ g ∈ P.bl, g < W.heap.size := by
  intro g hg
  unfold PState.bl at hg
  rcases List.mem_append.1 hg with h1 | h1
  · rcases List.mem_append.1 h1 with h2 | h2
    · exact h.row.lt2 (by decide) g (by simpa using h2)
    · exact h.out.lt2 (by decide) g (by simpa using h2)
  · obtain ⟨y, hy, h2⟩ := List.mem_flatMap.1 h1
    exact (h.fs y hy).lt g h2
/-- Rows and a box make a state of own memory. -/
theorem OwnR.box {W : World} {B b : Nat} {P : PState} (h : OwnR W B P) (c0 : Cx W b 0 P.vfs) (c1 : Cx W b 1 (.int .i64 P.now)) (c2 : Cx W b 2 P.vo) (hb : B ≤ b) (hn : b ∉ P.bl) : OwnS W B b P :=
  ⟨c0, c1, c2, h.i, h.row, h.out, h.fs, hb, h.few, List.nodup_cons.2 ⟨hn, h.nodup⟩⟩

theorem SrcSl.up {w w' : World} {size : Nat} {x : Value} {m : Nat} {news : List Value} (h : SrcSl w size x m news) (he : Ext w w') : SrcSl w' size x m news := by
  obtain ⟨a, c, rfl, h1, h2, h3⟩ := h
  refine ⟨a, c, rfl, h1, h2, h3.imp id fun ⟨ad, ha, hc⟩ => ⟨ad, ha, fun j u hj => ?_⟩⟩
  have hcj := hc j u hj
  rw [Ext.keep he _ (by rw [hcj]; rfl)]
  exact hcj

/-- A fiber that is being laid anew, its box f5. -/
structure BuildF (W : World) (base f5 : Nat) (Y : PFiber) : Prop where
  fo : FiberO W base Y
  nodup : Y.bl.Nodup
  c0 : Cx W f5 0 Y.vf
  c1 : Cx W f5 1 (.int .i64 Y.caller)

theorem BuildF.ge {W : World} {base f5 : Nat} {Y : PFiber} (h : BuildF W base f5 Y) : ∀ k ∈ Y.bl, base ≤ k := fun k hk => by
  unfold PFiber.bl at hk
  rcases List.mem_append.1 hk with h1 | h1
  · exact h.fo.row.le k (by simpa using h1)
  · obtain ⟨x, hx, h2⟩ := List.mem_flatMap.1 h1
    unfold PFrame.bl at h2
    rcases List.mem_append.1 h2 with h3 | h3
    · exact (h.fo.fr x hx).l.le k (by simpa using h3)
    · exact (h.fo.fr x hx).s.le k (by simpa using h3)
end Go.Proofs.Ytgahbngbpfilgaa
end
section
/- The document's stepped, run and RunOf, of states that fit. -/
set_option maxHeartbeats 4000000
set_option maxRecDepth 100000
namespace Go.Proofs.Ytgahbngbpfilgaa
open Go Go.RowKit

/-- A step's answer. -/
def stepG (p : List GFunc) (s : GState) : Int × GState := if s.now < 0 then (8, ⟨[], 0, []⟩) else if (doneG p s).1 = 0 then (0, (doneG p s).2) else ((doneG p s).1, ⟨[], 0, []⟩)

theorem StateV.few {w : World} {S : Nat → Prop} {v : Value} {s : GState} (h : StateV w S v s) : ∃ a c b d, v = .agg #[.slice a s.fibers.length c, .int .i64 s.now, .slice b s.out.length d] := by
  obtain ⟨x, y, rfl, ⟨a, c, rfl, _⟩, _, ⟨b, d, rfl, _⟩⟩ := h
  exact ⟨a, c, b, d, rfl⟩
theorem OwnR.state {W : World} {B : Nat} {P : PState} (h : OwnR W B P) (S : Nat → Prop) (hS : ∀ g, B ≤ g → S g) : StateV W S (.agg #[P.vfs, .int .i64 P.now, P.vo]) P.g := by
  have f := h.few
  refine ⟨_, _, rfl, Sl.map' PFiber.g (Sl.of_row fiberF h.row (fun _ => rfl) (by omega) fun b o y hb _ hy hc => ?_), h.i.1, Ints.of_row (by rw [flatMap_intF]; exact h.out) (show P.out.length * 8 ≤ _ by omega) h.i.2 S (fun b hb _ => hS b hb)⟩
  have hy' := h.fs y hy
  exact ⟨⟨_, hc 0 _ rfl, hy'.frames S hS⟩, hS b hb, hc 1 _ rfl, hy'.i⟩

theorem OwnR.chg {M : Nat → Prop} {W W' : World} {B : Nat} {P : PState} (h : OwnR W B P) (hc : Chg M W W') (hM : ∀ g ∈ P.bl, ¬ M g) : OwnR W' B P :=
  ⟨h.i, h.row.chg hc (fun g e => hM g (PState.mem_vfs e)) (by decide), h.out.chg hc (fun g e => hM g (PState.mem_vo e)) (by decide), fun y hy => (h.fs y hy).chg hc (fun g hg => hM g (PState.mem_fs hy hg)), h.few, h.nodup⟩
theorem OwnR.ge {W : World} {B : Nat} {P : PState} (h : OwnR W B P) : ∀ g ∈ P.bl, B ≤ g := by
  intro g hg
  unfold PState.bl at hg
  rcases List.mem_append.1 hg with h1 | h1
  · rcases List.mem_append.1 h1 with h2 | h2
    · exact h.row.le g (by simpa using h2)
    · exact h.out.le g (by simpa using h2)
  · obtain ⟨y, hy, h2⟩ := List.mem_flatMap.1 h1
    unfold PFiber.bl at h2
    rcases List.mem_append.1 h2 with h3 | h3
    · exact (h.fs y hy).row.le g (by simpa using h3)
    · obtain ⟨x, hx, h4⟩ := List.mem_flatMap.1 h3
      unfold PFrame.bl at h4
      rcases List.mem_append.1 h4 with h5 | h5
      · exact ((h.fs y hy).fr x hx).l.le g (by simpa using h5)
      · exact ((h.fs y hy).fr x hx).s.le g (by simpa using h5)
/-- A state that is handed back, of its own rows. -/
def StateO (W : World) (B : Nat) (x : Value) (s : GState) : Prop := ∃ P, x = .agg #[P.vfs, .int .i64 P.now, P.vo] ∧ OwnR W B P ∧ P.g = s
theorem StateO.state {W : World} {B : Nat} {x : Value} {s : GState} (h : StateO W B x s) : StateV W (B ≤ ·) x s := by
  obtain ⟨P, rfl, h1, rfl⟩ := h
  exact h1.state _ (fun _ h => h)
theorem StateO.few {W : World} {B : Nat} {x : Value} {s : GState} (h : StateO W B x s) : ∃ a c b d, x = .agg #[.slice a s.fibers.length c, .int .i64 s.now, .slice b s.out.length d] := h.state.few
theorem StateO.chg {M : Nat → Prop} {W W' : World} {B : Nat} {x : Value} {s : GState} (h : StateO W B x s) (hc : Chg M W W') (hM : ∀ g, B ≤ g → ¬ M g) : StateO W' B x s := by
  obtain ⟨P, e, h1, h2⟩ := h
  exact ⟨P, e, h1.chg hc (fun g hg => hM g (h1.ge g hg)), h2⟩
theorem StateO.ext {W W' : World} {B : Nat} {x : Value} {s : GState} (h : StateO W B x s) (he : Ext W W') : StateO W' B x s := h.chg (M := fun _ => False) (Chg.of_ext he) (fun _ _ h => h)
theorem StateO.mono {W : World} {B B' : Nat} {x : Value} {s : GState} (h : StateO W B x s) (hb : B' ≤ B) : StateO W B' x s := by
  obtain ⟨P, e, h1, h2⟩ := h
  exact ⟨P, e, h1.mono hb, h2⟩
theorem stateO_nil (w : World) (B : Nat) : StateO w B (.agg #[.slice none 0 0, .int .i64 0, .slice none 0 0]) ⟨[], 0, []⟩ :=
  ⟨⟨[], 0, [], .slice none 0 0, .slice none 0 0⟩, rfl, ⟨⟨I64.zero, (fun n hn => by cases hn)⟩, RowAt.nil _ _ _ _, RowAt.nil _ _ _ _, (fun y hy => by cases hy), ⟨by show 0 ≤ 1000; omega, by show 0 ≤ 1000; omega⟩, by unfold PState.bl; simp [rowBlock]⟩, rfl⟩

theorem stays_below {S : Nat → Prop} {w w' : World} {B : Nat} (he : Ext w w') (hB : w.heap.size ≤ B) : Stays S (· < B) w w' := fun b o v _ hc => ⟨Ext.cell he hc, by have := lt_of_cell hc; show b < B; omega⟩

end Go.Proofs.Ytgahbngbpfilgaa
end
section
/- The document's run and RunOf, of states that fit. -/
set_option maxHeartbeats 4000000
set_option maxRecDepth 100000
namespace Go.Proofs.Ytgahbngbpfilgaa
open Go Go.RowKit

theorem results_cell3 {P : Program} {fn : Func} {p u u' : Tmp} {ty : TypeId} (h : fn.results = #[.cell p ty, .tmp u, .tmp u']) (tmps : Array Value) (w : World) (b o : Nat) (cs : List Value) (d : TypeDesc)
    (hp : tmps.getD p undef = .pointer (some ⟨b, o, none⟩)) (hc : w.rangeAt b o cs) (hu : P.underlying ty = some d) (hd : d.isRow = true) (hi : (P.info? ty).map (·.size) = some cs.length) :
    (results fn tmps).run P w = .ok (.tuple #[.agg cs.toArray, tmps.getD u undef, tmps.getD u' undef]) w := by
  have h1 : (results fn tmps).run P w = ((asAddr (tmps.getD p undef)).run P w).andThen fun a w₁ => ((loadVar ty a).run P w₁).andThen fun v w₂ => .ok (.tuple #[v, tmps.getD u undef, tmps.getD u' undef]) w₂ := by
    simp only [results, h]
    simp [Sem.run_bind, Result.andThen]
  rw [h1]
  have hp' : tmps[p]?.getD undef = .pointer (some ⟨b, o, none⟩) := by simpa using hp
  simp [hp', asAddr, run_loadVar_mid w b o ty cs d hc hu hd hi, Result.andThen]

theorem runG_zero (p : List GFunc) (s : GState) : runG p 0 s = (s, 0, 0) := rfl
theorem runG_done (p : List GFunc) (s : GState) (k : Nat) (h : s.now < 0) : runG p k s = (s, 0, 0) := by
  cases k with
  | zero => rfl
  | succ k => rw [runG, if_pos h]
theorem runG_err (p : List GFunc) (s : GState) (k : Nat) (h : ¬ s.now < 0) (he : (doneG p s).1 ≠ 0) : runG p (k + 1) s = (s, 0, (doneG p s).1) := by rw [runG, if_neg h, if_pos he]
theorem runG_step (p : List GFunc) (s : GState) (k : Nat) (h : ¬ s.now < 0) (he : (doneG p s).1 = 0) : runG p (k + 1) s = ((runG p k (doneG p s).2).1, (runG p k (doneG p s).2).2.1 + 1, (runG p k (doneG p s).2).2.2) := by rw [runG, if_neg h, if_neg (by simpa using he)]

theorem StateO.few0 {w : World} {B : Nat} {v : Value} (h : StateO w B v ⟨[], 0, []⟩) : ∃ a c b d, v = .agg #[.slice a 0 c, .int .i64 0, .slice b 0 d] := h.few

/-- A state's reading in its own box. -/
structure Boxed (w : World) (B b : Nat) (s : GState) : Prop where
  ex : ∃ a c d e, Cx w b 0 (.slice a s.fibers.length c) ∧ Cx w b 1 (.int .i64 s.now) ∧ Cx w b 2 (.slice d s.out.length e) ∧ StateO w B (.agg #[.slice a s.fibers.length c, .int .i64 s.now, .slice d s.out.length e]) s
theorem Boxed.ext {w w' : World} {B b : Nat} {s : GState} (h : Boxed w B b s) (he : Ext w w') : Boxed w' B b s := by
  obtain ⟨a, c, d, e, h1, h2, h3, h4⟩ := h.ex
  exact ⟨a, c, d, e, h1.ext he, h2.ext he, h3.ext he, h4.ext he⟩
/-- What the box holds is stored anew. -/
theorem Boxed.store {w : World} {B b : Nat} {u0 u1 u2 x0 x1 x2 : Value} {s : GState} (h0 : Cx w b 0 u0) (h1 : Cx w b 1 u1) (h2 : Cx w b 2 u2) (h : StateO w B (.agg #[x0, x1, x2]) s) (hb : b < B) : Boxed (((w.setCell ⟨b, 0, none⟩ x0).setCell ⟨b, 1, none⟩ x1).setCell ⟨b, 2, none⟩ x2) B b s := by
  obtain ⟨a, c, d, e, he⟩ := h.few
  simp only [Value.agg.injEq, Array.mk.injEq, List.cons.injEq, and_true] at he
  obtain ⟨rfl, rfl, rfl⟩ := he
  refine ⟨a, c, d, e, ((h0.set _).other (.inr (by decide)) _).other (.inr (by decide)) _, ((h1.other (.inr (by decide)) _).set _).other (.inr (by decide)) _, ((h2.other (.inr (by decide)) _).other (.inr (by decide)) _).set _, h.chg (chg3 w b _ _ _) (fun k hk e => by have : k = b := e; omega)⟩

theorem ret_state {w wr : World} {x : Value} {s : GState} (h : StateO wr (w.heap.size + 2) x s) (a b c : Value) : StateO (((wr.setCell ⟨w.heap.size + 1, 0, none⟩ a).setCell ⟨w.heap.size + 1, 1, none⟩ b).setCell ⟨w.heap.size + 1, 2, none⟩ c) w.heap.size x s :=
  (h.chg (chg3 wr (w.heap.size + 1) a b c) (fun g hg e => by have : g = w.heap.size + 1 := e; omega)).mono (by omega)
theorem ret_ext {w wr : World} (h : Ext w wr) (a b c : Value) : Ext w (((wr.setCell ⟨w.heap.size + 1, 0, none⟩ a).setCell ⟨w.heap.size + 1, 1, none⟩ b).setCell ⟨w.heap.size + 1, 2, none⟩ c) :=
  ((h.setCell (p := ⟨w.heap.size + 1, 0, none⟩) (Nat.le_succ _) _).setCell (p := ⟨w.heap.size + 1, 1, none⟩) (Nat.le_succ _) _).setCell (p := ⟨w.heap.size + 1, 2, none⟩) (Nat.le_succ _) _

end Go.Proofs.Ytgahbngbpfilgaa
end
section
/- The example program of the laws, and its contract. -/
set_option maxHeartbeats 1000000
set_option maxRecDepth 100000
namespace Go.Proofs.Ytgahbngbpfilgaa
open Go Go.RowKit

def countCode0 : List GOp := [⟨13, 1⟩, ⟨3, 0⟩, ⟨2, 0⟩, ⟨0, 7⟩, ⟨14, 0⟩, ⟨16, 0⟩, ⟨2, 0⟩, ⟨0, 0⟩, ⟨14, 0⟩, ⟨16, 0⟩, ⟨2, 0⟩, ⟨0, 0⟩, ⟨14, 0⟩, ⟨12, 0⟩]
def countCode1 : List GOp := [⟨2, 0⟩, ⟨15, 0⟩, ⟨1, 0⟩, ⟨2, 0⟩, ⟨0, 1⟩, ⟨11, 2⟩, ⟨15, 0⟩, ⟨1, 0⟩, ⟨0, 99⟩, ⟨12, 0⟩, ⟨0, 5⟩, ⟨9, 9⟩]
def countCode2 : List GOp := [⟨2, 0⟩, ⟨2, 1⟩, ⟨4, 0⟩, ⟨12, 0⟩]
/-- The example program. -/
def countP : List GFunc := [⟨0, 1, countCode0⟩, ⟨1, 1, countCode1⟩, ⟨2, 2, countCode2⟩]

theorem o_any (k a : Int) (w : World) :
    Calls Try.prog 60 #[.int .i64 k, .int .i64 a] w fun e w' => e = .returned (.agg #[.int .i64 k, .int .i64 a]) ∧ Ext w w' := by
  go_enter Try.func60, Try.ntmps60
  go_wp2
  exact bodyPost_ret (v := .agg #[.int .i64 k, .int .i64 a]) (by simp [results, Try.results60, go_sem]) rfl ⟨rfl, (Ext.refl _).alloc _⟩

end Go.Proofs.Ytgahbngbpfilgaa
end
