/- Merged texts: contracts and plain facts, one part behind another; each part begins with what it says. -/
import Derived.Test.YtpcjkfppacnkgaaGreatDoorGNAA
import Derived.Test.YtpcjkfppacnkgaaGreatDoorGNAI
import Derived.Test.YtpcjkfppacnkgaaGreatDoorGNAJ
import Derived.Test.YtpcjkfppacnkgaaGreatDoorGNAV
import Derived.Laws.Externs
import Derived.Lib.AppendStr
import Derived.Lib.BufferKept
import Derived.Lib.Builder
import Derived.Lib.OwnKind
import Derived.Lib.Slices
import Derived.Lib.Strings
import Derived.Lib.UnsafeStr
import Derived.Outline
import Derived.OwnWalk
import Derived.Test.YtpcjkfppacnkgaaGreatDoorProg
import Derived.WalkSpells
section
/- The document's stepped, run and RunOf, of states that fit. -/
set_option maxHeartbeats 4000000
set_option maxRecDepth 100000
namespace Go.Proofs.YtpcjkfppacnkgaaGreatDoor
open Go Go.RowKit

/-- A step's answer. -/
def stepG (p : List GFunc) (s : GState) : Int × GState := if s.now < 0 then (8, ⟨[], 0, []⟩) else if (doneG p s).1 = 0 then (0, (doneG p s).2) else ((doneG p s).1, ⟨[], 0, []⟩)

theorem StateV.few {w : World} {S : Nat → Prop} {v : Value} {s : GState} (h : StateV w S v s) : ∃ a c b d, v = .agg #[.slice a s.fibers.length c, .int .i64 s.now, .slice b s.out.length d] := by
  obtain ⟨x, y, rfl, ⟨a, c, rfl, _⟩, _, ⟨b, d, rfl, _⟩⟩ := h
  exact ⟨a, c, b, d, rfl⟩
theorem OwnR.state {W : World} {B : Nat} {P : PState} (h : OwnR W B P) (S : Nat → Prop) (hS : ∀ g, B ≤ g → S g) : StateV W S (.agg #[P.vfs, .int .i64 P.now, P.vo]) P.g := by
  have f := h.few
  refine ⟨_, _, rfl, Sl.map' PFiber.g (Sl.of_row fiberF h.row (fun _ => rfl) (by omega) fun b o y hb _ hy hc => ?_), h.i.1, Ints.of_row (by rw [flatMap_intF]; exact h.out) (show P.out.length * 8 ≤ _ by omega) h.i.2 S (fun b hb _ => hS b hb)⟩
  have hy' := h.fs y hy
  exact ⟨⟨_, hc 0 _ rfl, hy'.frames S hS⟩, hS b hb, hc 1 _ rfl, hy'.i⟩

theorem OwnR.chg {M : Nat → Prop} {W W' : World} {B : Nat} {P : PState} (h : OwnR W B P) (hc : Chg M W W') (hM : ∀ g ∈ P.bl, ¬ M g) : OwnR W' B P :=
  ⟨h.i, h.row.chg hc (fun g e => hM g (PState.mem_vfs e)) (by decide), h.out.chg hc (fun g e => hM g (PState.mem_vo e)) (by decide), fun y hy => (h.fs y hy).chg hc (fun g hg => hM g (PState.mem_fs hy hg)), h.few, h.nodup⟩
theorem OwnR.ge {W : World} {B : Nat} {P : PState} (h : OwnR W B P) : ∀ g ∈ P.bl, B ≤ g := by
  intro g hg
  unfold PState.bl at hg
  rcases List.mem_append.1 hg with h1 | h1
  · rcases List.mem_append.1 h1 with h2 | h2
    · exact h.row.le g (by simpa using h2)
    · exact h.out.le g (by simpa using h2)
  · obtain ⟨y, hy, h2⟩ := List.mem_flatMap.1 h1
    unfold PFiber.bl at h2
    rcases List.mem_append.1 h2 with h3 | h3
    · exact (h.fs y hy).row.le g (by simpa using h3)
    · obtain ⟨x, hx, h4⟩ := List.mem_flatMap.1 h3
      unfold PFrame.bl at h4
      rcases List.mem_append.1 h4 with h5 | h5
      · exact ((h.fs y hy).fr x hx).l.le g (by simpa using h5)
      · exact ((h.fs y hy).fr x hx).s.le g (by simpa using h5)
/-- A state that is handed back, of its own rows. -/
def StateO (W : World) (B : Nat) (x : Value) (s : GState) : Prop := ∃ P, x = .agg #[P.vfs, .int .i64 P.now, P.vo] ∧ OwnR W B P ∧ P.g = s
theorem StateO.state {W : World} {B : Nat} {x : Value} {s : GState} (h : StateO W B x s) : StateV W (B ≤ ·) x s := by
  obtain ⟨P, rfl, h1, rfl⟩ := h
  exact h1.state _ (fun _ h => h)
theorem StateO.few {W : World} {B : Nat} {x : Value} {s : GState} (h : StateO W B x s) : ∃ a c b d, x = .agg #[.slice a s.fibers.length c, .int .i64 s.now, .slice b s.out.length d] := h.state.few
theorem StateO.chg {M : Nat → Prop} {W W' : World} {B : Nat} {x : Value} {s : GState} (h : StateO W B x s) (hc : Chg M W W') (hM : ∀ g, B ≤ g → ¬ M g) : StateO W' B x s := by
  obtain ⟨P, e, h1, h2⟩ := h
  exact ⟨P, e, h1.chg hc (fun g hg => hM g (h1.ge g hg)), h2⟩
theorem StateO.ext {W W' : World} {B : Nat} {x : Value} {s : GState} (h : StateO W B x s) (he : Ext W W') : StateO W' B x s := h.chg (M := fun _ => False) (Chg.of_ext he) (fun _ _ h => h)
theorem StateO.mono {W : World} {B B' : Nat} {x : Value} {s : GState} (h : StateO W B x s) (hb : B' ≤ B) : StateO W B' x s := by
  obtain ⟨P, e, h1, h2⟩ := h
  exact ⟨P, e, h1.mono hb, h2⟩
theorem stateO_nil (w : World) (B : Nat) : StateO w B (.agg #[.slice none 0 0, .int .i64 0, .slice none 0 0]) ⟨[], 0, []⟩ :=
  ⟨⟨[], 0, [], .slice none 0 0, .slice none 0 0⟩, rfl, ⟨⟨I64.zero, (fun n hn => by cases hn)⟩, RowAt.nil _ _ _ _, RowAt.nil _ _ _ _, (fun y hy => by cases hy), ⟨by show 0 ≤ 1000; omega, by show 0 ≤ 1000; omega⟩, by unfold PState.bl; simp [rowBlock]⟩, rfl⟩

theorem stays_below {S : Nat → Prop} {w w' : World} {B : Nat} (he : Ext w w') (hB : w.heap.size ≤ B) : Stays S (· < B) w w' := fun b o v _ hc => ⟨Ext.cell he hc, by have := lt_of_cell hc; show b < B; omega⟩

end Go.Proofs.YtpcjkfppacnkgaaGreatDoor
end
section
/- state.Frame, First, Begin: what they hand back lies in rows of the call's own. No condition. -/
set_option maxHeartbeats 4000000
set_option maxRecDepth 100000
namespace Go.Proofs.YtpcjkfppacnkgaaGreatDoor
open Go Go.RowKit

theorem frame_own (p : List GFunc) (v : Value) (S : Nat → Prop) (n : Nat) (f : Int) (hf : f = (n : Int)) (w : World) (hp : Funcs w S v p) (hn : n < p.length) (hR : RightF p p[n]) :
    Calls Tryz.prog 68 #[v, .int .i64 f] w fun e w' => (∃ g N, e = .returned (.agg #[.int .i64 f, .int .i64 0, .slice (some ⟨g, 0, none⟩) N N, .slice none 0 0]) ∧ freshFrame p f = ⟨f, 0, List.replicate N 0, []⟩ ∧ N ≤ 4 ∧ I64 f ∧ w.heap.size ≤ g ∧ IRow w' w.heap.size g (List.replicate N 0)) ∧ Ext w w' := by
  have hloc := hR.locals
  obtain ⟨b, o, cap, rfl, hcap, hby, _, ⟨_, hL, iL⟩, _⟩ := hp.get hn
  obtain ⟨N, hN⟩ : ∃ N : Nat, p[n].locals = N := ⟨p[n].locals.toNat, by omega⟩
  have HG : Hid (freshFrame p f = ⟨f, 0, List.replicate N 0, []⟩) := by
    unfold Hid freshFrame funcOf
    rw [show f.toNat = n by omega, show p.getD n default = p[n] by simp [List.getD, List.getElem?_eq_getElem hn], hN]
    rfl
  rw [hN] at hL hloc
  have hN4 : N ≤ 4 := by omega
  have hnI : I64 f := by rw [hf]; exact I64.nat (by omega)
  have FN : 0 ≤ f := by omega
  have FL : f < (p.length : Int) := by omega
  have FT : f.toNat = n := by omega
  obtain ⟨i0, hi0, hz0, hz1, hz2⟩ := info_parts infoI
  have RA := alloc_keep
  have c0 := Lib.hid (Cx.new w [.int .i64 0, .int .i64 0, .slice none 0 0, .slice none 0 0] 108 (j := 0) rfl)
  have c1 := Lib.hid (Cx.new w [.int .i64 0, .int .i64 0, .slice none 0 0, .slice none 0 0] 108 (j := 1) rfl)
  have c2 := Lib.hid (Cx.new w [.int .i64 0, .int .i64 0, .slice none 0 0, .slice none 0 0] 108 (j := 2) rfl)
  have c3 := Lib.hid (Cx.new w [.int .i64 0, .int .i64 0, .slice none 0 0, .slice none 0 0] 108 (j := 3) rfl)
  clear hR hp hN hf
  go_enter Tryz.func68, Tryz.ntmps68
  go_wp2_with (first
    | (at_make; refine wpList_make_full _ rfl _ _ 30 rfl (w.heap.size + 1) 3 i0 (.int .i64 0) 1 Tryz.underlying30 hi0 hz0 hz1 .i64 .i64 _ _ N rfl rfl rfl rfl (by rw [hz2]; omega) (by unfold maxLen; omega) (by simp) ?_; intro w3 hown3 hgr3; have hE3 := ext_none hgr3; have hrow := IRow.made hown3; obtain ⟨⟨d0, d0'⟩, ⟨d1, d1'⟩, ⟨d2, d2'⟩, ⟨d3, d3'⟩⟩ := (⟨c0.out.ext hE3, c1.out.ext hE3, c2.out.ext hE3, c3.out.ext hE3⟩ : _ ∧ _ ∧ _ ∧ _)))
  have hs1 : (w.alloc (.cells #[.int .i64 0, .int .i64 0, .slice none 0 0, .slice none 0 0] 108)).heap.size = w.heap.size + 1 := Array.size_push _
  rw [hs1] at hrow
  refine bodyPost_ret (results_cell_mid rfl _ _ w.heap.size 0 _ _ rfl (box4 ⟨d0, d0'⟩ ⟨d1, d1'⟩ ⟨d2, d2'⟩ ⟨d3, d3'⟩ _ _ _ _) rfl rfl (by kernel_rfl)) rfl ?_
  refine ⟨⟨w.heap.size + 1, N, rfl, HG.out, hN4, hnI, Nat.le_succ _, ?_⟩, ext4 (((Ext.refl w).alloc _).trans hE3) _ _ _ _⟩
  exact (hrow.chg (chg4 w3 w.heap.size (.int .i64 f) (.int .i64 0) (.slice (some ⟨w.heap.size + 1, 0, none⟩) N N) (.slice none 0 0)) (by omega)).mono (Nat.le_succ _)

/-- A first state in its new blocks: its rows. -/
theorem begin_rows {w3 : World} {B base bx g N : Nat} {f : Int} (t1 t2 : TypeId) (h : IRow w3 base g (List.replicate N 0)) (hf : I64 f) (hN : N ≤ 4) (hB : B ≤ bx) (hb : bx < base) (hb3 : bx < w3.heap.size) (u v z : Value) :
    StateO (((((w3.alloc (.cells #[.int .i64 f, .int .i64 0, .slice (some ⟨g, 0, none⟩) N N, .slice none 0 0] t1)).alloc (.cells #[.slice (some ⟨w3.heap.size, 0, none⟩) 1 1, .int .i64 (-1)] t2)).setCell ⟨bx, 0, none⟩ u).setCell ⟨bx, 1, none⟩ v).setCell ⟨bx, 2, none⟩ z) B
      (.agg #[.slice (some ⟨w3.heap.size + 1, 0, none⟩) 1 1, .int .i64 0, .slice none 0 0]) ⟨[⟨[⟨f, 0, List.replicate N 0, []⟩], -1⟩], 0, []⟩ := by
  have hs4 : (w3.alloc (.cells #[.int .i64 f, .int .i64 0, .slice (some ⟨g, 0, none⟩) N N, .slice none 0 0] t1)).heap.size = w3.heap.size + 1 := Array.size_push _
  have hE4 : Ext w3 (w3.alloc (.cells #[.int .i64 f, .int .i64 0, .slice (some ⟨g, 0, none⟩) N N, .slice none 0 0] t1)) := (Ext.refl _).alloc _
  have hr4 := RowAt.made w3 #[.int .i64 f, .int .i64 0, .slice (some ⟨g, 0, none⟩) N N, .slice none 0 0] t1 4 1 B (by omega) (by unfold maxLen; omega) rfl
  generalize w3.alloc (.cells #[.int .i64 f, .int .i64 0, .slice (some ⟨g, 0, none⟩) N N, .slice none 0 0] t1) = w4 at *
  have hE5 : Ext w4 (w4.alloc (.cells #[.slice (some ⟨w3.heap.size, 0, none⟩) 1 1, .int .i64 (-1)] t2)) := (Ext.refl _).alloc _
  have hr5 := RowAt.made w4 #[.slice (some ⟨w3.heap.size, 0, none⟩) 1 1, .int .i64 (-1)] t2 2 1 B (by omega) (by unfold maxLen; omega) rfl
  rw [hs4] at hr5
  generalize w4.alloc (.cells #[.slice (some ⟨w3.heap.size, 0, none⟩) 1 1, .int .i64 (-1)] t2) = w5 at *
  have hch := chg3 w5 bx u v z
  generalize ((w5.setCell ⟨bx, 0, none⟩ u).setCell ⟨bx, 1, none⟩ v).setCell ⟨bx, 2, none⟩ z = w6 at *
  have hg3 : ∀ k, rowBlock (.slice (some ⟨g, 0, none⟩) N N) = some k → k = g ∧ base ≤ g ∧ g < w3.heap.size := fun k hk => by
    have h1 := h.lt2 (by decide) k (by rw [List.length_replicate]; exact hk)
    have h2 := h.le k (by rw [List.length_replicate]; exact hk)
    have : k = g := by
      by_cases hN0 : N = 0
      · subst hN0; simp [rowBlock] at hk
      · rw [rowBlock_some _ _ _ _ hN0] at hk; cases hk; rfl
    subst this
    exact ⟨rfl, h2, h1⟩
  have hin : ints (List.replicate N 0) = ints (List.replicate N 0) := rfl
  have hloc : RowAt w6 B 1 (.slice (some ⟨g, 0, none⟩) N N) (List.replicate N (0 : Int)).length (ints (List.replicate N 0)) := by
    have h1 := (((h.ext hE4).ext hE5).mono (show B ≤ base by omega))
    unfold IRow at h1
    rw [List.length_replicate] at h1 ⊢
    exact h1.chg hch (fun k hk e => by obtain ⟨rfl, h2, _⟩ := hg3 k hk; omega) (by decide)
  have b4 : rowBlock (.slice (some ⟨w3.heap.size, 0, none⟩) 1 1) = some w3.heap.size := rowBlock_some _ _ _ _ (by decide)
  have b5 : rowBlock (.slice (some ⟨w3.heap.size + 1, 0, none⟩) 1 1) = some (w3.heap.size + 1) := rowBlock_some _ _ _ _ (by decide)
  have b0 : rowBlock (.slice none 0 0) = none := rfl
  refine ⟨⟨[⟨[⟨⟨f, 0, List.replicate N 0, []⟩, .slice (some ⟨g, 0, none⟩) N N, .slice none 0 0⟩], -1, .slice (some ⟨w3.heap.size, 0, none⟩) 1 1⟩], 0, [], .slice (some ⟨w3.heap.size + 1, 0, none⟩) 1 1, .slice none 0 0⟩, rfl, ⟨⟨I64.zero, by simp⟩, ?_, RowAt.nil _ _ _ _, ?_, by simp, ?_⟩, rfl⟩
  · exact hr5.chg hch (fun k hk e => by rw [b5] at hk; cases hk; omega) (by decide)
  · intro y hy
    rw [List.mem_singleton.1 hy]
    refine ⟨I64.neg1, (hr4.ext hE5 (by decide)).chg hch (fun k hk e => by rw [b4] at hk; cases hk; omega) (by decide), ?_, by simp⟩
    intro x hx
    rw [List.mem_singleton.1 hx]
    refine ⟨⟨hf, I64.zero, fun n hn => by rw [List.eq_of_mem_replicate hn]; exact I64.zero, by simp⟩, hloc, RowAt.nil _ _ _ _, by simp; try omega, by simp⟩
  · unfold PState.bl PFiber.bl PFrame.bl
    simp only [List.flatMap_cons, List.flatMap_nil, b4, b5, b0, Option.toList_some, Option.toList_none, List.append_nil]
    cases hk : rowBlock (.slice (some ⟨g, 0, none⟩) N N) with
    | none => simp
    | some k =>
      obtain ⟨rfl, h2, h3⟩ := hg3 k hk
      simp
      try omega

theorem first_own (p : List GFunc) (v : Value) (S : Nat → Prop) (w : World) (hp : Funcs w S v p) (hz : progErr p = 0) :
    Calls Tryz.prog 27 #[v] w fun e w' => (∃ x, e = .returned x ∧ StateO w' w.heap.size x (beginG p)) ∧ Ext w w' := by
  have HP := Lib.hid hp
  have hRP := progErr_zero hz
  have hpos := hRP.pos
  obtain ⟨_, _, hR'⟩ := funcErr_zero (hRP.func 0 hpos)
  have hR : RightF p p[0] := by have := hR' (by simpa using hpos); simpa using this
  have RA := alloc_keep
  have c0 := Lib.hid (Cx.new w [.slice none 0 0, .int .i64 0, .slice none 0 0] 58 (j := 0) rfl)
  have c1 := Lib.hid (Cx.new w [.slice none 0 0, .int .i64 0, .slice none 0 0] 58 (j := 1) rfl)
  have c2 := Lib.hid (Cx.new w [.slice none 0 0, .int .i64 0, .slice none 0 0] 58 (j := 2) rfl)
  have HS1 : Hid ((w.alloc (.cells #[.slice none 0 0, .int .i64 0, .slice none 0 0] 58)).heap.size = w.heap.size + 1) := Array.size_push _
  obtain ⟨a, cap, rfl, _, _, _⟩ := hp
  obtain ⟨F, hF⟩ : ∃ F, freshFrame p 0 = F := ⟨_, rfl⟩
  have HF := Lib.hid hF
  have HG : Hid (beginG p = ⟨[⟨[F], -1⟩], 0, []⟩) := by unfold Hid beginG; rw [← hF]
  rw [HG.out]
  clear hz hRP hF
  go_enter Tryz.func27, Tryz.ntmps27
  go_wp2_with (first
    | (go_at_call 68; refine (frame_own p _ S 0 0 rfl _ (Funcs.stays (Ext.stays ((Ext.refl w).alloc _)) HP.out) hpos hR).mono ?_; rintro e w3 ⟨⟨g, N, rfl, hfx, hN, hI, hg, hrow⟩, hE3⟩; rw [HS1.out] at hrow hg; rw [HF.out] at hfx; have HE4 := Lib.hid ((hE3.alloc (.cells #[.int .i64 0, .int .i64 0, .slice (some ⟨g, 0, none⟩) N N, .slice none 0 0] 108)).alloc (.cells #[.slice (some ⟨w3.heap.size, 0, none⟩) 1 1, .int .i64 (-1)] 112)); obtain ⟨⟨d0, d0'⟩, ⟨d1, d1'⟩, ⟨d2, d2'⟩⟩ := (⟨c0.out.ext HE4.out, c1.out.ext HE4.out, c2.out.ext HE4.out⟩ : _ ∧ _ ∧ _)))
  refine bodyPost_ret (results_cell_mid rfl _ _ w.heap.size 0 _ _ rfl (box3 ⟨d0, d0'⟩ ⟨d1, d1'⟩ ⟨d2, d2'⟩ _ _ _) rfl rfl (by kernel_rfl)) rfl ?_
  refine ⟨⟨_, rfl, ?_⟩, ext3 (((Ext.refl w).alloc _).trans (hE3.trans (((Ext.refl _).alloc _).alloc _))) _ _ _⟩
  have hsz := hE3.size
  rw [HS1.out] at hsz
  subst hfx
  exact begin_rows 108 112 hrow hI hN (Nat.le_refl _) (Nat.lt_succ_self _) (by omega) _ _ _

end Go.Proofs.YtpcjkfppacnkgaaGreatDoor
end
section
/- From the form's reading of an argument as data to our readings in memory: states. -/
set_option maxHeartbeats 400000
set_option maxRecDepth 100000
namespace Go.Proofs.YtpcjkfppacnkgaaGreatDoor
open Go Go.RowKit Go.Deep Go.ChangeShapes Go.WideShapes Go.ChangeAt

end Go.Proofs.YtpcjkfppacnkgaaGreatDoor
end
section
/- Contracts of strings.Builder's copyCheck and WriteString, at a builder of the call's own. No condition. -/
set_option maxHeartbeats 2000000
set_option maxRecDepth 100000
namespace Go.Proofs.YtpcjkfppacnkgaaGreatDoor
open Go Go.RowKit

theorem bld_size : (Tryz.prog.info? 65).map (·.size) = some 2 := by kernel_rfl
theorem bld_lies : liesAt Tryz.prog Tryz.prog.depth 65 (2 / Tryz.prog.cellsOf 65) 0 65 1 = true := by kernel_rfl
theorem bld_byte : (Tryz.prog.info? 5).map (fun i => (i.zero, i.size, i.bytes)) = some (some (.int .u8 0), 1, 1) := by kernel_rfl

theorem ext_grown {w w' : World} (h : Ext w w') : w.grownBy w' none := ⟨h.os, h.tape, h.output, h.size, fun k hk _ => h.block k hk⟩
/-- A builder of the call's own that holds the bytes l. -/
def Bd (w : World) (B b : Nat) (l : List UInt8) : Prop := Lib.IsBuilder 65 5 B b (Lib.byteCells l) w
theorem BuilderAt.ext {T e : TypeId} {B b : Nat} {p : Value} {bs : List Value} {w w' : World} (h : Lib.BuilderAt T e B b p bs w) (he : Ext w w') : Lib.BuilderAt T e B b p bs w' := by
  have hlt := h.lt
  obtain ⟨hB, v, hb, hown, hne⟩ := h
  exact ⟨hB, v, (he.block b hlt).trans hb, hown.kept (row := none) (ext_grown he) (by cases h : v.ownBlock <;> simp), hne⟩
theorem Bd.ext {w w' : World} {B b : Nat} {l : List UInt8} (h : Bd w B b l) (he : Ext w w') : Bd w' B b l := h.imp (fun h => BuilderAt.ext h he) (fun h => BuilderAt.ext h he)
theorem Bd.new (w : World) (B : Nat) (hB : B ≤ w.heap.size) : Bd (w.alloc (.cells #[.pointer none, .slice none 0 0] 65)) B w.heap.size [] :=
  .inl ⟨hB, .slice none 0 0, World.alloc_heap_new w _, World.ownsRow_nil _ _ _ _, by simp [Value.ownBlock]⟩
theorem Bd.lt {w : World} {B b : Nat} {l : List UInt8} (h : Bd w B b l) : b < w.heap.size := h.elim (·.lt) (·.lt)

theorem others_set (w : World) (b o : Nat) (u : Value) (e : TypeId) : Lib.OthersKept e (some b) w (w.setCell ⟨b, o, none⟩ u) := (Lib.OthersKept.refl e (some b) w).setCell ⟨b, o, none⟩ rfl u
theorem copyCheck_any (B b : Nat) (bs : List Value) (w : World) (h : Lib.IsBuilder 65 5 B b bs w) :
    Calls Tryz.prog 71 #[.pointer (some ⟨b, 0, none⟩)] w fun e w' => e = .returned (.tuple #[]) ∧ Lib.BuilderAt 65 5 B b (.pointer (some ⟨b, 0, none⟩)) bs w' ∧ Below B w w' ∧ Lib.OthersKept 5 (some b) w w' := by
  obtain ⟨j, hj, hjs⟩ := Option.map_eq_some_iff.1 bld_size
  rcases h with h | h
  · have h0 := h.cell0
    have hsh := h.shape
    have hfz := h.frozen0
    go_enter Tryz.func71, Tryz.ntmps71
    go_wp2
    rw [Lib.run_to_unsafe w ⟨b, 0, none⟩ Tryz.underlying62 Tryz.underlying147 hj (by rw [hjs]; decide) hsh (Nat.zero_lt_succ 1)]
    simp only [Result.andThen]
    rw [Oper.upon_value]
    go_wp2
    rw [run_callFunc_extern Tryz.func107 (by kernel_rfl) (by kernel_rfl) (by kernel_rfl) (e := Extern.AbiNoEscape.same) (by kernel_rfl)]
    rw [Lib.run_noEscape]
    simp only [Result.andThen]
    rw [Oper.upon_value]
    go_wp2
    rw [Lib.run_from_unsafe w ⟨b, 0, none⟩ Tryz.underlying147 Tryz.underlying62 hj hsh bld_lies]
    simp only [Result.andThen]
    rw [Oper.upon_value]
    go_wp2
    go_end0
    exact ⟨rfl, h.used _, (Below.refl B w).setCell (p := ⟨b, 0, none⟩) h.1 _, others_set w b 0 _ _⟩
  · have h0 := h.cell0
    go_enter Tryz.func71, Tryz.ntmps71
    go_wp2
    rw [Lib.run_neq_ptr_same w _ Tryz.underlying62 hj]
    go_wp2
    go_end0
    exact ⟨rfl, h, Below.refl B _, Lib.OthersKept.refl _ _ _⟩
theorem writeString_any (B b : Nat) (bs : List Value) (s : ByteArray) (w : World) (h : Lib.IsBuilder 65 5 B b bs w) (hlen : bs.length + s.size ≤ 140737488355328) (hBw : B ≤ w.heap.size) :
    Calls Tryz.prog 29 #[.pointer (some ⟨b, 0, none⟩), .string s] w fun e w' => e = .returned (.tuple #[.int .i64 s.size, .nilIface]) ∧ Lib.BuilderAt 65 5 B b (.pointer (some ⟨b, 0, none⟩)) (bs ++ Lib.strCells s) w' ∧ Below B w w' ∧ Lib.OthersKept 5 (some b) w w' := by
  obtain ⟨i0, hi, hz0, hz1, hz2⟩ := info_parts bld_byte
  go_enter Tryz.func29, Tryz.ntmps29
  go_wp2_with (go_at_call 71; refine (copyCheck_any B b bs _ h).mono ?_)
  rintro e w1 ⟨rfl, h1, hb1, ho1⟩
  obtain ⟨hB, v, hbk, hown, hne⟩ := h1
  have c0 : w1.cell? ⟨b, 0, none⟩ = some (.pointer (some ⟨b, 0, none⟩)) := by rw [Lib.cell_of_heap hbk]; rfl
  have c1 : w1.cell? ⟨b, 1, none⟩ = some v := by rw [Lib.cell_of_heap hbk]; rfl
  go_wp2_with (at_builtin; refine Lib.wpList_append_own_string _ rfl _ _ 63 9 rfl B 5 i0 Tryz.underlying63 Tryz.underlying9 hi hz0 hz1 hz2 _ _ _ rfl hown s rfl ?c3 ?c4 ?c5 ?_)
  case c3 => unfold maxLen; omega
  case c4 => omega
  case c5 => have := hb1.size; omega
  intro v' w2 hown' hgrow _
  have hlt : b < w1.heap.size := by
    rcases Nat.lt_or_ge b w1.heap.size with h' | h'
    · exact h'
    · simp [Array.getElem?_eq_none h'] at hbk
  have hb2 : w2.heap[b]? = some (.cells #[.pointer (some ⟨b, 0, none⟩), v] 65 (0, 0)) := by
    rw [hgrow.block b hlt (fun e => hne e.symm)]
    exact hbk
  have d0 : w2.cell? ⟨b, 0, none⟩ = some (.pointer (some ⟨b, 0, none⟩)) := by rw [Lib.cell_of_heap hb2]; rfl
  have d1 : w2.cell? ⟨b, 1, none⟩ = some v := by rw [Lib.cell_of_heap hb2]; rfl
  have f1 : w2.frozen? ⟨b, 1, none⟩ = false := Lib.frozen_of_heap hb2 1
  obtain ⟨ao, n', cap, rfl⟩ : ∃ ao n' cap, v' = .slice ao n' cap := by
    rcases hown'.2 with ⟨hv, _⟩ | ⟨g, cap, cur, hv, _⟩
    · exact ⟨_, _, _, hv⟩
    · exact ⟨_, _, _, hv⟩
  go_wp2
  go_ret2
  refine ⟨rfl, ?_, ?_, ?_⟩
  · exact Lib.BuilderAt.put (T := 65) (e := 5) hB hb2 (bs' := bs ++ Lib.strCells s) (by simpa [Lib.strCells_length] using hown') (by decide)
  · exact (hb1.grown hgrow (by have := hb1.size; omega) (fun k hk => (hown.lt k hk).1)).setCell (p := ⟨b, 1, none⟩) hB _
  · exact (ho1.grown hgrow (Lib.ownsRow_kind hown)).setCell ⟨b, 1, none⟩ rfl _
theorem strCells_by (x : List UInt8) : Lib.strCells ⟨x.toArray⟩ = Lib.byteCells x := by simp [Lib.strCells, Lib.byteCells]
theorem write_by (B b : Nat) (l x : List UInt8) (w : World) (h : Bd w B b l) (hlen : l.length + x.length ≤ 140737488355328) (hBw : B ≤ w.heap.size) :
    Calls Tryz.prog 29 #[.pointer (some ⟨b, 0, none⟩), .string ⟨x.toArray⟩] w fun e w' => e = .returned (.tuple #[.int .i64 x.length, .nilIface]) ∧ Bd w' B b (l ++ x) ∧ Below B w w' ∧ Lib.OthersKept 5 (some b) w w' := by
  have hsz : (⟨x.toArray⟩ : ByteArray).size = x.length := by simp [ByteArray.size]
  refine (writeString_any B b (Lib.byteCells l) ⟨x.toArray⟩ w h (by rw [hsz]; simpa [Lib.byteCells] using hlen) hBw).mono ?_
  rintro e w' ⟨rfl, h1, h2, h3⟩
  refine ⟨by rw [hsz], .inr ?_, h2, h3⟩
  rw [strCells_by] at h1
  simpa [Lib.byteCells] using h1
end Go.Proofs.YtpcjkfppacnkgaaGreatDoor
end
