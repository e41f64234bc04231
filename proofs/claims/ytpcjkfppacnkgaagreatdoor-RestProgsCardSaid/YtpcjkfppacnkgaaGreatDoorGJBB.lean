/- Merged texts: contracts and plain facts, one part behind another; each part begins with what it says. -/
import Derived.Test.YtpcjkfppacnkgaaGreatDoorGJAH
import Derived.Test.YtpcjkfppacnkgaaGreatDoorGJAJ
import Derived.Test.YtpcjkfppacnkgaaGreatDoorGJAL
import Derived.Test.YtpcjkfppacnkgaaGreatDoorGJBA
section
/- Contract of the document's StateError. -/
set_option maxHeartbeats 4000000
set_option maxRecDepth 100000
namespace Go.Proofs.YtpcjkfppacnkgaaGreatDoor
open Go Go.RowKit

end Go.Proofs.YtpcjkfppacnkgaaGreatDoor
end
section
/- The document's OwnState: a state laid anew in own memory. No condition. -/
set_option maxHeartbeats 4000000
set_option maxRecDepth 100000
namespace Go.Proofs.YtpcjkfppacnkgaaGreatDoor
open Go Go.RowKit

/-- The rows of a state of own memory, without its box. -/
structure OwnR (W : World) (B : Nat) (P : PState) : Prop where
  i : I64 P.now ∧ ∀ n ∈ P.out, I64 n
  row : RowAt W B 2 P.vfs P.fs.length (P.fs.flatMap fiberF)
  out : RowAt W B 1 P.vo P.out.length (ints P.out)
  fs : ∀ y ∈ P.fs, FiberO W B y
  few : P.fs.length ≤ 1000 ∧ P.out.length ≤ 1000
  nodup : P.bl.Nodup
theorem OwnS.rows {W : World} {B b : Nat} {P : PState} (h : OwnS W B b P) : OwnR W B P := ⟨h.i, h.row, h.out, h.fs, h.few, (List.nodup_cons.1 h.nodup).2⟩
theorem OwnR.ext {W W' : World} {B : Nat} {P : PState} (h : OwnR W B P) (he : Ext W W') : OwnR W' B P :=
  ⟨h.i, h.row.ext he (by decide), h.out.ext he (by decide), fun y hy => (h.fs y hy).chg (M := fun _ => False) (Chg.of_ext he) (fun _ _ h => h), h.few, h.nodup⟩
theorem FrameO.mono {W : World} {B B' : Nat} {x : PFrame} (h : FrameO W B x) (hb : B' ≤ B) : FrameO W B' x := ⟨h.i, h.l.mono hb, h.s.mono hb, h.few⟩
theorem FiberO.mono {W : World} {B B' : Nat} {y : PFiber} (h : FiberO W B y) (hb : B' ≤ B) : FiberO W B' y := ⟨h.i, h.row.mono hb, fun x hx => (h.fr x hx).mono hb, h.few⟩
theorem OwnR.mono {W : World} {B B' : Nat} {P : PState} (h : OwnR W B P) (hb : B' ≤ B) : OwnR W B' P := ⟨h.i, h.row.mono hb, h.out.mono hb, fun y hy => (h.fs y hy).mono hb, h.few, h.nodup⟩
theorem OwnR.lt {W : World} {B : Nat} {P : PState} (h : OwnR W B P) : ∀ g ∈ P.bl, g < W.heap.size := by
  intro g hg
  unfold PState.bl at hg
  rcases List.mem_append.1 hg with h1 | h1
  · rcases List.mem_append.1 h1 with h2 | h2
    · exact h.row.lt2 (by decide) g (by simpa using h2)
    · exact h.out.lt2 (by decide) g (by simpa using h2)
  · obtain ⟨y, hy, h2⟩ := List.mem_flatMap.1 h1
    exact (h.fs y hy).lt g h2
/-- Rows and a box make a state of own memory. -/
theorem OwnR.box {W : World} {B b : Nat} {P : PState} (h : OwnR W B P) (c0 : Cx W b 0 P.vfs) (c1 : Cx W b 1 (.int .i64 P.now)) (c2 : Cx W b 2 P.vo) (hb : B ≤ b) (hn : b ∉ P.bl) : OwnS W B b P :=
  ⟨c0, c1, c2, h.i, h.row, h.out, h.fs, hb, h.few, List.nodup_cons.2 ⟨hn, h.nodup⟩⟩

theorem SrcSl.up {w w' : World} {size : Nat} {x : Value} {m : Nat} {news : List Value} (h : SrcSl w size x m news) (he : Ext w w') : SrcSl w' size x m news := by
  obtain ⟨a, c, rfl, h1, h2, h3⟩ := h
  refine ⟨a, c, rfl, h1, h2, h3.imp id fun ⟨ad, ha, hc⟩ => ⟨ad, ha, fun j u hj => ?_⟩⟩
  have hcj := hc j u hj
  rw [Ext.keep he _ (by rw [hcj]; rfl)]
  exact hcj

theorem rv_ext {W W' : World} {base size n : Nat} {a : Option Addr} {v' : Value} {xs : List Value} (h : NewRow W W' base size (.slice a 0 0) v' n xs) : Ext W W' := h.2.1.ext (fun k _ e => by cases a <;> simp [rowBlock] at e)

/-- A fiber that is being laid anew, its box f5. -/
structure BuildF (W : World) (base f5 : Nat) (Y : PFiber) : Prop where
  fo : FiberO W base Y
  nodup : Y.bl.Nodup
  c0 : Cx W f5 0 Y.vf
  c1 : Cx W f5 1 (.int .i64 Y.caller)

theorem fresh_row {W W0 W' : World} {base size n : Nat} {a : Option Addr} {v' : Value} {xs : List Value} (h : NewRow W W' base size (.slice a 0 0) v' n xs) (he : Ext W0 W) : ∀ k, rowBlock v' = some k → W0.heap.size ≤ k := fun k hk => by
  rcases h.2.2 with h1 | h1
  · rw [h1] at hk; cases a <;> simp [rowBlock] at hk
  · exact Nat.le_trans he.size (h1 k hk)
theorem BuildF.ge {W : World} {base f5 : Nat} {Y : PFiber} (h : BuildF W base f5 Y) : ∀ k ∈ Y.bl, base ≤ k := fun k hk => by
  unfold PFiber.bl at hk
  rcases List.mem_append.1 hk with h1 | h1
  · exact h.fo.row.le k (by simpa using h1)
  · obtain ⟨x, hx, h2⟩ := List.mem_flatMap.1 h1
    unfold PFrame.bl at h2
    rcases List.mem_append.1 h2 with h3 | h3
    · exact (h.fo.fr x hx).l.le k (by simpa using h3)
    · exact (h.fo.fr x hx).s.le k (by simpa using h3)
end Go.Proofs.YtpcjkfppacnkgaaGreatDoor
end
section
/- Contract of the document's OwnProg: a program laid anew in own memory. No condition. -/
set_option maxHeartbeats 4000000
set_option maxRecDepth 100000
namespace Go.Proofs.YtpcjkfppacnkgaaGreatDoor
open Go Go.RowKit

theorem ownProg_any (p : List GFunc) (v : Value) (S : Nat → Prop) (w : World) (hp : Funcs w S v p) (hl : p.length ≤ 1000) (hc : ∀ F ∈ p, F.code.length ≤ 1000) :
    Calls Tryz.prog 21 #[v] w fun e w' => (∃ x, e = .returned x ∧ Funcs w' (w.heap.size ≤ ·) x p) ∧ Ext w w' := by
  have HP := Lib.hid hp
  have HC := Lib.hid hc
  obtain ⟨a, cap, rfl, _, _, _⟩ := hp
  have RA := alloc_keep
  obtain ⟨o0, ho0, hoz0, hoz1, hoz2⟩ := info_parts infoF
  obtain ⟨i0, hi0, hz0, hz1, hz2⟩ := info_parts infoO
  clear hc
  go_enter Tryz.func21, Tryz.ntmps21
  go_wp2_with fail
  go_loopw [3, 4] (fun q3 q wr => ∃ k : Nat, k ≤ p.length ∧ q = .int .i64 k ∧ Ext w wr ∧ ∃ fs, fs.map Prod.fst = p.take k ∧ FRow wr w.heap.size q3 fs) (fun _ q _ => p.length - (intOf q).toNat)
  case atStart => exact ⟨0, Nat.zero_le _, rfl, Ext.refl _, [], by simp, FRow.nil _ _⟩
  case round =>
    obtain ⟨k, hk, rfl, hb, fs, hfs, hrow⟩ := hrel
    have HB := Lib.hid hb
    have HROW := Lib.hid hrow
    have HFS := Lib.hid hfs
    have hfl : fs.length ≤ k := by have := congrArg List.length hfs; simp at this; omega
    obtain ⟨ar, capr, rfl, _, _⟩ := hrow.row.shape
    clear hb hrow hfs
    by_cases hlt : k < p.length
    · have HTK : Hid (p.take (k + 1) = p.take k ++ [p[k]]) := List.take_succ_eq_append_getElem hlt
      have hgo := HP.out.get hlt
      have hcl := HC.out _ (List.getElem_mem hlt)
      generalize p[k] = G at *
      obtain ⟨pb, po, cap', e, hcap, hby, ⟨_, c0, j0⟩, ⟨_, c1, j1⟩, x, c2, hops⟩ := hgo
      simp only [Value.slice.injEq] at e
      obtain ⟨rfl, -, rfl⟩ := e
      have hpb := lt_of_cell c0
      replace c0 := Ext.cell HB.out c0
      replace c1 := Ext.cell HB.out c1
      replace c2 := Ext.cell HB.out c2
      replace hops := Ops.stays (Ext.stays HB.out) hops
      have HOPS := Lib.hid hops
      obtain ⟨ca, cc, rfl, hcc, hcb, _⟩ := hops
      have HS := Lib.hid (show ∀ W, Ext wr W → W.cell? ⟨pb, po + k * 3, none⟩ = some (.int .i64 G.args) ∧ W.cell? ⟨pb, po + k * 3 + 1, none⟩ = some (.int .i64 G.locals) ∧ W.cell? ⟨pb, po + k * 3 + 2, none⟩ = some (.slice ca G.code.length cc) from fun W h => ⟨Ext.cell h c0, Ext.cell h c1, Ext.cell h c2⟩)
      clear c0 c1 c2
      rename World => wr
      go_upto_region 5 with fail
      refine wp_region_rt (fun W => W.cell? ⟨pb, po + k * 3, none⟩ = some (.int .i64 G.args) ∧ W.cell? ⟨pb, po + k * 3 + 1, none⟩ = some (.int .i64 G.locals) ∧ W.cell? ⟨pb, po + k * 3 + 2, none⟩ = some (.slice ca G.code.length cc)) 21 [0, 1, 2, 3, 4, 5, 6, 7, 8, 9, 10, 12, 13, 14, 15, 16] [11, 17, 18, 19, 20, 21] (by kernel_rfl) (by kernel_rfl) (fun _ _ _ _ _ h => h) (by exact HS.out _ (by ((repeat (first | assumption | exact Ext.refl _ | (exact And.left (by assumption)) | refine Ext.alloc ?_ _ | refine Ext.drew ?_ | refine Ext.drewN ?_ _ | refine Ext.setCell ?_ (by simp) _ | refine Ext.setCell ?_ (by simp; omega) _ | refine Ext.trans ?_ (by assumption))); done))) ?_
      (try simp only [pickOps, List.filterMap_cons, List.filterMap_nil, List.getElem?_cons_zero, List.getElem?_cons_succ])
      repeat (
        refine readsQ_do (by rfl) ?_
        apply Exists.intro
        refine ⟨fun w' hw' => ?_, ?_⟩
        focus
          (try dsimp only at hw')
          go_split_ands
          go_simp
          (try with_reducible rfl)
        (try dsimp only [Act.put])
        (try simp only [List.setIfInBounds_toArray, List.set_cons_succ, List.set_cons_zero]))
      refine readsQ_nil ?_
      refine tailW_step ?_
      go_wp2_with fail
      refine nextW_go (by exact HS.out _ (by ((repeat (first | assumption | exact Ext.refl _ | (exact And.left (by assumption)) | refine Ext.alloc ?_ _ | refine Ext.drew ?_ | refine Ext.drewN ?_ _ | refine Ext.setCell ?_ (by simp) _ | refine Ext.setCell ?_ (by simp; omega) _ | refine Ext.trans ?_ (by assumption))); done))) ?_
      refine tailW_step ?_
      refine wpList_append_row rfl _ _ 47 rfl w.heap.size 51 i0 (.agg #[.int .i64 0, .int .i64 0]) 2 16 Tryz.underlying47 hi0 hz0 hz1 hz2 rfl (by decide) _ _ _ rfl (RowAt.nil _ _ _ _) G.code.length (G.code.flatMap opF) ((Ops.stays (Ext.stays (by ((repeat (first | assumption | exact Ext.refl _ | (exact And.left (by assumption)) | refine Ext.alloc ?_ _ | refine Ext.drew ?_ | refine Ext.drewN ?_ _ | refine Ext.setCell ?_ (by simp) _ | refine Ext.setCell ?_ (by simp; omega) _ | refine Ext.trans ?_ (by assumption))); done))) HOPS.out).src) (by unfold maxLen; omega) (by omega) (by exact Ext.size (HB.out.trans (by ((repeat (first | assumption | exact Ext.refl _ | (exact And.left (by assumption)) | refine Ext.alloc ?_ _ | refine Ext.drew ?_ | refine Ext.drewN ?_ _ | refine Ext.setCell ?_ (by simp) _ | refine Ext.setCell ?_ (by simp; omega) _ | refine Ext.trans ?_ (by assumption))); done)))) ?_
      intro v1 Wv1 rv1
      rw [Nat.zero_add, List.nil_append] at rv1
      have RV := Lib.hid rv1
      have hx1 : Ext wr Wv1 := Ext.trans (by ((repeat (first | assumption | exact Ext.refl _ | (exact And.left (by assumption)) | refine Ext.alloc ?_ _ | refine Ext.drew ?_ | refine Ext.drewN ?_ _ | refine Ext.setCell ?_ (by simp) _ | refine Ext.setCell ?_ (by simp; omega) _ | refine Ext.trans ?_ (by assumption))); done)) (rv_ext rv1)
      have HN1 := Lib.hid (fresh_row (W0 := wr) rv1 (by ((repeat (first | assumption | exact Ext.refl _ | (exact And.left (by assumption)) | refine Ext.alloc ?_ _ | refine Ext.drew ?_ | refine Ext.drewN ?_ _ | refine Ext.setCell ?_ (by simp) _ | refine Ext.setCell ?_ (by simp; omega) _ | refine Ext.trans ?_ (by assumption))); done)))
      obtain ⟨a1, cap1, rfl, _, _⟩ := rv1.1.shape
      have HX1 := Lib.hid hx1
      clear rv1 hx1
      go_wp2_with fail
      refine nextW_go (by exact HS.out _ HX1.out) ?_
      refine tailW_step ?_
      go_wp2_with fail
      refine nextW_go (by exact HS.out _ HX1.out) ?_
      refine tailW_step ?_
      go_wp2_with fail
      refine nextW_go (by exact HS.out _ (HX1.out.trans (by ((repeat (first | assumption | exact Ext.refl _ | (exact And.left (by assumption)) | refine Ext.alloc ?_ _ | refine Ext.drew ?_ | refine Ext.drewN ?_ _ | refine Ext.setCell ?_ (by simp) _ | refine Ext.setCell ?_ (by simp; omega) _ | refine Ext.trans ?_ (by assumption))); done)))) ?_
      refine tailW_step ?_
      have hsz2 : (Wv1.alloc (.cells #[.int .i64 G.args, .int .i64 G.locals, .slice a1 G.code.length cap1] 49)).heap.size = Wv1.heap.size + 1 := Array.size_push _
      have hx2 : Ext wr (Wv1.alloc (.cells #[.int .i64 G.args, .int .i64 G.locals, .slice a1 G.code.length cap1] 49)) := HX1.out.alloc _
      refine wpList_append_row rfl _ _ 27 rfl w.heap.size 49 o0 (.agg #[.int .i64 0, .int .i64 0, .slice none 0 0]) 3 40 Tryz.underlying27 ho0 hoz0 hoz1 hoz2 rfl (by decide) _ _ _ rfl (HROW.out.row.ext hx2 (by decide)) 1 (funcF (G, .slice a1 G.code.length cap1)) (src_func _ _ _ _ _ _) (by unfold maxLen; omega) (by omega) (by rw [hsz2]; exact Nat.le_succ_of_le (Nat.le_trans HB.out.size HX1.out.size)) ?_
      intro v2 Wv2 rv2
      have RV2 := Lib.hid rv2
      obtain ⟨a2, cap2, rfl, _, _⟩ := rv2.1.shape
      clear rv2
      go_wp2_with fail
      have hx4 : Ext w Wv2 := Chg.ext_from (HB.out.trans hx2) RV2.out.2.1 (fun g e => (HROW.out.row.le g e))
      have hS2 := HS.out _ hx2
      have hno : ¬ rowBlock (.slice ar fs.length capr) = some pb := fun e => by have := HROW.out.row.le pb e; omega
      have hS4 := (⟨RV2.out.2.1.cell hno hS2.1, RV2.out.2.1.cell hno hS2.2.1, RV2.out.2.1.cell hno hS2.2.2⟩ : _ ∧ _ ∧ _)
      have hops2 : Ops Wv1 (wr.heap.size ≤ ·) (.slice a1 G.code.length cap1) G.code := Ops.of_row RV.out.1 (by omega) HOPS.out.i64 _ (fun b hb hr => HN1.out b hr)
      have hfr := (HROW.out.ext hx2).grow (y := (G, .slice a1 G.code.length cap1)) RV2.out ⟨j0, j1, Ops.stays (fun b o u hS hu => ⟨Ext.cell ((Ext.refl _).alloc _) hu, Nat.le_trans HB.out.size hS, fun e => by have h1 := HROW.out.row.lt (by decide) b e; have h2 : wr.heap.size ≤ b := hS; omega⟩) hops2⟩
      refine nextW_go (by exact hS4) ?_
      clear hS4 hS2 hno
      refine tailW_step ?_
      go_wp2_with fail
      refine nextW_end ?_
      go_wp2_with fail
      go_roundw
      case rel => exact ⟨k + 1, by omega, by go_num, hx4, fs ++ [(G, .slice a1 G.code.length cap1)], by rw [List.map_append, HFS.out, HTK.out]; rfl, hfr⟩
      case measure => simp [intOf]; omega
    · obtain rfl : k = p.length := by omega
      clear hlt
      go_wp2_with fail
      go_ret
      refine ⟨⟨_, rfl, ?_⟩, HB.out⟩
      have := HROW.out.funcs (by omega)
      rwa [HFS.out, List.take_length] at this
end Go.Proofs.YtpcjkfppacnkgaaGreatDoor
end
