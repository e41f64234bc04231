/- Merged texts: contracts and plain facts, one part behind another; each part begins with what it says. -/
import Derived.Test.YtgahbngbpfilgaaGreatGHAG
import Derived.Test.YtgahbngbpfilgaaGreatGHAL
section
set_option maxHeartbeats 4000000
set_option maxRecDepth 100000
namespace Go.Proofs.YtgahbngbpfilgaaGreat
open Go Go.RowKit
structure OwnR (W : World) (B : Nat) (P : PState) : Prop where
 i : I64 P.now ∧ ∀ n ∈ P.out, I64 n
 row : RowAt W B 2 P.vfs P.fs.length (P.fs.flatMap fiberF)
 out : RowAt W B 1 P.vo P.out.length (ints P.out)
 fs : ∀ y ∈ P.fs, FiberO W B y
 few : P.fs.length ≤ 1000 ∧ P.out.length ≤ 1000
 nodup : P.bl.Nodup
theorem OwnS.rows {W : World} {B b : Nat} {P : PState} (h : OwnS W B b P) : OwnR W B P := ⟨h.i, h.row, h.out, h.fs, h.few, (List.nodup_cons.1 h.nodup).2⟩
theorem OwnR.ext {W W' : World} {B : Nat} {P : PState} (h : OwnR W B P) (he : Ext W W') : OwnR W' B P :=
 ⟨h.i, h.row.ext he (by decide), h.out.ext he (by decide), fun y hy => (h.fs y hy).chg (M := fun _ => False) (Chg.of_ext he) (fun _ _ h => h), h.few, h.nodup⟩
theorem FrameO.mono {W : World} {B B' : Nat} {x : PFrame} (h : FrameO W B x) (hb : B' ≤ B) : FrameO W B' x := ⟨h.i, h.l.mono hb, h.s.mono hb, h.few⟩
theorem FiberO.mono {W : World} {B B' : Nat} {y : PFiber} (h : FiberO W B y) (hb : B' ≤ B) : FiberO W B' y := ⟨h.i, h.row.mono hb, fun x hx => (h.fr x hx).mono hb, h.few⟩
theorem OwnR.mono {W : World} {B B' : Nat} {P : PState} (h : OwnR W B P) (hb : B' ≤ B) : OwnR W B' P := ⟨h.i, h.row.mono hb, h.out.mono hb, fun y hy => (h.fs y hy).mono hb, h.few, h.nodup⟩
theorem OwnR.lt {W : World} {B : Nat} {P : PState} (h : OwnR W B P) : ∀ g ∈ P.bl, g < W.heap.size := by
 intro g hg
 unfold PState.bl at hg
 rcases List.mem_append.1 hg with h1 | h1
 ·rcases List.mem_append.1 h1 with h2 | h2
  ·exact h.row.lt2 (by decide) g (by simpa using h2)
  ·exact h.out.lt2 (by decide) g (by simpa using h2)
 ·obtain ⟨y, hy, h2⟩ := List.mem_flatMap.1 h1
  exact (h.fs y hy).lt g h2
theorem OwnR.box {W : World} {B b : Nat} {P : PState} (h : OwnR W B P) (c0 : Cx W b 0 P.vfs) (c1 : Cx W b 1 (.int .i64 P.now)) (c2 : Cx W b 2 P.vo) (hb : B ≤ b) (hn : b ∉ P.bl) : OwnS W B b P :=
 ⟨c0, c1, c2, h.i, h.row, h.out, h.fs, hb, h.few, List.nodup_cons.2 ⟨hn, h.nodup⟩⟩
theorem Ints.srcI {w : World} {S : Nat → Prop} {v : Value} {l : List Int} (h : Ints w S v l) : SrcSl w 1 v l.length (ints l) := by have := h.src; rwa [flatMap_intF] at this
theorem SrcSl.up {w w' : World} {size : Nat} {x : Value} {m : Nat} {news : List Value} (h : SrcSl w size x m news) (he : Ext w w') : SrcSl w' size x m news := by
 obtain ⟨a, c, rfl, h1, h2, h3⟩ := h
 refine ⟨a, c, rfl, h1, h2, h3.imp id fun ⟨ad, ha, hc⟩ => ⟨ad, ha, fun j u hj => ?_⟩⟩
 have hcj := hc j u hj
 rw [Ext.keep he _ (by rw [hcj]; rfl)]
 exact hcj
theorem rv_ext {W W' : World} {base size n : Nat} {a : Option Addr} {v' : Value} {xs : List Value} (h : NewRow W W' base size (.slice a 0 0) v' n xs) : Ext W W' := h.2.1.ext (fun k _ e => by cases a <;> simp [rowBlock] at e)
theorem out_box {w1 Wb Wv : World} {base n bo : Nat} {a : Option Addr} {v1 u0 u1 u2 : Value} {xs : List Value} (hE : Ext w1 Wb) (hb : w1.heap.size ≤ bo) (hbo : bo < Wb.heap.size) (hRV : NewRow Wb Wv base 1 (.slice a 0 0) v1 n xs) (q0 : Cx Wv bo 0 u0) (q1 : Cx Wv bo 1 u1) (q2 : Cx Wv bo 2 u2) (x y z : Value) :
  Ext w1 (((Wv.setCell ⟨bo, 0, none⟩ x).setCell ⟨bo, 1, none⟩ y).setCell ⟨bo, 2, none⟩ z) ∧ RowAt (((Wv.setCell ⟨bo, 0, none⟩ x).setCell ⟨bo, 1, none⟩ y).setCell ⟨bo, 2, none⟩ z) base 1 v1 n xs ∧ rowBlock v1 ≠ some bo ∧
   Cx (((Wv.setCell ⟨bo, 0, none⟩ x).setCell ⟨bo, 1, none⟩ y).setCell ⟨bo, 2, none⟩ z) bo 0 x ∧ Cx (((Wv.setCell ⟨bo, 0, none⟩ x).setCell ⟨bo, 1, none⟩ y).setCell ⟨bo, 2, none⟩ z) bo 1 y ∧ Cx (((Wv.setCell ⟨bo, 0, none⟩ x).setCell ⟨bo, 1, none⟩ y).setCell ⟨bo, 2, none⟩ z) bo 2 z := by
 have hne : rowBlock v1 ≠ some bo := fun e => by
  rcases hRV.2.2 with h1 | h1
  ·rw [h1] at e; cases a <;> simp [rowBlock] at e
  ·have := h1 bo e; omega
 exact ⟨(((hE.trans (rv_ext hRV)).setCell (p := ⟨bo, 0, none⟩) hb _).setCell (p := ⟨bo, 1, none⟩) hb _).setCell (p := ⟨bo, 2, none⟩) hb _,
  hRV.1.chg (chg3 Wv bo x y z) (fun k hk e => hne (by rw [hk]; exact congrArg some e)) (by decide), hne,
  ((q0.set x).other (.inr (by decide)) y).other (.inr (by decide)) z, ((q1.other (.inr (by decide)) x).set y).other (.inr (by decide)) z, ((q2.other (.inr (by decide)) x).other (.inr (by decide)) y).set z⟩
structure BuildF (W : World) (base f5 : Nat) (Y : PFiber) : Prop where
 fo : FiberO W base Y
 nodup : Y.bl.Nodup
 c0 : Cx W f5 0 Y.vf
 c1 : Cx W f5 1 (.int .i64 Y.caller)
theorem cells5_chg {M : Nat → Prop} {W W' : World} {f5 x7 : Nat} {u v0 v1 v2 v3 : Value} (h : W.cell? ⟨f5, 0, none⟩ = some u ∧ W.cell? ⟨x7, 0, none⟩ = some v0 ∧ W.cell? ⟨x7, 1, none⟩ = some v1 ∧ W.cell? ⟨x7, 2, none⟩ = some v2 ∧ W.cell? ⟨x7, 3, none⟩ = some v3) (hc : Chg M W W') (h5 : ¬ M f5) (h7 : ¬ M x7) :
  W'.cell? ⟨f5, 0, none⟩ = some u ∧ W'.cell? ⟨x7, 0, none⟩ = some v0 ∧ W'.cell? ⟨x7, 1, none⟩ = some v1 ∧ W'.cell? ⟨x7, 2, none⟩ = some v2 ∧ W'.cell? ⟨x7, 3, none⟩ = some v3 :=
 ⟨Chg.cell hc h5 h.1, Chg.cell hc h7 h.2.1, Chg.cell hc h7 h.2.2.1, Chg.cell hc h7 h.2.2.2.1, Chg.cell hc h7 h.2.2.2.2⟩
theorem fresh_row {W W0 W' : World} {base size n : Nat} {a : Option Addr} {v' : Value} {xs : List Value} (h : NewRow W W' base size (.slice a 0 0) v' n xs) (he : Ext W0 W) : ∀ k, rowBlock v' = some k → W0.heap.size ≤ k := fun k hk => by
 rcases h.2.2 with h1 | h1
 ·rw [h1] at hk; cases a <;> simp [rowBlock] at hk
 ·exact Nat.le_trans he.size (h1 k hk)
theorem frame_g {Y : PFiber} {X : PFrame} {l : List GFrame} {c : Int} {v : Value} (h : Y.g = ⟨l, c⟩) : PFiber.g ⟨Y.fr ++ [X], Y.caller, v⟩ = ⟨l ++ [X.f], c⟩ := by
 unfold PFiber.g at h ⊢
 simp only [GFiber.mk.injEq] at h ⊢
 obtain ⟨h1, h2⟩ := h
 exact ⟨by rw [List.map_append, h1]; rfl, h2⟩
theorem fin_ext {wk wr W2 Wv3 : World} {f5 n m : Nat} {v v3 : Value} {xs ys : List Value} (hrow : RowAt wr (f5 + 1) 4 v m ys) (h0 : Ext wk wr) (hE : Ext wr W2) (hb : wk.heap.size = f5) (hR : NewRow W2 Wv3 (f5 + 1) 4 v v3 n xs) : Ext wk (Wv3.setCell ⟨f5, 0, none⟩ v3) :=
 (Chg.ext_from (h0.trans hE) hR.2.1 (fun k hk => by have := hrow.le k hk; omega)).setCell (p := ⟨f5, 0, none⟩) (Nat.le_of_eq hb) _
theorem BuildF.ge {W : World} {base f5 : Nat} {Y : PFiber} (h : BuildF W base f5 Y) : ∀ k ∈ Y.bl, base ≤ k := fun k hk => by
 unfold PFiber.bl at hk
 rcases List.mem_append.1 hk with h1 | h1
 ·exact h.fo.row.le k (by simpa using h1)
 ·obtain ⟨x, hx, h2⟩ := List.mem_flatMap.1 h1
  unfold PFrame.bl at h2
  rcases List.mem_append.1 h2 with h3 | h3
  ·exact (h.fo.fr x hx).l.le k (by simpa using h3)
  ·exact (h.fo.fr x hx).s.le k (by simpa using h3)
theorem frame_fin {wr wx Wv1 Wv2 Wv3 : World} {base f5 : Nat} {Y : PFiber} {xf : GFrame} {v1 v2 v3 : Value} {tf : TypeId} (h : BuildF wr base f5 Y) (hE : Ext wr wx) (hE2 : Ext wx Wv2) (hE12 : Ext Wv1 Wv2) (hf5 : f5 < base)
  (hr1 : RowAt Wv1 base 1 v1 xf.locals.length (ints xf.locals)) (hr2 : RowAt Wv2 base 1 v2 xf.stack.length (ints xf.stack)) (hb1 : ∀ k, rowBlock v1 = some k → wx.heap.size ≤ k) (hb2 : ∀ k, rowBlock v2 = some k → wx.heap.size ≤ k) (hb12 : ∀ k, rowBlock v2 = some k → Wv1.heap.size ≤ k)
  (hI : I64 xf.func ∧ I64 xf.at_ ∧ (∀ n ∈ xf.locals, I64 n) ∧ ∀ n ∈ xf.stack, I64 n) (hl : xf.locals.length ≤ 900) (hs : xf.stack.length ≤ 900)
  (hR : NewRow (Wv2.alloc (.cells #[.int .i64 xf.func, .int .i64 xf.at_, v1, v2] tf)) Wv3 base 4 Y.vf v3 (Y.fr.length + 1) (Y.fr.flatMap frameF ++ [.int .i64 xf.func, .int .i64 xf.at_, v1, v2])) (hlen : Y.fr.length < 1000) :
  BuildF (Wv3.setCell ⟨f5, 0, none⟩ v3) base f5 ⟨Y.fr ++ [⟨xf, v1, v2⟩], Y.caller, v3⟩ := by
 obtain ⟨r1, r2, r3⟩ := hR
 have hEm : Ext wr (Wv2.alloc (.cells #[.int .i64 xf.func, .int .i64 xf.at_, v1, v2] tf)) := (hE.trans hE2).alloc _
 have hold : ∀ k, rowBlock Y.vf = some k → k < wr.heap.size := h.fo.row.lt2 (by decide)
 have hlt := h.fo.lt
 have hge : ∀ k ∈ Y.bl, base ≤ k := fun k hk => by
  unfold PFiber.bl at hk
  rcases List.mem_append.1 hk with h1 | h1
  ·exact h.fo.row.le k (by simpa using h1)
  ·obtain ⟨x, hx, h2⟩ := List.mem_flatMap.1 h1
   unfold PFrame.bl at h2
   rcases List.mem_append.1 h2 with h3 | h3
   ·exact (h.fo.fr x hx).l.le k (by simpa using h3)
   ·exact (h.fo.fr x hx).s.le k (by simpa using h3)
 have hne12 : ∀ k, rowBlock v1 = some k → rowBlock v2 ≠ some k := fun k h1 h2 => by
  have := hr1.lt2 (by decide) k h1
  have := hb12 k h2
  omega
 have hwx := hE.size
 have hv3 : ∀ k, rowBlock v3 = some k → rowBlock Y.vf = some k ∨ Wv2.heap.size < k := fun k hk => by
  rcases r3 with h1 | h1
  ·exact .inl (h1 ▸ hk)
  ·have := h1 k hk
   simp at this
   exact .inr (by omega)
 have hn3 : rowBlock v3 ≠ some f5 := fun e => by
  rcases hv3 f5 e with h1 | h1
  ·have := h.fo.row.le f5 h1; omega
  ·have h2 := h.c0.lt
   have h3 := hE2.size
   omega
 have hcl := chg_one Wv3 f5 0 v3
 have hXO : FrameO (Wv3.setCell ⟨f5, 0, none⟩ v3) base ⟨xf, v1, v2⟩ := by
  have k1 := hE12.size
  refine ⟨hI, ?_, ?_, ⟨by show xf.locals.length ≤ 1000; omega, by show xf.stack.length ≤ 1000; omega⟩⟩
  ·refine (((hr1.ext hE12 (by decide)).ext ((Ext.refl _).alloc _) (by decide)).chg r2 (fun k hk e => ?_) (by decide)).chg hcl (fun k hk e => ?_) (by decide)
   ·have := hb1 k hk; have := hold k e; omega
   ·have := hr1.le k hk; have : k = f5 := e; omega
  ·refine ((hr2.ext ((Ext.refl _).alloc _) (by decide)).chg r2 (fun k hk e => ?_) (by decide)).chg hcl (fun k hk e => ?_) (by decide)
   ·have := hb2 k hk; have := hold k e; omega
   ·have := hr2.le k hk; have : k = f5 := e; omega
 have hYO : ∀ u ∈ Y.fr, FrameO (Wv3.setCell ⟨f5, 0, none⟩ v3) base u := fun u hu => by
  have hub : ∀ k ∈ u.bl, k ∈ Y.bl ∧ rowBlock Y.vf ≠ some k := fun k hk => by
   have hnd := h.nodup
   unfold PFiber.bl at hnd ⊢
   have h2 : k ∈ Y.fr.flatMap PFrame.bl := List.mem_flatMap.2 ⟨u, hu, hk⟩
   exact ⟨List.mem_append.2 (.inr h2), fun e => (List.nodup_append.1 hnd).2.2 k (by rw [e]; simp) k h2 rfl⟩
  refine (((h.fo.fr u hu).chg (M := fun _ => False) (Chg.of_ext hEm) (fun _ _ h => h)).chg r2 (fun k hk e => (hub k hk).2 e)).chg hcl (fun k hk e => ?_)
  have := hge k (hub k hk).1; have : k = f5 := e; omega
 have hbl : PFiber.bl ⟨Y.fr ++ [⟨xf, v1, v2⟩], Y.caller, v3⟩ = (rowBlock v3).toList ++ (Y.fr.flatMap PFrame.bl ++ ((rowBlock v1).toList ++ (rowBlock v2).toList)) := by unfold PFiber.bl; simp [PFrame.bl]
 refine ⟨⟨h.fo.i, ?_, fun u hu => ?_, ?_⟩, ?_, ?_, ?_⟩
 ·have e : (Y.fr ++ [(⟨xf, v1, v2⟩ : PFrame)]).flatMap frameF = Y.fr.flatMap frameF ++ [.int .i64 xf.func, .int .i64 xf.at_, v1, v2] := by rw [List.flatMap_append]; rfl
  show RowAt _ base 4 v3 (Y.fr ++ [(⟨xf, v1, v2⟩ : PFrame)]).length ((Y.fr ++ [(⟨xf, v1, v2⟩ : PFrame)]).flatMap frameF)
  rw [e, List.length_append, List.length_singleton]
  exact r1.chg hcl (fun k hk e => hn3 (by rw [hk]; exact congrArg some e)) (by decide)
 ·have hu' : u ∈ Y.fr ++ [⟨xf, v1, v2⟩] := hu
  rcases List.mem_append.1 hu' with h1 | h1
  ·exact hYO u h1
  ·rw [List.mem_singleton.1 h1]; exact hXO
 ·show (Y.fr ++ [(⟨xf, v1, v2⟩ : PFrame)]).length ≤ 1000
  rw [List.length_append, List.length_singleton]; omega
 ·rw [hbl]
  have hnd := h.nodup
  unfold PFiber.bl at hnd
  obtain ⟨_, n2, n3⟩ := List.nodup_append.1 hnd
  have hfl : ∀ k ∈ Y.fr.flatMap PFrame.bl, k < wr.heap.size := fun k hk => hlt k (by unfold PFiber.bl; exact List.mem_append.2 (.inr hk))
  have hvv : ∀ k ∈ (rowBlock v1).toList ++ (rowBlock v2).toList, wx.heap.size ≤ k ∧ k < Wv2.heap.size := fun k hk => by
   rcases List.mem_append.1 hk with h1 | h1
   ·have h1' : rowBlock v1 = some k := by simpa using h1
    exact ⟨hb1 k h1', Nat.lt_of_lt_of_le (hr1.lt2 (by decide) k h1') hE12.size⟩
   ·have h1' : rowBlock v2 = some k := by simpa using h1
    exact ⟨hb2 k h1', hr2.lt2 (by decide) k h1'⟩
  rw [List.nodup_append]
  refine ⟨by cases rowBlock v3 <;> simp, ?_, fun a ha c hc e => ?_⟩
  ·rw [List.nodup_append]
   refine ⟨n2, ?_, fun a ha c hc e => ?_⟩
   ·rw [List.nodup_append]
    refine ⟨by cases rowBlock v1 <;> simp, by cases rowBlock v2 <;> simp, fun a ha c hc e => ?_⟩
    subst e
    exact hne12 a (by simpa using ha) (by simpa using hc)
   ·subst e
    have := hfl a ha
    have := (hvv a hc).1
    omega
  ·subst e
   have ha' : rowBlock v3 = some a := by simpa using ha
   rcases List.mem_append.1 hc with h1 | h1
   ·rcases hv3 a ha' with h2 | h2
    ·exact n3 a (by rw [h2]; simp) a h1 rfl
    ·have := hfl a h1
     have := hE2.size
     omega
   ·have h4 := hvv a h1
    rcases hv3 a ha' with h2 | h2
    ·have := hold a h2; omega
    ·omega
 ·exact (((h.c0.ext hEm).chg r2 (fun e => by have := h.fo.row.le f5 e; omega))).set _
 ·exact (((h.c1.ext hEm).chg r2 (fun e => by have := h.fo.row.le f5 e; omega))).other (.inr (by decide)) _
theorem fiber_g {P : PState} {Y : PFiber} {l : List GFiber} {f : GFiber} {n : Int} {out : List Int} {v : Value} (h : P.g = ⟨l, n, out⟩) (hy : Y.g = ⟨f.frames, f.caller⟩) : PState.g { P with fs := P.fs ++ [Y], vfs := v } = ⟨l ++ [f], n, out⟩ := by
 unfold PState.g at h ⊢
 simp only [GState.mk.injEq] at h ⊢
 obtain ⟨h1, h2, h3⟩ := h
 exact ⟨by rw [List.map_append, h1]; simp [hy], h2, h3⟩
theorem fiber_fin {wk wr Wv : World} {B o3 f5 : Nat} {P : PState} {Y : PFiber} {v1 : Value} (h : OwnS wk B o3 P) (hY : BuildF wr (f5 + 1) f5 Y) (hf5 : wk.heap.size = f5) (hE : Ext wk wr) (tb : TypeId)
  (hR : NewRow (wr.alloc (.cells #[Y.vf, .int .i64 Y.caller] tb)) Wv B 2 P.vfs v1 (P.fs.length + 1) (P.fs.flatMap fiberF ++ [Y.vf, .int .i64 Y.caller])) (hl : P.fs.length < 1000) :
  OwnS (Wv.setCell ⟨o3, 0, none⟩ v1) B o3 { P with fs := P.fs ++ [Y], vfs := v1 } := by
 obtain ⟨r1, r2, r3⟩ := hR
 have hold : ∀ k, rowBlock P.vfs = some k → k < wk.heap.size := fun k hk => h.lt k (List.mem_cons_of_mem _ (PState.mem_vfs hk))
 have hEm : Ext wk (wr.alloc (.cells #[Y.vf, .int .i64 Y.caller] tb)) := hE.alloc _
 have hge := hY.ge
 have hlt := hY.fo.lt
 have hB : B ≤ wk.heap.size := Nat.le_trans h.le (Nat.le_of_lt h.c0.lt)
 refine (h.addFiber (y := Y) (v1 := v1) ((Chg.of_ext hEm).trans r2) ?_ ?_ hl (r3.imp id fun e k hk => Nat.le_trans hEm.size (e k hk)) hY.nodup fun k hk => ⟨by have := hge k hk; omega, fun e => ?_⟩).1
 ·rw [List.length_append, List.length_singleton, List.flatMap_append]; exact r1
 ·refine ((hY.fo.mono (by omega)).chg (M := fun _ => False) (Chg.of_ext ((Ext.refl wr).alloc _)) (fun _ _ h => h)).chg r2 (fun k hk e => ?_)
  have := hold k e
  have := hge k hk
  omega
 ·rcases r3 with h1 | h1
  ·have := hold k (h1 ▸ e)
   have := hge k hk
   omega
  ·have h2 := h1 k e
   have h3 := hlt k hk
   simp at h2
   omega
theorem ownState_any (s : GState) (vs : Value) (T : Nat → Prop) (w : World) (hs : StateV w T vs s) (hf : FewS s) :
  Calls Tryz.prog 7 #[vs] w fun e w' => (∃ P, e = .returned (.agg #[P.vfs, .int .i64 P.now, P.vo]) ∧ OwnR w' w.heap.size P ∧ P.g = s) ∧ Ext w w' := by
 obtain ⟨fs, nw, out⟩ := s
 have HSV := Lib.hid hs
 obtain ⟨xf, xo, rfl, hfs, inow, ho⟩ := hs
 have hIO := ho.i64
 have HFS := Lib.hid hfs
 have HO := Lib.hid ho
 obtain ⟨af, cf, rfl, hcf, hbf, _⟩ := hfs
 obtain ⟨ao, co, rfl, hco, hbo, _⟩ := ho
 obtain ⟨i0, hi0, hz0, hz1, hz2⟩ := info_parts infoI
 obtain ⟨i1, hi1, hz3, hz4, hz5⟩ := info_parts infoFr
 obtain ⟨i2, hi2, hz6, hz7, hz8⟩ := info_parts infoFb
 have RA := alloc_keep
 obtain ⟨hf1, hf2, hf3⟩ := hf
 have hf1 : fs.length ≤ 900 := hf1
 have hf2 : out.length ≤ 900 := hf2
 have hf3 : ∀ f ∈ fs, FewF f := hf3
 have HF3 := Lib.hid hf3
 clear hf3
 go_enter Tryz.func7, Tryz.ntmps7
 go_upto_region 1 with fail
 have HSRC := Lib.hid (HO.out).srcI
 have s1 : ((w.alloc (.cells #[.slice af fs.length cf, .int .i64 nw, .slice ao out.length co] 26)).alloc (.cells #[.slice none 0 0, .int .i64 0, .slice none 0 0] 26)).cell? ⟨w.heap.size, 1, none⟩ = some (.int .i64 nw) := by simp
 have s2 : ((w.alloc (.cells #[.slice af fs.length cf, .int .i64 nw, .slice ao out.length co] 26)).alloc (.cells #[.slice none 0 0, .int .i64 0, .slice none 0 0] 26)).cell? ⟨w.heap.size, 2, none⟩ = some (.slice ao out.length co) := by simp
 have hE1 : Ext w ((w.alloc (.cells #[.slice af fs.length cf, .int .i64 nw, .slice ao out.length co] 26)).alloc (.cells #[.slice none 0 0, .int .i64 0, .slice none 0 0] 26)) := by ((repeat (first | assumption | exact Ext.refl _ | (exact And.left (by assumption)) | refine Ext.alloc ?_ _ | refine Ext.drew ?_ | refine Ext.drewN ?_ _ | refine Ext.setCell ?_ (by simp) _ | refine Ext.setCell ?_ (by simp; omega) _ | refine Ext.trans ?_ (by assumption))); done)
 have s0 : ((w.alloc (.cells #[.slice af fs.length cf, .int .i64 nw, .slice ao out.length co] 26)).alloc (.cells #[.slice none 0 0, .int .i64 0, .slice none 0 0] 26)).cell? ⟨w.heap.size, 0, none⟩ = some (.slice af fs.length cf) := by simp
 have hbs : w.heap.size + 2 ≤ ((w.alloc (.cells #[.slice af fs.length cf, .int .i64 nw, .slice ao out.length co] 26)).alloc (.cells #[.slice none 0 0, .int .i64 0, .slice none 0 0] 26)).heap.size := by simp
 have hs0 : (w.alloc (.cells #[.slice af fs.length cf, .int .i64 nw, .slice ao out.length co] 26)).heap.size = w.heap.size + 1 := Array.size_push _
 have r10 := Cx.new (w.alloc (.cells #[.slice af fs.length cf, .int .i64 nw, .slice ao out.length co] 26)) [.slice none 0 0, .int .i64 0, .slice none 0 0] 26 (j := 0) rfl
 have r11 := Cx.new (w.alloc (.cells #[.slice af fs.length cf, .int .i64 nw, .slice ao out.length co] 26)) [.slice none 0 0, .int .i64 0, .slice none 0 0] 26 (j := 1) rfl
 have r12 := Cx.new (w.alloc (.cells #[.slice af fs.length cf, .int .i64 nw, .slice ao out.length co] 26)) [.slice none 0 0, .int .i64 0, .slice none 0 0] 26 (j := 2) rfl
 rw [hs0] at r10 r11 r12
 generalize ((w.alloc (.cells #[.slice af fs.length cf, .int .i64 nw, .slice ao out.length co] 26)).alloc (.cells #[.slice none 0 0, .int .i64 0, .slice none 0 0] 26)) = w1 at *
 have HE1 := Lib.hid hE1
 have HBS := Lib.hid hbs
 have HR1 := Lib.hid (⟨r10, r11, r12⟩ : _ ∧ _ ∧ _)
 clear hs0 r10 r11 r12
 go_cut [3] (fun u3 wr => ∃ o3 v1, u3 = .pointer (some ⟨o3, 0, none⟩) ∧ Ext w1 wr ∧ w1.heap.size ≤ o3 ∧ RowAt wr w1.heap.size 1 v1 out.length (ints out) ∧ rowBlock v1 ≠ some o3 ∧ Cx wr o3 0 (.slice none 0 0) ∧ Cx wr o3 1 (.int .i64 nw) ∧ Cx wr o3 2 v1)
 case first =>
  refine wp_region_rw (fun w' => w'.cell? ⟨w.heap.size, 1, none⟩ = some (.int .i64 nw) ∧ w'.cell? ⟨w.heap.size, 2, none⟩ = some (.slice ao out.length co)) 8 [0, 1, 3, 4] 5 (by kernel_rfl) (by kernel_rfl) (fun _ _ _ _ _ h => h) ⟨s1, s2⟩ ?_
  have hsz1 : (w1.alloc (.cells #[] 3)).heap.size = w1.heap.size + 1 := Array.size_push _
  have qb0 := Cx.new (w1.alloc (.cells #[] 3)) [.slice none 0 0, .int .i64 0, .slice none 0 0] 26 (j := 0) rfl
  have qb1 := Cx.new (w1.alloc (.cells #[] 3)) [.slice none 0 0, .int .i64 0, .slice none 0 0] 26 (j := 1) rfl
  have qb2 := Cx.new (w1.alloc (.cells #[] 3)) [.slice none 0 0, .int .i64 0, .slice none 0 0] 26 (j := 2) rfl
  rw [hsz1] at qb0 qb1 qb2
  have QB := Lib.hid (⟨qb0, qb1, qb2⟩ : _ ∧ _ ∧ _)
  have QC := Lib.hid (⟨Cx.new w1 [.slice none 0 0, .int .i64 0, .slice none 0 0] 26 (j := 0) rfl, Cx.new w1 [.slice none 0 0, .int .i64 0, .slice none 0 0] 26 (j := 1) rfl, Cx.new w1 [.slice none 0 0, .int .i64 0, .slice none 0 0] 26 (j := 2) rfl⟩ : _ ∧ _ ∧ _)
  clear qb0 qb1 qb2
  have S2 : ∀ W, Ext w1 W → W.cell? ⟨w.heap.size, 1, none⟩ = some (.int .i64 nw) ∧ W.cell? ⟨w.heap.size, 2, none⟩ = some (.slice ao out.length co) := fun W h => ⟨Ext.cell h s1, Ext.cell h s2⟩
  (try simp only [pickOps, List.filterMap_cons, List.filterMap_nil, List.getElem?_cons_zero, List.getElem?_cons_succ])
  repeat (
   refine readsQ_do (by rfl) ?_
   apply Exists.intro
   refine ⟨fun w' hw' => ?_, ?_⟩
   focus
    (try dsimp only at hw')
    go_split_ands
    go_simp
    (try with_reducible rfl)
   (try dsimp only [Act.put])
   (try simp only [List.setIfInBounds_toArray, List.set_cons_succ, List.set_cons_zero]))
  refine readsQ_nil ?_
  refine wpAnyW_two 2 7 (by kernel_rfl) rfl rfl ?_ ?_
  ·go_wp2_with fail
   refine nextA_go (S2 _ (by ((repeat (first | assumption | exact Ext.refl _ | (exact And.left (by assumption)) | refine Ext.alloc ?_ _ | refine Ext.drew ?_ | refine Ext.drewN ?_ _ | refine Ext.setCell ?_ (by simp) _ | refine Ext.setCell ?_ (by simp; omega) _ | refine Ext.trans ?_ (by assumption))); done))) ?_
   refine wpAnyW_two 5 7 (by kernel_rfl) rfl rfl ?_ ?_
   ·refine wpList_append_row rfl _ _ 24 rfl w1.heap.size 3 i0 (.int .i64 0) 1 8 Tryz.underlying24 hi0 hz0 hz1 hz2 rfl (by decide) _ _ _ rfl (RowAt.nil _ _ _ _) out.length (ints out) (SrcSl.up HSRC.out (HE1.out.trans (by ((repeat (first | assumption | exact Ext.refl _ | (exact And.left (by assumption)) | refine Ext.alloc ?_ _ | refine Ext.drew ?_ | refine Ext.drewN ?_ _ | refine Ext.setCell ?_ (by simp) _ | refine Ext.setCell ?_ (by simp; omega) _ | refine Ext.trans ?_ (by assumption))); done)))) (by unfold maxLen; omega) (by omega) (by exact Ext.size (by ((repeat (first | assumption | exact Ext.refl _ | (exact And.left (by assumption)) | refine Ext.alloc ?_ _ | refine Ext.drew ?_ | refine Ext.drewN ?_ _ | refine Ext.setCell ?_ (by simp) _ | refine Ext.setCell ?_ (by simp; omega) _ | refine Ext.trans ?_ (by assumption))); done))) ?_
    intro v1 Wv1 rv1
    have RV := Lib.hid rv1
    have hxv := rv_ext rv1
    obtain ⟨a9, cap9, rfl, _, _⟩ := rv1.1.shape
    clear rv1
    go_wp2_with fail
    refine nextA_go (S2 Wv1 (by ((repeat (first | assumption | exact Ext.refl _ | (exact And.left (by assumption)) | refine Ext.alloc ?_ _ | refine Ext.drew ?_ | refine Ext.drewN ?_ _ | refine Ext.setCell ?_ (by simp) _ | refine Ext.setCell ?_ (by simp; omega) _ | refine Ext.trans ?_ (by assumption))); done))) ?_
    refine wpAnyW_take 6 (by kernel_rfl) (by kernel_rfl) (by kernel_rfl) (by kernel_rfl) (by kernel_rfl) (fun _ _ _ _ _ h => h) rfl (by rfl) (S2 _ (by ((repeat (first | assumption | exact Ext.refl _ | (exact And.left (by assumption)) | refine Ext.alloc ?_ _ | refine Ext.drew ?_ | refine Ext.drewN ?_ _ | refine Ext.setCell ?_ (by simp) _ | refine Ext.setCell ?_ (by simp; omega) _ | refine Ext.trans ?_ (by assumption))); done))) ?_
    apply Exists.intro
    refine ⟨fun w' hw' => ?_, ?_⟩
    focus
     go_simp
     (try with_reducible rfl)
    dsimp only [Act.put]
    simp only [List.setIfInBounds_toArray]
    refine wpAnyW_one 7 (by kernel_rfl) rfl ?_
    go_wp2_with fail
    refine nextA_go (S2 _ (by ((repeat (first | assumption | exact Ext.refl _ | (exact And.left (by assumption)) | refine Ext.alloc ?_ _ | refine Ext.drew ?_ | refine Ext.drewN ?_ _ | refine Ext.setCell ?_ (by simp) _ | refine Ext.setCell ?_ (by simp; omega) _ | refine Ext.trans ?_ (by assumption))); done))) ?_
    refine wpAnyW_one 8 (by kernel_rfl) rfl ?_
    go_wp2_with fail
    refine nextA_end rfl (by kernel_rfl) ?_
    go_wp2_with fail
    go_meet
    have hR := RV.out
    rw [Nat.zero_add, List.nil_append] at hR
    exact ⟨_, _, rfl, by ((repeat (first | assumption | exact Ext.refl _ | (exact And.left (by assumption)) | refine Ext.alloc ?_ _ | refine Ext.drew ?_ | refine Ext.drewN ?_ _ | refine Ext.setCell ?_ (by simp) _ | refine Ext.setCell ?_ (by simp; omega) _ | refine Ext.trans ?_ (by assumption))); done), Ext.size (show Ext w1 Wv1 by ((repeat (first | assumption | exact Ext.refl _ | (exact And.left (by assumption)) | refine Ext.alloc ?_ _ | refine Ext.drew ?_ | refine Ext.drewN ?_ _ | refine Ext.setCell ?_ (by simp) _ | refine Ext.setCell ?_ (by simp; omega) _ | refine Ext.trans ?_ (by assumption))); done)), hR.1.ext ((Ext.refl _).alloc _) (by decide), fun e => by have := hR.1.lt2 (by decide) _ e; omega, Cx.new Wv1 [.slice none 0 0, .int .i64 nw, .slice a9 out.length cap9] _ (j := 0) rfl, Cx.new Wv1 [.slice none 0 0, .int .i64 nw, .slice a9 out.length cap9] _ (j := 1) rfl, Cx.new Wv1 [.slice none 0 0, .int .i64 nw, .slice a9 out.length cap9] _ (j := 2) rfl⟩
   ·go_wp2_with fail
    refine nextA_go (S2 _ (by ((repeat (first | assumption | exact Ext.refl _ | (exact And.left (by assumption)) | refine Ext.alloc ?_ _ | refine Ext.drew ?_ | refine Ext.drewN ?_ _ | refine Ext.setCell ?_ (by simp) _ | refine Ext.setCell ?_ (by simp; omega) _ | refine Ext.trans ?_ (by assumption))); done))) ?_
    refine wpAnyW_one 5 (by kernel_rfl) rfl ?_
    refine wpList_append_row rfl _ _ 24 rfl w1.heap.size 3 i0 (.int .i64 0) 1 8 Tryz.underlying24 hi0 hz0 hz1 hz2 rfl (by decide) _ _ _ rfl (RowAt.nil _ _ _ _) out.length (ints out) (SrcSl.up HSRC.out (HE1.out.trans (by ((repeat (first | assumption | exact Ext.refl _ | (exact And.left (by assumption)) | refine Ext.alloc ?_ _ | refine Ext.drew ?_ | refine Ext.drewN ?_ _ | refine Ext.setCell ?_ (by simp) _ | refine Ext.setCell ?_ (by simp; omega) _ | refine Ext.trans ?_ (by assumption))); done)))) (by unfold maxLen; omega) (by omega) (by exact Ext.size (by ((repeat (first | assumption | exact Ext.refl _ | (exact And.left (by assumption)) | refine Ext.alloc ?_ _ | refine Ext.drew ?_ | refine Ext.drewN ?_ _ | refine Ext.setCell ?_ (by simp) _ | refine Ext.setCell ?_ (by simp; omega) _ | refine Ext.trans ?_ (by assumption))); done))) ?_
    intro v1 Wv1 rv1
    have RV := Lib.hid rv1
    have hxv := rv_ext rv1
    obtain ⟨a9, cap9, rfl, _, _⟩ := rv1.1.shape
    clear rv1
    go_wp2_with fail
    refine nextA_go (S2 Wv1 (by ((repeat (first | assumption | exact Ext.refl _ | (exact And.left (by assumption)) | refine Ext.alloc ?_ _ | refine Ext.drew ?_ | refine Ext.drewN ?_ _ | refine Ext.setCell ?_ (by simp) _ | refine Ext.setCell ?_ (by simp; omega) _ | refine Ext.trans ?_ (by assumption))); done))) ?_
    refine wpAnyW_one 6 (by kernel_rfl) rfl ?_
    go_wp2_with fail
    refine nextA_go (S2 _ (by ((repeat (first | assumption | exact Ext.refl _ | (exact And.left (by assumption)) | refine Ext.alloc ?_ _ | refine Ext.drew ?_ | refine Ext.drewN ?_ _ | refine Ext.setCell ?_ (by simp) _ | refine Ext.setCell ?_ (by simp; omega) _ | refine Ext.trans ?_ (by assumption))); done))) ?_
    obtain ⟨⟨q0, q0'⟩, ⟨q1, q1'⟩, ⟨q2, q2'⟩⟩ := (⟨(QB.out.1.ext (Ext.refl _).drew).ext hxv, (QB.out.2.1.ext (Ext.refl _).drew).ext hxv, (QB.out.2.2.ext (Ext.refl _).drew).ext hxv⟩ : _ ∧ _ ∧ _)
    refine wpAnyW_one 8 (by kernel_rfl) rfl ?_
    go_wp2_with fail
    refine nextA_end rfl (by kernel_rfl) ?_
    go_wp2_with fail
    go_meet
    have hR := RV.out
    rw [Nat.zero_add, List.nil_append] at hR
    obtain ⟨z1, z2, z3, z4, z5, z6⟩ := out_box (w1 := w1) (by ((repeat (first | assumption | exact Ext.refl _ | (exact And.left (by assumption)) | refine Ext.alloc ?_ _ | refine Ext.drew ?_ | refine Ext.drewN ?_ _ | refine Ext.setCell ?_ (by simp) _ | refine Ext.setCell ?_ (by simp; omega) _ | refine Ext.trans ?_ (by assumption))); done)) (bo := w1.heap.size + 1) (by omega) (by show _ < ((w1.alloc (.cells #[] 3)).alloc _).heap.size; simp) hR ⟨q0, q0'⟩ ⟨q1, q1'⟩ ⟨q2, q2'⟩ (.slice none 0 0) (.int .i64 nw) (.slice a9 out.length cap9)
    exact ⟨_, _, rfl, z1, by omega, z2, z3, z4, z5, z6⟩
  ·go_wp2_with fail
   refine nextA_go (S2 _ (by ((repeat (first | assumption | exact Ext.refl _ | (exact And.left (by assumption)) | refine Ext.alloc ?_ _ | refine Ext.drew ?_ | refine Ext.drewN ?_ _ | refine Ext.setCell ?_ (by simp) _ | refine Ext.setCell ?_ (by simp; omega) _ | refine Ext.trans ?_ (by assumption))); done))) ?_
   refine wpAnyW_one 2 (by kernel_rfl) rfl ?_
   go_wp2_with fail
   refine nextA_go (S2 _ (by ((repeat (first | assumption | exact Ext.refl _ | (exact And.left (by assumption)) | refine Ext.alloc ?_ _ | refine Ext.drew ?_ | refine Ext.drewN ?_ _ | refine Ext.setCell ?_ (by simp) _ | refine Ext.setCell ?_ (by simp; omega) _ | refine Ext.trans ?_ (by assumption))); done))) ?_
   refine wpAnyW_one 5 (by kernel_rfl) rfl ?_
   refine wpList_append_row rfl _ _ 24 rfl w1.heap.size 3 i0 (.int .i64 0) 1 8 Tryz.underlying24 hi0 hz0 hz1 hz2 rfl (by decide) _ _ _ rfl (RowAt.nil _ _ _ _) out.length (ints out) (SrcSl.up HSRC.out (HE1.out.trans (by ((repeat (first | assumption | exact Ext.refl _ | (exact And.left (by assumption)) | refine Ext.alloc ?_ _ | refine Ext.drew ?_ | refine Ext.drewN ?_ _ | refine Ext.setCell ?_ (by simp) _ | refine Ext.setCell ?_ (by simp; omega) _ | refine Ext.trans ?_ (by assumption))); done)))) (by unfold maxLen; omega) (by omega) (by exact Ext.size (by ((repeat (first | assumption | exact Ext.refl _ | (exact And.left (by assumption)) | refine Ext.alloc ?_ _ | refine Ext.drew ?_ | refine Ext.drewN ?_ _ | refine Ext.setCell ?_ (by simp) _ | refine Ext.setCell ?_ (by simp; omega) _ | refine Ext.trans ?_ (by assumption))); done))) ?_
   intro v1 Wv1 rv1
   have RV := Lib.hid rv1
   have hxv := rv_ext rv1
   obtain ⟨a9, cap9, rfl, _, _⟩ := rv1.1.shape
   clear rv1
   go_wp2_with fail
   refine nextA_go (S2 Wv1 (by ((repeat (first | assumption | exact Ext.refl _ | (exact And.left (by assumption)) | refine Ext.alloc ?_ _ | refine Ext.drew ?_ | refine Ext.drewN ?_ _ | refine Ext.setCell ?_ (by simp) _ | refine Ext.setCell ?_ (by simp; omega) _ | refine Ext.trans ?_ (by assumption))); done))) ?_
   refine wpAnyW_one 6 (by kernel_rfl) rfl ?_
   go_wp2_with fail
   refine nextA_go (S2 _ (by ((repeat (first | assumption | exact Ext.refl _ | (exact And.left (by assumption)) | refine Ext.alloc ?_ _ | refine Ext.drew ?_ | refine Ext.drewN ?_ _ | refine Ext.setCell ?_ (by simp) _ | refine Ext.setCell ?_ (by simp; omega) _ | refine Ext.trans ?_ (by assumption))); done))) ?_
   obtain ⟨⟨q0, q0'⟩, ⟨q1, q1'⟩, ⟨q2, q2'⟩⟩ := (⟨((QC.out.1.ext ((Ext.refl _).alloc _)).ext (Ext.refl _).drew).ext hxv, ((QC.out.2.1.ext ((Ext.refl _).alloc _)).ext (Ext.refl _).drew).ext hxv, ((QC.out.2.2.ext ((Ext.refl _).alloc _)).ext (Ext.refl _).drew).ext hxv⟩ : _ ∧ _ ∧ _)
   refine wpAnyW_one 8 (by kernel_rfl) rfl ?_
   go_wp2_with fail
   refine nextA_end rfl (by kernel_rfl) ?_
   go_wp2_with fail
   go_meet
   have hR := RV.out
   rw [Nat.zero_add, List.nil_append] at hR
   obtain ⟨z1, z2, z3, z4, z5, z6⟩ := out_box (w1 := w1) (by ((repeat (first | assumption | exact Ext.refl _ | (exact And.left (by assumption)) | refine Ext.alloc ?_ _ | refine Ext.drew ?_ | refine Ext.drewN ?_ _ | refine Ext.setCell ?_ (by simp) _ | refine Ext.setCell ?_ (by simp; omega) _ | refine Ext.trans ?_ (by assumption))); done)) (bo := w1.heap.size) (by omega) (by show _ < ((w1.alloc _).alloc (.cells #[] 3)).heap.size; simp; omega) hR ⟨q0, q0'⟩ ⟨q1, q1'⟩ ⟨q2, q2'⟩ (.slice none 0 0) (.int .i64 nw) (.slice a9 out.length cap9)
   exact ⟨_, _, rfl, z1, Nat.le_refl _, z2, z3, z4, z5, z6⟩
 case rest =>
  rename World => w2
  obtain ⟨o3, v1, rfl, hx2, ho3, hrow2, hne2, k0, k1, k2⟩ := hcut
  have hx2 : Ext w1 w2 := hx2
  have hO0 : OwnS w2 w1.heap.size o3 ⟨[], nw, out, .slice none 0 0, v1⟩ := by
   refine ⟨k0, k1, k2, ⟨inow, hIO⟩, RowAt.nil _ _ _ _, hrow2, (fun y hy => by cases hy), ho3, ⟨by show 0 ≤ 1000; omega, by show out.length ≤ 1000; omega⟩, ?_⟩
   unfold PState.bl
   cases hv : rowBlock v1 with
   | none => simp [rowBlock]
   | some k =>
    have : o3 ≠ k := fun e => hne2 (by rw [hv, e])
    simp [rowBlock, this]
  have HO0 := Lib.hid hO0
  have HX2 := Lib.hid hx2
  have HS1 := Lib.hid s1
  have HF1 : Hid (w1.cell? ⟨w.heap.size, 0, none⟩ = some (.slice af fs.length cf)) := s0
  have HFB := Lib.hid (Fibers.stays (Ext.stays HE1.out) HFS.out)
  clear hO0 hx2 ho3 hrow2 hne2 k0 k1 k2 s1 s2 s0
  go_wp2_with fail
  go_loopw [4] (fun q4 wr => ∃ (k : Nat) (P : PState), k ≤ fs.length ∧ q4 = .int .i64 k ∧ Ext w1 wr ∧ OwnS wr w1.heap.size o3 P ∧ P.g = ⟨fs.take k, nw, out⟩) (fun q _ => fs.length - (intOf q).toNat)
  case atStart => exact ⟨0, _, Nat.zero_le _, rfl, HX2.out, HO0.out, rfl⟩
  case round =>
   obtain ⟨k, P, hk, rfl, hE, hO, hg⟩ := hrel
   have HEK := Lib.hid hE
   have HOK := Lib.hid hO
   have HGK := Lib.hid hg
   have f0 := Ext.cell hE HF1.out
   clear hE hO hg
   rename World => wk
   by_cases hlt : k < fs.length
   ·obtain ⟨bf, of, afr, cfr, rfl, g0, g1, hfv⟩ := (HFB.out).at' hlt
    have g0 := Ext.cell HEK.out g0
    have g1 := Ext.cell HEK.out g1
    have hfv := FiberV.stays (Ext.stays HEK.out) hfv
    have hgd : fs.take (k + 1) = fs.take k ++ [fs.getD k default] := by
     rw [List.take_succ_eq_append_getElem hlt]; simp [List.getD, List.getElem?_eq_getElem hlt]
    have hfew : FewF (fs.getD k default) := by
     have e : fs.getD k default = fs[k] := by simp [List.getD, List.getElem?_eq_getElem hlt]
     rw [e]; exact (HF3.out) _ (List.getElem_mem _)
    have HGD := Lib.hid hgd
    have HFEW := Lib.hid hfew
    have hn9 := hfew.1
    clear hgd hfew
    obtain ⟨fb, hfb⟩ : ∃ fb, fs.getD k default = fb := ⟨_, rfl⟩
    rw [hfb] at g0 g1 hfv HGD HFEW hn9
    obtain ⟨xs, exs, hxs, icl⟩ := hfv
    simp only [Value.agg.injEq, Array.mk.injEq, List.cons.injEq, and_true] at exs
    obtain ⟨rfl, -⟩ := exs
    have HXS := Lib.hid hxs
    have hsf : wk.heap.size < wk.heap.size + 1 := Nat.lt_succ_self _
    have hsz5 : (wk.alloc (.cells #[.slice none 0 0, .int .i64 fb.caller] 41)).heap.size = wk.heap.size + 1 := Array.size_push _
    have j0 := Cx.new wk [.slice none 0 0, .int .i64 fb.caller] 41 (j := 0) rfl
    have j1 := Cx.new wk [.slice none 0 0, .int .i64 fb.caller] 41 (j := 1) rfl
    clear hxs hfb
    go_upto_region 6 with fail
    obtain ⟨wf, hwf⟩ : ∃ wf, wf = wk.alloc (.cells #[.slice none 0 0, .int .i64 fb.caller] 41) := ⟨_, rfl⟩
    rw [← hwf]
    rw [← hwf] at hsz5 j0 j1
    have hEf : Ext wk wf := by rw [hwf]; ((repeat (first | assumption | exact Ext.refl _ | (exact And.left (by assumption)) | refine Ext.alloc ?_ _ | refine Ext.drew ?_ | refine Ext.drewN ?_ _ | refine Ext.setCell ?_ (by simp) _ | refine Ext.setCell ?_ (by simp; omega) _ | refine Ext.trans ?_ (by assumption))); done)
    have HEF := Lib.hid hEf
    have HSZ5 := Lib.hid hsz5
    have J := Lib.hid (⟨j0, j1⟩ : _ ∧ _)
    clear hwf hEf j0 j1 hsz5 hsf
    go_wp2_with fail
    obtain ⟨f5, hf5⟩ : ∃ f5, wk.heap.size = f5 := ⟨_, rfl⟩
    have HF5 := Lib.hid hf5
    have HY0 : Hid (BuildF wf (f5 + 1) f5 ⟨[], fb.caller, .slice none 0 0⟩) := by
     rw [← hf5]
     exact ⟨⟨icl, RowAt.nil _ _ _ _, (fun y hy => by cases hy), by show 0 ≤ 1000; omega⟩, by unfold PFiber.bl; simp [rowBlock], (J.out).1, (J.out).2⟩
    have HSZ6 : Hid (wf.heap.size = f5 + 1) := by rw [← hf5]; exact HSZ5.out
    rw [hf5]
    clear hf5
    go_loopw [6] (fun q6 wr => ∃ (i : Nat) (Y : PFiber), i ≤ fb.frames.length ∧ q6 = .int .i64 i ∧ Ext wk wr ∧ BuildF wr (f5 + 1) f5 Y ∧ Y.g = ⟨fb.frames.take i, fb.caller⟩) (fun q _ => fb.frames.length - (intOf q).toNat)
    case atStart => exact ⟨0, _, Nat.zero_le _, rfl, HEF.out, HY0.out, rfl⟩
    case round =>
     obtain ⟨i, Y, hi, rfl, hE, hY, hyg⟩ := hrel
     have HEW := Lib.hid hE
     have HYW := Lib.hid hY
     have HYG := Lib.hid hyg
     have hEkw := hE
     have HB6 : Hid (f5 + 1 ≤ wr.heap.size) := hY.c0.lt
     have f0 := Ext.cell hEkw f0
     have g0 := Ext.cell hEkw g0
     have HEKW := Lib.hid hEkw
     clear hE hY hyg hEkw
     rename World => wr
     by_cases hlt2 : i < fb.frames.length
     ·obtain ⟨b4, o4, al, cl, as_, cs, rfl, hfa, hfv4⟩ := (HXS.out).at' hlt2
      have hgd4 : fb.frames.take (i + 1) = fb.frames.take i ++ [fb.frames.getD i default] := by
       rw [List.take_succ_eq_append_getElem hlt2]; simp [List.getD, List.getElem?_eq_getElem hlt2]
      have hfew4 : (fb.frames.getD i default).locals.length ≤ 900 ∧ (fb.frames.getD i default).stack.length ≤ 900 := by
       have e : fb.frames.getD i default = fb.frames[i] := by simp [List.getD, List.getElem?_eq_getElem hlt2]
       rw [e]; exact (HFEW.out).2 _ (List.getElem_mem _)
      obtain ⟨xf, hxf⟩ : ∃ xf, fb.frames.getD i default = xf := ⟨_, rfl⟩
      rw [hxf] at hfa hfv4 hgd4 hfew4
      obtain ⟨hl9, hs9⟩ := hfew4
      have HGD4 := Lib.hid hgd4
      have hfa := hfa.ext HEKW.out
      obtain ⟨y0, y1, y2, y3⟩ := hfa
      obtain ⟨vl, vs2, efv, ifu, iat, hil, his⟩ := hfv4
      simp only [Value.agg.injEq, Array.mk.injEq, List.cons.injEq, and_true, true_and] at efv
      obtain ⟨rfl, rfl⟩ := efv
      have HSL := Lib.hid hil.srcI
      have HSS := Lib.hid his.srcI
      have HIL := Lib.hid (⟨ifu, iat, hil.i64, his.i64⟩ : _ ∧ _ ∧ _ ∧ _)
      clear hil his ifu iat hxf hgd4
      go_upto_region 10 with fail
      have HX7 := Lib.hid (⟨Cx.new wr [.int .i64 xf.func, .int .i64 xf.at_, .slice al xf.locals.length cl, .slice as_ xf.stack.length cs] 43 (j := 0) rfl, Cx.new wr [.int .i64 xf.func, .int .i64 xf.at_, .slice al xf.locals.length cl, .slice as_ xf.stack.length cs] 43 (j := 1) rfl, Cx.new wr [.int .i64 xf.func, .int .i64 xf.at_, .slice al xf.locals.length cl, .slice as_ xf.stack.length cs] 43 (j := 2) rfl, Cx.new wr [.int .i64 xf.func, .int .i64 xf.at_, .slice al xf.locals.length cl, .slice as_ xf.stack.length cs] 43 (j := 3) rfl⟩ : _ ∧ _ ∧ _ ∧ _)
      have hEx : Ext wr (wr.alloc (.cells #[.int .i64 xf.func, .int .i64 xf.at_, .slice al xf.locals.length cl, .slice as_ xf.stack.length cs] 43)) := by ((repeat (first | assumption | exact Ext.refl _ | (exact And.left (by assumption)) | refine Ext.alloc ?_ _ | refine Ext.drew ?_ | refine Ext.drewN ?_ _ | refine Ext.setCell ?_ (by simp) _ | refine Ext.setCell ?_ (by simp; omega) _ | refine Ext.trans ?_ (by assumption))); done)
      obtain ⟨ay, cy, ey, hcy, hmy⟩ := (HYW.out).fo.row.shape
      have HYB := Lib.hid ((HYW.out).fo.row.lt2 (by decide))
      have hyc := (HYW.out).c0.ext hEx
      rw [ey] at hyc
      have HEY := Lib.hid ey
      have HRY : Hid (RowAt wr (f5 + 1) 4 (.slice ay Y.fr.length cy) Y.fr.length (Y.fr.flatMap frameF)) := by unfold Hid; rw [← ey]; exact (HYW.out).fo.row
      have hfy9 : Y.fr.length ≤ 900 := by
       have h1 := congrArg (fun g => g.frames.length) HYG.out
       simp only [PFiber.g, List.length_map, List.length_take] at h1
       omega
      obtain ⟨wx, hwx⟩ : ∃ wx, wx = wr.alloc (.cells #[.int .i64 xf.func, .int .i64 xf.at_, .slice al xf.locals.length cl, .slice as_ xf.stack.length cs] 43) := ⟨_, rfl⟩
      rw [← hwx] at hEx HX7 hyc ⊢
      have HEWX := Lib.hid ((HEW.out).trans hEx)
      have HEX2 := Lib.hid hEx
      have HEX := Lib.hid ((HEKW.out).trans hEx)
      have HWS : Hid (wx.heap.size = wr.heap.size + 1) := by unfold Hid; rw [hwx]; exact Array.size_push _
      obtain ⟨x7, hx7⟩ : ∃ x7, wr.heap.size = x7 := ⟨_, rfl⟩
      rw [hx7] at HX7 HWS ⊢
      have HX7E := Lib.hid hx7
      clear hwx ey
      have S6 : ∀ W, Ext wx W → W.cell? ⟨f5, 0, none⟩ = some (.slice ay Y.fr.length cy) ∧ W.cell? ⟨x7, 0, none⟩ = some (.int .i64 xf.func) ∧ W.cell? ⟨x7, 1, none⟩ = some (.int .i64 xf.at_) ∧ W.cell? ⟨x7, 2, none⟩ = some (.slice al xf.locals.length cl) ∧ W.cell? ⟨x7, 3, none⟩ = some (.slice as_ xf.stack.length cs) := fun W h => ⟨Ext.cell h hyc.1, Ext.cell h (HX7.out).1.1, Ext.cell h (HX7.out).2.1.1, Ext.cell h (HX7.out).2.2.1.1, Ext.cell h (HX7.out).2.2.2.1⟩
      refine wp_region_rw (fun w' => w'.cell? ⟨f5, 0, none⟩ = some (.slice ay Y.fr.length cy) ∧ w'.cell? ⟨x7, 0, none⟩ = some (.int .i64 xf.func) ∧ w'.cell? ⟨x7, 1, none⟩ = some (.int .i64 xf.at_) ∧ w'.cell? ⟨x7, 2, none⟩ = some (.slice al xf.locals.length cl) ∧ w'.cell? ⟨x7, 3, none⟩ = some (.slice as_ xf.stack.length cs))
       18 [0, 1, 2, 3, 4, 5, 7, 8, 11, 12] 9 (by kernel_rfl) (by kernel_rfl) (fun _ _ _ _ _ h => h) (S6 _ (Ext.refl _).drew) ?_
      (try simp only [pickOps, List.filterMap_cons, List.filterMap_nil, List.getElem?_cons_zero, List.getElem?_cons_succ])
      repeat (
       refine readsQ_do (by rfl) ?_
       apply Exists.intro
       refine ⟨fun w' hw' => ?_, ?_⟩
       focus
        (try dsimp only at hw')
        go_split_ands
        go_simp
        (try with_reducible rfl)
       (try dsimp only [Act.put])
       (try simp only [List.setIfInBounds_toArray, List.set_cons_succ, List.set_cons_zero]))
      refine readsQ_nil ?_
      have HNF5 : Hid (¬ rowBlock (.slice ay Y.fr.length cy) = some f5) := fun e => by have := (HRY.out).le f5 e; omega
      have HNX7 : Hid (¬ rowBlock (.slice ay Y.fr.length cy) = some x7) := fun e => by
       have h1 := HYB.out x7 (by rw [HEY.out]; exact e)
       have h2 := HX7E.out
       omega
      refine wpAnyW_two 6 10 (by kernel_rfl) rfl rfl ?_ ?_
      ·go_wp2_with fail
       refine nextA_go (S6 _ (by ((repeat (first | assumption | exact Ext.refl _ | (exact And.left (by assumption)) | refine Ext.alloc ?_ _ | refine Ext.drew ?_ | refine Ext.drewN ?_ _ | refine Ext.setCell ?_ (by simp) _ | refine Ext.setCell ?_ (by simp; omega) _ | refine Ext.trans ?_ (by assumption))); done))) ?_
       refine wpAnyW_two 9 10 (by kernel_rfl) rfl rfl ?_ ?_
       ·refine wpList_append_row rfl _ _ 24 rfl (f5 + 1) 3 i0 (.int .i64 0) 1 8 Tryz.underlying24 hi0 hz0 hz1 hz2 rfl (by decide) _ _ _ rfl (RowAt.nil _ _ _ _) xf.locals.length (ints xf.locals) (SrcSl.up HSL.out (HEX.out.trans (by ((repeat (first | assumption | exact Ext.refl _ | (exact And.left (by assumption)) | refine Ext.alloc ?_ _ | refine Ext.drew ?_ | refine Ext.drewN ?_ _ | refine Ext.setCell ?_ (by simp) _ | refine Ext.setCell ?_ (by simp; omega) _ | refine Ext.trans ?_ (by assumption))); done)))) (by unfold maxLen; omega) (by omega) (by exact Nat.le_trans HB6.out (Ext.size (show Ext wr _ from (by ((repeat (first | assumption | exact Ext.refl _ | (exact And.left (by assumption)) | refine Ext.alloc ?_ _ | refine Ext.drew ?_ | refine Ext.drewN ?_ _ | refine Ext.setCell ?_ (by simp) _ | refine Ext.setCell ?_ (by simp; omega) _ | refine Ext.trans ?_ (by assumption))); done))))) ?_
        intro v1 Wv1 rv1
        have RV1 := Lib.hid rv1
        have HA1 := Lib.hid (fresh_row rv1 (show Ext wx _ from (by ((repeat (first | assumption | exact Ext.refl _ | (exact And.left (by assumption)) | refine Ext.alloc ?_ _ | refine Ext.drew ?_ | refine Ext.drewN ?_ _ | refine Ext.setCell ?_ (by simp) _ | refine Ext.setCell ?_ (by simp; omega) _ | refine Ext.trans ?_ (by assumption))); done))))
        have hxv1 := rv_ext rv1
        obtain ⟨a91, cap91, rfl, _, _⟩ := rv1.1.shape
        clear rv1
        go_wp2_with fail
        refine nextA_go (S6 Wv1 (by ((repeat (first | assumption | exact Ext.refl _ | (exact And.left (by assumption)) | refine Ext.alloc ?_ _ | refine Ext.drew ?_ | refine Ext.drewN ?_ _ | refine Ext.setCell ?_ (by simp) _ | refine Ext.setCell ?_ (by simp; omega) _ | refine Ext.trans ?_ (by assumption))); done))) ?_
        refine wpAnyW_one 10 (by kernel_rfl) rfl ?_
        go_wp2_with fail
        refine nextA_go (S6 _ (by ((repeat (first | assumption | exact Ext.refl _ | (exact And.left (by assumption)) | refine Ext.alloc ?_ _ | refine Ext.drew ?_ | refine Ext.drewN ?_ _ | refine Ext.setCell ?_ (by simp) _ | refine Ext.setCell ?_ (by simp; omega) _ | refine Ext.trans ?_ (by assumption))); done))) ?_
        refine wpAnyW_one 13 (by kernel_rfl) rfl ?_
        refine wpList_append_row rfl _ _ 24 rfl (f5 + 1) 3 i0 (.int .i64 0) 1 8 Tryz.underlying24 hi0 hz0 hz1 hz2 rfl (by decide) _ _ _ rfl (RowAt.nil _ _ _ _) xf.stack.length (ints xf.stack) (SrcSl.up HSS.out (HEX.out.trans (by ((repeat (first | assumption | exact Ext.refl _ | (exact And.left (by assumption)) | refine Ext.alloc ?_ _ | refine Ext.drew ?_ | refine Ext.drewN ?_ _ | refine Ext.setCell ?_ (by simp) _ | refine Ext.setCell ?_ (by simp; omega) _ | refine Ext.trans ?_ (by assumption))); done)))) (by unfold maxLen; omega) (by omega) (by exact Nat.le_trans HB6.out (Ext.size (show Ext wr _ from (by ((repeat (first | assumption | exact Ext.refl _ | (exact And.left (by assumption)) | refine Ext.alloc ?_ _ | refine Ext.drew ?_ | refine Ext.drewN ?_ _ | refine Ext.setCell ?_ (by simp) _ | refine Ext.setCell ?_ (by simp; omega) _ | refine Ext.trans ?_ (by assumption))); done))))) ?_
        intro v2 Wv2 rv2
        have RV2 := Lib.hid rv2
        have HA2 := Lib.hid (fresh_row rv2 (show Ext wx _ from (by ((repeat (first | assumption | exact Ext.refl _ | (exact And.left (by assumption)) | refine Ext.alloc ?_ _ | refine Ext.drew ?_ | refine Ext.drewN ?_ _ | refine Ext.setCell ?_ (by simp) _ | refine Ext.setCell ?_ (by simp; omega) _ | refine Ext.trans ?_ (by assumption))); done))))
        have HA3 := Lib.hid (fresh_row rv2 (show Ext Wv1 _ from (by ((repeat (first | assumption | exact Ext.refl _ | (exact And.left (by assumption)) | refine Ext.alloc ?_ _ | refine Ext.drew ?_ | refine Ext.drewN ?_ _ | refine Ext.setCell ?_ (by simp) _ | refine Ext.setCell ?_ (by simp; omega) _ | refine Ext.trans ?_ (by assumption))); done))))
        have hxv2 := rv_ext rv2
        obtain ⟨a92, cap92, rfl, _, _⟩ := rv2.1.shape
        clear rv2
        go_wp2_with fail
        refine nextA_go (S6 Wv2 (by ((repeat (first | assumption | exact Ext.refl _ | (exact And.left (by assumption)) | refine Ext.alloc ?_ _ | refine Ext.drew ?_ | refine Ext.drewN ?_ _ | refine Ext.setCell ?_ (by simp) _ | refine Ext.setCell ?_ (by simp; omega) _ | refine Ext.trans ?_ (by assumption))); done))) ?_
        refine wpAnyW_one 14 (by kernel_rfl) rfl ?_
        go_wp2_with fail
        refine nextA_go (S6 Wv2 (by ((repeat (first | assumption | exact Ext.refl _ | (exact And.left (by assumption)) | refine Ext.alloc ?_ _ | refine Ext.drew ?_ | refine Ext.drewN ?_ _ | refine Ext.setCell ?_ (by simp) _ | refine Ext.setCell ?_ (by simp; omega) _ | refine Ext.trans ?_ (by assumption))); done))) ?_
        refine wpAnyW_one 15 (by kernel_rfl) rfl ?_
        go_wp2_with fail
        refine nextA_go (S6 _ (by ((repeat (first | assumption | exact Ext.refl _ | (exact And.left (by assumption)) | refine Ext.alloc ?_ _ | refine Ext.drew ?_ | refine Ext.drewN ?_ _ | refine Ext.setCell ?_ (by simp) _ | refine Ext.setCell ?_ (by simp; omega) _ | refine Ext.trans ?_ (by assumption))); done))) ?_
        refine wpAnyW_one 16 (by kernel_rfl) rfl ?_
        refine wpList_append_row rfl _ _ 39 rfl (f5 + 1) 43 i1 (.agg #[.int .i64 0, .int .i64 0, .slice none 0 0, .slice none 0 0]) 4 64 Tryz.underlying39 hi1 hz3 hz4 hz5 rfl (by decide) _ _ _ rfl (HRY.out.ext (show Ext wr _ from (by ((repeat (first | assumption | exact Ext.refl _ | (exact And.left (by assumption)) | refine Ext.alloc ?_ _ | refine Ext.drew ?_ | refine Ext.drewN ?_ _ | refine Ext.setCell ?_ (by simp) _ | refine Ext.setCell ?_ (by simp; omega) _ | refine Ext.trans ?_ (by assumption))); done))) (by decide)) 1 _ (src_cells _ _ 4 rfl (by simp [Value.oneCell']) _) (by unfold maxLen; omega) (by omega) (by exact Nat.le_trans HB6.out (Ext.size (show Ext wr _ from (by ((repeat (first | assumption | exact Ext.refl _ | (exact And.left (by assumption)) | refine Ext.alloc ?_ _ | refine Ext.drew ?_ | refine Ext.drewN ?_ _ | refine Ext.setCell ?_ (by simp) _ | refine Ext.setCell ?_ (by simp; omega) _ | refine Ext.trans ?_ (by assumption))); done))))) ?_
        intro v3 Wv3 rv3
        have RV3 := Lib.hid rv3
        obtain ⟨a93, cap93, rfl, _, _⟩ := rv3.1.shape
        clear rv3
        go_wp2_with fail
        have h12 : Ext Wv1 Wv2 := by ((repeat (first | assumption | exact Ext.refl _ | (exact And.left (by assumption)) | refine Ext.alloc ?_ _ | refine Ext.drew ?_ | refine Ext.drewN ?_ _ | refine Ext.setCell ?_ (by simp) _ | refine Ext.setCell ?_ (by simp; omega) _ | refine Ext.trans ?_ (by assumption))); done)
        have hxx : Ext wx Wv2 := by ((repeat (first | assumption | exact Ext.refl _ | (exact And.left (by assumption)) | refine Ext.alloc ?_ _ | refine Ext.drew ?_ | refine Ext.drewN ?_ _ | refine Ext.setCell ?_ (by simp) _ | refine Ext.setCell ?_ (by simp; omega) _ | refine Ext.trans ?_ (by assumption))); done)
        have hR3 : NewRow (Wv2.alloc (.cells #[.int .i64 xf.func, .int .i64 xf.at_, .slice a91 xf.locals.length cap91, .slice a92 xf.stack.length cap92] 43)) Wv3 (f5 + 1) 4 (.slice ay Y.fr.length cy) (.slice a93 (Y.fr.length + 1) cap93) (Y.fr.length + 1) (Y.fr.flatMap frameF ++ [.int .i64 xf.func, .int .i64 xf.at_, .slice a91 xf.locals.length cap91, .slice a92 xf.stack.length cap92]) := RV3.out
        have hcg : Chg (fun k => rowBlock (.slice ay Y.fr.length cy) = some k) (Wv2.alloc (.cells #[.int .i64 xf.func, .int .i64 xf.at_, .slice a91 xf.locals.length cap91, .slice a92 xf.stack.length cap92] 43)) Wv3 := hR3.2.1
        have hS9 := cells5_chg (S6 _ (by ((repeat (first | assumption | exact Ext.refl _ | (exact And.left (by assumption)) | refine Ext.alloc ?_ _ | refine Ext.drew ?_ | refine Ext.drewN ?_ _ | refine Ext.setCell ?_ (by simp) _ | refine Ext.setCell ?_ (by simp; omega) _ | refine Ext.trans ?_ (by assumption))); done))) hcg HNF5.out HNX7.out
        have HS9 := Lib.hid hS9
        have hc5 := ((hyc.ext hxx).ext ((Ext.refl _).alloc (.cells #[.int .i64 xf.func, .int .i64 xf.at_, .slice a91 xf.locals.length cap91, .slice a92 xf.stack.length cap92] 43))).chg hcg HNF5.out
        obtain ⟨c5, c5'⟩ := hc5
        have HR3 := Lib.hid hR3
        clear hR3 hcg
        refine nextA_go HS9.out ?_
        refine wpAnyW_one 17 (by kernel_rfl) rfl ?_
        go_wp2_with fail
        refine nextA_go HS9.out ?_
        refine wpAnyW_one 18 (by kernel_rfl) rfl ?_
        go_wp2_with fail
        refine nextA_end rfl (by kernel_rfl) ?_
        go_wp2_with fail
        have hR1 := RV1.out
        have hR2 := RV2.out
        have hb1 := HA1.out
        have hb2 := HA2.out
        have hb3 := HA3.out
        simp only [Nat.zero_add, List.nil_append] at hR1 hR2 hb1 hb2 hb3
        have hfin := frame_fin (HYW.out) HEX2.out hxx h12 (Nat.lt_succ_self f5) hR1.1 hR2.1 hb1 hb2 hb3 HIL.out hl9 hs9 (by rw [HEY.out]; exact HR3.out) (by omega)
        go_roundw
        case rel => exact ⟨i + 1, _, by omega, by go_num, fin_ext (HRY.out) HEW.out ((HEX2.out.trans hxx).alloc _) HF5.out HR3.out, hfin, by rw [HGD4.out]; exact frame_g HYG.out⟩
        case measure => simp [intOf]; omega
       ·go_wp2_with fail
        refine nextA_go (S6 _ (by ((repeat (first | assumption | exact Ext.refl _ | (exact And.left (by assumption)) | refine Ext.alloc ?_ _ | refine Ext.drew ?_ | refine Ext.drewN ?_ _ | refine Ext.setCell ?_ (by simp) _ | refine Ext.setCell ?_ (by simp; omega) _ | refine Ext.trans ?_ (by assumption))); done))) ?_
        refine wpAnyW_one 9 (by kernel_rfl) rfl ?_
        refine wpList_append_row rfl _ _ 24 rfl (f5 + 1) 3 i0 (.int .i64 0) 1 8 Tryz.underlying24 hi0 hz0 hz1 hz2 rfl (by decide) _ _ _ rfl (RowAt.nil _ _ _ _) xf.locals.length (ints xf.locals) (SrcSl.up HSL.out (HEX.out.trans (by ((repeat (first | assumption | exact Ext.refl _ | (exact And.left (by assumption)) | refine Ext.alloc ?_ _ | refine Ext.drew ?_ | refine Ext.drewN ?_ _ | refine Ext.setCell ?_ (by simp) _ | refine Ext.setCell ?_ (by simp; omega) _ | refine Ext.trans ?_ (by assumption))); done)))) (by unfold maxLen; omega) (by omega) (by exact Nat.le_trans HB6.out (Ext.size (show Ext wr _ from (by ((repeat (first | assumption | exact Ext.refl _ | (exact And.left (by assumption)) | refine Ext.alloc ?_ _ | refine Ext.drew ?_ | refine Ext.drewN ?_ _ | refine Ext.setCell ?_ (by simp) _ | refine Ext.setCell ?_ (by simp; omega) _ | refine Ext.trans ?_ (by assumption))); done))))) ?_
        intro v1 Wv1 rv1
        have RV1 := Lib.hid rv1
        have HA1 := Lib.hid (fresh_row rv1 (show Ext wx _ from (by ((repeat (first | assumption | exact Ext.refl _ | (exact And.left (by assumption)) | refine Ext.alloc ?_ _ | refine Ext.drew ?_ | refine Ext.drewN ?_ _ | refine Ext.setCell ?_ (by simp) _ | refine Ext.setCell ?_ (by simp; omega) _ | refine Ext.trans ?_ (by assumption))); done))))
        have hxv1 := rv_ext rv1
        obtain ⟨a91, cap91, rfl, _, _⟩ := rv1.1.shape
        clear rv1
        go_wp2_with fail
        refine nextA_go (S6 Wv1 (by ((repeat (first | assumption | exact Ext.refl _ | (exact And.left (by assumption)) | refine Ext.alloc ?_ _ | refine Ext.drew ?_ | refine Ext.drewN ?_ _ | refine Ext.setCell ?_ (by simp) _ | refine Ext.setCell ?_ (by simp; omega) _ | refine Ext.trans ?_ (by assumption))); done))) ?_
        refine wpAnyW_one 13 (by kernel_rfl) rfl ?_
        refine wpList_append_row rfl _ _ 24 rfl (f5 + 1) 3 i0 (.int .i64 0) 1 8 Tryz.underlying24 hi0 hz0 hz1 hz2 rfl (by decide) _ _ _ rfl (RowAt.nil _ _ _ _) xf.stack.length (ints xf.stack) (SrcSl.up HSS.out (HEX.out.trans (by ((repeat (first | assumption | exact Ext.refl _ | (exact And.left (by assumption)) | refine Ext.alloc ?_ _ | refine Ext.drew ?_ | refine Ext.drewN ?_ _ | refine Ext.setCell ?_ (by simp) _ | refine Ext.setCell ?_ (by simp; omega) _ | refine Ext.trans ?_ (by assumption))); done)))) (by unfold maxLen; omega) (by omega) (by exact Nat.le_trans HB6.out (Ext.size (show Ext wr _ from (by ((repeat (first | assumption | exact Ext.refl _ | (exact And.left (by assumption)) | refine Ext.alloc ?_ _ | refine Ext.drew ?_ | refine Ext.drewN ?_ _ | refine Ext.setCell ?_ (by simp) _ | refine Ext.setCell ?_ (by simp; omega) _ | refine Ext.trans ?_ (by assumption))); done))))) ?_
        intro v2 Wv2 rv2
        have RV2 := Lib.hid rv2
        have HA2 := Lib.hid (fresh_row rv2 (show Ext wx _ from (by ((repeat (first | assumption | exact Ext.refl _ | (exact And.left (by assumption)) | refine Ext.alloc ?_ _ | refine Ext.drew ?_ | refine Ext.drewN ?_ _ | refine Ext.setCell ?_ (by simp) _ | refine Ext.setCell ?_ (by simp; omega) _ | refine Ext.trans ?_ (by assumption))); done))))
        have HA3 := Lib.hid (fresh_row rv2 (show Ext Wv1 _ from (by ((repeat (first | assumption | exact Ext.refl _ | (exact And.left (by assumption)) | refine Ext.alloc ?_ _ | refine Ext.drew ?_ | refine Ext.drewN ?_ _ | refine Ext.setCell ?_ (by simp) _ | refine Ext.setCell ?_ (by simp; omega) _ | refine Ext.trans ?_ (by assumption))); done))))
        have hxv2 := rv_ext rv2
        obtain ⟨a92, cap92, rfl, _, _⟩ := rv2.1.shape
        clear rv2
        go_wp2_with fail
        refine nextA_go (S6 Wv2 (by ((repeat (first | assumption | exact Ext.refl _ | (exact And.left (by assumption)) | refine Ext.alloc ?_ _ | refine Ext.drew ?_ | refine Ext.drewN ?_ _ | refine Ext.setCell ?_ (by simp) _ | refine Ext.setCell ?_ (by simp; omega) _ | refine Ext.trans ?_ (by assumption))); done))) ?_
        refine wpAnyW_one 14 (by kernel_rfl) rfl ?_
        go_wp2_with fail
        refine nextA_go (S6 Wv2 (by ((repeat (first | assumption | exact Ext.refl _ | (exact And.left (by assumption)) | refine Ext.alloc ?_ _ | refine Ext.drew ?_ | refine Ext.drewN ?_ _ | refine Ext.setCell ?_ (by simp) _ | refine Ext.setCell ?_ (by simp; omega) _ | refine Ext.trans ?_ (by assumption))); done))) ?_
        refine wpAnyW_one 15 (by kernel_rfl) rfl ?_
        go_wp2_with fail
        refine nextA_go (S6 _ (by ((repeat (first | assumption | exact Ext.refl _ | (exact And.left (by assumption)) | refine Ext.alloc ?_ _ | refine Ext.drew ?_ | refine Ext.drewN ?_ _ | refine Ext.setCell ?_ (by simp) _ | refine Ext.setCell ?_ (by simp; omega) _ | refine Ext.trans ?_ (by assumption))); done))) ?_
        refine wpAnyW_one 16 (by kernel_rfl) rfl ?_
        refine wpList_append_row rfl _ _ 39 rfl (f5 + 1) 43 i1 (.agg #[.int .i64 0, .int .i64 0, .slice none 0 0, .slice none 0 0]) 4 64 Tryz.underlying39 hi1 hz3 hz4 hz5 rfl (by decide) _ _ _ rfl (HRY.out.ext (show Ext wr _ from (by ((repeat (first | assumption | exact Ext.refl _ | (exact And.left (by assumption)) | refine Ext.alloc ?_ _ | refine Ext.drew ?_ | refine Ext.drewN ?_ _ | refine Ext.setCell ?_ (by simp) _ | refine Ext.setCell ?_ (by simp; omega) _ | refine Ext.trans ?_ (by assumption))); done))) (by decide)) 1 _ (src_cells _ _ 4 rfl (by simp [Value.oneCell']) _) (by unfold maxLen; omega) (by omega) (by exact Nat.le_trans HB6.out (Ext.size (show Ext wr _ from (by ((repeat (first | assumption | exact Ext.refl _ | (exact And.left (by assumption)) | refine Ext.alloc ?_ _ | refine Ext.drew ?_ | refine Ext.drewN ?_ _ | refine Ext.setCell ?_ (by simp) _ | refine Ext.setCell ?_ (by simp; omega) _ | refine Ext.trans ?_ (by assumption))); done))))) ?_
        intro v3 Wv3 rv3
        have RV3 := Lib.hid rv3
        obtain ⟨a93, cap93, rfl, _, _⟩ := rv3.1.shape
        clear rv3
        go_wp2_with fail
        have h12 : Ext Wv1 Wv2 := by ((repeat (first | assumption | exact Ext.refl _ | (exact And.left (by assumption)) | refine Ext.alloc ?_ _ | refine Ext.drew ?_ | refine Ext.drewN ?_ _ | refine Ext.setCell ?_ (by simp) _ | refine Ext.setCell ?_ (by simp; omega) _ | refine Ext.trans ?_ (by assumption))); done)
        have hxx : Ext wx Wv2 := by ((repeat (first | assumption | exact Ext.refl _ | (exact And.left (by assumption)) | refine Ext.alloc ?_ _ | refine Ext.drew ?_ | refine Ext.drewN ?_ _ | refine Ext.setCell ?_ (by simp) _ | refine Ext.setCell ?_ (by simp; omega) _ | refine Ext.trans ?_ (by assumption))); done)
        have hR3 : NewRow (Wv2.alloc (.cells #[.int .i64 xf.func, .int .i64 xf.at_, .slice a91 xf.locals.length cap91, .slice a92 xf.stack.length cap92] 43)) Wv3 (f5 + 1) 4 (.slice ay Y.fr.length cy) (.slice a93 (Y.fr.length + 1) cap93) (Y.fr.length + 1) (Y.fr.flatMap frameF ++ [.int .i64 xf.func, .int .i64 xf.at_, .slice a91 xf.locals.length cap91, .slice a92 xf.stack.length cap92]) := RV3.out
        have hcg : Chg (fun k => rowBlock (.slice ay Y.fr.length cy) = some k) (Wv2.alloc (.cells #[.int .i64 xf.func, .int .i64 xf.at_, .slice a91 xf.locals.length cap91, .slice a92 xf.stack.length cap92] 43)) Wv3 := hR3.2.1
        have hS9 := cells5_chg (S6 _ (by ((repeat (first | assumption | exact Ext.refl _ | (exact And.left (by assumption)) | refine Ext.alloc ?_ _ | refine Ext.drew ?_ | refine Ext.drewN ?_ _ | refine Ext.setCell ?_ (by simp) _ | refine Ext.setCell ?_ (by simp; omega) _ | refine Ext.trans ?_ (by assumption))); done))) hcg HNF5.out HNX7.out
        have HS9 := Lib.hid hS9
        have hc5 := ((hyc.ext hxx).ext ((Ext.refl _).alloc (.cells #[.int .i64 xf.func, .int .i64 xf.at_, .slice a91 xf.locals.length cap91, .slice a92 xf.stack.length cap92] 43))).chg hcg HNF5.out
        obtain ⟨c5, c5'⟩ := hc5
        have HR3 := Lib.hid hR3
        clear hR3 hcg
        refine nextA_go HS9.out ?_
        refine wpAnyW_one 17 (by kernel_rfl) rfl ?_
        go_wp2_with fail
        refine nextA_go HS9.out ?_
        refine wpAnyW_one 18 (by kernel_rfl) rfl ?_
        go_wp2_with fail
        refine nextA_end rfl (by kernel_rfl) ?_
        go_wp2_with fail
        have hR1 := RV1.out
        have hR2 := RV2.out
        have hb1 := HA1.out
        have hb2 := HA2.out
        have hb3 := HA3.out
        simp only [Nat.zero_add, List.nil_append] at hR1 hR2 hb1 hb2 hb3
        have hfin := frame_fin (HYW.out) HEX2.out hxx h12 (Nat.lt_succ_self f5) hR1.1 hR2.1 hb1 hb2 hb3 HIL.out hl9 hs9 (by rw [HEY.out]; exact HR3.out) (by omega)
        go_roundw
        case rel => exact ⟨i + 1, _, by omega, by go_num, fin_ext (HRY.out) HEW.out ((HEX2.out.trans hxx).alloc _) HF5.out HR3.out, hfin, by rw [HGD4.out]; exact frame_g HYG.out⟩
        case measure => simp [intOf]; omega
      ·go_wp2_with fail
       refine nextA_go (S6 _ (by ((repeat (first | assumption | exact Ext.refl _ | (exact And.left (by assumption)) | refine Ext.alloc ?_ _ | refine Ext.drew ?_ | refine Ext.drewN ?_ _ | refine Ext.setCell ?_ (by simp) _ | refine Ext.setCell ?_ (by simp; omega) _ | refine Ext.trans ?_ (by assumption))); done))) ?_
       refine wpAnyW_one 6 (by kernel_rfl) rfl ?_
       go_wp2_with fail
       refine nextA_go (S6 _ (by ((repeat (first | assumption | exact Ext.refl _ | (exact And.left (by assumption)) | refine Ext.alloc ?_ _ | refine Ext.drew ?_ | refine Ext.drewN ?_ _ | refine Ext.setCell ?_ (by simp) _ | refine Ext.setCell ?_ (by simp; omega) _ | refine Ext.trans ?_ (by assumption))); done))) ?_
       refine wpAnyW_one 9 (by kernel_rfl) rfl ?_
       refine wpList_append_row rfl _ _ 24 rfl (f5 + 1) 3 i0 (.int .i64 0) 1 8 Tryz.underlying24 hi0 hz0 hz1 hz2 rfl (by decide) _ _ _ rfl (RowAt.nil _ _ _ _) xf.locals.length (ints xf.locals) (SrcSl.up HSL.out (HEX.out.trans (by ((repeat (first | assumption | exact Ext.refl _ | (exact And.left (by assumption)) | refine Ext.alloc ?_ _ | refine Ext.drew ?_ | refine Ext.drewN ?_ _ | refine Ext.setCell ?_ (by simp) _ | refine Ext.setCell ?_ (by simp; omega) _ | refine Ext.trans ?_ (by assumption))); done)))) (by unfold maxLen; omega) (by omega) (by exact Nat.le_trans HB6.out (Ext.size (show Ext wr _ from (by ((repeat (first | assumption | exact Ext.refl _ | (exact And.left (by assumption)) | refine Ext.alloc ?_ _ | refine Ext.drew ?_ | refine Ext.drewN ?_ _ | refine Ext.setCell ?_ (by simp) _ | refine Ext.setCell ?_ (by simp; omega) _ | refine Ext.trans ?_ (by assumption))); done))))) ?_
       intro v1 Wv1 rv1
       have RV1 := Lib.hid rv1
       have HA1 := Lib.hid (fresh_row rv1 (show Ext wx _ from (by ((repeat (first | assumption | exact Ext.refl _ | (exact And.left (by assumption)) | refine Ext.alloc ?_ _ | refine Ext.drew ?_ | refine Ext.drewN ?_ _ | refine Ext.setCell ?_ (by simp) _ | refine Ext.setCell ?_ (by simp; omega) _ | refine Ext.trans ?_ (by assumption))); done))))
       have hxv1 := rv_ext rv1
       obtain ⟨a91, cap91, rfl, _, _⟩ := rv1.1.shape
       clear rv1
       go_wp2_with fail
       refine nextA_go (S6 Wv1 (by ((repeat (first | assumption | exact Ext.refl _ | (exact And.left (by assumption)) | refine Ext.alloc ?_ _ | refine Ext.drew ?_ | refine Ext.drewN ?_ _ | refine Ext.setCell ?_ (by simp) _ | refine Ext.setCell ?_ (by simp; omega) _ | refine Ext.trans ?_ (by assumption))); done))) ?_
       refine wpAnyW_one 13 (by kernel_rfl) rfl ?_
       refine wpList_append_row rfl _ _ 24 rfl (f5 + 1) 3 i0 (.int .i64 0) 1 8 Tryz.underlying24 hi0 hz0 hz1 hz2 rfl (by decide) _ _ _ rfl (RowAt.nil _ _ _ _) xf.stack.length (ints xf.stack) (SrcSl.up HSS.out (HEX.out.trans (by ((repeat (first | assumption | exact Ext.refl _ | (exact And.left (by assumption)) | refine Ext.alloc ?_ _ | refine Ext.drew ?_ | refine Ext.drewN ?_ _ | refine Ext.setCell ?_ (by simp) _ | refine Ext.setCell ?_ (by simp; omega) _ | refine Ext.trans ?_ (by assumption))); done)))) (by unfold maxLen; omega) (by omega) (by exact Nat.le_trans HB6.out (Ext.size (show Ext wr _ from (by ((repeat (first | assumption | exact Ext.refl _ | (exact And.left (by assumption)) | refine Ext.alloc ?_ _ | refine Ext.drew ?_ | refine Ext.drewN ?_ _ | refine Ext.setCell ?_ (by simp) _ | refine Ext.setCell ?_ (by simp; omega) _ | refine Ext.trans ?_ (by assumption))); done))))) ?_
       intro v2 Wv2 rv2
       have RV2 := Lib.hid rv2
       have HA2 := Lib.hid (fresh_row rv2 (show Ext wx _ from (by ((repeat (first | assumption | exact Ext.refl _ | (exact And.left (by assumption)) | refine Ext.alloc ?_ _ | refine Ext.drew ?_ | refine Ext.drewN ?_ _ | refine Ext.setCell ?_ (by simp) _ | refine Ext.setCell ?_ (by simp; omega) _ | refine Ext.trans ?_ (by assumption))); done))))
       have HA3 := Lib.hid (fresh_row rv2 (show Ext Wv1 _ from (by ((repeat (first | assumption | exact Ext.refl _ | (exact And.left (by assumption)) | refine Ext.alloc ?_ _ | refine Ext.drew ?_ | refine Ext.drewN ?_ _ | refine Ext.setCell ?_ (by simp) _ | refine Ext.setCell ?_ (by simp; omega) _ | refine Ext.trans ?_ (by assumption))); done))))
       have hxv2 := rv_ext rv2
       obtain ⟨a92, cap92, rfl, _, _⟩ := rv2.1.shape
       clear rv2
       go_wp2_with fail
       refine nextA_go (S6 Wv2 (by ((repeat (first | assumption | exact Ext.refl _ | (exact And.left (by assumption)) | refine Ext.alloc ?_ _ | refine Ext.drew ?_ | refine Ext.drewN ?_ _ | refine Ext.setCell ?_ (by simp) _ | refine Ext.setCell ?_ (by simp; omega) _ | refine Ext.trans ?_ (by assumption))); done))) ?_
       refine wpAnyW_one 14 (by kernel_rfl) rfl ?_
       go_wp2_with fail
       refine nextA_go (S6 Wv2 (by ((repeat (first | assumption | exact Ext.refl _ | (exact And.left (by assumption)) | refine Ext.alloc ?_ _ | refine Ext.drew ?_ | refine Ext.drewN ?_ _ | refine Ext.setCell ?_ (by simp) _ | refine Ext.setCell ?_ (by simp; omega) _ | refine Ext.trans ?_ (by assumption))); done))) ?_
       refine wpAnyW_one 15 (by kernel_rfl) rfl ?_
       go_wp2_with fail
       refine nextA_go (S6 _ (by ((repeat (first | assumption | exact Ext.refl _ | (exact And.left (by assumption)) | refine Ext.alloc ?_ _ | refine Ext.drew ?_ | refine Ext.drewN ?_ _ | refine Ext.setCell ?_ (by simp) _ | refine Ext.setCell ?_ (by simp; omega) _ | refine Ext.trans ?_ (by assumption))); done))) ?_
       refine wpAnyW_one 16 (by kernel_rfl) rfl ?_
       refine wpList_append_row rfl _ _ 39 rfl (f5 + 1) 43 i1 (.agg #[.int .i64 0, .int .i64 0, .slice none 0 0, .slice none 0 0]) 4 64 Tryz.underlying39 hi1 hz3 hz4 hz5 rfl (by decide) _ _ _ rfl (HRY.out.ext (show Ext wr _ from (by ((repeat (first | assumption | exact Ext.refl _ | (exact And.left (by assumption)) | refine Ext.alloc ?_ _ | refine Ext.drew ?_ | refine Ext.drewN ?_ _ | refine Ext.setCell ?_ (by simp) _ | refine Ext.setCell ?_ (by simp; omega) _ | refine Ext.trans ?_ (by assumption))); done))) (by decide)) 1 _ (src_cells _ _ 4 rfl (by simp [Value.oneCell']) _) (by unfold maxLen; omega) (by omega) (by exact Nat.le_trans HB6.out (Ext.size (show Ext wr _ from (by ((repeat (first | assumption | exact Ext.refl _ | (exact And.left (by assumption)) | refine Ext.alloc ?_ _ | refine Ext.drew ?_ | refine Ext.drewN ?_ _ | refine Ext.setCell ?_ (by simp) _ | refine Ext.setCell ?_ (by simp; omega) _ | refine Ext.trans ?_ (by assumption))); done))))) ?_
       intro v3 Wv3 rv3
       have RV3 := Lib.hid rv3
       obtain ⟨a93, cap93, rfl, _, _⟩ := rv3.1.shape
       clear rv3
       go_wp2_with fail
       have h12 : Ext Wv1 Wv2 := by ((repeat (first | assumption | exact Ext.refl _ | (exact And.left (by assumption)) | refine Ext.alloc ?_ _ | refine Ext.drew ?_ | refine Ext.drewN ?_ _ | refine Ext.setCell ?_ (by simp) _ | refine Ext.setCell ?_ (by simp; omega) _ | refine Ext.trans ?_ (by assumption))); done)
       have hxx : Ext wx Wv2 := by ((repeat (first | assumption | exact Ext.refl _ | (exact And.left (by assumption)) | refine Ext.alloc ?_ _ | refine Ext.drew ?_ | refine Ext.drewN ?_ _ | refine Ext.setCell ?_ (by simp) _ | refine Ext.setCell ?_ (by simp; omega) _ | refine Ext.trans ?_ (by assumption))); done)
       have hR3 : NewRow (Wv2.alloc (.cells #[.int .i64 xf.func, .int .i64 xf.at_, .slice a91 xf.locals.length cap91, .slice a92 xf.stack.length cap92] 43)) Wv3 (f5 + 1) 4 (.slice ay Y.fr.length cy) (.slice a93 (Y.fr.length + 1) cap93) (Y.fr.length + 1) (Y.fr.flatMap frameF ++ [.int .i64 xf.func, .int .i64 xf.at_, .slice a91 xf.locals.length cap91, .slice a92 xf.stack.length cap92]) := RV3.out
       have hcg : Chg (fun k => rowBlock (.slice ay Y.fr.length cy) = some k) (Wv2.alloc (.cells #[.int .i64 xf.func, .int .i64 xf.at_, .slice a91 xf.locals.length cap91, .slice a92 xf.stack.length cap92] 43)) Wv3 := hR3.2.1
       have hS9 := cells5_chg (S6 _ (by ((repeat (first | assumption | exact Ext.refl _ | (exact And.left (by assumption)) | refine Ext.alloc ?_ _ | refine Ext.drew ?_ | refine Ext.drewN ?_ _ | refine Ext.setCell ?_ (by simp) _ | refine Ext.setCell ?_ (by simp; omega) _ | refine Ext.trans ?_ (by assumption))); done))) hcg HNF5.out HNX7.out
       have HS9 := Lib.hid hS9
       have hc5 := ((hyc.ext hxx).ext ((Ext.refl _).alloc (.cells #[.int .i64 xf.func, .int .i64 xf.at_, .slice a91 xf.locals.length cap91, .slice a92 xf.stack.length cap92] 43))).chg hcg HNF5.out
       obtain ⟨c5, c5'⟩ := hc5
       have HR3 := Lib.hid hR3
       clear hR3 hcg
       refine nextA_go HS9.out ?_
       refine wpAnyW_one 17 (by kernel_rfl) rfl ?_
       go_wp2_with fail
       refine nextA_go HS9.out ?_
       refine wpAnyW_one 18 (by kernel_rfl) rfl ?_
       go_wp2_with fail
       refine nextA_end rfl (by kernel_rfl) ?_
       go_wp2_with fail
       have hR1 := RV1.out
       have hR2 := RV2.out
       have hb1 := HA1.out
       have hb2 := HA2.out
       have hb3 := HA3.out
       simp only [Nat.zero_add, List.nil_append] at hR1 hR2 hb1 hb2 hb3
       have hfin := frame_fin (HYW.out) HEX2.out hxx h12 (Nat.lt_succ_self f5) hR1.1 hR2.1 hb1 hb2 hb3 HIL.out hl9 hs9 (by rw [HEY.out]; exact HR3.out) (by omega)
       go_roundw
       case rel => exact ⟨i + 1, _, by omega, by go_num, fin_ext (HRY.out) HEW.out ((HEX2.out.trans hxx).alloc _) HF5.out HR3.out, hfin, by rw [HGD4.out]; exact frame_g HYG.out⟩
       case measure => simp [intOf]; omega
     ·obtain rfl : i = fb.frames.length := by omega
      have hyg := HYG.out
      rw [List.take_length] at hyg
      obtain ⟨av, cv, ev, hcv, hmv⟩ := (HOK.out).row.shape
      obtain ⟨ay, cy, ey, hcy, hmy⟩ := (HYW.out).fo.row.shape
      obtain ⟨z0, z0'⟩ := (HOK.out).c0.ext HEKW.out
      obtain ⟨y0, y0'⟩ := (HYW.out).c0
      obtain ⟨y1, y1'⟩ := (HYW.out).c1
      rw [ev] at z0
      rw [ey] at y0
      have HEV := Lib.hid ev
      have HEY := Lib.hid ey
      have HRK : Hid (RowAt wk w1.heap.size 2 (.slice av P.fs.length cv) P.fs.length (P.fs.flatMap fiberF)) := by unfold Hid; rw [← ev]; exact (HOK.out).row
      have hl9 : P.fs.length ≤ 900 := by
       have h1 := congrArg (fun g => g.fibers.length) HGK.out
       simp only [PState.g, List.length_map, List.length_take] at h1
       omega
      have HBK : Hid (w1.heap.size ≤ wr.heap.size) := (HEK.out.trans HEKW.out).size
      have HNO : Hid (¬ rowBlock (.slice av P.fs.length cv) = some o3) := fun e => (HOK.out).dis.1 (PState.mem_vfs (by rw [HEV.out]; exact e))
      clear ev ey hlt2 hi
      go_wp2_with (first
       | (at_builtin; refine wpList_append_row rfl _ _ 23 rfl w1.heap.size 41 i2 (.agg #[.slice none 0 0, .int .i64 0]) 2 32 Tryz.underlying23 hi2 hz6 hz7 hz8 rfl (by decide) _ _ _ rfl (by exact (HRK.out.ext (HEKW.out.alloc _) (by decide))) 1 _ (by exact src_cells _ _ 2 rfl (by simp [Value.oneCell']) _) (by unfold maxLen; omega) (by omega) (by exact Nat.le_trans HBK.out (Ext.size ((Ext.refl _).alloc _))) ?_; intro v1 Wv1 rv1; have RV := Lib.hid rv1; obtain ⟨q0, q0'⟩ := ((HOK.out).c0.ext (HEKW.out.alloc (.cells #[.slice ay Y.fr.length cy, .int .i64 Y.caller] 41))).chg rv1.2.1 HNO.out; obtain ⟨a9, cap9, rfl, _, _⟩ := rv1.1.shape; clear rv1))
      have hR : NewRow (wr.alloc (.cells #[.slice ay Y.fr.length cy, .int .i64 Y.caller] 41)) Wv1 w1.heap.size 2 (.slice av P.fs.length cv) (.slice a9 (P.fs.length + 1) cap9) (P.fs.length + 1) (P.fs.flatMap fiberF ++ [.slice ay Y.fr.length cy, .int .i64 Y.caller]) := RV.out
      have hfin := fiber_fin (HOK.out) (HYW.out) HF5.out HEKW.out 41 (by rw [HEV.out, HEY.out]; exact hR) (by omega)
      go_roundw
      case rel => exact ⟨k + 1, _, by omega, by go_num, (Chg.ext_from (HEK.out.trans (HEKW.out.alloc _)) hR.2.1 (fun g e => HRK.out.le g e)).setCell (p := ⟨o3, 0, none⟩) (HOK.out).le _, hfin, by rw [HGD.out]; exact fiber_g HGK.out hyg⟩
      case measure => simp [intOf]; omega
   ·obtain rfl : k = fs.length := by omega
    have hg2 := HGK.out
    rw [List.take_length] at hg2
    obtain ⟨z0, z0'⟩ := (HOK.out).c0
    obtain ⟨z1, z1'⟩ := (HOK.out).c1
    obtain ⟨z2, z2'⟩ := (HOK.out).c2
    have hR := HR1.out
    obtain ⟨r0, r0'⟩ := (hR.1).ext HEK.out
    obtain ⟨r1, r1'⟩ := (hR.2.1).ext HEK.out
    obtain ⟨r2, r2'⟩ := (hR.2.2).ext HEK.out
    obtain ⟨av, cv, ev, _, _⟩ := (HOK.out).row.shape
    obtain ⟨ao9, co9, eo, _, _⟩ := (HOK.out).out.shape
    rw [ev] at z0
    rw [eo] at z2
    have HEV := Lib.hid ev
    have HEO := Lib.hid eo
    clear hR hlt ev eo
    go_wp2_with fail
    refine bodyPost_ret (results_cell_mid rfl _ _ (w.heap.size + 1) 0 _ _ rfl (box3 ⟨r0, r0'⟩ ⟨r1, r1'⟩ ⟨r2, r2'⟩ _ _ _) rfl rfl (by kernel_rfl)) rfl ?_
    have hlt9 := (HOK.out).rows.lt
    refine ⟨⟨P, by rw [HEV.out, HEO.out], ?_, hg2⟩, (((HE1.out.trans HEK.out).setCell (p := ⟨w.heap.size + 1, 0, none⟩) (Nat.le_succ _) _).setCell (p := ⟨w.heap.size + 1, 1, none⟩) (Nat.le_succ _) _).setCell (p := ⟨w.heap.size + 1, 2, none⟩) (Nat.le_succ _) _⟩
    have hO9 := (HOK.out).chg (chg3 wk (w.heap.size + 1) (.slice av P.fs.length cv) (.int .i64 P.now) (.slice ao9 P.out.length co9)) (fun e => by have h1 := (HOK.out).le; have h2 := HBS.out; have h3 : o3 = w.heap.size + 1 := e; omega) (fun g hg e => by have h1 := (HOK.out).ge g (List.mem_cons_of_mem _ hg); have h2 := HBS.out; have h3 : g = w.heap.size + 1 := e; omega)
    exact hO9.rows.mono (by have h2 := HBS.out; omega)
end Go.Proofs.YtgahbngbpfilgaaGreat
end
section
set_option maxHeartbeats 4000000
set_option maxRecDepth 100000
namespace Go.Proofs.YtgahbngbpfilgaaGreat
open Go Go.RowKit
def stepG (p : List GFunc) (s : GState) : Int × GState := if s.now < 0 then (8, ⟨[], 0, []⟩) else if (doneG p s).1 = 0 then (0, (doneG p s).2) else ((doneG p s).1, ⟨[], 0, []⟩)
theorem StateV.few {w : World} {S : Nat → Prop} {v : Value} {s : GState} (h : StateV w S v s) : ∃ a c b d, v = .agg #[.slice a s.fibers.length c, .int .i64 s.now, .slice b s.out.length d] := by
 obtain ⟨x, y, rfl, ⟨a, c, rfl, _⟩, _, ⟨b, d, rfl, _⟩⟩ := h
 exact ⟨a, c, b, d, rfl⟩
theorem OwnR.state {W : World} {B : Nat} {P : PState} (h : OwnR W B P) (S : Nat → Prop) (hS : ∀ g, B ≤ g → S g) : StateV W S (.agg #[P.vfs, .int .i64 P.now, P.vo]) P.g := by
 have f := h.few
 refine ⟨_, _, rfl, Sl.map' PFiber.g (Sl.of_row fiberF h.row (fun _ => rfl) (by omega) fun b o y hb _ hy hc => ?_), h.i.1, Ints.of_row (by rw [flatMap_intF]; exact h.out) (show P.out.length * 8 ≤ _ by omega) h.i.2 S (fun b hb _ => hS b hb)⟩
 have hy' := h.fs y hy
 exact ⟨⟨_, hc 0 _ rfl, hy'.frames S hS⟩, hS b hb, hc 1 _ rfl, hy'.i⟩
theorem OwnR.chg {M : Nat → Prop} {W W' : World} {B : Nat} {P : PState} (h : OwnR W B P) (hc : Chg M W W') (hM : ∀ g ∈ P.bl, ¬ M g) : OwnR W' B P :=
 ⟨h.i, h.row.chg hc (fun g e => hM g (PState.mem_vfs e)) (by decide), h.out.chg hc (fun g e => hM g (PState.mem_vo e)) (by decide), fun y hy => (h.fs y hy).chg hc (fun g hg => hM g (PState.mem_fs hy hg)), h.few, h.nodup⟩
theorem OwnR.ge {W : World} {B : Nat} {P : PState} (h : OwnR W B P) : ∀ g ∈ P.bl, B ≤ g := by
 intro g hg
 unfold PState.bl at hg
 rcases List.mem_append.1 hg with h1 | h1
 ·rcases List.mem_append.1 h1 with h2 | h2
  ·exact h.row.le g (by simpa using h2)
  ·exact h.out.le g (by simpa using h2)
 ·obtain ⟨y, hy, h2⟩ := List.mem_flatMap.1 h1
  unfold PFiber.bl at h2
  rcases List.mem_append.1 h2 with h3 | h3
  ·exact (h.fs y hy).row.le g (by simpa using h3)
  ·obtain ⟨x, hx, h4⟩ := List.mem_flatMap.1 h3
   unfold PFrame.bl at h4
   rcases List.mem_append.1 h4 with h5 | h5
   ·exact ((h.fs y hy).fr x hx).l.le g (by simpa using h5)
   ·exact ((h.fs y hy).fr x hx).s.le g (by simpa using h5)
def StateO (W : World) (B : Nat) (x : Value) (s : GState) : Prop := ∃ P, x = .agg #[P.vfs, .int .i64 P.now, P.vo] ∧ OwnR W B P ∧ P.g = s
theorem StateO.state {W : World} {B : Nat} {x : Value} {s : GState} (h : StateO W B x s) : StateV W (B ≤ ·) x s := by
 obtain ⟨P, rfl, h1, rfl⟩ := h
 exact h1.state _ (fun _ h => h)
theorem StateO.few {W : World} {B : Nat} {x : Value} {s : GState} (h : StateO W B x s) : ∃ a c b d, x = .agg #[.slice a s.fibers.length c, .int .i64 s.now, .slice b s.out.length d] := h.state.few
theorem StateO.chg {M : Nat → Prop} {W W' : World} {B : Nat} {x : Value} {s : GState} (h : StateO W B x s) (hc : Chg M W W') (hM : ∀ g, B ≤ g → ¬ M g) : StateO W' B x s := by
 obtain ⟨P, e, h1, h2⟩ := h
 exact ⟨P, e, h1.chg hc (fun g hg => hM g (h1.ge g hg)), h2⟩
theorem StateO.ext {W W' : World} {B : Nat} {x : Value} {s : GState} (h : StateO W B x s) (he : Ext W W') : StateO W' B x s := h.chg (M := fun _ => False) (Chg.of_ext he) (fun _ _ h => h)
theorem StateO.mono {W : World} {B B' : Nat} {x : Value} {s : GState} (h : StateO W B x s) (hb : B' ≤ B) : StateO W B' x s := by
 obtain ⟨P, e, h1, h2⟩ := h
 exact ⟨P, e, h1.mono hb, h2⟩
theorem stateO_nil (w : World) (B : Nat) : StateO w B (.agg #[.slice none 0 0, .int .i64 0, .slice none 0 0]) ⟨[], 0, []⟩ :=
 ⟨⟨[], 0, [], .slice none 0 0, .slice none 0 0⟩, rfl, ⟨⟨I64.zero, (fun n hn => by cases hn)⟩, RowAt.nil _ _ _ _, RowAt.nil _ _ _ _, (fun y hy => by cases hy), ⟨by show 0 ≤ 1000; omega, by show 0 ≤ 1000; omega⟩, by unfold PState.bl; simp [rowBlock]⟩, rfl⟩
theorem stays_below {S : Nat → Prop} {w w' : World} {B : Nat} (he : Ext w w') (hB : w.heap.size ≤ B) : Stays S (· < B) w w' := fun b o v _ hc => ⟨Ext.cell he hc, by have := lt_of_cell hc; show b < B; omega⟩
theorem stepped_any (p : List GFunc) (v : Value) (S T : Nat → Prop) (s : GState) (vs : Value) (w : World) (hp : Funcs w S v p) (hs : StateV w T vs s) (hf : FewS s) (hfit : s.now < 0 ∨ OpFit p s) :
  Calls Tryz.prog 35 #[v, vs] w fun e w' => (∃ x, e = .returned (.tuple #[x, .int .i64 (stepG p s).1]) ∧ StateO w' w.heap.size x (stepG p s).2) ∧ Ext w w' := by
 have HP := Lib.hid hp
 have HS := Lib.hid hs
 obtain ⟨a, c, b, d, rfl⟩ := hs.few
 obtain ⟨ap, cp, rfl, _, _, _⟩ := hp
 have RA := alloc_keep
 have c0 := Lib.hid (Cx.new (w.alloc (.cells #[.slice a s.fibers.length c, .int .i64 s.now, .slice b s.out.length d] 26)) [.slice none 0 0, .int .i64 0, .slice none 0 0] 26 (j := 0) rfl)
 have c1 := Lib.hid (Cx.new (w.alloc (.cells #[.slice a s.fibers.length c, .int .i64 s.now, .slice b s.out.length d] 26)) [.slice none 0 0, .int .i64 0, .slice none 0 0] 26 (j := 1) rfl)
 have c2 := Lib.hid (Cx.new (w.alloc (.cells #[.slice a s.fibers.length c, .int .i64 s.now, .slice b s.out.length d] 26)) [.slice none 0 0, .int .i64 0, .slice none 0 0] 26 (j := 2) rfl)
 have hs0 : (w.alloc (.cells #[.slice a s.fibers.length c, .int .i64 s.now, .slice b s.out.length d] 26)).heap.size = w.heap.size + 1 := Array.size_push _
 rw [hs0] at c0 c1 c2
 have HS0 := Lib.hid hs0
 clear hs0
 by_cases hn : s.now < 0
 ·have T1 : decide (s.now < 0) = true := decide_eq_true hn
  have HG : Hid (stepG p s = (8, ⟨[], 0, []⟩)) := by unfold Hid stepG; rw [if_pos hn]
  clear hn
  obtain ⟨⟨r0, r0'⟩, ⟨r1, r1'⟩, ⟨r2, r2'⟩⟩ := (⟨c0.out, c1.out, c2.out⟩ : _ ∧ _ ∧ _)
  go_enter Tryz.func35, Tryz.ntmps35
  go_wp2_with fail
  refine bodyPost_ret (results_cell2 rfl _ _ (w.heap.size + 1) 0 [.slice none 0 0, .int .i64 0, .slice none 0 0] _ rfl (range3 r0 r1 r2) rfl rfl (by kernel_rfl)) rfl ?_
  rw [HG.out]
  exact ⟨⟨_, rfl, stateO_nil _ _⟩, ((Ext.refl w).alloc _).alloc _⟩
 ·have T1 : decide (s.now < 0) = false := decide_eq_false hn
  have hfit := hfit.resolve_left hn
  have HFIT := Lib.hid hfit
  have HFEW := Lib.hid hf
  have HN := Lib.hid hn
  clear hf hn hfit
  have HE1 : Hid (Ext w ((w.alloc (.cells #[.slice a s.fibers.length c, .int .i64 s.now, .slice b s.out.length d] 26)).alloc (.cells #[.slice none 0 0, .int .i64 0, .slice none 0 0] 26))) := ((Ext.refl w).alloc _).alloc _
  have HS1 : Hid (((w.alloc (.cells #[.slice a s.fibers.length c, .int .i64 s.now, .slice b s.out.length d] 26)).alloc (.cells #[.slice none 0 0, .int .i64 0, .slice none 0 0] 26)).heap.size = w.heap.size + 2) := by unfold Hid; simp
  go_enter Tryz.func35, Tryz.ntmps35
  go_upto_region 4 with (first
   | (go_at_call 7; (with_reducible refine (ownState_any s _ T _ (StateV.stays (Ext.stays (by ((repeat (first | assumption | exact Ext.refl _ | (exact And.left (by assumption)) | refine Ext.alloc ?_ _ | refine Ext.drew ?_ | refine Ext.drewN ?_ _ | refine Ext.setCell ?_ (by simp) _ | refine Ext.setCell ?_ (by simp; omega) _ | refine Ext.trans ?_ (by assumption))); done))) HS.out) HFEW.out).mono ?_); rintro e w2 ⟨⟨P, rfl, hO, hg⟩, hx2⟩; obtain ⟨av, cv, ev, _, _⟩ := hO.row.shape; obtain ⟨ao, co, eo, _, _⟩ := hO.out.shape; rw [ev, eo]; have HO := Lib.hid hO; have HGP := Lib.hid hg; have HX2 := Lib.hid hx2; have HEV := Lib.hid ev; have HEO := Lib.hid eo; clear hO hg hx2 ev eo))
  have hO := HO.out
  rw [HS1.out] at hO
  have hb3 : OwnS (w2.alloc (.cells #[.slice av P.fs.length cv, .int .i64 P.now, .slice ao P.out.length co] 26)) (w.heap.size + 2) w2.heap.size P :=
   (hO.ext ((Ext.refl _).alloc _)).box (by rw [HEV.out]; exact Cx.new w2 [.slice av P.fs.length cv, .int .i64 P.now, .slice ao P.out.length co] _ (j := 0) rfl) (Cx.new w2 [.slice av P.fs.length cv, .int .i64 P.now, .slice ao P.out.length co] _ (j := 1) rfl) (by rw [HEO.out]; exact Cx.new w2 [.slice av P.fs.length cv, .int .i64 P.now, .slice ao P.out.length co] _ (j := 2) rfl)
    (by have := (HX2.out).size; have := HS1.out; omega) (fun hm => by have := hO.lt _ hm; omega)
  have HB3 := Lib.hid hb3
  have HE3 : Hid (Ext w (w2.alloc (.cells #[.slice av P.fs.length cv, .int .i64 P.now, .slice ao P.out.length co] 26))) := ((HE1.out).trans HX2.out).alloc _
  have HC3 := Lib.hid (⟨((c0.out).ext HX2.out).ext ((Ext.refl _).alloc (.cells #[.slice av P.fs.length cv, .int .i64 P.now, .slice ao P.out.length co] 26)), ((c1.out).ext HX2.out).ext ((Ext.refl _).alloc (.cells #[.slice av P.fs.length cv, .int .i64 P.now, .slice ao P.out.length co] 26)), ((c2.out).ext HX2.out).ext ((Ext.refl _).alloc (.cells #[.slice av P.fs.length cv, .int .i64 P.now, .slice ao P.out.length co] 26))⟩ : _ ∧ _ ∧ _)
  generalize w2.alloc (.cells #[.slice av P.fs.length cv, .int .i64 P.now, .slice ao P.out.length co] 26) = w3 at *
  have hp3 : Funcs w3 (· < w.heap.size + 2) (.slice ap p.length cp) p := Funcs.stays (stays_below HE3.out (by omega)) HP.out
  have HP3 := Lib.hid hp3
  have HFIT3 : Hid (OpFit p P.g) := by unfold Hid; rw [HGP.out]; exact HFIT.out
  have HFEW3 : Hid (FewS P.g) := by unfold Hid; rw [HGP.out]; exact HFEW.out
  obtain ⟨bb, hbb⟩ : ∃ bb, w2.heap.size = bb := ⟨_, rfl⟩
  rw [hbb] at HB3 ⊢
  clear hb3 hO hp3 c0 c1 c2 hbb
  rename World => w3
  by_cases he : (doneG p s).1 = 0
  ·have HG : Hid (stepG p s = (0, (doneG p s).2)) := by unfold Hid stepG; rw [if_neg (show ¬ s.now < 0 by have := HN.out; omega), if_pos he]
   have HE := Lib.hid he
   clear he
   go_upto_region 7 with (first
    | (go_at_call 60; (with_reducible refine (done_any p _ HP3.out HB3.out HFEW3.out HFIT3.out).mono ?_); rintro e w4 ⟨rfl, d4⟩; rw [HGP.out, HE.out]; rw [HGP.out] at d4; have D4 := Lib.hid d4; clear d4))
   obtain ⟨⟨P4, o4, g4, s4⟩, k4⟩ := (D4.out).turn HE.out
   obtain ⟨av4, cv4, ev4, _, _⟩ := o4.row.shape
   obtain ⟨ao4, co4, eo4, _, _⟩ := o4.out.shape
   obtain ⟨z0, z0'⟩ := o4.c0
   obtain ⟨z1, z1'⟩ := o4.c1
   obtain ⟨z2, z2'⟩ := o4.c2
   rw [ev4] at z0
   rw [eo4] at z2
   have hnb : ¬ (w.heap.size + 1 ∈ bb :: P.bl) := fun hm => by have := (HB3.out).ge _ hm; omega
   obtain ⟨r0, r0'⟩ := (HC3.out).1.chg k4 hnb
   obtain ⟨r1, r1'⟩ := (HC3.out).2.1.chg k4 hnb
   obtain ⟨r2, r2'⟩ := (HC3.out).2.2.chg k4 hnb
   have hE4 : Ext w w4 := Chg.ext_from HE3.out k4 (fun n hn => by have := (HB3.out).ge n hn; omega)
   have HE4 := Lib.hid hE4
   have HO4 := Lib.hid o4
   have HG4 := Lib.hid g4
   have HEV4 := Lib.hid ev4
   have HEO4 := Lib.hid eo4
   clear o4 g4 s4 k4 ev4 eo4 hnb hE4
   go_wp2_with fail
   refine bodyPost_ret (results_cell2 rfl _ _ (w.heap.size + 1) 0 _ _ rfl (box3 ⟨r0, r0'⟩ ⟨r1, r1'⟩ ⟨r2, r2'⟩ _ _ _) rfl rfl (by kernel_rfl)) rfl ?_
   rw [HG.out]
   refine ⟨⟨_, rfl, ?_⟩, ((HE4.out.setCell (p := ⟨w.heap.size + 1, 0, none⟩) (Nat.le_succ _) _).setCell (p := ⟨w.heap.size + 1, 1, none⟩) (Nat.le_succ _) _).setCell (p := ⟨w.heap.size + 1, 2, none⟩) (Nat.le_succ _) _⟩
   have h9 := (HO4.out).chg (chg3 w4 (w.heap.size + 1) (.slice av4 P4.fs.length cv4) (.int .i64 P4.now) (.slice ao4 P4.out.length co4)) (fun e => by have h1 := (HO4.out).le; have h2 : bb = w.heap.size + 1 := e; omega) (fun g hg e => by have h1 := (HO4.out).ge g (List.mem_cons_of_mem _ hg); have h2 : g = w.heap.size + 1 := e; omega)
   exact ⟨P4, by rw [HEV4.out, HEO4.out], h9.rows.mono (by omega), HG4.out⟩
  ·have HG : Hid (stepG p s = ((doneG p s).1, ⟨[], 0, []⟩)) := by unfold Hid stepG; rw [if_neg (show ¬ s.now < 0 by have := HN.out; omega), if_neg he]
   have TE : ((doneG p s).1 != 0) = true := bne_iff_ne.2 he
   obtain ⟨re, hre⟩ : ∃ re, (doneG p s).1 = re := ⟨_, rfl⟩
   rw [hre] at TE HG
   have HRE := Lib.hid hre
   clear he hre
   go_upto_region 6 with (first
    | (go_at_call 60; (with_reducible refine (done_any p _ HP3.out HB3.out HFEW3.out HFIT3.out).mono ?_); rintro e w4 ⟨rfl, d4⟩; rw [HGP.out, HRE.out]; have K4 := Lib.hid d4.chg; clear d4))
   have hnb : ¬ (w.heap.size + 1 ∈ bb :: P.bl) := fun hm => by have := (HB3.out).ge _ hm; omega
   obtain ⟨r0, r0'⟩ := (HC3.out).1.chg K4.out hnb
   obtain ⟨r1, r1'⟩ := (HC3.out).2.1.chg K4.out hnb
   obtain ⟨r2, r2'⟩ := (HC3.out).2.2.chg K4.out hnb
   have HE4 : Hid (Ext w w4) := Chg.ext_from HE3.out K4.out (fun n hn => by have := (HB3.out).ge n hn; omega)
   clear hnb
   go_wp2_with fail
   refine bodyPost_ret (results_cell2 rfl _ _ (w.heap.size + 1) 0 [.slice none 0 0, .int .i64 0, .slice none 0 0] _ rfl (box3 ⟨r0, r0'⟩ ⟨r1, r1'⟩ ⟨r2, r2'⟩ _ _ _) rfl rfl (by kernel_rfl)) rfl ?_
   rw [HG.out]
   exact ⟨⟨_, rfl, stateO_nil _ _⟩, ((HE4.out.setCell (p := ⟨w.heap.size + 1, 0, none⟩) (Nat.le_succ _) _).setCell (p := ⟨w.heap.size + 1, 1, none⟩) (Nat.le_succ _) _).setCell (p := ⟨w.heap.size + 1, 2, none⟩) (Nat.le_succ _) _⟩
end Go.Proofs.YtgahbngbpfilgaaGreat
end
section
set_option maxHeartbeats 4000000
set_option maxRecDepth 100000
namespace Go.Proofs.YtgahbngbpfilgaaGreat
open Go Go.RowKit
theorem results_cell3 {P : Program} {fn : Func} {p u u' : Tmp} {ty : TypeId} (h : fn.results = #[.cell p ty, .tmp u, .tmp u']) (tmps : Array Value) (w : World) (b o : Nat) (cs : List Value) (d : TypeDesc)
  (hp : tmps.getD p undef = .pointer (some ⟨b, o, none⟩)) (hc : w.rangeAt b o cs) (hu : P.underlying ty = some d) (hd : d.isRow = true) (hi : (P.info? ty).map (·.size) = some cs.length) :
  (results fn tmps).run P w = .ok (.tuple #[.agg cs.toArray, tmps.getD u undef, tmps.getD u' undef]) w := by
 have h1 : (results fn tmps).run P w = ((asAddr (tmps.getD p undef)).run P w).andThen fun a w₁ => ((loadVar ty a).run P w₁).andThen fun v w₂ => .ok (.tuple #[v, tmps.getD u undef, tmps.getD u' undef]) w₂ := by
  simp only [results, h]
  simp [Sem.run_bind, Result.andThen]
 rw [h1]
 have hp' : tmps[p]?.getD undef = .pointer (some ⟨b, o, none⟩) := by simpa using hp
 simp [hp', asAddr, run_loadVar_mid w b o ty cs d hc hu hd hi, Result.andThen]
theorem runG_zero (p : List GFunc) (s : GState) : runG p 0 s = (s, 0, 0) := rfl
theorem runG_done (p : List GFunc) (s : GState) (k : Nat) (h : s.now < 0) : runG p k s = (s, 0, 0) := by
 cases k with
 | zero => rfl
 | succ k => rw [runG, if_pos h]
theorem runG_err (p : List GFunc) (s : GState) (k : Nat) (h : ¬ s.now < 0) (he : (doneG p s).1 ≠ 0) : runG p (k + 1) s = (s, 0, (doneG p s).1) := by rw [runG, if_neg h, if_pos he]
theorem runG_step (p : List GFunc) (s : GState) (k : Nat) (h : ¬ s.now < 0) (he : (doneG p s).1 = 0) : runG p (k + 1) s = ((runG p k (doneG p s).2).1, (runG p k (doneG p s).2).2.1 + 1, (runG p k (doneG p s).2).2.2) := by rw [runG, if_neg h, if_neg (by simpa using he)]
theorem StateO.few0 {w : World} {B : Nat} {v : Value} (h : StateO w B v ⟨[], 0, []⟩) : ∃ a c b d, v = .agg #[.slice a 0 c, .int .i64 0, .slice b 0 d] := h.few
structure Boxed (w : World) (B b : Nat) (s : GState) : Prop where
 ex : ∃ a c d e, Cx w b 0 (.slice a s.fibers.length c) ∧ Cx w b 1 (.int .i64 s.now) ∧ Cx w b 2 (.slice d s.out.length e) ∧ StateO w B (.agg #[.slice a s.fibers.length c, .int .i64 s.now, .slice d s.out.length e]) s
theorem Boxed.ext {w w' : World} {B b : Nat} {s : GState} (h : Boxed w B b s) (he : Ext w w') : Boxed w' B b s := by
 obtain ⟨a, c, d, e, h1, h2, h3, h4⟩ := h.ex
 exact ⟨a, c, d, e, h1.ext he, h2.ext he, h3.ext he, h4.ext he⟩
theorem Boxed.store {w : World} {B b : Nat} {u0 u1 u2 x0 x1 x2 : Value} {s : GState} (h0 : Cx w b 0 u0) (h1 : Cx w b 1 u1) (h2 : Cx w b 2 u2) (h : StateO w B (.agg #[x0, x1, x2]) s) (hb : b < B) : Boxed (((w.setCell ⟨b, 0, none⟩ x0).setCell ⟨b, 1, none⟩ x1).setCell ⟨b, 2, none⟩ x2) B b s := by
 obtain ⟨a, c, d, e, he⟩ := h.few
 simp only [Value.agg.injEq, Array.mk.injEq, List.cons.injEq, and_true] at he
 obtain ⟨rfl, rfl, rfl⟩ := he
 refine ⟨a, c, d, e, ((h0.set _).other (.inr (by decide)) _).other (.inr (by decide)) _, ((h1.other (.inr (by decide)) _).set _).other (.inr (by decide)) _, ((h2.other (.inr (by decide)) _).other (.inr (by decide)) _).set _, h.chg (chg3 w b _ _ _) (fun k hk e => by have : k = b := e; omega)⟩
theorem ret_state {w wr : World} {x : Value} {s : GState} (h : StateO wr (w.heap.size + 2) x s) (a b c : Value) : StateO (((wr.setCell ⟨w.heap.size + 1, 0, none⟩ a).setCell ⟨w.heap.size + 1, 1, none⟩ b).setCell ⟨w.heap.size + 1, 2, none⟩ c) w.heap.size x s :=
 (h.chg (chg3 wr (w.heap.size + 1) a b c) (fun g hg e => by have : g = w.heap.size + 1 := e; omega)).mono (by omega)
theorem ret_ext {w wr : World} (h : Ext w wr) (a b c : Value) : Ext w (((wr.setCell ⟨w.heap.size + 1, 0, none⟩ a).setCell ⟨w.heap.size + 1, 1, none⟩ b).setCell ⟨w.heap.size + 1, 2, none⟩ c) :=
 ((h.setCell (p := ⟨w.heap.size + 1, 0, none⟩) (Nat.le_succ _) _).setCell (p := ⟨w.heap.size + 1, 1, none⟩) (Nat.le_succ _) _).setCell (p := ⟨w.heap.size + 1, 2, none⟩) (Nat.le_succ _) _
theorem run_any (p : List GFunc) (v : Value) (S T : Nat → Prop) (s : GState) (vs : Value) (fuel : Nat) (w : World) (hp : Funcs w S v p) (hs : StateV w T vs s) (hfit : RunFit p fuel s) (hfu : fuel ≤ 1000000) :
  Calls Tryz.prog 36 #[v, vs, .int .i64 fuel] w fun e w' => (∃ x, e = .returned (.tuple #[x, .int .i64 (runG p fuel s).2.1, .int .i64 (runG p fuel s).2.2]) ∧ StateO w' w.heap.size x (runG p fuel s).1) ∧ Ext w w' := by
 have hfew : FewS s := by cases fuel with | zero => exact hfit | succ k => exact hfit.1
 have HP := Lib.hid hp
 have HS := Lib.hid hs
 have HFEW := Lib.hid hfew
 have HFIT := Lib.hid hfit
 obtain ⟨a, c, b, d, rfl⟩ := hs.few
 obtain ⟨ap, cp, rfl, _, _, _⟩ := hp
 have RA := alloc_keep
 have hs0 : (w.alloc (.cells #[.slice a s.fibers.length c, .int .i64 s.now, .slice b s.out.length d] 26)).heap.size = w.heap.size + 1 := Array.size_push _
 have r0 := Cx.new (w.alloc (.cells #[.slice a s.fibers.length c, .int .i64 s.now, .slice b s.out.length d] 26)) [.slice none 0 0, .int .i64 0, .slice none 0 0] 26 (j := 0) rfl
 have r1 := Cx.new (w.alloc (.cells #[.slice a s.fibers.length c, .int .i64 s.now, .slice b s.out.length d] 26)) [.slice none 0 0, .int .i64 0, .slice none 0 0] 26 (j := 1) rfl
 have r2 := Cx.new (w.alloc (.cells #[.slice a s.fibers.length c, .int .i64 s.now, .slice b s.out.length d] 26)) [.slice none 0 0, .int .i64 0, .slice none 0 0] 26 (j := 2) rfl
 rw [hs0] at r0 r1 r2
 have HR := Lib.hid (⟨r0, r1, r2⟩ : _ ∧ _ ∧ _)
 have HQ := Lib.hid (⟨(Cx.new w [.slice a s.fibers.length c, .int .i64 s.now, .slice b s.out.length d] 26 (j := 0) rfl).ext ((Ext.refl _).alloc (.cells #[.slice none 0 0, .int .i64 0, .slice none 0 0] 26)), (Cx.new w [.slice a s.fibers.length c, .int .i64 s.now, .slice b s.out.length d] 26 (j := 1) rfl).ext ((Ext.refl _).alloc (.cells #[.slice none 0 0, .int .i64 0, .slice none 0 0] 26)), (Cx.new w [.slice a s.fibers.length c, .int .i64 s.now, .slice b s.out.length d] 26 (j := 2) rfl).ext ((Ext.refl _).alloc (.cells #[.slice none 0 0, .int .i64 0, .slice none 0 0] 26))⟩ : _ ∧ _ ∧ _)
 have HE1 : Hid (Ext w ((w.alloc (.cells #[.slice a s.fibers.length c, .int .i64 s.now, .slice b s.out.length d] 26)).alloc (.cells #[.slice none 0 0, .int .i64 0, .slice none 0 0] 26))) := ((Ext.refl w).alloc _).alloc _
 have HS1 : Hid (((w.alloc (.cells #[.slice a s.fibers.length c, .int .i64 s.now, .slice b s.out.length d] 26)).alloc (.cells #[.slice none 0 0, .int .i64 0, .slice none 0 0] 26)).heap.size = w.heap.size + 2) := by unfold Hid; simp
 clear hs0 r0 r1 r2 hfit hfew
 go_enter Tryz.func36, Tryz.ntmps36
 go_upto_region 1 with fail
 go_cut [12] (fun _ wr => Boxed wr (w.heap.size + 2) w.heap.size s ∧ Ext w wr ∧ Cx wr (w.heap.size + 1) 0 (.slice none 0 0) ∧ Cx wr (w.heap.size + 1) 1 (.int .i64 0) ∧ Cx wr (w.heap.size + 1) 2 (.slice none 0 0))
 case first =>
  go_wp2_with (first
   | (go_at_call 7; (with_reducible refine (ownState_any s _ T _ (StateV.stays (Ext.stays (by ((repeat (first | assumption | exact Ext.refl _ | (exact And.left (by assumption)) | refine Ext.alloc ?_ _ | refine Ext.drew ?_ | refine Ext.drewN ?_ _ | refine Ext.setCell ?_ (by simp) _ | refine Ext.setCell ?_ (by simp; omega) _ | refine Ext.trans ?_ (by assumption))); done))) HS.out) HFEW.out).mono ?_); rintro e w2 ⟨⟨P, rfl, hO, hg⟩, hx2⟩; rw [HS1.out] at hO; obtain ⟨q0, q0'⟩ := (HQ.out).1.ext hx2; obtain ⟨q1, q1'⟩ := (HQ.out).2.1.ext hx2; obtain ⟨q2, q2'⟩ := (HQ.out).2.2.ext hx2; obtain ⟨av, cv, ev, _, _⟩ := hO.row.shape; obtain ⟨ao, co, eo, _, _⟩ := hO.out.shape; have hst : StateO w2 (w.heap.size + 2) _ _ := ⟨P, rfl, hO, hg⟩; rw [ev, eo] at hst ⊢; have HST := Lib.hid hst; have HX2 := Lib.hid hx2; clear hO hg hx2 ev eo hst))
  go_meet
  have hr := HR.out
  refine ⟨Boxed.store ⟨q0, q0'⟩ ⟨q1, q1'⟩ ⟨q2, q2'⟩ HST.out (by omega), (((HE1.out.trans HX2.out).setCell (p := ⟨w.heap.size, 0, none⟩) (Nat.le_refl _) _).setCell (p := ⟨w.heap.size, 1, none⟩) (Nat.le_refl _) _).setCell (p := ⟨w.heap.size, 2, none⟩) (Nat.le_refl _) _, ?_, ?_, ?_⟩
  ·exact (hr.1.ext HX2.out).chg (chg3 w2 w.heap.size _ _ _) (by omega)
  ·exact (hr.2.1.ext HX2.out).chg (chg3 w2 w.heap.size _ _ _) (by omega)
  ·exact (hr.2.2.ext HX2.out).chg (chg3 w2 w.heap.size _ _ _) (by omega)
 case rest =>
  rename World => w2
  obtain ⟨hB2, hE2, hR2⟩ := hcut
  have HB2 := Lib.hid hB2
  have HE2 := Lib.hid hE2
  have HR2 := Lib.hid hR2
  clear hB2 hE2 hR2 HR HQ HE1 HS1 HS HFEW
  go_wp2_with fail
  go_loopw [9] (fun q9 wr => ∃ (n k : Nat) (s' : GState), n + k = fuel ∧ q9 = .int .i64 n ∧ (n = 0 ∨ (0 < k ∧ ¬ s'.now < 0)) ∧ RunFit p k s' ∧ runG p fuel s = ((runG p k s').1, (runG p k s').2.1 + n, (runG p k s').2.2) ∧
    Boxed wr (w.heap.size + 2) w.heap.size s' ∧ Ext w wr ∧ Cx wr (w.heap.size + 1) 0 (.slice none 0 0) ∧ Cx wr (w.heap.size + 1) 1 (.int .i64 0) ∧ Cx wr (w.heap.size + 1) 2 (.slice none 0 0)) (fun q _ => fuel - (intOf q).toNat)
  case atStart => exact ⟨0, fuel, s, Nat.zero_add _, rfl, .inl rfl, HFIT.out, by simp, HB2.out, HE2.out, HR2.out⟩
  case round =>
   obtain ⟨n, k, s', hnk, rfl, hgo, hfit, hrun, hbx, hE, hR⟩ := hrel
   have HGO := Lib.hid hgo
   have HFITK := Lib.hid hfit
   have HRUN := Lib.hid hrun
   have HEK := Lib.hid hE
   have HRK := Lib.hid hR
   have HBXK := Lib.hid hbx
   obtain ⟨ax, cx, dx, ex, ⟨b0, b0'⟩, ⟨b1, b1'⟩, ⟨b2, b2'⟩, hst⟩ := hbx.ex
   have HST := Lib.hid hst
   obtain ⟨⟨r0, r0'⟩, ⟨r1, r1'⟩, ⟨r2, r2'⟩⟩ := hR
   clear hgo hfit hrun hbx hE hst
   rename World => wr
   have hexit : k = 0 ∨ s'.now < 0 → n = 0 := fun h => by rcases HGO.out with h1 | h1; exact h1; rcases h with h2 | h2; omega; exact absurd h2 h1.2
   by_cases hk : k = 0
   ·subst hk
    have hn0 := hexit (.inl rfl)
    subst hn0
    have TF : decide (((0 : Nat) : Int) < (fuel : Int)) = false := decide_eq_false (by omega)
    have TF' : decide ((0 : Int) < (fuel : Int)) = false := decide_eq_false (by omega)
    have HRES : Hid (runG p fuel s = (s', 0, 0)) := HRUN.out
    go_wp2_with fail
    refine bodyPost_ret (results_cell3 rfl _ _ (w.heap.size + 1) 0 _ _ rfl (box3 ⟨r0, r0'⟩ ⟨r1, r1'⟩ ⟨r2, r2'⟩ _ _ _) rfl rfl (by kernel_rfl)) rfl ?_
    rw [HRES.out]
    exact ⟨⟨_, by rfl, ret_state HST.out _ _ _⟩, ret_ext HEK.out _ _ _⟩
   ·obtain ⟨k, rfl⟩ : ∃ j, k = j + 1 := ⟨k - 1, by omega⟩
    have TF : decide ((n : Int) < (fuel : Int)) = true := decide_eq_true (by omega)
    by_cases hneg : s'.now < 0
    ·have hn0 := hexit (.inr hneg)
     subst hn0
     have TF' : decide ((0 : Int) < (fuel : Int)) = true := decide_eq_true (by omega)
     have TN : decide ((0 : Int) ≤ s'.now) = false := decide_eq_false (by omega)
     have HRES : Hid (runG p fuel s = (s', 0, 0)) := by
      have h := HRUN.out
      rw [runG_done p s' _ hneg] at h
      exact h
     go_wp2_with fail
     refine bodyPost_ret (results_cell3 rfl _ _ (w.heap.size + 1) 0 _ _ rfl (box3 ⟨r0, r0'⟩ ⟨r1, r1'⟩ ⟨r2, r2'⟩ _ _ _) rfl rfl (by kernel_rfl)) rfl ?_
     rw [HRES.out]
     exact ⟨⟨_, by rfl, ret_state HST.out _ _ _⟩, ret_ext HEK.out _ _ _⟩
    ·have TN : decide ((0 : Int) ≤ s'.now) = true := decide_eq_true (by omega)
     have hfk := HFITK.out
     rw [RunFit] at hfk
     obtain ⟨hfewk, hopk⟩ := hfk
     obtain ⟨hopk, hnext⟩ := hopk.resolve_left hneg
     have HFEWK := Lib.hid hfewk
     have HOPK : Hid (s'.now < 0 ∨ OpFit p s') := Lib.hid (.inr hopk)
     have HNEXT := Lib.hid hnext
     have HNEG := Lib.hid hneg
     clear hfewk hopk hnext hexit hk
     by_cases he : (doneG p s').1 = 0
     ·have hsg : stepG p s' = (0, (doneG p s').2) := by unfold stepG; rw [if_neg hneg, if_pos he]
      have hnx := HNEXT.out.resolve_left (fun h => h he)
      have hrn := HRUN.out
      rw [runG_step p s' k hneg he] at hrn
      obtain ⟨t, ht⟩ : ∃ t, (doneG p s').2 = t := ⟨_, rfl⟩
      rw [ht] at hsg hnx hrn
      have HSG := Lib.hid hsg
      have HNX := Lib.hid hnx
      have HRN := Lib.hid hrn
      clear hsg hnx hrn ht he hneg
      go_upto_region 9 with (first
       | (go_at_call 35; (with_reducible refine (stepped_any p _ S _ s' _ _ (Funcs.stays (Ext.stays HEK.out) HP.out) HST.out.state HFEWK.out HOPK.out).mono ?_); rintro e w3 ⟨⟨x, rfl, hx⟩, hx3⟩; rw [HSG.out] at hx ⊢; obtain ⟨ax3, cx3, dx3, ex3, rfl⟩ := hx.few; obtain ⟨hq0, hq0'⟩ := (Cx.ext (W := wr) ⟨b0, b0'⟩ hx3).ext ((Ext.refl w3).alloc (.cells #[.slice ax3 t.fibers.length cx3, .int .i64 t.now, .slice dx3 t.out.length ex3] 26)); obtain ⟨hq1, hq1'⟩ := (Cx.ext (W := wr) ⟨b1, b1'⟩ hx3).ext ((Ext.refl w3).alloc (.cells #[.slice ax3 t.fibers.length cx3, .int .i64 t.now, .slice dx3 t.out.length ex3] 26)); obtain ⟨hq2, hq2'⟩ := (Cx.ext (W := wr) ⟨b2, b2'⟩ hx3).ext ((Ext.refl w3).alloc (.cells #[.slice ax3 t.fibers.length cx3, .int .i64 t.now, .slice dx3 t.out.length ex3] 26)); have hr0 := (Cx.ext (W := wr) ⟨r0, r0'⟩ hx3).ext ((Ext.refl w3).alloc (.cells #[.slice ax3 t.fibers.length cx3, .int .i64 t.now, .slice dx3 t.out.length ex3] 26)); have hr1 := (Cx.ext (W := wr) ⟨r1, r1'⟩ hx3).ext ((Ext.refl w3).alloc (.cells #[.slice ax3 t.fibers.length cx3, .int .i64 t.now, .slice dx3 t.out.length ex3] 26)); have hr2 := (Cx.ext (W := wr) ⟨r2, r2'⟩ hx3).ext ((Ext.refl w3).alloc (.cells #[.slice ax3 t.fibers.length cx3, .int .i64 t.now, .slice dx3 t.out.length ex3] 26)); have HX3 := Lib.hid hx3; have HXS := Lib.hid hx; clear hx hx3))
      have HR3 := Lib.hid (⟨hr0, hr1, hr2⟩ : _ ∧ _ ∧ _)
      have hrs : w.heap.size + 2 ≤ wr.heap.size := by have := Cx.lt (W := wr) ⟨r0, r0'⟩; omega
      have hB5 := Boxed.store (w := w3.alloc (.cells #[.slice ax3 t.fibers.length cx3, .int .i64 t.now, .slice dx3 t.out.length ex3] 26)) (B := w.heap.size + 2) ⟨hq0, hq0'⟩ ⟨hq1, hq1'⟩ ⟨hq2, hq2'⟩ ((HXS.out.ext ((Ext.refl _).alloc _)).mono hrs) (by omega)
      obtain ⟨W5, hW5⟩ : ∃ W5, W5 = (((w3.alloc (.cells #[.slice ax3 t.fibers.length cx3, .int .i64 t.now, .slice dx3 t.out.length ex3] 26)).setCell ⟨w.heap.size, 0, none⟩ (.slice ax3 t.fibers.length cx3)).setCell ⟨w.heap.size, 1, none⟩ (.int .i64 t.now)).setCell ⟨w.heap.size, 2, none⟩ (.slice dx3 t.out.length ex3) := ⟨_, rfl⟩
      rw [← hW5] at hB5 ⊢
      have HE5 : Hid (Ext w W5) := by
       rw [hW5]
       exact ((((HEK.out.trans HX3.out).alloc _).setCell (p := ⟨w.heap.size, 0, none⟩) (Nat.le_refl _) _).setCell (p := ⟨w.heap.size, 1, none⟩) (Nat.le_refl _) _).setCell (p := ⟨w.heap.size, 2, none⟩) (Nat.le_refl _) _
      have HR5 : Hid (Cx W5 (w.heap.size + 1) 0 (.slice none 0 0) ∧ Cx W5 (w.heap.size + 1) 1 (.int .i64 0) ∧ Cx W5 (w.heap.size + 1) 2 (.slice none 0 0)) := by
       rw [hW5]
       exact ⟨(HR3.out).1.chg (chg3 _ w.heap.size _ _ _) (by omega), (HR3.out).2.1.chg (chg3 _ w.heap.size _ _ _) (by omega), (HR3.out).2.2.chg (chg3 _ w.heap.size _ _ _) (by omega)⟩
      have HB5 := Lib.hid hB5
      obtain ⟨ay, cy, dy, ey, ⟨y0, y0'⟩, ⟨y1, y1'⟩, ⟨y2, y2'⟩, hsty⟩ := hB5.ex
      have HSTY := Lib.hid hsty
      obtain ⟨⟨p0, p0'⟩, ⟨p1, p1'⟩, ⟨p2, p2'⟩⟩ := HR5.out
      have KN : IntKind.i64.wrap ((n : Int) + 1) = (n : Int) + 1 := IntWalk.i64_in _ (by omega)
      clear hW5 hB5 hsty hq0 hq0' hq1 hq1' hq2 hq2' hr0 hr1 hr2 HR3 HXS b0 b0' b1 b1' b2 b2' r0 r0' r1 r1' r2 r2' HBXK HST HRK hrs
      rename World => w5
      by_cases hk0 : k = 0
      ·subst hk0
       have TF9 : ((n : Int) + 1 == (fuel : Int)) = true := by simp; omega
       have HRES : Hid (runG p fuel s = (t, (n : Int) + 1, 0)) := by
        have h := HRN.out
        rw [runG_zero] at h
        unfold Hid
        rw [h]
        simp; omega
       go_wp2_with fail
       refine bodyPost_ret (results_cell3 rfl _ _ (w.heap.size + 1) 0 _ _ rfl (box3 ⟨p0, p0'⟩ ⟨p1, p1'⟩ ⟨p2, p2'⟩ _ _ _) rfl rfl (by kernel_rfl)) rfl ?_
       rw [HRES.out]
       exact ⟨⟨_, rfl, ret_state HSTY.out _ _ _⟩, ret_ext HE5.out _ _ _⟩
      ·have TF9 : ((n : Int) + 1 == (fuel : Int)) = false := by simp; omega
       by_cases hneg : t.now < 0
       ·have TN9 : decide (t.now < 0) = true := decide_eq_true hneg
        have HRES : Hid (runG p fuel s = (t, (n : Int) + 1, 0)) := by
         have h := HRN.out
         rw [runG_done p t k hneg] at h
         unfold Hid
         rw [h]
         simp; omega
        go_wp2_with fail
        refine bodyPost_ret (results_cell3 rfl _ _ (w.heap.size + 1) 0 _ _ rfl (box3 ⟨p0, p0'⟩ ⟨p1, p1'⟩ ⟨p2, p2'⟩ _ _ _) rfl rfl (by kernel_rfl)) rfl ?_
        rw [HRES.out]
        exact ⟨⟨_, rfl, ret_state HSTY.out _ _ _⟩, ret_ext HE5.out _ _ _⟩
       ·have TN9 : decide (t.now < 0) = false := decide_eq_false hneg
        go_wp2_with fail
        go_roundw
        case rel => exact ⟨n + 1, k, t, by omega, by go_num, .inr ⟨by omega, hneg⟩, HNX.out, by rw [HRN.out]; simp; omega, HB5.out, HE5.out, HR5.out⟩
        case measure => simp [intOf]; omega
     ·have hsg : stepG p s' = ((doneG p s').1, ⟨[], 0, []⟩) := by unfold stepG; rw [if_neg hneg, if_neg he]
      have TE : ((doneG p s').1 != 0) = true := bne_iff_ne.2 he
      have hrn := HRUN.out
      rw [runG_err p s' k hneg he] at hrn
      obtain ⟨re, hre⟩ : ∃ re, (doneG p s').1 = re := ⟨_, rfl⟩
      rw [hre] at TE hsg hrn
      have HSG := Lib.hid hsg
      have HRN := Lib.hid hrn
      clear hsg hrn hre he hneg
      go_wp2_with (first
       | (go_at_call 35; (with_reducible refine (stepped_any p _ S _ s' _ _ (Funcs.stays (Ext.stays HEK.out) HP.out) HST.out.state HFEWK.out HOPK.out).mono ?_); rintro e w3 ⟨⟨x, rfl, hx⟩, hx3⟩; rw [HSG.out] at hx ⊢; obtain ⟨ax3, cx3, dx3, ex3, rfl⟩ := hx.few0; obtain ⟨hq0, hq0'⟩ := (Cx.ext (W := wr) ⟨b0, b0'⟩ hx3).ext ((Ext.refl w3).alloc (.cells #[.slice ax3 0 cx3, .int .i64 0, .slice dx3 0 ex3] 26)); obtain ⟨hq1, hq1'⟩ := (Cx.ext (W := wr) ⟨b1, b1'⟩ hx3).ext ((Ext.refl w3).alloc (.cells #[.slice ax3 0 cx3, .int .i64 0, .slice dx3 0 ex3] 26)); obtain ⟨hq2, hq2'⟩ := (Cx.ext (W := wr) ⟨b2, b2'⟩ hx3).ext ((Ext.refl w3).alloc (.cells #[.slice ax3 0 cx3, .int .i64 0, .slice dx3 0 ex3] 26)); have hr0 := (Cx.ext (W := wr) ⟨r0, r0'⟩ hx3).ext ((Ext.refl w3).alloc (.cells #[.slice ax3 0 cx3, .int .i64 0, .slice dx3 0 ex3] 26)); have hr1 := (Cx.ext (W := wr) ⟨r1, r1'⟩ hx3).ext ((Ext.refl w3).alloc (.cells #[.slice ax3 0 cx3, .int .i64 0, .slice dx3 0 ex3] 26)); have hr2 := (Cx.ext (W := wr) ⟨r2, r2'⟩ hx3).ext ((Ext.refl w3).alloc (.cells #[.slice ax3 0 cx3, .int .i64 0, .slice dx3 0 ex3] 26)); obtain ⟨p0, p0'⟩ := hr0; obtain ⟨p1, p1'⟩ := hr1; obtain ⟨p2, p2'⟩ := hr2; have HX3 := Lib.hid hx3; clear hx hx3))
      have HRES : Hid (runG p fuel s = (s', (n : Int), re)) := by
       have h := HRN.out
       unfold Hid
       rw [h]
       simp
      refine bodyPost_ret (results_cell3 rfl _ _ (w.heap.size + 1) 0 _ _ rfl (box3 ⟨p0, p0'⟩ ⟨p1, p1'⟩ ⟨p2, p2'⟩ _ _ _) rfl rfl (by kernel_rfl)) rfl ?_
      rw [HRES.out]
      exact ⟨⟨_, rfl, ret_state (HST.out.ext (HX3.out.alloc _)) _ _ _⟩, ret_ext ((HEK.out.trans HX3.out).alloc _) _ _ _⟩
end Go.Proofs.YtgahbngbpfilgaaGreat
end
section
set_option maxHeartbeats 1000000
set_option maxRecDepth 100000
namespace Go.Proofs.YtgahbngbpfilgaaGreat
open Go Go.RowKit
def countCode0 : List GOp := [⟨13, 1⟩, ⟨3, 0⟩, ⟨2, 0⟩, ⟨0, 7⟩, ⟨14, 0⟩, ⟨16, 0⟩, ⟨2, 0⟩, ⟨0, 0⟩, ⟨14, 0⟩, ⟨16, 0⟩, ⟨2, 0⟩, ⟨0, 0⟩, ⟨14, 0⟩, ⟨12, 0⟩]
def countCode1 : List GOp := [⟨2, 0⟩, ⟨15, 0⟩, ⟨1, 0⟩, ⟨2, 0⟩, ⟨0, 1⟩, ⟨11, 2⟩, ⟨15, 0⟩, ⟨1, 0⟩, ⟨0, 99⟩, ⟨12, 0⟩, ⟨0, 5⟩, ⟨9, 9⟩]
def countCode2 : List GOp := [⟨2, 0⟩, ⟨2, 1⟩, ⟨4, 0⟩, ⟨12, 0⟩]
def countP : List GFunc := [⟨0, 1, countCode0⟩, ⟨1, 1, countCode1⟩, ⟨2, 2, countCode2⟩]
theorem o_any (k a : Int) (w : World) :
  Calls Tryz.prog 27 #[.int .i64 k, .int .i64 a] w fun e w' => e = .returned (.agg #[.int .i64 k, .int .i64 a]) ∧ Ext w w' := by
 go_enter Tryz.func27, Tryz.ntmps27
 go_wp2
 exact bodyPost_ret (v := .agg #[.int .i64 k, .int .i64 a]) (by simp [results, Tryz.results27, go_sem]) rfl ⟨rfl, (Ext.refl _).alloc _⟩
def CountIs (w w' : World) (v : Value) : Prop := ∃ g c0 c1 c2 : Nat, v = .slice (some ⟨g, 0, none⟩) 3 3 ∧ w.heap.size ≤ c0 ∧ c0 < c1 ∧ c1 < c2 ∧ c2 < g ∧
 w'.heap[c0]? = some (.cells #[.int .i64 13, .int .i64 1, .int .i64 3, .int .i64 0, .int .i64 2, .int .i64 0, .int .i64 0, .int .i64 7, .int .i64 14, .int .i64 0, .int .i64 16, .int .i64 0, .int .i64 2, .int .i64 0, .int .i64 0, .int .i64 0, .int .i64 14, .int .i64 0, .int .i64 16, .int .i64 0, .int .i64 2, .int .i64 0, .int .i64 0, .int .i64 0, .int .i64 14, .int .i64 0, .int .i64 12, .int .i64 0] 59 (0, 0)) ∧
 w'.heap[c1]? = some (.cells #[.int .i64 2, .int .i64 0, .int .i64 15, .int .i64 0, .int .i64 1, .int .i64 0, .int .i64 2, .int .i64 0, .int .i64 0, .int .i64 1, .int .i64 11, .int .i64 2, .int .i64 15, .int .i64 0, .int .i64 1, .int .i64 0, .int .i64 0, .int .i64 99, .int .i64 12, .int .i64 0, .int .i64 0, .int .i64 5, .int .i64 9, .int .i64 9] 59 (0, 0)) ∧
 w'.heap[c2]? = some (.cells #[.int .i64 2, .int .i64 0, .int .i64 2, .int .i64 1, .int .i64 4, .int .i64 0, .int .i64 12, .int .i64 0] 59 (0, 0)) ∧
 w'.heap[g]? = some (.cells #[.int .i64 0, .int .i64 1, .slice (some ⟨c0, 0, none⟩) 14 14, .int .i64 1, .int .i64 1, .slice (some ⟨c1, 0, none⟩) 12 12, .int .i64 2, .int .i64 2, .slice (some ⟨c2, 0, none⟩) 4 4] 63 (0, 0))
theorem count_any (w : World) :
  Calls Tryz.prog 25 #[] w fun e w' => (∃ v, e = .returned v ∧ CountIs w w' v) ∧ Ext w w' := by
 go_enter Tryz.func25, Tryz.ntmps25
 go_wp2_with (first
  | (go_at_call 27; refine (o_any _ _ _).mono ?_; rintro e w1 ⟨rfl, hb⟩))
 go_ret
 refine ⟨⟨_, rfl, ?_⟩, ?_⟩
 ·refine ⟨_, _, _, _, rfl, ?_, ?_, ?_, ?_, ?_, ?_, heap_alloc2_old _ _ _, heap_alloc2_new _ _ _⟩
  ·(repeat (first | exact Nat.le_refl _ | refine Nat.le_trans ?_ (Ext.size (by assumption)) | refine Nat.le_trans ?_ (Ext.size ((Ext.refl _).alloc _))))
  ·show _ + 1 ≤ _
   (repeat (first | (simp; done) | refine Nat.le_trans ?_ (Ext.size (by assumption)) | refine Nat.le_trans ?_ (Ext.size ((Ext.refl _).alloc _))))
  ·show _ + 1 ≤ _
   (repeat (first | (simp; done) | refine Nat.le_trans ?_ (Ext.size (by assumption)) | refine Nat.le_trans ?_ (Ext.size ((Ext.refl _).alloc _))))
  ·omega
  ·refine Ext.heap (((Ext.refl _).alloc _).alloc _) ?_
   (repeat (first | exact heap_alloc_new _ _ | refine Ext.heap (by assumption) ?_ | refine Ext.heap ((Ext.refl _).alloc _) ?_))
  ·refine Ext.heap (((Ext.refl _).alloc _).alloc _) ?_
   (repeat (first | exact heap_alloc_new _ _ | refine Ext.heap (by assumption) ?_ | refine Ext.heap ((Ext.refl _).alloc _) ?_))
 ·((repeat (first | assumption | exact Ext.refl _ | (exact And.left (by assumption)) | refine Ext.alloc ?_ _ | refine Ext.drew ?_ | refine Ext.drewN ?_ _ | refine Ext.setCell ?_ (by simp) _ | refine Ext.setCell ?_ (by simp; omega) _ | refine Ext.trans ?_ (by assumption))); done)
def opCells : List GOp → List Value
 | [] => []
 | x :: l => .int .i64 x.kind :: .int .i64 x.a :: opCells l
theorem opCells_at : ∀ (l : List GOp) (i : Nat) (h : i < l.length), (opCells l)[i * 2]? = some (.int .i64 l[i].kind) ∧ (opCells l)[i * 2 + 1]? = some (.int .i64 l[i].a)
 | [], i, h => absurd h (by simp)
 | x :: l, 0, _ => ⟨rfl, rfl⟩
 | x :: l, i + 1, h => by
  have := opCells_at l i (by simpa using h)
  rw [show (i + 1) * 2 = i * 2 + 2 by omega]
  exact this
theorem ops_of_block {w : World} {S : Nat → Prop} {c : Nat} {cs : Array Value} {t : TypeId} {fr : Nat × Nat} (l : List GOp) (hc : w.heap[c]? = some (.cells cs t fr)) (hl : cs.toList = opCells l)
  (hS : S c) (hI : ∀ x ∈ l, I64 x.kind ∧ I64 x.a) (hlen : l.length * 16 ≤ 140737488355328) : Ops w S (.slice (some ⟨c, 0, none⟩) l.length l.length) l := by
 refine ⟨_, _, rfl, Nat.le_refl _, ⟨hlen, by omega⟩, fun i hi => ⟨c, 0, rfl, ?_⟩⟩
 obtain ⟨h0, h1⟩ := opCells_at l i hi
 have hx := hI _ (List.getElem_mem hi)
 refine ⟨⟨hS, ?_, hx.1⟩, hS, ?_, hx.2⟩
 ·rw [cell_of_row w c _ cs t fr hc, ← Array.getElem?_toList, hl, Nat.zero_add]; exact h0
 ·rw [cell_of_row w c _ cs t fr hc, ← Array.getElem?_toList, hl, Nat.zero_add]; exact h1
theorem ops_small (l : List GOp) (h : ∀ x ∈ l, (-1000 ≤ x.kind ∧ x.kind ≤ 1000) ∧ -1000 ≤ x.a ∧ x.a ≤ 1000) : ∀ x ∈ l, I64 x.kind ∧ I64 x.a := fun x hx =>
 ⟨I64.small (by have := (h x hx).1.1; omega) (by have := (h x hx).1.2; omega), I64.small (by have := (h x hx).2.1; omega) (by have := (h x hx).2.2; omega)⟩
theorem CountIs.funcs {w w' : World} {v : Value} (h : CountIs w w' v) : Funcs w' (fun _ => True) v countP := by
 obtain ⟨g, c0, c1, c2, rfl, _, _, _, _, h0, h1, h2, hg⟩ := h
 have f0 := ops_of_block (S := fun _ => True) countCode0 h0 rfl trivial (ops_small _ (by decide)) (by decide)
 have f1 := ops_of_block (S := fun _ => True) countCode1 h1 rfl trivial (ops_small _ (by decide)) (by decide)
 have f2 := ops_of_block (S := fun _ => True) countCode2 h2 rfl trivial (ops_small _ (by decide)) (by decide)
 have cell := fun j => cell_of_row w' g j _ _ _ hg
 refine ⟨_, _, rfl, Nat.le_refl _, by decide, fun i hi => ⟨g, 0, rfl, ?_⟩⟩
 match i, hi with
 | 0, _ => exact ⟨⟨trivial, cell _, I64.small (by simp [countP]) (by simp [countP])⟩, ⟨trivial, cell _, I64.small (by simp [countP]) (by simp [countP])⟩, _, cell _, f0⟩
 | 1, _ => exact ⟨⟨trivial, cell _, I64.small (by simp [countP]) (by simp [countP])⟩, ⟨trivial, cell _, I64.small (by simp [countP]) (by simp [countP])⟩, _, cell _, f1⟩
 | 2, _ => exact ⟨⟨trivial, cell _, I64.small (by simp [countP]) (by simp [countP])⟩, ⟨trivial, cell _, I64.small (by simp [countP]) (by simp [countP])⟩, _, cell _, f2⟩
end Go.Proofs.YtgahbngbpfilgaaGreat
end
