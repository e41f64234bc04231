/- Merged texts: contracts and plain facts, one part behind another; each part begins with what it says. -/
import Derived.Test.YtgahbngbpfilgaaGreatGEAJ
import Derived.Test.YtgahbngbpfilgaaGreatGEAK
import Derived.Test.YtgahbngbpfilgaaGreatGEAX
import Derived.Test.YtgahbngbpfilgaaGreatGEAZ
import Derived.Test.YtgahbngbpfilgaaGreatGEBB
section
set_option maxHeartbeats 4000000
set_option maxRecDepth 100000
namespace Go.Proofs.YtgahbngbpfilgaaGreat
open Go Go.RowKit
structure Smi (w : World) (S : Nat → Prop) (R : Nat) (e : List GNode) (c : List GOp) (v vc : Value) : Prop where
 c0 : Cx w R 0 v
 c1 : Cx w R 1 vc
 nodes : Nodes w S v e
 row : RowAt w (R + 1) 2 vc c.length (c.flatMap opF)
def MS (R : Nat) (vc : Value) : Nat → Prop := fun b => b = R ∨ rowBlock vc = some b
def Grows (w : World) (vc vc' : Value) : Prop := ∀ g, rowBlock vc' = some g → rowBlock vc = some g ∨ w.heap.size ≤ g
theorem Grows.refl (w : World) (vc : Value) : Grows w vc vc := fun _ h => .inl h
theorem Grows.trans {w w1 : World} {vc vc1 vc2 : Value} {M : Nat → Prop} (h1 : Grows w vc vc1) (hc : Chg M w w1) (h2 : Grows w1 vc1 vc2) : Grows w vc vc2 := fun g hg => by
 have := hc.size
 rcases h2 g hg with h | h
 ·exact h1 g h
 ·exact .inr (by omega)
theorem MS.trans {w w1 w2 : World} {R : Nat} {vc vc1 : Value} (h1 : Chg (MS R vc) w w1) (hg : Grows w vc vc1) (h2 : Chg (MS R vc1) w1 w2) : Chg (MS R vc) w w2 :=
 h1.trans' h2 (fun n hn h => by
  rcases h with h | h
  ·exact .inl h
  ·rcases hg n h with h | h
   ·exact .inr h
   ·omega)
theorem Smi.keepsN {w w' : World} {S : Nat → Prop} {R : Nat} {e : List GNode} {c : List GOp} {v vc : Value} (hS : ∀ b, S b → b < R) (h : Smi w S R e c v vc) (hc : Chg (MS R vc) w w') : Nodes w' S v e :=
 Nodes.stays (hc.stays (fun b hb hm => by
  have hb := hS b hb
  rcases hm with hm | hm
  ·omega
  ·have := h.row.le b hm; omega)) h.nodes
theorem Smi.grow {w W7 W8 : World} {S : Nat → Prop} {R : Nat} {e : List GNode} {c : List GOp} {v vc v1 : Value} {y : GOp} (hS : ∀ b, S b → b < R) (h : Smi w S R e c v vc) (he : Ext w W7)
  (hn : NewRow W7 W8 (R + 1) 2 vc v1 (c.length + 1) (c.flatMap opF ++ opF y)) :
  (Smi (W8.setCell ⟨R, 1, none⟩ v1) S R e (c ++ [y]) v v1 ∧ Chg (MS R vc) w (W8.setCell ⟨R, 1, none⟩ v1) ∧ Grows w vc v1) ∧ Cx W8 R 1 vc := by
 have hM := h.row.le
 obtain ⟨n1, hch, n3⟩ := hn
 have k0 : Cx W8 R 0 v := (h.c0.ext he).chg hch (fun e => by have := hM _ e; omega)
 have k1 : Cx W8 R 1 vc := (h.c1.ext he).chg hch (fun e => by have := hM _ e; omega)
 have hC : Chg (MS R vc) w (W8.setCell ⟨R, 1, none⟩ v1) :=
  ((Chg.of_ext he).trans (hch.mono (fun _ _ h => .inr h))).setCell (p := ⟨R, 1, none⟩) (.inl (.inl rfl)) _
 refine ⟨⟨⟨k0.other (.inr (by decide)) _, k1.set _, h.keepsN hS hC, ?_⟩, hC, fun g hg => ?_⟩, k1⟩
 ·rw [List.length_append, List.length_singleton, List.flatMap_append, List.flatMap_singleton]
  exact n1.chg (chg_one W8 R 1 v1) (fun q e hq => by have := n1.le _ e; omega) (by decide)
 ·rcases n3 with n3 | n3
  ·exact .inl (by rw [← n3]; exact hg)
  ·have := he.size
   have := n3 g hg
   exact .inr (by omega)
theorem Smi.ext {w w' : World} {S : Nat → Prop} {R : Nat} {e : List GNode} {c : List GOp} {v vc : Value} (h : Smi w S R e c v vc) (he : Ext w w') : Smi w' S R e c v vc :=
 ⟨h.c0.ext he, h.c1.ext he, Nodes.stays he.stays h.nodes, h.row.ext he (by decide)⟩
theorem Smi.take {w W : World} {S : Nat → Prop} {R : Nat} {e e' : List GNode} {c : List GOp} {v v' vc : Value} (hS : ∀ b, S b → b < R) (h : Smi w S R e c v vc) (he : Ext w W) (hv : Nodes w S v' e') :
  Smi (W.setCell ⟨R, 0, none⟩ v') S R e' c v' vc ∧ Chg (MS R vc) w (W.setCell ⟨R, 0, none⟩ v') := by
 have hC : Chg (MS R vc) w (W.setCell ⟨R, 0, none⟩ v') := (Chg.of_ext he).setCell (p := ⟨R, 0, none⟩) (.inl (.inl rfl)) _
 have h2 : Smi w S R e' c v vc → Nodes (W.setCell ⟨R, 0, none⟩ v') S v' e' := fun _ => Nodes.stays (hC.stays (fun b hb hm => by
  have hb := hS b hb
  rcases hm with hm | hm
  ·omega
  ·have := h.row.le b hm; omega)) hv
 refine ⟨⟨(h.c0.ext he).set _, (h.c1.ext he).other (.inr (by decide)) _, Nodes.stays (hC.stays (fun b hb hm => by
  have hb := hS b hb
  rcases hm with hm | hm
  ·omega
  ·have := h.row.le b hm; omega)) hv, ?_⟩, hC⟩
 exact (h.row.ext he (by decide)).chg (chg_one W R 0 v') (fun q e hq => by have := h.row.le _ e; omega) (by decide)
end Go.Proofs.YtgahbngbpfilgaaGreat
end
section
set_option maxHeartbeats 4000000
set_option maxRecDepth 100000
namespace Go.Proofs.YtgahbngbpfilgaaGreat
open Go Go.RowKit
theorem apart {w : World} {R X : Nat} {vc vc' : Value} (hX : ¬ MS R vc X) (hl : X < w.heap.size) (hg : Grows w vc vc') : ¬ MS R vc' X := fun hm => by
 rcases hm with hm | hm
 ·exact hX (.inl hm)
 ·rcases hg X hm with h1 | h1
  ·exact hX (.inr h1)
  ·omega
theorem Smi.fresh {w : World} {S : Nat → Prop} {R : Nat} {e : List GNode} {c : List GOp} {v vc : Value} (h : Smi w S R e c v vc) : ¬ MS R vc w.heap.size := fun hm => by
 have := h.c0.lt
 rcases hm with hm | hm
 ·omega
 ·have := h.row.lt2 (by decide) _ hm; omega
structure Begun (w W : World) (S : Nat → Prop) (R X : Nat) (x : GNode) (e : List GNode) (c : List GOp) (v vc : Value) : Prop where
 smi : Smi W S R e c v vc
 chg : Chg (MS R vc) w W
 k : W.cell? ⟨X, 0, none⟩ = some (.int .i64 x.kind)
 n : W.cell? ⟨X, 1, none⟩ = some (.int .i64 x.n)
 out : ¬ MS R vc X
 lt : X < W.heap.size
theorem Smi.start {w : World} {S : Nat → Prop} {R : Nat} {e e' : List GNode} {c : List GOp} {v v' vc : Value} (hS : ∀ b, S b → b < R) (h : Smi w S R e c v vc) (hv : Nodes w S v' e') (x : GNode) (t : TypeId) :
  Begun w ((w.setCell ⟨R, 0, none⟩ v').alloc (.cells #[.int .i64 x.kind, .int .i64 x.n] t)) S R w.heap.size x e' c v' vc := by
 obtain ⟨h1, h2⟩ := h.take hS (Ext.refl w) hv
 have hsz : (w.setCell ⟨R, 0, none⟩ v').heap.size = w.heap.size := size_setCells R [v'] 0 w
 have c0 := (Cx.new (w.setCell ⟨R, 0, none⟩ v') [.int .i64 x.kind, .int .i64 x.n] t (j := 0) rfl).1
 have c1 := (Cx.new (w.setCell ⟨R, 0, none⟩ v') [.int .i64 x.kind, .int .i64 x.n] t (j := 1) rfl).1
 have hl := lt_of_cell c0
 rw [hsz] at c0 c1 hl
 exact ⟨h1.ext ((Ext.refl _).alloc _), h2.alloc _, c0, c1, h.fresh, hl⟩
theorem Begun.next {w W W' : World} {S : Nat → Prop} {R X : Nat} {x : GNode} {e : List GNode} {c : List GOp} {v vc vc1 vc' : Value} (h : Begun w W S R X x e c v vc1) (hg0 : Grows w vc vc1) (h0 : Chg (MS R vc) w W)
  (hc : Chg (MS R vc1) W W') (hg : Grows W vc1 vc') : (W'.cell? ⟨X, 0, none⟩ = some (.int .i64 x.kind) ∧ W'.cell? ⟨X, 1, none⟩ = some (.int .i64 x.n)) ∧ Chg (MS R vc) w W' ∧ Grows w vc vc' ∧ ¬ MS R vc' X ∧ X < W'.heap.size := by
 refine ⟨⟨hc.cell h.out h.k, hc.cell h.out h.n⟩, MS.trans h0 hg0 hc, hg0.trans h0 hg, apart h.out h.lt hg, ?_⟩
 have := hc.size
 have := h.lt
 omega
end Go.Proofs.YtgahbngbpfilgaaGreat
end
section
set_option maxHeartbeats 4000000
set_option maxRecDepth 100000
namespace Go.Proofs.YtgahbngbpfilgaaGreat
open Go Go.RowKit
structure Pen (w : World) (R : Nat) (A : List UInt8) (v : Value) : Prop where
 c0 : Cx w R 0 v
 row : RowAt w (R + 1) 1 v A.length (bys A)
theorem Pen.ext {w w' : World} {R : Nat} {A : List UInt8} {v : Value} (h : Pen w R A v) (he : Ext w w') : Pen w' R A v := ⟨h.c0.ext he, h.row.ext he (by decide)⟩
theorem Pen.grow {w W7 W8 : World} {R n : Nat} {A A' : List UInt8} {v v1 : Value} {xs : List Value} (h : Pen w R A v) (he : Ext w W7) (hn : NewRow W7 W8 (R + 1) 1 v v1 n xs) (hx : bys A' = xs) (hl : A'.length = n) :
  (Pen (W8.setCell ⟨R, 0, none⟩ v1) R A' v1 ∧ Chg (MS R v) w (W8.setCell ⟨R, 0, none⟩ v1) ∧ Grows w v v1) ∧ Cx W8 R 0 v := by
 subst hx hl
 have hM := h.row.le
 obtain ⟨n1, hch, n3⟩ := hn
 have k0 : Cx W8 R 0 v := (h.c0.ext he).chg hch (fun e => by have := hM _ e; omega)
 have hC : Chg (MS R v) w (W8.setCell ⟨R, 0, none⟩ v1) :=
  ((Chg.of_ext he).trans (hch.mono (fun _ _ h => .inr h))).setCell (p := ⟨R, 0, none⟩) (.inl (.inl rfl)) _
 refine ⟨⟨⟨k0.set _, n1.chg (chg_one W8 R 0 v1) (fun q e hq => by have := n1.le _ e; omega) (by decide)⟩, hC, fun g hg => ?_⟩, k0⟩
 rcases n3 with n3 | n3
 ·exact .inl (by rw [← n3]; exact hg)
 ·have := he.size
  have := n3 g hg
  exact .inr (by omega)
theorem ints_at (w : World) (a : Int) (ha : I64 a) (t : TypeId) : Ints (w.alloc (.cells #[.int .i64 a] t)) (· = w.heap.size) (.slice (some ⟨w.heap.size, 0, none⟩) 1 1) [a] := by
 refine ⟨_, 1, rfl, Nat.le_refl _, by simp, fun i hi => ⟨_, 0, rfl, ?_⟩⟩
 match i, hi with
 | 0, _ => exact ⟨rfl, World.cell?_alloc_new w _ _ 0, ha⟩
theorem ints_pair (w : World) (a b : Int) (ha : I64 a) (hb : I64 b) (t : TypeId) : Ints (w.alloc (.cells #[.int .i64 a, .int .i64 b] t)) (· = w.heap.size) (.slice (some ⟨w.heap.size, 0, none⟩) 2 2) [a, b] := by
 refine ⟨_, 2, rfl, Nat.le_refl _, by simp, fun i hi => ⟨_, 0, rfl, ?_⟩⟩
 match i, hi with
 | 0, _ => exact ⟨rfl, World.cell?_alloc_new w _ _ 0, ha⟩
 | 1, _ => exact ⟨rfl, World.cell?_alloc_new w _ _ 1, hb⟩
def small8 (l : List Int) (k : Nat) : List UInt8 := (l.take k).map by8
theorem small8_succ (l : List Int) {k : Nat} (h : k < l.length) : small8 l (k + 1) = small8 l k ++ [by8 (l.getD k 0)] := by
 unfold small8
 rw [List.take_add_one, List.map_append, List.getElem?_eq_getElem h]
 simp [List.getD, List.getElem?_eq_getElem h]
theorem penSmall_any {S : Nat → Prop} {R : Nat} {A : List UInt8} {v : Value} (l : List Int) (lv : Value) {w : World} (h : Pen w R A v) (hl : Ints w S lv l) (hS : ∀ b, S b → ¬ MS R v b) (h1 : A.length ≤ 100000) (h2 : l.length ≤ 10) :
  Calls Tryz.prog 38 #[.pointer (some ⟨R, 0, none⟩), lv] w fun e w' => e = .returned (.tuple #[]) ∧ ∃ v', Pen w' R (A ++ l.map by8) v' ∧ Chg (MS R v) w w' ∧ Grows w v v' := by
 have H := Lib.hid h
 have HL := Lib.hid hl
 have HS := Lib.hid hS
 obtain ⟨la, lc, rfl, _, _, _⟩ := hl
 have RA := alloc_keep
 obtain ⟨i0, hi0, hz0, hz1, hz2⟩ := info_parts infoB
 have h00 : A ++ small8 l 0 = A := by unfold small8; simp
 have H00 := Lib.hid h00
 clear h hS h00
 go_enter Tryz.func38, Tryz.ntmps38
 go_wp2_with fail
 go_loopw [8] (fun q wr => ∃ k : Nat, k ≤ l.length ∧ q = .int .i64 k ∧ ∃ vc, Pen wr R (A ++ small8 l k) vc ∧ Chg (MS R v) w wr ∧ Grows w v vc) (fun q _ => l.length - (intOf q).toNat)
 case atStart => exact ⟨0, Nat.zero_le _, rfl, v, by rw [H00.out]; exact H.out, Chg.refl _ _, Grows.refl _ _⟩
 case round =>
  obtain ⟨k, hk, rfl, vc, hp, hch, hgr⟩ := hrel
  have hlen : (A ++ small8 l k).length = A.length + k := by unfold small8; rw [List.length_append, List.length_map, List.length_take]; omega
  obtain ⟨n1, hn1⟩ : ∃ n, (A ++ small8 l k).length = n := ⟨_, rfl⟩
  have hnb : n1 ≤ 100010 := by omega
  obtain ⟨c0, c0'⟩ := hp.c0
  have hRl := hp.c0.lt
  have hrow := hp.row
  rw [hn1] at hrow
  obtain ⟨ac, cc, rfl, _, _⟩ := hrow.shape
  have HP := Lib.hid hp
  have HROW := Lib.hid hrow
  have HCH := Lib.hid hch
  have HGR := Lib.hid hgr
  clear hp hrow hch hgr
  by_cases hlt : k < l.length
  ·obtain ⟨bw, ow, e2, y0⟩ := Ints.spot (Ints.stays (HCH.out.stays HS.out) HL.out) hlt
   subst e2
   have HSC := Lib.hid (small8_succ l hlt)
   generalize l.getD k 0 = u at *
   obtain ⟨bb, hbb⟩ : ∃ b, by8 u = b := ⟨_, rfl⟩
   rw [hbb] at HSC
   have U1 : IntKind.u8.wrap u = (bb.toNat : Int) := by rw [← hbb]; exact wrap_by8 _
   have HSRC : Hid (∀ W : World, SrcSl (W.alloc (.cells #[.int .u8 (bb.toNat : Int)] 5)) 1 (.slice (some ⟨W.heap.size, 0, none⟩) 1 1) 1 (bys [bb])) := fun W => src_bytes W [bb] 1 rfl _
   have HX1 : Hid (bys (A ++ small8 l (k + 1)) = bys (A ++ small8 l k) ++ bys [bb] ∧ (A ++ small8 l (k + 1)).length = n1 + 1) := by
    refine ⟨by rw [HSC.out, ← List.append_assoc, bys_app], ?_⟩
    rw [HSC.out, ← List.append_assoc, List.length_append, hn1]
    rfl
   clear hbb hn1 hlen
   go_wp2_with (first
    | (at_builtin; refine wpList_append_row rfl _ _ 69 rfl (R + 1) 5 i0 (.int .u8 0) 1 1 Tryz.underlying69 hi0 hz0 hz1 hz2 rfl (by decide) _ _ _ rfl (by exact HROW.out.ext ((Ext.refl _).alloc _) (by decide)) 1 (bys [bb]) (by exact HSRC.out _) (by unfold maxLen; omega) (by omega) (by exact Nat.le_trans hRl (Ext.size (show Ext wr _ by ((repeat (first | assumption | exact Ext.refl _ | (exact And.left (by assumption)) | refine Ext.alloc ?_ _ | refine Ext.drew ?_ | refine Ext.drewN ?_ _ | refine Ext.setCell ?_ (by simp) _ | refine Ext.setCell ?_ (by simp; omega) _ | refine Ext.trans ?_ (by assumption))); done)))) ?_; intro v5 W5w rv5; have HG := Lib.hid (HP.out.grow ((Ext.refl _).alloc _) rv5 HX1.out.1 HX1.out.2); obtain ⟨k20, k21⟩ := HG.out.2; obtain ⟨a5, c5, rfl, _, _⟩ := rv5.1.shape; clear rv5))
   go_roundw
   case rel => exact ⟨k + 1, by omega, by go_num, _, HG.out.1.1, MS.trans HCH.out HGR.out HG.out.1.2.1, HGR.out.trans HCH.out HG.out.1.2.2⟩
   case measure => simp [intOf]; omega
  ·obtain rfl : k = l.length := by omega
   have hall : A ++ small8 l l.length = A ++ l.map by8 := by unfold small8; rw [List.take_length]
   have HALL := Lib.hid hall
   clear hlt hk hall
   go_wp2_with fail
   go_end0
   rw [← HALL.out]
   exact ⟨rfl, _, HP.out, HCH.out, HGR.out⟩
theorem eight_at' (n : Int) (i : Nat) (hi : i < 8) : IntKind.u8.wrap (n / 2 ^ (56 - 8 * (i : Int)).toNat) = (((eightL n).getD i 0).toNat : Int) := by
 rw [IntKind.wrap_u8]
 match i, hi with
 | 0, _ => show _ = ((by8 _).toNat : Int); rw [by8_val]; simp; omega
 | 1, _ => show _ = ((by8 _).toNat : Int); rw [by8_val]; simp; omega
 | 2, _ => show _ = ((by8 _).toNat : Int); rw [by8_val]; simp; omega
 | 3, _ => show _ = ((by8 _).toNat : Int); rw [by8_val]; simp; omega
 | 4, _ => show _ = ((by8 _).toNat : Int); rw [by8_val]; simp; omega
 | 5, _ => show _ = ((by8 _).toNat : Int); rw [by8_val]; simp; omega
 | 6, _ => show _ = ((by8 _).toNat : Int); rw [by8_val]; simp
 | 7, _ => show _ = ((by8 _).toNat : Int); rw [by8_val]; simp
theorem eight_take' (n : Int) {i : Nat} (hi : i < 8) : (eightL n).take (i + 1) = (eightL n).take i ++ [(eightL n).getD i 0] := by
 rw [List.take_add_one, List.getElem?_eq_getElem (by rw [eight_len]; exact hi)]
 simp [List.getD, List.getElem?_eq_getElem (show i < (eightL n).length by rw [eight_len]; exact hi)]
theorem manyTo_succ' (l : List Int) {i : Nat} (h : i < l.length) : manyTo l (i + 1) = manyTo l i ++ eightL (l.getD i 0) := by
 unfold manyTo
 rw [List.take_add_one, List.flatMap_append, ← List.cons_append, List.getElem?_eq_getElem h]
 simp [List.getD, List.getElem?_eq_getElem h]
theorem manyTo_len (l : List Int) {i : Nat} (h : i ≤ l.length) : (manyTo l i).length = 1 + 8 * i := by
 unfold manyTo
 rw [List.length_cons, flat_eight, List.length_take]
 omega
theorem penMany_any {S : Nat → Prop} {R : Nat} {A : List UInt8} {v : Value} (l : List Int) (lv : Value) {w : World} (h : Pen w R A v) (hl : Ints w S lv l) (hS : ∀ b, S b → ¬ MS R v b) (h1 : A.length ≤ 10000) (h2 : l.length ≤ 1000) :
  Calls Tryz.prog 39 #[.pointer (some ⟨R, 0, none⟩), lv] w fun e w' => e = .returned (.tuple #[]) ∧ ∃ v', Pen w' R (A ++ manyL l) v' ∧ Chg (MS R v) w w' ∧ Grows w v v' := by
 have H := Lib.hid h
 have HL := Lib.hid hl
 have HS := Lib.hid hS
 have hsz : ∀ b, S b → b < w.heap.size ∨ True := fun _ _ => .inr trivial
 obtain ⟨la, lc, rfl, _, _, _⟩ := hl
 have RA := alloc_keep
 obtain ⟨i0, hi0, hz0, hz1, hz2⟩ := info_parts infoB
 have hRl := h.c0.lt
 have hm0 : A ++ ([(l.length : Int)] : List Int).map by8 = A ++ manyTo l 0 := by unfold manyTo; simp
 have HM0 := Lib.hid hm0
 have HI1 := Lib.hid (ints_at w (l.length : Int) (I64.nat (by omega)) 3)
 have HSM : Hid (∀ b, b = w.heap.size → ¬ MS R v b) := by
  intro b hb hm
  subst hb
  rcases hm with hm | hm
  ·omega
  ·have := h.row.lt2 (by decide) _ hm
   omega
 clear h hS hm0 hsz
 go_enter Tryz.func39, Tryz.ntmps39
 go_upto_region 1 with (first
  | (go_at_call 38; go_loud ((with_reducible refine (penSmall_any [(l.length : Int)] _ (H.out.ext ((Ext.refl _).alloc _)) HI1.out HSM.out (by omega) (by simp)).mono ?_); rintro e w2 ⟨rfl, v2, hp2, hc2, hg2⟩; rw [HM0.out] at hp2)))
 obtain ⟨c20, c20'⟩ := hp2.c0
 have HP2 := Lib.hid hp2
 have HC2 := Lib.hid (show Chg (MS R v) w w2 from (Chg.of_ext ((Ext.refl w).alloc _)).trans (hc2))
 have HG2 := Lib.hid (show Grows w v v2 from fun g hg => (hg2 g hg).imp id fun h => Nat.le_trans (Ext.size ((Ext.refl w).alloc _)) h)
 clear hp2 hc2 hg2 c20 c20'
 go_wp2_with fail
 go_loopw [14] (fun q wr => ∃ k : Nat, k ≤ l.length ∧ q = .int .i64 k ∧ ∃ vc, Pen wr R (A ++ manyTo l k) vc ∧ Chg (MS R v) w wr ∧ Grows w v vc) (fun q _ => l.length - (intOf q).toNat)
 case atStart => exact ⟨0, Nat.zero_le _, rfl, v2, HP2.out, HC2.out, HG2.out⟩
 case round =>
  obtain ⟨k, hk, rfl, vc, hp, hch, hgr⟩ := hrel
  have HP := Lib.hid hp
  have HCH := Lib.hid hch
  have HGR := Lib.hid hgr
  have KI : IntKind.i64.wrap ((k : Int) + 1) = (k : Int) + 1 := IntWalk.i64_in _ (by omega)
  clear hp hch hgr
  by_cases hlt : k < l.length
  ·obtain ⟨bw, ow, e2, y0⟩ := Ints.spot (Ints.stays (HCH.out.stays HS.out) HL.out) hlt
   subst e2
   have HSC := Lib.hid (manyTo_succ' l hlt)
   have HLN := Lib.hid (manyTo_len l (Nat.le_of_lt hlt))
   generalize l.getD k 0 = u at *
   generalize hB : manyTo l k = Bk at *
   clear hB
   have hs0 : A ++ Bk ++ (eightL u).take 0 = A ++ Bk := by simp
   have HS0 := Lib.hid hs0
   clear hs0
   go_wp2_with fail
   go_loopw [6] (fun q wr => ∃ j : Nat, j ≤ 8 ∧ q = .int .i64 (56 - 8 * (j : Int)) ∧ ∃ vc, Pen wr R (A ++ Bk ++ (eightL u).take j) vc ∧ Chg (MS R v) w wr ∧ Grows w v vc) (fun q _ => (intOf q + 8).toNat)
   case atStart => exact ⟨0, Nat.zero_le _, rfl, vc, by rw [HS0.out]; exact HP.out, HCH.out, HGR.out⟩
   case round =>
    obtain ⟨j, hj, rfl, vd, hp, hch, hgr⟩ := hrel
    have hlen : (A ++ Bk ++ (eightL u).take j).length = A.length + (1 + 8 * k) + j := by rw [List.length_append, List.length_append, HLN.out, List.length_take, eight_len]; omega
    obtain ⟨n1, hn1⟩ : ∃ n, (A ++ Bk ++ (eightL u).take j).length = n := ⟨_, rfl⟩
    have hnb : n1 ≤ 20010 := by omega
    obtain ⟨c0, c0'⟩ := hp.c0
    have hRl2 := hp.c0.lt
    have hrow := hp.row
    rw [hn1] at hrow
    obtain ⟨ac, cc, rfl, _, _⟩ := hrow.shape
    have HPJ := Lib.hid hp
    have HROW := Lib.hid hrow
    have HCJ := Lib.hid hch
    have HGJ := Lib.hid hgr
    clear hp hrow hch hgr
    by_cases hlt8 : j < 8
    ·obtain ⟨kk, hkk⟩ : ∃ k : Int, 56 - 8 * (j : Int) = k := ⟨_, rfl⟩
     have hv := eight_at' u j hlt8
     have HTK := Lib.hid (eight_take' u hlt8)
     obtain ⟨bb, hbb⟩ : ∃ b, (eightL u).getD j 0 = b := ⟨_, rfl⟩
     rw [hbb] at hv HTK
     rw [hkk] at hv ⊢
     have K0 : 0 ≤ kk := by omega
     have K1 : kk ≤ 64 := by omega
     have TK : decide (0 ≤ kk) = true := decide_eq_true K0
     have KS : IntKind.i64.wrap (kk - 8) = kk - 8 := IntWalk.i64_in _ (by omega)
     have HKK := Lib.hid hkk
     have HSRC : Hid (∀ W : World, SrcSl (W.alloc (.cells #[.int .u8 (bb.toNat : Int)] 5)) 1 (.slice (some ⟨W.heap.size, 0, none⟩) 1 1) 1 (bys [bb])) := fun W => src_bytes W [bb] 1 rfl _
     have HX1 : Hid (bys (A ++ Bk ++ (eightL u).take (j + 1)) = bys (A ++ Bk ++ (eightL u).take j) ++ bys [bb] ∧ (A ++ Bk ++ (eightL u).take (j + 1)).length = n1 + 1) := by
      refine ⟨by rw [HTK.out, ← List.append_assoc, bys_app], ?_⟩
      rw [HTK.out, ← List.append_assoc, List.length_append, hn1]
      rfl
     clear hbb hkk hn1 hlen
     go_upto_region 7 with fail
     rename World => wi
     refine wp_region_rtt (fun w' => w'.cell? ⟨R, 0, none⟩ = some (.slice ac n1 cc)) 13 [0, 1, 2, 3, 4, 5, 6, 7, 8] [9, 10, 11, 12, 13] (by kernel_rfl) (by kernel_rfl) (fun _ _ _ _ _ h => h) (by exact c0) ?_
     (try simp only [pickOps, List.filterMap_cons, List.filterMap_nil, List.getElem?_cons_zero, List.getElem?_cons_succ])
     repeat (
      refine readsQ_do (by rfl) ?_
      apply Exists.intro
      refine ⟨fun w' hw' => ?_, ?_⟩
      focus
       (try dsimp only at hw')
       go_split_ands
       go_simp
       (try with_reducible rfl)
      (try dsimp only [Act.put])
      (try simp only [List.setIfInBounds_toArray, List.set_cons_succ, List.set_cons_zero]))
     refine readsQ_nil ?_
     refine tailW_step ?_
     go_wp2_with fail
     have ha1 : Ext wi ((wi.drew).alloc (.cells #[.int .u8 (bb.toNat : Int)] 5)) := by ((repeat (first | assumption | exact Ext.refl _ | (exact And.left (by assumption)) | refine Ext.alloc ?_ _ | refine Ext.drew ?_ | refine Ext.drewN ?_ _ | refine Ext.setCell ?_ (by simp) _ | refine Ext.setCell ?_ (by simp; omega) _ | refine Ext.trans ?_ (by assumption))); done)
     refine nextW_go (by exact Ext.cell ha1 c0) ?_
     refine tailW_step ?_
     go_wp2_with (first
      | (at_builtin; refine wpList_append_row rfl _ _ 69 rfl (R + 1) 5 i0 (.int .u8 0) 1 1 Tryz.underlying69 hi0 hz0 hz1 hz2 rfl (by decide) _ _ _ rfl (by exact HROW.out.ext ha1 (by decide)) 1 (bys [bb]) (by exact HSRC.out _) (by unfold maxLen; omega) (by omega) (by exact Nat.le_trans hRl2 (Ext.size ha1)) ?_; intro v5 W5w rv5; have HG := Lib.hid (HPJ.out.grow ha1 rv5 HX1.out.1 HX1.out.2); obtain ⟨k20, k21⟩ := HG.out.2; obtain ⟨a5, c5, rfl, _, _⟩ := rv5.1.shape; clear rv5))
     refine nextW_go (by exact k20) ?_
     refine tailW_step ?_
     go_wp2_with fail
     refine nextW_go (by exact k20) ?_
     refine tailW_step ?_
     go_wp2_with fail
     refine nextW_go (by exact k20) ?_
     refine tailW_step ?_
     go_wp2_with fail
     refine nextW_end ?_
     go_wp2_with fail
     go_roundw
     case rel => exact ⟨j + 1, by omega, by have := HKK.out; go_num, _, HG.out.1.1, MS.trans HCJ.out HGJ.out HG.out.1.2.1, HGJ.out.trans HCJ.out HG.out.1.2.2⟩
     case measure => have := HKK.out; simp [intOf]; omega
    ·obtain rfl : j = 8 := by omega
     clear hlt8 hj
     have he8 : A ++ Bk ++ (eightL u).take 8 = A ++ manyTo l (k + 1) := by rw [HSC.out, List.append_assoc, List.take_of_length_le (Nat.le_of_eq (eight_len u))]
     have HE8 := Lib.hid he8
     clear he8
     go_wp2_with fail
     go_roundw
     case rel => exact ⟨k + 1, by omega, by go_num, _, by rw [← HE8.out]; exact HPJ.out, HCJ.out, HGJ.out⟩
     case measure => simp [intOf]; omega
  ·obtain rfl : k = l.length := by omega
   clear hlt hk
   go_wp2_with fail
   go_end0
   rw [← manyTo_all]
   exact ⟨rfl, _, HP.out, HCH.out, HGR.out⟩
end Go.Proofs.YtgahbngbpfilgaaGreat
end
section
set_option maxHeartbeats 4000000
set_option maxRecDepth 100000
namespace Go.Proofs.YtgahbngbpfilgaaGreat
open Go Go.RowKit
theorem by8_wrap (n : Int) : by8 (wrap64 n) = by8 n := by
 unfold by8
 have : wrap64 n % 256 = n % 256 := by unfold wrap64; omega
 rw [this]
theorem i64_wrap (n : Int) : I64 (wrap64 n) := by
 unfold I64 wrap64
 omega
theorem frameV_i64 {w : World} {S : Nat → Prop} {v : Value} {x : GFrame} (h : FrameV w S v x) : I64 x.func ∧ I64 x.at_ := by
 obtain ⟨_, _, _, i0, i1, _, _⟩ := h
 exact ⟨i0, i1⟩
def writeS (p : List GFunc) (s : GState) : List UInt8 := if stateErr p s = 0 then stateL s else []
structure PT (W : World) (R : Nat) (v : Value) (wr : World) (A : List UInt8) (vc : Value) : Prop where
 pen : Pen wr R A vc
 chg : Chg (MS R v) W wr
 grow : Grows W v vc
theorem Pen.pt {w : World} {R : Nat} {A : List UInt8} {v : Value} (h : Pen w R A v) : PT w R v w A v := ⟨h, Chg.refl _ _, Grows.refl _ _⟩
theorem PT.ext {W wr w1 : World} {R : Nat} {A : List UInt8} {v vc : Value} (h : PT W R v wr A vc) (he : Ext wr w1) : PT W R v w1 A vc := ⟨h.pen.ext he, h.chg.trans (Chg.of_ext he), h.grow⟩
theorem PT.step {W wr w1 w2 : World} {R : Nat} {A A' : List UInt8} {v vc v' : Value} (h : PT W R v wr A vc) (he : Ext wr w1) (hp : Pen w2 R A' v') (hc : Chg (MS R vc) w1 w2) (hg : Grows w1 vc v') : PT W R v w2 A' v' :=
 ⟨hp, MS.trans (h.ext he).chg h.grow hc, h.grow.trans (h.ext he).chg hg⟩
theorem PT.join {W wr w2 : World} {R : Nat} {A A' : List UInt8} {v vc v' : Value} (h : PT W R v wr A vc) (h2 : PT wr R vc w2 A' v') : PT W R v w2 A' v' := h.step (Ext.refl _) h2.pen h2.chg h2.grow
theorem PT.as {W wr : World} {R : Nat} {A A' : List UInt8} {v vc : Value} (h : PT W R v wr A vc) (e : A = A') : PT W R v wr A' vc := e ▸ h
theorem Pen.low {w : World} {R : Nat} {A : List UInt8} {v : Value} (h : Pen w R A v) : ∀ b, b < R → ¬ MS R v b := by
 intro b hb hm
 rcases hm with hm | hm
 ·omega
 ·have := h.row.le _ hm
  omega
theorem Pen.high {w : World} {R : Nat} {A : List UInt8} {v : Value} (h : Pen w R A v) : ∀ b, b = w.heap.size → ¬ MS R v b := by
 intro b hb hm
 have := h.c0.lt
 rcases hm with hm | hm
 ·omega
 ·have := h.row.lt2 (by decide) _ hm
  omega
theorem PT.cell {W wr : World} {R : Nat} {A : List UInt8} {v vc : Value} (h : PT W R v wr A vc) {b o : Nat} {x : Value} (hm : ¬ MS R v b) (hc : W.cell? ⟨b, o, none⟩ = some x) : wr.cell? ⟨b, o, none⟩ = some x := h.chg.cell hm hc
theorem saveWrite_any (p : List GFunc) (v : Value) (S T : Nat → Prop) (s : GState) (vs : Value) (w : World) (hp : Funcs w S v p) (hs : StateV w T vs s) (hm : stateErr p s = 0 → Mini s) :
  Calls Tryz.prog 17 #[v, vs] w fun e w' => e = .returned (.tuple #[.string ⟨(writeS p s).toArray⟩, .int .i64 (stateErr p s)]) ∧ Ext w w' := by
 have HP := Lib.hid hp
 have HM := Lib.hid hm
 obtain ⟨ap, capp, rfl, _, _, _⟩ := hp
 obtain ⟨sa, sc, sb, sd, rfl⟩ := hs.few
 have RA := alloc_keep
 have b0 := (Cx.new w [.slice sa s.fibers.length sc, .int .i64 s.now, .slice sb s.out.length sd] 26 (j := 0) rfl).1
 have b1 := (Cx.new w [.slice sa s.fibers.length sc, .int .i64 s.now, .slice sb s.out.length sd] 26 (j := 1) rfl).1
 have b2 := (Cx.new w [.slice sa s.fibers.length sc, .int .i64 s.now, .slice sb s.out.length sd] 26 (j := 2) rfl).1
 have hE1 : Ext w (w.alloc (.cells #[.slice sa s.fibers.length sc, .int .i64 s.now, .slice sb s.out.length sd] 26)) := (Ext.refl w).alloc _
 obtain ⟨r, hr⟩ : ∃ r, stateErr p s = r := ⟨_, rfl⟩
 have HR := Lib.hid hr
 rw [hr]
 obtain ⟨nw, hnw⟩ : ∃ z : Int, s.now = z := ⟨_, rfl⟩
 rw [hnw] at b1 hE1 ⊢
 rw [hnw] at b0 b2 hs
 have HS := Lib.hid hs
 have HE1 := Lib.hid hE1
 have HNW := Lib.hid hnw
 clear hs hm hr hE1 hnw
 go_enter Tryz.func17, Tryz.ntmps17
 go_upto_region 2 with (first
  | (go_at_call 29; (with_reducible refine (stateCheck_any p _ S T s _ _ (Funcs.stays HE1.out.stays HP.out) (StateV.stays HE1.out.stays HS.out)).mono ?_); rintro e w2 ⟨rfl, hb2⟩; rw [HR.out]))
 by_cases hr0 : r = 0
 ·subst hr0
  have HMM := Lib.hid (HM.out HR.out)
  have hWS : writeS p s = stateL s := by unfold writeS; rw [if_pos HR.out]
  have HWS := Lib.hid hWS
  clear hWS HM
  have hf5 := HMM.out.fibers
  have ho30 := HMM.out.out
  have N1 : Hid (I64 (wrap64 (nw + 1)) ∧ I64 (s.fibers.length : Int) ∧ [wrap64 (nw + 1), (s.fibers.length : Int)].map by8 = accO s 0) := ⟨i64_wrap _, I64.nat (by omega), by unfold accO; rw [HNW.out]; simp [by8_wrap]⟩
  have b0' := Ext.cell hb2 b0
  have b1' := Ext.cell hb2 b1
  have b2' := Ext.cell hb2 b2
  clear b0 b1 b2
  go_upto_region 5 with fail
  have hE3 : Ext w2 (w2.alloc (.cells #[.slice none 0 0] 71)) := (Ext.refl _).alloc _
  have hp3 : Pen (w2.alloc (.cells #[.slice none 0 0] 71)) w2.heap.size [] (.slice none 0 0) := ⟨Cx.new w2 [.slice none 0 0] _ (j := 0) rfl, RowAt.nil _ _ _ _⟩
  have hlt : w.heap.size < w2.heap.size := lt_of_cell b0'
  have hs3 := StateV.stays (stays_lt (B := w2.heap.size) ((HE1.out.trans hb2).trans hE3) (Nat.le_of_lt hlt)) HS.out
  have b0 := Ext.cell hE3 b0'
  have b1 := Ext.cell hE3 b1'
  have b2 := Ext.cell hE3 b2'
  have HE3 := Lib.hid ((HE1.out.trans hb2).trans hE3)
  obtain ⟨tb, htb⟩ : ∃ tb, w.heap.size = tb := ⟨_, rfl⟩
  obtain ⟨R, hR⟩ : ∃ R, w2.heap.size = R := ⟨_, rfl⟩
  rw [hR] at hp3 hs3 hlt ⊢
  have HWR : Hid (w.heap.size ≤ R) := Nat.le_of_lt hlt
  rw [htb] at b0 b1 b2 hlt ⊢
  generalize w2.alloc (.cells #[.slice none 0 0] 71) = W3 at *
  have HP3 := Lib.hid hp3
  have HS3 := Lib.hid hs3
  have HB := Lib.hid (⟨b0, b2, hlt⟩ : _ ∧ _ ∧ _)
  clear hE3 hp3 hs3 b0' b1' b2' hb2 HE1 HS HP htb hR b2 hlt
  have HI0 := Lib.hid (ints_pair W3 _ _ N1.out.1 N1.out.2.1 3)
  go_upto_region 6 with (first
   | (go_at_call 38; go_loud ((with_reducible refine (penSmall_any [wrap64 (nw + 1), (s.fibers.length : Int)] _ (HP3.out.ext ((Ext.refl W3).alloc _)) HI0.out HP3.out.high (by simp) (by simp)).mono ?_); rintro e w4 ⟨rfl, v4, hp4, hc4, hg4⟩; rw [N1.out.2.2, List.nil_append] at hp4)))
  have HT4 := Lib.hid (HP3.out.pt.step ((Ext.refl W3).alloc _) hp4 hc4 hg4)
  have b0 := HT4.out.cell (HP3.out.low _ HB.out.2.2) HB.out.1
  clear b1 hp4 hc4 hg4
  go_wp2_with fail
  go_loopw [32] (fun q wr => ∃ k : Nat, k ≤ s.fibers.length ∧ q = .int .i64 (k : Int) ∧ ∃ vc, PT W3 R (.slice none 0 0) wr (accO s k) vc) (fun q _ => s.fibers.length - (intOf q).toNat)
  case atStart => exact ⟨0, Nat.zero_le _, rfl, _, HT4.out⟩
  case round =>
   obtain ⟨k, hk, rfl, vc, ht⟩ := hrel
   clear HT4 b0
   have hal := accO_le HMM.out k
   have KI : IntKind.i64.wrap ((k : Int) + 1) = (k : Int) + 1 := IntWalk.i64_in _ (by omega)
   have HT := Lib.hid ht
   have hsk := Lib.hid (StateV.stays (ht.chg.stays HP3.out.low) HS3.out)
   have b2 := ht.cell (HP3.out.low _ HB.out.2.2) HB.out.2.1
   clear ht
   rename World => wk
   by_cases hlt : k < s.fibers.length
   ·obtain ⟨gf, og, af, cf, rfl, y0, y1, hfv⟩ := (fibers_of hsk.out).at' hlt
    have HSUC := Lib.hid (accO_succ s hlt)
    have HLE := Lib.hid (fun i => accI_le HMM.out hlt i)
    have HFR := Lib.hid (HMM.out.frames k hlt)
    have HRW := Lib.hid (fun j hj => HMM.out.rows k j hlt hj)
    generalize (s.fibers.getD k default) = f at *
    have HFV := Lib.hid hfv
    clear hfv b2
    obtain ⟨cl, hcl⟩ : ∃ z : Int, f.caller = z := ⟨_, rfl⟩
    have hfr := HFR.out
    have N2 : Hid (I64 (wrap64 (cl + 1)) ∧ I64 (f.frames.length : Int) ∧ accO s k ++ [wrap64 (cl + 1), (f.frames.length : Int)].map by8 = accI (accO s k) f 0) := ⟨i64_wrap _, I64.nat (by omega), by unfold accI; rw [hcl]; simp [by8_wrap]⟩
    rw [hcl] at y1
    clear hcl hfr
    go_upto_region 9 with fail
    have q4 : Ext wk (wk.alloc (.cells #[.slice af f.frames.length cf, .int .i64 cl] 41)) := (Ext.refl _).alloc _
    have f0 := (Cx.new wk [.slice af f.frames.length cf, .int .i64 cl] 41 (j := 0) rfl).1
    have f1 := (Cx.new wk [.slice af f.frames.length cf, .int .i64 cl] 41 (j := 1) rfl).1
    have HT5 := Lib.hid (HT.out.ext q4)
    have HFH := Lib.hid (HT.out.pen.high _ rfl)
    have HFV4 := Lib.hid (fiberV_frames (FiberV.stays q4.stays HFV.out))
    obtain ⟨fb, hfb⟩ : ∃ fb, wk.heap.size = fb := ⟨_, rfl⟩
    rw [hfb] at HFH f0 f1 ⊢
    generalize wk.alloc (.cells #[.slice af f.frames.length cf, .int .i64 cl] 41) = W4 at *
    have HI1 := Lib.hid (ints_pair W4 _ _ N2.out.1 N2.out.2.1 3)
    have HF0 := Lib.hid f0
    clear q4 hfb y0 y1 hsk HFV
    go_upto_region 10 with (first
     | (go_at_call 38; (with_reducible refine (penSmall_any [wrap64 (cl + 1), (f.frames.length : Int)] _ (HT5.out.pen.ext ((Ext.refl W4).alloc _)) HI1.out HT5.out.pen.high (by omega) (by simp)).mono ?_); rintro e w5 ⟨rfl, v5, hp5, hc5, hg5⟩; rw [N2.out.2.2] at hp5))
    have HT6 := Lib.hid (HT5.out.pen.pt.step ((Ext.refl W4).alloc _) hp5 hc5 hg5)
    clear f0 f1 hp5 hc5 hg5
    have f0 := HT6.out.cell HFH.out HF0.out
    generalize hA0 : accO s k = A0 at *
    clear hA0
    go_wp2_with fail
    go_loopw [48] (fun q wr => ∃ i : Nat, i ≤ f.frames.length ∧ q = .int .i64 (i : Int) ∧ ∃ vd, PT W4 R vc wr (accI A0 f i) vd) (fun q _ => f.frames.length - (intOf q).toNat)
    case atStart => exact ⟨0, Nat.zero_le _, rfl, _, HT6.out⟩
    case round =>
     obtain ⟨i, hi, rfl, vd, htd⟩ := hrel
     clear HT6 f0
     have hnb := HLE.out i
     have hfr6 := HFR.out
     have KJ : IntKind.i64.wrap ((i : Int) + 1) = (i : Int) + 1 := IntWalk.i64_in _ (by omega)
     have HTD := Lib.hid htd
     have hfi := Lib.hid (Frames.stays (htd.chg.stays HT5.out.pen.low) HFV4.out)
     clear htd
     rename World => wi
     by_cases hlti : i < f.frames.length
     ·obtain ⟨bx, ox, al, cl2, as_, cs, rfl, ⟨x00, x01, x02, x03⟩, hxv⟩ := (hfi.out).at' hlti
      obtain ⟨hrl, hrs⟩ := frameV_rows hxv
      have HIX := Lib.hid (frameV_i64 hxv)
      have hsm := HRW.out i hlti
      have HNX := Lib.hid (accI_succ A0 f hlti)
      generalize f.frames.getD i default = x at *
      obtain ⟨fz, hfz⟩ : ∃ z : Int, x.func = z := ⟨_, rfl⟩
      obtain ⟨az, haz⟩ : ∃ z : Int, x.at_ = z := ⟨_, rfl⟩
      rw [hfz] at x00
      rw [haz] at x01
      have HNX2 : Hid (accI A0 f (i + 1) = accI A0 f i ++ [fz, az].map by8 ++ manyL x.locals ++ manyL x.stack ∧ I64 fz ∧ I64 az) := by
       refine ⟨?_, hfz ▸ HIX.out.1, haz ▸ HIX.out.2⟩
       rw [HNX.out, hfz, haz]
       rfl
      have HRL := Lib.hid hrl
      have HRS := Lib.hid hrs
      clear hxv hrl hrs hfz haz HIX HNX
      go_upto_region 13 with fail
      have q6 : Ext wi (wi.alloc (.cells #[.int .i64 fz, .int .i64 az, .slice al x.locals.length cl2, .slice as_ x.stack.length cs] 43)) := (Ext.refl _).alloc _
      have g0 := (Cx.new wi [.int .i64 fz, .int .i64 az, .slice al x.locals.length cl2, .slice as_ x.stack.length cs] 43 (j := 0) rfl).1
      have g1 := (Cx.new wi [.int .i64 fz, .int .i64 az, .slice al x.locals.length cl2, .slice as_ x.stack.length cs] 43 (j := 1) rfl).1
      have g2 := (Cx.new wi [.int .i64 fz, .int .i64 az, .slice al x.locals.length cl2, .slice as_ x.stack.length cs] 43 (j := 2) rfl).1
      have g3 := (Cx.new wi [.int .i64 fz, .int .i64 az, .slice al x.locals.length cl2, .slice as_ x.stack.length cs] 43 (j := 3) rfl).1
      have HT7 := Lib.hid (HTD.out.ext q6)
      have HXH := Lib.hid (HTD.out.pen.high _ rfl)
      have HL6 := Lib.hid (⟨Ints.stays q6.stays HRL.out, Ints.stays q6.stays HRS.out⟩ : _ ∧ _)
      obtain ⟨xb, hxb⟩ : ∃ xb, wi.heap.size = xb := ⟨_, rfl⟩
      rw [hxb] at HXH g0 g1 g2 g3 ⊢
      generalize wi.alloc (.cells #[.int .i64 fz, .int .i64 az, .slice al x.locals.length cl2, .slice as_ x.stack.length cs] 43) = W6 at *
      have HI2 := Lib.hid (ints_pair W6 _ _ HNX2.out.2.1 HNX2.out.2.2 3)
      have HG := Lib.hid (⟨g2, g3⟩ : _ ∧ _)
      clear q6 hxb x00 x01 x02 x03 hfi HRL HRS
      go_upto_region 14 with (first
       | (go_at_call 38; (with_reducible refine (penSmall_any [fz, az] _ (HT7.out.pen.ext ((Ext.refl W6).alloc _)) HI2.out HT7.out.pen.high (by omega) (by simp)).mono ?_); rintro e w7 ⟨rfl, v7, hp7, hc7, hg7⟩))
      have HT8 := Lib.hid (HT7.out.pen.pt.step ((Ext.refl W6).alloc _) hp7 hc7 hg7)
      have hl8 : (accI A0 f i ++ [fz, az].map by8).length ≤ 6000 := by rw [List.length_append, List.length_map, List.length_cons, List.length_cons, List.length_nil]; omega
      have hl9 : (accI A0 f i ++ [fz, az].map by8 ++ manyL x.locals).length ≤ 7000 := by rw [List.length_append, many_len]; omega
      clear g0 g1 g2 g3 hp7 hc7 hg7
      have g2 := HT8.out.cell HXH.out HG.out.1
      go_upto_region 15 with (first
       | (go_at_call 39; (with_reducible refine (penMany_any x.locals _ HT8.out.pen (Ints.stays (HT8.out.chg.stays HT7.out.pen.low) HL6.out.1) HT8.out.pen.low (by omega) (by omega)).mono ?_); rintro e w8 ⟨rfl, v8, hp8, hc8, hg8⟩))
      have HT9 := Lib.hid (HT8.out.step (Ext.refl _) hp8 hc8 hg8)
      clear g2 hp8 hc8 hg8
      have g3 := HT9.out.cell HXH.out HG.out.2
      go_upto_region 16 with (first
       | (go_at_call 39; (with_reducible refine (penMany_any x.stack _ HT9.out.pen (Ints.stays (HT9.out.chg.stays HT7.out.pen.low) HL6.out.2) HT9.out.pen.low (by omega) (by omega)).mono ?_); rintro e w9 ⟨rfl, v9, hp9, hc9, hg9⟩))
      have HT10 := Lib.hid (HT7.out.join ((HT9.out.step (Ext.refl _) hp9 hc9 hg9).as HNX2.out.1.symm))
      clear g3 hp9 hc9 hg9
      go_wp2_with fail
      go_roundw
      case rel => exact ⟨i + 1, by omega, by go_num, _, HT10.out⟩
      case measure => simp [intOf]; omega
     ·obtain rfl : i = f.frames.length := by omega
      clear hlti hi
      go_wp2_with fail
      go_roundw
      case rel => exact ⟨k + 1, by omega, by go_num, _, (HT5.out.join HTD.out).as HSUC.out.symm⟩
      case measure => simp [intOf]; omega
   ·obtain rfl : k = s.fibers.length := by omega
    clear hlt hk
    go_upto_region 19 with (first
     | (go_at_call 39; (with_reducible refine (penMany_any s.out _ HT.out.pen (stateV_out hsk.out) HT.out.pen.low (by omega) (by omega)).mono ?_); rintro e w8 ⟨rfl, v8, hp8, hc8, hg8⟩))
    have HT9 := Lib.hid ((HT.out.step (Ext.refl _) hp8 hc8 hg8).as (accO_all s))
    have hn0 : 0 < (stateL s).length := by unfold stateL; simp
    have HCV := bytes_str HT9.out.pen.row hn0
    obtain ⟨c0, c0'⟩ := HT9.out.pen.c0
    clear hp8 hc8 hg8 b2 hn0
    go_wp2_with fail
    go_ret2
    rw [HWS.out]
    exact ⟨rfl, Chg.ext_from HE3.out HT9.out.chg (fun q e => e.elim (fun e => e ▸ HWR.out) (fun e => by cases e))⟩
 ·have hWS : writeS p s = [] := by unfold writeS; rw [if_neg (by rw [HR.out]; exact hr0)]
  have HWS := Lib.hid hWS
  go_wp2_with fail
  go_ret2
  rw [HWS.out]
  exact ⟨rfl, HE1.out.trans hb2⟩
end Go.Proofs.YtgahbngbpfilgaaGreat
end
