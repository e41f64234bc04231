/- Merged texts: contracts and plain facts, one part behind another; each part begins with what it says. -/
import Derived.Test.YtgahbngbpfilgaaGBAB
import Derived.Test.YtgahbngbpfilgaaGBAC
import Derived.Test.YtgahbngbpfilgaaGBAD
import Derived.Test.YtgahbngbpfilgaaGBAE
import Derived.Test.YtgahbngbpfilgaaGBAF
import Derived.Test.YtgahbngbpfilgaaGBAH
import Derived.Test.YtgahbngbpfilgaaGBAT
import Derived.Test.YtgahbngbpfilgaaGBAY
import Derived.Deep.MidRow
section
/- Contract of the document's StateBytes. No condition but that there is no more of anything than in a right state. -/
set_option maxHeartbeats 4000000
set_option maxRecDepth 100000
namespace Go.Proofs.Ytgahbngbpfilgaa
open Go Go.RowKit

theorem fiberV_frames {w : World} {S : Nat → Prop} {a : Option Addr} {n c : Nat} {k : Int} {f : GFiber} (h : FiberV w S (.agg #[.slice a n c, .int .i64 k]) f) : Frames w S (.slice a n c) f.frames := by
  obtain ⟨x, e, h1, _⟩ := h
  simp only [Value.agg.injEq, Array.mk.injEq, List.cons.injEq, and_true] at e
  rw [e.1]
  exact h1
theorem frameV_rows {w : World} {S : Nat → Prop} {x : GFrame} {sl st : Value} (h : FrameV w S (.agg #[.int .i64 x.func, .int .i64 x.at_, sl, st]) x) : Ints w S sl x.locals ∧ Ints w S st x.stack := by
  obtain ⟨s, t, e, i0, i1, hl, hs⟩ := h
  simp only [Value.agg.injEq] at e
  simp at e
  obtain ⟨rfl, rfl⟩ := e
  exact ⟨hl, hs⟩
theorem stateV_out {w : World} {S : Nat → Prop} {x y : Value} {k : Int} {s : GState} (h : StateV w S (.agg #[x, .int .i64 k, y]) s) : Ints w S y s.out := by
  obtain ⟨a, b, e, _, _, h3⟩ := h
  simp only [Value.agg.injEq, Array.mk.injEq, List.cons.injEq, and_true] at e
  rw [e.2.2]
  exact h3
/-- string(b), of bytes in a row. -/
theorem bytes_str {w : World} {base : Nat} {v : Value} {l : List UInt8} {n : Nat} (h : RowAt w base 1 v n (bys l)) (hn : 0 < n) : (convert 62 9 v).run Try.prog w = .ok (.string ⟨l.toArray⟩) w := by
  obtain ⟨a, cap, rfl, h1, h2⟩ := h.shape
  obtain ⟨g, o, rfl, _, hc⟩ := h.cell hn
  have hl : l.length = n := by have := h.len; rw [bys_len] at this; omega
  subst hl
  refine run_convert_bytes_back w _ _ 5 ⟨g, o, none⟩ cap l Try.underlying62 Try.underlying5 Try.underlying9 fun j hj => ?_
  have e : (⟨g, o, none⟩ : Addr).add j = ⟨g, o + j, none⟩ := Addr.add_lit _ _ _
  rw [e, (hc j (by omega)).1]
  simp [bys, List.getElem?_eq_getElem hj]

/-- A row that grows, and boxes that it leaves as they are. -/
structure Acc (w wr : World) (tb n : Nat) (v : Value) (A : List UInt8) (bx : List (Nat × Nat × Value)) : Prop where
  ext : Ext w wr
  row : RowAt wr (tb + 1) 1 v n (bys A)
  box : ∀ x ∈ bx, wr.cell? ⟨x.1, x.2.1, none⟩ = some x.2.2 ∧ rowBlock v ≠ some x.1
theorem Acc.up {w wr W : World} {tb n : Nat} {v : Value} {A : List UInt8} {bx : List (Nat × Nat × Value)} (h : Acc w wr tb n v A bx) (he : Ext wr W) : Acc w W tb n v A bx :=
  ⟨h.ext.trans he, h.row.ext he (by decide), fun x hx => ⟨Ext.cell he (h.box x hx).1, (h.box x hx).2⟩⟩
theorem Acc.step {w wr W7 W8 : World} {tb n n' : Nat} {v v' : Value} {A : List UInt8} {xs : List Value} {A' : List UInt8} {bx : List (Nat × Nat × Value)} (hw : w.heap.size ≤ tb + 1) (h : Acc w wr tb n v A bx) (he : Ext wr W7)
    (hn : NewRow W7 W8 (tb + 1) 1 v v' n' xs) (hx : bys A' = xs) : Acc w W8 tb n' v' A' bx := by
  subst hx
  have h7 := h.up he
  refine ⟨Chg.ext_from h7.ext hn.2.1 (fun q e => by have := h7.row.le q e; omega), hn.1, fun x hx => ?_⟩
  obtain ⟨c1, c2⟩ := h7.box x hx
  refine ⟨hn.2.1.cell c2 c1, fun e => ?_⟩
  rcases hn.2.2 with h1 | h1
  · exact c2 (h1 ▸ e)
  · have := h1 _ e
    have := lt_of_cell c1
    omega
/-- A box that comes anew. -/
theorem Acc.add {w wr : World} {tb n : Nat} {v : Value} {A : List UInt8} {bx : List (Nat × Nat × Value)} (h : Acc w wr tb n v A bx) (cs : List Value) (t : TypeId) (ys : List (Nat × Nat × Value)) (hy : ∀ y ∈ ys, y.1 = wr.heap.size ∧ cs[y.2.1]? = some y.2.2) :
    Acc w (wr.alloc (.cells cs.toArray t)) tb n v A (ys ++ bx) := by
  have h7 := h.up ((Ext.refl wr).alloc (.cells cs.toArray t))
  refine ⟨h7.ext, h7.row, fun x hx => ?_⟩
  rcases List.mem_append.1 hx with hx | hx
  · obtain ⟨e1, e2⟩ := hy x hx
    rw [e1]
    refine ⟨(Cx.new wr cs t e2).1, fun e => ?_⟩
    have := h.row.lt2 (by decide) _ e
    omega
  · exact h7.box x hx
theorem Acc.drop {w wr : World} {tb n : Nat} {v : Value} {A : List UInt8} {bx ys : List (Nat × Nat × Value)} (h : Acc w wr tb n v A bx) (hy : ∀ y ∈ ys, y ∈ bx) : Acc w wr tb n v A ys := ⟨h.ext, h.row, fun x hx => h.box x (hy x hx)⟩

theorem stateBytes_any (s : GState) (vs : Value) (S : Nat → Prop) (w : World) (hs : StateV w S vs s) (hm : Mini s) :
    Calls Try.prog 11 #[vs] w fun e w' => e = .returned (.string ⟨(stateL s).toArray⟩) ∧ Ext w w' := by
  have HS := Lib.hid hs
  have HM := Lib.hid hm
  obtain ⟨sa, sc, sb, sd, rfl⟩ := hs.few
  have RA := alloc_keep
  obtain ⟨i0, hi0, hz0, hz1, hz2⟩ := info_parts infoB
  have hf5 := hm.fibers
  have ho30 := hm.out
  have b0 := (Cx.new w [.slice sa s.fibers.length sc, .int .i64 s.now, .slice sb s.out.length sd] 26 (j := 0) rfl).1
  have b1 := (Cx.new w [.slice sa s.fibers.length sc, .int .i64 s.now, .slice sb s.out.length sd] 26 (j := 1) rfl).1
  have b2 := (Cx.new w [.slice sa s.fibers.length sc, .int .i64 s.now, .slice sb s.out.length sd] 26 (j := 2) rfl).1
  have hE1 : Ext w (w.alloc (.cells #[.slice sa s.fibers.length sc, .int .i64 s.now, .slice sb s.out.length sd] 26)) := (Ext.refl w).alloc _
  obtain ⟨nw, hnw⟩ : ∃ z : Int, s.now = z := ⟨_, rfl⟩
  have hni : I64 nw := by
    obtain ⟨x, y, e, h1, h2, h3⟩ := hs
    rw [hnw] at h2
    exact h2
  obtain ⟨z1, hz1'⟩ : ∃ b, by8 (s.now + 1) = b := ⟨_, rfl⟩
  obtain ⟨z2, hz2'⟩ : ∃ b, by8 (s.fibers.length : Int) = b := ⟨_, rfl⟩
  have U1 : IntKind.u8.wrap (IntKind.i64.wrap (nw + 1)) = (z1.toNat : Int) := by
    rw [← hz1', hnw, by8_val, IntKind.wrap_u8, IntKind.wrap_i64]
    omega
  have U1' : wrap64 (nw + 1) % 256 = (z1.toNat : Int) := by
    rw [← hz1', hnw, by8_val]
    unfold wrap64
    omega
  have U2 : IntKind.u8.wrap (s.fibers.length : Int) = (z2.toNat : Int) := by rw [← hz2']; exact wrap_by8 _
  have HA0 : Hid (accO s 0 = [z1, z2]) := by unfold Hid accO; rw [hz1', hz2']; rfl
  rw [hnw] at b1 hE1 ⊢
  rw [hnw] at b0 b2
  have HEW := Lib.hid hE1
  have HSRC0 : Hid (∀ W : World, Ext w W → RowAt (W.alloc (.cells #[.int .u8 (z1.toNat : Int), .int .u8 (z2.toNat : Int)] 5)) W.heap.size 1 (.slice (some ⟨W.heap.size, 0, none⟩) 2 2) 2 (bys [z1, z2])) := fun W h =>
    RowAt.made W #[.int .u8 (z1.toNat : Int), .int .u8 (z2.toNat : Int)] 5 1 2 W.heap.size (Nat.le_refl _) (by unfold maxLen; omega) rfl
  clear hz1' hz2' hni hE1 hs hm
  go_enter Try.func11, Try.ntmps11
  go_upto_region 2 with fail
  have hr0 := HSRC0.out _ HEW.out
  have hq2 : Ext (w.alloc (.cells #[.slice sa s.fibers.length sc, .int .i64 nw, .slice sb s.out.length sd] 26)) ((w.alloc (.cells #[.slice sa s.fibers.length sc, .int .i64 nw, .slice sb s.out.length sd] 26)).alloc (.cells #[.int .u8 (z1.toNat : Int), .int .u8 (z2.toNat : Int)] 5)) := (Ext.refl _).alloc _
  replace b0 := Ext.cell hq2 b0
  replace b2 := Ext.cell hq2 b2
  obtain ⟨tb, htb⟩ : ∃ tb, w.heap.size = tb := ⟨_, rfl⟩
  have hsz : (w.alloc (.cells #[.slice sa s.fibers.length sc, .int .i64 nw, .slice sb s.out.length sd] 26)).heap.size = tb + 1 := by rw [← htb]; exact Array.size_push _
  rw [hsz] at hr0
  rw [htb] at b0 b2 ⊢
  have hacc : Acc w ((w.alloc (.cells #[.slice sa s.fibers.length sc, .int .i64 nw, .slice sb s.out.length sd] 26)).alloc (.cells #[.int .u8 (z1.toNat : Int), .int .u8 (z2.toNat : Int)] 5)) tb 2 (.slice (some ⟨tb + 1, 0, none⟩) 2 2) (accO s 0) [(tb, 0, .slice sa s.fibers.length sc), (tb, 2, .slice sb s.out.length sd)] := by
    refine ⟨HEW.out.alloc _, by rw [HA0.out]; exact hr0, fun x hx => ?_⟩
    simp only [List.mem_cons, List.not_mem_nil, or_false] at hx
    rcases hx with rfl | rfl
    · exact ⟨b0, by simp [rowBlock]⟩
    · exact ⟨b2, by simp [rowBlock]⟩
  generalize (w.alloc (.cells #[.slice sa s.fibers.length sc, .int .i64 nw, .slice sb s.out.length sd] 26)).alloc (.cells #[.int .u8 (z1.toNat : Int), .int .u8 (z2.toNat : Int)] 5) = W1 at *
  have HACC := Lib.hid hacc
  have HTB := Lib.hid (show w.heap.size ≤ tb + 1 by omega)
  clear hacc hr0 hq2 hsz U1 U1' U2 b0 b1 b2 HSRC0 HEW htb
  have hl0 : (accO s 0).length = 2 := by rw [HA0.out]; rfl
  go_wp2_with fail
  go_loopw [3, 4] (fun q3 q4 wr => ∃ k : Nat, k ≤ s.fibers.length ∧ q4 = .int .i64 (k : Int) ∧ Acc w wr tb (accO s k).length q3 (accO s k) [(tb, 0, .slice sa s.fibers.length sc), (tb, 2, .slice sb s.out.length sd)]) (fun _ q _ => s.fibers.length - (intOf q).toNat)
  case atStart => exact ⟨0, Nat.zero_le _, rfl, by rw [hl0]; exact HACC.out⟩
  case round =>
    obtain ⟨k, hk, rfl, hacc⟩ := hrel
    have hal := accO_le HM.out k
    have b0 := (hacc.box (tb, 0, .slice sa s.fibers.length sc) (by simp)).1
    have b2 := (hacc.box (tb, 2, .slice sb s.out.length sd) (by simp)).1
    dsimp only at b0 b2
    obtain ⟨n1, hn1⟩ : ∃ n, (accO s k).length = n := ⟨_, rfl⟩
    rw [hn1] at hacc hal
    obtain ⟨a4, c4, rfl, hc4, _⟩ := hacc.row.shape
    have HACC1 := Lib.hid hacc
    have HN1 := Lib.hid hn1
    have KI : IntKind.i64.wrap ((k : Int) + 1) = (k : Int) + 1 := IntWalk.i64_in _ (by omega)
    clear hacc HACC hl0 hn1
    rename World => wk
    by_cases hlt : k < s.fibers.length
    · obtain ⟨gf, og, af, cf, rfl, y00, y10, hfv⟩ := (fibers_of HS.out).at' hlt
      have y0 := Ext.cell HACC1.out.ext y00
      have y1 := Ext.cell HACC1.out.ext y10
      clear y00 y10
      have HSUC := Lib.hid (accO_succ s hlt)
      have HLE := Lib.hid (fun i => accI_le HM.out hlt i)
      have HFR := Lib.hid (HM.out.frames k hlt)
      have HRW := Lib.hid (fun j hj => HM.out.rows k j hlt hj)
      generalize (s.fibers.getD k default) = f at *
      have HFV := Lib.hid hfv
      clear hfv
      obtain ⟨cl, hcl⟩ : ∃ z : Int, f.caller = z := ⟨_, rfl⟩
      obtain ⟨x1, hx1⟩ : ∃ b, by8 (f.caller + 1) = b := ⟨_, rfl⟩
      obtain ⟨x2, hx2⟩ : ∃ b, by8 (f.frames.length : Int) = b := ⟨_, rfl⟩
      have V1 : wrap64 (cl + 1) % 256 = (x1.toNat : Int) := by
        rw [← hx1, hcl, by8_val]
        unfold wrap64
        omega
      have V2 : IntKind.u8.wrap (f.frames.length : Int) = (x2.toNat : Int) := by rw [← hx2]; exact wrap_by8 _
      have HI0 : Hid (bys (accI (accO s k) f 0) = bys (accO s k) ++ bys [x1, x2] ∧ n1 + 2 = (accI (accO s k) f 0).length) := by
        have e : accI (accO s k) f 0 = accO s k ++ [x1, x2] := by unfold accI; rw [hx1, hx2]; rfl
        refine ⟨by rw [e, bys_app], by rw [e, List.length_append, HN1.out]; rfl⟩
      have HSRC : Hid (∀ W : World, SrcSl (W.alloc (.cells #[.int .u8 (x1.toNat : Int), .int .u8 (x2.toNat : Int)] 5)) 1 (.slice (some ⟨W.heap.size, 0, none⟩) 2 2) 2 (bys [x1, x2])) := fun W => src_bytes W [x1, x2] 2 rfl _
      rw [hcl] at y1
      have HCL := Lib.hid hcl
      clear hx1 hx2 hcl
      go_upto_region 6 with fail
      have hac4 := HACC1.out.add [.slice af f.frames.length cf, .int .i64 cl] 68 [(wk.heap.size, 0, .slice af f.frames.length cf), (wk.heap.size, 1, .int .i64 cl)] (by simp)
      have hq4 : Ext wk (wk.alloc (.cells #[.slice af f.frames.length cf, .int .i64 cl] 68)) := (Ext.refl _).alloc _
      obtain ⟨fb, hfb⟩ : ∃ fb, wk.heap.size = fb := ⟨_, rfl⟩
      rw [hfb] at hac4 ⊢
      change Acc w (wk.alloc (.cells #[.slice af f.frames.length cf, .int .i64 cl] 68)) tb n1 _ _ _ at hac4
      generalize wk.alloc (.cells #[.slice af f.frames.length cf, .int .i64 cl] 68) = W4 at *
      have f0 := (hac4.box (fb, 0, .slice af f.frames.length cf) (by simp)).1
      have f1 := (hac4.box (fb, 1, .int .i64 cl) (by simp)).1
      dsimp only at f0 f1
      have hlow4 := lt_of_cell (hac4.box (tb, 0, .slice (some ⟨gf, og, none⟩) s.fibers.length sc) (by simp)).1
      have HAC4 := Lib.hid hac4
      have HFV4 := Lib.hid (fiberV_frames HFV.out)
      clear HACC1 y0 y1 b0 b2 hac4 hfb hq4
      go_upto_region 7 with (first
        | (at_builtin; refine wpList_append_row rfl _ _ 62 rfl (tb + 1) 5 i0 (.int .u8 0) 1 1 Try.underlying62 hi0 hz0 hz1 hz2 rfl (by decide) _ _ _ rfl (by exact HAC4.out.row.ext ((Ext.refl _).alloc _) (by decide)) 2 (bys [x1, x2]) (by exact HSRC.out _) (by unfold maxLen; omega) (by omega) (by exact (Nat.le_trans hlow4 (Ext.size ((Ext.refl W4).alloc _)))) ?_; intro v5 W5w rv5; have h5 := Lib.hid (HAC4.out.step HTB.out ((Ext.refl _).alloc _) rv5 HI0.out.1); obtain ⟨a5, c5, rfl, _, _⟩ := rv5.1.shape; clear rv5))
      generalize hA0 : accO s k = A0 at *
      have H5 := Lib.hid h5.out
      clear h5 HAC4 f0 f1 V1 V2 HSRC hlow4
      go_wp2_with fail
      go_loopw [3, 6] (fun q3 q6 wr => ∃ i : Nat, i ≤ f.frames.length ∧ q6 = .int .i64 (i : Int) ∧ Acc w wr tb (accI A0 f i).length q3 (accI A0 f i) [(fb, 0, .slice af f.frames.length cf), (fb, 1, .int .i64 cl), (tb, 0, .slice (some ⟨gf, og, none⟩) s.fibers.length sc), (tb, 2, .slice sb s.out.length sd)]) (fun _ q _ => f.frames.length - (intOf q).toNat)
      case atStart => exact ⟨0, Nat.zero_le _, rfl, by rw [← HI0.out.2]; exact H5.out⟩
      case round =>
        obtain ⟨i, hi, rfl, hacc⟩ := hrel
        have hnb := HLE.out i
        have hfr6 := HFR.out
        obtain ⟨n2, hn2⟩ : ∃ n, (accI A0 f i).length = n := ⟨_, rfl⟩
        rw [hn2] at hacc hnb
        have f0 := (hacc.box (fb, 0, .slice af f.frames.length cf) (by simp)).1
        have lowi := lt_of_cell (hacc.box (tb, 0, .slice (some ⟨gf, og, none⟩) s.fibers.length sc) (by simp)).1
        dsimp only at f0
        obtain ⟨a6, c6, rfl, _, _⟩ := hacc.row.shape
        have HACI := Lib.hid hacc
        have KJ : IntKind.i64.wrap ((i : Int) + 1) = (i : Int) + 1 := IntWalk.i64_in _ (by omega)
        clear hacc H5
        rename World => wi
        by_cases hlti : i < f.frames.length
        · obtain ⟨bx, ox, al, cl2, as_, cs, rfl, ⟨x00, x01, x02, x03⟩, hxv⟩ := (HFV4.out).at' hlti
          obtain ⟨hrl, hrs⟩ := frameV_rows hxv
          have hsm := HRW.out i hlti
          have HNX := Lib.hid (accI_succ A0 f hlti)
          have hx0 := Ext.cell HACI.out.ext x00
          have hx1 := Ext.cell HACI.out.ext x01
          generalize f.frames.getD i default = x at *
          obtain ⟨fz, hfz⟩ : ∃ z : Int, x.func = z := ⟨_, rfl⟩
          obtain ⟨az, haz⟩ : ∃ z : Int, x.at_ = z := ⟨_, rfl⟩
          obtain ⟨bf, hbf⟩ : ∃ b, by8 x.func = b := ⟨_, rfl⟩
          obtain ⟨ba, hba⟩ : ∃ b, by8 x.at_ = b := ⟨_, rfl⟩
          have Y1 : IntKind.u8.wrap fz = (bf.toNat : Int) := by rw [← hbf, hfz]; exact wrap_by8 _
          have Y2 : IntKind.u8.wrap az = (ba.toNat : Int) := by rw [← hba, haz]; exact wrap_by8 _
          rw [hbf, hba] at HNX
          rw [hfz] at hx0
          rw [haz] at hx1
          obtain ⟨m1, hm1⟩ : ∃ n, n2 + 2 = n := ⟨_, rfl⟩
          obtain ⟨L1, hL1⟩ : ∃ n, 1 + 8 * x.locals.length = n := ⟨_, rfl⟩
          obtain ⟨L2, hL2⟩ : ∃ n, 1 + 8 * x.stack.length = n := ⟨_, rfl⟩
          obtain ⟨m2, hm2⟩ : ∃ n, m1 + L1 = n := ⟨_, rfl⟩
          obtain ⟨m3, hm3⟩ : ∃ n, m2 + L2 = n := ⟨_, rfl⟩
          have hlen3 : m3 = (accI A0 f (i + 1)).length := by
            rw [HNX.out, List.length_append, List.length_append, List.length_append, many_len, many_len, hn2, hL1, hL2, List.length_cons, List.length_cons, List.length_nil]
            omega
          have HNB := Lib.hid (show n2 ≤ 5000 ∧ m1 ≤ 5002 ∧ m2 ≤ 5100 ∧ m3 ≤ 5200 ∧ L1 ≤ 65 ∧ L2 ≤ 65 by omega)
          have HML : Hid (∀ W, Ext w W → Calls Try.prog 37 #[.slice al x.locals.length cl2] W fun e w' => (∃ v, e = .returned v ∧ RowAt w' W.heap.size 1 v L1 (bys (manyL x.locals))) ∧ Ext W w') := fun W h => by
            have := many_any x.locals _ _ W (Ints.stays h.stays hrl) (by omega)
            rw [hL1] at this
            exact this
          have HMS : Hid (∀ W, Ext w W → Calls Try.prog 37 #[.slice as_ x.stack.length cs] W fun e w' => (∃ v, e = .returned v ∧ RowAt w' W.heap.size 1 v L2 (bys (manyL x.stack))) ∧ Ext W w') := fun W h => by
            have := many_any x.stack _ _ W (Ints.stays h.stays hrs) (by omega)
            rw [hL2] at this
            exact this
          have HM1 := Lib.hid (⟨hm1, hm2, hm3⟩ : _ ∧ _ ∧ _)
          have HL3 := Lib.hid hlen3
          have HX2 := Lib.hid x02
          have HX3 := Lib.hid x03
          have HX0 := Lib.hid x00
          have HX1 := Lib.hid x01
          have HFZ := Lib.hid hfz
          have HAZ := Lib.hid haz
          have HSRC2 : Hid (∀ W : World, SrcSl (W.alloc (.cells #[.int .u8 (bf.toNat : Int), .int .u8 (ba.toNat : Int)] 5)) 1 (.slice (some ⟨W.heap.size, 0, none⟩) 2 2) 2 (bys [bf, ba])) := fun W => src_bytes W [bf, ba] 2 rfl _
          clear hxv hrl hrs hsm hbf hba hfz haz hm1 hm2 hm3 hlen3 hL1 hL2 x00 x01 x02 x03 hn2 hnb
          go_upto_region 10 with fail
          refine wp_region_rt (fun w' => w'.cell? ⟨fb, 0, none⟩ = some (.slice (some ⟨bx, ox, none⟩) f.frames.length cf) ∧ w'.cell? ⟨bx, ox + i * 4, none⟩ = some (.int .i64 fz) ∧ w'.cell? ⟨bx, ox + i * 4 + 1, none⟩ = some (.int .i64 az)) 17 [0, 1, 2, 3, 4, 5, 6, 7, 8, 9, 10, 11, 12, 13, 14] [15, 16, 17] (by kernel_rfl) (by kernel_rfl) (fun _ _ _ _ _ h => h) (by refine ⟨?_, ?_, ?_⟩ <;> simpa) ?_
          (try simp only [pickOps, List.filterMap_cons, List.filterMap_nil, List.getElem?_cons_zero, List.getElem?_cons_succ])
          repeat (
            refine readsQ_do (by rfl) ?_
            apply Exists.intro
            refine ⟨fun w' hw' => ?_, ?_⟩
            focus
              (try dsimp only at hw')
              go_split_ands
              go_simp
              (try with_reducible rfl)
            (try dsimp only [Act.put])
            (try simp only [List.setIfInBounds_toArray, List.set_cons_succ, List.set_cons_zero]))
          refine readsQ_nil ?_
          refine tailW_step ?_
          go_wp2_with fail
          refine nextW_go (by refine ⟨?_, ?_, ?_⟩ <;> simp [*]) ?_
          refine tailW_step ?_
          go_wp2_with (first
            | (at_builtin; refine wpList_append_row rfl _ _ 62 rfl (tb + 1) 5 i0 (.int .u8 0) 1 1 Try.underlying62 hi0 hz0 hz1 hz2 rfl (by decide) _ _ _ rfl (by exact HACI.out.row.ext (by ((repeat (first | assumption | exact Ext.refl _ | (exact And.left (by assumption)) | refine Ext.alloc ?_ _ | refine Ext.drew ?_ | refine Ext.drewN ?_ _ | refine Ext.setCell ?_ (by simp) _ | refine Ext.setCell ?_ (by simp; omega) _ | refine Ext.trans ?_ (by assumption))); done)) (by decide)) 2 (bys [bf, ba]) (by exact HSRC2.out _) (by have := HNB.out; unfold maxLen; omega) (by have := HNB.out; omega) (by exact Nat.le_trans lowi (Ext.size (show Ext wi _ by ((repeat (first | assumption | exact Ext.refl _ | (exact And.left (by assumption)) | refine Ext.alloc ?_ _ | refine Ext.drew ?_ | refine Ext.drewN ?_ _ | refine Ext.setCell ?_ (by simp) _ | refine Ext.setCell ?_ (by simp; omega) _ | refine Ext.trans ?_ (by assumption))); done)))) ?_; intro v7 W7w rv7; rw [HM1.out.1] at rv7; have h7 := Lib.hid (HACI.out.step (A' := accI A0 f i ++ [bf, ba]) HTB.out (by ((repeat (first | assumption | exact Ext.refl _ | (exact And.left (by assumption)) | refine Ext.alloc ?_ _ | refine Ext.drew ?_ | refine Ext.drewN ?_ _ | refine Ext.setCell ?_ (by simp) _ | refine Ext.setCell ?_ (by simp; omega) _ | refine Ext.trans ?_ (by assumption))); done)) rv7 (bys_app _ _)); obtain ⟨a7, c7, rfl, _, _⟩ := rv7.1.shape; clear rv7))
          have g0 := (h7.out.box (fb, 0, .slice (some ⟨bx, ox, none⟩) f.frames.length cf) (by simp)).1
          have low7 := lt_of_cell (h7.out.box (tb, 0, .slice (some ⟨gf, og, none⟩) s.fibers.length sc) (by simp)).1
          dsimp only at g0
          have hS7 : W7w.cell? ⟨fb, 0, none⟩ = some (.slice (some ⟨bx, ox, none⟩) f.frames.length cf) ∧ W7w.cell? ⟨bx, ox + i * 4, none⟩ = some (.int .i64 fz) ∧ W7w.cell? ⟨bx, ox + i * 4 + 1, none⟩ = some (.int .i64 az) :=
            ⟨g0, by rw [← HFZ.out]; exact Ext.cell h7.out.ext HX0.out, by rw [← HAZ.out]; exact Ext.cell h7.out.ext HX1.out⟩
          refine nextW_go (by exact hS7) ?_
          refine tailW_step ?_
          go_wp2_with fail
          refine nextW_end ?_
          go_upto_region 11 with fail
          have hS11 : Hid (∀ W, (Acc w W tb m1 (.slice a7 m1 c7) (accI A0 f i ++ [bf, ba]) [(fb, 0, .slice (some ⟨bx, ox, none⟩) f.frames.length cf), (fb, 1, .int .i64 cl), (tb, 0, .slice (some ⟨gf, og, none⟩) s.fibers.length sc), (tb, 2, .slice sb s.out.length sd)]) → W.cell? ⟨fb, 0, none⟩ = some (.slice (some ⟨bx, ox, none⟩) f.frames.length cf) ∧ W.cell? ⟨bx, ox + i * 4 + 2, none⟩ = some (.slice al x.locals.length cl2) ∧ W.cell? ⟨bx, ox + i * 4 + 3, none⟩ = some (.slice as_ x.stack.length cs)) := fun W h =>
            ⟨(h.box (fb, 0, .slice (some ⟨bx, ox, none⟩) f.frames.length cf) (by simp)).1, Ext.cell h.ext HX2.out, Ext.cell h.ext HX3.out⟩
          refine wp_region_rt (fun w' => w'.cell? ⟨fb, 0, none⟩ = some (.slice (some ⟨bx, ox, none⟩) f.frames.length cf) ∧ w'.cell? ⟨bx, ox + i * 4 + 2, none⟩ = some (.slice al x.locals.length cl2) ∧ w'.cell? ⟨bx, ox + i * 4 + 3, none⟩ = some (.slice as_ x.stack.length cs)) 17 [0, 1, 2, 3, 4, 5, 6, 9, 10, 11, 12, 13, 14] [7, 8, 15, 16, 17] (by kernel_rfl) (by kernel_rfl) (fun _ _ _ _ _ h => h) (by exact hS11.out _ (h7.out.up (Ext.refl _).drew)) ?_
          clear hS7 g0 hx0 hx1 f0
          (try simp only [pickOps, List.filterMap_cons, List.filterMap_nil, List.getElem?_cons_zero, List.getElem?_cons_succ])
          repeat (
            refine readsQ_do (by rfl) ?_
            apply Exists.intro
            refine ⟨fun w' hw' => ?_, ?_⟩
            focus
              (try dsimp only at hw')
              go_split_ands
              go_simp
              (try with_reducible rfl)
            (try dsimp only [Act.put])
            (try simp only [List.setIfInBounds_toArray, List.set_cons_succ, List.set_cons_zero]))
          refine readsQ_nil ?_
          refine tailW_step ?_
          go_wp2_with (first
            | (go_at_call 37; (with_reducible refine (HML.out _ (h7.out.ext.trans (Ext.refl _).drew)).mono ?_); rintro e w8 ⟨⟨v8, rfl, hr8⟩, hb8⟩; obtain ⟨a8, c8, rfl, _, _⟩ := hr8.shape))
          have he78 : Ext W7w w8 := ((Ext.refl W7w).drew).trans hb8
          have H8 := Lib.hid (h7.out.up he78)
          have low8 := lt_of_cell (H8.out.box (tb, 0, .slice (some ⟨gf, og, none⟩) s.fibers.length sc) (by simp)).1
          refine nextW_go (by exact hS11.out _ H8.out) ?_
          refine tailW_step ?_
          go_wp2_with (first
            | (at_builtin; refine wpList_append_row rfl _ _ 62 rfl (tb + 1) 5 i0 (.int .u8 0) 1 1 Try.underlying62 hi0 hz0 hz1 hz2 rfl (by decide) _ _ _ rfl (by exact H8.out.row) L1 (bys (manyL x.locals)) (by exact hr8.srcB) (by have := HNB.out; unfold maxLen; omega) (by have := HNB.out; omega) (by exact low8) ?_; intro v9 W9w rv9; rw [HM1.out.2.1] at rv9; have h9 := Lib.hid (H8.out.step (A' := accI A0 f i ++ [bf, ba] ++ manyL x.locals) HTB.out (Ext.refl _) rv9 (bys_app _ _)); obtain ⟨a9, c9, rfl, _, _⟩ := rv9.1.shape; clear rv9))
          have hS12 : Hid (∀ W A n v, (Acc w W tb n v A [(fb, 0, .slice (some ⟨bx, ox, none⟩) f.frames.length cf), (fb, 1, .int .i64 cl), (tb, 0, .slice (some ⟨gf, og, none⟩) s.fibers.length sc), (tb, 2, .slice sb s.out.length sd)]) → W.cell? ⟨fb, 0, none⟩ = some (.slice (some ⟨bx, ox, none⟩) f.frames.length cf) ∧ W.cell? ⟨bx, ox + i * 4 + 2, none⟩ = some (.slice al x.locals.length cl2) ∧ W.cell? ⟨bx, ox + i * 4 + 3, none⟩ = some (.slice as_ x.stack.length cs)) := fun W A n v h =>
            ⟨(h.box (fb, 0, .slice (some ⟨bx, ox, none⟩) f.frames.length cf) (by simp)).1, Ext.cell h.ext HX2.out, Ext.cell h.ext HX3.out⟩
          refine nextW_go (by exact hS12.out _ _ _ _ h9.out) ?_
          refine tailW_step ?_
          go_wp2_with (first
            | (go_at_call 37; (with_reducible refine (HMS.out _ h9.out.ext).mono ?_); rintro e w10 ⟨⟨v10, rfl, hr10⟩, hb10⟩; obtain ⟨a10, c10, rfl, _, _⟩ := hr10.shape))
          have H10 := Lib.hid (h9.out.up hb10)
          have low10 := lt_of_cell (H10.out.box (tb, 0, .slice (some ⟨gf, og, none⟩) s.fibers.length sc) (by simp)).1
          refine nextW_go (by exact hS12.out _ _ _ _ H10.out) ?_
          refine tailW_step ?_
          go_wp2_with (first
            | (at_builtin; refine wpList_append_row rfl _ _ 62 rfl (tb + 1) 5 i0 (.int .u8 0) 1 1 Try.underlying62 hi0 hz0 hz1 hz2 rfl (by decide) _ _ _ rfl (by exact H10.out.row) L2 (bys (manyL x.stack)) (by exact hr10.srcB) (by have := HNB.out; unfold maxLen; omega) (by have := HNB.out; omega) (by exact low10) ?_; intro v11 W11w rv11; rw [HM1.out.2.2] at rv11; have h11 := Lib.hid (H10.out.step (A' := accI A0 f i ++ [bf, ba] ++ manyL x.locals ++ manyL x.stack) HTB.out (Ext.refl _) rv11 (bys_app _ _)); obtain ⟨a11, c11, rfl, _, _⟩ := rv11.1.shape; clear rv11))
          refine nextW_go (by exact hS12.out _ _ _ _ h11.out) ?_
          refine tailW_step ?_
          go_wp2_with fail
          refine nextW_end ?_
          go_wp2_with fail
          go_roundw
          case rel => exact ⟨i + 1, by omega, by go_num, by rw [← HL3.out, HNX.out]; exact h11.out⟩
          case measure => simp [intOf]; omega
        · obtain rfl : i = f.frames.length := by omega
          clear hlti hi
          go_wp2_with fail
          go_roundw
          case rel => exact ⟨k + 1, by omega, by go_num, by rw [HSUC.out, hn2]; exact HACI.out.drop (by intro y hy; simp only [List.mem_cons, List.not_mem_nil, or_false] at hy; rcases hy with rfl | rfl <;> simp)⟩
          case measure => simp [intOf]; omega
    · obtain rfl : k = s.fibers.length := by omega
      clear hlt hk
      have HRO : Hid (∀ W, Ext w W → Calls Try.prog 37 #[.slice sb s.out.length sd] W fun e w' => (∃ v, e = .returned v ∧ RowAt w' W.heap.size 1 v (1 + 8 * s.out.length) (bys (manyL s.out))) ∧ Ext W w') := fun W h => many_any s.out _ _ W (stateV_out (StateV.stays h.stays HS.out)) (by omega)
      have lowk := lt_of_cell b0
      have HNB := Lib.hid (show n1 ≤ 5000 ∧ s.out.length ≤ 30 by omega)
      go_wp2_with (first
        | (go_at_call 37; (with_reducible refine (HRO.out _ HACC1.out.ext).mono ?_); rintro e w10 ⟨⟨v10, rfl, hr10⟩, hb10⟩; obtain ⟨a10, c10, rfl, _, _⟩ := hr10.shape; have low10 := Nat.le_trans lowk (Ext.size hb10))
        | (at_builtin; refine wpList_append_row rfl _ _ 62 rfl (tb + 1) 5 i0 (.int .u8 0) 1 1 Try.underlying62 hi0 hz0 hz1 hz2 rfl (by decide) _ _ _ rfl (by exact HACC1.out.row.ext hb10 (by decide)) (1 + 8 * s.out.length) (bys (manyL s.out)) (by exact hr10.srcB) (by have := HNB.out; unfold maxLen; omega) (by have := HNB.out; omega) (by exact low10) ?_; intro v11 W11w rv11; have h11 := Lib.hid (HACC1.out.step (A' := accO s s.fibers.length ++ manyL s.out) HTB.out hb10 rv11 (bys_app _ _)); have HCV := bytes_str h11.out.row (by omega); clear rv11))
      go_ret
      rw [← accO_all]
      exact ⟨rfl, h11.out.ext⟩
end Go.Proofs.Ytgahbngbpfilgaa
end
section
/- Trimming: plain facts. No program in sight; no condition. -/
namespace Go.Proofs.Ytgahbngbpfilgaa

/-- How many of the first n ops are left. -/
def keepN (l : List Int) (n : Nat) : Nat := (l.take n).countP (fun h => decide (0 ≤ h))
def trimOp (l : List Int) (x : GOp) : GOp := if x.kind = 9 ∨ x.kind = 10 then ⟨x.kind, keepN l x.a.toNat⟩ else x
/-- What is left of ops, of which the first has the height at the head of m. -/
def trimGo (l : List Int) : List GOp → List Int → List GOp
  | x :: C, h :: m => if 0 ≤ h then trimOp l x :: trimGo l C m else trimGo l C m
  | _, _ => []
def trimC (C : List GOp) (l : List Int) : List GOp := trimGo l C l
def keepL (l : List Int) : List Int := l.filter (fun h => decide (0 ≤ h))
def trimG (p : List GFunc) (F : GFunc) : GFunc := ⟨F.args, F.locals, trimC F.code ((hts p F.code).getD [])⟩

theorem Full.height {p : List GFunc} {C : List GOp} {l : List Int} (hF : Full p C l) {k j : Nat} (hk : k < C.length) (h0 : 0 ≤ l.getD k 0) (hj : j ∈ nx C[k] k) : j < C.length ∧ l.getD j 0 = nOf p C[k] (l.getD k 0) ∧ 0 ≤ l.getD j 0 := by
  obtain ⟨t1, t2⟩ := hF.thru k hk h0
  have e : C.getD k default = C[k] := by simp [List.getD, List.getElem?_eq_getElem hk]
  rw [e] at t1 t2
  obtain ⟨a, b⟩ := t2 j hj
  exact ⟨a, b, by rw [b]; exact nOf_nonneg t1⟩

end Go.Proofs.Ytgahbngbpfilgaa
end
section
/- Plain facts of trimmed programs: right again. No program in sight; no condition. -/
namespace Go.Proofs.Ytgahbngbpfilgaa

/-- All of a function of a right program. -/
structure TrimFacts (p : List GFunc) (k : Nat) (hk : k < p.length) (l : List Int) : Prop where
  right : RightF p p[k]
  h : hts p p[k].code = some l
  g : trimG p p[k] = ⟨p[k].args, p[k].locals, trimC p[k].code l⟩
  hq : hts (p.map (trimG p)) (trimC p[k].code l) = some (keepL l)
  len : (trimC p[k].code l).length = (keepL l).length
  most : (trimC p[k].code l).length ≤ 24
  err : funcErr (p.map (trimG p)) k = 0

end Go.Proofs.Ytgahbngbpfilgaa
end
section
/- Contract of the document's trimmed. -/
set_option maxHeartbeats 4000000
set_option maxRecDepth 100000
namespace Go.Proofs.Ytgahbngbpfilgaa
open Go Go.RowKit

/-- The second loop's state. -/
structure TI (w2 w5 : World) (g b10 N : Nat) (A L : Int) (l : List Int) (acc : List GOp) (wx : World) : Prop where
  ext : Ext w2 wx
  tt : ∃ t, IRow wx g g t ∧ t.length = N ∧ ∀ i, i < N → t.getD i 0 = keepN l i
  c0 : Cx wx b10 0 (.int .i64 A)
  c1 : Cx wx b10 1 (.int .i64 L)
  c2 : ∃ v, Cx wx b10 2 v ∧ RowAt wx (b10 + 1) 2 v acc.length (acc.flatMap opF)
  size : w5.heap.size ≤ wx.heap.size

set_option maxRecDepth 100000 in
/-- One op more behind the row. -/
theorem TI.grow {w2 w5 : World} {g b10 N : Nat} {A L : Int} {l : List Int} {acc : List GOp} {wx W7 W8 : World} {y : GOp} {v v1 : Value} (h : TI w2 w5 g b10 N A L l acc wx) (hb : w2.heap.size ≤ b10) (hg : g < b10)
    (he : Ext wx W7) (hc : Cx wx b10 2 v) (hr : RowAt wx (b10 + 1) 2 v acc.length (acc.flatMap opF)) (hn : NewRow W7 W8 (b10 + 1) 2 v v1 (acc.length + 1) (acc.flatMap opF ++ opF y)) :
    TI w2 w5 g b10 N A L l (acc ++ [y]) (W8.setCell ⟨b10, 2, none⟩ v1) ∧ Cx W8 b10 2 v := by
  obtain ⟨t, h1, h2, h3⟩ := h.tt
  have hM : ∀ q, rowBlock v = some q → b10 + 1 ≤ q := hr.le
  have hch := hn.2.1
  have k2 : Cx W8 b10 2 v := (hc.ext he).chg hch (fun e => by have := hM _ e; omega)
  refine ⟨⟨?_, ⟨t, ?_, h2, h3⟩, ?_, ?_, ⟨v1, k2.set v1, ?_⟩, ?_⟩, k2⟩
  · exact (Chg.ext_from (h.ext.trans he) hch (fun q e => by have := hM _ e; omega)).setCell (p := ⟨b10, 2, none⟩) hb _
  · exact ((h1.ext he).chg hch (fun e => by have := hM _ e; omega)).other (by omega) _
  · exact ((h.c0.ext he).chg hch (fun e => by have := hM _ e; omega)).other (.inr (by omega)) _
  · exact ((h.c1.ext he).chg hch (fun e => by have := hM _ e; omega)).other (.inr (by omega)) _
  · rw [List.length_append, List.length_singleton, List.flatMap_append, List.flatMap_singleton]
    exact hn.1.chg (chg_one W8 b10 2 v1) (fun q e hq => by have := hn.1.le _ e; omega) (by decide)
  · have e1 := h.size
    have e2 := he.size
    have e3 := hch.size
    have e4 : (W8.setCell ⟨b10, 2, none⟩ v1).heap.size = W8.heap.size := size_setCells b10 [v1] 2 W8
    omega

end Go.Proofs.Ytgahbngbpfilgaa
end
