/- Merged texts: contracts and plain facts, one part behind another; each part begins with what it says. -/
import Derived.Test.YtpcjkfppacnkgaaGreatDoorGNAH
import Derived.Test.YtpcjkfppacnkgaaGreatDoorGNAL
import Derived.Test.YtpcjkfppacnkgaaGreatDoorGNAM
import Derived.Test.YtpcjkfppacnkgaaGreatDoorGNAP
import Derived.Test.YtpcjkfppacnkgaaGreatDoorGNAQ
import Derived.Test.YtpcjkfppacnkgaaGreatDoorGNAS
import Derived.Test.YtpcjkfppacnkgaaGreatDoorGNAT
import Derived.Test.YtpcjkfppacnkgaaGreatDoorGNAU
import Derived.Test.YtpcjkfppacnkgaaGreatDoorGNAW
section
/- Contract of the text package's Show. No condition. -/
set_option maxHeartbeats 4000000
set_option maxRecDepth 100000
namespace Go.Proofs.YtpcjkfppacnkgaaGreatDoor
open Go Go.RowKit

theorem ints_fresh (W : World) (l : List Int) (hI : ∀ n ∈ l, I64 n) (hl : l.length ≤ 1000) : Ints (W.alloc (.cells (ints l).toArray 3)) (fun _ => True) (.slice (some ⟨W.heap.size, 0, none⟩) l.length l.length) l := by
  refine ⟨some ⟨W.heap.size, 0, none⟩, l.length, rfl, Nat.le_refl _, ⟨by omega, by omega⟩, fun i hi => ⟨W.heap.size, 0, rfl, trivial, ?_, hI _ (List.getElem_mem hi)⟩⟩
  rw [World.cell?_alloc_new, List.getElem?_toArray, Nat.zero_add, Nat.mul_one]
  unfold ints
  rw [List.getElem?_map, List.getElem?_eq_getElem hi]
  rfl
theorem ext_then {w2 W W' : World} {b6 : Nat} (e : w2.heap.size = b6) (h : Ext w2 W) (hb : Below b6 W W') : Ext w2 W' := by subst e; exact Below.trans h hb
theorem cells_at {w : World} {b : Nat} {cs : Array Value} {t : TypeId} {z : Nat × Nat} (h : w.heap[b]? = some (.cells cs t z)) (o : Nat) : w.cell? ⟨b, o, none⟩ = cs[o]? := by simp [World.cell?, h]
theorem heap_new (w : World) (o : Obj) : (w.alloc o).heap[w.heap.size]? = some o := World.alloc_heap_new w _
def showT (p : List GFunc) : By := if progErr p = 0 then textP p else []
theorem words_head (f : GFunc) : wordsI funcT [f.args, f.locals] = headW f := by unfold wordsI headW; simp
theorem words_op (x : GOp) (h : toldB x.kind = true) : wordsI (nameT x.kind) [x.a] = opW x := by unfold wordsI opW; rw [h]; simp
theorem words_op0 (x : GOp) (h : toldB x.kind = false) : wordsI (nameT x.kind) [] = opW x := by unfold wordsI opW; rw [h]; simp
theorem show_any (p : List GFunc) (v : Value) (S : Nat → Prop) (w : World) (hg : Glob w) (hp : Funcs w S v p) :
    Calls Tryz.prog 11 #[v] w fun e w' => e = .returned (.tuple #[.string ⟨(showT p).toArray⟩, .int .i64 (progErr p)]) ∧ Ext w w' := by
  have HP := Lib.hid hp
  have HG := Lib.hid hg
  obtain ⟨r, hr⟩ : ∃ r, progErr p = r := ⟨_, rfl⟩
  obtain ⟨sh, hsh⟩ : ∃ sh, showT p = sh := ⟨_, rfl⟩
  rw [hr, hsh]
  have HR := Lib.hid hr
  have HSH := Lib.hid hsh
  clear hr hsh hg
  obtain ⟨a, cap, rfl, hcap, hby, _⟩ := hp
  by_cases h0 : r = 0
  · subst h0
    have HT : Hid (sh = textP p) := by unfold Hid; rw [← HSH.out]; unfold showT; rw [if_pos HR.out]
    have h5 := (progErr_zero HR.out).most
    go_enter Tryz.func11, Tryz.ntmps11
    go_upto_region 5 with (first
      | (go_at_call 36; (with_reducible refine (progCheck_any p _ _ _ HP.out).mono ?_); rintro e w1 ⟨rfl, hb1⟩; rw [HR.out])
      | (go_at_call 37; (with_reducible refine (namesI_any _ (HG.out.ext hb1)).mono ?_); rintro e w2 ⟨vn, rfl, hvn, hb2⟩; have HVN := Lib.hid hvn; obtain ⟨an, cn, rfl, _, _⟩ := hvn))
    have HB0 := Lib.hid (hb1.trans hb2)
    have HG2 := Lib.hid ((HG.out.ext hb1).ext hb2)
    clear hb1 hb2
    have hu8 : ∀ (W : World) (f : GFunc) (u : Value), Hid (∀ c fz, (Obj.cells #[.int .i64 f.args, .int .i64 f.locals, u] 49 (0, 0)) ≠ .cells c 5 fz) := fun _ _ _ => by unfold Hid; intro c fz h; cases h
    have HBD := Lib.hid (Bd.new w2 w2.heap.size (Nat.le_refl _))
    have HX6 := Lib.hid ((Ext.refl w2).alloc (.cells #[.pointer none, .slice none 0 0] 65))
    obtain ⟨b6, hb6⟩ : ∃ b6, w2.heap.size = b6 := ⟨_, rfl⟩
    have HB6 := Lib.hid hb6
    rw [hb6] at HBD
    have hcat := cat_bytes'
    have hlen := cat_len
    go_wp2_with fail
    clear hb6
    go_loopw [19] (fun q19 wr => ∃ k : Nat, k ≤ p.length ∧ q19 = .int .i64 k ∧ Bd wr b6 b6 (textP (p.take k)) ∧ Ext w2 wr) (fun q _ => p.length - (intOf q).toNat)
    case atStart => exact ⟨0, Nat.zero_le _, rfl, HBD.out, HX6.out⟩
    case round =>
      obtain ⟨k, hk, rfl, hbd, hb⟩ := hrel
      have HBD := Lib.hid hbd
      have HB := Lib.hid hb
      have hsl := take_len HR.out k
      have hbl := hbd.lt
      clear hbd hb
      by_cases hlt : k < p.length
      · obtain ⟨s, hs⟩ : ∃ s, textP (p.take k) = s := ⟨_, rfl⟩
        rw [hs] at hsl HBD
        have HS := Lib.hid hs
        obtain ⟨⟨ra0, ra1, rl0, rl1⟩, hcl, hop⟩ := right_ops HR.out _ (List.getElem_mem hlt)
        obtain ⟨bP, oP, capP, e0, _, _, ⟨_, x0, iA⟩, ⟨_, x1, iL⟩, vc, x2, hops⟩ := HP.out.get hlt
        simp only [Value.slice.injEq] at e0
        obtain ⟨rfl, -, rfl⟩ := e0
        replace x0 := Ext.cell (HB0.out.trans HB.out) x0
        replace x1 := Ext.cell (HB0.out.trans HB.out) x1
        replace x2 := Ext.cell (HB0.out.trans HB.out) x2
        have HOPS := Lib.hid hops
        have HOP := Lib.hid hop
        obtain ⟨hd, hhd⟩ : ∃ hd, headW p[k] ++ [10] = hd := ⟨_, rfl⟩
        have HHD := Lib.hid hhd
        have lhd : hd.length ≤ 19 := by
          rw [← hhd, List.length_append]
          have := headW_len (f := p[k]) ⟨ra0, ra1, rl0, rl1⟩
          simp
          omega
        have HLH : ∀ W, Hid (Glob W → Calls Tryz.prog 38 #[.string ⟨#[102, 117, 110, 99]⟩, .slice (some ⟨W.heap.size, 0, none⟩) 2 2] (W.alloc (.cells #[.int .i64 p[k].args, .int .i64 p[k].locals] 3)) fun e w' => e = .returned (.string ⟨hd.toArray⟩) ∧ Ext (W.alloc (.cells #[.int .i64 p[k].args, .int .i64 p[k].locals] 3)) w') := fun W => by
          unfold Hid
          intro hgW
          rw [← hhd, ← words_head]
          exact textLine_any funcT [p[k].args, p[k].locals] _ _ _ (hgW.ext ((Ext.refl _).alloc _)) (ints_fresh W [p[k].args, p[k].locals] (fun n hn => (List.mem_cons.1 hn).elim (fun e => e ▸ iA) (fun hn => (List.mem_singleton.1 hn) ▸ iL)) (by simp)) (by decide) (by simp)
        have HU := hu8 wr p[k] vc
        have O8 : Hid ((wr.alloc (.cells #[.int .i64 p[k].args, .int .i64 p[k].locals, vc] 49)).heap[wr.heap.size]? = some (.cells #[.int .i64 p[k].args, .int .i64 p[k].locals, vc] 49 (0, 0))) := heap_new _ _
        generalize p[k].args = A at *
        generalize p[k].locals = L at *
        have HB8 := Lib.hid (HB.out.alloc (.cells #[.int .i64 A, .int .i64 L, vc] 49))
        have HBD8 := Lib.hid (Bd.ext HBD.out ((Ext.refl wr).alloc (.cells #[.int .i64 A, .int .i64 L, vc] 49)))
        clear hs hops hop ra0 ra1 rl0 rl1 hhd iA iL
        obtain ⟨ac, capc, rfl, hcapc, hbyc, _⟩ := HOPS.out
        go_upto_region 9 with fail
        obtain ⟨b8, hb8⟩ : ∃ b8, wr.heap.size = b8 := ⟨_, rfl⟩
        rw [hb8] at O8
        have hne8 : b8 ≠ b6 := by omega
        have hl8 : b8 < (wr.alloc (.cells #[.int .i64 A, .int .i64 L, .slice ac p[k].code.length capc] 49)).heap.size := (Array.getElem?_eq_some_iff.1 O8.out).1
        generalize wr.alloc (.cells #[.int .i64 A, .int .i64 L, .slice ac p[k].code.length capc] 49) = w8 at *
        have c0 := cells_at O8.out 0
        have c1 := cells_at O8.out 1
        simp only [List.getElem?_toArray, List.getElem?_cons_zero, List.getElem?_cons_succ] at c0 c1
        rw [hb8]
        go_upto_region 10 with (first
          | (go_at_call 38; (with_reducible refine ((HLH w8).out (HG2.out.ext HB8.out)).mono ?_); rintro e w9 ⟨rfl, hb9⟩; have HX9 := Lib.hid (((Ext.refl w8).alloc _).trans hb9); have HBD9 := Lib.hid (Bd.ext HBD8.out HX9.out); have hl9 := HBD9.out.lt)
          | (go_at_call 29; (with_reducible refine (write_by b6 b6 s hd _ HBD9.out (by omega) (by omega)).mono ?_); rintro e wA ⟨rfl, hbA, hblA, hoA⟩))
        have HXA := Lib.hid (ext_then HB6.out (HB8.out.trans HX9.out) hblA)
        have O8A := hoA b8 _ ((HX9.out.block b8 hl8).trans O8.out) (fun e => hne8 (Option.some.inj e)) HU.out
        have c2 := cells_at O8A 2
        simp only [List.getElem?_toArray, List.getElem?_cons_zero, List.getElem?_cons_succ] at c2
        have HBA : Hid (Bd wA b6 b6 (preT p p[k] k 0)) := by
          unfold Hid
          rw [preT_zero, HS.out, HHD.out]
          exact hbA
        have HOPA := Lib.hid (HOPS.out)
        clear hbA hblA hoA O8A O8 c0 c1 HU HLH hl8 lhd hsl HHD hb9
        go_wp2_with fail
        go_loopw [33] (fun q33 wx => ∃ j : Nat, j ≤ p[k].code.length ∧ q33 = .int .i64 j ∧ Bd wx b6 b6 (preT p p[k] k j) ∧ Ext w2 wx) (fun q _ => p[k].code.length - (intOf q).toNat)
        case atStart => exact ⟨0, Nat.zero_le _, rfl, HBA.out, HXA.out⟩
        case round =>
          rename World => wx
          obtain ⟨j, hj, rfl, hbd, hb⟩ := hrel
          have HBDx := Lib.hid hbd
          have HBx := Lib.hid hb
          have hsl := preT_len HR.out hlt j
          have hblx := hbd.lt
          clear hbd hb
          by_cases hjt : j < p[k].code.length
          · obtain ⟨s2, hs2⟩ : ∃ s2, preT p p[k] k j = s2 := ⟨_, rfl⟩
            rw [hs2] at hsl HBDx
            obtain ⟨⟨k0, k1⟩, ⟨a0, a1⟩, _⟩ := HOP.out _ (List.getElem_mem hjt)
            obtain ⟨bc, oc, capc', e0, _, _, ⟨_, x3, _⟩, ⟨_, x4, iA2⟩⟩ := (Ops.stays (Ext.stays (HB0.out.trans HBx.out)) HOPS.out).get hjt
            simp only [Value.slice.injEq] at e0
            obtain ⟨rfl, -, rfl⟩ := e0
            obtain ⟨ln, hln⟩ : ∃ ln, opW p[k].code[j] ++ [10] = ln := ⟨_, rfl⟩
            have HPR : Hid (preT p p[k] k (j + 1) = s2 ++ ln) := by
              unfold Hid
              rw [preT_step _ _ _ hjt, hs2, hln]
            have lln : ln.length ≤ 19 := by
              rw [← hln, List.length_append]
              have := opW_len (HOP.out _ (List.getElem_mem hjt))
              simp
              omega
            have HL1 : ∀ W, Hid (toldB p[k].code[j].kind = true → Glob W → Calls Tryz.prog 38 #[.string ⟨(nameT p[k].code[j].kind).toArray⟩, .slice (some ⟨W.heap.size, 0, none⟩) 1 1] (W.alloc (.cells #[.int .i64 p[k].code[j].a] 3)) fun e w' => e = .returned (.string ⟨ln.toArray⟩) ∧ Ext (W.alloc (.cells #[.int .i64 p[k].code[j].a] 3)) w') := fun W => by
              unfold Hid
              intro ht hgW
              rw [← hln, ← words_op _ ht]
              exact textLine_any _ [p[k].code[j].a] _ _ _ (hgW.ext ((Ext.refl _).alloc _)) (ints_fresh W [p[k].code[j].a] (fun n hn => (List.mem_singleton.1 hn) ▸ iA2) (by simp)) (Nat.le_trans (namesT_len _ (nameT_mem k0 k1)) (by decide)) (by simp)
            have HL0 : ∀ W, Hid (toldB p[k].code[j].kind = false → Glob W → Calls Tryz.prog 38 #[.string ⟨(nameT p[k].code[j].kind).toArray⟩, .slice none 0 0] W fun e w' => e = .returned (.string ⟨ln.toArray⟩) ∧ Ext W w') := fun W => by
              unfold Hid
              intro ht hgW
              rw [← hln, ← words_op0 _ ht]
              exact textLine_any _ [] _ (fun _ => True) _ hgW (Sl.nil _ _ _) (Nat.le_trans (namesT_len _ (nameT_mem k0 k1)) (by decide)) (by simp)
            generalize p[k].code[j].kind = K at *
            generalize p[k].code[j].a = A2 at *
            obtain ⟨m, rfl⟩ : ∃ m : Nat, K = m := ⟨K.toNat, by omega⟩
            have hK : m < namesT.length := by show m < 17; omega
            have HNX : Hid (namesT[m] = nameT (m : Int)) := by unfold Hid nameT; simp [List.getD, List.getElem?_eq_getElem hK]
            obtain ⟨nm, hnm⟩ : ∃ nm, nameT (m : Int) = nm := ⟨_, rfl⟩
            rw [hnm] at HNX
            simp only [hnm] at HL1 HL0
            obtain ⟨bn, on, cn', en, _, xn⟩ := strs_at (HVN.out.stays (Ext.stays HBx.out)) hK
            simp only [Value.slice.injEq] at en
            obtain ⟨rfl, -, rfl⟩ := en
            rw [HNX.out] at xn
            replace xn : _ = some (Value.string ⟨nm.toArray⟩) := xn
            clear hs2 hln hnm k0 k1 a0 a1 iA2
            go_upto_region 13 with fail
            have y0 := (Cx.new wx [.int .i64 m, .int .i64 A2] 51 (j := 0) rfl).1
            have y1 := (Cx.new wx [.int .i64 m, .int .i64 A2] 51 (j := 1) rfl).1
            have HYX := Lib.hid ((Ext.refl wx).alloc (.cells #[.int .i64 m, .int .i64 A2] 51))
            replace xn := Ext.cell HYX.out xn
            generalize wx.heap.size = bx at *
            generalize wx.alloc (.cells #[.int .i64 m, .int .i64 A2] 51) = wy at *
            cases htb : toldB (m : Int) with
            | false =>
              have HTB := Lib.hid htb
              clear htb
              go_wp2_with (first
                | (go_at_call 39; refine (told_any _ _).mono ?_; rintro e wt ⟨rfl, hbt⟩; rw [HTB.out]; have HXT := Lib.hid (HYX.out.trans hbt); have y0' := Ext.cell hbt y0; have xn' := Ext.cell hbt xn)
                | (go_at_call 38; (with_reducible refine ((HL0 _).out HTB.out (HG2.out.ext (HBx.out.trans HXT.out))).mono ?_); rintro e wl ⟨rfl, hbl⟩; have HXL := Lib.hid (HXT.out.trans hbl); have HBL := Lib.hid (Bd.ext HBDx.out HXL.out); have hll := HBL.out.lt)
                | (go_at_call 29; (with_reducible refine (write_by b6 b6 s2 ln _ HBL.out (by omega) (by omega)).mono ?_); rintro e wA2 ⟨rfl, hbA, hblA, hoA⟩))
              go_roundw
              case rel => exact ⟨j + 1, by omega, by go_num, by rw [HPR.out]; exact hbA, ext_then HB6.out (HBx.out.trans HXL.out) hblA⟩
              case measure => simp [intOf]; omega
            | true =>
              have HTB := Lib.hid htb
              clear htb
              go_upto_region 14 with (first
                | (go_at_call 39; refine (told_any _ _).mono ?_; rintro e wt ⟨rfl, hbt⟩; rw [HTB.out]; have HXT := Lib.hid (HYX.out.trans hbt); have y0' := Ext.cell hbt y0; have y1' := Ext.cell hbt y1; have xn' := Ext.cell hbt xn))
              refine wp_region_rtt (fun w' => w'.cell? ⟨bx, 0, none⟩ = some (.int .i64 (m : Int)) ∧ w'.cell? ⟨bx, 1, none⟩ = some (.int .i64 A2) ∧ w'.cell? ⟨bn, on + m, none⟩ = some (.string ⟨nm.toArray⟩)) 9 [0, 1, 2, 3, 4, 5, 6] [7, 8, 9] (by kernel_rfl) (by kernel_rfl) (fun _ _ _ _ _ h => h) (by exact ⟨y0', y1', xn'⟩) ?_
              (try simp only [pickOps, List.filterMap_cons, List.filterMap_nil, List.getElem?_cons_zero, List.getElem?_cons_succ])
              repeat (
                refine readsQ_do (by rfl) ?_
                apply Exists.intro
                refine ⟨fun w' hw' => ?_, ?_⟩
                focus
                  (try dsimp only at hw')
                  go_split_ands
                  go_simp
                  (try with_reducible rfl)
                (try dsimp only [Act.put])
                (try simp only [List.setIfInBounds_toArray, List.set_cons_succ, List.set_cons_zero]))
              refine readsQ_nil ?_
              refine tailW_step ?_
              go_wp2_with fail
              have HXU := Lib.hid (HXT.out.trans ((Ext.refl wt).drew.alloc (.cells #[.int .i64 A2] 3)))
              have HDR := Lib.hid (HXT.out.trans (Ext.refl wt).drew)
              have HE7 := Lib.hid ((Ext.refl wt).drew.alloc (.cells #[.int .i64 A2] 3))
              refine nextW_go (by exact ⟨Ext.cell HE7.out y0', Ext.cell HE7.out y1', Ext.cell HE7.out xn'⟩) ?_
              refine tailW_step ?_
              go_wp2_with (first
                | (go_at_call 38; refine ((HL1 wt.drew).out HTB.out (HG2.out.ext (HBx.out.trans HDR.out))).mono ?_; rintro e wl ⟨rfl, hbl⟩))
              have HXL := Lib.hid (HXU.out.trans hbl)
              have HEL := Lib.hid (HE7.out.trans hbl)
              have HBL := Lib.hid (Bd.ext HBDx.out HXL.out)
              have hll := HBL.out.lt
              refine nextW_go (by exact ⟨Ext.cell HEL.out y0', Ext.cell HEL.out y1', Ext.cell HEL.out xn'⟩) ?_
              refine tailW_step ?_
              go_wp2_with (first
                | (go_at_call 29; (with_reducible refine (write_by b6 b6 s2 ln _ HBL.out (by omega) (by omega)).mono ?_); rintro e wA2 ⟨rfl, hbA, hblA, hoA⟩))
              refine nextW_end ?_
              go_wp2_with fail
              go_roundw
              case rel => exact ⟨j + 1, by omega, by go_num, by rw [HPR.out]; exact hbA, ext_then HB6.out (HBx.out.trans HXL.out) hblA⟩
              case measure => simp [intOf]; omega
          · obtain rfl : j = p[k].code.length := by omega
            have HBE : Hid (Bd wx b6 b6 (textP (p.take (k + 1)))) := by have := HBDx.out; rw [preT_end p hlt] at this; exact this
            clear hjt hsl
            go_wp2_with fail
            go_roundw
            case rel => exact ⟨k + 1, by omega, by go_num, HBE.out, HBx.out⟩
            case measure => simp [intOf]; omega
      · obtain rfl : k = p.length := by omega
        have HBE : Hid (Bd wr b6 b6 sh) := by have := HBD.out; rw [List.take_length, ← HT.out] at this; exact this
        clear hlt hsl
        go_wp2_with (first
          | (go_at_call 32; refine (Tryz.Builder_String_any b6 b6 sh _ HBE.out (by omega)).mono ?_; rintro e w4 ⟨rfl, hb4⟩))
        go_ret2
        exact ⟨rfl, HB0.out.trans (ext_then HB6.out HB.out hb4)⟩
  · have hs0 : sh = [] := by rw [← HSH.out]; unfold showT; rw [if_neg (fun e => h0 (HR.out.symm.trans e))]
    subst hs0
    have T0 : (r != 0) = true := bne_iff_ne.2 h0
    clear h0
    go_enter Tryz.func11, Tryz.ntmps11
    go_wp2_with (first
      | (go_at_call 36; (with_reducible refine (progCheck_any p _ _ _ HP.out).mono ?_); rintro e w1 ⟨rfl, hb1⟩; rw [HR.out]))
    go_ret2
    exact ⟨rfl, hb1⟩
end Go.Proofs.YtpcjkfppacnkgaaGreatDoor
end
section
/- The desk's table, and its words. No condition. -/
set_option maxHeartbeats 4000000
set_option maxRecDepth 100000
namespace Go.Proofs.YtpcjkfppacnkgaaGreatDoor
open Go Go.RowKit

/-- The table in block b: the program, the state; their rows lie in blocks of S. -/
structure Tab (W : World) (S : Nat → Prop) (b : Nat) (p : List GFunc) (s : GState) (pa : Option Addr) (pc : Nat) (fa : Option Addr) (fc : Nat) (oa : Option Addr) (oc : Nat) : Prop where
  c0 : Cx W b 0 (.slice pa p.length pc)
  c1 : Cx W b 1 (.slice fa s.fibers.length fc)
  c2 : Cx W b 2 (.int .i64 s.now)
  c3 : Cx W b 3 (.slice oa s.out.length oc)
  pr : Funcs W S (.slice pa p.length pc) p
  st : StateV W S (.agg #[.slice fa s.fibers.length fc, .int .i64 s.now, .slice oa s.out.length oc]) s
  nb : ¬ S b
def TabX (W : World) (S : Nat → Prop) (b : Nat) (p : List GFunc) (s : GState) : Prop := ∃ pa pc fa fc oa oc, Tab W S b p s pa pc fa fc oa oc
/-- S, and what is new. -/
def Up (S : Nat → Prop) (n : Nat) (k : Nat) : Prop := S k ∨ n ≤ k
section
variable {W W' : World} {S T : Nat → Prop} {b n : Nat} {p : List GFunc} {s s' : GState} {pa : Option Addr} {pc : Nat} {fa : Option Addr} {fc : Nat} {oa : Option Addr} {oc : Nat}
theorem Tab.ext (h : Tab W S b p s pa pc fa fc oa oc) (he : Ext W W') : Tab W' S b p s pa pc fa fc oa oc :=
  ⟨h.c0.ext he, h.c1.ext he, h.c2.ext he, h.c3.ext he, Funcs.stays (Ext.stays he) h.pr, StateV.stays (Ext.stays he) h.st, h.nb⟩
theorem Tab.wide (h : Tab W S b p s pa pc fa fc oa oc) (hS : ∀ k, S k → T k) (hb : ¬ T b) : Tab W T b p s pa pc fa fc oa oc :=
  ⟨h.c0, h.c1, h.c2, h.c3, Funcs.stays (Stays.widen hS) h.pr, StateV.stays (Stays.widen hS) h.st, hb⟩
theorem Tab.up (h : Tab W S b p s pa pc fa fc oa oc) (hb : b < n) : Tab W (Up S n) b p s pa pc fa fc oa oc := h.wide (fun _ => .inl) (fun e => e.elim h.nb (fun e => by omega))
theorem Tab.upX (h : Tab W S b p s pa pc fa fc oa oc) (hb : b < n) : TabX W (Up S n) b p s := ⟨pa, pc, fa, fc, oa, oc, h.up hb⟩
theorem TabX.ext (h : TabX W S b p s) (he : Ext W W') : TabX W' S b p s := by
  obtain ⟨pa, pc, fa, fc, oa, oc, h⟩ := h
  exact ⟨pa, pc, fa, fc, oa, oc, h.ext he⟩
theorem TabX.wide (h : TabX W S b p s) (hS : ∀ k, S k → T k) (hb : ¬ T b) : TabX W T b p s := by
  obtain ⟨pa, pc, fa, fc, oa, oc, h⟩ := h
  exact ⟨pa, pc, fa, fc, oa, oc, h.wide hS hb⟩
theorem Tab.lt (h : Tab W S b p s pa pc fa fc oa oc) : b < W.heap.size := lt_of_cell h.c0.1
theorem TabX.fold {m : Nat} (h : TabX W (Up (Up S n) m) b p s) (hnm : n ≤ m) (hb : ¬ Up S n b) : TabX W (Up S n) b p s := h.wide (fun _ e => e.elim id (fun e => .inr (Nat.le_trans hnm e))) hb
theorem TabX.nb (h : TabX W S b p s) : ¬ S b := by obtain ⟨_, _, _, _, _, _, h⟩ := h; exact h.nb
theorem chgT3 (W : World) (b : Nat) (x y z : Value) : Chg (· = b) W (((W.setCell ⟨b, 1, none⟩ x).setCell ⟨b, 2, none⟩ y).setCell ⟨b, 3, none⟩ z) := ((chg_one _ _ _ _).trans (chg_one _ _ _ _)).trans (chg_one _ _ _ _)
theorem Tab.turn {xa ya : Option Addr} {xc yc : Nat} (h : Tab W S b p s pa pc fa fc oa oc)
    (hs : StateV W S (.agg #[.slice xa s'.fibers.length xc, .int .i64 s'.now, .slice ya s'.out.length yc]) s') :
    Tab (((W.setCell ⟨b, 1, none⟩ (.slice xa s'.fibers.length xc)).setCell ⟨b, 2, none⟩ (.int .i64 s'.now)).setCell ⟨b, 3, none⟩ (.slice ya s'.out.length yc)) S b p s' pa pc xa xc ya yc := by
  have hc := chgT3 W b (.slice xa s'.fibers.length xc) (.int .i64 s'.now) (.slice ya s'.out.length yc)
  have hS : ∀ k, S k → ¬ (k = b) := fun k hk e => h.nb (e ▸ hk)
  exact ⟨((h.c0.other (.inr (by decide)) _).other (.inr (by decide)) _).other (.inr (by decide)) _, ((h.c1.set _).other (.inr (by decide)) _).other (.inr (by decide)) _, ((h.c2.other (.inr (by decide)) _).set _).other (.inr (by decide)) _,
    ((h.c3.other (.inr (by decide)) _).other (.inr (by decide)) _).set _, Funcs.stays (hc.stays hS) h.pr, StateV.stays (hc.stays hS) hs, h.nb⟩
end

theorem str_is {x c : By} {X : ByteArray} (hX : (⟨x.toArray⟩ : ByteArray) = X) (h : x = c) : (X.toList == c) = true := by
  subst h; rw [← hX, ByteArray.toList_mk]; exact beq_self_eq_true _
theorem str_not {x c : By} {X : ByteArray} (hX : (⟨x.toArray⟩ : ByteArray) = X) (h : x ≠ c) : (X.toList == c) = false :=
  beq_eq_false_iff_ne.2 (fun e => h (by rw [← hX, ByteArray.toList_mk] at e; exact e))

theorem field_code (x y : Int) (v : Value) (w : World) : (Instr.field 49 (.agg #[.int .i64 x, .int .i64 y, v]) 2).run Tryz.prog w = .ok v w := by kernel_rfl

def WordRet (S : Nat → Prop) (p : List GFunc) (s : GState) (b : Nat) (W : World) (r : Option (GState × By)) (e : Ending) (W' : World) : Prop :=
  (match r with | some r => e = .returned (.tuple #[.string ⟨r.2.toArray⟩, .bool true]) ∧ TabX W' (Up S W.heap.size) b p r.1 | none => e = .returned (.tuple #[.string ⟨#[]⟩, .bool false]) ∧ TabX W' (Up S W.heap.size) b p s) ∧ Chg (· = b) W W'

theorem word_any (p : List GFunc) (s : GState) (l : List Int) (x : By) (X : ByteArray) (S : Nat → Prop) (b : Nat) (w : World) (hg : Glob w) (hX : (⟨x.toArray⟩ : ByteArray) = X) (hT : TabX w S b p s) (hok : Ok p s l) :
    Calls Tryz.prog 72 #[.pointer (some ⟨b, 0, none⟩), .string X] w fun e W' => WordRet S p s b w (wordG p s x) e W' := by
  have HG := Lib.hid hg
  have HX := Lib.hid hX
  have HOK := Lib.hid hok
  have hR := hok.right
  have HR := Lib.hid hR
  have hout := hok.out
  have hfew := hok.few
  obtain ⟨pa, pc, fa, fc, oa, oc, hT⟩ := hT
  have HT := Lib.hid hT
  obtain ⟨c0, c0'⟩ := hT.c0
  obtain ⟨c1, c1'⟩ := hT.c1
  obtain ⟨c2, c2'⟩ := hT.c2
  obtain ⟨c3, c3'⟩ := hT.c3
  obtain ⟨_, _, e, _, _, hints⟩ := id hT.st
  simp only [Value.agg.injEq, Array.mk.injEq, List.cons.injEq, true_and, and_true] at e
  obtain ⟨rfl, rfl⟩ := e
  have HOUT := Lib.hid hints
  have RA := alloc_keep
  clear hg hints hT
  unfold wordG
  by_cases h1 : x = outT
  · rw [if_pos h1]
    have t1 : (X.toList == ([111, 117, 116] : List UInt8)) = true := str_is hX h1
    clear h1 hX
    go_enter Tryz.func72, Tryz.ntmps72
    go_wp2_with (first
      | (go_at_call 108; (with_reducible refine (listed_any s.out _ _ _ HG.out HOUT.out (by omega)).mono ?_); rintro e w2 ⟨rfl, hb2⟩))
    go_ret2
    exact ⟨⟨rfl, (HT.out.ext hb2).upX HT.out.lt⟩, Chg.of_ext hb2⟩
  rw [if_neg h1]
  have t1 : (X.toList == ([111, 117, 116] : List UInt8)) = false := str_not hX h1
  by_cases h2 : x = lineT
  · rw [if_pos h2]
    have t2 : (X.toList == ([108, 105, 110, 101] : List UInt8)) = true := str_is hX h2
    have hline := hR.line
    have hll : l.length ≤ 1000 := by
      have h := hR.lineF
      have := nodup_len _ _ (lk_nodup hok.lk) (lk_range (fun k hk => (hok.callers k hk).2) hok.lk hok.now.2)
      omega
    have HL := Lib.hid hline
    clear h1 h2 hX hline
    go_enter Tryz.func72, Tryz.ntmps72
    go_wp2_with (first
      | (go_at_call 109; (with_reducible refine (line_any s _ _ _ HT.out.st HR.out.callers).mono ?_); rintro e w2 ⟨hr2, hb2⟩; unfold LineRetS at hr2; rw [HL.out] at hr2; obtain ⟨a2, k2, rfl, hx2⟩ := hr2)
      | (go_at_call 108; (with_reducible refine (listed_any l _ _ _ (HG.out.ext hb2) hx2 hll).mono ?_); rintro e w3 ⟨rfl, hb3⟩))
    go_ret2
    exact ⟨⟨by rw [HL.out]; rfl, (HT.out.ext (hb2.trans hb3)).upX HT.out.lt⟩, Chg.of_ext (hb2.trans hb3)⟩
  rw [if_neg h2]
  have t2 : (X.toList == ([108, 105, 110, 101] : List UInt8)) = false := str_not hX h2
  by_cases h3 : x = kindsT
  · rw [if_pos h3]
    have t3 : (X.toList == ([107, 105, 110, 100, 115] : List UInt8)) = true := str_is hX h3
    obtain ⟨i0, hi0, hz0, hz1, hz2⟩ := info_parts infoI
    clear h1 h2 h3 hX
    go_enter Tryz.func72, Tryz.ntmps72
    go_wp2_with fail
    go_loopw [8, 41] (fun q8 q41 wr => ∃ k : Nat, k ≤ s.fibers.length ∧ q41 = .int .i64 k ∧ Ext w wr ∧ RowAt wr w.heap.size 1 q8 k (ints ((kindsG p s).take k))) (fun _ q _ => s.fibers.length - (intOf q).toNat)
    case atStart => exact ⟨0, Nat.zero_le _, rfl, Ext.refl _, RowAt.nil _ _ _ _⟩
    case round =>
      obtain ⟨k, hk, rfl, hb, hrow⟩ := hrel
      have HB := Lib.hid hb
      have HROW := Lib.hid hrow
      obtain ⟨ar, capr, rfl, _, _⟩ := hrow.shape
      have hT2 := HT.out.ext hb
      have HTR := Lib.hid hT2
      by_cases hlt : k < s.fibers.length
      · clear c0 c0' c1 c1' c2 c2' c3 c3'
        obtain ⟨c0, c0'⟩ := hT2.c0
        obtain ⟨c1, c1'⟩ := hT2.c1
        obtain ⟨c2, c2'⟩ := hT2.c2
        obtain ⟨c3, c3'⟩ := hT2.c3
        have HKS := Lib.hid (kindsG_step (p := p) hlt)
        have hkl : ((kindsG p s).take k).length = k := by rw [List.length_take, kindsG_len]; omega
        have HCH := Lib.hid (fun W (h : Ext wr W) => chainOf_any p _ _ _ s _ k l W (Funcs.stays (Ext.stays h) HTR.out.pr) (StateV.stays (Ext.stays h) HTR.out.st) HR.out hlt)
        generalize kindS p s k = q at *
        obtain ⟨L, hL⟩ : ∃ L, (kindsG p s).take k = L := ⟨_, rfl⟩
        have HL := Lib.hid hL
        rw [hL] at hkl
        have HROW2 : Hid (RowAt wr w.heap.size 1 (.slice ar k capr) L.length (ints L)) := by rw [hkl, ← hL]; exact HROW.out
        clear hb hrow hT2 hL HROW
        go_upto_region 12 with fail
        refine wp_region_rt (fun W' => W'.cell? ⟨b, 0, none⟩ = some (.slice pa p.length pc) ∧ W'.cell? ⟨b, 1, none⟩ = some (.slice fa s.fibers.length fc) ∧ W'.cell? ⟨b, 2, none⟩ = some (.int .i64 s.now) ∧ W'.cell? ⟨b, 3, none⟩ = some (.slice oa s.out.length oc)) 13 [0, 1, 2, 3, 4, 5, 6, 7, 8, 9] [10, 11, 12, 13] (by kernel_rfl) (by kernel_rfl) (fun _ _ _ _ _ h => h) (by exact ⟨c0, c1, c2, c3⟩) ?_
        (try simp only [pickOps, List.filterMap_cons, List.filterMap_nil, List.getElem?_cons_zero, List.getElem?_cons_succ])
        repeat (
          refine readsQ_do (by rfl) ?_
          apply Exists.intro
          refine ⟨fun w' hw' => ?_, ?_⟩
          focus
            (try dsimp only at hw')
            go_split_ands
            go_simp
            (try with_reducible rfl)
          (try dsimp only [Act.put])
          (try simp only [List.setIfInBounds_toArray, List.set_cons_succ, List.set_cons_zero]))
        refine readsQ_nil ?_
        refine tailW_step ?_
        go_wp2_with (first
          | (go_at_call 110; (with_reducible refine (HCH.out _ (Ext.refl _).drew).mono ?_); rintro e w4 ⟨rfl, hb4⟩))
        have e4 := (Ext.refl wr).drew.trans hb4
        refine nextW_go (by exact ⟨Ext.cell e4 c0, Ext.cell e4 c1, Ext.cell e4 c2, Ext.cell e4 c3⟩) ?_
        refine tailW_step ?_
        go_wp2_with fail
        have e5 := e4.alloc (.cells #[.int .i64 q] 3)
        have HE5 := Lib.hid e5
        have HS5 := Lib.hid (Nat.le_trans HB.out.size e5.size)
        refine nextW_go (by exact ⟨Ext.cell e5 c0, Ext.cell e5 c1, Ext.cell e5 c2, Ext.cell e5 c3⟩) ?_
        refine tailW_step ?_
        go_wp2_with (first
          | (at_builtin; refine wpList_append_row rfl _ _ 30 rfl w.heap.size 3 i0 (.int .i64 0) 1 8 Tryz.underlying30 hi0 hz0 hz1 hz2 rfl (by decide) _ _ _ rfl (by exact HROW2.out.ext HE5.out (by decide)) 1 (ints [q]) (src_one _ _ _) (by unfold maxLen; omega) (by omega) (by exact HS5.out) ?_; intro v1 Wv1 rv1; have RV := Lib.hid rv1; obtain ⟨a9, cap9, rfl, _, _⟩ := rv1.1.shape; have HX9 := Lib.hid (Chg.ext_from (HB.out.trans HE5.out) RV.out.2.1 (fun b e => HROW2.out.le b e)); have HC9 := Lib.hid (HT.out.ext HX9.out); clear rv1))
        refine nextW_go (by exact ⟨HC9.out.c0.1, HC9.out.c1.1, HC9.out.c2.1, HC9.out.c3.1⟩) ?_
        refine tailW_step ?_
        go_wp2_with fail
        refine nextW_end ?_
        go_wp2_with fail
        go_roundw
        case rel => exact ⟨k + 1, by omega, by go_num, HX9.out, by rw [HKS.out, HL.out, show ints (L ++ [q]) = ints L ++ ints [q] by simp [ints]]; have h := RV.out.1; rw [hkl] at h; exact h⟩
        case measure => simp [intOf]; omega
      · obtain rfl : k = s.fibers.length := by omega
        have hkI : ∀ n ∈ kindsG p s, I64 n := by
          intro n hn
          unfold kindsG at hn
          obtain ⟨j, hj, rfl⟩ := List.mem_map.1 hn
          have := (HR.out.kind (List.mem_range.1 hj)).1
          exact I64.small (by omega) (by omega)
        have hlen := kindsG_len p s
        have hints : Ints wr (fun _ => True) (.slice ar s.fibers.length capr) (kindsG p s) := by
          have h := HROW.out
          rw [← hlen, List.take_length] at h
          rw [← hlen]
          exact Ints.of_row (by rw [flatMap_intF]; exact h) (by omega) hkI _ (fun _ _ _ => trivial)
        have HIN := Lib.hid hints
        have hkl : (kindsG p s).length ≤ 1000 := by omega
        clear hb hrow hints hlen hlt hT2
        go_wp2_with (first
          | (go_at_call 108; (with_reducible refine (listed_any (kindsG p s) _ _ _ (HG.out.ext HB.out) HIN.out hkl).mono ?_); rintro e w2 ⟨rfl, hb2⟩))
        go_ret2
        exact ⟨⟨rfl, (HTR.out.ext hb2).upX HT.out.lt⟩, Chg.of_ext (HB.out.trans hb2)⟩
  rw [if_neg h3]
  have t3 : (X.toList == ([107, 105, 110, 100, 115] : List UInt8)) = false := str_not hX h3
  by_cases h4 : x = trimT
  · rw [if_pos h4]
    have t4 : (X.toList == ([116, 114, 105, 109] : List UInt8)) = true := str_is hX h4
    clear h1 h2 h3 h4 hX
    go_enter Tryz.func72, Tryz.ntmps72
    go_wp2_with fail
    go_loopw [10, 67] (fun q10 q67 wr => ∃ k : Nat, k ≤ p.length ∧ q67 = .int .i64 k ∧ q10 = .int .i64 (trimK p k) ∧ Ext w wr) (fun _ q _ => p.length - (intOf q).toNat)
    case atStart => exact ⟨0, Nat.zero_le _, rfl, rfl, Ext.refl _⟩
    case round =>
      obtain ⟨k, hk, rfl, rfl, hb⟩ := hrel
      have HB := Lib.hid hb
      have hT2 := HT.out.ext hb
      have HTR := Lib.hid hT2
      have hRP := progErr_zero HOK.out.prog
      have hp5 := hRP.most
      have htk : trimK p k ≤ k * 24 := trimK_le HOK.out.prog k hk
      by_cases hlt : k < p.length
      · clear c0 c0' c1 c1' c2 c2' c3 c3'
        obtain ⟨c0, c0'⟩ := hT2.c0
        obtain ⟨hgd, hRF⟩ := hts_at (hRP.func k hlt) hlt
        have hE := hRP.hts k hlt
        rw [hgd] at hE
        obtain ⟨lh, hlh⟩ := Option.isSome_iff_exists.1 hE
        have HH := Lib.hid hlh
        have HRF := Lib.hid hRF
        have HSC := Lib.hid (trimK_succ hlt)
        have hle : (trimG p p[k]).code.length ≤ 24 := trimG_le (right_ops HOK.out.prog _ (List.getElem_mem hlt)).2.1
        generalize hge : trimG p p[k] = F at *
        have HGE := Lib.hid hge
        clear hb hT2 hge hE hRP hlh hRF hgd
        go_wp2_with (first
          | (go_at_call 99; (with_reducible refine (trimOf_any p _ _ k _ HTR.out.pr hlt HRF.out lh HH.out).mono ?_); rintro e w3 ⟨⟨y, rfl, hy⟩, hb3⟩; rw [HGE.out] at hy; obtain ⟨vs, rfl, _, _, hops⟩ := hy; obtain ⟨sa, cs, rfl, _, _, _⟩ := hops; have hfd := fun w => field_code F.args F.locals (.slice sa F.code.length cs) w))
        go_roundw
        case rel => exact ⟨k + 1, by omega, by go_num, by rw [HSC.out]; go_num, HB.out.trans hb3⟩
        case measure => simp [intOf]; omega
      · obtain rfl : k = p.length := by omega
        obtain ⟨n, hn⟩ : ∃ n, trimK p p.length = n := ⟨_, rfl⟩
        have HN := Lib.hid hn
        rw [hn] at htk ⊢
        have HL1 : Hid (listT [(n : Int)] = Lib.itoa n) := listT_one n
        have HI1 : ∀ W : World, Hid (Ints (W.alloc (.cells #[.int .i64 n] 3)) (fun _ => True) (.slice (some ⟨W.heap.size, 0, none⟩) 1 1) [(n : Int)]) := fun W => ints_fresh W [(n : Int)] (by intro m hm; rw [List.mem_singleton.1 hm]; exact I64.small (by omega) (by omega)) (by simp)
        clear hb hT2 hlt hn
        go_wp2_with (first
          | (go_at_call 108; (with_reducible refine (listed_any [(n : Int)] _ _ _ ((HG.out.ext HB.out).ext ((Ext.refl _).alloc _)) (HI1 _).out (by simp)).mono ?_); rintro e w2 ⟨rfl, hb2⟩))
        go_ret2
        exact ⟨⟨by rw [HL1.out, HN.out]; rfl, ((HTR.out.ext ((Ext.refl _).alloc _)).ext hb2).upX HT.out.lt⟩, Chg.of_ext ((HB.out.alloc _).trans hb2)⟩
  rw [if_neg h4]
  have t4 : (X.toList == ([116, 114, 105, 109] : List UInt8)) = false := str_not hX h4
  by_cases h5 : x = againT
  · rw [if_pos h5]
    have t5 : (X.toList == ([97, 103, 97, 105, 110] : List UInt8)) = true := str_is hX h5
    clear h1 h2 h3 h4 h5 hX
    go_enter Tryz.func72, Tryz.ntmps72
    go_wp2_with (first
      | (go_at_call 27; (with_reducible refine (first_own p _ _ _ HT.out.pr HOK.out.prog).mono ?_); rintro e w2 ⟨⟨y, rfl, hy⟩, hb2⟩; obtain ⟨ya, yc, yb, yd, rfl⟩ := hy.few; obtain ⟨⟨d0, d0'⟩, ⟨d1, d1'⟩, ⟨d2, d2'⟩, ⟨d3, d3'⟩⟩ := (⟨(HT.out.ext hb2).c0, (HT.out.ext hb2).c1, (HT.out.ext hb2).c2, (HT.out.ext hb2).c3⟩ : _ ∧ _ ∧ _ ∧ _); have HY := Lib.hid hy))
    go_ret2
    refine ⟨⟨rfl, ⟨_, _, _, _, _, _, ((HT.out.ext hb2).up HT.out.lt).turn (s' := beginG p) (StateV.stays (fun g o v hg hc => ⟨hc, .inr hg⟩) HY.out.state)⟩⟩, (Chg.of_ext hb2).trans (chgT3 _ _ _ _ _)⟩
  rw [if_neg h5]
  have t5 : (X.toList == ([97, 103, 97, 105, 110] : List UInt8)) = false := str_not hX h5
  clear h1 h2 h3 h4 h5 hX
  go_enter Tryz.func72, Tryz.ntmps72
  go_wp2_with fail
  go_ret2
  exact ⟨⟨rfl, HT.out.upX HT.out.lt⟩, Chg.refl _ _⟩
end Go.Proofs.YtpcjkfppacnkgaaGreatDoor
end
section
/- Plain data: the op of the frame that runs, in a right state; frames behind it. No program in sight; no condition. -/
set_option maxHeartbeats 1000000
namespace Go.Proofs.YtpcjkfppacnkgaaGreatDoor
open Go Go.RowKit

theorem op_right {p : List GFunc} (hP : RightP p) {f : Int} (h0 : 0 ≤ f) (h1 : f < p.length) : ∀ x ∈ (funcOf p f).code, opErr p (funcOf p f) x = 0 := by
  have hf : f.toNat < p.length := by omega
  have h := hP.func f.toNat hf
  have e0 : ((f.toNat : Nat) : Int) = f := by omega
  rw [e0] at h
  unfold funcErr at h
  rw [if_neg (fun k => k ⟨h0, h1⟩)] at h
  show ∀ x ∈ (p.getD f.toNat default).code, opErr p (p.getD f.toNat default) x = 0
  by_cases h2 : 24 < (p.getD f.toNat default).code.length
  · rw [if_pos h2] at h; omega
  · rw [if_neg h2] at h
    cases h3 : sizedB (p.getD f.toNat default) with
    | false => rw [h3, if_pos rfl] at h; omega
    | true =>
      rw [h3, if_neg (by decide)] at h
      exact ok_ops h

structure OpF (p : List GFunc) (x : GFrame) (o : GOp) : Prop where
  fn : 0 ≤ x.func ∧ x.func < p.length
  locals : (x.locals.length : Int) = (funcOf p x.func).locals
  at_ : 0 ≤ x.at_ ∧ x.at_ < (funcOf p x.func).code.length
  op : (funcOf p x.func).code.getD x.at_.toNat default = o
  kind : 0 ≤ o.kind ∧ o.kind ≤ 16
  a : 0 ≤ o.a ∧ o.a ≤ mostOf p (funcOf p x.func) o.kind
  callee : o.kind = 11 ∨ o.kind = 13 → 0 ≤ (funcOf p o.a).args ∧ (funcOf p o.a).args ≤ (funcOf p o.a).locals ∧ (funcOf p o.a).locals ≤ 4
  one : o.kind = 13 → (funcOf p o.a).args = 1
  takes : takesOf p o ≤ x.stack.length
  few : nOf p o x.stack.length ≤ 8
  ret : o.kind = 12 → x.stack.length = 1
  goes : ∀ i ∈ nx o x.at_.toNat, i < (funcOf p x.func).code.length ∧ (hgt p x.func).getD i 0 = nOf p o x.stack.length

theorem opF_of {p : List GFunc} (hP : RightP p) {x : GFrame} (hx : frameB p x = true) (hf : fullB p x = true) : OpF p x (opAt p x) := by
  obtain ⟨f1, f2, f3, f4⟩ := frameB_facts hx
  obtain ⟨hr, hh⟩ := right_hf hP f1.1 f1.2
  have ha : x.at_.toNat < (funcOf p x.func).code.length := by omega
  have e : opAt p x = (funcOf p x.func).code[x.at_.toNat] := by unfold opAt; simp [List.getD, List.getElem?_eq_getElem ha]
  have hm : opAt p x ∈ (funcOf p x.func).code := by rw [e]; exact List.getElem_mem ha
  obtain ⟨k0, k1, a0, a1, c1, c2⟩ := ok_facts (op_right hP f1.1 f1.2 _ hm)
  unfold fullB at hf
  have hf := of_decide_eq_true hf
  obtain ⟨t1, t2, t3, t4⟩ := hh.thru _ ha f4
  rw [← e, ← hf] at t1 t2 t4
  rw [← e] at t3
  refine ⟨f1, f2, f3, rfl, ⟨k0, k1⟩, ⟨a0, a1⟩, fun hk => sizedB_facts (c1 hk), fun hk => c2 hk, t1, t2, fun hk => ?_, t4⟩
  have := t3 hk
  omega

theorem leaves01 (o : GOp) : 0 ≤ leavesOf o ∧ leavesOf o ≤ 1 := by unfold leavesOf; split <;> omega

theorem OpF.full {p : List GFunc} {x : GFrame} {o : GOp} (h : OpF p x o) {x' : GFrame} (hf : x'.func = x.func) (hl : x'.locals.length = x.locals.length) {i : Nat} (hi : i ∈ nx o x.at_.toNat)
    (ha : x'.at_ = i) (hs : (x'.stack.length : Int) = nOf p o x.stack.length) : frameB p x' = true ∧ fullB p x' = true := by
  obtain ⟨g1, g2⟩ := h.goes i hi
  have := h.takes
  have := leaves01 o
  have e : x'.at_.toNat = i := by rw [ha]; simp
  unfold frameB fullB
  rw [hf, hl, e, ha, g2, hs]
  refine ⟨?_, decide_eq_true rfl⟩
  rw [decide_eq_true h.fn, decide_eq_true h.locals, decide_eq_true (show 0 ≤ (i : Int) ∧ (i : Int) < ((funcOf p x.func).code.length : Nat) from ⟨by omega, by omega⟩), decide_eq_true (show 0 ≤ nOf p o x.stack.length by unfold nOf; omega)]
  rfl
theorem nx_next {o : GOp} {k : Nat} (h9 : o.kind ≠ 9) (h12 : o.kind ≠ 12) : k + 1 ∈ nx o k := by
  unfold nx
  rw [if_neg (show ¬ (o.kind = 9 ∨ o.kind = 12) by omega)]
  simp
theorem nx_jump {o : GOp} {k : Nat} (h : o.kind = 9 ∨ o.kind = 10) : o.a.toNat ∈ nx o k := by
  unfold nx
  rw [if_pos h]
  simp
/-- A frame that waits. -/
theorem OpF.wait {p : List GFunc} {x : GFrame} {o : GOp} (h : OpF p x o) {x' : GFrame} (hf : x'.func = x.func) (hl : x'.locals.length = x.locals.length) (h9 : o.kind ≠ 9) (h12 : o.kind ≠ 12)
    (ha : x'.at_ = x.at_ + 1) (hs : (x'.stack.length : Int) = nOf p o x.stack.length - 1) {b : Int} (hb : o.kind = 11 → b = o.a) : frameB p x' = true ∧ waitB p x' o.kind b = true := by
  obtain ⟨g1, g2⟩ := h.goes _ (nx_next h9 h12)
  have h1 := h.at_
  have h0 : 0 ≤ nOf p o x.stack.length := by omega
  have e : x'.at_.toNat = x.at_.toNat + 1 := by omega
  have ea : (x'.at_ - 1).toNat = x.at_.toNat := by omega
  have eo : opBack p x' = o := by unfold opBack; rw [hf, ea]; exact h.op
  unfold frameB waitB
  rw [eo, hf, hl, e, ha, g2, hs]
  refine ⟨?_, ?_⟩
  · rw [decide_eq_true h.fn, decide_eq_true h.locals, decide_eq_true (show 0 ≤ x.at_ + 1 ∧ x.at_ + 1 < ((funcOf p x.func).code.length : Nat) from ⟨by omega, by omega⟩), decide_eq_true h0]
    rfl
  · rw [decide_eq_false (show ¬ x.at_ + 1 = 0 by omega), decide_eq_true rfl, decide_eq_true rfl]
    by_cases h11 : o.kind = 11
    · rw [decide_eq_true h11, hb h11, decide_eq_true rfl]; rfl
    · rw [decide_eq_false h11]; rfl
/-- Who waits, and is given a value, stands full. -/
theorem wait_full {p : List GFunc} {x : GFrame} {k a : Int} (h : waitB p x k a = true) (hx : frameB p x = true) (v : Int) :
    frameB p { x with stack := x.stack ++ [v] } = true ∧ fullB p { x with stack := x.stack ++ [v] } = true := by
  have hs := waitB_stack h
  refine ⟨hx, ?_⟩
  unfold fullB
  refine decide_eq_true ?_
  show (((x.stack ++ [v]).length : Nat) : Int) = _
  rw [List.length_append, List.length_singleton]
  show ((x.stack.length + 1 : Nat) : Int) = (hgt p x.func).getD x.at_.toNat 0
  omega
/-- A frame that is new. -/
theorem new_full {p : List GFunc} (hP : RightP p) {f : Int} (h0 : 0 ≤ f) (h1 : f < p.length) {l : List Int} (hl : (l.length : Int) = (funcOf p f).locals) : frameB p ⟨f, 0, l, []⟩ = true ∧ fullB p ⟨f, 0, l, []⟩ = true := by
  obtain ⟨hr, hh⟩ := right_hf hP h0 h1
  have hp := hh.pos
  have hz := hh.zero
  unfold frameB fullB
  rw [show (0 : Int).toNat = 0 from rfl, hz]
  refine ⟨?_, decide_eq_true rfl⟩
  rw [decide_eq_true (show 0 ≤ f ∧ f < (p.length : Int) from ⟨h0, h1⟩), decide_eq_true hl, decide_eq_true (show (0 : Int) ≤ 0 ∧ (0 : Int) < ((funcOf p f).code.length : Nat) from ⟨by omega, by omega⟩)]
  rfl
end Go.Proofs.YtpcjkfppacnkgaaGreatDoor
end
section
/- Plain data: an op that stays in its frame keeps a state right. No program in sight; no condition. -/
set_option maxHeartbeats 1000000
namespace Go.Proofs.YtpcjkfppacnkgaaGreatDoor
open Go Go.RowKit

/-- What comes of a step of a right state: a right one, or an error that may be. -/
def Res (p : List GFunc) (r : Int × GState) : Prop := (r.1 = 0 ∧ ∃ l, Ok p r.2 l) ∨ r.1 = 2 ∨ r.1 = 5 ∨ r.1 = 6 ∨ r.1 = 7
theorem Ok.few5 {p : List GFunc} {s : GState} {l r : List Int} {k : Nat} {fs : List GFrame} {x : GFrame} (h : Ok p s l) (hR : Runs p s l k fs x r) : fs.length ≤ 5 := by
  have := h.frames k hR.at_.lt
  rw [hR.at_.frames] at this
  simp at this
  omega
theorem stay {p : List GFunc} {s s' : GState} {l r : List Int} {k : Nat} {fs : List GFrame} {x x' : GFrame} {o : GOp} (h : Ok p s l) (hR : Runs p s l k fs x r) (hF : OpF p x o)
    (hn : Near s s' k) (ha : At s' k fs x') (hf : x'.func = x.func) (hl : x'.locals.length = x.locals.length) {i : Nat} (hi : i ∈ nx o x.at_.toNat) (hi' : x'.at_ = i)
    (hs : (x'.stack.length : Int) = nOf p o x.stack.length) (ho : s'.out.length ≤ 30) : Res p (0, s') := by
  obtain ⟨h1, h2⟩ := hF.full hf hl hi hi' hs
  exact .inl ⟨rfl, l, h.near hn ha hR.zero (by rw [hf]; exact hR.on) h1 h2 (h.few5 hR) ho⟩

theorem stays_right {p : List GFunc} {s t : GState} {l r : List Int} {k : Nat} {fs : List GFrame} {x : GFrame} {o : GOp} (h : Ok p s l) (hR : Runs p s l k fs x r) (hF : OpF p x o)
    (hN : Near s t k) (hA : At t k fs { x with at_ := x.at_ + 1 }) (hO : t.out = s.out) (hk : o.kind ≤ 10) : WorkFit p t o.kind o.a ∧ Res p (workG p t o.kind o.a) := by
  have hx : curX t = { x with at_ := x.at_ + 1 } := hA.curX
  have ht := hF.takes
  have hk0 := hF.kind.1
  have ha0 := hF.a.1
  have ham := hF.a.2
  have hlt := hR.at_.lt
  have hat := hF.at_
  have hloc := hF.locals
  have hout : t.out.length ≤ 30 := by rw [hO]; exact h.out
  have cases9 : o.kind = 0 ∨ o.kind = 1 ∨ o.kind = 2 ∨ o.kind = 3 ∨ o.kind = 9 ∨ o.kind = 10 ∨ (4 ≤ o.kind ∧ o.kind ≤ 8) := by omega
  have hi1 : ((x.at_.toNat + 1 : Nat) : Int) = x.at_ + 1 := by omega
  rcases cases9 with e | e | e | e | e | e | e
  · have w : workG p t o.kind o.a = (0, pushG t t.now o.a) := by rw [e]; simp [workG]
    refine ⟨by rw [e]; simp [WorkFit], ?_⟩
    rw [w]
    refine stay h hR hF (hN.top hlt _ hA.now) (hA.top _ hA.now) rfl rfl (nx_next (by omega) (by omega)) hi1.symm ?_ hout
    simp [nOf, takesOf, leavesOf, e]
  · have w : workG p t o.kind o.a = (0, popG t) := by rw [e]; simp [workG]
    have tk : takesOf p o = 1 := by simp [takesOf, e]
    refine ⟨by rw [e]; simp [WorkFit, hx]; omega, ?_⟩
    rw [w]
    refine stay h hR hF (hN.top hlt _ hA.now) (hA.top _ hA.now) rfl rfl (nx_next (by omega) (by omega)) hi1.symm ?_ hout
    simp [nOf, tk, leavesOf, e]
    omega
  · have w : workG p t o.kind o.a = (0, pushG t t.now ((curX t).locals.getD o.a.toNat 0)) := by rw [e]; simp [workG]
    have m : o.a ≤ (funcOf p x.func).locals - 1 := by simpa [mostOf, e] using ham
    refine ⟨by rw [e]; simp [WorkFit, hx]; omega, ?_⟩
    rw [w]
    refine stay h hR hF (hN.top hlt _ hA.now) (hA.top _ hA.now) rfl rfl (nx_next (by omega) (by omega)) hi1.symm ?_ hout
    simp [nOf, takesOf, leavesOf, e]
  · have w : workG p t o.kind o.a = (0, modTop (popG t) t.now fun x => { x with locals := x.locals.set o.a.toNat (lastV t) }) := by rw [e]; simp [workG]
    have tk : takesOf p o = 1 := by simp [takesOf, e]
    have m : o.a ≤ (funcOf p x.func).locals - 1 := by simpa [mostOf, e] using ham
    refine ⟨by rw [e]; simp [WorkFit, hx]; omega, ?_⟩
    rw [w]
    refine stay h hR hF ((hN.top hlt _ hA.now).top hlt _ hA.now) ((hA.top _ hA.now).top _ hA.now) rfl (by simp) (nx_next (by omega) (by omega)) hi1.symm ?_ hout
    simp [nOf, tk, leavesOf, e]
    omega
  · have w : workG p t o.kind o.a = (0, setAtG t o.a) := by rw [e]; simp [workG]
    refine ⟨by rw [e]; simp [WorkFit], ?_⟩
    rw [w]
    refine stay h hR hF (hN.top hlt _ hA.now) (hA.top _ hA.now) rfl rfl (nx_jump (.inl e)) (by show o.a = _; omega) ?_ hout
    simp [nOf, takesOf, leavesOf, e]
  · have w : workG p t o.kind o.a = (0, if lastV t = 0 then setAtG (popG t) o.a else popG t) := by rw [e]; simp [workG]
    have tk : takesOf p o = 1 := by simp [takesOf, e]
    refine ⟨by rw [e]; simp [WorkFit, hx]; omega, ?_⟩
    rw [w]
    by_cases hl : lastV t = 0
    · rw [if_pos hl]
      refine stay h hR hF ((hN.top hlt _ hA.now).top hlt _ hA.now) ((hA.top _ hA.now).top _ hA.now) rfl rfl (nx_jump (.inr e)) (by show o.a = _; omega) ?_ hout
      simp [nOf, tk, leavesOf, e]
      omega
    · rw [if_neg hl]
      refine stay h hR hF (hN.top hlt _ hA.now) (hA.top _ hA.now) rfl rfl (nx_next (by omega) (by omega)) hi1.symm ?_ hout
      simp [nOf, tk, leavesOf, e]
      omega
  · have w : workG p t o.kind o.a = (0, pushG (popG (popG t)) t.now (reckG o.kind (lastV (popG t)) (lastV t))) := by
      unfold workG
      rw [if_neg (by omega), if_neg (by omega), if_neg (by omega), if_neg (by omega), if_neg (by omega), if_neg (by omega), if_neg (by omega), if_neg (by omega), if_neg (by omega), if_neg (by omega), if_neg (by omega), if_neg (by omega)]
    have tk : takesOf p o = 2 := by unfold takesOf; rw [if_pos (by omega)]
    have lv : leavesOf o = 1 := by unfold leavesOf; rw [if_neg (by omega)]
    refine ⟨?_, ?_⟩
    · unfold WorkFit
      rw [if_neg (by omega), if_neg (by omega), if_neg (by omega), if_neg (by omega), if_neg (by omega), if_neg (by omega), if_neg (by omega), if_neg (by omega), if_neg (by omega), if_neg (by omega), if_neg (by omega), if_neg (by omega), hx]
      show 2 ≤ x.stack.length
      omega
    · rw [w]
      refine stay h hR hF (((hN.top hlt _ hA.now).top hlt _ hA.now).top hlt _ hA.now) (((hA.top _ hA.now).top _ hA.now).top _ hA.now) rfl rfl (nx_next (by omega) (by omega)) hi1.symm ?_ hout
      simp [nOf, tk, lv]
      omega
end Go.Proofs.YtpcjkfppacnkgaaGreatDoor
end
