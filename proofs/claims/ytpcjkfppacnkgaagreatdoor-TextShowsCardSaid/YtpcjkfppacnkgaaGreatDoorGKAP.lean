/- Merged texts: contracts and plain facts, one part behind another; each part begins with what it says. -/
import Derived.Test.YtpcjkfppacnkgaaGreatDoorGKAI
import Derived.Test.YtpcjkfppacnkgaaGreatDoorGKAN
import Derived.Test.YtpcjkfppacnkgaaGreatDoorGKAO
import Derived.Laws.Externs
import Derived.Lib.AppendStr
import Derived.Lib.BufferKept
import Derived.Lib.Builder
import Derived.Lib.OwnKind
import Derived.Lib.Slices
import Derived.Lib.Strings
import Derived.Lib.UnsafeStr
import Derived.Outline
import Derived.OwnWalk
import Derived.RecoverIn
import Derived.Test.YtpcjkfppacnkgaaGreatDoorProg
import Derived.WalkSpells
section
/- Contracts of strings.Builder's copyCheck and WriteString, at a builder of the call's own. No condition. -/
set_option maxHeartbeats 2000000
set_option maxRecDepth 100000
namespace Go.Proofs.YtpcjkfppacnkgaaGreatDoor
open Go Go.RowKit

theorem bld_size : (Tryz.prog.info? 65).map (·.size) = some 2 := by kernel_rfl
theorem bld_lies : liesAt Tryz.prog Tryz.prog.depth 65 (2 / Tryz.prog.cellsOf 65) 0 65 1 = true := by kernel_rfl
theorem bld_byte : (Tryz.prog.info? 5).map (fun i => (i.zero, i.size, i.bytes)) = some (some (.int .u8 0), 1, 1) := by kernel_rfl

theorem ext_grown {w w' : World} (h : Ext w w') : w.grownBy w' none := ⟨h.os, h.tape, h.output, h.size, fun k hk _ => h.block k hk⟩
/-- A builder of the call's own that holds the bytes l. -/
def Bd (w : World) (B b : Nat) (l : List UInt8) : Prop := Lib.IsBuilder 65 5 B b (Lib.byteCells l) w
theorem BuilderAt.ext {T e : TypeId} {B b : Nat} {p : Value} {bs : List Value} {w w' : World} (h : Lib.BuilderAt T e B b p bs w) (he : Ext w w') : Lib.BuilderAt T e B b p bs w' := by
  have hlt := h.lt
  obtain ⟨hB, v, hb, hown, hne⟩ := h
  exact ⟨hB, v, (he.block b hlt).trans hb, hown.kept (row := none) (ext_grown he) (by cases h : v.ownBlock <;> simp), hne⟩
theorem Bd.ext {w w' : World} {B b : Nat} {l : List UInt8} (h : Bd w B b l) (he : Ext w w') : Bd w' B b l := h.imp (fun h => BuilderAt.ext h he) (fun h => BuilderAt.ext h he)
theorem Bd.new (w : World) (B : Nat) (hB : B ≤ w.heap.size) : Bd (w.alloc (.cells #[.pointer none, .slice none 0 0] 65)) B w.heap.size [] :=
  .inl ⟨hB, .slice none 0 0, World.alloc_heap_new w _, World.ownsRow_nil _ _ _ _, by simp [Value.ownBlock]⟩
theorem Bd.lt {w : World} {B b : Nat} {l : List UInt8} (h : Bd w B b l) : b < w.heap.size := h.elim (·.lt) (·.lt)

theorem others_set (w : World) (b o : Nat) (u : Value) (e : TypeId) : Lib.OthersKept e (some b) w (w.setCell ⟨b, o, none⟩ u) := (Lib.OthersKept.refl e (some b) w).setCell ⟨b, o, none⟩ rfl u
theorem copyCheck_any (B b : Nat) (bs : List Value) (w : World) (h : Lib.IsBuilder 65 5 B b bs w) :
    Calls Tryz.prog 71 #[.pointer (some ⟨b, 0, none⟩)] w fun e w' => e = .returned (.tuple #[]) ∧ Lib.BuilderAt 65 5 B b (.pointer (some ⟨b, 0, none⟩)) bs w' ∧ Below B w w' ∧ Lib.OthersKept 5 (some b) w w' := by
  obtain ⟨j, hj, hjs⟩ := Option.map_eq_some_iff.1 bld_size
  rcases h with h | h
  · have h0 := h.cell0
    have hsh := h.shape
    have hfz := h.frozen0
    go_enter Tryz.func71, Tryz.ntmps71
    go_wp2
    rw [Lib.run_to_unsafe w ⟨b, 0, none⟩ Tryz.underlying62 Tryz.underlying147 hj (by rw [hjs]; decide) hsh (Nat.zero_lt_succ 1)]
    simp only [Result.andThen]
    rw [Oper.upon_value]
    go_wp2
    rw [run_callFunc_extern Tryz.func107 (by kernel_rfl) (by kernel_rfl) (by kernel_rfl) (e := Extern.AbiNoEscape.same) (by kernel_rfl)]
    rw [Lib.run_noEscape]
    simp only [Result.andThen]
    rw [Oper.upon_value]
    go_wp2
    rw [Lib.run_from_unsafe w ⟨b, 0, none⟩ Tryz.underlying147 Tryz.underlying62 hj hsh bld_lies]
    simp only [Result.andThen]
    rw [Oper.upon_value]
    go_wp2
    go_end0
    exact ⟨rfl, h.used _, (Below.refl B w).setCell (p := ⟨b, 0, none⟩) h.1 _, others_set w b 0 _ _⟩
  · have h0 := h.cell0
    go_enter Tryz.func71, Tryz.ntmps71
    go_wp2
    rw [Lib.run_neq_ptr_same w _ Tryz.underlying62 hj]
    go_wp2
    go_end0
    exact ⟨rfl, h, Below.refl B _, Lib.OthersKept.refl _ _ _⟩
theorem writeString_any (B b : Nat) (bs : List Value) (s : ByteArray) (w : World) (h : Lib.IsBuilder 65 5 B b bs w) (hlen : bs.length + s.size ≤ 140737488355328) (hBw : B ≤ w.heap.size) :
    Calls Tryz.prog 29 #[.pointer (some ⟨b, 0, none⟩), .string s] w fun e w' => e = .returned (.tuple #[.int .i64 s.size, .nilIface]) ∧ Lib.BuilderAt 65 5 B b (.pointer (some ⟨b, 0, none⟩)) (bs ++ Lib.strCells s) w' ∧ Below B w w' ∧ Lib.OthersKept 5 (some b) w w' := by
  obtain ⟨i0, hi, hz0, hz1, hz2⟩ := info_parts bld_byte
  go_enter Tryz.func29, Tryz.ntmps29
  go_wp2_with (go_at_call 71; refine (copyCheck_any B b bs _ h).mono ?_)
  rintro e w1 ⟨rfl, h1, hb1, ho1⟩
  obtain ⟨hB, v, hbk, hown, hne⟩ := h1
  have c0 : w1.cell? ⟨b, 0, none⟩ = some (.pointer (some ⟨b, 0, none⟩)) := by rw [Lib.cell_of_heap hbk]; rfl
  have c1 : w1.cell? ⟨b, 1, none⟩ = some v := by rw [Lib.cell_of_heap hbk]; rfl
  go_wp2_with (at_builtin; refine Lib.wpList_append_own_string _ rfl _ _ 63 9 rfl B 5 i0 Tryz.underlying63 Tryz.underlying9 hi hz0 hz1 hz2 _ _ _ rfl hown s rfl ?c3 ?c4 ?c5 ?_)
  case c3 => unfold maxLen; omega
  case c4 => omega
  case c5 => have := hb1.size; omega
  intro v' w2 hown' hgrow _
  have hlt : b < w1.heap.size := by
    rcases Nat.lt_or_ge b w1.heap.size with h' | h'
    · exact h'
    · simp [Array.getElem?_eq_none h'] at hbk
  have hb2 : w2.heap[b]? = some (.cells #[.pointer (some ⟨b, 0, none⟩), v] 65 (0, 0)) := by
    rw [hgrow.block b hlt (fun e => hne e.symm)]
    exact hbk
  have d0 : w2.cell? ⟨b, 0, none⟩ = some (.pointer (some ⟨b, 0, none⟩)) := by rw [Lib.cell_of_heap hb2]; rfl
  have d1 : w2.cell? ⟨b, 1, none⟩ = some v := by rw [Lib.cell_of_heap hb2]; rfl
  have f1 : w2.frozen? ⟨b, 1, none⟩ = false := Lib.frozen_of_heap hb2 1
  obtain ⟨ao, n', cap, rfl⟩ : ∃ ao n' cap, v' = .slice ao n' cap := by
    rcases hown'.2 with ⟨hv, _⟩ | ⟨g, cap, cur, hv, _⟩
    · exact ⟨_, _, _, hv⟩
    · exact ⟨_, _, _, hv⟩
  go_wp2
  go_ret2
  refine ⟨rfl, ?_, ?_, ?_⟩
  · exact Lib.BuilderAt.put (T := 65) (e := 5) hB hb2 (bs' := bs ++ Lib.strCells s) (by simpa [Lib.strCells_length] using hown') (by decide)
  · exact (hb1.grown hgrow (by have := hb1.size; omega) (fun k hk => (hown.lt k hk).1)).setCell (p := ⟨b, 1, none⟩) hB _
  · exact (ho1.grown hgrow (Lib.ownsRow_kind hown)).setCell ⟨b, 1, none⟩ rfl _
theorem strCells_by (x : List UInt8) : Lib.strCells ⟨x.toArray⟩ = Lib.byteCells x := by simp [Lib.strCells, Lib.byteCells]
theorem write_by (B b : Nat) (l x : List UInt8) (w : World) (h : Bd w B b l) (hlen : l.length + x.length ≤ 140737488355328) (hBw : B ≤ w.heap.size) :
    Calls Tryz.prog 29 #[.pointer (some ⟨b, 0, none⟩), .string ⟨x.toArray⟩] w fun e w' => e = .returned (.tuple #[.int .i64 x.length, .nilIface]) ∧ Bd w' B b (l ++ x) ∧ Below B w w' ∧ Lib.OthersKept 5 (some b) w w' := by
  have hsz : (⟨x.toArray⟩ : ByteArray).size = x.length := by simp [ByteArray.size]
  refine (writeString_any B b (Lib.byteCells l) ⟨x.toArray⟩ w h (by rw [hsz]; simpa [Lib.byteCells] using hlen) hBw).mono ?_
  rintro e w' ⟨rfl, h1, h2, h3⟩
  refine ⟨by rw [hsz], .inr ?_, h2, h3⟩
  rw [strCells_by] at h1
  simpa [Lib.byteCells] using h1
end Go.Proofs.YtpcjkfppacnkgaaGreatDoor
end
section
/- Contract of the text package's Show. No condition. -/
set_option maxHeartbeats 4000000
set_option maxRecDepth 100000
namespace Go.Proofs.YtpcjkfppacnkgaaGreatDoor
open Go Go.RowKit

theorem ints_fresh (W : World) (l : List Int) (hI : ∀ n ∈ l, I64 n) (hl : l.length ≤ 1000) : Ints (W.alloc (.cells (ints l).toArray 3)) (fun _ => True) (.slice (some ⟨W.heap.size, 0, none⟩) l.length l.length) l := by
  refine ⟨some ⟨W.heap.size, 0, none⟩, l.length, rfl, Nat.le_refl _, ⟨by omega, by omega⟩, fun i hi => ⟨W.heap.size, 0, rfl, trivial, ?_, hI _ (List.getElem_mem hi)⟩⟩
  rw [World.cell?_alloc_new, List.getElem?_toArray, Nat.zero_add, Nat.mul_one]
  unfold ints
  rw [List.getElem?_map, List.getElem?_eq_getElem hi]
  rfl
theorem ext_then {w2 W W' : World} {b6 : Nat} (e : w2.heap.size = b6) (h : Ext w2 W) (hb : Below b6 W W') : Ext w2 W' := by subst e; exact Below.trans h hb
theorem cells_at {w : World} {b : Nat} {cs : Array Value} {t : TypeId} {z : Nat × Nat} (h : w.heap[b]? = some (.cells cs t z)) (o : Nat) : w.cell? ⟨b, o, none⟩ = cs[o]? := by simp [World.cell?, h]
theorem heap_new (w : World) (o : Obj) : (w.alloc o).heap[w.heap.size]? = some o := World.alloc_heap_new w _
def showT (p : List GFunc) : By := if progErr p = 0 then textP p else []
theorem words_head (f : GFunc) : wordsI funcT [f.args, f.locals] = headW f := by unfold wordsI headW; simp
theorem words_op (x : GOp) (h : toldB x.kind = true) : wordsI (nameT x.kind) [x.a] = opW x := by unfold wordsI opW; rw [h]; simp
theorem words_op0 (x : GOp) (h : toldB x.kind = false) : wordsI (nameT x.kind) [] = opW x := by unfold wordsI opW; rw [h]; simp
theorem show_any (p : List GFunc) (v : Value) (S : Nat → Prop) (w : World) (hg : Glob w) (hp : Funcs w S v p) :
    Calls Tryz.prog 11 #[v] w fun e w' => e = .returned (.tuple #[.string ⟨(showT p).toArray⟩, .int .i64 (progErr p)]) ∧ Ext w w' := by
  have HP := Lib.hid hp
  have HG := Lib.hid hg
  obtain ⟨r, hr⟩ : ∃ r, progErr p = r := ⟨_, rfl⟩
  obtain ⟨sh, hsh⟩ : ∃ sh, showT p = sh := ⟨_, rfl⟩
  rw [hr, hsh]
  have HR := Lib.hid hr
  have HSH := Lib.hid hsh
  clear hr hsh hg
  obtain ⟨a, cap, rfl, hcap, hby, _⟩ := hp
  by_cases h0 : r = 0
  · subst h0
    have HT : Hid (sh = textP p) := by unfold Hid; rw [← HSH.out]; unfold showT; rw [if_pos HR.out]
    have h5 := (progErr_zero HR.out).most
    go_enter Tryz.func11, Tryz.ntmps11
    go_upto_region 5 with (first
      | (go_at_call 36; (with_reducible refine (progCheck_any p _ _ _ HP.out).mono ?_); rintro e w1 ⟨rfl, hb1⟩; rw [HR.out])
      | (go_at_call 37; (with_reducible refine (namesI_any _ (HG.out.ext hb1)).mono ?_); rintro e w2 ⟨vn, rfl, hvn, hb2⟩; have HVN := Lib.hid hvn; obtain ⟨an, cn, rfl, _, _⟩ := hvn))
    have HB0 := Lib.hid (hb1.trans hb2)
    have HG2 := Lib.hid ((HG.out.ext hb1).ext hb2)
    clear hb1 hb2
    have hu8 : ∀ (W : World) (f : GFunc) (u : Value), Hid (∀ c fz, (Obj.cells #[.int .i64 f.args, .int .i64 f.locals, u] 49 (0, 0)) ≠ .cells c 5 fz) := fun _ _ _ => by unfold Hid; intro c fz h; cases h
    have HBD := Lib.hid (Bd.new w2 w2.heap.size (Nat.le_refl _))
    have HX6 := Lib.hid ((Ext.refl w2).alloc (.cells #[.pointer none, .slice none 0 0] 65))
    obtain ⟨b6, hb6⟩ : ∃ b6, w2.heap.size = b6 := ⟨_, rfl⟩
    have HB6 := Lib.hid hb6
    rw [hb6] at HBD
    have hcat := cat_bytes'
    have hlen := cat_len
    go_wp2_with fail
    clear hb6
    go_loopw [19] (fun q19 wr => ∃ k : Nat, k ≤ p.length ∧ q19 = .int .i64 k ∧ Bd wr b6 b6 (textP (p.take k)) ∧ Ext w2 wr) (fun q _ => p.length - (intOf q).toNat)
    case atStart => exact ⟨0, Nat.zero_le _, rfl, HBD.out, HX6.out⟩
    case round =>
      obtain ⟨k, hk, rfl, hbd, hb⟩ := hrel
      have HBD := Lib.hid hbd
      have HB := Lib.hid hb
      have hsl := take_len HR.out k
      have hbl := hbd.lt
      clear hbd hb
      by_cases hlt : k < p.length
      · obtain ⟨s, hs⟩ : ∃ s, textP (p.take k) = s := ⟨_, rfl⟩
        rw [hs] at hsl HBD
        have HS := Lib.hid hs
        obtain ⟨⟨ra0, ra1, rl0, rl1⟩, hcl, hop⟩ := right_ops HR.out _ (List.getElem_mem hlt)
        obtain ⟨bP, oP, capP, e0, _, _, ⟨_, x0, iA⟩, ⟨_, x1, iL⟩, vc, x2, hops⟩ := HP.out.get hlt
        simp only [Value.slice.injEq] at e0
        obtain ⟨rfl, -, rfl⟩ := e0
        replace x0 := Ext.cell (HB0.out.trans HB.out) x0
        replace x1 := Ext.cell (HB0.out.trans HB.out) x1
        replace x2 := Ext.cell (HB0.out.trans HB.out) x2
        have HOPS := Lib.hid hops
        have HOP := Lib.hid hop
        obtain ⟨hd, hhd⟩ : ∃ hd, headW p[k] ++ [10] = hd := ⟨_, rfl⟩
        have HHD := Lib.hid hhd
        have lhd : hd.length ≤ 19 := by
          rw [← hhd, List.length_append]
          have := headW_len (f := p[k]) ⟨ra0, ra1, rl0, rl1⟩
          simp
          omega
        have HLH : ∀ W, Hid (Glob W → Calls Tryz.prog 38 #[.string ⟨#[102, 117, 110, 99]⟩, .slice (some ⟨W.heap.size, 0, none⟩) 2 2] (W.alloc (.cells #[.int .i64 p[k].args, .int .i64 p[k].locals] 3)) fun e w' => e = .returned (.string ⟨hd.toArray⟩) ∧ Ext (W.alloc (.cells #[.int .i64 p[k].args, .int .i64 p[k].locals] 3)) w') := fun W => by
          unfold Hid
          intro hgW
          rw [← hhd, ← words_head]
          exact line_any funcT [p[k].args, p[k].locals] _ _ _ (hgW.ext ((Ext.refl _).alloc _)) (ints_fresh W [p[k].args, p[k].locals] (fun n hn => (List.mem_cons.1 hn).elim (fun e => e ▸ iA) (fun hn => (List.mem_singleton.1 hn) ▸ iL)) (by simp)) (by decide) (by simp)
        have HU := hu8 wr p[k] vc
        have O8 : Hid ((wr.alloc (.cells #[.int .i64 p[k].args, .int .i64 p[k].locals, vc] 49)).heap[wr.heap.size]? = some (.cells #[.int .i64 p[k].args, .int .i64 p[k].locals, vc] 49 (0, 0))) := heap_new _ _
        generalize p[k].args = A at *
        generalize p[k].locals = L at *
        have HB8 := Lib.hid (HB.out.alloc (.cells #[.int .i64 A, .int .i64 L, vc] 49))
        have HBD8 := Lib.hid (Bd.ext HBD.out ((Ext.refl wr).alloc (.cells #[.int .i64 A, .int .i64 L, vc] 49)))
        clear hs hops hop ra0 ra1 rl0 rl1 hhd iA iL
        obtain ⟨ac, capc, rfl, hcapc, hbyc, _⟩ := HOPS.out
        go_upto_region 9 with fail
        obtain ⟨b8, hb8⟩ : ∃ b8, wr.heap.size = b8 := ⟨_, rfl⟩
        rw [hb8] at O8
        have hne8 : b8 ≠ b6 := by omega
        have hl8 : b8 < (wr.alloc (.cells #[.int .i64 A, .int .i64 L, .slice ac p[k].code.length capc] 49)).heap.size := (Array.getElem?_eq_some_iff.1 O8.out).1
        generalize wr.alloc (.cells #[.int .i64 A, .int .i64 L, .slice ac p[k].code.length capc] 49) = w8 at *
        have c0 := cells_at O8.out 0
        have c1 := cells_at O8.out 1
        simp only [List.getElem?_toArray, List.getElem?_cons_zero, List.getElem?_cons_succ] at c0 c1
        rw [hb8]
        go_upto_region 10 with (first
          | (go_at_call 38; (with_reducible refine ((HLH w8).out (HG2.out.ext HB8.out)).mono ?_); rintro e w9 ⟨rfl, hb9⟩; have HX9 := Lib.hid (((Ext.refl w8).alloc _).trans hb9); have HBD9 := Lib.hid (Bd.ext HBD8.out HX9.out); have hl9 := HBD9.out.lt)
          | (go_at_call 29; (with_reducible refine (write_by b6 b6 s hd _ HBD9.out (by omega) (by omega)).mono ?_); rintro e wA ⟨rfl, hbA, hblA, hoA⟩))
        have HXA := Lib.hid (ext_then HB6.out (HB8.out.trans HX9.out) hblA)
        have O8A := hoA b8 _ ((HX9.out.block b8 hl8).trans O8.out) (fun e => hne8 (Option.some.inj e)) HU.out
        have c2 := cells_at O8A 2
        simp only [List.getElem?_toArray, List.getElem?_cons_zero, List.getElem?_cons_succ] at c2
        have HBA : Hid (Bd wA b6 b6 (preT p p[k] k 0)) := by
          unfold Hid
          rw [preT_zero, HS.out, HHD.out]
          exact hbA
        have HOPA := Lib.hid (HOPS.out)
        clear hbA hblA hoA O8A O8 c0 c1 HU HLH hl8 lhd hsl HHD hb9
        go_wp2_with fail
        go_loopw [33] (fun q33 wx => ∃ j : Nat, j ≤ p[k].code.length ∧ q33 = .int .i64 j ∧ Bd wx b6 b6 (preT p p[k] k j) ∧ Ext w2 wx) (fun q _ => p[k].code.length - (intOf q).toNat)
        case atStart => exact ⟨0, Nat.zero_le _, rfl, HBA.out, HXA.out⟩
        case round =>
          rename World => wx
          obtain ⟨j, hj, rfl, hbd, hb⟩ := hrel
          have HBDx := Lib.hid hbd
          have HBx := Lib.hid hb
          have hsl := preT_len HR.out hlt j
          have hblx := hbd.lt
          clear hbd hb
          by_cases hjt : j < p[k].code.length
          · obtain ⟨s2, hs2⟩ : ∃ s2, preT p p[k] k j = s2 := ⟨_, rfl⟩
            rw [hs2] at hsl HBDx
            obtain ⟨⟨k0, k1⟩, ⟨a0, a1⟩, _⟩ := HOP.out _ (List.getElem_mem hjt)
            obtain ⟨bc, oc, capc', e0, _, _, ⟨_, x3, _⟩, ⟨_, x4, iA2⟩⟩ := (Ops.stays (Ext.stays (HB0.out.trans HBx.out)) HOPS.out).get hjt
            simp only [Value.slice.injEq] at e0
            obtain ⟨rfl, -, rfl⟩ := e0
            obtain ⟨ln, hln⟩ : ∃ ln, opW p[k].code[j] ++ [10] = ln := ⟨_, rfl⟩
            have HPR : Hid (preT p p[k] k (j + 1) = s2 ++ ln) := by
              unfold Hid
              rw [preT_step _ _ _ hjt, hs2, hln]
            have lln : ln.length ≤ 19 := by
              rw [← hln, List.length_append]
              have := opW_len (HOP.out _ (List.getElem_mem hjt))
              simp
              omega
            have HL1 : ∀ W, Hid (toldB p[k].code[j].kind = true → Glob W → Calls Tryz.prog 38 #[.string ⟨(nameT p[k].code[j].kind).toArray⟩, .slice (some ⟨W.heap.size, 0, none⟩) 1 1] (W.alloc (.cells #[.int .i64 p[k].code[j].a] 3)) fun e w' => e = .returned (.string ⟨ln.toArray⟩) ∧ Ext (W.alloc (.cells #[.int .i64 p[k].code[j].a] 3)) w') := fun W => by
              unfold Hid
              intro ht hgW
              rw [← hln, ← words_op _ ht]
              exact line_any _ [p[k].code[j].a] _ _ _ (hgW.ext ((Ext.refl _).alloc _)) (ints_fresh W [p[k].code[j].a] (fun n hn => (List.mem_singleton.1 hn) ▸ iA2) (by simp)) (Nat.le_trans (namesT_len _ (nameT_mem k0 k1)) (by decide)) (by simp)
            have HL0 : ∀ W, Hid (toldB p[k].code[j].kind = false → Glob W → Calls Tryz.prog 38 #[.string ⟨(nameT p[k].code[j].kind).toArray⟩, .slice none 0 0] W fun e w' => e = .returned (.string ⟨ln.toArray⟩) ∧ Ext W w') := fun W => by
              unfold Hid
              intro ht hgW
              rw [← hln, ← words_op0 _ ht]
              exact line_any _ [] _ (fun _ => True) _ hgW (Sl.nil _ _ _) (Nat.le_trans (namesT_len _ (nameT_mem k0 k1)) (by decide)) (by simp)
            generalize p[k].code[j].kind = K at *
            generalize p[k].code[j].a = A2 at *
            obtain ⟨m, rfl⟩ : ∃ m : Nat, K = m := ⟨K.toNat, by omega⟩
            have hK : m < namesT.length := by show m < 17; omega
            have HNX : Hid (namesT[m] = nameT (m : Int)) := by unfold Hid nameT; simp [List.getD, List.getElem?_eq_getElem hK]
            obtain ⟨nm, hnm⟩ : ∃ nm, nameT (m : Int) = nm := ⟨_, rfl⟩
            rw [hnm] at HNX
            simp only [hnm] at HL1 HL0
            obtain ⟨bn, on, cn', en, _, xn⟩ := strs_at (HVN.out.stays (Ext.stays HBx.out)) hK
            simp only [Value.slice.injEq] at en
            obtain ⟨rfl, -, rfl⟩ := en
            rw [HNX.out] at xn
            replace xn : _ = some (Value.string ⟨nm.toArray⟩) := xn
            clear hs2 hln hnm k0 k1 a0 a1 iA2
            go_upto_region 13 with fail
            have y0 := (Cx.new wx [.int .i64 m, .int .i64 A2] 51 (j := 0) rfl).1
            have y1 := (Cx.new wx [.int .i64 m, .int .i64 A2] 51 (j := 1) rfl).1
            have HYX := Lib.hid ((Ext.refl wx).alloc (.cells #[.int .i64 m, .int .i64 A2] 51))
            replace xn := Ext.cell HYX.out xn
            generalize wx.heap.size = bx at *
            generalize wx.alloc (.cells #[.int .i64 m, .int .i64 A2] 51) = wy at *
            cases htb : toldB (m : Int) with
            | false =>
              have HTB := Lib.hid htb
              clear htb
              go_wp2_with (first
                | (go_at_call 39; refine (told_any _ _).mono ?_; rintro e wt ⟨rfl, hbt⟩; rw [HTB.out]; have HXT := Lib.hid (HYX.out.trans hbt); have y0' := Ext.cell hbt y0; have xn' := Ext.cell hbt xn)
                | (go_at_call 38; (with_reducible refine ((HL0 _).out HTB.out (HG2.out.ext (HBx.out.trans HXT.out))).mono ?_); rintro e wl ⟨rfl, hbl⟩; have HXL := Lib.hid (HXT.out.trans hbl); have HBL := Lib.hid (Bd.ext HBDx.out HXL.out); have hll := HBL.out.lt)
                | (go_at_call 29; (with_reducible refine (write_by b6 b6 s2 ln _ HBL.out (by omega) (by omega)).mono ?_); rintro e wA2 ⟨rfl, hbA, hblA, hoA⟩))
              go_roundw
              case rel => exact ⟨j + 1, by omega, by go_num, by rw [HPR.out]; exact hbA, ext_then HB6.out (HBx.out.trans HXL.out) hblA⟩
              case measure => simp [intOf]; omega
            | true =>
              have HTB := Lib.hid htb
              clear htb
              go_upto_region 14 with (first
                | (go_at_call 39; refine (told_any _ _).mono ?_; rintro e wt ⟨rfl, hbt⟩; rw [HTB.out]; have HXT := Lib.hid (HYX.out.trans hbt); have y0' := Ext.cell hbt y0; have y1' := Ext.cell hbt y1; have xn' := Ext.cell hbt xn))
              refine wp_region_rtt (fun w' => w'.cell? ⟨bx, 0, none⟩ = some (.int .i64 (m : Int)) ∧ w'.cell? ⟨bx, 1, none⟩ = some (.int .i64 A2) ∧ w'.cell? ⟨bn, on + m, none⟩ = some (.string ⟨nm.toArray⟩)) 9 [0, 1, 2, 3, 4, 5, 6] [7, 8, 9] (by kernel_rfl) (by kernel_rfl) (fun _ _ _ _ _ h => h) (by exact ⟨y0', y1', xn'⟩) ?_
              (try simp only [pickOps, List.filterMap_cons, List.filterMap_nil, List.getElem?_cons_zero, List.getElem?_cons_succ])
              repeat (
                refine readsQ_do (by rfl) ?_
                apply Exists.intro
                refine ⟨fun w' hw' => ?_, ?_⟩
                focus
                  (try dsimp only at hw')
                  go_split_ands
                  go_simp
                  (try with_reducible rfl)
                (try dsimp only [Act.put])
                (try simp only [List.setIfInBounds_toArray, List.set_cons_succ, List.set_cons_zero]))
              refine readsQ_nil ?_
              refine tailW_step ?_
              go_wp2_with fail
              have HXU := Lib.hid (HXT.out.trans ((Ext.refl wt).drew.alloc (.cells #[.int .i64 A2] 3)))
              have HDR := Lib.hid (HXT.out.trans (Ext.refl wt).drew)
              have HE7 := Lib.hid ((Ext.refl wt).drew.alloc (.cells #[.int .i64 A2] 3))
              refine nextW_go (by exact ⟨Ext.cell HE7.out y0', Ext.cell HE7.out y1', Ext.cell HE7.out xn'⟩) ?_
              refine tailW_step ?_
              go_wp2_with (first
                | (go_at_call 38; refine ((HL1 wt.drew).out HTB.out (HG2.out.ext (HBx.out.trans HDR.out))).mono ?_; rintro e wl ⟨rfl, hbl⟩))
              have HXL := Lib.hid (HXU.out.trans hbl)
              have HEL := Lib.hid (HE7.out.trans hbl)
              have HBL := Lib.hid (Bd.ext HBDx.out HXL.out)
              have hll := HBL.out.lt
              refine nextW_go (by exact ⟨Ext.cell HEL.out y0', Ext.cell HEL.out y1', Ext.cell HEL.out xn'⟩) ?_
              refine tailW_step ?_
              go_wp2_with (first
                | (go_at_call 29; (with_reducible refine (write_by b6 b6 s2 ln _ HBL.out (by omega) (by omega)).mono ?_); rintro e wA2 ⟨rfl, hbA, hblA, hoA⟩))
              refine nextW_end ?_
              go_wp2_with fail
              go_roundw
              case rel => exact ⟨j + 1, by omega, by go_num, by rw [HPR.out]; exact hbA, ext_then HB6.out (HBx.out.trans HXL.out) hblA⟩
              case measure => simp [intOf]; omega
          · obtain rfl : j = p[k].code.length := by omega
            have HBE : Hid (Bd wx b6 b6 (textP (p.take (k + 1)))) := by have := HBDx.out; rw [preT_end p hlt] at this; exact this
            clear hjt hsl
            go_wp2_with fail
            go_roundw
            case rel => exact ⟨k + 1, by omega, by go_num, HBE.out, HBx.out⟩
            case measure => simp [intOf]; omega
      · obtain rfl : k = p.length := by omega
        have HBE : Hid (Bd wr b6 b6 sh) := by have := HBD.out; rw [List.take_length, ← HT.out] at this; exact this
        clear hlt hsl
        go_wp2_with (first
          | (go_at_call 32; refine (Tryz.Builder_String_any b6 b6 sh _ HBE.out (by omega)).mono ?_; rintro e w4 ⟨rfl, hb4⟩))
        go_ret2
        exact ⟨rfl, HB0.out.trans (ext_then HB6.out HB.out hb4)⟩
  · have hs0 : sh = [] := by rw [← HSH.out]; unfold showT; rw [if_neg (fun e => h0 (HR.out.symm.trans e))]
    subst hs0
    have T0 : (r != 0) = true := bne_iff_ne.2 h0
    clear h0
    go_enter Tryz.func11, Tryz.ntmps11
    go_wp2_with (first
      | (go_at_call 36; (with_reducible refine (progCheck_any p _ _ _ HP.out).mono ?_); rintro e w1 ⟨rfl, hb1⟩; rw [HR.out]))
    go_ret2
    exact ⟨rfl, hb1⟩
end Go.Proofs.YtpcjkfppacnkgaaGreatDoor
end
section
/- The text package's Read: what its deferred function does. No condition. -/
set_option maxHeartbeats 4000000
set_option maxRecDepth 100000
set_option linter.unusedSimpArgs false
namespace Go.Proofs.YtpcjkfppacnkgaaGreatDoor
open Go Go.RowKit

theorem catchR_panicking (bp be : Nat) (hne : bp ≠ be) (v1 v2 : Value) (older : List PanicEntry) (w : World) (hp : Cx w bp 0 v1) (he : Cx w be 0 v2) :
    CallsDIn Fence.wide (0 - 1) Tryz.prog 46 #[.pointer (some ⟨bp, 0, none⟩), .pointer (some ⟨be, 0, none⟩)] (.panicking (brkE :: older)) w fun e u' w' =>
      e = .returned (.tuple #[]) ∧ u' = .panicking ({ brkE with recovered := true } :: older) ∧ Cx w' bp 0 (.slice none 0 0) ∧ Cx w' be 0 (.int .i64 1) ∧ Chg (fun b => b = bp ∨ b = be) w w' := by
  unfold brkE
  refine callsDIn_of_wpSIn Tryz.func46 rfl trivial fun c₀ cs hu => ?_
  apply wpSIn_seq
  apply wpSIn_region
  simp [wpOpsSIn, go_sem, recoverD, hu, Tryz.ntmps46, Exit.thenS]
  refine wpSIn_of_wpIn rfl ?_
  refine (wpIn_wide (n := 0)).2 ?_
  simp only [Array.replicate, List.reduceReplicate, List.setIfInBounds_toArray, List.set_cons_succ, List.set_cons_zero, List.append_toArray, List.cons_append, List.nil_append]
  have h0 := hp.1
  have h0' := hp.2
  have H1 := Lib.hid (he.other (b' := bp) (j' := 0) (.inl (Ne.symm hne)) (.slice none 0 0))
  have HP := Lib.hid hp
  have h1 := H1.out.1
  have h1' := H1.out.2
  clear hp he
  go_wp2_with fail
  refine ⟨rfl, _, rfl, _, results_none rfl _ _ _, rfl, rfl, (HP.out.set _).other (.inl hne) _, H1.out.set _, ?_⟩
  exact ((Chg.refl _ _).setCell (p := ⟨bp, 0, none⟩) (.inl (.inl rfl)) _).setCell (p := ⟨be, 0, none⟩) (.inl (.inr rfl)) _
theorem catchR_idle (bp be : Nat) (w : World) :
    CallsDIn Fence.wide (0 - 1) Tryz.prog 46 #[.pointer (some ⟨bp, 0, none⟩), .pointer (some ⟨be, 0, none⟩)] .returning w fun e u' w' =>
      e = .returned (.tuple #[]) ∧ u' = .returning ∧ w = w' := by
  refine callsDIn_of_wpSIn Tryz.func46 rfl trivial fun c₀ cs hu => ?_
  apply wpSIn_seq
  apply wpSIn_region
  simp [wpOpsSIn, go_sem, recoverD, hu, Tryz.ntmps46, Exit.thenS]
  refine wpSIn_of_wpIn rfl ?_
  refine (wpIn_wide (n := 0)).2 ?_
  simp only [Array.replicate, List.reduceReplicate, List.setIfInBounds_toArray, List.set_cons_succ, List.set_cons_zero, List.append_toArray, List.cons_append, List.nil_append]
  go_wp2_with fail
  refine ⟨rfl, .returning, ?_, _, results_none rfl _ _ _, rfl, rfl, rfl⟩
  cases c₀
  cases hu
  rfl
end Go.Proofs.YtpcjkfppacnkgaaGreatDoor
end
section
/- strings.Split at a blank, strings.TrimSuffix and slices.Index as the plain laws say them. No condition. -/
set_option maxHeartbeats 1000000
set_option maxRecDepth 100000
namespace Go.Proofs.YtpcjkfppacnkgaaGreatDoor
open Go Go.RowKit

def pushP (b : UInt8) : List By → List By
  | [] => []
  | p :: ps => (b :: p) :: ps
def preP (cur : By) : List By → List By
  | [] => []
  | p :: ps => (cur ++ p) :: ps
theorem splitK_one (c : UInt8) (k : Nat) (l : By) : Lib.splitK [c] 0 (k + 1) (c :: l) = [] :: Lib.splitK [c] 0 k l := by
  have hi : Lib.index (c :: l) [c] = 0 := by unfold Lib.index; rw [if_pos (by simp)]
  rw [Lib.splitK, hi]
  simp
theorem splitK_other {b c : UInt8} (h : b ≠ c) (k : Nat) (l : By) : Lib.splitK [c] 0 k (b :: l) = pushP b (Lib.splitK [c] 0 k l) := by
  have hi : Lib.index (b :: l) [c] = if Lib.index l [c] == -1 then -1 else Lib.index l [c] + 1 := by
    rw [Lib.index, if_neg (by simp; exact fun e => h e.symm)]
  cases k with
  | zero => rfl
  | succ k =>
    rw [Lib.splitK, Lib.splitK, hi]
    by_cases hn : Lib.index l [c] = -1
    · have hb : (Lib.index l [c] == -1) = true := beq_iff_eq.2 hn
      rw [hb]
      simp [pushP]
    · have hb : (Lib.index l [c] == -1) = false := beq_eq_false_iff_ne.2 hn
      have hg := Lib.index_ge l [c]
      obtain ⟨i, hi⟩ : ∃ i : Nat, Lib.index l [c] = i := ⟨(Lib.index l [c]).toNat, by omega⟩
      have e1 : (((i : Int) + 1) == -1) = false := beq_eq_false_iff_ne.2 (by omega)
      have e2 : ((i : Int) + 1).toNat = i + 1 := by omega
      rw [hb]
      simp only [Bool.false_eq_true, if_false]
      rw [hi, e1]
      simp [pushP, e2]
theorem splitK_ne (c : UInt8) (k : Nat) (l : By) : Lib.splitK [c] 0 k l ≠ [] := by
  cases k with
  | zero => simp [Lib.splitK]
  | succ k => rw [Lib.splitK]; split <;> simp
theorem splitGo_K (c : UInt8) : ∀ (s cur : By), splitGo c cur s = preP cur (Lib.splitK [c] 0 (Lib.count s [c]) s)
  | [], cur => by
    rw [Lib.count_one]
    simp [splitGo, Lib.splitK, preP]
  | b :: l, cur => by
    by_cases h : b = c
    · subst h
      rw [splitGo, if_pos rfl, splitGo_K b l [], Lib.count_cons_eq, Nat.add_comm, splitK_one]
      have hne := splitK_ne b (Lib.count l [b]) l
      cases he : Lib.splitK [b] 0 (Lib.count l [b]) l with
      | nil => exact absurd he hne
      | cons p ps => simp [preP]
    · rw [splitGo, if_neg h, splitGo_K c l (cur ++ [b]), Lib.count_cons_ne _ _ _ h, splitK_other h]
      have hne := splitK_ne c (Lib.count l [c]) l
      cases he : Lib.splitK [c] 0 (Lib.count l [c]) l with
      | nil => exact absurd he hne
      | cons p ps => simp [preP, pushP]
theorem splitC_K (c : UInt8) (s : By) : splitC c s = Lib.splitK [c] 0 (Lib.count s [c]) s := by
  unfold splitC
  rw [splitGo_K c s []]
  cases Lib.splitK [c] 0 (Lib.count s [c]) s with
  | nil => rfl
  | cons p ps => rfl
theorem txtV_data (b : ByteArray) : txtV b.data.toList = .string b := by unfold txtV; simp
theorem splitI_any (s : By) (w : World) (hg : Glob w) (hl : s.length ≤ 100000) :
    Calls Tryz.prog 47 #[.string ⟨s.toArray⟩, .string ⟨#[32]⟩] w fun e w' => e = .returned (.slice (some ⟨w.heap.size, 0, none⟩) (splitC 32 s).length (splitC 32 s).length) ∧ w' = w.alloc (.cells ((splitC 32 s).map txtV).toArray 9) := by
  obtain ⟨m, hm⟩ := hg.max
  have h1 : 1 ≤ (⟨#[32]⟩ : ByteArray).size := by decide
  have hsz := size_by s
  refine (Tryz.strings_Split ⟨s.toArray⟩ ⟨#[32]⟩ m w (by omega) hm h1).mono ?_
  have hd := Lib.splitB_data ⟨#[32]⟩ 0 (Lib.countB ⟨s.toArray⟩ ⟨#[32]⟩) ⟨s.toArray⟩
  have hc : Lib.countB ⟨s.toArray⟩ ⟨#[32]⟩ = Lib.count s [32] := by unfold Lib.countB; simp
  have hd2 : (Lib.splitB ⟨#[32]⟩ 0 (Lib.countB ⟨s.toArray⟩ ⟨#[32]⟩) ⟨s.toArray⟩).map (·.data.toList) = splitC 32 s := by
    rw [hd, splitC_K, hc]
  have hlen := Lib.splitB_all ⟨#[32]⟩ h1 0 _ ⟨s.toArray⟩ rfl
  have hlen2 : (splitC 32 s).length = Lib.countB ⟨s.toArray⟩ ⟨#[32]⟩ + 1 := by rw [← hd2, List.length_map, hlen]
  have hmap : (splitC 32 s).map txtV = (Lib.splitB ⟨#[32]⟩ 0 (Lib.countB ⟨s.toArray⟩ ⟨#[32]⟩) ⟨s.toArray⟩).map Value.string := by
    rw [← hd2, List.map_map]
    exact List.map_congr_left fun b _ => txtV_data b
  rintro e w' ⟨rfl, rfl⟩
  exact ⟨by rw [hlen2], by rw [hmap]⟩
theorem trim_any (s : By) (w : World) (hl : s.length ≤ 100000) :
    Calls Tryz.prog 31 #[.string ⟨s.toArray⟩, .string ⟨#[10]⟩] w fun e w' => e = .returned (.string ⟨(Lib.trimSuffix s [10]).toArray⟩) ∧ w = w' := by
  have hsz := size_by s
  refine (Tryz.strings_TrimSuffix ⟨s.toArray⟩ ⟨#[10]⟩ w (by omega)).mono ?_
  rintro e w' ⟨rfl, rfl⟩
  exact ⟨by simp, rfl⟩
theorem mk_inj {x y : By} : ((⟨x.toArray⟩ : ByteArray) = ⟨y.toArray⟩) ↔ x = y := ⟨fun e => by have := congrArg (fun z : ByteArray => z.data.toList) e; simpa using this, fun e => by rw [e]⟩
theorem idxFrom_by (x : By) : ∀ (l : List By) (i : Nat), Lib.idxFromS (l.map fun y => (⟨y.toArray⟩ : ByteArray)) ⟨x.toArray⟩ i = if l.idxOf x < l.length then ((i + l.idxOf x : Nat) : Int) else -1
  | [], i => rfl
  | y :: l, i => by
    rw [List.map_cons, Lib.idxFromS]
    by_cases h : y = x
    · subst h
      simp
    · have hic : (y :: l).idxOf x = l.idxOf x + 1 := by
        have hb : (y == x) = false := beq_eq_false_iff_ne.2 h
        rw [List.idxOf_cons, hb]
        rfl
      have hne : ¬ (⟨y.toArray⟩ : ByteArray) = ⟨x.toArray⟩ := fun e => h (mk_inj.1 e)
      rw [if_neg hne, idxFrom_by x l (i + 1), hic, List.length_cons]
      by_cases h2 : l.idxOf x < l.length
      · rw [if_pos h2, if_pos (by omega)]
        congr 1
        omega
      · rw [if_neg h2, if_neg (by omega)]
theorem index_any (l : List By) (v : Value) (S : Nat → Prop) (x : By) (w : World) (hv : Strs w S v l) (hl : 0 < l.length) (hm : l.length ≤ 100000) :
    Calls Tryz.prog 49 #[v, .string ⟨x.toArray⟩] w fun e w' => e = .returned (.int .i64 (if l.idxOf x < l.length then (l.idxOf x : Int) else -1)) ∧ w = w' := by
  obtain ⟨b, o, cap, rfl, _, _⟩ := strs_at hv hl
  have hz : (l.map fun y => (⟨y.toArray⟩ : ByteArray)).length = l.length := by simp
  refine (Tryz.slices_Index_string b o l.length cap (l.map fun y => (⟨y.toArray⟩ : ByteArray)) ⟨x.toArray⟩ w (by omega) (by omega) ?_).mono ?_
  · intro j hj
    rw [hz] at hj
    obtain ⟨b', o', cap', e, _, hc⟩ := strs_at hv hj
    simp only [Value.slice.injEq, Option.some.injEq, Addr.mk.injEq] at e
    obtain ⟨⟨rfl, rfl, -⟩, -⟩ := e
    rw [hc]
    simp [List.getD, List.getElem?_eq_getElem hj, txtV]
  · rintro e w' ⟨rfl, rfl⟩
    have ht : (l.map fun y => (⟨y.toArray⟩ : ByteArray)).take l.length = l.map fun y => (⟨y.toArray⟩ : ByteArray) := List.take_of_length_le (by omega)
    refine ⟨?_, rfl⟩
    rw [ht]
    unfold Lib.idxOfS
    rw [idxFrom_by, Nat.zero_add]
end Go.Proofs.YtpcjkfppacnkgaaGreatDoor
end
