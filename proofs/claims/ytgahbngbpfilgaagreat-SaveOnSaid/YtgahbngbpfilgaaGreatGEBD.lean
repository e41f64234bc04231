/- Merged texts: contracts and plain facts, one part behind another; each part begins with what it says. -/
import Derived.Test.YtgahbngbpfilgaaGreatGEAI
import Derived.Test.YtgahbngbpfilgaaGreatGEBC
import Derived.Laws.Strings2
section
set_option maxHeartbeats 4000000
set_option maxRecDepth 100000
namespace Go.Proofs.YtgahbngbpfilgaaGreat
open Go Go.RowKit
def shortV : Value := .iface 82 (.agg #[])
def strV (b : List UInt8) : Value := .string ⟨b.toArray⟩
def RdE {α : Type} (w : World) (G : Nat) (val : World → Value → α → Prop) (o : Option (α × List UInt8)) (e : Ending) (w' : World) : Prop :=
 Chg (· = G) w w' ∧ ∃ r, Cx w' G 0 (strV r) ∧ match o with
  | none => e = .panicked [{ v := shortV, recovered := false }]
  | some (x, r') => r = r' ∧ ∃ v, e = .returned v ∧ val w' v x
theorem glassSmall_any {G : Nat} {b : List UInt8} {w : World} (h : Cx w G 0 (strV b)) :
  Calls Tryz.prog 41 #[.pointer (some ⟨G, 0, none⟩)] w fun e w' => RdE w G (fun _ v n => v = .int .i64 n) (rd1 b) e w' := by
 have H := Lib.hid h
 unfold strV at h
 obtain ⟨c0, c0'⟩ := h
 have RA := alloc_keep
 cases b with
 | nil =>
  go_enter Tryz.func41, Tryz.ntmps41
  go_wp2_with fail
  exact ⟨rfl, Chg.refl _ _, [], H.out, rfl⟩
 | cons c r =>
  go_enter Tryz.func41, Tryz.ntmps41
  go_wp2_with fail
  have e1 : wrap64 (c.toNat : Int) = (c.toNat : Int) := by
   have := c.toNat_lt
   unfold wrap64
   omega
  have e2 : (Value.string (({ data := (c :: r).toArray } : ByteArray).extract 1 (r.length + 1))) = strV r := by
   unfold strV
   rw [ByteArray.extract_mk]
   simp
  rw [e2]
  change bodyPost _ _ _ _ { tmps := #[_, undef, .int .i64 (wrap64 (c.toNat : Int)), _, _, _, _, _, _, _, _, _, _, _, _, _, _, _, _, _, _, _, _, _, _, _], defers := [] } _
  rw [e1]
  go_ret
  exact ⟨chg_one w G 0 (strV r), r, Cx.set H.out _, rfl, _, rfl, rfl⟩
theorem or_byte {a c : Int} (h : 0 ≤ a) (h2 : a < 72057594037927936) (hc : 0 ≤ c) (hc2 : c < 256) : bits BinOp.or IntKind.u64 (IntKind.u64.wrap (a * 256)) (IntKind.u64.wrap c) = a * 256 + c := by
 obtain ⟨m, rfl⟩ := Int.eq_ofNat_of_zero_le h
 obtain ⟨n, rfl⟩ := Int.eq_ofNat_of_zero_le hc
 have e1 : IntKind.u64.wrap ((m : Int) * 256) = ((2 ^ 8 * m : Nat) : Int) := by rw [IntKind.wrap_u64]; omega
 have e2 : IntKind.u64.wrap (n : Int) = (n : Int) := by rw [IntKind.wrap_u64]; omega
 rw [e1, e2]
 unfold bits
 simp only
 rw [BitVec.toNat_or]
 have f1 : (BitVec.ofInt IntKind.u64.bits ((2 ^ 8 * m : Nat) : Int)).toNat = 2 ^ 8 * m := by
  rw [BitVec.toNat_ofInt]
  show (((2 ^ 8 * m : Nat) : Int) % ((2 ^ 64 : Nat) : Int)).toNat = _
  omega
 have f2 : (BitVec.ofInt IntKind.u64.bits (n : Int)).toNat = n := by
  rw [BitVec.toNat_ofInt]
  show ((n : Int) % ((2 ^ 64 : Nat) : Int)).toNat = _
  omega
 rw [f1, f2, ← Nat.two_pow_add_eq_or_of_lt (by omega), IntKind.wrap_u64]
 omega
theorem glassWide_any {G : Nat} {b : List UInt8} {w : World} (h : Cx w G 0 (strV b)) :
  Calls Tryz.prog 45 #[.pointer (some ⟨G, 0, none⟩)] w fun e w' => RdE w G (fun _ v n => v = .int .i64 n ∧ I64 n) (rdW b) e w' := by
 have H := Lib.hid h
 clear h
 have RA := alloc_keep
 go_enter Tryz.func45, Tryz.ntmps45
 go_wp2_with fail
 go_loopw [3, 4] (fun q3 q4 wr => ∃ j : Nat, j ≤ 8 ∧ q4 = .int .i64 (j : Int) ∧ ∃ (a : Int) (r : List UInt8), q3 = .int .u64 a ∧ 0 ≤ a ∧ a < 256 ^ j ∧ rdU 8 0 b = rdU (8 - j) a r ∧ Cx wr G 0 (strV r) ∧ Chg (· = G) w wr) (fun _ q _ => 8 - (intOf q).toNat)
 case atStart => exact ⟨0, Nat.zero_le _, rfl, 0, b, rfl, by omega, by omega, rfl, H.out, Chg.refl _ _⟩
 case round =>
  obtain ⟨j, hj, rfl, a, r, rfl, ha, ha2, hrd, hc, hch⟩ := hrel
  have HC := Lib.hid hc
  have HCH := Lib.hid hch
  have HRD := Lib.hid hrd
  have KI : IntKind.i64.wrap ((j : Int) + 1) = (j : Int) + 1 := IntWalk.i64_in _ (by omega)
  clear hc hch hrd
  by_cases hlt : j < 8
  ·cases r with
   | nil =>
    have e0 : rdW b = none := by
     unfold rdW
     rw [HRD.out]
     obtain ⟨k, hk⟩ : ∃ k, 8 - j = k + 1 := ⟨7 - j, by omega⟩
     rw [hk]
     rfl
    have HE0 := Lib.hid e0
    clear e0
    go_wp2_with (first
     | (go_at_call 41; (with_reducible refine (glassSmall_any HC.out).mono ?_); rintro e w2 ⟨hch2, r2, hc2, he⟩; have he' : e = .panicked [{ v := shortV, recovered := false }] := he; subst he'))
    refine ⟨rfl, HCH.out.trans hch2, r2, hc2, ?_⟩
    rw [HE0.out]
   | cons c r =>
    go_wp2_with (first
     | (go_at_call 41; (with_reducible refine (glassSmall_any HC.out).mono ?_); rintro e w2 ⟨hch2, r2, hc2, he⟩; obtain ⟨rfl, v, rfl, rfl⟩ : r2 = r ∧ ∃ v, e = .returned v ∧ v = .int .i64 (c.toNat : Int) := he))
    have ha3 : a < 72057594037927936 := Int.lt_of_lt_of_le ha2 (show (256 : Int) ^ j ≤ 256 ^ 7 by have h7 := Nat.pow_le_pow_right (show 0 < 256 by decide) (show j ≤ 7 by omega); exact_mod_cast h7)
    have hcl := c.toNat_lt
    rw [or_byte ha ha3 (by omega) (by omega)]
    go_roundw
    case rel =>
     refine ⟨j + 1, by omega, by go_num, _, r2, rfl, by omega, ?_, ?_, hc2, HCH.out.trans hch2⟩
     ·rw [Int.pow_succ]; omega
     ·rw [HRD.out]
      obtain ⟨k, hk⟩ : ∃ k, 8 - j = k + 1 := ⟨7 - j, by omega⟩
      rw [hk, show 8 - (j + 1) = k by omega]
      rfl
    case measure => simp [intOf]; omega
  ·obtain rfl : j = 8 := by omega
   have ha3 : a < 18446744073709551616 := ha2
   have e0 : rdW b = some (wrap64 a, r) := by
    unfold rdW
    rw [HRD.out]
    rfl
   have HE0 := Lib.hid e0
   clear e0 ha2 ha3
   go_wp2_with fail
   go_ret
   refine ⟨HCH.out, r, HC.out, ?_⟩
   rw [HE0.out]
   exact ⟨rfl, _, rfl, rfl, i64_wrap _⟩
end Go.Proofs.YtgahbngbpfilgaaGreat
end
section
set_option maxHeartbeats 4000000
set_option maxRecDepth 100000
namespace Go.Proofs.YtgahbngbpfilgaaGreat
open Go Go.RowKit
structure Knd (δ : Type) where
 f : δ → List Value
 sz : Nat
 hf : ∀ y, (f y).length = sz
 pos : 0 < sz
 E : World → (Nat → Prop) → δ → Prop
 st : ∀ {S T : Nat → Prop} {w w' : World} {y : δ}, Stays S T w w' → E w S y → E w' T y
structure GRow {δ : Type} (K : Knd δ) (w : World) (base : Nat) (v : Value) (ys : List δ) : Prop where
 row : RowAt w base K.sz v ys.length (ys.flatMap K.f)
 el : ∀ y ∈ ys, K.E w (fun b => base ≤ b ∧ rowBlock v ≠ some b) y
theorem GRow.nil {δ : Type} (K : Knd δ) (w : World) (base : Nat) : GRow K w base (.slice none 0 0) [] := ⟨RowAt.nil _ _ _ _, by simp⟩
theorem GRow.chg {δ : Type} {K : Knd δ} {M : Nat → Prop} {w w' : World} {base : Nat} {v : Value} {ys : List δ} (h : GRow K w base v ys) (hc : Chg M w w') (hM : ∀ b, base ≤ b → ¬ M b) : GRow K w' base v ys :=
 ⟨h.row.chg hc (fun g e => hM g (h.row.le g e)) K.pos, fun y hy => K.st (hc.stays (fun b hb => hM b hb.1)) (h.el y hy)⟩
theorem GRow.ext {δ : Type} {K : Knd δ} {w w' : World} {base : Nat} {v : Value} {ys : List δ} (h : GRow K w base v ys) (he : Ext w w') : GRow K w' base v ys := h.chg (M := fun _ => False) (Chg.of_ext he) (fun _ _ h => h)
theorem GRow.grow {δ : Type} {K : Knd δ} {w0 w w' : World} {base n : Nat} {v v' : Value} {ys : List δ} {y : δ} (h0 : GRow K w0 base v ys) (h : GRow K w base v ys) (hb : base ≤ w0.heap.size) (hn : NewRow w w' base K.sz v v' n (ys.flatMap K.f ++ K.f y)) (hl : n = ys.length + 1)
  (hy : K.E w (w0.heap.size ≤ ·) y) : GRow K w' base v' (ys ++ [y]) := by
 subst hl
 obtain ⟨hr, hc, hb2⟩ := hn
 refine ⟨?_, fun z hz => ?_⟩
 ·rw [List.length_append, List.length_singleton, List.flatMap_append, List.flatMap_singleton]
  exact hr
 ·have hz' : K.E w (fun b => base ≤ b ∧ rowBlock v ≠ some b) z := by
   rcases List.mem_append.1 hz with h1 | h1
   ·exact h.el z h1
   ·rw [List.mem_singleton] at h1
    subst h1
    exact K.st (Stays.widen fun b hbb => ⟨Nat.le_trans hb hbb, fun e => by have := h0.row.lt2 K.pos b e; omega⟩) hy
  refine K.st (fun b o u hS hu => ⟨hc.cell hS.2 hu, hS.1, ?_⟩) hz'
  rcases hb2 with e | e
  ·rw [e]; exact hS.2
  ·intro e2
   have := e b e2
   have := lt_of_cell hu
   omega
def rdA {α : Type} (one : Rd α) (pre : List α) (k : Nat) (r : List UInt8) : Option (List α × List UInt8) := match rdN one k r with
 | none => none
 | some (l, r2) => some (pre ++ l, r2)
theorem rdA_nil {α : Type} (one : Rd α) (k : Nat) (r : List UInt8) : rdN one k r = rdA one [] k r := by
 unfold rdA
 cases rdN one k r with
 | none => rfl
 | some v => rfl
theorem rdA_zero {α : Type} (one : Rd α) (pre : List α) (r : List UInt8) : rdA one pre 0 r = some (pre, r) := by
 unfold rdA
 rw [rdN]
 simp
theorem rdA_none {α : Type} {one : Rd α} {pre : List α} {k : Nat} {r : List UInt8} (h : one r = none) : rdA one pre (k + 1) r = none := by
 unfold rdA
 rw [rdN, h]
theorem rdA_some {α : Type} {one : Rd α} {pre : List α} {k : Nat} {r r1 : List UInt8} {x : α} (h : one r = some (x, r1)) : rdA one pre (k + 1) r = rdA one (pre ++ [x]) k r1 := by
 unfold rdA
 rw [rdN, h]
 simp only
 cases rdN one k r1 with
 | none => rfl
 | some v => simp
structure ListS {δ α : Type} (K : Knd δ) (pr : δ → α) (one : Rd α) (w wr : World) (G : Nat) (b : List UInt8) (n i : Nat) (v : Value) (ys : List δ) (r : List UInt8) : Prop where
 len : ys.length = i
 rd : rdN one n b = rdA one (ys.map pr) (n - i) r
 row : GRow K wr w.heap.size v ys
 cx : Cx wr G 0 (strV r)
 chg : Chg (· = G) w wr
theorem ListS.start {δ α : Type} (K : Knd δ) (pr : δ → α) (one : Rd α) {w wr : World} {G : Nat} {b : List UInt8} (n : Nat) (hc : Cx wr G 0 (strV b)) (h : Chg (· = G) w wr) : ListS K pr one w wr G b n 0 (.slice none 0 0) [] b :=
 ⟨rfl, rdA_nil _ _ _, GRow.nil _ _ _, hc, h⟩
theorem ListS.step {δ α : Type} {K : Knd δ} {pr : δ → α} {one : Rd α} {w wr w2 W5 W6 : World} {G : Nat} {b : List UInt8} {n i m : Nat} {v v' : Value} {ys : List δ} {r r1 : List UInt8} {y : δ} (hG : G < w.heap.size) (h : ListS K pr one w wr G b n i v ys r) (hi : i < n)
  (h1 : one r = some (pr y, r1)) (hch : Chg (· = G) wr w2) (hcx : Cx w2 G 0 (strV r1)) (hy : K.E w2 (wr.heap.size ≤ ·) y) (he : Ext w2 W5) (hn : NewRow W5 W6 w.heap.size K.sz v v' m (ys.flatMap K.f ++ K.f y)) (hm : m = ys.length + 1) :
  ListS K pr one w W6 G b n (i + 1) v' (ys ++ [y]) r1 := by
 have hne : ∀ q, rowBlock v = some q → w.heap.size ≤ q := fun q e => h.row.row.le q e
 have hr2 : GRow K w2 w.heap.size v ys := h.row.chg hch (fun b hb e => by have : b = G := e; omega)
 refine ⟨by rw [List.length_append, List.length_singleton, h.len], ?_, h.row.grow (hr2.ext he) h.chg.size hn hm (K.st he.stays hy), ?_, ?_⟩
 ·rw [h.rd, show n - i = (n - (i + 1)) + 1 by omega, rdA_some h1, List.map_append]
  rfl
 ·exact (hcx.ext he).chg hn.2.1 (fun e => by have := hne _ e; omega)
 ·exact ((h.chg.trans hch).trans (Chg.of_ext he)).trans' hn.2.1 (fun q hq e => by have := hne _ e; omega)
theorem ListS.bad {δ α : Type} {K : Knd δ} {pr : δ → α} {one : Rd α} {w wr : World} {G : Nat} {b : List UInt8} {n i : Nat} {v : Value} {ys : List δ} {r : List UInt8} (h : ListS K pr one w wr G b n i v ys r) (hi : i < n) (h1 : one r = none) : rdN one n b = none := by
 rw [h.rd, show n - i = (n - (i + 1)) + 1 by omega, rdA_none h1]
theorem ListS.done {δ α : Type} {K : Knd δ} {pr : δ → α} {one : Rd α} {w wr : World} {G : Nat} {b : List UInt8} {n : Nat} {v : Value} {ys : List δ} {r : List UInt8} (h : ListS K pr one w wr G b n n v ys r) : rdN one n b = some (ys.map pr, r) := by
 rw [h.rd, Nat.sub_self, rdA_zero]
theorem rdL_cons {α : Type} (one : Rd α) (c : UInt8) (r : List UInt8) : rdL one (c :: r) = rdN one c.toNat r := by
 unfold rdL
 rw [rd1]
 simp
def kInt : Knd Int where
 f := intF
 sz := 1
 hf := fun _ => rfl
 pos := by decide
 E := fun _ _ n => I64 n
 st := fun _ h => h
def frameFv (y : GFrame × Value × Value) : List Value := [.int .i64 y.1.func, .int .i64 y.1.at_, y.2.1, y.2.2]
def kFrame : Knd (GFrame × Value × Value) where
 f := frameFv
 sz := 4
 hf := fun _ => rfl
 pos := by decide
 E := fun w S y => I64 y.1.func ∧ I64 y.1.at_ ∧ Ints w S y.2.1 y.1.locals ∧ Ints w S y.2.2 y.1.stack
 st := fun hs h => ⟨h.1, h.2.1, Ints.stays hs h.2.2.1, Ints.stays hs h.2.2.2⟩
def fiberFv (y : GFiber × Value) : List Value := [y.2, .int .i64 y.1.caller]
def kFiber : Knd (GFiber × Value) where
 f := fiberFv
 sz := 2
 hf := fun _ => rfl
 pos := by decide
 E := fun w S y => I64 y.1.caller ∧ Frames w S y.2 y.1.frames
 st := fun hs h => ⟨h.1, Frames.stays hs h.2⟩
theorem Sl.mapS {α β : Type} {E : Nat → Nat → β → Prop} {sz bytes : Nat} {v : Value} {l : List α} (f : α → β) (h : Sl (fun b o y => E b o (f y)) sz bytes v l) : Sl E sz bytes v (l.map f) := by
 obtain ⟨a, cap, rfl, h1, h2, h3⟩ := h
 refine ⟨a, cap, by rw [List.length_map], by rw [List.length_map]; exact h1, by rw [List.length_map]; exact h2, fun i hi => ?_⟩
 obtain ⟨b, o, e, h4⟩ := h3 i (by rwa [List.length_map] at hi)
 exact ⟨b, o, e, by rw [List.getElem_map]; exact h4⟩
theorem GRow.ints {w : World} {base : Nat} {v : Value} {l : List Int} (h : GRow kInt w base v l) (hl : l.length ≤ 1000000) : Ints w (base ≤ ·) v l :=
 Ints.of_row (base := base) h.row (by omega) (fun x hx => h.el x hx) _ (fun b hb _ => hb)
theorem GRow.frames {w : World} {base : Nat} {v : Value} {l : List (GFrame × Value × Value)} (h : GRow kFrame w base v l) (hl : l.length ≤ 1000000) : Frames w (base ≤ ·) v (l.map Prod.fst) := by
 refine Sl.mapS Prod.fst (Sl.of_row frameFv h.row (fun _ => rfl) (by omega) fun b o y hbb _ hy hc => ?_)
 obtain ⟨i1, i2, i3, i4⟩ := h.el y hy
 exact ⟨⟨hbb, hc 0 _ rfl, i1⟩, ⟨hbb, hc 1 _ rfl, i2⟩, ⟨y.2.1, hc 2 _ rfl, Ints.stays (Stays.widen (fun b hb => hb.1)) i3⟩, y.2.2, hc 3 _ rfl, Ints.stays (Stays.widen (fun b hb => hb.1)) i4⟩
theorem GRow.fibers {w : World} {base : Nat} {v : Value} {l : List (GFiber × Value)} (h : GRow kFiber w base v l) (hl : l.length ≤ 1000000) : Fibers w (base ≤ ·) v (l.map Prod.fst) := by
 refine Sl.mapS Prod.fst (Sl.of_row fiberFv h.row (fun _ => rfl) (by omega) fun b o y hbb _ hy hc => ?_)
 obtain ⟨i1, i2⟩ := h.el y hy
 exact ⟨⟨y.2, hc 0 _ rfl, Frames.stays (Stays.widen (fun b hb => hb.1)) i2⟩, hbb, hc 1 _ rfl, i1⟩
theorem src_int (w : World) (n : Int) (t : TypeId) : SrcSl (w.alloc (.cells #[.int .i64 n] t)) 1 (.slice (some ⟨w.heap.size, 0, none⟩) 1 1) 1 (intF n) := by
 refine ⟨_, 1, rfl, rfl, by simp [intF, Value.oneCell'], .inr ⟨_, rfl, fun j u hj => ?_⟩⟩
 match j, hj with
 | 0, hj => cases hj; rw [Addr.add_zero']; exact World.cell?_alloc_new w _ _ 0
theorem src_frame (w : World) (F : GFrame) (a a' : Option Addr) (n cap n' cap' : Nat) (t : TypeId) : SrcSl (w.alloc (.cells #[.int .i64 F.func, .int .i64 F.at_, .slice a n cap, .slice a' n' cap'] t)) 4 (.slice (some ⟨w.heap.size, 0, none⟩) 1 1) 1 (frameFv (F, .slice a n cap, .slice a' n' cap')) := by
 refine ⟨_, 1, rfl, rfl, by simp [frameFv, Value.oneCell'], .inr ⟨_, rfl, fun j u hj => ?_⟩⟩
 match j, hj with
 | 0, hj => cases hj; rw [Addr.add_zero']; exact World.cell?_alloc_new w _ _ 0
 | 1, hj => cases hj; exact World.cell?_alloc_new w _ _ 1
 | 2, hj => cases hj; exact World.cell?_alloc_new w _ _ 2
 | 3, hj => cases hj; exact World.cell?_alloc_new w _ _ 3
theorem src_fiber (w : World) (F : GFiber) (a : Option Addr) (n cap : Nat) (t : TypeId) : SrcSl (w.alloc (.cells #[.slice a n cap, .int .i64 F.caller] t)) 2 (.slice (some ⟨w.heap.size, 0, none⟩) 1 1) 1 (fiberFv (F, .slice a n cap)) := by
 refine ⟨_, 1, rfl, rfl, by simp [fiberFv, Value.oneCell'], .inr ⟨_, rfl, fun j u hj => ?_⟩⟩
 match j, hj with
 | 0, hj => cases hj; rw [Addr.add_zero']; exact World.cell?_alloc_new w _ _ 0
 | 1, hj => cases hj; exact World.cell?_alloc_new w _ _ 1
end Go.Proofs.YtgahbngbpfilgaaGreat
end
section
set_option maxHeartbeats 4000000
set_option maxRecDepth 100000
namespace Go.Proofs.YtgahbngbpfilgaaGreat
open Go Go.RowKit
theorem listInt_any {G : Nat} {b : List UInt8} {w : World} (h : Cx w G 0 (strV b)) :
  Calls Tryz.prog 44 #[.pointer (some ⟨G, 0, none⟩), .func (.func 45) #[.pointer (some ⟨G, 0, none⟩)] #[]] w fun e w' => RdE w G (fun w' v l => Ints w' (w.heap.size ≤ ·) v l) (rdL rdW b) e w' := by
 have H := Lib.hid h
 have hGl := h.lt
 have RA := alloc_keep
 obtain ⟨i0, hi0, hz0, hz1, hz2⟩ := info_parts infoI
 clear h
 cases b with
 | nil =>
  go_enter Tryz.func44, Tryz.ntmps44
  go_wp2_with (first
   | (go_at_call 41; (with_reducible refine (glassSmall_any H.out).mono ?_); rintro e w2 ⟨hch2, r2, hc2, he⟩; have he' : e = .panicked [{ v := shortV, recovered := false }] := he; subst he'))
  exact ⟨rfl, hch2, r2, hc2, rfl⟩
 | cons c b =>
  have hcl := c.toNat_lt
  generalize hn : c.toNat = n at *
  have hrl : rdL rdW (c :: b) = rdN rdW n b := by rw [rdL_cons, hn]
  have HRL := Lib.hid hrl
  have HN := Lib.hid hn
  clear hrl hn
  go_enter Tryz.func44, Tryz.ntmps44
  go_upto_region 2 with fail
  go_wp2_with (first
   | (go_at_call 41; (with_reducible refine (glassSmall_any H.out).mono ?_); rintro e w2 ⟨hch2, r2, hc2, he⟩; obtain ⟨rfl, v, rfl, rfl⟩ : r2 = b ∧ ∃ v, e = .returned v ∧ v = .int .i64 (c.toNat : Int) := he; rw [HN.out]))
  have HL0 := Lib.hid (ListS.start kInt (fun x : Int => x) rdW n hc2 hch2)
  clear hch2 hc2 H
  go_loopw [5, 8] (fun q5 q wr => ∃ i : Nat, i ≤ n ∧ q = .int .i64 (i : Int) ∧ ∃ ys r, ListS kInt (fun x : Int => x) rdW w wr G r2 n i q5 ys r) (fun _ q _ => n - (intOf q).toNat)
  case atStart => exact ⟨0, Nat.zero_le _, rfl, _, _, HL0.out⟩
  case round =>
   obtain ⟨i, hi, rfl, ys, r, hl⟩ := hrel
   clear HL0
   have HL := Lib.hid hl
   have KI : IntKind.i64.wrap ((i : Int) + 1) = (i : Int) + 1 := IntWalk.i64_in _ (by omega)
   have hlen := hl.len
   have hrow := hl.row.row
   rw [hlen] at hrow
   have HROW : Hid (RowAt wr w.heap.size 1 _ i (ys.flatMap intF)) := hrow
   obtain ⟨ac, cc, rfl, _, _⟩ := hrow.shape
   clear hrow
   have HNE : Hid (∀ q, rowBlock (.slice ac i cc) = some q → ¬ q = G) := by
    intro q e e2
    have := HROW.out.le q e
    omega
   have HCX := Lib.hid hl.cx
   have HSZ := Lib.hid (show w.heap.size ≤ wr.heap.size from hl.chg.size)
   clear hl
   rename World => wk
   by_cases hlt : i < n
   ·cases h1 : rdW r with
    | none =>
     have HB := Lib.hid (HL.out.bad hlt h1)
     have HR1 := Lib.hid h1
     go_wp2_with (first
      | (go_at_call 45; go_loud ((with_reducible refine (glassWide_any HCX.out).mono ?_); rintro e w3 ⟨hch3, r3, hc3, he⟩; rw [HR1.out] at he; have he' : e = .panicked [{ v := shortV, recovered := false }] := he; subst he'))
      )
     refine ⟨rfl, HL.out.chg.trans hch3, r3, hc3, ?_⟩
     rw [HRL.out, HB.out]
    | some xr =>
     obtain ⟨x, r1⟩ := xr
     have HR1 := Lib.hid h1
     clear h1
     go_wp2_with (first
      | (go_at_call 45; go_loud ((with_reducible refine (glassWide_any HCX.out).mono ?_); rintro e w3 ⟨hch3, r3, hc3, he⟩; rw [HR1.out] at he; obtain ⟨rfl, v, rfl, rfl, hx⟩ : r3 = r1 ∧ ∃ v, e = .returned v ∧ v = .int .i64 x ∧ I64 x := he))
      | (at_builtin; go_loud (refine wpList_append_row rfl _ _ 24 rfl w.heap.size 3 i0 (.int .i64 0) 1 8 Tryz.underlying24 hi0 hz0 hz1 hz2 rfl (by decide) _ _ _ rfl (by exact (HROW.out.chg hch3 HNE.out (by decide)).ext ((Ext.refl _).alloc _) (by decide)) 1 (intF x) (by exact src_int _ x _) (by unfold maxLen; omega) (by omega) (by exact Nat.le_trans HSZ.out (Nat.le_trans hch3.size (Ext.size (show Ext w3 _ by ((repeat (first | assumption | exact Ext.refl _ | (exact And.left (by assumption)) | refine Ext.alloc ?_ _ | refine Ext.drew ?_ | refine Ext.drewN ?_ _ | refine Ext.setCell ?_ (by simp) _ | refine Ext.setCell ?_ (by simp; omega) _ | refine Ext.trans ?_ (by assumption))); done))))) ?_; intro v5 W5w rv5; have h5 := Lib.hid (HL.out.step hGl hlt HR1.out hch3 hc3 hx ((Ext.refl _).alloc _) rv5 (by rw [hlen])); obtain ⟨a5, c5, rfl, _, _⟩ := rv5.1.shape; clear rv5)))
     go_roundw
     case rel => exact ⟨i + 1, by omega, by go_num, _, _, h5.out⟩
     case measure => simp [intOf]; omega
   ·obtain rfl : i = n := by omega
    go_wp2_with fail
    go_ret
    refine ⟨HL.out.chg, r, HL.out.cx, ?_⟩
    rw [HRL.out, HL.out.done, List.map_id']
    exact ⟨rfl, _, rfl, HL.out.row.ints (by omega)⟩
end Go.Proofs.YtgahbngbpfilgaaGreat
end
section
set_option maxHeartbeats 4000000
set_option maxRecDepth 100000
namespace Go.Proofs.YtgahbngbpfilgaaGreat
open Go Go.RowKit
def FrameN (w : World) (base : Nat) (v : Value) (x : GFrame) : Prop := ∃ a n c a' n' c', v = .agg #[.int .i64 x.func, .int .i64 x.at_, .slice a n c, .slice a' n' c'] ∧ kFrame.E w (base ≤ ·) (x, .slice a n c, .slice a' n' c')
theorem i64_byte (b : UInt8) : I64 (b.toNat : Int) := by
 have := b.toNat_lt
 exact I64.nat (by omega)
theorem rd1_i64 {b r : List UInt8} {n : Int} (h : rd1 b = some (n, r)) : I64 n ∧ 0 ≤ n ∧ n < 256 := by
 cases b with
 | nil => cases h
 | cons c b =>
  cases h
  have := c.toNat_lt
  exact ⟨i64_byte c, by omega, by omega⟩
theorem glassFrame_any {G : Nat} {b : List UInt8} {w : World} (h : Cx w G 0 (strV b)) :
  Calls Tryz.prog 62 #[.pointer (some ⟨G, 0, none⟩)] w fun e w' => RdE w G (fun w' v x => FrameN w' w.heap.size v x) (rdF b) e w' := by
 have hGl := h.lt
 have RA := alloc_keep
 have hmf : ∀ (fn : Fn) (first cap : Array Value) (w : World), (Instr.makeFunc fn first cap).run Tryz.prog w = .ok (.func fn first cap) w := fun _ _ _ _ => rfl
 have q1 : Ext w (w.alloc (.cells #[.int .i64 0, .int .i64 0, .slice none 0 0, .slice none 0 0] 43)) := (Ext.refl _).alloc _
 have d0 := Cx.new w [.int .i64 0, .int .i64 0, .slice none 0 0, .slice none 0 0] 43 (j := 0) rfl
 have d1 := Cx.new w [.int .i64 0, .int .i64 0, .slice none 0 0, .slice none 0 0] 43 (j := 1) rfl
 have d2 := Cx.new w [.int .i64 0, .int .i64 0, .slice none 0 0, .slice none 0 0] 43 (j := 2) rfl
 have d3 := Cx.new w [.int .i64 0, .int .i64 0, .slice none 0 0, .slice none 0 0] 43 (j := 3) rfl
 have H1 := Lib.hid (h.ext q1)
 have HW1 := Lib.hid q1
 have D1 := Lib.hid (⟨d0, d1, d2, d3⟩ : _ ∧ _ ∧ _ ∧ _)
 obtain ⟨rb, hrb⟩ : ∃ rb, w.heap.size = rb := ⟨_, rfl⟩
 have HRB := Lib.hid hrb
 have hne : rb ≠ G := by omega
 clear d0 d1 d2 d3 q1 h
 rw [hrb] at D1
 go_enter Tryz.func62, Tryz.ntmps62
 go_upto_region 1 with fail
 generalize w.alloc (.cells #[.int .i64 0, .int .i64 0, .slice none 0 0, .slice none 0 0] 43) = w1 at *
 cases h1 : rd1 b with
 | none =>
  have h0 : rdF b = none := by unfold rdF; rw [h1]
  have H0 := Lib.hid h0
  have HR := Lib.hid h1
  clear h0 h1
  go_wp2_with (first
   | (go_at_call 41; (with_reducible refine (glassSmall_any H1.out).mono ?_); rintro e w2 ⟨hch2, r2, hc2, he⟩; rw [HR.out] at he; have he' : e = .panicked [{ v := shortV, recovered := false }] := he; subst he'))
  refine ⟨rfl, (Chg.of_ext HW1.out).trans hch2, r2, hc2, ?_⟩
  rw [H0.out]
 | some xr =>
  obtain ⟨n1, r1⟩ := xr
  have HR1 := Lib.hid h1
  have I1 := Lib.hid (rd1_i64 h1)
  cases h2 : rd1 r1 with
  | none =>
   have h0 : rdF b = none := by unfold rdF; rw [h1]; simp only; rw [h2]
   have H0 := Lib.hid h0
   have HR2 := Lib.hid h2
   clear h0 h1 h2
   go_wp2_with (first
    | (go_at_call 41; (with_reducible refine (glassSmall_any H1.out).mono ?_); rintro e w2 ⟨hch2, r2, hc2, he⟩; rw [HR1.out] at he; obtain ⟨rfl, v, rfl, rfl⟩ : r2 = r1 ∧ ∃ v, e = .returned v ∧ v = .int .i64 n1 := he)
    | (go_at_call 41; (with_reducible refine (glassSmall_any hc2).mono ?_); rintro e w3 ⟨hch3, r3, hc3, he⟩; rw [HR2.out] at he; have he' : e = .panicked [{ v := shortV, recovered := false }] := he; subst he'))
   refine ⟨rfl, ((Chg.of_ext HW1.out).trans hch2).trans hch3, r3, hc3, ?_⟩
   rw [H0.out]
  | some xr =>
   obtain ⟨n2, r2'⟩ := xr
   have HR2 := Lib.hid h2
   have I2 := Lib.hid (rd1_i64 h2)
   go_upto_region 2 with (first
    | (go_at_call 41; (with_reducible refine (glassSmall_any H1.out).mono ?_); rintro e w2 ⟨hch2, r2, hc2, he⟩; rw [HR1.out] at he; obtain ⟨rfl, v, rfl, rfl⟩ : r2 = r1 ∧ ∃ v, e = .returned v ∧ v = .int .i64 n1 := he)
    | (go_at_call 41; (with_reducible refine (glassSmall_any hc2).mono ?_); rintro e w3 ⟨hch3, r3, hc3, he⟩; rw [HR2.out] at he; obtain ⟨rfl, v, rfl, rfl⟩ : r3 = r2' ∧ ∃ v, e = .returned v ∧ v = .int .i64 n2 := he))
   have q4 : Ext w3 (w3.alloc (.cells #[.int .i64 n1, .int .i64 n2, .slice none 0 0, .slice none 0 0] 43)) := (Ext.refl _).alloc _
   have y0 := Cx.new w3 [.int .i64 n1, .int .i64 n2, .slice none 0 0, .slice none 0 0] 43 (j := 0) rfl
   have y1 := Cx.new w3 [.int .i64 n1, .int .i64 n2, .slice none 0 0, .slice none 0 0] 43 (j := 1) rfl
   have y2 := Cx.new w3 [.int .i64 n1, .int .i64 n2, .slice none 0 0, .slice none 0 0] 43 (j := 2) rfl
   have y3 := Cx.new w3 [.int .i64 n1, .int .i64 n2, .slice none 0 0, .slice none 0 0] 43 (j := 3) rfl
   have hch4 := hch2.trans (hch3.trans (Chg.of_ext q4))
   have hrb3 : rb < w3.heap.size := (D1.out.1.chg (hch2.trans hch3) hne).lt
   have hs1 : w1.heap.size ≤ w3.heap.size := (hch2.trans hch3).size
   have H4 := Lib.hid (hc3.ext q4)
   have Y4 := Lib.hid (⟨y0, y1, y2, y3⟩ : _ ∧ _ ∧ _ ∧ _)
   have C4 := Lib.hid hch4
   have hG3 : G < w3.heap.size := hc3.lt
   clear hch2 hch3 hc2 hc3 q4 y0 y1 y2 y3 hch4 h1 h2
   obtain ⟨xb, hxb⟩ : ∃ xb, w3.heap.size = xb := ⟨_, rfl⟩
   have hsz4 : (w3.alloc (.cells #[.int .i64 n1, .int .i64 n2, .slice none 0 0, .slice none 0 0] 43)).heap.size = xb + 1 := by rw [← hxb]; exact Array.size_push _
   rw [hxb] at Y4 hrb3 hG3 hs1 ⊢
   have hnx : xb ≠ G := by omega
   have hxr : rb ≠ xb := by omega
   obtain ⟨w4, hw4⟩ : ∃ w4, w4 = w3.alloc (.cells #[.int .i64 n1, .int .i64 n2, .slice none 0 0, .slice none 0 0] 43) := ⟨_, rfl⟩
   change Hid (Cx (w3.alloc (.cells #[.int .i64 n1, .int .i64 n2, .slice none 0 0, .slice none 0 0] 43)) xb 0 _ ∧ Cx (w3.alloc (.cells #[.int .i64 n1, .int .i64 n2, .slice none 0 0, .slice none 0 0] 43)) xb 1 _ ∧ Cx (w3.alloc (.cells #[.int .i64 n1, .int .i64 n2, .slice none 0 0, .slice none 0 0] 43)) xb 2 _ ∧ Cx (w3.alloc (.cells #[.int .i64 n1, .int .i64 n2, .slice none 0 0, .slice none 0 0] 43)) xb 3 _) at Y4
   rw [← hw4] at H4 Y4 C4 hsz4 ⊢
   clear hw4 hxb
   cases h3 : rdL rdW r3 with
   | none =>
    have h0 : rdF b = none := by unfold rdF; rw [HR1.out]; simp only; rw [HR2.out]; simp only; rw [h3]
    have H0 := Lib.hid h0
    have HR3 := Lib.hid h3
    clear h0 h3
    go_wp2_with (first
     | (go_at_call 44; (with_reducible refine (listInt_any H4.out).mono ?_); rintro e w5 ⟨hch5, r5, hc5, he⟩; rw [HR3.out] at he; have he' : e = .panicked [{ v := shortV, recovered := false }] := he; subst he'))
    refine ⟨rfl, (Chg.of_ext HW1.out).trans (C4.out.trans hch5), r5, hc5, ?_⟩
    rw [H0.out]
   | some xr =>
    obtain ⟨l, r4⟩ := xr
    have HR3 := Lib.hid h3
    clear h3
    go_upto_region 3 with (first
     | (go_at_call 44; (with_reducible refine (listInt_any H4.out).mono ?_); rintro e w5 ⟨hch5, r5, hc5, he⟩; rw [HR3.out] at he; obtain ⟨rfl, v, rfl, hl5⟩ : r5 = r4 ∧ ∃ v, e = .returned v ∧ Ints w5 (w4.heap.size ≤ ·) v l := he; have HL5 := Lib.hid hl5; obtain ⟨a5, c5, rfl, _, _, _⟩ := hl5; have hz := Y4.out.2.2.1.chg hch5 hnx; obtain ⟨z2, z2'⟩ := hz))
    have hGx : G ≠ xb := fun e => hnx e.symm
    have k0 := (Y4.out.1.chg hch5 hnx).other (b' := xb) (j' := 2) (.inr (by decide)) (.slice a5 l.length c5)
    have k1 := (Y4.out.2.1.chg hch5 hnx).other (b' := xb) (j' := 2) (.inr (by decide)) (.slice a5 l.length c5)
    have k2 := (Y4.out.2.2.1.chg hch5 hnx).set (.slice a5 l.length c5)
    have k3 := (Y4.out.2.2.2.chg hch5 hnx).other (b' := xb) (j' := 2) (.inr (by decide)) (.slice a5 l.length c5)
    have H6 := Lib.hid (hc5.other (b' := xb) (j' := 2) (.inl hGx) (.slice a5 l.length c5))
    have L6 := Lib.hid (Ints.stays ((chg_one w5 xb 2 (.slice a5 l.length c5)).stays (fun b hb e => by have e2 : b = xb := e; have hb2 : w4.heap.size ≤ b := hb; omega)) HL5.out)
    have C6 := Lib.hid ((C4.out.trans hch5).setCell (p := ⟨xb, 2, none⟩) (.inr hs1) (.slice a5 l.length c5))
    have S6 := Lib.hid (Nat.le_trans hch5.size (chg_one w5 xb 2 (.slice a5 l.length c5)).size)
    have Y6 := Lib.hid (⟨k0, k1, k2, k3⟩ : _ ∧ _ ∧ _ ∧ _)
    clear k0 k1 k2 k3 z2 z2' hch5 hc5 HL5
    generalize w5.setCell ⟨xb, 2, none⟩ (.slice a5 l.length c5) = w6 at *
    cases h4 : rdL rdW r5 with
    | none =>
     have h0 : rdF b = none := by unfold rdF; rw [HR1.out]; simp only; rw [HR2.out]; simp only; rw [HR3.out]; simp only; rw [h4]
     have H0 := Lib.hid h0
     have HR4 := Lib.hid h4
     clear h0 h4
     go_wp2_with (first
      | (go_at_call 44; (with_reducible refine (listInt_any H6.out).mono ?_); rintro e w7 ⟨hch7, r7, hc7, he⟩; rw [HR4.out] at he; have he' : e = .panicked [{ v := shortV, recovered := false }] := he; subst he'))
     refine ⟨rfl, (Chg.of_ext HW1.out).trans (C6.out.trans hch7), r7, hc7, ?_⟩
     rw [H0.out]
    | some xr =>
     obtain ⟨t, r6⟩ := xr
     have h0 : rdF b = some (⟨n1, n2, l, t⟩, r6) := by unfold rdF; rw [HR1.out]; simp only; rw [HR2.out]; simp only; rw [HR3.out]; simp only; rw [h4]
     have H0 := Lib.hid h0
     have HR4 := Lib.hid h4
     clear h0 h4
     go_upto_region 4 with (first
      | (go_at_call 44; (with_reducible refine (listInt_any H6.out).mono ?_); rintro e w7 ⟨hch7, r7, hc7, he⟩; rw [HR4.out] at he; obtain ⟨rfl, v, rfl, hl7⟩ : r7 = r6 ∧ ∃ v, e = .returned v ∧ Ints w7 (w6.heap.size ≤ ·) v t := he; have HL7 := Lib.hid hl7; obtain ⟨a7, c7, rfl, _, _, _⟩ := hl7; have hz := Y6.out.2.2.2.chg hch7 hnx; obtain ⟨z3, z3'⟩ := hz))
     have k0 := (Y6.out.1.chg hch7 hnx).other (b' := xb) (j' := 3) (.inr (by decide)) (.slice a7 t.length c7)
     have k1 := (Y6.out.2.1.chg hch7 hnx).other (b' := xb) (j' := 3) (.inr (by decide)) (.slice a7 t.length c7)
     have k2 := (Y6.out.2.2.1.chg hch7 hnx).other (b' := xb) (j' := 3) (.inr (by decide)) (.slice a7 t.length c7)
     have k3 := (Y6.out.2.2.2.chg hch7 hnx).set (.slice a7 t.length c7)
     have H8 := Lib.hid (hc7.other (b' := xb) (j' := 3) (.inl hGx) (.slice a7 t.length c7))
     have hst : ∀ b, w4.heap.size ≤ b → ¬ b = xb := fun b hb e => by omega
     have L8 := Lib.hid (Ints.stays ((hch7.stays (fun b hb e => by have e2 : b = G := e; have hb2 : w4.heap.size ≤ b := hb; omega))) L6.out)
     have L9 := Lib.hid (Ints.stays ((chg_one w7 xb 3 (.slice a7 t.length c7)).stays hst) L8.out)
     have T9 := Lib.hid (Ints.stays ((chg_one w7 xb 3 (.slice a7 t.length c7)).stays (fun b hb => hst b (Nat.le_trans S6.out hb))) HL7.out)
     have C8 := Lib.hid ((C6.out.trans hch7).setCell (p := ⟨xb, 3, none⟩) (.inr hs1) (.slice a7 t.length c7))
     have hf0 := D1.out.1.chg C8.out hne
     have hf1 := D1.out.2.1.chg C8.out hne
     have hf2 := D1.out.2.2.1.chg C8.out hne
     have hf3 := D1.out.2.2.2.chg C8.out hne
     clear z3 z3' hch7 hc7 HL7 L8
     generalize w7.setCell ⟨xb, 3, none⟩ (.slice a7 t.length c7) = w8 at *
     obtain ⟨k0, k0'⟩ := k0
     obtain ⟨k1, k1'⟩ := k1
     obtain ⟨k2, k2'⟩ := k2
     obtain ⟨k3, k3'⟩ := k3
     obtain ⟨f0, f0'⟩ := hf0
     obtain ⟨f1, f1'⟩ := hf1
     obtain ⟨f2, f2'⟩ := hf2
     obtain ⟨f3, f3'⟩ := hf3
     have CR : Chg (· = rb) w8 ((((w8.setCell ⟨rb, 0, none⟩ (.int .i64 n1)).setCell ⟨rb, 1, none⟩ (.int .i64 n2)).setCell ⟨rb, 2, none⟩ (.slice a5 l.length c5)).setCell ⟨rb, 3, none⟩ (.slice a7 t.length c7)) :=
      ((((Chg.refl (· = rb) w8).setCell (p := ⟨rb, 0, none⟩) (.inl rfl) _).setCell (p := ⟨rb, 1, none⟩) (.inl rfl) _).setCell (p := ⟨rb, 2, none⟩) (.inl rfl) _).setCell (p := ⟨rb, 3, none⟩) (.inl rfl) _
     have hr4 : ∀ b, w4.heap.size ≤ b → ¬ b = rb := fun b hb e => by omega
     have LA := Ints.stays (Stays.widen (T := (rb ≤ ·)) fun b hb => by have hb2 : w4.heap.size ≤ b := hb; show rb ≤ b; omega) (Ints.stays (CR.stays hr4) L9.out)
     have TA := Ints.stays (Stays.widen (T := (rb ≤ ·)) fun b hb => by have hb2 : w6.heap.size ≤ b := hb; have hb3 := S6.out; show rb ≤ b; omega) (Ints.stays (CR.stays (fun b hb => hr4 b (Nat.le_trans S6.out hb))) T9.out)
     have hGr : G ≠ rb := fun e => hne e.symm
     have CG := H8.out.chg CR hGr
     have CF := ((Chg.of_ext HW1.out).trans C8.out).trans' CR (fun n hn e => by have e2 : n = rb := e; omega)
     have FN : FrameN _ rb _ ⟨n1, n2, l, t⟩ := ⟨a5, l.length, c5, a7, t.length, c7, rfl, I1.out.1, I2.out.1, LA, TA⟩
     have FIN := Lib.hid (⟨CG, CF, FN⟩ : _ ∧ _ ∧ _)
     clear CR LA TA CG CF FN
     go_wp2_with fail
     refine bodyPost_ret (results_cell_mid rfl _ _ rb 0 _ _ rfl (box4 ⟨f0, f0'⟩ ⟨f1, f1'⟩ ⟨f2, f2'⟩ ⟨f3, f3'⟩ _ _ _ _) rfl rfl (by kernel_rfl)) rfl ?_
     refine ⟨FIN.out.2.1, r7, FIN.out.1, ?_⟩
     rw [H0.out]
     exact ⟨rfl, _, rfl, FIN.out.2.2⟩
end Go.Proofs.YtgahbngbpfilgaaGreat
end
