/- Merged texts: contracts and plain facts, one part behind another; each part begins with what it says. -/
import Derived.Test.YtpcjkfppacnkgaaGreatDoorGNAN
import Derived.Test.YtpcjkfppacnkgaaGreatDoorGNAS
import Derived.Test.YtpcjkfppacnkgaaGreatDoorGNAT
section
/- Contract of the document's ProgFrom. No condition. -/
set_option maxHeartbeats 4000000
set_option maxRecDepth 100000
namespace Go.Proofs.YtpcjkfppacnkgaaGreatDoor
open Go Go.RowKit

end Go.Proofs.YtpcjkfppacnkgaaGreatDoor
end
section
/- Contracts of the desk's listed and refused. No condition. -/
set_option maxHeartbeats 4000000
set_option maxRecDepth 100000
namespace Go.Proofs.YtpcjkfppacnkgaaGreatDoor
open Go Go.RowKit

theorem join_any (L : List By) (a : Option Addr) (cap : Nat) (w : World) (base : Nat) (h : RowAt w base 1 (.slice a L.length cap) L.length (L.flatMap txtF)) (hn : 0 < L.length) (hN : L.length ≤ 100000) (hlen : (Lib.join L [32]).length ≤ 100000) :
    Calls Tryz.prog 141 #[.slice a L.length cap, .string ⟨#[32]⟩] w fun e w' => e = .returned (.string ⟨(Lib.join L [32]).toArray⟩) ∧ Ext w w' := by
  obtain ⟨g, o, rfl, _, hg, hc⟩ := h.strs hn
  obtain ⟨a', c', e, h1, _⟩ := h.shape
  simp only [Value.slice.injEq] at e
  obtain ⟨_, _, rfl⟩ := e
  have e1 : (L.map fun x : By => (⟨x.toArray⟩ : ByteArray)).length = L.length := by simp
  have e2 : ((L.map fun x : By => (⟨x.toArray⟩ : ByteArray)).map (·.data.toList)) = L := by simp [Function.comp_def]
  have hJ := Tryz.strings_Join g o cap (L.map fun x : By => (⟨x.toArray⟩ : ByteArray)) ⟨#[32]⟩ w (fun j x hx => by
    rw [List.getElem?_map, Option.map_eq_some_iff] at hx
    obtain ⟨y, hy, rfl⟩ := hx
    obtain ⟨hj, rfl⟩ := List.getElem?_eq_some_iff.1 hy
    exact hc j hj) hg (by rw [e1]; omega) (by rw [e1]; omega) (by rw [e2]; show (Lib.join L [32]).length ≤ _; omega)
  rw [e1, e2] at hJ
  exact hJ
theorem refused_any (n : Int) (w : World) (hg : Glob w) (hn : I64 n) : Calls Tryz.prog 76 #[.int .i64 n] w fun e w' => e = .returned (.string ⟨(errT n).toArray⟩) ∧ Ext w w' := by
  have HG := Lib.hid hg
  have hcat := cat_bytes'
  have hlen := cat_len
  have hdl : (Lib.itoa n).length ≤ 21 := Lib.itoa_length_le n hn.1 hn.2
  obtain ⟨d, hd⟩ : ∃ d, Lib.itoa n = d := ⟨_, rfl⟩
  have HD := Lib.hid hd
  rw [hd] at hdl
  have n1 : ¬ 9223372036854775807 < 6 + d.length := by omega
  clear hd hg
  go_enter Tryz.func76, Tryz.ntmps76
  go_wp2_with (first
    | (go_at_call 75; (with_reducible refine (itoa_any _ _ hn HG.out).mono ?_); rintro e w3 ⟨rfl, hb3⟩; rw [HD.out]))
  go_ret
  exact ⟨by unfold errT; rw [HD.out]; rfl, hb3⟩
theorem listed_any (l : List Int) (v : Value) (S : Nat → Prop) (w : World) (hg : Glob w) (hv : Ints w S v l) (hl : l.length ≤ 1000) :
    Calls Tryz.prog 108 #[v] w fun e w' => e = .returned (.string ⟨(listT l).toArray⟩) ∧ Ext w w' := by
  have HV := Lib.hid hv
  have HG := Lib.hid hg
  obtain ⟨i0, hi0, hz0, hz1, hz2⟩ := info_parts infoStr
  have hI : ∀ n ∈ l, I64 n := fun n hn => by
    obtain ⟨i, hi, rfl⟩ := List.getElem_of_mem hn
    obtain ⟨b, o, cap, _, _, _, _, _, h⟩ := Sl.get hv hi
    exact h
  have hjl := joinI_len l hI
  obtain ⟨a, cap, rfl, hcap, hby, _⟩ := hv
  clear hg
  by_cases h0 : l.length = 0
  · obtain rfl : l = [] := List.length_eq_zero_iff.1 h0
    go_enter Tryz.func108, Tryz.ntmps108
    go_wp2_with fail
    go_ret
    exact ⟨rfl, Ext.refl _⟩
  · have T0 : ((l.length : Int) == 0) = false := beq_eq_false_iff_ne.2 (by omega)
    go_enter Tryz.func108, Tryz.ntmps108
    go_wp2_with fail
    go_loopw [3, 11] (fun q3 q11 wr => ∃ (k : Nat) (L : List By), k ≤ l.length ∧ q11 = .int .i64 k ∧ L = (l.take k).map Lib.itoa ∧ Ext w wr ∧ RowAt wr w.heap.size 1 q3 L.length (L.flatMap txtF)) (fun _ q _ => l.length - (intOf q).toNat)
    case atStart => exact ⟨0, [], Nat.zero_le _, rfl, rfl, Ext.refl _, RowAt.nil _ _ _ _⟩
    case round =>
      obtain ⟨k, L, hk, rfl, hL, hb, hrow⟩ := hrel
      have HB := Lib.hid hb
      have HROW := Lib.hid hrow
      have hLl : L.length ≤ 1000 := by rw [hL, List.length_map, List.length_take]; omega
      obtain ⟨ar, capr, rfl, _, _⟩ := hrow.shape
      by_cases hlt : k < l.length
      · obtain ⟨b, o, cap', e0, _, _, _, x0, iN⟩ := (Ints.stays (Ext.stays HB.out) HV.out).get hlt
        simp only [Value.slice.injEq] at e0
        obtain ⟨rfl, -, rfl⟩ := e0
        rw [Nat.mul_one] at x0
        have HLN : Hid (L ++ [Lib.itoa l[k]] = (l.take (k + 1)).map Lib.itoa) := by unfold Hid; rw [hL, List.take_succ_eq_append_getElem hlt, List.map_append]; rfl
        generalize l[k] = n at *
        obtain ⟨d, hd⟩ : ∃ d, Lib.itoa n = d := ⟨_, rfl⟩
        have HD := Lib.hid hd
        rw [hd] at HLN
        clear hd hb hrow hL
        go_wp2_with (first
          | (go_at_call 75; (with_reducible refine (itoa_any _ _ iN (HG.out.ext HB.out)).mono ?_); rintro e w3 ⟨rfl, hb3⟩; rw [HD.out]; have HB3 := Lib.hid hb3; have HS7 : Hid (w.heap.size ≤ (w3.alloc (.cells #[txtV d] 9)).heap.size) := Nat.le_trans HB.out.size ((hb3.alloc _).size); clear hb3)
          | (at_builtin; refine wpList_append_row rfl _ _ 79 rfl w.heap.size 9 i0 (.string ⟨#[]⟩) 1 16 Tryz.underlying79 hi0 hz0 hz1 hz2 rfl (by decide) _ _ _ rfl (by exact HROW.out.ext (HB3.out.alloc (.cells #[txtV d] 9)) (by decide)) 1 (txtF d) (src_txt _ _ _) (by unfold maxLen; omega) (by omega) (by exact HS7.out) ?_; intro v1 Wv1 rv1; have RV := Lib.hid rv1; obtain ⟨a9, cap9, rfl, _, _⟩ := rv1.1.shape; have HX9 := Lib.hid (Chg.ext_from ((HB.out.trans HB3.out).alloc (.cells #[txtV d] 9)) RV.out.2.1 (fun b e => HROW.out.le b e)); clear rv1))
        go_roundw
        case rel => exact ⟨k + 1, L ++ [d], by omega, by go_num, HLN.out, HX9.out, by rw [List.length_append, List.length_singleton, List.flatMap_append, List.flatMap_singleton]; exact RV.out.1⟩
        case measure => simp [intOf]; omega
      · obtain rfl : k = l.length := by omega
        rw [List.take_length] at hL
        have hLn : L.length = l.length := by rw [hL, List.length_map]
        have HJ : Hid (Lib.join L [32] = listT l) := by unfold Hid listT; rw [if_neg (fun e => h0 (by rw [e]; rfl)), hL, joinI_join]
        have hjn : (Lib.join L [32]).length ≤ 100000 := by rw [hL, joinI_join]; omega
        have HLN := Lib.hid hLn
        clear hL hlt hb hLn
        go_wp2_with (first
          | (go_at_call 141; (with_reducible refine (join_any L _ _ _ w.heap.size HROW.out (by have := HLN.out; omega) (by omega) hjn).mono ?_); rintro e w3 ⟨rfl, hb3⟩))
        go_ret
        exact ⟨by rw [HJ.out]; rfl, HB.out.trans hb3⟩
end Go.Proofs.YtpcjkfppacnkgaaGreatDoor
end
section
/- A state in own memory: another At, another local value. Plain facts of steps. No condition. -/
set_option maxHeartbeats 1000000
namespace Go.Proofs.YtpcjkfppacnkgaaGreatDoor
open Go Go.RowKit

theorem OwnS.setAt {P : PState} {L R : List PFiber} {y : PFiber} {F : List PFrame} {x : PFrame} {W : World} {B b g o n cap : Nat} (h : OwnS W B b P) (hs : Spot P L y R F x) (hv : y.vf = .slice (some ⟨g, o, none⟩) n cap) (a : Int) (hI : I64 a) :
    OwnS (W.setCell ⟨g, o + F.length * 4 + 1, none⟩ (.int .i64 a)) B b (replTop P L y R F ⟨{ x.f with at_ := a }, x.vl, x.vs⟩) ∧ Chg (· ∈ b :: P.bl) W (W.setCell ⟨g, o + F.length * 4 + 1, none⟩ (.int .i64 a)) := by
  obtain ⟨s1, s2, s3⟩ := h.sep hs
  have hy := h.fs y (by rw [hs.fs]; simp)
  have hx := hy.fr x (by rw [hs.fr]; simp)
  have hrow := hy.row
  rw [hs.fr] at hrow
  obtain ⟨g', o', cap', e1, hbl, _⟩ := RowAt.place frameF (fun _ => rfl) hrow
  rw [hv] at e1
  simp only [Value.slice.injEq, Option.some.injEq, Addr.mk.injEq] at e1
  obtain ⟨⟨rfl, rfl, -⟩, -, rfl⟩ := e1
  have hCh := chg_one W g (o + F.length * 4 + 1) (.int .i64 a)
  have hgx : ∀ k ∈ x.bl, ¬ k = g := fun k hk e => by subst e; exact s1 _ hbl hk
  have hx' := hx.chg hCh hgx
  refine ⟨h.frame hs.fs hs.fr hCh (fun k hk _ => .inl (by rw [show k = g from hk]; exact hbl)) ⟨⟨hx.i.1, hI, hx.i.2.2⟩, hx'.l, hx'.s, hx.few⟩ ?_ s3 (fun k hk => .inl hk), hCh.mono (fun k _ hk => List.mem_cons_of_mem _ (hs.bl (.inl (by rw [show k = g from hk]; exact hbl))))⟩
  rw [hv] at hrow ⊢
  exact hrow.storeAt frameF (fun _ => rfl) (by decide) rfl

theorem OwnS.setLocal {P : PState} {L R : List PFiber} {y : PFiber} {F : List PFrame} {x : PFrame} {W : World} {B b g o n cap : Nat} (h : OwnS W B b P) (hs : Spot P L y R F x) (hv : x.vl = .slice (some ⟨g, o, none⟩) n cap) (i : Nat) (hi : i < x.f.locals.length) (v : Int) (hI : I64 v) :
    OwnS (W.setCell ⟨g, o + i, none⟩ (.int .i64 v)) B b (replTop P L y R F ⟨{ x.f with locals := x.f.locals.set i v }, x.vl, x.vs⟩) ∧ Chg (· ∈ b :: P.bl) W (W.setCell ⟨g, o + i, none⟩ (.int .i64 v)) := by
  obtain ⟨s1, s2, s3⟩ := h.sep hs
  have hy := h.fs y (by rw [hs.fs]; simp)
  have hx := hy.fr x (by rw [hs.fr]; simp)
  have hl := hx.l
  obtain ⟨a1, c1, e1, _, _⟩ := hl.shape
  have e2 := hv
  rw [e1] at e2
  simp only [Value.slice.injEq] at e2
  obtain ⟨rfl, rfl, rfl⟩ := e2
  rw [e1] at hl
  obtain ⟨g', o', e3, hbk, hcell⟩ := hl.cell (by omega)
  simp only [Option.some.injEq, Addr.mk.injEq] at e3
  obtain ⟨rfl, rfl, -⟩ := e3
  have hcap : c1 ≠ 0 := by
    intro e; subst e
    obtain ⟨_, _, _, e4, h5, _⟩ := hl
    simp only [Value.slice.injEq] at e4
    omega
  have hbl : rowBlock x.vl = some g := by rw [e1]; exact rowBlock_some _ _ _ _ hcap
  have hgm : g ∈ x.bl := by unfold PFrame.bl; simp [hbl]
  have hCh := chg_one W g (o + i) (.int .i64 v)
  refine ⟨h.frame hs.fs hs.fr hCh (fun k hk _ => .inr (by rw [show k = g from hk]; exact hgm)) ⟨⟨hx.i.1, hx.i.2.1, fun k hk => ?_, hx.i.2.2.2⟩, ?_, ?_, ?_, hx.few.2⟩ ?_ s3 (fun k hk => .inl hk), hCh.mono (fun k _ hk => List.mem_cons_of_mem _ (hs.bl (.inr (by rw [show k = g from hk]; exact hgm))))⟩
  · rcases List.mem_or_eq_of_mem_set hk with h1 | h1
    · exact hx.i.2.2.1 k h1
    · rw [h1]; exact hI
  · show RowAt _ B 1 x.vl (x.f.locals.set i v).length (ints (x.f.locals.set i v))
    rw [← ints_set, List.length_set]
    have := hl.store (j := i) (by omega) (.int .i64 v)
    rw [e1]
    exact this
  · exact hx.s.chg hCh (fun k hk e => s2 g hbl (by rw [show k = g from e] at hk; exact hk)) (by decide)
  · show (x.f.locals.set i v).length ≤ 1000
    rw [List.length_set]; exact hx.few.1
  · have hrow := hy.row
    rw [hs.fr] at hrow
    have h2 := hrow.chg hCh (fun k hk e => s1 k hk (by rw [show k = g from e]; exact hgm)) (by decide)
    simp only [List.flatMap_append, List.length_append, List.length_cons, List.flatMap_cons] at h2 ⊢
    exact h2

theorem topOf_mod (f : GFiber) (h : 0 < f.frames.length) (g : GFrame → GFrame) : topOf { f with frames := f.frames.modify (f.frames.length - 1) g } = g (topOf f) := by
  unfold topOf
  obtain ⟨F, x, hf⟩ := split_last f.frames h
  simp only [hf, List.length_modify]
  rw [modify_last _ _ _ _ rfl]
  have e : (F ++ [g x]).length = (F ++ [x]).length := by simp
  rw [← e, getD_last _ _ _ _ rfl, e, getD_last _ _ _ _ rfl]
theorem curF_mod (s : GState) (h : 0 ≤ s.now ∧ s.now < s.fibers.length) (g : GFiber → GFiber) : curF (modFib s s.now g) = g (curF s) := by
  unfold curF
  show (modFib s s.now g).fibers.getD s.now.toNat default = _
  rw [modFib_get _ _ _ _ (by omega), if_pos rfl]
theorem curX_mod (s : GState) (h : HasTop s s.now) (g : GFrame → GFrame) : curX (modTop s s.now g) = g (curX s) := by
  unfold curX modTop
  rw [curF_mod s ⟨h.1, h.2.1⟩]
  exact topOf_mod _ h.2.2 g
theorem curX_pop (s : GState) (h : HasTop s s.now) : curX (popG s) = { curX s with stack := (curX s).stack.dropLast } := curX_mod s h _
/-- What lineOf hands back, in one form. -/
theorem LineRet.ll {B : Nat} {s : GState} {e : Ending} {w : World} (h : LineRet B s e w) : ∃ a c ok, e = .returned (.tuple #[.slice a (lineLL s).length c, .bool ok]) ∧ Ints w (B ≤ ·) (.slice a (lineLL s).length c) (lineLL s) := by
  unfold LineRet at h
  unfold lineLL
  cases hl : lineS s with
  | none => rw [hl] at h; exact ⟨none, 0, false, h, Sl.nil _ _ _⟩
  | some l => rw [hl] at h; obtain ⟨a, c, h1, h2⟩ := h; exact ⟨a, c, _, h1, h2⟩
theorem CallersOk.callers {s : GState} (h : CallersOk s) (hf : s.fibers.length ≤ 1000) : Callers s :=
  ⟨h.1, fun k hk => by
    rw [List.getD_eq_getElem?_getD, List.getElem?_eq_getElem hk]
    exact h.2 _ (List.getElem_mem _), hf⟩
end Go.Proofs.YtpcjkfppacnkgaaGreatDoor
end
section
/- A state in own memory turned into another: contract of the document's resumed. -/
set_option maxHeartbeats 4000000
set_option maxRecDepth 100000
namespace Go.Proofs.YtpcjkfppacnkgaaGreatDoor
open Go Go.RowKit

end Go.Proofs.YtpcjkfppacnkgaaGreatDoor
end
