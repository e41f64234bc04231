/- Merged texts: contracts and plain facts, one part behind another; each part begins with what it says. -/
import Derived.Test.YtgahbngbpfilgaaGreatGEAI
import Derived.Test.YtgahbngbpfilgaaGreatGEAJ
import Derived.Test.YtgahbngbpfilgaaGreatGEAO
import Derived.Laws.IdiomCopy
import Derived.WalkSmall
section
set_option maxHeartbeats 4000000
set_option maxRecDepth 100000
namespace Go.Proofs.YtgahbngbpfilgaaGreat
open Go Go.RowKit
theorem Ints.srcV {w : World} {S : Nat → Prop} {v : Value} {l : List Int} (h : Ints w S v l) : SrcSl w 1 v l.length (ints l) := by have := h.src; rwa [flatMap_intF] at this
theorem src_up {w w' : World} {size : Nat} {x : Value} {m : Nat} {news : List Value} (h : SrcSl w size x m news) (he : Ext w w') : SrcSl w' size x m news := by
 obtain ⟨a, c, rfl, h1, h2, h3⟩ := h
 refine ⟨a, c, rfl, h1, h2, h3.imp id fun ⟨ad, ha, hc⟩ => ⟨ad, ha, fun j u hj => ?_⟩⟩
 have hcj := hc j u hj
 exact (Ext.keep he _ (by rw [hcj]; rfl)).trans hcj
theorem row_ext {W W' : World} {base size n : Nat} {a : Option Addr} {v' : Value} {xs : List Value} (h : NewRow W W' base size (.slice a 0 0) v' n xs) : Ext W W' := h.2.1.ext (fun k _ e => by cases a <;> simp [rowBlock] at e)
theorem cloneI_any (l : List Int) (v : Value) (S : Nat → Prop) (w : World) (hl : Ints w S v l) (hn : l.length ≤ 1000) :
  Calls Tryz.prog 70 #[v] w fun e w' => (∃ v1, e = .returned v1 ∧ RowAt w' w.heap.size 1 v1 l.length (ints l)) ∧ Ext w w' := by
 have HSRC := Lib.hid hl.srcV
 obtain ⟨a, c, rfl, hc, hb, hel⟩ := hl
 obtain ⟨i0, hi0, hz0, hz1, hz2⟩ := info_parts infoI
 have RA := alloc_keep
 cases a with
 | none =>
  have hl0 : l = [] := by
   cases l with
   | nil => rfl
   | cons x l => obtain ⟨b, o, e, _⟩ := hel 0 (by simp); cases e
  subst hl0
  have hbn : ∀ w, (binOp .eql 24 (.slice none 0 c) (.slice none 0 0)).run Tryz.prog w = .ok (.bool true) w := fun w => by kernel_rfl
  clear hel hc hb
  go_enter Tryz.func70, Tryz.ntmps70
  go_wp2_with fail
  go_ret
  exact ⟨⟨_, rfl, RowAt.nil _ _ _ _⟩, Ext.refl _⟩
 | some ad =>
  have hbn : ∀ w, (binOp .eql 24 (.slice (some ad) l.length c) (.slice none 0 0)).run Tryz.prog w = .ok (.bool false) w := fun w => by kernel_rfl
  clear hel
  go_enter Tryz.func70, Tryz.ntmps70
  go_wp2_with (first
   | (at_builtin; refine wpList_append_row rfl _ _ 24 rfl w.heap.size 3 i0 (.int .i64 0) 1 8 Tryz.underlying24 hi0 hz0 hz1 hz2 rfl (by decide) _ _ _ rfl (RowAt.nil _ _ _ _) l.length (ints l) (src_up HSRC.out (by ((repeat (first | assumption | exact Ext.refl _ | (exact And.left (by assumption)) | refine Ext.alloc ?_ _ | refine Ext.drew ?_ | refine Ext.drewN ?_ _ | refine Ext.setCell ?_ (by simp) _ | refine Ext.setCell ?_ (by simp; omega) _ | refine Ext.trans ?_ (by assumption))); done))) (by unfold maxLen; omega) (by omega) (by exact Ext.size (by ((repeat (first | assumption | exact Ext.refl _ | (exact And.left (by assumption)) | refine Ext.alloc ?_ _ | refine Ext.drew ?_ | refine Ext.drewN ?_ _ | refine Ext.setCell ?_ (by simp) _ | refine Ext.setCell ?_ (by simp; omega) _ | refine Ext.trans ?_ (by assumption))); done))) ?_; intro v1 Wv1 rv1; have RV := Lib.hid rv1; have hxv := row_ext rv1; obtain ⟨a9, cap9, rfl, _, _⟩ := rv1.1.shape; clear rv1))
  go_ret
  have hR := RV.out
  rw [Nat.zero_add, List.nil_append] at hR
  exact ⟨⟨_, rfl, hR.1⟩, by ((repeat (first | assumption | exact Ext.refl _ | (exact And.left (by assumption)) | refine Ext.alloc ?_ _ | refine Ext.drew ?_ | refine Ext.drewN ?_ _ | refine Ext.setCell ?_ (by simp) _ | refine Ext.setCell ?_ (by simp; omega) _ | refine Ext.trans ?_ (by assumption))); done)⟩
theorem RowAt.hind {w : World} {base : Nat} {a : Option Addr} {n cap : Nat} {l : List Int} (h : RowAt w base 1 (.slice a n cap) l.length (ints l)) (hI : ∀ k ∈ l, I64 k) (hl : l.length ≤ 1000) (m : Nat) (hm : m ≤ l.length) :
  Ints w (fun _ => True) (.slice (if cap = m then a else a.map (·.add m)) (n - m) (cap - m)) (l.drop m) := by
 obtain ⟨_, a', cap', e, h1, h2, h3⟩ := h
 simp only [Value.slice.injEq] at e
 obtain ⟨rfl, rfl, rfl⟩ := e
 unfold maxLen at h2
 refine ⟨_, cap - m, by rw [List.length_drop], by rw [List.length_drop]; omega, ⟨by rw [List.length_drop]; omega, by omega⟩, fun i hi => ?_⟩
 rw [List.length_drop] at hi
 obtain ⟨g, o, rfl, _, hc, _⟩ := h3.resolve_left (by omega)
 rw [if_neg (by omega)]
 refine ⟨g, o + m, by simp [Addr.add], trivial, ?_, hI _ (List.mem_of_mem_drop (List.getElem_mem _))⟩
 have := hc (m + i) (by omega)
 rw [← Nat.add_assoc] at this
 rw [Nat.mul_one, this, List.getElem_drop]
 unfold Proofs.YtgahbngbpfilgaaGreat.ints
 rw [List.getElem?_map, List.getElem?_eq_getElem (by omega)]
 rfl
theorem RowAt.front {w : World} {base n cap : Nat} {a : Option Addr} {l : List Int} (h : RowAt w base 1 (.slice a n cap) l.length (ints l)) (m : Nat) (hm : m ≤ l.length) : RowAt w base 1 (.slice a m cap) (l.take m).length (ints (l.take m)) := by
 obtain ⟨hl, a', cap', e, h1, h2, h3⟩ := h
 simp only [Value.slice.injEq] at e
 obtain ⟨rfl, rfl, rfl⟩ := e
 have hlen : (l.take m).length = m := by rw [List.length_take]; omega
 refine ⟨by rw [ints_len, Nat.mul_one], _, _, by rw [hlen], by rw [hlen]; omega, h2, ?_⟩
 rcases h3 with h3 | ⟨g, o, rfl, hb, hc, ht⟩
 ·exact .inl h3
 ·refine .inr ⟨g, o, rfl, hb, fun j hj => ?_, ht⟩
  rw [hlen, Nat.mul_one] at hj
  rw [hc j (by omega)]
  unfold Proofs.YtgahbngbpfilgaaGreat.ints
  rw [List.getElem?_map, List.getElem?_map, List.getElem?_take, if_pos hj]
theorem engPull_at {P : PState} {L R : List PFiber} {y : PFiber} {F : List PFrame} {x : PFrame} {w : World} {B b eb : Nat} {p : List GFunc} {a : Option Addr} {cp : Nat} (h : OwnS w B b P) (hE : Eng w eb b p a cp) (hs : Spot P L y R F x) (hnw : P.now = (L.length : Int)) (n : Nat) (hn : n ≤ x.f.stack.length) :
  Calls Tryz.prog 75 #[.pointer (some ⟨eb, 0, none⟩), .int .i64 n] w fun e w' => ∃ v1, e = .returned v1 ∧ Ints w' (w.heap.size ≤ ·) v1 (x.f.stack.drop (x.f.stack.length - n)) ∧
   (∃ v2, OwnS w' B b (replTop P L y R F ⟨{ x.f with stack := x.f.stack.take (x.f.stack.length - n) }, x.vl, v2⟩) ∧ rowBlock v2 = rowBlock x.vs) ∧ Chg (fun k => rowBlock y.vf = some k ∨ rowBlock x.vs = some k) w w' := by
 obtain ⟨g, o, cap, e1, hcap, hmax, -, -, -, d3, hbl⟩ := h.spot hs
 have hx := (h.fs y (by rw [hs.fs]; simp)).fr x (by rw [hs.fr]; simp)
 have hrow := hx.s
 obtain ⟨as_, cs, es, hcs, hms⟩ := hrow.shape
 rw [es] at hrow
 rw [es] at d3
 have hfew := hx.few.2
 obtain ⟨m, hm⟩ : ∃ m, x.f.stack.length - n = m := ⟨_, rfl⟩
 have hmn : m + n = x.f.stack.length := by omega
 have htail := hrow.hind hx.i.2.2.2 hfew m (by omega)
 have hfront := hrow.front m (by omega)
 have KK : IntKind.i64.wrap ((x.f.stack.length : Int) - (n : Int)) = (m : Int) := by
  have e : ((x.f.stack.length : Int) - (n : Int)) = (m : Int) := by omega
  rw [e]; exact IntWalk.i64_in _ (by omega)
 have H := Lib.hid h
 have HX := Lib.hid hx
 have HE := Lib.hid hE
 have D3 := Lib.hid d3
 have HE1 := Lib.hid e1
 have HES := Lib.hid es
 have HT := Lib.hid htail
 have HFR := Lib.hid hfront
 have HDL : Hid ((x.f.stack.drop m).length = n) := by unfold Hid; rw [List.length_drop]; omega
 have HBK : Hid (rowBlock (.slice as_ m cs) = rowBlock x.vs) := by unfold Hid; rw [es]; cases as_ <;> rfl
 have HDE : Hid ((x.f.stack.drop m).length ≤ 1000) := by unfold Hid; rw [List.length_drop]; omega
 have HTL : Hid ((x.f.stack.take m).length = m) := by unfold Hid; rw [List.length_take]; omega
 have HMM : Hid (x.f.stack.length - n = m) := hm
 have hmN : m ≤ x.f.stack.length := by omega
 have hmC : m ≤ cs := by omega
 rw [hm]
 clear h hx hE d3 e1 hcap hmax es hrow htail hfront hm hmn hn
 have RA := alloc_keep
 generalize hN : x.f.stack.length = N at *
 have HN := Lib.hid hN
 clear hN
 go_enter Tryz.func75, Tryz.ntmps75
 go_upto_region 2 with (first
  | (go_at_call 73; (with_reducible refine (engTop_any H.out HE.out hs HE1.out hnw).mono ?_); rintro e w2 ⟨rfl, hx2⟩))
 have HX2 := Lib.hid hx2
 obtain ⟨d3, d3'⟩ := D3.out.ext hx2
 have HT2 := Lib.hid (Ints.stays (Ext.stays hx2) HT.out)
 clear hx2
 rcases Classical.em (cs = m) with hcm | hcm
 all_goals (first | (subst hcm; (obtain rfl : N = cs := by omega); rw [if_pos rfl, Nat.sub_self] at HT2) | rw [if_neg hcm] at HT2)
 all_goals (
  go_upto_region 4 with (first
   | (go_at_call 70; (with_reducible refine (cloneI_any (x.f.stack.drop _) _ (fun _ => True) _ HT2.out HDE.out).mono ?_); rintro e w3 ⟨⟨v1, rfl, hr3⟩, hx3⟩))
  have HX3 := Lib.hid hx3
  have HR3 := Lib.hid hr3
  obtain ⟨d4, d4'⟩ := Cx.ext (W := w2) ⟨d3, d3'⟩ hx3
  clear d3 d3' hx3 hr3
  go_wp2_with fail
  go_ret
  have hE : Ext w w3 := HX2.out.trans HX3.out
  have hgw : g < w2.heap.size := lt_of_cell (HX2.out.cell (D3.out.1))
  have hrow := fun u => HR3.out.chg (chg_one w3 g (o + F.length * 4 + 3) u) (fun k hk e => by have e : k = g := e; have := HR3.out.le k hk; omega) (by decide)
  have hfin := H.out.stack hs HE1.out (W1 := w3) (Chg.of_ext hE) (HFR.out.ext hE (by decide)) (fun k hk => HX.out.i.2.2.2 k (List.mem_of_mem_take hk)) (by rw [HTL.out]; omega) (.inl HBK.out)
  refine ⟨v1, rfl, ?_, ⟨_, hfin.1, HBK.out⟩, hfin.2⟩
  exact Ints.of_row (by rw [flatMap_intF]; exact hrow _) (by have := HDE.out; omega) (fun k hk => HX.out.i.2.2.2 k (List.mem_of_mem_drop hk)) _ (fun k hk _ => Nat.le_trans HX2.out.size hk))
theorem engPull_any {P : PState} {w : World} {B b eb : Nat} {p : List GFunc} {a : Option Addr} {cp : Nat} (h : OwnS w B b P) (hE : Eng w eb b p a cp) (ht : HasTop P.g P.g.now) (n : Nat) (hn : n ≤ (curX P.g).stack.length) :
  Calls Tryz.prog 75 #[.pointer (some ⟨eb, 0, none⟩), .int .i64 n] w fun e w' => ∃ v1, e = .returned v1 ∧ Ints w' (w.heap.size ≤ ·) v1 ((curX P.g).stack.drop ((curX P.g).stack.length - n)) ∧ Turn w w' B b P (leaveG P.g n) := by
 obtain ⟨L, y, R, F, x, hs, hnw⟩ := hasSpot ht
 have hnw : P.now = (L.length : Int) := hnw
 have hcx := curX_at hs hnw
 rw [hcx] at hn ⊢
 refine (engPull_at h hE hs hnw n hn).mono ?_
 rintro e w' ⟨v1, rfl, hv, ⟨v2, o2, hb2⟩, hc⟩
 exact ⟨v1, rfl, hv, ⟨⟨_, o2, (modTop_at hs hnw rfl).symm, repl_bl hs (frame_bl (.inl hb2))⟩, chg_spot hs hc⟩⟩
theorem engPull_k {P : PState} {w : World} {B b eb : Nat} {p : List GFunc} {a : Option Addr} {cp : Nat} (h : OwnS w B b P) (hE : Eng w eb b p a cp) (ht : HasTop P.g P.g.now) (n : Nat) (hn : n ≤ (curX P.g).stack.length) (k : Int) (hk : k = n) :
  Calls Tryz.prog 75 #[.pointer (some ⟨eb, 0, none⟩), .int .i64 k] w fun e w' => ∃ v1, e = .returned v1 ∧ Ints w' (w.heap.size ≤ ·) v1 ((curX P.g).stack.drop ((curX P.g).stack.length - n)) ∧ Turn w w' B b P (leaveG P.g n) := by
 subst hk
 exact engPull_any h hE ht n hn
theorem leave_one (s : GState) : leaveG s 1 = popG s := by rw [leave_succ, leave_zero]
theorem drop_last (l : List Int) (h : 1 ≤ l.length) : l.drop (l.length - 1) = [l.getD (l.length - 1) 0] := by
 obtain ⟨F, x, rfl⟩ := split_last l (by omega)
 rw [getD_last _ _ _ _ rfl]
 simp
theorem engOne_any {P : PState} {w : World} {B b eb : Nat} {p : List GFunc} {a : Option Addr} {cp : Nat} (h : OwnS w B b P) (hE : Eng w eb b p a cp) (ht : HasTop P.g P.g.now) (hn : 1 ≤ (curX P.g).stack.length) :
  Calls Tryz.prog 76 #[.pointer (some ⟨eb, 0, none⟩)] w fun e w' => e = .returned (.int .i64 (lastV P.g)) ∧ Turn w w' B b P (popG P.g) := by
 have H := Lib.hid h
 have HE := Lib.hid hE
 have HT := Lib.hid ht
 have HN := Lib.hid hn
 have HD := Lib.hid (drop_last _ hn)
 clear h hE ht hn
 have RA := alloc_keep
 go_enter Tryz.func76, Tryz.ntmps76
 go_wp2_with (first
  | (go_at_call 75; (with_reducible refine (engPull_k H.out HE.out HT.out 1 HN.out 1 rfl).mono ?_); rintro e w2 ⟨v1, rfl, hv, t2⟩; rw [HD.out] at hv; rw [leave_one] at t2; obtain ⟨b1, o1, c1, rfl, _, _, _, hc1, _⟩ := Sl.get hv (i := 0) (by simp); simp only [Nat.zero_mul, Nat.add_zero, List.getElem_cons_zero] at hc1))
 go_ret
 exact ⟨rfl, t2⟩
theorem engOne_at {P : PState} {L R : List PFiber} {y : PFiber} {F : List PFrame} {x : PFrame} {w : World} {B b eb : Nat} {p : List GFunc} {a : Option Addr} {cp : Nat} (h : OwnS w B b P) (hE : Eng w eb b p a cp) (hs : Spot P L y R F x) (hnw : P.now = (L.length : Int)) (hn : 1 ≤ x.f.stack.length) :
  Calls Tryz.prog 76 #[.pointer (some ⟨eb, 0, none⟩)] w fun e w' => e = .returned (.int .i64 (x.f.stack.getD (x.f.stack.length - 1) 0)) ∧
   (∃ v2, OwnS w' B b (replTop P L y R F ⟨{ x.f with stack := x.f.stack.dropLast }, x.vl, v2⟩) ∧ rowBlock v2 = rowBlock x.vs) ∧ Chg (fun k => rowBlock y.vf = some k ∨ rowBlock x.vs = some k) w w' := by
 have H := Lib.hid h
 have HE := Lib.hid hE
 have HS := Lib.hid hs
 have HNW := Lib.hid hnw
 have HN := Lib.hid hn
 have HD := Lib.hid (drop_last _ hn)
 clear h hE hs hnw hn
 have RA := alloc_keep
 have pk := fun (W : World) (h : OwnS W B b P) (hE : Eng W eb b p a cp) => engPull_at h hE HS.out HNW.out 1 HN.out
 have PK := Lib.hid pk
 clear pk
 go_enter Tryz.func76, Tryz.ntmps76
 go_wp2_with (first
  | (go_at_call 75; (refine (PK.out _ H.out HE.out).mono ?_); rintro e w2 ⟨v1, rfl, hv, t2, c2⟩; rw [HD.out] at hv; obtain ⟨b1, o1, c1, rfl, _, _, _, hc1, _⟩ := Sl.get hv (i := 0) (by simp); simp only [Nat.zero_mul, Nat.add_zero, List.getElem_cons_zero] at hc1; have HT2 := Lib.hid t2; clear t2))
 go_ret
 obtain ⟨v2, o2, hb2⟩ := HT2.out
 rw [← List.dropLast_eq_take] at o2
 exact ⟨rfl, ⟨v2, o2, hb2⟩, c2⟩
end Go.Proofs.YtgahbngbpfilgaaGreat
end
section
set_option maxHeartbeats 4000000
set_option maxRecDepth 100000
namespace Go.Proofs.YtgahbngbpfilgaaGreat
open Go Go.RowKit
def refusalS (r : Int) : List PanicEntry := [{ v := .iface 96 (.agg #[.int .i64 r]), recovered := false }]
def endS (r : Int) : Ending := if r = 0 then .returned (.tuple #[]) else .panicked (refusalS r)
def mustS (c : Bool) (r : Int) : Ending := match c with
 | true => .returned (.tuple #[])
 | false => .panicked (refusalS r)
theorem stepMust_any (c : Bool) (r : Int) (w : World) : Calls Tryz.prog 123 #[.bool c, .int .i64 r] w fun e w' => e = mustS c r ∧ w' = w := by
 have hpn := @run_panic_iface Tryz.prog
 cases c with
 | true =>
  go_enter Tryz.func123, Tryz.ntmps123
  go_wp2_with fail
  go_end0
  exact ⟨rfl, rfl⟩
 | false =>
  go_enter Tryz.func123, Tryz.ntmps123
  go_wp2_with fail
  exact ⟨rfl, rfl, rfl⟩
structure EngS (w : World) (B b eb : Nat) (p : List GFunc) (a : Option Addr) (cp : Nat) (P : PState) : Prop where
 own : OwnS w B b P
 eng : Eng w eb b p a cp
 off : eb ∉ b :: P.bl
theorem EngS.ext {w w' : World} {B b eb : Nat} {p : List GFunc} {a : Option Addr} {cp : Nat} {P : PState} (h : EngS w B b eb p a cp P) (he : Ext w w') : EngS w' B b eb p a cp P := ⟨h.own.ext he, h.eng.ext he, h.off⟩
theorem Eng.chg {M : Nat → Prop} {w w' : World} {eb b : Nat} {p : List GFunc} {a : Option Addr} {cap : Nat} (h : Eng w eb b p a cap) (hc : Chg M w w') (hM : ¬ M eb) : Eng w' eb b p a cap := ⟨h.e0.chg hc hM, h.e1.chg hc hM⟩
theorem EngS.with {w w' : World} {B b eb : Nat} {p : List GFunc} {a : Option Addr} {cp : Nat} {P P' : PState} (h : EngS w B b eb p a cp P) (hc : Chg (· ∈ b :: P.bl) w w') (ho : OwnS w' B b P') (hs : ∀ g ∈ P'.bl, g ∈ P.bl ∨ w.heap.size ≤ g) : EngS w' B b eb p a cp P' :=
 ⟨ho, h.eng.chg hc h.off, not_grown' h.off hs h.eng.e0.lt⟩
where
 not_grown' {P P5 : PState} {b bx n : Nat} (h : bx ∉ b :: P.bl) (hs : ∀ g ∈ P5.bl, g ∈ P.bl ∨ n ≤ g) (hlt : bx < n) : bx ∉ b :: P5.bl := fun hm => by
  rcases List.mem_cons.1 hm with rfl | h1
  ·exact h List.mem_cons_self
  ·rcases hs bx h1 with h2 | h2
   ·exact h (List.mem_cons_of_mem _ h2)
   ·omega
theorem EngS.turn {w w' : World} {B b eb : Nat} {p : List GFunc} {a : Option Addr} {cp : Nat} {P : PState} {s : GState} (h : EngS w B b eb p a cp P) (t : Turn w w' B b P s) :
  ∃ P', EngS w' B b eb p a cp P' ∧ P'.g = s ∧ (∀ g ∈ P'.bl, g ∈ P.bl ∨ w.heap.size ≤ g) ∧ Chg (· ∈ b :: P.bl) w w' := by
 obtain ⟨⟨P', o, e, hs⟩, hc⟩ := t
 exact ⟨P', h.with hc o hs, e, hs, hc⟩
theorem engPush_any {P : PState} {w : World} {B b eb : Nat} {p : List GFunc} {a : Option Addr} {cp lb lo lc : Nat} (h : OwnS w B b P) (hE : Eng w eb b p a cp) (ht : HasTop P.g P.g.now) (hr : Room P.g) (v : Int) (hv : I64 v) (hc : w.cell? ⟨lb, lo, none⟩ = some (.int .i64 v)) :
  Calls Tryz.prog 74 #[.pointer (some ⟨eb, 0, none⟩), .slice (some ⟨lb, lo, none⟩) 1 lc] w fun e w' => e = .returned (.tuple #[]) ∧ Turn w w' B b P (pushG P.g P.g.now v) := by
 obtain ⟨L, y, R, F, x, hs, hn⟩ := hasSpot ht
 have hn : P.now = (L.length : Int) := hn
 have hx : x.f.stack.length < 1000 := hr y.g (by unfold PState.g; rw [hs.fs]; simp) x.f (by unfold PFiber.g; rw [hs.fr]; simp)
 refine (engPush_at h hE hs hn v hv hx hc).mono ?_
 rintro e w' ⟨rfl, ⟨v1, o1, hv1⟩, hc⟩
 exact ⟨rfl, ⟨⟨_, o1, (modTop_at hs (show P.g.now = _ from hn) rfl).symm, repl_bl hs (frame_bl hv1)⟩, chg_spot hs hc⟩⟩
theorem engPush_new {P : PState} {w : World} {B b eb : Nat} {p : List GFunc} {a : Option Addr} {cp : Nat} (h : OwnS w B b P) (hE : Eng w eb b p a cp) (ht : HasTop P.g P.g.now) (hr : Room P.g) (v : Int) (hv : I64 v) (t : TypeId) :
  Calls Tryz.prog 74 #[.pointer (some ⟨eb, 0, none⟩), .slice (some ⟨w.heap.size, 0, none⟩) 1 1] (w.alloc (.cells #[.int .i64 v] t)) fun e w' => e = .returned (.tuple #[]) ∧ Turn w w' B b P (pushG P.g P.g.now v) := by
 have he : Ext w (w.alloc (.cells #[.int .i64 v] t)) := (Ext.refl _).alloc _
 refine (engPush_any (h.ext he) (hE.ext he) ht hr v hv (by simp)).mono ?_
 rintro e w' ⟨rfl, h⟩
 exact ⟨rfl, Turn.pre he h⟩
theorem drop_two (s : GState) (ht : HasTop s s.now) (h : 2 ≤ (curX s).stack.length) : (curX s).stack.drop ((curX s).stack.length - 2) = [lastV (popG s), lastV s] := by
 obtain ⟨F, y, e⟩ := split_last (curX s).stack (by omega)
 obtain ⟨F', x, e'⟩ := split_last F (by rw [e] at h; simp at h; omega)
 subst e'
 have h1 : lastV s = y := by unfold lastV; rw [e]; exact getD_last _ _ _ _ rfl
 have h2 : lastV (popG s) = x := by
  unfold lastV
  rw [curX_pop s ht]
  show ((curX s).stack.dropLast).getD ((curX s).stack.dropLast.length - 1) 0 = x
  rw [e, List.dropLast_concat]
  exact getD_last _ _ _ _ rfl
 rw [h1, h2, e]
 simp
theorem leave_two (s : GState) : leaveG s 2 = popG (popG s) := by rw [leave_succ, leave_one]
theorem ints_two {w : World} {S : Nat → Prop} {v : Value} {x y : Int} (h : Ints w S v [x, y]) : ∃ b o c, v = .slice (some ⟨b, o, none⟩) 2 c ∧ w.cell? ⟨b, o, none⟩ = some (.int .i64 x) ∧ w.cell? ⟨b, o + 1, none⟩ = some (.int .i64 y) ∧ I64 x ∧ I64 y := by
 obtain ⟨b1, o1, c1, e, _, _, _, h0, i0⟩ := Sl.get h (i := 0) (by simp)
 obtain ⟨b2, o2, c2, e2, _, _, _, h1, i1⟩ := Sl.get h (i := 1) (by simp)
 rw [e] at e2
 simp only [Value.slice.injEq, Option.some.injEq, Addr.mk.injEq] at e2
 obtain ⟨⟨rfl, rfl, -⟩, -, rfl⟩ := e2
 simp only [Nat.zero_mul, Nat.add_zero, Nat.one_mul, List.getElem_cons_zero, List.getElem_cons_succ] at h0 h1 i0 i1
 exact ⟨b1, o1, c1, e, h0, h1, i0, i1⟩
theorem engTwo_any (kd : Int) (k : Nat) (hcf : ∀ (args : Array Value) (W : World), (callFunc k args).run Tryz.prog W = .ok (Next.enter k args) W) (hof : ∀ (x y : Int) (W : World), Calls Tryz.prog k #[.int .i64 x, .int .i64 y] W fun e W' => e = .returned (.int .i64 (reckG kd x y)) ∧ W' = W) (hI : ∀ x y, I64 (reckG kd x y)) {P : PState} {w : World} {B b eb : Nat} {p : List GFunc} {a : Option Addr} {cp : Nat}
  (h : EngS w B b eb p a cp P) (ht : HasTop P.g P.g.now) (hr : Room P.g) (hl : 2 ≤ (curX P.g).stack.length) :
  Calls Tryz.prog 77 #[.pointer (some ⟨eb, 0, none⟩), .func (.func k) #[] #[]] w fun e w' => e = .returned (.tuple #[]) ∧ Turn w w' B b P (pushG (popG (popG P.g)) P.g.now (reckG kd (lastV (popG P.g)) (lastV P.g))) := by
 have H := Lib.hid h
 have HT := Lib.hid ht
 have HL := Lib.hid hl
 have HD := Lib.hid (drop_two _ ht hl)
 have HR := Lib.hid hr
 have HOF := Lib.hid hof
 have HII := Lib.hid hI
 clear h ht hl hr hof hI
 have RA := alloc_keep
 generalize hx : lastV (popG P.g) = x at *
 generalize hy : lastV P.g = y at *
 clear hx hy
 go_enter Tryz.func77, Tryz.ntmps77
 go_upto_region 1 with (first
  | (go_at_call 75; (with_reducible refine (engPull_k H.out.own H.out.eng HT.out 2 HL.out 2 rfl).mono ?_); rintro e w2 ⟨v1, rfl, hv, t2⟩; rw [HD.out] at hv; rw [leave_two] at t2; obtain ⟨b1, o1, c1, rfl, c0, c1', _, _⟩ := ints_two hv))
 obtain ⟨P2, h2, g2, bl2, ch2⟩ := H.out.turn t2
 have H2 := Lib.hid h2
 have HT2 : Hid (HasTop P2.g P2.g.now) := by unfold Hid; rw [g2]; exact HT.out.pop.pop
 have HR2 : Hid (Room P2.g) := by unfold Hid; rw [g2]; exact HR.out.pop.pop
 clear h2 t2 hv
 refine wp_region_rtt (fun w' => w'.cell? ⟨b1, o1, none⟩ = some (.int .i64 x) ∧ w'.cell? ⟨b1, o1 + 1, none⟩ = some (.int .i64 y)) 10 [0, 1, 2, 3, 4, 5, 6, 7] [8, 9, 10] (by kernel_rfl) (by kernel_rfl) (fun _ _ _ _ _ h => h) (by exact ⟨c0, c1'⟩) ?_
 (try simp only [pickOps, List.filterMap_cons, List.filterMap_nil, List.getElem?_cons_zero, List.getElem?_cons_succ])
 repeat (
  refine readsQ_do (by rfl) ?_
  apply Exists.intro
  refine ⟨fun w' hw' => ?_, ?_⟩
  focus
   (try dsimp only at hw')
   go_split_ands
   go_simp
   (try with_reducible rfl)
  (try dsimp only [Act.put])
  (try simp only [List.setIfInBounds_toArray, List.set_cons_succ, List.set_cons_zero]))
 refine readsQ_nil ?_
 refine tailW_step ?_
 go_wp2_with (first
  | ((with_reducible refine (HOF.out x y _).mono ?_); rintro e w3 ⟨rfl, rfl⟩))
 refine nextW_go (by exact ⟨c0, c1'⟩) ?_
 refine tailW_step ?_
 go_wp2_with fail
 refine nextW_go (by constructor <;> simp [*]) ?_
 refine tailW_step ?_
 go_wp2_with (first
  | (go_at_call 74; (with_reducible refine (engPush_any (H2.out.own.ext (by ((repeat (first | assumption | exact Ext.refl _ | (exact And.left (by assumption)) | refine Ext.alloc ?_ _ | refine Ext.drew ?_ | refine Ext.drewN ?_ _ | refine Ext.setCell ?_ (by simp) _ | refine Ext.setCell ?_ (by simp; omega) _ | refine Ext.trans ?_ (by assumption))); done))) (H2.out.eng.ext (by ((repeat (first | assumption | exact Ext.refl _ | (exact And.left (by assumption)) | refine Ext.alloc ?_ _ | refine Ext.drew ?_ | refine Ext.drewN ?_ _ | refine Ext.setCell ?_ (by simp) _ | refine Ext.setCell ?_ (by simp; omega) _ | refine Ext.trans ?_ (by assumption))); done))) HT2.out HR2.out _ (HII.out x y) (by simp)).mono ?_); rintro e w4 ⟨rfl, t4⟩))
 refine nextW_end ?_
 go_end0
 rw [g2] at t4
 exact ⟨rfl, Turn.step ch2 bl2 (Turn.pre (show Ext w2 (w2.alloc (.cells #[.int .i64 (reckG kd x y)] 3)).drew by ((repeat (first | assumption | exact Ext.refl _ | (exact And.left (by assumption)) | refine Ext.alloc ?_ _ | refine Ext.drew ?_ | refine Ext.drewN ?_ _ | refine Ext.setCell ?_ (by simp) _ | refine Ext.setCell ?_ (by simp; omega) _ | refine Ext.trans ?_ (by assumption))); done)) t4)⟩
theorem clos4 (x y : Int) (W : World) : Calls Tryz.prog 78 #[.int .i64 x, .int .i64 y] W fun e W' => e = .returned (.int .i64 (reckG 4 x y)) ∧ W' = W := by
 go_enter Tryz.func78, Tryz.ntmps78
 go_wp2_with fail
 go_ret
 exact ⟨rfl, rfl⟩
theorem clos5 (x y : Int) (W : World) : Calls Tryz.prog 79 #[.int .i64 x, .int .i64 y] W fun e W' => e = .returned (.int .i64 (reckG 5 x y)) ∧ W' = W := by
 go_enter Tryz.func79, Tryz.ntmps79
 go_wp2_with fail
 go_ret
 exact ⟨rfl, rfl⟩
theorem clos6 (x y : Int) (W : World) : Calls Tryz.prog 80 #[.int .i64 x, .int .i64 y] W fun e W' => e = .returned (.int .i64 (reckG 6 x y)) ∧ W' = W := by
 go_enter Tryz.func80, Tryz.ntmps80
 go_wp2_with fail
 go_ret
 exact ⟨rfl, rfl⟩
theorem stepTruth_any (t : Bool) (w : World) : Calls Tryz.prog 82 #[.bool t] w fun e w' => e = .returned (.int .i64 (truthG t)) ∧ w' = w := by
 cases t with
 | true =>
  go_enter Tryz.func82, Tryz.ntmps82
  go_wp2_with fail
  go_ret
  exact ⟨rfl, rfl⟩
 | false =>
  go_enter Tryz.func82, Tryz.ntmps82
  go_wp2_with fail
  go_ret
  exact ⟨rfl, rfl⟩
theorem clos7 (x y : Int) (W : World) : Calls Tryz.prog 81 #[.int .i64 x, .int .i64 y] W fun e W' => e = .returned (.int .i64 (reckG 7 x y)) ∧ W' = W := by
 go_enter Tryz.func81, Tryz.ntmps81
 go_wp2_with (first
  | (go_at_call 82; refine (stepTruth_any _ _).mono ?_; rintro e w2 ⟨rfl, rfl⟩))
 go_ret
 exact ⟨rfl, rfl⟩
theorem clos8 (x y : Int) (W : World) : Calls Tryz.prog 83 #[.int .i64 x, .int .i64 y] W fun e W' => e = .returned (.int .i64 (reckG 8 x y)) ∧ W' = W := by
 go_enter Tryz.func83, Tryz.ntmps83
 go_wp2_with (first
  | (go_at_call 82; refine (stepTruth_any _ _).mono ?_; rintro e w2 ⟨rfl, rfl⟩))
 go_ret
 exact ⟨by show Ending.returned (Value.int .i64 (truthG (x == y))) = .returned (.int .i64 (truthG (decide (x = y)))); rw [beq_dec], rfl⟩
theorem engPut_any {P : PState} {w : World} {B b eb : Nat} {p : List GFunc} {a : Option Addr} {cp : Nat} (h : EngS w B b eb p a cp P) (hl : P.g.out.length ≤ 30) (v : Int) (hv : I64 v) :
  Calls Tryz.prog 110 #[.pointer (some ⟨eb, 0, none⟩), .int .i64 v] w fun e w' => e = endS (putG P.g v).1 ∧ Did w w' B b P (putG P.g v) := by
 have hl' : P.out.length ≤ 30 := hl
 obtain ⟨ao, co, eo, hco, hmo⟩ := h.own.out.shape
 have HRO : Hid (RowAt w B 1 (.slice ao P.out.length co) P.out.length (ints P.out)) := by unfold Hid; rw [← eo]; exact h.own.out
 obtain ⟨c2, c2'⟩ := h.own.c2
 rw [eo] at c2
 obtain ⟨⟨x0, x0'⟩, -⟩ := h.eng
 have HEO := Lib.hid eo
 have H := Lib.hid h
 have HB : Hid (B ≤ w.heap.size) := Nat.le_trans h.own.le (Nat.le_of_lt h.own.c0.lt)
 have HBO : Hid (∀ k, rowBlock (.slice ao P.out.length co) = some k → k ≠ b ∧ k ≠ eb) := by
  unfold Hid; rw [← eo]
  exact fun k e => ⟨fun e' => h.own.dis.1 (PState.mem_vo (e' ▸ e)), fun e' => h.off (List.mem_cons_of_mem _ (PState.mem_vo (e' ▸ e)))⟩
 obtain ⟨i0, hi0, hz0, hz1, hz2⟩ := info_parts infoI
 have RA := alloc_keep
 by_cases h30 : P.out.length = 30
 ·have HG : Hid (putG P.g v = (2, P.g)) := by unfold Hid putG; rw [if_pos (show P.g.out.length = 30 from h30)]
  rw [HG.out]
  have T : decide (((P.out.length : Nat) : Int) < 30) = false := decide_eq_false (by omega)
  clear h eo h30 hl hl' hco hmo
  generalize P.out.length = m at *
  go_enter Tryz.func110, Tryz.ntmps110
  go_wp2_with (first
   | (go_at_call 123; (with_reducible refine (stepMust_any _ _ _).mono ?_); rintro e w2 ⟨he, rfl⟩; simp only [mustS] at he; subst he))
  exact ⟨rfl, rfl, ⟨Chg.refl _ _, fun h => by cases h⟩⟩
 ·have HG : Hid (putG P.g v = (0, { P.g with out := P.g.out ++ [v] })) := by unfold Hid putG; rw [if_neg (show ¬ P.g.out.length = 30 from h30)]
  rw [HG.out]
  have T : decide (((P.out.length : Nat) : Int) < 30) = true := decide_eq_true (by omega)
  clear h eo h30 hl hco hmo
  go_enter Tryz.func110, Tryz.ntmps110
  go_upto_region 1 with (first
   | (go_at_call 123; (with_reducible refine (stepMust_any _ _ _).mono ?_); rintro e w2 ⟨he, rfl⟩; simp only [mustS] at he; subst he))
  refine wp_region_rt (fun w' => w'.cell? ⟨eb, 0, none⟩ = some (.pointer (some ⟨b, 0, none⟩)) ∧ w'.cell? ⟨b, 2, none⟩ = some (.slice ao P.out.length co)) 16 [0, 1, 2, 3, 4, 5, 6, 7, 8, 9, 10, 11] [12, 13, 14, 15, 16] (by kernel_rfl) (by kernel_rfl) (fun _ _ _ _ _ h => h) (by refine ⟨?_, ?_⟩ <;> simpa) ?_
  (try simp only [pickOps, List.filterMap_cons, List.filterMap_nil, List.getElem?_cons_zero, List.getElem?_cons_succ])
  repeat (
   refine readsQ_do (by rfl) ?_
   apply Exists.intro
   refine ⟨fun w' hw' => ?_, ?_⟩
   focus
    (try dsimp only at hw')
    go_split_ands
    go_simp
    (try with_reducible rfl)
   (try dsimp only [Act.put])
   (try simp only [List.setIfInBounds_toArray, List.set_cons_succ, List.set_cons_zero]))
  refine readsQ_nil ?_
  refine tailW_step ?_
  go_wp2_with fail
  have RX := Lib.hid (show Ext w2 w2.drew from (Ext.refl _).drew)
  refine nextW_go (by constructor <;> simp [*]) ?_
  refine tailW_step ?_
  go_wp2_with (first
   | (at_builtin; refine wpList_append_row rfl _ _ 24 rfl B 3 i0 (.int .i64 0) 1 8 Tryz.underlying24 hi0 hz0 hz1 hz2 rfl (by decide) _ _ _ rfl (by exact (HRO.out.ext (by ((repeat (first | assumption | exact Ext.refl _ | (exact And.left (by assumption)) | refine Ext.alloc ?_ _ | refine Ext.drew ?_ | refine Ext.drewN ?_ _ | refine Ext.setCell ?_ (by simp) _ | refine Ext.setCell ?_ (by simp; omega) _ | refine Ext.trans ?_ (by assumption))); done)) (by decide))) 1 (ints [v]) (src_one _ _ _) (by unfold maxLen; omega) (by omega) (by exact Nat.le_trans HB.out (Ext.size (show Ext w2 _ by ((repeat (first | assumption | exact Ext.refl _ | (exact And.left (by assumption)) | refine Ext.alloc ?_ _ | refine Ext.drew ?_ | refine Ext.drewN ?_ _ | refine Ext.setCell ?_ (by simp) _ | refine Ext.setCell ?_ (by simp; omega) _ | refine Ext.trans ?_ (by assumption))); done)))) ?_; intro v1 Wv1 rv1; have RV := Lib.hid rv1; obtain ⟨a9, cap9, rfl, _, _⟩ := rv1.1.shape; clear rv1))
  have hRV : NewRow (w2.alloc (.cells #[.int .i64 v] 3)).drew Wv1 B 1 (.slice ao P.out.length co) (.slice a9 (P.out.length + 1) cap9) (P.out.length + 1) (ints P.out ++ ints [v]) := RV.out
  have hA : Ext w2 (w2.alloc (.cells #[.int .i64 v] 3)).drew := by ((repeat (first | assumption | exact Ext.refl _ | (exact And.left (by assumption)) | refine Ext.alloc ?_ _ | refine Ext.drew ?_ | refine Ext.drewN ?_ _ | refine Ext.setCell ?_ (by simp) _ | refine Ext.setCell ?_ (by simp; omega) _ | refine Ext.trans ?_ (by assumption))); done)
  obtain ⟨k0, k0'⟩ := (Cx.ext (W := w2) ⟨c2, c2'⟩ hA).chg hRV.2.1 (fun e => (HBO.out b e).1 rfl)
  obtain ⟨k1, k1'⟩ := (Cx.ext (W := w2) ⟨x0, x0'⟩ hA).chg hRV.2.1 (fun e => (HBO.out eb e).2 rfl)
  refine nextW_go (by exact ⟨k1, k0⟩) ?_
  refine tailW_step ?_
  go_wp2_with fail
  refine nextW_go (by exact ⟨k1, k0⟩) ?_
  refine tailW_step ?_
  go_wp2_with fail
  refine nextW_go (by exact ⟨k1, k0⟩) ?_
  refine tailW_step ?_
  go_wp2_with fail
  refine nextW_end ?_
  go_end0
  obtain ⟨r1, r2, r3⟩ := hRV
  have hfin := H.out.own.setOut (W1 := Wv1) (out := P.out ++ [v]) (v1 := .slice a9 (P.out.length + 1) cap9)
   ((Chg.of_ext hA).trans (r2.mono (fun k _ e => by rw [HEO.out]; exact e)))
   (by rw [List.length_append, List.length_singleton, ints_app]; exact r1) (fun k hk => by rcases List.mem_append.1 hk with h1 | h1; exact H.out.own.i.2 k h1; rw [List.mem_singleton.1 h1]; exact hv)
   (by rw [List.length_append, List.length_singleton]; omega) (r3.imp (fun e => by rw [HEO.out]; exact e) (fun e k hk => Nat.le_trans hA.size (e k hk)))
  refine ⟨rfl, Did.of ⟨⟨_, hfin.1, rfl, fun g hg => ?_⟩, hfin.2⟩⟩
  unfold PState.bl at hg
  rcases List.mem_append.1 hg with h1 | h1
  ·rcases List.mem_append.1 h1 with h2 | h2
   ·exact .inl (PState.mem_vfs (by simpa using h2))
   ·have h3 : rowBlock (.slice a9 (P.out.length + 1) cap9) = some g := by simpa using h2
    rcases r3 with e | e
    ·exact .inl (PState.mem_vo (by rw [HEO.out, ← e]; exact h3))
    ·exact .inr (Nat.le_trans hA.size (e g h3))
  ·obtain ⟨z, hz, h2⟩ := List.mem_flatMap.1 h1
   exact .inl (PState.mem_fs hz h2)
theorem engBack_any {P : PState} {w : World} {B b eb : Nat} {p : List GFunc} {a : Option Addr} {cp : Nat} (h : EngS w B b eb p a cp P) (ht : 0 ≤ P.g.now ∧ P.g.now < P.g.fibers.length) (hr : Room P.g) (hc : HasTop { modFib P.g P.g.now (fun f => { f with caller := -1 }) with now := (curF P.g).caller } (curF P.g).caller) (v : Int) (hv : I64 v) :
    Calls Tryz.prog 124 #[.pointer (some ⟨eb, 0, none⟩), .int .i64 v] w fun e w' => e = .returned (.tuple #[]) ∧ Turn w w' B b P (backG P.g v) := by
  obtain ⟨L, y, R, hP, hn⟩ := hasFib (P := P) (n := P.now) ⟨ht.1, by have := ht.2; simpa [PState.g] using this⟩
  have hcur : (curF P.g).caller = y.caller := by rw [curF_at hP hn]; rfl
  rw [hcur] at hc
  obtain ⟨g, o, cap, hvf, hlt, d0, ⟨d1, d1'⟩, hbl⟩ := h.own.place hP
  obtain ⟨⟨c0, c0'⟩, ⟨k1, k1'⟩⟩ := (⟨h.own.c0, h.own.c1⟩ : _ ∧ _)
  obtain ⟨⟨x0, x0'⟩, -⟩ := h.eng
  rw [hvf] at c0
  rw [hn] at k1
  have hgb : ¬ g = b := fun e => h.own.dis.1 (e ▸ PState.mem_vfs hbl)
  have hge : ¬ eb = g := fun e => h.off (List.mem_cons_of_mem _ (e ▸ PState.mem_vfs hbl))
  have hbe : ¬ eb = b := fun e => h.off (by rw [e]; exact List.mem_cons_self)
  have hbg : ¬ b = g := fun e => hgb e.symm
  have H := Lib.hid h
  have HP := Lib.hid hP
  have HNW := Lib.hid hn
  have HVF := Lib.hid hvf
  have HC := Lib.hid hc
  have HR := Lib.hid hr
  have HCU := Lib.hid hcur
  clear h d0 hcur hc hr ht hn hP hvf
  have RA := alloc_keep
  generalize hL : L.length = n at *
  generalize hcl : y.caller = cl at *
  have HL := Lib.hid hL
  have HCL := Lib.hid hcl
  clear hL hcl
  go_enter Tryz.func124, Tryz.ntmps124
  go_upto_region 0 with fail
  refine wp_region_ext (by kernel_rfl) (by kernel_rfl) ?_
  repeat (first
    | go_big_quiet_skip
    | (go_big_quiet_want
       unfold Oper.quiet
       apply Exists.intro
       refine ⟨fun w' hw' => ?_, ?_⟩
       focus
         have hcq := Ext.keep hw'
         go_simp
         first
           | with_reducible rfl
       (try dsimp only [Act.put])
       (try simp only [List.setIfInBounds_toArray, List.set_cons_succ, List.set_cons_zero])
       go_big_quiet_on))
  refine wpQuiet_nil ?_
  intro wq hq
  obtain ⟨d1, d1'⟩ := Cx.ext (W := w) ⟨d1, d1'⟩ hq
  obtain ⟨k1, k1'⟩ := Cx.ext (W := w) ⟨k1, k1'⟩ hq
  obtain ⟨x0, x0'⟩ := Cx.ext (W := w) ⟨x0, x0'⟩ hq
  have HQ := Lib.hid hq
  clear hq
  go_upto_region 1 with fail
  refine wp_region_rt (fun w' => w'.cell? ⟨eb, 0, none⟩ = some (.pointer (some ⟨b, 0, none⟩)) ∧ w'.cell? ⟨g, o + n * 2 + 1, none⟩ = some (.int .i64 cl)) 14 [0, 1, 2, 3, 4, 5, 6, 7, 8, 9, 10] [11, 12, 13, 14] (by kernel_rfl) (by kernel_rfl) (fun _ _ _ _ _ h => h) (by exact ⟨x0, d1⟩) ?_
  (try simp only [pickOps, List.filterMap_cons, List.filterMap_nil, List.getElem?_cons_zero, List.getElem?_cons_succ])
  repeat (
    refine readsQ_do (by rfl) ?_
    apply Exists.intro
    refine ⟨fun w' hw' => ?_, ?_⟩
    focus
      (try dsimp only at hw')
      go_split_ands
      go_simp
      (try with_reducible rfl)
    (try dsimp only [Act.put])
    (try simp only [List.setIfInBounds_toArray, List.set_cons_succ, List.set_cons_zero]))
  refine readsQ_nil ?_
  refine tailW_step ?_
  go_wp2_with fail
  have e0 := (Cx.other (W := wq.drew) ⟨x0, x0'⟩ (b' := b) (j' := 1) (.inl hbe) (.int .i64 cl)).1
  have e1 := (Cx.other (W := wq.drew) ⟨d1, d1'⟩ (b' := b) (j' := 1) (.inl hgb) (.int .i64 cl)).1
  refine nextW_go (by exact ⟨e0, e1⟩) ?_
  refine tailW_step ?_
  go_wp2_with fail
  refine nextW_go (by exact ⟨e0, e1⟩) ?_
  refine tailW_step ?_
  go_wp2_with fail
  refine nextW_go (by exact ⟨e0, e1⟩) ?_
  refine tailW_step ?_
  go_wp2_with fail
  refine nextW_end ?_
  have hEq := HQ.out
  obtain ⟨P1, o1, g1, b1, ch1⟩ := (H.out.ext hEq).own.back HP.out (by rw [HL.out]; exact HNW.out) HVF.out
  rw [HL.out, HCL.out] at o1 ch1
  rw [HCL.out] at g1
  have hb1 : ∀ k ∈ P1.bl, k ∈ P.bl ∨ wq.heap.size ≤ k := fun k hk => .inl ((b1 k).1 hk)
  have HE1 := Lib.hid ((H.out.ext hEq).with ch1 o1 hb1)
  have CH1 := Lib.hid ((Chg.of_ext hEq).trans ch1)
  have HT1 : Hid (HasTop P1.g P1.g.now) := by unfold Hid; rw [g1]; exact HC.out
  have HR1 : Hid (Room P1.g) := by unfold Hid; rw [g1]; exact HR.out.caller _ _
  have HG : Hid (backG P.g v = pushG P1.g P1.g.now v) := by unfold Hid backG; rw [g1, HCU.out]
  have HB1 : Hid (∀ k ∈ P1.bl, k ∈ P.bl ∨ w.heap.size ≤ k) := fun k hk => .inl ((b1 k).1 hk)
  clear ch1 o1 g1 hb1
  obtain ⟨W0, hW0⟩ : ∃ W0, W0 = (wq.setCell ⟨b, 1, none⟩ (.int .i64 cl)).setCell ⟨g, o + n * 2 + 1, none⟩ (.int .i64 (-1)) := ⟨_, rfl⟩
  rw [← hW0] at HE1 CH1
  simp only [← hW0]
  clear hW0
  go_wp2_with (first
    | (go_at_call 74; (with_reducible refine (engPush_any (HE1.out.own.ext (by ((repeat (first | assumption | exact Ext.refl _ | (exact And.left (by assumption)) | refine Ext.alloc ?_ _ | refine Ext.drew ?_ | refine Ext.drewN ?_ _ | refine Ext.setCell ?_ (by simp) _ | refine Ext.setCell ?_ (by simp; omega) _ | refine Ext.trans ?_ (by assumption))); done))) (HE1.out.eng.ext (by ((repeat (first | assumption | exact Ext.refl _ | (exact And.left (by assumption)) | refine Ext.alloc ?_ _ | refine Ext.drew ?_ | refine Ext.drewN ?_ _ | refine Ext.setCell ?_ (by simp) _ | refine Ext.setCell ?_ (by simp; omega) _ | refine Ext.trans ?_ (by assumption))); done))) HT1.out HR1.out v hv (by simp)).mono ?_); rintro e w4 ⟨rfl, t4⟩))
  go_end0
  rw [HG.out]
  exact ⟨rfl, Turn.step CH1.out HB1.out (Turn.pre (show Ext W0 (W0.alloc (.cells #[.int .i64 v] 3)).drew by ((repeat (first | assumption | exact Ext.refl _ | (exact And.left (by assumption)) | refine Ext.alloc ?_ _ | refine Ext.drew ?_ | refine Ext.drewN ?_ _ | refine Ext.setCell ?_ (by simp) _ | refine Ext.setCell ?_ (by simp; omega) _ | refine Ext.trans ?_ (by assumption))); done)) t4)⟩
theorem engYield_any {P : PState} {w : World} {B b eb : Nat} {p : List GFunc} {a : Option Addr} {cp : Nat} (h : EngS w B b eb p a cp P) (ht : HasTop P.g P.g.now) (hr : Room P.g) (hl : 1 ≤ (curX P.g).stack.length) (hb : BackFit (popG P.g)) :
    Calls Tryz.prog 109 #[.pointer (some ⟨eb, 0, none⟩)] w fun e w' => e = endS (yieldG P.g).1 ∧ Did w w' B b P (yieldG P.g) := by
  have hLI := h.own.lastI ht hl
  have H := Lib.hid h
  have HT := Lib.hid ht
  have HL := Lib.hid hl
  clear h
  have RA := alloc_keep
  generalize hv : lastV P.g = v at *
  have HV := Lib.hid hv
  go_enter Tryz.func109, Tryz.ntmps109
  go_upto_region 1 with (first
    | (go_at_call 76; (with_reducible refine (engOne_any H.out.own H.out.eng HT.out HL.out).mono ?_); rintro e w2 ⟨rfl, t2⟩; rw [HV.out]))
  clear hv
  obtain ⟨P1, h1, g1, s1, c1⟩ := H.out.turn t2
  have hr1 : Room P1.g := by rw [g1]; exact hr.pop
  have ht1 : HasTop P1.g P1.g.now := by rw [g1]; exact ht.pop
  rw [← g1] at hb
  have HY : Hid (yieldG P.g = if (curF P1.g).caller < 0 then (7, P.g) else (0, backG P1.g v)) := by unfold Hid yieldG; rw [← g1, HV.out]
  obtain ⟨L, y, R, F, x, hs, hn⟩ := hasSpot ht1
  have hn : P1.now = L.length := hn
  have hP := hs.fs
  have hcur : (curF P1.g).caller = y.caller := by rw [curF_at hP hn]; rfl
  rw [hcur] at HY
  obtain ⟨g, o, cap, hvf, hlt, d0, ⟨d1, d1'⟩, hbl⟩ := h1.own.place hP
  obtain ⟨⟨c0, c0'⟩, ⟨k1, k1'⟩⟩ := (⟨h1.own.c0, h1.own.c1⟩ : _ ∧ _)
  obtain ⟨⟨x0, x0'⟩, -⟩ := h1.eng
  rw [hn] at k1
  rw [hvf] at c0
  have H1 := Lib.hid h1
  have HB := Lib.hid hb
  have HC1 := Lib.hid c1
  have HS1 := Lib.hid s1
  have HR1 := Lib.hid hr1
  have HT1 := Lib.hid ht1
  have HCU := Lib.hid hcur
  clear hcur hvf hb hP hn hs ht1 h1 c1 s1 hr1 d0 hbl g1 hr ht hl HT HL t2
  generalize L.length = n at *
  generalize hcl : y.caller = cl at *
  have HCL := Lib.hid hcl
  clear hcl
  by_cases hc : cl < 0
  · have T : decide (0 ≤ cl) = false := decide_eq_false (by omega)
    have HYE : Hid (yieldG P.g = (7, P.g)) := by unfold Hid; rw [HY.out, if_pos hc]
    clear hc
    refine wp_region_ext_tail 18 (by kernel_rfl) (by kernel_rfl) ?_
    simp only [List.take_succ_cons, List.take_zero, List.drop_succ_cons, List.drop_zero]
    repeat (first
      | go_big_quiet_skip
      | (go_big_quiet_want
         unfold Oper.quiet
         apply Exists.intro
         refine ⟨fun w' hw' => ?_, ?_⟩
         focus
           have hcq := Ext.keep hw'
           go_simp
           first
             | with_reducible rfl
         (try dsimp only [Act.put])
         (try simp only [List.setIfInBounds_toArray, List.set_cons_succ, List.set_cons_zero])
         go_big_quiet_on))
    refine wpQuiet_nil ?_
    intro wq hq
    go_wp2_with (first
      | (go_at_call 123; (with_reducible refine (stepMust_any _ _ _).mono ?_); rintro e w3 ⟨he, rfl⟩; simp only [mustS] at he; subst he))
    rw [HYE.out]
    exact ⟨rfl, rfl, ⟨HC1.out.trans (Chg.of_ext hq), fun h => by cases h⟩⟩
  · have T : decide (0 ≤ cl) = true := decide_eq_true (by omega)
    have HYE : Hid (yieldG P.g = (0, backG P1.g v)) := by unfold Hid; rw [HY.out, if_neg hc]
    have hbf := HB.out.resolve_left (by rw [HCU.out]; exact hc)
    have HBF := Lib.hid hbf
    have HTF : Hid (0 ≤ P1.g.now ∧ P1.g.now < P1.g.fibers.length) := ⟨HT1.out.1, HT1.out.2.1⟩
    clear hc hbf
    refine wp_region_ext_tail 18 (by kernel_rfl) (by kernel_rfl) ?_
    simp only [List.take_succ_cons, List.take_zero, List.drop_succ_cons, List.drop_zero]
    repeat (first
      | go_big_quiet_skip
      | (go_big_quiet_want
         unfold Oper.quiet
         apply Exists.intro
         refine ⟨fun w' hw' => ?_, ?_⟩
         focus
           have hcq := Ext.keep hw'
           go_simp
           first
             | with_reducible rfl
         (try dsimp only [Act.put])
         (try simp only [List.setIfInBounds_toArray, List.set_cons_succ, List.set_cons_zero])
         go_big_quiet_on))
    refine wpQuiet_nil ?_
    intro wq hq
    have H2 := Lib.hid (H1.out.ext hq)
    go_wp2_with (first
      | (go_at_call 123; (with_reducible refine (stepMust_any _ _ _).mono ?_); rintro e w3 ⟨he, rfl⟩; simp only [mustS] at he; subst he)
      | (go_at_call 124; (with_reducible refine (engBack_any H2.out HTF.out HR1.out HBF.out v hLI).mono ?_); rintro e w4 ⟨rfl, t4⟩))
    go_end0
    rw [HYE.out]
    exact ⟨rfl, Did.of (Turn.step (HC1.out.trans (Chg.of_ext hq)) HS1.out t4)⟩
end Go.Proofs.YtgahbngbpfilgaaGreat
end
section
set_option maxHeartbeats 4000000
set_option maxRecDepth 100000
namespace Go.Proofs.YtgahbngbpfilgaaGreat
open Go Go.RowKit
structure CallI (w wr : World) (B b : Nat) (P : PState) (p : List GFunc) (a : Int) (bx gl N j : Nat) (P' : PState) : Prop where
 own : OwnS wr B b P'
 g : P'.g = leaveG P.g j
 bl : ∀ k ∈ P'.bl, k ∈ P.bl ∨ w.heap.size ≤ k
 chg : Chg (· ∈ b :: P.bl) w wr
 nb : bx ∉ b :: P'.bl
 nl : gl ∉ b :: P'.bl
 row : RowAt wr w.heap.size 1 (.slice (some ⟨gl, 0, none⟩) N N) N (ints (argsOf p P.g a j))
 c0 : Cx wr bx 0 (.int .i64 a)
 c1 : Cx wr bx 1 (.int .i64 0)
 c2 : Cx wr bx 2 (.slice (some ⟨gl, 0, none⟩) N N)
 c3 : Cx wr bx 3 (.slice none 0 0)
theorem CallI.ext {w wr wr' : World} {B b : Nat} {P P' : PState} {p : List GFunc} {a : Int} {bx gl N j : Nat} (h : CallI w wr B b P p a bx gl N j P') (he : Ext wr wr') : CallI w wr' B b P p a bx gl N j P' :=
 ⟨h.own.ext he, h.g, h.bl, h.chg.trans (Chg.of_ext he), h.nb, h.nl, h.row.ext he (by decide), h.c0.ext he, h.c1.ext he, h.c2.ext he, h.c3.ext he⟩
theorem CallI.cell {w wr : World} {B b : Nat} {P P' : PState} {p : List GFunc} {a : Int} {bx gl N j : Nat} (h : CallI w wr B b P p a bx gl N j P') {r : Nat} (hr : r < N) (hN : N = (argsOf p P.g a j).length) : ∃ u, Cx wr gl r u := by
 obtain ⟨g, o, e, _, hc⟩ := h.row.cell (by omega)
 simp only [Option.some.injEq, Addr.mk.injEq] at e
 obtain ⟨rfl, rfl, -⟩ := e
 have := hc r (by omega)
 rw [ints_get _ _ (by omega), Nat.zero_add] at this
 exact ⟨_, this⟩
theorem CallI.pull {w wr wr' : World} {B b : Nat} {P P' : PState} {p : List GFunc} {a : Int} {bx gl N j r : Nat} (h : CallI w wr B b P p a bx gl N j P') (ht : HasTop P.g P.g.now) (hgl : w.heap.size ≤ gl) (hne : gl ≠ bx)
  (hj : j < (funcOf p a).args.toNat) (hl : j < (curX P.g).stack.length) (hr : (funcOf p a).args.toNat - j - 1 = r) (hN : r < N) (hNN : N = (argsOf p P.g a j).length) (t : Turn wr wr' B b P' (popG P'.g)) :
  ∃ P'', CallI w (wr'.setCell ⟨gl, r, none⟩ (.int .i64 (lastV P'.g))) B b P p a bx gl N (j + 1) P'' := by
 have hlg : gl < wr.heap.size := by
  obtain ⟨g, o, e, _, hc⟩ := h.row.cell (by omega)
  simp only [Option.some.injEq, Addr.mk.injEq] at e
  obtain ⟨rfl, rfl, -⟩ := e
  have := (hc 0 (by omega)).1
  rw [ints_get _ _ (by omega)] at this
  exact lt_of_cell this
 have hlb := h.c0.lt
 have hNM : ∀ k, k ∉ b :: P'.bl → ¬ (k ∈ b :: P'.bl) := fun k h => h
 obtain ⟨⟨P'', o, e, hs⟩, hc⟩ := t
 have nsub : ∀ k, k < wr.heap.size → k ∉ b :: P'.bl → k ∉ b :: P''.bl := fun k hk hn hm => by
  rcases List.mem_cons.1 hm with rfl | h1
  ·exact hn List.mem_cons_self
  ·rcases hs k h1 with h2 | h2
   ·exact hn (List.mem_cons_of_mem _ h2)
   ·omega
 have hnl := nsub gl hlg h.nl
 have hnb := nsub bx hlb h.nb
 have hC := chg_one wr' gl r (.int .i64 (lastV P'.g))
 have hrow : RowAt wr' w.heap.size 1 (.slice (some ⟨gl, 0, none⟩) N N) N (ints (argsOf p P.g a j)) := h.row.chg hc (fun k hk e => by
  have : k = gl := by
   by_cases h0 : N = 0
   ·omega
   ·rw [rowBlock_some _ _ _ _ h0] at hk; cases hk; rfl
  subst this; exact h.nl e) (by decide)
 refine ⟨P'', o.chg hC (fun e => hnl (by rw [show b = gl from e]; exact List.mem_cons_self)) (fun k hk e => hnl (by rw [← show k = gl from e]; exact List.mem_cons_of_mem _ hk)), ?_, fun k hk => ?_, ?_, hnb, hnl, ?_, ?_, ?_, ?_, ?_⟩
 ·rw [e, h.g, ← leave_succ]
 ·rcases hs k hk with h1 | h1
  ·exact h.bl k h1
  ·exact .inr (Nat.le_trans h.chg.size h1)
 ·refine (h.chg.trans' hc fun n hn hm => ?_).setCell (p := ⟨gl, r, none⟩) (.inr hgl) _
  rcases List.mem_cons.1 hm with rfl | h1
  ·exact List.mem_cons_self
  ·rcases h.bl n h1 with h2 | h2
   ·exact List.mem_cons_of_mem _ h2
   ·omega
 ·rw [← argsOf_succ p P.g ht a j hj hl, hr, ← ints_set, ← h.g]
  have h9 := hrow.store (j := r) (by omega) (.int .i64 (lastV P'.g))
  rwa [Nat.zero_add] at h9
 ·exact (h.c0.chg hc h.nb).other (.inl (Ne.symm hne)) _
 ·exact (h.c1.chg hc h.nb).other (.inl (Ne.symm hne)) _
 ·exact (h.c2.chg hc h.nb).other (.inl (Ne.symm hne)) _
 ·exact (h.c3.chg hc h.nb).other (.inl (Ne.symm hne)) _
theorem cell_other {W : World} {bx g j : Nat} {u : Value} (h : W.cell? ⟨bx, 2, none⟩ = some u) (hne : bx ≠ g) (v : Value) : (W.setCell ⟨g, j, none⟩ v).cell? ⟨bx, 2, none⟩ = some u := by
 rw [World.cell?_setCell_other (a := ⟨g, j, none⟩) (b := ⟨bx, 2, none⟩) (h := by intro e; simp only [Addr.mk.injEq] at e; omega)]; exact h
theorem src_drew {w : World} {size : Nat} {x : Value} {m : Nat} {news : List Value} (h : SrcSl w size x m news) : SrcSl w.drew size x m news := h
theorem call_fin {w wq Wm Wv : World} {B b : Nat} {P P' : PState} {p : List GFunc} {n : Int} {bx gl N j : Nat} {L R : List PFiber} {y : PFiber} {F : List PFrame} {x : PFrame} {g o nn cap : Nat} {v1 : Value} (h : CallI w wq B b P p n bx gl N j P')
  (hs : Spot P' L y R F x) (hnw : P'.now = L.length) (hv : P'.vfs = .slice (some ⟨g, o, none⟩) nn cap) (hRV : NewRow Wm Wv B 4 y.vf v1 (y.fr.length + 1) (y.fr.flatMap frameF ++ [.int .i64 n, .int .i64 0, .slice (some ⟨gl, 0, none⟩) N N, .slice none 0 0]))
  (hE : Ext wq Wm) (h9 : y.fr.length < 1000) (hgl : w.heap.size = gl) (hB : B ≤ gl) (hlt : 0 < N → gl < bx) (hI : I64 n) (hA : ∀ k ∈ argsOf p P.g n j, I64 k) (hlen : (argsOf p P.g n j).length = N) (hN : N ≤ 1000) :
  Did w (Wv.setCell ⟨g, o + L.length * 2, none⟩ v1) B b P (0, modFib (leaveG P.g j) P.g.now fun f => { f with frames := f.frames ++ [⟨n, 0, argsOf p P.g n j, []⟩] }) := by
 obtain ⟨r1, r2, r3⟩ := hRV
 have hym : y ∈ P'.fs := by rw [hs.fs]; simp
 have hyb : ∀ k, rowBlock y.vf = some k → k ∈ P'.bl := fun k hk => PState.mem_fs hym (by unfold PFiber.bl; simp [hk])
 have hvb : ∀ k, rowBlock (.slice (some ⟨gl, 0, none⟩) N N) = some k → k = gl ∧ 0 < N := fun k hk => by
  by_cases h0 : N = 0
  ·subst h0; simp [rowBlock] at hk
  ·rw [rowBlock_some _ _ _ _ h0] at hk; cases hk; exact ⟨rfl, by omega⟩
 let X : PFrame := ⟨⟨n, 0, argsOf p P.g n j, []⟩, .slice (some ⟨gl, 0, none⟩) N N, .slice none 0 0⟩
 have hXbl : ∀ k ∈ X.bl, k = gl ∧ 0 < N := fun k hk => by
  unfold PFrame.bl at hk
  rcases List.mem_append.1 hk with h1 | h1
  ·exact hvb k (by simpa using h1)
  ·simp [X, rowBlock] at h1
 have hlg : 0 < N → gl < wq.heap.size := fun h0 => Nat.lt_trans (hlt h0) h.c0.lt
 have hXO : FrameO Wv B X := by
  refine ⟨⟨hI, I64.zero, hA, fun k hk => by cases hk⟩, ?_, RowAt.nil _ _ _ _, ⟨by show (argsOf p P.g n j).length ≤ 1000; omega, by show 0 ≤ 1000; omega⟩⟩
  show RowAt Wv B 1 (.slice (some ⟨gl, 0, none⟩) N N) (argsOf p P.g n j).length (ints (argsOf p P.g n j))
  rw [hlen]
  refine ((h.row.mono (by omega)).ext hE (by decide)).chg r2 (fun k hk e => ?_) (by decide)
  obtain ⟨rfl, _⟩ := hvb k hk
  exact h.nl (List.mem_cons_of_mem _ (hyb _ e))
 have hcg : Chg (fun k => rowBlock y.vf = some k) wq Wv := (Chg.of_ext hE).trans r2
 have hv1 : rowBlock v1 = rowBlock y.vf ∨ ∀ k, rowBlock v1 = some k → wq.heap.size ≤ k := r3.imp id fun e k hk => Nat.le_trans hE.size (e k hk)
 obtain ⟨o9, c9⟩ := h.own.addFrame (x := X) hs.fs hv hcg (by
   have e : (y.fr ++ [X]).flatMap frameF = y.fr.flatMap frameF ++ [.int .i64 n, .int .i64 0, .slice (some ⟨gl, 0, none⟩) N N, .slice none 0 0] := by rw [List.flatMap_append]; rfl
   rw [e, List.length_append, List.length_singleton]; exact r1) hXO h9 hv1 (by
   show ((rowBlock (.slice (some ⟨gl, 0, none⟩) N N)).toList ++ (rowBlock (.slice none 0 0)).toList).Nodup
   cases rowBlock (.slice (some ⟨gl, 0, none⟩) N N) <;> simp [rowBlock]) (fun k hk => by
   obtain ⟨rfl, h0⟩ := hXbl k hk
   refine ⟨h.nl, fun e => ?_⟩
   rcases hv1 with h1 | h1
   ·exact h.nl (List.mem_cons_of_mem _ (hyb _ (h1 ▸ e)))
   ·have := h1 _ e; have := hlg h0; omega)
 refine Did.of ⟨⟨_, o9, ?_, fun k hk => ?_⟩, h.chg.trans' c9 fun k hk hm => ?_⟩
 ·rw [← h.g]
  refine (modFib_at hs.fs (n := P.g.now) ?_ ?_).symm
  ·have e : P'.g.now = P.g.now := by rw [h.g]; rfl
   rw [← e]; exact hnw
  ·unfold PFiber.g
   simp [X]
 ·unfold PState.bl at hk
  simp only [List.flatMap_append, List.flatMap_cons, List.mem_append] at hk
  have hback : k ∈ P'.bl → k ∈ P.bl ∨ w.heap.size ≤ k := h.bl k
  rcases hk with (h3 | h3) | h3 | h3 | h3
  ·exact hback (PState.mem_vfs (by simpa using h3))
  ·exact hback (PState.mem_vo (by simpa using h3))
  ·obtain ⟨z, hz, h4⟩ := List.mem_flatMap.1 h3
   exact hback (PState.mem_fs (y := z) (by rw [hs.fs]; simp [hz]) h4)
  ·unfold PFiber.bl at h3
   simp only [List.flatMap_append, List.mem_append] at h3
   rcases h3 with h4 | h4 | h4
   ·have h5 : rowBlock v1 = some k := by simpa using h4
    rcases hv1 with h6 | h6
    ·exact hback (hyb k (h6 ▸ h5))
    ·exact .inr (Nat.le_trans h.chg.size (h6 k h5))
   ·refine hback (PState.mem_fs hym ?_)
    unfold PFiber.bl
    exact List.mem_append.2 (.inr h4)
   ·have h5 : k ∈ X.bl := by simpa using h4
    exact .inr (by rw [hgl, (hXbl k h5).1]; exact Nat.le_refl _)
  ·obtain ⟨z, hz, h4⟩ := List.mem_flatMap.1 h3
   exact hback (PState.mem_fs (y := z) (by rw [hs.fs]; simp [hz]) h4)
 ·rcases h.bl k hm with h1 | h1
  ·exact List.mem_cons_of_mem _ h1
  ·omega
theorem called_any (p : List GFunc) (v : Value) (S : Nat → Prop) {P : PState} {w : World} {B b : Nat} (n : Nat) (hp : Funcs w S v p) (h : OwnS w B b P) (ht : HasTop P.g P.g.now) (hfr9 : (curF P.g).frames.length < 1000) (hb : CallFit p P.g n) :
    Calls Tryz.prog 94 #[v, .pointer (some ⟨b, 0, none⟩), .int .i64 n] w fun e w' => e = .returned (.int .i64 (callG p P.g n).1) ∧ Did w w' B b P (callG p P.g n) := by
  obtain ⟨-, hn, hA0, hAL, hL9, hst⟩ := hb
  have hn : n < p.length := by omega
  have hF : funcOf p n = p[n] := by unfold funcOf; simp [List.getD, List.getElem?_eq_getElem hn]
  obtain ⟨A, hA⟩ : ∃ A : Nat, (funcOf p n).args = A := ⟨(funcOf p n).args.toNat, by omega⟩
  obtain ⟨N, hN⟩ : ∃ N : Nat, (funcOf p n).locals = N := ⟨(funcOf p n).locals.toNat, by omega⟩
  obtain ⟨bp, op, cap, rfl, hcap, hby, ⟨_, hpA, _⟩, ⟨_, hpL, _⟩, _⟩ := hp.get hn
  rw [← hF, hA] at hpA
  rw [← hF, hN] at hpL
  have hAN : A ≤ N := by omega
  have hAs : A ≤ (curX P.g).stack.length := by omega
  have hN9 : N ≤ 900 := by omega
  have hAt : (funcOf p n).args.toNat = A := by omega
  have hNt : (funcOf p n).locals.toNat = N := by omega
  have ha0 : argsOf p P.g n 0 = List.replicate N 0 := by rw [argsOf_zero p P.g n ⟨hA0, hAL⟩, hNt]
  have hal : ∀ j, j ≤ A → (argsOf p P.g n j).length = N := fun j hj => by rw [argsOf_len p P.g n j (by omega) (by omega) ⟨hA0, hAL⟩, hNt]
  have H := Lib.hid h
  have HT := Lib.hid ht
  have HP := Lib.hid hp
  have HA := Lib.hid hA
  have HN := Lib.hid hN
  have HAT := Lib.hid hAt
  have HA0 := Lib.hid ha0
  have HAL := Lib.hid hal
  have HB : Hid (B ≤ w.heap.size) := Nat.le_trans h.le (Nat.le_of_lt h.c0.lt)
  obtain ⟨i0, hi0, hz0, hz1, hz2⟩ := info_parts infoI
  have RA := alloc_keep
  have KA : IntKind.i64.wrap ((A : Int) - 1) = (A : Int) - 1 := IntWalk.i64_in _ (by omega)
  clear hp h hF hA0 hAL hL9 hA hN hAt hNt ha0 hal
  go_enter Tryz.func94, Tryz.ntmps94
  go_wp2_with (first
    | (at_make; refine wpList_make_full _ rfl _ _ 24 rfl w.heap.size 3 i0 (.int .i64 0) 1 Tryz.underlying24 hi0 hz0 hz1 .i64 .i64 _ _ N rfl rfl rfl rfl (by rw [hz2]; omega) (by unfold maxLen; omega) (by simp) ?_; intro w3 hown3 hgr3; have hE3 := ext_none hgr3; have hrow := IRow.made hown3; have hpA3 := Ext.cell hE3 hpA))
  have HS3 : Hid (w.heap.size ≤ w3.heap.size) := hE3.size
  obtain ⟨W4, hW4⟩ : ∃ W4, W4 = w3.alloc (.cells #[.int .i64 n, .int .i64 0, .slice (some ⟨w.heap.size, 0, none⟩) N N, .slice none 0 0] 43) := ⟨_, rfl⟩
  have hE4 : Ext w W4 := by rw [hW4]; exact hE3.alloc _
  have hgl3 : w.heap.size < w3.heap.size ∨ N = 0 := by
    by_cases h0 : N = 0
    · exact .inr h0
    · refine .inl ?_
      have hr : RowAt w3 w.heap.size 1 (.slice (some ⟨w.heap.size, 0, none⟩) N N) N (ints (List.replicate N 0)) := by have := hrow; unfold IRow at this; rwa [List.length_replicate] at this
      exact hr.lt2 (by decide) _ (rowBlock_some _ _ _ _ h0)
  have hI0 : CallI w W4 B b P p n w3.heap.size w.heap.size N 0 P := by
    have hlt := (H.out).lt
    refine ⟨(H.out).ext hE4, (leave_zero _).symm, fun k hk => .inl hk, Chg.of_ext hE4, fun hm => ?_, fun hm => ?_, ?_, ?_, ?_, ?_, ?_⟩
    · have := hlt _ hm; have := HS3.out; omega
    · have := hlt _ hm; omega
    · rw [HA0.out]
      have hr : RowAt w3 w.heap.size 1 (.slice (some ⟨w.heap.size, 0, none⟩) N N) N (ints (List.replicate N 0)) := by have := hrow; unfold IRow at this; rwa [List.length_replicate] at this
      rw [hW4]
      exact hr.ext ((Ext.refl _).alloc _) (by decide)
    · rw [hW4]; exact Cx.new w3 [.int .i64 n, .int .i64 0, .slice (some ⟨w.heap.size, 0, none⟩) N N, .slice none 0 0] _ (j := 0) rfl
    · rw [hW4]; exact Cx.new w3 [.int .i64 n, .int .i64 0, .slice (some ⟨w.heap.size, 0, none⟩) N N, .slice none 0 0] _ (j := 1) rfl
    · rw [hW4]; exact Cx.new w3 [.int .i64 n, .int .i64 0, .slice (some ⟨w.heap.size, 0, none⟩) N N, .slice none 0 0] _ (j := 2) rfl
    · rw [hW4]; exact Cx.new w3 [.int .i64 n, .int .i64 0, .slice (some ⟨w.heap.size, 0, none⟩) N N, .slice none 0 0] _ (j := 3) rfl
  rw [← hW4]
  have HI0 := Lib.hid hI0
  generalize hbx : w3.heap.size = bx at *
  have HBX : Hid (w.heap.size ≤ bx ∧ (w.heap.size < bx ∨ N = 0)) := ⟨HS3.out, hgl3⟩
  clear hE3 hgr3 hrow hpA hpL hpA3 hW4 hE4 hgl3 hI0 hbx HS3 hown3
  generalize hgl : w.heap.size = gl at *
  have HGL := Lib.hid hgl
  clear hgl
  go_loopw [8] (fun q8 wr => ∃ (j r : Nat) (P' : PState), j + r = A ∧ q8 = .int .i64 ((r : Int) - 1) ∧ CallI w wr B b P p n bx gl N j P') (fun q _ => (intOf q + 1).toNat)
  case atStart => exact ⟨0, A, P, by omega, rfl, HI0.out⟩
  case round =>
    obtain ⟨j, r, P', hjr, rfl, hI⟩ := hrel
    have HI := Lib.hid hI
    clear hI
    rcases r with _ | r
    · have e1 : (((0 : Nat) : Int) - 1) = -1 := rfl
      rw [e1]
      obtain rfl : j = A := by omega
      clear e1
      have hT' : HasTop P'.g P'.g.now := by rw [(HI.out).g]; exact (HT.out).leave _
      obtain ⟨L, y, R, F, x, hs, hnw⟩ := hasSpot hT'
      have hnw : P'.now = L.length := hnw
      obtain ⟨g, o, cap2, hvf, hlt, d0, -, hbl⟩ := (HI.out).own.place hs.fs
      obtain ⟨ay, cy, ey, hcy, _⟩ := ((HI.out).own.fs y (by rw [hs.fs]; simp)).row.shape
      have hfew := ((HI.out).own.fs y (by rw [hs.fs]; simp)).few
      obtain ⟨c0, c0'⟩ := (HI.out).own.c0
      obtain ⟨k1, k1'⟩ := (HI.out).own.c1
      rw [hnw] at k1
      rw [hvf] at c0
      rw [ey] at d0
      have hCF : curF P'.g = y.g := curF_at hs.fs hnw
      have hfl : (curF P.g).frames.length = y.fr.length := by
        have e : (curF P'.g).frames.length = (curF P.g).frames.length := by
          rw [(HI.out).g]
          unfold leaveG modTop
          rw [curF_mod P.g ⟨(HT.out).1, (HT.out).2.1⟩]
          simp
        rw [← e, hCF]
        unfold PFiber.g
        simp
      have HS := Lib.hid hs
      have HVF := Lib.hid hvf
      have HEY := Lib.hid ey
      have HNW := Lib.hid hnw
      have HFL := Lib.hid hfl
      have HBL := Lib.hid hbl
      have D0 := Lib.hid d0
      obtain ⟨d0, d0'⟩ := d0
      clear hT' hvf ey hnw hfl hs hCF hbl
      go_upto_region 6 with fail
      by_cases h6 : y.fr.length = 6
      · have T6 : (((y.fr.length : Nat) : Int) == 6) = true := by rw [h6]; rfl
        have HG : Hid (callG p P.g n = (2, P.g)) := by unfold Hid callG; rw [if_pos (by rw [HFL.out]; exact h6)]
        clear h6
        refine wp_region_ext (by kernel_rfl) (by kernel_rfl) ?_
        repeat (first
          | go_big_quiet_skip
          | (go_big_quiet_want
             unfold Oper.quiet
             apply Exists.intro
             refine ⟨fun w' hw' => ?_, ?_⟩
             focus
               have hcq := Ext.keep hw'
               go_simp
               first
                 | with_reducible rfl
             (try dsimp only [Act.put])
             (try simp only [List.setIfInBounds_toArray, List.set_cons_succ, List.set_cons_zero])
             go_big_quiet_on))
        refine wpQuiet_nil ?_
        intro wq hq
        go_wp2_with fail
        go_ret
        rw [HG.out]
        exact ⟨rfl, ⟨(HI.out).chg.trans (Chg.of_ext hq), fun h => by cases h⟩⟩
      · have T6 : (((y.fr.length : Nat) : Int) == 6) = false := beq_false_of_ne (by omega)
        have HG : Hid (callG p P.g n = (0, modFib (leaveG P.g (funcOf p n).args.toNat) P.g.now fun f => { f with frames := f.frames ++ [⟨n, 0, argsOf p P.g n (funcOf p n).args.toNat, []⟩] })) := by unfold Hid callG; rw [if_neg (by rw [HFL.out]; exact h6)]
        clear h6
        refine wp_region_ext (by kernel_rfl) (by kernel_rfl) ?_
        repeat (first
          | go_big_quiet_skip
          | (go_big_quiet_want
             unfold Oper.quiet
             apply Exists.intro
             refine ⟨fun w' hw' => ?_, ?_⟩
             focus
               have hcq := Ext.keep hw'
               go_simp
               first
                 | with_reducible rfl
             (try dsimp only [Act.put])
             (try simp only [List.setIfInBounds_toArray, List.set_cons_succ, List.set_cons_zero])
             go_big_quiet_on))
        refine wpQuiet_nil ?_
        intro wq hq
        have HQ := Lib.hid hq
        obtain ⟨i1, hi1, hz3, hz4, hz5⟩ := info_parts infoFr
        have HIQ := Lib.hid ((HI.out).ext hq)
        obtain ⟨c0, c0'⟩ := Cx.ext (W := wr) ⟨c0, c0'⟩ hq
        obtain ⟨k1, k1'⟩ := Cx.ext (W := wr) ⟨k1, k1'⟩ hq
        obtain ⟨d0, d0'⟩ := Cx.ext (W := wr) ⟨d0, d0'⟩ hq
        obtain ⟨b0, b0'⟩ := (HIQ.out).c0
        obtain ⟨b1, b1'⟩ := (HIQ.out).c1
        obtain ⟨b2, b2'⟩ := (HIQ.out).c2
        obtain ⟨b3, b3'⟩ := (HIQ.out).c3
        clear hq
        go_upto_region 8 with fail
        refine wp_region_rt (fun w' => w'.cell? ⟨b, 0, none⟩ = some (.slice (some ⟨g, o, none⟩) P'.fs.length cap2) ∧ w'.cell? ⟨b, 1, none⟩ = some (.int .i64 (L.length : Int)) ∧ w'.cell? ⟨g, o + L.length * 2, none⟩ = some (.slice ay y.fr.length cy) ∧
            w'.cell? ⟨bx, 0, none⟩ = some (.int .i64 n) ∧ w'.cell? ⟨bx, 1, none⟩ = some (.int .i64 0) ∧ w'.cell? ⟨bx, 2, none⟩ = some (.slice (some ⟨gl, 0, none⟩) N N) ∧ w'.cell? ⟨bx, 3, none⟩ = some (.slice none 0 0))
          24 [0, 1, 2, 3, 4, 5, 6, 7, 8, 9, 10, 11, 12, 13, 14, 15, 16, 17, 18, 19] [20, 21, 22, 23, 24] (by kernel_rfl) (by kernel_rfl) (fun _ _ _ _ _ h => h) (by refine ⟨?_, ?_, ?_, ?_, ?_, ?_, ?_⟩ <;> simpa) ?_
        (try simp only [pickOps, List.filterMap_cons, List.filterMap_nil, List.getElem?_cons_zero, List.getElem?_cons_succ])
        repeat (
          refine readsQ_do (by rfl) ?_
          apply Exists.intro
          refine ⟨fun w' hw' => ?_, ?_⟩
          focus
            (try dsimp only at hw')
            go_split_ands
            go_simp
            (try with_reducible rfl)
          (try dsimp only [Act.put])
          (try simp only [List.setIfInBounds_toArray, List.set_cons_succ, List.set_cons_zero]))
        refine readsQ_nil ?_
        have hown := (HIQ.out).own
        have hyO := hown.fs y (by rw [(HS.out).fs]; simp)
        have HROW : Hid (RowAt wq B 4 (.slice ay y.fr.length cy) y.fr.length (y.fr.flatMap frameF)) := by unfold Hid; rw [← HEY.out]; exact hyO.row
        have HX9 : Hid (frameF ⟨⟨n, 0, argsOf p P.g n j, []⟩, .slice (some ⟨gl, 0, none⟩) N N, .slice none 0 0⟩ = [.int .i64 n, .int .i64 0, .slice (some ⟨gl, 0, none⟩) N N, .slice none 0 0]) := rfl
        have HBW : Hid (B ≤ wq.heap.size) := Nat.le_trans HB.out (by rw [← HGL.out]; exact (HIQ.out).chg.size)
        have HGY : Hid (∀ k, rowBlock (.slice ay y.fr.length cy) = some k → k ≠ b ∧ k ≠ g ∧ k ≠ bx ∧ k ∈ P'.bl) := by
          intro k hk
          rw [← HEY.out] at hk
          have hm : k ∈ y.bl := by unfold PFiber.bl; simp [hk]
          have hym : y ∈ P'.fs := by rw [(HS.out).fs]; simp
          have hmp := PState.mem_fs hym hm
          obtain ⟨d0, d1, _⟩ := hown.dis
          exact ⟨fun e => d0 (e ▸ hmp), fun e => (d1 g HBL.out).2 y hym (e ▸ hm), fun e => (HIQ.out).nb (List.mem_cons_of_mem _ (e ▸ hmp)), hmp⟩
        have HIQ2 := Lib.hid ((HIQ.out).ext ((Ext.refl wq).alloc (.cells #[.int .i64 n, .int .i64 0, .slice (some ⟨gl, 0, none⟩) N N, .slice none 0 0] 43)).drew)
        have D0Q := Lib.hid (Cx.ext (W := wq) ⟨d0, d0'⟩ ((Ext.refl wq).alloc (.cells #[.int .i64 n, .int .i64 0, .slice (some ⟨gl, 0, none⟩) N N, .slice none 0 0] 43)).drew)
        clear hown hyO
        refine tailW_step ?_
        go_wp2_with fail
        refine nextW_go (by refine ⟨?_, ?_, ?_, ?_, ?_, ?_, ?_⟩ <;> simp [*]) ?_
        refine tailW_step ?_
        go_wp2_with (first
          | (at_builtin; refine wpList_append_row rfl _ _ 39 rfl B 43 i1 (.agg #[.int .i64 0, .int .i64 0, .slice none 0 0, .slice none 0 0]) 4 64 Tryz.underlying39 hi1 hz3 hz4 hz5 rfl (by decide) _ _ _ rfl (by exact (HROW.out.ext (((Ext.refl _).alloc _).drew) (by decide))) 1 _ (by exact src_drew (src_cells _ _ 4 rfl (by simp [Value.oneCell']) _)) (by unfold maxLen; omega) (by omega) (by exact Nat.le_trans HBW.out (Ext.size (((Ext.refl _).alloc _).drew))) ?_; intro v1 Wv1 rv1; have RV := Lib.hid rv1; obtain ⟨a9, cap9, rfl, _, _⟩ := rv1.1.shape; clear rv1))
        have hRV : NewRow (wq.alloc (.cells #[.int .i64 n, .int .i64 0, .slice (some ⟨gl, 0, none⟩) N N, .slice none 0 0] 43)).drew Wv1 B 4 (.slice ay y.fr.length cy) (.slice a9 (y.fr.length + 1) cap9) (y.fr.length + 1) (y.fr.flatMap frameF ++ [.int .i64 n, .int .i64 0, .slice (some ⟨gl, 0, none⟩) N N, .slice none 0 0]) := RV.out
        have e0 := Chg.cell hRV.2.1 (b := b) (o := 0) (fun e => (HGY.out b e).1 rfl) (HIQ2.out).own.c0.1
        have e1 := Chg.cell hRV.2.1 (b := b) (o := 1) (fun e => (HGY.out b e).1 rfl) (HIQ2.out).own.c1.1
        have e2 := Cx.chg (D0Q.out) hRV.2.1 (fun e => (HGY.out g e).2.1 rfl)
        have e3 := Chg.cell hRV.2.1 (b := bx) (o := 0) (fun e => (HGY.out bx e).2.2.1 rfl) (HIQ2.out).c0.1
        have e4 := Chg.cell hRV.2.1 (b := bx) (o := 1) (fun e => (HGY.out bx e).2.2.1 rfl) (HIQ2.out).c1.1
        have e5 := Chg.cell hRV.2.1 (b := bx) (o := 2) (fun e => (HGY.out bx e).2.2.1 rfl) (HIQ2.out).c2.1
        have e6 := Chg.cell hRV.2.1 (b := bx) (o := 3) (fun e => (HGY.out bx e).2.2.1 rfl) (HIQ2.out).c3.1
        rw [HVF.out] at e0
        rw [HNW.out] at e1
        have HSS := Lib.hid (⟨e0, e1, e2.1, e3, e4, e5, e6⟩ : _ ∧ _ ∧ _ ∧ _ ∧ _ ∧ _ ∧ _)
        refine nextW_go HSS.out ?_
        obtain ⟨e2, e2'⟩ := e2
        clear e0 e1 e3 e4 e5 e6
        refine tailW_step ?_
        go_wp2_with fail
        refine nextW_go HSS.out ?_
        refine tailW_step ?_
        go_wp2_with fail
        refine nextW_go HSS.out ?_
        refine tailW_step ?_
        go_wp2_with fail
        refine nextW_end ?_
        go_wp2_with fail
        go_ret
        rw [HG.out, HAT.out]
        have hfin := call_fin (HIQ.out) (HS.out) (HNW.out) (HVF.out) (by rw [HEY.out]; exact hRV) (Ext.refl wq |>.alloc _ |>.drew) (by rw [← HFL.out]; exact hfr9) (HGL.out) (HB.out) (fun hN => by have := (HBX.out).2; omega) (I64.nat (by omega)) (argsOf_i64 p P.g n _ ((H.out).i64s HT.out).1) (by rw [HAL.out _ (Nat.le_refl _)]) (by omega)
        exact ⟨rfl, hfin⟩
    · have e1 : (((r + 1 : Nat) : Int) - 1) = (r : Int) := by omega
      rw [e1]
      have hT' : HasTop P'.g P'.g.now := by rw [(HI.out).g]; exact (HT.out).leave j
      have hcx : (curX P'.g).stack.length = (curX P.g).stack.length - j := by rw [(HI.out).g, curX_leave _ HT.out, List.length_take]; omega
      have HT' := Lib.hid hT'
      have HL' : Hid (1 ≤ (curX P'.g).stack.length) := by unfold Hid; omega
      obtain ⟨x2, x2'⟩ := (HI.out).c2
      have hrN : r < N := by omega
      have KR : IntKind.i64.wrap ((r : Int) - 1) = (r : Int) - 1 := IntWalk.i64_in _ (by omega)
      have hne2 : bx ≠ gl := by have := (HBX.out).2; omega
      clear hT' hcx e1
      go_upto_region 5 with fail
      obtain ⟨u, hu⟩ := (HI.out).cell hrN (by rw [HAL.out j (by omega)])
      have HU := Lib.hid hu
      clear hu
      go_region_held3 (fun w' => w'.cell? ⟨bx, 2, none⟩ = some (.slice (some ⟨gl, 0, none⟩) N N))
        (first | assumption | exact cell_other (by assumption) hne2 _)
        ((go_at_call 93; (with_reducible refine (pull_any ((HI.out).own.ext (by ((repeat (first | assumption | exact Ext.refl _ | (exact And.left (by assumption)) | refine Ext.alloc ?_ _ | refine Ext.drew ?_ | refine Ext.drewN ?_ _ | refine Ext.setCell ?_ (by simp) _ | refine Ext.setCell ?_ (by simp; omega) _ | refine Ext.trans ?_ (by assumption))); done))) HT'.out HL'.out).mono ?_); rintro e w2 ⟨rfl, t2⟩; have hk2 : w2.cell? ⟨bx, 2, none⟩ = some (.slice (some ⟨gl, 0, none⟩) N N) := Chg.cell t2.chg (HI.out).nb (by simpa using x2); obtain ⟨y2, y2'⟩ := ((HU.out).ext (Ext.refl _).drew).chg t2.chg (HI.out).nl))
      go_wp2_with fail
      have t3 : Turn wr w2 B b P' (popG P'.g) := Turn.pre (Ext.refl _).drew t2
      obtain ⟨P'', hI2⟩ := (HI.out).pull HT.out (Nat.le_of_eq HGL.out) (Ne.symm hne2) (by rw [HAT.out]; omega) (by omega) (by rw [HAT.out]; omega) hrN (by rw [HAL.out j (by omega)]) t3
      go_roundw
      case rel => exact ⟨j + 1, r, P'', by omega, rfl, hI2⟩
      case measure => simp [intOf]
end Go.Proofs.YtgahbngbpfilgaaGreat
end
section
set_option maxHeartbeats 4000000
set_option maxRecDepth 100000
namespace Go.Proofs.YtgahbngbpfilgaaGreat
open Go Go.RowKit
theorem frameO_any (p : List GFunc) (v : Value) (S : Nat → Prop) (n N : Nat) (w : World) (hp : Funcs w S v p) (hn : n < p.length) (hN : (funcOf p n).locals = N) (hN9 : N ≤ 900) :
  Calls Tryz.prog 59 #[v, .int .i64 n] w fun e w' => (∃ g, e = .returned (.agg #[.int .i64 n, .int .i64 0, .slice (some ⟨g, 0, none⟩) N N, .slice none 0 0]) ∧ RowAt w' w.heap.size 1 (.slice (some ⟨g, 0, none⟩) N N) N (ints (List.replicate N 0)) ∧ w.heap.size ≤ g) ∧ Ext w w' := by
 have hF : funcOf p n = p[n] := by unfold funcOf; simp [List.getD, List.getElem?_eq_getElem hn]
 rw [hF] at hN
 obtain ⟨b, o, cap, rfl, hcap, hby, _, ⟨_, hL, iL⟩, _⟩ := hp.get hn
 rw [hN] at hL
 obtain ⟨i0, hi0, hz0, hz1, hz2⟩ := info_parts infoI
 have RA := alloc_keep
 have c0 := Lib.hid (Cx.new w [.int .i64 0, .int .i64 0, .slice none 0 0, .slice none 0 0] 43 (j := 0) rfl)
 have c1 := Lib.hid (Cx.new w [.int .i64 0, .int .i64 0, .slice none 0 0, .slice none 0 0] 43 (j := 1) rfl)
 have c2 := Lib.hid (Cx.new w [.int .i64 0, .int .i64 0, .slice none 0 0, .slice none 0 0] 43 (j := 2) rfl)
 have c3 := Lib.hid (Cx.new w [.int .i64 0, .int .i64 0, .slice none 0 0, .slice none 0 0] 43 (j := 3) rfl)
 clear hp hN hF
 go_enter Tryz.func59, Tryz.ntmps59
 go_wp2_with (first
  | (at_make; refine wpList_make_full _ rfl _ _ 24 rfl (w.heap.size + 1) 3 i0 (.int .i64 0) 1 Tryz.underlying24 hi0 hz0 hz1 .i64 .i64 _ _ N rfl rfl rfl rfl (by rw [hz2]; omega) (by unfold maxLen; omega) (by simp) ?_; intro w3 hown3 hgr3; have hE3 := ext_none hgr3; have hrow := IRow.made hown3; obtain ⟨⟨d0, d0'⟩, ⟨d1, d1'⟩, ⟨d2, d2'⟩, ⟨d3, d3'⟩⟩ := (⟨c0.out.ext hE3, c1.out.ext hE3, c2.out.ext hE3, c3.out.ext hE3⟩ : _ ∧ _ ∧ _ ∧ _)))
 have hs1 : (w.alloc (.cells #[.int .i64 0, .int .i64 0, .slice none 0 0, .slice none 0 0] 43)).heap.size = w.heap.size + 1 := Array.size_push _
 rw [hs1] at hrow
 refine bodyPost_ret (results_cell_mid rfl _ _ w.heap.size 0 _ _ rfl (box4 ⟨d0, d0'⟩ ⟨d1, d1'⟩ ⟨d2, d2'⟩ ⟨d3, d3'⟩ _ _ _ _) rfl rfl (by kernel_rfl)) rfl ?_
 refine ⟨⟨w.heap.size + 1, rfl, ?_, by omega⟩, ext4 (((Ext.refl w).alloc _).trans hE3) _ _ _ _⟩
 have h9 := hrow.chg (chg4 w3 w.heap.size (.int .i64 n) (.int .i64 0) (.slice (some ⟨w.heap.size + 1, 0, none⟩) N N) (.slice none 0 0)) (by omega)
 have h9 := h9.mono (base' := w.heap.size) (by omega)
 unfold IRow at h9
 rwa [List.length_replicate] at h9
theorem copy_row {w : World} {base gl N A c1 : Nat} {a1 : Option Addr} {S : Nat → Prop} {l r : List Int} (hd : RowAt w base 1 (.slice (some ⟨gl, 0, none⟩) N N) N (ints r)) (hs : Ints w S (.slice a1 A c1) l) (hA : A ≤ N) :
  ∃ w9, (∀ ty, (Builtin.copy_ #[24, 24] ty #[.slice (some ⟨gl, 0, none⟩) N N, .slice a1 A c1]).run Tryz.prog w = .ok (goInt A) w9) ∧ RowAt w9 base 1 (.slice (some ⟨gl, 0, none⟩) N N) N (ints (l ++ r.drop A)) ∧ Chg (fun k => k = gl ∧ 0 < A) w w9 := by
 have hsrc := hs.srcV
 obtain ⟨a', c', e, _, _, _⟩ := hs
 simp only [Value.slice.injEq] at e
 obtain ⟨-, hlen, -⟩ := e
 subst hlen
 have hsz : (Tryz.prog.info? 3).map (·.size) = some 1 := infoIs
 rcases Nat.eq_zero_or_pos l.length with h0 | h0
 ·have hl : l = [] := List.eq_nil_of_length_eq_zero h0
  subst hl
  refine ⟨w, fun ty => ?_, by simpa using hd, Chg.refl _ _⟩
  exact run_copy_none w _ _ ty _ _ _ _ _ _ _ Tryz.underlying24 hsz (by simp)
 ·obtain ⟨a2, c2, e, hnl, hone, hsr⟩ := hsrc
  simp only [Value.slice.injEq, true_and] at e
  obtain ⟨rfl, rfl⟩ := e
  obtain ⟨ad, rfl, hcell⟩ := hsr.resolve_left (by omega)
  obtain ⟨hxl, a3, c3, e, h1, h2, h3⟩ := hd
  simp only [Value.slice.injEq, true_and] at e
  obtain ⟨rfl, rfl⟩ := e
  obtain ⟨g, o, e, hb, hc, ht⟩ := h3.resolve_left (by omega)
  simp only [Option.some.injEq, Addr.mk.injEq] at e
  obtain ⟨rfl, rfl, -⟩ := e
  have hrl : r.length = N := by rw [ints_len] at hxl; omega
  have hsm : ∀ j, j < (ints l).length → (w.cell? ⟨gl, 0 + j, none⟩).isSome = true := fun j hj => (ht j (by rw [ints_len] at hj; omega)).1
  refine ⟨w.setCells gl 0 (ints l), fun ty => ?_, ?_, Chg.setCells (M := fun k => k = gl ∧ 0 < l.length) (Chg.refl _ _) (.inl ⟨rfl, h0⟩) 0 _⟩
  ·have := run_copy_cells w 24 24 ty 3 gl 0 N N ad l.length c1 (ints l) Tryz.underlying24 hsz (by rw [ints_len]; exact (Nat.min_eq_left hA).symm) (fun j v hj => hcell j v hj) hsm (fun j hj => (ht j (by rw [ints_len] at hj; omega)).2) hone
   rw [ints_len] at this
   exact this
  ·refine ⟨by rw [ints_len, List.length_append, List.length_drop]; omega, _, _, rfl, Nat.le_refl _, h2, .inr ⟨gl, 0, rfl, hb, fun j hj => ?_, fun j hj => ?_⟩⟩
   ·rw [ints_app]
    by_cases hjl : j < l.length
    ·rw [List.getElem?_append_left (by rw [ints_len]; exact hjl), World.cell?_setCells_in gl (ints l) 0 w hsm j (by rw [ints_len]; exact hjl), List.getElem?_eq_getElem]
    ·rw [List.getElem?_append_right (by rw [ints_len]; omega), World.cell?_setCells_out gl (ints l) 0 w ⟨gl, 0 + j, none⟩ (fun _ _ => .inr (by rw [ints_len]; show 0 + l.length ≤ 0 + j; omega)), hc j hj, ints_len]
     unfold Proofs.YtgahbngbpfilgaaGreat.ints
     rw [List.getElem?_map, List.getElem?_map, List.getElem?_drop]
     congr 2
     omega
   ·have := ht j hj
    rw [World.frozen?_setCells]
    refine ⟨?_, this.2⟩
    by_cases hjl : j < l.length
    ·rw [World.cell?_setCells_in gl (ints l) 0 w hsm j (by rw [ints_len]; exact hjl)]; rfl
    ·rw [World.cell?_setCells_out gl (ints l) 0 w ⟨gl, 0 + j, none⟩ (fun _ _ => .inr (by rw [ints_len]; show 0 + l.length ≤ 0 + j; omega))]; exact this.1
end Go.Proofs.YtgahbngbpfilgaaGreat
end
