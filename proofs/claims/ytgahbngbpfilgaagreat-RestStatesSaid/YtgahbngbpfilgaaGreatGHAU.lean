/- Merged texts: contracts and plain facts, one part behind another; each part begins with what it says. -/
import Derived.Test.YtgahbngbpfilgaaGreatGHAK
import Derived.Test.YtgahbngbpfilgaaGreatGHAT
import Derived.WalkSmall
section
set_option maxHeartbeats 4000000
set_option maxRecDepth 100000
namespace Go.Proofs.YtgahbngbpfilgaaGreat
open Go Go.RowKit
theorem Ints.srcV {w : World} {S : Nat → Prop} {v : Value} {l : List Int} (h : Ints w S v l) : SrcSl w 1 v l.length (ints l) := by have := h.src; rwa [flatMap_intF] at this
theorem src_up {w w' : World} {size : Nat} {x : Value} {m : Nat} {news : List Value} (h : SrcSl w size x m news) (he : Ext w w') : SrcSl w' size x m news := by
 obtain ⟨a, c, rfl, h1, h2, h3⟩ := h
 refine ⟨a, c, rfl, h1, h2, h3.imp id fun ⟨ad, ha, hc⟩ => ⟨ad, ha, fun j u hj => ?_⟩⟩
 have hcj := hc j u hj
 exact (Ext.keep he _ (by rw [hcj]; rfl)).trans hcj
theorem row_ext {W W' : World} {base size n : Nat} {a : Option Addr} {v' : Value} {xs : List Value} (h : NewRow W W' base size (.slice a 0 0) v' n xs) : Ext W W' := h.2.1.ext (fun k _ e => by cases a <;> simp [rowBlock] at e)
theorem cloneI_any (l : List Int) (v : Value) (S : Nat → Prop) (w : World) (hl : Ints w S v l) (hn : l.length ≤ 1000) :
  Calls Tryz.prog 70 #[v] w fun e w' => (∃ v1, e = .returned v1 ∧ RowAt w' w.heap.size 1 v1 l.length (ints l)) ∧ Ext w w' := by
 have HSRC := Lib.hid hl.srcV
 obtain ⟨a, c, rfl, hc, hb, hel⟩ := hl
 obtain ⟨i0, hi0, hz0, hz1, hz2⟩ := info_parts infoI
 have RA := alloc_keep
 cases a with
 | none =>
  have hl0 : l = [] := by
   cases l with
   | nil => rfl
   | cons x l => obtain ⟨b, o, e, _⟩ := hel 0 (by simp); cases e
  subst hl0
  have hbn : ∀ w, (binOp .eql 24 (.slice none 0 c) (.slice none 0 0)).run Tryz.prog w = .ok (.bool true) w := fun w => by kernel_rfl
  clear hel hc hb
  go_enter Tryz.func70, Tryz.ntmps70
  go_wp2_with fail
  go_ret
  exact ⟨⟨_, rfl, RowAt.nil _ _ _ _⟩, Ext.refl _⟩
 | some ad =>
  have hbn : ∀ w, (binOp .eql 24 (.slice (some ad) l.length c) (.slice none 0 0)).run Tryz.prog w = .ok (.bool false) w := fun w => by kernel_rfl
  clear hel
  go_enter Tryz.func70, Tryz.ntmps70
  go_wp2_with (first
   | (at_builtin; refine wpList_append_row rfl _ _ 24 rfl w.heap.size 3 i0 (.int .i64 0) 1 8 Tryz.underlying24 hi0 hz0 hz1 hz2 rfl (by decide) _ _ _ rfl (RowAt.nil _ _ _ _) l.length (ints l) (src_up HSRC.out (by ((repeat (first | assumption | exact Ext.refl _ | (exact And.left (by assumption)) | refine Ext.alloc ?_ _ | refine Ext.drew ?_ | refine Ext.drewN ?_ _ | refine Ext.setCell ?_ (by simp) _ | refine Ext.setCell ?_ (by simp; omega) _ | refine Ext.trans ?_ (by assumption))); done))) (by unfold maxLen; omega) (by omega) (by exact Ext.size (by ((repeat (first | assumption | exact Ext.refl _ | (exact And.left (by assumption)) | refine Ext.alloc ?_ _ | refine Ext.drew ?_ | refine Ext.drewN ?_ _ | refine Ext.setCell ?_ (by simp) _ | refine Ext.setCell ?_ (by simp; omega) _ | refine Ext.trans ?_ (by assumption))); done))) ?_; intro v1 Wv1 rv1; have RV := Lib.hid rv1; have hxv := row_ext rv1; obtain ⟨a9, cap9, rfl, _, _⟩ := rv1.1.shape; clear rv1))
  go_ret
  have hR := RV.out
  rw [Nat.zero_add, List.nil_append] at hR
  exact ⟨⟨_, rfl, hR.1⟩, by ((repeat (first | assumption | exact Ext.refl _ | (exact And.left (by assumption)) | refine Ext.alloc ?_ _ | refine Ext.drew ?_ | refine Ext.drewN ?_ _ | refine Ext.setCell ?_ (by simp) _ | refine Ext.setCell ?_ (by simp; omega) _ | refine Ext.trans ?_ (by assumption))); done)⟩
theorem RowAt.hind {w : World} {base : Nat} {a : Option Addr} {n cap : Nat} {l : List Int} (h : RowAt w base 1 (.slice a n cap) l.length (ints l)) (hI : ∀ k ∈ l, I64 k) (hl : l.length ≤ 1000) (m : Nat) (hm : m ≤ l.length) :
  Ints w (fun _ => True) (.slice (if cap = m then a else a.map (·.add m)) (n - m) (cap - m)) (l.drop m) := by
 obtain ⟨_, a', cap', e, h1, h2, h3⟩ := h
 simp only [Value.slice.injEq] at e
 obtain ⟨rfl, rfl, rfl⟩ := e
 unfold maxLen at h2
 refine ⟨_, cap - m, by rw [List.length_drop], by rw [List.length_drop]; omega, ⟨by rw [List.length_drop]; omega, by omega⟩, fun i hi => ?_⟩
 rw [List.length_drop] at hi
 obtain ⟨g, o, rfl, _, hc, _⟩ := h3.resolve_left (by omega)
 rw [if_neg (by omega)]
 refine ⟨g, o + m, by simp [Addr.add], trivial, ?_, hI _ (List.mem_of_mem_drop (List.getElem_mem _))⟩
 have := hc (m + i) (by omega)
 rw [← Nat.add_assoc] at this
 rw [Nat.mul_one, this, List.getElem_drop]
 unfold Proofs.YtgahbngbpfilgaaGreat.ints
 rw [List.getElem?_map, List.getElem?_eq_getElem (by omega)]
 rfl
theorem RowAt.front {w : World} {base n cap : Nat} {a : Option Addr} {l : List Int} (h : RowAt w base 1 (.slice a n cap) l.length (ints l)) (m : Nat) (hm : m ≤ l.length) : RowAt w base 1 (.slice a m cap) (l.take m).length (ints (l.take m)) := by
 obtain ⟨hl, a', cap', e, h1, h2, h3⟩ := h
 simp only [Value.slice.injEq] at e
 obtain ⟨rfl, rfl, rfl⟩ := e
 have hlen : (l.take m).length = m := by rw [List.length_take]; omega
 refine ⟨by rw [ints_len, Nat.mul_one], _, _, by rw [hlen], by rw [hlen]; omega, h2, ?_⟩
 rcases h3 with h3 | ⟨g, o, rfl, hb, hc, ht⟩
 ·exact .inl h3
 ·refine .inr ⟨g, o, rfl, hb, fun j hj => ?_, ht⟩
  rw [hlen, Nat.mul_one] at hj
  rw [hc j (by omega)]
  unfold Proofs.YtgahbngbpfilgaaGreat.ints
  rw [List.getElem?_map, List.getElem?_map, List.getElem?_take, if_pos hj]
theorem engPull_at {P : PState} {L R : List PFiber} {y : PFiber} {F : List PFrame} {x : PFrame} {w : World} {B b eb : Nat} {p : List GFunc} {a : Option Addr} {cp : Nat} (h : OwnS w B b P) (hE : Eng w eb b p a cp) (hs : Spot P L y R F x) (hnw : P.now = (L.length : Int)) (n : Nat) (hn : n ≤ x.f.stack.length) :
  Calls Tryz.prog 75 #[.pointer (some ⟨eb, 0, none⟩), .int .i64 n] w fun e w' => ∃ v1, e = .returned v1 ∧ Ints w' (w.heap.size ≤ ·) v1 (x.f.stack.drop (x.f.stack.length - n)) ∧
   (∃ v2, OwnS w' B b (replTop P L y R F ⟨{ x.f with stack := x.f.stack.take (x.f.stack.length - n) }, x.vl, v2⟩) ∧ rowBlock v2 = rowBlock x.vs) ∧ Chg (fun k => rowBlock y.vf = some k ∨ rowBlock x.vs = some k) w w' := by
 obtain ⟨g, o, cap, e1, hcap, hmax, -, -, -, d3, hbl⟩ := h.spot hs
 have hx := (h.fs y (by rw [hs.fs]; simp)).fr x (by rw [hs.fr]; simp)
 have hrow := hx.s
 obtain ⟨as_, cs, es, hcs, hms⟩ := hrow.shape
 rw [es] at hrow
 rw [es] at d3
 have hfew := hx.few.2
 obtain ⟨m, hm⟩ : ∃ m, x.f.stack.length - n = m := ⟨_, rfl⟩
 have hmn : m + n = x.f.stack.length := by omega
 have htail := hrow.hind hx.i.2.2.2 hfew m (by omega)
 have hfront := hrow.front m (by omega)
 have KK : IntKind.i64.wrap ((x.f.stack.length : Int) - (n : Int)) = (m : Int) := by
  have e : ((x.f.stack.length : Int) - (n : Int)) = (m : Int) := by omega
  rw [e]; exact IntWalk.i64_in _ (by omega)
 have H := Lib.hid h
 have HX := Lib.hid hx
 have HE := Lib.hid hE
 have D3 := Lib.hid d3
 have HE1 := Lib.hid e1
 have HES := Lib.hid es
 have HT := Lib.hid htail
 have HFR := Lib.hid hfront
 have HDL : Hid ((x.f.stack.drop m).length = n) := by unfold Hid; rw [List.length_drop]; omega
 have HBK : Hid (rowBlock (.slice as_ m cs) = rowBlock x.vs) := by unfold Hid; rw [es]; cases as_ <;> rfl
 have HDE : Hid ((x.f.stack.drop m).length ≤ 1000) := by unfold Hid; rw [List.length_drop]; omega
 have HTL : Hid ((x.f.stack.take m).length = m) := by unfold Hid; rw [List.length_take]; omega
 have HMM : Hid (x.f.stack.length - n = m) := hm
 have hmN : m ≤ x.f.stack.length := by omega
 have hmC : m ≤ cs := by omega
 rw [hm]
 clear h hx hE d3 e1 hcap hmax es hrow htail hfront hm hmn hn
 have RA := alloc_keep
 generalize hN : x.f.stack.length = N at *
 have HN := Lib.hid hN
 clear hN
 go_enter Tryz.func75, Tryz.ntmps75
 go_upto_region 2 with (first
  | (go_at_call 73; (with_reducible refine (engTop_any H.out HE.out hs HE1.out hnw).mono ?_); rintro e w2 ⟨rfl, hx2⟩))
 have HX2 := Lib.hid hx2
 obtain ⟨d3, d3'⟩ := D3.out.ext hx2
 have HT2 := Lib.hid (Ints.stays (Ext.stays hx2) HT.out)
 clear hx2
 rcases Classical.em (cs = m) with hcm | hcm
 all_goals (first | (subst hcm; (obtain rfl : N = cs := by omega); rw [if_pos rfl, Nat.sub_self] at HT2) | rw [if_neg hcm] at HT2)
 all_goals (
  go_upto_region 4 with (first
   | (go_at_call 70; (with_reducible refine (cloneI_any (x.f.stack.drop _) _ (fun _ => True) _ HT2.out HDE.out).mono ?_); rintro e w3 ⟨⟨v1, rfl, hr3⟩, hx3⟩))
  have HX3 := Lib.hid hx3
  have HR3 := Lib.hid hr3
  obtain ⟨d4, d4'⟩ := Cx.ext (W := w2) ⟨d3, d3'⟩ hx3
  clear d3 d3' hx3 hr3
  go_wp2_with fail
  go_ret
  have hE : Ext w w3 := HX2.out.trans HX3.out
  have hgw : g < w2.heap.size := lt_of_cell (HX2.out.cell (D3.out.1))
  have hrow := fun u => HR3.out.chg (chg_one w3 g (o + F.length * 4 + 3) u) (fun k hk e => by have e : k = g := e; have := HR3.out.le k hk; omega) (by decide)
  have hfin := H.out.stack hs HE1.out (W1 := w3) (Chg.of_ext hE) (HFR.out.ext hE (by decide)) (fun k hk => HX.out.i.2.2.2 k (List.mem_of_mem_take hk)) (by rw [HTL.out]; omega) (.inl HBK.out)
  refine ⟨v1, rfl, ?_, ⟨_, hfin.1, HBK.out⟩, hfin.2⟩
  exact Ints.of_row (by rw [flatMap_intF]; exact hrow _) (by have := HDE.out; omega) (fun k hk => HX.out.i.2.2.2 k (List.mem_of_mem_drop hk)) _ (fun k hk _ => Nat.le_trans HX2.out.size hk))
theorem engPull_any {P : PState} {w : World} {B b eb : Nat} {p : List GFunc} {a : Option Addr} {cp : Nat} (h : OwnS w B b P) (hE : Eng w eb b p a cp) (ht : HasTop P.g P.g.now) (n : Nat) (hn : n ≤ (curX P.g).stack.length) :
  Calls Tryz.prog 75 #[.pointer (some ⟨eb, 0, none⟩), .int .i64 n] w fun e w' => ∃ v1, e = .returned v1 ∧ Ints w' (w.heap.size ≤ ·) v1 ((curX P.g).stack.drop ((curX P.g).stack.length - n)) ∧ Turn w w' B b P (leaveG P.g n) := by
 obtain ⟨L, y, R, F, x, hs, hnw⟩ := hasSpot ht
 have hnw : P.now = (L.length : Int) := hnw
 have hcx := curX_at hs hnw
 rw [hcx] at hn ⊢
 refine (engPull_at h hE hs hnw n hn).mono ?_
 rintro e w' ⟨v1, rfl, hv, ⟨v2, o2, hb2⟩, hc⟩
 exact ⟨v1, rfl, hv, ⟨⟨_, o2, (modTop_at hs hnw rfl).symm, repl_bl hs (frame_bl (.inl hb2))⟩, chg_spot hs hc⟩⟩
theorem engPull_k {P : PState} {w : World} {B b eb : Nat} {p : List GFunc} {a : Option Addr} {cp : Nat} (h : OwnS w B b P) (hE : Eng w eb b p a cp) (ht : HasTop P.g P.g.now) (n : Nat) (hn : n ≤ (curX P.g).stack.length) (k : Int) (hk : k = n) :
  Calls Tryz.prog 75 #[.pointer (some ⟨eb, 0, none⟩), .int .i64 k] w fun e w' => ∃ v1, e = .returned v1 ∧ Ints w' (w.heap.size ≤ ·) v1 ((curX P.g).stack.drop ((curX P.g).stack.length - n)) ∧ Turn w w' B b P (leaveG P.g n) := by
 subst hk
 exact engPull_any h hE ht n hn
theorem leave_one (s : GState) : leaveG s 1 = popG s := by rw [leave_succ, leave_zero]
theorem drop_last (l : List Int) (h : 1 ≤ l.length) : l.drop (l.length - 1) = [l.getD (l.length - 1) 0] := by
 obtain ⟨F, x, rfl⟩ := split_last l (by omega)
 rw [getD_last _ _ _ _ rfl]
 simp
theorem engOne_any {P : PState} {w : World} {B b eb : Nat} {p : List GFunc} {a : Option Addr} {cp : Nat} (h : OwnS w B b P) (hE : Eng w eb b p a cp) (ht : HasTop P.g P.g.now) (hn : 1 ≤ (curX P.g).stack.length) :
  Calls Tryz.prog 76 #[.pointer (some ⟨eb, 0, none⟩)] w fun e w' => e = .returned (.int .i64 (lastV P.g)) ∧ Turn w w' B b P (popG P.g) := by
 have H := Lib.hid h
 have HE := Lib.hid hE
 have HT := Lib.hid ht
 have HN := Lib.hid hn
 have HD := Lib.hid (drop_last _ hn)
 clear h hE ht hn
 have RA := alloc_keep
 go_enter Tryz.func76, Tryz.ntmps76
 go_wp2_with (first
  | (go_at_call 75; (with_reducible refine (engPull_k H.out HE.out HT.out 1 HN.out 1 rfl).mono ?_); rintro e w2 ⟨v1, rfl, hv, t2⟩; rw [HD.out] at hv; rw [leave_one] at t2; obtain ⟨b1, o1, c1, rfl, _, _, _, hc1, _⟩ := Sl.get hv (i := 0) (by simp); simp only [Nat.zero_mul, Nat.add_zero, List.getElem_cons_zero] at hc1))
 go_ret
 exact ⟨rfl, t2⟩
theorem engOne_at {P : PState} {L R : List PFiber} {y : PFiber} {F : List PFrame} {x : PFrame} {w : World} {B b eb : Nat} {p : List GFunc} {a : Option Addr} {cp : Nat} (h : OwnS w B b P) (hE : Eng w eb b p a cp) (hs : Spot P L y R F x) (hnw : P.now = (L.length : Int)) (hn : 1 ≤ x.f.stack.length) :
  Calls Tryz.prog 76 #[.pointer (some ⟨eb, 0, none⟩)] w fun e w' => e = .returned (.int .i64 (x.f.stack.getD (x.f.stack.length - 1) 0)) ∧
   (∃ v2, OwnS w' B b (replTop P L y R F ⟨{ x.f with stack := x.f.stack.dropLast }, x.vl, v2⟩) ∧ rowBlock v2 = rowBlock x.vs) ∧ Chg (fun k => rowBlock y.vf = some k ∨ rowBlock x.vs = some k) w w' := by
 have H := Lib.hid h
 have HE := Lib.hid hE
 have HS := Lib.hid hs
 have HNW := Lib.hid hnw
 have HN := Lib.hid hn
 have HD := Lib.hid (drop_last _ hn)
 clear h hE hs hnw hn
 have RA := alloc_keep
 have pk := fun (W : World) (h : OwnS W B b P) (hE : Eng W eb b p a cp) => engPull_at h hE HS.out HNW.out 1 HN.out
 have PK := Lib.hid pk
 clear pk
 go_enter Tryz.func76, Tryz.ntmps76
 go_wp2_with (first
  | (go_at_call 75; (refine (PK.out _ H.out HE.out).mono ?_); rintro e w2 ⟨v1, rfl, hv, t2, c2⟩; rw [HD.out] at hv; obtain ⟨b1, o1, c1, rfl, _, _, _, hc1, _⟩ := Sl.get hv (i := 0) (by simp); simp only [Nat.zero_mul, Nat.add_zero, List.getElem_cons_zero] at hc1; have HT2 := Lib.hid t2; clear t2))
 go_ret
 obtain ⟨v2, o2, hb2⟩ := HT2.out
 rw [← List.dropLast_eq_take] at o2
 exact ⟨rfl, ⟨v2, o2, hb2⟩, c2⟩
end Go.Proofs.YtgahbngbpfilgaaGreat
end
section
set_option maxHeartbeats 400000
namespace Go.Proofs.YtgahbngbpfilgaaGreat
open Go
section
variable {P : Program} {md : Region.Mode} {ops : Array Oper} {Q : Exit → Act → World → Prop} {S : World → Prop} {z : Nat}
def wpAnyZ (P : Program) (md : Region.Mode) (ops : Array Oper) (Q : Exit → Act → World → Prop) (S : World → Prop) (z : Nat) : Nat → Array Bool → Act → World → Prop
 | 0, listed, a, w => Region.ready md ops listed = [] ∧ Q .normal a w
 | fuel + 1, listed, a, w =>
  (Region.ready md ops listed = [] → Q .normal a w) ∧
  ∀ i ∈ Region.ready md ops listed, wpOp P ops Q i (fun a' w' => if i = z then wpAny P md ops Q fuel (listed.setIfInBounds i true) a' w' else S w' ∧ wpAnyZ P md ops Q S z fuel (listed.setIfInBounds i true) a' w') a w
theorem wpAny_of_Z : ∀ (fuel : Nat) (listed : Array Bool) (a : Act) (w : World), wpAnyZ P md ops Q S z fuel listed a w → wpAny P md ops Q fuel listed a w
 | 0, _, _, _, h => h
 | fuel + 1, _, _, _, h => ⟨h.1, fun i hi => wpOp_mono (fun a' w' h' => by
   by_cases e : i = z
   ·rw [if_pos e] at h'; exact h'
   ·rw [if_neg e] at h'; exact wpAny_of_Z fuel _ a' w' h'.2) (h.2 i hi)⟩
def thenZ (P : Program) (ops : Array Oper) (Q : Exit → Act → World → Prop) (l : List Oper) : Exit → Act → World → Prop
 | .normal, a, w => tailW P ops (fun _ => True) Q l a w
 | e, a, w => Q e a w
def rzTail (md : Region.Mode) (ops : Array Oper) (z z2 : Nat) (tl2 : List Nat) : List Nat → Array Bool → Bool
 | [], _ => false
 | k :: l, listed => decide (Region.ready md ops listed = [k]) && decide (k < ops.size) && (decide (k = z) == l.isEmpty) && (if l.isEmpty then !tl2.isEmpty && rtTail md ops z2 tl2 (listed.setIfInBounds k true) else rzTail md ops z z2 tl2 l (listed.setIfInBounds k true))
theorem wpAnyZ_tail {l : List Oper} (hl : ops = l.toArray) (z2 : Nat) (tl2 : List Nat) : ∀ (tl : List Nat) (fuel : Nat) (listed : Array Bool) (a : Act) (w : World), tl.length + tl2.length = fuel → rzTail md ops z z2 tl2 tl listed = true → tailW P ops S (thenZ P ops Q (pickOps l tl2)) (pickOps l tl) a w → wpAnyZ P md ops Q S z fuel listed a w
 | [], _, _, _, _, _, hB, _ => by simp [rzTail] at hB
 | k :: tl, fuel, listed, a, w, hf, hB, h => by
  obtain ⟨f, rfl⟩ : ∃ f, fuel = f + 1 := ⟨fuel - 1, by simp at hf; omega⟩
  simp only [rzTail, Bool.and_eq_true, decide_eq_true_eq] at hB
  obtain ⟨⟨⟨h1, h2⟩, h3⟩, h4⟩ := hB
  obtain ⟨o, ho⟩ : ∃ o, l[k]? = some o := ⟨l[k]'(by subst hl; simpa using h2), by rw [List.getElem?_eq_getElem]⟩
  have ho' : ops[k]? = some o := by subst hl; simpa using ho
  have e : pickOps l (k :: tl) = o :: pickOps l tl := by unfold pickOps; simp [ho]
  rw [e] at h
  refine ⟨fun h0 => (by rw [h1] at h0; cases h0), fun i hi => ?_⟩
  rw [h1] at hi
  obtain rfl : i = k := by simpa using hi
  have hL : LetsOut (thenZ P ops Q (pickOps l tl2)) → LetsOut Q := fun ⟨a, w, h⟩ => ⟨a, w, h⟩
  have hw : wpOp P ops Q i (fun a' w' => (pickOps l tl = [] ∨ S w') ∧ tailW P ops S (thenZ P ops Q (pickOps l tl2)) (pickOps l tl) a' w') a w := by
   unfold wpOp
   simp only [ho']
   unfold tailW at h
   split at h
   ·rename_i hw
    rw [if_pos hw]
    exact h.imp (fun h1 => Oper.wp_exits (fun _ _ _ h => h) hL h1) (fun h1 => ⟨h1.1, hL h1.2⟩)
   ·rename_i hw
    rw [if_neg hw]
    exact h
  cases tl with
  | nil =>
   have hz : i = z := by simpa using h3
   simp only [List.isEmpty_nil, if_true, Bool.and_eq_true] at h4
   refine wpOp_mono (fun a' w' h' => ?_) hw
   rw [if_pos hz]
   exact wpAny_of_weak _ _ _ _ (wpAnyW_tail hl tl2 f _ a' w' (by simp at hf; omega) h4.2 h'.2)
  | cons j tl' =>
   have hz : i ≠ z := by simpa using h3
   simp only [List.isEmpty_cons, Bool.false_eq_true, if_false] at h4
   have hne : pickOps l (j :: tl') ≠ [] := by
    have hj : j < ops.size := by
     unfold rzTail at h4
     simp only [Bool.and_eq_true, decide_eq_true_eq] at h4
     exact h4.1.1.2
    unfold pickOps
    have hj' : l[j]? = some (l[j]'(by subst hl; simpa using hj)) := List.getElem?_eq_getElem _
    simp [hj']
   refine wpOp_mono (fun a' w' h' => ?_) hw
   rw [if_neg hz]
   exact ⟨h'.1.resolve_left hne, wpAnyZ_tail hl z2 tl2 (j :: tl') f _ a' w' (by simp at hf ⊢; omega) h4 h'.2⟩
theorem thenZ_go {l : List Oper} {a : Act} {w : World} (h : tailW P ops (fun _ => True) Q l a w) : thenZ P ops Q l .normal a w := h
end
end Go.Proofs.YtgahbngbpfilgaaGreat
end
section
set_option maxHeartbeats 400000
namespace Go.Proofs.YtgahbngbpfilgaaGreat
open Go
section
variable {P : Program} {md : Region.Mode} {ops : Array Oper} {Q : Exit → Act → World → Prop} {S : World → Prop} {z : Nat}
def ClosedL (md : Region.Mode) (ops : Array Oper) (listed : Array Bool) : Prop := ∀ k ok, ops[k]? = some ok → listed.getD k false = true → ∀ e ∈ ok.after, Region.binds md e = true → listed.getD e.on false = true
theorem getD_set_or {listed : Array Bool} {i k : Nat} (h : (listed.setIfInBounds i true).getD k false = true) : k = i ∨ listed.getD k false = true := by
 by_cases e : k = i
 ·exact .inl e
 ·rw [getD_set_ne false (Ne.symm e)] at h; exact .inr h
theorem ClosedL.set {listed : Array Bool} (h : ClosedL md ops listed) {i : Nat} (hr : i ∈ Region.ready md ops listed) : ClosedL md ops (listed.setIfInBounds i true) := by
 intro k ok hk hl e he hb
 obtain ⟨_, oi, hoi, hall⟩ := mem_ready.1 hr
 rcases getD_set_or hl with rfl | h1
 ·rw [hoi] at hk; cases hk
  exact getD_set_true (hall e he hb)
 ·exact getD_set_true (h k ok hk h1 e he hb)
theorem closedL_nil (n : Nat) : ClosedL md ops (Array.replicate n false) := by
 intro k ok _ hl
 exfalso
 rw [Array.getD_eq_getD_getElem?, Array.getElem?_replicate] at hl
 split at hl <;> simp at hl
def waitsT (md : Region.Mode) (ops : Array Oper) : Nat → Nat → Nat → Bool
 | 0, _, _ => false
 | f + 1, j, i => match ops[j]? with
  | some oj => oj.after.any fun e => Region.binds md e && (e.on == i || waitsT md ops f e.on i)
  | none => false
theorem waitsT_listed {listed : Array Bool} (hc : ClosedL md ops listed) {i : Nat} : ∀ (f j : Nat), waitsT md ops f j i = true → (∀ oj, ops[j]? = some oj → ∀ e ∈ oj.after, Region.binds md e = true → listed.getD e.on false = true) → listed.getD i false = true
 | 0, _, h, _ => by simp [waitsT] at h
 | f + 1, j, h, hj => by
  unfold waitsT at h
  split at h
  ·rename_i oj hoj
   obtain ⟨e, he, hb⟩ := Array.any_eq_true'.1 h
   simp only [Bool.and_eq_true, Bool.or_eq_true, beq_iff_eq] at hb
   have hl := hj oj hoj e he hb.1
   rcases hb.2 with h1 | h1
   ·rw [← h1]; exact hl
   ·exact waitsT_listed hc f e.on h1 (fun ok hk => hc e.on ok hk hl)
  ·cases h
theorem wpAnyW_firstT {i F : Nat} {oi : Oper} {v : Value} (hz : waitsT md ops F z i = true) (hi : ops[i]? = some oi) (hsel : ∀ (j : Nat) (o : Oper) cs b, ops[j]? = some o → o.op ≠ .select cs b)
  (hQ : ∀ c a w, Q (.panic c) (a.put oi.dst v) w → Q (.panic c) a w) :
  ∀ (fuel : Nat) (listed : Array Bool) (a : Act) (w : World), listed.size = ops.size → ClosedL md ops listed →
   (∀ j oj, ops[j]? = some oj → j ≠ i → listed.getD j true = false → (∀ e ∈ oj.after, Region.binds md e = true → e.on ≠ i) → oi.apart ops oj = true) →
   i ∈ Region.ready md ops listed → YieldsIf P ops S oi v a → S w →
   wpAnyW P md ops Q S z fuel (listed.setIfInBounds i true) (a.put oi.dst v) w → wpAnyW P md ops Q S z (fuel + 1) listed a w := by
 intro fuel
 induction fuel with
 | zero =>
  intro listed a w _ _ _ hr hy hS H
  refine ⟨fun h => (by rw [h] at hr; cases hr), fun j hj => ?_⟩
  by_cases hji : j = i
  ·subst hji; exact hy.wpOp hi hS ⟨.inr hS, H⟩
  ·have := ready_mono hj hji
   rw [H.1] at this
   cases this
 | succ fuel ih =>
  intro listed a w hsz hcl hfree hr hy hS H
  refine ⟨fun h => (by rw [h] at hr; cases hr), fun j hj => ?_⟩
  by_cases hji : j = i
  ·subst hji; exact hy.wpOp hi hS ⟨.inr hS, H⟩
  ·have h1 := H.2 j (ready_mono hj hji)
   obtain ⟨hjun, oj, hoj, hall⟩ := mem_ready.1 hj
   have hun0 : listed.getD i false ≠ true := fun h => by
    have h0 := (mem_ready.1 hr).1
    rcases Nat.lt_or_ge i listed.size with h' | h'
    ·simp [h'] at h0 h; rw [h0] at h; cases h
    ·simp [Array.getElem?_eq_none h'] at h
   have hnot : ∀ e ∈ oj.after, Region.binds md e = true → e.on ≠ i := fun e he hb heq => hun0 (heq ▸ hall e he hb)
   have hjz : j ≠ z := fun e => by
    subst e
    exact hun0 (waitsT_listed hcl F j hz (fun ok hk e he hb => by rw [hoj] at hk; cases hk; exact hall e he hb))
   have h2 := wpOp_putIf hoj (hfree j oj hoj hji hjun hnot) (fun cs b => hsel i oi cs b hi) (fun cs b => hsel j oj cs b hoj) hQ hy h1
   have hfree' : ∀ k ok, ops[k]? = some ok → k ≠ i → (listed.setIfInBounds j true).getD k true = false →
     (∀ e ∈ ok.after, Region.binds md e = true → e.on ≠ i) → oi.apart ops ok = true := fun k ok hk hki hun hno => by
    refine hfree k ok hk hki ?_ hno
    by_cases hjk : j = k
    ·subst hjk; exact hjun
    ·rw [getD_set_ne true hjk] at hun; exact hun
   refine wpOp_mono (fun a' w' h3 => ?_) h2
   have h4 := h3.2.1.resolve_left hjz
   exact ⟨.inr h4, ih (listed.setIfInBounds j true) a' w' (by simpa using hsz) (hcl.set hj) hfree' (ready_mono hr (Ne.symm hji)) h3.1 h4 (by rw [Array.setIfInBounds_comm _ _ hji]; exact h3.2.2)⟩
def rtHeadT (md : Region.Mode) (ops : Array Oper) (z : Nat) (tl : List Nat) : List Nat → Array Bool → Bool
 | [], listed => rtTail md ops z tl listed
 | k :: l, listed => (Region.ready md ops listed).contains k && Region.free md ops listed k && decide (k < ops.size) && waitsT md ops ops.size z k && rtHeadT md ops z tl l (listed.setIfInBounds k true)
def rtBT (md : Region.Mode) (ops : Array Oper) (z : Nat) (rd tl : List Nat) : Bool :=
 Region.noSelect ops && decide (rd.length + tl.length = ops.size) && rtHeadT md ops z tl rd (Array.replicate ops.size false)
theorem wpAnyW_headT {l : List Oper} (hl : ops = l.toArray) (hsel : Region.noSelect ops = true)  (hQ : ∀ c a d v w, Q (.panic c) (Act.put a (some d) v) w → Q (.panic c) a w) {w : World} (hS : S w) (tl : List Nat) :
  ∀ (rd : List Nat) (fuel : Nat) (listed : Array Bool) (a : Act), listed.size = ops.size → ClosedL md ops listed → rd.length + tl.length = fuel → rtHeadT md ops z tl rd listed = true → readsQ P ops S (fun a' => tailW P ops S Q (pickOps l tl) a' w) (pickOps l rd) a → wpAnyW P md ops Q S z fuel listed a w
 | [], fuel, listed, a, hs, _, hf, hB, h => wpAnyW_tail hl tl fuel listed a w (by simpa using hf) hB h
 | k :: rd, fuel, listed, a, hs, hcl, hf, hB, h => by
  simp only [rtHeadT, Bool.and_eq_true, decide_eq_true_eq] at hB
  obtain ⟨⟨⟨⟨h1, h2⟩, h3⟩, h4⟩, h5⟩ := hB
  obtain ⟨o, ho⟩ : ∃ o, l[k]? = some o := ⟨l[k]'(by subst hl; simpa using h3), by rw [List.getElem?_eq_getElem]⟩
  have ho' : ops[k]? = some o := by subst hl; simpa using ho
  have e : pickOps l (k :: rd) = o :: pickOps l rd := by unfold pickOps; simp [ho]
  rw [e] at h
  obtain ⟨v, hy, hK⟩ := h
  obtain ⟨f, rfl⟩ : ∃ f, fuel = f + 1 := ⟨fuel - 1, by simp at hf; omega⟩
  have hr : k ∈ Region.ready md ops listed := by simpa using h1
  exact wpAnyW_firstT h4 ho' (Region.noSelect_spec hsel) (fun c a w h => by cases hd : o.dst with | none => rw [hd] at h; exact h | some d => rw [hd] at h; exact hQ c _ _ _ w h) f listed a w hs hcl (Region.free_spec ho' h2) hr hy hS
   (wpAnyW_headT hl hsel hQ hS tl rd f _ _ (by simpa using hs) (hcl.set hr) (by simp at hf; omega) h5 hK)
theorem wp_region_rtt {id : Nat} {l : List Oper} {a : Act} {w : World} (S : World → Prop) (z : Nat) (rd tl : List Nat) (hm : P.follows .mixedOrders = true) (hB : rtBT .any l.toArray z rd tl = true) (hQ : ∀ c a d v w, Q (.panic c) (Act.put a (some d) v) w → Q (.panic c) a w) (hS : S w.drew)
  (h : readsQ P l.toArray S (fun a' => tailW P l.toArray S Q (pickOps l tl) a' w.drew) (pickOps l rd) a) : (Code.region id l.toArray true).wp P Q a w := by
 simp only [rtBT, Bool.and_eq_true, decide_eq_true_eq] at hB
 obtain ⟨⟨h1, h2⟩, h4⟩ := hB
 refine wp_region_any hm (wpAny_of_weak (S := S) (z := z) _ _ _ _ ?_)
 exact wpAnyW_headT rfl h1 hQ hS tl rd _ _ a (by simp) (closedL_nil _) h2 h4 h
end
end Go.Proofs.YtgahbngbpfilgaaGreat
end
section
set_option maxHeartbeats 4000000
set_option maxRecDepth 100000
namespace Go.Proofs.YtgahbngbpfilgaaGreat
open Go Go.RowKit
def refusalS (r : Int) : List PanicEntry := [{ v := .iface 96 (.agg #[.int .i64 r]), recovered := false }]
def endS (r : Int) : Ending := if r = 0 then .returned (.tuple #[]) else .panicked (refusalS r)
def mustS (c : Bool) (r : Int) : Ending := match c with
 | true => .returned (.tuple #[])
 | false => .panicked (refusalS r)
theorem stepMust_any (c : Bool) (r : Int) (w : World) : Calls Tryz.prog 123 #[.bool c, .int .i64 r] w fun e w' => e = mustS c r ∧ w' = w := by
 have hpn := @run_panic_iface Tryz.prog
 cases c with
 | true =>
  go_enter Tryz.func123, Tryz.ntmps123
  go_wp2_with fail
  go_end0
  exact ⟨rfl, rfl⟩
 | false =>
  go_enter Tryz.func123, Tryz.ntmps123
  go_wp2_with fail
  exact ⟨rfl, rfl, rfl⟩
structure EngS (w : World) (B b eb : Nat) (p : List GFunc) (a : Option Addr) (cp : Nat) (P : PState) : Prop where
 own : OwnS w B b P
 eng : Eng w eb b p a cp
 off : eb ∉ b :: P.bl
theorem EngS.ext {w w' : World} {B b eb : Nat} {p : List GFunc} {a : Option Addr} {cp : Nat} {P : PState} (h : EngS w B b eb p a cp P) (he : Ext w w') : EngS w' B b eb p a cp P := ⟨h.own.ext he, h.eng.ext he, h.off⟩
theorem Eng.chg {M : Nat → Prop} {w w' : World} {eb b : Nat} {p : List GFunc} {a : Option Addr} {cap : Nat} (h : Eng w eb b p a cap) (hc : Chg M w w') (hM : ¬ M eb) : Eng w' eb b p a cap := ⟨h.e0.chg hc hM, h.e1.chg hc hM⟩
theorem EngS.with {w w' : World} {B b eb : Nat} {p : List GFunc} {a : Option Addr} {cp : Nat} {P P' : PState} (h : EngS w B b eb p a cp P) (hc : Chg (· ∈ b :: P.bl) w w') (ho : OwnS w' B b P') (hs : ∀ g ∈ P'.bl, g ∈ P.bl ∨ w.heap.size ≤ g) : EngS w' B b eb p a cp P' :=
 ⟨ho, h.eng.chg hc h.off, not_grown' h.off hs h.eng.e0.lt⟩
where
 not_grown' {P P5 : PState} {b bx n : Nat} (h : bx ∉ b :: P.bl) (hs : ∀ g ∈ P5.bl, g ∈ P.bl ∨ n ≤ g) (hlt : bx < n) : bx ∉ b :: P5.bl := fun hm => by
  rcases List.mem_cons.1 hm with rfl | h1
  ·exact h List.mem_cons_self
  ·rcases hs bx h1 with h2 | h2
   ·exact h (List.mem_cons_of_mem _ h2)
   ·omega
theorem EngS.turn {w w' : World} {B b eb : Nat} {p : List GFunc} {a : Option Addr} {cp : Nat} {P : PState} {s : GState} (h : EngS w B b eb p a cp P) (t : Turn w w' B b P s) :
  ∃ P', EngS w' B b eb p a cp P' ∧ P'.g = s ∧ (∀ g ∈ P'.bl, g ∈ P.bl ∨ w.heap.size ≤ g) ∧ Chg (· ∈ b :: P.bl) w w' := by
 obtain ⟨⟨P', o, e, hs⟩, hc⟩ := t
 exact ⟨P', h.with hc o hs, e, hs, hc⟩
theorem engPush_any {P : PState} {w : World} {B b eb : Nat} {p : List GFunc} {a : Option Addr} {cp lb lo lc : Nat} (h : OwnS w B b P) (hE : Eng w eb b p a cp) (ht : HasTop P.g P.g.now) (hr : Room P.g) (v : Int) (hv : I64 v) (hc : w.cell? ⟨lb, lo, none⟩ = some (.int .i64 v)) :
  Calls Tryz.prog 74 #[.pointer (some ⟨eb, 0, none⟩), .slice (some ⟨lb, lo, none⟩) 1 lc] w fun e w' => e = .returned (.tuple #[]) ∧ Turn w w' B b P (pushG P.g P.g.now v) := by
 obtain ⟨L, y, R, F, x, hs, hn⟩ := hasSpot ht
 have hn : P.now = (L.length : Int) := hn
 have hx : x.f.stack.length < 1000 := hr y.g (by unfold PState.g; rw [hs.fs]; simp) x.f (by unfold PFiber.g; rw [hs.fr]; simp)
 refine (engPush_at h hE hs hn v hv hx hc).mono ?_
 rintro e w' ⟨rfl, ⟨v1, o1, hv1⟩, hc⟩
 exact ⟨rfl, ⟨⟨_, o1, (modTop_at hs (show P.g.now = _ from hn) rfl).symm, repl_bl hs (frame_bl hv1)⟩, chg_spot hs hc⟩⟩
theorem engPush_new {P : PState} {w : World} {B b eb : Nat} {p : List GFunc} {a : Option Addr} {cp : Nat} (h : OwnS w B b P) (hE : Eng w eb b p a cp) (ht : HasTop P.g P.g.now) (hr : Room P.g) (v : Int) (hv : I64 v) (t : TypeId) :
  Calls Tryz.prog 74 #[.pointer (some ⟨eb, 0, none⟩), .slice (some ⟨w.heap.size, 0, none⟩) 1 1] (w.alloc (.cells #[.int .i64 v] t)) fun e w' => e = .returned (.tuple #[]) ∧ Turn w w' B b P (pushG P.g P.g.now v) := by
 have he : Ext w (w.alloc (.cells #[.int .i64 v] t)) := (Ext.refl _).alloc _
 refine (engPush_any (h.ext he) (hE.ext he) ht hr v hv (by simp)).mono ?_
 rintro e w' ⟨rfl, h⟩
 exact ⟨rfl, Turn.pre he h⟩
theorem drop_two (s : GState) (ht : HasTop s s.now) (h : 2 ≤ (curX s).stack.length) : (curX s).stack.drop ((curX s).stack.length - 2) = [lastV (popG s), lastV s] := by
 obtain ⟨F, y, e⟩ := split_last (curX s).stack (by omega)
 obtain ⟨F', x, e'⟩ := split_last F (by rw [e] at h; simp at h; omega)
 subst e'
 have h1 : lastV s = y := by unfold lastV; rw [e]; exact getD_last _ _ _ _ rfl
 have h2 : lastV (popG s) = x := by
  unfold lastV
  rw [curX_pop s ht]
  show ((curX s).stack.dropLast).getD ((curX s).stack.dropLast.length - 1) 0 = x
  rw [e, List.dropLast_concat]
  exact getD_last _ _ _ _ rfl
 rw [h1, h2, e]
 simp
theorem leave_two (s : GState) : leaveG s 2 = popG (popG s) := by rw [leave_succ, leave_one]
theorem ints_two {w : World} {S : Nat → Prop} {v : Value} {x y : Int} (h : Ints w S v [x, y]) : ∃ b o c, v = .slice (some ⟨b, o, none⟩) 2 c ∧ w.cell? ⟨b, o, none⟩ = some (.int .i64 x) ∧ w.cell? ⟨b, o + 1, none⟩ = some (.int .i64 y) ∧ I64 x ∧ I64 y := by
 obtain ⟨b1, o1, c1, e, _, _, _, h0, i0⟩ := Sl.get h (i := 0) (by simp)
 obtain ⟨b2, o2, c2, e2, _, _, _, h1, i1⟩ := Sl.get h (i := 1) (by simp)
 rw [e] at e2
 simp only [Value.slice.injEq, Option.some.injEq, Addr.mk.injEq] at e2
 obtain ⟨⟨rfl, rfl, -⟩, -, rfl⟩ := e2
 simp only [Nat.zero_mul, Nat.add_zero, Nat.one_mul, List.getElem_cons_zero, List.getElem_cons_succ] at h0 h1 i0 i1
 exact ⟨b1, o1, c1, e, h0, h1, i0, i1⟩
theorem engTwo_any (kd : Int) (k : Nat) (hcf : ∀ (args : Array Value) (W : World), (callFunc k args).run Tryz.prog W = .ok (Next.enter k args) W) (hof : ∀ (x y : Int) (W : World), Calls Tryz.prog k #[.int .i64 x, .int .i64 y] W fun e W' => e = .returned (.int .i64 (reckG kd x y)) ∧ W' = W) (hI : ∀ x y, I64 (reckG kd x y)) {P : PState} {w : World} {B b eb : Nat} {p : List GFunc} {a : Option Addr} {cp : Nat}
  (h : EngS w B b eb p a cp P) (ht : HasTop P.g P.g.now) (hr : Room P.g) (hl : 2 ≤ (curX P.g).stack.length) :
  Calls Tryz.prog 77 #[.pointer (some ⟨eb, 0, none⟩), .func (.func k) #[] #[]] w fun e w' => e = .returned (.tuple #[]) ∧ Turn w w' B b P (pushG (popG (popG P.g)) P.g.now (reckG kd (lastV (popG P.g)) (lastV P.g))) := by
 have H := Lib.hid h
 have HT := Lib.hid ht
 have HL := Lib.hid hl
 have HD := Lib.hid (drop_two _ ht hl)
 have HR := Lib.hid hr
 have HOF := Lib.hid hof
 have HII := Lib.hid hI
 clear h ht hl hr hof hI
 have RA := alloc_keep
 generalize hx : lastV (popG P.g) = x at *
 generalize hy : lastV P.g = y at *
 clear hx hy
 go_enter Tryz.func77, Tryz.ntmps77
 go_upto_region 1 with (first
  | (go_at_call 75; (with_reducible refine (engPull_k H.out.own H.out.eng HT.out 2 HL.out 2 rfl).mono ?_); rintro e w2 ⟨v1, rfl, hv, t2⟩; rw [HD.out] at hv; rw [leave_two] at t2; obtain ⟨b1, o1, c1, rfl, c0, c1', _, _⟩ := ints_two hv))
 obtain ⟨P2, h2, g2, bl2, ch2⟩ := H.out.turn t2
 have H2 := Lib.hid h2
 have HT2 : Hid (HasTop P2.g P2.g.now) := by unfold Hid; rw [g2]; exact HT.out.pop.pop
 have HR2 : Hid (Room P2.g) := by unfold Hid; rw [g2]; exact HR.out.pop.pop
 clear h2 t2 hv
 refine wp_region_rtt (fun w' => w'.cell? ⟨b1, o1, none⟩ = some (.int .i64 x) ∧ w'.cell? ⟨b1, o1 + 1, none⟩ = some (.int .i64 y)) 10 [0, 1, 2, 3, 4, 5, 6, 7] [8, 9, 10] (by kernel_rfl) (by kernel_rfl) (fun _ _ _ _ _ h => h) (by exact ⟨c0, c1'⟩) ?_
 (try simp only [pickOps, List.filterMap_cons, List.filterMap_nil, List.getElem?_cons_zero, List.getElem?_cons_succ])
 repeat (
  refine readsQ_do (by rfl) ?_
  apply Exists.intro
  refine ⟨fun w' hw' => ?_, ?_⟩
  focus
   (try dsimp only at hw')
   go_split_ands
   go_simp
   (try with_reducible rfl)
  (try dsimp only [Act.put])
  (try simp only [List.setIfInBounds_toArray, List.set_cons_succ, List.set_cons_zero]))
 refine readsQ_nil ?_
 refine tailW_step ?_
 go_wp2_with (first
  | ((with_reducible refine (HOF.out x y _).mono ?_); rintro e w3 ⟨rfl, rfl⟩))
 refine nextW_go (by exact ⟨c0, c1'⟩) ?_
 refine tailW_step ?_
 go_wp2_with fail
 refine nextW_go (by constructor <;> simp [*]) ?_
 refine tailW_step ?_
 go_wp2_with (first
  | (go_at_call 74; (with_reducible refine (engPush_any (H2.out.own.ext (by ((repeat (first | assumption | exact Ext.refl _ | (exact And.left (by assumption)) | refine Ext.alloc ?_ _ | refine Ext.drew ?_ | refine Ext.drewN ?_ _ | refine Ext.setCell ?_ (by simp) _ | refine Ext.setCell ?_ (by simp; omega) _ | refine Ext.trans ?_ (by assumption))); done))) (H2.out.eng.ext (by ((repeat (first | assumption | exact Ext.refl _ | (exact And.left (by assumption)) | refine Ext.alloc ?_ _ | refine Ext.drew ?_ | refine Ext.drewN ?_ _ | refine Ext.setCell ?_ (by simp) _ | refine Ext.setCell ?_ (by simp; omega) _ | refine Ext.trans ?_ (by assumption))); done))) HT2.out HR2.out _ (HII.out x y) (by simp)).mono ?_); rintro e w4 ⟨rfl, t4⟩))
 refine nextW_end ?_
 go_end0
 rw [g2] at t4
 exact ⟨rfl, Turn.step ch2 bl2 (Turn.pre (show Ext w2 (w2.alloc (.cells #[.int .i64 (reckG kd x y)] 3)).drew by ((repeat (first | assumption | exact Ext.refl _ | (exact And.left (by assumption)) | refine Ext.alloc ?_ _ | refine Ext.drew ?_ | refine Ext.drewN ?_ _ | refine Ext.setCell ?_ (by simp) _ | refine Ext.setCell ?_ (by simp; omega) _ | refine Ext.trans ?_ (by assumption))); done)) t4)⟩
theorem clos4 (x y : Int) (W : World) : Calls Tryz.prog 78 #[.int .i64 x, .int .i64 y] W fun e W' => e = .returned (.int .i64 (reckG 4 x y)) ∧ W' = W := by
 go_enter Tryz.func78, Tryz.ntmps78
 go_wp2_with fail
 go_ret
 exact ⟨rfl, rfl⟩
theorem clos5 (x y : Int) (W : World) : Calls Tryz.prog 79 #[.int .i64 x, .int .i64 y] W fun e W' => e = .returned (.int .i64 (reckG 5 x y)) ∧ W' = W := by
 go_enter Tryz.func79, Tryz.ntmps79
 go_wp2_with fail
 go_ret
 exact ⟨rfl, rfl⟩
theorem clos6 (x y : Int) (W : World) : Calls Tryz.prog 80 #[.int .i64 x, .int .i64 y] W fun e W' => e = .returned (.int .i64 (reckG 6 x y)) ∧ W' = W := by
 go_enter Tryz.func80, Tryz.ntmps80
 go_wp2_with fail
 go_ret
 exact ⟨rfl, rfl⟩
theorem stepTruth_any (t : Bool) (w : World) : Calls Tryz.prog 82 #[.bool t] w fun e w' => e = .returned (.int .i64 (truthG t)) ∧ w' = w := by
 cases t with
 | true =>
  go_enter Tryz.func82, Tryz.ntmps82
  go_wp2_with fail
  go_ret
  exact ⟨rfl, rfl⟩
 | false =>
  go_enter Tryz.func82, Tryz.ntmps82
  go_wp2_with fail
  go_ret
  exact ⟨rfl, rfl⟩
theorem clos7 (x y : Int) (W : World) : Calls Tryz.prog 81 #[.int .i64 x, .int .i64 y] W fun e W' => e = .returned (.int .i64 (reckG 7 x y)) ∧ W' = W := by
 go_enter Tryz.func81, Tryz.ntmps81
 go_wp2_with (first
  | (go_at_call 82; refine (stepTruth_any _ _).mono ?_; rintro e w2 ⟨rfl, rfl⟩))
 go_ret
 exact ⟨rfl, rfl⟩
theorem clos8 (x y : Int) (W : World) : Calls Tryz.prog 83 #[.int .i64 x, .int .i64 y] W fun e W' => e = .returned (.int .i64 (reckG 8 x y)) ∧ W' = W := by
 go_enter Tryz.func83, Tryz.ntmps83
 go_wp2_with (first
  | (go_at_call 82; refine (stepTruth_any _ _).mono ?_; rintro e w2 ⟨rfl, rfl⟩))
 go_ret
 exact ⟨by show Ending.returned (Value.int .i64 (truthG (x == y))) = .returned (.int .i64 (truthG (decide (x = y)))); rw [beq_dec], rfl⟩
theorem engPut_any {P : PState} {w : World} {B b eb : Nat} {p : List GFunc} {a : Option Addr} {cp : Nat} (h : EngS w B b eb p a cp P) (hl : P.g.out.length ≤ 30) (v : Int) (hv : I64 v) :
  Calls Tryz.prog 110 #[.pointer (some ⟨eb, 0, none⟩), .int .i64 v] w fun e w' => e = endS (putG P.g v).1 ∧ Did w w' B b P (putG P.g v) := by
 have hl' : P.out.length ≤ 30 := hl
 obtain ⟨ao, co, eo, hco, hmo⟩ := h.own.out.shape
 have HRO : Hid (RowAt w B 1 (.slice ao P.out.length co) P.out.length (ints P.out)) := by unfold Hid; rw [← eo]; exact h.own.out
 obtain ⟨c2, c2'⟩ := h.own.c2
 rw [eo] at c2
 obtain ⟨⟨x0, x0'⟩, -⟩ := h.eng
 have HEO := Lib.hid eo
 have H := Lib.hid h
 have HB : Hid (B ≤ w.heap.size) := Nat.le_trans h.own.le (Nat.le_of_lt h.own.c0.lt)
 have HBO : Hid (∀ k, rowBlock (.slice ao P.out.length co) = some k → k ≠ b ∧ k ≠ eb) := by
  unfold Hid; rw [← eo]
  exact fun k e => ⟨fun e' => h.own.dis.1 (PState.mem_vo (e' ▸ e)), fun e' => h.off (List.mem_cons_of_mem _ (PState.mem_vo (e' ▸ e)))⟩
 obtain ⟨i0, hi0, hz0, hz1, hz2⟩ := info_parts infoI
 have RA := alloc_keep
 by_cases h30 : P.out.length = 30
 ·have HG : Hid (putG P.g v = (2, P.g)) := by unfold Hid putG; rw [if_pos (show P.g.out.length = 30 from h30)]
  rw [HG.out]
  have T : decide (((P.out.length : Nat) : Int) < 30) = false := decide_eq_false (by omega)
  clear h eo h30 hl hl' hco hmo
  generalize P.out.length = m at *
  go_enter Tryz.func110, Tryz.ntmps110
  go_wp2_with (first
   | (go_at_call 123; (with_reducible refine (stepMust_any _ _ _).mono ?_); rintro e w2 ⟨he, rfl⟩; simp only [mustS] at he; subst he))
  exact ⟨rfl, rfl, ⟨Chg.refl _ _, fun h => by cases h⟩⟩
 ·have HG : Hid (putG P.g v = (0, { P.g with out := P.g.out ++ [v] })) := by unfold Hid putG; rw [if_neg (show ¬ P.g.out.length = 30 from h30)]
  rw [HG.out]
  have T : decide (((P.out.length : Nat) : Int) < 30) = true := decide_eq_true (by omega)
  clear h eo h30 hl hco hmo
  go_enter Tryz.func110, Tryz.ntmps110
  go_upto_region 1 with (first
   | (go_at_call 123; (with_reducible refine (stepMust_any _ _ _).mono ?_); rintro e w2 ⟨he, rfl⟩; simp only [mustS] at he; subst he))
  refine wp_region_rt (fun w' => w'.cell? ⟨eb, 0, none⟩ = some (.pointer (some ⟨b, 0, none⟩)) ∧ w'.cell? ⟨b, 2, none⟩ = some (.slice ao P.out.length co)) 16 [0, 1, 2, 3, 4, 5, 6, 7, 8, 9, 10, 11] [12, 13, 14, 15, 16] (by kernel_rfl) (by kernel_rfl) (fun _ _ _ _ _ h => h) (by refine ⟨?_, ?_⟩ <;> simpa) ?_
  (try simp only [pickOps, List.filterMap_cons, List.filterMap_nil, List.getElem?_cons_zero, List.getElem?_cons_succ])
  repeat (
   refine readsQ_do (by rfl) ?_
   apply Exists.intro
   refine ⟨fun w' hw' => ?_, ?_⟩
   focus
    (try dsimp only at hw')
    go_split_ands
    go_simp
    (try with_reducible rfl)
   (try dsimp only [Act.put])
   (try simp only [List.setIfInBounds_toArray, List.set_cons_succ, List.set_cons_zero]))
  refine readsQ_nil ?_
  refine tailW_step ?_
  go_wp2_with fail
  have RX := Lib.hid (show Ext w2 w2.drew from (Ext.refl _).drew)
  refine nextW_go (by constructor <;> simp [*]) ?_
  refine tailW_step ?_
  go_wp2_with (first
   | (at_builtin; refine wpList_append_row rfl _ _ 24 rfl B 3 i0 (.int .i64 0) 1 8 Tryz.underlying24 hi0 hz0 hz1 hz2 rfl (by decide) _ _ _ rfl (by exact (HRO.out.ext (by ((repeat (first | assumption | exact Ext.refl _ | (exact And.left (by assumption)) | refine Ext.alloc ?_ _ | refine Ext.drew ?_ | refine Ext.drewN ?_ _ | refine Ext.setCell ?_ (by simp) _ | refine Ext.setCell ?_ (by simp; omega) _ | refine Ext.trans ?_ (by assumption))); done)) (by decide))) 1 (ints [v]) (src_one _ _ _) (by unfold maxLen; omega) (by omega) (by exact Nat.le_trans HB.out (Ext.size (show Ext w2 _ by ((repeat (first | assumption | exact Ext.refl _ | (exact And.left (by assumption)) | refine Ext.alloc ?_ _ | refine Ext.drew ?_ | refine Ext.drewN ?_ _ | refine Ext.setCell ?_ (by simp) _ | refine Ext.setCell ?_ (by simp; omega) _ | refine Ext.trans ?_ (by assumption))); done)))) ?_; intro v1 Wv1 rv1; have RV := Lib.hid rv1; obtain ⟨a9, cap9, rfl, _, _⟩ := rv1.1.shape; clear rv1))
  have hRV : NewRow (w2.alloc (.cells #[.int .i64 v] 3)).drew Wv1 B 1 (.slice ao P.out.length co) (.slice a9 (P.out.length + 1) cap9) (P.out.length + 1) (ints P.out ++ ints [v]) := RV.out
  have hA : Ext w2 (w2.alloc (.cells #[.int .i64 v] 3)).drew := by ((repeat (first | assumption | exact Ext.refl _ | (exact And.left (by assumption)) | refine Ext.alloc ?_ _ | refine Ext.drew ?_ | refine Ext.drewN ?_ _ | refine Ext.setCell ?_ (by simp) _ | refine Ext.setCell ?_ (by simp; omega) _ | refine Ext.trans ?_ (by assumption))); done)
  obtain ⟨k0, k0'⟩ := (Cx.ext (W := w2) ⟨c2, c2'⟩ hA).chg hRV.2.1 (fun e => (HBO.out b e).1 rfl)
  obtain ⟨k1, k1'⟩ := (Cx.ext (W := w2) ⟨x0, x0'⟩ hA).chg hRV.2.1 (fun e => (HBO.out eb e).2 rfl)
  refine nextW_go (by exact ⟨k1, k0⟩) ?_
  refine tailW_step ?_
  go_wp2_with fail
  refine nextW_go (by exact ⟨k1, k0⟩) ?_
  refine tailW_step ?_
  go_wp2_with fail
  refine nextW_go (by exact ⟨k1, k0⟩) ?_
  refine tailW_step ?_
  go_wp2_with fail
  refine nextW_end ?_
  go_end0
  obtain ⟨r1, r2, r3⟩ := hRV
  have hfin := H.out.own.setOut (W1 := Wv1) (out := P.out ++ [v]) (v1 := .slice a9 (P.out.length + 1) cap9)
   ((Chg.of_ext hA).trans (r2.mono (fun k _ e => by rw [HEO.out]; exact e)))
   (by rw [List.length_append, List.length_singleton, ints_app]; exact r1) (fun k hk => by rcases List.mem_append.1 hk with h1 | h1; exact H.out.own.i.2 k h1; rw [List.mem_singleton.1 h1]; exact hv)
   (by rw [List.length_append, List.length_singleton]; omega) (r3.imp (fun e => by rw [HEO.out]; exact e) (fun e k hk => Nat.le_trans hA.size (e k hk)))
  refine ⟨rfl, Did.of ⟨⟨_, hfin.1, rfl, fun g hg => ?_⟩, hfin.2⟩⟩
  unfold PState.bl at hg
  rcases List.mem_append.1 hg with h1 | h1
  ·rcases List.mem_append.1 h1 with h2 | h2
   ·exact .inl (PState.mem_vfs (by simpa using h2))
   ·have h3 : rowBlock (.slice a9 (P.out.length + 1) cap9) = some g := by simpa using h2
    rcases r3 with e | e
    ·exact .inl (PState.mem_vo (by rw [HEO.out, ← e]; exact h3))
    ·exact .inr (Nat.le_trans hA.size (e g h3))
  ·obtain ⟨z, hz, h2⟩ := List.mem_flatMap.1 h1
   exact .inl (PState.mem_fs hz h2)
theorem engBack_any {P : PState} {w : World} {B b eb : Nat} {p : List GFunc} {a : Option Addr} {cp : Nat} (h : EngS w B b eb p a cp P) (ht : 0 ≤ P.g.now ∧ P.g.now < P.g.fibers.length) (hr : Room P.g) (hc : HasTop { modFib P.g P.g.now (fun f => { f with caller := -1 }) with now := (curF P.g).caller } (curF P.g).caller) (v : Int) (hv : I64 v) :
    Calls Tryz.prog 124 #[.pointer (some ⟨eb, 0, none⟩), .int .i64 v] w fun e w' => e = .returned (.tuple #[]) ∧ Turn w w' B b P (backG P.g v) := by
  obtain ⟨L, y, R, hP, hn⟩ := hasFib (P := P) (n := P.now) ⟨ht.1, by have := ht.2; simpa [PState.g] using this⟩
  have hcur : (curF P.g).caller = y.caller := by rw [curF_at hP hn]; rfl
  rw [hcur] at hc
  obtain ⟨g, o, cap, hvf, hlt, d0, ⟨d1, d1'⟩, hbl⟩ := h.own.place hP
  obtain ⟨⟨c0, c0'⟩, ⟨k1, k1'⟩⟩ := (⟨h.own.c0, h.own.c1⟩ : _ ∧ _)
  obtain ⟨⟨x0, x0'⟩, -⟩ := h.eng
  rw [hvf] at c0
  rw [hn] at k1
  have hgb : ¬ g = b := fun e => h.own.dis.1 (e ▸ PState.mem_vfs hbl)
  have hge : ¬ eb = g := fun e => h.off (List.mem_cons_of_mem _ (e ▸ PState.mem_vfs hbl))
  have hbe : ¬ eb = b := fun e => h.off (by rw [e]; exact List.mem_cons_self)
  have hbg : ¬ b = g := fun e => hgb e.symm
  have H := Lib.hid h
  have HP := Lib.hid hP
  have HNW := Lib.hid hn
  have HVF := Lib.hid hvf
  have HC := Lib.hid hc
  have HR := Lib.hid hr
  have HCU := Lib.hid hcur
  clear h d0 hcur hc hr ht hn hP hvf
  have RA := alloc_keep
  generalize hL : L.length = n at *
  generalize hcl : y.caller = cl at *
  have HL := Lib.hid hL
  have HCL := Lib.hid hcl
  clear hL hcl
  go_enter Tryz.func124, Tryz.ntmps124
  go_upto_region 0 with fail
  refine wp_region_ext (by kernel_rfl) (by kernel_rfl) ?_
  repeat (first
    | go_big_quiet_skip
    | (go_big_quiet_want
       unfold Oper.quiet
       apply Exists.intro
       refine ⟨fun w' hw' => ?_, ?_⟩
       focus
         have hcq := Ext.keep hw'
         go_simp
         first
           | with_reducible rfl
       (try dsimp only [Act.put])
       (try simp only [List.setIfInBounds_toArray, List.set_cons_succ, List.set_cons_zero])
       go_big_quiet_on))
  refine wpQuiet_nil ?_
  intro wq hq
  obtain ⟨d1, d1'⟩ := Cx.ext (W := w) ⟨d1, d1'⟩ hq
  obtain ⟨k1, k1'⟩ := Cx.ext (W := w) ⟨k1, k1'⟩ hq
  obtain ⟨x0, x0'⟩ := Cx.ext (W := w) ⟨x0, x0'⟩ hq
  have HQ := Lib.hid hq
  clear hq
  go_upto_region 1 with fail
  refine wp_region_rt (fun w' => w'.cell? ⟨eb, 0, none⟩ = some (.pointer (some ⟨b, 0, none⟩)) ∧ w'.cell? ⟨g, o + n * 2 + 1, none⟩ = some (.int .i64 cl)) 14 [0, 1, 2, 3, 4, 5, 6, 7, 8, 9, 10] [11, 12, 13, 14] (by kernel_rfl) (by kernel_rfl) (fun _ _ _ _ _ h => h) (by exact ⟨x0, d1⟩) ?_
  (try simp only [pickOps, List.filterMap_cons, List.filterMap_nil, List.getElem?_cons_zero, List.getElem?_cons_succ])
  repeat (
    refine readsQ_do (by rfl) ?_
    apply Exists.intro
    refine ⟨fun w' hw' => ?_, ?_⟩
    focus
      (try dsimp only at hw')
      go_split_ands
      go_simp
      (try with_reducible rfl)
    (try dsimp only [Act.put])
    (try simp only [List.setIfInBounds_toArray, List.set_cons_succ, List.set_cons_zero]))
  refine readsQ_nil ?_
  refine tailW_step ?_
  go_wp2_with fail
  have e0 := (Cx.other (W := wq.drew) ⟨x0, x0'⟩ (b' := b) (j' := 1) (.inl hbe) (.int .i64 cl)).1
  have e1 := (Cx.other (W := wq.drew) ⟨d1, d1'⟩ (b' := b) (j' := 1) (.inl hgb) (.int .i64 cl)).1
  refine nextW_go (by exact ⟨e0, e1⟩) ?_
  refine tailW_step ?_
  go_wp2_with fail
  refine nextW_go (by exact ⟨e0, e1⟩) ?_
  refine tailW_step ?_
  go_wp2_with fail
  refine nextW_go (by exact ⟨e0, e1⟩) ?_
  refine tailW_step ?_
  go_wp2_with fail
  refine nextW_end ?_
  have hEq := HQ.out
  obtain ⟨P1, o1, g1, b1, ch1⟩ := (H.out.ext hEq).own.back HP.out (by rw [HL.out]; exact HNW.out) HVF.out
  rw [HL.out, HCL.out] at o1 ch1
  rw [HCL.out] at g1
  have hb1 : ∀ k ∈ P1.bl, k ∈ P.bl ∨ wq.heap.size ≤ k := fun k hk => .inl ((b1 k).1 hk)
  have HE1 := Lib.hid ((H.out.ext hEq).with ch1 o1 hb1)
  have CH1 := Lib.hid ((Chg.of_ext hEq).trans ch1)
  have HT1 : Hid (HasTop P1.g P1.g.now) := by unfold Hid; rw [g1]; exact HC.out
  have HR1 : Hid (Room P1.g) := by unfold Hid; rw [g1]; exact HR.out.caller _ _
  have HG : Hid (backG P.g v = pushG P1.g P1.g.now v) := by unfold Hid backG; rw [g1, HCU.out]
  have HB1 : Hid (∀ k ∈ P1.bl, k ∈ P.bl ∨ w.heap.size ≤ k) := fun k hk => .inl ((b1 k).1 hk)
  clear ch1 o1 g1 hb1
  obtain ⟨W0, hW0⟩ : ∃ W0, W0 = (wq.setCell ⟨b, 1, none⟩ (.int .i64 cl)).setCell ⟨g, o + n * 2 + 1, none⟩ (.int .i64 (-1)) := ⟨_, rfl⟩
  rw [← hW0] at HE1 CH1
  simp only [← hW0]
  clear hW0
  go_wp2_with (first
    | (go_at_call 74; (with_reducible refine (engPush_any (HE1.out.own.ext (by ((repeat (first | assumption | exact Ext.refl _ | (exact And.left (by assumption)) | refine Ext.alloc ?_ _ | refine Ext.drew ?_ | refine Ext.drewN ?_ _ | refine Ext.setCell ?_ (by simp) _ | refine Ext.setCell ?_ (by simp; omega) _ | refine Ext.trans ?_ (by assumption))); done))) (HE1.out.eng.ext (by ((repeat (first | assumption | exact Ext.refl _ | (exact And.left (by assumption)) | refine Ext.alloc ?_ _ | refine Ext.drew ?_ | refine Ext.drewN ?_ _ | refine Ext.setCell ?_ (by simp) _ | refine Ext.setCell ?_ (by simp; omega) _ | refine Ext.trans ?_ (by assumption))); done))) HT1.out HR1.out v hv (by simp)).mono ?_); rintro e w4 ⟨rfl, t4⟩))
  go_end0
  rw [HG.out]
  exact ⟨rfl, Turn.step CH1.out HB1.out (Turn.pre (show Ext W0 (W0.alloc (.cells #[.int .i64 v] 3)).drew by ((repeat (first | assumption | exact Ext.refl _ | (exact And.left (by assumption)) | refine Ext.alloc ?_ _ | refine Ext.drew ?_ | refine Ext.drewN ?_ _ | refine Ext.setCell ?_ (by simp) _ | refine Ext.setCell ?_ (by simp; omega) _ | refine Ext.trans ?_ (by assumption))); done)) t4)⟩
theorem engYield_any {P : PState} {w : World} {B b eb : Nat} {p : List GFunc} {a : Option Addr} {cp : Nat} (h : EngS w B b eb p a cp P) (ht : HasTop P.g P.g.now) (hr : Room P.g) (hl : 1 ≤ (curX P.g).stack.length) (hb : BackFit (popG P.g)) :
    Calls Tryz.prog 109 #[.pointer (some ⟨eb, 0, none⟩)] w fun e w' => e = endS (yieldG P.g).1 ∧ Did w w' B b P (yieldG P.g) := by
  have hLI := h.own.lastI ht hl
  have H := Lib.hid h
  have HT := Lib.hid ht
  have HL := Lib.hid hl
  clear h
  have RA := alloc_keep
  generalize hv : lastV P.g = v at *
  have HV := Lib.hid hv
  go_enter Tryz.func109, Tryz.ntmps109
  go_upto_region 1 with (first
    | (go_at_call 76; (with_reducible refine (engOne_any H.out.own H.out.eng HT.out HL.out).mono ?_); rintro e w2 ⟨rfl, t2⟩; rw [HV.out]))
  clear hv
  obtain ⟨P1, h1, g1, s1, c1⟩ := H.out.turn t2
  have hr1 : Room P1.g := by rw [g1]; exact hr.pop
  have ht1 : HasTop P1.g P1.g.now := by rw [g1]; exact ht.pop
  rw [← g1] at hb
  have HY : Hid (yieldG P.g = if (curF P1.g).caller < 0 then (7, P.g) else (0, backG P1.g v)) := by unfold Hid yieldG; rw [← g1, HV.out]
  obtain ⟨L, y, R, F, x, hs, hn⟩ := hasSpot ht1
  have hn : P1.now = L.length := hn
  have hP := hs.fs
  have hcur : (curF P1.g).caller = y.caller := by rw [curF_at hP hn]; rfl
  rw [hcur] at HY
  obtain ⟨g, o, cap, hvf, hlt, d0, ⟨d1, d1'⟩, hbl⟩ := h1.own.place hP
  obtain ⟨⟨c0, c0'⟩, ⟨k1, k1'⟩⟩ := (⟨h1.own.c0, h1.own.c1⟩ : _ ∧ _)
  obtain ⟨⟨x0, x0'⟩, -⟩ := h1.eng
  rw [hn] at k1
  rw [hvf] at c0
  have H1 := Lib.hid h1
  have HB := Lib.hid hb
  have HC1 := Lib.hid c1
  have HS1 := Lib.hid s1
  have HR1 := Lib.hid hr1
  have HT1 := Lib.hid ht1
  have HCU := Lib.hid hcur
  clear hcur hvf hb hP hn hs ht1 h1 c1 s1 hr1 d0 hbl g1 hr ht hl HT HL t2
  generalize L.length = n at *
  generalize hcl : y.caller = cl at *
  have HCL := Lib.hid hcl
  clear hcl
  by_cases hc : cl < 0
  · have T : decide (0 ≤ cl) = false := decide_eq_false (by omega)
    have HYE : Hid (yieldG P.g = (7, P.g)) := by unfold Hid; rw [HY.out, if_pos hc]
    clear hc
    refine wp_region_ext_tail 18 (by kernel_rfl) (by kernel_rfl) ?_
    simp only [List.take_succ_cons, List.take_zero, List.drop_succ_cons, List.drop_zero]
    repeat (first
      | go_big_quiet_skip
      | (go_big_quiet_want
         unfold Oper.quiet
         apply Exists.intro
         refine ⟨fun w' hw' => ?_, ?_⟩
         focus
           have hcq := Ext.keep hw'
           go_simp
           first
             | with_reducible rfl
         (try dsimp only [Act.put])
         (try simp only [List.setIfInBounds_toArray, List.set_cons_succ, List.set_cons_zero])
         go_big_quiet_on))
    refine wpQuiet_nil ?_
    intro wq hq
    go_wp2_with (first
      | (go_at_call 123; (with_reducible refine (stepMust_any _ _ _).mono ?_); rintro e w3 ⟨he, rfl⟩; simp only [mustS] at he; subst he))
    rw [HYE.out]
    exact ⟨rfl, rfl, ⟨HC1.out.trans (Chg.of_ext hq), fun h => by cases h⟩⟩
  · have T : decide (0 ≤ cl) = true := decide_eq_true (by omega)
    have HYE : Hid (yieldG P.g = (0, backG P1.g v)) := by unfold Hid; rw [HY.out, if_neg hc]
    have hbf := HB.out.resolve_left (by rw [HCU.out]; exact hc)
    have HBF := Lib.hid hbf
    have HTF : Hid (0 ≤ P1.g.now ∧ P1.g.now < P1.g.fibers.length) := ⟨HT1.out.1, HT1.out.2.1⟩
    clear hc hbf
    refine wp_region_ext_tail 18 (by kernel_rfl) (by kernel_rfl) ?_
    simp only [List.take_succ_cons, List.take_zero, List.drop_succ_cons, List.drop_zero]
    repeat (first
      | go_big_quiet_skip
      | (go_big_quiet_want
         unfold Oper.quiet
         apply Exists.intro
         refine ⟨fun w' hw' => ?_, ?_⟩
         focus
           have hcq := Ext.keep hw'
           go_simp
           first
             | with_reducible rfl
         (try dsimp only [Act.put])
         (try simp only [List.setIfInBounds_toArray, List.set_cons_succ, List.set_cons_zero])
         go_big_quiet_on))
    refine wpQuiet_nil ?_
    intro wq hq
    have H2 := Lib.hid (H1.out.ext hq)
    go_wp2_with (first
      | (go_at_call 123; (with_reducible refine (stepMust_any _ _ _).mono ?_); rintro e w3 ⟨he, rfl⟩; simp only [mustS] at he; subst he)
      | (go_at_call 124; (with_reducible refine (engBack_any H2.out HTF.out HR1.out HBF.out v hLI).mono ?_); rintro e w4 ⟨rfl, t4⟩))
    go_end0
    rw [HYE.out]
    exact ⟨rfl, Did.of (Turn.step (HC1.out.trans (Chg.of_ext hq)) HS1.out t4)⟩
end Go.Proofs.YtgahbngbpfilgaaGreat
end
