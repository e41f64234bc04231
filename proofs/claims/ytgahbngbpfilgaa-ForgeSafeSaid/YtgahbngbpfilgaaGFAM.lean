/- Merged texts: contracts and plain facts, one part behind another; each part begins with what it says. -/
import Derived.Test.YtgahbngbpfilgaaGFAE
import Derived.Test.YtgahbngbpfilgaaGFAI
import Derived.Test.YtgahbngbpfilgaaGFAJ
import Derived.Test.YtgahbngbpfilgaaGFAK
import Derived.Test.YtgahbngbpfilgaaGFAL
section
/- Contracts of forge's smith: op, here. No condition but that there is room. -/
set_option maxHeartbeats 4000000
set_option maxRecDepth 100000
namespace Go.Proofs.Ytgahbngbpfilgaa
open Go Go.RowKit

/-- A smith in a block: what is left, and the ops. -/
structure Smi (w : World) (S : Nat → Prop) (R : Nat) (e : List GNode) (c : List GOp) (v vc : Value) : Prop where
  c0 : Cx w R 0 v
  c1 : Cx w R 1 vc
  nodes : Nodes w S v e
  row : RowAt w (R + 1) 2 vc c.length (c.flatMap opF)
/-- What a smith writes. -/
def MS (R : Nat) (vc : Value) : Nat → Prop := fun b => b = R ∨ rowBlock vc = some b
/-- The row is where it was, or in a new block. -/
def Grows (w : World) (vc vc' : Value) : Prop := ∀ g, rowBlock vc' = some g → rowBlock vc = some g ∨ w.heap.size ≤ g
theorem Grows.refl (w : World) (vc : Value) : Grows w vc vc := fun _ h => .inl h
theorem Grows.trans {w w1 : World} {vc vc1 vc2 : Value} {M : Nat → Prop} (h1 : Grows w vc vc1) (hc : Chg M w w1) (h2 : Grows w1 vc1 vc2) : Grows w vc vc2 := fun g hg => by
  have := hc.size
  rcases h2 g hg with h | h
  · exact h1 g h
  · exact .inr (by omega)
theorem MS.trans {w w1 w2 : World} {R : Nat} {vc vc1 : Value} (h1 : Chg (MS R vc) w w1) (hg : Grows w vc vc1) (h2 : Chg (MS R vc1) w1 w2) : Chg (MS R vc) w w2 :=
  h1.trans' h2 (fun n hn h => by
    rcases h with h | h
    · exact .inl h
    · rcases hg n h with h | h
      · exact .inr h
      · omega)
theorem Smi.keepsN {w w' : World} {S : Nat → Prop} {R : Nat} {e : List GNode} {c : List GOp} {v vc : Value} (hS : ∀ b, S b → b < R) (h : Smi w S R e c v vc) (hc : Chg (MS R vc) w w') : Nodes w' S v e :=
  Nodes.stays (hc.stays (fun b hb hm => by
    have hb := hS b hb
    rcases hm with hm | hm
    · omega
    · have := h.row.le b hm; omega)) h.nodes

/-- One op more. -/
theorem Smi.grow {w W7 W8 : World} {S : Nat → Prop} {R : Nat} {e : List GNode} {c : List GOp} {v vc v1 : Value} {y : GOp} (hS : ∀ b, S b → b < R) (h : Smi w S R e c v vc) (he : Ext w W7)
    (hn : NewRow W7 W8 (R + 1) 2 vc v1 (c.length + 1) (c.flatMap opF ++ opF y)) :
    (Smi (W8.setCell ⟨R, 1, none⟩ v1) S R e (c ++ [y]) v v1 ∧ Chg (MS R vc) w (W8.setCell ⟨R, 1, none⟩ v1) ∧ Grows w vc v1) ∧ Cx W8 R 1 vc := by
  have hM := h.row.le
  obtain ⟨n1, hch, n3⟩ := hn
  have k0 : Cx W8 R 0 v := (h.c0.ext he).chg hch (fun e => by have := hM _ e; omega)
  have k1 : Cx W8 R 1 vc := (h.c1.ext he).chg hch (fun e => by have := hM _ e; omega)
  have hC : Chg (MS R vc) w (W8.setCell ⟨R, 1, none⟩ v1) :=
    ((Chg.of_ext he).trans (hch.mono (fun _ _ h => .inr h))).setCell (p := ⟨R, 1, none⟩) (.inl (.inl rfl)) _
  refine ⟨⟨⟨k0.other (.inr (by decide)) _, k1.set _, h.keepsN hS hC, ?_⟩, hC, fun g hg => ?_⟩, k1⟩
  · rw [List.length_append, List.length_singleton, List.flatMap_append, List.flatMap_singleton]
    exact n1.chg (chg_one W8 R 1 v1) (fun q e hq => by have := n1.le _ e; omega) (by decide)
  · rcases n3 with n3 | n3
    · exact .inl (by rw [← n3]; exact hg)
    · have := he.size
      have := n3 g hg
      exact .inr (by omega)
/-- A smith where only its own changes have come. -/
theorem Smi.ext {w w' : World} {S : Nat → Prop} {R : Nat} {e : List GNode} {c : List GOp} {v vc : Value} (h : Smi w S R e c v vc) (he : Ext w w') : Smi w' S R e c v vc :=
  ⟨h.c0.ext he, h.c1.ext he, Nodes.stays he.stays h.nodes, h.row.ext he (by decide)⟩
/-- The next node is taken. -/
theorem Smi.take {w W : World} {S : Nat → Prop} {R : Nat} {e e' : List GNode} {c : List GOp} {v v' vc : Value} (hS : ∀ b, S b → b < R) (h : Smi w S R e c v vc) (he : Ext w W) (hv : Nodes w S v' e') :
    Smi (W.setCell ⟨R, 0, none⟩ v') S R e' c v' vc ∧ Chg (MS R vc) w (W.setCell ⟨R, 0, none⟩ v') := by
  have hC : Chg (MS R vc) w (W.setCell ⟨R, 0, none⟩ v') := (Chg.of_ext he).setCell (p := ⟨R, 0, none⟩) (.inl (.inl rfl)) _
  have h2 : Smi w S R e' c v vc → Nodes (W.setCell ⟨R, 0, none⟩ v') S v' e' := fun _ => Nodes.stays (hC.stays (fun b hb hm => by
    have hb := hS b hb
    rcases hm with hm | hm
    · omega
    · have := h.row.le b hm; omega)) hv
  refine ⟨⟨(h.c0.ext he).set _, (h.c1.ext he).other (.inr (by decide)) _, Nodes.stays (hC.stays (fun b hb hm => by
    have hb := hS b hb
    rcases hm with hm | hm
    · omega
    · have := h.row.le b hm; omega)) hv, ?_⟩, hC⟩
  exact (h.row.ext he (by decide)).chg (chg_one W R 0 v') (fun q e hq => by have := h.row.le _ e; omega) (by decide)

theorem smithOp_any {S : Nat → Prop} {R : Nat} {e : List GNode} {c : List GOp} {v vc : Value} (k a : Int) {w : World} (hS : ∀ b, S b → b < R) (h : Smi w S R e c v vc) (hl : c.length ≤ 1000) :
    Calls Try.prog 56 #[.pointer (some ⟨R, 0, none⟩), .int .i64 k, .int .i64 a] w fun e' w' => e' = .returned (.int .i64 c.length) ∧
      ∃ vc', Smi w' S R e (c ++ [⟨k, a⟩]) v vc' ∧ Chg (MS R vc) w w' ∧ Grows w vc vc' := by
  have H := Lib.hid h
  have HS := Lib.hid hS
  obtain ⟨ac, cc, rfl, _, _⟩ := h.row.shape
  obtain ⟨c1, c1'⟩ := h.c1
  have hRl := h.c1.lt
  obtain ⟨o0, ho0, hoz0, hoz1, hoz2⟩ := info_parts infoO
  have RA := alloc_keep
  have KK : IntKind.i64.wrap (((c.length + 1 : Nat) : Int) - 1) = (c.length : Int) := by rw [IntWalk.i64_in _ (by omega)]; omega
  have KK2 : IntKind.i64.wrap ((c.length : Int) + 1 - 1) = (c.length : Int) := by rw [IntWalk.i64_in _ (by omega)]; omega
  clear h hS
  go_enter Try.func56, Try.ntmps56
  go_wp2_with (first
    | (at_builtin; refine wpList_append_row rfl _ _ 41 rfl (R + 1) 110 o0 (.agg #[.int .i64 0, .int .i64 0]) 2 16 Try.underlying41 ho0 hoz0 hoz1 hoz2 rfl (by decide) _ _ _ rfl (by exact H.out.row.ext ((Ext.refl _).alloc _) (by decide)) 1 (opF ⟨k, a⟩) (src_op _ ⟨k, a⟩ _) (by unfold maxLen; omega) (by omega) (by simp; omega) ?_; intro v1 Wv1 rv1; obtain ⟨a1, cap1, rfl, _, _⟩ := rv1.1.shape; have HG := Lib.hid (H.out.grow HS.out ((Ext.refl _).alloc _) rv1); obtain ⟨k20, k21⟩ := HG.out.2; obtain ⟨k30, k31⟩ := HG.out.1.1.c1))
  go_ret
  exact ⟨rfl, _, HG.out.1⟩

theorem smithHere_any {S : Nat → Prop} {R : Nat} {e : List GNode} {L Q : List GOp} {y : GOp} {v vc : Value} {w : World} (hS : ∀ b, S b → b < R) (h : Smi w S R e (L ++ y :: Q) v vc) (hl : (L ++ y :: Q).length ≤ 1000) (k n : Nat) (hk : L.length = k) (hn : (L ++ y :: Q).length = n) :
    Calls Try.prog 105 #[.pointer (some ⟨R, 0, none⟩), .int .i64 k] w fun e' w' => e' = .returned (.tuple #[]) ∧
      Smi w' S R e (L ++ ⟨y.kind, n⟩ :: Q) v vc ∧ Chg (MS R vc) w w' := by
  have H := Lib.hid h
  have HS := Lib.hid hS
  have hrow := h.row
  obtain ⟨g, o, cap, rfl, hg, hcap, hm, hpl⟩ := RowAt.place opF (fun _ => rfl) hrow
  obtain ⟨p1, p1'⟩ := hpl 1 _ (by decide) rfl
  obtain ⟨c1, c1'⟩ := h.c1
  have hle := hrow.le g hg
  have hkn : k < n := by rw [← hn, List.length_append, List.length_cons]; omega
  have HN := Lib.hid hn
  have hn1000 : n ≤ 1000 := by omega
  rw [hk] at p1 p1'
  rw [hn] at c1 hg
  have KN : (k : Int) < (n : Int) := by omega
  have hd := h.ext (Ext.refl w).drew
  have hnew : RowAt (w.drew.setCell ⟨g, o + k * 2 + 1, none⟩ (.int .i64 n)) (R + 1) 2 (.slice (some ⟨g, o, none⟩) n cap) (L ++ ⟨y.kind, n⟩ :: Q).length ((L ++ ⟨y.kind, n⟩ :: Q).flatMap opF) := by
    have := RowAt.storeAt opF (fun _ => rfl) (y' := ⟨y.kind, (n : Int)⟩) hd.row (r := 1) (by decide) (u := .int .i64 n) rfl
    rw [hk, hn] at this
    exact this
  have HNW := Lib.hid hnew
  have HD := Lib.hid hd
  have HG := Lib.hid hg
  have HK := Lib.hid hk
  clear h hd hS hrow hnew hpl hl hk hg
  rw [hn]
  clear hn
  go_enter Try.func105, Try.ntmps105
  refine wp_region_rtt (fun w' => w'.cell? ⟨R, 1, none⟩ = some (.slice (some ⟨g, o, none⟩) n cap)) 12 [0, 1, 2, 3, 4, 5, 6, 7, 8, 9, 10, 11] [12] (by kernel_rfl) (by kernel_rfl) (fun _ _ _ _ _ h => h) (by simpa using c1) ?_
  (try simp only [pickOps, List.filterMap_cons, List.filterMap_nil, List.getElem?_cons_zero, List.getElem?_cons_succ])
  repeat (
    refine readsQ_do (by rfl) ?_
    apply Exists.intro
    refine ⟨fun w' hw' => ?_, ?_⟩
    focus
      (try dsimp only at hw')
      go_split_ands
      go_simp
      (try with_reducible rfl)
    (try dsimp only [Act.put])
    (try simp only [List.setIfInBounds_toArray, List.set_cons_succ, List.set_cons_zero]))
  refine readsQ_nil ?_
  refine tailW_step ?_
  go_wp2_with fail
  refine nextW_end ?_
  go_end0
  have hne : g ≠ R := by omega
  have hC : Chg (MS R (.slice (some ⟨g, o, none⟩) n cap)) w (w.drew.setCell ⟨g, o + k * 2 + 1, none⟩ (.int .i64 n)) :=
    (Chg.of_ext (Ext.refl w).drew).setCell (p := ⟨g, o + k * 2 + 1, none⟩) (.inl (.inr HG.out)) _
  have hC2 : Chg (MS R (.slice (some ⟨g, o, none⟩) (L ++ y :: Q).length cap)) w (w.drew.setCell ⟨g, o + k * 2 + 1, none⟩ (.int .i64 n)) := by rw [HN.out]; exact hC
  have hc1 := HD.out.c1
  rw [HN.out] at hc1
  exact ⟨rfl, ⟨HD.out.c0.other (.inl (fun e => hne e.symm)) _, hc1.other (.inl (fun e => hne e.symm)) _, H.out.keepsN HS.out hC2, HNW.out⟩, hC⟩
end Go.Proofs.Ytgahbngbpfilgaa
end
section
/- Contract of forge's smith's make: a tree's ops, behind what is there. No condition but that there is room. -/
set_option maxHeartbeats 4000000
set_option maxRecDepth 100000
namespace Go.Proofs.Ytgahbngbpfilgaa
open Go Go.RowKit

def MakeC (t : ETree) : Prop := ∀ (S : Nat → Prop) (R : Nat) (rest : List GNode) (c : List GOp) (v vc : Value) (w : World), (∀ b, S b → b < R) → Smi w S R (t.flat ++ rest) c v vc → c.length + t.cost ≤ 1000 →
  Calls Try.prog 84 #[.pointer (some ⟨R, 0, none⟩)] w fun e w' => e = .returned (.tuple #[]) ∧
    ∃ v' vc', Smi w' S R rest (c ++ t.laid c.length) v' vc' ∧ Chg (MS R vc) w w' ∧ Grows w vc vc'

theorem MakeC.call {t : ETree} (h : MakeC t) {S : Nat → Prop} {R : Nat} {rest : List GNode} {c : List GOp} {v vc : Value} {w : World} (hS : ∀ b, S b → b < R) (hs : Smi w S R (t.flat ++ rest) c v vc) (hl : c.length + t.cost ≤ 1000) :
    Calls Try.prog 84 #[.pointer (some ⟨R, 0, none⟩)] w fun e w' => e = .returned (.tuple #[]) ∧
      ∃ v' vc', Smi w' S R rest (c ++ t.laid c.length) v' vc' ∧ Chg (MS R vc) w w' ∧ Grows w vc vc' := h S R rest c v vc w hS hs hl

/-- A box is not the smith's, and what the smith does leaves it. -/
theorem apart {w : World} {R X : Nat} {vc vc' : Value} (hX : ¬ MS R vc X) (hl : X < w.heap.size) (hg : Grows w vc vc') : ¬ MS R vc' X := fun hm => by
  rcases hm with hm | hm
  · exact hX (.inl hm)
  · rcases hg X hm with h1 | h1
    · exact hX (.inr h1)
    · omega
theorem Smi.fresh {w : World} {S : Nat → Prop} {R : Nat} {e : List GNode} {c : List GOp} {v vc : Value} (h : Smi w S R e c v vc) : ¬ MS R vc w.heap.size := fun hm => by
  have := h.c0.lt
  rcases hm with hm | hm
  · omega
  · have := h.row.lt2 (by decide) _ hm; omega

/-- The next node is taken, and lies in a box of its own. -/
structure Begun (w W : World) (S : Nat → Prop) (R X : Nat) (x : GNode) (e : List GNode) (c : List GOp) (v vc : Value) : Prop where
  smi : Smi W S R e c v vc
  chg : Chg (MS R vc) w W
  k : W.cell? ⟨X, 0, none⟩ = some (.int .i64 x.kind)
  n : W.cell? ⟨X, 1, none⟩ = some (.int .i64 x.n)
  out : ¬ MS R vc X
  lt : X < W.heap.size
theorem Smi.start {w : World} {S : Nat → Prop} {R : Nat} {e e' : List GNode} {c : List GOp} {v v' vc : Value} (hS : ∀ b, S b → b < R) (h : Smi w S R e c v vc) (hv : Nodes w S v' e') (x : GNode) (t : TypeId) :
    Begun w ((w.setCell ⟨R, 0, none⟩ v').alloc (.cells #[.int .i64 x.kind, .int .i64 x.n] t)) S R w.heap.size x e' c v' vc := by
  obtain ⟨h1, h2⟩ := h.take hS (Ext.refl w) hv
  have hsz : (w.setCell ⟨R, 0, none⟩ v').heap.size = w.heap.size := size_setCells R [v'] 0 w
  have c0 := (Cx.new (w.setCell ⟨R, 0, none⟩ v') [.int .i64 x.kind, .int .i64 x.n] t (j := 0) rfl).1
  have c1 := (Cx.new (w.setCell ⟨R, 0, none⟩ v') [.int .i64 x.kind, .int .i64 x.n] t (j := 1) rfl).1
  have hl := lt_of_cell c0
  rw [hsz] at c0 c1 hl
  exact ⟨h1.ext ((Ext.refl _).alloc _), h2.alloc _, c0, c1, h.fresh, hl⟩
/-- Behind a call of the smith's. -/
theorem Begun.next {w W W' : World} {S : Nat → Prop} {R X : Nat} {x : GNode} {e : List GNode} {c : List GOp} {v vc vc1 vc' : Value} (h : Begun w W S R X x e c v vc1) (hg0 : Grows w vc vc1) (h0 : Chg (MS R vc) w W)
    (hc : Chg (MS R vc1) W W') (hg : Grows W vc1 vc') : (W'.cell? ⟨X, 0, none⟩ = some (.int .i64 x.kind) ∧ W'.cell? ⟨X, 1, none⟩ = some (.int .i64 x.n)) ∧ Chg (MS R vc) w W' ∧ Grows w vc vc' ∧ ¬ MS R vc' X ∧ X < W'.heap.size := by
  refine ⟨⟨hc.cell h.out h.k, hc.cell h.out h.n⟩, MS.trans h0 hg0 hc, hg0.trans h0 hg, apart h.out h.lt hg, ?_⟩
  have := hc.size
  have := h.lt
  omega

theorem make_leaf (n : Nat) (x : GNode) (hx : sizeN x.kind = 0) (ho : (ETree.leaf x).nodes n) : MakeC (.leaf x) := by
  intro S R rest c v vc w hS h hl
  rw [show (ETree.leaf x).flat ++ rest = x :: rest from rfl] at h
  have hv := h.nodes
  obtain ⟨b, o, cap, rfl, hcap, hby, ⟨sb, g0, _⟩, _, g1, _⟩ := hv.get (i := 0) (by simp)
  have HT := Lib.hid hv.tail
  have H := Lib.hid h
  have HS := Lib.hid hS
  have hx' : x.kind = 0 ∨ x.kind = 1 := by
    have h := ho x (by simp [ETree.flat])
    unfold sizeN at hx
    split at hx
    · omega
    · split at hx <;> omega
  obtain ⟨c0, c0'⟩ := h.c0
  have hR := h.c0.lt
  simp only [List.length_cons, Nat.zero_mul, Nat.add_zero, List.getElem_cons_zero] at g0 g1 hcap c0
  have hl' : c.length ≤ 1000 := by simp only [ETree.cost] at hl; omega
  have RA := alloc_keep
  clear h hS hv ho hx hl
  obtain ⟨v2, HT2, HV2⟩ : ∃ v2, Hid (Nodes w S v2 rest) ∧ v2 = (if cap = 1 then .slice (some ⟨b, o, none⟩) 0 0 else .slice (some ⟨b, o + 2, none⟩) rest.length (cap - 1)) := by
    refine ⟨_, ?_, rfl⟩
    have := HT.out
    by_cases hc1 : cap = 1
    · rw [if_pos hc1] at this ⊢
      subst hc1
      obtain rfl : rest = [] := List.eq_nil_of_length_eq_zero (by omega)
      exact this
    · rw [if_neg hc1] at this ⊢
      exact this
  clear HT
  by_cases hc1 : cap = 1
  all_goals (first | rw [if_neg hc1] at HV2 | (rw [if_pos hc1] at HV2; subst hc1; obtain rfl : rest = [] := List.eq_nil_of_length_eq_zero (by omega)))
  all_goals
    subst HV2
    have HB := Lib.hid (H.out.start HS.out HT2.out x 134)
    rcases hx' with hk | hk
    · have HLD : Hid ((ETree.leaf x).laid c.length = [⟨0, x.n⟩]) := by unfold Hid ETree.laid; rw [if_pos hk]
      have T0 : (x.kind == 0) = true := by simp [hk]
      clear hk
      go_enter Try.func84, Try.ntmps84
      go_upto_region 2 with fail
      obtain ⟨X, hX⟩ : ∃ X, w.heap.size = X := ⟨_, rfl⟩
      rw [hX] at HB ⊢
      generalize ((w.setCell _ _).alloc _) = W at HB ⊢
      have xk := HB.out.k
      have xn := HB.out.n
      go_wp2_with (first
        | (go_at_call 56; (with_reducible refine (smithOp_any _ _ HS.out HB.out.smi hl').mono ?_); rintro e w2 ⟨rfl, vc2, hs2, hc2, hg2⟩))
      go_end0
      rw [HLD.out]
      exact ⟨rfl, _, _, hs2, MS.trans HB.out.chg (Grows.refl _ _) hc2, (Grows.refl _ _).trans HB.out.chg hg2⟩
    · have HLD : Hid ((ETree.leaf x).laid c.length = [⟨2, x.n⟩]) := by unfold Hid ETree.laid; rw [if_neg (by omega)]
      have T0 : (x.kind == 0) = false := by simp [hk]
      have T1 : (x.kind == 1) = true := by simp [hk]
      clear hk
      go_enter Try.func84, Try.ntmps84
      go_upto_region 2 with fail
      obtain ⟨X, hX⟩ : ∃ X, w.heap.size = X := ⟨_, rfl⟩
      rw [hX] at HB ⊢
      generalize ((w.setCell _ _).alloc _) = W at HB ⊢
      have xk := HB.out.k
      have xn := HB.out.n
      go_wp2_with (first
        | (go_at_call 56; (with_reducible refine (smithOp_any _ _ HS.out HB.out.smi hl').mono ?_); rintro e w2 ⟨rfl, vc2, hs2, hc2, hg2⟩))
      go_end0
      rw [HLD.out]
      exact ⟨rfl, _, _, hs2, MS.trans HB.out.chg (Grows.refl _ _) hc2, (Grows.refl _ _).trans HB.out.chg hg2⟩

/-- The table of ops for kinds of two parts. -/
theorem op_at2 (w : World) : (Instr.index 160 (.agg #[.int .i64 0, .int .i64 0, .int .i64 4, .int .i64 5, .int .i64 6, .int .i64 7, .int .i64 8]) (.int .i64 2)).run Try.prog w = .ok (.int .i64 4) w := by
  show _ = _
  kernel_rfl
theorem op_at3 (w : World) : (Instr.index 160 (.agg #[.int .i64 0, .int .i64 0, .int .i64 4, .int .i64 5, .int .i64 6, .int .i64 7, .int .i64 8]) (.int .i64 3)).run Try.prog w = .ok (.int .i64 5) w := by
  show _ = _
  kernel_rfl
theorem op_at4 (w : World) : (Instr.index 160 (.agg #[.int .i64 0, .int .i64 0, .int .i64 4, .int .i64 5, .int .i64 6, .int .i64 7, .int .i64 8]) (.int .i64 4)).run Try.prog w = .ok (.int .i64 6) w := by
  show _ = _
  kernel_rfl
theorem op_at5 (w : World) : (Instr.index 160 (.agg #[.int .i64 0, .int .i64 0, .int .i64 4, .int .i64 5, .int .i64 6, .int .i64 7, .int .i64 8]) (.int .i64 5)).run Try.prog w = .ok (.int .i64 7) w := by
  show _ = _
  kernel_rfl
theorem op_at6 (w : World) : (Instr.index 160 (.agg #[.int .i64 0, .int .i64 0, .int .i64 4, .int .i64 5, .int .i64 6, .int .i64 7, .int .i64 8]) (.int .i64 6)).run Try.prog w = .ok (.int .i64 8) w := by
  show _ = _
  kernel_rfl

theorem make_two (x : GNode) (ta tb : ETree) (hx : 2 ≤ x.kind ∧ x.kind ≤ 6) (ha : MakeC ta) (hb : MakeC tb) : MakeC (.two x ta tb) := by
  intro S R rest c v vc w hS h hl
  have hflat : (ETree.two x ta tb).flat ++ rest = x :: (ta.flat ++ (tb.flat ++ rest)) := by simp [ETree.flat]
  rw [hflat] at h
  have hv := h.nodes
  obtain ⟨b, o, cap, rfl, hcap, hby, ⟨sb, g0, _⟩, _, g1, _⟩ := hv.get (i := 0) (by simp)
  have hc1 : ¬ cap = 1 := by have := ETree.flat_pos ta; simp at hcap; omega
  have HT := Lib.hid hv.tail
  rw [if_neg hc1] at HT
  simp only [List.length_append] at HT
  have H := Lib.hid h
  have HS := Lib.hid hS
  obtain ⟨c0, c0'⟩ := h.c0
  have hR := h.c0.lt
  simp only [List.length_cons, Nat.zero_mul, Nat.add_zero, List.getElem_cons_zero] at g0 g1 hcap c0
  have hcost : (ETree.two x ta tb).cost = ta.cost + tb.cost + 1 := rfl
  rw [hcost] at hl
  have RA := alloc_keep
  have HA := Lib.hid ha
  have HBB := Lib.hid hb
  have HL := Lib.hid hl
  have hlen1 : (c ++ ta.laid c.length).length = c.length + ta.cost := by rw [List.length_append, ta.laid_len]
  have hlen2 : ((c ++ ta.laid c.length) ++ tb.laid (c ++ ta.laid c.length).length).length = c.length + ta.cost + tb.cost := by rw [List.length_append, tb.laid_len, hlen1]
  have HLD : Hid (c ++ (ETree.two x ta tb).laid c.length = ((c ++ ta.laid c.length) ++ tb.laid (c ++ ta.laid c.length).length) ++ [⟨x.kind + 2, 0⟩]) := by
    unfold Hid
    rw [hlen1]
    simp [ETree.laid, List.append_assoc]
  have HL1 := Lib.hid hlen1
  have HL2 := Lib.hid hlen2
  clear h hS hv hl ha hb hflat hlen1 hlen2
  have HB := Lib.hid (H.out.start HS.out HT.out x 134)
  obtain ⟨xk, xn⟩ := x
  simp only at hx
  have hk : xk = 2 ∨ xk = 3 ∨ xk = 4 ∨ xk = 5 ∨ xk = 6 := by omega
  clear hx
  have I2 := op_at2
  have I3 := op_at3
  have I4 := op_at4
  have I5 := op_at5
  have I6 := op_at6
  rcases hk with rfl | rfl | rfl | rfl | rfl
  all_goals
    go_enter Try.func84, Try.ntmps84
    go_upto_region 2 with fail
    obtain ⟨X, hX⟩ : ∃ X, w.heap.size = X := ⟨_, rfl⟩
    rw [hX] at HB ⊢
    generalize ((w.setCell _ _).alloc _) = W at HB ⊢
    have xk := HB.out.k
    go_wp2_with fail
    (go_at_call 84; (with_reducible refine (MakeC.call HA.out HS.out HB.out.smi (by have := HL.out; omega)).mono ?_); rintro e w2 ⟨rfl, v2, vc2, hs2, hc2, hg2⟩; replace xk := hc2.cell HB.out.out xk; have HX2 := Lib.hid (apart HB.out.out HB.out.lt hg2))
    go_wp2_with fail
    (go_at_call 84; (with_reducible refine (MakeC.call HBB.out HS.out hs2 (by have := HL.out; have := HL1.out; omega)).mono ?_); rintro e w3 ⟨rfl, v3, vc3, hs3, hc3, hg3⟩; replace xk := hc3.cell HX2.out xk)
    go_upto_region 5 with fail
    go_wp2_with (first
      | (go_at_call 56; (with_reducible refine (smithOp_any _ _ HS.out hs3 (by have := HL.out; have := HL2.out; omega)).mono ?_); rintro e w4 ⟨rfl, vc4, hs4, hc4, hg4⟩))
    go_end0
    have C2 := MS.trans HB.out.chg (Grows.refl w vc) hc2
    have G2 := (Grows.refl w vc).trans HB.out.chg hg2
    have C3 := MS.trans C2 G2 hc3
    have G3 := G2.trans C2 hg3
    rw [HLD.out]
    exact ⟨rfl, _, _, hs4, MS.trans C3 G3 hc4, G3.trans C3 hg4⟩

theorem make_three (x : GNode) (ta tb tc : ETree) (hx : x.kind = 7) (ha : MakeC ta) (hb : MakeC tb) (hc : MakeC tc) : MakeC (.three x ta tb tc) := by
  intro S R rest c v vc w hS h hl
  have hflat : (ETree.three x ta tb tc).flat ++ rest = x :: (ta.flat ++ (tb.flat ++ (tc.flat ++ rest))) := by simp [ETree.flat]
  rw [hflat] at h
  have hv := h.nodes
  obtain ⟨b, o, cap, rfl, hcap, hby, ⟨sb, g0, _⟩, _, g1, _⟩ := hv.get (i := 0) (by simp)
  have hc1 : ¬ cap = 1 := by have := ETree.flat_pos ta; simp at hcap; omega
  have HT := Lib.hid hv.tail
  rw [if_neg hc1] at HT
  simp only [List.length_append] at HT
  have H := Lib.hid h
  have HS := Lib.hid hS
  obtain ⟨c0, c0'⟩ := h.c0
  have hR := h.c0.lt
  simp only [List.length_cons, Nat.zero_mul, Nat.add_zero, List.getElem_cons_zero] at g0 g1 hcap c0
  have hcost : (ETree.three x ta tb tc).cost = ta.cost + tb.cost + tc.cost + 2 := rfl
  rw [hcost] at hl
  have RA := alloc_keep
  have HA := Lib.hid ha
  have HBB := Lib.hid hb
  have HCC := Lib.hid hc
  have HL := Lib.hid hl
  -- the ops, one part behind another
  obtain ⟨A, hA⟩ : ∃ A, ta.laid c.length = A := ⟨_, rfl⟩
  obtain ⟨Bo, hBo⟩ : ∃ Bo, tb.laid (c.length + ta.cost + 1) = Bo := ⟨_, rfl⟩
  obtain ⟨third, hth⟩ : ∃ z, thirdAt c.length ta.cost tb.cost = z := ⟨_, rfl⟩
  obtain ⟨Co, hCo⟩ : ∃ Co, tc.laid third = Co := ⟨_, rfl⟩
  have lA : A.length = ta.cost := by rw [← hA]; exact ta.laid_len _
  have lB : Bo.length = tb.cost := by rw [← hBo]; exact tb.laid_len _
  have lC : Co.length = tc.cost := by rw [← hCo]; exact tc.laid_len _
  have hth2 : third = c.length + ta.cost + 1 + tb.cost + 1 := hth.symm
  have HLD : Hid (c ++ (ETree.three x ta tb tc).laid c.length = (c ++ A ++ (⟨10, (third : Nat)⟩ :: Bo)) ++ (⟨9, (third + tc.cost : Nat)⟩ :: Co)) := by
    unfold Hid
    rw [ETree.laid, hth, hA, hBo, hCo]
    simp [List.append_assoc]
  have e1 : (c ++ A).length = c.length + ta.cost := by rw [List.length_append, lA]
  have e2 : (c ++ A ++ [(⟨10, 0⟩ : GOp)]).length = c.length + ta.cost + 1 := by rw [List.length_append, e1]; rfl
  have e3 : (c ++ A ++ [(⟨10, 0⟩ : GOp)] ++ Bo).length = c.length + ta.cost + 1 + tb.cost := by rw [List.length_append, e2, lB]
  have e4 : ((c ++ A) ++ (⟨10, 0⟩ : GOp) :: (Bo ++ [(⟨9, 0⟩ : GOp)])).length = third := by
    rw [List.length_append, e1, List.length_cons, List.length_append, lB, hth2]; simp; omega
  have e5 : ((c ++ A) ++ (⟨10, (third : Nat)⟩ : GOp) :: (Bo ++ [(⟨9, 0⟩ : GOp)])).length = third := by
    rw [List.length_append, e1, List.length_cons, List.length_append, lB, hth2]; simp; omega
  have e6 : ((c ++ A ++ (⟨10, (third : Nat)⟩ : GOp) :: Bo) ++ (⟨9, 0⟩ : GOp) :: Co).length = third + tc.cost := by
    rw [List.length_append, List.length_append, e1, List.length_cons, List.length_cons, lB, lC, hth2]; omega
  have e7 : (c ++ A ++ (⟨10, (third : Nat)⟩ : GOp) :: Bo).length = c.length + ta.cost + 1 + tb.cost := by
    rw [List.length_append, e1, List.length_cons, lB]; omega
  have s1 : c ++ A ++ [(⟨10, 0⟩ : GOp)] ++ Bo ++ [(⟨9, 0⟩ : GOp)] = (c ++ A) ++ (⟨10, 0⟩ : GOp) :: (Bo ++ [(⟨9, 0⟩ : GOp)]) := by simp [List.append_assoc]
  have s2 : ((c ++ A) ++ (⟨10, (third : Nat)⟩ : GOp) :: (Bo ++ [(⟨9, 0⟩ : GOp)])) ++ Co = (c ++ A ++ (⟨10, (third : Nat)⟩ : GOp) :: Bo) ++ (⟨9, 0⟩ : GOp) :: Co := by simp [List.append_assoc]
  obtain ⟨k1, hk1⟩ : ∃ k1, c.length + ta.cost = k1 := ⟨_, rfl⟩
  obtain ⟨k2, hk2⟩ : ∃ k2, c.length + ta.cost + 1 + tb.cost = k2 := ⟨_, rfl⟩
  obtain ⟨k3, hk3⟩ : ∃ k3, third + tc.cost = k3 := ⟨_, rfl⟩
  have HK := Lib.hid (⟨hk1, hk2, hk3⟩ : _ ∧ _ ∧ _)
  rw [hk1] at e1
  rw [hk2] at e3 e7
  rw [hk3] at e6 HLD
  clear hk1 hk2 hk3
  have HE := Lib.hid (⟨e1, e2, e3, e4, e5, e6, e7⟩ : _ ∧ _ ∧ _ ∧ _ ∧ _ ∧ _ ∧ _)
  have HH := Lib.hid (⟨hA, hBo, hCo⟩ : _ ∧ _ ∧ _)
  have HS1 := Lib.hid s1
  have HS2 := Lib.hid s2
  have HTH := Lib.hid hth2
  clear h hS hv hl ha hb hc hflat e1 e2 e3 e4 e5 e6 e7 s1 s2 lA lB lC hA hBo hCo hth hth2
  have HB := Lib.hid (H.out.start HS.out HT.out x 134)
  obtain ⟨xk, xn⟩ := x
  simp only at hx
  subst hx
  go_enter Try.func84, Try.ntmps84
  go_upto_region 2 with fail
  obtain ⟨X, hX⟩ : ∃ X, w.heap.size = X := ⟨_, rfl⟩
  rw [hX] at HB ⊢
  generalize ((w.setCell _ _).alloc _) = W at HB ⊢
  have xk := HB.out.k
  go_upto_region 12 with (first
    | (go_at_call 84; (with_reducible refine (MakeC.call HA.out HS.out HB.out.smi (by have := HL.out; omega)).mono ?_); rintro e w2 ⟨rfl, v2, vc2, hs2, hc2, hg2⟩; rw [HH.out.1] at hs2; have HC2 := Lib.hid (MS.trans HB.out.chg (Grows.refl w vc) hc2); have HG2 := Lib.hid ((Grows.refl w vc).trans HB.out.chg hg2); clear hc2 hg2 xk))
  go_upto_region 13 with (first
    | (go_at_call 56; (with_reducible refine (smithOp_any _ _ HS.out hs2 (by have := HL.out; have := HE.out.1; have := HK.out.1; omega)).mono ?_); rintro e w3 ⟨rfl, vc3, hs3, hc3, hg3⟩; rw [HE.out.1]; have HC3 := Lib.hid (MS.trans HC2.out HG2.out hc3); have HG3 := Lib.hid (HG2.out.trans HC2.out hg3); clear hc3 hg3))
  go_upto_region 14 with (first
    | (go_at_call 84; (with_reducible refine (MakeC.call HBB.out HS.out hs3 (by have := HL.out; have := HE.out.2.1; omega)).mono ?_); rintro e w4 ⟨rfl, v4, vc4, hs4, hc4, hg4⟩; rw [HE.out.2.1, HH.out.2.1] at hs4; have HC4 := Lib.hid (MS.trans HC3.out HG3.out hc4); have HG4 := Lib.hid (HG3.out.trans HC3.out hg4); clear hc4 hg4))
  go_upto_region 15 with (first
    | (go_at_call 56; (with_reducible refine (smithOp_any _ _ HS.out hs4 (by have := HL.out; have := HE.out.2.2.1; have := HK.out.2.1; omega)).mono ?_); rintro e w5 ⟨rfl, vc5, hs5, hc5, hg5⟩; rw [HE.out.2.2.1]; rw [HS1.out] at hs5; have HC5 := Lib.hid (MS.trans HC4.out HG4.out hc5); have HG5 := Lib.hid (HG4.out.trans HC4.out hg5); clear hc5 hg5))
  go_upto_region 16 with (first
    | (go_at_call 105; (with_reducible refine (smithHere_any HS.out hs5 (by have := HL.out; have := HE.out.2.2.2.1; have := HTH.out; omega) _ _ HE.out.1 HE.out.2.2.2.1).mono ?_); rintro e w6 ⟨rfl, hs6, hc6⟩; have HC6 := Lib.hid (MS.trans HC5.out HG5.out hc6); clear hc6))
  go_upto_region 17 with (first
    | (go_at_call 84; (with_reducible refine (MakeC.call HCC.out HS.out hs6 (by have := HL.out; have := HE.out.2.2.2.2.1; have := HTH.out; omega)).mono ?_); rintro e w7 ⟨rfl, v7, vc7, hs7, hc7, hg7⟩; rw [HE.out.2.2.2.2.1, HH.out.2.2, HS2.out] at hs7; have HC7 := Lib.hid (MS.trans HC6.out HG5.out hc7); have HG7 := Lib.hid (HG5.out.trans HC6.out hg7); clear hc7 hg7))
  go_wp2_with fail
  (go_at_call 105; (with_reducible refine (smithHere_any HS.out hs7 (by have := HL.out; have := HE.out.2.2.2.2.2.1; have := HTH.out; have := HK.out.2.2; omega) _ _ HE.out.2.2.2.2.2.2 HE.out.2.2.2.2.2.1).mono ?_); rintro e w8 ⟨rfl, hs8, hc8⟩)
  go_wp2_with fail
  go_end0
  rw [HLD.out]
  exact ⟨rfl, _, _, hs8, MS.trans HC7.out HG7.out hc8, HG7.out⟩

theorem make_any (n : Nat) : ∀ t : ETree, t.fits → t.nodes n → MakeC t
  | .leaf x, hf, ho => make_leaf n x hf ho
  | .two x a b, hf, ho => by
    have hk : 2 ≤ x.kind ∧ x.kind ≤ 6 := by
      have h := ho x (by simp [ETree.flat])
      rcases ETree.fits_two hf with h2 | h2 <;> omega
    exact make_two x a b hk (make_any n a hf.2.1 ho.two.1) (make_any n b hf.2.2 ho.two.2)
  | .three x a b c, hf, ho => by
    have h1 := hf.1
    have hk : x.kind = 7 := by
      unfold sizeN at h1
      split at h1
      · omega
      · split at h1 <;> omega
    exact make_three x a b c hk (make_any n a hf.2.1 ho.three.1) (make_any n b hf.2.2.1 ho.three.2.1) (make_any n c hf.2.2.2 ho.three.2.2)
end Go.Proofs.Ytgahbngbpfilgaa
end
section
/- The program of an expression is right: plain facts. No condition. -/
namespace Go.Proofs.Ytgahbngbpfilgaa

theorem thru_of {p : List GFunc} {code : List GOp} {out : List Int} {k : Nat} {x : GOp} {h t l : Int} (hx : code.getD k default = x) (ho : out.getD k 0 = h) (ht : takesOf p x = t) (hl : leavesOf x = l) (h1 : t ≤ h) (h2 : h - t + l ≤ 8) (h3 : x.kind = 12 → h - t + l ≤ 0)
    (hn : ∀ i ∈ nx x k, i < code.length ∧ out.getD i 0 = h - t + l) : Thru p code out k := by
  have e : nOf p x h = h - t + l := by unfold nOf; rw [ht, hl]
  unfold Thru
  rw [hx, ho, e]
  refine ⟨?_, hn⟩
  unfold badB
  rw [e, ht]
  simp only [Bool.or_eq_false_iff, Bool.and_eq_false_iff, decide_eq_false_iff_not]
  refine ⟨by omega, by omega, ?_⟩
  by_cases hk : x.kind = 12
  · have := h3 hk; right; omega
  · left; exact hk
theorem come_next {p : List GFunc} {code : List GOp} {k j : Nat} {x : GOp} {h t l : Int} (hc : Come p code k h) (hk : k < code.length) (hx : code.getD k default = x) (ht : takesOf p x = t) (hl : leavesOf x = l) (hj : j ∈ nx x k) : Come p code j (h - t + l) := by
  have e := Come.next hc hk (by rw [hx]; exact hj)
  rw [hx] at e
  unfold nOf at e
  rw [ht, hl] at e
  exact e
theorem nx1 {k : Int} (a : Int) (i : Nat) (h : k ≠ 9 ∧ k ≠ 10 ∧ k ≠ 12) : nx ⟨k, a⟩ i = [i + 1] := by
  unfold nx
  simp [h.1, h.2.1, h.2.2]
theorem nx9 (a : Int) (i : Nat) : nx ⟨9, a⟩ i = [a.toNat] := by simp [nx]
theorem nx10 (a : Int) (i : Nat) : nx ⟨10, a⟩ i = [a.toNat, i + 1] := by simp [nx]
theorem nx12 (a : Int) (i : Nat) : nx ⟨12, a⟩ i = [] := by simp [nx]

/-- One comes to all of these ops, and each may be there. -/
structure Flows (p : List GFunc) (code : List GOp) (out : List Int) (k c : Nat) (h h' : Int) : Prop where
  come : Come p code k h → (∀ i, i < c → Come p code (k + i) (out.getD (k + i) 0)) ∧ Come p code (k + c) h'
  thru : ∀ i, i < c → Thru p code out (k + i) ∧ 0 ≤ out.getD (k + i) 0
theorem Flows.trans {p : List GFunc} {code : List GOp} {out : List Int} {k c d : Nat} {h h' h'' : Int} (h1 : Flows p code out k c h h') (h2 : Flows p code out (k + c) d h' h'') : Flows p code out k (c + d) h h'' := by
  have e : ∀ i, c ≤ i → k + c + (i - c) = k + i := fun i hi => by omega
  refine ⟨fun hc => ?_, fun i hi => ?_⟩
  · obtain ⟨a1, a2⟩ := h1.come hc
    obtain ⟨b1, b2⟩ := h2.come a2
    refine ⟨fun i hi => ?_, by rw [← Nat.add_assoc]; exact b2⟩
    by_cases hl : i < c
    · exact a1 i hl
    · have := b1 (i - c) (by omega)
      rwa [e i (by omega)] at this
  · by_cases hl : i < c
    · exact h1.thru i hl
    · have := h2.thru (i - c) (by omega)
      rwa [e i (by omega)] at this
/-- One op that goes on to the next one. -/
theorem Flows.op {p : List GFunc} {code : List GOp} {out : List Int} {k : Nat} {x : GOp} {h h' t l : Int} (hlt : k + 1 < code.length) (hx : code.getD k default = x) (ho : out.getD k 0 = h) (ho' : out.getD (k + 1) 0 = h') (ht : takesOf p x = t) (hl : leavesOf x = l)
    (hk : x.kind ≠ 9 ∧ x.kind ≠ 10 ∧ x.kind ≠ 12) (h0 : 0 ≤ h) (h1 : t ≤ h) (h2 : h' ≤ 8) (e : h' = h - t + l) : Flows p code out k 1 h h' := by
  obtain ⟨kk, a⟩ := x
  have hn := nx1 (k := kk) a k hk
  refine ⟨fun hc => ⟨fun i hi => ?_, ?_⟩, fun i hi => ?_⟩
  · obtain rfl : i = 0 := by omega
    rw [Nat.add_zero, ho]; exact hc
  · rw [e]
    exact come_next hc (by omega) hx ht hl (by rw [hn]; simp)
  · obtain rfl : i = 0 := by omega
    rw [Nat.add_zero, ho]
    refine ⟨thru_of hx ho ht hl h1 (by omega) (fun h => absurd h hk.2.2) ?_, h0⟩
    rw [hn]
    intro i hi
    obtain rfl : i = k + 1 := by simpa using hi
    exact ⟨hlt, by rw [ho', e]⟩

theorem tree_flow (p : List GFunc) (code : List GOp) (out : List Int) (n : Nat) : ∀ (t : ETree) (k : Nat) (h : Int), t.fits → t.nodes n → Sits code k (t.laid k) → Sits out k (t.high h) → k + t.cost < code.length → out.getD (k + t.cost) 0 = h + 1 → 0 ≤ h →
    h + ((t.flat.length + 1) / 2 : Nat) ≤ 8 → Flows p code out k t.cost h (h + 1)
  | .leaf x, k, h, hf, hn, hs, hs2, hlt, hend, h0, h8 => by
    obtain ⟨⟨hk, h1⟩, _⟩ := hs.cons
    obtain ⟨⟨_, h2⟩, _⟩ := hs2.cons
    have hc1 : (ETree.leaf x).cost = 1 := rfl
    have hf1 : (ETree.leaf x).flat.length = 1 := rfl
    rw [hc1] at hlt hend ⊢
    rw [hf1] at h8
    obtain ⟨kk, hkk, hop⟩ : ∃ kk : Int, (kk = 0 ∨ kk = 2) ∧ code.getD k default = ⟨kk, x.n⟩ := ⟨_, by split <;> simp, h1 default⟩
    have ht : takesOf p ⟨kk, x.n⟩ = 0 := by rcases hkk with rfl | rfl <;> simp [takesOf]
    have hl : leavesOf ⟨kk, x.n⟩ = 1 := by rcases hkk with rfl | rfl <;> simp [leavesOf]
    exact Flows.op hlt hop (h2 0) hend ht hl (by rcases hkk with rfl | rfl <;> simp) h0 h0 (by omega) (by omega)
  | .two x a b, k, h, hf, hn, hs, hs2, hlt, hend, h0, h8 => by
    obtain ⟨ha, hs⟩ := hs.app
    rw [a.laid_len] at hs
    obtain ⟨hb, hs⟩ := hs.app
    rw [b.laid_len] at hs
    obtain ⟨⟨_, h1⟩, _⟩ := hs.cons
    obtain ⟨ha2, hs2⟩ := hs2.app
    rw [a.high_len] at hs2
    obtain ⟨hb2, hs2⟩ := hs2.app
    rw [b.high_len] at hs2
    obtain ⟨⟨_, h2⟩, _⟩ := hs2.cons
    have hp1 := a.flat_pos
    have hp2 := b.flat_pos
    have hfl : (ETree.two x a b).flat.length = a.flat.length + b.flat.length + 1 := by simp [ETree.flat]
    have hcc : (ETree.two x a b).cost = a.cost + b.cost + 1 := rfl
    rw [hfl] at h8
    rw [hcc] at hlt hend ⊢
    have hk : 2 ≤ x.kind ∧ x.kind ≤ 6 := by
      have h := hn x (by simp [ETree.flat])
      rcases ETree.fits_two hf with h2 | h2 <;> omega
    have fa := tree_flow p code out n a k h hf.2.1 hn.two.1 ha ha2 (by omega) (b.high_zero (h + 1) hb2 0) h0 (by omega)
    have fb := tree_flow p code out n b (k + a.cost) (h + 1) hf.2.2 hn.two.2 hb hb2 (by omega) (by rw [h2]; omega) (by omega) (by omega)
    have ht : takesOf p ⟨x.kind + 2, 0⟩ = 2 := by unfold takesOf; rw [if_pos (by simp only; omega)]
    have hl : leavesOf ⟨x.kind + 2, 0⟩ = 1 := by unfold leavesOf; rw [if_neg (by simp only; omega)]
    have fo : Flows p code out (k + a.cost + b.cost) 1 (h + 1 + 1) (h + 1) := Flows.op (by omega) (h1 default) (by rw [h2]; omega) (by rw [show k + a.cost + b.cost + 1 = k + (a.cost + b.cost + 1) by omega]; exact hend) ht hl (by simp only; omega) (by omega) (by omega) (by omega) (by omega)
    exact (fa.trans fb).trans (by rw [← Nat.add_assoc]; exact fo)
  | .three x a b c, k, h, hf, hn, hs, hs2, hlt, hend, h0, h8 => by
    obtain ⟨ha, hs⟩ := hs.app
    rw [a.laid_len] at hs
    obtain ⟨⟨_, h1⟩, hs⟩ := hs.cons
    obtain ⟨hb, hs⟩ := hs.app
    rw [b.laid_len] at hs
    obtain ⟨⟨_, h2⟩, hc⟩ := hs.cons
    obtain ⟨ha2, hs2⟩ := hs2.app
    rw [a.high_len] at hs2
    obtain ⟨⟨_, o1⟩, hs2⟩ := hs2.cons
    obtain ⟨hb2, hs2⟩ := hs2.app
    rw [b.high_len] at hs2
    obtain ⟨⟨_, o2⟩, hc2⟩ := hs2.cons
    have hp1 := a.flat_pos
    have hp2 := b.flat_pos
    have hp3 := c.flat_pos
    have hq3 := c.cost_pos
    have hfl : (ETree.three x a b c).flat.length = a.flat.length + b.flat.length + c.flat.length + 1 := by simp [ETree.flat]; omega
    have hcc : (ETree.three x a b c).cost = a.cost + b.cost + c.cost + 2 := rfl
    have hT : thirdAt k a.cost b.cost = k + a.cost + 1 + b.cost + 1 := rfl
    rw [hT] at h1 h2 hc
    rw [hfl] at h8
    rw [hcc] at hlt hend ⊢
    have oe : out.getD (k + a.cost + 1 + b.cost + 1 + c.cost) 0 = h + 1 := by rw [show k + a.cost + 1 + b.cost + 1 + c.cost = k + (a.cost + b.cost + c.cost + 2) by omega]; exact hend
    have oc := c.high_zero h hc2 0
    have ob := b.high_zero h hb2 0
    have fa := tree_flow p code out n a k h hf.2.1 hn.three.1 ha ha2 (by omega) (o1 0) h0 (by omega)
    have fb := tree_flow p code out n b (k + a.cost + 1) h hf.2.2.1 hn.three.2.1 hb hb2 (by omega) (o2 0) h0 (by omega)
    have fc := tree_flow p code out n c (k + a.cost + 1 + b.cost + 1) h hf.2.2.2 hn.three.2.2 hc hc2 (by omega) oe h0 (by omega)
    have ht1 : ∀ v, takesOf p ⟨10, v⟩ = 1 := fun v => by simp [takesOf]
    have hl1 : ∀ v, leavesOf ⟨10, v⟩ = 0 := fun v => by simp [leavesOf]
    have ht2 : ∀ v, takesOf p ⟨9, v⟩ = 0 := fun v => by simp [takesOf]
    have hl2 : ∀ v, leavesOf ⟨9, v⟩ = 0 := fun v => by simp [leavesOf]
    have t1 : Thru p code out (k + a.cost) := by
      refine thru_of (h1 default) (o1 0) (ht1 _) (hl1 _) (by omega) (by omega) (fun e => by cases e) ?_
      rw [nx10]
      intro i hi
      simp only [Int.toNat_natCast, List.mem_cons, List.not_mem_nil, or_false] at hi
      rcases hi with rfl | rfl
      · exact ⟨by omega, by rw [oc]; omega⟩
      · exact ⟨by omega, by rw [ob]; omega⟩
    have t2 : Thru p code out (k + a.cost + 1 + b.cost) := by
      refine thru_of (h2 default) (o2 0) (ht2 _) (hl2 _) (by omega) (by omega) (fun e => by cases e) ?_
      rw [nx9]
      intro i hi
      simp only [Int.toNat_natCast, List.mem_cons, List.not_mem_nil, or_false] at hi
      subst hi
      exact ⟨by omega, by rw [oe]; omega⟩
    have hcase : ∀ i, i < a.cost + b.cost + c.cost + 2 → i < a.cost ∨ i = a.cost ∨ (∃ j, j < b.cost ∧ k + i = k + a.cost + 1 + j) ∨ k + i = k + a.cost + 1 + b.cost ∨ ∃ j, j < c.cost ∧ k + i = k + a.cost + 1 + b.cost + 1 + j := by
      intro i hi
      by_cases c1 : i < a.cost
      · exact .inl c1
      by_cases c2 : i = a.cost
      · exact .inr (.inl c2)
      by_cases c3 : i < a.cost + 1 + b.cost
      · exact .inr (.inr (.inl ⟨i - a.cost - 1, by omega, by omega⟩))
      by_cases c4 : i = a.cost + 1 + b.cost
      · exact .inr (.inr (.inr (.inl (by omega))))
      · exact .inr (.inr (.inr (.inr ⟨i - a.cost - 1 - b.cost - 1, by omega, by omega⟩)))
    refine ⟨fun hC => ?_, fun i hi => ?_⟩
    · obtain ⟨a1, a2⟩ := fa.come hC
      have z1 := come_next (j := k + a.cost + 1) a2 (by omega) (h1 default) (ht1 _) (hl1 _) (by rw [nx10]; simp)
      have z2 := come_next (j := k + a.cost + 1 + b.cost + 1) a2 (by omega) (h1 default) (ht1 _) (hl1 _) (by rw [nx10, Int.toNat_natCast]; exact List.mem_cons_self)
      rw [show h + 1 - 1 + 0 = h by omega] at z1 z2
      obtain ⟨b1, b2⟩ := fb.come z1
      obtain ⟨c1, c2⟩ := fc.come z2
      refine ⟨fun i hi => ?_, by rw [show k + (a.cost + b.cost + c.cost + 2) = k + a.cost + 1 + b.cost + 1 + c.cost by omega]; exact c2⟩
      rcases hcase i hi with hi | rfl | ⟨j, hj, e⟩ | e | ⟨j, hj, e⟩
      · exact a1 i hi
      · rw [o1]; exact a2
      · rw [e]; exact b1 j hj
      · rw [e, o2]; exact b2
      · rw [e]; exact c1 j hj
    · rcases hcase i hi with hi | rfl | ⟨j, hj, e⟩ | e | ⟨j, hj, e⟩
      · exact fa.thru i hi
      · exact ⟨t1, by rw [o1]; omega⟩
      · rw [e]; exact fb.thru j hj
      · rw [e]; exact ⟨t2, by rw [o2]; omega⟩
      · rw [e]; exact fc.thru j hj

/-- The last op gives the one value. -/
theorem Flows.full {p : List GFunc} {code : List GOp} {out : List Int} {c : Nat} (h : Flows p code out 0 c 0 1) (hlen : code.length = c + 1) (hol : out.length = c + 1) (hlast : code.getD c default = ⟨12, 0⟩) (hol1 : out.getD c 0 = 1) (h0 : out.getD 0 0 = 0) : Full p code out := by
  obtain ⟨a1, a2⟩ := h.come .start
  rw [Nat.zero_add] at a2
  have ht : takesOf p ⟨12, 0⟩ = 1 := by simp [takesOf]
  have hl : leavesOf ⟨12, 0⟩ = 0 := by simp [leavesOf]
  refine { len := by omega, low := fun k hk => ?_, come := fun k hk _ => ?_, zero := ⟨by omega, h0⟩, thru := fun k hk _ => ?_ }
  · by_cases hc : k < c
    · have := (h.thru k hc).2; rw [Nat.zero_add] at this; omega
    · obtain rfl : k = c := by omega
      rw [hol1]; omega
  · by_cases hc : k < c
    · have := a1 k hc; rwa [Nat.zero_add] at this
    · obtain rfl : k = c := by omega
      rw [hol1]; exact a2
  · by_cases hc : k < c
    · have := (h.thru k hc).1; rwa [Nat.zero_add] at this
    · obtain rfl : k = c := by omega
      refine thru_of hlast hol1 ht hl (by omega) (by omega) (fun _ => by omega) ?_
      rw [nx12]
      intro i hi
      cases hi
theorem Full.hts {p : List GFunc} {code : List GOp} {out : List Int} (hj : Jumps code) (h : Full p code out) : Proofs.Ytgahbngbpfilgaa.hts p code = some out :=
  Finds.eq (hts_finds hj) (b := some out) h

/-- A forged function's ops. -/
theorem ETree.laid_ops {n : Nat} : ∀ (t : ETree) (k : Nat), t.fits → t.nodes n → ∀ x ∈ t.laid k, (x.kind = 0 ∧ 0 ≤ x.a ∧ x.a ≤ 999) ∨ (x.kind = 2 ∧ 0 ≤ x.a ∧ x.a ≤ (n : Int) - 1) ∨ (4 ≤ x.kind ∧ x.kind ≤ 8 ∧ x.a = 0) ∨ ((x.kind = 9 ∨ x.kind = 10) ∧ 0 ≤ x.a ∧ x.a ≤ (k + t.cost : Nat))
  | .leaf x, k, hf, hn, y, hy => by
    obtain rfl : y = ⟨if x.kind = 0 then 0 else 2, x.n⟩ := by simpa [ETree.laid] using hy
    have h := hn x (by simp [ETree.flat])
    have hz : sizeN x.kind = 0 := hf
    have hx : x.kind = 0 ∨ x.kind = 1 := by
      unfold sizeN at hz
      split at hz
      · omega
      · split at hz <;> omega
    obtain ⟨_, _, h1, h2⟩ := h
    unfold mostN at h2
    rcases hx with hx | hx
    · rw [if_pos hx] at h2
      simp only [hx, if_true]
      exact .inl ⟨trivial, h1, h2⟩
    · rw [if_neg (by omega), if_pos hx] at h2
      rw [if_neg (by omega)]
      exact .inr (.inl ⟨rfl, h1, h2⟩)
  | .two x a b, k, hf, hn, y, hy => by
    have hk : 2 ≤ x.kind ∧ x.kind ≤ 6 := by
      have h := hn x (by simp [ETree.flat])
      rcases ETree.fits_two hf with h2 | h2 <;> omega
    have hcc : (ETree.two x a b).cost = a.cost + b.cost + 1 := rfl
    simp only [ETree.laid, List.mem_append, List.mem_singleton] at hy
    rcases hy with hy | hy | rfl
    · rcases a.laid_ops k hf.2.1 hn.two.1 y hy with h | h | h | h
      · exact .inl h
      · exact .inr (.inl h)
      · exact .inr (.inr (.inl h))
      · exact .inr (.inr (.inr ⟨h.1, h.2.1, by omega⟩))
    · rcases b.laid_ops _ hf.2.2 hn.two.2 y hy with h | h | h | h
      · exact .inl h
      · exact .inr (.inl h)
      · exact .inr (.inr (.inl h))
      · exact .inr (.inr (.inr ⟨h.1, h.2.1, by omega⟩))
    · exact .inr (.inr (.inl ⟨by simp only; omega, by simp only; omega, rfl⟩))
  | .three x a b c, k, hf, hn, y, hy => by
    have hcc : (ETree.three x a b c).cost = a.cost + b.cost + c.cost + 2 := rfl
    simp only [ETree.laid, List.mem_append, List.mem_cons] at hy
    rcases hy with hy | rfl | hy | rfl | hy
    · rcases a.laid_ops k hf.2.1 hn.three.1 y hy with h | h | h | h
      · exact .inl h
      · exact .inr (.inl h)
      · exact .inr (.inr (.inl h))
      · exact .inr (.inr (.inr ⟨h.1, h.2.1, by omega⟩))
    · exact .inr (.inr (.inr ⟨.inr rfl, by simp only; omega, by simp only [thirdAt]; omega⟩))
    · rcases b.laid_ops _ hf.2.2.1 hn.three.2.1 y hy with h | h | h | h
      · exact .inl h
      · exact .inr (.inl h)
      · exact .inr (.inr (.inl h))
      · exact .inr (.inr (.inr ⟨h.1, h.2.1, by omega⟩))
    · exact .inr (.inr (.inr ⟨.inl rfl, by simp only; omega, by simp only [thirdAt]; omega⟩))
    · rcases c.laid_ops _ hf.2.2.2 hn.three.2.2 y hy with h | h | h | h
      · exact .inl h
      · exact .inr (.inl h)
      · exact .inr (.inr (.inl h))
      · exact .inr (.inr (.inr ⟨h.1, h.2.1, by unfold thirdAt at h; omega⟩))

/-- A right expression's function is right wherever it stands. -/
structure FuncFits (p : List GFunc) (t : ETree) (n : Nat) : Prop where
  ops : ∀ x ∈ (t.func n).code, opErr p (t.func n) x = 0
  len : (t.func n).code.length ≤ 24
  sized : sizedB (t.func n) = true
  jumps : Jumps (t.func n).code
  hts : Proofs.Ytgahbngbpfilgaa.hts p (t.func n).code = some (t.high 0 ++ [1])
theorem ETree.high_nonneg : ∀ (t : ETree) (h : Int), 0 ≤ h → ∀ x ∈ t.high h, 0 ≤ x
  | .leaf _, h, h0, x, hx => by simp [ETree.high] at hx; omega
  | .two _ a b, h, h0, x, hx => by
    simp only [ETree.high, List.mem_append, List.mem_singleton] at hx
    rcases hx with hx | hx | rfl
    · exact a.high_nonneg h h0 x hx
    · exact b.high_nonneg _ (by omega) x hx
    · omega
  | .three _ a b c, h, h0, x, hx => by
    simp only [ETree.high, List.mem_append, List.mem_cons] at hx
    rcases hx with hx | rfl | hx | rfl | hx
    · exact a.high_nonneg h h0 x hx
    · omega
    · exact b.high_nonneg h h0 x hx
    · omega
    · exact c.high_nonneg h h0 x hx
theorem func_fits (p : List GFunc) (t : ETree) (n : Nat) (ht : t.fits) (hn : t.nodes n) (h9 : t.flat.length ≤ 9) (h4 : n ≤ 4) : FuncFits p t n := by
  have hc := t.cost_le
  have hl : (t.func n).code.length = t.cost + 1 := by simp [ETree.func, t.laid_len]
  have hops : ∀ x ∈ (t.func n).code, opErr p (t.func n) x = 0 := by
    intro x hx
    simp only [ETree.func, List.mem_append, List.mem_singleton] at hx
    rcases hx with hx | rfl
    · rcases t.laid_ops 0 ht hn x hx with ⟨h1, h2, h3⟩ | ⟨h1, h2, h3⟩ | ⟨h1, h2, h3⟩ | ⟨h1, h2, h3⟩
      · exact opErr_ok ⟨by omega, by omega, h2, by unfold mostOf; rw [if_pos h1]; exact h3, fun h => by omega, fun h => by omega⟩
      · exact opErr_ok ⟨by omega, by omega, h2, by unfold mostOf; rw [if_neg (by omega), if_pos (by omega)]; exact h3, fun h => by omega, fun h => by omega⟩
      · exact opErr_ok ⟨by omega, by omega, by omega, by unfold mostOf; rw [if_neg (by omega), if_neg (by omega), if_neg (by omega), if_neg (by omega)]; omega, fun h => by omega, fun h => by omega⟩
      · exact opErr_ok ⟨by omega, by omega, h2, by unfold mostOf; rw [if_neg (by omega), if_neg (by omega), if_pos h1, hl]; omega, fun h => by omega, fun h => by omega⟩
    · exact opErr_ok ⟨by decide, by decide, by decide, by simp [mostOf], fun h => by simp at h, fun h => by simp at h⟩
  have hj : Jumps (t.func n).code := by
    intro k hk hkk
    have hm : (t.func n).code.getD k default ∈ (t.func n).code := by
      rw [show (t.func n).code.getD k default = (t.func n).code[k] by simp [List.getD, List.getElem?_eq_getElem hk]]
      exact List.getElem_mem _
    generalize (t.func n).code.getD k default = x at *
    simp only [ETree.func, List.mem_append, List.mem_singleton] at hm
    rcases hm with hx | rfl
    · rcases t.laid_ops 0 ht hn x hx with ⟨h1, h2, h3⟩ | ⟨h1, h2, h3⟩ | ⟨h1, h2, h3⟩ | ⟨h1, h2, h3⟩ <;> omega
    · simp at hkk
  have hlast : (t.func n).code.getD t.cost default = ⟨12, 0⟩ := by
    simp only [ETree.func]
    rw [← t.laid_len 0]
    simp [List.getD]
  have hol : (t.high 0 ++ [1]).getD t.cost 0 = 1 := by
    rw [← t.high_len 0]
    simp [List.getD]
  have hF := tree_flow p (t.func n).code (t.high 0 ++ [1]) n t 0 0 ht hn (Sits.front _ _) (Sits.front _ _) (by omega) (by rw [Nat.zero_add]; exact hol) (by omega) (by omega)
  refine ⟨hops, by omega, ?_, hj, Full.hts hj (hF.full hl (by simp [t.high_len]) hlast hol (t.high_zero 0 (Sits.front _ _) 0))⟩
  unfold sizedB ETree.func
  exact decide_eq_true (show 0 ≤ (n : Int) ∧ (n : Int) ≤ n ∧ (n : Int) ≤ 4 from ⟨by omega, by omega, by omega⟩)

/-- The heights of the first function's ops. -/
def mainH (n : Nat) : List Int := (List.range n).map (fun (i : Nat) => (i : Int)) ++ [(n : Int), 1]
theorem main_at (vals : List Int) (i : Nat) (hi : i < vals.length) : (mainF vals).code.getD i default = ⟨0, vals.getD i 0⟩ := by
  unfold mainF
  rw [List.getD_eq_getElem?_getD, List.getElem?_append_left (by simpa using hi)]
  simp [hi]
theorem mainH_at (n i : Nat) (hi : i ≤ n) : (mainH n).getD i 0 = i := by
  by_cases h : i < n
  · unfold mainH
    rw [List.getD_eq_getElem?_getD, List.getElem?_append_left (by simpa using h)]
    simp [h]
  · obtain rfl : i = n := by omega
    simp [mainH, List.getD]
theorem main_flow {p : List GFunc} (vals : List Int) (h4 : vals.length ≤ 4) (ha : (p.getD 1 default).args = vals.length) : Flows p (mainF vals).code (mainH vals.length) 0 (vals.length + 1) 0 1 := by
  have hl : (mainF vals).code.length = vals.length + 2 := by simp [mainF]
  have key : ∀ m, m ≤ vals.length → Flows p (mainF vals).code (mainH vals.length) 0 m 0 m := by
    intro m
    induction m with
    | zero => exact fun _ => ⟨fun h => ⟨fun i hi => by omega, h⟩, fun i hi => by omega⟩
    | succ m ih =>
      intro hm
      refine (ih (by omega)).trans ?_
      rw [Nat.zero_add]
      exact Flows.op (by omega) (main_at vals m (by omega)) (mainH_at _ _ (by omega)) (mainH_at _ _ (by omega)) (t := 0) (l := 1) (by simp [takesOf]) (by simp [leavesOf]) (by simp) (by omega) (by omega) (by omega) (by omega)
  refine (key _ (Nat.le_refl _)).trans ?_
  rw [Nat.zero_add]
  exact Flows.op (x := ⟨11, 1⟩) (by omega) (by simp [mainF, List.getD]) (mainH_at _ _ (Nat.le_refl _)) (by simp [mainH, List.getD]) (t := vals.length) (l := 1) (by simp only [takesOf]; simp; exact ha) (by simp [leavesOf]) (by simp) (by omega) (by omega) (by omega) (by omega)
theorem main_ops {p : List GFunc} {vals : List Int} (hv : ∀ v ∈ vals, 0 ≤ v ∧ v ≤ 999) (hp : p.length = 2) (hs : sizedB (p.getD 1 default) = true) : ∀ x ∈ (mainF vals).code, opErr p (mainF vals) x = 0 := by
  intro x hx
  simp only [mainF, List.mem_append, List.mem_map, List.mem_cons, List.not_mem_nil, or_false] at hx
  rcases hx with ⟨v, hv', rfl⟩ | rfl | rfl
  · have := hv v hv'
    exact opErr_ok ⟨by simp, by simp, this.1, by simp [mostOf]; exact this.2, fun h => by simp at h, fun h => by simp at h⟩
  · exact opErr_ok ⟨by simp, by simp, by simp, by simp [mostOf, hp], fun _ => hs, fun h => by simp at h⟩
  · exact opErr_ok ⟨by simp, by simp, by simp, by simp [mostOf], fun h => by simp at h, fun h => by simp at h⟩
theorem main_hts {p : List GFunc} (vals : List Int) (h4 : vals.length ≤ 4) (ha : (p.getD 1 default).args = vals.length) : hts p (mainF vals).code = some (mainH vals.length) := by
  have hl : (mainF vals).code.length = vals.length + 2 := by simp [mainF]
  have hj : Jumps (mainF vals).code := by
    intro k hk hkk
    by_cases h : k < vals.length
    · rw [main_at vals k h] at hkk; simp at hkk
    · have : k = vals.length ∨ k = vals.length + 1 := by omega
      rcases this with rfl | rfl
      · simp [mainF, List.getD] at hkk
      · simp [mainF, List.getD] at hkk
  exact Full.hts hj ((main_flow vals h4 ha).full hl (by simp [mainH]) (by simp [mainF, List.getD]) (by simp [mainH, List.getD]) (mainH_at _ _ (Nat.zero_le _)))

/-- The program of a right expression is right, and of each function one knows the heights. -/
theorem forge_right (t : ETree) (vals : List Int) (ht : t.fits) (hn : t.nodes vals.length) (h9 : t.flat.length ≤ 9) (h4 : vals.length ≤ 4) (hv : ∀ v ∈ vals, 0 ≤ v ∧ v ≤ 999) :
    RightP [mainF vals, t.func vals.length] := by
  have hF := func_fits [mainF vals, t.func vals.length] t vals.length ht hn h9 h4
  have hl : (mainF vals).code.length = vals.length + 2 := by simp [mainF]
  refine ⟨by simp, by simp, rfl, fun k hk => ?_, fun k hk => ?_⟩
  · have hk2 : k = 0 ∨ k = 1 := by simp at hk; omega
    rcases hk2 with rfl | rfl
    · show funcErr _ 0 = 0
      unfold funcErr
      rw [if_neg (by simp), if_neg (by simp; omega), if_neg (by simp [mainF, sizedB])]
      exact opsErr_ok (main_ops hv rfl hF.sized)
    · show funcErr _ 1 = 0
      unfold funcErr
      have := hF.len
      have h2 := hF.sized
      rw [if_neg (by simp), if_neg (by simp; omega), if_neg (by simp; exact h2)]
      exact opsErr_ok hF.ops
  · have hk2 : k = 0 ∨ k = 1 := by simp at hk; omega
    rcases hk2 with rfl | rfl
    · rw [show ([mainF vals, t.func vals.length].getD 0 default) = mainF vals from rfl, main_hts vals h4 rfl]
      rfl
    · rw [show ([mainF vals, t.func vals.length].getD 1 default) = t.func vals.length from rfl, hF.hts]
      rfl
end Go.Proofs.Ytgahbngbpfilgaa
end
section
/- Contracts of forge.Of and forge.Func. No condition. -/
set_option maxHeartbeats 4000000
set_option maxRecDepth 100000
namespace Go.Proofs.Ytgahbngbpfilgaa
open Go Go.RowKit

theorem func_i64 {n : Nat} (t : ETree) (ht : t.fits) (ho : t.nodes n) (h9 : t.flat.length ≤ 9) (hn : n ≤ 4) : ∀ y ∈ (t.func n).code, I64 y.kind ∧ I64 y.a := by
  intro y hy
  have hc := t.cost_le
  simp only [ETree.func, List.mem_append, List.mem_singleton] at hy
  rcases hy with hy | rfl
  · rcases t.laid_ops 0 ht ho y hy with ⟨h1, h2, h3⟩ | ⟨h1, h2, h3⟩ | ⟨h1, h2, h3⟩ | ⟨h1, h2, h3⟩
    · exact ⟨I64.small (by omega) (by omega), I64.small (by omega) (by omega)⟩
    · exact ⟨I64.small (by omega) (by omega), I64.small (by omega) (by omega)⟩
    · exact ⟨I64.small (by omega) (by omega), I64.small (by omega) (by omega)⟩
    · exact ⟨I64.small (by omega) (by omega), I64.small (by omega) (by omega)⟩
  · exact ⟨I64.small (by decide) (by decide), I64.small (by decide) (by decide)⟩

theorem forgeOf_any (t : ETree) (n : Nat) (ht : t.fits) (ho : t.nodes n) (h9 : t.flat.length ≤ 9) (hn : n ≤ 4) (v : Value) (S : Nat → Prop) (w : World) (hp : Nodes w S v t.flat) :
    Calls Try.prog 53 #[v, .int .i64 n] w fun e w' => (∃ x, e = .returned x ∧ FuncV w' (w.heap.size ≤ ·) x (t.func n)) ∧ Ext w w' := by
  have hp' : Nodes w (· < w.heap.size) v t.flat := Nodes.stays (S := S) (fun b o u _ hc => ⟨hc, lt_of_cell hc⟩) hp
  have HI := Lib.hid (func_i64 t ht ho h9 hn)
  have hc := t.cost_le
  have HCL := Lib.hid (show t.cost ≤ 12 by omega)
  have HMK := Lib.hid (make_any n t ht ho)
  obtain ⟨a, cap, rfl, _, _, _⟩ := hp
  have RA := alloc_keep
  obtain ⟨w2, hw2⟩ : ∃ w2, w2 = (w.alloc (.cells #[.int .i64 0, .int .i64 0, .slice none 0 0] 43)).alloc (.cells #[.slice a t.flat.length cap, .slice none 0 0] 108) := ⟨_, rfl⟩
  have hs1 : (w.alloc (.cells #[.int .i64 0, .int .i64 0, .slice none 0 0] 43)).heap.size = w.heap.size + 1 := Array.size_push _
  have he12 : Ext (w.alloc (.cells #[.int .i64 0, .int .i64 0, .slice none 0 0] 43)) w2 := by rw [hw2]; exact (Ext.refl _).alloc _
  have hE2 : Ext w w2 := ((Ext.refl w).alloc _).trans he12
  have r0 := (Cx.new w [.int .i64 0, .int .i64 0, .slice none 0 0] 43 (j := 0) rfl).ext he12
  have r1 := (Cx.new w [.int .i64 0, .int .i64 0, .slice none 0 0] 43 (j := 1) rfl).ext he12
  have r2 := (Cx.new w [.int .i64 0, .int .i64 0, .slice none 0 0] 43 (j := 2) rfl).ext he12
  have s0 := Cx.new (w.alloc (.cells #[.int .i64 0, .int .i64 0, .slice none 0 0] 43)) [.slice a t.flat.length cap, .slice none 0 0] 108 (j := 0) rfl
  have s1 := Cx.new (w.alloc (.cells #[.int .i64 0, .int .i64 0, .slice none 0 0] 43)) [.slice a t.flat.length cap, .slice none 0 0] 108 (j := 1) rfl
  rw [hs1] at s0 s1
  have HW2 : Hid ((w.alloc (.cells #[.int .i64 0, .int .i64 0, .slice none 0 0] 43)).alloc (.cells #[.slice a t.flat.length cap, .slice none 0 0] 108) = w2) := hw2.symm
  have hsm : Smi w2 (· < w.heap.size) (w.heap.size + 1) (t.flat ++ []) [] (.slice a t.flat.length cap) (.slice none 0 0) := by
    rw [hw2]
    refine ⟨s0, s1, ?_, RowAt.nil _ _ _ _⟩
    rw [List.append_nil, ← hw2]
    exact Nodes.stays hE2.stays hp'
  have HSM := Lib.hid hsm
  have HR := Lib.hid (⟨r0, r1, r2⟩ : _ ∧ _ ∧ _)
  have HE2 := Lib.hid hE2
  have HLS : Hid (∀ b, b < w.heap.size → b < w.heap.size + 1) := fun b hb => by omega
  clear hp' ht ho h9 hc hw2 hs1 he12 hE2 r0 r1 r2 s0 s1 hsm
  go_enter Try.func53, Try.ntmps53
  go_upto_region 2 with fail
  rw [HW2.out]
  go_upto_region 3 with (first
    | (go_at_call 84; (with_reducible refine (MakeC.call HMK.out HLS.out HSM.out (by have := HCL.out; simp; omega)).mono ?_); rintro e w3 ⟨rfl, v3, vc3, hs3, hc3, hg3⟩; rw [List.nil_append, List.length_nil] at hs3))
  go_upto_region 4 with (first
    | (go_at_call 56; (with_reducible refine (smithOp_any _ _ HLS.out hs3 (by have := HCL.out; rw [t.laid_len]; omega)).mono ?_); rintro e w4 ⟨rfl, vc4, hs4, hc4, hg4⟩))
  have hC := MS.trans hc3 hg3 hc4
  have hne : ¬ MS (w.heap.size + 1) (.slice none 0 0) w.heap.size := fun h => by
    rcases h with h | h
    · omega
    · cases h
  have d0 := (HR.out.1).chg hC hne
  have d1 := (HR.out.2.1).chg hC hne
  have d2 := (HR.out.2.2).chg hC hne
  obtain ⟨d0, d0'⟩ := d0
  obtain ⟨d1, d1'⟩ := d1
  obtain ⟨d2, d2'⟩ := d2
  have hE4 : Ext w w4 := Chg.ext_from HE2.out hC (fun b h => by
    rcases h with h | h
    · omega
    · cases h)
  have hrow := hs4.row
  obtain ⟨ac, cc, rfl, _, _⟩ := hrow.shape
  have x1 := hs4.c1.1
  obtain ⟨L, hL⟩ : ∃ L, (t.laid 0 ++ [(⟨12, 0⟩ : GOp)]).length = L := ⟨_, rfl⟩
  rw [hL] at x1
  have hrow2 : RowAt w4 (w.heap.size + 1 + 1) 2 (.slice ac L cc) (t.func n).code.length ((t.func n).code.flatMap opF) := by rw [← hL]; exact hrow
  have HROW := Lib.hid hrow2
  have HE4 := Lib.hid hE4
  have HCL2 : Hid ((t.func n).code.length ≤ 13) := by unfold Hid ETree.func; simp only [List.length_append, t.laid_len, List.length_singleton]; have := HCL.out; omega
  clear hs3 hc3 hg3 hs4 hc4 hg4 hC hne hrow hrow2 hE4 hL
  go_wp2_with fail
  refine bodyPost_ret (results_cell_mid rfl _ _ w.heap.size 0 _ _ rfl (box3 ⟨d0, d0'⟩ ⟨d1, d1'⟩ ⟨d2, d2'⟩ _ _ _) rfl rfl (by kernel_rfl)) rfl ?_
  refine ⟨⟨_, rfl, _, rfl, I64.small (by show (-1000000 : Int) ≤ n; omega) (by show (n : Int) ≤ 1000000; omega), I64.small (by show (-1000000 : Int) ≤ n; omega) (by show (n : Int) ≤ 1000000; omega), ?_⟩, ext3 HE4.out _ _ _⟩
  refine Ops.of_row (l := (t.func n).code) (RowAt.chg (M := (· = w.heap.size)) HROW.out (chg3 _ _ _ _ _) (fun g e hg => ?_) (by decide)) (by have := HCL2.out; omega) HI.out _ (fun b hb _ => ?_)
  · have h1 := HROW.out.le _ e
    omega
  · show w.heap.size ≤ b
    omega

theorem forgeFunc_any (es : List GNode) (locals : Int) (v : Value) (S : Nat → Prop) (w : World) (hp : Nodes w S v es) (hI : I64 locals) :
    Calls Try.prog 18 #[v, .int .i64 locals] w fun e w' => (∃ x, e = .returned (.tuple #[x, .int .i64 (exprErr es locals)]) ∧ FuncV w' (w.heap.size ≤ ·) x (forgeFn es locals)) ∧ Ext w w' := by
  have HP := Lib.hid hp
  obtain ⟨a, cap, rfl, _, _, _⟩ := hp
  have b0 := Cx.new w [.int .i64 0, .int .i64 0, .slice none 0 0] 43 (j := 0) rfl
  have b1 := Cx.new w [.int .i64 0, .int .i64 0, .slice none 0 0] 43 (j := 1) rfl
  have b2 := Cx.new w [.int .i64 0, .int .i64 0, .slice none 0 0] 43 (j := 2) rfl
  by_cases h0 : exprErr es locals = 0
  · obtain ⟨t, ht, he, htr, h9, hl0, hl4, ho⟩ := exprErr_tree h0
    obtain ⟨n, rfl⟩ : ∃ n : Nat, locals = n := ⟨locals.toNat, by omega⟩
    rw [Int.toNat_natCast] at ho
    have HT : Hid (forgeFn es (n : Int) = t.func n) := by unfold Hid forgeFn; rw [if_pos h0, htr]
    have H0 := Lib.hid h0
    have HOF := Lib.hid (fun (w' : World) (h : Ext w w') => forgeOf_any t n ht ho h9 (by omega) (.slice a es.length cap) S w' (by rw [← he]; exact Nodes.stays h.stays HP.out))
    clear h0 he htr ho h9 ht hl0 hl4
    go_enter Try.func18, Try.ntmps18
    go_wp2_with (first
      | (go_at_call 53; (with_reducible refine (HOF.out _ HB2.out).mono ?_); rintro e w3 ⟨⟨x, rfl, hx⟩, hb3⟩; have HX := Lib.hid hx; obtain ⟨s, rfl, ix, iy, hops⟩ := hx; obtain ⟨⟨d0, d0'⟩, ⟨d1, d1'⟩, ⟨d2, d2'⟩⟩ := (⟨c0.ext hb3, c1.ext hb3, c2.ext hb3⟩ : _ ∧ _ ∧ _); have HB3 := Lib.hid (HB2.out.trans hb3); obtain ⟨sa, cs, rfl, _, _, _⟩ := (⟨hops, trivial⟩ : _ ∧ True).1; clear hb3 hops)
      | (go_at_call 52; (with_reducible refine (exprCheck_any es _ S n _ (Nodes.stays (Ext.stays ((Ext.refl w).alloc _)) HP.out) hI).mono ?_); rintro e w2 ⟨rfl, hb2⟩; rw [H0.out]; have c0 := b0.ext hb2; have c1 := b1.ext hb2; have c2 := b2.ext hb2; have HB2 := Lib.hid (((Ext.refl w).alloc _).trans hb2); clear hb2))
    refine bodyPost_ret (results_cell2 rfl _ _ w.heap.size 0 _ _ rfl (box3 ⟨d0, d0'⟩ ⟨d1, d1'⟩ ⟨d2, d2'⟩ _ _ _) rfl rfl (by kernel_rfl)) rfl ?_
    refine ⟨⟨_, by rw [H0.out]; rfl, ?_⟩, ext3 HB3.out _ _ _⟩
    rw [HT.out]
    have hs : w.heap.size < w2.heap.size := c0.lt
    refine FuncV.stays (S := (w2.heap.size ≤ ·)) (fun b o v hb hc => ?_) HX.out
    exact ⟨(chg3 _ _ _ _ _).cell (by show ¬ b = w.heap.size; have : w2.heap.size ≤ b := hb; omega) hc, by show w.heap.size ≤ b; have : w2.heap.size ≤ b := hb; omega⟩
  · have HT : Hid (forgeFn es locals = ⟨0, 0, []⟩) := by unfold Hid forgeFn; rw [if_neg h0]
    obtain ⟨r, hr⟩ : ∃ r, exprErr es locals = r := ⟨_, rfl⟩
    rw [hr] at h0
    have HR := Lib.hid hr
    clear hr
    have TB : (r != 0) = true := bne_iff_ne.2 h0
    clear h0
    go_enter Try.func18, Try.ntmps18
    go_wp2_with (first
      | (go_at_call 52; (with_reducible refine (exprCheck_any es _ S locals _ (Nodes.stays (Ext.stays ((Ext.refl w).alloc _)) HP.out) hI).mono ?_); rintro e w2 ⟨rfl, hb2⟩; rw [HR.out]; obtain ⟨⟨d0, d0'⟩, ⟨d1, d1'⟩, ⟨d2, d2'⟩⟩ := (⟨b0.ext hb2, b1.ext hb2, b2.ext hb2⟩ : _ ∧ _ ∧ _); have HB2 := Lib.hid (((Ext.refl w).alloc _).trans hb2); clear hb2))
    refine bodyPost_ret (results_cell2 rfl _ _ w.heap.size 0 _ _ rfl (box3 ⟨d0, d0'⟩ ⟨d1, d1'⟩ ⟨d2, d2'⟩ _ _ _) rfl rfl (by kernel_rfl)) rfl ?_
    refine ⟨⟨_, by rw [HR.out]; rfl, ?_⟩, ext3 HB2.out _ _ _⟩
    rw [HT.out]
    exact ⟨_, rfl, I64.small (by decide) (by decide), I64.small (by decide) (by decide), Sl.nil _ _ _⟩
end Go.Proofs.Ytgahbngbpfilgaa
end
