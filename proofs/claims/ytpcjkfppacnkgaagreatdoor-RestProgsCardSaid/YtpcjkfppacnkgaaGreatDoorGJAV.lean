/- Merged texts: contracts and plain facts, one part behind another; each part begins with what it says. -/
import Derived.Test.YtpcjkfppacnkgaaGreatDoorGJAF
import Derived.Test.YtpcjkfppacnkgaaGreatDoorGJAG
import Derived.Test.YtpcjkfppacnkgaaGreatDoorGJAK
import Derived.Test.YtpcjkfppacnkgaaGreatDoorGJAN
import Derived.Test.YtpcjkfppacnkgaaGreatDoorGJAT
import Derived.Test.YtpcjkfppacnkgaaGreatDoorGJAU
section
/- Contracts of forge's smith: op, here. No condition but that there is room. -/
set_option maxHeartbeats 4000000
set_option maxRecDepth 100000
namespace Go.Proofs.YtpcjkfppacnkgaaGreatDoor
open Go Go.RowKit

/-- A smith in a block: what is left, and the ops. -/
structure Smi (w : World) (S : Nat → Prop) (R : Nat) (e : List GNode) (c : List GOp) (v vc : Value) : Prop where
  c0 : Cx w R 0 v
  c1 : Cx w R 1 vc
  nodes : Nodes w S v e
  row : RowAt w (R + 1) 2 vc c.length (c.flatMap opF)
/-- What a smith writes. -/
def MS (R : Nat) (vc : Value) : Nat → Prop := fun b => b = R ∨ rowBlock vc = some b
/-- The row is where it was, or in a new block. -/
def Grows (w : World) (vc vc' : Value) : Prop := ∀ g, rowBlock vc' = some g → rowBlock vc = some g ∨ w.heap.size ≤ g
theorem Grows.refl (w : World) (vc : Value) : Grows w vc vc := fun _ h => .inl h
theorem Grows.trans {w w1 : World} {vc vc1 vc2 : Value} {M : Nat → Prop} (h1 : Grows w vc vc1) (hc : Chg M w w1) (h2 : Grows w1 vc1 vc2) : Grows w vc vc2 := fun g hg => by
  have := hc.size
  rcases h2 g hg with h | h
  · exact h1 g h
  · exact .inr (by omega)
theorem MS.trans {w w1 w2 : World} {R : Nat} {vc vc1 : Value} (h1 : Chg (MS R vc) w w1) (hg : Grows w vc vc1) (h2 : Chg (MS R vc1) w1 w2) : Chg (MS R vc) w w2 :=
  h1.trans' h2 (fun n hn h => by
    rcases h with h | h
    · exact .inl h
    · rcases hg n h with h | h
      · exact .inr h
      · omega)
theorem Smi.keepsN {w w' : World} {S : Nat → Prop} {R : Nat} {e : List GNode} {c : List GOp} {v vc : Value} (hS : ∀ b, S b → b < R) (h : Smi w S R e c v vc) (hc : Chg (MS R vc) w w') : Nodes w' S v e :=
  Nodes.stays (hc.stays (fun b hb hm => by
    have hb := hS b hb
    rcases hm with hm | hm
    · omega
    · have := h.row.le b hm; omega)) h.nodes

/-- One op more. -/
theorem Smi.grow {w W7 W8 : World} {S : Nat → Prop} {R : Nat} {e : List GNode} {c : List GOp} {v vc v1 : Value} {y : GOp} (hS : ∀ b, S b → b < R) (h : Smi w S R e c v vc) (he : Ext w W7)
    (hn : NewRow W7 W8 (R + 1) 2 vc v1 (c.length + 1) (c.flatMap opF ++ opF y)) :
    (Smi (W8.setCell ⟨R, 1, none⟩ v1) S R e (c ++ [y]) v v1 ∧ Chg (MS R vc) w (W8.setCell ⟨R, 1, none⟩ v1) ∧ Grows w vc v1) ∧ Cx W8 R 1 vc := by
  have hM := h.row.le
  obtain ⟨n1, hch, n3⟩ := hn
  have k0 : Cx W8 R 0 v := (h.c0.ext he).chg hch (fun e => by have := hM _ e; omega)
  have k1 : Cx W8 R 1 vc := (h.c1.ext he).chg hch (fun e => by have := hM _ e; omega)
  have hC : Chg (MS R vc) w (W8.setCell ⟨R, 1, none⟩ v1) :=
    ((Chg.of_ext he).trans (hch.mono (fun _ _ h => .inr h))).setCell (p := ⟨R, 1, none⟩) (.inl (.inl rfl)) _
  refine ⟨⟨⟨k0.other (.inr (by decide)) _, k1.set _, h.keepsN hS hC, ?_⟩, hC, fun g hg => ?_⟩, k1⟩
  · rw [List.length_append, List.length_singleton, List.flatMap_append, List.flatMap_singleton]
    exact n1.chg (chg_one W8 R 1 v1) (fun q e hq => by have := n1.le _ e; omega) (by decide)
  · rcases n3 with n3 | n3
    · exact .inl (by rw [← n3]; exact hg)
    · have := he.size
      have := n3 g hg
      exact .inr (by omega)
/-- A smith where only its own changes have come. -/
theorem Smi.ext {w w' : World} {S : Nat → Prop} {R : Nat} {e : List GNode} {c : List GOp} {v vc : Value} (h : Smi w S R e c v vc) (he : Ext w w') : Smi w' S R e c v vc :=
  ⟨h.c0.ext he, h.c1.ext he, Nodes.stays he.stays h.nodes, h.row.ext he (by decide)⟩
/-- The next node is taken. -/
theorem Smi.take {w W : World} {S : Nat → Prop} {R : Nat} {e e' : List GNode} {c : List GOp} {v v' vc : Value} (hS : ∀ b, S b → b < R) (h : Smi w S R e c v vc) (he : Ext w W) (hv : Nodes w S v' e') :
    Smi (W.setCell ⟨R, 0, none⟩ v') S R e' c v' vc ∧ Chg (MS R vc) w (W.setCell ⟨R, 0, none⟩ v') := by
  have hC : Chg (MS R vc) w (W.setCell ⟨R, 0, none⟩ v') := (Chg.of_ext he).setCell (p := ⟨R, 0, none⟩) (.inl (.inl rfl)) _
  have h2 : Smi w S R e' c v vc → Nodes (W.setCell ⟨R, 0, none⟩ v') S v' e' := fun _ => Nodes.stays (hC.stays (fun b hb hm => by
    have hb := hS b hb
    rcases hm with hm | hm
    · omega
    · have := h.row.le b hm; omega)) hv
  refine ⟨⟨(h.c0.ext he).set _, (h.c1.ext he).other (.inr (by decide)) _, Nodes.stays (hC.stays (fun b hb hm => by
    have hb := hS b hb
    rcases hm with hm | hm
    · omega
    · have := h.row.le b hm; omega)) hv, ?_⟩, hC⟩
  exact (h.row.ext he (by decide)).chg (chg_one W R 0 v') (fun q e hq => by have := h.row.le _ e; omega) (by decide)

theorem smithOp_any {S : Nat → Prop} {R : Nat} {e : List GNode} {c : List GOp} {v vc : Value} (k a : Int) {w : World} (hS : ∀ b, S b → b < R) (h : Smi w S R e c v vc) (hl : c.length ≤ 1000) :
    Calls Tryz.prog 59 #[.pointer (some ⟨R, 0, none⟩), .int .i64 k, .int .i64 a] w fun e' w' => e' = .returned (.int .i64 c.length) ∧
      ∃ vc', Smi w' S R e (c ++ [⟨k, a⟩]) v vc' ∧ Chg (MS R vc) w w' ∧ Grows w vc vc' := by
  have H := Lib.hid h
  have HS := Lib.hid hS
  obtain ⟨ac, cc, rfl, _, _⟩ := h.row.shape
  obtain ⟨c1, c1'⟩ := h.c1
  have hRl := h.c1.lt
  obtain ⟨o0, ho0, hoz0, hoz1, hoz2⟩ := info_parts infoO
  have RA := alloc_keep
  have KK : IntKind.i64.wrap (((c.length + 1 : Nat) : Int) - 1) = (c.length : Int) := by rw [IntWalk.i64_in _ (by omega)]; omega
  have KK2 : IntKind.i64.wrap ((c.length : Int) + 1 - 1) = (c.length : Int) := by rw [IntWalk.i64_in _ (by omega)]; omega
  clear h hS
  go_enter Tryz.func59, Tryz.ntmps59
  go_wp2_with (first
    | (at_builtin; refine wpList_append_row rfl _ _ 47 rfl (R + 1) 51 o0 (.agg #[.int .i64 0, .int .i64 0]) 2 16 Tryz.underlying47 ho0 hoz0 hoz1 hoz2 rfl (by decide) _ _ _ rfl (by exact H.out.row.ext ((Ext.refl _).alloc _) (by decide)) 1 (opF ⟨k, a⟩) (src_op _ ⟨k, a⟩ _) (by unfold maxLen; omega) (by omega) (by simp; omega) ?_; intro v1 Wv1 rv1; obtain ⟨a1, cap1, rfl, _, _⟩ := rv1.1.shape; have HG := Lib.hid (H.out.grow HS.out ((Ext.refl _).alloc _) rv1); obtain ⟨k20, k21⟩ := HG.out.2; obtain ⟨k30, k31⟩ := HG.out.1.1.c1))
  go_ret
  exact ⟨rfl, _, HG.out.1⟩

theorem smithHere_any {S : Nat → Prop} {R : Nat} {e : List GNode} {L Q : List GOp} {y : GOp} {v vc : Value} {w : World} (hS : ∀ b, S b → b < R) (h : Smi w S R e (L ++ y :: Q) v vc) (hl : (L ++ y :: Q).length ≤ 1000) (k n : Nat) (hk : L.length = k) (hn : (L ++ y :: Q).length = n) :
    Calls Tryz.prog 136 #[.pointer (some ⟨R, 0, none⟩), .int .i64 k] w fun e' w' => e' = .returned (.tuple #[]) ∧
      Smi w' S R e (L ++ ⟨y.kind, n⟩ :: Q) v vc ∧ Chg (MS R vc) w w' := by
  have H := Lib.hid h
  have HS := Lib.hid hS
  have hrow := h.row
  obtain ⟨g, o, cap, rfl, hg, hcap, hm, hpl⟩ := RowAt.place opF (fun _ => rfl) hrow
  obtain ⟨p1, p1'⟩ := hpl 1 _ (by decide) rfl
  obtain ⟨c1, c1'⟩ := h.c1
  have hle := hrow.le g hg
  have hkn : k < n := by rw [← hn, List.length_append, List.length_cons]; omega
  have HN := Lib.hid hn
  have hn1000 : n ≤ 1000 := by omega
  rw [hk] at p1 p1'
  rw [hn] at c1 hg
  have KN : (k : Int) < (n : Int) := by omega
  have hd := h.ext (Ext.refl w).drew
  have hnew : RowAt (w.drew.setCell ⟨g, o + k * 2 + 1, none⟩ (.int .i64 n)) (R + 1) 2 (.slice (some ⟨g, o, none⟩) n cap) (L ++ ⟨y.kind, n⟩ :: Q).length ((L ++ ⟨y.kind, n⟩ :: Q).flatMap opF) := by
    have := RowAt.storeAt opF (fun _ => rfl) (y' := ⟨y.kind, (n : Int)⟩) hd.row (r := 1) (by decide) (u := .int .i64 n) rfl
    rw [hk, hn] at this
    exact this
  have HNW := Lib.hid hnew
  have HD := Lib.hid hd
  have HG := Lib.hid hg
  have HK := Lib.hid hk
  clear h hd hS hrow hnew hpl hl hk hg
  rw [hn]
  clear hn
  go_enter Tryz.func136, Tryz.ntmps136
  refine wp_region_rtt (fun w' => w'.cell? ⟨R, 1, none⟩ = some (.slice (some ⟨g, o, none⟩) n cap)) 12 [0, 1, 2, 3, 4, 5, 6, 7, 8, 9, 10, 11] [12] (by kernel_rfl) (by kernel_rfl) (fun _ _ _ _ _ h => h) (by simpa using c1) ?_
  (try simp only [pickOps, List.filterMap_cons, List.filterMap_nil, List.getElem?_cons_zero, List.getElem?_cons_succ])
  repeat (
    refine readsQ_do (by rfl) ?_
    apply Exists.intro
    refine ⟨fun w' hw' => ?_, ?_⟩
    focus
      (try dsimp only at hw')
      go_split_ands
      go_simp
      (try with_reducible rfl)
    (try dsimp only [Act.put])
    (try simp only [List.setIfInBounds_toArray, List.set_cons_succ, List.set_cons_zero]))
  refine readsQ_nil ?_
  refine tailW_step ?_
  go_wp2_with fail
  refine nextW_end ?_
  go_end0
  have hne : g ≠ R := by omega
  have hC : Chg (MS R (.slice (some ⟨g, o, none⟩) n cap)) w (w.drew.setCell ⟨g, o + k * 2 + 1, none⟩ (.int .i64 n)) :=
    (Chg.of_ext (Ext.refl w).drew).setCell (p := ⟨g, o + k * 2 + 1, none⟩) (.inl (.inr HG.out)) _
  have hC2 : Chg (MS R (.slice (some ⟨g, o, none⟩) (L ++ y :: Q).length cap)) w (w.drew.setCell ⟨g, o + k * 2 + 1, none⟩ (.int .i64 n)) := by rw [HN.out]; exact hC
  have hc1 := HD.out.c1
  rw [HN.out] at hc1
  exact ⟨rfl, ⟨HD.out.c0.other (.inl (fun e => hne e.symm)) _, hc1.other (.inl (fun e => hne e.symm)) _, H.out.keepsN HS.out hC2, HNW.out⟩, hC⟩
end Go.Proofs.YtpcjkfppacnkgaaGreatDoor
end
section
/- Contract of forge's smith's make: a tree's ops, behind what is there. No condition but that there is room. -/
set_option maxHeartbeats 4000000
set_option maxRecDepth 100000
namespace Go.Proofs.YtpcjkfppacnkgaaGreatDoor
open Go Go.RowKit

def MakeC (t : ETree) : Prop := ∀ (S : Nat → Prop) (R : Nat) (rest : List GNode) (c : List GOp) (v vc : Value) (w : World), (∀ b, S b → b < R) → Smi w S R (t.flat ++ rest) c v vc → c.length + t.cost ≤ 1000 →
  Calls Tryz.prog 102 #[.pointer (some ⟨R, 0, none⟩)] w fun e w' => e = .returned (.tuple #[]) ∧
    ∃ v' vc', Smi w' S R rest (c ++ t.laid c.length) v' vc' ∧ Chg (MS R vc) w w' ∧ Grows w vc vc'

theorem MakeC.call {t : ETree} (h : MakeC t) {S : Nat → Prop} {R : Nat} {rest : List GNode} {c : List GOp} {v vc : Value} {w : World} (hS : ∀ b, S b → b < R) (hs : Smi w S R (t.flat ++ rest) c v vc) (hl : c.length + t.cost ≤ 1000) :
    Calls Tryz.prog 102 #[.pointer (some ⟨R, 0, none⟩)] w fun e w' => e = .returned (.tuple #[]) ∧
      ∃ v' vc', Smi w' S R rest (c ++ t.laid c.length) v' vc' ∧ Chg (MS R vc) w w' ∧ Grows w vc vc' := h S R rest c v vc w hS hs hl

/-- A box is not the smith's, and what the smith does leaves it. -/
theorem apart {w : World} {R X : Nat} {vc vc' : Value} (hX : ¬ MS R vc X) (hl : X < w.heap.size) (hg : Grows w vc vc') : ¬ MS R vc' X := fun hm => by
  rcases hm with hm | hm
  · exact hX (.inl hm)
  · rcases hg X hm with h1 | h1
    · exact hX (.inr h1)
    · omega
theorem Smi.fresh {w : World} {S : Nat → Prop} {R : Nat} {e : List GNode} {c : List GOp} {v vc : Value} (h : Smi w S R e c v vc) : ¬ MS R vc w.heap.size := fun hm => by
  have := h.c0.lt
  rcases hm with hm | hm
  · omega
  · have := h.row.lt2 (by decide) _ hm; omega

/-- The next node is taken, and lies in a box of its own. -/
structure Begun (w W : World) (S : Nat → Prop) (R X : Nat) (x : GNode) (e : List GNode) (c : List GOp) (v vc : Value) : Prop where
  smi : Smi W S R e c v vc
  chg : Chg (MS R vc) w W
  k : W.cell? ⟨X, 0, none⟩ = some (.int .i64 x.kind)
  n : W.cell? ⟨X, 1, none⟩ = some (.int .i64 x.n)
  out : ¬ MS R vc X
  lt : X < W.heap.size
theorem Smi.start {w : World} {S : Nat → Prop} {R : Nat} {e e' : List GNode} {c : List GOp} {v v' vc : Value} (hS : ∀ b, S b → b < R) (h : Smi w S R e c v vc) (hv : Nodes w S v' e') (x : GNode) (t : TypeId) :
    Begun w ((w.setCell ⟨R, 0, none⟩ v').alloc (.cells #[.int .i64 x.kind, .int .i64 x.n] t)) S R w.heap.size x e' c v' vc := by
  obtain ⟨h1, h2⟩ := h.take hS (Ext.refl w) hv
  have hsz : (w.setCell ⟨R, 0, none⟩ v').heap.size = w.heap.size := size_setCells R [v'] 0 w
  have c0 := (Cx.new (w.setCell ⟨R, 0, none⟩ v') [.int .i64 x.kind, .int .i64 x.n] t (j := 0) rfl).1
  have c1 := (Cx.new (w.setCell ⟨R, 0, none⟩ v') [.int .i64 x.kind, .int .i64 x.n] t (j := 1) rfl).1
  have hl := lt_of_cell c0
  rw [hsz] at c0 c1 hl
  exact ⟨h1.ext ((Ext.refl _).alloc _), h2.alloc _, c0, c1, h.fresh, hl⟩
/-- Behind a call of the smith's. -/
theorem Begun.next {w W W' : World} {S : Nat → Prop} {R X : Nat} {x : GNode} {e : List GNode} {c : List GOp} {v vc vc1 vc' : Value} (h : Begun w W S R X x e c v vc1) (hg0 : Grows w vc vc1) (h0 : Chg (MS R vc) w W)
    (hc : Chg (MS R vc1) W W') (hg : Grows W vc1 vc') : (W'.cell? ⟨X, 0, none⟩ = some (.int .i64 x.kind) ∧ W'.cell? ⟨X, 1, none⟩ = some (.int .i64 x.n)) ∧ Chg (MS R vc) w W' ∧ Grows w vc vc' ∧ ¬ MS R vc' X ∧ X < W'.heap.size := by
  refine ⟨⟨hc.cell h.out h.k, hc.cell h.out h.n⟩, MS.trans h0 hg0 hc, hg0.trans h0 hg, apart h.out h.lt hg, ?_⟩
  have := hc.size
  have := h.lt
  omega

theorem make_leaf (n : Nat) (x : GNode) (hx : sizeN x.kind = 0) (ho : (ETree.leaf x).nodes n) : MakeC (.leaf x) := by
  intro S R rest c v vc w hS h hl
  rw [show (ETree.leaf x).flat ++ rest = x :: rest from rfl] at h
  have hv := h.nodes
  obtain ⟨b, o, cap, rfl, hcap, hby, ⟨sb, g0, _⟩, _, g1, _⟩ := hv.get (i := 0) (by simp)
  have HT := Lib.hid hv.tail
  have H := Lib.hid h
  have HS := Lib.hid hS
  have hx' : x.kind = 0 ∨ x.kind = 1 := by
    have h := ho x (by simp [ETree.flat])
    unfold sizeN at hx
    split at hx
    · omega
    · split at hx <;> omega
  obtain ⟨c0, c0'⟩ := h.c0
  have hR := h.c0.lt
  simp only [List.length_cons, Nat.zero_mul, Nat.add_zero, List.getElem_cons_zero] at g0 g1 hcap c0
  have hl' : c.length ≤ 1000 := by simp only [ETree.cost] at hl; omega
  have RA := alloc_keep
  clear h hS hv ho hx hl
  obtain ⟨v2, HT2, HV2⟩ : ∃ v2, Hid (Nodes w S v2 rest) ∧ v2 = (if cap = 1 then .slice (some ⟨b, o, none⟩) 0 0 else .slice (some ⟨b, o + 2, none⟩) rest.length (cap - 1)) := by
    refine ⟨_, ?_, rfl⟩
    have := HT.out
    by_cases hc1 : cap = 1
    · rw [if_pos hc1] at this ⊢
      subst hc1
      obtain rfl : rest = [] := List.eq_nil_of_length_eq_zero (by omega)
      exact this
    · rw [if_neg hc1] at this ⊢
      exact this
  clear HT
  by_cases hc1 : cap = 1
  all_goals (first | rw [if_neg hc1] at HV2 | (rw [if_pos hc1] at HV2; subst hc1; obtain rfl : rest = [] := List.eq_nil_of_length_eq_zero (by omega)))
  all_goals
    subst HV2
    have HB := Lib.hid (H.out.start HS.out HT2.out x 140)
    rcases hx' with hk | hk
    · have HLD : Hid ((ETree.leaf x).laid c.length = [⟨0, x.n⟩]) := by unfold Hid ETree.laid; rw [if_pos hk]
      have T0 : (x.kind == 0) = true := by simp [hk]
      clear hk
      go_enter Tryz.func102, Tryz.ntmps102
      go_upto_region 2 with fail
      obtain ⟨X, hX⟩ : ∃ X, w.heap.size = X := ⟨_, rfl⟩
      rw [hX] at HB ⊢
      generalize ((w.setCell _ _).alloc _) = W at HB ⊢
      have xk := HB.out.k
      have xn := HB.out.n
      go_wp2_with (first
        | (go_at_call 59; (with_reducible refine (smithOp_any _ _ HS.out HB.out.smi hl').mono ?_); rintro e w2 ⟨rfl, vc2, hs2, hc2, hg2⟩))
      go_end0
      rw [HLD.out]
      exact ⟨rfl, _, _, hs2, MS.trans HB.out.chg (Grows.refl _ _) hc2, (Grows.refl _ _).trans HB.out.chg hg2⟩
    · have HLD : Hid ((ETree.leaf x).laid c.length = [⟨2, x.n⟩]) := by unfold Hid ETree.laid; rw [if_neg (by omega)]
      have T0 : (x.kind == 0) = false := by simp [hk]
      have T1 : (x.kind == 1) = true := by simp [hk]
      clear hk
      go_enter Tryz.func102, Tryz.ntmps102
      go_upto_region 2 with fail
      obtain ⟨X, hX⟩ : ∃ X, w.heap.size = X := ⟨_, rfl⟩
      rw [hX] at HB ⊢
      generalize ((w.setCell _ _).alloc _) = W at HB ⊢
      have xk := HB.out.k
      have xn := HB.out.n
      go_wp2_with (first
        | (go_at_call 59; (with_reducible refine (smithOp_any _ _ HS.out HB.out.smi hl').mono ?_); rintro e w2 ⟨rfl, vc2, hs2, hc2, hg2⟩))
      go_end0
      rw [HLD.out]
      exact ⟨rfl, _, _, hs2, MS.trans HB.out.chg (Grows.refl _ _) hc2, (Grows.refl _ _).trans HB.out.chg hg2⟩

/-- The table of ops for kinds of two parts. -/
theorem op_at2 (w : World) : (Instr.index 182 (.agg #[.int .i64 0, .int .i64 0, .int .i64 4, .int .i64 5, .int .i64 6, .int .i64 7, .int .i64 8]) (.int .i64 2)).run Tryz.prog w = .ok (.int .i64 4) w := by
  show _ = _
  kernel_rfl
theorem op_at3 (w : World) : (Instr.index 182 (.agg #[.int .i64 0, .int .i64 0, .int .i64 4, .int .i64 5, .int .i64 6, .int .i64 7, .int .i64 8]) (.int .i64 3)).run Tryz.prog w = .ok (.int .i64 5) w := by
  show _ = _
  kernel_rfl
theorem op_at4 (w : World) : (Instr.index 182 (.agg #[.int .i64 0, .int .i64 0, .int .i64 4, .int .i64 5, .int .i64 6, .int .i64 7, .int .i64 8]) (.int .i64 4)).run Tryz.prog w = .ok (.int .i64 6) w := by
  show _ = _
  kernel_rfl
theorem op_at5 (w : World) : (Instr.index 182 (.agg #[.int .i64 0, .int .i64 0, .int .i64 4, .int .i64 5, .int .i64 6, .int .i64 7, .int .i64 8]) (.int .i64 5)).run Tryz.prog w = .ok (.int .i64 7) w := by
  show _ = _
  kernel_rfl
theorem op_at6 (w : World) : (Instr.index 182 (.agg #[.int .i64 0, .int .i64 0, .int .i64 4, .int .i64 5, .int .i64 6, .int .i64 7, .int .i64 8]) (.int .i64 6)).run Tryz.prog w = .ok (.int .i64 8) w := by
  show _ = _
  kernel_rfl

theorem make_two (x : GNode) (ta tb : ETree) (hx : 2 ≤ x.kind ∧ x.kind ≤ 6) (ha : MakeC ta) (hb : MakeC tb) : MakeC (.two x ta tb) := by
  intro S R rest c v vc w hS h hl
  have hflat : (ETree.two x ta tb).flat ++ rest = x :: (ta.flat ++ (tb.flat ++ rest)) := by simp [ETree.flat]
  rw [hflat] at h
  have hv := h.nodes
  obtain ⟨b, o, cap, rfl, hcap, hby, ⟨sb, g0, _⟩, _, g1, _⟩ := hv.get (i := 0) (by simp)
  have hc1 : ¬ cap = 1 := by have := ETree.flat_pos ta; simp at hcap; omega
  have HT := Lib.hid hv.tail
  rw [if_neg hc1] at HT
  simp only [List.length_append] at HT
  have H := Lib.hid h
  have HS := Lib.hid hS
  obtain ⟨c0, c0'⟩ := h.c0
  have hR := h.c0.lt
  simp only [List.length_cons, Nat.zero_mul, Nat.add_zero, List.getElem_cons_zero] at g0 g1 hcap c0
  have hcost : (ETree.two x ta tb).cost = ta.cost + tb.cost + 1 := rfl
  rw [hcost] at hl
  have RA := alloc_keep
  have HA := Lib.hid ha
  have HBB := Lib.hid hb
  have HL := Lib.hid hl
  have hlen1 : (c ++ ta.laid c.length).length = c.length + ta.cost := by rw [List.length_append, ta.laid_len]
  have hlen2 : ((c ++ ta.laid c.length) ++ tb.laid (c ++ ta.laid c.length).length).length = c.length + ta.cost + tb.cost := by rw [List.length_append, tb.laid_len, hlen1]
  have HLD : Hid (c ++ (ETree.two x ta tb).laid c.length = ((c ++ ta.laid c.length) ++ tb.laid (c ++ ta.laid c.length).length) ++ [⟨x.kind + 2, 0⟩]) := by
    unfold Hid
    rw [hlen1]
    simp [ETree.laid, List.append_assoc]
  have HL1 := Lib.hid hlen1
  have HL2 := Lib.hid hlen2
  clear h hS hv hl ha hb hflat hlen1 hlen2
  have HB := Lib.hid (H.out.start HS.out HT.out x 140)
  obtain ⟨xk, xn⟩ := x
  simp only at hx
  have hk : xk = 2 ∨ xk = 3 ∨ xk = 4 ∨ xk = 5 ∨ xk = 6 := by omega
  clear hx
  have I2 := op_at2
  have I3 := op_at3
  have I4 := op_at4
  have I5 := op_at5
  have I6 := op_at6
  rcases hk with rfl | rfl | rfl | rfl | rfl
  all_goals
    go_enter Tryz.func102, Tryz.ntmps102
    go_upto_region 2 with fail
    obtain ⟨X, hX⟩ : ∃ X, w.heap.size = X := ⟨_, rfl⟩
    rw [hX] at HB ⊢
    generalize ((w.setCell _ _).alloc _) = W at HB ⊢
    have xk := HB.out.k
    go_wp2_with fail
    (go_at_call 102; (with_reducible refine (MakeC.call HA.out HS.out HB.out.smi (by have := HL.out; omega)).mono ?_); rintro e w2 ⟨rfl, v2, vc2, hs2, hc2, hg2⟩; replace xk := hc2.cell HB.out.out xk; have HX2 := Lib.hid (apart HB.out.out HB.out.lt hg2))
    go_wp2_with fail
    (go_at_call 102; (with_reducible refine (MakeC.call HBB.out HS.out hs2 (by have := HL.out; have := HL1.out; omega)).mono ?_); rintro e w3 ⟨rfl, v3, vc3, hs3, hc3, hg3⟩; replace xk := hc3.cell HX2.out xk)
    go_upto_region 5 with fail
    go_wp2_with (first
      | (go_at_call 59; (with_reducible refine (smithOp_any _ _ HS.out hs3 (by have := HL.out; have := HL2.out; omega)).mono ?_); rintro e w4 ⟨rfl, vc4, hs4, hc4, hg4⟩))
    go_end0
    have C2 := MS.trans HB.out.chg (Grows.refl w vc) hc2
    have G2 := (Grows.refl w vc).trans HB.out.chg hg2
    have C3 := MS.trans C2 G2 hc3
    have G3 := G2.trans C2 hg3
    rw [HLD.out]
    exact ⟨rfl, _, _, hs4, MS.trans C3 G3 hc4, G3.trans C3 hg4⟩

theorem make_three (x : GNode) (ta tb tc : ETree) (hx : x.kind = 7) (ha : MakeC ta) (hb : MakeC tb) (hc : MakeC tc) : MakeC (.three x ta tb tc) := by
  intro S R rest c v vc w hS h hl
  have hflat : (ETree.three x ta tb tc).flat ++ rest = x :: (ta.flat ++ (tb.flat ++ (tc.flat ++ rest))) := by simp [ETree.flat]
  rw [hflat] at h
  have hv := h.nodes
  obtain ⟨b, o, cap, rfl, hcap, hby, ⟨sb, g0, _⟩, _, g1, _⟩ := hv.get (i := 0) (by simp)
  have hc1 : ¬ cap = 1 := by have := ETree.flat_pos ta; simp at hcap; omega
  have HT := Lib.hid hv.tail
  rw [if_neg hc1] at HT
  simp only [List.length_append] at HT
  have H := Lib.hid h
  have HS := Lib.hid hS
  obtain ⟨c0, c0'⟩ := h.c0
  have hR := h.c0.lt
  simp only [List.length_cons, Nat.zero_mul, Nat.add_zero, List.getElem_cons_zero] at g0 g1 hcap c0
  have hcost : (ETree.three x ta tb tc).cost = ta.cost + tb.cost + tc.cost + 2 := rfl
  rw [hcost] at hl
  have RA := alloc_keep
  have HA := Lib.hid ha
  have HBB := Lib.hid hb
  have HCC := Lib.hid hc
  have HL := Lib.hid hl
  -- the ops, one part behind another
  obtain ⟨A, hA⟩ : ∃ A, ta.laid c.length = A := ⟨_, rfl⟩
  obtain ⟨Bo, hBo⟩ : ∃ Bo, tb.laid (c.length + ta.cost + 1) = Bo := ⟨_, rfl⟩
  obtain ⟨third, hth⟩ : ∃ z, thirdAt c.length ta.cost tb.cost = z := ⟨_, rfl⟩
  obtain ⟨Co, hCo⟩ : ∃ Co, tc.laid third = Co := ⟨_, rfl⟩
  have lA : A.length = ta.cost := by rw [← hA]; exact ta.laid_len _
  have lB : Bo.length = tb.cost := by rw [← hBo]; exact tb.laid_len _
  have lC : Co.length = tc.cost := by rw [← hCo]; exact tc.laid_len _
  have hth2 : third = c.length + ta.cost + 1 + tb.cost + 1 := hth.symm
  have HLD : Hid (c ++ (ETree.three x ta tb tc).laid c.length = (c ++ A ++ (⟨10, (third : Nat)⟩ :: Bo)) ++ (⟨9, (third + tc.cost : Nat)⟩ :: Co)) := by
    unfold Hid
    rw [ETree.laid, hth, hA, hBo, hCo]
    simp [List.append_assoc]
  have e1 : (c ++ A).length = c.length + ta.cost := by rw [List.length_append, lA]
  have e2 : (c ++ A ++ [(⟨10, 0⟩ : GOp)]).length = c.length + ta.cost + 1 := by rw [List.length_append, e1]; rfl
  have e3 : (c ++ A ++ [(⟨10, 0⟩ : GOp)] ++ Bo).length = c.length + ta.cost + 1 + tb.cost := by rw [List.length_append, e2, lB]
  have e4 : ((c ++ A) ++ (⟨10, 0⟩ : GOp) :: (Bo ++ [(⟨9, 0⟩ : GOp)])).length = third := by
    rw [List.length_append, e1, List.length_cons, List.length_append, lB, hth2]; simp; omega
  have e5 : ((c ++ A) ++ (⟨10, (third : Nat)⟩ : GOp) :: (Bo ++ [(⟨9, 0⟩ : GOp)])).length = third := by
    rw [List.length_append, e1, List.length_cons, List.length_append, lB, hth2]; simp; omega
  have e6 : ((c ++ A ++ (⟨10, (third : Nat)⟩ : GOp) :: Bo) ++ (⟨9, 0⟩ : GOp) :: Co).length = third + tc.cost := by
    rw [List.length_append, List.length_append, e1, List.length_cons, List.length_cons, lB, lC, hth2]; omega
  have e7 : (c ++ A ++ (⟨10, (third : Nat)⟩ : GOp) :: Bo).length = c.length + ta.cost + 1 + tb.cost := by
    rw [List.length_append, e1, List.length_cons, lB]; omega
  have s1 : c ++ A ++ [(⟨10, 0⟩ : GOp)] ++ Bo ++ [(⟨9, 0⟩ : GOp)] = (c ++ A) ++ (⟨10, 0⟩ : GOp) :: (Bo ++ [(⟨9, 0⟩ : GOp)]) := by simp [List.append_assoc]
  have s2 : ((c ++ A) ++ (⟨10, (third : Nat)⟩ : GOp) :: (Bo ++ [(⟨9, 0⟩ : GOp)])) ++ Co = (c ++ A ++ (⟨10, (third : Nat)⟩ : GOp) :: Bo) ++ (⟨9, 0⟩ : GOp) :: Co := by simp [List.append_assoc]
  obtain ⟨k1, hk1⟩ : ∃ k1, c.length + ta.cost = k1 := ⟨_, rfl⟩
  obtain ⟨k2, hk2⟩ : ∃ k2, c.length + ta.cost + 1 + tb.cost = k2 := ⟨_, rfl⟩
  obtain ⟨k3, hk3⟩ : ∃ k3, third + tc.cost = k3 := ⟨_, rfl⟩
  have HK := Lib.hid (⟨hk1, hk2, hk3⟩ : _ ∧ _ ∧ _)
  rw [hk1] at e1
  rw [hk2] at e3 e7
  rw [hk3] at e6 HLD
  clear hk1 hk2 hk3
  have HE := Lib.hid (⟨e1, e2, e3, e4, e5, e6, e7⟩ : _ ∧ _ ∧ _ ∧ _ ∧ _ ∧ _ ∧ _)
  have HH := Lib.hid (⟨hA, hBo, hCo⟩ : _ ∧ _ ∧ _)
  have HS1 := Lib.hid s1
  have HS2 := Lib.hid s2
  have HTH := Lib.hid hth2
  clear h hS hv hl ha hb hc hflat e1 e2 e3 e4 e5 e6 e7 s1 s2 lA lB lC hA hBo hCo hth hth2
  have HB := Lib.hid (H.out.start HS.out HT.out x 140)
  obtain ⟨xk, xn⟩ := x
  simp only at hx
  subst hx
  go_enter Tryz.func102, Tryz.ntmps102
  go_upto_region 2 with fail
  obtain ⟨X, hX⟩ : ∃ X, w.heap.size = X := ⟨_, rfl⟩
  rw [hX] at HB ⊢
  generalize ((w.setCell _ _).alloc _) = W at HB ⊢
  have xk := HB.out.k
  go_upto_region 12 with (first
    | (go_at_call 102; (with_reducible refine (MakeC.call HA.out HS.out HB.out.smi (by have := HL.out; omega)).mono ?_); rintro e w2 ⟨rfl, v2, vc2, hs2, hc2, hg2⟩; rw [HH.out.1] at hs2; have HC2 := Lib.hid (MS.trans HB.out.chg (Grows.refl w vc) hc2); have HG2 := Lib.hid ((Grows.refl w vc).trans HB.out.chg hg2); clear hc2 hg2 xk))
  go_upto_region 13 with (first
    | (go_at_call 59; (with_reducible refine (smithOp_any _ _ HS.out hs2 (by have := HL.out; have := HE.out.1; have := HK.out.1; omega)).mono ?_); rintro e w3 ⟨rfl, vc3, hs3, hc3, hg3⟩; rw [HE.out.1]; have HC3 := Lib.hid (MS.trans HC2.out HG2.out hc3); have HG3 := Lib.hid (HG2.out.trans HC2.out hg3); clear hc3 hg3))
  go_upto_region 14 with (first
    | (go_at_call 102; (with_reducible refine (MakeC.call HBB.out HS.out hs3 (by have := HL.out; have := HE.out.2.1; omega)).mono ?_); rintro e w4 ⟨rfl, v4, vc4, hs4, hc4, hg4⟩; rw [HE.out.2.1, HH.out.2.1] at hs4; have HC4 := Lib.hid (MS.trans HC3.out HG3.out hc4); have HG4 := Lib.hid (HG3.out.trans HC3.out hg4); clear hc4 hg4))
  go_upto_region 15 with (first
    | (go_at_call 59; (with_reducible refine (smithOp_any _ _ HS.out hs4 (by have := HL.out; have := HE.out.2.2.1; have := HK.out.2.1; omega)).mono ?_); rintro e w5 ⟨rfl, vc5, hs5, hc5, hg5⟩; rw [HE.out.2.2.1]; rw [HS1.out] at hs5; have HC5 := Lib.hid (MS.trans HC4.out HG4.out hc5); have HG5 := Lib.hid (HG4.out.trans HC4.out hg5); clear hc5 hg5))
  go_upto_region 16 with (first
    | (go_at_call 136; (with_reducible refine (smithHere_any HS.out hs5 (by have := HL.out; have := HE.out.2.2.2.1; have := HTH.out; omega) _ _ HE.out.1 HE.out.2.2.2.1).mono ?_); rintro e w6 ⟨rfl, hs6, hc6⟩; have HC6 := Lib.hid (MS.trans HC5.out HG5.out hc6); clear hc6))
  go_upto_region 17 with (first
    | (go_at_call 102; (with_reducible refine (MakeC.call HCC.out HS.out hs6 (by have := HL.out; have := HE.out.2.2.2.2.1; have := HTH.out; omega)).mono ?_); rintro e w7 ⟨rfl, v7, vc7, hs7, hc7, hg7⟩; rw [HE.out.2.2.2.2.1, HH.out.2.2, HS2.out] at hs7; have HC7 := Lib.hid (MS.trans HC6.out HG5.out hc7); have HG7 := Lib.hid (HG5.out.trans HC6.out hg7); clear hc7 hg7))
  go_wp2_with fail
  (go_at_call 136; (with_reducible refine (smithHere_any HS.out hs7 (by have := HL.out; have := HE.out.2.2.2.2.2.1; have := HTH.out; have := HK.out.2.2; omega) _ _ HE.out.2.2.2.2.2.2 HE.out.2.2.2.2.2.1).mono ?_); rintro e w8 ⟨rfl, hs8, hc8⟩)
  go_wp2_with fail
  go_end0
  rw [HLD.out]
  exact ⟨rfl, _, _, hs8, MS.trans HC7.out HG7.out hc8, HG7.out⟩

theorem make_any (n : Nat) : ∀ t : ETree, t.fits → t.nodes n → MakeC t
  | .leaf x, hf, ho => make_leaf n x hf ho
  | .two x a b, hf, ho => by
    have hk : 2 ≤ x.kind ∧ x.kind ≤ 6 := by
      have h := ho x (by simp [ETree.flat])
      rcases ETree.fits_two hf with h2 | h2 <;> omega
    exact make_two x a b hk (make_any n a hf.2.1 ho.two.1) (make_any n b hf.2.2 ho.two.2)
  | .three x a b c, hf, ho => by
    have h1 := hf.1
    have hk : x.kind = 7 := by
      unfold sizeN at h1
      split at h1
      · omega
      · split at h1 <;> omega
    exact make_three x a b c hk (make_any n a hf.2.1 ho.three.1) (make_any n b hf.2.2.1 ho.three.2.1) (make_any n c hf.2.2.2 ho.three.2.2)
end Go.Proofs.YtpcjkfppacnkgaaGreatDoor
end
section
/- The program of an expression is right: plain facts. No condition. -/
namespace Go.Proofs.YtpcjkfppacnkgaaGreatDoor

theorem thru_of {p : List GFunc} {code : List GOp} {out : List Int} {k : Nat} {x : GOp} {h t l : Int} (hx : code.getD k default = x) (ho : out.getD k 0 = h) (ht : takesOf p x = t) (hl : leavesOf x = l) (h1 : t ≤ h) (h2 : h - t + l ≤ 8) (h3 : x.kind = 12 → h - t + l ≤ 0)
    (hn : ∀ i ∈ nx x k, i < code.length ∧ out.getD i 0 = h - t + l) : Thru p code out k := by
  have e : nOf p x h = h - t + l := by unfold nOf; rw [ht, hl]
  unfold Thru
  rw [hx, ho, e]
  refine ⟨?_, hn⟩
  unfold badB
  rw [e, ht]
  simp only [Bool.or_eq_false_iff, Bool.and_eq_false_iff, decide_eq_false_iff_not]
  refine ⟨by omega, by omega, ?_⟩
  by_cases hk : x.kind = 12
  · have := h3 hk; right; omega
  · left; exact hk
theorem come_next {p : List GFunc} {code : List GOp} {k j : Nat} {x : GOp} {h t l : Int} (hc : Come p code k h) (hk : k < code.length) (hx : code.getD k default = x) (ht : takesOf p x = t) (hl : leavesOf x = l) (hj : j ∈ nx x k) : Come p code j (h - t + l) := by
  have e := Come.next hc hk (by rw [hx]; exact hj)
  rw [hx] at e
  unfold nOf at e
  rw [ht, hl] at e
  exact e
theorem nx1 {k : Int} (a : Int) (i : Nat) (h : k ≠ 9 ∧ k ≠ 10 ∧ k ≠ 12) : nx ⟨k, a⟩ i = [i + 1] := by
  unfold nx
  simp [h.1, h.2.1, h.2.2]
/-- One comes to all of these ops, and each may be there. -/
structure Flows (p : List GFunc) (code : List GOp) (out : List Int) (k c : Nat) (h h' : Int) : Prop where
  come : Come p code k h → (∀ i, i < c → Come p code (k + i) (out.getD (k + i) 0)) ∧ Come p code (k + c) h'
  thru : ∀ i, i < c → Thru p code out (k + i) ∧ 0 ≤ out.getD (k + i) 0
theorem Flows.trans {p : List GFunc} {code : List GOp} {out : List Int} {k c d : Nat} {h h' h'' : Int} (h1 : Flows p code out k c h h') (h2 : Flows p code out (k + c) d h' h'') : Flows p code out k (c + d) h h'' := by
  have e : ∀ i, c ≤ i → k + c + (i - c) = k + i := fun i hi => by omega
  refine ⟨fun hc => ?_, fun i hi => ?_⟩
  · obtain ⟨a1, a2⟩ := h1.come hc
    obtain ⟨b1, b2⟩ := h2.come a2
    refine ⟨fun i hi => ?_, by rw [← Nat.add_assoc]; exact b2⟩
    by_cases hl : i < c
    · exact a1 i hl
    · have := b1 (i - c) (by omega)
      rwa [e i (by omega)] at this
  · by_cases hl : i < c
    · exact h1.thru i hl
    · have := h2.thru (i - c) (by omega)
      rwa [e i (by omega)] at this
/-- One op that goes on to the next one. -/
theorem Flows.op {p : List GFunc} {code : List GOp} {out : List Int} {k : Nat} {x : GOp} {h h' t l : Int} (hlt : k + 1 < code.length) (hx : code.getD k default = x) (ho : out.getD k 0 = h) (ho' : out.getD (k + 1) 0 = h') (ht : takesOf p x = t) (hl : leavesOf x = l)
    (hk : x.kind ≠ 9 ∧ x.kind ≠ 10 ∧ x.kind ≠ 12) (h0 : 0 ≤ h) (h1 : t ≤ h) (h2 : h' ≤ 8) (e : h' = h - t + l) : Flows p code out k 1 h h' := by
  obtain ⟨kk, a⟩ := x
  have hn := nx1 (k := kk) a k hk
  refine ⟨fun hc => ⟨fun i hi => ?_, ?_⟩, fun i hi => ?_⟩
  · obtain rfl : i = 0 := by omega
    rw [Nat.add_zero, ho]; exact hc
  · rw [e]
    exact come_next hc (by omega) hx ht hl (by rw [hn]; simp)
  · obtain rfl : i = 0 := by omega
    rw [Nat.add_zero, ho]
    refine ⟨thru_of hx ho ht hl h1 (by omega) (fun h => absurd h hk.2.2) ?_, h0⟩
    rw [hn]
    intro i hi
    obtain rfl : i = k + 1 := by simpa using hi
    exact ⟨hlt, by rw [ho', e]⟩

theorem Full.hts {p : List GFunc} {code : List GOp} {out : List Int} (hj : Jumps code) (h : Full p code out) : Proofs.YtpcjkfppacnkgaaGreatDoor.hts p code = some out :=
  Finds.eq (hts_finds hj) (b := some out) h

/-- A forged function's ops. -/
theorem ETree.laid_ops {n : Nat} : ∀ (t : ETree) (k : Nat), t.fits → t.nodes n → ∀ x ∈ t.laid k, (x.kind = 0 ∧ 0 ≤ x.a ∧ x.a ≤ 999) ∨ (x.kind = 2 ∧ 0 ≤ x.a ∧ x.a ≤ (n : Int) - 1) ∨ (4 ≤ x.kind ∧ x.kind ≤ 8 ∧ x.a = 0) ∨ ((x.kind = 9 ∨ x.kind = 10) ∧ 0 ≤ x.a ∧ x.a ≤ (k + t.cost : Nat))
  | .leaf x, k, hf, hn, y, hy => by
    obtain rfl : y = ⟨if x.kind = 0 then 0 else 2, x.n⟩ := by simpa [ETree.laid] using hy
    have h := hn x (by simp [ETree.flat])
    have hz : sizeN x.kind = 0 := hf
    have hx : x.kind = 0 ∨ x.kind = 1 := by
      unfold sizeN at hz
      split at hz
      · omega
      · split at hz <;> omega
    obtain ⟨_, _, h1, h2⟩ := h
    unfold mostN at h2
    rcases hx with hx | hx
    · rw [if_pos hx] at h2
      simp only [hx, if_true]
      exact .inl ⟨trivial, h1, h2⟩
    · rw [if_neg (by omega), if_pos hx] at h2
      rw [if_neg (by omega)]
      exact .inr (.inl ⟨rfl, h1, h2⟩)
  | .two x a b, k, hf, hn, y, hy => by
    have hk : 2 ≤ x.kind ∧ x.kind ≤ 6 := by
      have h := hn x (by simp [ETree.flat])
      rcases ETree.fits_two hf with h2 | h2 <;> omega
    have hcc : (ETree.two x a b).cost = a.cost + b.cost + 1 := rfl
    simp only [ETree.laid, List.mem_append, List.mem_singleton] at hy
    rcases hy with hy | hy | rfl
    · rcases a.laid_ops k hf.2.1 hn.two.1 y hy with h | h | h | h
      · exact .inl h
      · exact .inr (.inl h)
      · exact .inr (.inr (.inl h))
      · exact .inr (.inr (.inr ⟨h.1, h.2.1, by omega⟩))
    · rcases b.laid_ops _ hf.2.2 hn.two.2 y hy with h | h | h | h
      · exact .inl h
      · exact .inr (.inl h)
      · exact .inr (.inr (.inl h))
      · exact .inr (.inr (.inr ⟨h.1, h.2.1, by omega⟩))
    · exact .inr (.inr (.inl ⟨by simp only; omega, by simp only; omega, rfl⟩))
  | .three x a b c, k, hf, hn, y, hy => by
    have hcc : (ETree.three x a b c).cost = a.cost + b.cost + c.cost + 2 := rfl
    simp only [ETree.laid, List.mem_append, List.mem_cons] at hy
    rcases hy with hy | rfl | hy | rfl | hy
    · rcases a.laid_ops k hf.2.1 hn.three.1 y hy with h | h | h | h
      · exact .inl h
      · exact .inr (.inl h)
      · exact .inr (.inr (.inl h))
      · exact .inr (.inr (.inr ⟨h.1, h.2.1, by omega⟩))
    · exact .inr (.inr (.inr ⟨.inr rfl, by simp only; omega, by simp only [thirdAt]; omega⟩))
    · rcases b.laid_ops _ hf.2.2.1 hn.three.2.1 y hy with h | h | h | h
      · exact .inl h
      · exact .inr (.inl h)
      · exact .inr (.inr (.inl h))
      · exact .inr (.inr (.inr ⟨h.1, h.2.1, by omega⟩))
    · exact .inr (.inr (.inr ⟨.inl rfl, by simp only; omega, by simp only [thirdAt]; omega⟩))
    · rcases c.laid_ops _ hf.2.2.2 hn.three.2.2 y hy with h | h | h | h
      · exact .inl h
      · exact .inr (.inl h)
      · exact .inr (.inr (.inl h))
      · exact .inr (.inr (.inr ⟨h.1, h.2.1, by unfold thirdAt at h; omega⟩))

/-- A right expression's function is right wherever it stands. -/
structure FuncFits (p : List GFunc) (t : ETree) (n : Nat) : Prop where
  ops : ∀ x ∈ (t.func n).code, opErr p (t.func n) x = 0
  len : (t.func n).code.length ≤ 24
  sized : sizedB (t.func n) = true
  jumps : Jumps (t.func n).code
  hts : Proofs.YtpcjkfppacnkgaaGreatDoor.hts p (t.func n).code = some (t.high 0 ++ [1])
end Go.Proofs.YtpcjkfppacnkgaaGreatDoor
end
section
/- Contracts of forge.Of and forge.Func. No condition. -/
set_option maxHeartbeats 4000000
set_option maxRecDepth 100000
namespace Go.Proofs.YtpcjkfppacnkgaaGreatDoor
open Go Go.RowKit

theorem func_i64 {n : Nat} (t : ETree) (ht : t.fits) (ho : t.nodes n) (h9 : t.flat.length ≤ 9) (hn : n ≤ 4) : ∀ y ∈ (t.func n).code, I64 y.kind ∧ I64 y.a := by
  intro y hy
  have hc := t.cost_le
  simp only [ETree.func, List.mem_append, List.mem_singleton] at hy
  rcases hy with hy | rfl
  · rcases t.laid_ops 0 ht ho y hy with ⟨h1, h2, h3⟩ | ⟨h1, h2, h3⟩ | ⟨h1, h2, h3⟩ | ⟨h1, h2, h3⟩
    · exact ⟨I64.small (by omega) (by omega), I64.small (by omega) (by omega)⟩
    · exact ⟨I64.small (by omega) (by omega), I64.small (by omega) (by omega)⟩
    · exact ⟨I64.small (by omega) (by omega), I64.small (by omega) (by omega)⟩
    · exact ⟨I64.small (by omega) (by omega), I64.small (by omega) (by omega)⟩
  · exact ⟨I64.small (by decide) (by decide), I64.small (by decide) (by decide)⟩

end Go.Proofs.YtpcjkfppacnkgaaGreatDoor
end
