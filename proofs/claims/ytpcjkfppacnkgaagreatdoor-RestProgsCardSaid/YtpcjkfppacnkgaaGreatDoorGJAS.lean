/- Merged texts: contracts and plain facts, one part behind another; each part begins with what it says. -/
import Derived.Test.YtpcjkfppacnkgaaGreatDoorGJAK
import Derived.Test.YtpcjkfppacnkgaaGreatDoorGJAP
import Derived.Test.YtpcjkfppacnkgaaGreatDoorGJAQ
import Derived.Test.YtpcjkfppacnkgaaGreatDoorGJAR
section
/- What must be in any case of the laws on ops: opBegun gives true. -/
set_option maxHeartbeats 1000000
set_option maxRecDepth 100000
namespace Go.Proofs.YtpcjkfppacnkgaaGreatDoor
open Go Go.RowKit

def countX : List GFunc := ⟨0, 1, ⟨13, 2⟩ :: countCode0.tail⟩ :: countP.tail

theorem CountIs.turned {w w' : World} {v : Value} (h : CountIs w w' v) : ∃ g c0 : Nat, v = .slice (some ⟨g, 0, none⟩) 3 3 ∧ w.heap.size ≤ c0 ∧ w'.cell? ⟨g, 2, none⟩ = some (.slice (some ⟨c0, 0, none⟩) 14 14) ∧
    w'.cell? ⟨c0, 1, none⟩ = some (.int .i64 1) ∧ w'.frozen? ⟨c0, 1, none⟩ = false ∧ Funcs (w'.setCell ⟨c0, 1, none⟩ (.int .i64 2)) (fun _ => True) v countX := by
  obtain ⟨g, c0, c1, c2, rfl, hB, l0, l1, l2, h0, h1, h2, hg⟩ := h
  have k0 := heap_setCell_same w' c0 1 _ _ (.int .i64 2) h0
  have k1 := (heap_setCell_other w' ⟨c0, 1, none⟩ c1 (.int .i64 2) (by simp; omega)).trans h1
  have k2 := (heap_setCell_other w' ⟨c0, 1, none⟩ c2 (.int .i64 2) (by simp; omega)).trans h2
  have kg := (heap_setCell_other w' ⟨c0, 1, none⟩ g (.int .i64 2) (by simp; omega)).trans hg
  have f0 := ops_of_block (S := fun _ => True) (⟨13, 2⟩ :: countCode0.tail) k0 rfl trivial (ops_small _ (by decide)) (by decide)
  have f1 := ops_of_block (S := fun _ => True) countCode1 k1 rfl trivial (ops_small _ (by decide)) (by decide)
  have f2 := ops_of_block (S := fun _ => True) countCode2 k2 rfl trivial (ops_small _ (by decide)) (by decide)
  have cell := fun j => cell_of_row _ g j _ _ _ kg
  refine ⟨g, c0, rfl, hB, cell_of_row w' g 2 _ _ _ hg, cell_of_row w' c0 1 _ _ _ h0, frozen_of_row w' c0 1 _ _ h0, ?_⟩
  refine ⟨_, _, rfl, Nat.le_refl _, by decide, fun i hi => ⟨g, 0, rfl, ?_⟩⟩
  match i, hi with
  | 0, _ => exact ⟨⟨trivial, cell _, I64.small (by simp [countX, countP]) (by simp [countX, countP])⟩, ⟨trivial, cell _, I64.small (by simp [countX, countP]) (by simp [countX, countP])⟩, _, cell _, f0⟩
  | 1, _ => exact ⟨⟨trivial, cell _, I64.small (by simp [countX, countP]) (by simp [countX, countP])⟩, ⟨trivial, cell _, I64.small (by simp [countX, countP]) (by simp [countX, countP])⟩, _, cell _, f1⟩
  | 2, _ => exact ⟨⟨trivial, cell _, I64.small (by simp [countX, countP]) (by simp [countX, countP])⟩, ⟨trivial, cell _, I64.small (by simp [countX, countP]) (by simp [countX, countP])⟩, _, cell _, f2⟩

end Go.Proofs.YtpcjkfppacnkgaaGreatDoor
end
section
/- Contract of progBegun. -/
set_option maxHeartbeats 4000000
set_option maxRecDepth 100000
namespace Go.Proofs.YtpcjkfppacnkgaaGreatDoor
open Go Go.RowKit

end Go.Proofs.YtpcjkfppacnkgaaGreatDoor
end
section
/- textBegun: what must be in any case of the text laws. No condition. -/
set_option maxHeartbeats 4000000
set_option maxRecDepth 100000
namespace Go.Proofs.YtpcjkfppacnkgaaGreatDoor
open Go Go.RowKit

theorem readT_text {p : List GFunc} (h : progErr p = 0) : readT (textP p) = (0, p) := by
  unfold readT
  have := textP_len h
  rw [if_neg (by omega), read_back h]
  simp only
  rw [if_pos ⟨h, trivial⟩]
end Go.Proofs.YtpcjkfppacnkgaaGreatDoor
end
section
/- What may be written of programs that were handed back: their rows by kind, and that they stay such rows whatever is written of their kind. No program in sight; no condition. -/
set_option maxHeartbeats 1000000
namespace Go.Proofs.YtpcjkfppacnkgaaGreatDoor
open Go Go.RowKit

/-- Where rows lie: block, kind (1: ops, 2: functions), head. -/
structure KFunP (K : Nat → Nat → Nat → Prop) (B H bl : Nat) : Prop where
  one : ∀ g k o k' o', K g k o → K g k' o' → k = k' ∧ o = o'
  bd : ∀ g k o, K g k o → B ≤ g ∧ g < H ∧ g ≠ bl
def OIP (K : Nat → Nat → Nat → Prop) (w : World) (v : Value) : Prop := ∃ a n c, v = .slice a n c ∧ n ≤ 10000 ∧ ∀ i, i < n → ∃ g o, a = some ⟨g, o, none⟩ ∧ K g 1 o ∧ (∃ u, Cx w g (o + i * 2) (.int .i64 u)) ∧ ∃ u, Cx w g (o + i * 2 + 1) (.int .i64 u)
def FnP (K : Nat → Nat → Nat → Prop) (w : World) (g o j : Nat) : Prop := ∃ x y v, Cx w g (o + j * 3) (.int .i64 x) ∧ Cx w g (o + j * 3 + 1) (.int .i64 y) ∧ Cx w g (o + j * 3 + 2) v ∧ OIP K w v
def FIP (K : Nat → Nat → Nat → Prop) (w : World) (v : Value) : Prop := ∃ a n c, v = .slice a n c ∧ n ≤ 10000 ∧ ∀ j, j < n → ∃ g o, a = some ⟨g, o, none⟩ ∧ K g 2 o ∧ FnP K w g o j

/-- What keeps all of it. -/
structure PresP (K : Nat → Nat → Nat → Prop) (w w' : World) : Prop where
  op : ∀ g o i u, K g 1 o → Cx w g (o + i) (.int .i64 u) → ∃ u', Cx w' g (o + i) (.int .i64 u')
  fn : ∀ g o j, K g 2 o → FnP K w g o j → (∀ v, OIP K w v → OIP K w' v) → FnP K w' g o j
theorem OIP.pres {K : Nat → Nat → Nat → Prop} {w w' : World} (h : PresP K w w') {v : Value} (hv : OIP K w v) : OIP K w' v := by
  obtain ⟨a, n, c, rfl, hn, hi⟩ := hv
  refine ⟨a, n, c, rfl, hn, fun i h0 => ?_⟩
  obtain ⟨g, o, rfl, hk, ⟨u, hu⟩, u', hu'⟩ := hi i h0
  exact ⟨g, o, rfl, hk, h.op g o (i * 2) u hk hu, h.op g o (i * 2 + 1) u' hk hu'⟩
theorem FIP.pres {K : Nat → Nat → Nat → Prop} {w w' : World} (h : PresP K w w') {v : Value} (hv : FIP K w v) : FIP K w' v := by
  obtain ⟨a, n, c, rfl, hn, hi⟩ := hv
  refine ⟨a, n, c, rfl, hn, fun i h0 => ?_⟩
  obtain ⟨g, o, rfl, hk, hu⟩ := hi i h0
  exact ⟨g, o, rfl, hk, h.fn g o i hk hu fun v hv => hv.pres h⟩
theorem PresP.ext {K : Nat → Nat → Nat → Prop} {w w' : World} (he : Ext w w') : PresP K w w' :=
  ⟨fun _ _ _ u _ h => ⟨u, h.ext he⟩, fun _ _ _ _ ⟨x, y, v, h0, h1, h2, h3⟩ hv => ⟨x, y, v, h0.ext he, h1.ext he, h2.ext he, hv _ h3⟩⟩
theorem FnP.other {K : Nat → Nat → Nat → Prop} {w w' : World} {g0 g o j : Nat} (hc : Chg (· = g0) w w') (hg : g ≠ g0) (h : FnP K w g o j) (hv : ∀ v, OIP K w v → OIP K w' v) : FnP K w' g o j := by
  obtain ⟨x, y, v, h0, h1, h2, h3⟩ := h
  exact ⟨x, y, v, h0.chg hc hg, h1.chg hc hg, h2.chg hc hg, hv _ h3⟩
theorem Cx.anyI {w : World} {b j b' j' : Nat} {v : Int} (u : Int) (h : Cx w b j (.int .i64 v)) : ∃ v', Cx (w.setCell ⟨b', j', none⟩ (.int .i64 u)) b j (.int .i64 v') := by
  by_cases e : b = b' ∧ j = j'
  · obtain ⟨rfl, rfl⟩ := e; exact ⟨u, h.set _⟩
  · exact ⟨v, h.other (by omega) _⟩
theorem chgP2 (W : World) (g p : Nat) (x y : Value) : Chg (· = g) W ((W.setCell ⟨g, p, none⟩ x).setCell ⟨g, p + 1, none⟩ y) := (chg_one _ _ _ _).trans (chg_one _ _ _ _)
theorem chgP3 (W : World) (g p : Nat) (x y z : Value) : Chg (· = g) W (((W.setCell ⟨g, p, none⟩ x).setCell ⟨g, p + 1, none⟩ y).setCell ⟨g, p + 2, none⟩ z) := ((chg_one _ _ _ _).trans (chg_one _ _ _ _)).trans (chg_one _ _ _ _)
theorem OIP.nil (K : Nat → Nat → Nat → Prop) (w : World) : OIP K w (.slice none 0 0) := ⟨none, 0, 0, rfl, by decide, fun i hi => by omega⟩
theorem PresP.ops {K : Nat → Nat → Nat → Prop} {B H bl : Nat} (hK : KFunP K B H bl) {w : World} {g0 o0 : Nat} (hk : K g0 1 o0) (q : Nat) (x y : Int) : PresP K w ((w.setCell ⟨g0, q, none⟩ (.int .i64 x)).setCell ⟨g0, q + 1, none⟩ (.int .i64 y)) := by
  have hc := chgP2 w g0 q (.int .i64 x) (.int .i64 y)
  have ne : ∀ g k o, K g k o → k ≠ 1 → g ≠ g0 := fun g k o h hk1 e => hk1 (by subst e; exact (hK.one _ _ _ _ _ h hk).1)
  refine ⟨fun g o i v _ h => ?_, fun g o j h hf hv => hf.other hc (ne _ _ _ h (by decide)) hv⟩
  obtain ⟨v', h'⟩ := h.anyI (b' := g0) (j' := q) x
  exact h'.anyI y
theorem PresP.fns {K : Nat → Nat → Nat → Prop} {B H bl : Nat} (hK : KFunP K B H bl) {w : World} {g0 o0 : Nat} (hk : K g0 2 o0) (j0 : Nat) (x y : Int) :
    PresP K w (((w.setCell ⟨g0, o0 + j0 * 3, none⟩ (.int .i64 x)).setCell ⟨g0, o0 + j0 * 3 + 1, none⟩ (.int .i64 y)).setCell ⟨g0, o0 + j0 * 3 + 2, none⟩ (.slice none 0 0)) := by
  have hc := chgP3 w g0 (o0 + j0 * 3) (.int .i64 x) (.int .i64 y) (.slice none 0 0)
  have ne : ∀ g k o, K g k o → k ≠ 2 → g ≠ g0 := fun g k o h hk1 e => hk1 (by subst e; exact (hK.one _ _ _ _ _ h hk).1)
  refine ⟨fun g o i v h hv => ⟨v, hv.chg hc (ne _ _ _ h (by decide))⟩, fun g o j h hf hv => ?_⟩
  by_cases e : g = g0
  · subst e
    obtain ⟨_, rfl⟩ := hK.one _ _ _ _ _ h hk
    obtain ⟨x', y', v, h0, h1, h2, h3⟩ := hf
    by_cases ej : j = j0
    · subst ej
      exact ⟨x, y, _, ((h0.set _).other (.inr (by omega)) _).other (.inr (by omega)) _, ((h1.other (.inr (by omega)) _).set _).other (.inr (by omega)) _, ((h2.other (.inr (by omega)) _).other (.inr (by omega)) _).set _, OIP.nil _ _⟩
    · have far : ∀ r r', r < 3 → r' < 3 → o + j * 3 + r ≠ o + j0 * 3 + r' := fun r r' h1 h2 => by omega
      have keep : ∀ r u, r < 3 → Cx w g (o + j * 3 + r) u → Cx (((w.setCell ⟨g, o + j0 * 3, none⟩ (.int .i64 x)).setCell ⟨g, o + j0 * 3 + 1, none⟩ (.int .i64 y)).setCell ⟨g, o + j0 * 3 + 2, none⟩ (.slice none 0 0)) g (o + j * 3 + r) u := fun r u hr h =>
        ((h.other (.inr (far r 0 hr (by decide))) _).other (.inr (far r 1 hr (by decide))) _).other (.inr (far r 2 hr (by decide))) _
      exact ⟨x', y', v, keep 0 _ (by decide) h0, keep 1 _ (by decide) h1, keep 2 _ (by decide) h2, hv _ h3⟩
  · exact hf.other hc e hv

/-- Two programs side by side: each one's rows may be written. -/
structure RestP (K : Nat → Nat → Nat → Prop) (W : World) (bl H : Nat) (w : World) : Prop where
  kf : KFunP K W.heap.size H bl
  ext : Ext W w
  size : H ≤ w.heap.size
  lbl : bl < H
  good : ∀ i, i < 2 → ∃ v, w.cell? ⟨bl, i, none⟩ = some v ∧ FIP K w v
theorem RestP.chg {K : Nat → Nat → Nat → Prop} {W w w' : World} {bl H g : Nat} (h : RestP K W bl H w) (hc : Chg (· = g) w w') (hg : W.heap.size ≤ g ∧ g ≠ bl) (hp : PresP K w w') : RestP K W bl H w' :=
  ⟨h.kf, Chg.ext_from h.ext hc (fun n e => by subst e; exact hg.1), Nat.le_trans h.size hc.size, h.lbl, fun i hi => by
    obtain ⟨v, h0, h1⟩ := h.good i hi
    exact ⟨v, hc.cell (fun e => hg.2 e.symm) h0, h1.pres hp⟩⟩
theorem RestP.more {K : Nat → Nat → Nat → Prop} {W w w' : World} {bl H : Nat} (h : RestP K W bl H w) (he : Ext w w') : RestP K W bl H w' :=
  ⟨h.kf, h.ext.trans he, Nat.le_trans h.size he.size, h.lbl, fun i hi => by
    obtain ⟨v, h0, h1⟩ := h.good i hi
    exact ⟨v, Ext.cell he h0, h1.pres (PresP.ext he)⟩⟩
theorem RestP.op {K : Nat → Nat → Nat → Prop} {W w : World} {bl H g o : Nat} (h : RestP K W bl H w) (hk : K g 1 o) (q : Nat) (x y : Int) : RestP K W bl H ((w.setCell ⟨g, q, none⟩ (.int .i64 x)).setCell ⟨g, q + 1, none⟩ (.int .i64 y)) :=
  h.chg (chgP2 _ _ _ _ _) ⟨(h.kf.bd _ _ _ hk).1, (h.kf.bd _ _ _ hk).2.2⟩ (PresP.ops h.kf hk q x y)
theorem RestP.fn {K : Nat → Nat → Nat → Prop} {W w : World} {bl H g o : Nat} (h : RestP K W bl H w) (hk : K g 2 o) (j : Nat) (x y : Int) : RestP K W bl H (((w.setCell ⟨g, o + j * 3, none⟩ (.int .i64 x)).setCell ⟨g, o + j * 3 + 1, none⟩ (.int .i64 y)).setCell ⟨g, o + j * 3 + 2, none⟩ (.slice none 0 0)) :=
  h.chg (chgP3 _ _ _ _ _ _) ⟨(h.kf.bd _ _ _ hk).1, (h.kf.bd _ _ _ hk).2.2⟩ (PresP.fns h.kf hk j x y)
theorem RestP.at {K : Nat → Nat → Nat → Prop} {W w : World} {bl H : Nat} (h : RestP K W bl H w) {i : Nat} (hi : i < 2) : ∃ a n c, w.cell? ⟨bl, i, none⟩ = some (.slice a n c) ∧ FIP K w (.slice a n c) ∧ n ≤ 10000 := by
  obtain ⟨v, h0, h1⟩ := h.good i hi
  have k := h1
  obtain ⟨a, n, c, rfl, hn, _⟩ := h1
  exact ⟨a, n, c, h0, k, hn⟩
theorem RestP.v {K : Nat → Nat → Nat → Prop} {W w : World} {bl H i : Nat} (h : RestP K W bl H w) (hi : i < 2) {v : Value} (hv : w.cell? ⟨bl, i, none⟩ = some v) : FIP K w v := by
  obtain ⟨v', h0, h1⟩ := h.good i hi
  rw [hv] at h0
  cases h0
  exact h1
theorem OIP.at {K : Nat → Nat → Nat → Prop} {w : World} {a : Option Addr} {n c i : Nat} (h : OIP K w (.slice a n c)) (hi : i < n) : ∃ g o x y, a = some ⟨g, o, none⟩ ∧ K g 1 o ∧ Cx w g (o + i * 2) (.int .i64 x) ∧ Cx w g (o + i * 2 + 1) (.int .i64 y) := by
  obtain ⟨a', n', c', e, _, h⟩ := h
  simp only [Value.slice.injEq] at e
  obtain ⟨rfl, rfl, rfl⟩ := e
  obtain ⟨g, o, e, hk, ⟨x, hx⟩, y, hy⟩ := h i hi
  exact ⟨g, o, x, y, e, hk, hx, hy⟩
theorem OIP.le {K : Nat → Nat → Nat → Prop} {w : World} {a : Option Addr} {n c : Nat} (h : OIP K w (.slice a n c)) : n ≤ 10000 := by
  obtain ⟨a', n', c', e, hn, _⟩ := h
  simp only [Value.slice.injEq] at e
  omega
theorem FIP.at {K : Nat → Nat → Nat → Prop} {w : World} {a : Option Addr} {n c j : Nat} (h : FIP K w (.slice a n c)) (hj : j < n) : ∃ g o x y la ln lc, a = some ⟨g, o, none⟩ ∧ K g 2 o ∧ Cx w g (o + j * 3) (.int .i64 x) ∧ Cx w g (o + j * 3 + 1) (.int .i64 y) ∧ Cx w g (o + j * 3 + 2) (.slice la ln lc) ∧ OIP K w (.slice la ln lc) := by
  obtain ⟨a', n', c', e, _, h⟩ := h
  simp only [Value.slice.injEq] at e
  obtain ⟨rfl, rfl, rfl⟩ := e
  obtain ⟨g, o, e, hk, x, y, v, h0, h1, h2, h3⟩ := h j hj
  have k3 := h3
  obtain ⟨la, ln, lc, rfl, _⟩ := h3
  exact ⟨g, o, x, y, la, ln, lc, e, hk, h0, h1, h2, k3⟩
theorem FIP.o {K : Nat → Nat → Nat → Prop} {w : World} {g o n c j : Nat} (h : FIP K w (.slice (some ⟨g, o, none⟩) n c)) (hj : j < n) {v : Value} (hv : w.cell? ⟨g, o + j * 3 + 2, none⟩ = some v) : OIP K w v ∧ K g 2 o := by
  obtain ⟨g', o', x, y, la, ln, lc, e, hk, _, _, h2, h3⟩ := h.at hj
  simp only [Option.some.injEq, Addr.mk.injEq] at e
  obtain ⟨rfl, rfl, -⟩ := e
  have e := h2.1
  rw [hv] at e
  cases e
  exact ⟨h3, hk⟩

/-! ### Out of rows of own memory -/
def kOfP (k : Nat) : Value → List (Nat × Nat × Nat)
  | .slice (some ⟨g, o, _⟩) _ cap => if cap = 0 then [] else [(g, k, o)]
  | _ => []
theorem kOfP_fst (k : Nat) (v : Value) : (kOfP k v).map Prod.fst = (rowBlock v).toList := by
  unfold kOfP rowBlock
  split
  · rename_i g o s n cap
    by_cases hc : cap = 0
    · simp [hc]
    · simp [hc]
  · rename_i h
    split
    · rename_i ad n cap
      exact absurd rfl (h ad.block ad.off ad.spot n cap)
    · rfl
theorem kOfP_some {g o n cap k : Nat} (h : cap ≠ 0) : kOfP k (.slice (some ⟨g, o, none⟩) n cap) = [(g, k, o)] := by simp [kOfP, h]
def ksP (v : Value) (fs : List (GFunc × Value)) : List (Nat × Nat × Nat) := kOfP 2 v ++ fs.flatMap fun y => kOfP 1 y.2
theorem ksP_fst (v : Value) (fs : List (GFunc × Value)) : (ksP v fs).map Prod.fst = (rowBlock v).toList ++ fs.flatMap fun y => (rowBlock y.2).toList := by
  unfold ksP
  simp only [List.map_append, kOfP_fst, List.map_flatMap]
theorem keysP_one : ∀ {l : List (Nat × Nat × Nat)}, (l.map Prod.fst).Nodup → ∀ {g : Nat} {x y : Nat × Nat}, (g, x) ∈ l → (g, y) ∈ l → x = y
  | [], _, _, _, _, h, _ => by cases h
  | a :: l, hn, g, x, y, h1, h2 => by
    rw [List.map_cons, List.nodup_cons] at hn
    have hno : ∀ z, a.1 = g → (g, z) ∉ l := fun z e h => hn.1 (List.mem_map.2 ⟨(g, z), h, e.symm⟩)
    rcases List.mem_cons.1 h1 with e1 | k1
    · rcases List.mem_cons.1 h2 with e2 | k2
      · rw [← e1] at e2; exact (congrArg Prod.snd e2).symm
      · exact absurd k2 (hno _ (by rw [← e1]))
    · rcases List.mem_cons.1 h2 with e2 | k2
      · exact absurd k1 (hno _ (by rw [← e2]))
      · exact keysP_one hn.2 k1 k2
theorem opsF_at : ∀ {l : List GOp} {i : Nat} (hi : i < l.length), (l.flatMap opF)[i * 2]? = some (.int .i64 l[i].kind) ∧ (l.flatMap opF)[i * 2 + 1]? = some (.int .i64 l[i].a)
  | [], i, hi => by simp at hi
  | x :: l, 0, _ => ⟨rfl, rfl⟩
  | x :: l, i + 1, hi => by
    have h := opsF_at (l := l) (i := i) (by simpa using hi)
    have e : ((x :: l).flatMap opF) = opF x ++ l.flatMap opF := List.flatMap_cons
    have hl : (opF x).length = 2 := rfl
    rw [e, List.getElem?_append_right (by rw [hl]; omega), List.getElem?_append_right (by rw [hl]; omega), hl]
    have e1 : (i + 1) * 2 - 2 = i * 2 := by omega
    have e2 : (i + 1) * 2 + 1 - 2 = i * 2 + 1 := by omega
    rw [e1, e2]
    exact h
theorem OIP.of_row {K : Nat → Nat → Nat → Prop} {w : World} {B : Nat} {v : Value} {l : List GOp} (h : RowAt w B 2 v l.length (l.flatMap opF)) (hn : l.length ≤ 10000) (hK : ∀ g o, (g, 1, o) ∈ kOfP 1 v → K g 1 o) : OIP K w v := by
  obtain ⟨a, cap, rfl, h1, h2⟩ := h.shape
  refine ⟨a, l.length, cap, rfl, hn, fun i hi => ?_⟩
  obtain ⟨g, o, rfl, hb, hc⟩ := h.cell (by omega)
  obtain ⟨e1, e2⟩ := opsF_at hi
  have c1 := (hc (i * 2) (by omega))
  have c2 := (hc (i * 2 + 1) (by omega))
  rw [e1] at c1
  rw [e2] at c2
  exact ⟨g, o, rfl, hK g o (by rw [kOfP_some (by omega)]; simp), ⟨_, c1⟩, ⟨_, by have := c2; rwa [← Nat.add_assoc] at this⟩⟩
theorem FIP.of_row {K : Nat → Nat → Nat → Prop} {w : World} {B : Nat} {v : Value} {fs : List (GFunc × Value)} (h : PRow w B v fs) (hK : ∀ g k o, (g, k, o) ∈ ksP v fs → K g k o) : FIP K w v := by
  obtain ⟨a, cap, e, h1, h2⟩ := h.row.shape
  refine ⟨a, fs.length, cap, e, h.few, fun j hj => ?_⟩
  obtain ⟨L, y, R, hs, hLl⟩ : ∃ L y R, fs = L ++ y :: R ∧ L.length = j := ⟨fs.take j, fs[j], fs.drop (j + 1), by rw [List.getElem_cons_drop, List.take_append_drop], by rw [List.length_take]; omega⟩
  have hrow := h.row
  rw [hs] at hrow
  obtain ⟨g, o, cap', e', hb, hc, hm, hx⟩ := RowAt.place funcF (fun _ => rfl) hrow
  rw [e] at e'
  simp only [Value.slice.injEq] at e'
  obtain ⟨rfl, hn', rfl⟩ := e'
  rw [hLl] at hx
  have hym : y ∈ fs := by rw [hs]; simp
  obtain ⟨_, _, i3, _, i5⟩ := h.fn y hym
  refine ⟨g, o, rfl, hK _ _ _ ?_, _, _, _, hx 0 _ (by decide) rfl, hx 1 _ (by decide) rfl, hx 2 _ (by decide) rfl, OIP.of_row i3 i5 fun g o h => hK _ _ _ ?_⟩
  · unfold ksP
    rw [e, kOfP_some (by omega)]
    simp
  · unfold ksP; exact List.mem_append.2 (.inr (List.mem_flatMap.2 ⟨y, hym, h⟩))
theorem restP_start {W w1 w2 w : World} {vb vc : Value} {fb fc : List (GFunc × Value)} (hE1 : Ext W w1) (hE2 : Ext w1 w2) (hE : Ext w2 w) (hb : PRow w1 W.heap.size vb fb) (hc : PRow w2 w1.heap.size vc fc) (t : TypeId) :
    ∃ K, RestP K W w.heap.size (w.heap.size + 1) (w.alloc (.cells #[vb, vc] t)) := by
  have eA : Ext w (w.alloc (.cells #[vb, vc] t)) := (Ext.refl _).alloc _
  have hszA : (w.alloc (.cells #[vb, vc] t)).heap.size = w.heap.size + 1 := Array.size_push _
  have hcell : ∀ j v, [vb, vc][j]? = some v → (w.alloc (.cells #[vb, vc] t)).cell? ⟨w.heap.size, j, none⟩ = some v := fun j v hj => (Cx.new w [vb, vc] t hj).1
  generalize w.alloc (.cells #[vb, vc] t) = w' at *
  have s1 := hE1.size
  have s2 := hE2.size
  have s3 := hE.size
  have inb : ∀ {v : Value} {fs : List (GFunc × Value)} {g k o : Nat}, (g, k, o) ∈ ksP v fs → g ∈ (rowBlock v).toList ++ fs.flatMap fun y => (rowBlock y.2).toList := fun {v fs g k o} h => by rw [← ksP_fst]; exact List.mem_map.2 ⟨_, h, rfl⟩
  have hnd : ((ksP vb fb ++ ksP vc fc).map Prod.fst).Nodup := by
    rw [List.map_append, ksP_fst, ksP_fst, List.nodup_append]
    refine ⟨hb.nodup, hc.nodup, fun a ha b hb' e => ?_⟩
    have := hb.ge a ha
    have := hc.ge b hb'
    omega
  have hall : ∀ g k o, (g, k, o) ∈ ksP vb fb ++ ksP vc fc → W.heap.size ≤ g ∧ g < w.heap.size := fun g k o h => by
    rcases List.mem_append.1 h with h | h
    · have := hb.ge g (inb h); omega
    · have := hc.ge g (inb h); omega
  refine ⟨fun g k o => (g, k, o) ∈ ksP vb fb ++ ksP vc fc, ⟨fun g k o k' o' h h' => ?_, fun g k o h => ?_⟩, (hE1.trans hE2).trans (hE.trans eA), by omega, by omega, fun i hi => ?_⟩
  · have := keysP_one hnd h h'
    simp only [Prod.mk.injEq] at this
    exact this
  · have := hall g k o h
    omega
  · match i, hi with
    | 0, _ => exact ⟨_, hcell 0 _ rfl, FIP.of_row (hb.ext ((hE2.trans hE).trans eA)) fun g k o h => by simp [h]⟩
    | 1, _ => exact ⟨_, hcell 1 _ rfl, FIP.of_row (hc.ext (hE.trans eA)) fun g k o h => by simp [h]⟩

/-! ### Cells beside the rows stay -/
theorem RestP.nbl {K : Nat → Nat → Nat → Prop} {W w : World} {bl H : Nat} (h : RestP K W bl H w) : ∀ k o, ¬ K bl k o := fun _ _ hk => (h.kf.bd _ _ _ hk).2.2 rfl
theorem RestP.nkind {K : Nat → Nat → Nat → Prop} {W w : World} {bl H g k o k' : Nat} (h : RestP K W bl H w) (hk : K g k o) (hn : k' ≠ k) : ∀ o', ¬ K g k' o' := fun _ h' => hn (h.kf.one _ _ _ _ _ h' hk).1
theorem pinP_op {K : Nat → Nat → Nat → Prop} {w : World} {g o b q z : Nat} {x y v : Value} (hk : K g 1 o) (hn : ∀ o, ¬ K b 1 o) (h : w.cell? ⟨b, q, none⟩ = some v) : ((w.setCell ⟨g, z, none⟩ x).setCell ⟨g, z + 1, none⟩ y).cell? ⟨b, q, none⟩ = some v :=
  (chgP2 w g z x y).cell (fun e => by have e : b = g := e; subst e; exact hn _ hk) h
theorem pinP_fn {K : Nat → Nat → Nat → Prop} {w : World} {g o b q z : Nat} {x y u v : Value} (hk : K g 2 o) (hn : ∀ o, ¬ K b 2 o) (h : w.cell? ⟨b, q, none⟩ = some v) : (((w.setCell ⟨g, z, none⟩ x).setCell ⟨g, z + 1, none⟩ y).setCell ⟨g, z + 2, none⟩ u).cell? ⟨b, q, none⟩ = some v :=
  (chgP3 w g z x y u).cell (fun e => by have e : b = g := e; subst e; exact hn _ hk) h
end Go.Proofs.YtpcjkfppacnkgaaGreatDoor
end
