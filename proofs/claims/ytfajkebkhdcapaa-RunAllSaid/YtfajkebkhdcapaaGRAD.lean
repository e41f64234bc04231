/- Merged texts: contracts and plain facts, one part behind another; each part begins with what it says. -/
import Derived.Test.YtfajkebkhdcapaaGRAB
import Derived.Test.YtfajkebkhdcapaaGRAC
import Derived.Deep.AppendSrc
import Derived.Deep.MidRow
import Derived.Deep.Upon
import Derived.Laws.AppendOwn
import Derived.Laws.OwnMore
import Derived.OwnWalkIn
import Derived.Tactics
section
/- append to a slice of the call's own from whatever slice; slices read out of a row of the call's own. No condition. -/
namespace Go.Proofs.Ytfajkebkhdcapaa
open Go Go.RowKit

/-- What a slice's cells are. -/
def SrcSl (w : World) (size : Nat) (x : Value) (m : Nat) (news : List Value) : Prop :=
  ∃ a c, x = .slice a m c ∧ news.length = m * size ∧ (∀ u ∈ news, u.oneCell' = true) ∧ (m = 0 ∨ ∃ ad, a = some ad ∧ ∀ j u, news[j]? = some u → w.cell? (ad.add j) = some u)

section
variable {P : Program} {w : World}

theorem run_append_none (base : Nat) (t ty e : TypeId) (i : TypeInfo) (size : Nat) (ht : P.underlying t = some (.slice e)) (hi : P.info? e = some i) (hsize : i.size = size)
    (v : Value) (n : Nat) (xs : List Value) (hown : w.ownsRow base e size v n xs) (c : Nat) : (Builtin.append_ #[t, t] ty #[v, .slice none 0 c]).run P w = .ok v w := by
  subst hsize
  rcases hown.2 with ⟨rfl, rfl⟩ | ⟨g, cap, cur, rfl, hbg, hg, hnc, hcm, hcs, htake⟩
  · simp [Builtin.append_, run_underlying ht, sizeOf, typeInfo, hi, Builtin.lenOf, Builtin.firstCells]
  · simp [Builtin.append_, run_underlying ht, sizeOf, typeInfo, hi, Builtin.lenOf, Builtin.firstCells, loadCells, hnc, storeCells]

theorem run_append_sl (base : Nat) (t ty e : TypeId) (i : TypeInfo) (z : Value) (size bytes : Nat) (ht : P.underlying t = some (.slice e)) (hi : P.info? e = some i) (hz : i.zero = some z)
    (hsize : i.size = size) (hby : i.bytes = bytes) (hzs : z.cells.size = size) (hsz : 0 < size)
    (v : Value) (n : Nat) (xs : List Value) (hown : w.ownsRow base e size v n xs) (x : Value) (m : Nat) (news : List Value) (hx : SrcSl w size x m news)
    (h63 : n + m ≤ maxLen) (hbytes : (n + m) * bytes ≤ 140737488355328) (hbase : base ≤ w.heap.size) :
    ∃ v' w', (Builtin.append_ #[t, t] ty #[v, x]).run P w = .ok v' w' ∧ w'.ownsRow base e size v' (n + m) (xs ++ news) ∧ w.grownBy w' v.ownBlock ∧
      (v' = .slice none 0 0 ↔ v = .slice none 0 0 ∧ m = 0) := by
  obtain ⟨a, c, rfl, hl, h1, hc⟩ := hx
  match a with
  | some ad =>
    refine run_append_own w base t ty e i z size bytes ht hi hz hsize hby hzs hsz v n xs hown ad m c news hl ?_ h1 h63 hbytes hbase
    rcases hc with rfl | ⟨ad', e, h⟩
    · intro j u hj
      have : news = [] := List.eq_nil_of_length_eq_zero (by simpa using hl)
      rw [this] at hj; simp at hj
    · cases e; exact h
  | none =>
    have hm : m = 0 := by
      rcases hc with h | ⟨ad, e, _⟩
      · exact h
      · cases e
    subst hm
    have hn : news = [] := List.eq_nil_of_length_eq_zero (by simpa using hl)
    subst hn
    exact ⟨v, w, run_append_none base t ty e i size ht hi hsize v n xs hown c, by simpa using hown, ⟨rfl, rfl, rfl, Nat.le_refl _, fun _ _ _ => rfl⟩, by simp⟩

theorem wp_append_sl {o : Oper} {a : Act} {K : Act → World → Prop} {Q : Exit → Act → World → Prop} (s x : Operand) (t : TypeId)
    (ho : o.op = .call { callee := .builtin .append, args := #[s, x], argTypes := #[t, t] })
    (base : Nat) (e : TypeId) (i : TypeInfo) (z : Value) (size bytes : Nat) (ht : P.underlying t = some (.slice e)) (hi : P.info? e = some i) (hz : i.zero = some z)
    (hsize : i.size = size) (hby : i.bytes = bytes) (hzs : z.cells.size = size) (hsz : 0 < size)
    (v : Value) (n : Nat) (xs : List Value) (hs : a.eval s = v) (hown : w.ownsRow base e size v n xs) (m : Nat) (news : List Value) (hx : SrcSl w size (a.eval x) m news)
    (h63 : n + m ≤ maxLen) (hbytes : (n + m) * bytes ≤ 140737488355328) (hbase : base ≤ w.heap.size)
    (h : ∀ v' w', w'.ownsRow base e size v' (n + m) (xs ++ news) → w.grownBy w' v.ownBlock → (v' = .slice none 0 0 ↔ v = .slice none 0 0 ∧ m = 0) → K (a.put o.dst v') w') : o.wp P a w K Q := by
  obtain ⟨v', w', hr, h2, h3, h4⟩ := run_append_sl (P := P) base t o.type e i z size bytes ht hi hz hsize hby hzs hsz v n xs hown (a.eval x) m news hx h63 hbytes hbase
  unfold Oper.wp execOp
  simp only [ho, resolve, invoke, builtin, Sem.run_bind, Sem.run_pure, Result.andThen_ok, List.map_toArray, List.map_cons, List.map_nil, hs, hr]
  exact h v' w' h2 h3 h4

theorem wpList_append_sl {ops : Array Oper} {rest : List Oper} {o : Oper} {a : Act} {Q : Exit → Act → World → Prop} (hgd : o.guard = none) (s x : Operand) (t : TypeId)
    (ho : o.op = .call { callee := .builtin .append, args := #[s, x], argTypes := #[t, t] })
    (base : Nat) (e : TypeId) (i : TypeInfo) (z : Value) (size bytes : Nat) (ht : P.underlying t = some (.slice e)) (hi : P.info? e = some i) (hz : i.zero = some z)
    (hsize : i.size = size) (hby : i.bytes = bytes) (hzs : z.cells.size = size) (hsz : 0 < size)
    (v : Value) (n : Nat) (xs : List Value) (hs : a.eval s = v) (hown : w.ownsRow base e size v n xs) (m : Nat) (news : List Value) (hx : SrcSl w size (a.eval x) m news)
    (h63 : n + m ≤ maxLen) (hbytes : (n + m) * bytes ≤ 140737488355328) (hbase : base ≤ w.heap.size)
    (h : ∀ v' w', w'.ownsRow base e size v' (n + m) (xs ++ news) → w.grownBy w' v.ownBlock → (v' = .slice none 0 0 ↔ v = .slice none 0 0 ∧ m = 0) → wpList P ops Q rest (a.put o.dst v') w') : wpList P ops Q (o :: rest) a w :=
  wpList_plain hgd fun _ hK => wp_append_sl s x t ho base e i z size bytes ht hi hz hsize hby hzs hsz v n xs hs hown m news hx h63 hbytes hbase fun v' w' h2 h3 h4 => hK _ _ (h v' w' h2 h3 h4)
end

/-- What a read slice's cells are. -/
theorem Sl.src {α : Type} {E : Nat → Nat → α → Prop} {sz bytes : Nat} {v : Value} {l : List α} {w : World} (f : α → List Value) (h : Sl E sz bytes v l) (hf : ∀ y, (f y).length = sz)
    (h1 : ∀ y, ∀ u ∈ f y, u.oneCell' = true) (hE : ∀ b o y, E b o y → ∀ j u, (f y)[j]? = some u → w.cell? ⟨b, o + j, none⟩ = some u) : SrcSl w sz v l.length (l.flatMap f) := by
  have hlen : ∀ l : List α, (l.flatMap f).length = l.length * sz := by
    intro l
    induction l with
    | nil => simp
    | cons y l ih => simp [ih, hf, Nat.add_mul]; omega
  obtain ⟨a, cap, rfl, h2, h3, h4⟩ := h
  refine ⟨a, cap, rfl, hlen l, ?_, ?_⟩
  · intro u hu
    obtain ⟨y, _, hy⟩ := List.mem_flatMap.1 hu
    exact h1 y u hy
  · by_cases h0 : l.length = 0
    · exact .inl h0
    · right
      obtain ⟨b, o, rfl, _⟩ := h4 0 (by omega)
      refine ⟨_, rfl, fun j u hj => ?_⟩
      have hjl : j < l.length * sz := by
        rw [← hlen l]
        exact (List.getElem?_eq_some_iff.1 hj).1
      have key : ∀ (l : List α) (j : Nat) (u : Value), (l.flatMap f)[j]? = some u → ∃ i r, ∃ h : i < l.length, j = i * sz + r ∧ (f l[i])[r]? = some u := by
        intro l
        induction l with
        | nil => intro j u h; simp at h
        | cons y l ih =>
          intro j u h
          rw [List.flatMap_cons] at h
          by_cases hj : j < sz
          · rw [List.getElem?_append_left (by rw [hf]; exact hj)] at h
            exact ⟨0, j, by simp, by simp, h⟩
          · rw [List.getElem?_append_right (by rw [hf]; omega), hf] at h
            obtain ⟨i, r, hi, e, hu⟩ := ih _ _ h
            exact ⟨i + 1, r, by simpa using hi, by rw [Nat.add_mul]; omega, by simpa using hu⟩
      obtain ⟨i, r, hi, rfl, hu⟩ := key l j u hj
      obtain ⟨b', o', e, hE'⟩ := h4 i hi
      simp only [Option.some.injEq, Addr.mk.injEq] at e
      obtain ⟨rfl, rfl, _⟩ := e
      have := hE _ _ _ hE' r u hu
      rw [Addr.add_lit, ← Nat.add_assoc]
      exact this

/-- A slice out of a row of the call's own. -/
theorem Sl.of_own {α : Type} {E : Nat → Nat → α → Prop} {sz bytes base : Nat} {e : TypeId} {v : Value} {l : List α} {w : World} (f : α → List Value) (h : w.ownsRow base e sz v l.length (l.flatMap f)) (hf : ∀ y, (f y).length = sz)
    (hb : l.length * bytes ≤ 140737488355328) (hE : ∀ b o y, base ≤ b → y ∈ l → (∀ j u, (f y)[j]? = some u → w.cell? ⟨b, o + j, none⟩ = some u) → E b o y) : Sl E sz bytes v l := by
  rcases h.2 with ⟨rfl, h0⟩ | ⟨g, cap, cur, rfl, hbg, hg, hnc, hcm, hcs, htake⟩
  · obtain rfl : l = [] := List.eq_nil_of_length_eq_zero h0
    exact Sl.nil _ _ _
  · refine ⟨_, cap, rfl, hnc, ⟨hb, by unfold maxLen at hcm; omega⟩, fun i hi => ⟨g, 0, rfl, ?_⟩⟩
    refine hE _ _ _ hbg (List.getElem_mem hi) fun j u hu => ?_
    have hjs : j < sz := by rw [← hf l[i]]; exact (List.getElem?_eq_some_iff.1 hu).1
    have key : ∀ (l : List α) (i : Nat) (hi : i < l.length) (r : Nat), r < sz → (l.flatMap f)[i * sz + r]? = (f l[i])[r]? := by
      intro l
      induction l with
      | nil => intro i hi; simp at hi
      | cons y l ih =>
        intro i hi r hr
        rw [List.flatMap_cons]
        cases i with
        | zero => rw [List.getElem?_append_left (by rw [hf]; omega)]; simp
        | succ i =>
          rw [List.getElem?_append_right (by rw [hf, Nat.add_mul]; omega), hf]
          rw [show (i + 1) * sz + r - sz = i * sz + r by rw [Nat.add_mul]; omega]
          simpa using ih i (by simpa using hi) r hr
    have h5 := key l i hi j hjs
    rw [hu, ← htake] at h5
    rw [cell_of_row w g _ cur e (0, 0) hg, ← Array.getElem?_toList, Nat.zero_add]
    rw [List.getElem?_take] at h5
    split at h5
    · exact h5
    · cases h5

def opF (x : GOp) : List Value := [.int .i64 x.kind, .int .i64 x.a]
def nodeF (x : GNode) : List Value := [.int .i64 x.kind, .int .i64 x.n]
def intF (n : Int) : List Value := [.int .i64 n]

theorem Ints.src {w : World} {S : Nat → Prop} {v : Value} {l : List Int} (h : Ints w S v l) : SrcSl w 1 v l.length (l.flatMap intF) :=
  Sl.src intF h (fun _ => rfl) (by simp [intF, Value.oneCell']) (fun b o y hE j u hu => by
    match j, hu with
    | 0, hu => cases hu; exact hE.2.1)
theorem Ops.src {w : World} {S : Nat → Prop} {v : Value} {l : List GOp} (h : Ops w S v l) : SrcSl w 2 v l.length (l.flatMap opF) :=
  Sl.src opF h (fun _ => rfl) (by simp [opF, Value.oneCell']) (fun b o y hE j u hu => by
    match j, hu with
    | 0, hu => cases hu; exact hE.1.2.1
    | 1, hu => cases hu; exact hE.2.2.1)
theorem Nodes.src {w : World} {S : Nat → Prop} {v : Value} {l : List GNode} (h : Nodes w S v l) : SrcSl w 2 v l.length (l.flatMap nodeF) :=
  Sl.src nodeF h (fun _ => rfl) (by simp [nodeF, Value.oneCell']) (fun b o y hE j u hu => by
    match j, hu with
    | 0, hu => cases hu; exact hE.1.2.1
    | 1, hu => cases hu; exact hE.2.2.1)

theorem Ints.of_own {w : World} {base : Nat} {e : TypeId} {v : Value} {l : List Int} (h : w.ownsRow base e 1 v l.length (l.flatMap intF)) (hb : l.length * 8 ≤ 140737488355328) (hI : ∀ x ∈ l, I64 x) (S : Nat → Prop) (hS : ∀ b, base ≤ b → S b) : Ints w S v l :=
  Sl.of_own intF h (fun _ => rfl) hb fun b _ y hbb hy hc => ⟨hS b hbb, hc 0 _ rfl, hI y hy⟩
theorem Ops.of_own {w : World} {base : Nat} {e : TypeId} {v : Value} {l : List GOp} (h : w.ownsRow base e 2 v l.length (l.flatMap opF)) (hb : l.length * 16 ≤ 140737488355328) (hI : ∀ x ∈ l, I64 x.kind ∧ I64 x.a) (S : Nat → Prop) (hS : ∀ b, base ≤ b → S b) : Ops w S v l :=
  Sl.of_own opF h (fun _ => rfl) hb fun b _ y hbb hy hc => ⟨⟨hS b hbb, hc 0 _ rfl, (hI y hy).1⟩, hS b hbb, hc 1 _ rfl, (hI y hy).2⟩
theorem Nodes.of_own {w : World} {base : Nat} {e : TypeId} {v : Value} {l : List GNode} (h : w.ownsRow base e 2 v l.length (l.flatMap nodeF)) (hb : l.length * 16 ≤ 140737488355328) (hI : ∀ x ∈ l, I64 x.kind ∧ I64 x.n) (S : Nat → Prop) (hS : ∀ b, base ≤ b → S b) : Nodes w S v l :=
  Sl.of_own nodeF h (fun _ => rfl) hb fun b _ y hbb hy hc => ⟨⟨hS b hbb, hc 0 _ rfl, (hI y hy).1⟩, hS b hbb, hc 1 _ rfl, (hI y hy).2⟩

theorem Ints.i64 {w : World} {S : Nat → Prop} {v : Value} {l : List Int} (h : Ints w S v l) : ∀ x ∈ l, I64 x := by
  intro x hx
  obtain ⟨i, hi, rfl⟩ := List.getElem_of_mem hx
  obtain ⟨a, cap, rfl, _, _, h4⟩ := h
  obtain ⟨b, o, _, hE⟩ := h4 i hi
  exact hE.2.2
theorem Ops.i64 {w : World} {S : Nat → Prop} {v : Value} {l : List GOp} (h : Ops w S v l) : ∀ x ∈ l, I64 x.kind ∧ I64 x.a := by
  intro x hx
  obtain ⟨i, hi, rfl⟩ := List.getElem_of_mem hx
  obtain ⟨a, cap, rfl, _, _, h4⟩ := h
  obtain ⟨b, o, _, hE⟩ := h4 i hi
  exact ⟨hE.1.2.2, hE.2.2.2⟩
theorem Nodes.i64 {w : World} {S : Nat → Prop} {v : Value} {l : List GNode} (h : Nodes w S v l) : ∀ x ∈ l, I64 x.kind ∧ I64 x.n := by
  intro x hx
  obtain ⟨i, hi, rfl⟩ := List.getElem_of_mem hx
  obtain ⟨a, cap, rfl, _, _, h4⟩ := h
  obtain ⟨b, o, _, hE⟩ := h4 i hi
  exact ⟨hE.1.2.2, hE.2.2.2⟩
theorem Sl.bd {α : Type} {E : Nat → Nat → α → Prop} {sz bytes : Nat} {v : Value} {l : List α} (h : Sl E sz bytes v l) : l.length * bytes ≤ 140737488355328 := by
  obtain ⟨a, cap, rfl, _, h3, _⟩ := h
  exact h3.1
end Go.Proofs.Ytfajkebkhdcapaa
end
section
/- A slice of the call's own at whatever place of its block, told by its cells; append to it. No condition. -/
namespace Go.Proofs.Ytfajkebkhdcapaa
open Go Go.RowKit

/-- v has n elements, the cells xs, in a block from base on; all up to its capacity may be written. -/
structure RowAt (w : World) (base size : Nat) (v : Value) (n : Nat) (xs : List Value) : Prop where
  len : xs.length = n * size
  val : ∃ a cap, v = .slice a n cap ∧ n ≤ cap ∧ cap ≤ maxLen ∧ (cap = 0 ∨ ∃ g o, a = some ⟨g, o, none⟩ ∧ base ≤ g ∧
    (∀ j, j < n * size → w.cell? ⟨g, o + j, none⟩ = xs[j]?) ∧ (∀ j, j < cap * size → (w.cell? ⟨g, o + j, none⟩).isSome = true ∧ w.frozen? ⟨g, o + j, none⟩ = false))

/-- The block that a row lies in. -/
def rowBlock : Value → Option Nat
  | .slice (some a) _ cap => if cap = 0 then none else some a.block
  | _ => none
theorem rowBlock_some (g o n cap : Nat) (h : cap ≠ 0) : rowBlock (.slice (some ⟨g, o, none⟩) n cap) = some g := by simp [rowBlock, h]

theorem RowAt.nil (w : World) (base size : Nat) (a : Option Addr) : RowAt w base size (.slice a 0 0) 0 [] := ⟨by simp, a, 0, rfl, Nat.le_refl _, Nat.zero_le _, .inl rfl⟩

theorem RowAt.shape {w : World} {base size : Nat} {v : Value} {n : Nat} {xs : List Value} (h : RowAt w base size v n xs) : ∃ a cap, v = .slice a n cap ∧ n ≤ cap ∧ cap ≤ maxLen := by
  obtain ⟨a, cap, e, h1, h2, _⟩ := h.val
  exact ⟨a, cap, e, h1, h2⟩

/-- Only the row's own block matters. -/
theorem RowAt.keep {w w' : World} {base size : Nat} {v : Value} {n : Nat} {xs : List Value} (h : RowAt w base size v n xs) (hk : ∀ g, rowBlock v = some g → g < w.heap.size → w'.heap[g]? = w.heap[g]?) (hs : 0 < size) : RowAt w' base size v n xs := by
  obtain ⟨hl, a, cap, rfl, h1, h2, h3⟩ := h
  refine ⟨hl, a, cap, rfl, h1, h2, ?_⟩
  by_cases hc0 : cap = 0
  · exact .inl hc0
  rcases h3 with h3 | ⟨g, o, rfl, hb, hc, ht⟩
  · exact .inl h3
  · have hcs : 0 < cap * size := Nat.mul_pos (by omega) hs
    have hg : g < w.heap.size := World.block_lt_of_cell? w _ (Option.isSome_iff_exists.1 (ht 0 hcs).1).choose_spec
    have e := hk g (rowBlock_some g o n cap hc0) hg
    exact .inr ⟨g, o, rfl, hb, fun j hj => (World.cell?_of_block (a := ⟨g, o + j, none⟩) e).trans (hc j hj), fun j hj => by
      rw [World.cell?_of_block (a := ⟨g, o + j, none⟩) e, World.frozen?_of_block (a := ⟨g, o + j, none⟩) e]; exact ht j hj⟩

theorem RowAt.chg {M : Nat → Prop} {w w' : World} {base size : Nat} {v : Value} {n : Nat} {xs : List Value} (h : RowAt w base size v n xs) (hc : Chg M w w') (hM : ∀ g, rowBlock v = some g → ¬ M g) (hs : 0 < size) : RowAt w' base size v n xs :=
  h.keep (fun g hg hl => hc.block g hl (hM g hg)) hs
theorem RowAt.ext {w w' : World} {base size : Nat} {v : Value} {n : Nat} {xs : List Value} (h : RowAt w base size v n xs) (hc : Ext w w') (hs : 0 < size) : RowAt w' base size v n xs :=
  h.keep (fun g _ hl => hc.block g hl) hs
theorem RowAt.mono {w : World} {base base' size : Nat} {v : Value} {n : Nat} {xs : List Value} (h : RowAt w base size v n xs) (hb : base' ≤ base) : RowAt w base' size v n xs := by
  obtain ⟨hl, a, cap, rfl, h1, h2, h3⟩ := h
  refine ⟨hl, a, cap, rfl, h1, h2, h3.imp id ?_⟩
  rintro ⟨g, o, rfl, hbb, hc⟩
  exact ⟨g, o, rfl, Nat.le_trans hb hbb, hc⟩

/-- A row that is a whole new block. -/
theorem RowAt.made (W : World) (cs : Array Value) (e : TypeId) (size n base : Nat) (hb : base ≤ W.heap.size) (hn : n ≤ maxLen) (hs : cs.size = n * size) :
    RowAt (W.alloc (.cells cs e)) base size (.slice (some ⟨W.heap.size, 0, none⟩) n n) n cs.toList := by
  refine ⟨by simpa using hs, _, n, rfl, Nat.le_refl _, hn, .inr ⟨W.heap.size, 0, rfl, hb, fun j hj => ?_, fun j hj => ?_⟩⟩
  · rw [Nat.zero_add]
    have : (W.alloc (.cells cs e)).cell? ⟨W.heap.size, j, none⟩ = cs[j]? := World.cell?_alloc_new W _ _ j
    rw [this]; simp
  · rw [Nat.zero_add]
    have e1 : (W.alloc (.cells cs e)).cell? ⟨W.heap.size, j, none⟩ = cs[j]? := World.cell?_alloc_new W _ _ j
    refine ⟨by rw [e1, Array.getElem?_eq_getElem (by omega)]; rfl, World.frozen?_alloc_new W _ _ j⟩

theorem RowAt.le {w : World} {base size : Nat} {v : Value} {n : Nat} {xs : List Value} (h : RowAt w base size v n xs) : ∀ g, rowBlock v = some g → base ≤ g := by
  obtain ⟨hl, a, cap, rfl, h1, h2, h3⟩ := h
  intro g' hg
  by_cases hc0 : cap = 0
  · subst hc0; cases a <;> simp [rowBlock] at hg
  · obtain ⟨g, o, rfl, hb, _⟩ := h3.resolve_left hc0
    rw [rowBlock_some g o n cap hc0] at hg
    cases hg
    exact hb

theorem tape_setCells (b : Nat) : ∀ (vs : List Value) (o : Nat) (w : World), (w.setCells b o vs).tape = w.tape
  | [], _, _ => rfl
  | v :: r, o, w => (tape_setCells b r (o + 1) (w.setCell ⟨b, o, none⟩ v)).trans rfl
theorem size_setCells (b : Nat) : ∀ (vs : List Value) (o : Nat) (w : World), (w.setCells b o vs).heap.size = w.heap.size
  | [], _, _ => rfl
  | v :: r, o, w => (size_setCells b r (o + 1) (w.setCell ⟨b, o, none⟩ v)).trans (by simp)

theorem Chg.setCells {M : Nat → Prop} {w w' : World} (h : Chg M w w') {b : Nat} (hb : M b ∨ w.heap.size ≤ b) (o : Nat) (vs : List Value) : Chg M w (w'.setCells b o vs) :=
  ⟨(World.os_setCells _ _ _ _).trans h.os, (tape_setCells _ _ _ _).trans h.tape, (World.output_setCells _ _ _ _).trans h.output, by rw [size_setCells]; exact h.size,
    fun k hk hm => (World.heap_setCells_other w' b o vs (Nat.lt_of_lt_of_le hk h.size) (fun e => by subst e; rcases hb with hb | hb; exact hm hb; omega)).trans (h.block k hk hm)⟩

section
variable {P : Program} {w : World}

theorem src_of_sl {size : Nat} {tx e' : TypeId} (hk : P.underlying tx = some (.slice e')) {x : Value} {m : Nat} {news : List Value} (hx : SrcSl w size x m news) : Src P size tx x m news w := by
  obtain ⟨a, c, rfl, hl, h1, hc⟩ := hx
  match a with
  | some ad =>
    refine Src.ofSlice w hk ad m c news hl ?_ h1
    rcases hc with rfl | ⟨ad', e, h⟩
    · intro j u hj
      have : news = [] := List.eq_nil_of_length_eq_zero (by simpa using hl)
      rw [this] at hj; simp at hj
    · cases e; exact h
  | none =>
    have hm : m = 0 := by
      rcases hc with h | ⟨ad, e, _⟩
      · exact h
      · cases e
    subst hm
    have hn : news = [] := List.eq_nil_of_length_eq_zero (by simpa using hl)
    subst hn
    exact Src.ofNil w hk c

/-- The row behind an append: in its own old block, or in a new one. -/
def NewRow (w w' : World) (base size : Nat) (v v' : Value) (n : Nat) (xs : List Value) : Prop :=
  RowAt w' base size v' n xs ∧ Chg (fun g => rowBlock v = some g) w w' ∧ (rowBlock v' = rowBlock v ∨ ∀ g, rowBlock v' = some g → w.heap.size ≤ g)

theorem run_append_row (base : Nat) (t ty e : TypeId) (i : TypeInfo) (z : Value) (size bytes : Nat) (ht : P.underlying t = some (.slice e)) (hi : P.info? e = some i) (hz : i.zero = some z)
    (hsize : i.size = size) (hby : i.bytes = bytes) (hzs : z.cells.size = size) (hsz : 0 < size)
    (v : Value) (n : Nat) (xs : List Value) (hown : RowAt w base size v n xs) (x : Value) (m : Nat) (news : List Value) (hx : SrcSl w size x m news)
    (h63 : n + m ≤ maxLen) (hbytes : (n + m) * bytes ≤ 140737488355328) (hbase : base ≤ w.heap.size) :
    ∃ v' w', (Builtin.append_ #[t, t] ty #[v, x]).run P w = .ok v' w' ∧ NewRow w w' base size v v' (n + m) (xs ++ news) := by
  subst hsize
  subst hby
  have hs := src_of_sl (P := P) (tx := t) ht hx
  have hnl := hs.newsLen
  have hlen : (xs ++ news).length = (n + m) * i.size := by rw [List.length_append, hown.len, hnl, Nat.add_mul]
  obtain ⟨hl, a, cap, rfl, h1, h2, h3⟩ := hown
  have grow : cap < n + m → (Builtin.firstCells i.size n (.slice a n cap)).run P w.drew = .ok xs.toArray w.drew →
      ∃ v' w', (Builtin.append_ #[t, t] ty #[.slice a n cap, x]).run P w = .ok v' w' ∧ NewRow w w' base i.size (.slice a n cap) v' (n + m) (xs ++ news) := by
    intro hg hold
    have hsmall : n + m ≤ 9223372036854775807 := by simp only [maxLen] at h63; omega
    have hrun := run_append_grow_src (P := P) w t t ty e i z ht hi hz a n cap xs hold x m news hs hg (by omega) (growslice_fits hg hbytes)
    have hge := grownCap_ge w (n + m) cap e
    have hcm := grownCap_le_maxLen w (n + m) cap e h63
    have hsize : ((xs ++ news).toArray ++ Builtin.zeroCells z.cells (grownCap w (n + m) cap e - (n + m))).size = grownCap w (n + m) cap e * i.size := by
      rw [Array.size_append, List.size_toArray, hlen, size_zeroCells, hzs, ← Nat.add_mul]
      congr 1
      omega
    refine ⟨_, _, hrun, ⟨hlen, _, _, rfl, hge, hcm, .inr ⟨w.heap.size, 0, rfl, hbase, fun j hj => ?_, fun j hj => ?_⟩⟩, (Chg.of_ext (Ext.refl w).drew).alloc _, .inr (fun g hg => by
      have : rowBlock (.slice (some ⟨w.heap.size, 0, none⟩) (n + m) (grownCap w (n + m) cap e)) = some w.heap.size := rowBlock_some _ _ _ _ (by omega)
      rw [this] at hg; cases hg; exact Nat.le_refl _)⟩
    · rw [Nat.zero_add]
      have e1 : (w.drew.alloc (.cells ((xs ++ news).toArray ++ Builtin.zeroCells z.cells (grownCap w (n + m) cap e - (n + m))) e)).cell? ⟨w.heap.size, j, none⟩ = _ := World.cell?_alloc_new w.drew _ _ j
      rw [e1, Array.getElem?_append_left (by simp only [List.size_toArray]; rw [hlen]; exact hj), List.getElem?_toArray]
    · rw [Nat.zero_add]
      have e1 : (w.drew.alloc (.cells ((xs ++ news).toArray ++ Builtin.zeroCells z.cells (grownCap w (n + m) cap e - (n + m))) e)).cell? ⟨w.heap.size, j, none⟩ = _ := World.cell?_alloc_new w.drew _ _ j
      exact ⟨by rw [e1, Array.getElem?_eq_getElem (by rw [hsize]; exact hj)]; rfl, World.frozen?_alloc_new w.drew _ _ j⟩
  by_cases hc0 : cap = 0
  · subst hc0
    obtain rfl : n = 0 := by omega
    obtain rfl : xs = [] := List.eq_nil_of_length_eq_zero (by simpa using hl)
    by_cases hm : m = 0
    · subst hm
      obtain rfl : news = [] := List.eq_nil_of_length_eq_zero (by simpa using hnl)
      exact ⟨_, _, run_append_nothing (P := P) w t t ty e i ht hi a 0 0 (Nat.le_refl _) x hs, by simpa using RowAt.nil w base i.size a, Chg.refl _ _, .inl rfl⟩
    · refine grow (by omega) ?_
      have := run_firstCells_none (P := P) w.drew i.size 0 0 0
      cases a with
      | none => exact this
      | some ad => exact run_firstCells_some w.drew i.size 0 ad 0 0 [] (by simp) (by simp)
  · obtain ⟨g, o, rfl, hb, hc, ht'⟩ := h3.resolve_left hc0
    by_cases hroom : n + m ≤ cap
    · have hfit : (n + m) * i.size ≤ cap * i.size := Nat.mul_le_mul_right _ hroom
      have eaddr : ∀ j, o + n * i.size + j = o + (n * i.size + j) := fun j => Nat.add_assoc _ _ _
      have hin : ∀ j, j < news.length → n * i.size + j < cap * i.size := fun j hj => by rw [hnl] at hj; rw [Nat.add_mul] at hfit; omega
      have hsome : ∀ j, j < news.length → (w.cell? ⟨g, o + n * i.size + j, none⟩).isSome = true := fun j hj => by rw [eaddr]; exact (ht' _ (hin j hj)).1
      have hrun := run_append_room_src (P := P) w t t ty e i ht hi g o n cap x m news hs hroom hsome (fun j hj => by rw [eaddr]; exact (ht' _ (hin j hj)).2)
      refine ⟨_, _, hrun, ⟨hlen, _, _, rfl, hroom, h2, .inr ⟨g, o, rfl, hb, fun j hj => ?_, fun j hj => ?_⟩⟩, Chg.setCells (M := fun b => rowBlock (Value.slice (some ⟨g, o, none⟩) n cap) = some b) (Chg.refl _ _) (.inl (rowBlock_some g o n cap hc0)) _ _, .inl (by simp [rowBlock])⟩
      · by_cases hj' : j < n * i.size
        · rw [World.cell?_setCells_out g _ _ _ _ (fun _ _ => .inl (by show o + j < o + n * i.size; omega)), hc j hj', List.getElem?_append_left (by omega)]
        · have hjn : j - n * i.size < news.length := by rw [hnl]; rw [Nat.add_mul] at hj; omega
          have := World.cell?_setCells_in g news (o + n * i.size) w hsome (j - n * i.size) hjn
          rw [eaddr, show n * i.size + (j - n * i.size) = j by omega] at this
          rw [this, List.getElem?_append_right (by omega), hl, List.getElem?_eq_getElem hjn]
      · exact ⟨World.isSome_setCells g _ _ _ _ (ht' j hj).1, by rw [World.frozen?_setCells]; exact (ht' j hj).2⟩
    · refine grow (by omega) (run_firstCells_some w.drew i.size n _ n cap xs hl fun j u hu => ?_)
      have hj : j < n * i.size := by rw [← hl]; exact (List.getElem?_eq_some_iff.1 hu).1
      rw [World.cell?_drew, Addr.add_lit, hc j hj, hu]

theorem wp_append_row {o : Oper} {a : Act} {K : Act → World → Prop} {Q : Exit → Act → World → Prop} (s x : Operand) (t : TypeId)
    (ho : o.op = .call { callee := .builtin .append, args := #[s, x], argTypes := #[t, t] })
    (base : Nat) (e : TypeId) (i : TypeInfo) (z : Value) (size bytes : Nat) (ht : P.underlying t = some (.slice e)) (hi : P.info? e = some i) (hz : i.zero = some z)
    (hsize : i.size = size) (hby : i.bytes = bytes) (hzs : z.cells.size = size) (hsz : 0 < size)
    (v : Value) (n : Nat) (xs : List Value) (hs : a.eval s = v) (hown : RowAt w base size v n xs) (m : Nat) (news : List Value) (hx : SrcSl w size (a.eval x) m news)
    (h63 : n + m ≤ maxLen) (hbytes : (n + m) * bytes ≤ 140737488355328) (hbase : base ≤ w.heap.size)
    (h : ∀ v' w', NewRow w w' base size v v' (n + m) (xs ++ news) → K (a.put o.dst v') w') : o.wp P a w K Q := by
  obtain ⟨v', w', hr, h2⟩ := run_append_row (P := P) base t o.type e i z size bytes ht hi hz hsize hby hzs hsz v n xs hown (a.eval x) m news hx h63 hbytes hbase
  unfold Oper.wp execOp
  simp only [ho, resolve, invoke, builtin, Sem.run_bind, Sem.run_pure, Result.andThen_ok, List.map_toArray, List.map_cons, List.map_nil, hs, hr]
  exact h v' w' h2

theorem wpList_append_row {ops : Array Oper} {rest : List Oper} {o : Oper} {a : Act} {Q : Exit → Act → World → Prop} (hgd : o.guard = none) (s x : Operand) (t : TypeId)
    (ho : o.op = .call { callee := .builtin .append, args := #[s, x], argTypes := #[t, t] })
    (base : Nat) (e : TypeId) (i : TypeInfo) (z : Value) (size bytes : Nat) (ht : P.underlying t = some (.slice e)) (hi : P.info? e = some i) (hz : i.zero = some z)
    (hsize : i.size = size) (hby : i.bytes = bytes) (hzs : z.cells.size = size) (hsz : 0 < size)
    (v : Value) (n : Nat) (xs : List Value) (hs : a.eval s = v) (hown : RowAt w base size v n xs) (m : Nat) (news : List Value) (hx : SrcSl w size (a.eval x) m news)
    (h63 : n + m ≤ maxLen) (hbytes : (n + m) * bytes ≤ 140737488355328) (hbase : base ≤ w.heap.size)
    (h : ∀ v' w', NewRow w w' base size v v' (n + m) (xs ++ news) → wpList P ops Q rest (a.put o.dst v') w') : wpList P ops Q (o :: rest) a w :=
  wpList_plain hgd fun _ hK => wp_append_row s x t ho base e i z size bytes ht hi hz hsize hby hzs hsz v n xs hs hown m news hx h63 hbytes hbase fun v' w' h2 => hK _ _ (h v' w' h2)

theorem wpListIn_append_row {F : Fence} {nF : Nat} {ops : Array Oper} {rest : List Oper} {o : Oper} {a : Act} {Q : Exit → Act → World → Prop} (hgd : o.guard = none) (s x : Operand) (t : TypeId)
    (ho : o.op = .call { callee := .builtin .append, args := #[s, x], argTypes := #[t, t] })
    (base : Nat) (e : TypeId) (i : TypeInfo) (z : Value) (size bytes : Nat) (ht : P.underlying t = some (.slice e)) (hi : P.info? e = some i) (hz : i.zero = some z)
    (hsize : i.size = size) (hby : i.bytes = bytes) (hzs : z.cells.size = size) (hsz : 0 < size)
    (v : Value) (n : Nat) (xs : List Value) (hs : a.eval s = v) (hown : RowAt w base size v n xs) (m : Nat) (news : List Value) (hx : SrcSl w size (a.eval x) m news)
    (h63 : n + m ≤ maxLen) (hbytes : (n + m) * bytes ≤ 140737488355328) (hbase : base ≤ w.heap.size)
    (h : ∀ v' w', NewRow w w' base size v v' (n + m) (xs ++ news) → wpListIn F nF P ops Q rest (a.put o.dst v') w') : wpListIn F nF P ops Q (o :: rest) a w := by
  refine wpListIn_plain hgd fun K hK' => ?_
  obtain ⟨v', w', hrun, r1⟩ := run_append_row (P := P) base t o.type e i z size bytes ht hi hz hsize hby hzs hsz v n xs hown (a.eval x) m news hx h63 hbytes hbase
  unfold Oper.wpIn
  refine ⟨?_, ?_⟩
  · simp [Oper.about, ho, resolve, Target.leads, Sem.run_pure]
  · rw [Oper.semAt_plain F _ _ (by rw [ho]; intro c hc'; cases hc')]
    simp only [execOp, ho, resolve, invoke, builtin, Sem.run_bind, Sem.run_pure, Result.andThen_ok, List.map_toArray, List.map_cons, List.map_nil, hs, hrun]
    exact hK' _ _ (h v' w' r1)
end

theorem ext_row {w W W' : World} {base size : Nat} {v v' : Value} {n n' : Nat} {xs xs' : List Value} (h : Ext w W) (ho : RowAt W base size v n xs) (hb : w.heap.size ≤ base) (hr : NewRow W W' base size v v' n' xs') : Ext w W' :=
  Chg.ext_from h hr.2.1 (fun g hg => Nat.le_trans hb (ho.le g hg))

/-- A slice out of a row of the call's own. -/
theorem Sl.of_row {α : Type} {E : Nat → Nat → α → Prop} {sz bytes base : Nat} {v : Value} {l : List α} {w : World} (f : α → List Value) (h : RowAt w base sz v l.length (l.flatMap f)) (hf : ∀ y, (f y).length = sz)
    (hb : l.length * bytes ≤ 140737488355328) (hE : ∀ b o y, base ≤ b → rowBlock v = some b → y ∈ l → (∀ j u, (f y)[j]? = some u → w.cell? ⟨b, o + j, none⟩ = some u) → E b o y) : Sl E sz bytes v l := by
  obtain ⟨hl, a, cap, rfl, h1, h2, h3⟩ := h
  refine ⟨a, cap, rfl, h1, ⟨hb, by unfold maxLen at h2; omega⟩, fun i hi => ?_⟩
  obtain ⟨g, o, rfl, hbg, hc, _⟩ := h3.resolve_left (by omega)
  refine ⟨g, o, rfl, hE _ _ _ hbg (rowBlock_some g o _ _ (by omega)) (List.getElem_mem hi) fun j u hu => ?_⟩
  have hjs : j < sz := by rw [← hf l[i]]; exact (List.getElem?_eq_some_iff.1 hu).1
  have key : ∀ (l : List α) (i : Nat) (hi : i < l.length) (r : Nat), r < sz → (l.flatMap f)[i * sz + r]? = (f l[i])[r]? := by
    intro l
    induction l with
    | nil => intro i hi; simp at hi
    | cons y l ih =>
      intro i hi r hr
      rw [List.flatMap_cons]
      cases i with
      | zero => rw [List.getElem?_append_left (by rw [hf]; omega)]; simp
      | succ i =>
        rw [List.getElem?_append_right (by rw [hf, Nat.add_mul]; omega), hf]
        rw [show (i + 1) * sz + r - sz = i * sz + r by rw [Nat.add_mul]; omega]
        simpa using ih i (by simpa using hi) r hr
  have h5 := key l i hi j hjs
  have hlt : i * sz + j < l.length * sz := by
    have : (i + 1) * sz ≤ l.length * sz := Nat.mul_le_mul_right _ hi
    rw [Nat.add_mul] at this
    omega
  rw [Nat.add_assoc, hc _ hlt, h5, hu]

theorem Ints.of_row {w : World} {base : Nat} {v : Value} {l : List Int} (h : RowAt w base 1 v l.length (l.flatMap intF)) (hb : l.length * 8 ≤ 140737488355328) (hI : ∀ x ∈ l, I64 x) (S : Nat → Prop) (hS : ∀ b, base ≤ b → rowBlock v = some b → S b) : Ints w S v l :=
  Sl.of_row intF h (fun _ => rfl) hb fun b _ y hbb ho hy hc => ⟨hS b hbb ho, hc 0 _ rfl, hI y hy⟩
theorem Ops.of_row {w : World} {base : Nat} {v : Value} {l : List GOp} (h : RowAt w base 2 v l.length (l.flatMap opF)) (hb : l.length * 16 ≤ 140737488355328) (hI : ∀ x ∈ l, I64 x.kind ∧ I64 x.a) (S : Nat → Prop) (hS : ∀ b, base ≤ b → rowBlock v = some b → S b) : Ops w S v l :=
  Sl.of_row opF h (fun _ => rfl) hb fun b _ y hbb ho hy hc => ⟨⟨hS b hbb ho, hc 0 _ rfl, (hI y hy).1⟩, hS b hbb ho, hc 1 _ rfl, (hI y hy).2⟩
theorem Nodes.of_row {w : World} {base : Nat} {v : Value} {l : List GNode} (h : RowAt w base 2 v l.length (l.flatMap nodeF)) (hb : l.length * 16 ≤ 140737488355328) (hI : ∀ x ∈ l, I64 x.kind ∧ I64 x.n) (S : Nat → Prop) (hS : ∀ b, base ≤ b → rowBlock v = some b → S b) : Nodes w S v l :=
  Sl.of_row nodeF h (fun _ => rfl) hb fun b _ y hbb ho hy hc => ⟨⟨hS b hbb ho, hc 0 _ rfl, (hI y hy).1⟩, hS b hbb ho, hc 1 _ rfl, (hI y hy).2⟩

/-- The row behind the first element. -/
theorem RowAt.tail {w : World} {base size cap n : Nat} {a : Option Addr} {xs : List Value} (h : RowAt w base size (.slice a (n + 1) cap) (n + 1) xs) :
    ∃ g o, a = some ⟨g, o, none⟩ ∧ n < cap ∧ cap ≤ maxLen ∧ RowAt w base size (.slice (if cap = 1 then some ⟨g, o, none⟩ else some ⟨g, o + size, none⟩) n (cap - 1)) n (xs.drop size) ∧ (∀ j, j < size → w.cell? ⟨g, o + j, none⟩ = xs[j]?) := by
  obtain ⟨hl, a', cap', e, h1, h2, h3⟩ := h
  simp only [Value.slice.injEq] at e
  obtain ⟨rfl, -, rfl⟩ := e
  obtain ⟨g, o, rfl, hb, hc, ht⟩ := h3.resolve_left (by omega)
  rw [Nat.add_mul, Nat.one_mul] at hl hc
  refine ⟨g, o, rfl, by omega, h2, ⟨by rw [List.length_drop]; omega, _, _, rfl, by omega, by omega, ?_⟩, fun j hj => hc j (by omega)⟩
  by_cases hc1 : cap = 1
  · exact .inl (by omega)
  · rw [if_neg hc1]
    have hcap : (cap - 1) * size + size = cap * size := by rw [← Nat.succ_mul]; congr 1; omega
    refine .inr ⟨g, o + size, rfl, hb, fun j hj => ?_, fun j hj => ?_⟩
    · rw [Nat.add_assoc, hc _ (by omega), List.getElem?_drop]
    · rw [Nat.add_assoc]; exact ht _ (by omega)

/-- One cell of a row is stored. -/
theorem RowAt.store {w : World} {base size n cap g o : Nat} {xs : List Value} (h : RowAt w base size (.slice (some ⟨g, o, none⟩) n cap) n xs) {j : Nat} (hj : j < n * size) (u : Value) :
    RowAt (w.setCell ⟨g, o + j, none⟩ u) base size (.slice (some ⟨g, o, none⟩) n cap) n (xs.set j u) := by
  obtain ⟨hl, a', cap', e, h1, h2, h3⟩ := h
  simp only [Value.slice.injEq] at e
  obtain ⟨rfl, -, rfl⟩ := e
  have hn : 0 < n := by
    rcases Nat.eq_zero_or_pos n with h0 | h0
    · subst h0; simp at hj
    · exact h0
  obtain ⟨g', o', e, hb, hc, ht⟩ := h3.resolve_left (by omega)
  simp only [Option.some.injEq, Addr.mk.injEq] at e
  obtain ⟨rfl, rfl, -⟩ := e
  have hcap : n * size ≤ cap * size := Nat.mul_le_mul_right _ h1
  refine ⟨by simpa using hl, _, cap, rfl, h1, h2, .inr ⟨g, o, rfl, hb, fun i hi => ?_, fun i hi => ?_⟩⟩
  · by_cases e : i = j
    · subst e
      rw [World.cell?_setCell_same' _ _ _ (ht i (by omega)).1, List.getElem?_set_self (by omega)]
    · have hne : (⟨g, o + j, none⟩ : Addr) ≠ ⟨g, o + i, none⟩ := by intro h; simp only [Addr.mk.injEq] at h; omega
      rw [List.getElem?_set_ne (fun h => e h.symm), ← hc i hi]
      exact World.cell?_setCell_other _ _ _ _ hne
  · refine ⟨?_, by rw [World.frozen?_setCell]; exact (ht i hi).2⟩
    have := World.isSome_setCells g [u] (o + j) w ⟨g, o + i, none⟩ (ht i hi).1
    exact this

theorem RowAt.cell {w : World} {base size n cap : Nat} {a : Option Addr} {xs : List Value} (h : RowAt w base size (.slice a n cap) n xs) (hn : 0 < n) : ∃ g o, a = some ⟨g, o, none⟩ ∧ base ≤ g ∧ (∀ j, j < n * size → w.cell? ⟨g, o + j, none⟩ = xs[j]? ∧ w.frozen? ⟨g, o + j, none⟩ = false) := by
  obtain ⟨hl, a', cap', e, h1, h2, h3⟩ := h
  simp only [Value.slice.injEq] at e
  obtain ⟨rfl, -, rfl⟩ := e
  obtain ⟨g, o, rfl, hb, hc, ht⟩ := h3.resolve_left (by omega)
  have hcap : n * size ≤ cap * size := Nat.mul_le_mul_right _ h1
  exact ⟨g, o, rfl, hb, fun j hj => ⟨hc j hj, (ht j (by omega)).2⟩⟩
end Go.Proofs.Ytfajkebkhdcapaa
end
section
/- Rows of numbers of the call's own, known whole; what a right function's ops are. No condition. -/
namespace Go.Proofs.Ytfajkebkhdcapaa
open Go Go.RowKit

set_option maxRecDepth 100000 in
theorem infoI : (Try.prog.info? 3).map (fun i => (i.zero, i.size, i.bytes)) = some (some (.int .i64 0), 1, 8) := by kernel_rfl

def ints (l : List Int) : List Value := l.map (Value.int .i64)
theorem flatMap_intF (l : List Int) : l.flatMap intF = ints l := by
  induction l with
  | nil => rfl
  | cons x l ih => rw [List.flatMap_cons, ih]; rfl
theorem ints_set (l : List Int) (k : Nat) (n : Int) : (ints l).set k (.int .i64 n) = ints (l.set k n) := by simp [ints, List.map_set]
theorem ints_get (l : List Int) (k : Nat) (h : k < l.length) : (ints l)[k]? = some (.int .i64 (l.getD k 0)) := by simp [ints, List.getD, h]
theorem ints_len (l : List Int) : (ints l).length = l.length := by simp [ints]
theorem ints_app (l m : List Int) : ints (l ++ m) = ints l ++ ints m := by simp [ints]

/-- A row of numbers at the head of block g. -/
def IRow (w : World) (base g : Nat) (l : List Int) : Prop := RowAt w base 1 (.slice (some ⟨g, 0, none⟩) l.length l.length) l.length (ints l)

theorem IRow.at {w : World} {base g : Nat} {l : List Int} (h : IRow w base g l) {k : Nat} (hk : k < l.length) : w.cell? ⟨g, k, none⟩ = some (.int .i64 (l.getD k 0)) ∧ w.frozen? ⟨g, k, none⟩ = false ∧ base ≤ g := by
  obtain ⟨g', o, e, hb, hc⟩ := h.cell (by omega)
  simp only [Option.some.injEq, Addr.mk.injEq] at e
  obtain ⟨rfl, rfl, -⟩ := e
  have := hc k (by omega)
  rw [Nat.zero_add, ints_get l k hk] at this
  exact ⟨this.1, this.2, hb⟩
theorem IRow.store {w : World} {base g : Nat} {l : List Int} (h : IRow w base g l) {k : Nat} (hk : k < l.length) (n : Int) : IRow (w.setCell ⟨g, k, none⟩ (.int .i64 n)) base g (l.set k n) := by
  have := RowAt.store h (j := k) (by omega) (.int .i64 n)
  rw [Nat.zero_add, ints_set] at this
  unfold IRow
  rw [List.length_set]
  exact this
theorem IRow.ext {w w' : World} {base g : Nat} {l : List Int} (h : IRow w base g l) (he : Ext w w') : IRow w' base g l := RowAt.ext h he (by decide)
theorem IRow.chg {M : Nat → Prop} {w w' : World} {base g : Nat} {l : List Int} (h : IRow w base g l) (he : Chg M w w') (hM : ¬ M g) : IRow w' base g l :=
  RowAt.chg h he (fun g' hg => by
    simp only [rowBlock] at hg
    split at hg
    · cases hg
    · cases hg; exact hM) (by decide)
theorem chg_one (w : World) (b o : Nat) (u : Value) : Chg (· = b) w (w.setCell ⟨b, o, none⟩ u) := Chg.setCell (M := (· = b)) (p := ⟨b, o, none⟩) (Chg.refl _ _) (.inl rfl) u
/-- Another block is written. -/
theorem IRow.other {w : World} {base g : Nat} {l : List Int} (h : IRow w base g l) {b o : Nat} (hb : b ≠ g) (u : Value) : IRow (w.setCell ⟨b, o, none⟩ u) base g l :=
  h.chg (chg_one w b o u) (fun e => hb e.symm)
theorem IRow.mono {w : World} {base base' g : Nat} {l : List Int} (h : IRow w base g l) (hb : base' ≤ base) : IRow w base' g l := RowAt.mono h hb
theorem IRow.ints {w : World} {base g : Nat} {l : List Int} (h : IRow w base g l) (hb : l.length ≤ 1000000) (hI : ∀ x ∈ l, I64 x) (S : Nat → Prop) (hS : ∀ b, base ≤ b → S b) : Ints w S (.slice (some ⟨g, 0, none⟩) l.length l.length) l :=
  Ints.of_row (base := base) (by rw [flatMap_intF]; exact h) (by omega) hI S (fun b hbb _ => hS b hbb)

theorem RowAt.of_own {w : World} {base : Nat} {e : TypeId} {size : Nat} {v : Value} {n : Nat} {xs : List Value} (h : w.ownsRow base e size v n xs) : RowAt w base size v n xs := by
  refine ⟨h.1, ?_⟩
  rcases h.2 with ⟨rfl, rfl⟩ | ⟨g, cap, cur, rfl, hbg, hg, hnc, hcm, hcs, htake⟩
  · exact ⟨none, 0, rfl, Nat.le_refl _, Nat.zero_le _, .inl rfl⟩
  · refine ⟨_, cap, rfl, hnc, hcm, .inr ⟨g, 0, rfl, hbg, fun j hj => ?_, fun j hj => ?_⟩⟩
    · rw [Nat.zero_add, cell_of_row w g _ cur e (0, 0) hg, ← htake, List.getElem?_take, if_pos hj, Array.getElem?_toList]
    · rw [Nat.zero_add]
      refine ⟨by rw [cell_of_row w g _ cur e (0, 0) hg, Array.getElem?_eq_getElem (by omega)]; rfl, frozen_of_row w g _ cur e hg⟩

theorem ext_none {w w' : World} (hg : w.grownBy w' none) : Ext w w' := (Ext.refl w).grown hg (fun _ h => by cases h)

/-- A right function's ops. -/
structure RightF (p : List GFunc) (f : GFunc) : Prop where
  len : f.code.length ≤ 24
  op : ∀ x ∈ f.code, 0 ≤ x.kind ∧ x.kind ≤ 16 ∧ 0 ≤ x.a ∧ (x.kind = 9 ∨ x.kind = 10 → x.a < f.code.length) ∧ (x.kind = 11 → x.a < p.length) ∧ 0 ≤ takesOf p x ∧ takesOf p x ≤ 4
  locals : 0 ≤ f.args ∧ f.args ≤ f.locals ∧ f.locals ≤ 4

theorem sizedB_facts {f : GFunc} (h : sizedB f = true) : 0 ≤ f.args ∧ f.args ≤ f.locals ∧ f.locals ≤ 4 := by
  unfold sizedB at h
  exact of_decide_eq_true h

theorem funcErr_zero {p : List GFunc} {f : Int} (h : funcErr p f = 0) : 0 ≤ f ∧ f < p.length ∧ ∀ hf : f.toNat < p.length, RightF p p[f.toNat] := by
  unfold funcErr at h
  by_cases hf : 0 ≤ f ∧ f < p.length
  · rw [if_neg (fun k => k hf)] at h
    refine ⟨hf.1, hf.2, fun hl => ?_⟩
    have e : p.getD f.toNat default = p[f.toNat] := by simp [List.getD, List.getElem?_eq_getElem hl]
    rw [e] at h
    by_cases h2 : 24 < p[f.toNat].code.length
    · rw [if_pos h2] at h; omega
    · rw [if_neg h2] at h
      cases h3 : sizedB p[f.toNat] with
      | false => rw [if_pos h3] at h; omega
      | true =>
        rw [if_neg (by rw [h3]; decide)] at h
        refine ⟨by omega, fun x hx => ?_, sizedB_facts h3⟩
        have hops := ok_ops h x hx
        obtain ⟨k0, k1, a0, a1, hs, _⟩ := ok_facts hops
        have h11 : x.kind = 11 → x.a < p.length := fun hk => by
          unfold mostOf at a1
          rw [if_neg (by omega), if_neg (by omega), if_neg (by omega), if_pos (.inl hk)] at a1
          omega
        refine ⟨k0, k1, a0, fun hk => ?_, h11, ?_⟩
        · unfold mostOf at a1
          rw [if_neg (by omega), if_neg (by omega), if_pos hk] at a1
          omega
        · unfold takesOf
          split
          · omega
          · split
            · omega
            · split
              · rename_i hk
                have := sizedB_facts (hs (.inl hk))
                omega
              · omega
  · rw [if_pos hf] at h; omega

theorem RightF.jumps {p : List GFunc} {f : GFunc} (h : RightF p f) : Jumps f.code := by
  intro k hk hj
  have e : f.code.getD k default = f.code[k] := by simp [List.getD, List.getElem?_eq_getElem hk]
  rw [e] at hj ⊢
  obtain ⟨_, _, h3, h4, _⟩ := h.op _ (List.getElem_mem hk)
  have := h4 hj
  omega

theorem RowAt.get_int {w : World} {base cap : Nat} {a : Option Addr} {l : List Int} (h : RowAt w base 1 (.slice a l.length cap) l.length (ints l)) {q : Nat} (hq : q < l.length) :
    ∃ g o, a = some ⟨g, o, none⟩ ∧ base ≤ g ∧ w.cell? ⟨g, o + q, none⟩ = some (.int .i64 (l.getD q 0)) := by
  obtain ⟨g, o, rfl, hb, hc⟩ := h.cell (by omega)
  refine ⟨g, o, rfl, hb, ?_⟩
  rw [(hc q (by omega)).1, ints_get l q hq]

/-- One number in a new block. -/
theorem src_one (w : World) (n : Int) (t : TypeId) : SrcSl (w.alloc (.cells #[.int .i64 n] t)) 1 (.slice (some ⟨w.heap.size, 0, none⟩) 1 1) 1 (ints [n]) := by
  refine ⟨_, 1, rfl, rfl, by simp [ints, Value.oneCell'], .inr ⟨_, rfl, fun j u hj => ?_⟩⟩
  match j, hj with
  | 0, hj =>
    cases hj
    rw [Addr.add_zero']
    exact World.cell?_alloc_new w _ _ 0

def nats (l : List Nat) : List Int := l.map (fun k : Nat => (k : Int))
theorem nats_len (l : List Nat) : (nats l).length = l.length := by simp [nats]
theorem nats_get (l : List Nat) (q : Nat) (h : q < l.length) : (nats l).getD q 0 = (l.getD q 0 : Nat) := by simp [nats, List.getD, h]

/-- The rounds, from a step on. -/
def oneFrom (p : List GFunc) (code : List GOp) (i : Nat) (out : List Int) : Option (List Int) := oneR p code (List.range' i (code.length - i)) out
theorem oneFrom_zero (p : List GFunc) (code : List GOp) (out : List Int) : oneR p code (List.range code.length) out = oneFrom p code 0 out := by unfold oneFrom; rw [List.range_eq_range', Nat.sub_zero]
theorem oneFrom_end (p : List GFunc) (code : List GOp) (out : List Int) : oneFrom p code code.length out = some out := by unfold oneFrom; rw [Nat.sub_self]; rfl
theorem oneFrom_step (p : List GFunc) (code : List GOp) {i : Nat} (out : List Int) (h : i < code.length) : oneFrom p code i out = match one1 p code i out with
    | none => none
    | some o => oneFrom p code (i + 1) o := by
  unfold oneFrom
  rw [show code.length - i = (code.length - (i + 1)) + 1 by omega, List.range'_succ]
  rfl

theorem getD_eq {l : List GOp} {i : Nat} (h : i < l.length) : l.getD i default = l[i] := by simp [List.getD, List.getElem?_eq_getElem h]

theorem one1_neg {p : List GFunc} {code : List GOp} {i : Nat} {out : List Int} (h : out.getD i 0 < 0) : one1 p code i out = some out := by unfold one1; rw [if_pos h]
theorem one1_bad {p : List GFunc} {code : List GOp} {i : Nat} {out : List Int} (hi : i < code.length) (h : ¬ out.getD i 0 < 0) (hb : badB p code[i] (out.getD i 0) = true) : one1 p code i out = none := by
  unfold one1; rw [if_neg h, getD_eq hi, if_pos hb]
theorem one1_put {p : List GFunc} {code : List GOp} {i : Nat} {out : List Int} (hi : i < code.length) (h : ¬ out.getD i 0 < 0) (hb : badB p code[i] (out.getD i 0) = false) : one1 p code i out = putAll code.length (nOf p code[i] (out.getD i 0)) (nx code[i] i) out := by
  unfold one1; rw [if_neg h, getD_eq hi, hb]; rfl

theorem putAll_drop {len : Nat} {n : Int} {is : List Nat} {out : List Int} {q : Nat} (h : q < is.length) : putAll len n (is.drop q) out = if is.getD q 0 = len ∨ (0 ≤ out.getD (is.getD q 0) 0 ∧ out.getD (is.getD q 0) 0 ≠ n) then none else putAll len n (is.drop (q + 1)) (out.set (is.getD q 0) n) := by
  rw [List.drop_eq_getElem_cons h, show is.getD q 0 = is[q] by simp [List.getD, List.getElem?_eq_getElem h]]
  rfl
end Go.Proofs.Ytfajkebkhdcapaa
end
section
/- Contract of the document's heights. -/
set_option maxHeartbeats 4000000
set_option maxRecDepth 100000
namespace Go.Proofs.Ytfajkebkhdcapaa
open Go Go.RowKit

/-- What heights hands back. -/
def HtsRet (B : Nat) (r : Option (List Int)) (e : Ending) (w' : World) : Prop := match r with
  | none => e = .returned (.tuple #[.slice none 0 0, .bool false])
  | some l => ∃ v, e = .returned (.tuple #[v, .bool true]) ∧ Ints w' (B ≤ ·) v l

def fillL (N k : Nat) : List Int := List.replicate k (-1) ++ List.replicate (N - k) 0
theorem fillL_len {N k : Nat} (h : k ≤ N) : (fillL N k).length = N := by simp [fillL]; omega
theorem fillL_set {N k : Nat} (h : k < N) : (fillL N k).set k (-1) = fillL N (k + 1) := by
  unfold fillL
  rw [List.set_append_right _ _ (by simp), List.length_replicate, Nat.sub_self, show N - k = (N - (k + 1)) + 1 by omega, List.replicate_succ, List.set_cons_zero, List.replicate_succ', List.append_assoc]
  rfl
theorem fillL_full (N : Nat) : fillL N N = List.replicate N (-1) := by simp [fillL]


/-- Heights as they may be. -/
def Hgt (N : Nat) (out : List Int) : Prop := out.length = N ∧ ∀ x ∈ out, -1 ≤ x ∧ x ≤ 8
theorem Hgt.get {N : Nat} {out : List Int} (h : Hgt N out) {k : Nat} (hk : k < N) : -1 ≤ out.getD k 0 ∧ out.getD k 0 ≤ 8 := by
  have hk' : k < out.length := by rw [h.1]; exact hk
  have e : out.getD k 0 = out[k] := by simp [List.getD, List.getElem?_eq_getElem hk']
  rw [e]
  exact h.2 _ (List.getElem_mem hk')
theorem Hgt.set {N : Nat} {out : List Int} (h : Hgt N out) (k : Nat) {n : Int} (hn : -1 ≤ n ∧ n ≤ 8) : Hgt N (out.set k n) := by
  refine ⟨by rw [List.length_set]; exact h.1, fun x hx => ?_⟩
  rcases List.mem_or_eq_of_mem_set hx with h' | rfl
  · exact h.2 x h'
  · exact hn
theorem Hgt.i64 {N : Nat} {out : List Int} (h : Hgt N out) : ∀ x ∈ out, I64 x := fun x hx => by have := h.2 x hx; unfold I64; omega
theorem Hgt.out0 (N : Nat) : Hgt N (out0 N) := by
  unfold Hgt Proofs.Ytfajkebkhdcapaa.out0
  refine ⟨by simp, fun x hx => ?_⟩
  rcases List.mem_or_eq_of_mem_set hx with h' | rfl
  · rw [List.eq_of_mem_replicate h']; omega
  · omega

/-- Behind a test: the list of ways on. -/
structure NxtR (w wx : World) (B : Nat) (o2 : List Int) (x : GOp) (v : Value) (is : List Nat) : Prop where
  ext : Ext w wx
  out : IRow wx w.heap.size w.heap.size o2
  row : RowAt wx B 1 v is.length (ints (nats is))
  kind : wx.cell? ⟨B, 0, none⟩ = some (.int .i64 x.kind)

theorem heights_any (p : List GFunc) (v : Value) (S : Nat → Prop) (n : Nat) (w : World) (hp : Funcs w S v p) (hn : n < p.length) (hR : RightF p p[n]) :
    Calls Try.prog 55 #[v, .int .i64 n] w fun e w' => HtsRet w.heap.size (htsR p p[n].code) e w' ∧ Ext w w' := by
  have hp0 := hp
  obtain ⟨b, o, cap, rfl, hcap, hby, _, _, vc, hC, hcode⟩ := hp.get hn
  have hcode0 := hcode
  obtain ⟨ca, ccap, rfl, hcc, hcby, hops⟩ := hcode
  have RA := alloc_keep
  have hlen := hR.len
  obtain ⟨i0, hi0, hz0, hz1, hz2⟩ := info_parts infoI
  generalize hF : p[n] = F at *
  obtain ⟨A, L, C⟩ := F
  simp only at *
  have HP := Lib.hid hp0
  have HO := Lib.hid hops
  have HR := Lib.hid hR
  clear hF hp hp0 hops hcode0 hR
  by_cases hN : C.length = 0
  · obtain rfl : C = [] := List.eq_nil_of_length_eq_zero hN
    have hres : htsR p [] = none := rfl
    rw [hres]
    go_enter Try.func55, Try.ntmps55
    go_wp2_with (first
      | (at_make; refine wpList_make_full _ rfl _ _ 27 rfl w.heap.size 3 i0 (.int .i64 0) 1 Try.underlying27 hi0 hz0 hz1 .i64 .i64 _ _ 0 rfl rfl rfl rfl (by rw [hz2]; omega) (by unfold maxLen; omega) (Nat.le_refl _) ?_; intro w1 hown1 hgr1))
    have hE := ext_none hgr1
    clear hown1 hgr1
    go_loopw [8] (fun i wr => i = .int .i64 0 ∧ Ext w wr) (fun i _ => 0)
    case atStart => exact ⟨rfl, hE⟩
    case round =>
      obtain ⟨rfl, hbr⟩ := hrel
      have HB := Lib.hid hbr
      clear hbr hE
      go_wp2_with fail
      go_ret2
      exact ⟨rfl, HB.out⟩
  · have hN' : 0 < C.length := by omega
    have TN : ((C.length : Int) == 0) = false := beq_eq_false_iff_ne.2 (by omega)
    clear hN
    obtain ⟨R, hRR⟩ : ∃ R, htsR p C = R := ⟨_, rfl⟩
    rw [hRR]
    have HRR := Lib.hid hRR
    clear hRR
    go_enter Try.func55, Try.ntmps55
    go_wp2_with (first
      | (at_make; refine wpList_make_full _ rfl _ _ 27 rfl w.heap.size 3 i0 (.int .i64 0) 1 Try.underlying27 hi0 hz0 hz1 .i64 .i64 _ _ C.length rfl rfl rfl rfl (by rw [hz2]; omega) (by unfold maxLen; omega) (Nat.le_refl _) ?_; intro w1 hown1 hgr1))
    have hE := ext_none hgr1
    have hrow : IRow w1 w.heap.size w.heap.size (fillL C.length 0) := by
      have := RowAt.of_own hown1
      unfold IRow
      rw [fillL_len (Nat.zero_le _)]
      have e : ints (fillL C.length 0) = (madeCells (Value.int IntKind.i64 0).cells (C.length * 1)).toList := by
        rw [show (Value.int IntKind.i64 0).cells = #[.int .i64 0] from rfl, toList_madeCells_one, Nat.mul_one]
        simp [ints, fillL]
      rw [e]
      exact this
    clear hown1 hgr1
    go_loopw [8] (fun i wr => ∃ k : Nat, k ≤ C.length ∧ i = .int .i64 k ∧ Ext w wr ∧ IRow wr w.heap.size w.heap.size (fillL C.length k)) (fun i _ => C.length - (intOf i).toNat)
    case atStart => exact ⟨0, Nat.zero_le _, rfl, hE, hrow⟩
    case round =>
      obtain ⟨k, hk, rfl, hbr, hrw⟩ := hrel
      have HB := Lib.hid hbr
      have HW := Lib.hid hrw
      clear hbr hrw hE hrow
      by_cases hlt : k < C.length
      · obtain ⟨c0, f0, _⟩ := HW.out.at (k := k) (by rw [fillL_len hk]; exact hlt)
        go_wp2_with fail
        go_roundw
        case rel => exact ⟨k + 1, by omega, by go_num, HB.out.setCell (Nat.le_refl _) _, by
          have := HW.out.store (k := k) (by rw [fillL_len hk]; exact hlt) (-1)
          rwa [fillL_set hlt] at this⟩
        case measure => simp [intOf]; omega
      · obtain rfl : k = C.length := by omega
        rw [fillL_full] at HW
        obtain ⟨c0, f0, _⟩ := HW.out.at (k := 0) (by simpa using hN')
        clear hlt hk
        go_wp2_with fail
        have hE2 := HB.out.setCell (p := ⟨w.heap.size, 0, none⟩) (Nat.le_refl _) (.int .i64 0)
        have hr2 := HW.out.store (k := 0) (by simpa using hN') 0
        generalize wr.setCell ⟨w.heap.size, 0, none⟩ (.int .i64 0) = w2 at *
        clear HB HW c0 f0
        have HF : Hid (rounds p C (C.length + 1) (out0 C.length) = htsR p C) := by
          unfold Hid htsR
          rw [if_neg (fun h => by rw [h] at hN'; exact absurd hN' (by simp))]
        rw [HRR.out] at HF
        go_loopw [9] (fun r wr => ∃ k : Nat, k ≤ C.length + 1 ∧ r = .int .i64 k ∧ ∃ out, Hgt C.length out ∧ Ext w wr ∧ IRow wr w.heap.size w.heap.size out ∧ rounds p C (C.length + 1 - k) out = R) (fun r _ => C.length + 1 - (intOf r).toNat)
        case atStart => exact ⟨0, Nat.zero_le _, rfl, _, Hgt.out0 _, hE2, hr2, HF.out⟩
        case round =>
          obtain ⟨k, hk, rfl, out, hgt, hbr, hrw, hres⟩ := hrel
          have HG := Lib.hid hgt
          have HB := Lib.hid hbr
          have HW := Lib.hid hrw
          have HX := Lib.hid hres
          clear hgt hbr hrw hres hE2 hr2 HF
          by_cases hlt : k < C.length + 1
          · rename World => wr1
            have HY : Hid ((match oneFrom p C 0 out with | none => none | some o => rounds p C (C.length - k) o) = R) := by
              have := HX.out
              rw [show C.length + 1 - k = (C.length - k) + 1 by omega] at this
              rw [← oneFrom_zero]
              exact this
            have hle : k ≤ C.length := by omega
            have TLE : decide (k ≤ C.length) = true := by simp; omega
            go_wp2_with fail
            go_loopw [10] (fun j wr => ∃ i : Nat, i ≤ C.length ∧ j = .int .i64 i ∧ ∃ o2, Hgt C.length o2 ∧ Ext w wr ∧ IRow wr w.heap.size w.heap.size o2 ∧ oneFrom p C i o2 = oneFrom p C 0 out) (fun j _ => C.length - (intOf j).toNat)
            case atStart => exact ⟨0, Nat.zero_le _, rfl, _, HG.out, HB.out, HW.out, rfl⟩
            case round =>
              obtain ⟨i, hi, rfl, o2, hgt2, hbr2, hrw2, hres2⟩ := hrel
              have HG2 := Lib.hid hgt2
              have HB2 := Lib.hid hbr2
              have HW2 := Lib.hid hrw2
              have HX2 := Lib.hid hres2
              clear hgt2 hbr2 hrw2 hres2 HB HW HG HX
              by_cases hil : i < C.length
              · obtain ⟨c0, f0, _⟩ := HW2.out.at (k := i) (by rw [HG2.out.1]; exact hil)
                obtain ⟨hh, hhd⟩ : ∃ x, o2.getD i 0 = x := ⟨_, rfl⟩
                rw [hhd] at c0
                have HH := Lib.hid hhd
                clear hhd
                by_cases h0 : hh < 0
                · go_wp2_with fail
                  go_roundw
                  case rel => exact ⟨i + 1, by omega, by go_num, o2, HG2.out, HB2.out, HW2.out, by rw [← HX2.out, oneFrom_step p C o2 hil, one1_neg (by rw [HH.out]; exact h0)]⟩
                  case measure => simp [intOf]; omega
                · obtain ⟨cb, co, rfl, ⟨_, x0, _⟩, _, x1, _⟩ := HO.out i hil
                  have hxop := HR.out.op _ (List.getElem_mem hil)
                  have hg8 := HG2.out.get hil
                  rw [HH.out] at hg8
                  have HBAD := Lib.hid (one1_bad (p := p) (code := C) (out := o2) hil (by rw [HH.out]; exact h0))
                  have HPUTY := Lib.hid (one1_put (p := p) (code := C) (out := o2) hil (by rw [HH.out]; exact h0))
                  have HLEX := Lib.hid (nx_le (code := C) HR.out.jumps hil)
                  rw [HH.out] at HBAD HPUTY
                  rw [getD_eq hil] at HLEX
                  generalize C[i] = x at *
                  obtain ⟨k0, k1, a0, aj, ac, tk0, tk1⟩ := hxop
                  have HA : Hid (x.kind = 11 → 0 ≤ x.a ∧ x.a < p.length) := fun h => ⟨a0, ac h⟩
                  have lv0 := leavesOf_nonneg x
                  have lv1 : leavesOf x ≤ 1 := by unfold leavesOf; split <;> omega
                  have HNONE : Hid (one1 p C i o2 = none → R = none) := fun h => by
                    have := HY.out
                    rw [← HX2.out, oneFrom_step p C o2 hil, h] at this
                    exact this.symm
                  have HSOME : Hid (∀ o3, one1 p C i o2 = some o3 → oneFrom p C (i + 1) o3 = oneFrom p C 0 out) := fun o3 h => by
                    rw [← HX2.out, oneFrom_step p C o2 hil, h]
                  have HQ0 : Hid (Ext w (wr.alloc (.cells #[.int .i64 x.kind, .int .i64 x.a] 61))) := HB2.out.alloc _
                  have hsz0 := HB2.out.size
                  have hsz7 := lt_of_cell c0
                  have y0 := Ext.cell HB2.out x0
                  have y1 := Ext.cell HB2.out x1
                  clear aj ac
                  go_wp2_with fail
                  by_cases hb1 : hh < takesOf p x
                  · have hn := HNONE.out (HBAD.out (by unfold badB; simp [hb1]))
                    clear HNONE HSOME HY HRR HX2 HPUTY HBAD
                    subst hn
                    refine wp_region_ext (by kernel_rfl) (by kernel_rfl) ?_
                    repeat (first
                      | go_big_quiet_skip
                      | (go_big_quiet_want
                         unfold Oper.quiet
                         apply Exists.intro
                         refine ⟨fun w' hw' => ?_, ?_⟩
                         focus
                           have hcq := Ext.keep hw'
                           go_simp
                           first
                             | with_reducible rfl
                             | ((go_at_call 87; refine (takes_any p _ S x _ (Funcs.stays (Ext.stays (HQ0.out.trans hw')) HP.out) k0 k1 HA.out).mono ?_; rintro e w1 ⟨rfl, hb⟩; exact ⟨rfl, hw'.trans hb⟩))
                         (try dsimp only [Act.put])
                         (try simp only [List.setIfInBounds_toArray, List.set_cons_succ, List.set_cons_zero])
                         go_big_quiet_on))
                    refine wpQuiet_nil ?_
                    intro wq hq
                    go_wp2_with fail
                    go_ret2
                    exact ⟨rfl, HQ0.out.trans hq⟩
                  · have hb2 : takesOf p x ≤ hh := by omega
                    refine wp_region_ext (by kernel_rfl) (by kernel_rfl) ?_
                    repeat (first
                      | go_big_quiet_skip
                      | (go_big_quiet_want
                         unfold Oper.quiet
                         apply Exists.intro
                         refine ⟨fun w' hw' => ?_, ?_⟩
                         focus
                           have hcq := Ext.keep hw'
                           go_simp
                           first
                             | with_reducible rfl
                             | ((go_at_call 87; refine (takes_any p _ S x _ (Funcs.stays (Ext.stays (HQ0.out.trans hw')) HP.out) k0 k1 HA.out).mono ?_; rintro e w1 ⟨rfl, hb⟩; exact ⟨rfl, hw'.trans hb⟩))
                         (try dsimp only [Act.put])
                         (try simp only [List.setIfInBounds_toArray, List.set_cons_succ, List.set_cons_zero])
                         go_big_quiet_on))
                    refine wpQuiet_nil ?_
                    intro wq hq
                    have xk1 := Ext.cell hq (cell_alloc0 wr x.kind x.a 61)
                    have xa1 := Ext.cell hq (cell_alloc1 wr x.kind x.a 61)
                    have c1 := Ext.cell hq (Ext.cell ((Ext.refl wr).alloc (.cells #[.int .i64 x.kind, .int .i64 x.a] 61)) c0)
                    have HQ1 := Lib.hid (HQ0.out.trans hq)
                    have HQ4 := Lib.hid (((Ext.refl wr).alloc _).trans hq)
                    rename World => wq1
                    clear hq
                    obtain ⟨nn, hnn⟩ : ∃ nn, hh - takesOf p x + leavesOf x = nn := ⟨_, rfl⟩
                    have HW1 : Hid (IntKind.i64.wrap (hh - takesOf p x) = hh - takesOf p x) := IntWalk.i64_in _ (by omega)
                    have HW2' : Hid (IntKind.i64.wrap (hh - takesOf p x + leavesOf x) = nn) := by unfold Hid; rw [IntWalk.i64_in _ (by omega)]; exact hnn
                    have HNN := Lib.hid hnn
                    clear hnn
                    go_wp2_with fail
                    have hw1 := HW1.out
                    have hw2 := HW2'.out
                    refine wp_region_ext (by kernel_rfl) (by kernel_rfl) ?_
                    repeat (first
                      | go_big_quiet_skip
                      | (go_big_quiet_want
                         unfold Oper.quiet
                         apply Exists.intro
                         refine ⟨fun w' hw' => ?_, ?_⟩
                         focus
                           have hcq := Ext.keep hw'
                           go_simp
                           first
                             | with_reducible rfl
                             | ((go_at_call 87; refine (takes_any p _ S x _ (Funcs.stays (Ext.stays (HQ1.out.trans hw')) HP.out) k0 k1 HA.out).mono ?_; rintro e w1 ⟨rfl, hb⟩; exact ⟨rfl, hw'.trans hb⟩)) | ((go_at_call 88; refine (leaves_any x _ k0 k1).mono ?_; rintro e w1 ⟨rfl, hb⟩; exact ⟨rfl, hw'.trans hb⟩))
                         (try dsimp only [Act.put])
                         (try simp only [List.setIfInBounds_toArray, List.set_cons_succ, List.set_cons_zero])
                         go_big_quiet_on))
                    refine wpQuiet_nil ?_
                    intro wq hq
                    clear hw1 hw2 HW1 HW2'
                    have hnn := HNN.out
                    rename World => wq2
                    have HQ2 := Lib.hid (HQ1.out.trans hq)
                    have HQ3 := Lib.hid (HQ4.out.trans hq)
                    have xk := Ext.cell hq xk1
                    have xa := Ext.cell hq xa1
                    have hsz2 := HQ3.out.size
                    have HBB : Hid (badB p x hh = (decide (8 < nn) || (decide (x.kind = 12) && decide (0 < nn)))) := by
                      unfold Hid badB
                      rw [show nOf p x hh = nn from hnn, decide_eq_false (by omega : ¬ hh < takesOf p x), Bool.false_or]
                    have HPUTZ : Hid (badB p x hh = false → one1 p C i o2 = putAll C.length nn (nx x i) o2) := by
                      have := HPUTY.out
                      rwa [show nOf p x hh = nn from hnn] at this
                    have nn0 : 0 ≤ nn := by omega
                    clear hq xk1 xa1 c1 c0 hnn HPUTY hb1
                    by_cases hb3 : 8 < nn
                    · have hn := HNONE.out (HBAD.out (by rw [HBB.out]; simp [hb3]))
                      clear HNONE HSOME HY HRR HX2 HPUTZ HBAD HBB
                      subst hn
                      go_wp2_with fail
                      go_ret2
                      exact ⟨rfl, HQ2.out⟩
                    · have nn8 : nn ≤ 8 := by omega
                      by_cases hb4 : x.kind = 12 ∧ 0 < nn
                      · obtain ⟨hk, hp0⟩ := hb4
                        have T12 : (x.kind == 12) = true := by simp [hk]
                        have TZ : (nn != 0) = true := bne_iff_ne.2 (by omega)
                        have hn := HNONE.out (HBAD.out (by rw [HBB.out]; simp [hk, hp0]))
                        clear HNONE HSOME HY HRR HX2 HPUTZ HBAD HBB hk
                        subst hn
                        go_wp2_with fail
                        go_ret2
                        exact ⟨rfl, HQ2.out⟩
                      · have HPUTX := Lib.hid (HPUTZ.out (by
                          rw [HBB.out]
                          simp only [Bool.or_eq_false_iff, Bool.and_eq_false_iff, decide_eq_false_iff_not]
                          refine ⟨hb3, ?_⟩
                          by_cases hk : x.kind = 12
                          · right; exact fun h => hb4 ⟨hk, h⟩
                          · left; exact hk))
                        have HB12 : Hid (x.kind = 12 → ¬ 0 < nn) := fun hk h => hb4 ⟨hk, h⟩
                        have TN8 : decide (8 < nn) = false := by simp; omega
                        clear hb3 hb4 HBB HPUTZ HBAD
                        go_upto_region 21 with fail
                        go_cut [87] (fun v wx => v = .bool false ∧ wq2 = wx)
                        case first =>
                          clear HPUTX HLEX HNONE HSOME HY HRR HX2
                          by_cases hk : x.kind = 12
                          · have T12 : (x.kind == 12) = true := by simp [hk]
                            have TZ : (nn != 0) = false := by rw [bne_eq_false_iff_eq]; have := HB12.out hk; omega
                            clear hk
                            go_wp2_with fail
                            go_meet
                            exact ⟨rfl, rfl⟩
                          · have T12 : (x.kind == 12) = false := by simp [hk]
                            clear hk
                            go_wp2_with fail
                            go_meet
                            exact ⟨rfl, rfl⟩
                        case rest =>
                          obtain ⟨rfl, rfl⟩ := hcut
                          go_upto_region 24 with fail
                          go_cut [95] (fun v wx => v = .bool (decide (x.kind = 9 ∨ x.kind = 10)) ∧ wq2 = wx)
                          case first =>
                            clear HPUTX HLEX HNONE HSOME HY HRR HX2
                            by_cases hk : x.kind = 9
                            · have T9 : (x.kind == 9) = true := by simp [hk]
                              have TT : decide (x.kind = 9 ∨ x.kind = 10) = true := by simp [hk]
                              clear hk
                              go_wp2_with fail
                              go_meet
                              exact ⟨by rw [TT], rfl⟩
                            · have T9 : (x.kind == 9) = false := by simp [hk]
                              by_cases hk' : x.kind = 10
                              · have T10 : (x.kind == 10) = true := by simp [hk']
                                have TT : decide (x.kind = 9 ∨ x.kind = 10) = true := by simp [hk']
                                clear hk hk'
                                go_wp2_with fail
                                go_meet
                                exact ⟨by rw [TT], rfl⟩
                              · have T10 : (x.kind == 10) = false := by simp [hk']
                                have TT : decide (x.kind = 9 ∨ x.kind = 10) = false := by simp [hk, hk']
                                clear hk hk'
                                go_wp2_with fail
                                go_meet
                                exact ⟨by rw [TT], rfl⟩
                          case rest =>
                            obtain ⟨rfl, rfl⟩ := hcut
                            go_upto_if 95 with fail
                            go_cut [13] (fun v wx => NxtR w wx wr.heap.size o2 x v (if x.kind = 9 ∨ x.kind = 10 then [x.a.toNat] else []))
                            case first =>
                              clear HPUTX HLEX HNONE HSOME HY HRR HX2
                              by_cases hJ : x.kind = 9 ∨ x.kind = 10
                              · have TT : decide (x.kind = 9 ∨ x.kind = 10) = true := by simp [hJ]
                                have HJ := Lib.hid hJ
                                clear hJ
                                go_wp2_with (first
                                  | (at_builtin; refine wpList_append_row rfl _ _ 27 rfl wr.heap.size 3 i0 (.int .i64 0) 1 8 Try.underlying27 hi0 hz0 hz1 hz2 rfl (by decide) _ _ _ rfl (RowAt.nil _ wr.heap.size 1 none) _ _ (src_one _ _ _) (by unfold maxLen; omega) (by omega) (by simp; omega) ?_; intro v1 Wv1 rv1; replace rv1 : NewRow _ Wv1 wr.heap.size 1 (.slice none 0 0) v1 _ _ := rv1))
                                go_meet
                                rw [if_pos HJ.out]
                                have hl4 : RowAt Wv1 wr.heap.size 1 v1 1 (ints (nats [x.a.toNat])) := by have := rv1.1; rwa [show nats [x.a.toNat] = [x.a] by simp [nats]; omega]
                                exact ⟨ext_row (HQ2.out.alloc _) (RowAt.nil _ wr.heap.size 1 none) (by omega) rv1, IRow.chg ((HW2.out.ext HQ3.out).ext ((Ext.refl wq2).alloc _)) rv1.2.1 (by simp [rowBlock]), hl4, rv1.2.1.cell (b := wr.heap.size) (o := 0) (by simp [rowBlock]) (Ext.cell ((Ext.refl wq2).alloc _) xk)⟩
                              · have TT : decide (x.kind = 9 ∨ x.kind = 10) = false := by simp [hJ]
                                have HJ := Lib.hid hJ
                                clear hJ
                                go_wp2_with fail
                                go_meet
                                rw [if_neg HJ.out]
                                exact ⟨HQ2.out, HW2.out.ext HQ3.out, RowAt.nil _ _ _ _, xk⟩
                            case rest =>
                              obtain ⟨he5, hw5, hl5, hk5⟩ := hcut
                              have HE5 := Lib.hid he5
                              have HW5 := Lib.hid hw5
                              have HL5 := Lib.hid hl5
                              clear he5 hw5 hl5 xk xa hsz2 HQ3 HQ2 HQ1 HQ4 HB12 RA
                              rename World => w5
                              have hk5' := hk5
                              go_upto_region 26 with fail
                              go_cut [108] (fun v wx => v = .bool (decide (¬ (x.kind = 9 ∨ x.kind = 12))) ∧ w5 = wx)
                              case first =>
                                clear HPUTX HLEX HNONE HSOME HY HRR HX2
                                by_cases hk : x.kind = 9
                                · have T9 : (x.kind != 9) = false := by simp [hk]
                                  have TT : decide (¬ (x.kind = 9 ∨ x.kind = 12)) = false := by simp [hk]
                                  clear hk
                                  go_wp2_with fail
                                  go_meet
                                  exact ⟨by rw [TT], rfl⟩
                                · have T9 : (x.kind != 9) = true := by simp [hk]
                                  by_cases hk' : x.kind = 12
                                  · have T12 : (x.kind != 12) = false := by simp [hk']
                                    have TT : decide (¬ (x.kind = 9 ∨ x.kind = 12)) = false := by simp [hk']
                                    clear hk hk'
                                    go_wp2_with fail
                                    go_meet
                                    exact ⟨by rw [TT], rfl⟩
                                  · have T12 : (x.kind != 12) = true := by simp [hk']
                                    have TT : decide (¬ (x.kind = 9 ∨ x.kind = 12)) = true := by simp [hk, hk']
                                    clear hk hk'
                                    go_wp2_with fail
                                    go_meet
                                    exact ⟨by rw [TT], rfl⟩
                              case rest =>
                                obtain ⟨rfl, rfl⟩ := hcut
                                go_upto_if 108 with fail
                                go_cut [13] (fun v wx => Ext w wx ∧ IRow wx w.heap.size w.heap.size o2 ∧ RowAt wx wr.heap.size 1 v (nx x i).length (ints (nats (nx x i))))
                                case first =>
                                  obtain ⟨L5, hL5⟩ : ∃ L5, (if x.kind = 9 ∨ x.kind = 10 then [x.a.toNat] else []) = L5 := ⟨_, rfl⟩
                                  rw [hL5] at HL5
                                  have HNX : Hid (nx x i = L5 ++ if x.kind = 9 ∨ x.kind = 12 then [] else [i + 1]) := by unfold Hid nx; rw [hL5]
                                  have hlen5 : L5.length ≤ 1 := by rw [← hL5]; split <;> simp
                                  clear hL5
                                  obtain ⟨a13, cap13, rfl, hs1, hs2⟩ := HL5.out.shape
                                  have hsz5 := HE5.out.size
                                  have hsz6 := lt_of_cell hk5
                                  clear HPUTX HLEX HNONE HSOME HY HRR HX2
                                  by_cases hJ : x.kind = 9 ∨ x.kind = 12
                                  · have TT : decide (¬ (x.kind = 9 ∨ x.kind = 12)) = false := by simp [hJ]
                                    have HJ := Lib.hid hJ
                                    clear hJ
                                    go_wp2_with fail
                                    go_meet
                                    rw [HNX.out, if_pos HJ.out, List.append_nil]
                                    exact ⟨HE5.out, HW5.out, HL5.out⟩
                                  · have TT : decide (¬ (x.kind = 9 ∨ x.kind = 12)) = true := by simp [hJ]
                                    have HJ := Lib.hid hJ
                                    clear hJ
                                    go_wp2_with (first
                                      | (at_builtin; refine wpList_append_row rfl _ _ 27 rfl wr.heap.size 3 i0 (.int .i64 0) 1 8 Try.underlying27 hi0 hz0 hz1 hz2 rfl (by decide) _ _ _ rfl (RowAt.ext HL5.out ((Ext.refl w5).alloc _) (by decide)) _ _ (src_one _ _ _) (by unfold maxLen; omega) (by omega) (by simp; omega) ?_; intro v2 Wv2 rv2))
                                    go_meet
                                    rw [HNX.out, if_neg HJ.out]
                                    have hl4 : RowAt Wv2 wr.heap.size 1 v2 (L5 ++ [i + 1]).length (ints (nats (L5 ++ [i + 1]))) := by
                                      have := rv2.1
                                      rwa [show nats (L5 ++ [i + 1]) = nats L5 ++ [(i : Int) + 1] by simp [nats], ints_app, List.length_append]
                                    exact ⟨ext_row (HE5.out.alloc _) (RowAt.ext HL5.out ((Ext.refl w5).alloc _) (by decide)) (by omega) rv2, IRow.chg (HW5.out.ext ((Ext.refl w5).alloc _)) rv2.2.1 (fun h => by have := HL5.out.le _ h; omega), hl4⟩
                                case rest =>
                                  obtain ⟨he6, hw6, hl6⟩ := hcut
                                  have HE6 := Lib.hid he6
                                  have HW6 := Lib.hid hw6
                                  clear he6 hw6 HE5 HW5 HL5 hk5
                                  rename World => w6
                                  obtain ⟨a13, cap13, rfl, hs1, hs2⟩ := hl6.shape
                                  have HL6 := Lib.hid hl6
                                  clear hl6
                                  have HPUT := Lib.hid HPUTX.out.symm
                                  obtain ⟨L6, hL6⟩ : ∃ L6, nx x i = L6 := ⟨_, rfl⟩
                                  rw [hL6] at HL6 HLEX hs1 HPUT ⊢
                                  have hL2 : L6.length ≤ 2 := by rw [← hL6]; unfold nx; (repeat' split) <;> simp
                                  clear hL6 HPUTX hk5'
                                  go_wp2_with fail
                                  go_loopw [14] (fun q wy => ∃ m : Nat, m ≤ L6.length ∧ q = .int .i64 m ∧ ∃ o3, Hgt C.length o3 ∧ Ext w wy ∧ IRow wy w.heap.size w.heap.size o3 ∧ RowAt wy wr.heap.size 1 (.slice a13 L6.length cap13) L6.length (ints (nats L6)) ∧ putAll C.length nn (L6.drop m) o3 = one1 p C i o2) (fun q _ => L6.length - (intOf q).toNat)
                                  case atStart => exact ⟨0, Nat.zero_le _, rfl, _, HG2.out, HE6.out, HW6.out, HL6.out, HPUT.out⟩
                                  case round =>
                                    obtain ⟨m, hm, rfl, o3, hgt3, hb3, hrw3, hl3, hres3⟩ := hrel
                                    have HG3 := Lib.hid hgt3
                                    have HB3 := Lib.hid hb3
                                    have HW3 := Lib.hid hrw3
                                    have HL3 := Lib.hid hl3
                                    have HX3 := Lib.hid hres3
                                    clear hgt3 hb3 hrw3 hl3 hres3
                                    by_cases hml : m < L6.length
                                    · have hl3' := HL3.out
                                      rw [← nats_len] at hl3'
                                      obtain ⟨g, oo, rfl, hg, cj⟩ := RowAt.get_int (l := nats L6) hl3' (q := m) (by rw [nats_len]; exact hml)
                                      clear hl3'
                                      have HD := Lib.hid (putAll_drop (len := C.length) (n := nn) (is := L6) (out := o3) (q := m) hml)
                                      have hjl : L6.getD m 0 ≤ C.length := HLEX.out _ (by rw [show L6.getD m 0 = L6[m] by rw [List.getD_eq_getElem?_getD, List.getElem?_eq_getElem hml]; rfl]; exact List.getElem_mem hml)
                                      rw [nats_get _ _ hml] at cj
                                      generalize L6.getD m 0 = j at *
                                      by_cases hjN : j = C.length
                                      · have TJ : ((j : Int) == (C.length : Int)) = true := beq_iff_eq.2 (by omega)
                                        have hn := HNONE.out (by rw [← HX3.out, HD.out, if_pos (.inl hjN)])
                                        clear HNONE HSOME HY HRR HX2 HPUT HX3 HD hjN
                                        subst hn
                                        go_wp2_with fail
                                        go_ret2
                                        exact ⟨rfl, HB3.out⟩
                                      · have TJ : ((j : Int) == (C.length : Int)) = false := beq_eq_false_iff_ne.2 (by omega)
                                        have hjlt : j < C.length := by omega
                                        obtain ⟨cc, ff, _⟩ := HW3.out.at (k := j) (by rw [HG3.out.1]; omega)
                                        obtain ⟨hj3, hj3d⟩ : ∃ z, o3.getD j 0 = z := ⟨_, rfl⟩
                                        rw [hj3d] at cc
                                        have HJ := Lib.hid hj3d
                                        clear hj3d
                                        by_cases hbad : 0 ≤ hj3 ∧ hj3 ≠ nn
                                        · obtain ⟨hb0, hb1⟩ := hbad
                                          have TB : (hj3 != nn) = true := bne_iff_ne.2 hb1
                                          have hn := HNONE.out (by rw [← HX3.out, HD.out, HJ.out, if_pos (.inr ⟨hb0, hb1⟩)])
                                          clear HNONE HSOME HY HRR HX2 HPUT HX3 HD hb1 hjN
                                          subst hn
                                          go_wp2_with fail
                                          go_ret2
                                          exact ⟨rfl, HB3.out⟩
                                        · have HNX : Hid (putAll C.length nn (L6.drop (m + 1)) (o3.set j nn) = one1 p C i o2) := by
                                            unfold Hid
                                            rw [← HX3.out, HD.out, HJ.out, if_neg (fun h => h.elim (fun h => hjN h) (fun h => hbad h))]
                                          have hst := HW3.out.store (k := j) (by rw [HG3.out.1]; omega) nn
                                          have hls := RowAt.chg HL3.out (chg_one _ w.heap.size j (.int .i64 nn)) (fun g' hg' e => by
                                            simp only [rowBlock] at hg'
                                            split at hg'
                                            · cases hg'
                                            · cases hg'; omega) (by decide)
                                          have HS1 := Lib.hid hst
                                          have HS2 := Lib.hid hls
                                          clear hst hls
                                          by_cases hneg : hj3 < 0
                                          · clear hbad hjN
                                            go_wp2_with fail
                                            go_roundw
                                            case rel => exact ⟨m + 1, by omega, by go_num, _, HG3.out.set j (by omega), HB3.out.setCell (Nat.le_refl _) _, HS1.out, HS2.out, HNX.out⟩
                                            case measure => simp [intOf]; omega
                                          · have TB : (hj3 != nn) = false := by
                                              rw [bne_eq_false_iff_eq]
                                              exact Decidable.byContradiction fun h => hbad ⟨by omega, h⟩
                                            have hpos : 0 ≤ hj3 := by omega
                                            clear hbad hneg hjN
                                            go_wp2_with fail
                                            go_roundw
                                            case rel => exact ⟨m + 1, by omega, by go_num, _, HG3.out.set j (by omega), HB3.out.setCell (Nat.le_refl _) _, HS1.out, HS2.out, HNX.out⟩
                                            case measure => simp [intOf]; omega
                                    · obtain rfl : m = L6.length := by omega
                                      have HZ : Hid (oneFrom p C (i + 1) o3 = oneFrom p C 0 out) := HSOME.out o3 (by have := HX3.out; rw [List.drop_length] at this; exact this.symm)
                                      clear hml
                                      go_wp2_with fail
                                      go_roundw
                                      case rel => exact ⟨i + 1, by omega, by go_num, o3, HG3.out, HB3.out, HW3.out, HZ.out⟩
                                      case measure => simp [intOf]; omega
              · obtain rfl : i = C.length := by omega
                clear hil
                go_wp2_with fail
                go_roundw
                case rel => exact ⟨k + 1, by omega, by go_num, o2, HG2.out, HB2.out, HW2.out, by
                  rw [← HY.out, ← HX2.out, oneFrom_end, show C.length + 1 - (k + 1) = C.length - k by omega]⟩
                case measure => simp [intOf]; omega
          · obtain rfl : k = C.length + 1 := by omega
            have HY : Hid (R = some out) := by
              have := HX.out
              rw [Nat.sub_self] at this
              exact this.symm
            have hy := HY.out
            clear HY HRR HX
            subst hy
            clear hlt
            go_wp2_with fail
            go_ret2
            refine ⟨⟨_, rfl, ?_⟩, HB.out⟩
            have h := HW.out.ints (by rw [HG.out.1]; omega) HG.out.i64 (w.heap.size ≤ ·) (fun _ h => h)
            rw [HG.out.1] at h
            exact h
end Go.Proofs.Ytfajkebkhdcapaa
end
