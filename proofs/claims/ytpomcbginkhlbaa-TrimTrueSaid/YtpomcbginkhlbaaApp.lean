/- append to a slice of the call's own from whatever slice; slices read out of a row of the call's own. No condition. -/
import Derived.Test.YtpomcbginkhlbaaChg
import Derived.Laws.AppendOwn
import Derived.Laws.OwnMore
import Derived.Tactics
namespace Go.Proofs.Ytpomcbginkhlbaa
open Go Go.RowKit

/-- What a slice's cells are. -/
def SrcSl (w : World) (size : Nat) (x : Value) (m : Nat) (news : List Value) : Prop :=
  ∃ a c, x = .slice a m c ∧ news.length = m * size ∧ (∀ u ∈ news, u.oneCell' = true) ∧ (m = 0 ∨ ∃ ad, a = some ad ∧ ∀ j u, news[j]? = some u → w.cell? (ad.add j) = some u)

section
variable {P : Program} {w : World}

theorem run_append_none (base : Nat) (t ty e : TypeId) (i : TypeInfo) (size : Nat) (ht : P.underlying t = some (.slice e)) (hi : P.info? e = some i) (hsize : i.size = size)
    (v : Value) (n : Nat) (xs : List Value) (hown : w.ownsRow base e size v n xs) (c : Nat) : (Builtin.append_ #[t, t] ty #[v, .slice none 0 c]).run P w = .ok v w := by
  subst hsize
  rcases hown.2 with ⟨rfl, rfl⟩ | ⟨g, cap, cur, rfl, hbg, hg, hnc, hcm, hcs, htake⟩
  · simp [Builtin.append_, run_underlying ht, sizeOf, typeInfo, hi, Builtin.lenOf, Builtin.firstCells]
  · simp [Builtin.append_, run_underlying ht, sizeOf, typeInfo, hi, Builtin.lenOf, Builtin.firstCells, loadCells, hnc, storeCells]

theorem run_append_sl (base : Nat) (t ty e : TypeId) (i : TypeInfo) (z : Value) (size bytes : Nat) (ht : P.underlying t = some (.slice e)) (hi : P.info? e = some i) (hz : i.zero = some z)
    (hsize : i.size = size) (hby : i.bytes = bytes) (hzs : z.cells.size = size) (hsz : 0 < size)
    (v : Value) (n : Nat) (xs : List Value) (hown : w.ownsRow base e size v n xs) (x : Value) (m : Nat) (news : List Value) (hx : SrcSl w size x m news)
    (h63 : n + m ≤ maxLen) (hbytes : (n + m) * bytes ≤ 140737488355328) (hbase : base ≤ w.heap.size) :
    ∃ v' w', (Builtin.append_ #[t, t] ty #[v, x]).run P w = .ok v' w' ∧ w'.ownsRow base e size v' (n + m) (xs ++ news) ∧ w.grownBy w' v.ownBlock ∧
      (v' = .slice none 0 0 ↔ v = .slice none 0 0 ∧ m = 0) := by
  obtain ⟨a, c, rfl, hl, h1, hc⟩ := hx
  match a with
  | some ad =>
    refine run_append_own w base t ty e i z size bytes ht hi hz hsize hby hzs hsz v n xs hown ad m c news hl ?_ h1 h63 hbytes hbase
    rcases hc with rfl | ⟨ad', e, h⟩
    · intro j u hj
      have : news = [] := List.eq_nil_of_length_eq_zero (by simpa using hl)
      rw [this] at hj; simp at hj
    · cases e; exact h
  | none =>
    have hm : m = 0 := by
      rcases hc with h | ⟨ad, e, _⟩
      · exact h
      · cases e
    subst hm
    have hn : news = [] := List.eq_nil_of_length_eq_zero (by simpa using hl)
    subst hn
    exact ⟨v, w, run_append_none base t ty e i size ht hi hsize v n xs hown c, by simpa using hown, ⟨rfl, rfl, rfl, Nat.le_refl _, fun _ _ _ => rfl⟩, by simp⟩

theorem wp_append_sl {o : Oper} {a : Act} {K : Act → World → Prop} {Q : Exit → Act → World → Prop} (s x : Operand) (t : TypeId)
    (ho : o.op = .call { callee := .builtin .append, args := #[s, x], argTypes := #[t, t] })
    (base : Nat) (e : TypeId) (i : TypeInfo) (z : Value) (size bytes : Nat) (ht : P.underlying t = some (.slice e)) (hi : P.info? e = some i) (hz : i.zero = some z)
    (hsize : i.size = size) (hby : i.bytes = bytes) (hzs : z.cells.size = size) (hsz : 0 < size)
    (v : Value) (n : Nat) (xs : List Value) (hs : a.eval s = v) (hown : w.ownsRow base e size v n xs) (m : Nat) (news : List Value) (hx : SrcSl w size (a.eval x) m news)
    (h63 : n + m ≤ maxLen) (hbytes : (n + m) * bytes ≤ 140737488355328) (hbase : base ≤ w.heap.size)
    (h : ∀ v' w', w'.ownsRow base e size v' (n + m) (xs ++ news) → w.grownBy w' v.ownBlock → (v' = .slice none 0 0 ↔ v = .slice none 0 0 ∧ m = 0) → K (a.put o.dst v') w') : o.wp P a w K Q := by
  obtain ⟨v', w', hr, h2, h3, h4⟩ := run_append_sl (P := P) base t o.type e i z size bytes ht hi hz hsize hby hzs hsz v n xs hown (a.eval x) m news hx h63 hbytes hbase
  unfold Oper.wp execOp
  simp only [ho, resolve, invoke, builtin, Sem.run_bind, Sem.run_pure, Result.andThen_ok, List.map_toArray, List.map_cons, List.map_nil, hs, hr]
  exact h v' w' h2 h3 h4

theorem wpList_append_sl {ops : Array Oper} {rest : List Oper} {o : Oper} {a : Act} {Q : Exit → Act → World → Prop} (hgd : o.guard = none) (s x : Operand) (t : TypeId)
    (ho : o.op = .call { callee := .builtin .append, args := #[s, x], argTypes := #[t, t] })
    (base : Nat) (e : TypeId) (i : TypeInfo) (z : Value) (size bytes : Nat) (ht : P.underlying t = some (.slice e)) (hi : P.info? e = some i) (hz : i.zero = some z)
    (hsize : i.size = size) (hby : i.bytes = bytes) (hzs : z.cells.size = size) (hsz : 0 < size)
    (v : Value) (n : Nat) (xs : List Value) (hs : a.eval s = v) (hown : w.ownsRow base e size v n xs) (m : Nat) (news : List Value) (hx : SrcSl w size (a.eval x) m news)
    (h63 : n + m ≤ maxLen) (hbytes : (n + m) * bytes ≤ 140737488355328) (hbase : base ≤ w.heap.size)
    (h : ∀ v' w', w'.ownsRow base e size v' (n + m) (xs ++ news) → w.grownBy w' v.ownBlock → (v' = .slice none 0 0 ↔ v = .slice none 0 0 ∧ m = 0) → wpList P ops Q rest (a.put o.dst v') w') : wpList P ops Q (o :: rest) a w :=
  wpList_plain hgd fun _ hK => wp_append_sl s x t ho base e i z size bytes ht hi hz hsize hby hzs hsz v n xs hs hown m news hx h63 hbytes hbase fun v' w' h2 h3 h4 => hK _ _ (h v' w' h2 h3 h4)
end

/-- What a read slice's cells are. -/
theorem Sl.src {α : Type} {E : Nat → Nat → α → Prop} {sz bytes : Nat} {v : Value} {l : List α} {w : World} (f : α → List Value) (h : Sl E sz bytes v l) (hf : ∀ y, (f y).length = sz)
    (h1 : ∀ y, ∀ u ∈ f y, u.oneCell' = true) (hE : ∀ b o y, E b o y → ∀ j u, (f y)[j]? = some u → w.cell? ⟨b, o + j, none⟩ = some u) : SrcSl w sz v l.length (l.flatMap f) := by
  have hlen : ∀ l : List α, (l.flatMap f).length = l.length * sz := by
    intro l
    induction l with
    | nil => simp
    | cons y l ih => simp [ih, hf, Nat.add_mul]; omega
  obtain ⟨a, cap, rfl, h2, h3, h4⟩ := h
  refine ⟨a, cap, rfl, hlen l, ?_, ?_⟩
  · intro u hu
    obtain ⟨y, _, hy⟩ := List.mem_flatMap.1 hu
    exact h1 y u hy
  · by_cases h0 : l.length = 0
    · exact .inl h0
    · right
      obtain ⟨b, o, rfl, _⟩ := h4 0 (by omega)
      refine ⟨_, rfl, fun j u hj => ?_⟩
      have hjl : j < l.length * sz := by
        rw [← hlen l]
        exact (List.getElem?_eq_some_iff.1 hj).1
      have key : ∀ (l : List α) (j : Nat) (u : Value), (l.flatMap f)[j]? = some u → ∃ i r, ∃ h : i < l.length, j = i * sz + r ∧ (f l[i])[r]? = some u := by
        intro l
        induction l with
        | nil => intro j u h; simp at h
        | cons y l ih =>
          intro j u h
          rw [List.flatMap_cons] at h
          by_cases hj : j < sz
          · rw [List.getElem?_append_left (by rw [hf]; exact hj)] at h
            exact ⟨0, j, by simp, by simp, h⟩
          · rw [List.getElem?_append_right (by rw [hf]; omega), hf] at h
            obtain ⟨i, r, hi, e, hu⟩ := ih _ _ h
            exact ⟨i + 1, r, by simpa using hi, by rw [Nat.add_mul]; omega, by simpa using hu⟩
      obtain ⟨i, r, hi, rfl, hu⟩ := key l j u hj
      obtain ⟨b', o', e, hE'⟩ := h4 i hi
      simp only [Option.some.injEq, Addr.mk.injEq] at e
      obtain ⟨rfl, rfl, _⟩ := e
      have := hE _ _ _ hE' r u hu
      rw [Addr.add_lit, ← Nat.add_assoc]
      exact this

/-- A slice out of a row of the call's own. -/
theorem Sl.of_own {α : Type} {E : Nat → Nat → α → Prop} {sz bytes base : Nat} {e : TypeId} {v : Value} {l : List α} {w : World} (f : α → List Value) (h : w.ownsRow base e sz v l.length (l.flatMap f)) (hf : ∀ y, (f y).length = sz)
    (hb : l.length * bytes ≤ 140737488355328) (hE : ∀ b o y, base ≤ b → y ∈ l → (∀ j u, (f y)[j]? = some u → w.cell? ⟨b, o + j, none⟩ = some u) → E b o y) : Sl E sz bytes v l := by
  rcases h.2 with ⟨rfl, h0⟩ | ⟨g, cap, cur, rfl, hbg, hg, hnc, hcm, hcs, htake⟩
  · obtain rfl : l = [] := List.eq_nil_of_length_eq_zero h0
    exact Sl.nil _ _ _
  · refine ⟨_, cap, rfl, hnc, ⟨hb, by unfold maxLen at hcm; omega⟩, fun i hi => ⟨g, 0, rfl, ?_⟩⟩
    refine hE _ _ _ hbg (List.getElem_mem hi) fun j u hu => ?_
    have hjs : j < sz := by rw [← hf l[i]]; exact (List.getElem?_eq_some_iff.1 hu).1
    have key : ∀ (l : List α) (i : Nat) (hi : i < l.length) (r : Nat), r < sz → (l.flatMap f)[i * sz + r]? = (f l[i])[r]? := by
      intro l
      induction l with
      | nil => intro i hi; simp at hi
      | cons y l ih =>
        intro i hi r hr
        rw [List.flatMap_cons]
        cases i with
        | zero => rw [List.getElem?_append_left (by rw [hf]; omega)]; simp
        | succ i =>
          rw [List.getElem?_append_right (by rw [hf, Nat.add_mul]; omega), hf]
          rw [show (i + 1) * sz + r - sz = i * sz + r by rw [Nat.add_mul]; omega]
          simpa using ih i (by simpa using hi) r hr
    have h5 := key l i hi j hjs
    rw [hu, ← htake] at h5
    rw [cell_of_row w g _ cur e (0, 0) hg, ← Array.getElem?_toList, Nat.zero_add]
    rw [List.getElem?_take] at h5
    split at h5
    · exact h5
    · cases h5

def opF (x : GOp) : List Value := [.int .i64 x.kind, .int .i64 x.a]
def nodeF (x : GNode) : List Value := [.int .i64 x.kind, .int .i64 x.n]
def intF (n : Int) : List Value := [.int .i64 n]

theorem Ints.src {w : World} {S : Nat → Prop} {v : Value} {l : List Int} (h : Ints w S v l) : SrcSl w 1 v l.length (l.flatMap intF) :=
  Sl.src intF h (fun _ => rfl) (by simp [intF, Value.oneCell']) (fun b o y hE j u hu => by
    match j, hu with
    | 0, hu => cases hu; exact hE.2.1)
theorem Ops.src {w : World} {S : Nat → Prop} {v : Value} {l : List GOp} (h : Ops w S v l) : SrcSl w 2 v l.length (l.flatMap opF) :=
  Sl.src opF h (fun _ => rfl) (by simp [opF, Value.oneCell']) (fun b o y hE j u hu => by
    match j, hu with
    | 0, hu => cases hu; exact hE.1.2.1
    | 1, hu => cases hu; exact hE.2.2.1)
theorem Nodes.src {w : World} {S : Nat → Prop} {v : Value} {l : List GNode} (h : Nodes w S v l) : SrcSl w 2 v l.length (l.flatMap nodeF) :=
  Sl.src nodeF h (fun _ => rfl) (by simp [nodeF, Value.oneCell']) (fun b o y hE j u hu => by
    match j, hu with
    | 0, hu => cases hu; exact hE.1.2.1
    | 1, hu => cases hu; exact hE.2.2.1)

theorem Ints.of_own {w : World} {base : Nat} {e : TypeId} {v : Value} {l : List Int} (h : w.ownsRow base e 1 v l.length (l.flatMap intF)) (hb : l.length * 8 ≤ 140737488355328) (hI : ∀ x ∈ l, I64 x) (S : Nat → Prop) (hS : ∀ b, base ≤ b → S b) : Ints w S v l :=
  Sl.of_own intF h (fun _ => rfl) hb fun b _ y hbb hy hc => ⟨hS b hbb, hc 0 _ rfl, hI y hy⟩
theorem Ops.of_own {w : World} {base : Nat} {e : TypeId} {v : Value} {l : List GOp} (h : w.ownsRow base e 2 v l.length (l.flatMap opF)) (hb : l.length * 16 ≤ 140737488355328) (hI : ∀ x ∈ l, I64 x.kind ∧ I64 x.a) (S : Nat → Prop) (hS : ∀ b, base ≤ b → S b) : Ops w S v l :=
  Sl.of_own opF h (fun _ => rfl) hb fun b _ y hbb hy hc => ⟨⟨hS b hbb, hc 0 _ rfl, (hI y hy).1⟩, hS b hbb, hc 1 _ rfl, (hI y hy).2⟩
theorem Nodes.of_own {w : World} {base : Nat} {e : TypeId} {v : Value} {l : List GNode} (h : w.ownsRow base e 2 v l.length (l.flatMap nodeF)) (hb : l.length * 16 ≤ 140737488355328) (hI : ∀ x ∈ l, I64 x.kind ∧ I64 x.n) (S : Nat → Prop) (hS : ∀ b, base ≤ b → S b) : Nodes w S v l :=
  Sl.of_own nodeF h (fun _ => rfl) hb fun b _ y hbb hy hc => ⟨⟨hS b hbb, hc 0 _ rfl, (hI y hy).1⟩, hS b hbb, hc 1 _ rfl, (hI y hy).2⟩

theorem Ints.i64 {w : World} {S : Nat → Prop} {v : Value} {l : List Int} (h : Ints w S v l) : ∀ x ∈ l, I64 x := by
  intro x hx
  obtain ⟨i, hi, rfl⟩ := List.getElem_of_mem hx
  obtain ⟨a, cap, rfl, _, _, h4⟩ := h
  obtain ⟨b, o, _, hE⟩ := h4 i hi
  exact hE.2.2
theorem Ops.i64 {w : World} {S : Nat → Prop} {v : Value} {l : List GOp} (h : Ops w S v l) : ∀ x ∈ l, I64 x.kind ∧ I64 x.a := by
  intro x hx
  obtain ⟨i, hi, rfl⟩ := List.getElem_of_mem hx
  obtain ⟨a, cap, rfl, _, _, h4⟩ := h
  obtain ⟨b, o, _, hE⟩ := h4 i hi
  exact ⟨hE.1.2.2, hE.2.2.2⟩
theorem Nodes.i64 {w : World} {S : Nat → Prop} {v : Value} {l : List GNode} (h : Nodes w S v l) : ∀ x ∈ l, I64 x.kind ∧ I64 x.n := by
  intro x hx
  obtain ⟨i, hi, rfl⟩ := List.getElem_of_mem hx
  obtain ⟨a, cap, rfl, _, _, h4⟩ := h
  obtain ⟨b, o, _, hE⟩ := h4 i hi
  exact ⟨hE.1.2.2, hE.2.2.2⟩
theorem Sl.bd {α : Type} {E : Nat → Nat → α → Prop} {sz bytes : Nat} {v : Value} {l : List α} (h : Sl E sz bytes v l) : l.length * bytes ≤ 140737488355328 := by
  obtain ⟨a, cap, rfl, _, h3, _⟩ := h
  exact h3.1
end Go.Proofs.Ytpomcbginkhlbaa
