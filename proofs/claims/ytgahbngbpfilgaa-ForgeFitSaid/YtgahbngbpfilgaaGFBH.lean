/- Merged texts: contracts and plain facts, one part behind another; each part begins with what it says. -/
import Derived.Test.YtgahbngbpfilgaaGFAH
import Derived.Test.YtgahbngbpfilgaaGFAN
import Derived.Test.YtgahbngbpfilgaaGFAW
import Derived.Test.YtgahbngbpfilgaaGFBE
section
/- Contract of the document's HeightsOf. -/
set_option maxHeartbeats 2000000
set_option maxRecDepth 100000
namespace Go.Proofs.Ytgahbngbpfilgaa
open Go Go.RowKit

end Go.Proofs.Ytgahbngbpfilgaa
end
section
/- Heights by their values; programs and rows of numbers in new memory. -/
set_option maxHeartbeats 4000000
set_option maxRecDepth 100000
namespace Go.Proofs.Ytgahbngbpfilgaa
open Go Go.RowKit

theorem heights_val (p : List GFunc) (v : Value) (S : Nat → Prop) (f : Int) (w : World) (hp : Funcs w S v p) (r : Int) (l : List Int) (n : Nat) (hr : hErr p f = r) (hl : hList p f = l) (hn : l.length = n) :
    Calls Try.prog 29 #[v, .int .i64 f] w fun e w' => (∃ a cap, e = .returned (.tuple #[.slice a n cap, .int .i64 r]) ∧ Ints w' (fun _ => True) (.slice a n cap) l) ∧ Ext w w' := by
  subst hn
  refine (flowHeights_any p v S f w hp).mono fun e w' ⟨⟨v, he, hi⟩, hb⟩ => ⟨?_, hb⟩
  rw [hl] at hi
  rw [hr] at he
  have hi2 := hi
  obtain ⟨a, cap, rfl, _, _, _⟩ := hi
  exact ⟨a, cap, he, Ints.stays (Stays.widen (fun _ _ => trivial)) hi2⟩

end Go.Proofs.Ytgahbngbpfilgaa
end
section
/- A program's functions as a row of cells, copied, and with their ops struck. -/
set_option maxHeartbeats 1000000
namespace Go.Proofs.Ytgahbngbpfilgaa
open Go Go.RowKit

/-- The cells of functions whose ops' slices are vs. -/
def rowF : List GFunc → List Value → List Value
  | [], _ => []
  | _, [] => []
  | F :: p, v :: vs => [.int .i64 F.args, .int .i64 F.locals, v] ++ rowF p vs

theorem rowF_len : ∀ {p : List GFunc} {vs : List Value}, vs.length = p.length → (rowF p vs).length = p.length * 3
  | [], _, _ => by simp [rowF]
  | _ :: p, v :: vs, h => by
    have := rowF_len (p := p) (vs := vs) (by simpa using h)
    simp only [rowF, List.length_append, List.length_cons, List.length_nil, this]
    omega
theorem rowF_at : ∀ {p : List GFunc} {vs : List Value} {k : Nat} (hk : k < p.length) (hv : k < vs.length), (rowF p vs)[k * 3]? = some (.int .i64 p[k].args) ∧ (rowF p vs)[k * 3 + 1]? = some (.int .i64 p[k].locals) ∧ (rowF p vs)[k * 3 + 2]? = some vs[k]
  | F :: p, v :: vs, 0, _, _ => by simp [rowF]
  | F :: p, v :: vs, k + 1, hk, hv => by
    obtain ⟨h1, h2, h3⟩ := rowF_at (p := p) (vs := vs) (k := k) (by simpa using hk) (by simpa using hv)
    simp only [rowF, List.getElem_cons_succ]
    have e : ∀ m, ([Value.int .i64 F.args, .int .i64 F.locals, v] ++ rowF p vs)[(k + 1) * 3 + m]? = (rowF p vs)[k * 3 + m]? := fun m => by
      rw [List.getElem?_append_right (by simp; omega)]
      congr 1
      simp
      omega
    exact ⟨(e 0).trans h1, (e 1).trans h2, (e 2).trans h3⟩
theorem rowF_mem : ∀ {p : List GFunc} {vs : List Value} {u : Value}, u ∈ rowF p vs → (∃ n, u = .int .i64 n) ∨ u ∈ vs
  | F :: p, v :: vs, u, h => by
    simp only [rowF, List.cons_append, List.nil_append, List.mem_cons] at h
    rcases h with rfl | rfl | rfl | h
    · exact .inl ⟨_, rfl⟩
    · exact .inl ⟨_, rfl⟩
    · exact .inr (by simp)
    · exact (rowF_mem h).imp id (fun h => List.mem_cons_of_mem _ h)

theorem funcs_vs {w : World} {S : Nat → Prop} {v : Value} {p : List GFunc} (h : Funcs w S v p) : ∃ vs : List Value, vs.length = p.length ∧ SrcSl w 3 v p.length (rowF p vs) ∧ (∀ k (hk : k < p.length) (hv : k < vs.length), Ops w S vs[k] p[k].code) ∧ ∀ F ∈ p, I64 F.args ∧ I64 F.locals := by
  obtain ⟨a, cap, rfl, h1, h2, h3⟩ := h
  have hex : ∀ k : Fin p.length, ∃ u, ∃ b o, a = some ⟨b, o, none⟩ ∧ w.cell? ⟨b, o + k.1 * 3 + 2, none⟩ = some u ∧ Ops w S u p[k.1].code ∧ w.cell? ⟨b, o + k.1 * 3, none⟩ = some (.int .i64 p[k.1].args) ∧ w.cell? ⟨b, o + k.1 * 3 + 1, none⟩ = some (.int .i64 p[k.1].locals) ∧ I64 p[k.1].args ∧ I64 p[k.1].locals := fun k => by
    obtain ⟨b, o, ha, ⟨_, c0, i0⟩, ⟨_, c1, i1⟩, u, hu, ho⟩ := h3 k.1 k.2
    exact ⟨u, b, o, ha, hu, ho, c0, c1, i0, i1⟩
  obtain ⟨g, hg⟩ := Classical.axiomOfChoice hex
  refine ⟨List.ofFn g, by simp, ⟨a, cap, rfl, ?_, ?_, ?_⟩, fun k hk hv => ?_, fun F hF => ?_⟩
  · rw [rowF_len (by simp)]
  · intro u hu
    rcases rowF_mem hu with ⟨n, rfl⟩ | hu
    · rfl
    · obtain ⟨k, rfl⟩ := (List.mem_ofFn).1 hu
      obtain ⟨b, o, _, _, ho, _⟩ := hg k
      obtain ⟨a', c', e, _⟩ := ho
      rw [e]
      rfl
  · by_cases h0 : p.length = 0
    · exact .inl h0
    · obtain ⟨b, o, ha, _⟩ := hg ⟨0, by omega⟩
      refine .inr ⟨⟨b, o, none⟩, ha, fun j u hj => ?_⟩
      have hj3 : j < p.length * 3 := by
        have := (List.getElem?_eq_some_iff.1 hj).1
        rwa [rowF_len (by simp)] at this
      have hk : j / 3 < p.length := by omega
      obtain ⟨b', o', ha', c2, _, c0, c1, _, _⟩ := hg ⟨j / 3, hk⟩
      rw [ha] at ha'
      simp only [Option.some.injEq, Addr.mk.injEq] at ha'
      obtain ⟨rfl, rfl, -⟩ := ha'
      obtain ⟨r0, r1, r2⟩ := rowF_at (p := p) (vs := List.ofFn g) hk (by simpa using hk)
      rw [Addr.add_lit]
      have hr : j % 3 = 0 ∨ j % 3 = 1 ∨ j % 3 = 2 := by omega
      rcases hr with hr | hr | hr
      · have e : j = j / 3 * 3 := by omega
        rw [e] at hj ⊢
        rw [r0] at hj
        rw [← hj, ← c0]
      · have e : j = j / 3 * 3 + 1 := by omega
        rw [e] at hj ⊢
        rw [r1] at hj
        rw [← hj, ← c1, Nat.add_assoc]
      · have e : j = j / 3 * 3 + 2 := by omega
        rw [e] at hj ⊢
        rw [r2, List.getElem_ofFn] at hj
        rw [← hj, ← c2, Nat.add_assoc]
  · obtain ⟨_, _, _, _, ho, _⟩ := hg ⟨k, hk⟩
    rw [List.getElem_ofFn]
    exact ho
  · obtain ⟨k, hk, rfl⟩ := List.getElem_of_mem hF
    obtain ⟨_, _, _, _, _, _, _, i0, i1⟩ := hg ⟨k, hk⟩
    exact ⟨i0, i1⟩

theorem SrcSl.ext {w w' : World} {size : Nat} {x : Value} {m : Nat} {news : List Value} (h : SrcSl w size x m news) (he : Ext w w') : SrcSl w' size x m news := by
  obtain ⟨a, c, rfl, h1, h2, h3⟩ := h
  refine ⟨a, c, rfl, h1, h2, h3.imp id fun ⟨ad, ha, hc⟩ => ⟨ad, ha, fun j u hj => ?_⟩⟩
  have hcj := hc j u hj
  rw [Ext.keep he _ (by rw [hcj]; rfl)]
  exact hcj

end Go.Proofs.Ytgahbngbpfilgaa
end
section
/- A program with one function more behind it, as a row of the call's own. No condition. -/
set_option maxHeartbeats 4000000
set_option maxRecDepth 100000
namespace Go.Proofs.Ytgahbngbpfilgaa
open Go Go.RowKit

set_option maxRecDepth 100000 in
theorem infoU : (Try.prog.info? 43).map (fun i => (i.zero, i.size, i.bytes)) = some (some (.agg #[.int .i64 0, .int .i64 0, .slice none 0 0]), 3, 40) := by kernel_rfl

/-- A row of functions as a program. -/
theorem funcs_of_rowF {w : World} {base : Nat} {v : Value} {p : List GFunc} {us : List Value} (hl : us.length = p.length) (h : RowAt w base 3 v p.length (rowF p us)) (h5 : p.length * 40 ≤ 140737488355328)
    (hI : ∀ F ∈ p, I64 F.args ∧ I64 F.locals) (hs : ∀ k (hk : k < p.length) (hv : k < us.length), Ops w (fun _ => True) us[k] p[k].code) : Funcs w (fun _ => True) v p := by
  obtain ⟨a, cap, rfl, h1, h2⟩ := h.shape
  refine ⟨a, cap, rfl, h1, ⟨h5, by have := h2; simp only [maxLen] at this; omega⟩, fun k hk => ?_⟩
  have hku : k < us.length := by omega
  obtain ⟨g, o, rfl, _, hc⟩ := h.cell (by omega)
  obtain ⟨r0, r1, r2⟩ := rowF_at hk hku
  have i := hI _ (List.getElem_mem hk)
  refine ⟨g, o, rfl, ⟨trivial, ?_, i.1⟩, ⟨trivial, ?_, i.2⟩, us[k], ?_, hs k hk hku⟩
  · rw [(hc (k * 3) (by omega)).1, r0]
  · rw [Nat.add_assoc, (hc (k * 3 + 1) (by omega)).1, r1]
  · rw [Nat.add_assoc, (hc (k * 3 + 2) (by omega)).1, r2]
theorem rowF_snoc : ∀ {p : List GFunc} {vs : List Value}, vs.length = p.length → ∀ (F : GFunc) (u : Value), rowF (p ++ [F]) (vs ++ [u]) = rowF p vs ++ [.int .i64 F.args, .int .i64 F.locals, u]
  | [], [], _, F, u => by simp [rowF]
  | G :: p, v :: vs, h, F, u => by
    have := rowF_snoc (p := p) (vs := vs) (by simpa using h) F u
    simp [rowF, this]
theorem funcs_snoc {w : World} {base : Nat} {v : Value} {p : List GFunc} {F : GFunc} {vs : List Value} {u : Value} {n : Nat} (hl : vs.length = p.length) (hn : p.length + 1 = n) (hn5 : n ≤ 1000) (h : RowAt w base 3 v n (rowF p vs ++ [.int .i64 F.args, .int .i64 F.locals, u]))
    (hI : ∀ F ∈ p, I64 F.args ∧ I64 F.locals) (hF : I64 F.args ∧ I64 F.locals) (hs : ∀ k (hk : k < p.length) (hv : k < vs.length), Ops w (fun _ => True) vs[k] p[k].code) (hu : Ops w (fun _ => True) u F.code) : Funcs w (fun _ => True) v (p ++ [F]) := by
  have hpl : (p ++ [F]).length = n := by rw [List.length_append, List.length_singleton, hn]
  refine funcs_of_rowF (base := base) (us := vs ++ [u]) (by simp [hl]) (by rw [hpl, rowF_snoc hl]; exact h) (by rw [hpl]; omega) (fun G hG => ?_) (fun k hk hv => ?_)
  · rcases List.mem_append.1 hG with h1 | h1
    · exact hI G h1
    · rw [List.mem_singleton.1 h1]; exact hF
  · by_cases hkp : k < p.length
    · rw [List.getElem_append_left (show k < vs.length by omega), List.getElem_append_left hkp]
      exact hs k hkp (by omega)
    · have e : k = p.length := by omega
      subst e
      have e1 : (vs ++ [u])[p.length]'hv = u := by
        have : p.length = vs.length := hl.symm
        simp [this]
      have e2 : (p ++ [F])[p.length]'hk = F := by simp
      rw [e1, e2]
      exact hu
theorem NewRow.on3 {W0 W W' : World} {v v' : Value} {n m : Nat} {xs ys : List Value} (hE : Ext W0 W) (hr : RowAt W W0.heap.size 3 v m ys) (hn : NewRow W W' W0.heap.size 3 v v' n xs) : RowAt W' W0.heap.size 3 v' n xs ∧ Ext W0 W' :=
  ⟨hn.1, Chg.ext_from hE hn.2.1 (fun q e => hr.le q e)⟩
theorem NewRow.keep3 {W W' : World} {B b n : Nat} {v v' : Value} {xs news : List Value} (hn : NewRow W W' B 3 v v' n xs) (hs : SrcSl W 3 (.slice (some ⟨b, 0, none⟩) 1 1) 1 news) (hb : b < W.heap.size) (hv : rowBlock v ≠ some b) :
    SrcSl W' 3 (.slice (some ⟨b, 0, none⟩) 1 1) 1 news ∧ b < W'.heap.size ∧ rowBlock v' ≠ some b := by
  obtain ⟨_, hch, hg⟩ := hn
  refine ⟨?_, by have := hch.size; omega, ?_⟩
  · obtain ⟨a, c, e, h1, h2, h3⟩ := hs
    simp only [Value.slice.injEq] at e
    obtain ⟨rfl, _, rfl⟩ := e
    refine ⟨_, _, rfl, h1, h2, h3.imp id fun ⟨ad, e, h⟩ => ⟨ad, e, fun j u hj => ?_⟩⟩
    have h0 := h j u hj
    simp only [Option.some.injEq] at e
    subst e
    have ea : (⟨b, 0, none⟩ : Addr).add j = ⟨b, 0 + j, none⟩ := Addr.add_lit _ _ _
    rw [ea] at h0 ⊢
    exact hch.cell hv h0
  · intro e
    rcases hg with h | h
    · exact hv (h ▸ e)
    · have := h b e; omega
/-- One function in a new block. -/
theorem src_fun (w : World) (A L : Int) (s : Value) (hs : s.oneCell' = true) (t : TypeId) : SrcSl (w.alloc (.cells #[.int .i64 A, .int .i64 L, s] t)) 3 (.slice (some ⟨w.heap.size, 0, none⟩) 1 1) 1 [.int .i64 A, .int .i64 L, s] := by
  refine ⟨_, 1, rfl, rfl, fun u hu => (by
    simp only [List.mem_cons, List.not_mem_nil, or_false] at hu
    rcases hu with rfl | rfl | rfl
    · rfl
    · rfl
    · exact hs), .inr ⟨_, rfl, fun j u hj => ?_⟩⟩
  match j, hj with
  | 0, hj => cases hj; rw [Addr.add_zero']; exact World.cell?_alloc_new w _ _ 0
  | 1, hj => cases hj; exact World.cell?_alloc_new w _ _ 1
  | 2, hj => cases hj; exact World.cell?_alloc_new w _ _ 2
end Go.Proofs.Ytgahbngbpfilgaa
end
