/- A program's functions as a row of cells, copied, and with their ops struck. -/
import Derived.Test.YtpiechbjponicaaFlowT
set_option maxHeartbeats 1000000
namespace Go.Proofs.Ytpiechbjponicaa
open Go Go.RowKit

/-- The cells of functions whose ops' slices are vs. -/
def rowF : List GFunc → List Value → List Value
  | [], _ => []
  | _, [] => []
  | F :: p, v :: vs => [.int .i64 F.args, .int .i64 F.locals, v] ++ rowF p vs

theorem rowF_len : ∀ {p : List GFunc} {vs : List Value}, vs.length = p.length → (rowF p vs).length = p.length * 3
  | [], _, _ => by simp [rowF]
  | _ :: p, v :: vs, h => by
    have := rowF_len (p := p) (vs := vs) (by simpa using h)
    simp only [rowF, List.length_append, List.length_cons, List.length_nil, this]
    omega
theorem rowF_at : ∀ {p : List GFunc} {vs : List Value} {k : Nat} (hk : k < p.length) (hv : k < vs.length), (rowF p vs)[k * 3]? = some (.int .i64 p[k].args) ∧ (rowF p vs)[k * 3 + 1]? = some (.int .i64 p[k].locals) ∧ (rowF p vs)[k * 3 + 2]? = some vs[k]
  | F :: p, v :: vs, 0, _, _ => by simp [rowF]
  | F :: p, v :: vs, k + 1, hk, hv => by
    obtain ⟨h1, h2, h3⟩ := rowF_at (p := p) (vs := vs) (k := k) (by simpa using hk) (by simpa using hv)
    simp only [rowF, List.getElem_cons_succ]
    have e : ∀ m, ([Value.int .i64 F.args, .int .i64 F.locals, v] ++ rowF p vs)[(k + 1) * 3 + m]? = (rowF p vs)[k * 3 + m]? := fun m => by
      rw [List.getElem?_append_right (by simp; omega)]
      congr 1
      simp
      omega
    exact ⟨(e 0).trans h1, (e 1).trans h2, (e 2).trans h3⟩
theorem rowF_set : ∀ {p : List GFunc} {vs : List Value} {k : Nat} (_ : k < p.length) (_ : vs.length = p.length) (u : Value), (rowF p vs).set (k * 3 + 2) u = rowF p (vs.set k u)
  | F :: p, v :: vs, 0, _, _, u => by simp [rowF]
  | F :: p, v :: vs, k + 1, hk, hv, u => by
    have := rowF_set (p := p) (vs := vs) (k := k) (by simpa using hk) (by simpa using hv) u
    have e : (k + 1) * 3 + 2 = k * 3 + 2 + 1 + 1 + 1 := by omega
    rw [e]
    simp only [rowF, List.cons_append, List.nil_append, List.set_cons_succ, this]
theorem rowF_mem : ∀ {p : List GFunc} {vs : List Value} {u : Value}, u ∈ rowF p vs → (∃ n, u = .int .i64 n) ∨ u ∈ vs
  | F :: p, v :: vs, u, h => by
    simp only [rowF, List.cons_append, List.nil_append, List.mem_cons] at h
    rcases h with rfl | rfl | rfl | h
    · exact .inl ⟨_, rfl⟩
    · exact .inl ⟨_, rfl⟩
    · exact .inr (by simp)
    · exact (rowF_mem h).imp id (fun h => List.mem_cons_of_mem _ h)

theorem funcs_vs {w : World} {S : Nat → Prop} {v : Value} {p : List GFunc} (h : Funcs w S v p) : ∃ vs : List Value, vs.length = p.length ∧ SrcSl w 3 v p.length (rowF p vs) ∧ (∀ k (hk : k < p.length) (hv : k < vs.length), Ops w S vs[k] p[k].code) ∧ ∀ F ∈ p, I64 F.args ∧ I64 F.locals := by
  obtain ⟨a, cap, rfl, h1, h2, h3⟩ := h
  have hex : ∀ k : Fin p.length, ∃ u, ∃ b o, a = some ⟨b, o, none⟩ ∧ w.cell? ⟨b, o + k.1 * 3 + 2, none⟩ = some u ∧ Ops w S u p[k.1].code ∧ w.cell? ⟨b, o + k.1 * 3, none⟩ = some (.int .i64 p[k.1].args) ∧ w.cell? ⟨b, o + k.1 * 3 + 1, none⟩ = some (.int .i64 p[k.1].locals) ∧ I64 p[k.1].args ∧ I64 p[k.1].locals := fun k => by
    obtain ⟨b, o, ha, ⟨_, c0, i0⟩, ⟨_, c1, i1⟩, u, hu, ho⟩ := h3 k.1 k.2
    exact ⟨u, b, o, ha, hu, ho, c0, c1, i0, i1⟩
  obtain ⟨g, hg⟩ := Classical.axiomOfChoice hex
  refine ⟨List.ofFn g, by simp, ⟨a, cap, rfl, ?_, ?_, ?_⟩, fun k hk hv => ?_, fun F hF => ?_⟩
  · rw [rowF_len (by simp)]
  · intro u hu
    rcases rowF_mem hu with ⟨n, rfl⟩ | hu
    · rfl
    · obtain ⟨k, rfl⟩ := (List.mem_ofFn).1 hu
      obtain ⟨b, o, _, _, ho, _⟩ := hg k
      obtain ⟨a', c', e, _⟩ := ho
      rw [e]
      rfl
  · by_cases h0 : p.length = 0
    · exact .inl h0
    · obtain ⟨b, o, ha, _⟩ := hg ⟨0, by omega⟩
      refine .inr ⟨⟨b, o, none⟩, ha, fun j u hj => ?_⟩
      have hj3 : j < p.length * 3 := by
        have := (List.getElem?_eq_some_iff.1 hj).1
        rwa [rowF_len (by simp)] at this
      have hk : j / 3 < p.length := by omega
      obtain ⟨b', o', ha', c2, _, c0, c1, _, _⟩ := hg ⟨j / 3, hk⟩
      rw [ha] at ha'
      simp only [Option.some.injEq, Addr.mk.injEq] at ha'
      obtain ⟨rfl, rfl, -⟩ := ha'
      obtain ⟨r0, r1, r2⟩ := rowF_at (p := p) (vs := List.ofFn g) hk (by simpa using hk)
      rw [Addr.add_lit]
      have hr : j % 3 = 0 ∨ j % 3 = 1 ∨ j % 3 = 2 := by omega
      rcases hr with hr | hr | hr
      · have e : j = j / 3 * 3 := by omega
        rw [e] at hj ⊢
        rw [r0] at hj
        rw [← hj, ← c0]
      · have e : j = j / 3 * 3 + 1 := by omega
        rw [e] at hj ⊢
        rw [r1] at hj
        rw [← hj, ← c1, Nat.add_assoc]
      · have e : j = j / 3 * 3 + 2 := by omega
        rw [e] at hj ⊢
        rw [r2, List.getElem_ofFn] at hj
        rw [← hj, ← c2, Nat.add_assoc]
  · obtain ⟨_, _, _, _, ho, _⟩ := hg ⟨k, hk⟩
    rw [List.getElem_ofFn]
    exact ho
  · obtain ⟨k, hk, rfl⟩ := List.getElem_of_mem hF
    obtain ⟨_, _, _, _, _, _, _, i0, i1⟩ := hg ⟨k, hk⟩
    exact ⟨i0, i1⟩

theorem SrcSl.ext {w w' : World} {size : Nat} {x : Value} {m : Nat} {news : List Value} (h : SrcSl w size x m news) (he : Ext w w') : SrcSl w' size x m news := by
  obtain ⟨a, c, rfl, h1, h2, h3⟩ := h
  refine ⟨a, c, rfl, h1, h2, h3.imp id fun ⟨ad, ha, hc⟩ => ⟨ad, ha, fun j u hj => ?_⟩⟩
  have hcj := hc j u hj
  rw [Ext.keep he _ (by rw [hcj]; rfl)]
  exact hcj

/-- The others' ops struck, the first i of them. -/
def strike (n i : Nat) : List GFunc → Nat → List GFunc
  | [], _ => []
  | F :: p, k => (if k < i ∧ k ≠ n then ⟨F.args, F.locals, []⟩ else F) :: strike n i p (k + 1)
theorem strike_len (n i : Nat) : ∀ (p : List GFunc) (k : Nat), (strike n i p k).length = p.length
  | [], _ => rfl
  | _ :: p, k => by simp [strike, strike_len n i p]
theorem strike_at (n i : Nat) : ∀ (p : List GFunc) (k j : Nat) (hj : j < p.length) (hs : j < (strike n i p k).length), (strike n i p k)[j] = if k + j < i ∧ k + j ≠ n then ⟨p[j].args, p[j].locals, []⟩ else p[j]
  | F :: p, k, 0, _, _ => by simp [strike]
  | F :: p, k, j + 1, hj, hs => by
    have := strike_at n i p (k + 1) j (by simpa using hj) (by simpa [strike] using hs)
    simp only [strike, List.getElem_cons_succ, this]
    rw [show k + 1 + j = k + (j + 1) by omega]
theorem strike_sim (n : Nat) (p : List GFunc) : Sim p (strike n p.length p 0) :=
  ⟨strike_len _ _ _ _, fun k hp hq => by rw [strike_at n p.length p 0 k hp hq]; split <;> exact ⟨rfl, rfl⟩⟩
theorem strike_code (n : Nat) {p : List GFunc} (hn : n < p.length) : ((strike n p.length p 0).getD n default).code = (p.getD n default).code := by
  have hq : n < (strike n p.length p 0).length := by rw [strike_len]; exact hn
  simp only [List.getD, List.getElem?_eq_getElem hn, List.getElem?_eq_getElem hq, Option.getD_some, strike_at n p.length p 0 n hn hq]
  rw [if_neg (fun h => h.2 (by omega))]
end Go.Proofs.Ytpiechbjponicaa
