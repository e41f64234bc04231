/- From the form's reading of an argument as data to our readings in memory. -/
import Derived.Test.YtpomcbginkhlbaaProg
import Derived.Test.YtpomcbginkhlbaaBase
import Derived.ProofKit
import Derived.SizedLaws
import Derived.Deep.Slices
import Derived.Lib.SmallJoins
set_option maxHeartbeats 400000
set_option maxRecDepth 100000
namespace Go.Proofs.Ytpomcbginkhlbaa
open Go Go.RowKit Go.Deep Go.ChangeShapes Go.WideShapes Go.ChangeAt

section
variable {H : Type} {enc : TypeId × Value → H} {P : Program} {w : World}

theorem weightsAll_mem {e : TypeId} {n : Nat} : ∀ {l : List (DataW H)} {d : DataW H}, d ∈ l → n ∈ d.weights P e → n ∈ DataW.weightsAll P e l
  | x :: l, d, hd, hn => by
    simp only [DataW.weightsAll, List.mem_append]
    rcases List.mem_cons.1 hd with rfl | hd
    · exact .inl hn
    · exact .inr (weightsAll_mem hd hn)
  | [], _, hd, _ => absurd hd (by simp)

/-- A slice. -/
theorem sl_of_trod {α : Type} [Inhabited α] {E : Nat → Nat → α → Prop} {t e : TypeId} {sz bytes fuel : Nat} {v : Value} {x : DataW H × List MemPlace}
    (ht : P.underlying t = some (.slice e)) (hsz : P.cellsOf e = sz) (hpos : 0 < sz) (hby : P.bytesOf e = bytes) (hbp : 0 < bytes)
    (h : DataW.trod enc P w 0 (fun _ => true) true fuel t [v] = some x) (hw : ∀ n ∈ x.1.weights P t, n ≤ reachBytes)
    (hE : ∀ b o cs n y, cs.length = sz → (∀ j, j < sz → w.cell? ⟨b, o + j, none⟩ = cs[j]?) → DataW.trod enc P w 0 (fun _ => true) true n e cs = some y → (∀ n ∈ y.1.weights P e, n ≤ reachBytes) → ∃ z, E b o z) :
    ∃ l, Sl E sz bytes v l := by
  rcases open_slice ht h with ⟨h0, _⟩ | ⟨a, len, cap, m, n, D, Pl, hcs, _, hl, hm, hmm, rfl, hel⟩
  · obtain rfl : v = .slice none 0 0 := by simpa using h0
    exact ⟨[], Sl.nil _ _ _⟩
  · obtain rfl : v = .slice (some a) len cap := by simpa using hcs
    simp only [if_true] at hmm
    subst hmm
    simp only [DataW.weights, ht, hby] at hw
    have hb : m * bytes ≤ reachBytes := by
      have := hw _ (List.mem_cons_self ..)
      simp only [List.length_map, List.length_range] at this
      rwa [show len + (m - len) = m by omega] at this
    have hspot : 0 < len → ∃ b o, a = ⟨b, o, none⟩ := fun h0 => by
      obtain ⟨cs', hc, _⟩ := hel 0 (by omega)
      obtain ⟨_, hln, hcell⟩ := World.cells?_some hc
      have := hcell 0 (by omega)
      rw [Nat.zero_mul, Addr.add_zero', Addr.add_zero', List.getElem?_eq_getElem (by omega)] at this
      obtain ⟨b, o, s⟩ := a
      cases s with
      | none => exact ⟨b, o, rfl⟩
      | some s =>
        unfold World.cell? at this
        simp only [Option.isSome_some, if_true] at this
        split at this <;> cases this
    have key : ∀ i, i < len → ∃ z, ∀ b o, a = ⟨b, o, none⟩ → E b (o + i * sz) z := fun i hi => by
      obtain ⟨b, o, rfl⟩ := hspot (by omega)
      obtain ⟨cs', hc, hx⟩ := hel i (by omega)
      rw [hsz] at hc
      obtain ⟨_, hln, hcell⟩ := World.cells?_some hc
      obtain ⟨z, hz⟩ := hE b (o + i * sz) cs' n _ hln (fun j hj => by
        have := hcell j hj
        rwa [Addr.add_lit, Addr.add_lit] at this) hx (fun k hk => hw k (List.mem_cons_of_mem _ (List.mem_append.2 (.inl (weightsAll_mem (List.mem_map.2 ⟨i, List.mem_range.2 hi, rfl⟩) hk)))))
      exact ⟨z, fun b' o' h => by cases h; exact hz⟩
    obtain ⟨Z, hZ⟩ := choose_lt key
    refine ⟨(List.range len).map Z, some a, m, by simp, by simpa using hl, ⟨by
      have h1 : len * bytes ≤ m * bytes := Nat.mul_le_mul_right _ (by omega)
      have h2 : reachBytes ≤ 140737488355328 := by decide
      simp only [List.length_map, List.length_range]
      omega, by
      have h1 : m * 1 ≤ m * bytes := Nat.mul_le_mul_left _ hbp
      have h2 : reachBytes ≤ 140737488355328 := by decide
      omega⟩, fun i hi => ?_⟩
    have hi' : i < len := by simpa using hi
    obtain ⟨b, o, rfl⟩ := hspot (by omega)
    refine ⟨b, o, rfl, ?_⟩
    have := hZ i hi' b o rfl
    simpa using this

theorem i64_of_wf {n : Int} (h : (Lit.int .i64 n).wf = true) : I64 n := by
  simp only [Lit.wf, decide_eq_true_eq, Bool.and_eq_true, IntKind.max_i64] at h
  have hmin : IntKind.i64.min = -9223372036854775808 := by decide
  unfold I64
  omega

theorem intC_of_trod {b o n : Nat} {e : TypeId} {cs : List Value} {y : DataW H × List MemPlace} (he : P.underlying e = some (.int .i64)) (hl : cs.length = 1)
    (hc : w.cell? ⟨b, o, none⟩ = cs[0]?) (h : DataW.trod enc P w 0 (fun _ => true) true n e cs = some y) : ∃ z, IntC w (fun _ => True) b o z := by
  obtain ⟨z, rfl, _, hz⟩ := DataW.trod_int he h
  exact ⟨z, trivial, by simpa using hc, i64_of_wf hz⟩

theorem ints_of_trod {t e : TypeId} {fuel : Nat} {v : Value} {x : DataW H × List MemPlace} (ht : P.underlying t = some (.slice e)) (he : P.underlying e = some (.int .i64)) (hsz : P.cellsOf e = 1) (hby : P.bytesOf e = 8)
    (h : DataW.trod enc P w 0 (fun _ => true) true fuel t [v] = some x) (hw : ∀ n ∈ x.1.weights P t, n ≤ reachBytes) : ∃ l, Ints w (fun _ => True) v l :=
  sl_of_trod ht hsz (by decide) hby (by decide) h hw fun b o cs n y hl hc hy _ => intC_of_trod he hl (by simpa using hc 0 (by decide)) hy

end

/-- Of this program: a slice of ops. -/
theorem ops_of_trod {H : Type} {enc : TypeId × Value → H} {w : World} {fuel : Nat} {v : Value} {x : DataW H × List MemPlace}
    (h : DataW.trod enc Try.prog w 0 (fun _ => true) true fuel 23 [v] = some x) (hw : ∀ n ∈ x.1.weights Try.prog 23, n ≤ reachBytes) : ∃ l, Ops w (fun _ => True) v l :=
  sl_of_trod (e := 58) (by kernel_rfl) (by kernel_rfl) (by decide) (by kernel_rfl) (by decide) h hw fun b o cs n y hl hc hy _ => by
    obtain ⟨f0, f1, hs, e0, o0, e1, o1⟩ : ∃ f0 f1, Try.prog.underlying 58 = some (.struct #[f0, f1]) ∧ f0.type = 3 ∧ f0.offset = 0 ∧ f1.type = 3 ∧ f1.offset = 1 := ⟨_, _, Try.underlying58, rfl, rfl, rfl, rfl⟩
    obtain ⟨y0, y1, m, rfl, _, t0, t1⟩ := trod_struct2 hs hy
    have hI : Try.prog.underlying 3 = some (.int .i64) := by kernel_rfl
    have h1 : Try.prog.cellsOf 3 = 1 := by kernel_rfl
    rw [e0, o0, h1] at t0
    rw [e1, o1, h1] at t1
    match cs, hl with
    | [c0, c1], _ =>
      obtain ⟨k, hk⟩ := intC_of_trod hI rfl (by simpa using hc 0 (by decide)) t0
      obtain ⟨a, ha⟩ := intC_of_trod (b := b) (o := o + 1) hI rfl (by simpa using hc 1 (by decide)) t1
      exact ⟨⟨k, a⟩, hk, ha⟩

/-- A slice of functions. -/
theorem funcs_of_trod {H : Type} {enc : TypeId × Value → H} {w : World} {fuel : Nat} {v : Value} {x : DataW H × List MemPlace}
    (h : DataW.trod enc Try.prog w 0 (fun _ => true) true fuel 22 [v] = some x) (hw : ∀ n ∈ x.1.weights Try.prog 22, n ≤ reachBytes) : ∃ l, Funcs w (fun _ => True) v l :=
  sl_of_trod (e := 25) (by kernel_rfl) (by kernel_rfl) (by decide) (by kernel_rfl) (by decide) h hw fun b o cs n y hl hc hy hwy => by
    obtain ⟨f0, f1, f2, hs, e0, o0, e1, o1, e2, o2⟩ : ∃ f0 f1 f2, Try.prog.underlying 25 = some (.struct #[f0, f1, f2]) ∧ f0.type = 3 ∧ f0.offset = 0 ∧ f1.type = 3 ∧ f1.offset = 1 ∧ f2.type = 23 ∧ f2.offset = 2 :=
      ⟨_, _, _, Try.underlying25, rfl, rfl, rfl, rfl, rfl, rfl⟩
    obtain ⟨y0, y1, y2, m, rfl, _, t0, t1, t2⟩ := trod_struct3 hs hy
    have hI : Try.prog.underlying 3 = some (.int .i64) := by kernel_rfl
    have h1 : Try.prog.cellsOf 3 = 1 := by kernel_rfl
    have h2 : Try.prog.cellsOf 23 = 1 := by kernel_rfl
    rw [e0, o0, h1] at t0
    rw [e1, o1, h1] at t1
    rw [e2, o2, h2] at t2
    match cs, hl with
    | [c0, c1, c2], _ =>
      obtain ⟨k, hk⟩ := intC_of_trod hI rfl (by simpa using hc 0 (by decide)) t0
      obtain ⟨a, ha⟩ := intC_of_trod (b := b) (o := o + 1) hI rfl (by simpa using hc 1 (by decide)) t1
      obtain ⟨l, hl⟩ := ops_of_trod (v := c2) (by simpa using t2) (fun n hn => hwy n (by simp [DataW.weights, hs, DataW.weightsEach, e2]; simp_all))
      exact ⟨⟨k, a, l⟩, hk, ha, c2, by simpa using hc 2 (by decide), hl⟩


/-- A slice of numbers. -/
theorem intl_of_trod {H : Type} {enc : TypeId × Value → H} {w : World} {fuel : Nat} {v : Value} {x : DataW H × List MemPlace}
    (h : DataW.trod enc Try.prog w 0 (fun _ => true) true fuel 37 [v] = some x) (hw : ∀ n ∈ x.1.weights Try.prog 37, n ≤ reachBytes) : ∃ l, Ints w (fun _ => True) v l :=
  ints_of_trod (e := 3) (by kernel_rfl) (by kernel_rfl) (by kernel_rfl) (by kernel_rfl) h hw

/-- An op by value. -/
theorem op_of_trod {H : Type} {enc : TypeId × Value → H} {w : World} {r : Reach} {b0 : Nat} {v : Value} {d : DataW H} {ps : List MemPlace}
    (hv : Value.okWide Try.prog w r b0 58 v) (h : DataW.Trod enc Try.prog w 0 (fun _ => true) true 58 v d ps) :
    ∃ x : GOp, v = .agg #[.int .i64 x.kind, .int .i64 x.a] ∧ I64 x.kind ∧ I64 x.a := by
  have hI : Try.prog.underlying 3 = some (.int .i64) := by kernel_rfl
  obtain ⟨c0, c1, y0, y1, m, rfl, _, _, t0, t1⟩ := Go.Joins.open_agg2 Try.underlying58 (by kernel_rfl) (by kernel_rfl) hv h
  obtain ⟨k, e0, _, hk⟩ := DataW.trod_int hI t0
  obtain ⟨a, e1, _, ha⟩ := DataW.trod_int hI t1
  simp at e0 e1
  subst e0 e1
  exact ⟨⟨k, a⟩, rfl, i64_of_wf hk, i64_of_wf ha⟩
end Go.Proofs.Ytpomcbginkhlbaa
