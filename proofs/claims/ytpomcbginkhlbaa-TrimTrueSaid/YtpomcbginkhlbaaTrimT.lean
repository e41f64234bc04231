/- Plain facts of trimmed programs: right again, with the heights that are left, and trimmed once more the same. No program in sight; no condition. -/
import Derived.Test.YtpomcbginkhlbaaTrimF
namespace Go.Proofs.Ytpomcbginkhlbaa

theorem opErr_ok {p : List GFunc} {f : GFunc} {x : GOp} (h : 0 ≤ x.kind ∧ x.kind ≤ 16 ∧ 0 ≤ x.a ∧ x.a ≤ mostOf p f x.kind ∧
    (x.kind = 11 ∨ x.kind = 13 → sizedB (p.getD x.a.toNat default) = true) ∧ (x.kind = 13 → (p.getD x.a.toNat default).args = 1)) : opErr p f x = 0 := by
  obtain ⟨h1, h2, h3, h4, h5, h6⟩ := h
  unfold opErr
  rw [if_neg (fun k => k ⟨h1, h2⟩), if_neg (fun k => k ⟨h3, h4⟩), if_neg (fun k => by have := h5 k.1; rw [this] at k; exact absurd k.2 (by decide)), if_neg (fun k => k.2 (h6 k.1))]
theorem opsErr_ok {p : List GFunc} {f : GFunc} : ∀ {l : List GOp}, (∀ x ∈ l, opErr p f x = 0) → opsErr p f l = 0
  | [], _ => rfl
  | x :: l, h => by
    unfold opsErr
    rw [if_neg (fun k => k (h x (by simp)))]
    exact opsErr_ok fun y hy => h y (by simp [hy])
theorem firstErr_ok {p : List GFunc} : ∀ {ks : List Nat}, (∀ k ∈ ks, funcErr p k = 0) → firstErr p ks = 0
  | [], _ => rfl
  | k :: ks, h => by
    unfold firstErr
    rw [if_neg (fun e => e (h k (by simp)))]
    exact firstErr_ok fun y hy => h y (by simp [hy])
theorem allHts_ok {p : List GFunc} : ∀ {ks : List Nat}, (∀ k ∈ ks, (hts p (p.getD k default).code).isSome = true) → allHts p ks = true
  | [], _ => rfl
  | k :: ks, h => by
    unfold allHts
    rw [h k (by simp), allHts_ok fun y hy => h y (by simp [hy])]
    rfl
theorem progErr_ok {p : List GFunc} (h : RightP p) : progErr p = 0 := by
  unfold progErr
  have := h.most
  have := h.pos
  rw [if_neg (by omega), if_neg (by omega), if_neg (fun k => k h.zero), firstErr_ok (fun k hk => h.func k (by simpa using hk)), if_neg (fun k => k rfl), allHts_ok (fun k hk => h.hts k (by simpa using hk)), if_pos rfl]

/-- What of a program's function trimming leaves as it was. -/
theorem trim_at {p : List GFunc} (k : Nat) (hk : k < p.length) : (p.map (trimG p)).getD k default = trimG p p[k] ∧ p.getD k default = p[k] := by
  simp [List.getD, List.getElem?_eq_getElem hk]
theorem trim_out {p : List GFunc} (k : Nat) (hk : ¬ k < p.length) : (p.map (trimG p)).getD k default = p.getD k default := by
  simp [List.getD, List.getElem?_eq_none (show p.length ≤ k by omega)]
theorem trim_args (p : List GFunc) (k : Nat) : ((p.map (trimG p)).getD k default).args = (p.getD k default).args ∧ ((p.map (trimG p)).getD k default).locals = (p.getD k default).locals := by
  by_cases hk : k < p.length
  · rw [(trim_at k hk).1, (trim_at k hk).2]
    exact ⟨rfl, rfl⟩
  · rw [trim_out k hk]
    exact ⟨rfl, rfl⟩
theorem trim_takes (p : List GFunc) (x : GOp) : takesOf (p.map (trimG p)) x = takesOf p x := by
  unfold takesOf
  rw [(trim_args p x.a.toNat).1]
theorem trim_sized (p : List GFunc) (k : Nat) : sizedB ((p.map (trimG p)).getD k default) = sizedB (p.getD k default) := by
  unfold sizedB
  rw [(trim_args p k).1, (trim_args p k).2]

theorem mem_trimGo {l : List Int} : ∀ {C : List GOp} {m : List Int} {y : GOp}, y ∈ trimGo l C m → ∃ x ∈ C, y = trimOp l x
  | [], m, y, h => by simp [trimGo] at h
  | x :: C, [], y, h => by simp [trimGo] at h
  | x :: C, u :: m, y, h => by
    have hr : y ∈ trimGo l C m → ∃ z ∈ x :: C, y = trimOp l z := fun h => by
      obtain ⟨z, hz, e⟩ := mem_trimGo h
      exact ⟨z, List.mem_cons_of_mem _ hz, e⟩
    unfold trimGo at h
    split at h
    · rcases List.mem_cons.1 h with h | h
      · exact ⟨x, List.mem_cons_self .., h⟩
      · exact hr h
    · exact hr h

/-- All of a function of a right program. -/
structure TrimFacts (p : List GFunc) (k : Nat) (hk : k < p.length) (l : List Int) : Prop where
  right : RightF p p[k]
  h : hts p p[k].code = some l
  g : trimG p p[k] = ⟨p[k].args, p[k].locals, trimC p[k].code l⟩
  hq : hts (p.map (trimG p)) (trimC p[k].code l) = some (keepL l)
  len : (trimC p[k].code l).length = (keepL l).length
  most : (trimC p[k].code l).length ≤ 24
  err : funcErr (p.map (trimG p)) k = 0

theorem trim_facts {p : List GFunc} (hp : progErr p = 0) (k : Nat) (hk : k < p.length) : ∃ l, TrimFacts p k hk l := by
  have hRP := progErr_zero hp
  have hf := hRP.func k hk
  obtain ⟨h0, h1, hR'⟩ := funcErr_zero hf
  have hR : RightF p p[k] := by have := hR' (by simpa using hk); simpa using this
  have hs := hRP.hts k hk
  rw [(trim_at k hk).2] at hs
  obtain ⟨l, hl⟩ := Option.isSome_iff_exists.1 hs
  have hg : trimG p p[k] = ⟨p[k].args, p[k].locals, trimC p[k].code l⟩ := by unfold trimG; rw [hl]; rfl
  have hF := hts_full hR.jumps hl
  obtain ⟨hF2, hJ2⟩ := trim_full (q := p.map (trimG p)) (trim_takes p) hF
  have hq := trim_hts (q := p.map (trimG p)) (trim_takes p) hR.jumps hl
  have hlen := trimGo_len l p[k].code l
  have hmost : (trimC p[k].code l).length ≤ 24 := Nat.le_trans hlen hR.len
  refine ⟨l, hR, hl, hg, hq, hF2.len.symm, hmost, ?_⟩
  unfold funcErr at hf ⊢
  have hkI : 0 ≤ (k : Int) ∧ (k : Int) < p.length := by omega
  rw [if_neg (fun e => e hkI)] at hf
  rw [if_neg (fun e => e (by rw [List.length_map]; exact hkI))]
  have e0 : (k : Int).toNat = k := by omega
  rw [e0] at hf ⊢
  rw [trim_sized]
  rw [(trim_at k hk).2] at hf ⊢
  rw [(trim_at k hk).1, hg]
  by_cases h2 : 24 < p[k].code.length
  · rw [if_pos h2] at hf; omega
  · rw [if_neg h2] at hf
    cases h3 : sizedB p[k] with
    | false => rw [if_pos h3] at hf; omega
    | true =>
      rw [if_neg (by rw [h3]; decide)] at hf
      rw [if_neg (by show ¬ 24 < (trimC p[k].code l).length; omega), if_neg (by decide)]
      refine opsErr_ok fun y hy => ?_
      have hy0 : y ∈ trimC p[k].code l := hy
      obtain ⟨x, hx, rfl⟩ := mem_trimGo hy0
      obtain ⟨k0, k1, k2, k3, k4, k5⟩ := ok_facts (ok_ops hf x hx)
      by_cases hj : x.kind = 9 ∨ x.kind = 10
      · have ek : (trimOp l x).kind = x.kind := trimOp_kind l x
        have ea : (trimOp l x).a = keepN l x.a.toNat := by unfold trimOp; rw [if_pos hj]
        obtain ⟨i, hi, he⟩ := List.getElem_of_mem hy0
        have e1 : (trimC p[k].code l).getD i default = trimOp l x := by simp [List.getD, List.getElem?_eq_getElem hi, he]
        have h9 := hJ2 i hi (by rw [e1, ek]; exact hj)
        rw [e1, ea] at h9
        refine opErr_ok ⟨by rw [ek]; omega, by rw [ek]; omega, by rw [ea]; omega, ?_, fun h => by rw [ek] at h; omega, fun h => by rw [ek] at h; omega⟩
        rw [ek, ea]
        unfold mostOf
        rw [if_neg (by omega), if_neg (by omega), if_pos hj]
        show (keepN l x.a.toNat : Int) ≤ ((trimC p[k].code l).length : Int) - 1
        simp only [Int.toNat_natCast] at h9
        omega
      · have ex : trimOp l x = x := by unfold trimOp; rw [if_neg hj]
        rw [ex]
        refine opErr_ok ⟨k0, k1, k2, ?_, fun h => by rw [trim_sized]; exact k4 h, fun h => by rw [(trim_args p _).1]; exact k5 h⟩
        unfold mostOf at k3 ⊢
        rw [if_neg hj] at k3 ⊢
        rw [List.length_map]
        exact k3

theorem trim_right {p : List GFunc} (hp : progErr p = 0) : progErr (p.map (trimG p)) = 0 := by
  have hRP := progErr_zero hp
  refine progErr_ok ⟨by rw [List.length_map]; exact hRP.most, by rw [List.length_map]; exact hRP.pos, by rw [(trim_args p 0).1]; exact hRP.zero, fun k hk => ?_, fun k hk => ?_⟩
  · rw [List.length_map] at hk
    obtain ⟨l, hl⟩ := trim_facts hp k hk
    exact hl.err
  · rw [List.length_map] at hk
    obtain ⟨l, hl⟩ := trim_facts hp k hk
    rw [(trim_at k hk).1, hl.g]
    show (hts _ (trimC p[k].code l)).isSome = true
    rw [hl.hq]
    rfl

theorem trimG_id {q : List GFunc} {A L : Int} {C : List GOp} {m : List Int} (h : hts q C = some (keepL m)) (hlen : (keepL m).length = C.length) (hR : RightF q ⟨A, L, C⟩) : trimG q ⟨A, L, C⟩ = ⟨A, L, C⟩ := by
  unfold trimG
  simp only [h, Option.getD_some]
  congr 1
  refine trimGo_id keepL_nonneg keepL_nonneg hlen fun x hx hj => ?_
  obtain ⟨_, _, h3, h4, _⟩ := hR.op x hx
  have h5 := h4 hj
  exact ⟨h3, by simp only at h5; omega⟩

theorem trim_again {p : List GFunc} (hp : progErr p = 0) : trimP (p.map (trimG p)) = p.map (trimG p) := by
  unfold trimP
  rw [if_pos (trim_right hp)]
  conv => rhs; rw [← List.map_id (p.map (trimG p))]
  refine List.map_congr_left fun y hy => ?_
  obtain ⟨x, hx, rfl⟩ := List.mem_map.1 hy
  obtain ⟨k, hk, rfl⟩ := List.getElem_of_mem hx
  obtain ⟨l, hl⟩ := trim_facts hp k hk
  have herr := hl.err
  obtain ⟨_, _, hR'⟩ := funcErr_zero herr
  have hR : RightF (p.map (trimG p)) (trimG p p[k]) := by have := hR' (by simpa using hk); simpa using this
  show trimG (p.map (trimG p)) (trimG p p[k]) = trimG p p[k]
  rw [hl.g] at hR ⊢
  exact trimG_id hl.hq hl.len.symm hR

theorem trim_heights {p : List GFunc} (hp : progErr p = 0) {k : Nat} (hk : k < p.length) : hErr p k = 0 ∧ hErr (p.map (trimG p)) k = 0 ∧ hList (p.map (trimG p)) k = keepL (hList p k) ∧ (trimG p p[k]).code.length = (hList (p.map (trimG p)) k).length := by
  obtain ⟨l, hl⟩ := trim_facts hp k hk
  have e0 : (k : Int).toNat = k := by omega
  have h1 := hErr_some (p := p) (f := k) (l := l) ((progErr_zero hp).func k hk) (by rw [e0, (trim_at k hk).2]; exact hl.h)
  have h2 := hErr_some (p := p.map (trimG p)) (f := k) (l := keepL l) hl.err (by rw [e0, (trim_at k hk).1, hl.g]; exact hl.hq)
  refine ⟨h1.1, h2.1, by rw [h1.2, h2.2], ?_⟩
  rw [h2.2, hl.g]
  exact hl.len

/-- All that TrimTrue asks. -/
theorem trim_pack {p : List GFunc} (hz : progErr p = 0) {n : Nat} (hn : n < p.length) : ∃ q, trimP p = q ∧ progErr q = 0 ∧ trimP q = q ∧ q.length = p.length ∧ hErr p n = 0 ∧ hErr q n = 0 ∧ hList q n = keepL (hList p n) ∧ (hList p n).length ≤ 24 ∧
    ∃ hq : n < q.length, q[n].code.length = (keepL (hList p n)).length ∧ q[n].args = p[n].args ∧ q[n].locals = p[n].locals := by
  obtain ⟨h1, h2, h3, h4⟩ := trim_heights hz hn
  obtain ⟨l, hl⟩ := trim_facts hz n hn
  have e0 : (n : Int).toNat = n := by omega
  have h5 := hErr_some (p := p) (f := n) (l := l) ((progErr_zero hz).func n hn) (by rw [e0, (trim_at n hn).2]; exact hl.h)
  have hF := hts_full hl.right.jumps hl.h
  refine ⟨p.map (trimG p), by unfold trimP; rw [if_pos hz], trim_right hz, trim_again hz, List.length_map .., h1, h2, h3, ?_, by rw [List.length_map]; exact hn, ?_, ?_, ?_⟩
  · rw [h5.2, hF.len]; exact hl.right.len
  · rw [List.getElem_map, h4, h3]
  · rw [List.getElem_map]; rfl
  · rw [List.getElem_map]; rfl
end Go.Proofs.Ytpomcbginkhlbaa
