/- Merged texts: contracts and plain facts, one part behind another; each part begins with what it says. -/
import Derived.Test.YtgahbngbpfilgaaGreatGHAJ
import Derived.Test.YtgahbngbpfilgaaGreatGHAK
import Derived.Test.YtgahbngbpfilgaaGreatGHAS
section
set_option maxHeartbeats 1000000
namespace Go.Proofs.YtgahbngbpfilgaaGreat
open Go Go.RowKit
theorem RightS.err {p : List GFunc} {s : GState} {l : List Int} (h : RightS p s l) : stateErr p s = 0 := by
 have e1 : allK s.fibers.length (framesFew s) = true := allK_true fun k hk => decide_eq_true (h.frames k hk)
 have e2 : allK s.fibers.length (callersB s) = true := allK_true fun k hk => decide_eq_true (h.callers.all k hk)
 have e3 : allK s.fibers.length (fibK p s l) = true := allK_true h.fib
 have := h.few
 have := h.out
 have := h.pos
 unfold stateErr
 rw [if_neg (fun k => k h.prog), if_neg (by omega), e1, if_neg (by decide), if_neg (by omega), if_neg (fun k => k h.callers.now), e2, if_neg (by decide)]
 unfold lineErr
 rw [h.line]
 simp only
 rw [h.ends, if_neg (by decide), if_neg h.done, e3, if_neg (by decide)]
theorem Ok.err {p : List GFunc} {s : GState} {l : List Int} (h : Ok p s l) : stateErr p s = 0 := h.right.err
theorem ok_of_err {p : List GFunc} {s : GState} (h : stateErr p s = 0) : ∃ l, Ok p s l := by
 obtain ⟨l, hl⟩ := stateErr_zero h
 exact ⟨l, hl.ok⟩
structure Off (s u : GState) (n m : Int) : Prop where
 len : u.fibers.length = s.fibers.length
 out : u.out = s.out
 keep : ∀ j, j < s.fibers.length → (j : Int) ≠ n → (j : Int) ≠ m → u.fibers.getD j default = s.fibers.getD j default
theorem Off.refl (s : GState) (n m : Int) : Off s s n m := ⟨rfl, rfl, fun _ _ _ _ => rfl⟩
theorem Off.fib {s u : GState} {n m : Int} (h : Off s u n m) {i : Int} (hi : i = n ∨ i = m) (h0 : 0 ≤ i) (g : GFiber → GFiber) : Off s (modFib u i g) n m := by
 refine ⟨(modFib_len _ _ _).trans h.len, h.out, fun j hj h1 h2 => ?_⟩
 rw [modFib_get _ _ _ _ (by rw [h.len]; exact hj), if_neg (fun e => by
  have : (j : Int) = i := by omega
  rcases hi with hi | hi
  ·exact h1 (this.trans hi)
  ·exact h2 (this.trans hi))]
 exact h.keep j hj h1 h2
theorem Off.top {s u : GState} {n m : Int} (h : Off s u n m) {i : Int} (hi : i = n ∨ i = m) (h0 : 0 ≤ i) (g : GFrame → GFrame) : Off s (modTop u i g) n m := h.fib hi h0 _
theorem Off.now {s u : GState} {n m : Int} (h : Off s u n m) (k : Int) : Off s { u with now := k } n m := ⟨h.len, h.out, h.keep⟩
structure OneS (s t : GState) : Prop where
 len : s.fibers.length ≤ t.fibers.length ∧ t.fibers.length ≤ s.fibers.length + 1
 out : t.out = s.out ∨ ∃ v, t.out = s.out ++ [v]
 keep : ∀ j, j < s.fibers.length → (j : Int) ≠ s.now → (j : Int) ≠ t.now → t.fibers.getD j default = s.fibers.getD j default
theorem Off.one {s u : GState} (h : Off s u s.now u.now) : OneS s u := ⟨by rw [h.len]; omega, .inl h.out, h.keep⟩
theorem Runs.adv {p : List GFunc} {s : GState} {l r : List Int} {k : Nat} {fs : List GFrame} {x : GFrame} (hR : Runs p s l k fs x r) :
  At (advG s) k fs { x with at_ := x.at_ + 1 } ∧ Near s (advG s) k ∧ doneG p s = workG p (advG s) (opAt p x).kind (opAt p x).a := by
 have hA := hR.at_
 exact ⟨hA.top _ hA.now, (Near.refl s k).top hA.lt _ hA.now, by unfold doneG; rw [hA.curX]⟩
structure BackF (s t : GState) (k m : Nat) (gs : List GFrame) (y : GFrame) (v : Int) : Prop where
 caller : (s.fibers.getD k default).caller = (m : Nat)
 lt : m < s.fibers.length
 was : (s.fibers.getD m default).frames = gs ++ [y]
 now : t.now = (m : Nat)
 is_ : (t.fibers.getD m default).frames = gs ++ [{ y with stack := y.stack ++ [v] }]
 gone : (t.fibers.getD k default).caller = -1
 len : t.fibers.length = s.fibers.length
structure WakeF (s t : GState) (m : Nat) : Prop where
 lt : m < s.fibers.length
 now : t.now = (m : Nat)
 is_ : (t.fibers.getD m default).caller = s.now
 was : (s.fibers.getD m default).caller = -1
 len : t.fibers.length = s.fibers.length
end Go.Proofs.YtgahbngbpfilgaaGreat
end
section
set_option maxHeartbeats 1000000
namespace Go.Proofs.YtgahbngbpfilgaaGreat
open Go Go.RowKit
structure RanF (p : List GFunc) (n : Nat) (r : GState × Int × Int) : Prop where
 right : ∃ l, Ok p r.1 l
 fine : r.2.2 = 0 → r.2.1 = n ∨ r.1.now = -1
 bad : r.2.2 ≠ 0 → r.2.1 < n ∧ 0 ≤ r.1.now ∧ (doneG p r.1).1 = r.2.2
end Go.Proofs.YtgahbngbpfilgaaGreat
end
section
set_option maxHeartbeats 4000000
set_option maxRecDepth 100000
namespace Go.Proofs.YtgahbngbpfilgaaGreat
open Go Go.RowKit
structure Eng (w : World) (eb b : Nat) (p : List GFunc) (a : Option Addr) (cap : Nat) : Prop where
 e0 : Cx w eb 0 (.pointer (some ⟨b, 0, none⟩))
 e1 : Cx w eb 1 (.slice a p.length cap)
theorem Eng.ext {w w' : World} {eb b : Nat} {p : List GFunc} {a : Option Addr} {cap : Nat} (h : Eng w eb b p a cap) (he : Ext w w') : Eng w' eb b p a cap := ⟨h.e0.ext he, h.e1.ext he⟩
theorem engTop_any {P : PState} {L R : List PFiber} {y : PFiber} {F : List PFrame} {x : PFrame} {w : World} {B b g o cap : Nat} {eb : Nat} {p : List GFunc} {a : Option Addr} {cp : Nat} (h : OwnS w B b P)
    (hE : Eng w eb b p a cp) (hs : Spot P L y R F x) (hv : y.vf = .slice (some ⟨g, o, none⟩) (F ++ [x]).length cap) (hnow : P.now = (L.length : Int)) :
    Calls Tryz.prog 73 #[.pointer (some ⟨eb, 0, none⟩)] w fun e w' => e = .returned (.pointer (some ⟨g, o + F.length * 4, none⟩)) ∧ Ext w w' := by
  have hrow := h.row
  have hfew := h.few
  rw [hs.fs] at hrow hfew
  obtain ⟨⟨c0, -⟩, ⟨c1, -⟩, -⟩ := (⟨h.c0, h.c1, h.c2⟩ : _ ∧ _ ∧ _)
  obtain ⟨⟨x0, -⟩, -⟩ := hE
  rw [hnow] at c1
  obtain ⟨g0, o0, cap0, e0, hb0, hc0, hm0, hx0⟩ := RowAt.place fiberF (fun _ => rfl) hrow
  rw [e0] at c0
  obtain ⟨d0, -⟩ := hx0 0 _ (by decide) rfl
  rw [hv, Nat.add_zero] at d0
  have hnk : L.length < (L ++ y :: R).length := by simp
  have hfr : (F ++ [x]).length ≤ 1000 := by
    have := (h.fs y (by rw [hs.fs]; simp)).few
    rwa [hs.fr] at this
  have hm1 : (F ++ [x]).length = F.length + 1 := by simp
  have hmN : F.length < (F ++ [x]).length := by omega
  have KK : IntKind.i64.wrap (((F ++ [x]).length : Int) - 1) = (F.length : Int) := by
    have e : (((F ++ [x]).length : Int) - 1) = (F.length : Int) := by omega
    rw [e]; exact IntWalk.i64_in _ (by omega)
  clear hrow hx0 hb0 hm0 hm1 hs hv hnow
  have RA := alloc_keep
  generalize L.length = n at *
  generalize F.length = m at *
  generalize (L ++ y :: R).length = nk at *
  generalize (F ++ [x]).length = mk at *
  go_enter Tryz.func73, Tryz.ntmps73
  go_upto_region 1 with fail
  refine wp_region_ext (by kernel_rfl) (by kernel_rfl) ?_
  repeat (first
    | go_big_quiet_skip
    | (go_big_quiet_want
       unfold Oper.quiet
       apply Exists.intro
       refine ⟨fun w' hw' => ?_, ?_⟩
       focus
         have hcq := Ext.keep hw'
         go_simp
         first
           | with_reducible rfl
       (try dsimp only [Act.put])
       (try simp only [List.setIfInBounds_toArray, List.set_cons_succ, List.set_cons_zero])
       go_big_quiet_on))
  refine wpQuiet_nil ?_
  intro wq hq
  go_wp2_with fail
  go_ret
  exact ⟨rfl, hq⟩
end Go.Proofs.YtgahbngbpfilgaaGreat
end
section
set_option maxHeartbeats 4000000
set_option maxRecDepth 100000
namespace Go.Proofs.YtgahbngbpfilgaaGreat
open Go Go.RowKit
theorem src_given {w : World} {b o c : Nat} {v : Int} (h : w.cell? ⟨b, o, none⟩ = some (.int .i64 v)) : SrcSl w 1 (.slice (some ⟨b, o, none⟩) 1 c) 1 (ints [v]) := by
 refine ⟨_, _, rfl, by simp [ints], fun u hu => by simp [ints] at hu; subst hu; rfl, .inr ⟨_, rfl, fun j u hj => ?_⟩⟩
 cases j with
 | zero => simp [ints] at hj; subst hj; exact h
 | succ j => simp [ints] at hj
theorem engPush_at {P : PState} {L R : List PFiber} {y : PFiber} {F : List PFrame} {x : PFrame} {w : World} {B b eb : Nat} {p : List GFunc} {a : Option Addr} {cp lb lo lc : Nat} (h : OwnS w B b P) (hE : Eng w eb b p a cp) (hs : Spot P L y R F x) (hnow : P.now = (L.length : Int)) (v : Int) (hv : I64 v) (hlen : x.f.stack.length < 1000) (hc : w.cell? ⟨lb, lo, none⟩ = some (.int .i64 v)) :
  Calls Tryz.prog 74 #[.pointer (some ⟨eb, 0, none⟩), .slice (some ⟨lb, lo, none⟩) 1 lc] w fun e w' => e = .returned (.tuple #[]) ∧ (∃ v1, OwnS w' B b (replTop P L y R F ⟨{ x.f with stack := x.f.stack ++ [v] }, x.vl, v1⟩) ∧ (rowBlock v1 = rowBlock x.vs ∨ ∀ k, rowBlock v1 = some k → w.heap.size ≤ k)) ∧
   Chg (fun k => rowBlock y.vf = some k ∨ rowBlock x.vs = some k) w w' := by
 obtain ⟨g, o, cap, e1, hcap, hmax, -, -, -, d3, hbl⟩ := h.spot hs
 have hx := (h.fs y (by rw [hs.fs]; simp)).fr x (by rw [hs.fr]; simp)
 have H := Lib.hid h
 have HB : Hid (B ≤ w.heap.size) := Nat.le_trans h.le (Nat.le_of_lt h.c0.lt)
 have HX := Lib.hid hx
 have D3 := Lib.hid d3
 have HE1 := Lib.hid e1
 obtain ⟨i0, hi0, hz0, hz1, hz2⟩ := info_parts infoI
 have RA := alloc_keep
 obtain ⟨as_, cs, es, hcs, hms⟩ := hx.s.shape
 have HES := Lib.hid es
 have HENG := Lib.hid hE
 have HC := Lib.hid hc
 have HXS : Hid (RowAt w B 1 (.slice as_ x.f.stack.length cs) x.f.stack.length (ints x.f.stack)) := by unfold Hid; rw [← es]; exact hx.s
 have HGX : Hid (¬ rowBlock (.slice as_ x.f.stack.length cs) = some g) := by unfold Hid; rw [← es]; exact fun e => (h.sep hs).1 g hbl (by unfold PFrame.bl; simp [e])
 clear hc hE h hx d3 e1 hcap hmax es hcs hms
 go_enter Tryz.func74, Tryz.ntmps74
 go_upto_region 1 with (first
  | (go_at_call 73; (with_reducible refine (engTop_any H.out HENG.out hs HE1.out hnow).mono ?_); rintro e w2 ⟨rfl, hx2⟩))
 have HX2 := Lib.hid hx2
 obtain ⟨d3, d3'⟩ := D3.out.ext hx2
 rw [HES.out] at d3
 have HS2 : Hid (B ≤ w2.heap.size) := Nat.le_trans HB.out hx2.size
 clear hx2
 go_wp2_with (first
  | (at_builtin; refine wpList_append_row rfl _ _ 24 rfl B 3 i0 (.int .i64 0) 1 8 Tryz.underlying24 hi0 hz0 hz1 hz2 rfl (by decide) _ _ _ rfl (by exact (HXS.out.ext (HX2.out) (by decide))) 1 (ints [v]) (src_given (Ext.cell HX2.out HC.out)) (by unfold maxLen; omega) (by omega) (by exact Nat.le_trans HS2.out (Nat.le_refl _)) ?_; intro v1 Wv1 rv1; have RV := Lib.hid rv1; obtain ⟨k0, k0'⟩ := (D3.out.ext (HX2.out)).chg rv1.2.1 HGX.out; obtain ⟨a9, cap9, rfl, _, _⟩ := rv1.1.shape; clear rv1))
 go_end0
 have hRV : NewRow w2 Wv1 B 1 (.slice as_ x.f.stack.length cs) (.slice a9 (x.f.stack.length + 1) cap9) (x.f.stack.length + 1) (ints x.f.stack ++ ints [v]) := RV.out
 have hA : Ext w w2 := HX2.out
 obtain ⟨r1, r2, r3⟩ := hRV
 have hfin := H.out.stack hs HE1.out (W1 := Wv1) (st := x.f.stack ++ [v]) (v1 := .slice a9 (x.f.stack.length + 1) cap9)
  ((Chg.of_ext hA).trans (r2.mono (fun k _ e => by rw [HES.out]; exact e)))
  (by rw [List.length_append, List.length_singleton, ints_app]; exact r1) (fun k hk => by rcases List.mem_append.1 hk with h1 | h1; exact HX.out.i.2.2.2 k h1; rw [List.mem_singleton.1 h1]; exact hv)
  (by rw [List.length_append, List.length_singleton]; omega) (r3.imp (fun e => by rw [HES.out]; exact e) (fun e k hk => Nat.le_trans hA.size (e k hk)))
 exact ⟨rfl, ⟨_, hfin.1, r3.imp (fun e => by rw [HES.out]; exact e) (fun e k hk => Nat.le_trans hA.size (e k hk))⟩, hfin.2⟩
end Go.Proofs.YtgahbngbpfilgaaGreat
end
