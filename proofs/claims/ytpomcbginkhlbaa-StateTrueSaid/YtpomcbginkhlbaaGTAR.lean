/- Merged texts: contracts and plain facts, one part behind another; each part begins with what it says. -/
import Derived.Test.YtpomcbginkhlbaaGTAF
import Derived.Test.YtpomcbginkhlbaaGTAI
import Derived.Test.YtpomcbginkhlbaaGTAQ
import Derived.WalkSmall
section
/- The example program of the laws, and its contract. -/
set_option maxHeartbeats 1000000
set_option maxRecDepth 100000
namespace Go.Proofs.Ytpomcbginkhlbaa
open Go Go.RowKit

def countCode0 : List GOp := [⟨13, 1⟩, ⟨3, 0⟩, ⟨2, 0⟩, ⟨0, 7⟩, ⟨14, 0⟩, ⟨16, 0⟩, ⟨2, 0⟩, ⟨0, 0⟩, ⟨14, 0⟩, ⟨16, 0⟩, ⟨2, 0⟩, ⟨0, 0⟩, ⟨14, 0⟩, ⟨12, 0⟩]
def countCode1 : List GOp := [⟨2, 0⟩, ⟨15, 0⟩, ⟨1, 0⟩, ⟨2, 0⟩, ⟨0, 1⟩, ⟨11, 2⟩, ⟨15, 0⟩, ⟨1, 0⟩, ⟨0, 99⟩, ⟨12, 0⟩, ⟨0, 5⟩, ⟨9, 9⟩]
def countCode2 : List GOp := [⟨2, 0⟩, ⟨2, 1⟩, ⟨4, 0⟩, ⟨12, 0⟩]
/-- The example program. -/
def countP : List GFunc := [⟨0, 1, countCode0⟩, ⟨1, 1, countCode1⟩, ⟨2, 2, countCode2⟩]

theorem o_any (k a : Int) (w : World) :
    Calls Try.prog 37 #[.int .i64 k, .int .i64 a] w fun e w' => e = .returned (.agg #[.int .i64 k, .int .i64 a]) ∧ Ext w w' := by
  go_enter Try.func37, Try.ntmps37
  go_wp2
  exact bodyPost_ret (v := .agg #[.int .i64 k, .int .i64 a]) (by simp [results, Try.results37, go_sem]) rfl ⟨rfl, (Ext.refl _).alloc _⟩

/-- What count hands back: four new blocks, each known whole. -/
def CountIs (w w' : World) (v : Value) : Prop := ∃ g c0 c1 c2 : Nat, v = .slice (some ⟨g, 0, none⟩) 3 3 ∧ w.heap.size ≤ c0 ∧ c0 < c1 ∧ c1 < c2 ∧ c2 < g ∧
  w'.heap[c0]? = some (.cells #[.int .i64 13, .int .i64 1, .int .i64 3, .int .i64 0, .int .i64 2, .int .i64 0, .int .i64 0, .int .i64 7, .int .i64 14, .int .i64 0, .int .i64 16, .int .i64 0, .int .i64 2, .int .i64 0, .int .i64 0, .int .i64 0, .int .i64 14, .int .i64 0, .int .i64 16, .int .i64 0, .int .i64 2, .int .i64 0, .int .i64 0, .int .i64 0, .int .i64 14, .int .i64 0, .int .i64 12, .int .i64 0] 58 (0, 0)) ∧
  w'.heap[c1]? = some (.cells #[.int .i64 2, .int .i64 0, .int .i64 15, .int .i64 0, .int .i64 1, .int .i64 0, .int .i64 2, .int .i64 0, .int .i64 0, .int .i64 1, .int .i64 11, .int .i64 2, .int .i64 15, .int .i64 0, .int .i64 1, .int .i64 0, .int .i64 0, .int .i64 99, .int .i64 12, .int .i64 0, .int .i64 0, .int .i64 5, .int .i64 9, .int .i64 9] 58 (0, 0)) ∧
  w'.heap[c2]? = some (.cells #[.int .i64 2, .int .i64 0, .int .i64 2, .int .i64 1, .int .i64 4, .int .i64 0, .int .i64 12, .int .i64 0] 58 (0, 0)) ∧
  w'.heap[g]? = some (.cells #[.int .i64 0, .int .i64 1, .slice (some ⟨c0, 0, none⟩) 14 14, .int .i64 1, .int .i64 1, .slice (some ⟨c1, 0, none⟩) 12 12, .int .i64 2, .int .i64 2, .slice (some ⟨c2, 0, none⟩) 4 4] 25 (0, 0))

theorem count_any (w : World) :
    Calls Try.prog 36 #[] w fun e w' => (∃ v, e = .returned v ∧ CountIs w w' v) ∧ Ext w w' := by
  go_enter Try.func36, Try.ntmps36
  go_wp2_with (first
    | (go_at_call 37; refine (o_any _ _ _).mono ?_; rintro e w1 ⟨rfl, hb⟩))
  go_ret
  refine ⟨⟨_, rfl, ?_⟩, ?_⟩
  · refine ⟨_, _, _, _, rfl, ?_, ?_, ?_, ?_, ?_, ?_, heap_alloc2_old _ _ _, heap_alloc2_new _ _ _⟩
    · (repeat (first | exact Nat.le_refl _ | refine Nat.le_trans ?_ (Ext.size (by assumption)) | refine Nat.le_trans ?_ (Ext.size ((Ext.refl _).alloc _))))
    · show _ + 1 ≤ _
      (repeat (first | (simp; done) | refine Nat.le_trans ?_ (Ext.size (by assumption)) | refine Nat.le_trans ?_ (Ext.size ((Ext.refl _).alloc _))))
    · show _ + 1 ≤ _
      (repeat (first | (simp; done) | refine Nat.le_trans ?_ (Ext.size (by assumption)) | refine Nat.le_trans ?_ (Ext.size ((Ext.refl _).alloc _))))
    · omega
    · refine Ext.heap (((Ext.refl _).alloc _).alloc _) ?_
      (repeat (first | exact heap_alloc_new _ _ | refine Ext.heap (by assumption) ?_ | refine Ext.heap ((Ext.refl _).alloc _) ?_))
    · refine Ext.heap (((Ext.refl _).alloc _).alloc _) ?_
      (repeat (first | exact heap_alloc_new _ _ | refine Ext.heap (by assumption) ?_ | refine Ext.heap ((Ext.refl _).alloc _) ?_))
  · ((repeat (first | assumption | exact Ext.refl _ | (exact And.left (by assumption)) | refine Ext.alloc ?_ _ | refine Ext.drew ?_ | refine Ext.drewN ?_ _ | refine Ext.setCell ?_ (by simp) _ | refine Ext.setCell ?_ (by simp; omega) _ | refine Ext.trans ?_ (by assumption))); done)

/-- A slice of ops out of a block that is known whole. -/
def opCells : List GOp → List Value
  | [] => []
  | x :: l => .int .i64 x.kind :: .int .i64 x.a :: opCells l

theorem opCells_at : ∀ (l : List GOp) (i : Nat) (h : i < l.length), (opCells l)[i * 2]? = some (.int .i64 l[i].kind) ∧ (opCells l)[i * 2 + 1]? = some (.int .i64 l[i].a)
  | [], i, h => absurd h (by simp)
  | x :: l, 0, _ => ⟨rfl, rfl⟩
  | x :: l, i + 1, h => by
    have := opCells_at l i (by simpa using h)
    rw [show (i + 1) * 2 = i * 2 + 2 by omega]
    exact this

theorem ops_of_block {w : World} {S : Nat → Prop} {c : Nat} {cs : Array Value} {t : TypeId} {fr : Nat × Nat} (l : List GOp) (hc : w.heap[c]? = some (.cells cs t fr)) (hl : cs.toList = opCells l)
    (hS : S c) (hI : ∀ x ∈ l, I64 x.kind ∧ I64 x.a) (hlen : l.length * 16 ≤ 140737488355328) : Ops w S (.slice (some ⟨c, 0, none⟩) l.length l.length) l := by
  refine ⟨_, _, rfl, Nat.le_refl _, ⟨hlen, by omega⟩, fun i hi => ⟨c, 0, rfl, ?_⟩⟩
  obtain ⟨h0, h1⟩ := opCells_at l i hi
  have hx := hI _ (List.getElem_mem hi)
  refine ⟨⟨hS, ?_, hx.1⟩, hS, ?_, hx.2⟩
  · rw [cell_of_row w c _ cs t fr hc, ← Array.getElem?_toList, hl, Nat.zero_add]; exact h0
  · rw [cell_of_row w c _ cs t fr hc, ← Array.getElem?_toList, hl, Nat.zero_add]; exact h1

theorem ops_small (l : List GOp) (h : ∀ x ∈ l, (-1000 ≤ x.kind ∧ x.kind ≤ 1000) ∧ -1000 ≤ x.a ∧ x.a ≤ 1000) : ∀ x ∈ l, I64 x.kind ∧ I64 x.a := fun x hx =>
  ⟨I64.small (by have := (h x hx).1.1; omega) (by have := (h x hx).1.2; omega), I64.small (by have := (h x hx).2.1; omega) (by have := (h x hx).2.2; omega)⟩

theorem CountIs.funcs {w w' : World} {v : Value} (h : CountIs w w' v) : Funcs w' (fun _ => True) v countP := by
  obtain ⟨g, c0, c1, c2, rfl, _, _, _, _, h0, h1, h2, hg⟩ := h
  have f0 := ops_of_block (S := fun _ => True) countCode0 h0 rfl trivial (ops_small _ (by decide)) (by decide)
  have f1 := ops_of_block (S := fun _ => True) countCode1 h1 rfl trivial (ops_small _ (by decide)) (by decide)
  have f2 := ops_of_block (S := fun _ => True) countCode2 h2 rfl trivial (ops_small _ (by decide)) (by decide)
  have cell := fun j => cell_of_row w' g j _ _ _ hg
  refine ⟨_, _, rfl, Nat.le_refl _, by decide, fun i hi => ⟨g, 0, rfl, ?_⟩⟩
  match i, hi with
  | 0, _ => exact ⟨⟨trivial, cell _, I64.small (by simp [countP]) (by simp [countP])⟩, ⟨trivial, cell _, I64.small (by simp [countP]) (by simp [countP])⟩, _, cell _, f0⟩
  | 1, _ => exact ⟨⟨trivial, cell _, I64.small (by simp [countP]) (by simp [countP])⟩, ⟨trivial, cell _, I64.small (by simp [countP]) (by simp [countP])⟩, _, cell _, f1⟩
  | 2, _ => exact ⟨⟨trivial, cell _, I64.small (by simp [countP]) (by simp [countP])⟩, ⟨trivial, cell _, I64.small (by simp [countP]) (by simp [countP])⟩, _, cell _, f2⟩

end Go.Proofs.Ytpomcbginkhlbaa
end
section
/- The document's RunOf, of states that fit; after: a state that comes of count(). -/
set_option maxHeartbeats 4000000
set_option maxRecDepth 100000
namespace Go.Proofs.Ytpomcbginkhlbaa
open Go Go.RowKit

def runOfG (p : List GFunc) (s : GState) (fuel : Int) : GState × Int × Int :=
  if ¬ (0 ≤ fuel ∧ fuel ≤ 500) then (⟨[], 0, []⟩, 0, 3) else if stateErr p s ≠ 0 then (⟨[], 0, []⟩, 0, stateErr p s) else runG p fuel.toNat s

theorem runOf_any (p : List GFunc) (v : Value) (S T : Nat → Prop) (s : GState) (vs : Value) (fuel : Int) (w : World) (hp : Funcs w S v p) (hs : StateV w T vs s) (hfit : 0 ≤ fuel → fuel ≤ 500 → stateErr p s = 0 → RunFit p fuel.toNat s) :
    Calls Try.prog 65 #[v, vs, .int .i64 fuel] w fun e w' => (∃ x, e = .returned (.tuple #[x, .int .i64 (runOfG p s fuel).2.1, .int .i64 (runOfG p s fuel).2.2]) ∧ StateO w' w.heap.size x (runOfG p s fuel).1) ∧ Ext w w' := by
  have HP := Lib.hid hp
  have HS := Lib.hid hs
  obtain ⟨a, c, b, d, rfl⟩ := hs.few
  obtain ⟨ap, cp, rfl, _, _, _⟩ := hp
  have RA := alloc_keep
  have hs0 : (w.alloc (.cells #[.slice a s.fibers.length c, .int .i64 s.now, .slice b s.out.length d] 43)).heap.size = w.heap.size + 1 := Array.size_push _
  have r0 := Cx.new (w.alloc (.cells #[.slice a s.fibers.length c, .int .i64 s.now, .slice b s.out.length d] 43)) [.slice none 0 0, .int .i64 0, .slice none 0 0] 43 (j := 0) rfl
  have r1 := Cx.new (w.alloc (.cells #[.slice a s.fibers.length c, .int .i64 s.now, .slice b s.out.length d] 43)) [.slice none 0 0, .int .i64 0, .slice none 0 0] 43 (j := 1) rfl
  have r2 := Cx.new (w.alloc (.cells #[.slice a s.fibers.length c, .int .i64 s.now, .slice b s.out.length d] 43)) [.slice none 0 0, .int .i64 0, .slice none 0 0] 43 (j := 2) rfl
  rw [hs0] at r0 r1 r2
  have HR := Lib.hid (⟨r0, r1, r2⟩ : _ ∧ _ ∧ _)
  have HQ := Lib.hid (⟨(Cx.new w [.slice a s.fibers.length c, .int .i64 s.now, .slice b s.out.length d] 43 (j := 0) rfl).ext ((Ext.refl _).alloc (.cells #[.slice none 0 0, .int .i64 0, .slice none 0 0] 43)), (Cx.new w [.slice a s.fibers.length c, .int .i64 s.now, .slice b s.out.length d] 43 (j := 1) rfl).ext ((Ext.refl _).alloc (.cells #[.slice none 0 0, .int .i64 0, .slice none 0 0] 43)), (Cx.new w [.slice a s.fibers.length c, .int .i64 s.now, .slice b s.out.length d] 43 (j := 2) rfl).ext ((Ext.refl _).alloc (.cells #[.slice none 0 0, .int .i64 0, .slice none 0 0] 43))⟩ : _ ∧ _ ∧ _)
  have HE1 : Hid (Ext w ((w.alloc (.cells #[.slice a s.fibers.length c, .int .i64 s.now, .slice b s.out.length d] 43)).alloc (.cells #[.slice none 0 0, .int .i64 0, .slice none 0 0] 43))) := ((Ext.refl w).alloc _).alloc _
  have HS1 : Hid (((w.alloc (.cells #[.slice a s.fibers.length c, .int .i64 s.now, .slice b s.out.length d] 43)).alloc (.cells #[.slice none 0 0, .int .i64 0, .slice none 0 0] 43)).heap.size = w.heap.size + 2) := by unfold Hid; simp
  clear hs0 r0 r1 r2
  by_cases hfu : 0 ≤ fuel ∧ fuel ≤ 500
  · have HW : Hid (decide (0 ≤ fuel ∧ fuel ≤ 500) = true) := decide_eq_true hfu
    obtain ⟨fn, hfn⟩ : ∃ n : Nat, fuel = n := ⟨fuel.toNat, by omega⟩
    subst hfn
    by_cases hz : stateErr p s = 0
    · have HG : Hid (runOfG p s fn = runG p fn s) := by unfold Hid runOfG; rw [if_neg (fun h => h hfu), if_neg (fun h => h hz), Int.toNat_natCast]
      have HFIT : Hid (RunFit p fn s) := by have := hfit hfu.1 hfu.2 hz; rwa [Int.toNat_natCast] at this
      have HZ := Lib.hid hz
      clear hz hfit
      go_enter Try.func65, Try.ntmps65
      go_wp2_with (first
        | (go_at_call 46; (with_reducible refine (within_any _ _ _ _).mono ?_); rintro e w4 ⟨rfl, rfl⟩; rw [HW.out])
        | (go_at_call 26; (with_reducible refine (stateError_any p _ _ _ s _ _ (Funcs.stays (Ext.stays (by ((repeat (first | assumption | exact Ext.refl _ | (exact And.left (by assumption)) | refine Ext.alloc ?_ _ | refine Ext.drew ?_ | refine Ext.drewN ?_ _ | refine Ext.setCell ?_ (by simp) _ | refine Ext.setCell ?_ (by simp; omega) _ | refine Ext.trans ?_ (by assumption))); done))) HP.out) (StateV.stays (Ext.stays (by ((repeat (first | assumption | exact Ext.refl _ | (exact And.left (by assumption)) | refine Ext.alloc ?_ _ | refine Ext.drew ?_ | refine Ext.drewN ?_ _ | refine Ext.setCell ?_ (by simp) _ | refine Ext.setCell ?_ (by simp; omega) _ | refine Ext.trans ?_ (by assumption))); done))) HS.out)).mono ?_); rintro e w5 ⟨rfl, hx5⟩; rw [HZ.out]; obtain ⟨q0, q0'⟩ := (HQ.out).1.ext hx5; obtain ⟨q1, q1'⟩ := (HQ.out).2.1.ext hx5; obtain ⟨q2, q2'⟩ := (HQ.out).2.2.ext hx5; have HX5 := Lib.hid hx5; clear hx5)
        | (go_at_call 79; (with_reducible refine (run_any p _ _ _ s _ fn _ (Funcs.stays (Ext.stays (HE1.out.trans HX5.out)) HP.out) (StateV.stays (Ext.stays (HE1.out.trans HX5.out)) HS.out) HFIT.out (by omega)).mono ?_); rintro e w6 ⟨⟨x, rfl, hx⟩, hx6⟩; have HXS := Lib.hid hx; obtain ⟨ax, cx, bx, dx, rfl⟩ := hx.few; obtain ⟨z0, z0'⟩ := (HR.out).1.ext (HX5.out.trans hx6); obtain ⟨z1, z1'⟩ := (HR.out).2.1.ext (HX5.out.trans hx6); obtain ⟨z2, z2'⟩ := (HR.out).2.2.ext (HX5.out.trans hx6); have HX6 := Lib.hid hx6; clear hx hx6))
      refine bodyPost_ret (results_cell3 rfl _ _ (w.heap.size + 1) 0 _ _ rfl (box3 ⟨z0, z0'⟩ ⟨z1, z1'⟩ ⟨z2, z2'⟩ _ _ _) rfl rfl (by kernel_rfl)) rfl ?_
      rw [HG.out]
      exact ⟨⟨_, rfl, ret_state (HXS.out.mono (by have h2 := (HX5.out).size; have h3 := HS1.out; omega)) _ _ _⟩, ret_ext ((HE1.out.trans HX5.out).trans HX6.out) _ _ _⟩
    · have HG : Hid (runOfG p s fn = (⟨[], 0, []⟩, 0, stateErr p s)) := by unfold Hid runOfG; rw [if_neg (fun h => h hfu), if_pos hz]
      have TE : (stateErr p s != 0) = true := bne_iff_ne.2 hz
      obtain ⟨re, hre⟩ : ∃ re, stateErr p s = re := ⟨_, rfl⟩
      rw [hre] at TE HG
      have HRE := Lib.hid hre
      clear hz hfit hre
      go_enter Try.func65, Try.ntmps65
      go_wp2_with (first
        | (go_at_call 46; (with_reducible refine (within_any _ _ _ _).mono ?_); rintro e w4 ⟨rfl, rfl⟩; rw [HW.out])
        | (go_at_call 26; (with_reducible refine (stateError_any p _ _ _ s _ _ (Funcs.stays (Ext.stays (by ((repeat (first | assumption | exact Ext.refl _ | (exact And.left (by assumption)) | refine Ext.alloc ?_ _ | refine Ext.drew ?_ | refine Ext.drewN ?_ _ | refine Ext.setCell ?_ (by simp) _ | refine Ext.setCell ?_ (by simp; omega) _ | refine Ext.trans ?_ (by assumption))); done))) HP.out) (StateV.stays (Ext.stays (by ((repeat (first | assumption | exact Ext.refl _ | (exact And.left (by assumption)) | refine Ext.alloc ?_ _ | refine Ext.drew ?_ | refine Ext.drewN ?_ _ | refine Ext.setCell ?_ (by simp) _ | refine Ext.setCell ?_ (by simp; omega) _ | refine Ext.trans ?_ (by assumption))); done))) HS.out)).mono ?_); rintro e w5 ⟨rfl, hx5⟩; rw [HRE.out]; obtain ⟨z0, z0'⟩ := (HR.out).1.ext hx5; obtain ⟨z1, z1'⟩ := (HR.out).2.1.ext hx5; obtain ⟨z2, z2'⟩ := (HR.out).2.2.ext hx5; have HX5 := Lib.hid hx5; clear hx5))
      refine bodyPost_ret (results_cell3 rfl _ _ (w.heap.size + 1) 0 _ _ rfl (box3 ⟨z0, z0'⟩ ⟨z1, z1'⟩ ⟨z2, z2'⟩ _ _ _) rfl rfl (by kernel_rfl)) rfl ?_
      rw [HG.out]
      exact ⟨⟨_, rfl, stateO_nil _ _⟩, ret_ext (HE1.out.trans HX5.out) _ _ _⟩
  · have HW : Hid (decide (0 ≤ fuel ∧ fuel ≤ 500) = false) := decide_eq_false hfu
    have HG : Hid (runOfG p s fuel = (⟨[], 0, []⟩, 0, 3)) := by unfold Hid runOfG; rw [if_pos hfu]
    obtain ⟨⟨z0, z0'⟩, ⟨z1, z1'⟩, ⟨z2, z2'⟩⟩ := HR.out
    clear hfu hfit
    go_enter Try.func65, Try.ntmps65
    go_wp2_with (first
      | (go_at_call 46; (with_reducible refine (within_any _ _ _ _).mono ?_); rintro e w4 ⟨rfl, rfl⟩; rw [HW.out]))
    refine bodyPost_ret (results_cell3 rfl _ _ (w.heap.size + 1) 0 [.slice none 0 0, .int .i64 0, .slice none 0 0] _ rfl (range3 z0 z1 z2) rfl rfl (by kernel_rfl)) rfl ?_
    rw [HG.out]
    exact ⟨⟨_, rfl, stateO_nil _ _⟩, HE1.out⟩

def afterG (n : Int) : GState := (runOfG countP (beginG countP) n).1
theorem after_any (v : Value) (S : Nat → Prop) (n : Int) (w : World) (hv : Funcs w S v countP) (hn : RunFit countP n.toNat (beginG countP)) (hz : progErr countP = 0) :
    Calls Try.prog 43 #[v, .int .i64 n] w fun e w' => (∃ x, e = .returned x ∧ StateO w' w.heap.size x (afterG n)) ∧ Ext w w' := by
  have HV := Lib.hid hv
  obtain ⟨ap, cp, rfl, _, _, _⟩ := hv
  have RA := alloc_keep
  have HR := Lib.hid (⟨Cx.new w [.slice none 0 0, .int .i64 0, .slice none 0 0] 43 (j := 0) rfl, Cx.new w [.slice none 0 0, .int .i64 0, .slice none 0 0] 43 (j := 1) rfl, Cx.new w [.slice none 0 0, .int .i64 0, .slice none 0 0] 43 (j := 2) rfl⟩ : _ ∧ _ ∧ _)
  have HZ := Lib.hid hz
  have HN := Lib.hid hn
  clear hz hn
  go_enter Try.func43, Try.ntmps43
  go_wp2_with (first
    | (go_at_call 22; (with_reducible refine (beginOf_any countP _ _ _ (Funcs.stays (Ext.stays (by ((repeat (first | assumption | exact Ext.refl _ | (exact And.left (by assumption)) | refine Ext.alloc ?_ _ | refine Ext.drew ?_ | refine Ext.drewN ?_ _ | refine Ext.setCell ?_ (by simp) _ | refine Ext.setCell ?_ (by simp; omega) _ | refine Ext.trans ?_ (by assumption))); done))) HV.out) HZ.out).mono ?_); rintro e w2 ⟨⟨x, rfl, hx⟩, hx2⟩; have HXS := Lib.hid hx; have HX2 := Lib.hid (((Ext.refl w).alloc (.cells #[.slice none 0 0, .int .i64 0, .slice none 0 0] 43)).trans hx2); have HXX2 := Lib.hid hx2; clear hx hx2)
    | (go_at_call 65; (with_reducible refine (runOf_any countP _ _ _ (beginG countP) _ n _ (Funcs.stays (Ext.stays HX2.out) HV.out) HXS.out (fun _ _ _ => HN.out)).mono ?_); rintro e w3 ⟨⟨y, rfl, hy⟩, hx3⟩; have HYS := Lib.hid hy; obtain ⟨ax, cx, bx, dx, rfl⟩ := hy.few; obtain ⟨z0, z0'⟩ := (HR.out).1.ext (HXX2.out.trans (hx3.alloc (.cells #[.slice ax (runOfG countP (beginG countP) n).1.fibers.length cx, .int .i64 (runOfG countP (beginG countP) n).1.now, .slice bx (runOfG countP (beginG countP) n).1.out.length dx] 43))); obtain ⟨z1, z1'⟩ := (HR.out).2.1.ext (HXX2.out.trans (hx3.alloc (.cells #[.slice ax (runOfG countP (beginG countP) n).1.fibers.length cx, .int .i64 (runOfG countP (beginG countP) n).1.now, .slice bx (runOfG countP (beginG countP) n).1.out.length dx] 43))); obtain ⟨z2, z2'⟩ := (HR.out).2.2.ext (HXX2.out.trans (hx3.alloc (.cells #[.slice ax (runOfG countP (beginG countP) n).1.fibers.length cx, .int .i64 (runOfG countP (beginG countP) n).1.now, .slice bx (runOfG countP (beginG countP) n).1.out.length dx] 43))); have HX3 := Lib.hid hx3; clear hy hx3))
  refine bodyPost_ret (results_cell_mid rfl _ _ w.heap.size 0 _ _ rfl (box3 ⟨z0, z0'⟩ ⟨z1, z1'⟩ ⟨z2, z2'⟩ _ _ _) rfl rfl (by kernel_rfl)) rfl ?_
  have h12 : w.heap.size + 1 ≤ w2.heap.size := by have h := (HXX2.out).size; simpa using h
  refine ⟨⟨_, rfl, ((HYS.out.ext ((Ext.refl w3).alloc _)).chg (chg3 _ w.heap.size _ _ _) (fun g hg e => by have h2 : g = w.heap.size := e; omega)).mono (by omega)⟩, ((((HX2.out.trans HX3.out).alloc _).setCell (p := ⟨w.heap.size, 0, none⟩) (Nat.le_refl _) _).setCell (p := ⟨w.heap.size, 1, none⟩) (Nat.le_refl _) _).setCell (p := ⟨w.heap.size, 2, none⟩) (Nat.le_refl _) _⟩

theorem count_right : progErr countP = 0 := by decide
theorem fit_1 : RunFit countP 1 (beginG countP) := by decide
theorem fit_4 : RunFit countP 4 (beginG countP) := by decide
theorem fit_6 : RunFit countP 6 (beginG countP) := by decide
theorem fit_7 : RunFit countP 7 (beginG countP) := by decide
theorem fit_99 : RunFit countP 99 (beginG countP) := by decide
end Go.Proofs.Ytpomcbginkhlbaa
end
section
/- Contracts of slices.Index and slices.Contains at bools (of false), and of must: it panics where one is false. -/
set_option maxHeartbeats 2000000
set_option maxRecDepth 100000
namespace Go.Proofs.Ytpomcbginkhlbaa
open Go Go.RowKit

theorem Bools.at' {w : World} {S : Nat → Prop} {a : Option Addr} {l : List Bool} {n c : Nat} (h : Bools w S (.slice a n c) l) {m : Nat} (hm : m < l.length) : ∃ b o, a = some ⟨b, o, none⟩ ∧ w.cell? ⟨b, o + m, none⟩ = some (.bool l[m]) := by
  obtain ⟨b, o, _, e1, _, _, _, x0⟩ := h.get hm
  simp only [Value.slice.injEq] at e1
  obtain ⟨rfl, -, rfl⟩ := e1
  rw [Nat.mul_one] at x0
  exact ⟨b, o, rfl, x0⟩

theorem indexB_any (l : List Bool) (v : Value) (S : Nat → Prop) (w : World) (hl : Bools w S v l) :
    Calls Try.prog 89 #[v, .bool false] w fun e w' => (∃ i : Int, e = .returned (.int .i64 i) ∧ (0 ≤ i ↔ false ∈ l)) ∧ Ext w w' := by
  have HL := Lib.hid hl
  obtain ⟨pa, ca, rfl, hca, hba, _⟩ := hl
  go_enter Try.func89, Try.ntmps89
  go_wp2_with fail
  go_loopw [8] (fun q wr => ∃ k : Nat, k ≤ l.length ∧ q = .int .i64 k ∧ Ext w wr ∧ false ∉ l.take k) (fun q _ => l.length - (intOf q).toNat)
  case atStart => exact ⟨0, Nat.zero_le _, rfl, Ext.refl _, by simp⟩
  case round =>
    obtain ⟨k, hk, rfl, hb3, htk⟩ := hrel
    have HB3 := Lib.hid hb3
    have HTK := Lib.hid htk
    clear hb3 htk
    by_cases hlt : k < l.length
    · obtain ⟨ba, oa, rfl, x0⟩ := HL.out.at' hlt
      have x1 := Ext.cell HB3.out x0
      have HM : Hid (l[k] ∈ l) := List.getElem_mem hlt
      have HS : Hid (l.take (k + 1) = l.take k ++ [l[k]]) := List.take_succ_eq_append_getElem hlt
      clear x0
      generalize l[k] = u at *
      cases u with
      | false =>
        go_wp2_with fail
        go_ret
        exact ⟨⟨k, rfl, ⟨fun _ => HM.out, fun _ => by omega⟩⟩, HB3.out⟩
      | true =>
        have HX : Hid (false ∉ l.take (k + 1)) := by unfold Hid; rw [HS.out, List.mem_append, List.mem_singleton]; exact fun h => h.elim HTK.out (by decide)
        go_wp2_with fail
        go_roundw
        case rel => exact ⟨k + 1, by omega, by go_num, HB3.out, HX.out⟩
        case measure => simp [intOf]; omega
    · obtain rfl : k = l.length := by omega
      have HX : Hid (false ∉ l) := by have := HTK.out; rwa [List.take_length] at this
      go_wp2_with fail
      go_ret
      exact ⟨⟨-1, rfl, ⟨fun h => by omega, fun h => (HX.out h).elim⟩⟩, HB3.out⟩

theorem containsB_any (l : List Bool) (v : Value) (S : Nat → Prop) (w : World) (hl : Bools w S v l) :
    Calls Try.prog 80 #[v, .bool false] w fun e w' => e = .returned (.bool (decide (false ∈ l))) ∧ Ext w w' := by
  have HL := Lib.hid hl
  obtain ⟨pa, ca, rfl, hca, hba, _⟩ := hl
  obtain ⟨t, ht⟩ : ∃ t, decide (false ∈ l) = t := ⟨_, rfl⟩
  rw [ht]
  have HT := Lib.hid ht
  clear ht
  go_enter Try.func80, Try.ntmps80
  go_wp2_with (first
    | (go_at_call 89; (with_reducible refine (indexB_any l _ S _ HL.out).mono ?_); rintro e w2 ⟨⟨i, rfl, hi⟩, hx⟩; have HI := Lib.hid hi; clear hi))
  go_ret
  refine ⟨?_, hx⟩
  exact congrArg (fun b => Ending.returned (.bool b)) ((decide_eq_decide.2 HI.out).trans HT.out)

/-- The panic of an error. -/
def refusal (r : Int) : List PanicEntry := [{ v := .iface 73 (.agg #[.int .i64 r]), recovered := false }]

theorem must_ok (l : List Bool) (r : Int) (v : Value) (S : Nat → Prop) (w : World) (hl : Bools w S v l) (h : false ∉ l) :
    Calls Try.prog 66 #[.int .i64 r, v] w fun e w' => e = .returned (.tuple #[]) ∧ Ext w w' := by
  have HL := Lib.hid hl
  have HT : Hid (decide (false ∈ l) = false) := decide_eq_false h
  obtain ⟨pa, ca, rfl, _, _, _⟩ := hl
  clear h
  go_enter Try.func66, Try.ntmps66
  go_wp2_with (first
    | (go_at_call 80; (with_reducible refine (containsB_any l _ S _ HL.out).mono ?_); rintro e w2 ⟨rfl, hx⟩; rw [HT.out]))
  go_end0
  exact ⟨rfl, hx⟩
theorem must_bad (l : List Bool) (r : Int) (v : Value) (S : Nat → Prop) (w : World) (hl : Bools w S v l) (h : false ∈ l) :
    Calls Try.prog 66 #[.int .i64 r, v] w fun e w' => e = .panicked (refusal r) ∧ Ext w w' := by
  have HL := Lib.hid hl
  have hpn := @run_panic_iface Try.prog
  have HT : Hid (decide (false ∈ l) = true) := decide_eq_true h
  obtain ⟨pa, ca, rfl, _, _, _⟩ := hl
  clear h
  go_enter Try.func66, Try.ntmps66
  go_wp2_with (first
    | (go_at_call 80; (with_reducible refine (containsB_any l _ S _ HL.out).mono ?_); rintro e w2 ⟨rfl, hx⟩; rw [HT.out]))
  exact ⟨rfl, rfl, hx⟩

/-- How must ends. -/
def mustE (c : Bool) (r : Int) : Ending := match c with
  | true => .returned (.tuple #[])
  | false => .panicked (refusal r)

theorem must_all (l : List Bool) (r : Int) (v : Value) (S : Nat → Prop) (w : World) (hl : Bools w S v l) (c : Bool) (hc : c = l.all id) :
    Calls Try.prog 66 #[.int .i64 r, v] w fun e w' => e = mustE c r ∧ Ext w w' := by
  cases c with
  | true => exact must_ok l r v S w hl (fun h => by
      have h2 := List.all_eq_true.1 hc.symm _ h
      cases h2)
  | false => exact must_bad l r v S w hl (by
      have h2 : ¬ l.all id = true := by rw [← hc]; decide
      rw [List.all_eq_true] at h2
      refine Classical.byContradiction fun h3 => h2 fun x hx => ?_
      cases x with
      | true => rfl
      | false => exact absurd hx h3)

theorem bools_new (w : World) (l : List Bool) (t : TypeId) (hl : l.length ≤ 1000) : Bools (w.alloc (.cells (l.map Value.bool).toArray t)) (fun _ => True) (.slice (some ⟨w.heap.size, 0, none⟩) l.length l.length) l := by
  refine ⟨_, _, rfl, Nat.le_refl _, ⟨by omega, by omega⟩, fun i hi => ⟨w.heap.size, 0, rfl, trivial, ?_⟩⟩
  rw [Nat.mul_one, Nat.zero_add, World.cell?_alloc_new, List.getElem?_toArray, List.getElem?_map, List.getElem?_eq_getElem hi]
  rfl

theorem must1 (a : Bool) (r : Int) (w : World) (t : TypeId) : Calls Try.prog 66 #[.int .i64 r, .slice (some ⟨w.heap.size, 0, none⟩) 1 1] (w.alloc (.cells #[.bool a] t)) fun e w' => e = mustE a r ∧ Ext (w.alloc (.cells #[.bool a] t)) w' :=
  must_all [a] r _ _ _ (bools_new w [a] t (by simp)) a (by simp)
theorem must2 (a b : Bool) (r : Int) (w : World) (t : TypeId) : Calls Try.prog 66 #[.int .i64 r, .slice (some ⟨w.heap.size, 0, none⟩) 2 2] (w.alloc (.cells #[.bool a, .bool b] t)) fun e w' => e = mustE (a && b) r ∧ Ext (w.alloc (.cells #[.bool a, .bool b] t)) w' :=
  must_all [a, b] r _ _ _ (bools_new w [a, b] t (by simp)) _ (by simp)
theorem must3 (a b c : Bool) (r : Int) (w : World) (t : TypeId) : Calls Try.prog 66 #[.int .i64 r, .slice (some ⟨w.heap.size, 0, none⟩) 3 3] (w.alloc (.cells #[.bool a, .bool b, .bool c] t)) fun e w' => e = mustE (a && b && c) r ∧ Ext (w.alloc (.cells #[.bool a, .bool b, .bool c] t)) w' :=
  must_all [a, b, c] r _ _ _ (bools_new w [a, b, c] t (by simp)) _ (by simp [Bool.and_assoc])
end Go.Proofs.Ytpomcbginkhlbaa
end
