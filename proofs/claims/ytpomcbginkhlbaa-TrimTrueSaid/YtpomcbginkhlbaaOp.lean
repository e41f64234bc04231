/- Contracts of package op and of the document's answers on ops. -/
import Derived.Test.YtpomcbginkhlbaaProg
import Derived.Test.YtpomcbginkhlbaaBase
set_option maxHeartbeats 400000
set_option maxRecDepth 100000
namespace Go.Proofs.Ytpomcbginkhlbaa
open Go Go.RowKit

theorem known_any (k : Int) (w : World) :
    Calls Try.prog 50 #[.int .i64 k] w fun e w' => e = .returned (.bool (knownB k)) ∧ w = w' := by
  unfold knownB
  go_enter Try.func50, Try.ntmps50
  go_wp2
  all_goals (go_ret; refine ⟨ret_bool ?_, rfl⟩; rw [Bool.eq_iff_iff]; simp <;> omega)

theorem within_any (k a b : Int) (w : World) :
    Calls Try.prog 46 #[.int .i64 k, .int .i64 a, .int .i64 b] w fun e w' => e = .returned (.bool (decide (a ≤ k ∧ k ≤ b))) ∧ w = w' := by
  go_enter Try.func46, Try.ntmps46
  go_wp2
  all_goals (go_ret; refine ⟨ret_bool ?_, rfl⟩; rw [Bool.eq_iff_iff]; simp <;> omega)

theorem sized_any (a l : Int) (s : Value) (code : List GOp) (w : World) :
    Calls Try.prog 56 #[.agg #[.int .i64 a, .int .i64 l, s]] w fun e w' => e = .returned (.bool (sizedB ⟨a, l, code⟩)) ∧ Ext w w' := by
  unfold sizedB
  go_enter Try.func56, Try.ntmps56
  go_wp2
  all_goals (go_ret; refine ⟨ret_bool ?_, (Ext.refl _).alloc _⟩; rw [Bool.eq_iff_iff]; simp <;> omega)

theorem badArgs_any (a l : Int) (s : Value) (code : List GOp) (w : World) :
    Calls Try.prog 61 #[.agg #[.int .i64 a, .int .i64 l, s]] w fun e w' => e = .returned (.bool (!sizedB ⟨a, l, code⟩)) ∧ Ext w w' := by
  unfold sizedB
  go_enter Try.func61, Try.ntmps61
  go_wp2
  all_goals (go_ret; refine ⟨ret_bool ?_, (Ext.refl _).alloc _⟩; rw [Bool.eq_iff_iff]; simp <;> omega)

/-- The table of kinds, as cells. -/
def kindRow : Array Value := #[.int .i64 0, .int .i64 1, .func (.func 73) #[] #[], .int .i64 1, .int .i64 0, .func (.func 72) #[] #[], .int .i64 0, .int .i64 1, .func (.func 74) #[] #[], .int .i64 1, .int .i64 0, .func (.func 74) #[] #[], .int .i64 2, .int .i64 1, .func (.func 72) #[] #[], .int .i64 2, .int .i64 1, .func (.func 72) #[] #[], .int .i64 2, .int .i64 1, .func (.func 72) #[] #[], .int .i64 2, .int .i64 1, .func (.func 72) #[] #[], .int .i64 2, .int .i64 1, .func (.func 72) #[] #[], .int .i64 0, .int .i64 0, .func (.func 75) #[] #[], .int .i64 1, .int .i64 0, .func (.func 75) #[] #[], .int .i64 0, .int .i64 1, .func (.func 76) #[] #[], .int .i64 1, .int .i64 0, .func (.func 72) #[] #[], .int .i64 0, .int .i64 1, .func (.func 76) #[] #[], .int .i64 2, .int .i64 1, .func (.func 72) #[] #[], .int .i64 1, .int .i64 1, .func (.func 72) #[] #[], .int .i64 1, .int .i64 0, .func (.func 72) #[] #[]]
def kindFn : List Nat := [73, 72, 74, 74, 72, 72, 72, 72, 72, 75, 75, 76, 72, 76, 72, 72, 72]
def kindTakes : List Int := [0, 1, 0, 1, 2, 2, 2, 2, 2, 0, 1, 0, 1, 0, 2, 1, 1]
def kindLeaves : List Int := [1, 0, 1, 0, 1, 1, 1, 1, 1, 0, 0, 1, 0, 1, 1, 1, 0]

theorem wpList_build_to {P : Program} {ops : Array Oper} {rest : List Oper} {o : Oper} {a : Act} {w : World} {Q : Exit → Act → World → Prop} (hg : o.guard = none) (t : TypeId) (parts : Array (Nat × Operand)) (ho : o.op = .build t parts)
    (cells : Array Value) (hf : P.built t (parts.map fun (i, x) => (i, a.eval x)).toList = some cells)
    (h : wpList P ops Q rest (a.put o.dst (.agg cells)) w) : wpList P ops Q (o :: rest) a w :=
  wpList_build hg t parts ho (by rw [hf]; rfl) (by rw [hf]; exact h)

set_option maxHeartbeats 2000000 in
theorem kinds_any (w : World) :
    Calls Try.prog 57 #[] w fun e w' => e = .returned (.agg kindRow) ∧ Ext w w' := by
  obtain ⟨R, hR⟩ : ∃ R : Array Value, Hid (kindRow = R) := ⟨_, rfl⟩
  rw [hR.out]
  go_enter Try.func57, Try.ntmps57
  go_wp2_with (first | (refine wpList_build_to rfl 93 _ rfl R ?c1 ?_; case c1 => (rw [← hR.out]; kernel_rfl)) | (refine wpList_store_row rfl 93 _ _ rfl w.heap.size R rfl rfl _ _ (heap_alloc2_old _ _ _) (by rw [← hR.out]; kernel_rfl) (by rw [← hR.out]; rfl) (by rw [← hR.out]; kernel_rfl) ?_))
  refine bodyPost_ret (v := .agg R) (results_cell_row rfl _ _ w.heap.size _ R (0, 0) _ rfl (setRow_heap _ _ _ _ _ _ (heap_alloc2_old _ _ _)) rfl rfl (by rw [← hR.out]; kernel_rfl)) rfl ⟨rfl, ?_⟩
  exact (((Ext.refl _).alloc _).alloc _).setRow (Nat.le_refl _) _

theorem kinds1_any (a : Option Addr) (len cap : Nat) (A L : Int) (c : Option Addr) (n m : Nat) (w : World) :
    Calls Try.prog 72 #[.slice a len cap, .agg #[.int .i64 A, .int .i64 L, .slice c n m]] w fun e w' => e = .returned (.int .i64 0) ∧ Ext w w' := by
  go_enter Try.func72, Try.ntmps72
  go_wp2
  go_ret
  exact ⟨rfl, (Ext.refl _).alloc _⟩

theorem kinds2_any (a : Option Addr) (len cap : Nat) (A L : Int) (c : Option Addr) (n m : Nat) (w : World) :
    Calls Try.prog 73 #[.slice a len cap, .agg #[.int .i64 A, .int .i64 L, .slice c n m]] w fun e w' => e = .returned (.int .i64 999) ∧ Ext w w' := by
  go_enter Try.func73, Try.ntmps73
  go_wp2
  go_ret
  exact ⟨rfl, (Ext.refl _).alloc _⟩

theorem kinds3_any (a : Option Addr) (len cap : Nat) (A L : Int) (c : Option Addr) (n m : Nat) (h0 : 0 ≤ L) (h1 : L ≤ 4) (w : World) :
    Calls Try.prog 74 #[.slice a len cap, .agg #[.int .i64 A, .int .i64 L, .slice c n m]] w fun e w' => e = .returned (.int .i64 (L - 1)) ∧ Ext w w' := by
  go_enter Try.func74, Try.ntmps74
  go_wp2
  go_ret
  exact ⟨rfl, (Ext.refl _).alloc _⟩

theorem kinds4_any (a : Option Addr) (len cap : Nat) (A L : Int) (c : Option Addr) (n m : Nat) (h0 : n ≤ 24) (w : World) :
    Calls Try.prog 75 #[.slice a len cap, .agg #[.int .i64 A, .int .i64 L, .slice c n m]] w fun e w' => e = .returned (.int .i64 ((n : Int) - 1)) ∧ Ext w w' := by
  go_enter Try.func75, Try.ntmps75
  go_wp2
  go_ret
  exact ⟨rfl, (Ext.refl _).alloc _⟩

theorem kinds5_any (a : Option Addr) (len cap : Nat) (A L : Int) (c : Option Addr) (n m : Nat) (h0 : len ≤ 140737488355328) (w : World) :
    Calls Try.prog 76 #[.slice a len cap, .agg #[.int .i64 A, .int .i64 L, .slice c n m]] w fun e w' => e = .returned (.int .i64 ((len : Int) - 1)) ∧ Ext w w' := by
  go_enter Try.func76, Try.ntmps76
  go_wp2
  go_ret
  exact ⟨rfl, (Ext.refl _).alloc _⟩

/-- The closures of the table: which A may be at most. -/
theorem most_any (k : Int) (hk0 : 0 ≤ k) (hk : k ≤ 16) (f : GFunc) (p : List GFunc) (a : Option Addr) (cap : Nat) (hl : p.length ≤ 140737488355328)
    (A : Int) (c : Option Addr) (m : Nat) (h0 : 0 ≤ f.locals) (h1 : f.locals ≤ 4) (hn : f.code.length ≤ 24) (w : World) :
    Calls Try.prog (kindFn.getD k.toNat 0) #[.slice a p.length cap, .agg #[.int .i64 A, .int .i64 f.locals, .slice c f.code.length m]] w fun e w' => e = .returned (.int .i64 (mostOf p f k)) ∧ Ext w w' := by
  obtain ⟨j, rfl⟩ := Int.eq_ofNat_of_zero_le hk0
  have hj : j < 17 := by omega
  match j, hj with
  | 0, _ => exact kinds2_any a p.length cap A f.locals c f.code.length m w
  | 1, _ => exact kinds1_any a p.length cap A f.locals c f.code.length m w
  | 2, _ => exact kinds3_any a p.length cap A f.locals c f.code.length m h0 h1 w
  | 3, _ => exact kinds3_any a p.length cap A f.locals c f.code.length m h0 h1 w
  | 4, _ => exact kinds1_any a p.length cap A f.locals c f.code.length m w
  | 5, _ => exact kinds1_any a p.length cap A f.locals c f.code.length m w
  | 6, _ => exact kinds1_any a p.length cap A f.locals c f.code.length m w
  | 7, _ => exact kinds1_any a p.length cap A f.locals c f.code.length m w
  | 8, _ => exact kinds1_any a p.length cap A f.locals c f.code.length m w
  | 9, _ => exact kinds4_any a p.length cap A f.locals c f.code.length m hn w
  | 10, _ => exact kinds4_any a p.length cap A f.locals c f.code.length m hn w
  | 11, _ => exact kinds5_any a p.length cap A f.locals c f.code.length m hl w
  | 12, _ => exact kinds1_any a p.length cap A f.locals c f.code.length m w
  | 13, _ => exact kinds5_any a p.length cap A f.locals c f.code.length m hl w
  | 14, _ => exact kinds1_any a p.length cap A f.locals c f.code.length m w
  | 15, _ => exact kinds1_any a p.length cap A f.locals c f.code.length m w
  | 16, _ => exact kinds1_any a p.length cap A f.locals c f.code.length m w
  | (_ + 17), h => omega

end Go.Proofs.Ytpomcbginkhlbaa
