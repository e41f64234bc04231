/- Merged texts: contracts and plain facts, one part behind another; each part begins with what it says. -/
import Derived.Test.YtgahbngbpfilgaaGreatGEAY
import Derived.Test.YtgahbngbpfilgaaGreatGEBF
section
set_option maxHeartbeats 400000
set_option maxRecDepth 100000
namespace Go.Proofs.YtgahbngbpfilgaaGreat
open Go Go.RowKit
theorem runRun_val (p : List GFunc) (v : Value) (S T : Nat → Prop) (s : GState) (vs : Value) (m : Int) (w : World) (hp : Funcs w S v p) (hs : StateV w T vs s) {U : GState} {n g K : Int} {N M : Nat} (hr : runOfG p s m = (U, n, g)) (hN : U.fibers.length = N) (hM : U.out.length = M) (hK : U.now = K) :
  Calls Tryz.prog 11 #[v, vs, .int .i64 m] w fun e w' => (∃ a c b d, e = .returned (.tuple #[.agg #[.slice a N c, .int .i64 K, .slice b M d], .int .i64 n, .int .i64 g]) ∧ StateO w' w.heap.size (.agg #[.slice a N c, .int .i64 K, .slice b M d]) U) ∧ Ext w w' := by
 refine (runRun_any p v S T s vs m w hp hs).mono fun e w' ⟨⟨x, he, hx⟩, hb⟩ => ⟨?_, hb⟩
 rw [hr] at he hx
 obtain ⟨a, c, b, d, rfl⟩ := hx.few
 subst hN hM hK
 exact ⟨a, c, b, d, he, hx⟩
theorem StateO.box_new {w : World} {B N M c d : Nat} {K : Int} {a b : Option Addr} {s : GState} (h : StateO w B (.agg #[.slice a N c, .int .i64 K, .slice b M d]) s) (t : TypeId) :
  BoxT (w.alloc (.cells #[.slice a N c, .int .i64 K, .slice b M d] t)) w.heap.size N M K s := BoxT.new (StateV.stays (T := fun _ => True) (Stays.widen (fun _ _ => trivial)) h.state) t
theorem StateO.box_late {w : World} {B N M c d i : Nat} {K : Int} {a b : Option Addr} {s : GState} {u0 u1 u2 : Value} (h : StateO w B (.agg #[.slice a N c, .int .i64 K, .slice b M d]) s) (h0 : Cx w i 0 u0) (h1 : Cx w i 1 u1) (h2 : Cx w i 2 u2) (hi : i < B) :
  BoxT (((w.setCell ⟨i, 0, none⟩ (.slice a N c)).setCell ⟨i, 1, none⟩ (.int .i64 K)).setCell ⟨i, 2, none⟩ (.slice b M d)) i N M K s := by
 refine ⟨a, c, b, d, ((h0.set _).other (.inr (by decide)) _).other (.inr (by decide)) _, ((h1.other (.inr (by decide)) _).set _).other (.inr (by decide)) _, ((h2.other (.inr (by decide)) _).other (.inr (by decide)) _).set _, ?_⟩
 have hst := (h.chg (chg3 w i (.slice a N c) (.int .i64 K) (.slice b M d)) (fun g hg e => by omega)).state
 exact StateV.stays (T := fun _ => True) (Stays.widen (fun _ _ => trivial)) hst
theorem Cx.new3 (w : World) (x y z : Value) (t : TypeId) : Cx (w.alloc (.cells #[x, y, z] t)) w.heap.size 0 x ∧ Cx (w.alloc (.cells #[x, y, z] t)) w.heap.size 1 y ∧ Cx (w.alloc (.cells #[x, y, z] t)) w.heap.size 2 z :=
 ⟨Cx.new w [x, y, z] t (j := 0) rfl, Cx.new w [x, y, z] t (j := 1) rfl, Cx.new w [x, y, z] t (j := 2) rfl⟩
end Go.Proofs.YtgahbngbpfilgaaGreat
end
