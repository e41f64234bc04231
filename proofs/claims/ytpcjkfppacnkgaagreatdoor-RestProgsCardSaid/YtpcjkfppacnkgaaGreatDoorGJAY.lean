/- Merged texts: contracts and plain facts, one part behind another; each part begins with what it says. -/
import Derived.Test.YtpcjkfppacnkgaaGreatDoorGJAH
import Derived.Test.YtpcjkfppacnkgaaGreatDoorGJAK
import Derived.Test.YtpcjkfppacnkgaaGreatDoorGJAQ
import Derived.Test.YtpcjkfppacnkgaaGreatDoorGJAX
section
/- Contract of trimBegun. -/
set_option maxHeartbeats 4000000
set_option maxRecDepth 100000
namespace Go.Proofs.YtpcjkfppacnkgaaGreatDoor
open Go Go.RowKit

theorem FuncV.wide {w : World} {S : Nat → Prop} {v : Value} {F : GFunc} (h : FuncV w S v F) : FuncV w (fun _ => True) v F := FuncV.stays (Stays.widen (fun _ _ => trivial)) h
theorem Funcs.wide {w : World} {S : Nat → Prop} {v : Value} {F : List GFunc} (h : Funcs w S v F) : Funcs w (fun _ => True) v F := Funcs.stays (Stays.widen (fun _ _ => trivial)) h

theorem trimFunc_val (p : List GFunc) (v : Value) (S : Nat → Prop) (f : Int) (w : World) (hp : Funcs w S v p) (r : Int) (F : GFunc) (n : Nat) (hr : hErr p f = r) (hF : trimF p f = F) (hn : F.code.length = n) :
    Calls Tryz.prog 54 #[v, .int .i64 f] w fun e w' => (∃ A L a c, e = .returned (.tuple #[.agg #[.int .i64 A, .int .i64 L, .slice a n c], .int .i64 r]) ∧ FuncV w' (fun _ => True) (.agg #[.int .i64 A, .int .i64 L, .slice a n c]) F) ∧ Ext w w' := by
  refine (trimFunc_any p v S f w hp).mono fun e w' ⟨⟨x, he, hx⟩, hb⟩ => ⟨?_, hb⟩
  rw [hF] at hx
  have hx2 := hx.wide
  obtain ⟨s, rfl, _, _, hops⟩ := hx
  obtain ⟨a, c, rfl, _, _, _⟩ := hops
  rw [hr] at he
  subst hn
  exact ⟨_, _, a, c, he, hx2⟩
theorem trimAll_val (p : List GFunc) (v : Value) (S : Nat → Prop) (w : World) (hp : Funcs w S v p) (r : Int) (q : List GFunc) (n : Nat) (hr : progErr p = r) (hq : trimP p = q) (hn : q.length = n) :
    Calls Tryz.prog 55 #[v] w fun e w' => (∃ a c, e = .returned (.tuple #[.slice a n c, .int .i64 r]) ∧ Funcs w' (fun _ => True) (.slice a n c) q) ∧ Ext w w' := by
  refine (trimAll_any p v S w hp).mono fun e w' ⟨⟨x, he, hx⟩, hb⟩ => ⟨?_, hb⟩
  rw [hq] at hx
  have hx2 := hx.wide
  obtain ⟨a, c, rfl, _, _, _⟩ := hx
  rw [hr] at he
  subst hn
  exact ⟨a, c, he, hx2⟩

def cut4 : List GOp := [⟨9, 2⟩, ⟨1, 0⟩, ⟨0, 1⟩, ⟨12, 0⟩]
def cut3 : List GOp := [⟨9, 1⟩, ⟨0, 1⟩, ⟨12, 0⟩]
theorem tc1 : hErr countP 1 = 0 := by decide
theorem tc2 : (trimF countP 1).code.length = 10 := by decide
theorem tc3 : progErr countP = 0 := by decide
theorem tc4 : (trimP countP).length = 3 := by decide
theorem tc5 : hErr [⟨0, 0, cut4⟩] 0 = 0 := by decide
theorem tc6 : trimF [⟨0, 0, cut4⟩] 0 = ⟨0, 0, cut3⟩ := by decide
theorem tc7 : hErr countP 3 = 5 := by decide
theorem tc8 : trimF countP 3 = ⟨0, 0, []⟩ := by decide

theorem funcV_new (w : World) (l : List GOp) (n : Nat) (hn : l.length = n) (cs : Array Value) (hcs : cs.toList = opCells l) (hI : ∀ x ∈ l, I64 x.kind ∧ I64 x.a) (hl : l.length ≤ 1000) (t : TypeId) :
    FuncV (w.alloc (.cells cs t)) (fun _ => True) (.agg #[.int .i64 0, .int .i64 0, .slice (some ⟨w.heap.size, 0, none⟩) n n]) ⟨0, 0, l⟩ := by
  subst hn
  exact ⟨_, rfl, ⟨by show (-9223372036854775808 : Int) ≤ 0; decide, by show (0 : Int) ≤ 9223372036854775807; decide⟩, ⟨by show (-9223372036854775808 : Int) ≤ 0; decide, by show (0 : Int) ≤ 9223372036854775807; decide⟩, ops_of_block (S := fun _ => True) l (heap_alloc_new _ _) hcs trivial hI (by omega)⟩

theorem trimBegun_any (w : World) : Calls Tryz.prog 20 #[] w fun e w' => e = .returned (.bool true) ∧ Ext w w' := by
  go_enter Tryz.func20, Tryz.ntmps20
  go_upto_region 2 with (first
    | (go_at_call 35; refine (count_any _).mono ?_; rintro e w1 ⟨⟨v, rfl, hv⟩, hb1⟩; have hf := hv.funcs)
    | (go_at_call 54; (with_reducible refine (trimFunc_val countP _ _ 1 _ hf _ _ 10 tc1 rfl tc2).mono ?_); rintro e w2 ⟨⟨A1, L1, a1, c1, rfl, hl1⟩, hb2⟩))
  have e2 : Ext w (w2.alloc (.cells #[.int .i64 A1, .int .i64 L1, .slice a1 10 c1] 49)) := by ((repeat (first | assumption | exact Ext.refl _ | (exact And.left (by assumption)) | refine Ext.alloc ?_ _ | refine Ext.drew ?_ | refine Ext.drewN ?_ _ | refine Ext.setCell ?_ (by simp) _ | refine Ext.setCell ?_ (by simp; omega) _ | refine Ext.trans ?_ (by assumption))); done)
  have cx2 := Cx.new w2 [.int .i64 A1, .int .i64 L1, .slice a1 10 c1] 49 (j := 2) rfl
  generalize w2.heap.size = bx1 at *
  generalize w2.alloc (.cells #[.int .i64 A1, .int .i64 L1, .slice a1 10 c1] 49) = w3 at *
  have E2 := Lib.hid e2
  have CX2 := Lib.hid cx2
  clear hf hv hb1 hb2 e2 hl1 cx2
  rename World => w3
  go_upto_region 3 with (first
    | (go_at_call 35; refine (count_any _).mono ?_; rintro e w1 ⟨⟨v, rfl, hv⟩, hb1⟩; have hf := hv.funcs)
    | (go_at_call 55; (with_reducible refine (trimAll_val countP _ _ _ hf _ _ 3 tc3 rfl tc4).mono ?_); rintro e w4 ⟨⟨a2, c2, rfl, hl2⟩, hb2⟩))
  have e3 : Ext w3 w4 := by ((repeat (first | assumption | exact Ext.refl _ | (exact And.left (by assumption)) | refine Ext.alloc ?_ _ | refine Ext.drew ?_ | refine Ext.drewN ?_ _ | refine Ext.setCell ?_ (by simp) _ | refine Ext.setCell ?_ (by simp; omega) _ | refine Ext.trans ?_ (by assumption))); done)
  have E3 := Lib.hid (E2.out.trans e3)
  have CX3 := Lib.hid (CX2.out.ext e3)
  clear hf hv hb1 hb2 e3 hl2 E2 CX2
  go_upto_region 4 with (first
    | (go_at_call 23; refine (o_any _ _ _).mono ?_; rintro e w1 ⟨rfl, hb⟩)
    | (go_at_call 54; (with_reducible refine (trimFunc_val [⟨0, 0, cut4⟩] _ _ 0 _ (prog_ops _ cut4 4 rfl #[.int .i64 9, .int .i64 2, .int .i64 1, .int .i64 0, .int .i64 0, .int .i64 1, .int .i64 12, .int .i64 0] rfl (small_ops (by decide)) (by decide) _ _) _ _ 3 tc5 tc6 rfl).mono ?_); rintro e w5 ⟨⟨A3, L3, a3, c3, rfl, hl3⟩, hb3⟩))
  have e4 : Ext w4 (w5.alloc (.cells #[.int .i64 A3, .int .i64 L3, .slice a3 3 c3] 49)) := by ((repeat (first | assumption | exact Ext.refl _ | (exact And.left (by assumption)) | refine Ext.alloc ?_ _ | refine Ext.drew ?_ | refine Ext.drewN ?_ _ | refine Ext.setCell ?_ (by simp) _ | refine Ext.setCell ?_ (by simp; omega) _ | refine Ext.trans ?_ (by assumption))); done)
  have y0 := Cx.new w5 [.int .i64 A3, .int .i64 L3, .slice a3 3 c3] 49 (j := 0) rfl
  have y1 := Cx.new w5 [.int .i64 A3, .int .i64 L3, .slice a3 3 c3] 49 (j := 1) rfl
  have y2 := Cx.new w5 [.int .i64 A3, .int .i64 L3, .slice a3 3 c3] 49 (j := 2) rfl
  have hl4 := FuncV.stays (Ext.stays ((Ext.refl w5).alloc (.cells #[.int .i64 A3, .int .i64 L3, .slice a3 3 c3] 49))) hl3
  generalize w5.heap.size = bx2 at *
  generalize w5.alloc (.cells #[.int .i64 A3, .int .i64 L3, .slice a3 3 c3] 49) = w6 at *
  have E4 := Lib.hid (E3.out.trans e4)
  have CX4 := Lib.hid (CX3.out.ext e4)
  have HL4 := Lib.hid hl4
  have Y := Lib.hid (⟨y0, y1, y2⟩ : _ ∧ _ ∧ _)
  clear e4 hl3 hl4 hb3 y0 y1 y2 E3 CX3
  rename World => w6
  go_upto_region 5 with (first
    | (go_at_call 35; refine (count_any _).mono ?_; rintro e w1 ⟨⟨v, rfl, hv⟩, hb1⟩; have hf := hv.funcs)
    | (go_at_call 54; (with_reducible refine (trimFunc_val countP _ _ 3 _ hf _ _ 0 tc7 tc8 rfl).mono ?_); rintro e w7 ⟨⟨A4, L4, a4, c4, rfl, hl5⟩, hb4⟩))
  have e5 : Ext w6 (w7.alloc (.cells #[.int .i64 A4, .int .i64 L4, .slice a4 0 c4] 49)) := by ((repeat (first | assumption | exact Ext.refl _ | (exact And.left (by assumption)) | refine Ext.alloc ?_ _ | refine Ext.drew ?_ | refine Ext.drewN ?_ _ | refine Ext.setCell ?_ (by simp) _ | refine Ext.setCell ?_ (by simp; omega) _ | refine Ext.trans ?_ (by assumption))); done)
  generalize w7.alloc (.cells #[.int .i64 A4, .int .i64 L4, .slice a4 0 c4] 49) = w8 at *
  have E5 := Lib.hid (E4.out.trans e5)
  have hx := CX4.out.ext e5
  have HL5 := Lib.hid (FuncV.stays (Ext.stays e5) HL4.out)
  have g0 := Y.out.1.ext e5
  have g1 := Y.out.2.1.ext e5
  have g2 := Y.out.2.2.ext e5
  clear hf hv hb1 hb4 e5 hl5 E4 CX4 HL4 Y
  rename World => w8
  obtain ⟨hx0, -⟩ := hx
  obtain ⟨g00, -⟩ := g0
  obtain ⟨g10, -⟩ := g1
  obtain ⟨g20, -⟩ := g2
  have RA := alloc_keep
  go_region_held3 (fun w' => Ext w8 w' ∧ ∀ a, (w8.cell? a).isSome = true → w'.cell? a = w8.cell? a)
    ((refine ext_both ?_; ((repeat (first | assumption | exact Ext.refl _ | (exact And.left (by assumption)) | refine Ext.alloc ?_ _ | refine Ext.drew ?_ | refine Ext.drewN ?_ _ | refine Ext.setCell ?_ (by simp) _ | refine Ext.setCell ?_ (by simp; omega) _ | refine Ext.trans ?_ (by assumption))); done)))
    ((first
      | (go_at_call 23; refine (o_any _ _ _).mono ?_; rintro e w9 ⟨rfl, hb⟩; have hc := Ext.keep hb)
      | (go_at_call 53; (with_reducible refine (sameFuncs_any ⟨0, 0, cut3⟩ ⟨0, 0, cut3⟩ _ _ (fun _ => True) (fun _ => True) _ (FuncV.stays (Ext.stays (by ((repeat (first | assumption | exact Ext.refl _ | (exact And.left (by assumption)) | refine Ext.alloc ?_ _ | refine Ext.drew ?_ | refine Ext.drewN ?_ _ | refine Ext.setCell ?_ (by simp) _ | refine Ext.setCell ?_ (by simp; omega) _ | refine Ext.trans ?_ (by assumption))); done))) HL5.out) (funcV_new _ cut3 3 rfl #[.int .i64 9, .int .i64 1, .int .i64 0, .int .i64 1, .int .i64 12, .int .i64 0] rfl (small_ops (by decide)) (by decide) _)).mono ?_); rintro e w10 ⟨rfl, hb10⟩; rw [show decide ((⟨0, 0, cut3⟩ : GFunc) = ⟨0, 0, cut3⟩) = true by decide])))
  all_goals
    go_wp2_with fail
    go_ret
    exact ⟨rfl, E5.out.trans (by ((repeat (first | assumption | exact Ext.refl _ | (exact And.left (by assumption)) | refine Ext.alloc ?_ _ | refine Ext.drew ?_ | refine Ext.drewN ?_ _ | refine Ext.setCell ?_ (by simp) _ | refine Ext.setCell ?_ (by simp; omega) _ | refine Ext.trans ?_ (by assumption))); done))⟩
end Go.Proofs.YtpcjkfppacnkgaaGreatDoor
end
section
/- A state in own memory: another stack of a top frame. Contracts of the document's push and pull. -/
set_option maxHeartbeats 4000000
set_option maxRecDepth 100000
namespace Go.Proofs.YtpcjkfppacnkgaaGreatDoor
open Go Go.RowKit

theorem OwnS.sep {P : PState} {L R : List PFiber} {y : PFiber} {F : List PFrame} {x : PFrame} {W : World} {B b : Nat} (h : OwnS W B b P) (hs : Spot P L y R F x) :
    (∀ k, rowBlock y.vf = some k → k ∉ x.bl) ∧ (∀ k, rowBlock x.vl = some k → rowBlock x.vs ≠ some k) ∧ x.bl.Nodup := by
  have h1 := (List.nodup_cons.1 h.nodup).2
  unfold PState.bl at h1
  rw [hs.fs, List.flatMap_append, List.flatMap_cons] at h1
  have h4 := (List.nodup_append.1 (List.nodup_append.1 (List.nodup_append.1 h1).2.1).2.1).1
  unfold PFiber.bl at h4
  rw [hs.fr, List.flatMap_append] at h4
  obtain ⟨_, h5, h6⟩ := List.nodup_append.1 h4
  have h7 := (List.nodup_append.1 h5).2.1
  rw [List.flatMap_cons, List.flatMap_nil, List.append_nil] at h7
  refine ⟨fun k hk hx => h6 k (by simp [hk]) k (by simp [hx]) rfl, fun k hk hv => ?_, h7⟩
  unfold PFrame.bl at h7
  exact (List.nodup_append.1 h7).2.2 k (by simp [hk]) k (by simp [hv]) rfl

/-- The top frame has another stack. -/
theorem OwnS.stack {P : PState} {L R : List PFiber} {y : PFiber} {F : List PFrame} {x : PFrame} {W W1 : World} {B b g o n cap : Nat} (h : OwnS W B b P) (hs : Spot P L y R F x) (hv : y.vf = .slice (some ⟨g, o, none⟩) n cap)
    {st : List Int} {v1 : Value} (hc : Chg (fun k => rowBlock x.vs = some k) W W1) (hr : RowAt W1 B 1 v1 st.length (ints st)) (hI : ∀ k ∈ st, I64 k) (hl : st.length ≤ 1000) (hb : rowBlock v1 = rowBlock x.vs ∨ ∀ k, rowBlock v1 = some k → W.heap.size ≤ k) :
    OwnS (W1.setCell ⟨g, o + F.length * 4 + 3, none⟩ v1) B b (replTop P L y R F ⟨{ x.f with stack := st }, x.vl, v1⟩) ∧ Chg (fun k => rowBlock y.vf = some k ∨ rowBlock x.vs = some k) W (W1.setCell ⟨g, o + F.length * 4 + 3, none⟩ v1) := by
  obtain ⟨s1, s2, s3⟩ := h.sep hs
  have hy := h.fs y (by rw [hs.fs]; simp)
  have hx := hy.fr x (by rw [hs.fr]; simp)
  have hrow := hy.row
  rw [hs.fr] at hrow
  obtain ⟨g', o', cap', e1, hbl, _⟩ := RowAt.place frameF (fun _ => rfl) hrow
  rw [hv] at e1
  simp only [Value.slice.injEq, Option.some.injEq, Addr.mk.injEq] at e1
  obtain ⟨⟨rfl, rfl, -⟩, -, rfl⟩ := e1
  have hgs : g < W.heap.size := hy.lt g (by unfold PFiber.bl; simp [hbl])
  have hgx : rowBlock x.vs ≠ some g := fun e => s1 g hbl (by unfold PFrame.bl; simp [e])
  have hgl : rowBlock x.vl ≠ some g := fun e => s1 g hbl (by unfold PFrame.bl; simp [e])
  have hg1 : ∀ k, rowBlock v1 = some k → k ≠ g := fun k hk e => by
    subst e
    rcases hb with h1 | h1
    · exact hgx (h1 ▸ hk)
    · have := h1 k hk; omega
  have hCh : Chg (fun k => rowBlock y.vf = some k ∨ rowBlock x.vs = some k) W (W1.setCell ⟨g, o + F.length * 4 + 3, none⟩ v1) := (hc.mono (fun _ _ e => .inr e)).setCell (p := ⟨g, o + F.length * 4 + 3, none⟩) (.inl (.inl hbl)) v1
  refine ⟨h.frame hs.fs hs.fr hCh (fun k hk _ => hk.imp id (fun e => by unfold PFrame.bl; simp [e])) ⟨⟨hx.i.1, hx.i.2.1, hx.i.2.2.1, hI⟩, ?_, ?_, hx.few.1, hl⟩ ?_ ?_ ?_, hCh⟩
  · refine hx.l.chg hCh (fun k hk hm => ?_) (by decide)
    rcases hm with h1 | h1
    · rw [hbl] at h1; cases h1; exact hgl hk
    · exact s2 k hk h1
  · exact hr.chg (chg_one W1 g (o + F.length * 4 + 3) v1) (fun k hk e => hg1 k hk e) (by decide)
  · have hrow1 := hrow.chg hc (fun k hk e => by rw [hbl] at hk; cases hk; exact hgx e) (by decide)
    rw [hv] at hrow1 ⊢
    exact hrow1.storeAt frameF (fun _ => rfl) (by decide) rfl
  · unfold PFrame.bl
    rw [List.nodup_append]
    refine ⟨by cases rowBlock x.vl <;> simp, by cases rowBlock v1 <;> simp, fun a ha c hc' e => ?_⟩
    subst e
    have ha' : rowBlock x.vl = some a := by simpa using ha
    have hc2 : rowBlock v1 = some a := by simpa using hc'
    rcases hb with h1 | h1
    · exact s2 a ha' (h1 ▸ hc2)
    · have h2 := h1 a hc2
      have h3 := hx.lt a (by unfold PFrame.bl; simp [ha'])
      omega
  · intro k hk
    unfold PFrame.bl at hk ⊢
    rcases List.mem_append.1 hk with h1 | h1
    · exact .inl (List.mem_append.2 (.inl h1))
    · have h2 : rowBlock v1 = some k := by simpa using h1
      rcases hb with h3 | h3
      · exact .inl (List.mem_append.2 (.inr (by rw [← h3]; exact h1)))
      · exact .inr (h3 k h2)

/-- A place's pieces, for a walk. -/
theorem OwnS.spot {P : PState} {L R : List PFiber} {y : PFiber} {F : List PFrame} {x : PFrame} {W : World} {B b : Nat} (h : OwnS W B b P) (hs : Spot P L y R F x) :
    ∃ g o cap, y.vf = .slice (some ⟨g, o, none⟩) (F ++ [x]).length cap ∧ (F ++ [x]).length ≤ cap ∧ cap ≤ maxLen ∧ Cx W g (o + F.length * 4) (.int .i64 x.f.func) ∧ Cx W g (o + F.length * 4 + 1) (.int .i64 x.f.at_) ∧ Cx W g (o + F.length * 4 + 2) x.vl ∧ Cx W g (o + F.length * 4 + 3) x.vs ∧ rowBlock y.vf = some g := by
  have hy := h.fs y (by rw [hs.fs]; simp)
  have hrow := hy.row
  rw [hs.fr] at hrow
  obtain ⟨g, o, cap, e1, hbl, hc, hm, hx⟩ := RowAt.place frameF (fun _ => rfl) hrow
  exact ⟨g, o, cap, e1, hc, hm, hx 0 _ (by decide) rfl, hx 1 _ (by decide) rfl, hx 2 _ (by decide) rfl, hx 3 _ (by decide) rfl, hbl⟩

end Go.Proofs.YtpcjkfppacnkgaaGreatDoor
end
section
/- A state in own memory: another fiber at a place, another Now, Out, one fiber more. No condition. -/
set_option maxHeartbeats 1000000
namespace Go.Proofs.YtpcjkfppacnkgaaGreatDoor
open Go Go.RowKit

theorem OwnS.dis {P : PState} {W : World} {B b : Nat} (h : OwnS W B b P) :
    b ∉ P.bl ∧ (∀ g, rowBlock P.vfs = some g → rowBlock P.vo ≠ some g ∧ ∀ y ∈ P.fs, g ∉ y.bl) ∧ (∀ g, rowBlock P.vo = some g → ∀ y ∈ P.fs, g ∉ y.bl) := by
  obtain ⟨h0, h1⟩ := List.nodup_cons.1 h.nodup
  refine ⟨h0, fun g hg => ⟨fun e => ?_, fun y hy hm => ?_⟩, fun g hg y hy hm => ?_⟩
  · unfold PState.bl at h1
    have h2 := (List.nodup_append.1 h1).1
    exact (List.nodup_append.1 h2).2.2 g (by simp [hg]) g (by simp [e]) rfl
  · unfold PState.bl at h1
    exact (List.nodup_append.1 h1).2.2 g (by simp [hg]) g (List.mem_flatMap.2 ⟨y, hy, hm⟩) rfl
  · unfold PState.bl at h1
    exact (List.nodup_append.1 h1).2.2 g (by simp [hg]) g (List.mem_flatMap.2 ⟨y, hy, hm⟩) rfl
theorem PState.mem_vfs {P : PState} {g : Nat} (h : rowBlock P.vfs = some g) : g ∈ P.bl := by unfold PState.bl; simp [h]
theorem PState.mem_vo {P : PState} {g : Nat} (h : rowBlock P.vo = some g) : g ∈ P.bl := by unfold PState.bl; simp [h]
theorem PState.mem_fs {P : PState} {g : Nat} {y : PFiber} (hy : y ∈ P.fs) (h : g ∈ y.bl) : g ∈ P.bl := by
  unfold PState.bl; exact List.mem_append.2 (.inr (List.mem_flatMap.2 ⟨y, hy, h⟩))

/-- One fiber is another one. -/
theorem OwnS.fiber' {W W' : World} {B b : Nat} {P : PState} {L R : List PFiber} {y y' : PFiber} {M : Nat → Prop} (h : OwnS W B b P) (hP : P.fs = L ++ y :: R)
    (hc : Chg M W W') (hM : ∀ g, M g → g < W.heap.size → rowBlock P.vfs = some g ∨ g ∈ y.bl) (hy : FiberO W' B y') (hrow : RowAt W' B 2 P.vfs (L ++ y' :: R).length ((L ++ y' :: R).flatMap fiberF))
    (hn : y'.bl.Nodup) (hs : ∀ g ∈ y'.bl, g ∈ y.bl ∨ g ∉ b :: P.bl) : OwnS W' B b { P with fs := L ++ y' :: R } := by
  have hlt := h.lt
  obtain ⟨d0, d1, d2⟩ := h.dis
  have hym : y ∈ P.fs := by rw [hP]; simp
  let A := b :: ((rowBlock P.vfs).toList ++ (rowBlock P.vo).toList ++ L.flatMap PFiber.bl)
  let C := R.flatMap PFiber.bl
  have hbl : b :: P.bl = A ++ y.bl ++ C := by
    show b :: P.bl = b :: _ ++ y.bl ++ C
    unfold PState.bl
    rw [hP, List.flatMap_append, List.flatMap_cons]
    simp [C, List.append_assoc]
  have hnd := h.nodup
  rw [hbl] at hnd
  have hbl' : b :: PState.bl { P with fs := L ++ y' :: R } = A ++ y'.bl ++ C := by
    show b :: _ = b :: _ ++ y'.bl ++ C
    unfold PState.bl
    simp only [List.flatMap_append, List.flatMap_cons]
    simp [C, List.append_assoc]
  have hltA : ∀ g ∈ A ++ C, g < W.heap.size := fun g hg => hlt g (by rw [hbl]; rcases List.mem_append.1 hg with h1 | h1 <;> simp [h1])
  have hny : ∀ g ∈ A ++ C, g ∉ y.bl := fun g hg hm => by
    rw [List.append_assoc, List.nodup_append] at hnd
    obtain ⟨_, h2, h3⟩ := hnd
    rw [List.nodup_append] at h2
    rcases List.mem_append.1 hg with h4 | h4
    · exact h3 g h4 g (by simp [hm]) rfl
    · exact h2.2.2 g hm g h4 rfl
  have ne : ∀ g, g ∈ A ++ C → rowBlock P.vfs ≠ some g → ¬ M g := fun g hg hv hm => by
    rcases hM g hm (hltA g hg) with h1 | h1
    · exact hv h1
    · exact hny g hg h1
  have hA : ∀ g, g ∈ A → g ∈ A ++ C := fun g h => List.mem_append.2 (.inl h)
  have hb : ¬ M b := ne b (hA _ (by simp [A])) (fun e => d0 (PState.mem_vfs e))
  have hz : ∀ z, z ∈ L ∨ z ∈ R → ∀ g ∈ z.bl, ¬ M g := fun z hz g hg => by
    have hzm : z ∈ P.fs := by rw [hP]; rcases hz with h1 | h1 <;> simp [h1]
    refine ne g ?_ (fun e => (d1 g e).2 z hzm hg)
    rcases hz with h1 | h1
    · exact hA _ (List.mem_cons_of_mem _ (List.mem_append.2 (.inr (List.mem_flatMap.2 ⟨z, h1, hg⟩))))
    · exact List.mem_append.2 (.inr (List.mem_flatMap.2 ⟨z, h1, hg⟩))
  refine ⟨h.c0.chg hc hb, h.c1.chg hc hb, h.c2.chg hc hb, h.i, hrow, h.out.chg hc (fun g e => ne g (hA _ (by simp [A, e])) (fun e2 => (d1 g e2).1 e)) (by decide), fun z hz' => ?_, h.le, ?_, ?_⟩
  · have hz'' : z ∈ L ++ y' :: R := hz'
    rcases List.mem_append.1 hz'' with h1 | h1
    · exact (h.fs z (by rw [hP]; simp [h1])).chg hc (hz z (.inl h1))
    · rcases List.mem_cons.1 h1 with rfl | h1
      · exact hy
      · exact (h.fs z (by rw [hP]; simp [h1])).chg hc (hz z (.inr h1))
  · have := h.few
    rw [hP] at this
    show (L ++ y' :: R).length ≤ 1000 ∧ P.out.length ≤ 1000
    simpa using this
  · rw [hbl']
    exact nodup_swap' hnd hn fun g hg => (hs g hg).imp id fun h1 h2 => h1 (by
      rw [hbl]
      rcases List.mem_append.1 h2 with h3 | h3 <;> simp [h3])
theorem OwnS.fiber {W W' : World} {B b : Nat} {P : PState} {L R : List PFiber} {y y' : PFiber} {M : Nat → Prop} (h : OwnS W B b P) (hP : P.fs = L ++ y :: R)
    (hc : Chg M W W') (hM : ∀ g, M g → g < W.heap.size → rowBlock P.vfs = some g ∨ g ∈ y.bl) (hy : FiberO W' B y') (hrow : RowAt W' B 2 P.vfs (L ++ y' :: R).length ((L ++ y' :: R).flatMap fiberF))
    (hn : y'.bl.Nodup) (hs : ∀ g ∈ y'.bl, g ∈ y.bl ∨ W.heap.size ≤ g) : OwnS W' B b { P with fs := L ++ y' :: R } :=
  h.fiber' hP hc hM hy hrow hn fun g hg => (hs g hg).imp id fun h1 h2 => by have := h.lt g h2; omega

/-- A fiber's cells. -/
theorem OwnS.place {P : PState} {L R : List PFiber} {y : PFiber} {W : World} {B b : Nat} (h : OwnS W B b P) (hP : P.fs = L ++ y :: R) :
    ∃ g o cap, P.vfs = .slice (some ⟨g, o, none⟩) P.fs.length cap ∧ L.length < P.fs.length ∧ Cx W g (o + L.length * 2) y.vf ∧ Cx W g (o + L.length * 2 + 1) (.int .i64 y.caller) ∧ rowBlock P.vfs = some g := by
  have hrow := h.row
  rw [hP] at hrow
  obtain ⟨g, o, cap, e1, hbl, hc, hm, hx⟩ := RowAt.place fiberF (fun _ => rfl) hrow
  exact ⟨g, o, cap, by rw [hP]; exact e1, by rw [hP]; simp, hx 0 _ (by decide) rfl, hx 1 _ (by decide) rfl, hbl⟩

/-- A fiber has another caller. -/
theorem OwnS.setCaller {P : PState} {L R : List PFiber} {y : PFiber} {W : World} {B b g o n cap : Nat} (h : OwnS W B b P) (hP : P.fs = L ++ y :: R) (hv : P.vfs = .slice (some ⟨g, o, none⟩) n cap) (c : Int) (hI : I64 c) :
    OwnS (W.setCell ⟨g, o + L.length * 2 + 1, none⟩ (.int .i64 c)) B b { P with fs := L ++ { y with caller := c } :: R } ∧ Chg (· ∈ P.bl) W (W.setCell ⟨g, o + L.length * 2 + 1, none⟩ (.int .i64 c)) := by
  obtain ⟨d0, d1, d2⟩ := h.dis
  have hym : y ∈ P.fs := by rw [hP]; simp
  have hrow := h.row
  rw [hP, hv] at hrow
  obtain ⟨g', o', cap', e1, hbl, _⟩ := RowAt.place fiberF (fun _ => rfl) hrow
  simp only [Value.slice.injEq, Option.some.injEq, Addr.mk.injEq] at e1
  obtain ⟨⟨rfl, rfl, -⟩, -, rfl⟩ := e1
  rw [← hv] at hbl
  have hy := h.fs y hym
  have hCh := chg_one W g (o + L.length * 2 + 1) (.int .i64 c)
  have hyc := hy.chg hCh (fun k hk e => by subst e; exact (d1 _ hbl).2 y hym hk)
  refine ⟨h.fiber hP hCh (fun k hk _ => .inl (by rw [hbl, show k = g from hk])) ⟨hI, hyc.row, hyc.fr, hyc.few⟩ ?_ ?_ ?_, hCh.mono (fun k _ hk => by rw [show k = g from hk]; exact PState.mem_vfs hbl)⟩
  · rw [hv]
    exact hrow.storeAt fiberF (fun _ => rfl) (by decide) rfl
  · have h1 := (List.nodup_cons.1 h.nodup).2
    unfold PState.bl at h1
    rw [hP, List.flatMap_append, List.flatMap_cons] at h1
    exact (List.nodup_append.1 (List.nodup_append.1 (List.nodup_append.1 h1).2.1).2.1).1
  · exact fun k hk => .inl hk

theorem OwnS.setNow {P : PState} {W : World} {B b : Nat} (h : OwnS W B b P) (n : Int) (hI : I64 n) :
    OwnS (W.setCell ⟨b, 1, none⟩ (.int .i64 n)) B b { P with now := n } := by
  have d0 := h.dis.1
  have hCh := chg_one W b 1 (.int .i64 n)
  have ne : ∀ g ∈ P.bl, ¬ g = b := fun g hg e => d0 (e ▸ hg)
  exact ⟨h.c0.other (.inr (by decide)) _, h.c1.set _, h.c2.other (.inr (by decide)) _, ⟨hI, h.i.2⟩, h.row.chg hCh (fun g e => ne g (PState.mem_vfs e)) (by decide), h.out.chg hCh (fun g e => ne g (PState.mem_vo e)) (by decide),
    fun y hy => (h.fs y hy).chg hCh (fun g hg => ne g (PState.mem_fs hy hg)), h.le, h.few, h.nodup⟩

end Go.Proofs.YtpcjkfppacnkgaaGreatDoor
end
section
/- A state in own memory turned into another: by number. Contracts of the document's push, pull, put, truth, reckoned. -/
set_option maxHeartbeats 4000000
set_option maxRecDepth 100000
namespace Go.Proofs.YtpcjkfppacnkgaaGreatDoor
open Go Go.RowKit

theorem split_last {α : Type} (l : List α) (h : 0 < l.length) : ∃ F x, l = F ++ [x] :=
  ⟨l.dropLast, l.getLast (by intro e; subst e; simp at h), (List.dropLast_concat_getLast _).symm⟩
theorem getD_last {α : Type} (F : List α) (x : α) (d : α) (n : Nat) (h : n = (F ++ [x]).length - 1) : (F ++ [x]).getD n d = x := by
  subst h; simp [List.getD]
theorem modify_mid {α : Type} (L : List α) (y : α) (R : List α) (g : α → α) : (L ++ y :: R).modify L.length g = L ++ g y :: R := by
  induction L with
  | nil => rfl
  | cons a L ih => simp only [List.cons_append, List.length_cons, List.modify_succ_cons, ih]
theorem modify_last {α : Type} (F : List α) (x : α) (g : α → α) (n : Nat) (h : n = (F ++ [x]).length - 1) : (F ++ [x]).modify n g = F ++ [g x] := by
  have : n = F.length := by simp at h; exact h
  subst this
  exact modify_mid F x [] g
theorem mem_modify' {α : Type} (g : α → α) : ∀ (l : List α) (n : Nat) (y : α), y ∈ l.modify n g → y ∈ l ∨ ∃ x ∈ l, y = g x
  | [], n, y, h => by cases n <;> simp at h
  | a :: l, 0, y, h => by
    simp only [List.modify_zero_cons, List.mem_cons] at h
    rcases h with rfl | h
    · exact .inr ⟨a, by simp, rfl⟩
    · exact .inl (by simp [h])
  | a :: l, n + 1, y, h => by
    simp only [List.modify_succ_cons, List.mem_cons] at h
    rcases h with rfl | h
    · exact .inl (by simp)
    · rcases mem_modify' g l n y h with h | ⟨x, hx, e⟩
      · exact .inl (by simp [h])
      · exact .inr ⟨x, by simp [hx], e⟩

section
variable {P : PState} {L R : List PFiber} {y : PFiber} {F : List PFrame} {x : PFrame}
theorem modFib_at (hP : P.fs = L ++ y :: R) {n : Int} (hn : n = L.length) {y' : PFiber} {g : GFiber → GFiber} (h : y'.g = g y.g) : modFib P.g n g = PState.g { P with fs := L ++ y' :: R } := by
  subst hn
  unfold modFib PState.g
  simp only [GState.mk.injEq, and_true]
  rw [hP, List.map_append, List.map_cons, List.map_append, List.map_cons, Int.toNat_natCast]
  have := modify_mid (L.map PFiber.g) y.g (R.map PFiber.g) g
  rw [List.length_map] at this
  rw [this, h]
end

/-- The state has become s'. -/
structure Turn (W W' : World) (B b : Nat) (P : PState) (s' : GState) : Prop where
  own : ∃ P', OwnS W' B b P' ∧ P'.g = s' ∧ ∀ g ∈ P'.bl, g ∈ P.bl ∨ W.heap.size ≤ g
  chg : Chg (· ∈ b :: P.bl) W W'
theorem Turn.refl {W : World} {B b : Nat} {P : PState} (h : OwnS W B b P) : Turn W W B b P P.g := ⟨⟨P, h, rfl, fun _ h => .inl h⟩, Chg.refl _ _⟩
theorem Turn.step {W W1 W2 : World} {B b : Nat} {P P1 : PState} {s2 : GState} (hc : Chg (· ∈ b :: P.bl) W W1) (hs : ∀ g ∈ P1.bl, g ∈ P.bl ∨ W.heap.size ≤ g) (h : Turn W1 W2 B b P1 s2) : Turn W W2 B b P s2 := by
  obtain ⟨⟨P2, o2, g2, s2'⟩, c2⟩ := h
  refine ⟨⟨P2, o2, g2, fun g hg => ?_⟩, hc.trans' c2 fun n hn hm => ?_⟩
  · rcases s2' g hg with h1 | h1
    · exact hs g h1
    · exact .inr (Nat.le_trans hc.size h1)
  · rcases List.mem_cons.1 hm with rfl | h1
    · exact List.mem_cons_self
    · rcases hs n h1 with h2 | h2
      · exact List.mem_cons_of_mem _ h2
      · omega
theorem Turn.ext {W W1 : World} {B b : Nat} {P : PState} {s : GState} (h : Turn W W1 B b P s) {W2 : World} (he : Ext W1 W2) : Turn W W2 B b P s := by
  obtain ⟨⟨P1, o1, g1, s1⟩, c1⟩ := h
  exact ⟨⟨P1, o1.ext he, g1, s1⟩, c1.trans (Chg.of_ext he)⟩
theorem Turn.pre {W W1 W2 : World} {B b : Nat} {P : PState} {s : GState} (he : Ext W W1) (h : Turn W1 W2 B b P s) : Turn W W2 B b P s :=
  Turn.step (Chg.of_ext he) (fun _ h => .inl h) h

/-- A call on the state has answered an error, or the state has become another. -/
structure Did (W W' : World) (B b : Nat) (P : PState) (r : Int × GState) : Prop where
  chg : Chg (· ∈ b :: P.bl) W W'
  turn : r.1 = 0 → Turn W W' B b P r.2
theorem Did.of {W W' : World} {B b : Nat} {P : PState} {s : GState} (h : Turn W W' B b P s) : Did W W' B b P (0, s) := ⟨h.chg, fun _ => h⟩
theorem Did.step {W W1 W2 : World} {B b : Nat} {P P1 : PState} {r : Int × GState} (hc : Chg (· ∈ b :: P.bl) W W1) (hs : ∀ g ∈ P1.bl, g ∈ P.bl ∨ W.heap.size ≤ g) (h : Did W1 W2 B b P1 r) : Did W W2 B b P r := by
  refine ⟨hc.trans' h.chg fun n hn hm => ?_, fun h0 => Turn.step hc hs (h.turn h0)⟩
  rcases List.mem_cons.1 hm with rfl | h1
  · exact List.mem_cons_self
  · rcases hs n h1 with h2 | h2
    · exact List.mem_cons_of_mem _ h2
    · omega

theorem Spot.bl {P : PState} {L R : List PFiber} {y : PFiber} {F : List PFrame} {x : PFrame} (hs : Spot P L y R F x) {g : Nat} : (rowBlock y.vf = some g ∨ g ∈ x.bl) → g ∈ P.bl := by
  intro h
  refine PState.mem_fs (y := y) (by rw [hs.fs]; simp) ?_
  unfold PFiber.bl
  rcases h with h | h
  · simp [h]
  · exact List.mem_append.2 (.inr (List.mem_flatMap.2 ⟨x, by rw [hs.fr]; simp, h⟩))
/-- There is room for one value more, on all frames. -/
def Room (s : GState) : Prop := ∀ f ∈ s.fibers, ∀ x ∈ f.frames, x.stack.length < 1000
theorem Room.fib {s : GState} (h : Room s) (n : Int) {g : GFiber → GFiber} (hg : ∀ f, (∀ x ∈ f.frames, x.stack.length < 1000) → ∀ x ∈ (g f).frames, x.stack.length < 1000) : Room (modFib s n g) := by
  intro f hf
  rcases mem_modify' g _ _ _ hf with h1 | ⟨z, h1, rfl⟩
  · exact h f h1
  · exact hg z (h z h1)
theorem Room.top {s : GState} (h : Room s) (n : Int) {g : GFrame → GFrame} (hg : ∀ x, (g x).stack.length ≤ x.stack.length) : Room (modTop s n g) :=
  h.fib n fun f hf x hx => by
    rcases mem_modify' g _ _ _ hx with h1 | ⟨z, h1, rfl⟩
    · exact hf x h1
    · exact Nat.lt_of_le_of_lt (hg z) (hf z h1)
theorem Room.drop {s : GState} (h : Room s) : Room (dropG s) := h.fib _ fun _ hf x hx => hf x (List.dropLast_subset _ hx)
theorem Room.caller {s : GState} (h : Room s) (n c : Int) : Room (modFib s n fun f => { f with caller := c }) := h.fib n fun _ hf x hx => hf x hx
theorem Room.now {s : GState} (h : Room s) (n : Int) : Room { s with now := n } := h
theorem FewS.room {s : GState} (h : FewS s) : Room s := fun f hf x hx => by have := ((h.2.2 f hf).2 x hx).2; omega

end Go.Proofs.YtpcjkfppacnkgaaGreatDoor
end
