/- Merged texts: contracts and plain facts, one part behind another; each part begins with what it says. -/
import Derived.Test.YtpcjkfppacnkgaaGreatDoorGKAD
import Derived.Test.YtpcjkfppacnkgaaGreatDoorGKAN
import Derived.Test.YtpcjkfppacnkgaaGreatDoorGKAP
section
/- The text package's Read: how it is left; lemmas for its rounds. No condition. -/
set_option maxHeartbeats 4000000
set_option maxRecDepth 100000
set_option linter.unusedSimpArgs false
namespace Go.Proofs.YtpcjkfppacnkgaaGreatDoor
open Go Go.RowKit

theorem wpAt_block {P : Program} {f : FuncId} {Q : Exit → Act → World → Prop} {a : Act} {w : World} {id : Nat} {c : Code} (h : Code.wpAt f P c (Exit.inBlock id Q) a w) : Code.wpAt f P (Code.block id c) Q a w := by
  intro b k cs hro hb
  have h0 : (lone (b.atR a (.code (.block id c) :: k)) cs w).fenced P Fence.wide := fenced_calm (n := 0) trivial (room_wide _) rfl
  obtain ⟨e, a₁, w₁, hq, harr⟩ := h b (.inBlock id :: k) cs hro hb
  cases e with
  | normal => exact ⟨.normal, a₁, w₁, hq, .head h0 stepR_block (StepsIn.trans harr (.one (fenced_calm (n := 0) trivial (room_wide _) rfl) stepR_inBlock))⟩
  | exit id' =>
    by_cases hid : id' = id
    · simp only [Exit.inBlock, hid, if_true] at hq
      exact ⟨.normal, a₁, w₁, hq, .head h0 stepR_block (harr.1 k (by simp [exitTo, hid]))⟩
    · simp only [Exit.inBlock, hid, if_false] at hq
      have this : (id == id') = false := by simp; exact fun h => hid h.symm
      have hx : exitTo id' (.inBlock id :: k) = exitTo id' k := by simp [exitTo, this]
      exact ⟨.exit id', a₁, w₁, hq, fun k' hk => .head h0 stepR_block (harr.1 k' (by rw [hx]; exact hk)),
        fun hr' hk => let ⟨k₁, h1, h2⟩ := harr.2 hr' (by rw [hx]; exact hk); ⟨k₁, h1, .head h0 stepR_block h2⟩⟩
  | goto l =>
    have hx : gotoIn l (.inBlock id :: k) = gotoIn l k := by simp [gotoIn]
    exact ⟨_, a₁, w₁, hq, fun k' hk => .head h0 stepR_block (harr.1 k' (by rw [hx]; exact hk)),
      fun hr' hk => let ⟨k₁, h1, h2⟩ := harr.2 hr' (by rw [hx]; exact hk); ⟨k₁, h1, .head h0 stepR_block h2⟩⟩
  | ret => exact ⟨_, a₁, w₁, hq, .of_steps (.one h0 stepR_block) harr⟩
  | panic ch => exact ⟨_, a₁, w₁, hq, .of_steps (.one h0 stepR_block) harr⟩
  | outgrown => exact ⟨_, a₁, w₁, hq, .of_steps (.one h0 stepR_block) harr⟩
/-- The statement 'for x := range g', x in slot q. -/
theorem wpAt_rangeQ {P : Program} {f : FuncId} {Q : Exit → Act → World → Prop} {a : Act} {w : World} {α : Type} {g : Operand} {p0 : Tmp} {assign body : Code} {gf : Nat} {lb : Array Value} {enc : α → Value} {ys : List α} {own : Nat → Prop} (q : Nat)
    (hf : ∃ fn, P.funcs[f]? = some fn) (hg : a.eval g = .func (.func gf) #[] lb) (eg : ∀ args w, (callFunc gf args).run P w = .ok (.enter gf args) w)
    (hit : IterT P gf lb enc ys own w) (hown : ∀ b, own b → b < w.heap.size)
    (I : List α → World → Prop) (Ip : List PanicEntry → World → Prop) (hI : ∀ ys W W', I ys W → Kc w.heap.size W W' → I ys W') (hIo : ∀ ys W b u, I ys W → own b → I ys (W.setCell ⟨b, 0, none⟩ u)) (h0 : I ys w)
    (hassign : ∀ (l : Nat) (x : α) (W : World) (K : Act → World → Prop), K { tmps := (a.tmps.setIfInBounds p0 (enc x)).setIfInBounds q (enc x), defers := [] } W → assign.wpIn (Fence.wide.inRound l) 0 P (Exit.then K (fun _ _ _ => False)) { tmps := a.tmps.setIfInBounds p0 (enc x), defers := [] } W)
    (hbody : ∀ (l : Nat) (x : α) (ys : List α) (W : World), I (x :: ys) W → (∀ b o v, W.cell? ⟨b, o, none⟩ = some v → b ≠ l) → w.heap.size < l → l < W.heap.size → body.wpIn (Fence.wide.inRound l) 0 P (fun e a' W' => match e with
      | .normal => I ys W' ∧ (∀ b v, own b → Cx W b 0 v → Cx W' b 0 v) ∧ (∀ (k : Nat) (o : Obj), w.heap.size ≤ k → W.heap[k]? = some o → o.isCells = false → W'.heap[k]? = some o)
      | .panic c => a'.defers = [] ∧ Ip c W' ∧ (∀ (k : Nat) (o : Obj), w.heap.size ≤ k → W.heap[k]? = some o → o.isCells = false → W'.heap[k]? = some o)
      | _ => False) { tmps := (a.tmps.setIfInBounds p0 (enc x)).setIfInBounds q (enc x), defers := [] } W)
    (hdone : ∀ (D : Nat) (W : World), w.heap.size ≤ D → I [] W → W.heap[D]? = some (.deferred (some [])) → Q .normal { a with defers := { target := .collected D, args := #[] } :: a.defers } W)
    (hpanic : ∀ (D : Nat) (c : List PanicEntry) (W : World), w.heap.size ≤ D → Ip c W → W.heap[D]? = some (.deferred (some [])) → Q (.panic c) { a with defers := { target := .collected D, args := #[] } :: a.defers } W) :
    Code.wpAt f P (Code.rangeFunc g #[p0] assign body) Q a w :=
  wpAt_rangeT hf hg eg hit hown I Ip hI hIo h0 (fun x => { tmps := (a.tmps.setIfInBounds p0 (enc x)).setIfInBounds q (enc x), defers := [] }) hassign hbody hdone hpanic
theorem readRes (tmps : Array Value) (W : World) (bp be : Nat) (v r : Value) (h2 : tmps.getD 2 undef = .pointer (some ⟨bp, 0, none⟩)) (h3 : tmps.getD 3 undef = .pointer (some ⟨be, 0, none⟩)) (hp : W.cell? ⟨bp, 0, none⟩ = some v) (he : W.cell? ⟨be, 0, none⟩ = some r) :
    (results Tryz.f16 tmps).run Tryz.prog W = .ok (.tuple #[v, r]) W := by
  have h2' : tmps[2]?.getD undef = .pointer (some ⟨bp, 0, none⟩) := by simpa using h2
  have h3' : tmps[3]?.getD undef = .pointer (some ⟨be, 0, none⟩) := by simpa using h3
  simp [results, Tryz.results16, go_sem, h2', h3', hp, he]
/-- The deferred function of Read. -/
def dR (bp be : Nat) : Deferred := { target := .fn (.func 46) #[.pointer (some ⟨bp, 0, none⟩), .pointer (some ⟨be, 0, none⟩)], args := #[] }
theorem leaveR_ok (tmps : Array Value) (W : World) (bp be : Nat) (v r : Value) (R : Ending → World → Prop) (h2 : tmps.getD 2 undef = .pointer (some ⟨bp, 0, none⟩)) (h3 : tmps.getD 3 undef = .pointer (some ⟨be, 0, none⟩)) (hp : W.cell? ⟨bp, 0, none⟩ = some v) (he : W.cell? ⟨be, 0, none⟩ = some r)
    (hR : R (.returned (.tuple #[v, r])) W) : LeavesInM Fence.wide 0 Tryz.prog Tryz.f16 tmps R [dR bp be] .returning W := by
  refine ⟨by simp, .inr ⟨fun e => Bool.noConfusion e, _, _, 46, #[.pointer (some ⟨bp, 0, none⟩), .pointer (some ⟨be, 0, none⟩)], rfl, by simp [dR, go_sem], fun _ _ => trivial, ?_⟩⟩
  refine (catchR_idle bp be W).mono ?_
  rintro e u' w' ⟨rfl, rfl, rfl⟩
  exact ⟨_, readRes tmps W bp be v r h2 h3 hp he, hR⟩
theorem leaveR_panic (tmps : Array Value) (W : World) (bp be : Nat) (hne : bp ≠ be) (v r : Value) (R : Ending → World → Prop) (h2 : tmps.getD 2 undef = .pointer (some ⟨bp, 0, none⟩)) (h3 : tmps.getD 3 undef = .pointer (some ⟨be, 0, none⟩)) (hp : Cx W bp 0 v) (he : Cx W be 0 r)
    (hR : ∀ W', Chg (fun b => b = bp ∨ b = be) W W' → R (.returned (.tuple #[.slice none 0 0, .int .i64 1])) W') : LeavesInM Fence.wide 0 Tryz.prog Tryz.f16 tmps R [dR bp be] (.panicking [brkE]) W := by
  refine ⟨by simp, .inr ⟨fun e => Bool.noConfusion e, _, _, 46, #[.pointer (some ⟨bp, 0, none⟩), .pointer (some ⟨be, 0, none⟩)], rfl, by simp [dR, go_sem], fun _ _ => trivial, ?_⟩⟩
  refine (catchR_panicking bp be hne v r [] W hp he).mono ?_
  rintro e u' w' ⟨rfl, rfl, q1, q2, hc⟩
  exact ⟨_, readRes tmps w' bp be _ _ h2 h3 q1.1 q2.1, hR w' hc⟩
/-- The mark of a loop is taken up first. -/
theorem leaveR_mark {tmps : Array Value} {W : World} {D : Nat} {R : Ending → World → Prop} {u : FrameMode} {ds : List Deferred} (hu : u ≠ .run) (hD : W.heap[D]? = some (.deferred (some []))) (h : ∀ W', Kc D W W' → LeavesInM Fence.wide 0 Tryz.prog Tryz.f16 tmps R ds u W') :
    LeavesInM Fence.wide 0 Tryz.prog Tryz.f16 tmps R ({ target := .collected D, args := #[] } :: ds) u W := by
  refine ⟨hu, .inl ⟨D, _, rfl, run_takeDeferred hD, h _ (Kc.putObj _ hD rfl (Nat.le_refl _))⟩⟩
theorem PF.kc {Kp : Nat → Prop} {w w0 wx W : World} {B : Nat} {v : Value} {fs : List (GFunc × Value)} (h : PF Kp w w0 B v fs wx) (hk : Kc w0.heap.size wx W) (hw : w.heap.size ≤ w0.heap.size) : PF Kp w w0 B v fs W :=
  ⟨h.inK, Nat.le_trans h.le hk.below.size, fun b hb => (hk.below.block b (h.inK b hb)).trans (h.keep b hb), hk.ext h.ext hw, h.base, h.row.kc hk, h.off⟩
theorem PF.box {Kp : Nat → Prop} {w w0 wx : World} {B b : Nat} {v : Value} {fs : List (GFunc × Value)} (h : PF Kp w w0 B v fs wx) (hK : ¬ Kp b) (hb : ∀ g ∈ blocksP v fs, g ≠ b) (hw : w.heap.size ≤ b) (u : Value) : PF Kp w w0 B v fs (wx.setCell ⟨b, 0, none⟩ u) :=
  ⟨h.inK, Nat.le_trans h.le (chg_one wx b 0 u).size, fun k hk => ((chg_one wx b 0 u).block k (Nat.lt_of_lt_of_le (h.inK k hk) h.le) (fun e => hK (e ▸ hk))).trans (h.keep k hk), Chg.ext_from h.ext (chg_one wx b 0 u) (fun k e => by have e : k = b := e; omega), h.base, h.row.chg (chg_one wx b 0 u) (fun g hg e => hb g hg e), h.off⟩
theorem PRow.cells {w : World} {B : Nat} {v : Value} {fs : List (GFunc × Value)} (h : PRow w B v fs) {g : Nat} (hg : g ∈ blocksP v fs) : ∃ o, w.heap[g]? = some o ∧ o.isCells = true := by
  rcases List.mem_append.1 hg with h1 | h1
  · obtain ⟨o, u, hc⟩ := h.row.isCells (by decide) (b := g) (by simpa using h1)
    exact cells_of_cell hc
  · obtain ⟨y, hy, h2⟩ := List.mem_flatMap.1 h1
    obtain ⟨o, u, hc⟩ := (h.fn y hy).2.2.1.isCells (by decide) (b := g) (by simpa using h2)
    exact cells_of_cell hc
theorem PRow.low {w : World} {B B' : Nat} {v : Value} {fs : List (GFunc × Value)} (h : PRow w B v fs) (hB : B' ≤ B) : PRow w B' v fs :=
  ⟨h.row.mono hB, fun y hy => ⟨(h.fn y hy).1, (h.fn y hy).2.1, (h.fn y hy).2.2.1.mono hB, (h.fn y hy).2.2.2⟩, h.nodup, h.few⟩
/-- Where the reading stands, ys to come. -/
def ReadI (wS w0 : World) (bp bs : Nat) (R : Option (List GFunc)) (N : Nat) (ys : List By) (W : World) : Prop :=
  ∃ fs v, PF (fun b => b < w0.heap.size ∧ b ≠ bp ∧ b ≠ bs) wS w0 w0.heap.size v fs W ∧ Cx W bp 0 v ∧ readGo (fs.map Prod.fst) ys = R ∧ FewP (N - ys.length) fs ∧ ys.length ≤ N ∧ ∀ y ∈ ys, y.length ≤ 8192
/-- Where a round panics. -/
def ReadIp (wS : World) (bp be : Nat) (R : Option (List GFunc)) (c : List PanicEntry) (W : World) : Prop := c = [brkE] ∧ R = none ∧ (∃ v, Cx W bp 0 v) ∧ (∃ v, Cx W be 0 v) ∧ Ext wS W
theorem ReadI.kc {wS w0 : World} {bp bs N : Nat} {R : Option (List GFunc)} {ys : List By} {W W' : World} (hw : wS.heap.size ≤ w0.heap.size) (h : ReadI wS w0 bp bs R N ys W) (hk : Kc w0.heap.size W W') : ReadI wS w0 bp bs R N ys W' := by
  obtain ⟨fs, v, h1, h2, h3⟩ := h
  exact ⟨fs, v, h1.kc hk hw, hk.cx h2, h3⟩
theorem ReadI.own {wS w0 : World} {bp bs N : Nat} {R : Option (List GFunc)} {ys : List By} {W : World} (h : ReadI wS w0 bp bs R N ys W) (hbs : bs < w0.heap.size) (hsw : wS.heap.size ≤ bs) (hne : bp ≠ bs) (u : Value) : ReadI wS w0 bp bs R N ys (W.setCell ⟨bs, 0, none⟩ u) := by
  obtain ⟨fs, v, h1, h2, h3⟩ := h
  exact ⟨fs, v, h1.box (fun e => e.2.2 rfl) (fun g hg e => by have := (h1.row.ge g hg).1; omega) hsw u, h2.other (.inl hne) u, h3⟩
theorem Cx.of_block {W W' : World} {b o : Nat} {v : Value} (h : Cx W b o v) (e : W'.heap[b]? = W.heap[b]?) : Cx W' b o v := ⟨(World.cell?_of_block e).trans h.1, by rw [World.frozen?_of_block e]; exact h.2⟩
/-- The blocks that a round does not touch. -/
def Kr (W : World) (bp : Nat) (v : Value) (fs : List (GFunc × Value)) (b : Nat) : Prop := b < W.heap.size ∧ b ≠ bp ∧ b ∉ blocksP v fs
theorem ReadI.begin {wS w0 W : World} {bp bs : Nat} {v : Value} {fs : List (GFunc × Value)} (h : PF (fun b => b < w0.heap.size ∧ b ≠ bp ∧ b ≠ bs) wS w0 w0.heap.size v fs W) : PF (Kr W bp v fs) wS W w0.heap.size v fs W :=
  PF.start (fun _ h => h.1) h.ext h.base h.row (fun _ hg hk => hk.2.2 hg)
theorem others_kept {wS w0 W W' : World} {bp B' : Nat} {v v' : Value} {fs fs' : List (GFunc × Value)} (hbp : bp < w0.heap.size) (hr : PRow W w0.heap.size v fs) (h' : PF (Kr W bp v fs) wS W B' v' fs' W') : ∀ (k : Nat) (o : Obj), w0.heap.size ≤ k → W.heap[k]? = some o → o.isCells = false → W'.heap[k]? = some o := fun k o hk ho hc => by
  rw [h'.keep k ⟨(Array.getElem?_eq_some_iff.1 ho).1, by omega, fun hm => by
    obtain ⟨o2, h1, h2⟩ := hr.cells hm
    rw [ho] at h1
    cases h1
    rw [hc] at h2
    cases h2⟩]
  exact ho
theorem ReadI.next {wS w0 W W' : World} {bp bs N : Nat} {R : Option (List GFunc)} {ys : List By} {v v' : Value} {fs fs' : List (GFunc × Value)} (hbp : bp < w0.heap.size) (hbs : bs < w0.heap.size) (hne : bs ≠ bp) (h : PF (fun b => b < w0.heap.size ∧ b ≠ bp ∧ b ≠ bs) wS w0 w0.heap.size v fs W)
    (h' : PF (Kr W bp v fs) wS W w0.heap.size v' fs' W') (hcp : Cx W' bp 0 v') (hgo : readGo (fs'.map Prod.fst) ys = R) (hfew : FewP (N - ys.length) fs') (hl : ys.length ≤ N) (hys : ∀ y ∈ ys, y.length ≤ 8192) :
    ReadI wS w0 bp bs R N ys W' ∧ (∀ b v, b = bs → Cx W b 0 v → Cx W' b 0 v) ∧ (∀ (k : Nat) (o : Obj), w0.heap.size ≤ k → W.heap[k]? = some o → o.isCells = false → W'.heap[k]? = some o) := by
  have hge : ∀ g ∈ blocksP v fs, w0.heap.size ≤ g := fun g hg => (h.row.ge g hg).1
  have hle := h.le
  refine ⟨⟨fs', v', h'.back h (fun b hb => ⟨by omega, hb.2.1, fun hm => by have := hge b hm; omega⟩), hcp, hgo, hfew, hl, hys⟩, fun b u hb hc => ?_, others_kept hbp h.row h'⟩
  subst hb
  exact hc.of_block (h'.keep b ⟨by omega, hne, fun hm => by have := hge b hm; omega⟩)
theorem ReadI.fail {wS w0 W W' : World} {bp be bs : Nat} {R : Option (List GFunc)} {v v' u : Value} {fs fs' : List (GFunc × Value)} {B' : Nat} (hbp : bp < w0.heap.size) (hbe : be < w0.heap.size) (hne : be ≠ bp) (hns : be ≠ bs) (h : PF (fun b => b < w0.heap.size ∧ b ≠ bp ∧ b ≠ bs) wS w0 w0.heap.size v fs W)
    (h' : PF (Kr W bp v fs) wS W B' v' fs' W') (hcp : ∃ q, Cx W' bp 0 q) (hce : Cx w0 be 0 u) (hR : R = none) :
    ReadIp wS bp be R [brkE] W' ∧ (∀ (k : Nat) (o : Obj), w0.heap.size ≤ k → W.heap[k]? = some o → o.isCells = false → W'.heap[k]? = some o) := by
  have hge : ∀ g ∈ blocksP v fs, w0.heap.size ≤ g := fun g hg => (h.row.ge g hg).1
  have hle := h.le
  refine ⟨⟨rfl, hR, hcp, ⟨u, ?_⟩, h'.ext⟩, others_kept hbp h.row h'⟩
  exact (hce.of_block (h.keep be ⟨hbe, hne, hns⟩)).of_block (h'.keep be ⟨by omega, hne, fun hm => by have := hge be hm; omega⟩)
/-- What Read hands back. -/
def ReadRet (w : World) (s : By) (e : Ending) (w' : World) : Prop := ∃ v fs, e = .returned (.tuple #[v, .int .i64 (readT s).1]) ∧ PRow w' w.heap.size v fs ∧ fs.map Prod.fst = (readT s).2
end Go.Proofs.YtpcjkfppacnkgaaGreatDoor
end
section
/- Contract of the text package's Read. No condition. -/
set_option maxHeartbeats 4000000
set_option maxRecDepth 100000
namespace Go.Proofs.YtpcjkfppacnkgaaGreatDoor
open Go Go.RowKit Go.Shelf

attribute [local go_sem] Oper.semAt_some

theorem linesGo_len : ∀ (s cur : By), (linesGo cur s).length ≤ s.length + 1 ∧ (∀ y ∈ linesGo cur s, y.length ≤ cur.length + s.length) ∧ (cur = [] → (linesGo cur s).length ≤ s.length)
  | [], cur => by
    rw [linesGo]
    split
    · rename_i h; simp [h]
    · rename_i h
      exact ⟨by simp, by simp, fun e => absurd e h⟩
  | b :: s, cur => by
    rw [linesGo]
    split
    · obtain ⟨h1, h2, h3⟩ := linesGo_len s []
      have h3 := h3 rfl
      refine ⟨by simp; omega, fun y hy => ?_, fun _ => by simp; omega⟩
      rcases List.mem_cons.1 hy with rfl | hy
      · simp
      · have := h2 y hy
        simp at this ⊢
        omega
    · obtain ⟨h1, h2, h3⟩ := linesGo_len s (cur ++ [b])
      refine ⟨by simp; omega, fun y hy => ?_, fun _ => by simp; omega⟩
      have := h2 y hy
      simp at this ⊢
      omega
theorem linesL_len (s : By) : (linesL s).length ≤ s.length ∧ ∀ y ∈ linesL s, y.length ≤ s.length := by
  obtain ⟨_, h2, h3⟩ := linesGo_len s []
  exact ⟨h3 rfl, fun y hy => by have := h2 y hy; simpa using this⟩

theorem splitGo_cnt (c : UInt8) : ∀ (l cur : By), (splitGo c cur l).length ≤ l.length + 1
  | [], cur => by simp [splitGo]
  | b :: l, cur => by
    rw [splitGo]
    split
    · have := splitGo_cnt c l []
      simp
      omega
    · have := splitGo_cnt c l (cur ++ [b])
      simp
      omega
theorem numsR_len {l : List By} {n : Nat} {L : List Int} (h : numsR l n = some L) : L.length = n := by
  unfold numsR at h
  split at h
  · rename_i hl
    have : ∀ (l : List By) (L : List Int), l.mapM atoiO = some L → L.length = l.length := fun l => by
      induction l with
      | nil => intro L h; cases h; rfl
      | cons a l ih =>
        intro L h
        rw [List.mapM_cons] at h
        obtain ⟨u, _, h⟩ := Option.bind_eq_some_iff.1 h
        obtain ⟨M, hM, h⟩ := Option.bind_eq_some_iff.1 h
        cases h
        simp [ih M hM]
    rw [this l L h, hl]
  · cases h
theorem strs_tail (W : World) (bw : Nat) (x0 : By) (wt : List By) (hc : ∀ i (h : i < (x0 :: wt).length), W.cell? ⟨bw, i, none⟩ = some (txtV (x0 :: wt)[i])) (hl : wt.length ≤ 100000) :
    Strs W (fun _ => True) (.slice (some ⟨bw, 1, none⟩) wt.length wt.length) wt := by
  refine ⟨_, wt.length, rfl, Nat.le_refl _, ⟨by omega, by omega⟩, fun i hi => ⟨bw, 1, rfl, trivial, ?_⟩⟩
  have := hc (i + 1) (by simp; omega)
  rw [Nat.mul_one, Nat.add_comm 1 i, this]
  rfl
theorem read_any (s : By) (w : World) (hg : Glob w) :
    Calls Tryz.prog 16 #[.string ⟨s.toArray⟩] w fun e w' => ReadRet w s e w' ∧ Ext w w' := by
  obtain ⟨X, hX⟩ : ∃ X : ByteArray, (⟨s.toArray⟩ : ByteArray) = X := ⟨_, rfl⟩
  have hN : X.size = s.length := by rw [← hX]; exact size_by s
  have HX := Lib.hid hX
  obtain ⟨i0, hi0, hz0, hz1, hz2⟩ := info_parts infoF
  obtain ⟨j0, hj0, hx0, hx1, hx2⟩ := info_parts infoO
  rw [hX]
  clear hX
  refine calls_of_wpAt Tryz.func16 rfl ?_
  simp only [Tryz.ntmps16, List.size_toArray, List.length_cons, List.length_nil, Nat.reduceAdd, Nat.reduceSub, Array.replicate_succ, Array.replicate_zero, List.push_toArray, List.append_toArray, List.nil_append, List.cons_append]
  have RA := alloc_keep
  refine wpAt_step ?_
  go_wp2_with fail
  have hsz : (w.alloc (.cells #[.slice none 0 0] 27)).heap.size = w.heap.size + 1 := Array.size_push _
  have a2 : Ext (w.alloc (.cells #[.slice none 0 0] 27)) ((w.alloc (.cells #[.slice none 0 0] 27)).alloc (.cells #[.int .i64 0] 22)) := (Ext.refl _).alloc _
  have CP := Lib.hid ((Cx.new w [.slice none 0 0] 27 (j := 0) rfl).ext a2)
  have CE := Lib.hid (Cx.new (w.alloc (.cells #[.slice none 0 0] 27)) [.int .i64 0] 22 (j := 0) rfl)
  rw [hsz] at CE
  have HE1 := Lib.hid (((Ext.refl w).alloc (.cells #[.slice none 0 0] 27)).trans a2)
  have HS1 : Hid (((w.alloc (.cells #[.slice none 0 0] 27)).alloc (.cells #[.int .i64 0] 22)).heap.size = w.heap.size + 2) := by unfold Hid; rw [World.size_alloc, hsz]
  have HG := Lib.hid (hg.ext HE1.out)
  have hg0 := Lib.hid hg
  clear hsz a2 hg
  obtain ⟨bp, hbp⟩ : ∃ bp, w.heap.size = bp := ⟨_, rfl⟩
  have HBP := Lib.hid hbp
  simp only [hbp] at CP CE HS1 ⊢
  clear hbp
  generalize (w.alloc (.cells #[.slice none 0 0] 27)).alloc (.cells #[.int .i64 0] 22) = w1 at *
  have cp0 := CP.out.1
  have cp1 := CP.out.2
  have CE2 := Lib.hid (CE.out.other (b' := bp) (j' := 0) (.inl (by omega)) (.slice none 0 0))
  have ce0 := CE.out.1
  have ce1 := CE.out.2
  have ce2 := CE2.out.1
  have ce3 := CE2.out.2
  by_cases h8 : 8192 < s.length
  · have HRT : Hid (readT s = (2, [])) := by unfold Hid readT; rw [if_pos h8]
    refine wpAt_step ?_
    go_wp2_with fail
    refine ⟨_, readRes _ _ bp (bp + 1) (.slice none 0 0) (.int .i64 2) rfl rfl ((CP.out.set (.slice none 0 0)).other (b' := bp + 1) (j' := 0) (.inl (by omega)) _).1 (CE2.out.set _).1, ⟨.slice none 0 0, [], by rw [HRT.out], PRow.nil _ _, by rw [HRT.out]; rfl⟩, ?_⟩
    exact (HE1.out.setCell (p := ⟨bp, 0, none⟩) (by rw [HBP.out]; exact Nat.le_refl _) _).setCell (p := ⟨bp + 1, 0, none⟩) (by rw [HBP.out]; exact Nat.le_succ _) _
  · have hs8 : s.length ≤ 8192 := by omega
    have hmf : ∀ (fn : Fn) (first cap : Array Value) (w : World), (Instr.makeFunc fn first cap).run Tryz.prog w = .ok (.func fn first cap) w := fun _ _ _ _ => rfl
    refine wpAt_step ?_
    go_wp2_with fail
    refine wpAt_step ?_
    go_wp2_with fail
    refine wpAt_step ?_
    go_wp2_with (first
      | (go_at_call 37; (with_reducible refine (namesI_any _ HG.out).mono ?_); rintro e w2 ⟨vn, rfl, hvn, hb2⟩; have HVN := Lib.hid hvn; have HB2 := Lib.hid hb2; obtain ⟨an, cn, rfl, _, _⟩ := hvn))
    refine wpAt_seq ?_
    refine wpAt_step ?_
    go_wp2_with (first
      | (go_at_call 28; refine (linesIt_any _ _).mono ?_; rintro e w3 ⟨rfl, rfl⟩))
    have hsz : (w2.alloc (.cells #[.slice an namesT.length cn] 79)).heap.size = w2.heap.size + 1 := Array.size_push _
    have a2 : Ext (w2.alloc (.cells #[.slice an namesT.length cn] 79)) ((w2.alloc (.cells #[.slice an namesT.length cn] 79)).alloc (.cells #[.string X] 9)) := (Ext.refl _).alloc _
    have CN := Lib.hid ((Cx.new w2 [.slice an namesT.length cn] 79 (j := 0) rfl).ext a2)
    have CS := Lib.hid (Cx.new (w2.alloc (.cells #[.slice an namesT.length cn] 79)) [.string X] 9 (j := 0) rfl)
    rw [hsz] at CS
    have HX2 : Hid (Ext w2 ((w2.alloc (.cells #[.slice an namesT.length cn] 79)).alloc (.cells #[.string X] 9))) := ((Ext.refl w2).alloc (.cells #[.slice an namesT.length cn] 79)).trans a2
    have HS2 : Hid (((w2.alloc (.cells #[.slice an namesT.length cn] 79)).alloc (.cells #[.string X] 9)).heap.size = w2.heap.size + 2) := by unfold Hid; rw [World.size_alloc, hsz]
    have HSW : Hid (bp + 2 ≤ w2.heap.size) := by unfold Hid; rw [← HS1.out]; exact HB2.out.size
    obtain ⟨bn, hbn⟩ : ∃ bn, w2.heap.size = bn := ⟨_, rfl⟩
    have HVB : Hid (Strs w2 (fun b => bp + 2 ≤ b ∧ b < bn) (.slice an namesT.length cn) namesT) := HVN.out.stays fun b o v hb hc => ⟨hc, by have := HS1.out; have := lt_of_cell hc; omega⟩
    simp only [hbn] at CN CS HS2 HSW ⊢
    clear hbn hsz a2
    generalize (w2.alloc (.cells #[.slice an namesT.length cn] 79)).alloc (.cells #[.string X] 9) = w0 at *
    have HB0 := Lib.hid (HB2.out.trans HX2.out)
    have HE0 := Lib.hid (HE1.out.trans HB0.out)
    have CP0 := Lib.hid (CP.out.ext HB0.out)
    have CE0 := Lib.hid (CE.out.ext HB0.out)
    have HVN0 := Lib.hid (HVB.out.stays (Ext.stays HX2.out))
    have HG0 := Lib.hid (HG.out.ext HB0.out)
    clear cp0 cp1 CE2 ce0 ce1 ce2 ce3 CP CE HVN HX2 HB2 HE1 HB0 HG HS1 h8 hmf hb2
    obtain ⟨R, hR⟩ : ∃ R, readR s = R := ⟨_, rfl⟩
    have HR := Lib.hid hR
    have hlen := linesL_len s
    have CS0 : Hid (Cx w0 (bn + 1) 0 (txtV s)) := by unfold Hid txtV; rw [HX.out]; exact CS.out
    refine wpAt_block ?_
    refine wpAt_rangeQ (α := By) 5 (gf := 69) (lb := #[.pointer (some ⟨bn + 1, 0, none⟩)]) (enc := txtV) (ys := linesL s) (own := (· = bn + 1)) ⟨_, Tryz.func16⟩ rfl (enters_of Tryz.func69 (by kernel_rfl) rfl)
      (lines_iter s (bn + 1) w0 CS0.out (by omega)) (fun b hb => by subst hb; rw [HS2.out]; omega) (ReadI w w0 bp (bn + 1) R (linesL s).length) (ReadIp w bp (bp + 1) R)
      (fun ys W W' h hk => h.kc (by rw [HS2.out, HBP.out]; have := HSW.out; omega) hk) (fun ys W b u h hb => by subst hb; exact h.own (by rw [HS2.out]; omega) (by rw [HBP.out]; have := HSW.out; omega) (by have := HSW.out; omega) u) ?h0 ?hassign ?hbody ?hdone ?hpanic
    case h0 =>
      have hsw := HSW.out
      refine ⟨[], .slice none 0 0, PF.start (fun b hb => hb.1) HE0.out (by rw [HS2.out, HBP.out]; omega) (PRow.nil _ _) (by simp [blocksP, rowBlock]), CP0.out, ?_, ⟨by simp, by simp⟩, Nat.le_refl _, fun y hy => Nat.le_trans (hlen.2 y hy) hs8⟩
      rw [← hR]
      rfl
    case hassign =>
      intro l x W K hK
      simp only [List.setIfInBounds_toArray, List.set_cons_succ, List.set_cons_zero] at hK ⊢
      gi_wp2_with fail
      exact hK
    case hbody =>
      intro l x ys W hI hln hlw hlt
      simp only [List.setIfInBounds_toArray, List.set_cons_succ, List.set_cons_zero]
      obtain ⟨fs, v, hpf, hcp, hgo, hfew, hlen2, hys⟩ := hI
      obtain ⟨av, cv, rfl, _, _⟩ := hpf.row.row.shape
      have hsw := HSW.out
      have hs2 := HS2.out
      have hwb := HBP.out
      have hle0 := hpf.le
      have HPF := Lib.hid hpf
      have HPR := Lib.hid (ReadI.begin hpf)
      have HCP := Lib.hid hcp
      have HGO := Lib.hid hgo
      have HFEW := Lib.hid hfew
      have HYS : Hid (∀ y ∈ ys, y.length ≤ 8192) := fun y hy => hys y (List.mem_cons_of_mem _ hy)
      have hxl : x.length ≤ 8192 := hys x (List.mem_cons_self ..)
      have HGW := Lib.hid (hg0.out.ext hpf.ext)
      have HVW := Lib.hid (HVN0.out)
      have HCN : Hid (Cx W bn 0 (.slice an namesT.length cn)) := CN.out.of_block (hpf.keep bn ⟨by omega, by omega, by omega⟩)
      have HLN : Hid (ys.length + 1 ≤ (linesL s).length) := hlen2
      have hNl := hlen.1
      have hfl : fs.length ≤ 8192 := by have := hfew.1; omega
      have HM : Hid (∀ g, rowBlock (.slice av fs.length cv) = some g → w0.heap.size ≤ g ∧ g < W.heap.size) := fun g e => hpf.row.ge g (by rw [e]; simp)
      clear hpf hcp hgo hfew hys hlen2 hlen hln hlw hlt
      obtain ⟨tr, htr⟩ : ∃ tr, Lib.trimSuffix x [10] = tr := ⟨_, rfl⟩
      have HTR : ∀ W2, Hid (Calls Tryz.prog 31 #[.string ⟨x.toArray⟩, .string ⟨#[10]⟩] W2 fun e w' => e = .returned (.string ⟨tr.toArray⟩) ∧ W2 = w') := fun W2 => by
        unfold Hid
        rw [← htr]
        exact trim_any x W2 (by omega)
      have htl : tr.length ≤ 8192 := by
        rw [← htr]
        unfold Lib.trimSuffix
        split
        · simp; omega
        · exact hxl
      obtain ⟨ws, hws⟩ : ∃ ws, splitC 32 tr = ws := ⟨_, rfl⟩
      have HWS : Hid (wordsR x = ws) := by unfold Hid wordsR; rw [htr, hws]
      obtain ⟨cs, hcs⟩ : ∃ cs, (ws.map txtV).toArray = cs := ⟨_, rfl⟩
      have HSP : ∀ W2, Glob W2 → Hid (Calls Tryz.prog 47 #[.string ⟨tr.toArray⟩, .string ⟨#[32]⟩] W2 fun e w' => e = .returned (.slice (some ⟨W2.heap.size, 0, none⟩) ws.length ws.length) ∧ w' = W2.alloc (.cells cs 9)) := fun W2 hg2 => by
        unfold Hid
        rw [← hcs, ← hws]
        exact splitI_any tr W2 hg2 (by omega)
      have hw1 : 1 ≤ ws.length := by rw [← hws]; exact splitGo_ne 32 tr []
      have HCSS := Lib.hid hcs
      have hwm : ∀ y ∈ ws, y.length ≤ 8192 := fun y hy => Nat.le_trans (splitC_mem (by rw [hws]; exact hy)) htl
      have HWM := Lib.hid hwm
      have hwn : ws.length ≤ 8193 := by rw [← hws]; exact Nat.le_trans (splitGo_cnt 32 tr []) (by omega)
      clear htr hws hwm hcs
      obtain ⟨x0, wt, rfl⟩ : ∃ x0 wt, ws = x0 :: wt := by
        cases ws with
        | nil => exact absurd hw1 (by simp)
        | cons a b => exact ⟨a, b, rfl⟩
      have hwtl : wt.length ≤ 8192 := by simp at hwn; omega
      gi_upto_region 8 with (first
        | (refine ⟨trivial, rfl, ?_⟩; gi_at_call 31; refine (calls_in (HTR _).out).mono ?_; rintro e w3 ⟨rfl, rfl⟩)
        | (refine ⟨trivial, rfl, ?_⟩; gi_at_call 47; refine (calls_in (HSP _ HGW.out).out).mono ?_; rintro e w3 ⟨rfl, rfl⟩))
      have HCW : Hid (∀ i (h : i < (x0 :: wt).length), (W.alloc (.cells cs 9)).cell? ⟨W.heap.size, i, none⟩ = some (txtV (x0 :: wt)[i])) := fun i hi => by
        rw [World.cell?_alloc_new, ← HCSS.out, List.getElem?_toArray, List.getElem?_map, List.getElem?_eq_getElem hi]
        rfl
      have HXA := Lib.hid ((Ext.refl W).alloc (.cells cs 9))
      have x00 : (W.alloc (.cells cs 9)).cell? ⟨W.heap.size, 0, none⟩ = some (.string ⟨x0.toArray⟩) := HCW.out 0 (by simp)
      obtain ⟨bw, hbw⟩ : ∃ bw, W.heap.size = bw := ⟨_, rfl⟩
      have HBW := Lib.hid hbw
      simp only [hbw] at HCW x00 ⊢
      clear hbw
      generalize W.alloc (.cells cs 9) = wa at *
      by_cases hfn : x0 = funcT
      · have TF : (x0 == [102, 117, 110, 99]) = true := by rw [hfn]; rfl
        have HLN2 : Hid (lineR (fs.map Prod.fst) x = (numsR wt 2).map fun n => fs.map Prod.fst ++ [⟨n.getD 0 0, n.getD 1 0, []⟩]) := by
          unfold Hid lineR
          rw [HWS.out, List.headD_cons, if_pos hfn, List.tail_cons]
        clear hfn
        have HTL := Lib.hid (strs_tail wa bw x0 wt HCW.out (by omega))
        have HNU : ∀ W2, Ext wa W2 → Hid (Calls Tryz.prog 48 #[.slice (some ⟨bw, 1, none⟩) wt.length wt.length, .int .i64 2] W2 fun e w' => NumsRet W2.heap.size (numsR wt 2) e w' ∧ Ext W2 w') := fun W2 h2 => by
          unfold Hid
          exact nums_any wt _ _ 2 W2 (HGW.out.ext (HXA.out.trans h2)) (HTL.out.stays (Ext.stays h2)) (by omega) (fun y hy => by have := HWM.out y (List.mem_cons_of_mem _ hy); omega) (by decide)
        have HNZ : ∀ W2, Ext wa W2 → Hid (wt.length = 0 → Calls Tryz.prog 48 #[.slice (some ⟨bw, 0, none⟩) 0 0, .int .i64 2] W2 fun e w' => NumsRet W2.heap.size (numsR wt 2) e w' ∧ Ext W2 w') := fun W2 h2 => by
          unfold Hid
          intro hz
          obtain rfl := List.eq_nil_of_length_eq_zero hz
          exact nums_any [] _ (fun _ => True) 2 W2 (HGW.out.ext (HXA.out.trans h2)) ⟨_, 0, rfl, Nat.le_refl _, by simp, fun i hi => absurd hi (by simp)⟩ (by simp) (by simp) (by decide)
        cases ho : numsR wt 2 with
        | none =>
          have HRN : Hid (R = none) := by
            unfold Hid
            rw [← HGO.out, readGo, HLN2.out, ho]
            rfl
          simp only [ho] at HNU HNZ
          clear ho HLN2
          gi_wp2_with (first
            | (refine ⟨trivial, rfl, ?_⟩; gi_at_call 48; first | (with_reducible refine (calls_in (HNU _ (Ext.refl _)).out).mono ?_) | (with_reducible refine (calls_in ((HNZ _ (Ext.refl _)).out (by first | omega | rfl | simp [*]))).mono ?_)))
          all_goals
            rintro e w4 ⟨he, hb4⟩
            obtain rfl := he
            exact ⟨rfl, ReadI.fail (by omega) (by omega) (by omega) (by omega) HPF.out (HPR.out.more (HXA.out.trans hb4)) ⟨_, HCP.out.ext (HXA.out.trans hb4)⟩ CE0.out HRN.out⟩
        | some L =>
          have HLL : Hid (numsR wt 2 = some L) := ho
          have hL2 := numsR_len ho
          have hw2 : wt.length = 2 := by
            unfold numsR at ho
            by_cases e : wt.length = 2
            · exact e
            · rw [if_neg e] at ho; cases ho
          obtain ⟨n1, n2, rfl⟩ : ∃ n1 n2, L = [n1, n2] := by
            match L, hL2 with
            | [a, b], _ => exact ⟨a, b, rfl⟩
          simp only [ho] at HNU
          have hgo2 : readGo ((fs ++ [((⟨n1, n2, []⟩ : GFunc), Value.slice none 0 0)]).map Prod.fst) ys = R := by
            rw [← HGO.out, readGo, HLN2.out, ho, List.map_append]
            rfl
          have HGO2 := Lib.hid hgo2
          clear ho HLN2 hL2 HNZ hgo2
          rw [hw2] at HNU
          gi_upto_region 10 with (first
            | (refine ⟨trivial, rfl, ?_⟩; gi_at_call 48; (with_reducible refine (calls_in (HNU _ (Ext.refl _)).out).mono ?_); rintro e w4 ⟨⟨an4, cn4, rfl, hi4⟩, hb4⟩))
          obtain ⟨gn, on4, cn5, e4, _, _, hgn, y0, i1⟩ := Sl.get hi4 (i := 0) (by simp)
          obtain ⟨gn', on4', cn5', e5, _, _, _, y1, i2⟩ := Sl.get hi4 (i := 1) (by simp)
          simp only [Value.slice.injEq] at e4 e5
          obtain ⟨rfl, -, rfl⟩ := e4
          simp only [Option.some.injEq, Addr.mk.injEq, and_true] at e5
          obtain ⟨⟨rfl, rfl⟩, -, -⟩ := e5
          simp only [List.getElem_cons_zero, List.getElem_cons_succ, Nat.mul_one, Nat.add_zero] at y0 y1 i1 i2
          have HXE := Lib.hid (HXA.out.trans hb4)
          have HPN := Lib.hid (HPR.out.more HXE.out)
          have HCN4 := Lib.hid (HCP.out.ext HXE.out)
          have z0 := HCN4.out.1
          have z0' := HCN4.out.2
          have hgW : W.heap.size ≤ gn := Nat.le_trans HXA.out.size hgn
          refine wpIn_region_rtt (fun w' => w'.cell? ⟨bp, 0, none⟩ = some (.slice av fs.length cv) ∧ w'.frozen? ⟨bp, 0, none⟩ = false ∧ w'.cell? ⟨gn, on4, none⟩ = some (.int .i64 n1) ∧ w'.cell? ⟨gn, on4 + 1, none⟩ = some (.int .i64 n2)) 10 [0, 1, 2, 3, 4, 5, 6, 7] [8, 9, 10] (by kernel_rfl) (by kernel_rfl) (by kernel_rfl) (fun ⟨_, _, h⟩ => h) (fun _ _ _ _ _ h => h) (by exact ⟨z0, z0', y0, y1⟩) ?_
          (try simp only [pickOps, List.filterMap_cons, List.filterMap_nil, List.getElem?_cons_zero, List.getElem?_cons_succ])
          repeat (
            refine readsQ_do (by rfl) ?_
            apply Exists.intro
            refine ⟨fun w' hw' => ?_, ?_⟩
            focus
              (try dsimp only at hw')
              go_split_ands
              go_simp
              (try with_reducible rfl)
            (try dsimp only [Act.put])
            (try simp only [List.setIfInBounds_toArray, List.set_cons_succ, List.set_cons_zero]))
          refine readsQ_nil ?_
          refine tailW_step ?_
          go_wp2_with fail
          have HE5 := Lib.hid ((Ext.refl w4).drew.alloc (.cells #[.int .i64 n1, .int .i64 n2, .slice none 0 0] 49))
          have HP5 := Lib.hid (HPN.out.more HE5.out)
          have HC5 := Lib.hid (HCN4.out.ext HE5.out)
          have y05 := Ext.cell HE5.out y0
          have y15 := Ext.cell HE5.out y1
          refine nextW_go (by exact ⟨HC5.out.1, HC5.out.2, y05, y15⟩) ?_
          refine tailW_step ?_
          go_wp2_with (first
            | (at_builtin; refine wpList_append_row rfl _ _ 27 rfl w0.heap.size 49 i0 (.agg #[.int .i64 0, .int .i64 0, .slice none 0 0]) 3 40 Tryz.underlying27 hi0 hz0 hz1 hz2 rfl (by decide) _ _ _ rfl (by exact HP5.out.row.row) 1 (funcF (⟨n1, n2, []⟩, .slice none 0 0)) (src_func _ ⟨n1, n2, []⟩ none 0 0 _) (by unfold maxLen; omega) (by omega) (by exact Nat.le_trans hle0 HP5.out.le) ?_; intro v1 Wv1 rv1; have RV := Lib.hid (HP5.out.push (Ext.refl _) rv1 i1 i2 (by omega)); have RC := Lib.hid rv1.2.1; obtain ⟨a9, cap9, rfl, _, _⟩ := rv1.1.shape; clear rv1))
          have HC6 := Lib.hid (HC5.out.chg RC.out (fun e => by have := HM.out bp e; omega))
          have y06 := Chg.cell RC.out (fun e => by have := HM.out gn e; omega) y05
          have y16 := Chg.cell RC.out (fun e => by have := HM.out gn e; omega) y15
          have z06 := HC6.out.1
          have z16 := HC6.out.2
          refine nextW_go (by exact ⟨z06, z16, y06, y16⟩) ?_
          refine tailW_step ?_
          go_wp2_with fail
          refine nextW_end ?_
          gi_wp2_with fail
          have hpb := RV.out.box (b := bp) (fun h => h.2.1 rfl) (fun g hg e => by have := (RV.out.row.ge g hg).1; omega) (by omega) (.slice a9 (fs.length + 1) cap9)
          have hfin := ReadI.next (bp := bp) (bs := bn + 1) (by omega) (by omega) (by omega) HPF.out hpb (HC6.out.set _) HGO2.out (by
            have e : (linesL s).length - ys.length = ((linesL s).length - (x :: ys).length) + 1 := by have := HLN.out; simp; omega
            rw [e]
            exact HFEW.out.push _ _ _) (by have := HLN.out; omega) HYS.out
          rw [hs2] at hfin
          exact hfin
      · have TF : (x0 == [102, 117, 110, 99]) = false := beq_eq_false_iff_ne.2 hfn
        obtain ⟨q, hq⟩ : ∃ q, namesT.idxOf x0 = q := ⟨_, rfl⟩
        have HLN2 : Hid (lineR (fs.map Prod.fst) x = if q < 17 ∧ 0 < fs.length then (if toldB (q : Int) then (numsR wt 1).map fun n => addOp (fs.map Prod.fst) ⟨(q : Int), n.getD 0 0⟩ else some (addOp (fs.map Prod.fst) ⟨(q : Int), 0⟩)) else none) := by
          unfold Hid lineR
          rw [HWS.out, List.headD_cons, if_neg hfn, List.tail_cons, hq, List.length_map]
        obtain ⟨kd, hkd⟩ : ∃ kd : Int, (if q < 17 then (q : Int) else -1) = kd := ⟨_, rfl⟩
        have HKD := Lib.hid hkd
        have HNW := Lib.hid (HVN0.out)
        have HIX : ∀ W2, Ext wa W2 → Hid (Calls Tryz.prog 49 #[.slice an namesT.length cn, .string ⟨x0.toArray⟩] W2 fun e w' => e = .returned (.int .i64 kd) ∧ W2 = w') := fun W2 h2 => by
          unfold Hid
          have hst : Strs W2 (fun _ => True) (.slice an namesT.length cn) namesT := by
            exact HVN0.out.stays fun b o u hb hc => ⟨Ext.cell (HXA.out.trans h2) ((World.cell?_of_block (HPF.out.keep b ⟨by omega, by omega, by omega⟩)).trans hc), trivial⟩
          have := index_any namesT _ _ x0 W2 hst (by decide) (by decide)
          rw [hq] at this
          rw [← hkd]
          exact this
        clear hfn hq hkd
        gi_upto_region 11 with fail
        have HNB : Hid (∀ W2, Ext wa W2 → W2.cell? ⟨bn, 0, none⟩ = some (.slice an namesT.length cn) ∧ W2.cell? ⟨bw, 0, none⟩ = some (.string ⟨x0.toArray⟩)) := fun W2 h2 => ⟨Ext.cell (HXA.out.trans h2) HCN.out.1, Ext.cell h2 x00⟩
        have HB8 : Hid (Cx (wa.alloc (.cells #[.int .i64 kd, .int .i64 0] 51)).drew wa.heap.size 0 (.int .i64 kd)) := Cx.new wa [.int .i64 kd, .int .i64 0] 51 (j := 0) rfl
        have HB9 : Hid (Cx (wa.alloc (.cells #[.int .i64 kd, .int .i64 0] 51)).drew wa.heap.size 1 (.int .i64 0)) := Cx.new wa [.int .i64 kd, .int .i64 0] 51 (j := 1) rfl
        gi_cut [8] from 46 (fun q8 wr => ∃ b8, q8 = .pointer (some ⟨b8, 0, none⟩) ∧ Ext wa wr ∧ wa.heap.size ≤ b8 ∧ Cx wr b8 0 (.int .i64 kd) ∧ Cx wr b8 1 (.int .i64 0))
        case first =>
          refine wpIn_region_rw (fun w' => w'.cell? ⟨bn, 0, none⟩ = some (.slice an namesT.length cn) ∧ w'.cell? ⟨bw, 0, none⟩ = some (.string ⟨x0.toArray⟩)) 7 [0, 1, 2, 3] 4 (by kernel_rfl) (by kernel_rfl) (by kernel_rfl) (fun ⟨_, _, h⟩ => h) (fun _ _ _ _ _ h => h) (by exact HNB.out _ (Ext.refl _).drew) ?_
          (try simp only [pickOps, List.filterMap_cons, List.filterMap_nil, List.getElem?_cons_zero, List.getElem?_cons_succ])
          repeat (
            refine readsQ_do (by rfl) ?_
            apply Exists.intro
            refine ⟨fun w' hw' => ?_, ?_⟩
            focus
              (try dsimp only at hw')
              go_split_ands
              go_simp
              (try with_reducible rfl)
            (try dsimp only [Act.put])
            (try simp only [List.setIfInBounds_toArray, List.set_cons_succ, List.set_cons_zero]))
          refine readsQ_nil ?_
          refine wpAnyW_two 4 6 (by kernel_rfl) rfl rfl ?_ ?_
          · go_wp2_with (first
              | (go_at_call 49; (with_reducible refine (HIX _ (by ((repeat (first | assumption | exact Ext.refl _ | (exact And.left (by assumption)) | refine Ext.alloc ?_ _ | refine Ext.drew ?_ | refine Ext.drewN ?_ _ | refine Ext.setCell ?_ (by simp) _ | refine Ext.setCell ?_ (by simp; omega) _ | refine Ext.trans ?_ (by assumption))); done))).out.mono ?_); rintro e w5 ⟨rfl, rfl⟩))
            refine nextA_go (HNB.out _ (by ((repeat (first | assumption | exact Ext.refl _ | (exact And.left (by assumption)) | refine Ext.alloc ?_ _ | refine Ext.drew ?_ | refine Ext.drewN ?_ _ | refine Ext.setCell ?_ (by simp) _ | refine Ext.setCell ?_ (by simp; omega) _ | refine Ext.trans ?_ (by assumption))); done))) ?_
            refine wpAnyW_two 5 6 (by kernel_rfl) rfl rfl ?_ ?_
            · go_wp2_with fail
              refine nextA_go (HNB.out _ (by ((repeat (first | assumption | exact Ext.refl _ | (exact And.left (by assumption)) | refine Ext.alloc ?_ _ | refine Ext.drew ?_ | refine Ext.drewN ?_ _ | refine Ext.setCell ?_ (by simp) _ | refine Ext.setCell ?_ (by simp; omega) _ | refine Ext.trans ?_ (by assumption))); done))) ?_
              refine wpAnyW_one 6 (by kernel_rfl) rfl ?_
              go_wp2_with fail
              refine nextA_go (HNB.out _ (by ((repeat (first | assumption | exact Ext.refl _ | (exact And.left (by assumption)) | refine Ext.alloc ?_ _ | refine Ext.drew ?_ | refine Ext.drewN ?_ _ | refine Ext.setCell ?_ (by simp) _ | refine Ext.setCell ?_ (by simp; omega) _ | refine Ext.trans ?_ (by assumption))); done))) ?_
              refine wpAnyW_one 7 (by kernel_rfl) rfl ?_
              go_wp2_with fail
              refine nextA_end rfl (by kernel_rfl) ?_
              gi_wp2_with fail
              gi_meet
              exact ⟨_, rfl, ((Ext.refl wa).alloc _).drew, Nat.le_refl _, HB8.out, HB9.out⟩
            · go_wp2_with fail
              refine nextA_go (HNB.out _ (by ((repeat (first | assumption | exact Ext.refl _ | (exact And.left (by assumption)) | refine Ext.alloc ?_ _ | refine Ext.drew ?_ | refine Ext.drewN ?_ _ | refine Ext.setCell ?_ (by simp) _ | refine Ext.setCell ?_ (by simp; omega) _ | refine Ext.trans ?_ (by assumption))); done))) ?_
              refine wpAnyW_one 5 (by kernel_rfl) rfl ?_
              go_wp2_with fail
              refine nextA_go (HNB.out _ (by ((repeat (first | assumption | exact Ext.refl _ | (exact And.left (by assumption)) | refine Ext.alloc ?_ _ | refine Ext.drew ?_ | refine Ext.drewN ?_ _ | refine Ext.setCell ?_ (by simp) _ | refine Ext.setCell ?_ (by simp; omega) _ | refine Ext.trans ?_ (by assumption))); done))) ?_
              refine wpAnyW_one 7 (by kernel_rfl) rfl ?_
              go_wp2_with fail
              refine nextA_end rfl (by kernel_rfl) ?_
              gi_wp2_with fail
              gi_meet
              exact ⟨_, rfl, ((Ext.refl wa).alloc _).drew, Nat.le_refl _, HB8.out, HB9.out⟩
          · go_wp2_with fail
            refine nextA_go (HNB.out _ (by ((repeat (first | assumption | exact Ext.refl _ | (exact And.left (by assumption)) | refine Ext.alloc ?_ _ | refine Ext.drew ?_ | refine Ext.drewN ?_ _ | refine Ext.setCell ?_ (by simp) _ | refine Ext.setCell ?_ (by simp; omega) _ | refine Ext.trans ?_ (by assumption))); done))) ?_
            refine wpAnyW_one 4 (by kernel_rfl) rfl ?_
            go_wp2_with (first
              | (go_at_call 49; (with_reducible refine (HIX _ (by ((repeat (first | assumption | exact Ext.refl _ | (exact And.left (by assumption)) | refine Ext.alloc ?_ _ | refine Ext.drew ?_ | refine Ext.drewN ?_ _ | refine Ext.setCell ?_ (by simp) _ | refine Ext.setCell ?_ (by simp; omega) _ | refine Ext.trans ?_ (by assumption))); done))).out.mono ?_); rintro e w5 ⟨rfl, rfl⟩))
            refine nextA_go (HNB.out _ (by ((repeat (first | assumption | exact Ext.refl _ | (exact And.left (by assumption)) | refine Ext.alloc ?_ _ | refine Ext.drew ?_ | refine Ext.drewN ?_ _ | refine Ext.setCell ?_ (by simp) _ | refine Ext.setCell ?_ (by simp; omega) _ | refine Ext.trans ?_ (by assumption))); done))) ?_
            refine wpAnyW_one 5 (by kernel_rfl) rfl ?_
            go_wp2_with fail
            refine nextA_go (HNB.out _ (by ((repeat (first | assumption | exact Ext.refl _ | (exact And.left (by assumption)) | refine Ext.alloc ?_ _ | refine Ext.drew ?_ | refine Ext.drewN ?_ _ | refine Ext.setCell ?_ (by simp) _ | refine Ext.setCell ?_ (by simp; omega) _ | refine Ext.trans ?_ (by assumption))); done))) ?_
            refine wpAnyW_one 7 (by kernel_rfl) rfl ?_
            go_wp2_with fail
            refine nextA_end rfl (by kernel_rfl) ?_
            gi_wp2_with fail
            gi_meet
            exact ⟨_, rfl, ((Ext.refl wa).alloc _).drew, Nat.le_refl _, HB8.out, HB9.out⟩
        case rest =>
          obtain ⟨b8, rfl, hxc, hb8, cK, cA⟩ := hcut
          have HXC := Lib.hid (HXA.out.trans hxc)
          have HXW := Lib.hid hxc
          have HCPc := Lib.hid (HCP.out.ext HXC.out)
          have z0 := HCPc.out.1
          have HCA := Lib.hid cA
          have HCK := Lib.hid cK
          have k0 := cK.1
          have k1 := cA.1
          have k2 := cA.2
          clear cA cK hxc HNB HB8 HB9 HIX x00
          by_cases hqf : q < 17 ∧ 0 < fs.length
          · obtain ⟨hq17, hf0⟩ := hqf
            have hk : kd = (q : Int) := by rw [← HKD.out, if_pos hq17]
            subst hk
            have HLN3 : Hid (lineR (fs.map Prod.fst) x = if toldB (q : Int) then (numsR wt 1).map fun n => addOp (fs.map Prod.fst) ⟨(q : Int), n.getD 0 0⟩ else some (addOp (fs.map Prod.fst) ⟨(q : Int), 0⟩)) := by unfold Hid; rw [HLN2.out, if_pos ⟨hq17, hf0⟩]
            obtain ⟨L, y, rfl⟩ : ∃ L y, fs = L ++ [y] := ⟨fs.dropLast, fs.getLast (fun e => by rw [e] at hf0; exact absurd hf0 (by simp)), (List.dropLast_concat_getLast _).symm⟩
            obtain ⟨f, u0⟩ := y
            obtain ⟨g, o2, rfl, hg0, _⟩ := HPF.out.row.row.cell hf0
            have hsh : ∃ a8 c8, u0 = .slice a8 f.code.length c8 := by
              obtain ⟨a, c, e, _⟩ := (HPF.out.row.fn (f, u0) (by simp)).2.2.1.shape
              exact ⟨a, c, e⟩
            obtain ⟨a8, c8, rfl⟩ := hsh
            have hlen2 : (L ++ [(f, Value.slice a8 f.code.length c8)]).length = L.length + 1 := by simp
            have HM2 : Hid (∀ k, rowBlock (.slice a8 f.code.length c8) = some k → w0.heap.size ≤ k ∧ k < W.heap.size) := fun k e => HPF.out.row.ge k (by rw [List.flatMap_append]; simp [e])
            have hgb : w0.heap.size ≤ g := hg0
            have hfc := HFEW.out.2 (f, .slice a8 f.code.length c8) (by simp)
            simp only at hfc
            have hf9 : f.code.length ≤ 9000 := by omega
            have hxs := HXA.out.size
            cases htb : toldB (q : Int) with
            | false =>
              have HTB := Lib.hid htb
              have HFIN : Hid (readGo (addOp ((L ++ [(f, Value.slice a8 f.code.length c8)]).map Prod.fst) ⟨(q : Int), 0⟩) ys = R) := by
                unfold Hid
                rw [← HGO.out, readGo, HLN3.out, htb]
                rfl
              clear htb
              gi_upto_region 15 with (first
                | (refine ⟨trivial, rfl, ?_⟩; gi_at_call 50; refine (calls_in (mustT_any _ _)).mono ?_; rintro e w5 ⟨rfl, rfl⟩; rw [mustT_true])
                | (refine ⟨trivial, rfl, ?_⟩; gi_at_call 39; refine (calls_in (told_any _ _)).mono ?_; rintro e w5 ⟨rfl, hb5⟩; rw [HTB.out]))
              have HXZ := Lib.hid (HXC.out.trans hb5)
              have HKZ := Lib.hid (HCK.out.ext hb5)
              have HAZ := Lib.hid (HCA.out.ext hb5)
              have iQA : I64 (q : Int) ∧ I64 (0 : Int) := by unfold I64; omega
              clear z0 k0 k1 k2 hb5
              rename World => wz
              -- BEGIN (0 : Int)
              have HPZ := Lib.hid (by have h := HPR.out.more HXZ.out; rw [hlen2] at h; exact h : PF (Kr W bp (.slice (some ⟨g, o2, none⟩) (L.length + 1) cv) (L ++ [(f, Value.slice a8 f.code.length c8)])) w W w0.heap.size (.slice (some ⟨g, o2, none⟩) (L.length + 1) cv) (L ++ [(f, Value.slice a8 f.code.length c8)]) wz)
              have HCZ : Hid (Cx wz bp 0 (.slice (some ⟨g, o2, none⟩) (L.length + 1) cv)) := by unfold Hid; rw [← hlen2]; exact HCP.out.ext HXZ.out
              have z0 := HCZ.out.1
              gi_upto_region 16 with fail
              obtain ⟨hcl, hfz⟩ := HPZ.out.row.last
              simp only at hcl
              have hm0 := HM2.out
              refine wpIn_region_rtt (fun w' => w'.cell? ⟨g, o2 + L.length * 3 + 2, none⟩ = some (.slice a8 f.code.length c8) ∧ w'.frozen? ⟨g, o2 + L.length * 3 + 2, none⟩ = false ∧ w'.cell? ⟨b8, 0, none⟩ = some (.int .i64 (q : Int)) ∧ w'.cell? ⟨b8, 1, none⟩ = some (.int .i64 (0 : Int))) 10 [0, 1, 2, 3, 4, 5] [6, 7, 8, 9, 10] (by kernel_rfl) (by kernel_rfl) (by kernel_rfl) (fun ⟨_, _, h⟩ => h) (fun _ _ _ _ _ h => h) (by exact ⟨hcl, hfz, HKZ.out.1, HAZ.out.1⟩) ?_
              (try simp only [pickOps, List.filterMap_cons, List.filterMap_nil, List.getElem?_cons_zero, List.getElem?_cons_succ])
              repeat (
                refine readsQ_do (by rfl) ?_
                apply Exists.intro
                refine ⟨fun w' hw' => ?_, ?_⟩
                focus
                  (try dsimp only at hw')
                  go_split_ands
                  go_simp
                  (try with_reducible rfl)
                (try dsimp only [Act.put])
                (try simp only [List.setIfInBounds_toArray, List.set_cons_succ, List.set_cons_zero]))
              refine readsQ_nil ?_
              refine tailW_step ?_
              go_wp2_with fail
              have HE5 := Lib.hid ((Ext.refl wz).drew.alloc (.cells #[.int .i64 (q : Int), .int .i64 (0 : Int)] 51))
              have HRO : Hid (RowAt _ w0.heap.size 2 (.slice a8 f.code.length c8) f.code.length (f.code.flatMap opF)) := Lib.hid ((HPZ.out.row.fn (f, .slice a8 f.code.length c8) (by simp)).2.2.1.ext HE5.out (by decide))
              refine nextW_go (by exact ⟨Ext.cell HE5.out hcl, (Ext.froz HE5.out hcl).trans hfz, Ext.cell HE5.out HKZ.out.1, Ext.cell HE5.out HAZ.out.1⟩) ?_
              refine tailW_step ?_
              go_wp2_with (first
                | (at_builtin; refine wpList_append_row rfl _ _ 47 rfl w0.heap.size 51 j0 (.agg #[.int .i64 0, .int .i64 0]) 2 16 Tryz.underlying47 hj0 hx0 hx1 hx2 rfl (by decide) _ _ _ rfl (by exact HRO.out) 1 (opF ⟨(q : Int), (0 : Int)⟩) (src_op _ ⟨(q : Int), (0 : Int)⟩ _) (by unfold maxLen; omega) (by omega) (by exact Nat.le_trans hle0 (Nat.le_trans HPZ.out.le HE5.out.size)) ?_; intro v1 Wv2 rv1; have RV := Lib.hid rv1; have RK := Lib.hid (HPZ.out.op_keeps HE5.out rv1); obtain ⟨a9, cap9, rfl, _, _⟩ := rv1.1.shape; clear rv1))
              have hcl' : Wv2.cell? ⟨g, o2 + L.length * 3 + 2, none⟩ = some (.slice a8 f.code.length c8) := (World.cell?_of_block RK.out.2).trans hcl
              have hfz' : Wv2.frozen? ⟨g, o2 + L.length * 3 + 2, none⟩ = false := (World.frozen?_of_block RK.out.2).trans hfz
              have hk0' := Chg.cell RV.out.2.1 (fun e => by have := hm0 b8 e; omega) (Ext.cell HE5.out HKZ.out.1)
              have hk1' := Chg.cell RV.out.2.1 (fun e => by have := hm0 b8 e; omega) (Ext.cell HE5.out HAZ.out.1)
              have HCZ2 := Lib.hid ((HCZ.out.ext HE5.out).chg RV.out.2.1 (fun e => by have := hm0 bp e; omega))
              have HPY := Lib.hid (HPZ.out.op (x := ⟨(q : Int), (0 : Int)⟩) HE5.out RV.out iQA (show f.code.length < 10000 by omega))
              refine nextW_go (by exact ⟨hcl', hfz', hk0', hk1'⟩) ?_
              refine tailW_step ?_
              go_wp2_with fail
              refine nextW_go (by exact ⟨hcl', hfz', hk0', hk1'⟩) ?_
              refine tailW_step ?_
              go_wp2_with fail
              refine nextW_go (by exact ⟨hcl', hfz', hk0', hk1'⟩) ?_
              refine tailW_step ?_
              go_wp2_with fail
              refine nextW_end ?_
              gi_wp2_with fail
              have hpf2 := HPF.out
              rw [hlen2] at hpf2
              have hfin := ReadI.next (bp := bp) (bs := bn + 1) (N := (linesL s).length) (R := R) (by omega) (by omega) (by omega) hpf2 HPY.out (HCZ2.out.other (b' := g) (j' := o2 + L.length * 3 + 2) (.inl (by omega)) _) (by rw [← addOp_pair L (f, .slice a8 f.code.length c8) ⟨(q : Int), (0 : Int)⟩]; exact HFIN.out) (by
                have e : (linesL s).length - ys.length = ((linesL s).length - (x :: ys).length) + 1 := by have := HLN.out; simp; omega
                rw [e]
                exact HFEW.out.op _ _) (by have := HLN.out; omega) HYS.out
              rw [hs2] at hfin
              exact hfin
            | true =>
              have HTB := Lib.hid htb
              have HLN4 : Hid (lineR ((L ++ [(f, Value.slice a8 f.code.length c8)]).map Prod.fst) x = (numsR wt 1).map fun n => addOp ((L ++ [(f, Value.slice a8 f.code.length c8)]).map Prod.fst) ⟨(q : Int), n.getD 0 0⟩) := by unfold Hid; rw [HLN3.out, htb, if_pos rfl]
              have HTL := Lib.hid (strs_tail wa bw x0 wt HCW.out (by omega))
              have HNU : ∀ W2, Ext wa W2 → Hid (Calls Tryz.prog 48 #[.slice (some ⟨bw, 1, none⟩) wt.length wt.length, .int .i64 1] W2 fun e w' => NumsRet W2.heap.size (numsR wt 1) e w' ∧ Ext W2 w') := fun W2 h2 => by
                unfold Hid
                exact nums_any wt _ _ 1 W2 (HGW.out.ext (HXA.out.trans h2)) (HTL.out.stays (Ext.stays h2)) (by omega) (fun y hy => by have := HWM.out y (List.mem_cons_of_mem _ hy); omega) (by decide)
              have HNZ : ∀ W2, Ext wa W2 → Hid (wt.length = 0 → Calls Tryz.prog 48 #[.slice (some ⟨bw, 0, none⟩) 0 0, .int .i64 1] W2 fun e w' => NumsRet W2.heap.size (numsR wt 1) e w' ∧ Ext W2 w') := fun W2 h2 => by
                unfold Hid
                intro hz
                obtain rfl := List.eq_nil_of_length_eq_zero hz
                exact nums_any [] _ (fun _ => True) 1 W2 (HGW.out.ext (HXA.out.trans h2)) ⟨_, 0, rfl, Nat.le_refl _, by simp, fun i hi => absurd hi (by simp)⟩ (by simp) (by simp) (by decide)
              clear htb
              cases ho : numsR wt 1 with
              | none =>
                have HRN : Hid (R = none) := by
                  unfold Hid
                  rw [← HGO.out, readGo, HLN4.out, ho]
                  rfl
                simp only [ho] at HNU HNZ
                clear ho
                gi_wp2_with (first
                  | (refine ⟨trivial, rfl, ?_⟩; gi_at_call 50; refine (calls_in (mustT_any _ _)).mono ?_; rintro e w5 ⟨rfl, rfl⟩; rw [mustT_true])
                  | (refine ⟨trivial, rfl, ?_⟩; gi_at_call 39; refine (calls_in (told_any _ _)).mono ?_; rintro e w5 ⟨rfl, hb5⟩; rw [HTB.out]; have HX5 := Lib.hid (HXW.out.trans hb5))
                  | (refine ⟨trivial, rfl, ?_⟩; gi_at_call 48; first | (with_reducible refine (calls_in (HNU _ HX5.out).out).mono ?_) | (with_reducible refine (calls_in ((HNZ _ HX5.out).out (by first | omega | rfl | simp [*]))).mono ?_)))
                all_goals
                  rintro e w6 ⟨he, hb6⟩
                  obtain rfl := he
                  have HXZ := (HXC.out.trans hb5).trans hb6
                  have hf := ReadI.fail (bp := bp) (be := bp + 1) (bs := bn + 1) (by omega) (by omega) (by omega) (by omega) HPF.out (HPR.out.more HXZ) ⟨_, HCP.out.ext HXZ⟩ CE0.out HRN.out
                  exact ⟨rfl, hf⟩
              | some M =>
                have hM1 := numsR_len ho
                have hw1' : wt.length = 1 := by
                  unfold numsR at ho
                  by_cases e : wt.length = 1
                  · exact e
                  · rw [if_neg e] at ho; cases ho
                obtain ⟨n1, rfl⟩ : ∃ n1, M = [n1] := by
                  match M, hM1 with
                  | [a], _ => exact ⟨a, rfl⟩
                simp only [ho] at HNU
                have HFIN : Hid (readGo (addOp ((L ++ [(f, Value.slice a8 f.code.length c8)]).map Prod.fst) ⟨(q : Int), n1⟩) ys = R) := by
                  unfold Hid
                  rw [← HGO.out, readGo, HLN4.out, ho]
                  rfl
                clear ho HNZ hM1
                rw [hw1'] at HNU
                gi_upto_region 14 with (first
                  | (refine ⟨trivial, rfl, ?_⟩; gi_at_call 50; refine (calls_in (mustT_any _ _)).mono ?_; rintro e w5 ⟨rfl, rfl⟩; rw [mustT_true])
                  | (refine ⟨trivial, rfl, ?_⟩; gi_at_call 39; refine (calls_in (told_any _ _)).mono ?_; rintro e w5 ⟨rfl, hb5⟩; rw [HTB.out]; have HX5 := Lib.hid (HXW.out.trans hb5)))
                have HK5 := Lib.hid (HCK.out.ext hb5)
                have HA5 := Lib.hid (HCA.out.ext hb5)
                gi_upto_region 15 with (first
                  | (refine ⟨trivial, rfl, ?_⟩; gi_at_call 48; (with_reducible refine (calls_in (HNU _ HX5.out).out).mono ?_); rintro e w6 ⟨⟨an6, cn6, rfl, hi6⟩, hb6⟩; obtain ⟨gn, on6, cn5, e4, _, _, hgn, y0, i1⟩ := Sl.get hi6 (i := 0) (by simp); simp only [Value.slice.injEq] at e4; obtain ⟨rfl, -, rfl⟩ := e4; simp only [List.getElem_cons_zero, Nat.zero_mul, Nat.add_zero] at y0 i1; have ka := (HA5.out.ext hb6).1; have kb := (HA5.out.ext hb6).2))
                have hx6 : Ext W (w6.setCell ⟨b8, 1, none⟩ (.int .i64 n1)) := ((HXC.out.trans hb5).trans hb6).setCell (p := ⟨b8, 1, none⟩) (Nat.le_trans hxs hb8) _
                have hk6 : Cx (w6.setCell ⟨b8, 1, none⟩ (.int .i64 n1)) b8 0 (.int .i64 (q : Int)) := (HK5.out.ext hb6).other (.inr (by decide)) _
                have ha6 : Cx (w6.setCell ⟨b8, 1, none⟩ (.int .i64 n1)) b8 1 (.int .i64 n1) := (HA5.out.ext hb6).set _
                have HXZ := Lib.hid hx6
                have HKZ := Lib.hid hk6
                have HAZ := Lib.hid ha6
                have iQA : I64 (q : Int) ∧ I64 n1 := ⟨by unfold I64; omega, i1⟩
                clear hx6 hk6 ha6 ka kb y0 z0 k0 k1 k2 hgn hi6 HNU hw1'
                generalize w6.setCell ⟨b8, 1, none⟩ (.int .i64 n1) = wz at *
                -- BEGIN n1
                have HPZ := Lib.hid (by have h := HPR.out.more HXZ.out; rw [hlen2] at h; exact h : PF (Kr W bp (.slice (some ⟨g, o2, none⟩) (L.length + 1) cv) (L ++ [(f, Value.slice a8 f.code.length c8)])) w W w0.heap.size (.slice (some ⟨g, o2, none⟩) (L.length + 1) cv) (L ++ [(f, Value.slice a8 f.code.length c8)]) wz)
                have HCZ : Hid (Cx wz bp 0 (.slice (some ⟨g, o2, none⟩) (L.length + 1) cv)) := by unfold Hid; rw [← hlen2]; exact HCP.out.ext HXZ.out
                have z0 := HCZ.out.1
                gi_upto_region 16 with fail
                obtain ⟨hcl, hfz⟩ := HPZ.out.row.last
                simp only at hcl
                have hm0 := HM2.out
                refine wpIn_region_rtt (fun w' => w'.cell? ⟨g, o2 + L.length * 3 + 2, none⟩ = some (.slice a8 f.code.length c8) ∧ w'.frozen? ⟨g, o2 + L.length * 3 + 2, none⟩ = false ∧ w'.cell? ⟨b8, 0, none⟩ = some (.int .i64 (q : Int)) ∧ w'.cell? ⟨b8, 1, none⟩ = some (.int .i64 n1)) 10 [0, 1, 2, 3, 4, 5] [6, 7, 8, 9, 10] (by kernel_rfl) (by kernel_rfl) (by kernel_rfl) (fun ⟨_, _, h⟩ => h) (fun _ _ _ _ _ h => h) (by exact ⟨hcl, hfz, HKZ.out.1, HAZ.out.1⟩) ?_
                (try simp only [pickOps, List.filterMap_cons, List.filterMap_nil, List.getElem?_cons_zero, List.getElem?_cons_succ])
                repeat (
                  refine readsQ_do (by rfl) ?_
                  apply Exists.intro
                  refine ⟨fun w' hw' => ?_, ?_⟩
                  focus
                    (try dsimp only at hw')
                    go_split_ands
                    go_simp
                    (try with_reducible rfl)
                  (try dsimp only [Act.put])
                  (try simp only [List.setIfInBounds_toArray, List.set_cons_succ, List.set_cons_zero]))
                refine readsQ_nil ?_
                refine tailW_step ?_
                go_wp2_with fail
                have HE5 := Lib.hid ((Ext.refl wz).drew.alloc (.cells #[.int .i64 (q : Int), .int .i64 n1] 51))
                have HRO : Hid (RowAt _ w0.heap.size 2 (.slice a8 f.code.length c8) f.code.length (f.code.flatMap opF)) := Lib.hid ((HPZ.out.row.fn (f, .slice a8 f.code.length c8) (by simp)).2.2.1.ext HE5.out (by decide))
                refine nextW_go (by exact ⟨Ext.cell HE5.out hcl, (Ext.froz HE5.out hcl).trans hfz, Ext.cell HE5.out HKZ.out.1, Ext.cell HE5.out HAZ.out.1⟩) ?_
                refine tailW_step ?_
                go_wp2_with (first
                  | (at_builtin; refine wpList_append_row rfl _ _ 47 rfl w0.heap.size 51 j0 (.agg #[.int .i64 0, .int .i64 0]) 2 16 Tryz.underlying47 hj0 hx0 hx1 hx2 rfl (by decide) _ _ _ rfl (by exact HRO.out) 1 (opF ⟨(q : Int), n1⟩) (src_op _ ⟨(q : Int), n1⟩ _) (by unfold maxLen; omega) (by omega) (by exact Nat.le_trans hle0 (Nat.le_trans HPZ.out.le HE5.out.size)) ?_; intro v1 Wv2 rv1; have RV := Lib.hid rv1; have RK := Lib.hid (HPZ.out.op_keeps HE5.out rv1); obtain ⟨a9, cap9, rfl, _, _⟩ := rv1.1.shape; clear rv1))
                have hcl' : Wv2.cell? ⟨g, o2 + L.length * 3 + 2, none⟩ = some (.slice a8 f.code.length c8) := (World.cell?_of_block RK.out.2).trans hcl
                have hfz' : Wv2.frozen? ⟨g, o2 + L.length * 3 + 2, none⟩ = false := (World.frozen?_of_block RK.out.2).trans hfz
                have hk0' := Chg.cell RV.out.2.1 (fun e => by have := hm0 b8 e; omega) (Ext.cell HE5.out HKZ.out.1)
                have hk1' := Chg.cell RV.out.2.1 (fun e => by have := hm0 b8 e; omega) (Ext.cell HE5.out HAZ.out.1)
                have HCZ2 := Lib.hid ((HCZ.out.ext HE5.out).chg RV.out.2.1 (fun e => by have := hm0 bp e; omega))
                have HPY := Lib.hid (HPZ.out.op (x := ⟨(q : Int), n1⟩) HE5.out RV.out iQA (show f.code.length < 10000 by omega))
                refine nextW_go (by exact ⟨hcl', hfz', hk0', hk1'⟩) ?_
                refine tailW_step ?_
                go_wp2_with fail
                refine nextW_go (by exact ⟨hcl', hfz', hk0', hk1'⟩) ?_
                refine tailW_step ?_
                go_wp2_with fail
                refine nextW_go (by exact ⟨hcl', hfz', hk0', hk1'⟩) ?_
                refine tailW_step ?_
                go_wp2_with fail
                refine nextW_end ?_
                gi_wp2_with fail
                have hpf2 := HPF.out
                rw [hlen2] at hpf2
                have hfin := ReadI.next (bp := bp) (bs := bn + 1) (N := (linesL s).length) (R := R) (by omega) (by omega) (by omega) hpf2 HPY.out (HCZ2.out.other (b' := g) (j' := o2 + L.length * 3 + 2) (.inl (by omega)) _) (by rw [← addOp_pair L (f, .slice a8 f.code.length c8) ⟨(q : Int), n1⟩]; exact HFIN.out) (by
                  have e : (linesL s).length - ys.length = ((linesL s).length - (x :: ys).length) + 1 := by have := HLN.out; simp; omega
                  rw [e]
                  exact HFEW.out.op _ _) (by have := HLN.out; omega) HYS.out
                rw [hs2] at hfin
                exact hfin
          · have HRN : Hid (R = none) := by
              unfold Hid
              rw [← HGO.out, readGo, HLN2.out, if_neg hqf]
            by_cases hq : q < 17
            · have hf0 : fs.length = 0 := by omega
              have hk : kd = (q : Int) := by rw [← HKD.out, if_pos hq]
              subst hk
              clear hqf hq
              gi_wp2_with (first
                | (refine ⟨trivial, rfl, ?_⟩; gi_at_call 50; refine (calls_in (mustT_any _ _)).mono ?_; rintro e w5 ⟨rfl, rfl⟩; rw [mustT_false]))
              have hf := ReadI.fail (bp := bp) (be := bp + 1) (bs := bn + 1) (by omega) (by omega) (by omega) (by omega) HPF.out (HPR.out.more HXC.out) ⟨_, HCP.out.ext HXC.out⟩ CE0.out HRN.out
              rw [hs2] at hf
              exact hf
            · have hk : kd = -1 := by rw [← HKD.out, if_neg hq]
              subst hk
              clear hqf hq
              gi_wp2_with (first
                | (refine ⟨trivial, rfl, ?_⟩; gi_at_call 50; refine (calls_in (mustT_any _ _)).mono ?_; rintro e w5 ⟨rfl, rfl⟩; rw [mustT_false]))
              have hf := ReadI.fail (bp := bp) (be := bp + 1) (bs := bn + 1) (by omega) (by omega) (by omega) (by omega) HPF.out (HPR.out.more HXC.out) ⟨_, HCP.out.ext HXC.out⟩ CE0.out HRN.out
              rw [hs2] at hf
              exact hf
    case hdone =>
      intro D W hD hI hWD
      obtain ⟨fs, v, hpf, hcp, hgo, -, -, -⟩ := hI
      have hsw := HSW.out
      have hs2 := HS2.out
      have hwb := HBP.out
      obtain ⟨av, cv, rfl, _, _⟩ := hpf.row.row.shape
      have HPF := Lib.hid hpf
      have HCP := Lib.hid hcp
      have HRS : Hid (R = some (fs.map Prod.fst)) := hgo.symm
      have HCE : Hid (Cx W (bp + 1) 0 (.int .i64 0)) := by
        have hb : W.heap[bp + 1]? = w0.heap[bp + 1]? := hpf.keep _ ⟨by omega, by omega, by omega⟩
        exact ⟨(World.cell?_of_block hb).trans CE0.out.1, by rw [World.frozen?_of_block hb]; exact CE0.out.2⟩
      have HFU := Lib.hid (hpf.row.funcs (w.heap.size ≤ ·) (fun b hb => Nat.le_trans hpf.base hb))
      have HEW := Lib.hid hpf.ext
      have HGW := Lib.hid (hg0.out.ext hpf.ext)
      have HWD := Lib.hid hWD
      have hDW := hWD
      obtain ⟨p, hp⟩ : ∃ p, fs.map Prod.fst = p := ⟨_, rfl⟩
      have HPP := Lib.hid hp
      simp only [hp] at HRS HFU
      have hlt : D < W.heap.size := (Array.getElem?_eq_some_iff.1 hWD).1
      have c0 := hcp.1
      have c0' := hcp.2
      clear hp hpf hcp hgo hWD hDW
      obtain ⟨r, hr⟩ : ∃ r, progErr p = r := ⟨_, rfl⟩
      obtain ⟨t, ht⟩ : ∃ t, showT p = t := ⟨_, rfl⟩
      have HER := Lib.hid hr
      have HST := Lib.hid ht
      obtain ⟨Y, hY⟩ : ∃ Y : ByteArray, (⟨t.toArray⟩ : ByteArray) = Y := ⟨_, rfl⟩
      have HY := Lib.hid hY
      have HSHOW : Hid (Calls Tryz.prog 11 #[.slice av fs.length cv] W fun e w' => e = .returned (.tuple #[.string Y, .int .i64 r]) ∧ Ext W w') := by
        unfold Hid
        rw [← hY, ← ht, ← hr]
        exact show_any p _ _ W HGW.out HFU.out
      clear hr ht hY
      by_cases hok : r = 0 ∧ t = s
      · obtain ⟨rfl, hts⟩ := hok
        have hYX : Y = X := by rw [← HY.out, ← HX.out, hts]
        have HRT : Hid (readT s = (0, p)) := by
          unfold Hid readT
          rw [if_neg (by omega), hR, HRS.out]
          simp only
          rw [if_pos ⟨HER.out, by rw [← hts, ← HST.out]; unfold showT; rw [if_pos HER.out]⟩]
        rw [hYX] at HSHOW
        clear hYX hts
        refine wpAt_step ?_
        go_wp2_with (first
          | (go_at_call 11; refine HSHOW.out.mono ?_; rintro e w3 ⟨rfl, hb3⟩))
        refine wpAt_step ?_
        go_wp2_with (first
          | (go_at_call 50; refine (mustT_any _ _).mono ?_; rintro e w1 ⟨rfl, rfl⟩; rw [mustT_true]))
        have HCP3 := Lib.hid (HCP.out.ext hb3)
        have HCE3 := Lib.hid (HCE.out.ext hb3)
        have c1 := HCP3.out.1
        have c1' := HCP3.out.2
        have HCE4 := Lib.hid (HCE3.out.other (b' := bp) (j' := 0) (.inl (by omega)) (.slice av fs.length cv))
        have c2 := HCE4.out.1
        have c2' := HCE4.out.2
        refine wpAt_of_wp ?_
        go_wp2_with fail
        have hr3 : PRow ((w3.setCell ⟨bp, 0, none⟩ (.slice av fs.length cv)).setCell ⟨bp + 1, 0, none⟩ (.int .i64 0)) w0.heap.size (.slice av fs.length cv) fs :=
          ((HPF.out.row.ext hb3).chg (chg_one w3 bp 0 _) (fun g hg e => by have := ((HPF.out.row.ext hb3).ge g hg).1; omega)).chg (chg_one _ (bp + 1) 0 _) (fun g hg e => by have := ((HPF.out.row.ext hb3).ge g hg).1; omega)
        have hd3 : ((w3.setCell ⟨bp, 0, none⟩ (.slice av fs.length cv)).setCell ⟨bp + 1, 0, none⟩ (.int .i64 0)).heap[D]? = some (.deferred (some [])) := by
          rw [Below.heap_setCell _ _ _ _ (by show D ≠ bp + 1; omega), Below.heap_setCell _ _ _ _ (by show D ≠ bp; omega), hb3.block D hlt]
          exact HWD.out
        have he3 : Ext w ((w3.setCell ⟨bp, 0, none⟩ (.slice av fs.length cv)).setCell ⟨bp + 1, 0, none⟩ (.int .i64 0)) := ((HEW.out.trans hb3).setCell (p := ⟨bp, 0, none⟩) (by show _ ≤ bp; omega) _).setCell (p := ⟨bp + 1, 0, none⟩) (by show _ ≤ bp + 1; omega) _
        have hcp4 := (HCP3.out.set (.slice av fs.length cv)).other (b' := bp + 1) (j' := 0) (.inl (by omega)) (.int .i64 0)
        have hce4 := HCE4.out.set (.int .i64 0)
        refine leaveR_mark (by simp) hd3 fun W' hk => leaveR_ok _ W' bp (bp + 1) (.slice av fs.length cv) (.int .i64 0) _ rfl rfl (hk.cx hcp4).1 (hk.cx hce4).1 ?_
        exact ⟨⟨_, fs, by rw [HRT.out], (hr3.kc hk).low (by omega), by rw [HRT.out, HPP.out]⟩, hk.ext he3 (by omega)⟩
      · have HRT : Hid (readT s = (1, [])) := by
          unfold Hid readT
          rw [if_neg (by omega), hR, HRS.out]
          simp only
          rw [if_neg (fun h => hok ⟨HER.out.symm.trans h.1, by rw [← HST.out]; unfold showT; rw [if_pos h.1]; exact h.2⟩)]
        by_cases h0 : r = 0
        · subst h0
          have hts : t ≠ s := fun e => hok ⟨rfl, e⟩
          have hYX : (Y.toList == X.toList) = false := beq_eq_false_iff_ne.2 (fun e => hts (by rw [← HX.out, ← HY.out, ByteArray.toList_mk, ByteArray.toList_mk] at e; exact e))
          clear hok hts
          refine wpAt_step ?_
          go_wp2_with (first
            | (go_at_call 11; refine HSHOW.out.mono ?_; rintro e w3 ⟨rfl, hb3⟩))
          refine wpAt_step ?_
          go_wp2_with (first
            | (go_at_call 50; refine (mustT_any _ _).mono ?_; rintro e w1 ⟨rfl, rfl⟩; rw [mustT_false]))
          refine leaveR_mark (by simp) ((hb3.block D hlt).trans HWD.out) fun W' hk => leaveR_panic _ W' bp (bp + 1) (by omega) _ _ _ rfl rfl (hk.cx (HCP.out.ext hb3)) (hk.cx (HCE.out.ext hb3)) fun W'' hc => ?_
          exact ⟨⟨.slice none 0 0, [], by rw [HRT.out], PRow.nil _ _, by rw [HRT.out]; rfl⟩, Chg.ext_from (hk.ext (HEW.out.trans hb3) (by omega)) hc (fun k e => by rcases e with rfl | rfl <;> omega)⟩
        · have T0 : (r == 0) = false := beq_eq_false_iff_ne.2 h0
          clear hok h0
          refine wpAt_step ?_
          go_wp2_with (first
            | (go_at_call 11; refine HSHOW.out.mono ?_; rintro e w3 ⟨rfl, hb3⟩))
          refine wpAt_step ?_
          go_wp2_with (first
            | (go_at_call 50; refine (mustT_any _ _).mono ?_; rintro e w1 ⟨rfl, rfl⟩; rw [mustT_false]))
          refine leaveR_mark (by simp) ((hb3.block D hlt).trans HWD.out) fun W' hk => leaveR_panic _ W' bp (bp + 1) (by omega) _ _ _ rfl rfl (hk.cx (HCP.out.ext hb3)) (hk.cx (HCE.out.ext hb3)) fun W'' hc => ?_
          exact ⟨⟨.slice none 0 0, [], by rw [HRT.out], PRow.nil _ _, by rw [HRT.out]; rfl⟩, Chg.ext_from (hk.ext (HEW.out.trans hb3) (by omega)) hc (fun k e => by rcases e with rfl | rfl <;> omega)⟩
    case hpanic =>
      intro D c W hD hIp hWD
      obtain ⟨rfl, hRn, ⟨v1, hp⟩, ⟨v2, he⟩, hx⟩ := hIp
      have hsw := HSW.out
      have hs2 := HS2.out
      have hwb := HBP.out
      have HRT : Hid (readT s = (1, [])) := by unfold Hid readT; rw [if_neg (by omega), hR, hRn]
      refine leaveR_mark (by simp) hWD fun W' hk => leaveR_panic _ W' bp (bp + 1) (by omega) v1 v2 _ rfl rfl (hk.cx hp) (hk.cx he) fun W'' hc => ?_
      refine ⟨⟨.slice none 0 0, [], by rw [HRT.out], PRow.nil _ _, by rw [HRT.out]; rfl⟩, Chg.ext_from (hk.ext hx (by omega)) hc (fun k e => by rcases e with rfl | rfl <;> omega)⟩
end Go.Proofs.YtpcjkfppacnkgaaGreatDoor
end
section
/- Contracts of SameFuncs and SameProgs. -/
set_option maxHeartbeats 2000000
set_option maxRecDepth 100000
namespace Go.Proofs.YtpcjkfppacnkgaaGreatDoor
open Go Go.RowKit

theorem take_succ_same {α : Type} {a b : List α} {k : Nat} (h1 : k < a.length) (h2 : k < b.length) (ht : a.take k = b.take k) (h : a[k] = b[k]) : a.take (k + 1) = b.take (k + 1) := by
  rw [List.take_succ_eq_append_getElem h1, List.take_succ_eq_append_getElem h2, ht, h]
theorem take_all_same {α : Type} {a b : List α} (hl : a.length = b.length) (ht : a.take a.length = b.take a.length) : a = b := by
  rw [List.take_length, hl, List.take_length] at ht; exact ht

theorem sameFuncs_any (a b : GFunc) (va vb : Value) (S T : Nat → Prop) (w : World) (ha : FuncV w S va a) (hb : FuncV w T vb b) :
    Calls Tryz.prog 53 #[va, vb] w fun e w' => e = .returned (.bool (decide (a = b))) ∧ Ext w w' := by
  obtain ⟨sa, rfl, _, _, ha⟩ := ha
  obtain ⟨sb, rfl, _, _, hb⟩ := hb
  have RA := alloc_keep
  have HA := Lib.hid ha
  have HB := Lib.hid hb
  obtain ⟨pa, ca, rfl, hca, hba, _⟩ := ha
  obtain ⟨pb, cb, rfl, hcb, hbb, _⟩ := hb
  obtain ⟨t, ht⟩ : ∃ t, decide (a = b) = t := ⟨_, rfl⟩
  rw [ht]
  have HT := Lib.hid ht
  clear ht
  obtain ⟨aa, al, ac⟩ := a
  obtain ⟨ba, bl, bc⟩ := b
  simp only at *
  go_enter Tryz.func53, Tryz.ntmps53
  by_cases h1 : aa = ba
  · subst h1
    have T1 : (aa != aa) = false := by rw [bne_eq_false_iff_eq]
    by_cases h2 : al = bl
    · subst h2
      have T2 : (al != al) = false := by rw [bne_eq_false_iff_eq]
      by_cases hl : ac.length = bc.length
      · have TL : ((ac.length : Int) != (bc.length : Int)) = false := by rw [bne_eq_false_iff_eq]; omega
        go_wp2_with fail
        generalize hW : (w.alloc _).alloc _ = W2
        have hE : Ext w W2 := by rw [← hW]; exact ((Ext.refl w).alloc _).alloc _
        have ca2 : W2.cell? ⟨w.heap.size, 2, none⟩ = some (.slice pa bc.length ca) := by rw [← hW]; rw [alloc_keep _ _ _ (by simp)]; simp
        have cb2 : W2.cell? ⟨w.heap.size + 1, 2, none⟩ = some (.slice pb bc.length cb) := by rw [← hW]; simp
        clear hW
        go_loopw [5] (fun q wr => ∃ k : Nat, k ≤ bc.length ∧ q = .int .i64 k ∧ Ext W2 wr ∧ ac.take k = bc.take k) (fun q _ => bc.length - (intOf q).toNat)
        case atStart => exact ⟨0, Nat.zero_le _, rfl, Ext.refl _, rfl⟩
        case round =>
          obtain ⟨k, hk, rfl, hb3, htk⟩ := hrel
          have HB3 := Lib.hid hb3
          have HTK := Lib.hid htk
          have HE := Lib.hid hE
          clear hb3 htk hE
          have da2 := Ext.cell HB3.out ca2
          have db2 := Ext.cell HB3.out cb2
          by_cases hlt : k < bc.length
          · have hlt' : k < ac.length := by omega
            obtain ⟨ba, oa, _, e1, _, _, ⟨_, x0, _⟩, ⟨_, x1, _⟩⟩ := HA.out.get hlt'
            obtain ⟨bb, ob, _, e2, _, _, ⟨_, y0, _⟩, ⟨_, y1, _⟩⟩ := HB.out.get hlt
            simp only [Value.slice.injEq] at e1 e2
            obtain ⟨rfl, -, rfl⟩ := e1
            obtain ⟨rfl, -, rfl⟩ := e2
            have hE2 := HE.out.trans HB3.out
            have x0' := Ext.cell hE2 x0
            have x1' := Ext.cell hE2 x1
            have y0' := Ext.cell hE2 y0
            have y1' := Ext.cell hE2 y1
            have HSE := Lib.hid (fun h => take_succ_same hlt' hlt HTK.out h)
            have HNE : Hid (ac[k] ≠ bc[k] → t = false) := by
              unfold Hid
              intro h
              rw [← HT.out]
              exact decide_eq_false (fun e => h (by simp only [GFunc.mk.injEq] at e; simp [e.2.2]))
            clear x0 x1 y0 y1 ca2 cb2 hE2
            generalize ac[k] = x at *
            generalize bc[k] = y at *
            obtain ⟨xk, xa⟩ := x
            obtain ⟨yk, ya⟩ := y
            simp only at *
            clear HT
            by_cases hxk : xk = yk
            · subst hxk
              have T3 : (xk == xk) = true := by simp
              by_cases hxa : xa = ya
              · subst hxa
                have T4 : (xa == xa) = true := by simp
                have HS := Lib.hid (HSE.out rfl)
                clear HSE HNE
                go_wp2_with fail
                go_big_quiet (fail)
                go_wp2_with fail
                go_roundw
                case rel => exact ⟨k + 1, by omega, by go_num, HB3.out.drewN _, HS.out⟩
                case measure => simp [intOf]; omega
              · have T4 : (xa == ya) = false := by simpa using hxa
                have HF : Hid (t = false) := HNE.out (by simpa using hxa)
                clear hxa HSE HNE
                go_wp2_with fail
                go_big_quiet (fail)
                go_wp2_with fail
                go_ret
                exact ⟨by rw [HF.out]; rfl, HE.out.trans (HB3.out.drewN _)⟩
            · have T3 : (xk == yk) = false := by simpa using hxk
              have HF : Hid (t = false) := HNE.out (by intro e; simp at e; exact hxk e.1)
              clear hxk HSE HNE
              go_wp2_with fail
              go_big_quiet (fail)
              go_wp2_with fail
              go_ret
              exact ⟨by rw [HF.out]; rfl, HE.out.trans (HB3.out.drewN _)⟩
          · obtain rfl : k = bc.length := by omega
            have HF : Hid (t = true) := by
              unfold Hid
              rw [← HT.out]
              have := take_all_same hl (by rw [hl]; exact HTK.out)
              rw [this]
              exact decide_eq_true rfl
            clear hlt
            go_wp2_with fail
            go_ret
            exact ⟨by rw [HF.out]; rfl, HE.out.trans HB3.out⟩
      · have TL : ((ac.length : Int) != (bc.length : Int)) = true := bne_iff_ne.2 (by omega)
        have HF : Hid (t = false) := by
          unfold Hid
          rw [← HT.out]
          exact decide_eq_false (fun e => hl (by simp only [GFunc.mk.injEq] at e; rw [e.2.2]))
        clear hl
        go_wp2_with fail
        go_ret
        exact ⟨by rw [HF.out]; rfl, ((Ext.refl w).alloc _).alloc _⟩
    · have T2 : (al != bl) = true := bne_iff_ne.2 h2
      have HF : Hid (t = false) := by
        unfold Hid
        rw [← HT.out]
        exact decide_eq_false (fun e => h2 (by simp only [GFunc.mk.injEq] at e; exact e.2.1))
      clear h2
      go_wp2_with fail
      go_ret
      exact ⟨by rw [HF.out]; rfl, ((Ext.refl w).alloc _).alloc _⟩
  · have T1 : (aa != ba) = true := bne_iff_ne.2 h1
    have HF : Hid (t = false) := by
      unfold Hid
      rw [← HT.out]
      exact decide_eq_false (fun e => h1 (by simp only [GFunc.mk.injEq] at e; exact e.1))
    clear h1
    go_wp2_with fail
    go_ret
    exact ⟨by rw [HF.out]; rfl, ((Ext.refl w).alloc _).alloc _⟩

theorem FuncC.toV {w : World} {S : Nat → Prop} {b o : Nat} {f : GFunc} (h : FuncC w S b o f) : ∃ v, FuncV w S (.agg #[.int .i64 f.args, .int .i64 f.locals, v]) f ∧ w.cell? ⟨b, o + 2, none⟩ = some v := by
  obtain ⟨⟨_, _, a⟩, ⟨_, _, l⟩, v, hv, hc⟩ := h
  exact ⟨v, ⟨v, rfl, a, l, hc⟩, hv⟩
end Go.Proofs.YtpcjkfppacnkgaaGreatDoor
end
section
/- Contract of SameProgs. -/
set_option maxHeartbeats 2000000
set_option maxRecDepth 100000
namespace Go.Proofs.YtpcjkfppacnkgaaGreatDoor
open Go Go.RowKit

theorem sameProgs_any (a b : List GFunc) (va vb : Value) (S T : Nat → Prop) (w : World) (ha : Funcs w S va a) (hb : Funcs w T vb b) :
    Calls Tryz.prog 19 #[va, vb] w fun e w' => e = .returned (.bool (decide (a = b))) ∧ Ext w w' := by
  have HA := Lib.hid ha
  have HB := Lib.hid hb
  obtain ⟨pa, ca, rfl, hca, hba, _⟩ := ha
  obtain ⟨pb, cb, rfl, hcb, hbb, _⟩ := hb
  obtain ⟨t, ht⟩ : ∃ t, decide (a = b) = t := ⟨_, rfl⟩
  rw [ht]
  have HT := Lib.hid ht
  clear ht
  go_enter Tryz.func19, Tryz.ntmps19
  by_cases hl : a.length = b.length
  · have TL : ((a.length : Int) != (b.length : Int)) = false := by rw [bne_eq_false_iff_eq]; omega
    go_wp2_with fail
    go_loopw [5] (fun q wr => ∃ k : Nat, k ≤ b.length ∧ q = .int .i64 k ∧ Ext w wr ∧ a.take k = b.take k) (fun q _ => b.length - (intOf q).toNat)
    case atStart => exact ⟨0, Nat.zero_le _, rfl, Ext.refl _, rfl⟩
    case round =>
      obtain ⟨k, hk, rfl, hb3, htk⟩ := hrel
      have HB3 := Lib.hid hb3
      have HTK := Lib.hid htk
      clear hb3 htk
      by_cases hlt : k < b.length
      · have hlt' : k < a.length := by omega
        obtain ⟨bba, oa, _, e1, _, _, x0⟩ := HA.out.get hlt'
        obtain ⟨bb, ob, _, e2, _, _, y0⟩ := HB.out.get hlt
        simp only [Value.slice.injEq] at e1 e2
        obtain ⟨rfl, -, rfl⟩ := e1
        obtain ⟨rfl, -, rfl⟩ := e2
        have X := FuncC.stays HB3.out.stays x0
        have Y := FuncC.stays HB3.out.stays y0
        have HSE := Lib.hid (fun h => take_succ_same hlt' hlt HTK.out h)
        have HNE : Hid (a[k] ≠ b[k] → t = false) := by
          unfold Hid
          intro h
          rw [← HT.out]
          exact decide_eq_false (fun e => h (by simp [e]))
        clear x0 y0 HT
        generalize a[k] = x at *
        generalize b[k] = y at *
        obtain ⟨vx, hx, x2⟩ := X.toV
        obtain ⟨vy, hy, y2⟩ := Y.toV
        obtain ⟨⟨_, x0, _⟩, ⟨_, x1, _⟩, _⟩ := X
        obtain ⟨⟨_, y0, _⟩, ⟨_, y1, _⟩, _⟩ := Y
        have HX := Lib.hid hx
        have HY := Lib.hid hy
        clear hx hy
        cases hd : decide (x = y) with
        | true =>
          have HS := Lib.hid (HSE.out (of_decide_eq_true hd))
          have HD := Lib.hid hd
          clear HSE HNE hd
          go_wp2_with fail
          refine wp_region_ext (by kernel_rfl) (by kernel_rfl) ?_
          repeat (first
            | go_big_quiet_skip
            | (go_big_quiet_want
               unfold Oper.quiet
               apply Exists.intro
               refine ⟨fun w' hw' => ?_, ?_⟩
               focus
                 have hcq := Ext.keep hw'
                 go_simp
                 first
                   | with_reducible rfl
                   | (go_at_call 53; refine (sameFuncs_any x y _ _ S T _ (FuncV.stays (Ext.stays hw') HX.out) (FuncV.stays (Ext.stays hw') HY.out)).mono ?_; rintro e w2 ⟨rfl, hx2⟩; rw [HD.out]; exact ⟨rfl, hw'.trans hx2⟩)
               (try dsimp only [Act.put])
               (try simp only [List.setIfInBounds_toArray, List.set_cons_succ, List.set_cons_zero])
               go_big_quiet_on))
          refine wpQuiet_nil ?_
          intro wq hq
          go_wp2_with fail
          go_roundw
          case rel => exact ⟨k + 1, by omega, by go_num, HB3.out.trans hq, HS.out⟩
          case measure => simp [intOf]; omega
        | false =>
          have HF := Lib.hid (HNE.out (of_decide_eq_false hd))
          have HD := Lib.hid hd
          clear HSE HNE hd
          go_wp2_with fail
          refine wp_region_ext (by kernel_rfl) (by kernel_rfl) ?_
          repeat (first
            | go_big_quiet_skip
            | (go_big_quiet_want
               unfold Oper.quiet
               apply Exists.intro
               refine ⟨fun w' hw' => ?_, ?_⟩
               focus
                 have hcq := Ext.keep hw'
                 go_simp
                 first
                   | with_reducible rfl
                   | (go_at_call 53; refine (sameFuncs_any x y _ _ S T _ (FuncV.stays (Ext.stays hw') HX.out) (FuncV.stays (Ext.stays hw') HY.out)).mono ?_; rintro e w2 ⟨rfl, hx2⟩; rw [HD.out]; exact ⟨rfl, hw'.trans hx2⟩)
               (try dsimp only [Act.put])
               (try simp only [List.setIfInBounds_toArray, List.set_cons_succ, List.set_cons_zero])
               go_big_quiet_on))
          refine wpQuiet_nil ?_
          intro wq hq
          go_wp2_with fail
          go_ret
          exact ⟨by rw [HF.out]; rfl, HB3.out.trans hq⟩
      · obtain rfl : k = b.length := by omega
        have HF : Hid (t = true) := by
          unfold Hid
          rw [← HT.out]
          exact decide_eq_true (take_all_same hl (by rw [hl]; exact HTK.out))
        clear hlt
        go_wp2_with fail
        go_ret
        exact ⟨by rw [HF.out]; rfl, HB3.out⟩
  · have TL : ((a.length : Int) != (b.length : Int)) = true := bne_iff_ne.2 (by omega)
    have HF : Hid (t = false) := by
      unfold Hid
      rw [← HT.out]
      exact decide_eq_false (fun e => hl (by rw [e]))
    clear hl
    go_wp2_with fail
    go_ret
    exact ⟨by rw [HF.out]; rfl, Ext.refl _⟩
end Go.Proofs.YtpcjkfppacnkgaaGreatDoor
end
