/- Merged texts: contracts and plain facts, one part behind another; each part begins with what it says. -/
import Derived.Test.YtpcjkfppacnkgaaGreatDoorGJAE
import Derived.Test.YtpcjkfppacnkgaaGreatDoorGJAI
import Derived.Test.YtpcjkfppacnkgaaGreatDoorGJAM
import Derived.Test.YtpcjkfppacnkgaaGreatDoorGJAN
import Derived.Laws.Externs
import Derived.Lib.AppendStr
import Derived.Lib.BufferKept
import Derived.Lib.Builder
import Derived.Lib.IndexLaws
import Derived.Lib.OwnKind
import Derived.Lib.Slices
import Derived.Lib.Strings
import Derived.Lib.UnsafeStr
import Derived.OrdersIn
import Derived.Outline
import Derived.OwnWalk
import Derived.Test.YtpcjkfppacnkgaaGreatDoorProg
import Derived.WalkSpells
section
/- A drawn region in a round of a range over a function: what holds of it outside holds of it there. No condition; of no program. -/
set_option maxHeartbeats 1000000
namespace Go.Proofs.YtpcjkfppacnkgaaGreatDoor
open Go Go.RowKit

section
variable {P : Program} {l : Nat} {md : Region.Mode} {ops : Array Oper} {Q : Exit → Act → World → Prop} {a : Act} {w : World}

theorem rows_in {row : String} {args : Array Value} {R : Value → World → Prop} (h : Rows P row args w R) : RowsIn (Fence.wide.inRound l) (0 - 1) P row args w R := fun c cs _ =>
  let ⟨v, w', r, s⟩ := h c cs; ⟨v, w', r, stepsIn_wide.2 s⟩
theorem calls_in {f : FuncId} {args : Array Value} {R : Ending → World → Prop} (h : Calls P f args w R) : CallsIn (Fence.wide.inRound l) (0 - 1) P f args w R := (callsIn_wide (n := 0 - 1)).2 h
theorem op_in {o : Oper} {K : Act → World → Prop} (hd : ∀ c, o.op ≠ .defer c) (h : o.wp P a w K Q) : o.wpIn (Fence.wide.inRound l) 0 P a w K Q := by
  unfold Oper.wpIn
  refine ⟨fun _ _ => trivial, ?_⟩
  rw [Oper.semAt_eq _ _ _ hd]
  unfold Oper.wp at h
  generalize (execOp a.eval o).run P w = r at *
  cases r with
  | ok x w' =>
    cases x <;> simp only [Oper.upon, Oper.uponIn] at h ⊢
    all_goals first
      | exact h
      | exact ⟨fun e => Bool.noConfusion e, calls_in h⟩
      | exact ⟨fun e => Bool.noConfusion e, rows_in h⟩
  | halt x w' => cases x <;> simp only [Oper.upon, Oper.uponIn] at h ⊢ <;> exact h
theorem wpOp_in {i : Nat} {K K' : Act → World → Prop} (hLO : ¬ LetsOut Q) (hd : ∀ (i : Nat) o c, ops[i]? = some o → o.op ≠ .defer c) (hK : ∀ a w, K a w → K' a w) (h : wpOp P ops Q i K a w) : wpOpIn (Fence.wide.inRound l) 0 P ops Q i K' a w := by
  unfold wpOp at h
  unfold wpOpIn
  split
  · rename_i ho
    simp only [ho] at h
    exact hK _ _ h
  · rename_i o ho
    simp only [ho] at h
    split
    · rename_i hw
      simp only [hw, if_true] at h
      exact Oper.wpIn_mono hK (op_in (fun c => hd i o c ho) (h.resolve_right (fun e => hLO e.2)))
    · rename_i hw
      simp only [hw] at h
      exact ⟨fun _ _ => trivial, hK _ _ h⟩
theorem wpAny_in (hLO : ¬ LetsOut Q) (hd : ∀ (i : Nat) o c, ops[i]? = some o → o.op ≠ .defer c) : ∀ (fuel : Nat) (listed : Array Bool) (a : Act) (w : World), wpAny P md ops Q fuel listed a w → wpAnyIn (Fence.wide.inRound l) 0 P md ops Q fuel listed a w
  | 0, _, _, _, h => h
  | fuel + 1, _, _, _, h => ⟨h.1, fun i hi => wpOp_in hLO hd (fun a w h => wpAny_in hLO hd fuel _ a w h) (h.2 i hi)⟩
def noDefer (ops : List Oper) : Bool := ops.all fun o => match o.op with | .defer _ => false | _ => true
theorem noDefer_spec {l : List Oper} (h : noDefer l = true) : ∀ (i : Nat) o c, l.toArray[i]? = some o → o.op ≠ .defer c := by
  intro i o c ho e
  have hm : o ∈ l := List.mem_of_getElem? (by simpa using ho)
  have := List.all_eq_true.1 h o hm
  simp [e] at this
theorem wpIn_region_rtt {id : Nat} {os : List Oper} (S : World → Prop) (z : Nat) (rd tl : List Nat) (hm : P.follows .mixedOrders = true) (hB : rtBT .any os.toArray z rd tl = true) (hD : noDefer os = true) (hLO : ¬ LetsOut Q) (hQ : ∀ c a d v w, Q (.panic c) (Act.put a (some d) v) w → Q (.panic c) a w) (hS : S w.drew)
    (h : readsQ P os.toArray S (fun a' => tailW P os.toArray S Q (pickOps os tl) a' w.drew) (pickOps os rd) a) : (Code.region id os.toArray true).wpIn (Fence.wide.inRound l) 0 P Q a w := by
  simp only [rtBT, Bool.and_eq_true, decide_eq_true_eq] at hB
  obtain ⟨⟨h1, h2⟩, h4⟩ := hB
  refine wpIn_region_any hm (wpAny_in hLO (noDefer_spec hD) _ _ _ _ (wpAny_of_weak (S := S) (z := z) _ _ _ _ ?_))
  exact wpAnyW_headT rfl h1 hQ hS tl rd _ _ a (by simp) (closedL_nil _) h2 h4 h
theorem wpIn_region_rw {id : Nat} {os : List Oper} (S : World → Prop) (z : Nat) (rd : List Nat) (f : Nat) (hm : P.follows .mixedOrders = true) (hB : rwB .any os.toArray z rd f = true) (hD : noDefer os = true) (hLO : ¬ LetsOut Q) (hQ : ∀ c a d v w, Q (.panic c) (Act.put a (some d) v) w → Q (.panic c) a w) (hS : S w.drew)
    (h : readsQ P os.toArray S (fun a' => wpAnyW P .any os.toArray Q S z f (listedOf os.toArray.size rd) a' w.drew) (pickOps os rd) a) : (Code.region id os.toArray true).wpIn (Fence.wide.inRound l) 0 P Q a w := by
  simp only [rwB, Bool.and_eq_true, decide_eq_true_eq] at hB
  obtain ⟨⟨h1, h2⟩, h4⟩ := hB
  refine wpIn_region_any hm (wpAny_in hLO (noDefer_spec hD) _ _ _ _ (wpAny_of_weak (S := S) (z := z) _ _ _ _ ?_))
  have h5 := wpAnyW_reads rfl h1 hQ hS f rd (Array.replicate os.toArray.size false) a (by simp) h4 h
  rwa [h2] at h5
end
end Go.Proofs.YtpcjkfppacnkgaaGreatDoor
end
section
/- Contracts of strings.Lines and of the iterator that it hands back. No condition. -/
set_option maxHeartbeats 4000000
set_option maxRecDepth 100000
namespace Go.Proofs.YtpcjkfppacnkgaaGreatDoor
open Go Go.RowKit Go.Shelf

attribute [local go_sem] Oper.semAt_some

theorem lines_cut {s : By} {o : Nat} (h : Lib.indexByte s 10 = (o : Int)) : o < s.length ∧ linesL s = s.take (o + 1) :: linesL (s.drop (o + 1)) := by
  obtain ⟨h1, h2⟩ := Lib.indexByte_some h
  have ho : o < s.length := (List.getElem?_eq_some_iff.1 h1).1
  have hso : s[o] = 10 := (List.getElem?_eq_some_iff.1 h1).2
  refine ⟨ho, ?_⟩
  have e1 : s = s.take o ++ 10 :: s.drop (o + 1) := by
    conv => lhs; rw [← List.take_append_drop o s, List.drop_eq_getElem_cons ho, hso]
  have hn : (10 : UInt8) ∉ s.take o := fun hm => by
    obtain ⟨k, hk, e⟩ := List.getElem_of_mem hm
    have hk' : k < o := by simp at hk; omega
    refine h2 k hk' ?_
    rw [List.getElem?_eq_getElem (by omega)]
    rw [List.getElem_take] at e
    rw [e]
  have e2 : s.take (o + 1) = s.take o ++ [10] := by rw [List.take_succ_eq_append_getElem ho, hso]
  rw [e2]
  conv => lhs; rw [e1]
  unfold linesL
  rw [linesGo_line _ _ hn]
  rfl
theorem linesGo_rest : ∀ (s cur : By), (10 : UInt8) ∉ s → cur ++ s ≠ [] → linesGo cur s = [cur ++ s]
  | [], cur, _, h => by rw [linesGo, if_neg (by simpa using h), List.append_nil]
  | b :: s, cur, hn, _ => by
    rw [linesGo, if_neg (fun e => hn (by simp [e])), linesGo_rest s (cur ++ [b]) (fun h => hn (List.mem_cons_of_mem _ h)) (by simp), List.append_assoc, List.singleton_append]
theorem lines_rest {s : By} (hs : 0 < s.length) (h : Lib.indexByte s 10 = -1) : linesL s = [s] := by
  have hn : (10 : UInt8) ∉ s := fun hm => by
    obtain ⟨k, hk, e⟩ := List.getElem_of_mem hm
    exact Lib.indexByte_none h k (by rw [List.getElem?_eq_getElem hk, e])
  unfold linesL
  rw [linesGo_rest s [] hn (by intro e; rw [List.nil_append] at e; rw [e] at hs; exact absurd hs (by simp))]
  rfl
theorem linesIt_any (X : ByteArray) (w : World) : Calls Tryz.prog 28 #[.string X] w fun e w' => e = .returned (.func (.func 69) #[] #[.pointer (some ⟨w.heap.size, 0, none⟩)]) ∧ w' = w.alloc (.cells #[.string X] 9) := by
  go_enter Tryz.func28, Tryz.ntmps28
  go_wp2_with fail
  go_ret
  exact ⟨rfl, rfl⟩
theorem indexB_by (s : By) (w : World) : Calls Tryz.prog 70 #[.string ⟨s.toArray⟩, .int .u8 10] w fun e w' => e = .returned (.int .i64 (Lib.indexByte s 10)) ∧ w = w' := by
  refine (Tryz.strings_IndexByte ⟨s.toArray⟩ 10 w).mono ?_
  rintro e w' ⟨rfl, rfl⟩
  exact ⟨by simp, rfl⟩
theorem lines_iter (s : By) (bs : Nat) (w : World) (hc : Cx w bs 0 (txtV s)) (hl : s.length ≤ 100000) : IterT Tryz.prog 69 #[.pointer (some ⟨bs, 0, none⟩)] txtV (linesL s) (· = bs) w := by
  intro l J Jp W hW hown hJs hJd hY h0
  have hcW := hW.cx hc
  refine callsIn_of_wp Tryz.func69 rfl trivial ?_ rfl
  simp only [Tryz.ntmps69, List.size_toArray, List.length_cons, List.length_nil, Nat.reduceAdd, Nat.reduceSub, Array.replicate_succ, Array.replicate_zero, List.push_toArray, List.append_toArray, List.nil_append, List.cons_append]
  have RA := alloc_keep
  refine wpIn_block ?_
  refine rounds_ind (fun m a W' => ∃ (r : By), Cx W' bs 0 (txtV r) ∧ J (linesL r) W' ∧ r.length < m ∧ r.length ≤ 100000 ∧ ∃ (u2 u3 u4 u5 u6 u7 u8 u9 u10 u11 u12 u13 u14 u15 u16 u17 u18 u19 u20 u21 u22 u23 u24 : Value), a = { tmps := #[.func (.yield l) #[] #[], .pointer (some ⟨bs, 0, none⟩), u2, u3, u4, u5, u6, u7, u8, u9, u10, u11, u12, u13, u14, u15, u16, u17, u18, u19, u20, u21, u22, u23, u24], defers := [] }) ?_ ?_ (s.length + 1) _ _ ?_
  case refine_2 =>
    rintro a W' ⟨r, -, -, h, -⟩
    omega
  case refine_3 =>
    refine ⟨s, hcW, h0, Nat.lt_succ_self _, hl, ?_⟩
    (repeat apply Exists.intro)
    rfl
  case refine_1 =>
    clear h0 hcW hc
    rintro m a W' ⟨r, hcr, hj, hm, hrl, u2, u3, u4, u5, u6, u7, u8, u9, u10, u11, u12, u13, u14, u15, u16, u17, u18, u19, u20, u21, u22, u23, u24, rfl⟩
    obtain ⟨X, hX⟩ : ∃ X : ByteArray, (⟨r.toArray⟩ : ByteArray) = X := ⟨_, rfl⟩
    have hN : X.size = r.length := by rw [← hX]; exact size_by r
    have HX := Lib.hid hX
    have HCR := Lib.hid hcr
    have hx0 : W'.cell? ⟨bs, 0, none⟩ = some (.string X) := by rw [← hX]; exact hcr.1
    have hf0 := hcr.2
    clear hX hcr
    by_cases hr0 : r.length = 0
    · have hl0 : linesL r = [] := by rw [List.eq_nil_of_length_eq_zero hr0]; rfl
      have HJ : Hid (J [] W') := by unfold Hid; rw [← hl0]; exact hj
      have T0 : ¬ 0 < r.length := by omega
      clear hr0 hj hl0
      gi_wp2_with fail
      refine bodyPost_end (results_none rfl _ _ _) rfl ?_
      exact .inl ⟨⟨_, rfl⟩, HJ.out⟩
    · have T0 : 0 < r.length := by omega
      have HIB : ∀ W, Hid (Calls Tryz.prog 70 #[.string X, .int .u8 10] W fun e w' => e = .returned (.int .i64 (Lib.indexByte r 10)) ∧ W = w') := fun W => by
        unfold Hid
        rw [← HX.out]
        exact indexB_by r W
      have HJ := Lib.hid hj
      clear hj
      have hge := Lib.indexByte_ge r 10
      by_cases hi : Lib.indexByte r 10 = -1
      · have hl1 := lines_rest (by omega) hi
        rw [hl1] at HJ
        rw [hi] at HIB
        clear hi hl1 hr0 hge
        gi_wp2_with (first
          | (refine ⟨trivial, rfl, ?_⟩; gi_at_call 70; refine (callsIn_wide.2 (HIB _).out).mono ?_; rintro e w1 ⟨rfl, rfl⟩))
        have hJ1 : J [r] (W'.setCell ⟨bs, 0, none⟩ (.string ⟨#[]⟩)) := hJs _ _ _ _ HJ.out rfl
        have hC1 : Cx (W'.setCell ⟨bs, 0, none⟩ (.string ⟨#[]⟩)) bs 0 (.string ⟨#[]⟩) := HCR.out.set _
        obtain ⟨fn, tmps, assign, body, hy, hR⟩ := hY r [] _ hJ1
        replace hy : (Instr.yield l #[.string X]).run Tryz.prog (W'.setCell ⟨bs, 0, none⟩ (.string ⟨#[]⟩)) = .ok (.round l fn tmps assign body) (W'.setCell ⟨bs, 0, none⟩ (.string ⟨#[]⟩)) := by rw [← HX.out]; exact hy
        rw [hy]
        gi_wp2
        refine ⟨rfl, ?_⟩
        refine hR.mono ?_
        rintro e W3 (⟨rfl, hJ3, hk3⟩ | ⟨c, rfl, hJp⟩)
        · have hC3 := hk3 bs _ rfl hC1
          clear hR hy hJ1 hk3
          gi_wp2
          refine ⟨[], hC3, hJ3, by simp; omega, by simp, ?_⟩
          (repeat apply Exists.intro)
          rfl
        · exact ⟨rfl, .inr ⟨c, rfl, hJp⟩⟩
      · obtain ⟨o, ho⟩ : ∃ o : Nat, Lib.indexByte r 10 = o := ⟨(Lib.indexByte r 10).toNat, by omega⟩
        obtain ⟨hol, hl1⟩ := lines_cut ho
        rw [hl1] at HJ
        rw [ho] at HIB
        clear hi hl1 hr0 ho hge
        gi_upto_region 4 with (first
          | (refine ⟨trivial, rfl, ?_⟩; gi_at_call 70; refine (callsIn_wide.2 (HIB _).out).mono ?_; rintro e w1 ⟨rfl, rfl⟩))
        have hE1 : X.extract 0 (o + 1) = ⟨(r.take (o + 1)).toArray⟩ := by rw [← HX.out, extract_by]; simp
        have hE2 : X.extract (o + 1) r.length = ⟨(r.drop (o + 1)).toArray⟩ := by rw [← HX.out, extract_by]; simp
        have KO : IntKind.i64.wrap ((o : Int) + 1) = ((o + 1 : Nat) : Int) := by rw [IntWalk.i64_in _ (by omega)]; omega
        have hb1 : (0 : Int) ≤ (o : Int) + 1 := by omega
        have hb2 : (o : Int) + 1 ≤ (r.length : Int) := by omega
        refine (wpIn_wide (n := 0)).2 ?_
        refine wp_region_rt (fun w' => w'.cell? ⟨bs, 0, none⟩ = some (.string X) ∧ w'.frozen? ⟨bs, 0, none⟩ = false) 9 [0, 1, 2, 3, 4, 5, 6, 7, 8] [9] (by kernel_rfl) (by kernel_rfl) (fun _ _ _ _ _ h => h) (by exact ⟨hx0, hf0⟩) ?_
        (try simp only [pickOps, List.filterMap_cons, List.filterMap_nil, List.getElem?_cons_zero, List.getElem?_cons_succ])
        repeat (
          refine readsQ_do (by rfl) ?_
          apply Exists.intro
          refine ⟨fun w' hw' => ?_, ?_⟩
          focus
            (try dsimp only at hw')
            go_split_ands
            go_simp
            (try with_reducible rfl)
          (try dsimp only [Act.put])
          (try simp only [List.setIfInBounds_toArray, List.set_cons_succ, List.set_cons_zero]))
        refine readsQ_nil ?_
        refine tailW_step ?_
        go_wp2_with fail
        refine nextW_end ?_
        have hJ1 : J (r.take (o + 1) :: linesL (r.drop (o + 1))) (W'.setCell ⟨bs, 0, none⟩ (.string ⟨(r.drop (o + 1)).toArray⟩)).drew := hJd _ _ (hJs _ _ _ _ HJ.out rfl)
        have hC1 : Cx (W'.setCell ⟨bs, 0, none⟩ (.string ⟨(r.drop (o + 1)).toArray⟩)).drew bs 0 (.string ⟨(r.drop (o + 1)).toArray⟩) := HCR.out.set _
        have hlen : (r.drop (o + 1)).length < m := by rw [List.length_drop]; omega
        obtain ⟨fn, tmps, assign, body, hy, hR⟩ := hY _ _ _ hJ1
        replace hy : (Instr.yield l #[.string ⟨(r.take (o + 1)).toArray⟩]).run Tryz.prog (W'.setCell ⟨bs, 0, none⟩ (.string ⟨(r.drop (o + 1)).toArray⟩)).drew = .ok (.round l fn tmps assign body) (W'.setCell ⟨bs, 0, none⟩ (.string ⟨(r.drop (o + 1)).toArray⟩)).drew := hy
        have hlr : (r.drop (o + 1)).length ≤ 100000 := by rw [List.length_drop]; omega
        clear hb1 hb2 hE1 hE2 KO hx0 hf0 HIB
        generalize r.drop (o + 1) = r2 at *
        generalize r.take (o + 1) = r1 at *
        gi_wp2
        refine ⟨rfl, ?_⟩
        refine hR.mono ?_
        rintro e W3 (⟨rfl, hJ3, hk3⟩ | ⟨c, rfl, hJp⟩)
        · have hC3 := hk3 bs _ rfl hC1
          clear hR hy hJ1 hk3
          gi_wp2
          refine ⟨r2, hC3, hJ3, hlen, hlr, ?_⟩
          (repeat apply Exists.intro)
          rfl
        · exact ⟨rfl, .inr ⟨c, rfl, hJp⟩⟩
end Go.Proofs.YtpcjkfppacnkgaaGreatDoor
end
section
/- Contracts of strings.Builder's copyCheck and WriteString, at a builder of the call's own. No condition. -/
set_option maxHeartbeats 2000000
set_option maxRecDepth 100000
namespace Go.Proofs.YtpcjkfppacnkgaaGreatDoor
open Go Go.RowKit

theorem bld_size : (Tryz.prog.info? 65).map (·.size) = some 2 := by kernel_rfl
theorem bld_lies : liesAt Tryz.prog Tryz.prog.depth 65 (2 / Tryz.prog.cellsOf 65) 0 65 1 = true := by kernel_rfl
theorem bld_byte : (Tryz.prog.info? 5).map (fun i => (i.zero, i.size, i.bytes)) = some (some (.int .u8 0), 1, 1) := by kernel_rfl

theorem ext_grown {w w' : World} (h : Ext w w') : w.grownBy w' none := ⟨h.os, h.tape, h.output, h.size, fun k hk _ => h.block k hk⟩
/-- A builder of the call's own that holds the bytes l. -/
def Bd (w : World) (B b : Nat) (l : List UInt8) : Prop := Lib.IsBuilder 65 5 B b (Lib.byteCells l) w
theorem BuilderAt.ext {T e : TypeId} {B b : Nat} {p : Value} {bs : List Value} {w w' : World} (h : Lib.BuilderAt T e B b p bs w) (he : Ext w w') : Lib.BuilderAt T e B b p bs w' := by
  have hlt := h.lt
  obtain ⟨hB, v, hb, hown, hne⟩ := h
  exact ⟨hB, v, (he.block b hlt).trans hb, hown.kept (row := none) (ext_grown he) (by cases h : v.ownBlock <;> simp), hne⟩
theorem Bd.ext {w w' : World} {B b : Nat} {l : List UInt8} (h : Bd w B b l) (he : Ext w w') : Bd w' B b l := h.imp (fun h => BuilderAt.ext h he) (fun h => BuilderAt.ext h he)
theorem Bd.new (w : World) (B : Nat) (hB : B ≤ w.heap.size) : Bd (w.alloc (.cells #[.pointer none, .slice none 0 0] 65)) B w.heap.size [] :=
  .inl ⟨hB, .slice none 0 0, World.alloc_heap_new w _, World.ownsRow_nil _ _ _ _, by simp [Value.ownBlock]⟩
theorem Bd.lt {w : World} {B b : Nat} {l : List UInt8} (h : Bd w B b l) : b < w.heap.size := h.elim (·.lt) (·.lt)

theorem others_set (w : World) (b o : Nat) (u : Value) (e : TypeId) : Lib.OthersKept e (some b) w (w.setCell ⟨b, o, none⟩ u) := (Lib.OthersKept.refl e (some b) w).setCell ⟨b, o, none⟩ rfl u
theorem copyCheck_any (B b : Nat) (bs : List Value) (w : World) (h : Lib.IsBuilder 65 5 B b bs w) :
    Calls Tryz.prog 71 #[.pointer (some ⟨b, 0, none⟩)] w fun e w' => e = .returned (.tuple #[]) ∧ Lib.BuilderAt 65 5 B b (.pointer (some ⟨b, 0, none⟩)) bs w' ∧ Below B w w' ∧ Lib.OthersKept 5 (some b) w w' := by
  obtain ⟨j, hj, hjs⟩ := Option.map_eq_some_iff.1 bld_size
  rcases h with h | h
  · have h0 := h.cell0
    have hsh := h.shape
    have hfz := h.frozen0
    go_enter Tryz.func71, Tryz.ntmps71
    go_wp2
    rw [Lib.run_to_unsafe w ⟨b, 0, none⟩ Tryz.underlying62 Tryz.underlying147 hj (by rw [hjs]; decide) hsh (Nat.zero_lt_succ 1)]
    simp only [Result.andThen]
    rw [Oper.upon_value]
    go_wp2
    rw [run_callFunc_extern Tryz.func107 (by kernel_rfl) (by kernel_rfl) (by kernel_rfl) (e := Extern.AbiNoEscape.same) (by kernel_rfl)]
    rw [Lib.run_noEscape]
    simp only [Result.andThen]
    rw [Oper.upon_value]
    go_wp2
    rw [Lib.run_from_unsafe w ⟨b, 0, none⟩ Tryz.underlying147 Tryz.underlying62 hj hsh bld_lies]
    simp only [Result.andThen]
    rw [Oper.upon_value]
    go_wp2
    go_end0
    exact ⟨rfl, h.used _, (Below.refl B w).setCell (p := ⟨b, 0, none⟩) h.1 _, others_set w b 0 _ _⟩
  · have h0 := h.cell0
    go_enter Tryz.func71, Tryz.ntmps71
    go_wp2
    rw [Lib.run_neq_ptr_same w _ Tryz.underlying62 hj]
    go_wp2
    go_end0
    exact ⟨rfl, h, Below.refl B _, Lib.OthersKept.refl _ _ _⟩
theorem writeString_any (B b : Nat) (bs : List Value) (s : ByteArray) (w : World) (h : Lib.IsBuilder 65 5 B b bs w) (hlen : bs.length + s.size ≤ 140737488355328) (hBw : B ≤ w.heap.size) :
    Calls Tryz.prog 29 #[.pointer (some ⟨b, 0, none⟩), .string s] w fun e w' => e = .returned (.tuple #[.int .i64 s.size, .nilIface]) ∧ Lib.BuilderAt 65 5 B b (.pointer (some ⟨b, 0, none⟩)) (bs ++ Lib.strCells s) w' ∧ Below B w w' ∧ Lib.OthersKept 5 (some b) w w' := by
  obtain ⟨i0, hi, hz0, hz1, hz2⟩ := info_parts bld_byte
  go_enter Tryz.func29, Tryz.ntmps29
  go_wp2_with (go_at_call 71; refine (copyCheck_any B b bs _ h).mono ?_)
  rintro e w1 ⟨rfl, h1, hb1, ho1⟩
  obtain ⟨hB, v, hbk, hown, hne⟩ := h1
  have c0 : w1.cell? ⟨b, 0, none⟩ = some (.pointer (some ⟨b, 0, none⟩)) := by rw [Lib.cell_of_heap hbk]; rfl
  have c1 : w1.cell? ⟨b, 1, none⟩ = some v := by rw [Lib.cell_of_heap hbk]; rfl
  go_wp2_with (at_builtin; refine Lib.wpList_append_own_string _ rfl _ _ 63 9 rfl B 5 i0 Tryz.underlying63 Tryz.underlying9 hi hz0 hz1 hz2 _ _ _ rfl hown s rfl ?c3 ?c4 ?c5 ?_)
  case c3 => unfold maxLen; omega
  case c4 => omega
  case c5 => have := hb1.size; omega
  intro v' w2 hown' hgrow _
  have hlt : b < w1.heap.size := by
    rcases Nat.lt_or_ge b w1.heap.size with h' | h'
    · exact h'
    · simp [Array.getElem?_eq_none h'] at hbk
  have hb2 : w2.heap[b]? = some (.cells #[.pointer (some ⟨b, 0, none⟩), v] 65 (0, 0)) := by
    rw [hgrow.block b hlt (fun e => hne e.symm)]
    exact hbk
  have d0 : w2.cell? ⟨b, 0, none⟩ = some (.pointer (some ⟨b, 0, none⟩)) := by rw [Lib.cell_of_heap hb2]; rfl
  have d1 : w2.cell? ⟨b, 1, none⟩ = some v := by rw [Lib.cell_of_heap hb2]; rfl
  have f1 : w2.frozen? ⟨b, 1, none⟩ = false := Lib.frozen_of_heap hb2 1
  obtain ⟨ao, n', cap, rfl⟩ : ∃ ao n' cap, v' = .slice ao n' cap := by
    rcases hown'.2 with ⟨hv, _⟩ | ⟨g, cap, cur, hv, _⟩
    · exact ⟨_, _, _, hv⟩
    · exact ⟨_, _, _, hv⟩
  go_wp2
  go_ret2
  refine ⟨rfl, ?_, ?_, ?_⟩
  · exact Lib.BuilderAt.put (T := 65) (e := 5) hB hb2 (bs' := bs ++ Lib.strCells s) (by simpa [Lib.strCells_length] using hown') (by decide)
  · exact (hb1.grown hgrow (by have := hb1.size; omega) (fun k hk => (hown.lt k hk).1)).setCell (p := ⟨b, 1, none⟩) hB _
  · exact (ho1.grown hgrow (Lib.ownsRow_kind hown)).setCell ⟨b, 1, none⟩ rfl _
theorem strCells_by (x : List UInt8) : Lib.strCells ⟨x.toArray⟩ = Lib.byteCells x := by simp [Lib.strCells, Lib.byteCells]
theorem write_by (B b : Nat) (l x : List UInt8) (w : World) (h : Bd w B b l) (hlen : l.length + x.length ≤ 140737488355328) (hBw : B ≤ w.heap.size) :
    Calls Tryz.prog 29 #[.pointer (some ⟨b, 0, none⟩), .string ⟨x.toArray⟩] w fun e w' => e = .returned (.tuple #[.int .i64 x.length, .nilIface]) ∧ Bd w' B b (l ++ x) ∧ Below B w w' ∧ Lib.OthersKept 5 (some b) w w' := by
  have hsz : (⟨x.toArray⟩ : ByteArray).size = x.length := by simp [ByteArray.size]
  refine (writeString_any B b (Lib.byteCells l) ⟨x.toArray⟩ w h (by rw [hsz]; simpa [Lib.byteCells] using hlen) hBw).mono ?_
  rintro e w' ⟨rfl, h1, h2, h3⟩
  refine ⟨by rw [hsz], .inr ?_, h2, h3⟩
  rw [strCells_by] at h1
  simpa [Lib.byteCells] using h1
end Go.Proofs.YtpcjkfppacnkgaaGreatDoor
end
section
/- Contract of the text package's Show. No condition. -/
set_option maxHeartbeats 4000000
set_option maxRecDepth 100000
namespace Go.Proofs.YtpcjkfppacnkgaaGreatDoor
open Go Go.RowKit

theorem ints_fresh (W : World) (l : List Int) (hI : ∀ n ∈ l, I64 n) (hl : l.length ≤ 1000) : Ints (W.alloc (.cells (ints l).toArray 3)) (fun _ => True) (.slice (some ⟨W.heap.size, 0, none⟩) l.length l.length) l := by
  refine ⟨some ⟨W.heap.size, 0, none⟩, l.length, rfl, Nat.le_refl _, ⟨by omega, by omega⟩, fun i hi => ⟨W.heap.size, 0, rfl, trivial, ?_, hI _ (List.getElem_mem hi)⟩⟩
  rw [World.cell?_alloc_new, List.getElem?_toArray, Nat.zero_add, Nat.mul_one]
  unfold ints
  rw [List.getElem?_map, List.getElem?_eq_getElem hi]
  rfl
theorem ext_then {w2 W W' : World} {b6 : Nat} (e : w2.heap.size = b6) (h : Ext w2 W) (hb : Below b6 W W') : Ext w2 W' := by subst e; exact Below.trans h hb
theorem cells_at {w : World} {b : Nat} {cs : Array Value} {t : TypeId} {z : Nat × Nat} (h : w.heap[b]? = some (.cells cs t z)) (o : Nat) : w.cell? ⟨b, o, none⟩ = cs[o]? := by simp [World.cell?, h]
theorem heap_new (w : World) (o : Obj) : (w.alloc o).heap[w.heap.size]? = some o := World.alloc_heap_new w _
def showT (p : List GFunc) : By := if progErr p = 0 then textP p else []
theorem words_head (f : GFunc) : wordsI funcT [f.args, f.locals] = headW f := by unfold wordsI headW; simp
theorem words_op (x : GOp) (h : toldB x.kind = true) : wordsI (nameT x.kind) [x.a] = opW x := by unfold wordsI opW; rw [h]; simp
theorem words_op0 (x : GOp) (h : toldB x.kind = false) : wordsI (nameT x.kind) [] = opW x := by unfold wordsI opW; rw [h]; simp
theorem show_any (p : List GFunc) (v : Value) (S : Nat → Prop) (w : World) (hg : Glob w) (hp : Funcs w S v p) :
    Calls Tryz.prog 11 #[v] w fun e w' => e = .returned (.tuple #[.string ⟨(showT p).toArray⟩, .int .i64 (progErr p)]) ∧ Ext w w' := by
  have HP := Lib.hid hp
  have HG := Lib.hid hg
  obtain ⟨r, hr⟩ : ∃ r, progErr p = r := ⟨_, rfl⟩
  obtain ⟨sh, hsh⟩ : ∃ sh, showT p = sh := ⟨_, rfl⟩
  rw [hr, hsh]
  have HR := Lib.hid hr
  have HSH := Lib.hid hsh
  clear hr hsh hg
  obtain ⟨a, cap, rfl, hcap, hby, _⟩ := hp
  by_cases h0 : r = 0
  · subst h0
    have HT : Hid (sh = textP p) := by unfold Hid; rw [← HSH.out]; unfold showT; rw [if_pos HR.out]
    have h5 := (progErr_zero HR.out).most
    go_enter Tryz.func11, Tryz.ntmps11
    go_upto_region 5 with (first
      | (go_at_call 36; (with_reducible refine (progCheck_any p _ _ _ HP.out).mono ?_); rintro e w1 ⟨rfl, hb1⟩; rw [HR.out])
      | (go_at_call 37; (with_reducible refine (namesI_any _ (HG.out.ext hb1)).mono ?_); rintro e w2 ⟨vn, rfl, hvn, hb2⟩; have HVN := Lib.hid hvn; obtain ⟨an, cn, rfl, _, _⟩ := hvn))
    have HB0 := Lib.hid (hb1.trans hb2)
    have HG2 := Lib.hid ((HG.out.ext hb1).ext hb2)
    clear hb1 hb2
    have hu8 : ∀ (W : World) (f : GFunc) (u : Value), Hid (∀ c fz, (Obj.cells #[.int .i64 f.args, .int .i64 f.locals, u] 49 (0, 0)) ≠ .cells c 5 fz) := fun _ _ _ => by unfold Hid; intro c fz h; cases h
    have HBD := Lib.hid (Bd.new w2 w2.heap.size (Nat.le_refl _))
    have HX6 := Lib.hid ((Ext.refl w2).alloc (.cells #[.pointer none, .slice none 0 0] 65))
    obtain ⟨b6, hb6⟩ : ∃ b6, w2.heap.size = b6 := ⟨_, rfl⟩
    have HB6 := Lib.hid hb6
    rw [hb6] at HBD
    have hcat := cat_bytes'
    have hlen := cat_len
    go_wp2_with fail
    clear hb6
    go_loopw [19] (fun q19 wr => ∃ k : Nat, k ≤ p.length ∧ q19 = .int .i64 k ∧ Bd wr b6 b6 (textP (p.take k)) ∧ Ext w2 wr) (fun q _ => p.length - (intOf q).toNat)
    case atStart => exact ⟨0, Nat.zero_le _, rfl, HBD.out, HX6.out⟩
    case round =>
      obtain ⟨k, hk, rfl, hbd, hb⟩ := hrel
      have HBD := Lib.hid hbd
      have HB := Lib.hid hb
      have hsl := take_len HR.out k
      have hbl := hbd.lt
      clear hbd hb
      by_cases hlt : k < p.length
      · obtain ⟨s, hs⟩ : ∃ s, textP (p.take k) = s := ⟨_, rfl⟩
        rw [hs] at hsl HBD
        have HS := Lib.hid hs
        obtain ⟨⟨ra0, ra1, rl0, rl1⟩, hcl, hop⟩ := right_ops HR.out _ (List.getElem_mem hlt)
        obtain ⟨bP, oP, capP, e0, _, _, ⟨_, x0, iA⟩, ⟨_, x1, iL⟩, vc, x2, hops⟩ := HP.out.get hlt
        simp only [Value.slice.injEq] at e0
        obtain ⟨rfl, -, rfl⟩ := e0
        replace x0 := Ext.cell (HB0.out.trans HB.out) x0
        replace x1 := Ext.cell (HB0.out.trans HB.out) x1
        replace x2 := Ext.cell (HB0.out.trans HB.out) x2
        have HOPS := Lib.hid hops
        have HOP := Lib.hid hop
        obtain ⟨hd, hhd⟩ : ∃ hd, headW p[k] ++ [10] = hd := ⟨_, rfl⟩
        have HHD := Lib.hid hhd
        have lhd : hd.length ≤ 19 := by
          rw [← hhd, List.length_append]
          have := headW_len (f := p[k]) ⟨ra0, ra1, rl0, rl1⟩
          simp
          omega
        have HLH : ∀ W, Hid (Glob W → Calls Tryz.prog 38 #[.string ⟨#[102, 117, 110, 99]⟩, .slice (some ⟨W.heap.size, 0, none⟩) 2 2] (W.alloc (.cells #[.int .i64 p[k].args, .int .i64 p[k].locals] 3)) fun e w' => e = .returned (.string ⟨hd.toArray⟩) ∧ Ext (W.alloc (.cells #[.int .i64 p[k].args, .int .i64 p[k].locals] 3)) w') := fun W => by
          unfold Hid
          intro hgW
          rw [← hhd, ← words_head]
          exact line_any funcT [p[k].args, p[k].locals] _ _ _ (hgW.ext ((Ext.refl _).alloc _)) (ints_fresh W [p[k].args, p[k].locals] (fun n hn => (List.mem_cons.1 hn).elim (fun e => e ▸ iA) (fun hn => (List.mem_singleton.1 hn) ▸ iL)) (by simp)) (by decide) (by simp)
        have HU := hu8 wr p[k] vc
        have O8 : Hid ((wr.alloc (.cells #[.int .i64 p[k].args, .int .i64 p[k].locals, vc] 49)).heap[wr.heap.size]? = some (.cells #[.int .i64 p[k].args, .int .i64 p[k].locals, vc] 49 (0, 0))) := heap_new _ _
        generalize p[k].args = A at *
        generalize p[k].locals = L at *
        have HB8 := Lib.hid (HB.out.alloc (.cells #[.int .i64 A, .int .i64 L, vc] 49))
        have HBD8 := Lib.hid (Bd.ext HBD.out ((Ext.refl wr).alloc (.cells #[.int .i64 A, .int .i64 L, vc] 49)))
        clear hs hops hop ra0 ra1 rl0 rl1 hhd iA iL
        obtain ⟨ac, capc, rfl, hcapc, hbyc, _⟩ := HOPS.out
        go_upto_region 9 with fail
        obtain ⟨b8, hb8⟩ : ∃ b8, wr.heap.size = b8 := ⟨_, rfl⟩
        rw [hb8] at O8
        have hne8 : b8 ≠ b6 := by omega
        have hl8 : b8 < (wr.alloc (.cells #[.int .i64 A, .int .i64 L, .slice ac p[k].code.length capc] 49)).heap.size := (Array.getElem?_eq_some_iff.1 O8.out).1
        generalize wr.alloc (.cells #[.int .i64 A, .int .i64 L, .slice ac p[k].code.length capc] 49) = w8 at *
        have c0 := cells_at O8.out 0
        have c1 := cells_at O8.out 1
        simp only [List.getElem?_toArray, List.getElem?_cons_zero, List.getElem?_cons_succ] at c0 c1
        rw [hb8]
        go_upto_region 10 with (first
          | (go_at_call 38; (with_reducible refine ((HLH w8).out (HG2.out.ext HB8.out)).mono ?_); rintro e w9 ⟨rfl, hb9⟩; have HX9 := Lib.hid (((Ext.refl w8).alloc _).trans hb9); have HBD9 := Lib.hid (Bd.ext HBD8.out HX9.out); have hl9 := HBD9.out.lt)
          | (go_at_call 29; (with_reducible refine (write_by b6 b6 s hd _ HBD9.out (by omega) (by omega)).mono ?_); rintro e wA ⟨rfl, hbA, hblA, hoA⟩))
        have HXA := Lib.hid (ext_then HB6.out (HB8.out.trans HX9.out) hblA)
        have O8A := hoA b8 _ ((HX9.out.block b8 hl8).trans O8.out) (fun e => hne8 (Option.some.inj e)) HU.out
        have c2 := cells_at O8A 2
        simp only [List.getElem?_toArray, List.getElem?_cons_zero, List.getElem?_cons_succ] at c2
        have HBA : Hid (Bd wA b6 b6 (preT p p[k] k 0)) := by
          unfold Hid
          rw [preT_zero, HS.out, HHD.out]
          exact hbA
        have HOPA := Lib.hid (HOPS.out)
        clear hbA hblA hoA O8A O8 c0 c1 HU HLH hl8 lhd hsl HHD hb9
        go_wp2_with fail
        go_loopw [33] (fun q33 wx => ∃ j : Nat, j ≤ p[k].code.length ∧ q33 = .int .i64 j ∧ Bd wx b6 b6 (preT p p[k] k j) ∧ Ext w2 wx) (fun q _ => p[k].code.length - (intOf q).toNat)
        case atStart => exact ⟨0, Nat.zero_le _, rfl, HBA.out, HXA.out⟩
        case round =>
          rename World => wx
          obtain ⟨j, hj, rfl, hbd, hb⟩ := hrel
          have HBDx := Lib.hid hbd
          have HBx := Lib.hid hb
          have hsl := preT_len HR.out hlt j
          have hblx := hbd.lt
          clear hbd hb
          by_cases hjt : j < p[k].code.length
          · obtain ⟨s2, hs2⟩ : ∃ s2, preT p p[k] k j = s2 := ⟨_, rfl⟩
            rw [hs2] at hsl HBDx
            obtain ⟨⟨k0, k1⟩, ⟨a0, a1⟩, _⟩ := HOP.out _ (List.getElem_mem hjt)
            obtain ⟨bc, oc, capc', e0, _, _, ⟨_, x3, _⟩, ⟨_, x4, iA2⟩⟩ := (Ops.stays (Ext.stays (HB0.out.trans HBx.out)) HOPS.out).get hjt
            simp only [Value.slice.injEq] at e0
            obtain ⟨rfl, -, rfl⟩ := e0
            obtain ⟨ln, hln⟩ : ∃ ln, opW p[k].code[j] ++ [10] = ln := ⟨_, rfl⟩
            have HPR : Hid (preT p p[k] k (j + 1) = s2 ++ ln) := by
              unfold Hid
              rw [preT_step _ _ _ hjt, hs2, hln]
            have lln : ln.length ≤ 19 := by
              rw [← hln, List.length_append]
              have := opW_len (HOP.out _ (List.getElem_mem hjt))
              simp
              omega
            have HL1 : ∀ W, Hid (toldB p[k].code[j].kind = true → Glob W → Calls Tryz.prog 38 #[.string ⟨(nameT p[k].code[j].kind).toArray⟩, .slice (some ⟨W.heap.size, 0, none⟩) 1 1] (W.alloc (.cells #[.int .i64 p[k].code[j].a] 3)) fun e w' => e = .returned (.string ⟨ln.toArray⟩) ∧ Ext (W.alloc (.cells #[.int .i64 p[k].code[j].a] 3)) w') := fun W => by
              unfold Hid
              intro ht hgW
              rw [← hln, ← words_op _ ht]
              exact line_any _ [p[k].code[j].a] _ _ _ (hgW.ext ((Ext.refl _).alloc _)) (ints_fresh W [p[k].code[j].a] (fun n hn => (List.mem_singleton.1 hn) ▸ iA2) (by simp)) (Nat.le_trans (namesT_len _ (nameT_mem k0 k1)) (by decide)) (by simp)
            have HL0 : ∀ W, Hid (toldB p[k].code[j].kind = false → Glob W → Calls Tryz.prog 38 #[.string ⟨(nameT p[k].code[j].kind).toArray⟩, .slice none 0 0] W fun e w' => e = .returned (.string ⟨ln.toArray⟩) ∧ Ext W w') := fun W => by
              unfold Hid
              intro ht hgW
              rw [← hln, ← words_op0 _ ht]
              exact line_any _ [] _ (fun _ => True) _ hgW (Sl.nil _ _ _) (Nat.le_trans (namesT_len _ (nameT_mem k0 k1)) (by decide)) (by simp)
            generalize p[k].code[j].kind = K at *
            generalize p[k].code[j].a = A2 at *
            obtain ⟨m, rfl⟩ : ∃ m : Nat, K = m := ⟨K.toNat, by omega⟩
            have hK : m < namesT.length := by show m < 17; omega
            have HNX : Hid (namesT[m] = nameT (m : Int)) := by unfold Hid nameT; simp [List.getD, List.getElem?_eq_getElem hK]
            obtain ⟨nm, hnm⟩ : ∃ nm, nameT (m : Int) = nm := ⟨_, rfl⟩
            rw [hnm] at HNX
            simp only [hnm] at HL1 HL0
            obtain ⟨bn, on, cn', en, _, xn⟩ := strs_at (HVN.out.stays (Ext.stays HBx.out)) hK
            simp only [Value.slice.injEq] at en
            obtain ⟨rfl, -, rfl⟩ := en
            rw [HNX.out] at xn
            replace xn : _ = some (Value.string ⟨nm.toArray⟩) := xn
            clear hs2 hln hnm k0 k1 a0 a1 iA2
            go_upto_region 13 with fail
            have y0 := (Cx.new wx [.int .i64 m, .int .i64 A2] 51 (j := 0) rfl).1
            have y1 := (Cx.new wx [.int .i64 m, .int .i64 A2] 51 (j := 1) rfl).1
            have HYX := Lib.hid ((Ext.refl wx).alloc (.cells #[.int .i64 m, .int .i64 A2] 51))
            replace xn := Ext.cell HYX.out xn
            generalize wx.heap.size = bx at *
            generalize wx.alloc (.cells #[.int .i64 m, .int .i64 A2] 51) = wy at *
            cases htb : toldB (m : Int) with
            | false =>
              have HTB := Lib.hid htb
              clear htb
              go_wp2_with (first
                | (go_at_call 39; refine (told_any _ _).mono ?_; rintro e wt ⟨rfl, hbt⟩; rw [HTB.out]; have HXT := Lib.hid (HYX.out.trans hbt); have y0' := Ext.cell hbt y0; have xn' := Ext.cell hbt xn)
                | (go_at_call 38; (with_reducible refine ((HL0 _).out HTB.out (HG2.out.ext (HBx.out.trans HXT.out))).mono ?_); rintro e wl ⟨rfl, hbl⟩; have HXL := Lib.hid (HXT.out.trans hbl); have HBL := Lib.hid (Bd.ext HBDx.out HXL.out); have hll := HBL.out.lt)
                | (go_at_call 29; (with_reducible refine (write_by b6 b6 s2 ln _ HBL.out (by omega) (by omega)).mono ?_); rintro e wA2 ⟨rfl, hbA, hblA, hoA⟩))
              go_roundw
              case rel => exact ⟨j + 1, by omega, by go_num, by rw [HPR.out]; exact hbA, ext_then HB6.out (HBx.out.trans HXL.out) hblA⟩
              case measure => simp [intOf]; omega
            | true =>
              have HTB := Lib.hid htb
              clear htb
              go_upto_region 14 with (first
                | (go_at_call 39; refine (told_any _ _).mono ?_; rintro e wt ⟨rfl, hbt⟩; rw [HTB.out]; have HXT := Lib.hid (HYX.out.trans hbt); have y0' := Ext.cell hbt y0; have y1' := Ext.cell hbt y1; have xn' := Ext.cell hbt xn))
              refine wp_region_rtt (fun w' => w'.cell? ⟨bx, 0, none⟩ = some (.int .i64 (m : Int)) ∧ w'.cell? ⟨bx, 1, none⟩ = some (.int .i64 A2) ∧ w'.cell? ⟨bn, on + m, none⟩ = some (.string ⟨nm.toArray⟩)) 9 [0, 1, 2, 3, 4, 5, 6] [7, 8, 9] (by kernel_rfl) (by kernel_rfl) (fun _ _ _ _ _ h => h) (by exact ⟨y0', y1', xn'⟩) ?_
              (try simp only [pickOps, List.filterMap_cons, List.filterMap_nil, List.getElem?_cons_zero, List.getElem?_cons_succ])
              repeat (
                refine readsQ_do (by rfl) ?_
                apply Exists.intro
                refine ⟨fun w' hw' => ?_, ?_⟩
                focus
                  (try dsimp only at hw')
                  go_split_ands
                  go_simp
                  (try with_reducible rfl)
                (try dsimp only [Act.put])
                (try simp only [List.setIfInBounds_toArray, List.set_cons_succ, List.set_cons_zero]))
              refine readsQ_nil ?_
              refine tailW_step ?_
              go_wp2_with fail
              have HXU := Lib.hid (HXT.out.trans ((Ext.refl wt).drew.alloc (.cells #[.int .i64 A2] 3)))
              have HDR := Lib.hid (HXT.out.trans (Ext.refl wt).drew)
              have HE7 := Lib.hid ((Ext.refl wt).drew.alloc (.cells #[.int .i64 A2] 3))
              refine nextW_go (by exact ⟨Ext.cell HE7.out y0', Ext.cell HE7.out y1', Ext.cell HE7.out xn'⟩) ?_
              refine tailW_step ?_
              go_wp2_with (first
                | (go_at_call 38; refine ((HL1 wt.drew).out HTB.out (HG2.out.ext (HBx.out.trans HDR.out))).mono ?_; rintro e wl ⟨rfl, hbl⟩))
              have HXL := Lib.hid (HXU.out.trans hbl)
              have HEL := Lib.hid (HE7.out.trans hbl)
              have HBL := Lib.hid (Bd.ext HBDx.out HXL.out)
              have hll := HBL.out.lt
              refine nextW_go (by exact ⟨Ext.cell HEL.out y0', Ext.cell HEL.out y1', Ext.cell HEL.out xn'⟩) ?_
              refine tailW_step ?_
              go_wp2_with (first
                | (go_at_call 29; (with_reducible refine (write_by b6 b6 s2 ln _ HBL.out (by omega) (by omega)).mono ?_); rintro e wA2 ⟨rfl, hbA, hblA, hoA⟩))
              refine nextW_end ?_
              go_wp2_with fail
              go_roundw
              case rel => exact ⟨j + 1, by omega, by go_num, by rw [HPR.out]; exact hbA, ext_then HB6.out (HBx.out.trans HXL.out) hblA⟩
              case measure => simp [intOf]; omega
          · obtain rfl : j = p[k].code.length := by omega
            have HBE : Hid (Bd wx b6 b6 (textP (p.take (k + 1)))) := by have := HBDx.out; rw [preT_end p hlt] at this; exact this
            clear hjt hsl
            go_wp2_with fail
            go_roundw
            case rel => exact ⟨k + 1, by omega, by go_num, HBE.out, HBx.out⟩
            case measure => simp [intOf]; omega
      · obtain rfl : k = p.length := by omega
        have HBE : Hid (Bd wr b6 b6 sh) := by have := HBD.out; rw [List.take_length, ← HT.out] at this; exact this
        clear hlt hsl
        go_wp2_with (first
          | (go_at_call 32; refine (Tryz.Builder_String_any b6 b6 sh _ HBE.out (by omega)).mono ?_; rintro e w4 ⟨rfl, hb4⟩))
        go_ret2
        exact ⟨rfl, HB0.out.trans (ext_then HB6.out HB.out hb4)⟩
  · have hs0 : sh = [] := by rw [← HSH.out]; unfold showT; rw [if_neg (fun e => h0 (HR.out.symm.trans e))]
    subst hs0
    have T0 : (r != 0) = true := bne_iff_ne.2 h0
    clear h0
    go_enter Tryz.func11, Tryz.ntmps11
    go_wp2_with (first
      | (go_at_call 36; (with_reducible refine (progCheck_any p _ _ _ HP.out).mono ?_); rintro e w1 ⟨rfl, hb1⟩; rw [HR.out]))
    go_ret2
    exact ⟨rfl, hb1⟩
end Go.Proofs.YtpcjkfppacnkgaaGreatDoor
end
