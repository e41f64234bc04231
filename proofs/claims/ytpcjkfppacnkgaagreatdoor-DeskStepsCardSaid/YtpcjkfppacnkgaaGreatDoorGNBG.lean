/- Merged texts: contracts and plain facts, one part behind another; each part begins with what it says. -/
import Derived.Test.YtpcjkfppacnkgaaGreatDoorGNAE
import Derived.Test.YtpcjkfppacnkgaaGreatDoorGNAI
import Derived.Test.YtpcjkfppacnkgaaGreatDoorGNAN
import Derived.Test.YtpcjkfppacnkgaaGreatDoorGNAT
import Derived.Test.YtpcjkfppacnkgaaGreatDoorGNAX
import Derived.Test.YtpcjkfppacnkgaaGreatDoorGNBE
import Derived.Test.YtpcjkfppacnkgaaGreatDoorGNBF
import Derived.Lib.IndexLaws
import Derived.OrdersIn
import Derived.RecoverIn
import Derived.WalkSpells
section
/- A drawn region in a round of a range over a function: what holds of it outside holds of it there. No condition; of no program. -/
set_option maxHeartbeats 1000000
namespace Go.Proofs.YtpcjkfppacnkgaaGreatDoor
open Go Go.RowKit

section
variable {P : Program} {l : Nat} {md : Region.Mode} {ops : Array Oper} {Q : Exit → Act → World → Prop} {a : Act} {w : World}

theorem rows_in {row : String} {args : Array Value} {R : Value → World → Prop} (h : Rows P row args w R) : RowsIn (Fence.wide.inRound l) (0 - 1) P row args w R := fun c cs _ =>
  let ⟨v, w', r, s⟩ := h c cs; ⟨v, w', r, stepsIn_wide.2 s⟩
theorem calls_in {f : FuncId} {args : Array Value} {R : Ending → World → Prop} (h : Calls P f args w R) : CallsIn (Fence.wide.inRound l) (0 - 1) P f args w R := (callsIn_wide (n := 0 - 1)).2 h
theorem op_in {o : Oper} {K : Act → World → Prop} (hd : ∀ c, o.op ≠ .defer c) (h : o.wp P a w K Q) : o.wpIn (Fence.wide.inRound l) 0 P a w K Q := by
  unfold Oper.wpIn
  refine ⟨fun _ _ => trivial, ?_⟩
  rw [Oper.semAt_eq _ _ _ hd]
  unfold Oper.wp at h
  generalize (execOp a.eval o).run P w = r at *
  cases r with
  | ok x w' =>
    cases x <;> simp only [Oper.upon, Oper.uponIn] at h ⊢
    all_goals first
      | exact h
      | exact ⟨fun e => Bool.noConfusion e, calls_in h⟩
      | exact ⟨fun e => Bool.noConfusion e, rows_in h⟩
  | halt x w' => cases x <;> simp only [Oper.upon, Oper.uponIn] at h ⊢ <;> exact h
theorem wpOp_in {i : Nat} {K K' : Act → World → Prop} (hLO : ¬ LetsOut Q) (hd : ∀ (i : Nat) o c, ops[i]? = some o → o.op ≠ .defer c) (hK : ∀ a w, K a w → K' a w) (h : wpOp P ops Q i K a w) : wpOpIn (Fence.wide.inRound l) 0 P ops Q i K' a w := by
  unfold wpOp at h
  unfold wpOpIn
  split
  · rename_i ho
    simp only [ho] at h
    exact hK _ _ h
  · rename_i o ho
    simp only [ho] at h
    split
    · rename_i hw
      simp only [hw, if_true] at h
      exact Oper.wpIn_mono hK (op_in (fun c => hd i o c ho) (h.resolve_right (fun e => hLO e.2)))
    · rename_i hw
      simp only [hw] at h
      exact ⟨fun _ _ => trivial, hK _ _ h⟩
theorem wpAny_in (hLO : ¬ LetsOut Q) (hd : ∀ (i : Nat) o c, ops[i]? = some o → o.op ≠ .defer c) : ∀ (fuel : Nat) (listed : Array Bool) (a : Act) (w : World), wpAny P md ops Q fuel listed a w → wpAnyIn (Fence.wide.inRound l) 0 P md ops Q fuel listed a w
  | 0, _, _, _, h => h
  | fuel + 1, _, _, _, h => ⟨h.1, fun i hi => wpOp_in hLO hd (fun a w h => wpAny_in hLO hd fuel _ a w h) (h.2 i hi)⟩
def noDefer (ops : List Oper) : Bool := ops.all fun o => match o.op with | .defer _ => false | _ => true
theorem noDefer_spec {l : List Oper} (h : noDefer l = true) : ∀ (i : Nat) o c, l.toArray[i]? = some o → o.op ≠ .defer c := by
  intro i o c ho e
  have hm : o ∈ l := List.mem_of_getElem? (by simpa using ho)
  have := List.all_eq_true.1 h o hm
  simp [e] at this
theorem wpIn_region_rtt {id : Nat} {os : List Oper} (S : World → Prop) (z : Nat) (rd tl : List Nat) (hm : P.follows .mixedOrders = true) (hB : rtBT .any os.toArray z rd tl = true) (hD : noDefer os = true) (hLO : ¬ LetsOut Q) (hQ : ∀ c a d v w, Q (.panic c) (Act.put a (some d) v) w → Q (.panic c) a w) (hS : S w.drew)
    (h : readsQ P os.toArray S (fun a' => tailW P os.toArray S Q (pickOps os tl) a' w.drew) (pickOps os rd) a) : (Code.region id os.toArray true).wpIn (Fence.wide.inRound l) 0 P Q a w := by
  simp only [rtBT, Bool.and_eq_true, decide_eq_true_eq] at hB
  obtain ⟨⟨h1, h2⟩, h4⟩ := hB
  refine wpIn_region_any hm (wpAny_in hLO (noDefer_spec hD) _ _ _ _ (wpAny_of_weak (S := S) (z := z) _ _ _ _ ?_))
  exact wpAnyW_headT rfl h1 hQ hS tl rd _ _ a (by simp) (closedL_nil _) h2 h4 h
theorem wpIn_region_rw {id : Nat} {os : List Oper} (S : World → Prop) (z : Nat) (rd : List Nat) (f : Nat) (hm : P.follows .mixedOrders = true) (hB : rwB .any os.toArray z rd f = true) (hD : noDefer os = true) (hLO : ¬ LetsOut Q) (hQ : ∀ c a d v w, Q (.panic c) (Act.put a (some d) v) w → Q (.panic c) a w) (hS : S w.drew)
    (h : readsQ P os.toArray S (fun a' => wpAnyW P .any os.toArray Q S z f (listedOf os.toArray.size rd) a' w.drew) (pickOps os rd) a) : (Code.region id os.toArray true).wpIn (Fence.wide.inRound l) 0 P Q a w := by
  simp only [rwB, Bool.and_eq_true, decide_eq_true_eq] at hB
  obtain ⟨⟨h1, h2⟩, h4⟩ := hB
  refine wpIn_region_any hm (wpAny_in hLO (noDefer_spec hD) _ _ _ _ (wpAny_of_weak (S := S) (z := z) _ _ _ _ ?_))
  have h5 := wpAnyW_reads rfl h1 hQ hS f rd (Array.replicate os.toArray.size false) a (by simp) h4 h
  rwa [h2] at h5
end
end Go.Proofs.YtpcjkfppacnkgaaGreatDoor
end
section
/- Contracts of strings.Lines and of the iterator that it hands back. No condition. -/
set_option maxHeartbeats 4000000
set_option maxRecDepth 100000
namespace Go.Proofs.YtpcjkfppacnkgaaGreatDoor
open Go Go.RowKit Go.Shelf

attribute [local go_sem] Oper.semAt_some

theorem lines_cut {s : By} {o : Nat} (h : Lib.indexByte s 10 = (o : Int)) : o < s.length ∧ linesL s = s.take (o + 1) :: linesL (s.drop (o + 1)) := by
  obtain ⟨h1, h2⟩ := Lib.indexByte_some h
  have ho : o < s.length := (List.getElem?_eq_some_iff.1 h1).1
  have hso : s[o] = 10 := (List.getElem?_eq_some_iff.1 h1).2
  refine ⟨ho, ?_⟩
  have e1 : s = s.take o ++ 10 :: s.drop (o + 1) := by
    conv => lhs; rw [← List.take_append_drop o s, List.drop_eq_getElem_cons ho, hso]
  have hn : (10 : UInt8) ∉ s.take o := fun hm => by
    obtain ⟨k, hk, e⟩ := List.getElem_of_mem hm
    have hk' : k < o := by simp at hk; omega
    refine h2 k hk' ?_
    rw [List.getElem?_eq_getElem (by omega)]
    rw [List.getElem_take] at e
    rw [e]
  have e2 : s.take (o + 1) = s.take o ++ [10] := by rw [List.take_succ_eq_append_getElem ho, hso]
  rw [e2]
  conv => lhs; rw [e1]
  unfold linesL
  rw [linesGo_line _ _ hn]
  rfl
theorem linesGo_rest : ∀ (s cur : By), (10 : UInt8) ∉ s → cur ++ s ≠ [] → linesGo cur s = [cur ++ s]
  | [], cur, _, h => by rw [linesGo, if_neg (by simpa using h), List.append_nil]
  | b :: s, cur, hn, _ => by
    rw [linesGo, if_neg (fun e => hn (by simp [e])), linesGo_rest s (cur ++ [b]) (fun h => hn (List.mem_cons_of_mem _ h)) (by simp), List.append_assoc, List.singleton_append]
theorem lines_rest {s : By} (hs : 0 < s.length) (h : Lib.indexByte s 10 = -1) : linesL s = [s] := by
  have hn : (10 : UInt8) ∉ s := fun hm => by
    obtain ⟨k, hk, e⟩ := List.getElem_of_mem hm
    exact Lib.indexByte_none h k (by rw [List.getElem?_eq_getElem hk, e])
  unfold linesL
  rw [linesGo_rest s [] hn (by intro e; rw [List.nil_append] at e; rw [e] at hs; exact absurd hs (by simp))]
  rfl
theorem linesIt_any (X : ByteArray) (w : World) : Calls Tryz.prog 28 #[.string X] w fun e w' => e = .returned (.func (.func 69) #[] #[.pointer (some ⟨w.heap.size, 0, none⟩)]) ∧ w' = w.alloc (.cells #[.string X] 9) := by
  go_enter Tryz.func28, Tryz.ntmps28
  go_wp2_with fail
  go_ret
  exact ⟨rfl, rfl⟩
theorem indexB_by (s : By) (w : World) : Calls Tryz.prog 70 #[.string ⟨s.toArray⟩, .int .u8 10] w fun e w' => e = .returned (.int .i64 (Lib.indexByte s 10)) ∧ w = w' := by
  refine (Tryz.strings_IndexByte ⟨s.toArray⟩ 10 w).mono ?_
  rintro e w' ⟨rfl, rfl⟩
  exact ⟨by simp, rfl⟩
theorem lines_iter (s : By) (bs : Nat) (w : World) (hc : Cx w bs 0 (txtV s)) (hl : s.length ≤ 100000) : IterT Tryz.prog 69 #[.pointer (some ⟨bs, 0, none⟩)] txtV (linesL s) (· = bs) w := by
  intro l J Jp W hW hown hJs hJd hY h0
  have hcW := hW.cx hc
  refine callsIn_of_wp Tryz.func69 rfl trivial ?_ rfl
  simp only [Tryz.ntmps69, List.size_toArray, List.length_cons, List.length_nil, Nat.reduceAdd, Nat.reduceSub, Array.replicate_succ, Array.replicate_zero, List.push_toArray, List.append_toArray, List.nil_append, List.cons_append]
  have RA := alloc_keep
  refine wpIn_block ?_
  refine rounds_ind (fun m a W' => ∃ (r : By), Cx W' bs 0 (txtV r) ∧ J (linesL r) W' ∧ r.length < m ∧ r.length ≤ 100000 ∧ ∃ (u2 u3 u4 u5 u6 u7 u8 u9 u10 u11 u12 u13 u14 u15 u16 u17 u18 u19 u20 u21 u22 u23 u24 : Value), a = { tmps := #[.func (.yield l) #[] #[], .pointer (some ⟨bs, 0, none⟩), u2, u3, u4, u5, u6, u7, u8, u9, u10, u11, u12, u13, u14, u15, u16, u17, u18, u19, u20, u21, u22, u23, u24], defers := [] }) ?_ ?_ (s.length + 1) _ _ ?_
  case refine_2 =>
    rintro a W' ⟨r, -, -, h, -⟩
    omega
  case refine_3 =>
    refine ⟨s, hcW, h0, Nat.lt_succ_self _, hl, ?_⟩
    (repeat apply Exists.intro)
    rfl
  case refine_1 =>
    clear h0 hcW hc
    rintro m a W' ⟨r, hcr, hj, hm, hrl, u2, u3, u4, u5, u6, u7, u8, u9, u10, u11, u12, u13, u14, u15, u16, u17, u18, u19, u20, u21, u22, u23, u24, rfl⟩
    obtain ⟨X, hX⟩ : ∃ X : ByteArray, (⟨r.toArray⟩ : ByteArray) = X := ⟨_, rfl⟩
    have hN : X.size = r.length := by rw [← hX]; exact size_by r
    have HX := Lib.hid hX
    have HCR := Lib.hid hcr
    have hx0 : W'.cell? ⟨bs, 0, none⟩ = some (.string X) := by rw [← hX]; exact hcr.1
    have hf0 := hcr.2
    clear hX hcr
    by_cases hr0 : r.length = 0
    · have hl0 : linesL r = [] := by rw [List.eq_nil_of_length_eq_zero hr0]; rfl
      have HJ : Hid (J [] W') := by unfold Hid; rw [← hl0]; exact hj
      have T0 : ¬ 0 < r.length := by omega
      clear hr0 hj hl0
      gi_wp2_with fail
      refine bodyPost_end (results_none rfl _ _ _) rfl ?_
      exact .inl ⟨⟨_, rfl⟩, HJ.out⟩
    · have T0 : 0 < r.length := by omega
      have HIB : ∀ W, Hid (Calls Tryz.prog 70 #[.string X, .int .u8 10] W fun e w' => e = .returned (.int .i64 (Lib.indexByte r 10)) ∧ W = w') := fun W => by
        unfold Hid
        rw [← HX.out]
        exact indexB_by r W
      have HJ := Lib.hid hj
      clear hj
      have hge := Lib.indexByte_ge r 10
      by_cases hi : Lib.indexByte r 10 = -1
      · have hl1 := lines_rest (by omega) hi
        rw [hl1] at HJ
        rw [hi] at HIB
        clear hi hl1 hr0 hge
        gi_wp2_with (first
          | (refine ⟨trivial, rfl, ?_⟩; gi_at_call 70; refine (callsIn_wide.2 (HIB _).out).mono ?_; rintro e w1 ⟨rfl, rfl⟩))
        have hJ1 : J [r] (W'.setCell ⟨bs, 0, none⟩ (.string ⟨#[]⟩)) := hJs _ _ _ _ HJ.out rfl
        have hC1 : Cx (W'.setCell ⟨bs, 0, none⟩ (.string ⟨#[]⟩)) bs 0 (.string ⟨#[]⟩) := HCR.out.set _
        obtain ⟨fn, tmps, assign, body, hy, hR⟩ := hY r [] _ hJ1
        replace hy : (Instr.yield l #[.string X]).run Tryz.prog (W'.setCell ⟨bs, 0, none⟩ (.string ⟨#[]⟩)) = .ok (.round l fn tmps assign body) (W'.setCell ⟨bs, 0, none⟩ (.string ⟨#[]⟩)) := by rw [← HX.out]; exact hy
        rw [hy]
        gi_wp2
        refine ⟨rfl, ?_⟩
        refine hR.mono ?_
        rintro e W3 (⟨rfl, hJ3, hk3⟩ | ⟨c, rfl, hJp⟩)
        · have hC3 := hk3 bs _ rfl hC1
          clear hR hy hJ1 hk3
          gi_wp2
          refine ⟨[], hC3, hJ3, by simp; omega, by simp, ?_⟩
          (repeat apply Exists.intro)
          rfl
        · exact ⟨rfl, .inr ⟨c, rfl, hJp⟩⟩
      · obtain ⟨o, ho⟩ : ∃ o : Nat, Lib.indexByte r 10 = o := ⟨(Lib.indexByte r 10).toNat, by omega⟩
        obtain ⟨hol, hl1⟩ := lines_cut ho
        rw [hl1] at HJ
        rw [ho] at HIB
        clear hi hl1 hr0 ho hge
        gi_upto_region 4 with (first
          | (refine ⟨trivial, rfl, ?_⟩; gi_at_call 70; refine (callsIn_wide.2 (HIB _).out).mono ?_; rintro e w1 ⟨rfl, rfl⟩))
        have hE1 : X.extract 0 (o + 1) = ⟨(r.take (o + 1)).toArray⟩ := by rw [← HX.out, extract_by]; simp
        have hE2 : X.extract (o + 1) r.length = ⟨(r.drop (o + 1)).toArray⟩ := by rw [← HX.out, extract_by]; simp
        have KO : IntKind.i64.wrap ((o : Int) + 1) = ((o + 1 : Nat) : Int) := by rw [IntWalk.i64_in _ (by omega)]; omega
        have hb1 : (0 : Int) ≤ (o : Int) + 1 := by omega
        have hb2 : (o : Int) + 1 ≤ (r.length : Int) := by omega
        refine (wpIn_wide (n := 0)).2 ?_
        refine wp_region_rt (fun w' => w'.cell? ⟨bs, 0, none⟩ = some (.string X) ∧ w'.frozen? ⟨bs, 0, none⟩ = false) 9 [0, 1, 2, 3, 4, 5, 6, 7, 8] [9] (by kernel_rfl) (by kernel_rfl) (fun _ _ _ _ _ h => h) (by exact ⟨hx0, hf0⟩) ?_
        (try simp only [pickOps, List.filterMap_cons, List.filterMap_nil, List.getElem?_cons_zero, List.getElem?_cons_succ])
        repeat (
          refine readsQ_do (by rfl) ?_
          apply Exists.intro
          refine ⟨fun w' hw' => ?_, ?_⟩
          focus
            (try dsimp only at hw')
            go_split_ands
            go_simp
            (try with_reducible rfl)
          (try dsimp only [Act.put])
          (try simp only [List.setIfInBounds_toArray, List.set_cons_succ, List.set_cons_zero]))
        refine readsQ_nil ?_
        refine tailW_step ?_
        go_wp2_with fail
        refine nextW_end ?_
        have hJ1 : J (r.take (o + 1) :: linesL (r.drop (o + 1))) (W'.setCell ⟨bs, 0, none⟩ (.string ⟨(r.drop (o + 1)).toArray⟩)).drew := hJd _ _ (hJs _ _ _ _ HJ.out rfl)
        have hC1 : Cx (W'.setCell ⟨bs, 0, none⟩ (.string ⟨(r.drop (o + 1)).toArray⟩)).drew bs 0 (.string ⟨(r.drop (o + 1)).toArray⟩) := HCR.out.set _
        have hlen : (r.drop (o + 1)).length < m := by rw [List.length_drop]; omega
        obtain ⟨fn, tmps, assign, body, hy, hR⟩ := hY _ _ _ hJ1
        replace hy : (Instr.yield l #[.string ⟨(r.take (o + 1)).toArray⟩]).run Tryz.prog (W'.setCell ⟨bs, 0, none⟩ (.string ⟨(r.drop (o + 1)).toArray⟩)).drew = .ok (.round l fn tmps assign body) (W'.setCell ⟨bs, 0, none⟩ (.string ⟨(r.drop (o + 1)).toArray⟩)).drew := hy
        have hlr : (r.drop (o + 1)).length ≤ 100000 := by rw [List.length_drop]; omega
        clear hb1 hb2 hE1 hE2 KO hx0 hf0 HIB
        generalize r.drop (o + 1) = r2 at *
        generalize r.take (o + 1) = r1 at *
        gi_wp2
        refine ⟨rfl, ?_⟩
        refine hR.mono ?_
        rintro e W3 (⟨rfl, hJ3, hk3⟩ | ⟨c, rfl, hJp⟩)
        · have hC3 := hk3 bs _ rfl hC1
          clear hR hy hJ1 hk3
          gi_wp2
          refine ⟨r2, hC3, hJ3, hlen, hlr, ?_⟩
          (repeat apply Exists.intro)
          rfl
        · exact ⟨rfl, .inr ⟨c, rfl, hJp⟩⟩
end Go.Proofs.YtpcjkfppacnkgaaGreatDoor
end
section
/- The text package's Read: what its deferred function does. No condition. -/
set_option maxHeartbeats 4000000
set_option maxRecDepth 100000
set_option linter.unusedSimpArgs false
namespace Go.Proofs.YtpcjkfppacnkgaaGreatDoor
open Go Go.RowKit

theorem catchR_panicking (bp be : Nat) (hne : bp ≠ be) (v1 v2 : Value) (older : List PanicEntry) (w : World) (hp : Cx w bp 0 v1) (he : Cx w be 0 v2) :
    CallsDIn Fence.wide (0 - 1) Tryz.prog 46 #[.pointer (some ⟨bp, 0, none⟩), .pointer (some ⟨be, 0, none⟩)] (.panicking (brkE :: older)) w fun e u' w' =>
      e = .returned (.tuple #[]) ∧ u' = .panicking ({ brkE with recovered := true } :: older) ∧ Cx w' bp 0 (.slice none 0 0) ∧ Cx w' be 0 (.int .i64 1) ∧ Chg (fun b => b = bp ∨ b = be) w w' := by
  unfold brkE
  refine callsDIn_of_wpSIn Tryz.func46 rfl trivial fun c₀ cs hu => ?_
  apply wpSIn_seq
  apply wpSIn_region
  simp [wpOpsSIn, go_sem, recoverD, hu, Tryz.ntmps46, Exit.thenS]
  refine wpSIn_of_wpIn rfl ?_
  refine (wpIn_wide (n := 0)).2 ?_
  simp only [Array.replicate, List.reduceReplicate, List.setIfInBounds_toArray, List.set_cons_succ, List.set_cons_zero, List.append_toArray, List.cons_append, List.nil_append]
  have h0 := hp.1
  have h0' := hp.2
  have H1 := Lib.hid (he.other (b' := bp) (j' := 0) (.inl (Ne.symm hne)) (.slice none 0 0))
  have HP := Lib.hid hp
  have h1 := H1.out.1
  have h1' := H1.out.2
  clear hp he
  go_wp2_with fail
  refine ⟨rfl, _, rfl, _, results_none rfl _ _ _, rfl, rfl, (HP.out.set _).other (.inl hne) _, H1.out.set _, ?_⟩
  exact ((Chg.refl _ _).setCell (p := ⟨bp, 0, none⟩) (.inl (.inl rfl)) _).setCell (p := ⟨be, 0, none⟩) (.inl (.inr rfl)) _
theorem catchR_idle (bp be : Nat) (w : World) :
    CallsDIn Fence.wide (0 - 1) Tryz.prog 46 #[.pointer (some ⟨bp, 0, none⟩), .pointer (some ⟨be, 0, none⟩)] .returning w fun e u' w' =>
      e = .returned (.tuple #[]) ∧ u' = .returning ∧ w = w' := by
  refine callsDIn_of_wpSIn Tryz.func46 rfl trivial fun c₀ cs hu => ?_
  apply wpSIn_seq
  apply wpSIn_region
  simp [wpOpsSIn, go_sem, recoverD, hu, Tryz.ntmps46, Exit.thenS]
  refine wpSIn_of_wpIn rfl ?_
  refine (wpIn_wide (n := 0)).2 ?_
  simp only [Array.replicate, List.reduceReplicate, List.setIfInBounds_toArray, List.set_cons_succ, List.set_cons_zero, List.append_toArray, List.cons_append, List.nil_append]
  go_wp2_with fail
  refine ⟨rfl, .returning, ?_, _, results_none rfl _ _ _, rfl, rfl, rfl⟩
  cases c₀
  cases hu
  rfl
end Go.Proofs.YtpcjkfppacnkgaaGreatDoor
end
section
/- The text package's Read: how it is left; lemmas for its rounds. No condition. -/
set_option maxHeartbeats 4000000
set_option maxRecDepth 100000
set_option linter.unusedSimpArgs false
namespace Go.Proofs.YtpcjkfppacnkgaaGreatDoor
open Go Go.RowKit

theorem wpAt_block {P : Program} {f : FuncId} {Q : Exit → Act → World → Prop} {a : Act} {w : World} {id : Nat} {c : Code} (h : Code.wpAt f P c (Exit.inBlock id Q) a w) : Code.wpAt f P (Code.block id c) Q a w := by
  intro b k cs hro hb
  have h0 : (lone (b.atR a (.code (.block id c) :: k)) cs w).fenced P Fence.wide := fenced_calm (n := 0) trivial (room_wide _) rfl
  obtain ⟨e, a₁, w₁, hq, harr⟩ := h b (.inBlock id :: k) cs hro hb
  cases e with
  | normal => exact ⟨.normal, a₁, w₁, hq, .head h0 stepR_block (StepsIn.trans harr (.one (fenced_calm (n := 0) trivial (room_wide _) rfl) stepR_inBlock))⟩
  | exit id' =>
    by_cases hid : id' = id
    · simp only [Exit.inBlock, hid, if_true] at hq
      exact ⟨.normal, a₁, w₁, hq, .head h0 stepR_block (harr.1 k (by simp [exitTo, hid]))⟩
    · simp only [Exit.inBlock, hid, if_false] at hq
      have this : (id == id') = false := by simp; exact fun h => hid h.symm
      have hx : exitTo id' (.inBlock id :: k) = exitTo id' k := by simp [exitTo, this]
      exact ⟨.exit id', a₁, w₁, hq, fun k' hk => .head h0 stepR_block (harr.1 k' (by rw [hx]; exact hk)),
        fun hr' hk => let ⟨k₁, h1, h2⟩ := harr.2 hr' (by rw [hx]; exact hk); ⟨k₁, h1, .head h0 stepR_block h2⟩⟩
  | goto l =>
    have hx : gotoIn l (.inBlock id :: k) = gotoIn l k := by simp [gotoIn]
    exact ⟨_, a₁, w₁, hq, fun k' hk => .head h0 stepR_block (harr.1 k' (by rw [hx]; exact hk)),
      fun hr' hk => let ⟨k₁, h1, h2⟩ := harr.2 hr' (by rw [hx]; exact hk); ⟨k₁, h1, .head h0 stepR_block h2⟩⟩
  | ret => exact ⟨_, a₁, w₁, hq, .of_steps (.one h0 stepR_block) harr⟩
  | panic ch => exact ⟨_, a₁, w₁, hq, .of_steps (.one h0 stepR_block) harr⟩
  | outgrown => exact ⟨_, a₁, w₁, hq, .of_steps (.one h0 stepR_block) harr⟩
/-- The statement 'for x := range g', x in slot q. -/
theorem wpAt_rangeQ {P : Program} {f : FuncId} {Q : Exit → Act → World → Prop} {a : Act} {w : World} {α : Type} {g : Operand} {p0 : Tmp} {assign body : Code} {gf : Nat} {lb : Array Value} {enc : α → Value} {ys : List α} {own : Nat → Prop} (q : Nat)
    (hf : ∃ fn, P.funcs[f]? = some fn) (hg : a.eval g = .func (.func gf) #[] lb) (eg : ∀ args w, (callFunc gf args).run P w = .ok (.enter gf args) w)
    (hit : IterT P gf lb enc ys own w) (hown : ∀ b, own b → b < w.heap.size)
    (I : List α → World → Prop) (Ip : List PanicEntry → World → Prop) (hI : ∀ ys W W', I ys W → Kc w.heap.size W W' → I ys W') (hIo : ∀ ys W b u, I ys W → own b → I ys (W.setCell ⟨b, 0, none⟩ u)) (h0 : I ys w)
    (hassign : ∀ (l : Nat) (x : α) (W : World) (K : Act → World → Prop), K { tmps := (a.tmps.setIfInBounds p0 (enc x)).setIfInBounds q (enc x), defers := [] } W → assign.wpIn (Fence.wide.inRound l) 0 P (Exit.then K (fun _ _ _ => False)) { tmps := a.tmps.setIfInBounds p0 (enc x), defers := [] } W)
    (hbody : ∀ (l : Nat) (x : α) (ys : List α) (W : World), I (x :: ys) W → (∀ b o v, W.cell? ⟨b, o, none⟩ = some v → b ≠ l) → w.heap.size < l → l < W.heap.size → body.wpIn (Fence.wide.inRound l) 0 P (fun e a' W' => match e with
      | .normal => I ys W' ∧ (∀ b v, own b → Cx W b 0 v → Cx W' b 0 v) ∧ (∀ (k : Nat) (o : Obj), w.heap.size ≤ k → W.heap[k]? = some o → o.isCells = false → W'.heap[k]? = some o)
      | .panic c => a'.defers = [] ∧ Ip c W' ∧ (∀ (k : Nat) (o : Obj), w.heap.size ≤ k → W.heap[k]? = some o → o.isCells = false → W'.heap[k]? = some o)
      | _ => False) { tmps := (a.tmps.setIfInBounds p0 (enc x)).setIfInBounds q (enc x), defers := [] } W)
    (hdone : ∀ (D : Nat) (W : World), w.heap.size ≤ D → I [] W → W.heap[D]? = some (.deferred (some [])) → Q .normal { a with defers := { target := .collected D, args := #[] } :: a.defers } W)
    (hpanic : ∀ (D : Nat) (c : List PanicEntry) (W : World), w.heap.size ≤ D → Ip c W → W.heap[D]? = some (.deferred (some [])) → Q (.panic c) { a with defers := { target := .collected D, args := #[] } :: a.defers } W) :
    Code.wpAt f P (Code.rangeFunc g #[p0] assign body) Q a w :=
  wpAt_rangeT hf hg eg hit hown I Ip hI hIo h0 (fun x => { tmps := (a.tmps.setIfInBounds p0 (enc x)).setIfInBounds q (enc x), defers := [] }) hassign hbody hdone hpanic
theorem readRes (tmps : Array Value) (W : World) (bp be : Nat) (v r : Value) (h2 : tmps.getD 2 undef = .pointer (some ⟨bp, 0, none⟩)) (h3 : tmps.getD 3 undef = .pointer (some ⟨be, 0, none⟩)) (hp : W.cell? ⟨bp, 0, none⟩ = some v) (he : W.cell? ⟨be, 0, none⟩ = some r) :
    (results Tryz.f16 tmps).run Tryz.prog W = .ok (.tuple #[v, r]) W := by
  have h2' : tmps[2]?.getD undef = .pointer (some ⟨bp, 0, none⟩) := by simpa using h2
  have h3' : tmps[3]?.getD undef = .pointer (some ⟨be, 0, none⟩) := by simpa using h3
  simp [results, Tryz.results16, go_sem, h2', h3', hp, he]
/-- The deferred function of Read. -/
def dR (bp be : Nat) : Deferred := { target := .fn (.func 46) #[.pointer (some ⟨bp, 0, none⟩), .pointer (some ⟨be, 0, none⟩)], args := #[] }
theorem leaveR_ok (tmps : Array Value) (W : World) (bp be : Nat) (v r : Value) (R : Ending → World → Prop) (h2 : tmps.getD 2 undef = .pointer (some ⟨bp, 0, none⟩)) (h3 : tmps.getD 3 undef = .pointer (some ⟨be, 0, none⟩)) (hp : W.cell? ⟨bp, 0, none⟩ = some v) (he : W.cell? ⟨be, 0, none⟩ = some r)
    (hR : R (.returned (.tuple #[v, r])) W) : LeavesInM Fence.wide 0 Tryz.prog Tryz.f16 tmps R [dR bp be] .returning W := by
  refine ⟨by simp, .inr ⟨fun e => Bool.noConfusion e, _, _, 46, #[.pointer (some ⟨bp, 0, none⟩), .pointer (some ⟨be, 0, none⟩)], rfl, by simp [dR, go_sem], fun _ _ => trivial, ?_⟩⟩
  refine (catchR_idle bp be W).mono ?_
  rintro e u' w' ⟨rfl, rfl, rfl⟩
  exact ⟨_, readRes tmps W bp be v r h2 h3 hp he, hR⟩
theorem leaveR_panic (tmps : Array Value) (W : World) (bp be : Nat) (hne : bp ≠ be) (v r : Value) (R : Ending → World → Prop) (h2 : tmps.getD 2 undef = .pointer (some ⟨bp, 0, none⟩)) (h3 : tmps.getD 3 undef = .pointer (some ⟨be, 0, none⟩)) (hp : Cx W bp 0 v) (he : Cx W be 0 r)
    (hR : ∀ W', Chg (fun b => b = bp ∨ b = be) W W' → R (.returned (.tuple #[.slice none 0 0, .int .i64 1])) W') : LeavesInM Fence.wide 0 Tryz.prog Tryz.f16 tmps R [dR bp be] (.panicking [brkE]) W := by
  refine ⟨by simp, .inr ⟨fun e => Bool.noConfusion e, _, _, 46, #[.pointer (some ⟨bp, 0, none⟩), .pointer (some ⟨be, 0, none⟩)], rfl, by simp [dR, go_sem], fun _ _ => trivial, ?_⟩⟩
  refine (catchR_panicking bp be hne v r [] W hp he).mono ?_
  rintro e u' w' ⟨rfl, rfl, q1, q2, hc⟩
  exact ⟨_, readRes tmps w' bp be _ _ h2 h3 q1.1 q2.1, hR w' hc⟩
/-- The mark of a loop is taken up first. -/
theorem leaveR_mark {tmps : Array Value} {W : World} {D : Nat} {R : Ending → World → Prop} {u : FrameMode} {ds : List Deferred} (hu : u ≠ .run) (hD : W.heap[D]? = some (.deferred (some []))) (h : ∀ W', Kc D W W' → LeavesInM Fence.wide 0 Tryz.prog Tryz.f16 tmps R ds u W') :
    LeavesInM Fence.wide 0 Tryz.prog Tryz.f16 tmps R ({ target := .collected D, args := #[] } :: ds) u W := by
  refine ⟨hu, .inl ⟨D, _, rfl, run_takeDeferred hD, h _ (Kc.putObj _ hD rfl (Nat.le_refl _))⟩⟩
theorem PF.kc {Kp : Nat → Prop} {w w0 wx W : World} {B : Nat} {v : Value} {fs : List (GFunc × Value)} (h : PF Kp w w0 B v fs wx) (hk : Kc w0.heap.size wx W) (hw : w.heap.size ≤ w0.heap.size) : PF Kp w w0 B v fs W :=
  ⟨h.inK, Nat.le_trans h.le hk.below.size, fun b hb => (hk.below.block b (h.inK b hb)).trans (h.keep b hb), hk.ext h.ext hw, h.base, h.row.kc hk, h.off⟩
theorem PF.box {Kp : Nat → Prop} {w w0 wx : World} {B b : Nat} {v : Value} {fs : List (GFunc × Value)} (h : PF Kp w w0 B v fs wx) (hK : ¬ Kp b) (hb : ∀ g ∈ blocksP v fs, g ≠ b) (hw : w.heap.size ≤ b) (u : Value) : PF Kp w w0 B v fs (wx.setCell ⟨b, 0, none⟩ u) :=
  ⟨h.inK, Nat.le_trans h.le (chg_one wx b 0 u).size, fun k hk => ((chg_one wx b 0 u).block k (Nat.lt_of_lt_of_le (h.inK k hk) h.le) (fun e => hK (e ▸ hk))).trans (h.keep k hk), Chg.ext_from h.ext (chg_one wx b 0 u) (fun k e => by have e : k = b := e; omega), h.base, h.row.chg (chg_one wx b 0 u) (fun g hg e => hb g hg e), h.off⟩
theorem PRow.cells {w : World} {B : Nat} {v : Value} {fs : List (GFunc × Value)} (h : PRow w B v fs) {g : Nat} (hg : g ∈ blocksP v fs) : ∃ o, w.heap[g]? = some o ∧ o.isCells = true := by
  rcases List.mem_append.1 hg with h1 | h1
  · obtain ⟨o, u, hc⟩ := h.row.isCells (by decide) (b := g) (by simpa using h1)
    exact cells_of_cell hc
  · obtain ⟨y, hy, h2⟩ := List.mem_flatMap.1 h1
    obtain ⟨o, u, hc⟩ := (h.fn y hy).2.2.1.isCells (by decide) (b := g) (by simpa using h2)
    exact cells_of_cell hc
theorem PRow.low {w : World} {B B' : Nat} {v : Value} {fs : List (GFunc × Value)} (h : PRow w B v fs) (hB : B' ≤ B) : PRow w B' v fs :=
  ⟨h.row.mono hB, fun y hy => ⟨(h.fn y hy).1, (h.fn y hy).2.1, (h.fn y hy).2.2.1.mono hB, (h.fn y hy).2.2.2⟩, h.nodup, h.few⟩
/-- Where the reading stands, ys to come. -/
def ReadI (wS w0 : World) (bp bs : Nat) (R : Option (List GFunc)) (N : Nat) (ys : List By) (W : World) : Prop :=
  ∃ fs v, PF (fun b => b < w0.heap.size ∧ b ≠ bp ∧ b ≠ bs) wS w0 w0.heap.size v fs W ∧ Cx W bp 0 v ∧ readGo (fs.map Prod.fst) ys = R ∧ FewP (N - ys.length) fs ∧ ys.length ≤ N ∧ ∀ y ∈ ys, y.length ≤ 8192
/-- Where a round panics. -/
def ReadIp (wS : World) (bp be : Nat) (R : Option (List GFunc)) (c : List PanicEntry) (W : World) : Prop := c = [brkE] ∧ R = none ∧ (∃ v, Cx W bp 0 v) ∧ (∃ v, Cx W be 0 v) ∧ Ext wS W
theorem ReadI.kc {wS w0 : World} {bp bs N : Nat} {R : Option (List GFunc)} {ys : List By} {W W' : World} (hw : wS.heap.size ≤ w0.heap.size) (h : ReadI wS w0 bp bs R N ys W) (hk : Kc w0.heap.size W W') : ReadI wS w0 bp bs R N ys W' := by
  obtain ⟨fs, v, h1, h2, h3⟩ := h
  exact ⟨fs, v, h1.kc hk hw, hk.cx h2, h3⟩
theorem ReadI.own {wS w0 : World} {bp bs N : Nat} {R : Option (List GFunc)} {ys : List By} {W : World} (h : ReadI wS w0 bp bs R N ys W) (hbs : bs < w0.heap.size) (hsw : wS.heap.size ≤ bs) (hne : bp ≠ bs) (u : Value) : ReadI wS w0 bp bs R N ys (W.setCell ⟨bs, 0, none⟩ u) := by
  obtain ⟨fs, v, h1, h2, h3⟩ := h
  exact ⟨fs, v, h1.box (fun e => e.2.2 rfl) (fun g hg e => by have := (h1.row.ge g hg).1; omega) hsw u, h2.other (.inl hne) u, h3⟩
theorem Cx.of_block {W W' : World} {b o : Nat} {v : Value} (h : Cx W b o v) (e : W'.heap[b]? = W.heap[b]?) : Cx W' b o v := ⟨(World.cell?_of_block e).trans h.1, by rw [World.frozen?_of_block e]; exact h.2⟩
/-- The blocks that a round does not touch. -/
def Kr (W : World) (bp : Nat) (v : Value) (fs : List (GFunc × Value)) (b : Nat) : Prop := b < W.heap.size ∧ b ≠ bp ∧ b ∉ blocksP v fs
theorem ReadI.begin {wS w0 W : World} {bp bs : Nat} {v : Value} {fs : List (GFunc × Value)} (h : PF (fun b => b < w0.heap.size ∧ b ≠ bp ∧ b ≠ bs) wS w0 w0.heap.size v fs W) : PF (Kr W bp v fs) wS W w0.heap.size v fs W :=
  PF.start (fun _ h => h.1) h.ext h.base h.row (fun _ hg hk => hk.2.2 hg)
theorem others_kept {wS w0 W W' : World} {bp B' : Nat} {v v' : Value} {fs fs' : List (GFunc × Value)} (hbp : bp < w0.heap.size) (hr : PRow W w0.heap.size v fs) (h' : PF (Kr W bp v fs) wS W B' v' fs' W') : ∀ (k : Nat) (o : Obj), w0.heap.size ≤ k → W.heap[k]? = some o → o.isCells = false → W'.heap[k]? = some o := fun k o hk ho hc => by
  rw [h'.keep k ⟨(Array.getElem?_eq_some_iff.1 ho).1, by omega, fun hm => by
    obtain ⟨o2, h1, h2⟩ := hr.cells hm
    rw [ho] at h1
    cases h1
    rw [hc] at h2
    cases h2⟩]
  exact ho
theorem ReadI.next {wS w0 W W' : World} {bp bs N : Nat} {R : Option (List GFunc)} {ys : List By} {v v' : Value} {fs fs' : List (GFunc × Value)} (hbp : bp < w0.heap.size) (hbs : bs < w0.heap.size) (hne : bs ≠ bp) (h : PF (fun b => b < w0.heap.size ∧ b ≠ bp ∧ b ≠ bs) wS w0 w0.heap.size v fs W)
    (h' : PF (Kr W bp v fs) wS W w0.heap.size v' fs' W') (hcp : Cx W' bp 0 v') (hgo : readGo (fs'.map Prod.fst) ys = R) (hfew : FewP (N - ys.length) fs') (hl : ys.length ≤ N) (hys : ∀ y ∈ ys, y.length ≤ 8192) :
    ReadI wS w0 bp bs R N ys W' ∧ (∀ b v, b = bs → Cx W b 0 v → Cx W' b 0 v) ∧ (∀ (k : Nat) (o : Obj), w0.heap.size ≤ k → W.heap[k]? = some o → o.isCells = false → W'.heap[k]? = some o) := by
  have hge : ∀ g ∈ blocksP v fs, w0.heap.size ≤ g := fun g hg => (h.row.ge g hg).1
  have hle := h.le
  refine ⟨⟨fs', v', h'.back h (fun b hb => ⟨by omega, hb.2.1, fun hm => by have := hge b hm; omega⟩), hcp, hgo, hfew, hl, hys⟩, fun b u hb hc => ?_, others_kept hbp h.row h'⟩
  subst hb
  exact hc.of_block (h'.keep b ⟨by omega, hne, fun hm => by have := hge b hm; omega⟩)
theorem ReadI.fail {wS w0 W W' : World} {bp be bs : Nat} {R : Option (List GFunc)} {v v' u : Value} {fs fs' : List (GFunc × Value)} {B' : Nat} (hbp : bp < w0.heap.size) (hbe : be < w0.heap.size) (hne : be ≠ bp) (hns : be ≠ bs) (h : PF (fun b => b < w0.heap.size ∧ b ≠ bp ∧ b ≠ bs) wS w0 w0.heap.size v fs W)
    (h' : PF (Kr W bp v fs) wS W B' v' fs' W') (hcp : ∃ q, Cx W' bp 0 q) (hce : Cx w0 be 0 u) (hR : R = none) :
    ReadIp wS bp be R [brkE] W' ∧ (∀ (k : Nat) (o : Obj), w0.heap.size ≤ k → W.heap[k]? = some o → o.isCells = false → W'.heap[k]? = some o) := by
  have hge : ∀ g ∈ blocksP v fs, w0.heap.size ≤ g := fun g hg => (h.row.ge g hg).1
  have hle := h.le
  refine ⟨⟨rfl, hR, hcp, ⟨u, ?_⟩, h'.ext⟩, others_kept hbp h.row h'⟩
  exact (hce.of_block (h.keep be ⟨hbe, hne, hns⟩)).of_block (h'.keep be ⟨by omega, hne, fun hm => by have := hge be hm; omega⟩)
/-- What Read hands back. -/
def ReadRet (w : World) (s : By) (e : Ending) (w' : World) : Prop := ∃ v fs, e = .returned (.tuple #[v, .int .i64 (readT s).1]) ∧ PRow w' w.heap.size v fs ∧ fs.map Prod.fst = (readT s).2
end Go.Proofs.YtpcjkfppacnkgaaGreatDoor
end
