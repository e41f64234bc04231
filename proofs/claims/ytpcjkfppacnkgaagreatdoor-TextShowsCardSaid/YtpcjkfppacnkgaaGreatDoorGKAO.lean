/- Merged texts: contracts and plain facts, one part behind another; each part begins with what it says. -/
import Derived.Test.YtpcjkfppacnkgaaGreatDoorGKAE
import Derived.Test.YtpcjkfppacnkgaaGreatDoorGKAI
import Derived.Test.YtpcjkfppacnkgaaGreatDoorGKAM
import Derived.Test.YtpcjkfppacnkgaaGreatDoorGKAN
import Derived.Lib.AppendIntMem
import Derived.Lib.AtoiAllCases
import Derived.Lib.AtoiErrMem
import Derived.Lib.IndexLaws
import Derived.OrdersIn
import Derived.WalkSpells
section
/- Contract of the text package's line. No condition. -/
set_option maxHeartbeats 4000000
set_option maxRecDepth 100000
namespace Go.Proofs.YtpcjkfppacnkgaaGreatDoor
open Go Go.RowKit

def wordsI (x : By) (l : List Int) : By := x ++ l.flatMap fun n => 32 :: Lib.itoa n
theorem wordsI_step (x : By) {l : List Int} {k : Nat} (h : k < l.length) : wordsI x (l.take (k + 1)) = wordsI x (l.take k) ++ 32 :: Lib.itoa l[k] := by
  unfold wordsI
  rw [List.take_succ_eq_append_getElem h, List.flatMap_append]
  simp
theorem wordsI_len (x : By) : ∀ (l : List Int), (∀ n ∈ l, I64 n) → (wordsI x l).length ≤ x.length + 22 * l.length
  | [], _ => by simp [wordsI]
  | n :: l, h => by
    have h1 := wordsI_len x l (fun m hm => h m (by simp [hm]))
    have h2 := h n (by simp)
    unfold I64 at h2
    have h3 := Lib.itoa_length_le n h2.1 h2.2
    unfold wordsI at h1 ⊢
    simp only [List.flatMap_cons, List.length_append, List.length_cons] at h1 ⊢
    omega
theorem itoa_any (n : Int) (w : World) (hn : I64 n) (hg : Glob w) : Calls Tryz.prog 75 #[.int .i64 n] w fun e w' => e = .returned (.string ⟨(Lib.itoa n).toArray⟩) ∧ Ext w w' := by
  refine (Tryz.strconv_Itoa n hn.1 hn.2 w hg.pow).mono ?_
  rintro e w' ⟨rfl, k, os, rfl⟩
  exact ⟨rfl, Lib.below_grow _ w (Nat.le_refl _) k os⟩
theorem line_any (x : By) (l : List Int) (v : Value) (S : Nat → Prop) (w : World) (hg : Glob w) (hv : Ints w S v l) (hx : x.length ≤ 1000) (hl : l.length ≤ 10) :
    Calls Tryz.prog 38 #[.string ⟨x.toArray⟩, v] w fun e w' => e = .returned (.string ⟨(wordsI x l ++ [10]).toArray⟩) ∧ Ext w w' := by
  have HV := Lib.hid hv
  have HG := Lib.hid hg
  have hcat := cat_bytes'
  have hlen := cat_len
  have hI : ∀ n ∈ l, I64 n := fun n hn => by
    obtain ⟨i, hi, rfl⟩ := List.getElem_of_mem hn
    obtain ⟨b, o, cap, _, _, _, _, _, h⟩ := Sl.get hv hi
    exact h
  have HI := Lib.hid hI
  clear hI
  obtain ⟨a, cap, rfl, hcap, hby, _⟩ := hv
  clear hg
  go_enter Tryz.func38, Tryz.ntmps38
  go_wp2_with fail
  go_loopw [0, 9] (fun q0 q9 wr => ∃ k : Nat, k ≤ l.length ∧ q9 = .int .i64 k ∧ q0 = .string ⟨(wordsI x (l.take k)).toArray⟩ ∧ Ext w wr) (fun _ q _ => l.length - (intOf q).toNat)
  case atStart => exact ⟨0, Nat.zero_le _, rfl, by simp [wordsI], Ext.refl _⟩
  case round =>
    obtain ⟨k, hk, rfl, rfl, hb⟩ := hrel
    have HB := Lib.hid hb
    clear hb
    have hsl := wordsI_len x (l.take k) (fun n hn => HI.out n (List.mem_of_mem_take hn))
    have hkk : (l.take k).length ≤ 10 := by simp; omega
    by_cases hlt : k < l.length
    · have HST := Lib.hid (wordsI_step x hlt)
      obtain ⟨s, hs⟩ : ∃ s, wordsI x (l.take k) = s := ⟨_, rfl⟩
      rw [hs] at hsl HST
      rw [hs]
      obtain ⟨b, o, cap', e0, _, _, _, x0, iN⟩ := (Ints.stays (Ext.stays HB.out) HV.out).get hlt
      simp only [Value.slice.injEq] at e0
      obtain ⟨rfl, -, rfl⟩ := e0
      rw [Nat.mul_one] at x0
      generalize l[k] = n at *
      have hdl : (Lib.itoa n).length ≤ 21 := Lib.itoa_length_le n iN.1 iN.2
      obtain ⟨d, hd⟩ : ∃ d, Lib.itoa n = d := ⟨_, rfl⟩
      have HD := Lib.hid hd
      rw [hd] at hdl HST
      have n1 : ¬ 9223372036854775807 < 1 + d.length := by omega
      have n2 : ¬ 9223372036854775807 < s.length + (1 + d.length) := by omega
      clear hd hs
      go_wp2_with (first
        | (go_at_call 75; (with_reducible refine (itoa_any _ _ iN (HG.out.ext HB.out)).mono ?_); rintro e w3 ⟨rfl, hb3⟩; rw [HD.out]))
      go_roundw
      case rel => exact ⟨k + 1, by omega, by go_num, by rw [HST.out]; simp [cat], HB.out.trans hb3⟩
      case measure => simp [intOf]; omega
    · obtain rfl : k = l.length := by omega
      rw [List.take_length] at hsl ⊢
      obtain ⟨s, hs⟩ : ∃ s, wordsI x l = s := ⟨_, rfl⟩
      have HS := Lib.hid hs
      rw [hs] at hsl ⊢
      have n1 : ¬ 9223372036854775807 < s.length + 1 := by omega
      clear hlt hs
      go_wp2_with fail
      go_ret
      exact ⟨by rw [HS.out]; rfl, HB.out⟩
end Go.Proofs.YtpcjkfppacnkgaaGreatDoor
end
section
/- Contracts of the text package's must and nums: they panic where what is read is not as it must be. No condition. -/
set_option maxHeartbeats 4000000
set_option maxRecDepth 100000
namespace Go.Proofs.YtpcjkfppacnkgaaGreatDoor
open Go Go.RowKit

def brkE : PanicEntry := { v := .iface 138 (.agg #[]), recovered := false }
def mustT (b : Bool) : Ending := if b then .returned (.tuple #[]) else .panicked [brkE]
theorem mustT_true : mustT true = .returned (.tuple #[]) := rfl
theorem mustT_false : mustT false = .panicked [brkE] := rfl
theorem mustT_any (b : Bool) (w : World) : Calls Tryz.prog 50 #[.bool b] w fun e w' => e = mustT b ∧ w = w' := by
  cases b with
  | true =>
    go_enter Tryz.func50, Tryz.ntmps50
    go_wp2_with fail
    go_end0
    exact ⟨rfl, rfl⟩
  | false =>
    go_enter Tryz.func50, Tryz.ntmps50
    go_wp2_with fail
    exact ⟨rfl, rfl, rfl⟩
/-- What Atoi hands back: a number, and an error or none. -/
def AtoiR (s : By) (x : Int) (ev : Value) : Prop := match atoiO s with
  | some v => ev = .nilIface ∧ x = v ∧ I64 v
  | none => ∃ te pe, ev = .iface te pe
theorem atoi_any (s : By) (w : World) (hg : Glob w) (hl : s.length ≤ 100000) :
    Calls Tryz.prog 74 #[.string ⟨s.toArray⟩] w fun e w' => (∃ x ev, e = .returned (.tuple #[.int .i64 x, ev]) ∧ AtoiR s x ev) ∧ Ext w w' := by
  have hsz : (⟨s.toArray⟩ : ByteArray).size = s.length := size_by s
  have hdt : (⟨s.toArray⟩ : ByteArray).data.toList = s := by simp
  rcases h : Lib.atoiAll s with v | _ | _
  · refine (Tryz.strconv_Atoi_ok ⟨s.toArray⟩ (by omega) v (by rw [hdt]; exact h) w).mono ?_
    rintro e w' ⟨rfl, hw⟩
    refine ⟨⟨v, _, rfl, ?_⟩, ?_⟩
    · unfold AtoiR atoiO
      rw [h]
      exact ⟨rfl, rfl, Lib.atoiAll_bounds h⟩
    · rcases hw with rfl | ⟨t, rfl⟩
      · exact Ext.refl _
      · exact Lib.bytesWorld_below _ _ _
  · obtain ⟨ev, hv, hev⟩ := hg.syn
    refine (Tryz.strconv_Atoi_syntax ⟨s.toArray⟩ (by omega) (by rw [hdt]; exact h) ev w hv hev).mono ?_
    rintro e w' ⟨N, rfl, _, _, hb⟩
    refine ⟨⟨_, _, rfl, ?_⟩, hb⟩
    unfold AtoiR atoiO
    rw [h]
    exact ⟨_, _, rfl⟩
  · obtain ⟨ev, hv, hev⟩ := hg.rng
    refine (Tryz.strconv_Atoi_range ⟨s.toArray⟩ (by omega) (by rw [hdt]; exact h) ev w hv hev).mono ?_
    rintro e w' ⟨N, rfl, _, _, hb⟩
    refine ⟨⟨_, _, rfl, ?_⟩, hb⟩
    unfold AtoiR atoiO
    rw [h]
    exact ⟨_, _, rfl⟩

/-- What nums hands back, or that it panics. -/
def NumsRet (B : Nat) (o : Option (List Int)) (e : Ending) (w' : World) : Prop := match o with
  | some L => ∃ a c, e = .returned (.slice a L.length c) ∧ Ints w' (B ≤ ·) (.slice a L.length c) L
  | none => e = .panicked [brkE]
theorem mapM_next {l : List By} {k : Nat} {L : List Int} (h : k < l.length) (hL : (l.take k).mapM atoiO = some L) : (l.take (k + 1)).mapM atoiO = (atoiO l[k]).map fun x => L ++ [x] := by
  rw [List.take_succ_eq_append_getElem h, List.mapM_append, hL]
  rw [List.mapM_cons]
  cases atoiO l[k] with
  | none => rfl
  | some x => rfl
theorem mapM_stop {l : List By} {k : Nat} {L : List Int} (h : k < l.length) (hL : (l.take k).mapM atoiO = some L) (hx : atoiO l[k] = none) : l.mapM atoiO = none := by
  have e : l = l.take (k + 1) ++ l.drop (k + 1) := (List.take_append_drop _ _).symm
  rw [e, List.mapM_append, mapM_next h hL, hx]
  rfl
theorem nums_any (l : List By) (v : Value) (S : Nat → Prop) (n : Nat) (w : World) (hg : Glob w) (hv : Strs w S v l) (hl : l.length ≤ 100000) (hs : ∀ x ∈ l, x.length ≤ 100000) (hn : n ≤ 10) :
    Calls Tryz.prog 48 #[v, .int .i64 n] w fun e w' => NumsRet w.heap.size (numsR l n) e w' ∧ Ext w w' := by
  have HV := Lib.hid hv
  have HG := Lib.hid hg
  have HS := Lib.hid hs
  obtain ⟨i0, hi0, hz0, hz1, hz2⟩ := info_parts infoI
  obtain ⟨a, cap, rfl, hcap, hby, _⟩ := hv
  obtain ⟨R, hR⟩ : ∃ R, numsR l n = R := ⟨_, rfl⟩
  rw [hR]
  have HR := Lib.hid hR
  clear hR hg hs
  by_cases hln : l.length = n
  · subst hln
    have T0 : ((l.length : Int) == (l.length : Int)) = true := beq_self_eq_true _
    have HRR : Hid (l.mapM atoiO = R) := by unfold Hid; rw [← HR.out]; unfold numsR; rw [if_pos rfl]
    go_enter Tryz.func48, Tryz.ntmps48
    go_wp2_with (first
      | (go_at_call 50; refine (mustT_any _ _).mono ?_; rintro e w1 ⟨rfl, rfl⟩; rw [mustT_true]))
    go_loopw [5, 17] (fun q5 q17 wr => ∃ (k : Nat) (L : List Int), k ≤ l.length ∧ q17 = .int .i64 k ∧ (l.take k).mapM atoiO = some L ∧ L.length = k ∧ (∀ x ∈ L, I64 x) ∧ Ext w wr ∧ RowAt wr w.heap.size 1 q5 L.length (ints L)) (fun _ q _ => l.length - (intOf q).toNat)
    case atStart => exact ⟨0, [], Nat.zero_le _, rfl, rfl, rfl, by simp, Ext.refl _, RowAt.nil _ _ _ _⟩
    case round =>
      obtain ⟨k, L, hk, rfl, hL, hLk, hI, hb, hrow⟩ := hrel
      have HL := Lib.hid hL
      have HI := Lib.hid hI
      have HB := Lib.hid hb
      have HROW := Lib.hid hrow
      obtain ⟨ar, capr, rfl, _, _⟩ := hrow.shape
      have HBS := hb.size
      have HLK := Lib.hid hLk
      have hLb : L.length ≤ 100000 := by omega
      clear hL hI hb hrow hLk
      by_cases hlt : k < l.length
      · obtain ⟨bx, ox, cx, ex, _, hc⟩ := strs_at (HV.out.stays (Ext.stays HB.out)) hlt
        simp only [Value.slice.injEq] at ex
        obtain ⟨rfl, -, rfl⟩ := ex
        have hxl := HS.out _ (List.getElem_mem hlt)
        have HNX := Lib.hid (mapM_next hlt HL.out)
        have HST := Lib.hid (mapM_stop hlt HL.out)
        generalize l[k] = x at *
        replace hc : _ = some (Value.string ⟨x.toArray⟩) := hc
        cases hx : atoiO x with
        | none =>
          have HN : Hid (R = none) := by unfold Hid; rw [← HRR.out]; exact HST.out hx
          have HXX := Lib.hid hx
          clear hx
          go_wp2_with (first
            | (go_at_call 74; (with_reducible refine (atoi_any x _ (HG.out.ext HB.out) hxl).mono ?_); rintro e w3 ⟨⟨y, ev, rfl, hy⟩, hb3⟩; unfold AtoiR at hy; rw [HXX.out] at hy; obtain ⟨te, pe, rfl⟩ := hy)
            | (go_at_call 50; refine (mustT_any _ _).mono ?_; rintro e w1 ⟨rfl, rfl⟩; rw [mustT_false]))
          exact ⟨rfl, by rw [HN.out]; exact rfl, HB.out.trans hb3⟩
        | some z =>
          rw [hx] at HNX
          have HXX := Lib.hid hx
          have HS7 : ∀ W, Ext wr W → Hid (w.heap.size ≤ (W.alloc (.cells #[.int .i64 z] 3)).heap.size) := fun W h => by unfold Hid; exact Nat.le_trans (Nat.le_trans HBS h.size) ((Ext.refl W).alloc _).size
          clear hx HST
          go_wp2_with (first
            | (go_at_call 74; (with_reducible refine (atoi_any x _ (HG.out.ext HB.out) hxl).mono ?_); rintro e w3 ⟨⟨y, ev, rfl, hy⟩, hb3⟩; unfold AtoiR at hy; rw [HXX.out] at hy; obtain ⟨rfl, rfl, hzI⟩ := hy; have HE3 := Lib.hid (hb3.alloc (.cells #[.int .i64 y] 3)))
            | (go_at_call 50; refine (mustT_any _ _).mono ?_; rintro e w1 ⟨rfl, rfl⟩; rw [mustT_true])
            | (at_builtin; refine wpList_append_row rfl _ _ 30 rfl w.heap.size 3 i0 (.int .i64 0) 1 8 Tryz.underlying30 hi0 hz0 hz1 hz2 rfl (by decide) _ _ _ rfl (by exact HROW.out.ext HE3.out (by decide)) 1 (ints [y]) (src_one _ _ _) (by unfold maxLen; omega) (by omega) (by exact (HS7 _ hb3).out) ?_; intro v1 Wv1 rv1; have RV := Lib.hid rv1; obtain ⟨a9, cap9, rfl, _, _⟩ := rv1.1.shape; have HX9 := Lib.hid (Chg.ext_from (HB.out.trans HE3.out) RV.out.2.1 (fun g e => HROW.out.le g e)); clear rv1))
          go_roundw
          case rel => exact ⟨k + 1, L ++ [y], by omega, by go_num, HNX.out, by simp [HLK.out], fun u hu => (List.mem_append.1 hu).elim (HI.out u) (fun h => (List.mem_singleton.1 h) ▸ hzI), HX9.out, by rw [List.length_append, List.length_singleton, ints_app]; exact RV.out.1⟩
          case measure => simp [intOf]; omega
      · obtain rfl : k = l.length := by omega
        have HN : Hid (R = some L) := by unfold Hid; rw [← HRR.out]; have := HL.out; rwa [List.take_length] at this
        clear hlt
        go_wp2_with fail
        go_ret
        refine ⟨?_, HB.out⟩
        rw [HN.out]
        exact ⟨ar, capr, rfl, Ints.of_row (by rw [flatMap_intF]; exact HROW.out) (by omega) HI.out _ (fun _ h _ => h)⟩
  · have T0 : ((l.length : Int) == (n : Int)) = false := beq_eq_false_iff_ne.2 (by omega)
    have hRn : R = none := by rw [← HR.out]; unfold numsR; rw [if_neg hln]
    subst hRn
    clear hln
    go_enter Tryz.func48, Tryz.ntmps48
    go_wp2_with (first
      | (go_at_call 50; refine (mustT_any _ _).mono ?_; rintro e w1 ⟨rfl, rfl⟩; rw [mustT_false]))
    exact ⟨rfl, rfl, Ext.refl _⟩
end Go.Proofs.YtpcjkfppacnkgaaGreatDoor
end
section
/- A drawn region in a round of a range over a function: what holds of it outside holds of it there. No condition; of no program. -/
set_option maxHeartbeats 1000000
namespace Go.Proofs.YtpcjkfppacnkgaaGreatDoor
open Go Go.RowKit

section
variable {P : Program} {l : Nat} {md : Region.Mode} {ops : Array Oper} {Q : Exit → Act → World → Prop} {a : Act} {w : World}

theorem rows_in {row : String} {args : Array Value} {R : Value → World → Prop} (h : Rows P row args w R) : RowsIn (Fence.wide.inRound l) (0 - 1) P row args w R := fun c cs _ =>
  let ⟨v, w', r, s⟩ := h c cs; ⟨v, w', r, stepsIn_wide.2 s⟩
theorem calls_in {f : FuncId} {args : Array Value} {R : Ending → World → Prop} (h : Calls P f args w R) : CallsIn (Fence.wide.inRound l) (0 - 1) P f args w R := (callsIn_wide (n := 0 - 1)).2 h
theorem op_in {o : Oper} {K : Act → World → Prop} (hd : ∀ c, o.op ≠ .defer c) (h : o.wp P a w K Q) : o.wpIn (Fence.wide.inRound l) 0 P a w K Q := by
  unfold Oper.wpIn
  refine ⟨fun _ _ => trivial, ?_⟩
  rw [Oper.semAt_eq _ _ _ hd]
  unfold Oper.wp at h
  generalize (execOp a.eval o).run P w = r at *
  cases r with
  | ok x w' =>
    cases x <;> simp only [Oper.upon, Oper.uponIn] at h ⊢
    all_goals first
      | exact h
      | exact ⟨fun e => Bool.noConfusion e, calls_in h⟩
      | exact ⟨fun e => Bool.noConfusion e, rows_in h⟩
  | halt x w' => cases x <;> simp only [Oper.upon, Oper.uponIn] at h ⊢ <;> exact h
theorem wpOp_in {i : Nat} {K K' : Act → World → Prop} (hLO : ¬ LetsOut Q) (hd : ∀ (i : Nat) o c, ops[i]? = some o → o.op ≠ .defer c) (hK : ∀ a w, K a w → K' a w) (h : wpOp P ops Q i K a w) : wpOpIn (Fence.wide.inRound l) 0 P ops Q i K' a w := by
  unfold wpOp at h
  unfold wpOpIn
  split
  · rename_i ho
    simp only [ho] at h
    exact hK _ _ h
  · rename_i o ho
    simp only [ho] at h
    split
    · rename_i hw
      simp only [hw, if_true] at h
      exact Oper.wpIn_mono hK (op_in (fun c => hd i o c ho) (h.resolve_right (fun e => hLO e.2)))
    · rename_i hw
      simp only [hw] at h
      exact ⟨fun _ _ => trivial, hK _ _ h⟩
theorem wpAny_in (hLO : ¬ LetsOut Q) (hd : ∀ (i : Nat) o c, ops[i]? = some o → o.op ≠ .defer c) : ∀ (fuel : Nat) (listed : Array Bool) (a : Act) (w : World), wpAny P md ops Q fuel listed a w → wpAnyIn (Fence.wide.inRound l) 0 P md ops Q fuel listed a w
  | 0, _, _, _, h => h
  | fuel + 1, _, _, _, h => ⟨h.1, fun i hi => wpOp_in hLO hd (fun a w h => wpAny_in hLO hd fuel _ a w h) (h.2 i hi)⟩
def noDefer (ops : List Oper) : Bool := ops.all fun o => match o.op with | .defer _ => false | _ => true
theorem noDefer_spec {l : List Oper} (h : noDefer l = true) : ∀ (i : Nat) o c, l.toArray[i]? = some o → o.op ≠ .defer c := by
  intro i o c ho e
  have hm : o ∈ l := List.mem_of_getElem? (by simpa using ho)
  have := List.all_eq_true.1 h o hm
  simp [e] at this
theorem wpIn_region_rtt {id : Nat} {os : List Oper} (S : World → Prop) (z : Nat) (rd tl : List Nat) (hm : P.follows .mixedOrders = true) (hB : rtBT .any os.toArray z rd tl = true) (hD : noDefer os = true) (hLO : ¬ LetsOut Q) (hQ : ∀ c a d v w, Q (.panic c) (Act.put a (some d) v) w → Q (.panic c) a w) (hS : S w.drew)
    (h : readsQ P os.toArray S (fun a' => tailW P os.toArray S Q (pickOps os tl) a' w.drew) (pickOps os rd) a) : (Code.region id os.toArray true).wpIn (Fence.wide.inRound l) 0 P Q a w := by
  simp only [rtBT, Bool.and_eq_true, decide_eq_true_eq] at hB
  obtain ⟨⟨h1, h2⟩, h4⟩ := hB
  refine wpIn_region_any hm (wpAny_in hLO (noDefer_spec hD) _ _ _ _ (wpAny_of_weak (S := S) (z := z) _ _ _ _ ?_))
  exact wpAnyW_headT rfl h1 hQ hS tl rd _ _ a (by simp) (closedL_nil _) h2 h4 h
theorem wpIn_region_rw {id : Nat} {os : List Oper} (S : World → Prop) (z : Nat) (rd : List Nat) (f : Nat) (hm : P.follows .mixedOrders = true) (hB : rwB .any os.toArray z rd f = true) (hD : noDefer os = true) (hLO : ¬ LetsOut Q) (hQ : ∀ c a d v w, Q (.panic c) (Act.put a (some d) v) w → Q (.panic c) a w) (hS : S w.drew)
    (h : readsQ P os.toArray S (fun a' => wpAnyW P .any os.toArray Q S z f (listedOf os.toArray.size rd) a' w.drew) (pickOps os rd) a) : (Code.region id os.toArray true).wpIn (Fence.wide.inRound l) 0 P Q a w := by
  simp only [rwB, Bool.and_eq_true, decide_eq_true_eq] at hB
  obtain ⟨⟨h1, h2⟩, h4⟩ := hB
  refine wpIn_region_any hm (wpAny_in hLO (noDefer_spec hD) _ _ _ _ (wpAny_of_weak (S := S) (z := z) _ _ _ _ ?_))
  have h5 := wpAnyW_reads rfl h1 hQ hS f rd (Array.replicate os.toArray.size false) a (by simp) h4 h
  rwa [h2] at h5
end
end Go.Proofs.YtpcjkfppacnkgaaGreatDoor
end
section
/- Contracts of strings.Lines and of the iterator that it hands back. No condition. -/
set_option maxHeartbeats 4000000
set_option maxRecDepth 100000
namespace Go.Proofs.YtpcjkfppacnkgaaGreatDoor
open Go Go.RowKit Go.Shelf

attribute [local go_sem] Oper.semAt_some

theorem lines_cut {s : By} {o : Nat} (h : Lib.indexByte s 10 = (o : Int)) : o < s.length ∧ linesL s = s.take (o + 1) :: linesL (s.drop (o + 1)) := by
  obtain ⟨h1, h2⟩ := Lib.indexByte_some h
  have ho : o < s.length := (List.getElem?_eq_some_iff.1 h1).1
  have hso : s[o] = 10 := (List.getElem?_eq_some_iff.1 h1).2
  refine ⟨ho, ?_⟩
  have e1 : s = s.take o ++ 10 :: s.drop (o + 1) := by
    conv => lhs; rw [← List.take_append_drop o s, List.drop_eq_getElem_cons ho, hso]
  have hn : (10 : UInt8) ∉ s.take o := fun hm => by
    obtain ⟨k, hk, e⟩ := List.getElem_of_mem hm
    have hk' : k < o := by simp at hk; omega
    refine h2 k hk' ?_
    rw [List.getElem?_eq_getElem (by omega)]
    rw [List.getElem_take] at e
    rw [e]
  have e2 : s.take (o + 1) = s.take o ++ [10] := by rw [List.take_succ_eq_append_getElem ho, hso]
  rw [e2]
  conv => lhs; rw [e1]
  unfold linesL
  rw [linesGo_line _ _ hn]
  rfl
theorem linesGo_rest : ∀ (s cur : By), (10 : UInt8) ∉ s → cur ++ s ≠ [] → linesGo cur s = [cur ++ s]
  | [], cur, _, h => by rw [linesGo, if_neg (by simpa using h), List.append_nil]
  | b :: s, cur, hn, _ => by
    rw [linesGo, if_neg (fun e => hn (by simp [e])), linesGo_rest s (cur ++ [b]) (fun h => hn (List.mem_cons_of_mem _ h)) (by simp), List.append_assoc, List.singleton_append]
theorem lines_rest {s : By} (hs : 0 < s.length) (h : Lib.indexByte s 10 = -1) : linesL s = [s] := by
  have hn : (10 : UInt8) ∉ s := fun hm => by
    obtain ⟨k, hk, e⟩ := List.getElem_of_mem hm
    exact Lib.indexByte_none h k (by rw [List.getElem?_eq_getElem hk, e])
  unfold linesL
  rw [linesGo_rest s [] hn (by intro e; rw [List.nil_append] at e; rw [e] at hs; exact absurd hs (by simp))]
  rfl
theorem linesIt_any (X : ByteArray) (w : World) : Calls Tryz.prog 28 #[.string X] w fun e w' => e = .returned (.func (.func 69) #[] #[.pointer (some ⟨w.heap.size, 0, none⟩)]) ∧ w' = w.alloc (.cells #[.string X] 9) := by
  go_enter Tryz.func28, Tryz.ntmps28
  go_wp2_with fail
  go_ret
  exact ⟨rfl, rfl⟩
theorem indexB_by (s : By) (w : World) : Calls Tryz.prog 70 #[.string ⟨s.toArray⟩, .int .u8 10] w fun e w' => e = .returned (.int .i64 (Lib.indexByte s 10)) ∧ w = w' := by
  refine (Tryz.strings_IndexByte ⟨s.toArray⟩ 10 w).mono ?_
  rintro e w' ⟨rfl, rfl⟩
  exact ⟨by simp, rfl⟩
theorem lines_iter (s : By) (bs : Nat) (w : World) (hc : Cx w bs 0 (txtV s)) (hl : s.length ≤ 100000) : IterT Tryz.prog 69 #[.pointer (some ⟨bs, 0, none⟩)] txtV (linesL s) (· = bs) w := by
  intro l J Jp W hW hown hJs hJd hY h0
  have hcW := hW.cx hc
  refine callsIn_of_wp Tryz.func69 rfl trivial ?_ rfl
  simp only [Tryz.ntmps69, List.size_toArray, List.length_cons, List.length_nil, Nat.reduceAdd, Nat.reduceSub, Array.replicate_succ, Array.replicate_zero, List.push_toArray, List.append_toArray, List.nil_append, List.cons_append]
  have RA := alloc_keep
  refine wpIn_block ?_
  refine rounds_ind (fun m a W' => ∃ (r : By), Cx W' bs 0 (txtV r) ∧ J (linesL r) W' ∧ r.length < m ∧ r.length ≤ 100000 ∧ ∃ (u2 u3 u4 u5 u6 u7 u8 u9 u10 u11 u12 u13 u14 u15 u16 u17 u18 u19 u20 u21 u22 u23 u24 : Value), a = { tmps := #[.func (.yield l) #[] #[], .pointer (some ⟨bs, 0, none⟩), u2, u3, u4, u5, u6, u7, u8, u9, u10, u11, u12, u13, u14, u15, u16, u17, u18, u19, u20, u21, u22, u23, u24], defers := [] }) ?_ ?_ (s.length + 1) _ _ ?_
  case refine_2 =>
    rintro a W' ⟨r, -, -, h, -⟩
    omega
  case refine_3 =>
    refine ⟨s, hcW, h0, Nat.lt_succ_self _, hl, ?_⟩
    (repeat apply Exists.intro)
    rfl
  case refine_1 =>
    clear h0 hcW hc
    rintro m a W' ⟨r, hcr, hj, hm, hrl, u2, u3, u4, u5, u6, u7, u8, u9, u10, u11, u12, u13, u14, u15, u16, u17, u18, u19, u20, u21, u22, u23, u24, rfl⟩
    obtain ⟨X, hX⟩ : ∃ X : ByteArray, (⟨r.toArray⟩ : ByteArray) = X := ⟨_, rfl⟩
    have hN : X.size = r.length := by rw [← hX]; exact size_by r
    have HX := Lib.hid hX
    have HCR := Lib.hid hcr
    have hx0 : W'.cell? ⟨bs, 0, none⟩ = some (.string X) := by rw [← hX]; exact hcr.1
    have hf0 := hcr.2
    clear hX hcr
    by_cases hr0 : r.length = 0
    · have hl0 : linesL r = [] := by rw [List.eq_nil_of_length_eq_zero hr0]; rfl
      have HJ : Hid (J [] W') := by unfold Hid; rw [← hl0]; exact hj
      have T0 : ¬ 0 < r.length := by omega
      clear hr0 hj hl0
      gi_wp2_with fail
      refine bodyPost_end (results_none rfl _ _ _) rfl ?_
      exact .inl ⟨⟨_, rfl⟩, HJ.out⟩
    · have T0 : 0 < r.length := by omega
      have HIB : ∀ W, Hid (Calls Tryz.prog 70 #[.string X, .int .u8 10] W fun e w' => e = .returned (.int .i64 (Lib.indexByte r 10)) ∧ W = w') := fun W => by
        unfold Hid
        rw [← HX.out]
        exact indexB_by r W
      have HJ := Lib.hid hj
      clear hj
      have hge := Lib.indexByte_ge r 10
      by_cases hi : Lib.indexByte r 10 = -1
      · have hl1 := lines_rest (by omega) hi
        rw [hl1] at HJ
        rw [hi] at HIB
        clear hi hl1 hr0 hge
        gi_wp2_with (first
          | (refine ⟨trivial, rfl, ?_⟩; gi_at_call 70; refine (callsIn_wide.2 (HIB _).out).mono ?_; rintro e w1 ⟨rfl, rfl⟩))
        have hJ1 : J [r] (W'.setCell ⟨bs, 0, none⟩ (.string ⟨#[]⟩)) := hJs _ _ _ _ HJ.out rfl
        have hC1 : Cx (W'.setCell ⟨bs, 0, none⟩ (.string ⟨#[]⟩)) bs 0 (.string ⟨#[]⟩) := HCR.out.set _
        obtain ⟨fn, tmps, assign, body, hy, hR⟩ := hY r [] _ hJ1
        replace hy : (Instr.yield l #[.string X]).run Tryz.prog (W'.setCell ⟨bs, 0, none⟩ (.string ⟨#[]⟩)) = .ok (.round l fn tmps assign body) (W'.setCell ⟨bs, 0, none⟩ (.string ⟨#[]⟩)) := by rw [← HX.out]; exact hy
        rw [hy]
        gi_wp2
        refine ⟨rfl, ?_⟩
        refine hR.mono ?_
        rintro e W3 (⟨rfl, hJ3, hk3⟩ | ⟨c, rfl, hJp⟩)
        · have hC3 := hk3 bs _ rfl hC1
          clear hR hy hJ1 hk3
          gi_wp2
          refine ⟨[], hC3, hJ3, by simp; omega, by simp, ?_⟩
          (repeat apply Exists.intro)
          rfl
        · exact ⟨rfl, .inr ⟨c, rfl, hJp⟩⟩
      · obtain ⟨o, ho⟩ : ∃ o : Nat, Lib.indexByte r 10 = o := ⟨(Lib.indexByte r 10).toNat, by omega⟩
        obtain ⟨hol, hl1⟩ := lines_cut ho
        rw [hl1] at HJ
        rw [ho] at HIB
        clear hi hl1 hr0 ho hge
        gi_upto_region 4 with (first
          | (refine ⟨trivial, rfl, ?_⟩; gi_at_call 70; refine (callsIn_wide.2 (HIB _).out).mono ?_; rintro e w1 ⟨rfl, rfl⟩))
        have hE1 : X.extract 0 (o + 1) = ⟨(r.take (o + 1)).toArray⟩ := by rw [← HX.out, extract_by]; simp
        have hE2 : X.extract (o + 1) r.length = ⟨(r.drop (o + 1)).toArray⟩ := by rw [← HX.out, extract_by]; simp
        have KO : IntKind.i64.wrap ((o : Int) + 1) = ((o + 1 : Nat) : Int) := by rw [IntWalk.i64_in _ (by omega)]; omega
        have hb1 : (0 : Int) ≤ (o : Int) + 1 := by omega
        have hb2 : (o : Int) + 1 ≤ (r.length : Int) := by omega
        refine (wpIn_wide (n := 0)).2 ?_
        refine wp_region_rt (fun w' => w'.cell? ⟨bs, 0, none⟩ = some (.string X) ∧ w'.frozen? ⟨bs, 0, none⟩ = false) 9 [0, 1, 2, 3, 4, 5, 6, 7, 8] [9] (by kernel_rfl) (by kernel_rfl) (fun _ _ _ _ _ h => h) (by exact ⟨hx0, hf0⟩) ?_
        (try simp only [pickOps, List.filterMap_cons, List.filterMap_nil, List.getElem?_cons_zero, List.getElem?_cons_succ])
        repeat (
          refine readsQ_do (by rfl) ?_
          apply Exists.intro
          refine ⟨fun w' hw' => ?_, ?_⟩
          focus
            (try dsimp only at hw')
            go_split_ands
            go_simp
            (try with_reducible rfl)
          (try dsimp only [Act.put])
          (try simp only [List.setIfInBounds_toArray, List.set_cons_succ, List.set_cons_zero]))
        refine readsQ_nil ?_
        refine tailW_step ?_
        go_wp2_with fail
        refine nextW_end ?_
        have hJ1 : J (r.take (o + 1) :: linesL (r.drop (o + 1))) (W'.setCell ⟨bs, 0, none⟩ (.string ⟨(r.drop (o + 1)).toArray⟩)).drew := hJd _ _ (hJs _ _ _ _ HJ.out rfl)
        have hC1 : Cx (W'.setCell ⟨bs, 0, none⟩ (.string ⟨(r.drop (o + 1)).toArray⟩)).drew bs 0 (.string ⟨(r.drop (o + 1)).toArray⟩) := HCR.out.set _
        have hlen : (r.drop (o + 1)).length < m := by rw [List.length_drop]; omega
        obtain ⟨fn, tmps, assign, body, hy, hR⟩ := hY _ _ _ hJ1
        replace hy : (Instr.yield l #[.string ⟨(r.take (o + 1)).toArray⟩]).run Tryz.prog (W'.setCell ⟨bs, 0, none⟩ (.string ⟨(r.drop (o + 1)).toArray⟩)).drew = .ok (.round l fn tmps assign body) (W'.setCell ⟨bs, 0, none⟩ (.string ⟨(r.drop (o + 1)).toArray⟩)).drew := hy
        have hlr : (r.drop (o + 1)).length ≤ 100000 := by rw [List.length_drop]; omega
        clear hb1 hb2 hE1 hE2 KO hx0 hf0 HIB
        generalize r.drop (o + 1) = r2 at *
        generalize r.take (o + 1) = r1 at *
        gi_wp2
        refine ⟨rfl, ?_⟩
        refine hR.mono ?_
        rintro e W3 (⟨rfl, hJ3, hk3⟩ | ⟨c, rfl, hJp⟩)
        · have hC3 := hk3 bs _ rfl hC1
          clear hR hy hJ1 hk3
          gi_wp2
          refine ⟨r2, hC3, hJ3, hlen, hlr, ?_⟩
          (repeat apply Exists.intro)
          rfl
        · exact ⟨rfl, .inr ⟨c, rfl, hJp⟩⟩
end Go.Proofs.YtpcjkfppacnkgaaGreatDoor
end
