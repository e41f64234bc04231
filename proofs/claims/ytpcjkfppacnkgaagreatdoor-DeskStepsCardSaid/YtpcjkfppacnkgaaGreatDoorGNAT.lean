/- Merged texts: contracts and plain facts, one part behind another; each part begins with what it says. -/
import Derived.Test.YtpcjkfppacnkgaaGreatDoorGNAF
import Derived.Test.YtpcjkfppacnkgaaGreatDoorGNAK
import Derived.Test.YtpcjkfppacnkgaaGreatDoorGNAL
import Derived.Test.YtpcjkfppacnkgaaGreatDoorGNAM
import Derived.Test.YtpcjkfppacnkgaaGreatDoorGNAN
import Derived.Test.YtpcjkfppacnkgaaGreatDoorGNAQ
import Derived.Test.YtpcjkfppacnkgaaGreatDoorGNAS
import Derived.Lib.Join
section
/- What the desk answers, plain. No program in sight; no condition. -/
set_option maxHeartbeats 1000000
namespace Go.Proofs.YtpcjkfppacnkgaaGreatDoor
open Go Go.RowKit

def joinI : List Int → By
  | [] => []
  | n :: l => wordsI (Lib.itoa n) l
def listT (l : List Int) : By := if l = [] then [45] else joinI l
def errT (e : Int) : By := [101, 114, 114, 111, 114, 32] ++ Lib.itoa e
def kindsG (p : List GFunc) (s : GState) : List Int := (List.range s.fibers.length).map (kindS p s)
def trimK (p : List GFunc) (k : Nat) : Nat := ((p.take k).map fun F => (trimG p F).code.length).sum
def outT : By := [111, 117, 116]
def lineT : By := [108, 105, 110, 101]
def kindsT : By := [107, 105, 110, 100, 115]
def trimT : By := [116, 114, 105, 109]
def againT : By := [97, 103, 97, 105, 110]
def stepT : By := [115, 116, 101, 112]
def heightsT : By := [104, 101, 105, 103, 104, 116, 115]
def okT : By := [111, 107]
/-- A word of lines without numbers. -/
def wordG (p : List GFunc) (s : GState) (x : By) : Option (GState × By) :=
  if x = outT then some (s, listT s.out)
  else if x = lineT then some (s, listT ((lineS s).getD []))
  else if x = kindsT then some (s, listT (kindsG p s))
  else if x = trimT then some (s, Lib.itoa (trimK p p.length))
  else if x = againT then some (beginG p, okT)
  else none
/-- What running says. -/
def ranT (r : GState × Int × Int) : By := if r.2.2 ≠ 0 then Lib.itoa r.2.1 ++ 32 :: errT r.2.2 else Lib.itoa r.2.1
def stepN (p : List GFunc) (s : GState) (n : Int) : GState × By := if 500 < n then (s, errT 3) else ((runG p n.toNat s).1, ranT (runG p n.toNat s))
def heightsN (p : List GFunc) (n : Int) : By := if hErr p n ≠ 0 then errT (hErr p n) else listT (hList p n)
/-- A line that is played. -/
def playG (p : List GFunc) (s : GState) (x : By) : GState × By :=
  match wordG p s x with
  | some r => r
  | none =>
    if (splitC 32 x).length ≠ 2 ∨ numG ((splitC 32 x).getD 1 []) < 0 then (s, errT 1)
    else if (splitC 32 x).getD 0 [] = stepT then stepN p s (numG ((splitC 32 x).getD 1 []))
    else if (splitC 32 x).getD 0 [] = heightsT then (s, heightsN p (numG ((splitC 32 x).getD 1 [])))
    else (s, errT 1)
def playT (p : List GFunc) : GState → List By → By
  | _, [] => []
  | s, x :: l => (playG p s x).2 ++ 10 :: playT p (playG p s x).1 l
/-- The lines of a text that ends with a line's end. -/
def linesT (t : By) : List By := (splitC 10 t).dropLast
def playOfT (q t : By) : By × Int :=
  if 8192 < q.length then ([], 2)
  else if (docT q).1 = false then ([], 1)
  else if 8192 < t.length ∨ 40 < t.count 10 then ([], 2)
  else if t ≠ [] ∧ t.getLast? ≠ some 10 then ([], 1)
  else (playT (docT q).2 (beginG (docT q).2) (linesT t), 0)

theorem joinI_join : ∀ (l : List Int), Lib.join (l.map Lib.itoa) [32] = joinI l
  | [] => rfl
  | n :: l => by
    rw [List.map_cons, Lib.join_cons]
    show Lib.itoa n ++ Lib.joinTail [32] (l.map Lib.itoa) = wordsI (Lib.itoa n) l
    unfold wordsI Lib.joinTail
    rw [List.map_map, List.flatMap_def]
    rfl
theorem joinI_len (l : List Int) (h : ∀ n ∈ l, I64 n) : (joinI l).length ≤ 22 * l.length := by
  match l, h with
  | [], _ => simp [joinI]
  | n :: l, h =>
    have h1 := wordsI_len (Lib.itoa n) l (fun m hm => h m (by simp [hm]))
    have h2 := h n (by simp)
    unfold I64 at h2
    have h3 := Lib.itoa_length_le n h2.1 h2.2
    simp only [joinI, List.length_cons]
    omega
theorem listT_len (l : List Int) (h : ∀ n ∈ l, I64 n) : (listT l).length ≤ 22 * l.length + 1 := by
  unfold listT
  split
  · simp
  · have := joinI_len l h; omega
theorem listT_one (n : Int) : listT [n] = Lib.itoa n := by
  unfold listT
  rw [if_neg (by simp)]
  simp [joinI, wordsI]
theorem trimK_succ {p : List GFunc} {k : Nat} (h : k < p.length) : trimK p (k + 1) = trimK p k + (trimG p p[k]).code.length := by
  unfold trimK
  rw [List.take_succ_eq_append_getElem h, List.map_append, List.sum_append]
  simp
theorem trimG_le {p : List GFunc} {F : GFunc} (h : F.code.length ≤ 24) : (trimG p F).code.length ≤ 24 := by
  unfold trimG trimC
  exact Nat.le_trans (trimGo_len _ _ _) h
theorem trimK_le {p : List GFunc} (h : progErr p = 0) : ∀ (k : Nat), k ≤ p.length → trimK p k ≤ k * 24
  | 0, _ => by simp [trimK]
  | k + 1, hk => by
    have hlt : k < p.length := by omega
    have h1 := trimK_le h k (by omega)
    have h2 := trimG_le (p := p) (F := p[k]) (right_ops h _ (List.getElem_mem hlt)).2.1
    rw [trimK_succ hlt]
    omega
theorem kindsG_step {p : List GFunc} {s : GState} {k : Nat} (h : k < s.fibers.length) : (kindsG p s).take (k + 1) = (kindsG p s).take k ++ [kindS p s k] := by
  have hl : k < (kindsG p s).length := by unfold kindsG; simpa using h
  rw [List.take_succ_eq_append_getElem hl]
  have e : (kindsG p s)[k] = kindS p s k := by
    have e2 : (kindsG p s)[k]? = some (kindS p s k) := by
      unfold kindsG
      rw [List.getElem?_map, List.getElem?_range h]
      rfl
    rw [List.getElem?_eq_getElem hl] at e2
    exact Option.some.inj e2
  rw [e]
theorem kindsG_len (p : List GFunc) (s : GState) : (kindsG p s).length = s.fibers.length := by unfold kindsG; simp
end Go.Proofs.YtpcjkfppacnkgaaGreatDoor
end
section
/- Contract of the document's num. No condition. -/
set_option maxHeartbeats 4000000
set_option maxRecDepth 100000
namespace Go.Proofs.YtpcjkfppacnkgaaGreatDoor
open Go Go.RowKit

theorem decFrom_step {s : By} {k n d : Nat} (h : k < s.length) (hd : s[k].toNat = 48 + d) (h9 : d ≤ 9) : Lib.decFrom n (s.drop k) = Lib.decFrom (n * 10 + d) (s.drop (k + 1)) := by
  rw [List.drop_eq_getElem_cons h, Lib.decFrom]
  have : Lib.digitVal s[k] = some d := by
    unfold Lib.digitVal
    rw [hd, if_pos (by omega)]
    congr 1
    omega
  rw [this]
/-- What num has when it stands at k. -/
def NumI (s : By) (k n : Nat) : Prop := n < 10 ^ k ∧ Lib.decFrom n (s.drop k) = Lib.decFrom 0 s ∧ ∀ b ∈ s.take k, 48 ≤ b.toNat ∧ b.toNat ≤ 57
theorem NumI.next {s : By} {k n d : Nat} (h : NumI s k n) (hk : k < s.length) (hd : s[k].toNat = 48 + d) (h9 : d ≤ 9) : NumI s (k + 1) (10 * n + d) := by
  obtain ⟨h1, h2, h3⟩ := h
  refine ⟨?_, ?_, fun b hb => ?_⟩
  · rw [Nat.pow_succ]; generalize 10 ^ k = q at *; omega
  · rw [← h2, decFrom_step hk hd h9, Nat.mul_comm]
  · rw [List.take_succ_eq_append_getElem hk] at hb
    rcases List.mem_append.1 hb with hb | hb
    · exact h3 b hb
    · rw [List.mem_singleton.1 hb]; omega
end Go.Proofs.YtpcjkfppacnkgaaGreatDoor
end
section
/- A region that draws its order: reads in whatever order, then operations one at a time; what is read must stay only as far as operation z, which waits for all reads. No condition. -/
set_option maxHeartbeats 400000
namespace Go.Proofs.YtpcjkfppacnkgaaGreatDoor
open Go

section
variable {P : Program} {md : Region.Mode} {ops : Array Oper} {Q : Exit → Act → World → Prop} {S : World → Prop} {z : Nat}

/-- 'wpAny' with S anew behind each operation ahead of number z, and nothing asked behind it. -/
def wpAnyZ (P : Program) (md : Region.Mode) (ops : Array Oper) (Q : Exit → Act → World → Prop) (S : World → Prop) (z : Nat) : Nat → Array Bool → Act → World → Prop
  | 0, listed, a, w => Region.ready md ops listed = [] ∧ Q .normal a w
  | fuel + 1, listed, a, w =>
    (Region.ready md ops listed = [] → Q .normal a w) ∧
    ∀ i ∈ Region.ready md ops listed, wpOp P ops Q i (fun a' w' => if i = z then wpAny P md ops Q fuel (listed.setIfInBounds i true) a' w' else S w' ∧ wpAnyZ P md ops Q S z fuel (listed.setIfInBounds i true) a' w') a w

theorem wpAny_of_Z : ∀ (fuel : Nat) (listed : Array Bool) (a : Act) (w : World), wpAnyZ P md ops Q S z fuel listed a w → wpAny P md ops Q fuel listed a w
  | 0, _, _, _, h => h
  | fuel + 1, _, _, _, h => ⟨h.1, fun i hi => wpOp_mono (fun a' w' h' => by
      by_cases e : i = z
      · rw [if_pos e] at h'; exact h'
      · rw [if_neg e] at h'; exact wpAny_of_Z fuel _ a' w' h'.2) (h.2 i hi)⟩

/-- Behind z: the rest, one by one. -/
def thenZ (P : Program) (ops : Array Oper) (Q : Exit → Act → World → Prop) (l : List Oper) : Exit → Act → World → Prop
  | .normal, a, w => tailW P ops (fun _ => True) Q l a w
  | e, a, w => Q e a w
def rzTail (md : Region.Mode) (ops : Array Oper) (z z2 : Nat) (tl2 : List Nat) : List Nat → Array Bool → Bool
  | [], _ => false
  | k :: l, listed => decide (Region.ready md ops listed = [k]) && decide (k < ops.size) && (decide (k = z) == l.isEmpty) && (if l.isEmpty then !tl2.isEmpty && rtTail md ops z2 tl2 (listed.setIfInBounds k true) else rzTail md ops z z2 tl2 l (listed.setIfInBounds k true))
theorem wpAnyZ_tail {l : List Oper} (hl : ops = l.toArray) (z2 : Nat) (tl2 : List Nat) : ∀ (tl : List Nat) (fuel : Nat) (listed : Array Bool) (a : Act) (w : World), tl.length + tl2.length = fuel → rzTail md ops z z2 tl2 tl listed = true → tailW P ops S (thenZ P ops Q (pickOps l tl2)) (pickOps l tl) a w → wpAnyZ P md ops Q S z fuel listed a w
  | [], _, _, _, _, _, hB, _ => by simp [rzTail] at hB
  | k :: tl, fuel, listed, a, w, hf, hB, h => by
    obtain ⟨f, rfl⟩ : ∃ f, fuel = f + 1 := ⟨fuel - 1, by simp at hf; omega⟩
    simp only [rzTail, Bool.and_eq_true, decide_eq_true_eq] at hB
    obtain ⟨⟨⟨h1, h2⟩, h3⟩, h4⟩ := hB
    obtain ⟨o, ho⟩ : ∃ o, l[k]? = some o := ⟨l[k]'(by subst hl; simpa using h2), by rw [List.getElem?_eq_getElem]⟩
    have ho' : ops[k]? = some o := by subst hl; simpa using ho
    have e : pickOps l (k :: tl) = o :: pickOps l tl := by unfold pickOps; simp [ho]
    rw [e] at h
    refine ⟨fun h0 => (by rw [h1] at h0; cases h0), fun i hi => ?_⟩
    rw [h1] at hi
    obtain rfl : i = k := by simpa using hi
    have hL : LetsOut (thenZ P ops Q (pickOps l tl2)) → LetsOut Q := fun ⟨a, w, h⟩ => ⟨a, w, h⟩
    have hw : wpOp P ops Q i (fun a' w' => (pickOps l tl = [] ∨ S w') ∧ tailW P ops S (thenZ P ops Q (pickOps l tl2)) (pickOps l tl) a' w') a w := by
      unfold wpOp
      simp only [ho']
      unfold tailW at h
      split at h
      · rename_i hw
        rw [if_pos hw]
        exact h.imp (fun h1 => Oper.wp_exits (fun _ _ _ h => h) hL h1) (fun h1 => ⟨h1.1, hL h1.2⟩)
      · rename_i hw
        rw [if_neg hw]
        exact h
    cases tl with
    | nil =>
      have hz : i = z := by simpa using h3
      simp only [List.isEmpty_nil, if_true, Bool.and_eq_true] at h4
      refine wpOp_mono (fun a' w' h' => ?_) hw
      rw [if_pos hz]
      exact wpAny_of_weak _ _ _ _ (wpAnyW_tail hl tl2 f _ a' w' (by simp at hf; omega) h4.2 h'.2)
    | cons j tl' =>
      have hz : i ≠ z := by simpa using h3
      simp only [List.isEmpty_cons, Bool.false_eq_true, if_false] at h4
      have hne : pickOps l (j :: tl') ≠ [] := by
        have hj : j < ops.size := by
          unfold rzTail at h4
          simp only [Bool.and_eq_true, decide_eq_true_eq] at h4
          exact h4.1.1.2
        unfold pickOps
        have hj' : l[j]? = some (l[j]'(by subst hl; simpa using hj)) := List.getElem?_eq_getElem _
        simp [hj']
      refine wpOp_mono (fun a' w' h' => ?_) hw
      rw [if_neg hz]
      exact ⟨h'.1.resolve_left hne, wpAnyZ_tail hl z2 tl2 (j :: tl') f _ a' w' (by simp at hf ⊢; omega) h4 h'.2⟩

theorem thenZ_go {l : List Oper} {a : Act} {w : World} (h : tailW P ops (fun _ => True) Q l a w) : thenZ P ops Q l .normal a w := h
end
end Go.Proofs.YtpcjkfppacnkgaaGreatDoor
end
section
/- A region that draws its order, as in RTail, where the last operation waits for each read, by way of others too. No condition. -/
set_option maxHeartbeats 400000
namespace Go.Proofs.YtpcjkfppacnkgaaGreatDoor
open Go

section
variable {P : Program} {md : Region.Mode} {ops : Array Oper} {Q : Exit → Act → World → Prop} {S : World → Prop} {z : Nat}

/-- Whoever has come, all that he waits for has come. -/
def ClosedL (md : Region.Mode) (ops : Array Oper) (listed : Array Bool) : Prop := ∀ k ok, ops[k]? = some ok → listed.getD k false = true → ∀ e ∈ ok.after, Region.binds md e = true → listed.getD e.on false = true
theorem getD_set_or {listed : Array Bool} {i k : Nat} (h : (listed.setIfInBounds i true).getD k false = true) : k = i ∨ listed.getD k false = true := by
  by_cases e : k = i
  · exact .inl e
  · rw [getD_set_ne false (Ne.symm e)] at h; exact .inr h
theorem ClosedL.set {listed : Array Bool} (h : ClosedL md ops listed) {i : Nat} (hr : i ∈ Region.ready md ops listed) : ClosedL md ops (listed.setIfInBounds i true) := by
  intro k ok hk hl e he hb
  obtain ⟨_, oi, hoi, hall⟩ := mem_ready.1 hr
  rcases getD_set_or hl with rfl | h1
  · rw [hoi] at hk; cases hk
    exact getD_set_true (hall e he hb)
  · exact getD_set_true (h k ok hk h1 e he hb)
theorem closedL_nil (n : Nat) : ClosedL md ops (Array.replicate n false) := by
  intro k ok _ hl
  exfalso
  rw [Array.getD_eq_getD_getElem?, Array.getElem?_replicate] at hl
  split at hl <;> simp at hl
def waitsT (md : Region.Mode) (ops : Array Oper) : Nat → Nat → Nat → Bool
  | 0, _, _ => false
  | f + 1, j, i => match ops[j]? with
    | some oj => oj.after.any fun e => Region.binds md e && (e.on == i || waitsT md ops f e.on i)
    | none => false
theorem waitsT_listed {listed : Array Bool} (hc : ClosedL md ops listed) {i : Nat} : ∀ (f j : Nat), waitsT md ops f j i = true → (∀ oj, ops[j]? = some oj → ∀ e ∈ oj.after, Region.binds md e = true → listed.getD e.on false = true) → listed.getD i false = true
  | 0, _, h, _ => by simp [waitsT] at h
  | f + 1, j, h, hj => by
    unfold waitsT at h
    split at h
    · rename_i oj hoj
      obtain ⟨e, he, hb⟩ := Array.any_eq_true'.1 h
      simp only [Bool.and_eq_true, Bool.or_eq_true, beq_iff_eq] at hb
      have hl := hj oj hoj e he hb.1
      rcases hb.2 with h1 | h1
      · rw [← h1]; exact hl
      · exact waitsT_listed hc f e.on h1 (fun ok hk => hc e.on ok hk hl)
    · cases h

theorem wpAnyW_firstT {i F : Nat} {oi : Oper} {v : Value} (hz : waitsT md ops F z i = true) (hi : ops[i]? = some oi) (hsel : ∀ (j : Nat) (o : Oper) cs b, ops[j]? = some o → o.op ≠ .select cs b)
    (hQ : ∀ c a w, Q (.panic c) (a.put oi.dst v) w → Q (.panic c) a w) :
    ∀ (fuel : Nat) (listed : Array Bool) (a : Act) (w : World), listed.size = ops.size → ClosedL md ops listed →
      (∀ j oj, ops[j]? = some oj → j ≠ i → listed.getD j true = false → (∀ e ∈ oj.after, Region.binds md e = true → e.on ≠ i) → oi.apart ops oj = true) →
      i ∈ Region.ready md ops listed → YieldsIf P ops S oi v a → S w →
      wpAnyW P md ops Q S z fuel (listed.setIfInBounds i true) (a.put oi.dst v) w → wpAnyW P md ops Q S z (fuel + 1) listed a w := by
  intro fuel
  induction fuel with
  | zero =>
    intro listed a w _ _ _ hr hy hS H
    refine ⟨fun h => (by rw [h] at hr; cases hr), fun j hj => ?_⟩
    by_cases hji : j = i
    · subst hji; exact hy.wpOp hi hS ⟨.inr hS, H⟩
    · have := ready_mono hj hji
      rw [H.1] at this
      cases this
  | succ fuel ih =>
    intro listed a w hsz hcl hfree hr hy hS H
    refine ⟨fun h => (by rw [h] at hr; cases hr), fun j hj => ?_⟩
    by_cases hji : j = i
    · subst hji; exact hy.wpOp hi hS ⟨.inr hS, H⟩
    · have h1 := H.2 j (ready_mono hj hji)
      obtain ⟨hjun, oj, hoj, hall⟩ := mem_ready.1 hj
      have hun0 : listed.getD i false ≠ true := fun h => by
        have h0 := (mem_ready.1 hr).1
        rcases Nat.lt_or_ge i listed.size with h' | h'
        · simp [h'] at h0 h; rw [h0] at h; cases h
        · simp [Array.getElem?_eq_none h'] at h
      have hnot : ∀ e ∈ oj.after, Region.binds md e = true → e.on ≠ i := fun e he hb heq => hun0 (heq ▸ hall e he hb)
      have hjz : j ≠ z := fun e => by
        subst e
        exact hun0 (waitsT_listed hcl F j hz (fun ok hk e he hb => by rw [hoj] at hk; cases hk; exact hall e he hb))
      have h2 := wpOp_putIf hoj (hfree j oj hoj hji hjun hnot) (fun cs b => hsel i oi cs b hi) (fun cs b => hsel j oj cs b hoj) hQ hy h1
      have hfree' : ∀ k ok, ops[k]? = some ok → k ≠ i → (listed.setIfInBounds j true).getD k true = false →
          (∀ e ∈ ok.after, Region.binds md e = true → e.on ≠ i) → oi.apart ops ok = true := fun k ok hk hki hun hno => by
        refine hfree k ok hk hki ?_ hno
        by_cases hjk : j = k
        · subst hjk; exact hjun
        · rw [getD_set_ne true hjk] at hun; exact hun
      refine wpOp_mono (fun a' w' h3 => ?_) h2
      have h4 := h3.2.1.resolve_left hjz
      exact ⟨.inr h4, ih (listed.setIfInBounds j true) a' w' (by simpa using hsz) (hcl.set hj) hfree' (ready_mono hr (Ne.symm hji)) h3.1 h4 (by rw [Array.setIfInBounds_comm _ _ hji]; exact h3.2.2)⟩

def rtHeadT (md : Region.Mode) (ops : Array Oper) (z : Nat) (tl : List Nat) : List Nat → Array Bool → Bool
  | [], listed => rtTail md ops z tl listed
  | k :: l, listed => (Region.ready md ops listed).contains k && Region.free md ops listed k && decide (k < ops.size) && waitsT md ops ops.size z k && rtHeadT md ops z tl l (listed.setIfInBounds k true)
/-- The check on a region. -/
def rtBT (md : Region.Mode) (ops : Array Oper) (z : Nat) (rd tl : List Nat) : Bool :=
  Region.noSelect ops && decide (rd.length + tl.length = ops.size) && rtHeadT md ops z tl rd (Array.replicate ops.size false)
theorem wpAnyW_headT {l : List Oper} (hl : ops = l.toArray) (hsel : Region.noSelect ops = true)  (hQ : ∀ c a d v w, Q (.panic c) (Act.put a (some d) v) w → Q (.panic c) a w) {w : World} (hS : S w) (tl : List Nat) :
    ∀ (rd : List Nat) (fuel : Nat) (listed : Array Bool) (a : Act), listed.size = ops.size → ClosedL md ops listed → rd.length + tl.length = fuel → rtHeadT md ops z tl rd listed = true → readsQ P ops S (fun a' => tailW P ops S Q (pickOps l tl) a' w) (pickOps l rd) a → wpAnyW P md ops Q S z fuel listed a w
  | [], fuel, listed, a, hs, _, hf, hB, h => wpAnyW_tail hl tl fuel listed a w (by simpa using hf) hB h
  | k :: rd, fuel, listed, a, hs, hcl, hf, hB, h => by
    simp only [rtHeadT, Bool.and_eq_true, decide_eq_true_eq] at hB
    obtain ⟨⟨⟨⟨h1, h2⟩, h3⟩, h4⟩, h5⟩ := hB
    obtain ⟨o, ho⟩ : ∃ o, l[k]? = some o := ⟨l[k]'(by subst hl; simpa using h3), by rw [List.getElem?_eq_getElem]⟩
    have ho' : ops[k]? = some o := by subst hl; simpa using ho
    have e : pickOps l (k :: rd) = o :: pickOps l rd := by unfold pickOps; simp [ho]
    rw [e] at h
    obtain ⟨v, hy, hK⟩ := h
    obtain ⟨f, rfl⟩ : ∃ f, fuel = f + 1 := ⟨fuel - 1, by simp at hf; omega⟩
    have hr : k ∈ Region.ready md ops listed := by simpa using h1
    exact wpAnyW_firstT h4 ho' (Region.noSelect_spec hsel) (fun c a w h => by cases hd : o.dst with | none => rw [hd] at h; exact h | some d => rw [hd] at h; exact hQ c _ _ _ w h) f listed a w hs hcl (Region.free_spec ho' h2) hr hy hS
      (wpAnyW_headT hl hsel hQ hS tl rd f _ _ (by simpa using hs) (hcl.set hr) (by simp at hf; omega) h5 hK)

theorem wp_region_rtt {id : Nat} {l : List Oper} {a : Act} {w : World} (S : World → Prop) (z : Nat) (rd tl : List Nat) (hm : P.follows .mixedOrders = true) (hB : rtBT .any l.toArray z rd tl = true) (hQ : ∀ c a d v w, Q (.panic c) (Act.put a (some d) v) w → Q (.panic c) a w) (hS : S w.drew)
    (h : readsQ P l.toArray S (fun a' => tailW P l.toArray S Q (pickOps l tl) a' w.drew) (pickOps l rd) a) : (Code.region id l.toArray true).wp P Q a w := by
  simp only [rtBT, Bool.and_eq_true, decide_eq_true_eq] at hB
  obtain ⟨⟨h1, h2⟩, h4⟩ := hB
  refine wp_region_any hm (wpAny_of_weak (S := S) (z := z) _ _ _ _ ?_)
  exact wpAnyW_headT rfl h1 hQ hS tl rd _ _ a (by simp) (closedL_nil _) h2 h4 h
end
end Go.Proofs.YtpcjkfppacnkgaaGreatDoor
end
