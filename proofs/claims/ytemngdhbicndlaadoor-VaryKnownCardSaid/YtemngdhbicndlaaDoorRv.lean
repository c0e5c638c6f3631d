/- A drawn region whose operations each lay one value into a slot of their own: whatever the order, by what is known of each value. No case a order. -/
import Derived.Deep.RegionHeld
import Derived.Test.YtemngdhbicndlaaDoorWd
import Derived.Lib.Hide
namespace Go.Proofs.YtemngdhbicndlaaDoor
open Go Go.RowKit
set_option linter.unusedVariables false
set_option linter.unusedSimpArgs false

/-- Values with one of them laid. -/
def updV (vs : Nat → Value) (i : Nat) (v : Value) : Nat → Value := fun j => if j = i then v else vs j
/-- The frame a0 with the values of n operations in the slots from k on. -/
def fillA (a0 : Act) (k n : Nat) (vs : Nat → Value) : Act := { a0 with tmps := (a0.tmps.toList.take k ++ (List.range n).map vs ++ a0.tmps.toList.drop (k + n)).toArray }
/-- The slots as they are. -/
def oldV (a0 : Act) (k : Nat) : Nat → Value := fun i => (a0.tmps[k + i]?).getD undef
theorem fillA_old (a0 : Act) (k n : Nat) (h : k + n ≤ a0.tmps.size) : fillA a0 k n (oldV a0 k) = a0 := by
  unfold fillA
  have e : (a0.tmps.toList.take k ++ (List.range n).map (oldV a0 k) ++ a0.tmps.toList.drop (k + n)).toArray = a0.tmps := by
    rw [← Array.toList_inj]
    apply List.ext_getElem?
    intro j
    have hlen : a0.tmps.toList.length = a0.tmps.size := Array.length_toList
    rcases Nat.lt_or_ge j k with h1 | h1
    · rw [List.append_assoc, List.getElem?_append_left (by rw [List.length_take]; omega), List.getElem?_take, if_pos h1]
    · rcases Nat.lt_or_ge j (k + n) with h2 | h2
      · rw [List.getElem?_append_left (by simp; omega), List.getElem?_append_right (by rw [List.length_take]; omega), List.length_take, Nat.min_eq_left (by omega), List.getElem?_map, List.getElem?_range (by omega)]
        simp only [Option.map_some, oldV]
        rw [show k + (j - k) = j by omega, Array.getElem?_eq_getElem (by omega), Array.getElem?_toList, Array.getElem?_eq_getElem (by omega)]
        rfl
      · rw [List.getElem?_append_right (by simp; omega), List.getElem?_drop]
        simp only [List.length_append, List.length_take, List.length_map, List.length_range]
        rw [Nat.min_eq_left (by omega), show k + n + (j - (k + n)) = j by omega]
  rw [e]
theorem mid_at {A C : List Value} {k n j : Nat} {f : Nat → Value} (hA : A.length = k) (h1 : k ≤ j) (h2 : j < k + n) : (A ++ (List.range n).map f ++ C)[j]? = some (f (j - k)) := by
  rw [List.getElem?_append_left (by simp; omega), List.getElem?_append_right (by omega), List.getElem?_map, List.getElem?_range (by omega), hA]
  rfl
theorem fillA_put (a0 : Act) (k n : Nat) (vs : Nat → Value) (i : Nat) (v : Value) (hi : i < n) (h : k + n ≤ a0.tmps.size) : (fillA a0 k n vs).put (some (k + i)) v = fillA a0 k n (updV vs i v) := by
  unfold fillA Act.put
  simp only [Act.mk.injEq, and_true]
  rw [← Array.toList_inj]
  apply List.ext_getElem?
  intro j
  have hlen : a0.tmps.toList.length = a0.tmps.size := Array.length_toList
  simp only [Array.toList_setIfInBounds]
  rw [List.getElem?_set]
  by_cases hj : k + i = j
  · subst hj
    rw [if_pos rfl, if_pos (by simp; omega), List.append_assoc, List.getElem?_append_right (by rw [List.length_take]; omega), List.length_take, Nat.min_eq_left (by omega), List.getElem?_append_left (by simp; omega), List.getElem?_map, List.getElem?_range (by omega)]
    simp [updV]
  · rw [if_neg hj]
    rcases Nat.lt_or_ge j k with h1 | h1
    · rw [List.append_assoc, List.append_assoc, List.getElem?_append_left (by rw [List.length_take]; omega), List.getElem?_append_left (by rw [List.length_take]; omega)]
    · rcases Nat.lt_or_ge j (k + n) with h2 | h2
      · rw [mid_at (k := k) (by rw [List.length_take]; omega) h1 h2, mid_at (k := k) (by rw [List.length_take]; omega) h1 h2]
        simp only [updV]
        rw [if_neg (by omega)]
      · rw [List.getElem?_append_right (by simp; omega), List.getElem?_append_right (by simp; omega)]
        simp
theorem fillA_in (a0 : Act) (k n : Nat) (vs : Nat → Value) (i : Nat) (hi : i < n) (h : k + n ≤ a0.tmps.size) : (fillA a0 k n vs).eval (.tmp (k + i)) = vs i := by
  have hlen : a0.tmps.toList.length = a0.tmps.size := Array.length_toList
  have q : (a0.tmps.toList.take k ++ (List.range n).map vs ++ a0.tmps.toList.drop (k + n))[k + i]? = some (vs (k + i - k)) := mid_at (by rw [List.length_take]; omega) (by omega) (by omega)
  rw [show k + i - k = i by omega, List.append_assoc] at q
  unfold fillA Act.eval
  simp [Array.getD_eq_getD_getElem?, q]
theorem fillA_out (a0 : Act) (k n : Nat) (vs : Nat → Value) (d : Nat) (hd : d < k) (h : k + n ≤ a0.tmps.size) : (fillA a0 k n vs).eval (.tmp d) = a0.eval (.tmp d) := by
  have hlen : a0.tmps.toList.length = a0.tmps.size := Array.length_toList
  have q : (a0.tmps.toList.take k ++ (List.range n).map vs ++ a0.tmps.toList.drop (k + n))[d]? = a0.tmps[d]? := by
    rw [List.append_assoc, List.getElem?_append_left (by rw [List.length_take]; omega), List.getElem?_take, if_pos hd, Array.getElem?_toList]
  unfold fillA Act.eval
  simp only [Array.getD_eq_getD_getElem?]
  rw [← q]
  simp
theorem fillA_slot (a0 : Act) (k n : Nat) (vs : Nat → Value) (i : Nat) (hi : i < n) (h : k + n ≤ a0.tmps.size) : (fillA a0 k n vs).tmps[k + i]?.getD undef = vs i := by
  have q := fillA_in a0 k n vs i hi h
  simpa [Act.eval, Array.getD_eq_getD_getElem?] using q
theorem fillA_old_slot (a0 : Act) (k n : Nat) (vs : Nat → Value) (d : Nat) (hd : d < k) (h : k + n ≤ a0.tmps.size) {v : Value} (hv : a0.eval (.tmp d) = v) : (fillA a0 k n vs).tmps[d]?.getD undef = v := by
  have q := (fillA_out a0 k n vs d hd h).trans hv
  simpa [Act.eval, Array.getD_eq_getD_getElem?] using q
/-- The region's form: no guard, one slot an operation, each waits for earlier ones. -/
def rowForm (ops : Array Oper) (k : Nat) : Bool :=
  (List.range ops.size).all fun i => match ops[i]? with
    | some o => o.guard.isNone && (o.dst == some (k + i)) && o.after.all fun e => decide (e.on < i)
    | none => true
theorem rowForm_at {ops : Array Oper} {k i : Nat} {o : Oper} (h : rowForm ops k = true) (ho : ops[i]? = some o) : o.guard = none ∧ o.dst = some (k + i) ∧ ∀ e ∈ o.after, e.on < i := by
  have hi := (Array.getElem?_eq_some_iff.1 ho).1
  have := List.all_eq_true.1 h i (by simpa using hi)
  rw [ho] at this
  simp only [Bool.and_eq_true, beq_iff_eq, Option.isNone_iff_eq_none, Array.all_eq_true', decide_eq_true_eq] at this
  exact ⟨this.1.1, this.1.2, this.2⟩
theorem count_less {l : List Bool} {i : Nat} (hi : l[i]? = some false) : (l.set i true).count false + 1 = l.count false := by
  induction l generalizing i with
  | nil => cases hi
  | cons b l ih =>
    cases i with
    | zero =>
      have hb : b = false := by simpa using hi
      subst hb
      simp
    | succ i =>
      have := ih (i := i) (by simpa using hi)
      simp only [List.set_cons_succ, List.count_cons]
      omega
section
variable {P : Program} {ops : Array Oper} {Q : Exit → Act → World → Prop}
/-- One operation's step: from what it waits for to its own value. -/
def StepV (P : Program) (Q : Exit → Act → World → Prop) (a0 : Act) (k n : Nat) (G : Nat → Value → World → Prop) (S : World → Prop) (i : Nat) (o : Oper) : Prop :=
  ∀ vs w, S w → (∀ e ∈ o.after, Region.binds .any e = true → G e.on (vs e.on) w) → ∀ K : Act → World → Prop, Hid (∀ v w', G i v w' → S w' → Below w.heap.size w w' → K ((fillA a0 k n vs).put o.dst v) w') → Oper.wp P o (fillA a0 k n vs) w K Q
def StepsV (P : Program) (Q : Exit → Act → World → Prop) (a0 : Act) (k n : Nat) (G : Nat → Value → World → Prop) (S : World → Prop) : Nat → List Oper → Prop
  | _, [] => True
  | i, o :: l => StepV P Q a0 k n G S i o ∧ StepsV P Q a0 k n G S (i + 1) l
theorem StepsV.nil {a0 : Act} {k n : Nat} {G : Nat → Value → World → Prop} {S : World → Prop} {i : Nat} : StepsV P Q a0 k n G S i [] := trivial
theorem StepsV.cons {a0 : Act} {k n : Nat} {G : Nat → Value → World → Prop} {S : World → Prop} {i : Nat} {o : Oper} {l : List Oper} (h : StepV P Q a0 k n G S i o) (hs : StepsV P Q a0 k n G S (i + 1) l) : StepsV P Q a0 k n G S i (o :: l) := ⟨h, hs⟩
theorem StepsV.at {a0 : Act} {k n : Nat} {G : Nat → Value → World → Prop} {S : World → Prop} : ∀ {l : List Oper} {j : Nat}, StepsV P Q a0 k n G S j l → ∀ i o, l[i]? = some o → StepV P Q a0 k n G S (j + i) o
  | [], _, _, _, _, h => by cases h
  | o :: l, j, hs, 0, o', h => by
    obtain rfl : o = o' := by simpa using h
    exact hs.1
  | o :: l, j, hs, i + 1, o', h => by
    have := StepsV.at hs.2 i o' (by simpa using h)
    rwa [show j + 1 + i = j + (i + 1) by omega] at this
theorem wpAnyH_row {a0 : Act} {k : Nat} {G : Nat → Value → World → Prop} {S : World → Prop} (hf : rowForm ops k = true) (hk : k + ops.size ≤ a0.tmps.size)
    (hmono : ∀ i v w w', G i v w → Below w.heap.size w w' → G i v w')
    (hs : StepsV P Q a0 k ops.size G S 0 ops.toList)
    (hend : ∀ vs w, S w → (∀ i, i < ops.size → G i (vs i) w) → Q .normal (fillA a0 k ops.size vs) w) :
    ∀ (fuel : Nat) (listed : Array Bool) (vs : Nat → Value) (w : World), listed.size = ops.size → listed.toList.count false ≤ fuel → S w → (∀ i, listed[i]? = some true → G i (vs i) w) →
      wpAnyH P .any ops Q (fun _ => True) fuel listed (fillA a0 k ops.size vs) w := by
  have hall : ∀ (listed : Array Bool), listed.size = ops.size → Region.ready .any ops listed = [] → ∀ i, i < ops.size → listed[i]? = some true := by
    intro listed hl hr i
    induction i using Nat.strongRecOn with
    | _ i ih =>
      intro hi
      obtain ⟨b, hb⟩ : ∃ b, listed[i]? = some b := ⟨_, Array.getElem?_eq_getElem (by omega)⟩
      cases b with
      | true => exact hb
      | false =>
        exfalso
        obtain ⟨o, ho⟩ : ∃ o, ops[i]? = some o := ⟨_, Array.getElem?_eq_getElem hi⟩
        have hm : i ∈ Region.ready .any ops listed := by
          unfold Region.ready
          rw [List.mem_filter]
          refine ⟨by simpa using hi, ?_⟩
          rw [ho]
          simp only [Option.map_some, Option.getD_some, Bool.and_eq_true, Array.all_eq_true', Bool.or_eq_true]
          refine ⟨by simp [Array.getD_eq_getD_getElem?, hb], fun e he => .inr ?_⟩
          have h1 := (rowForm_at hf ho).2.2 e he
          simp [Array.getD_eq_getD_getElem?, ih e.on h1 (by omega)]
        rw [hr] at hm
        cases hm
  have hnone : ∀ (listed : Array Bool), listed.toList.count false = 0 → Region.ready .any ops listed = [] := by
    intro listed h0
    unfold Region.ready
    rw [List.filter_eq_nil_iff]
    intro i hi
    have h1 : listed.getD i true = true := by
      rw [Array.getD_eq_getD_getElem?]
      cases hb : listed[i]? with
      | none => rfl
      | some b =>
        cases b with
        | true => rfl
        | false =>
          exfalso
          have := List.count_eq_zero.1 h0
          exact this (List.mem_of_getElem? (i := i) (by rw [Array.getElem?_toList]; exact hb))
    simp [h1]
  intro fuel
  induction fuel with
  | zero =>
    intro listed vs w hl hc hSw hG
    have hr := hnone listed (by omega)
    exact ⟨hr, hend vs w hSw fun i hi => hG i (hall listed hl hr i hi)⟩
  | succ fuel IH =>
    intro listed vs w hl hc hSw hG
    refine ⟨fun hr => hend vs w hSw fun i hi => hG i (hall listed hl hr i hi), fun i hi => ?_⟩
    unfold Region.ready at hi
    rw [List.mem_filter] at hi
    obtain ⟨hi1, hi2⟩ := hi
    have hio : i < ops.size := by simpa using hi1
    obtain ⟨o, ho⟩ : ∃ o, ops[i]? = some o := ⟨_, Array.getElem?_eq_getElem hio⟩
    rw [ho] at hi2
    simp only [Option.map_some, Option.getD_some, Bool.and_eq_true, Array.all_eq_true', Bool.or_eq_true, Bool.not_eq_true'] at hi2
    obtain ⟨hi3, hi4⟩ := hi2
    obtain ⟨g1, g2, g3⟩ := rowForm_at hf ho
    have hlf : listed[i]? = some false := by
      rw [Array.getD_eq_getD_getElem?] at hi3
      cases hb : listed[i]? with
      | none => rw [hb] at hi3; cases hi3
      | some b => rw [hb] at hi3; simpa using hi3
    refine wpOp_step ho fun K' hK => ?_
    have hw : Region.wanted o (yielded ops (fillA a0 k ops.size vs).tmps) = true := by simp [Region.wanted, g1]
    rw [if_pos hw]
    have st := hs.at i o (by rw [Array.getElem?_toList]; exact ho)
    rw [Nat.zero_add] at st
    refine st vs w hSw (fun e he hb => hG e.on ?_) K' fun v w' hGv hS' hB => ?_
    · have := hi4 e he
      rcases this with h | h
      · rw [hb] at h; cases h
      · rw [Array.getD_eq_getD_getElem?] at h
        cases hx : listed[e.on]? with
        | none => rw [hx] at h; cases h
        | some b => rw [hx] at h; simpa using h
    · rw [g2, fillA_put a0 k ops.size vs i v hio hk]
      refine hK _ _ ⟨trivial, IH _ _ _ (by simpa using hl) ?_ hS' fun j hj => ?_⟩
      · rw [Array.toList_setIfInBounds]
        have := count_less (l := listed.toList) (i := i) (by rw [Array.getElem?_toList]; exact hlf)
        omega
      · by_cases hij : j = i
        · subst hij
          simpa [updV] using hGv
        · have : listed[j]? = some true := by
            rw [Array.getElem?_setIfInBounds] at hj
            rw [if_neg (fun h => hij h.symm)] at hj
            exact hj
          have q := hmono j _ _ _ (hG j this) hB
          simpa [updV, hij] using q
/-- The region. -/
theorem wp_region_row {id k : Nat} {a0 : Act} {w : World} {G : Nat → Value → World → Prop} {S : World → Prop} (hm : P.follows .mixedOrders = true) (hf : rowForm ops k = true) (hk : k + ops.size ≤ a0.tmps.size) (hS : S w.drew)
    (hmono : ∀ i v w w', G i v w → Below w.heap.size w w' → G i v w')
    (hs : StepsV P Q a0 k ops.size G S 0 ops.toList)
    (hend : ∀ vs w, S w → (∀ i, i < ops.size → G i (vs i) w) → Q .normal (fillA a0 k ops.size vs) w) : (Code.region id ops true).wp P Q a0 w := by
  refine wp_region_held (S := fun _ => True) hm ?_
  have h := wpAnyH_row hf hk hmono hs hend ops.size (Array.replicate ops.size false) (oldV a0 k) w.drew (by simp) (by simp) hS (fun i hi => by
    rw [Array.getElem?_replicate] at hi
    split at hi <;> simp at hi)
  rw [fillA_old a0 k ops.size hk] at h
  exact h
end
end Go.Proofs.YtemngdhbicndlaaDoor
