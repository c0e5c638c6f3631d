/- Names of events, plain. -/
import Derived.Lib.SplitLaws
namespace Go.Proofs.YteelccgaemmmpaaDoor
set_option linter.unusedVariables false
set_option linter.unusedSimpArgs false

/-- What may stand in an event's name. -/
def evC (c : UInt8) : Bool := decide (97 ≤ c.toNat ∧ c.toNat ≤ 122 ∨ 48 ≤ c.toNat ∧ c.toNat ≤ 57 ∨ c.toNat = 45)
/-- No two hyphens one behind the other, none at an end; p: the byte ahead is one, or there is none. -/
def hyL : Bool → List UInt8 → Bool
  | p, [] => !p
  | p, x :: l => if x = 45 then !p && hyL true l else hyL false l
def eventB (l : List UInt8) : Bool := !l.isEmpty && decide (l.length ≤ 16) && l.all evC && hyL true l
/-- The pieces between the bytes c. -/
def cutL (c : UInt8) : List UInt8 → List (List UInt8)
  | [] => [[]]
  | x :: l => if x = c then [] :: cutL c l else match cutL c l with
    | [] => [[x]]
    | p :: ps => (x :: p) :: ps
theorem cutL_ne (c : UInt8) (l : List UInt8) : ∃ p ps, cutL c l = p :: ps := by
  cases l with
  | nil => exact ⟨_, _, rfl⟩
  | cons x l =>
    unfold cutL
    split
    · exact ⟨_, _, rfl⟩
    · split
      · exact ⟨_, _, rfl⟩
      · exact ⟨_, _, rfl⟩
theorem cutL_eq (c : UInt8) (l : List UInt8) : cutL c (c :: l) = [] :: cutL c l := by rw [cutL, if_pos rfl]
theorem cutL_cons {c x : UInt8} {l : List UInt8} {p : List UInt8} {ps : List (List UInt8)} (hx : x ≠ c) (h : cutL c l = p :: ps) : cutL c (x :: l) = (x :: p) :: ps := by rw [cutL, if_neg hx, h]
theorem hy_cut (l : List UInt8) : ∀ p ps, cutL 45 l = p :: ps → hyL true l = (!p.isEmpty && ps.all fun q => !q.isEmpty) ∧ hyL false l = ps.all fun q => !q.isEmpty := by
  induction l with
  | nil =>
    intro p ps h
    obtain ⟨rfl, rfl⟩ : [] = p ∧ [] = ps := by simpa [cutL] using h
    exact ⟨rfl, rfl⟩
  | cons x l ih =>
    intro p ps h
    obtain ⟨q, qs, hq⟩ := cutL_ne 45 l
    obtain ⟨i1, i2⟩ := ih q qs hq
    by_cases hx : x = 45
    · subst hx
      rw [cutL_eq, hq] at h
      obtain ⟨rfl, rfl⟩ : [] = p ∧ q :: qs = ps := by simpa using h
      exact ⟨by rw [hyL, if_pos rfl]; simp, by rw [hyL, if_pos rfl, i1]; simp⟩
    · rw [cutL_cons hx hq] at h
      obtain ⟨rfl, rfl⟩ : x :: q = p ∧ qs = ps := by simpa using h
      exact ⟨by rw [hyL, if_neg hx, i2]; simp, by rw [hyL, if_neg hx, i2]⟩
theorem hy_cut' (l : List UInt8) : hyL true l = (cutL 45 l).all fun q => !q.isEmpty := by
  obtain ⟨q, qs, hq⟩ := cutL_ne 45 l
  rw [(hy_cut l q qs hq).1, hq, List.all_cons]

-- strings.Split at one byte
theorem isPrefix_one (c x : UInt8) (l : List UInt8) : [c].isPrefixOf (x :: l) = (c == x) := by simp [List.isPrefixOf]
theorem index_cons_eq (c : UInt8) (l : List UInt8) : Lib.index (c :: l) [c] = 0 := by unfold Lib.index; rw [if_pos (by simp [List.isPrefixOf])]
theorem index_cons_ne {c x : UInt8} (l : List UInt8) (h : x ≠ c) : Lib.index (x :: l) [c] = if Lib.index l [c] = -1 then -1 else Lib.index l [c] + 1 := by
  rw [Lib.index, if_neg (by simpa [List.isPrefixOf] using fun e => h e.symm)]
  simp only [beq_iff_eq]
theorem splitK_cut (c : UInt8) (l : List UInt8) : ∀ k, l.count c = k → Lib.splitK [c] 0 k l = cutL c l := by
  induction l with
  | nil =>
    intro k hk
    cases k with
    | zero => rfl
    | succ k => simp at hk
  | cons x l ih =>
    intro k hk
    by_cases hx : x = c
    · subst hx
      rw [List.count_cons_self] at hk
      obtain ⟨m, rfl⟩ : ∃ m, k = m + 1 := ⟨k - 1, by omega⟩
      rw [Lib.splitK, index_cons_eq, if_neg (by decide), cutL_eq, ← ih m (by omega)]
      rfl
    · rw [List.count_cons_of_ne hx] at hk
      obtain ⟨q, qs, hq⟩ := cutL_ne c l
      rw [cutL_cons hx hq]
      have h := ih k hk
      rw [hq] at h
      cases k with
      | zero =>
        obtain ⟨rfl, rfl⟩ : l = q ∧ [] = qs := by simpa [Lib.splitK] using h
        rfl
      | succ m =>
        rw [Lib.splitK] at h ⊢
        have hi := index_cons_ne l hx
        by_cases hm : Lib.index l [c] = -1
        · rw [if_pos hm] at hi
          rw [if_pos (by rw [hm]; rfl)] at h
          obtain ⟨rfl, rfl⟩ : l = q ∧ [] = qs := by simpa using h
          rw [if_pos (by rw [hi]; rfl)]
        · rw [if_neg hm] at hi
          have h0 := Lib.index_ge l [c]
          rw [if_neg (by simpa using hm)] at h
          obtain ⟨h1, h2⟩ := List.cons.inj h
          obtain ⟨n, hn⟩ : ∃ n : Nat, Lib.index l [c] = n := ⟨(Lib.index l [c]).toNat, by omega⟩
          rw [hn] at h1 h2 hi
          rw [if_neg (by rw [hi]; simp; omega), hi]
          simp only [Int.toNat_natCast, Nat.add_zero, List.length_cons, List.length_nil, Nat.zero_add] at h1 h2
          simp only [show ((n : Int) + 1).toNat = n + 1 by omega, Nat.add_zero, List.length_cons, List.length_nil, Nat.zero_add, List.take_succ_cons, List.drop_succ_cons]
          rw [h1, h2]
theorem split_one (s : ByteArray) (c : UInt8) : (Lib.splitB ⟨#[c]⟩ 0 (Lib.countB s ⟨#[c]⟩) s).map (·.data.toList) = cutL c s.data.toList := by
  rw [Lib.splitB_data]
  refine splitK_cut c _ _ ?_
  show _ = Lib.count s.data.toList [c]
  rw [Lib.count_one]
theorem splitB_len (s : ByteArray) (c : UInt8) : Lib.countB s ⟨#[c]⟩ + 1 = (cutL c s.data.toList).length := by
  rw [← split_one, List.length_map, Lib.splitB_all ⟨#[c]⟩ (Nat.le_refl 1) 0 _ s rfl]

-- laws of events
theorem hy_split (p : Bool) (a b : List UInt8) : hyL p (a ++ 45 :: b) = (hyL p a && hyL true b) := by
  induction a generalizing p with
  | nil => simp [hyL]
  | cons x a ih =>
    rw [List.cons_append, hyL, hyL]
    split
    · rw [ih]; cases p <;> simp
    · rw [ih]
theorem hy_true_ne {b : List UInt8} (h : hyL true b = true) : b ≠ [] := by
  rintro rfl
  simp [hyL] at h
/-- Cut ahead of the byte at k: each part is fine where the whole is, but for its end. -/
theorem hy_parts (p : Bool) (a : List UInt8) (x y : UInt8) (b : List UInt8) (h : hyL p (a ++ x :: y :: b) = true) : hyL p (a ++ [x]) = decide (x ≠ 45) ∧ hyL true (y :: b) = decide (y ≠ 45) := by
  induction a generalizing p with
  | nil =>
    simp only [List.nil_append] at h ⊢
    rw [hyL] at h ⊢
    by_cases hx : x = 45
    · subst hx
      rw [if_pos rfl] at h ⊢
      simp only [Bool.and_eq_true] at h
      refine ⟨by simp [hyL], ?_⟩
      have hy : y ≠ 45 := by
        rintro rfl
        have := h.2
        simp [hyL] at this
      rw [h.2]
      simp [hy]
    · rw [if_neg hx] at h ⊢
      refine ⟨by simp [hyL, hx], ?_⟩
      rw [hyL] at h ⊢
      by_cases hy : y = 45
      · rw [if_pos hy]; simp [hy]
      · rw [if_neg hy] at h ⊢; rw [h]; simp [hy]
  | cons z a ih =>
    rw [List.cons_append, hyL] at h
    rw [List.cons_append, hyL]
    split
    · rename_i hz
      rw [if_pos hz] at h
      simp only [Bool.and_eq_true] at h
      have := ih true h.2
      rw [this.1, h.1]
      exact ⟨by simp, this.2⟩
    · rename_i hz
      rw [if_neg hz] at h
      exact ih false h
theorem event_split (a b : List UInt8) (ha : eventB a = true) (hb : eventB b = true) : eventB (a ++ 45 :: b) = decide (a.length + b.length < 16) := by
  unfold eventB at ha hb ⊢
  simp only [Bool.and_eq_true, decide_eq_true_eq] at ha hb
  have e : evC 45 = true := by decide
  rw [hy_split, ha.2, hb.2, List.all_append, List.all_cons, ha.1.2, hb.1.2, e]
  have h1 : (a ++ 45 :: b).isEmpty = false := by cases a <;> rfl
  rw [h1]
  simp only [Bool.not_false, Bool.true_and, Bool.and_true, List.length_append, List.length_cons, decide_eq_decide]
  omega
theorem event_parts (a : List UInt8) (k : Nat) (h0 : 0 < k) (hk : k < a.length) (ha : eventB a = true) : eventB (a.take k) = decide (a.getD (k - 1) 0 ≠ 45) ∧ eventB (a.drop k) = decide (a.getD k 0 ≠ 45) := by
  unfold eventB at ha
  simp only [Bool.and_eq_true, decide_eq_true_eq] at ha
  have e1 : a.take k = a.take (k - 1) ++ [a.getD (k - 1) 0] := by
    have := List.take_succ_eq_append_getElem (l := a) (i := k - 1) (by omega)
    rw [show k - 1 + 1 = k by omega] at this
    rw [this, List.getD_eq_getElem?_getD, List.getElem?_eq_getElem (by omega)]
    rfl
  have e2 : a.drop k = a.getD k 0 :: a.drop (k + 1) := by
    rw [List.drop_eq_getElem_cons hk, List.getD_eq_getElem?_getD, List.getElem?_eq_getElem hk]
    rfl
  have e3 : a = a.take (k - 1) ++ a.getD (k - 1) 0 :: a.getD k 0 :: a.drop (k + 1) := by
    have := List.take_append_drop k a
    rw [e1, e2] at this
    rw [List.append_assoc] at this
    exact this.symm
  have h := ha.2
  rw [e3] at h
  obtain ⟨h1, h2⟩ := hy_parts true _ _ _ _ h
  have ha1 : (a.take k).all evC = true := by
    rw [List.all_eq_true] at ha ⊢
    exact fun x hx => ha.1.2 x (List.mem_of_mem_take hx)
  have ha2 : (a.drop k).all evC = true := by
    rw [List.all_eq_true] at ha ⊢
    exact fun x hx => ha.1.2 x (List.mem_of_mem_drop hx)
  have l1 : decide ((a.take k).length ≤ 16) = true := by simp only [decide_eq_true_eq, List.length_take]; omega
  have l2 : decide ((a.drop k).length ≤ 16) = true := by simp only [decide_eq_true_eq, List.length_drop]; omega
  have n1 : (a.take k).isEmpty = false := by rw [e1]; simp
  have n2 : (a.drop k).isEmpty = false := by rw [e2]; rfl
  constructor
  · unfold eventB
    rw [ha1, l1, n1, e1, h1]
    simp
  · unfold eventB
    rw [ha2, l2, n2, e2, h2]
    simp
theorem event_first {a : List UInt8} (ha : eventB a = true) : eventB (45 :: a) = false ∧ eventB (a ++ [45]) = false := by
  constructor
  · unfold eventB
    simp [hyL]
  · unfold eventB
    rw [hy_split]
    simp [hyL]
theorem event_nil : eventB [] = false := rfl

-- the reference's walk
/-- What the first k bytes show: fine so far. -/
def refB (l : List UInt8) (i : Nat) : Bool := if l.getD i 0 = 45 then !(decide (i = 0) || decide (i + 1 = l.length) || decide (l.getD (i - 1) 0 = 45)) else evC (l.getD i 0)
theorem ref_event (l : List UInt8) (h1 : 1 ≤ l.length) (h2 : l.length ≤ 16) : eventB l = (List.range l.length).all (refB l) := by
  unfold eventB
  have e1 : l.isEmpty = false := by cases l with | nil => simp at h1 | cons => rfl
  rw [e1, decide_eq_true h2]
  simp only [Bool.not_false, Bool.true_and]
  -- generalize: behind m bytes
  have key : ∀ n m, l.length = m + n → ((l.drop m).all evC && hyL (decide (m = 0) || decide (l.getD (m - 1) 0 = 45)) (l.drop m)) = ((!(decide (m ≠ 0 ∧ n = 0 ∧ l.getD (m - 1) 0 = 45)) && !(decide (l.length = 0))) && (List.range n).all fun j => refB l (m + j)) := by
    intro n
    induction n with
    | zero =>
      intro m hm
      rw [List.drop_eq_nil_of_le (by omega)]
      have hm0 : m ≠ 0 := by omega
      have hl0 : l.length ≠ 0 := by omega
      simp only [List.all_nil, hyL, hm0, decide_false, Bool.false_or, Bool.true_and, List.range_zero, Bool.and_true, ne_eq, not_false_eq_true, true_and, hl0, Bool.not_false]
    | succ n ih =>
      intro m hm
      have hml : m < l.length := by omega
      have e := List.drop_eq_getElem_cons hml
      have eg : l.getD m 0 = l[m] := by rw [List.getD_eq_getElem?_getD, List.getElem?_eq_getElem hml]; rfl
      have hi := ih (m + 1) (by omega)
      rw [Nat.add_sub_cancel, eg] at hi
      rw [e, List.all_cons, hyL, List.range_succ_eq_map, List.all_cons, List.all_map]
      have hs : (List.range n).all ((fun j => refB l (m + j)) ∘ Nat.succ) = (List.range n).all fun j => refB l (m + 1 + j) := by
        congr 1
        funext j
        show refB l (m + (j + 1)) = _
        rw [show m + (j + 1) = m + 1 + j by omega]
      rw [hs]
      simp only [Nat.add_zero]
      have hl0 : ¬ l.length = 0 := by omega
      have d0 : decide (m ≠ 0 ∧ n + 1 = 0 ∧ l.getD (m - 1) 0 = 45) = false := by simp
      rw [d0, decide_eq_false hl0]
      rw [decide_eq_false hl0] at hi
      simp only [Nat.succ_ne_zero, decide_false, Bool.false_or, ne_eq, not_false_eq_true, true_and, Nat.add_eq_zero_iff, false_and, and_false, Nat.one_ne_zero] at hi
      by_cases hx : l[m] = 45
      · have e45 : evC l[m] = true := by rw [hx]; decide
        rw [if_pos hx, e45]
        rw [decide_eq_true hx] at hi
        have hr : refB l m = !(decide (m = 0) || decide (m + 1 = l.length) || decide (l.getD (m - 1) 0 = 45)) := by unfold refB; rw [eg, if_pos hx]
        rw [hr]
        simp only [Bool.true_and, Bool.not_false, Bool.and_true] at hi ⊢
        have hn : decide (m + 1 = l.length) = decide (n = 0) := by rw [decide_eq_decide]; omega
        rw [hn]
        have ho : ((l.drop (m + 1)).all evC && (!(decide (m = 0) || decide (l.getD (m - 1) 0 = 45)) && hyL true (l.drop (m + 1)))) = (!(decide (m = 0) || decide (l.getD (m - 1) 0 = 45)) && ((l.drop (m + 1)).all evC && hyL true (l.drop (m + 1)))) := by
          cases (l.drop (m + 1)).all evC <;> cases hyL true (l.drop (m + 1)) <;> simp
        rw [ho, hi]
        cases decide (m = 0) <;> cases decide (l.getD (m - 1) 0 = 45) <;> by_cases hn0 : n = 0 <;> simp [hn0, hx]
      · rw [if_neg hx]
        rw [decide_eq_false hx] at hi
        have hr : refB l m = evC l[m] := by unfold refB; rw [eg, if_neg hx]
        rw [hr, Bool.and_assoc, hi]
        simp [hx]
  have := key l.length 0 (by omega)
  simp only [List.drop_zero, decide_true, Bool.true_or, ne_eq, not_true_eq_false, false_and, decide_false, Bool.not_false, Nat.zero_add, Bool.true_and] at this
  rw [this, decide_eq_false (by omega)]
  simp
end Go.Proofs.YteelccgaemmmpaaDoor
