/- The seats, plain: which they are, and that they rise. -/
import Derived.Test.YtpbfabcihoiiiaaHs2
namespace Go.Proofs.Ytpbfabcihoiiiaa
set_option linter.unusedVariables false
set_option linter.unusedSimpArgs false

theorem stA_mem (L : List HRow) (q : Nat) (x : Int × Int) : x ∈ stA L q ↔ ∃ r, L[q / 8]? = some r ∧ r.2.testBit (q % 8) = true ∧ x = ((q : Int), r.1) := by
  unfold stA
  cases h : L[q / 8]? with
  | none => simp
  | some r =>
    dsimp only
    by_cases hb : r.2.testBit (q % 8) = true
    · rw [if_pos hb, List.mem_singleton]
      exact ⟨fun e => ⟨r, rfl, hb, e⟩, fun ⟨r', e, _, e2⟩ => by cases e; exact e2⟩
    · rw [if_neg hb]
      exact ⟨fun e => (List.not_mem_nil e).elim, fun ⟨r', e, h2, _⟩ => by cases e; exact (hb h2).elim⟩
theorem stN_mem (L : List HRow) (x : Int × Int) : ∀ n, x ∈ stN L n ↔ ∃ q : Nat, q < n ∧ ∃ r, L[q / 8]? = some r ∧ r.2.testBit (q % 8) = true ∧ x = ((q : Int), r.1)
  | 0 => ⟨fun h => (List.not_mem_nil h).elim, fun ⟨q, h, _⟩ => (Nat.not_lt_zero _ h).elim⟩
  | n + 1 => by
    rw [stN, List.mem_append, stN_mem L x n, stA_mem]
    constructor
    · rintro (⟨q, h, r⟩ | r)
      · exact ⟨q, by omega, r⟩
      · exact ⟨n, by omega, r⟩
    · rintro ⟨q, h, r⟩
      by_cases e : q = n
      · subst e
        exact .inr r
      · exact .inl ⟨q, by omega, r⟩
theorem stN_rise (L : List HRow) : ∀ n, (stN L n).Pairwise (fun a b => a.1 < b.1)
  | 0 => List.Pairwise.nil
  | n + 1 => by
    rw [stN, List.pairwise_append]
    refine ⟨stN_rise L n, ?_, fun a ha b hb => ?_⟩
    · unfold stA
      split
      · split
        · exact List.pairwise_singleton _ _
        · exact List.Pairwise.nil
      · exact List.Pairwise.nil
    · obtain ⟨q, hq, r, _, _, rfl⟩ := (stN_mem L a n).1 ha
      obtain ⟨r', _, _, rfl⟩ := (stA_mem L n b).1 hb
      dsimp only
      omega
theorem seat_one {L : List HRow} {n : Nat} {x y : Int × Int} (hx : x ∈ stN L n) (hy : y ∈ stN L n) (h : x.1 = y.1) : x = y := by
  obtain ⟨q, _, r, hr, _, rfl⟩ := (stN_mem L x n).1 hx
  obtain ⟨q', _, r', hr', _, rfl⟩ := (stN_mem L y n).1 hy
  dsimp only at h
  obtain rfl : q = q' := by omega
  rw [hr] at hr'
  cases hr'
  rfl
theorem has_iff (L : List HRow) (s : Int) : hasS L s = true ↔ ∃ x ∈ sts L, x.1 = s := by
  unfold hasS
  rw [List.any_eq_true]
  exact ⟨fun ⟨x, h, e⟩ => ⟨x, h, by simpa using e⟩, fun ⟨x, h, e⟩ => ⟨x, h, by simpa using e⟩⟩
theorem cls_at {L : List HRow} {x : Int × Int} (hx : x ∈ sts L) : clsS L x.1 = x.2 := by
  unfold clsS
  cases h : (sts L).find? (fun y => y.1 == x.1) with
  | none =>
    have := List.find?_eq_none.1 h x hx
    simp at this
  | some y =>
    have hy := List.mem_of_find?_eq_some h
    have e := List.find?_some h
    have e2 : y.1 = x.1 := by simpa using e
    rw [seat_one (n := 8 * min L.length 8) hy hx e2]
theorem cls_none {L : List HRow} {s : Int} (h : hasS L s = false) : clsS L s = -1 := by
  refine clsS_no (fun y hy => ?_)
  cases e : (y.1 == s) with
  | false => rfl
  | true =>
    have := (has_iff L s).2 ⟨y, hy, by simpa using e⟩
    rw [h] at this
    cases this
end Go.Proofs.Ytpbfabcihoiiiaa
