/- A map's runs: plain. -/
import Derived.Test.YtdaeibbjoefofaaDoorFm5
namespace Go.Proofs.YtdaeibbjoefofaaDoor
set_option linter.unusedVariables false
set_option linter.unusedSimpArgs false

/-- The last run is one longer. -/
def bump : List (Nat × Nat) → List (Nat × Nat)
  | [] => []
  | [x] => [(x.1, x.2 + 1)]
  | x :: y :: l => x :: bump (y :: l)
theorem bump_snoc : ∀ (l : List (Nat × Nat)) (x : Nat × Nat), bump (l ++ [x]) = l ++ [(x.1, x.2 + 1)]
  | [], x => rfl
  | [y], x => rfl
  | y :: z :: l, x => by
    show y :: bump (z :: l ++ [x]) = _
    rw [bump_snoc (z :: l) x]
    rfl
/-- The runs of what is free among the first k. -/
def runs (T : Nat → Bool) : Nat → List (Nat × Nat)
  | 0 => []
  | k + 1 => if T k then runs T k else if k ≠ 0 ∧ T (k - 1) = false then bump (runs T k) else runs T k ++ [(k, 1)]
theorem runs_used {T : Nat → Bool} {k : Nat} (h : T k = true) : runs T (k + 1) = runs T k := by rw [runs, if_pos h]
theorem runs_first {T : Nat → Bool} {k : Nat} (h : T k = false) (hk : k = 0 ∨ T (k - 1) = true) : runs T (k + 1) = runs T k ++ [(k, 1)] := by
  rw [runs, if_neg (by simp [h]), if_neg]
  rintro ⟨h1, h2⟩
  rcases hk with hk | hk
  · exact h1 hk
  · rw [h2] at hk; cases hk
theorem runs_more {T : Nat → Bool} {k : Nat} (h : T k = false) (hk : k ≠ 0) (hp : T (k - 1) = false) : runs T (k + 1) = bump (runs T k) := by
  rw [runs, if_neg (by simp [h]), if_pos ⟨hk, hp⟩]
theorem runs_run {T : Nat → Bool} {k : Nat} (hk : k = 0 ∨ T (k - 1) = true) : ∀ (m : Nat), (∀ j, j < m + 1 → T (k + j) = false) → runs T (k + (m + 1)) = runs T k ++ [(k, m + 1)]
  | 0, h => runs_first (by simpa using h 0 (by omega)) hk
  | m + 1, h => by
    have ih := runs_run hk m fun j hj => h j (by omega)
    rw [show k + (m + 1 + 1) = (k + (m + 1)) + 1 by omega, runs_more (h (m + 1) (by omega)) (by omega) (by rw [show k + (m + 1) - 1 = k + m by omega]; exact h m (by omega)), ih, bump_snoc]
theorem bump_len : ∀ l, (bump l).length = l.length
  | [] => rfl
  | [x] => rfl
  | x :: y :: l => by
    have := bump_len (y :: l)
    simp only [bump, List.length_cons] at *
    omega
theorem runs_len (T : Nat → Bool) : ∀ n, (runs T n).length ≤ n
  | 0 => Nat.le_refl _
  | k + 1 => by
    have := runs_len T k
    rw [runs]
    split
    · omega
    · split
      · rw [bump_len]; omega
      · rw [List.length_append, List.length_singleton]; omega
/-- What has come is a beginning of all. -/
theorem runs_pre {T : Nat → Bool} {k : Nat} (hk : k = 0 ∨ T (k - 1) = true) : ∀ m, runs T k <+: runs T (k + m)
  | 0 => ⟨[], by simp⟩
  | m + 1 => by
    obtain ⟨r, hr⟩ := runs_pre hk m
    rw [show k + (m + 1) = (k + m) + 1 by omega, runs]
    split
    · exact ⟨r, hr⟩
    · rename_i hf
      split
      · rename_i hc
        cases List.eq_nil_or_concat r with
        | inl e =>
          subst e
          exfalso
          rw [List.append_nil] at hr
          cases m with
          | zero =>
            rcases hk with h | h
            · exact hc.1 (by omega)
            · rw [Nat.add_zero] at hc; rw [hc.2] at h; cases h
          | succ m =>
            have hq := hc.2
            rw [show k + (m + 1) - 1 = k + m by omega] at hq
            -- the last one below is free, so something has come since
            have : ∃ j, j ≤ m ∧ (∀ i, i < m + 1 - j → T (k + j + i) = false) ∧ (k + j = 0 ∨ T (k + j - 1) = true) := by
              clear hr hc hf
              induction m with
              | zero => exact ⟨0, by omega, fun i hi => by rw [show k + 0 + i = k + 0 by omega]; exact hq, hk⟩
              | succ m ih =>
                cases ht : T (k + m) with
                | true => exact ⟨m + 1, by omega, fun i hi => by rw [show k + (m + 1) + i = k + (m + 1) by omega]; exact hq, .inr (by rw [show k + (m + 1) - 1 = k + m by omega]; exact ht)⟩
                | false =>
                  obtain ⟨j, h1, h2, h3⟩ := ih ht
                  refine ⟨j, by omega, fun i hi => ?_, h3⟩
                  by_cases e : i < m + 1 - j
                  · exact h2 i e
                  · rw [show k + j + i = k + (m + 1) by omega]; exact hq
            obtain ⟨j, h1, h2, h3⟩ := this
            have hrun := runs_run h3 (m - j) (fun i hi => h2 i (by omega))
            rw [show k + j + (m - j + 1) = k + (m + 1) by omega] at hrun
            obtain ⟨r2, hr2⟩ := runs_pre hk j
            rw [← hr, ← hr2] at hrun
            have := congrArg List.length hrun
            simp at this
        | inr e =>
          obtain ⟨r', x, rfl⟩ := e
          refine ⟨r' ++ [(x.1, x.2 + 1)], ?_⟩
          rw [← hr, List.concat_eq_append, ← List.append_assoc, ← List.append_assoc, bump_snoc]
      · exact ⟨r ++ [(k + m, 1)], by rw [← hr, List.append_assoc]⟩
theorem runs_pre2 {T : Nat → Bool} {p n : Nat} (hp : p ≤ n) (h : p = n ∨ p = 0 ∨ T (p - 1) = true ∨ T p = true) : runs T p <+: runs T n := by
  rcases h with h | h | h | h
  · subst h; exact List.prefix_refl _
  · have := runs_pre (T := T) (k := p) (.inl h) (n - p)
    rwa [show p + (n - p) = n by omega] at this
  · have := runs_pre (T := T) (k := p) (.inr h) (n - p)
    rwa [show p + (n - p) = n by omega] at this
  · by_cases e : p = n
    · subst e; exact List.prefix_refl _
    · have := runs_pre (T := T) (k := p + 1) (.inr h) (n - (p + 1))
      rwa [show p + 1 + (n - (p + 1)) = n by omega, runs_used h] at this
end Go.Proofs.YtdaeibbjoefofaaDoor
