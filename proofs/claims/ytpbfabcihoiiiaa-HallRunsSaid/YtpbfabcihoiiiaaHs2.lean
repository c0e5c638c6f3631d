/- The runs' law, plain: maximal, in rows, rising, and just the free seats. -/
import Derived.Test.YtpbfabcihoiiiaaHs1
namespace Go.Proofs.Ytpbfabcihoiiiaa
set_option linter.unusedVariables false
set_option linter.unusedSimpArgs false

theorem sts_all {L : List HRow} (hL : L.length ≤ 8) : sts L = stN L 64 := by
  unfold sts
  rw [Nat.min_eq_left hL]
  have : ∀ d, stN L (8 * L.length + d) = stN L (8 * L.length) := by
    intro d
    induction d with
    | zero => rfl
    | succ d ih =>
      rw [← Nat.add_assoc, stN, ih]
      unfold stA
      rw [List.getElem?_eq_none (by omega)]
      simp
  have h := this (64 - 8 * L.length)
  rw [show 8 * L.length + (64 - 8 * L.length) = 64 by omega] at h
  exact h.symm
/-- What holds of the runs of the first n seats. -/
structure RnL (F : Nat → Bool) (n : Nat) (st : RnS) : Prop where
  each : ∀ x ∈ st.1, 0 ≤ x.1 ∧ 1 ≤ x.2 ∧ x.1 / 8 = (x.1 + x.2 - 1) / 8 ∧ x.1 + x.2 ≤ n
  left : ∀ x ∈ st.1, 0 < x.1 % 8 → F (x.1 - 1).toNat = false
  right : ∀ x ∈ st.1, 0 < (x.1 + x.2) % 8 → x.1 + x.2 < n → F (x.1 + x.2).toNat = false
  ord : st.1.Pairwise (fun a b => a.1 + a.2 ≤ b.1)
  cov : ∀ j : Nat, j < n → (F j = true ↔ ∃ x ∈ st.1, x.1 ≤ (j : Int) ∧ (j : Int) < x.1 + x.2)
  last : ∀ q x, st.1 = q ++ [x] → st.2 = x.1 + x.2 - 1
theorem RnL.skip {F : Nat → Bool} {n : Nat} {st : RnS} (h : RnL F n st) (hF : F n = false) : RnL F (n + 1) st := by
  obtain ⟨h1, h2, h3, h4, h5, h6⟩ := h
  refine ⟨fun x hx => ?_, h2, fun x hx hm hn => ?_, h4, fun j hj => ?_, h6⟩
  · have := h1 x hx
    omega
  · have := h1 x hx
    by_cases e : x.1 + x.2 < n
    · exact h3 x hx hm e
    · rw [show (x.1 + x.2).toNat = n by omega]
      exact hF
  · by_cases e : j = n
    · subst e
      constructor
      · intro q
        rw [hF] at q
        cases q
      · rintro ⟨x, hx, _, q⟩
        have := h1 x hx
        omega
    · exact h5 j (by omega)
theorem RnL.new {F : Nat → Bool} {n : Nat} {st : RnS} (h : RnL F n st) (hF : F n = true) (hj : joinB st n = false) : RnL F (n + 1) (st.1 ++ [((n : Int), 1)], n) := by
  obtain ⟨h1, h2, h3, h4, h5, h6⟩ := h
  have hin : ∀ x ∈ st.1 ++ [((n : Int), (1 : Int))], x ∈ st.1 ∨ x = ((n : Int), 1) := fun x hx => by
    rcases List.mem_append.1 hx with hx | hx
    · exact .inl hx
    · exact .inr (List.mem_singleton.1 hx)
  refine ⟨fun x hx => ?_, fun x hx hm => ?_, fun x hx hm hn => ?_, ?_, fun j hjn => ?_, fun q x hq => ?_⟩
  · rcases hin x hx with hx | rfl
    · have := h1 x hx
      omega
    · dsimp only
      omega
  · rcases hin x hx with hx | rfl
    · exact h2 x hx hm
    · dsimp only at hm ⊢
      cases e : F ((n : Int) - 1).toNat with
      | false => rfl
      | true =>
        exfalso
        obtain ⟨x, hx, a, b⟩ := (h5 ((n : Int) - 1).toNat (by omega)).1 e
        rcases List.eq_nil_or_concat st.1 with e0 | ⟨q, y, e0⟩
        · rw [e0] at hx
          cases hx
        · rw [List.concat_eq_append] at e0
          have hl := h6 q y e0
          have hy := h1 y (by rw [e0]; simp)
          have hyn : y.1 + y.2 = n := by
            rw [e0] at hx
            rcases List.mem_append.1 hx with hx | hx
            · rw [e0, List.pairwise_append] at h4
              have := h4.2.2 x hx y (by simp)
              have := h1 x (by rw [e0]; simp [hx])
              omega
            · rw [List.mem_singleton] at hx
              subst hx
              omega
          have : joinB st n = true := by
            unfold joinB
            rw [e0]
            simp
            omega
          rw [hj] at this
          cases this
  · rcases hin x hx with hx | rfl
    · have := h1 x hx
      by_cases e : x.1 + x.2 < n
      · exact h3 x hx hm e
      · exfalso
        have hxn : x.1 + x.2 = n := by omega
        rcases List.eq_nil_or_concat st.1 with e0 | ⟨q, y, e0⟩
        · rw [e0] at hx
          cases hx
        · rw [List.concat_eq_append] at e0
          have hl := h6 q y e0
          have hy := h1 y (by rw [e0]; simp)
          have hyn : y.1 + y.2 = n := by
            rw [e0] at hx
            rcases List.mem_append.1 hx with hx | hx
            · rw [e0, List.pairwise_append] at h4
              have := h4.2.2 x hx y (by simp)
              omega
            · rw [List.mem_singleton] at hx
              subst hx
              omega
          have : joinB st n = true := by
            unfold joinB
            rw [e0]
            simp
            omega
          rw [hj] at this
          cases this
    · dsimp only at hn
      omega
  · dsimp only
    rw [List.pairwise_append]
    refine ⟨h4, List.pairwise_singleton _ _, fun a ha b hb => ?_⟩
    rw [List.mem_singleton] at hb
    subst hb
    exact (h1 a ha).2.2.2
  · by_cases e : j = n
    · subst e
      exact ⟨fun _ => ⟨((j : Int), 1), by simp, by dsimp only; omega, by dsimp only; omega⟩, fun _ => hF⟩
    · rw [h5 j (by omega)]
      constructor
      · rintro ⟨x, hx, a, b⟩
        exact ⟨x, by simp [hx], a, b⟩
      · rintro ⟨x, hx, a, b⟩
        rcases hin x hx with hx | rfl
        · exact ⟨x, hx, a, b⟩
        · dsimp only at a b
          omega
  · dsimp only at hq ⊢
    obtain ⟨_, e⟩ := List.append_inj' hq rfl
    simp only [List.cons.injEq, and_true] at e
    subst e
    dsimp only
    omega
theorem RnL.join {F : Nat → Bool} {n : Nat} {st : RnS} (h : RnL F n st) (hF : F n = true) (hj : joinB st n = true) : RnL F (n + 1) (bump st.1, n) := by
  obtain ⟨s1, s2⟩ := st
  obtain ⟨h1, h2, h3, h4, h5, h6⟩ := h
  dsimp only at h1 h2 h3 h4 h5 h6 ⊢
  unfold joinB at hj
  simp only [Bool.and_eq_true, decide_eq_true_eq, beq_iff_eq] at hj
  obtain ⟨hl, hn, hm⟩ := hj
  rcases List.eq_nil_or_concat s1 with e0 | ⟨q, y, e0⟩
  · rw [e0] at hl
    simp at hl
  rw [List.concat_eq_append] at e0
  subst e0
  have hs := h6 q y rfl
  have hy := h1 y (by simp)
  have hyn : y.1 + y.2 = n := by omega
  rw [bump_snoc]
  have hin : ∀ x ∈ q ++ [(y.1, y.2 + 1)], x ∈ q ∨ x = (y.1, y.2 + 1) := fun x hx => by
    rcases List.mem_append.1 hx with hx | hx
    · exact .inl hx
    · exact .inr (List.mem_singleton.1 hx)
  rw [List.pairwise_append] at h4
  refine ⟨fun x hx => ?_, fun x hx hm => ?_, fun x hx hm hn => ?_, ?_, fun j hjn => ?_, fun q' x hq => ?_⟩
  · rcases hin x hx with hx | rfl
    · have := h1 x (by simp [hx])
      omega
    · dsimp only
      omega
  · rcases hin x hx with hx | rfl
    · exact h2 x (by simp [hx]) hm
    · exact h2 y (by simp) hm
  · rcases hin x hx with hx | rfl
    · have a := h1 x (by simp [hx])
      have b := h4.2.2 x hx y (by simp)
      exact h3 x (by simp [hx]) hm (by omega)
    · dsimp only at hn
      omega
  · dsimp only
    rw [List.pairwise_append]
    refine ⟨h4.1, List.pairwise_singleton _ _, fun a ha b hb => ?_⟩
    rw [List.mem_singleton] at hb
    subst hb
    exact h4.2.2 a ha y (by simp)
  · by_cases e : j = n
    · subst e
      exact ⟨fun _ => ⟨(y.1, y.2 + 1), by simp, by dsimp only; omega, by dsimp only; omega⟩, fun _ => hF⟩
    · rw [h5 j (by omega)]
      constructor
      · rintro ⟨x, hx, a, b⟩
        rcases List.mem_append.1 hx with hx | hx
        · exact ⟨x, by simp [hx], a, b⟩
        · rw [List.mem_singleton] at hx
          subst hx
          exact ⟨(x.1, x.2 + 1), by simp, a, by dsimp only; omega⟩
      · rintro ⟨x, hx, a, b⟩
        rcases hin x hx with hx | rfl
        · exact ⟨x, by simp [hx], a, b⟩
        · dsimp only at a b
          exact ⟨y, by simp, a, by omega⟩
  · dsimp only at hq ⊢
    obtain ⟨_, e⟩ := List.append_inj' hq rfl
    simp only [List.cons.injEq, and_true] at e
    subst e
    dsimp only
    omega
theorem runs_law (L : List HRow) (cl : Int) (T : Nat → Bool) : ∀ n, RnL (opA L cl T) n (rnF cl T (stN L n))
  | 0 => ⟨fun x hx => (List.not_mem_nil hx).elim, fun x hx => (List.not_mem_nil hx).elim, fun x hx => (List.not_mem_nil hx).elim, List.Pairwise.nil, fun j hj => (Nat.not_lt_zero _ hj).elim, fun q x h => by
      have := congrArg List.length h
      simp [rnF, stN] at this⟩
  | n + 1 => by
    have ih := runs_law L cl T n
    rw [stN]
    unfold stA
    have hA : opA L cl T n = match L[n / 8]? with | some r => opR r cl (T n) (n % 8) | none => false := rfl
    cases hr : L[n / 8]? with
    | none =>
      rw [hr] at hA
      dsimp only at hA ⊢
      rw [List.append_nil]
      exact ih.skip hA
    | some r =>
      rw [hr] at hA
      dsimp only at hA ⊢
      unfold opR at hA
      by_cases hb : r.2.testBit (n % 8) = true
      · rw [if_pos hb, rnF_snoc]
        rw [hb, Bool.and_true] at hA
        cases hx : (r.1 != cl || T n) with
        | true =>
          have hsk : ((((n : Int), r.1) : Int × Int).2 != cl || T (((n : Int), r.1) : Int × Int).1.toNat) = true := hx
          have e : rnStep cl T (rnF cl T (stN L n)) ((n : Int), r.1) = rnF cl T (stN L n) := by unfold rnStep; rw [if_pos hsk]
          rw [e]
          refine ih.skip ?_
          rw [hA]
          revert hx
          cases h1 : (r.1 == cl) <;> cases T n <;> simp_all [bne]
        | false =>
          have hsk : ((((n : Int), r.1) : Int × Int).2 != cl || T (((n : Int), r.1) : Int × Int).1.toNat) = false := hx
          have hF : opA L cl T n = true := by
            rw [hA]
            revert hx
            cases h1 : (r.1 == cl) <;> cases T n <;> simp_all [bne]
          cases hj : joinB (rnF cl T (stN L n)) n with
          | true =>
            have e : rnStep cl T (rnF cl T (stN L n)) ((n : Int), r.1) = (bump (rnF cl T (stN L n)).1, (n : Int)) := by unfold rnStep; rw [if_neg (by rw [hsk]; decide), if_pos hj]
            rw [e]
            exact ih.join hF hj
          | false =>
            have e : rnStep cl T (rnF cl T (stN L n)) ((n : Int), r.1) = ((rnF cl T (stN L n)).1 ++ [((n : Int), 1)], (n : Int)) := by unfold rnStep; rw [if_neg (by rw [hsk]; decide), if_neg (by rw [hj]; decide)]
            rw [e]
            exact ih.new hF hj
      · rw [if_neg hb, List.append_nil]
        refine ih.skip ?_
        rw [hA, Bool.eq_false_iff.2 hb]
        simp
end Go.Proofs.Ytpbfabcihoiiiaa
