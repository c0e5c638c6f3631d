/- KeysEnds: the plain law. -/
import Derived.Test.YtdnnbnohemkfkaaDoorK
namespace Go.Proofs.YtdnnbnohemkfkaaDoor
open Go.RowKit
set_option linter.unusedVariables false

theorem strip_cons (a : UInt8) (p : List UInt8) : strip (a :: p) = if strip p = [] then (if a = 255 then [] else [a]) else a :: strip p := by
  unfold strip
  rw [List.reverse_cons, List.dropWhile_append]
  by_cases h : (List.dropWhile (· == 255) p.reverse) = []
  · rw [h]
    by_cases ha : a = 255 <;> simp [ha]
  · rw [if_neg (by simpa using h)]
    simp [h]

theorem kEnd_cons (a : UInt8) (p : List UInt8) : kEnd (a :: p) = if kEnd p = [] then (if a = 255 then [] else [a + 1]) else a :: kEnd p := by
  unfold kEnd
  rw [strip_cons]
  by_cases h : strip p = []
  · rw [if_pos h, if_pos h]
    by_cases ha : a = 255 <;> simp [ha]
  · obtain ⟨x, l, hx⟩ : ∃ x l, strip p = x :: l := by
      cases hs : strip p with
      | nil => exact absurd hs h
      | cons x l => exact ⟨x, l, rfl⟩
    rw [if_neg h, hx]
    cases l <;> simp

theorem bl_nil (p : List UInt8) : Op.bytesLess p [] = false := by cases p <;> rfl
theorem bl_nil_cons (a : UInt8) (p : List UInt8) : Op.bytesLess [] (a :: p) = true := rfl
theorem bl_lt {a b : UInt8} (h : a < b) (x y : List UInt8) : Op.bytesLess (a :: x) (b :: y) = true := by
  simp [Op.bytesLess, h]
theorem bl_gt {a b : UInt8} (h : b < a) (x y : List UInt8) : Op.bytesLess (a :: x) (b :: y) = false := by
  have h1 : ¬ a < b := by rw [UInt8.lt_iff_toNat_lt] at *; omega
  have h2 : (a == b) = false := by rw [beq_eq_false_iff_ne]; rintro rfl; rw [UInt8.lt_iff_toNat_lt] at h; omega
  simp only [Op.bytesLess, h1, h2]
  simp
theorem bl_eq (a : UInt8) (x y : List UInt8) : Op.bytesLess (a :: x) (a :: y) = Op.bytesLess x y := by
  have h1 : ¬ a < a := by rw [UInt8.lt_iff_toNat_lt]; omega
  simp [Op.bytesLess, h1]

theorem kEnd_nil_iff : ∀ p : List UInt8, (kEnd p).isEmpty = p.all (· == 255)
  | [] => rfl
  | a :: p => by
    have ih := kEnd_nil_iff p
    rw [kEnd_cons, List.all_cons, ← ih]
    by_cases h : kEnd p = []
    · rw [if_pos h, h]
      by_cases ha : a = 255 <;> simp [ha]
    · rw [if_neg h]
      have : (kEnd p).isEmpty = false := by simpa using h
      rw [this, Bool.and_false]; rfl

/-- THE PLAIN LAW: a text begins with another one just if it is not below that, and is below its end, if it has one. -/
theorem ends_law : ∀ (p s : List UInt8), p.isPrefixOf s = (!(Op.bytesLess s p) && ((kEnd p).isEmpty || Op.bytesLess s (kEnd p)))
  | [], s => by rw [bl_nil]; rfl
  | a :: p, [] => by rw [bl_nil_cons]; rfl
  | a :: p, b :: s => by
    have ih := ends_law p s
    rw [kEnd_cons, List.isPrefixOf_cons_cons]
    by_cases h1 : b < a
    · rw [bl_lt h1]
      have hne : (a == b) = false := by rw [beq_eq_false_iff_ne]; rintro rfl; rw [UInt8.lt_iff_toNat_lt] at h1; omega
      rw [hne]; rfl
    · by_cases h2 : a = b
      · subst h2
        rw [bl_eq, beq_self_eq_true, Bool.true_and, ih]
        by_cases hk : kEnd p = []
        · rw [if_pos hk, hk]
          by_cases ha : a = 255
          · rw [if_pos ha]; rfl
          · rw [if_neg ha]
            have hlt : a < a + 1 := by
              rw [UInt8.lt_iff_toNat_lt, UInt8.toNat_add]
              have := a.toNat_lt
              have : a.toNat ≠ 255 := fun h => ha (UInt8.toNat_inj.1 (by simpa using h))
              simp; omega
            rw [bl_lt hlt]; simp
        · rw [if_neg hk, bl_eq]
          have : (kEnd p).isEmpty = false := by simpa using hk
          rw [this]; rfl
      · have h3 : a < b := by
          rw [UInt8.lt_iff_toNat_lt] at *
          have : a.toNat ≠ b.toNat := fun h => h2 (UInt8.toNat_inj.1 h)
          omega
        have hne : (a == b) = false := by rw [beq_eq_false_iff_ne]; exact h2
        rw [hne, Bool.false_and, bl_gt h3]
        by_cases hk : kEnd p = []
        · rw [if_pos hk]
          by_cases ha : a = 255
          · subst ha
            rw [UInt8.lt_iff_toNat_lt] at h3
            have := b.toNat_lt
            simp at h3; omega
          · rw [if_neg ha]
            have hle : a + 1 < b ∨ a + 1 = b := by
              rw [UInt8.lt_iff_toNat_lt] at *
              have h5 : (a + 1).toNat = a.toNat + 1 := by
                rw [UInt8.toNat_add]
                have := a.toNat_lt
                have : a.toNat ≠ 255 := fun h => ha (UInt8.toNat_inj.1 (by simpa using h))
                simp; omega
              rcases Nat.lt_or_ge (a + 1).toNat b.toNat with h | h
              · exact .inl h
              · exact .inr (UInt8.toNat_inj.1 (by omega))
            rcases hle with h | h
            · rw [bl_gt h]; rfl
            · rw [← h, bl_eq, bl_nil]; rfl
        · rw [if_neg hk, bl_gt h3]; rfl
end Go.Proofs.YtdnnbnohemkfkaaDoor
