/- How many bytes a number needs: math/bits.Len64. -/
import Derived.Test.YtemngdhbicndlaaDoorVa1
import Derived.Test.YtemngdhbicndlaaDoorKt
namespace Go.Proofs.YtemngdhbicndlaaDoor
open Go.RowKit
set_option linter.unusedVariables false
set_option linter.unusedSimpArgs false

theorem nb_shift (j n : Nat) (h : 256 ^ j ≤ n) : nb n = nb (n / 256 ^ j) + j := by
  induction j generalizing n with
  | zero => simp
  | succ j ih =>
    have hn : n ≠ 0 := by
      have : 0 < 256 ^ (j + 1) := Nat.pow_pos (by decide)
      omega
    rw [nb_pos hn, ih (n / 256) (by rw [Nat.pow_succ] at h; omega), Nat.div_div_eq_div_mul, show 256 * 256 ^ j = 256 ^ (j + 1) by rw [Nat.pow_succ, Nat.mul_comm]]
    omega
theorem nb_small {n : Nat} (h : n < 256) : nb n = if n = 0 then 0 else 1 := by
  by_cases e : n = 0
  · subst e
    rw [nb_zero]
    rfl
  · rw [nb_pos e, show n / 256 = 0 by omega, nb_zero, if_neg e]
end Go.Proofs.YtemngdhbicndlaaDoor
