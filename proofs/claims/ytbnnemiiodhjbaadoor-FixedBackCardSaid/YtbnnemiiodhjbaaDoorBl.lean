/- The order of laid numbers, plain. -/
import Derived.Test.YtbnnemiiodhjbaaDoorBy
namespace Go.Proofs.YtbnnemiiodhjbaaDoor
open Go.RowKit
set_option linter.unusedVariables false
set_option linter.unusedSimpArgs false

theorem bl_nil (p : List UInt8) : Op.bytesLess p [] = false := by cases p <;> rfl
/-- Lists of bytes of one length: the first that differs tells. -/
theorem bl_append : ∀ (a b : List UInt8) (x y : List UInt8), a.length = b.length → Op.bytesLess (a ++ x) (b ++ y) = (Op.bytesLess a b || (a == b && Op.bytesLess x y))
  | [], [], x, y, _ => by simp [bl_nil]
  | p :: a, q :: b, x, y, h => by
    have ih := bl_append a b x y (by simpa using h)
    show (decide (p < q) || (p == q && Op.bytesLess (a ++ x) (b ++ y))) = ((decide (p < q) || (p == q && Op.bytesLess a b)) || ((p :: a) == (q :: b) && Op.bytesLess x y))
    rw [ih]
    by_cases e : p = q
    · subst e
      have : ((p :: a) == (p :: b)) = (a == b) := by simp
      rw [this]
      simp [UInt8.lt_irrefl]
    · have : ((p :: a) == (q :: b)) = false := by simp [e]
      have e2 : (p == q) = false := by simpa using e
      rw [this, e2]
      simp

theorem ofNat_lt {m n : Nat} (hm : m < 256) (hn : n < 256) : (UInt8.ofNat m < UInt8.ofNat n) = (m < n) := by
  rw [UInt8.lt_iff_toNat_lt]
  simp [Nat.mod_eq_of_lt hm, Nat.mod_eq_of_lt hn]
theorem dlt {m n : Nat} (hm : m < 256) (hn : n < 256) : decide (UInt8.ofNat m < UInt8.ofNat n) = decide (m < n) := by
  rw [decide_eq_decide, ofNat_lt hm hn]
theorem ofNat_eq {m n : Nat} (hm : m < 256) (hn : n < 256) : (UInt8.ofNat m == UInt8.ofNat n) = decide (m = n) := by
  by_cases e : m = n
  · subst e; simp
  · have : UInt8.ofNat m ≠ UInt8.ofNat n := fun h => e (by
      have := congrArg UInt8.toNat h
      simpa [Nat.mod_eq_of_lt hm, Nat.mod_eq_of_lt hn] using this)
    simp [e, this]

theorem bl_one {m n : Nat} (hm : m < 256) (hn : n < 256) : Op.bytesLess (beB 1 m) (beB 1 n) = decide (m < n) := by
  show (decide (UInt8.ofNat (m % 256) < UInt8.ofNat (n % 256)) || (UInt8.ofNat (m % 256) == UInt8.ofNat (n % 256) && Op.bytesLess [] [])) = _
  rw [Nat.mod_eq_of_lt hm, Nat.mod_eq_of_lt hn, dlt hm hn]
  simp [bl_nil]
theorem beB_eq {k : Nat} : ∀ {m n : Nat}, m < 256 ^ k → n < 256 ^ k → (beB k m == beB k n) = decide (m = n) := by
  induction k with
  | zero => intro m n hm hn; simp [beB]; omega
  | succ k ih =>
    intro m n hm hn
    have e1 := ih (m := m / 256) (n := n / 256) (by rw [Nat.pow_succ] at hm; omega) (by rw [Nat.pow_succ] at hn; omega)
    have e2 := ofNat_eq (m := m % 256) (n := n % 256) (by omega) (by omega)
    have hl : (beB k (m / 256)).length = (beB k (n / 256)).length := by rw [beB_len, beB_len]
    rw [Bool.eq_iff_iff] at e1 e2 ⊢
    simp only [beq_iff_eq, decide_eq_true_eq] at e1 e2 ⊢
    show beB k (m / 256) ++ [UInt8.ofNat (m % 256)] = beB k (n / 256) ++ [UInt8.ofNat (n % 256)] ↔ m = n
    constructor
    · intro h
      obtain ⟨h1, h2⟩ := List.append_inj h hl
      have h3 := e1.1 h1
      have h4 := e2.1 (by simpa using h2)
      omega
    · intro h; subst h; rfl
theorem bl_beB {k : Nat} : ∀ {m n : Nat}, m < 256 ^ k → n < 256 ^ k → Op.bytesLess (beB k m) (beB k n) = decide (m < n) := by
  induction k with
  | zero => intro m n hm hn; simp [beB, bl_nil]; omega
  | succ k ih =>
    intro m n hm hn
    have hm' : m / 256 < 256 ^ k := by rw [Nat.pow_succ] at hm; omega
    have hn' : n / 256 < 256 ^ k := by rw [Nat.pow_succ] at hn; omega
    show Op.bytesLess (beB k (m / 256) ++ [UInt8.ofNat (m % 256)]) (beB k (n / 256) ++ [UInt8.ofNat (n % 256)]) = _
    rw [bl_append _ _ _ _ (by rw [beB_len, beB_len]), ih hm' hn', beB_eq hm' hn']
    show (decide (m / 256 < n / 256) || (decide (m / 256 = n / 256) && (decide (UInt8.ofNat (m % 256) < UInt8.ofNat (n % 256)) || (UInt8.ofNat (m % 256) == UInt8.ofNat (n % 256) && false)))) = _
    rw [dlt (by omega) (by omega), Bool.and_false, Bool.or_false, Bool.eq_iff_iff]
    simp only [Bool.or_eq_true, Bool.and_eq_true, decide_eq_true_eq]
    omega

end Go.Proofs.YtbnnemiiodhjbaaDoor
