/- The order of keys: plain. -/
import Derived.Test.YtdnnbnohemkfkaaDoorQ7
import Derived.Test.YtdnnbnohemkfkaaDoorO
namespace Go.Proofs.YtdnnbnohemkfkaaDoor
open Go.RowKit
set_option linter.unusedVariables false
set_option linter.unusedSimpArgs false

/-- Lists of bytes of one length: the first that differs tells. -/
theorem bl_append : ∀ (a b : List UInt8) (x y : List UInt8), a.length = b.length → Op.bytesLess (a ++ x) (b ++ y) = (Op.bytesLess a b || (a == b && Op.bytesLess x y))
  | [], [], x, y, _ => by simp [bl_nil]
  | p :: a, q :: b, x, y, h => by
    have ih := bl_append a b x y (by simpa using h)
    show (decide (p < q) || (p == q && Op.bytesLess (a ++ x) (b ++ y))) = ((decide (p < q) || (p == q && Op.bytesLess a b)) || ((p :: a) == (q :: b) && Op.bytesLess x y))
    rw [ih]
    by_cases e : p = q
    · subst e
      have : ((p :: a) == (p :: b)) = (a == b) := by simp
      rw [this]
      simp [UInt8.lt_irrefl]
    · have : ((p :: a) == (q :: b)) = false := by simp [e]
      have e2 : (p == q) = false := by simpa using e
      rw [this, e2]
      simp

theorem ofNat_lt {m n : Nat} (hm : m < 256) (hn : n < 256) : (UInt8.ofNat m < UInt8.ofNat n) = (m < n) := by
  rw [UInt8.lt_iff_toNat_lt]
  simp [Nat.mod_eq_of_lt hm, Nat.mod_eq_of_lt hn]
theorem dlt {m n : Nat} (hm : m < 256) (hn : n < 256) : decide (UInt8.ofNat m < UInt8.ofNat n) = decide (m < n) := by
  rw [decide_eq_decide, ofNat_lt hm hn]
theorem ofNat_eq {m n : Nat} (hm : m < 256) (hn : n < 256) : (UInt8.ofNat m == UInt8.ofNat n) = decide (m = n) := by
  by_cases e : m = n
  · subst e; simp
  · have : UInt8.ofNat m ≠ UInt8.ofNat n := fun h => e (by
      have := congrArg UInt8.toNat h
      simpa [Nat.mod_eq_of_lt hm, Nat.mod_eq_of_lt hn] using this)
    simp [e, this]

theorem bl_one {m n : Nat} (hm : m < 256) (hn : n < 256) : Op.bytesLess (beB 1 m) (beB 1 n) = decide (m < n) := by
  show (decide (UInt8.ofNat (m % 256) < UInt8.ofNat (n % 256)) || (UInt8.ofNat (m % 256) == UInt8.ofNat (n % 256) && Op.bytesLess [] [])) = _
  rw [Nat.mod_eq_of_lt hm, Nat.mod_eq_of_lt hn, dlt hm hn]
  simp [bl_nil]
theorem beB_eq {k : Nat} : ∀ {m n : Nat}, m < 256 ^ k → n < 256 ^ k → (beB k m == beB k n) = decide (m = n) := by
  induction k with
  | zero => intro m n hm hn; simp [beB]; omega
  | succ k ih =>
    intro m n hm hn
    have e1 := ih (m := m / 256) (n := n / 256) (by rw [Nat.pow_succ] at hm; omega) (by rw [Nat.pow_succ] at hn; omega)
    have e2 := ofNat_eq (m := m % 256) (n := n % 256) (by omega) (by omega)
    have hl : (beB k (m / 256)).length = (beB k (n / 256)).length := by rw [beB_len, beB_len]
    rw [Bool.eq_iff_iff] at e1 e2 ⊢
    simp only [beq_iff_eq, decide_eq_true_eq] at e1 e2 ⊢
    show beB k (m / 256) ++ [UInt8.ofNat (m % 256)] = beB k (n / 256) ++ [UInt8.ofNat (n % 256)] ↔ m = n
    constructor
    · intro h
      obtain ⟨h1, h2⟩ := List.append_inj h hl
      have h3 := e1.1 h1
      have h4 := e2.1 (by simpa using h2)
      omega
    · intro h; subst h; rfl
theorem bl_beB {k : Nat} : ∀ {m n : Nat}, m < 256 ^ k → n < 256 ^ k → Op.bytesLess (beB k m) (beB k n) = decide (m < n) := by
  induction k with
  | zero => intro m n hm hn; simp [beB, bl_nil]; omega
  | succ k ih =>
    intro m n hm hn
    have hm' : m / 256 < 256 ^ k := by rw [Nat.pow_succ] at hm; omega
    have hn' : n / 256 < 256 ^ k := by rw [Nat.pow_succ] at hn; omega
    show Op.bytesLess (beB k (m / 256) ++ [UInt8.ofNat (m % 256)]) (beB k (n / 256) ++ [UInt8.ofNat (n % 256)]) = _
    rw [bl_append _ _ _ _ (by rw [beB_len, beB_len]), ih hm' hn', beB_eq hm' hn']
    show (decide (m / 256 < n / 256) || (decide (m / 256 = n / 256) && (decide (UInt8.ofNat (m % 256) < UInt8.ofNat (n % 256)) || (UInt8.ofNat (m % 256) == UInt8.ofNat (n % 256) && false)))) = _
    rw [dlt (by omega) (by omega), Bool.and_false, Bool.or_false, Bool.eq_iff_iff]
    simp only [Bool.or_eq_true, Bool.and_eq_true, decide_eq_true_eq]
    omega

section
variable {x y : Int} (hx : 0 ≤ x ∧ x < 4) (hy : 0 ≤ y ∧ y < 4)
include hx
theorem inB3 : inB 0 3 x = true := by simp [inB]; omega
theorem kId_is (id : Int) : kId x id = beB 1 x.toNat ++ beB 4 id.toNat := by
  unfold kId
  have e : (x % 256).toNat = x.toNat := by omega
  rw [keyB_two, inB3 hx, e]
  simp
theorem kSeat_is {m s : Int} (hm : 1 ≤ m ∧ m ≤ 2) (hs : 0 ≤ s ∧ s < 64) : kSeat x m s = beB 1 x.toNat ++ (beB 1 m.toNat ++ beB 1 s.toNat) := by
  unfold kSeat
  have e : (x % 256).toNat = x.toNat := by omega
  have e2 : (m % 256).toNat = m.toNat := by omega
  have e3 : (s % 256).toNat = s.toNat := by omega
  have b2 : inB 1 2 m = true := by simp [inB]; omega
  have b3 : inB 0 63 s = true := by simp [inB]; omega
  rw [keyB_three, inB3 hx, b2, b3, e, e2, e3]
  simp
theorem kPerson_is {p : List UInt8} (hp : personB p = true) (id : Int) : kPerson x p id = beB 1 x.toNat ++ (textB p ++ beB 4 id.toNat) := by
  unfold kPerson
  have e : (x % 256).toNat = x.toNat := by omega
  rw [keyB_three, inB3 hx, hp, e]
  simp
theorem kPersons_is {p : List UInt8} (hp : personB p = true) : kPersons x p = beB 1 x.toNat ++ textB p := by
  unfold kPersons
  have e : (x % 256).toNat = x.toNat := by omega
  rw [keyB_two, inB3 hx, hp, e]
  simp
include hy
theorem id_less {a b : Int} (ha : 0 ≤ a ∧ a < 4294967296) (hb : 0 ≤ b ∧ b < 4294967296) : Op.bytesLess (kId x a) (kId y b) = (decide (x < y) || (x == y && decide (a < b))) := by
  rw [kId_is hx, kId_is hy, bl_append _ _ _ _ (by rw [beB_len, beB_len]), bl_one (by omega) (by omega), beB_eq (k := 1) (by omega) (by omega), bl_beB (k := 4) (by omega) (by omega), Bool.eq_iff_iff]
  simp only [Bool.or_eq_true, Bool.and_eq_true, decide_eq_true_eq, beq_iff_eq]
  omega
theorem seat_less {m n i k : Int} (hm : 1 ≤ m ∧ m ≤ 2) (hn : 1 ≤ n ∧ n ≤ 2) (hi : 0 ≤ i ∧ i < 64) (hk : 0 ≤ k ∧ k < 64) : Op.bytesLess (kSeat x m i) (kSeat y n k) = (decide (x < y) || (x == y && (decide (m < n) || (m == n && decide (i < k))))) := by
  rw [kSeat_is hx hm hi, kSeat_is hy hn hk, bl_append _ _ _ _ (by rw [beB_len, beB_len]), bl_append _ _ _ _ (by rw [beB_len, beB_len]), bl_one (by omega) (by omega), bl_one (by omega) (by omega), bl_one (by omega) (by omega), beB_eq (k := 1) (by omega) (by omega), beB_eq (k := 1) (by omega) (by omega), Bool.eq_iff_iff]
  simp only [Bool.or_eq_true, Bool.and_eq_true, decide_eq_true_eq, beq_iff_eq]
  omega
end
theorem bl_same (a : List UInt8) (x y : List UInt8) : Op.bytesLess (a ++ x) (a ++ y) = Op.bytesLess x y := by
  rw [bl_append _ _ _ _ rfl]
  have : Op.bytesLess a a = false := by
    induction a with
    | nil => rfl
    | cons p a ih => rw [bl_eq]; exact ih
  simp [this]
theorem number_less {a b : Int} (ha : 0 ≤ a ∧ a < 4294967296) (hb : 0 ≤ b ∧ b < 4294967296) : Op.bytesLess (kNumber a) (kNumber b) = decide (a < b) := by
  have e : ∀ n, kNumber n = beB 4 n.toNat := fun n => by unfold kNumber keyB; simp
  rw [e, e, bl_beB (k := 4) (by omega) (by omega), Bool.eq_iff_iff]
  simp only [decide_eq_true_eq]
  omega
theorem person_less {x : Int} (hx : 0 ≤ x ∧ x < 4) {p : List UInt8} (hp : personB p = true) {a b : Int} (ha : 0 ≤ a ∧ a < 4294967296) (hb : 0 ≤ b ∧ b < 4294967296) : Op.bytesLess (kPerson x p a) (kPerson x p b) = decide (a < b) := by
  rw [kPerson_is hx hp, kPerson_is hx hp, ← List.append_assoc, ← List.append_assoc, bl_same, bl_beB (k := 4) (by omega) (by omega), Bool.eq_iff_iff]
  simp only [decide_eq_true_eq]
  omega
end Go.Proofs.YtdnnbnohemkfkaaDoor
