/- Tagged fields, plain: what their bytes are, and what bytes are read as. -/
import Derived.Test.YtemngdhbicndlaaDoorWd
namespace Go.Proofs.YtemngdhbicndlaaDoor
set_option linter.unusedVariables false
set_option linter.unusedSimpArgs false

/-- A number's k low bytes, the highest first. -/
def beB : Nat → Nat → List UInt8
  | 0, _ => []
  | k + 1, n => beB k (n / 256) ++ [UInt8.ofNat (n % 256)]
theorem beB_len (k : Nat) : ∀ n, (beB k n).length = k := by
  induction k with
  | zero => intro n; rfl
  | succ k ih => intro n; simp [beB, ih]
/-- How many bytes a number needs. -/
def nb (n : Nat) : Nat := if h : n = 0 then 0 else nb (n / 256) + 1
termination_by n
decreasing_by omega
theorem nb_zero : nb 0 = 0 := by rw [nb]; rfl
theorem nb_pos {n : Nat} (h : n ≠ 0) : nb n = nb (n / 256) + 1 := by rw [nb, dif_neg h]
theorem nb_lt : ∀ (k n : Nat), n < 256 ^ k → nb n ≤ k
  | 0, n, h => by
    rw [Nat.pow_zero] at h
    obtain rfl : n = 0 := by omega
    rw [nb_zero]
    exact Nat.le_refl _
  | k + 1, n, h => by
    by_cases e : n = 0
    · subst e
      rw [nb_zero]
      omega
    · rw [nb_pos e]
      have := nb_lt k (n / 256) (by rw [Nat.pow_succ] at h; omega)
      omega
theorem nb_is (n : Nat) : n < 256 ^ nb n := by
  induction n using Nat.strongRecOn with
  | _ n ih =>
    by_cases e : n = 0
    · subst e
      rw [nb_zero]
      decide
    · rw [nb_pos e, Nat.pow_succ]
      have := ih (n / 256) (by omega)
      omega
theorem nb_8 {n : Nat} (h : n < 18446744073709551616) : nb n ≤ 8 := nb_lt 8 n (by omega)
/-- The bytes of a number that takes as many as it needs. -/
def numL (n : Nat) : List UInt8 := UInt8.ofNat (nb n) :: beB (nb n) n
theorem numL_len (n : Nat) : (numL n).length = nb n + 1 := by simp [numL, beB_len]
/-- A number of bytes, the highest first. -/
def foldB (l : List UInt8) : Nat := l.foldl (fun a b => a * 256 + b.toNat) 0
theorem foldB_snoc (l : List UInt8) (b : UInt8) : foldB (l ++ [b]) = foldB l * 256 + b.toNat := by simp [foldB]
theorem foldB_beB (k : Nat) : ∀ n, n < 256 ^ k → foldB (beB k n) = n := by
  induction k with
  | zero =>
    intro n h
    rw [Nat.pow_zero] at h
    obtain rfl : n = 0 := by omega
    rfl
  | succ k ih =>
    intro n h
    rw [beB, foldB_snoc, ih (n / 256) (by rw [Nat.pow_succ] at h; omega)]
    have : (UInt8.ofNat (n % 256)).toNat = n % 256 := by simp
    rw [this]
    omega
theorem foldl_lt : ∀ (l : List UInt8) (a : Nat), l.foldl (fun a b => a * 256 + b.toNat) a < (a + 1) * 256 ^ l.length
  | [], a => by simp
  | b :: l, a => by
    rw [List.foldl_cons, List.length_cons, Nat.pow_succ]
    have h := foldl_lt l (a * 256 + b.toNat)
    have hb := b.toNat_lt
    refine Nat.lt_of_lt_of_le h ?_
    rw [Nat.mul_comm (256 ^ l.length) 256, ← Nat.mul_assoc]
    exact Nat.mul_le_mul_right _ (by omega)
theorem foldB_lt (l : List UInt8) : foldB l < 256 ^ l.length := by
  have h := foldl_lt l 0
  rw [Nat.zero_add, Nat.one_mul] at h
  exact h
theorem foldl_ge : ∀ (l : List UInt8) (a : Nat), a * 256 ^ l.length ≤ l.foldl (fun a b => a * 256 + b.toNat) a
  | [], a => by simp
  | b :: l, a => by
    rw [List.foldl_cons, List.length_cons, Nat.pow_succ]
    refine Nat.le_trans ?_ (foldl_ge l (a * 256 + b.toNat))
    rw [Nat.mul_comm (256 ^ l.length) 256, ← Nat.mul_assoc]
    exact Nat.mul_le_mul_right _ (by omega)
/-- The bytes of the number that bytes are, as many as there are. -/
theorem beB_foldB : ∀ l : List UInt8, beB l.length (foldB l) = l := by
  intro l
  have key : ∀ (n : Nat) (l : List UInt8), l.length = n → beB n (foldB l) = l := by
    intro n
    induction n with
    | zero => intro l h; rw [List.length_eq_zero_iff.1 h]; rfl
    | succ n ih =>
      intro l h
      rcases List.eq_nil_or_concat l with e | ⟨q, b, e⟩
      · rw [e] at h; cases h
      · rw [List.concat_eq_append] at e
        subst e
        have hq : q.length = n := by simpa using h
        have hb := b.toNat_lt
        rw [foldB_snoc, beB, show (foldB q * 256 + b.toNat) / 256 = foldB q by omega, show (foldB q * 256 + b.toNat) % 256 = b.toNat by omega, ih q hq]
        simp
  exact key l.length l rfl
theorem nb_foldB {a : UInt8} {l : List UInt8} (ha : a ≠ 0) : nb (foldB (a :: l)) = l.length + 1 := by
  have h1 : nb (foldB (a :: l)) ≤ l.length + 1 := nb_lt _ _ (foldB_lt (a :: l))
  have h2 : 256 ^ l.length ≤ foldB (a :: l) := by
    have h := foldl_ge l (0 * 256 + a.toNat)
    have ha0 : 1 ≤ a.toNat := by
      have : a.toNat ≠ 0 := fun e => ha (by
        have := congrArg UInt8.ofNat e
        simpa using this)
      omega
    have e : foldB (a :: l) = l.foldl (fun a b => a * 256 + b.toNat) (0 * 256 + a.toNat) := rfl
    rw [e]
    refine Nat.le_trans ?_ h
    exact Nat.le_mul_of_pos_left _ (by omega)
  have h3 := nb_is (foldB (a :: l))
  have h4 : l.length < nb (foldB (a :: l)) := by
    rcases Nat.lt_or_ge l.length (nb (foldB (a :: l))) with h | h
    · exact h
    · have := Nat.pow_le_pow_right (show 0 < 256 by decide) h
      omega
  omega
theorem beB_head {n : Nat} (h : n ≠ 0) : ∃ a l, beB (nb n) n = a :: l ∧ a ≠ 0 := by
  induction n using Nat.strongRecOn with
  | _ n ih =>
    rw [nb_pos h, beB]
    by_cases e : n / 256 = 0
    · rw [e, nb_zero]
      refine ⟨_, [], rfl, fun hz => ?_⟩
      have := congrArg UInt8.toNat hz
      simp at this
      omega
    · obtain ⟨a, l, h1, h2⟩ := ih (n / 256) (by omega) e
      rw [h1]
      exact ⟨a, l ++ [UInt8.ofNat (n % 256)], rfl, h2⟩

/-- A field. -/
structure Fd where
  tag : Int
  isT : Bool
  n : Nat
  s : ByteArray
/-- May a field be? -/
def mayF (f : Fd) : Bool := (decide (1 ≤ f.tag) && decide (f.tag ≤ 63)) && (if f.isT then f.n == 0 else f.s.size == 0)
/-- A field's bytes. -/
def fieldL (f : Fd) : List UInt8 := if f.isT then UInt8.ofNat (2 * f.tag + 1).toNat :: (numL f.s.size ++ f.s.data.toList) else UInt8.ofNat (2 * f.tag).toNat :: numL f.n
/-- What is wrong with fields, behind a tag: 0: nothing. -/
def codeL : Int → List Fd → Int
  | _, [] => 0
  | last, f :: l => if mayF f = false then 2 else if f.tag ≤ last then 7 else if 2000 < f.s.size then 4 else codeL f.tag l
def putC (l : List Fd) : Int := if 32 < l.length then 4 else codeL 0 l
def putL (l : List Fd) : List UInt8 := if putC l = 0 then (l.map fieldL).flatten else []
/-- What the first field of bytes is, behind a tag; or what is wrong with it. -/
def rdF (last : Int) (h : UInt8) (l : List UInt8) : Int ⊕ (Fd × List UInt8) :=
  if h.toNat < 2 ∨ 127 < h.toNat then .inl 2
  else if ((h.toNat / 2 : Nat) : Int) ≤ last then .inl 7
  else match l with
    | [] => .inl 3
    | k :: l2 =>
      if 8 < k.toNat then .inl 5
      else if l2.length < k.toNat then .inl 3
      else if 0 < k.toNat ∧ l2.head? = some 0 then .inl 5
      else if h.toNat % 2 = 0 then .inr (⟨(h.toNat / 2 : Nat), false, foldB (l2.take k.toNat), ⟨#[]⟩⟩, l2.drop k.toNat)
      else if 2000 < foldB (l2.take k.toNat) then .inl 4
      else if (l2.drop k.toNat).length < foldB (l2.take k.toNat) then .inl 3
      else .inr (⟨(h.toNat / 2 : Nat), true, 0, ⟨((l2.drop k.toNat).take (foldB (l2.take k.toNat))).toArray⟩⟩, (l2.drop k.toNat).drop (foldB (l2.take k.toNat)))
end Go.Proofs.YtemngdhbicndlaaDoor
