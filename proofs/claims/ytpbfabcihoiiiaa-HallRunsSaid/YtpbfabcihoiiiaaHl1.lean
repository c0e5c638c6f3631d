/- Halls and their texts: plain. -/
import Derived.Test.YtpbfabcihoiiiaaWd
namespace Go.Proofs.Ytpbfabcihoiiiaa
set_option linter.unusedVariables false
set_option linter.unusedSimpArgs false

/-- A row: its class, and its mask. -/
abbrev HRow := Int × Nat
def okR (r : HRow) : Bool := decide (0 ≤ r.1) && decide (r.1 ≤ 2) && decide (r.2 ≠ 0)
def okH (l : List HRow) : Bool := decide (l ≠ []) && decide (l.length ≤ 8) && l.all okR
/-- The byte of a place. -/
def seatC (b : Bool) : UInt8 := if b then 35 else 46
/-- The k places from i on. -/
def seatsL (m : Nat) : Nat → Nat → List UInt8
  | _, 0 => []
  | i, k + 1 => seatC (m.testBit i) :: seatsL m (i + 1) k
def rowL (r : HRow) : List UInt8 := UInt8.ofNat (48 + r.1.toNat) :: seatsL r.2 0 8
def putL : List HRow → List UInt8
  | [] => []
  | [r] => rowL r
  | r :: q :: l => rowL r ++ 47 :: putL (q :: l)

theorem seatsL_len (m : Nat) : ∀ (k i : Nat), (seatsL m i k).length = k
  | 0, _ => rfl
  | k + 1, i => by rw [seatsL, List.length_cons, seatsL_len m k]
theorem rowL_len (r : HRow) : (rowL r).length = 9 := by simp [rowL, seatsL_len]
theorem putL_len : ∀ (l : List HRow), l ≠ [] → (putL l).length = 10 * l.length - 1
  | [], h => absurd rfl h
  | [r], _ => by simp [putL, rowL_len]
  | r :: q :: l, _ => by
    have := putL_len (q :: l) (by simp)
    rw [putL, List.length_append, List.length_cons, this, rowL_len]
    simp
    omega
theorem seatsL_snoc (m : Nat) : ∀ (k i : Nat), seatsL m i (k + 1) = seatsL m i k ++ [seatC (m.testBit (i + k))]
  | 0, i => rfl
  | k + 1, i => by
    rw [seatsL, seatsL_snoc m k (i + 1), seatsL, List.cons_append, show i + 1 + k = i + (k + 1) by omega]

/-- May a byte stand at a place of a row's text? -/
def okC (i : Nat) (c : UInt8) : Bool := if i = 0 then decide (48 ≤ c.toNat) && decide (c.toNat ≤ 50) else (c == 35) || (c == 46)
/-- The first place from i on where a byte is wrong. -/
def badI : Nat → List UInt8 → Option Nat
  | _, [] => none
  | i, c :: l => if okC i c = true then badI (i + 1) l else some i
/-- The mask of places. -/
def mkM : List UInt8 → Nat
  | [] => 0
  | c :: l => (if c = 35 then 1 else 0) + 2 * mkM l
def clsC (t : List UInt8) : Int := ((t.getD 0 0).toNat : Int) - 48
def rowOf (t : List UInt8) : HRow := (clsC t, mkM (t.drop 1))

theorem mkM_lt : ∀ (l : List UInt8), mkM l < 2 ^ l.length
  | [] => by simp [mkM]
  | c :: l => by
    have := mkM_lt l
    rw [mkM, List.length_cons, Nat.pow_succ]
    split <;> omega
theorem mkM_snoc (c : UInt8) : ∀ (l : List UInt8), mkM (l ++ [c]) = mkM l + (if c = 35 then 2 ^ l.length else 0)
  | [] => by simp [mkM]
  | d :: l => by
    rw [List.cons_append, mkM, mkM_snoc c l, mkM, List.length_cons, Nat.pow_succ]
    by_cases h : c = 35
    · simp only [h, if_true]; omega
    · simp only [h, if_false]; omega
theorem badI_snoc (c : UInt8) : ∀ (l : List UInt8) (i : Nat), badI i l = none → badI i (l ++ [c]) = if okC (i + l.length) c = true then none else some (i + l.length)
  | [], i, _ => by simp [badI]
  | d :: l, i, h => by
    rw [badI] at h
    rw [List.cons_append, badI]
    by_cases hd : okC i d = true
    · rw [if_pos hd] at h
      rw [if_pos hd, badI_snoc c l (i + 1) h, List.length_cons, show i + 1 + l.length = i + (l.length + 1) by omega]
    · rw [if_neg hd] at h
      exact absurd h (by simp)
theorem badI_app (r : List UInt8) : ∀ (l : List UInt8) (i j : Nat), badI i l = some j → badI i (l ++ r) = some j
  | [], i, j, h => by simp [badI] at h
  | d :: l, i, j, h => by
    rw [badI] at h
    rw [List.cons_append, badI]
    by_cases hd : okC i d = true
    · rw [if_pos hd] at h
      rw [if_pos hd]
      exact badI_app r l (i + 1) j h
    · rw [if_neg hd] at h
      rw [if_neg hd]
      exact h

/-- What reading the rest of a text gives: rows, or a code and a place; so many rows more may come. -/
def readT : Nat → Nat → List UInt8 → List HRow ⊕ (Int × Nat)
  | 0, at', _ => .inr (2, at')
  | f + 1, at', l =>
    match badI 0 (l.take 9) with
    | some i => .inr (5, at' + i)
    | none =>
      if l.length < 9 then .inr (5, at' + l.length)
      else if l.length ≠ 9 ∧ (l.drop 9).getD 0 0 ≠ 47 then .inr (5, at' + 9)
      else if mkM ((l.take 9).drop 1) = 0 then .inr (23, at')
      else if l.length = 9 then .inl [rowOf (l.take 9)]
      else match readT f (at' + 10) (l.drop 10) with
        | .inl r => .inl (rowOf (l.take 9) :: r)
        | .inr e => .inr e

theorem okC_seat (i : Nat) (b : Bool) (h : i ≠ 0) : okC i (seatC b) = true := by
  unfold okC seatC
  rw [if_neg h]
  cases b <;> rfl
theorem badI_seats (m : Nat) : ∀ (k i j : Nat), j ≠ 0 → badI j (seatsL m i k) = none
  | 0, _, _, _ => rfl
  | k + 1, i, j, h => by
    rw [seatsL, badI, if_pos (okC_seat j _ h)]
    exact badI_seats m k (i + 1) (j + 1) (by omega)
theorem badI_row (r : HRow) (h : okR r = true) : badI 0 (rowL r) = none := by
  unfold okR at h
  simp only [Bool.and_eq_true, decide_eq_true_eq] at h
  rw [rowL, badI, if_pos, badI_seats r.2 8 0 1 (by omega)]
  unfold okC
  rw [if_pos rfl, UInt8.toNat_ofNat']
  simp only [Bool.and_eq_true, decide_eq_true_eq]
  omega
theorem seatC_one (b : Bool) : (if seatC b = 35 then 1 else 0) = b.toNat := by cases b <;> rfl
theorem mkM_seats (m : Nat) : ∀ (k i : Nat), mkM (seatsL m i k) = (m / 2 ^ i) % 2 ^ k
  | 0, i => by simp [seatsL, mkM, Nat.mod_one]
  | k + 1, i => by
    rw [seatsL, mkM, mkM_seats m k (i + 1), seatC_one, Nat.toNat_testBit, Nat.pow_succ 2 i, ← Nat.div_div_eq_div_mul, Nat.pow_succ 2 k, Nat.mul_comm (2 ^ k) 2, Nat.mod_mul]
theorem rowOf_row (r : HRow) (h : okR r = true) (hm : r.2 < 256) : rowOf (rowL r) = r := by
  unfold okR at h
  simp only [Bool.and_eq_true, decide_eq_true_eq] at h
  obtain ⟨c, m⟩ := r
  unfold rowOf
  have e1 : clsC (rowL (c, m)) = c := by
    unfold clsC rowL
    rw [List.getD_cons_zero, UInt8.toNat_ofNat']
    simp only at h ⊢
    omega
  have e2 : mkM ((rowL (c, m)).drop 1) = m := by
    show mkM (seatsL m 0 8) = m
    rw [mkM_seats]
    simp only at hm
    rw [Nat.pow_zero, Nat.div_one]
    exact Nat.mod_eq_of_lt hm
  rw [e1, e2]
theorem mkM_row (r : HRow) (hm : r.2 < 256) : mkM ((rowL r).drop 1) = r.2 := by
  show mkM (seatsL r.2 0 8) = _
  rw [mkM_seats, Nat.pow_zero, Nat.div_one]
  exact Nat.mod_eq_of_lt hm
/-- What is laid is read back. -/
theorem read_put : ∀ (l : List HRow) (f a : Nat), l ≠ [] → l.length ≤ f → (∀ r ∈ l, okR r = true ∧ r.2 < 256) → readT f a (putL l) = .inl l
  | [], _, _, h, _, _ => absurd rfl h
  | _ :: _, 0, _, _, h, _ => by simp at h
  | [r], f + 1, a, _, hf, hr => by
    obtain ⟨h1, h2⟩ := hr r (by simp)
    have hl := rowL_len r
    have ht : (rowL r).take 9 = rowL r := List.take_of_length_le (by omega)
    have h3 : r.2 ≠ 0 := by
      unfold okR at h1
      simp only [Bool.and_eq_true, decide_eq_true_eq] at h1
      exact h1.2
    rw [putL, readT, ht, badI_row r h1]
    simp only
    rw [if_neg (by omega), if_neg (by omega), mkM_row r h2, if_neg h3, if_pos hl, rowOf_row r h1 h2]
  | r :: q :: l, f + 1, a, _, hf, hr => by
    obtain ⟨h1, h2⟩ := hr r (by simp)
    have hl := rowL_len r
    have ht : (rowL r ++ 47 :: putL (q :: l)).take 9 = rowL r := by rw [List.take_append_of_le_length (by omega), List.take_of_length_le (by omega)]
    have hd : (rowL r ++ 47 :: putL (q :: l)).drop 9 = 47 :: putL (q :: l) := by rw [List.drop_append_of_le_length (by omega), List.drop_of_length_le (by omega)]; rfl
    have hd' : (rowL r ++ 47 :: putL (q :: l)).drop 10 = putL (q :: l) := by
      rw [show 10 = 9 + 1 from rfl, ← List.drop_drop, hd]; rfl
    have h3 : r.2 ≠ 0 := by
      unfold okR at h1
      simp only [Bool.and_eq_true, decide_eq_true_eq] at h1
      exact h1.2
    have hlen : (rowL r ++ 47 :: putL (q :: l)).length = 10 + (putL (q :: l)).length := by simp [hl]; omega
    have hp := putL_len (q :: l) (by simp)
    rw [putL, readT, ht, badI_row r h1, hlen, hd, hd', read_put (q :: l) f (a + 10) (by simp) (by simp at hf ⊢; omega) (fun x hx => hr x (by simp at hx ⊢; exact .inr hx))]
    simp only
    rw [if_neg (by omega), if_neg (by simp), mkM_row r h2, if_neg h3, if_neg (by simp at hp; omega), rowOf_row r h1 h2]
theorem seats_mk : ∀ (t : List UInt8) (j : Nat), j ≠ 0 → badI j t = none → ∀ m i, m / 2 ^ i % 2 ^ t.length = mkM t → seatsL m i t.length = t
  | [], _, _, _, _, _, _ => rfl
  | c :: t, j, hj, h, m, i, hm => by
    rw [badI] at h
    by_cases ho : okC j c = true
    · rw [if_pos ho] at h
      rw [mkM, List.length_cons, Nat.pow_succ, Nat.mul_comm (2 ^ t.length) 2, Nat.mod_mul] at hm
      have h2 : m / 2 ^ i / 2 = m / 2 ^ (i + 1) := by rw [Nat.div_div_eq_div_mul, ← Nat.pow_succ]
      rw [h2] at hm
      unfold okC at ho
      rw [if_neg hj] at ho
      simp only [Bool.or_eq_true, beq_iff_eq] at ho
      have ht : (m.testBit i) = decide (c = 35) ∧ m / 2 ^ (i + 1) % 2 ^ t.length = mkM t := by
        have hb := Nat.toNat_testBit m i
        by_cases e : c = 35
        · rw [if_pos e] at hm
          cases hc : m.testBit i
          · rw [hc] at hb; simp at hb; omega
          · exact ⟨by simp [e], by omega⟩
        · rw [if_neg e] at hm
          cases hc : m.testBit i
          · exact ⟨by simp [e], by omega⟩
          · rw [hc] at hb; simp at hb; omega
      rw [List.length_cons, seatsL, seats_mk t (j + 1) (by omega) h m (i + 1) ht.2, ht.1]
      congr 1
      rcases ho with rfl | rfl <;> rfl
    · rw [if_neg ho] at h
      exact absurd h (by simp)
theorem row_rowOf (t : List UInt8) (h : badI 0 t = none) (hl : t.length = 9) : rowL (rowOf t) = t ∧ 0 ≤ (rowOf t).1 ∧ (rowOf t).1 ≤ 2 ∧ (rowOf t).2 < 256 := by
  match t, h, hl with
  | c :: t, h, hl =>
    have ht : t.length = 8 := by simpa using hl
    rw [badI] at h
    by_cases ho : okC 0 c = true
    · rw [if_pos ho] at h
      have hlt := mkM_lt t
      rw [ht] at hlt
      have hs := seats_mk t 1 (by omega) h (mkM t) 0 (by rw [Nat.pow_zero, Nat.div_one, ht]; exact Nat.mod_eq_of_lt hlt)
      rw [ht] at hs
      unfold okC at ho
      rw [if_pos rfl] at ho
      simp only [Bool.and_eq_true, decide_eq_true_eq] at ho
      have hc : clsC (c :: t) = (c.toNat : Int) - 48 := rfl
      refine ⟨?_, ?_, ?_, hlt⟩
      · show UInt8.ofNat (48 + (clsC (c :: t)).toNat) :: seatsL (mkM t) 0 8 = c :: t
        rw [hs, hc]
        congr 1
        apply UInt8.toNat.inj
        rw [UInt8.toNat_ofNat']
        have := c.toNat_lt
        omega
      · show 0 ≤ clsC (c :: t); rw [hc]; omega
      · show clsC (c :: t) ≤ 2; rw [hc]; omega
    · rw [if_neg ho] at h
      exact absurd h (by simp)
/-- A text that is read is that of its hall. -/
theorem put_read : ∀ (f a : Nat) (s : List UInt8) (l : List HRow), readT f a s = .inl l → putL l = s ∧ l ≠ [] ∧ l.length ≤ f ∧ (∀ r ∈ l, okR r = true ∧ r.2 < 256)
  | 0, _, _, _, h => by simp [readT] at h
  | f + 1, a, s, l, h => by
    rw [readT] at h
    cases hb : badI 0 (s.take 9) with
    | some i => rw [hb] at h; simp at h
    | none =>
      rw [hb] at h
      simp only at h
      by_cases h1 : s.length < 9
      · rw [if_pos h1] at h; simp at h
      rw [if_neg h1] at h
      by_cases h2 : s.length ≠ 9 ∧ (s.drop 9).getD 0 0 ≠ 47
      · rw [if_pos h2] at h; simp at h
      rw [if_neg h2] at h
      by_cases h3 : mkM ((s.take 9).drop 1) = 0
      · rw [if_pos h3] at h; simp at h
      rw [if_neg h3] at h
      obtain ⟨hr, hr0, hr2, hr3⟩ := row_rowOf (s.take 9) hb (by rw [List.length_take]; omega)
      have hok : okR (rowOf (s.take 9)) = true ∧ (rowOf (s.take 9)).2 < 256 := by
        refine ⟨?_, hr3⟩
        unfold okR
        simp only [Bool.and_eq_true, decide_eq_true_eq]
        exact ⟨⟨hr0, hr2⟩, h3⟩
      by_cases h4 : s.length = 9
      · rw [if_pos h4] at h
        obtain rfl : [rowOf (s.take 9)] = l := by simpa using h
        refine ⟨?_, by simp, by simp, fun r hr' => ?_⟩
        · rw [putL, hr, List.take_of_length_le (by omega)]
        · rw [List.mem_singleton] at hr'
          rw [hr']
          exact hok
      · rw [if_neg h4] at h
        cases hq : readT f (a + 10) (s.drop 10) with
        | inr e => rw [hq] at h; simp at h
        | inl r =>
          rw [hq] at h
          obtain rfl : rowOf (s.take 9) :: r = l := by simpa using h
          obtain ⟨p1, p2, p3, p4⟩ := put_read f (a + 10) (s.drop 10) r hq
          have h47 : (s.drop 9).getD 0 0 = 47 := by
            apply Classical.byContradiction
            intro hc
            exact h2 ⟨h4, hc⟩
          have hs9 : s.drop 9 = 47 :: s.drop 10 := by
            cases hd : s.drop 9 with
            | nil =>
              have := congrArg List.length hd
              rw [List.length_drop] at this
              simp at this
              omega
            | cons c t =>
              rw [hd] at h47
              rw [show s.drop 10 = (s.drop 9).drop 1 by rw [List.drop_drop], hd]
              simp at h47
              rw [h47]
              rfl
          refine ⟨?_, by simp, by simp; omega, fun x hx => ?_⟩
          · cases r with
            | nil => exact absurd rfl p2
            | cons q r =>
              rw [putL, p1, hr, ← hs9, List.take_append_drop]
          · rcases List.mem_cons.1 hx with rfl | hx
            · exact hok
            · exact p4 x hx
end Go.Proofs.Ytpbfabcihoiiiaa
